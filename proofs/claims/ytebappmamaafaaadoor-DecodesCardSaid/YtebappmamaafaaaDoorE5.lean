/-
  Proved: the contract of the reference's Encode. Conditions: the code's weight at most 2^20.
-/
import Derived.Test.YtebappmamaafaaaDoorE4
import Derived.Deep.RegionHeld3
import Derived.Deep.DeepCutAuto
set_option linter.unusedSimpArgs false
set_option linter.unusedVariables false
namespace Go.Proofs.YtebappmamaafaaaDoor
open Go.RowKit

def rinss (l : List (Int × Int × Int)) : Nat → List UInt8 × Bool
  | 0 => ([], true)
  | k + 1 => ((rinss l k).1 ++ (rinsB (l.getD k (0, 0, 0)).1 (l.getD k (0, 0, 0)).2.1 (l.getD k (0, 0, 0)).2.2).1, (rinss l k).2 && (rinsB (l.getD k (0, 0, 0)).1 (l.getD k (0, 0, 0)).2.1 (l.getD k (0, 0, 0)).2.2).2)
def rfun (f : Fn) : List UInt8 × Bool :=
  (twoB f.free ++ twoB f.slots ++ twoB f.ins.length ++ (rinss f.ins f.ins.length).1, fitsB f.free && fitsB f.slots && fitsB f.ins.length && (rinss f.ins f.ins.length).2)
def rfuns (l : List Fn) : Nat → List UInt8 × Bool
  | 0 => ([], true)
  | k + 1 => ((rfuns l k).1 ++ (rfun (l.getD k nofn)).1, (rfuns l k).2 && (rfun (l.getD k nofn)).2)
def rbytes (c : Cd) : List UInt8 × Bool :=
  ([77, 76, 49] ++ twoB c.texts.length ++ (ptexts c.texts c.texts.length).1 ++ twoB c.funs.length ++ (rfuns c.funs c.funs.length).1,
   fitsB c.texts.length && !(ptexts c.texts c.texts.length).2 && fitsB c.funs.length && (rfuns c.funs c.funs.length).2)
def renc (c : Cd) : List UInt8 × Int :=
  if (rbytes c).2 = false then ([], 17) else if 4000000 < (rbytes c).1.length then ([], 1) else ((rbytes c).1, 0)
def RencPost (c : Cd) (w : World) (e : Ending) (w' : World) : Prop := e = .returned (.tuple #[.string ⟨(renc c).1.toArray⟩, .int .i64 (renc c).2]) ∧ Below w.heap.size w w'

theorem le200 (n : Int) : decide (n ≤ 200) = !decide (200 < n) := by
  by_cases h : n ≤ 200
  · rw [decide_eq_true h, decide_eq_false (by omega)]; rfl
  · rw [decide_eq_false h, decide_eq_true (by omega)]; rfl
/-- 'string(b)' of an owned row, nil or not -/
theorem conv_any {P : Program} {w : World} {B : Nat} {v : Value} {l : List UInt8} (src dst e : TypeId) (hs : P.underlying src = some (.slice e)) (he : P.underlying e = some (.int .u8)) (hd : P.underlying dst = some .string) (hown : w.ownsRow B e 1 v l.length (l.map bv)) :
    (convert src dst v).run P w = .ok (.string ⟨l.toArray⟩) w := by
  by_cases hv : v = .slice none 0 0
  · subst hv
    have hl : l = [] := by
      rcases hown.2 with ⟨_, h⟩ | ⟨_, _, _, h, _⟩
      · exact List.eq_nil_of_length_eq_zero h
      · simp at h
    subst hl
    exact run_convert_bytes_nil w src e hs he 0 0 dst hd
  · exact conv_own src dst e hs he hd hown hv
theorem fourB_len (v : Int) : (fourB v).length = 4 := rfl
theorem twoB_len (v : Int) : (twoB v).length = 2 := rfl
theorem rinsB_len (op a b : Int) : (rinsB op a b).1.length ≤ 9 := by
  have step : ∀ f i v x, (stepR f i v x).1.length ≤ x.1.length + 4 := by
    intro f i v x
    unfold stepR
    split
    · split
      · simp
      · split <;> simp [fourB, twoB]
    · simp
  have h1 := step (formB op).1 1 b (stepR (formB op).1 0 a ([lo op], (formB op).2))
  have h2 := step (formB op).1 0 a ([lo op], (formB op).2)
  unfold rinsB
  simp only [List.length_singleton] at h2
  omega
theorem rinss_len (l : List (Int × Int × Int)) (k : Nat) : (rinss l k).1.length ≤ 9 * k := by
  induction k with
  | zero => simp [rinss]
  | succ k ih =>
    have := rinsB_len (l.getD k (0, 0, 0)).1 (l.getD k (0, 0, 0)).2.1 (l.getD k (0, 0, 0)).2.2
    simp only [rinss, List.length_append]
    omega
theorem rfun_len (f : Fn) : (rfun f).1.length ≤ 9 * (f.ins.length + 1) := by
  have := rinss_len f.ins f.ins.length
  simp only [rfun, List.length_append, twoB, List.length_cons, List.length_nil]
  omega
theorem rfuns_len (l : List Fn) (k : Nat) (hk : k ≤ l.length) : (rfuns l k).1.length ≤ 9 * ((l.take k).map fun f => f.ins.length + 1).sum := by
  induction k with
  | zero => simp [rfuns]
  | succ k ih =>
    have ih := ih (by omega)
    rw [List.take_succ_eq_append_getElem (by omega)]
    have e : (l.getD k nofn) = l[k] := by rw [List.getD_eq_getElem?_getD, List.getElem?_eq_getElem (by omega)]; rfl
    have h2 := rfun_len l[k]
    simp only [rfuns, List.length_append, List.map_append, List.sum_append, List.map_cons, List.map_nil, List.sum_cons, List.sum_nil, e]
    omega

set_option maxRecDepth 100000 in
set_option maxHeartbeats 4000000 in
theorem renc_any (c : Cd) (w : World) (h0 : 0 < w.heap.size) (hc : CodeAt w w.heap.size c) (hw : wgt c ≤ 1048576) :
    Calls Tryd.prog 9 #[c.val] w (RencPost c w) := by
  obtain ⟨i0, hi, hz0, hz1, hz2⟩ := info_parts info5
  have HI := Lib.hid hi
  have HC := Lib.hid hc
  clear hi hc
  have hl1 : c.texts.length ≤ 1048576 := by have := len_le_sum c.texts ByteArray.size; unfold wgt at hw; omega
  have hl2 : c.funs.length ≤ 1048576 := by have := len_le_sum c.funs (fun f => f.ins.length); unfold wgt at hw; omega
  unfold Cd.val
  go_enter Tryd.func9, Tryd.ntmps9
  go_wp2_with fail
  refine (rtwo_lit _ _ (by omega) (by omega)).mono ?_
  rintro e w1 ⟨rfl, hbl1⟩
  have hb1 : Below (w.heap.size + 1) (w.alloc (.cells #[.slice c.ta c.texts.length c.tc, .slice c.fa c.funs.length c.fc] 25)) w1 := hbl1.mono (by simp)
  have hbox : w1.heap[w.heap.size]? = some (.cells #[.slice c.ta c.texts.length c.tc, .slice c.fa c.funs.length c.fc] 25 (0, 0)) := blk_below (heap_alloc_new w _) hb1 (by omega)
  have b0 : w1.cell? ⟨w.heap.size, 0, none⟩ = some (.slice c.ta c.texts.length c.tc) := blk_cell hbox 0
  have b1 : w1.cell? ⟨w.heap.size, 1, none⟩ = some (.slice c.fa c.funs.length c.fc) := blk_cell hbox 1
  have hs1 := hb1.size
  rw [World.size_alloc] at hs1
  have HB1 := Lib.hid hb1
  clear hbl1 hb1 hbox
  go_wp2_with fail
  go_loopw [5, 6, 7] (fun g s i wr => ∃ k : Nat, k ≤ c.texts.length ∧ i = .int .i64 k ∧ s = .string ⟨([77, 76, 49] ++ twoB c.texts.length ++ (ptexts c.texts k).1).toArray⟩ ∧ g = .bool (fitsB c.texts.length && !(ptexts c.texts k).2) ∧ Below (w.heap.size + 1) w1 wr) (fun _ _ i _ => c.texts.length - (intOf i).toNat)
  case atStart =>
    refine ⟨0, Nat.zero_le _, rfl, ?_, ?_, Below.refl _ _⟩
    · rfl
    · simp [ptexts]
  case round =>
    obtain ⟨k, hk, rfl, rfl, rfl, hbl⟩ := hrel
    have hsz := hbl.size
    have d0 : wr.cell? ⟨w.heap.size, 0, none⟩ = some (.slice c.ta c.texts.length c.tc) := (hbl.cell (p := ⟨w.heap.size, 0, none⟩) (Nat.lt_succ_self _)).trans b0
    by_cases hlt : k < c.texts.length
    · obtain ⟨b, off, hta, hbN, hcell⟩ := HC.out.texts k (by simpa using hlt)
      have hcell := hcell 0 (by omega)
      have hN : b < w.heap.size + 1 := by omega
      have hpl := ptexts_len c.texts k hk
      have hsl := text_le c.texts k hlt
      have hpp : ptexts c.texts (k + 1) = ((ptexts c.texts k).1 ++ (lo (c.texts.getD k ByteArray.empty).size :: (c.texts.getD k ByteArray.empty).data.toList), (ptexts c.texts k).2 || decide (200 < ((c.texts.getD k ByteArray.empty).size : Int))) := rfl
      have hrow : ((c.texts.map fun s => [Value.string s]).getD k [])[0]? = some (.string (c.texts.getD k ByteArray.empty)) := by simp [List.getD, hlt]
      rw [hrow] at hcell
      obtain ⟨s, hs⟩ : ∃ s, s = c.texts.getD k ByteArray.empty := ⟨_, rfl⟩
      rw [← hs] at hcell hsl hpp
      have hcs : wr.cell? ⟨b, off + k, none⟩ = some (.string s) := by
        have h1 := (HB1.out.trans hbl).cell (p := ⟨b, off + k * 1 + 0, none⟩) hN
        rw [Nat.mul_one, Nat.add_zero] at h1 hcell
        rw [h1, World.cell?_alloc_old _ _ _ (Nat.ne_of_lt hbN)]
        exact hcell
      have hss : s.size ≤ 1048576 := by unfold wgt at hw; omega
      have hia : ∀ w' : World, (Instr.indexAt 22 (.slice c.ta c.texts.length c.tc) (.int .i64 k)).run Tryd.prog w' = .ok (.pointer (some ⟨b, off + k, none⟩)) w' := fun w' => by simpa using index_at Tryd.underlying22 size9 hta c.texts.length c.tc k hlt w'
      have hn3 : ([77, 76, 49] ++ twoB c.texts.length ++ (ptexts c.texts k).1).length ≤ 2097152 := by simp only [List.length_append, twoB, List.length_cons, List.length_nil]; unfold wgt at hw; omega
      have HPP := Lib.hid hpp
      have HBL := Lib.hid hbl
      generalize hL3 : ([77, 76, 49] ++ twoB c.texts.length ++ (ptexts c.texts k).1) = L3 at *
      generalize hB3 : (fitsB c.texts.length && !(ptexts c.texts k).2) = B3 at *
      have HL3 := Lib.hid hL3
      have HB3 := Lib.hid hB3
      clear hL3 hB3 hpp hbl hs hcell hrow hpl hsl hta
      have z1 : ∀ w' : World, (Op.stringOp .add ⟨L3.toArray⟩ ⟨#[lo s.size]⟩).run Tryd.prog w' = .ok (.string (⟨L3.toArray⟩ ++ ⟨#[lo s.size]⟩)) w' := fun w' => run_string_add_sum w' _ _ (by show L3.toArray.size + 1 ≤ _; simp; omega)
      have z2 : ∀ w' : World, (Op.stringOp .add (⟨L3.toArray⟩ ++ ⟨#[lo s.size]⟩) s).run Tryd.prog w' = .ok (.string (⟨L3.toArray⟩ ++ ⟨#[lo s.size]⟩ ++ s)) w' := fun w' => run_string_add_sum w' _ _ (by rw [ByteArray.size_append']; show L3.toArray.size + 1 + s.size ≤ _; simp; omega)
      cases B3
      all_goals
        go_wp2_with fail
        go_region_held3 (fun w' => w'.cell? ⟨w.heap.size, 0, none⟩ = some (.slice c.ta c.texts.length c.tc) ∧ w'.cell? ⟨b, off + k, none⟩ = some (.string s))
          (first
            | go_keep
            | (refine ⟨?_, ?_⟩
               · (first | assumption | (rw [hc4 _ _ (by simp; omega)]; assumption))
               · (first | assumption | (rw [hc4 _ _ (by simp; omega)]; assumption))))
          ((go_at_call 19; refine (big1_any _ _ (by omega) (by omega)).mono ?_; rintro e w4 ⟨rfl, hb4⟩; obtain ⟨hc4, hf4⟩ := bcell hb4))
        go_wp2_with fail
        go_roundw
        case rel =>
          refine ⟨k + 1, by omega, by go_num, congrArg Value.string ?_, congrArg Value.bool ?_, (HBL.out.drew).trans (hb4.mono (by show w.heap.size + 1 ≤ wr.heap.size; omega))⟩
          · rw [HPP.out]
            dsimp only
            rw [← List.append_assoc, HL3.out]
            exact ByteArray.ext (by simp [ByteArray.data_append])
          · rw [HPP.out]
            dsimp only
            rw [Bool.not_or, ← Bool.and_assoc, HB3.out]
            first | rfl | (rw [le200]; rfl)
        case measure => simp [intOf]; omega
    · obtain rfl : k = c.texts.length := by omega
      have d1 : wr.cell? ⟨w.heap.size, 1, none⟩ = some (.slice c.fa c.funs.length c.fc) := (hbl.cell (p := ⟨w.heap.size, 1, none⟩) (Nat.lt_succ_self _)).trans b1
      have hpl := ptexts_len c.texts c.texts.length (Nat.le_refl _)
      have hn3 : ([77, 76, 49] ++ twoB c.texts.length ++ (ptexts c.texts c.texts.length).1).length ≤ 2097152 := by simp only [List.length_append, twoB, List.length_cons, List.length_nil]; unfold wgt at hw; omega
      obtain ⟨L2, hL2⟩ : ∃ L2, L2 = [77, 76, 49] ++ twoB c.texts.length ++ (ptexts c.texts c.texts.length).1 ++ twoB c.funs.length := ⟨_, rfl⟩
      obtain ⟨B2, hB2⟩ : ∃ B2, B2 = (fitsB c.texts.length && !(ptexts c.texts c.texts.length).2 && fitsB c.funs.length) := ⟨_, rfl⟩
      have hn4 : L2.length ≤ 2097154 := by rw [hL2, List.length_append, twoB_len]; omega
      have HL2 := Lib.hid hL2
      have HB2 := Lib.hid hB2
      have HBL := Lib.hid hbl
      generalize hL3 : ([77, 76, 49] ++ twoB c.texts.length ++ (ptexts c.texts c.texts.length).1) = L3 at *
      generalize hB3 : (fitsB c.texts.length && !(ptexts c.texts c.texts.length).2) = B3 at *
      have HL3 := Lib.hid hL3
      have HB3 := Lib.hid hB3
      clear hL3 hB3 hpl hL2 hB2 hbl hlt
      have hbb : ∀ W : World, wr.heap.size ≤ W.heap.size → True := fun _ _ => trivial
      clear hbb
      go_wp2_with fail
      refine (rtwo_lit _ _ (by omega) (by omega)).mono ?_
      rintro e w2 ⟨rfl, hbl2⟩
      have hb12 := HBL.out.trans (hbl2.mono (by omega))
      have d2 : w2.cell? ⟨w.heap.size, 1, none⟩ = some (.slice c.fa c.funs.length c.fc) := (hbl2.cell (p := ⟨w.heap.size, 1, none⟩) (by show w.heap.size < wr.heap.size; omega)).trans d1
      have hsz3 := hb12.size
      have HB12 := Lib.hid hb12
      clear hbl2 hb12 HBL d1 d0
      have z1 : ∀ w' : World, (Op.stringOp .add ⟨L3.toArray⟩ ⟨#[lo (c.funs.length / 256 : Int), lo c.funs.length]⟩).run Tryd.prog w' = .ok (.string ⟨L2.toArray⟩) w' := fun w' => by
        rw [run_string_add_sum w' _ _ (by show L3.toArray.size + 2 ≤ _; simp; omega), HL2.out]
        exact congrArg (fun x => Result.ok (Value.string x) w') (ByteArray.ext (by simp [ByteArray.data_append, twoB]))
      go_upto_region 9 with fail
      go_cut [5] (fun g wx => g = .bool B2 ∧ wx = w2)
      case first =>
        cases B3
        all_goals
          go_wp2_with fail
          go_meet
          exact ⟨congrArg Value.bool (by rw [HB2.out]; simp), rfl⟩
      case rest =>
        obtain ⟨rfl, rfl⟩ := hcut
        go_wp2_with fail
        go_loopw [5, 6, 9] (fun g s i wr => ∃ k : Nat, k ≤ c.funs.length ∧ i = .int .i64 k ∧ s = .string ⟨(L2 ++ (rfuns c.funs k).1).toArray⟩ ∧ g = .bool (B2 && (rfuns c.funs k).2) ∧ Below (w.heap.size + 1) w1 wr) (fun _ _ i _ => c.funs.length - (intOf i).toNat)
        case atStart =>
          refine ⟨0, Nat.zero_le _, rfl, ?_, ?_, HB12.out⟩
          · simp [rfuns]
          · simp [rfuns]
        case round =>
          obtain ⟨k, hk, rfl, rfl, rfl, hbl⟩ := hrel
          have hsr := hbl.size
          have d3 : wr.cell? ⟨w.heap.size, 1, none⟩ = some (.slice c.fa c.funs.length c.fc) := (hbl.cell (p := ⟨w.heap.size, 1, none⟩) (Nat.lt_succ_self _)).trans b1
          by_cases hlt : k < c.funs.length
          · obtain ⟨b, off, hta, hbN, hcell⟩ := HC.out.funs k (by simpa using hlt)
            have hN : b < w.heap.size + 1 := by omega
            have hfm : c.funs.getD k nofn ∈ c.funs := by
              have e : (c.funs.getD k nofn) = c.funs[k] := by rw [List.getD_eq_getElem?_getD, List.getElem?_eq_getElem hlt]; rfl
              rw [e]; exact List.getElem_mem _
            have hwf := HC.out.wf _ hfm
            have hfi := HC.out.ins _ hfm
            have hpl := rfuns_len c.funs k hk
            have htk := take_sum_le c.funs (fun f => f.ins.length + 1) k
            have hfl := fun_le c.funs k hlt
            have hpp : rfuns c.funs (k + 1) = ((rfuns c.funs k).1 ++ (rfun (c.funs.getD k nofn)).1, (rfuns c.funs k).2 && (rfun (c.funs.getD k nofn)).2) := rfl
            have hrow : (c.funs.map fnRow).getD k [] = fnRow (c.funs.getD k nofn) := by simp [List.getD, hlt]
            rw [hrow] at hcell
            obtain ⟨f, hf⟩ : ∃ f, f = c.funs.getD k nofn := ⟨_, rfl⟩
            rw [← hf] at hcell hfl hpp hwf hfi
            have hca : ∀ j, j < 3 → wr.cell? ⟨b, off + k * 3 + j, none⟩ = (fnRow f)[j]? := fun j hj => by
              have h1 := (HB1.out.trans hbl).cell (p := ⟨b, off + k * 3 + j, none⟩) hN
              rw [h1, World.cell?_alloc_old _ _ _ (Nat.ne_of_lt hbN)]
              exact hcell j hj
            have a0 : wr.cell? ⟨b, off + k * 3, none⟩ = some (.int .i64 f.free) := hca 0 (by omega)
            have a1 : wr.cell? ⟨b, off + k * 3 + 1, none⟩ = some (.int .i64 f.slots) := hca 1 (by omega)
            have a2 : wr.cell? ⟨b, off + k * 3 + 2, none⟩ = some (.slice f.ao f.ins.length f.cap) := hca 2 (by omega)
            have hia : ∀ w' : World, (Instr.indexAt 23 (.slice c.fa c.funs.length c.fc) (.int .i64 k)).run Tryd.prog w' = .ok (.pointer (some ⟨b, off + k * 3, none⟩)) w' := index_at Tryd.underlying23 size48 hta c.funs.length c.fc k hlt
            have hn5 : (L2 ++ (rfuns c.funs k).1).length ≤ 20000000 := by rw [List.length_append]; unfold wgt at hw; omega
            have hil : f.ins.length ≤ 1048576 := by unfold wgt at hw; omega
            obtain ⟨⟨f1, f2⟩, ⟨f3, f4⟩, hwi⟩ := hwf
            have HPP := Lib.hid hpp
            have HFI := Lib.hid hfi
            have HWI := Lib.hid hwi
            have HBL := Lib.hid hbl
            generalize hL3 : (L2 ++ (rfuns c.funs k).1) = M3 at *
            generalize hB3 : (B2 && (rfuns c.funs k).2) = N3 at *
            have HM3 := Lib.hid hL3
            have HN3 := Lib.hid hB3
            clear hL3 hB3 hpp hfi hwi hbl hcell hca hrow hpl htk hfl hta hf hfm HB12 z1
            have hbx0 := heap_alloc_new wr (.cells #[.int .i64 f.free, .int .i64 f.slots, .slice f.ao f.ins.length f.cap] 48)
            have hba := HBL.out.alloc (by omega) (.cells #[.int .i64 f.free, .int .i64 f.slots, .slice f.ao f.ins.length f.cap] 48)
            go_wp2_with fail
            refine (rtwo_lit _ _ f1 f2).mono ?_
            rintro e w4 ⟨rfl, hbl4⟩
            have hbx4 := blk_below hbx0 hbl4 (by simp)
            have m1 : w4.cell? ⟨wr.heap.size, 1, none⟩ = some (.int .i64 f.slots) := blk_cell hbx4 1
            have HX4 := Lib.hid hbx4
            have HB4 := Lib.hid (hba.trans (hbl4.mono (by simp; omega)))
            have hs4 := hbl4.size
            rw [World.size_alloc] at hs4
            clear hbx0 hba hbl4 hbx4
            go_wp2_with fail
            refine (rtwo_lit _ _ f3 f4).mono ?_
            rintro e w5 ⟨rfl, hbl5⟩
            have hbx5 := blk_below HX4.out hbl5 (by omega)
            have m2 : w5.cell? ⟨wr.heap.size, 2, none⟩ = some (.slice f.ao f.ins.length f.cap) := blk_cell hbx5 2
            have HX5 := Lib.hid hbx5
            have HB5 := Lib.hid (HB4.out.trans (hbl5.mono (by omega)))
            have hs5 := hbl5.size
            clear hbl5 hbx5 HX4 m1
            go_wp2_with fail
            refine (rtwo_lit _ _ (by omega) (by omega)).mono ?_
            rintro e w6 ⟨rfl, hbl6⟩
            have hbx6 := blk_below HX5.out hbl6 (by omega)
            have n2 : w6.cell? ⟨wr.heap.size, 2, none⟩ = some (.slice f.ao f.ins.length f.cap) := blk_cell hbx6 2
            have HX6 := Lib.hid hbx6
            have HB6 := Lib.hid (HB5.out.trans (hbl6.mono (by omega)))
            have hs6 := hbl6.size
            clear hbl6 hbx6 HX5 m2
            obtain ⟨N6, hN6⟩ : ∃ N6, N6 = (N3 && fitsB f.free && fitsB f.slots && fitsB f.ins.length) := ⟨_, rfl⟩
            have HN6 := Lib.hid hN6
            clear hN6
            go_upto_region 18 with fail
            go_cut [5] (fun g wx => g = .bool N6 ∧ wx = w6)
            case first =>
              generalize hq1 : fitsB f.free = q1 at *
              generalize hq2 : fitsB f.slots = q2 at *
              generalize hq3 : fitsB f.ins.length = q3 at *
              clear hq1 hq2 hq3
              cases N3 <;> cases q1 <;> cases q2
              all_goals
                go_wp2_with fail
                go_meet
                exact ⟨congrArg Value.bool (by rw [HN6.out]; simp), rfl⟩
            case rest =>
              obtain ⟨rfl, rfl⟩ := hcut
              obtain ⟨wo, hwo⟩ : ∃ wo : World, wo = wr := ⟨_, rfl⟩
              subst hwo
              go_wp2_with fail
              go_loopw [5, 17, 18] (fun g l i wz => ∃ j : Nat, j ≤ f.ins.length ∧ i = .int .i64 j ∧ g = .bool (N6 && (rinss f.ins j).2) ∧ wz.ownsRow (w.heap.size + 1) 5 1 l (rinss f.ins j).1.length ((rinss f.ins j).1.map bv) ∧ wz.heap[wo.heap.size]? = some (.cells #[.int .i64 f.free, .int .i64 f.slots, .slice f.ao f.ins.length f.cap] 48 (0, 0)) ∧ Below (w.heap.size + 1) w1 wz) (fun _ _ i _ => f.ins.length - (intOf i).toNat)
              case atStart =>
                refine ⟨0, Nat.zero_le _, rfl, ?_, ?_, HX6.out, HB6.out⟩
                · simp [rinss]
                · exact World.ownsRow_nil _ _ _ _
              case round =>
                obtain ⟨j, hj, rfl, rfl, hown, hbxz, hblz⟩ := hrel
                have hsz := hblz.size
                have hltx := lt_of_block hbxz
                have n3 : wr.cell? ⟨wo.heap.size, 2, none⟩ = some (.slice f.ao f.ins.length f.cap) := blk_cell hbxz 2
                by_cases hlj : j < f.ins.length
                · obtain ⟨b', off', hta', hbN', hcell'⟩ := HFI.out j (by simpa using hlj)
                  have hN' : b' < w.heap.size + 1 := by omega
                  have hpl' := rinss_len f.ins j
                  have hxm : f.ins.getD j (0, 0, 0) ∈ f.ins := by
                    have e : (f.ins.getD j (0, 0, 0)) = f.ins[j] := by rw [List.getD_eq_getElem?_getD, List.getElem?_eq_getElem hlj]; rfl
                    rw [e]; exact List.getElem_mem _
                  have hxw := HWI.out _ hxm
                  have hpp' : rinss f.ins (j + 1) = ((rinss f.ins j).1 ++ (rinsB (f.ins.getD j (0, 0, 0)).1 (f.ins.getD j (0, 0, 0)).2.1 (f.ins.getD j (0, 0, 0)).2.2).1, (rinss f.ins j).2 && (rinsB (f.ins.getD j (0, 0, 0)).1 (f.ins.getD j (0, 0, 0)).2.1 (f.ins.getD j (0, 0, 0)).2.2).2) := rfl
                  have hrow' : (f.ins.map insRow).getD j [] = insRow (f.ins.getD j (0, 0, 0)) := by simp [List.getD, hlj]
                  rw [hrow'] at hcell'
                  obtain ⟨x, hx⟩ : ∃ x, x = f.ins.getD j (0, 0, 0) := ⟨_, rfl⟩
                  rw [← hx] at hcell' hpp' hxw
                  obtain ⟨op, oa, ob⟩ := x
                  obtain ⟨⟨o1, o2⟩, ⟨o3, o4⟩, ⟨o5, o6⟩⟩ := hxw
                  have hca' : ∀ i, i < 3 → wr.cell? ⟨b', off' + j * 3 + i, none⟩ = (insRow (op, oa, ob))[i]? := fun i hi => by
                    have h1 := (HB1.out.trans hblz).cell (p := ⟨b', off' + j * 3 + i, none⟩) hN'
                    rw [h1, World.cell?_alloc_old _ _ _ (Nat.ne_of_lt hbN')]
                    exact hcell' i hi
                  have a0' : wr.cell? ⟨b', off' + j * 3, none⟩ = some (.int .i64 op) := hca' 0 (by omega)
                  have a1' : wr.cell? ⟨b', off' + j * 3 + 1, none⟩ = some (.int .i64 oa) := hca' 1 (by omega)
                  have a2' : wr.cell? ⟨b', off' + j * 3 + 2, none⟩ = some (.int .i64 ob) := hca' 2 (by omega)
                  have hia' : ∀ w' : World, (Instr.indexAt 46 (.slice f.ao f.ins.length f.cap) (.int .i64 j)).run Tryd.prog w' = .ok (.pointer (some ⟨b', off' + j * 3, none⟩)) w' := index_at Tryd.underlying46 size50 hta' f.ins.length f.cap j hlj
                  have hn7 : (rinss f.ins j).1.length ≤ 20000000 := by omega
                  have hrl := rinsB_len op oa ob
                  have HPP' := Lib.hid hpp'
                  have HO7 := Lib.hid hown
                  have HX7 := Lib.hid hbxz
                  have HB7 := Lib.hid hblz
                  generalize hL7 : (rinss f.ins j).1 = L7 at *
                  generalize hB7 : (rinss f.ins j).2 = B7 at *
                  generalize hR : rinsB op oa ob = R at *
                  obtain ⟨rb, rg⟩ := R
                  have HR := Lib.hid hR
                  have HB0 : Hid (N6 = N6) := rfl
                  generalize hN7 : (N6 && B7) = N7 at *
                  have HN7 := Lib.hid hN7
                  clear hN7 hL7 hB7 hpp' hown hbxz hblz hcell' hca' hrow' hpl' hta' hx hxm hR HB0
                  go_wp2_with fail
                  refine (rins_any op oa ob _ o1 o2 o3 o4 o5 o6).mono ?_
                  rintro e w9 ⟨he, hbl9⟩
                  rw [HR.out] at he
                  subst he
                  have hn9 : rb.length ≤ 9 := hrl
                  have HO9 := Lib.hid (own_carry HO7.out (fun g c f h => blk_below h hbl9 (lt_of_block h)))
                  have HX9 := Lib.hid (blk_below HX7.out hbl9 (lt_of_block HX7.out))
                  have HB9 := Lib.hid (HB7.out.trans (hbl9.mono (by omega)))
                  have hs9 := hbl9.size
                  have hne9 := own_ne HX9.out HO9.out (by decide)
                  have hsb : (ByteArray.mk rb.toArray).size = rb.length := by simp [ByteArray.size]
                  clear hbl9 HR
                  cases N7
                  all_goals
                    go_wp2_with (first
                      | (at_builtin; go_must (refine Lib.wpList_append_own_string _ rfl (.tmp 137) (.tmp 138) 42 9 rfl (w.heap.size + 1) 5 i0 Tryd.underlying42 Tryd.underlying9 HI.out hz0 hz1 hz2 _ L7.length (L7.map bv) rfl HO9.out ⟨rb.toArray⟩ rfl (by rw [hsb]; unfold maxLen; omega) (by rw [hsb]; omega) (by omega) ?_)))
                    intro v' w10 hown10 hg10 _
                    have hown11 : w10.ownsRow (w.heap.size + 1) 5 1 v' (L7 ++ rb).length ((L7 ++ rb).map bv) := by
                      rw [List.length_append, List.map_append]; exact hown10
                    have HO10 := Lib.hid hown11
                    have HX10 := Lib.hid (blk_grown HX9.out hg10 hne9)
                    have HB10 := Lib.hid (HB9.out.grown hg10 (by omega) (fun k hk => (HO9.out.lt k hk).1))
                    clear hown10 hown11 hg10
                    go_wp2_with fail
                    go_roundw
                    case rel =>
                      refine ⟨j + 1, by omega, by go_num, congrArg Value.bool ?_, ?_, HX10.out, HB10.out⟩
                      · rw [HPP'.out]
                        dsimp only
                        rw [← Bool.and_assoc, HN7.out]
                        rfl
                      · rw [HPP'.out]
                        exact HO10.out
                    case measure => simp [intOf]; omega
                · obtain rfl : j = f.ins.length := by omega
                  have hpl' := rinss_len f.ins f.ins.length
                  have kc := conv_any 42 9 5 Tryd.underlying42 Tryd.underlying5 Tryd.underlying9 hown
                  have HBZ := Lib.hid hblz
                  have hrf : rfun f = (twoB f.free ++ twoB f.slots ++ twoB f.ins.length ++ (rinss f.ins f.ins.length).1, fitsB f.free && fitsB f.slots && fitsB f.ins.length && (rinss f.ins f.ins.length).2) := rfl
                  have HRF := Lib.hid hrf
                  generalize hL7 : (rinss f.ins f.ins.length).1 = L7 at *
                  have HL7 := Lib.hid hL7
                  clear hown hblz hrf hL7 hbxz
                  go_wp2_with fail
                  go_roundw
                  case rel =>
                    refine ⟨k + 1, by omega, by go_num, congrArg Value.string ?_, congrArg Value.bool ?_, HBZ.out⟩
                    · rw [HPP.out, HRF.out]
                      dsimp only
                      rw [← List.append_assoc, HM3.out]
                      exact ByteArray.ext (by simp [ByteArray.data_append, twoB])
                    · rw [HPP.out, HRF.out]
                      dsimp only
                      rw [← Bool.and_assoc, HN3.out, HN6.out]
                      simp [Bool.and_assoc]
                  case measure => simp [intOf]; omega
          · obtain rfl : k = c.funs.length := by omega
            have hpb : rbytes c = (L2 ++ (rfuns c.funs c.funs.length).1, B2 && (rfuns c.funs c.funs.length).2) := by
              rw [HL2.out, HB2.out, ← HL3.out, ← HB3.out]; rfl
            have HPB := Lib.hid hpb
            have hpl := rfuns_len c.funs c.funs.length (Nat.le_refl _)
            have htk := take_sum_le c.funs (fun f => f.ins.length + 1) c.funs.length
            have hn5 : (L2 ++ (rfuns c.funs c.funs.length).1).length ≤ 20000000 := by rw [List.length_append]; unfold wgt at hw; omega
            have hbe : Below w.heap.size w wr := (((Below.refl _ w).alloc (Nat.le_refl _) _).trans (HB1.out.mono (by omega))).trans (hbl.mono (by omega))
            have HBE := Lib.hid hbe
            generalize hL9 : (L2 ++ (rfuns c.funs c.funs.length).1) = L9 at *
            generalize hB9 : (B2 && (rfuns c.funs c.funs.length).2) = B9 at *
            have hsz9 : (ByteArray.mk L9.toArray).size = L9.length := by simp [ByteArray.size]
            have HZ9 := Lib.hid hsz9
            clear hL9 hB9 hpb hpl htk hbl hbe HB12 z1 hsz9
            cases B9
            · have hfin : renc c = ([], 17) := by unfold renc; rw [HPB.out]; simp
              have HFN := Lib.hid hfin
              clear hfin
              go_wp2_with fail
              go_ret2
              exact ⟨by rw [HFN.out]; rfl, HBE.out⟩
            · by_cases hbig : 4000000 < (L9.length : Int)
              · have hfin : renc c = ([], 1) := by unfold renc; rw [HPB.out]; simp; omega
                have HFN := Lib.hid hfin
                clear hfin
                go_wp2_with fail
                go_ret2
                exact ⟨by rw [HFN.out]; rfl, HBE.out⟩
              · have hfin : renc c = (L9, 0) := by unfold renc; rw [HPB.out]; simp; omega
                have HFN := Lib.hid hfin
                clear hfin
                go_wp2_with fail
                go_ret2
                exact ⟨by rw [HFN.out]; rfl, HBE.out⟩

end Go.Proofs.YtebappmamaafaaaDoor
