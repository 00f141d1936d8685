/-
  Proved: the contract of the program's Encode. Conditions: the code's weight at most 2^21.
-/
import Derived.Test.YtebappmamaafaaaDoorE3
import Derived.Test.YtebappmamaafaaaDoorC
import Derived.Lib.AppendStr
import Derived.Lib.SlBytesConst
set_option linter.unusedSimpArgs false
set_option linter.unusedVariables false
namespace Go.Proofs.YtebappmamaafaaaDoor
open Go.RowKit

/-- what the program writes of the first k texts; is one too long? -/
def ptexts (l : List ByteArray) : Nat → List UInt8 × Bool
  | 0 => ([], false)
  | k + 1 => ((ptexts l k).1 ++ (lo (l.getD k ByteArray.empty).size :: (l.getD k ByteArray.empty).data.toList), (ptexts l k).2 || decide (200 < ((l.getD k ByteArray.empty).size : Int)))
def pinss (l : List (Int × Int × Int)) : Nat → List UInt8 × Bool
  | 0 => ([], false)
  | k + 1 => ((pinss l k).1 ++ (pinsB (l.getD k (0, 0, 0)).1 (l.getD k (0, 0, 0)).2.1 (l.getD k (0, 0, 0)).2.2).1, (pinss l k).2 || (pinsB (l.getD k (0, 0, 0)).1 (l.getD k (0, 0, 0)).2.1 (l.getD k (0, 0, 0)).2.2).2)
def pfun (f : Fn) : List UInt8 × Bool :=
  (twoB f.free ++ twoB f.slots ++ twoB f.ins.length ++ (pinss f.ins f.ins.length).1, !fitsB f.free || !fitsB f.slots || !fitsB f.ins.length || (pinss f.ins f.ins.length).2)
def nofn : Fn := ⟨0, 0, none, 0, []⟩
def pfuns (l : List Fn) : Nat → List UInt8 × Bool
  | 0 => ([], false)
  | k + 1 => ((pfuns l k).1 ++ (pfun (l.getD k nofn)).1, (pfuns l k).2 || (pfun (l.getD k nofn)).2)
def pbytes (c : Cd) : List UInt8 × Bool :=
  ([77, 76, 49] ++ twoB c.texts.length ++ (ptexts c.texts c.texts.length).1 ++ twoB c.funs.length ++ (pfuns c.funs c.funs.length).1,
   !fitsB c.texts.length || (ptexts c.texts c.texts.length).2 || !fitsB c.funs.length || (pfuns c.funs c.funs.length).2)
/-- what the program's Encode answers -/
def penc (c : Cd) : List UInt8 × Int :=
  if (pbytes c).2 = true then ([], 17) else if 4000000 < (pbytes c).1.length then ([], 1) else ((pbytes c).1, 0)

def PencPost (c : Cd) (w : World) (e : Ending) (w' : World) : Prop := e = .returned (.tuple #[.string ⟨(penc c).1.toArray⟩, .int .i64 (penc c).2]) ∧ Below w.heap.size w w'

theorem own_base {w : World} {B B' : Nat} {v : Value} {n e size : Nat} {xs : List Value} (h : w.ownsRow B' e size v n xs) (hB : B ≤ B') : w.ownsRow B e size v n xs := by
  refine ⟨h.1, ?_⟩
  rcases h.2 with hn | ⟨g, cap, cur, rfl, hbg, rest⟩
  · exact .inl hn
  · exact .inr ⟨g, cap, cur, rfl, by omega, rest⟩

theorem byte_new {w : World} (v : Int) (n : Nat) (hn : n = w.heap.size) : ∀ (j : Nat) (u : Value), [bv (lo v)][j]? = some u → (w.alloc (.cells #[.int .u8 (v % 256)] 5)).cell? ((⟨n, 0, none⟩ : Addr).add j) = some u := by
  have e : Value.int .u8 (v % 256) = bv (lo v) := by
    have h3 := Int.emod_nonneg v (b := 256) (by decide)
    have h4 := Int.emod_lt_of_pos v (b := 256) (by decide)
    simp [bv, lo]
    omega
  rw [e]
  exact new_cells (c := #[bv (lo v)]) n hn
theorem ptexts_len (l : List ByteArray) (k : Nat) (hk : k ≤ l.length) : (ptexts l k).1.length ≤ (l.map fun s => s.size + 1).sum := by
  have h : (ptexts l k).1.length = ((l.take k).map fun s => s.size + 1).sum := by
    induction k with
    | zero => simp [ptexts]
    | succ k ih =>
      have ih := ih (by omega)
      rw [List.take_succ_eq_append_getElem (by omega)]
      simp only [ptexts, List.length_append, List.length_cons, List.map_append, List.sum_append, ih, List.map_cons, List.map_nil, List.sum_cons, List.sum_nil]
      have e : (l.getD k ByteArray.empty) = l[k] := by rw [List.getD_eq_getElem?_getD, List.getElem?_eq_getElem (by omega)]; rfl
      have e2 : l[k].data.toList.length = l[k].size := Array.length_toList
      rw [e, e2]
      omega
  rw [h]
  conv => rhs; rw [← List.take_append_drop k l]
  rw [List.map_append, List.sum_append]
  omega
theorem text_le (l : List ByteArray) (k : Nat) (hk : k < l.length) : (l.getD k ByteArray.empty).size + 1 ≤ (l.map fun s => s.size + 1).sum := by
  induction l generalizing k with
  | nil => simp at hk
  | cons s l ih =>
    cases k with
    | zero => simp
    | succ k =>
      have := ih k (by simpa using hk)
      simp only [List.map_cons, List.sum_cons]
      have e : (s :: l).getD (k + 1) ByteArray.empty = l.getD k ByteArray.empty := by simp [List.getD]
      rw [e]
      omega
theorem len_le_sum {α : Type} (l : List α) (f : α → Nat) : l.length ≤ (l.map fun s => f s + 1).sum := by
  induction l with
  | nil => simp
  | cons s l ih => simp only [List.map_cons, List.sum_cons, List.length_cons]; omega

theorem Forms.below {w w' : World} {N : Nat} (h : Forms w) (hb : Below N w w') (hN : 0 < N) : Forms w' := fun k hk => (hb.cell (p := ⟨0, k, none⟩) hN).trans (h k hk)
theorem Forms.alloc {w : World} (h : Forms w) (h0 : 0 < w.heap.size) (o : Obj) : Forms (w.alloc o) := fun k hk => by rw [World.cell?_alloc_old _ _ _ (Nat.ne_of_lt h0)]; exact h k hk
/-- 'string(b)' of an owned row -/
theorem conv_own {P : Program} {w : World} {B : Nat} {v : Value} {l : List UInt8} (src dst e : TypeId) (hs : P.underlying src = some (.slice e)) (he : P.underlying e = some (.int .u8)) (hd : P.underlying dst = some .string) (hown : w.ownsRow B e 1 v l.length (l.map bv)) (hv : ¬v = .slice none 0 0) :
    (convert src dst v).run P w = .ok (.string ⟨l.toArray⟩) w := by
  obtain ⟨g, cap, rfl⟩ := own_shape hown hv
  refine run_convert_bytes_back w src dst e _ cap l hs he hd fun j hj => ?_
  exact hown.cells (g := g) rfl j _ (by simp [hj, bv])
theorem pinsB_len (op a b : Int) : (pinsB op a b).1.length ≤ 9 := by
  unfold pinsB
  split
  · simp
  · have h := prefP_len (formB op).1 a b (formB op).1.length
    have h2 : (formB op).1.length ≤ 2 := by rcases formB_cases op with h | h | h | h | h <;> rw [h] <;> decide
    simp only [List.length_cons]
    omega
theorem pinss_len (l : List (Int × Int × Int)) (k : Nat) : (pinss l k).1.length ≤ 9 * k := by
  induction k with
  | zero => simp [pinss]
  | succ k ih =>
    have := pinsB_len (l.getD k (0, 0, 0)).1 (l.getD k (0, 0, 0)).2.1 (l.getD k (0, 0, 0)).2.2
    simp only [pinss, List.length_append]
    omega
theorem pfun_len (f : Fn) : (pfun f).1.length ≤ 9 * (f.ins.length + 1) := by
  have := pinss_len f.ins f.ins.length
  simp only [pfun, List.length_append, twoB, List.length_cons, List.length_nil]
  omega
theorem pfuns_len (l : List Fn) (k : Nat) (hk : k ≤ l.length) : (pfuns l k).1.length ≤ 9 * ((l.take k).map fun f => f.ins.length + 1).sum := by
  induction k with
  | zero => simp [pfuns]
  | succ k ih =>
    have ih := ih (by omega)
    rw [List.take_succ_eq_append_getElem (by omega)]
    have e : (l.getD k nofn) = l[k] := by rw [List.getD_eq_getElem?_getD, List.getElem?_eq_getElem (by omega)]; rfl
    have h2 := pfun_len l[k]
    simp only [pfuns, List.length_append, List.map_append, List.sum_append, List.map_cons, List.map_nil, List.sum_cons, List.sum_nil, e]
    omega
theorem take_sum_le {α : Type} (l : List α) (f : α → Nat) (k : Nat) : ((l.take k).map f).sum ≤ (l.map f).sum := by
  conv => rhs; rw [← List.take_append_drop k l]
  rw [List.map_append, List.sum_append]
  omega
theorem fun_le (l : List Fn) (k : Nat) (hk : k < l.length) : (l.getD k nofn).ins.length + 1 ≤ (l.map fun f => f.ins.length + 1).sum := by
  have e : (l.getD k nofn) = l[k] := by rw [List.getD_eq_getElem?_getD, List.getElem?_eq_getElem hk]; rfl
  rw [e]
  conv => rhs; rw [← List.take_append_drop k l]
  rw [List.drop_eq_getElem_cons hk]
  simp only [List.map_append, List.sum_append, List.map_cons, List.sum_cons]
  omega

/-- the writer as it begins: the marked row of a constant -/
structure Wr0 (w : World) (p B g : Nat) : Prop where
  base : B ≤ p
  baseg : B ≤ g
  st : w.heap[p]? = some (.cells #[.slice (some ⟨g, 0, none⟩) 3 3, .bool false] 44 (0, 0))
  row : w.heap[g]? = some (.cells #[.int .u8 77, .int .u8 76, .int .u8 49] 5 (3, 4))

theorem two_first (p B g : Nat) (n : Int) (w : World) (hw : Wr0 w p B g) (h1 : -9223372036854775808 ≤ n) (h2 : n ≤ 9223372036854775807) :
    Calls Tryd.prog 16 #[.pointer (some ⟨p, 0, none⟩), .int .i64 n] w fun e w' => e = .returned (.tuple #[]) ∧ Wr w' p B ([77, 76, 49] ++ twoB n) (!fitsB n) ∧ Below B w w' := by
  obtain ⟨hB, hBg, hp, hg⟩ := hw
  have hgp : g ≠ p := fun e => by subst e; rw [hp] at hg; simp at hg
  have hlt := lt_of_block hp
  have hltg := lt_of_block hg
  have c0 : w.cell? ⟨p, 0, none⟩ = some (.slice (some ⟨g, 0, none⟩) 3 3) := blk_cell hp 0
  have c1 : w.cell? ⟨p, 1, none⟩ = some (.bool false) := blk_cell hp 1
  have f0 := blk_free hp 0
  have f1 := blk_free hp 1
  obtain ⟨i0, hi, hz0, hz1, hz2⟩ := info_parts info5
  have HP := Lib.hid hp
  have HG := Lib.hid hg
  have HB2 := Lib.hid (two_bytes n)
  clear hp hg
  have holds : ∀ X, ∀ b, some (⟨g, 0, none⟩ : Addr) = some b → ∀ (j : Nat) (u : Value), [Value.int .u8 77, .int .u8 76, .int .u8 49][j]? = some u → ((w.setCell ⟨p, 1, none⟩ (.bool (!fitsB n))).alloc X).cell? (b.add j) = some u := by
    intro X b hb j u hu
    cases hb
    have hadd : (⟨g, 0, none⟩ : Addr).add j = ⟨g, j, none⟩ := by unfold Addr.add; split <;> simp_all
    rw [hadd, blk_cell (blk_alloc (blk_set_ne HG.out hgp _ _) X) j]
    simpa using hu
  have HH := Lib.hid holds
  clear holds
  go_enter Tryd.func16, Tryd.ntmps16
  go_wp2_with (first
    | (go_at_call 28; refine (fits_two n w).mono ?_; rintro e w' ⟨rfl, rfl⟩)
    | (at_builtin; go_must (refine wpList_append_grows _ rfl (.tmp 20) (.tmp 26) 42 rfl 5 i0 (.int .u8 0) 1 1 Tryd.underlying42 hi hz0 hz1 hz2 rfl (by decide) (some ⟨g, 0, none⟩) 3 3 [.int .u8 77, .int .u8 76, .int .u8 49] rfl (by simp) rfl (HH.out _) ⟨w.heap.size, 0, none⟩ 2 2 [.int .u8 (n / 256 % 256), .int .u8 (n % 256)] rfl rfl (new_cells (c := #[_, _]) _ (by simp)) (by intro u hu; simp at hu; rcases hu with rfl | rfl <;> rfl) (by omega) (by unfold maxLen; omega) (by omega) ?_)))
  intro v' w1 hown1 hg1
  obtain ⟨g', cap', hv'⟩ := own_shape hown1 (fun e => by subst e; have := hown1.1; rcases hown1.2 with ⟨_, h⟩ | ⟨_, _, _, h, _⟩ <;> simp at h)
  rw [hv'] at hown1 ⊢
  clear hv'
  have hown2 := own_base (B := B) hown1 (by first | omega | (simp; omega))
  have hp1 := blk_grown (blk_alloc (blk_set HP.out 1 (.bool (!fitsB n))) _) hg1 (by simp)
  have c0' : w1.cell? ⟨p, 0, none⟩ = some (.slice (some ⟨g, 0, none⟩) 3 3) := blk_cell hp1 0
  have f0' := blk_free hp1 0
  have R := Lib.hid (wr_stored (v := .slice (some ⟨g, 0, none⟩) 3 3) (bs := [77, 76, 49]) (news := twoB n) hB rfl (by rw [HB2.out]; simp [bv]) hp1 hown2)
  have Rb := Lib.hid (((((Below.refl B w).setCell (p := ⟨p, 1, none⟩) hB (.bool (!fitsB n))).alloc (by simp; omega) _).grown hg1 (by simp; omega) (fun k hk => by cases hk)).setCell (p := ⟨p, 0, none⟩) hB (.slice (some ⟨g', 0, none⟩) (3 + 2) cap'))
  clear hp1 hown1 hown2 hg1 hi hz0 hz1 hz2 c1
  go_wp2
  go_end0
  exact ⟨rfl, R.out, Rb.out⟩

set_option maxRecDepth 100000 in
set_option maxHeartbeats 4000000 in
theorem penc_any (c : Cd) (w : World) (hF : Forms w) (h0 : 0 < w.heap.size) (hc : CodeAt w w.heap.size c) (hw : wgt c ≤ 1048576) :
    Calls Tryd.prog 7 #[c.val] w (PencPost c w) := by
  obtain ⟨i0, hi, hz0, hz1, hz2⟩ := info_parts info5
  have HI := Lib.hid hi
  have HF := Lib.hid hF
  have HC := Lib.hid hc
  clear hi hF hc
  unfold Cd.val
  have kc : (convert 42 42 (.slice (some ⟨w.heap.size + 1, 0, none⟩) 3 3)).run Tryd.prog ((w.alloc (.cells #[.slice c.ta c.texts.length c.tc, .slice c.fa c.funs.length c.fc] 25)).alloc (.cells #[.int .u8 77, .int .u8 76, .int .u8 49] 5)) = .ok (.slice (some ⟨w.heap.size + 1, 0, none⟩) 3 3) ((w.alloc (.cells #[.slice c.ta c.texts.length c.tc, .slice c.fa c.funs.length c.fc] 25)).alloc (.cells #[.int .u8 77, .int .u8 76, .int .u8 49] 5 (3, 4))) := by
    have := Lib.run_convert_bytes_const (P := Tryd.prog) (w.alloc (.cells #[.slice c.ta c.texts.length c.tc, .slice c.fa c.funs.length c.fc] 25)) 42 5 #[.int .u8 77, .int .u8 76, .int .u8 49] 3 3 Tryd.underlying42 Tryd.underlying5
    rw [World.size_alloc] at this
    exact this
  go_enter Tryd.func7, Tryd.ntmps7
  go_wp2_with fail
  have hw0 : Wr0 (((w.alloc (.cells #[.slice c.ta c.texts.length c.tc, .slice c.fa c.funs.length c.fc] 25)).alloc (.cells #[.int .u8 77, .int .u8 76, .int .u8 49] 5 (3, 4))).alloc (.cells #[.slice (some ⟨w.heap.size + 1, 0, none⟩) 3 3, .bool false] 44)) (w.heap.size + 1 + 1) (w.heap.size + 1) (w.heap.size + 1) := by
    refine ⟨by omega, by omega, ?_, ?_⟩
    · have := heap_alloc_new ((w.alloc (.cells #[.slice c.ta c.texts.length c.tc, .slice c.fa c.funs.length c.fc] 25)).alloc (.cells #[.int .u8 77, .int .u8 76, .int .u8 49] 5 (3, 4))) (.cells #[.slice (some ⟨w.heap.size + 1, 0, none⟩) 3 3, .bool false] 44)
      rwa [World.size_alloc, World.size_alloc] at this
    · have := heap_alloc_new (w.alloc (.cells #[.slice c.ta c.texts.length c.tc, .slice c.fa c.funs.length c.fc] 25)) (.cells #[.int .u8 77, .int .u8 76, .int .u8 49] 5 (3, 4))
      rw [World.size_alloc] at this
      exact blk_alloc this _
  have hl1 : c.texts.length ≤ 1048576 := by have := len_le_sum c.texts ByteArray.size; unfold wgt at hw; omega
  have hl2 : c.funs.length ≤ 1048576 := by have := len_le_sum c.funs (fun f => f.ins.length); unfold wgt at hw; omega
  refine (two_first _ _ _ _ _ hw0 (by omega) (by omega)).mono ?_
  rintro e w1 ⟨rfl, hwr1, hbl1⟩
  have hb1 : Below (w.heap.size + 1) (w.alloc (.cells #[.slice c.ta c.texts.length c.tc, .slice c.fa c.funs.length c.fc] 25)) w1 := (((Below.refl _ _).alloc (by simp) _).alloc (by simp) _).trans hbl1
  have hbox : w1.heap[w.heap.size]? = some (.cells #[.slice c.ta c.texts.length c.tc, .slice c.fa c.funs.length c.fc] 25 (0, 0)) := blk_below (heap_alloc_new w _) hb1 (by omega)
  have b0 : w1.cell? ⟨w.heap.size, 0, none⟩ = some (.slice c.ta c.texts.length c.tc) := blk_cell hbox 0
  have b1 : w1.cell? ⟨w.heap.size, 1, none⟩ = some (.slice c.fa c.funs.length c.fc) := blk_cell hbox 1
  have hs1 := hb1.size
  rw [World.size_alloc] at hs1
  have HW1 := Lib.hid hwr1
  have HB1 := Lib.hid hb1
  clear hbl1 hwr1 hb1 hbox hw0 kc
  go_wp2_with fail
  go_loopw [23] (fun i wr => ∃ k : Nat, k ≤ c.texts.length ∧ i = .int .i64 k ∧ Wr wr (w.heap.size + 1 + 1) (w.heap.size + 1) ([77, 76, 49] ++ twoB c.texts.length ++ (ptexts c.texts k).1) (!fitsB c.texts.length || (ptexts c.texts k).2) ∧ Below (w.heap.size + 1) w1 wr) (fun i _ => c.texts.length - (intOf i).toNat)
  case atStart =>
    refine ⟨0, Nat.zero_le _, rfl, ?_, Below.refl _ _⟩
    simpa [ptexts] using HW1.out
  case round =>
    obtain ⟨k, hk, rfl, hwr, hbl⟩ := hrel
    by_cases hlt : k < c.texts.length
    · obtain ⟨b, off, hta, hbN, hcell⟩ := HC.out.texts k (by simpa using hlt)
      have hcell := hcell 0 (by omega)
      have hN : b < w.heap.size + 1 := by omega
      have hpl := ptexts_len c.texts k hk
      have hsl := text_le c.texts k hlt
      have hpp : ptexts c.texts (k + 1) = ((ptexts c.texts k).1 ++ (lo (c.texts.getD k ByteArray.empty).size :: (c.texts.getD k ByteArray.empty).data.toList), (ptexts c.texts k).2 || decide (200 < ((c.texts.getD k ByteArray.empty).size : Int))) := rfl
      have hrow : ((c.texts.map fun s => [Value.string s]).getD k [])[0]? = some (.string (c.texts.getD k ByteArray.empty)) := by simp [List.getD, hlt]
      rw [hrow] at hcell
      obtain ⟨s, hs⟩ : ∃ s, s = c.texts.getD k ByteArray.empty := ⟨_, rfl⟩
      rw [← hs] at hcell hsl hpp
      have hcs : wr.cell? ⟨b, off + k, none⟩ = some (.string s) := by
        have h1 := (HB1.out.trans hbl).cell (p := ⟨b, off + k * 1 + 0, none⟩) hN
        rw [Nat.mul_one, Nat.add_zero] at h1 hcell
        rw [h1, World.cell?_alloc_old _ _ _ (Nat.ne_of_lt hbN)]
        exact hcell
      have hss : s.size ≤ 1048576 := by unfold wgt at hw; omega
      obtain ⟨hBP, v3, hp3, hown3⟩ := hwr
      have hne3 := own_ne hp3 hown3 (by decide)
      have hlt3 := lt_of_block hp3
      have g0 : wr.cell? ⟨w.heap.size + 1 + 1, 0, none⟩ = some v3 := blk_cell hp3 0
      have g1 : wr.cell? ⟨w.heap.size + 1 + 1, 1, none⟩ = some (.bool (!fitsB c.texts.length || (ptexts c.texts k).2)) := blk_cell hp3 1
      have k0 := blk_free hp3 0
      have k1 := blk_free hp3 1
      have hn3 : ([77, 76, 49] ++ twoB c.texts.length ++ (ptexts c.texts k).1).length ≤ 2097152 := by simp only [List.length_append, twoB, List.length_cons, List.length_nil]; unfold wgt at hw; omega
      have HPP := Lib.hid hpp
      have HP3 := Lib.hid hp3
      have HO3 := Lib.hid hown3
      have HBL := Lib.hid hbl
      have HS := Lib.hid hs
      have hia : ∀ w' : World, (Instr.indexAt 22 (.slice c.ta c.texts.length c.tc) (.int .i64 k)).run Tryd.prog w' = .ok (.pointer (some ⟨b, off + k, none⟩)) w' := fun w' => by simpa using index_at Tryd.underlying22 size9 hta c.texts.length c.tc k hlt w'
      generalize hL3 : ([77, 76, 49] ++ twoB c.texts.length ++ (ptexts c.texts k).1) = L3 at *
      generalize hB3 : (!fitsB c.texts.length || (ptexts c.texts k).2) = B3 at *
      have HL3 := Lib.hid hL3
      have HB3 := Lib.hid hB3
      clear hL3 hB3 hpp hp3 hown3 hbl hs hcell hrow hpl hsl hta
      cases B3
      all_goals
        go_wp2_with (first
          | (at_builtin; refine wpList_append_own _ rfl (.tmp 43) (.tmp 47) 42 rfl (w.heap.size + 1) 5 i0 (.int .u8 0) 1 1 Tryd.underlying42 HI.out hz0 hz1 hz2 rfl (by decide) v3 L3.length (L3.map bv) rfl ((ownsRow_setCell_other HO3.out hne3 _).alloc _) ⟨wr.heap.size, 0, none⟩ 1 1 [bv (lo s.size)] rfl rfl (byte_new _ _ (by simp)) (bv_ones [lo s.size]) (by unfold maxLen; omega) (by omega) (by simp; omega) ?_; intro v4 w4 hown4 hg4 hnil4)
          | (at_builtin; go_must (refine Lib.wpList_append_own_string _ rfl (.tmp 48) (.tmp 49) 42 9 rfl (w.heap.size + 1) 5 i0 Tryd.underlying42 Tryd.underlying9 HI.out hz0 hz1 hz2 v4 (L3.length + 1) (L3.map bv ++ [bv (lo s.size)]) rfl hown4 s rfl (by unfold maxLen; omega) (by omega) (by have := hg4.size; simp at this; omega) ?_)))
        intro v' w5 hown5 hg5 hnil5
        obtain ⟨g', cap', hv'⟩ := own_shape hown5 hnil5
        rw [hv'] at hown5 ⊢
        clear hnil5 hv'
        have hp4 := blk_grown (blk_alloc (blk_set HP3.out 1 _) _) hg4 hne3
        have hne4 := own_ne hp4 hown4 (by decide)
        have hp5 := blk_grown hp4 hg5 hne4
        have q0 : w5.cell? ⟨w.heap.size + 1 + 1, 0, none⟩ = some v3 := blk_cell hp5 0
        have r0 := blk_free hp5 0
        have R := Lib.hid (wr_stored (v := v3) (bs := L3) (news := lo s.size :: s.data.toList) hBP (by have e2 : s.data.toList.length = s.size := Array.length_toList; rw [List.length_cons, e2]; omega) (by rw [List.map_append]; rfl) hp5 hown5)
        have Rb := Lib.hid ((((((HBL.out.setCell (p := ⟨w.heap.size + 1 + 1, 1, none⟩) hBP _).alloc (by simp; omega) _).grown hg4 (by simp; omega) (fun k hk => (HO3.out.lt k hk).1))).grown hg5 (by have := hg4.size; simp at this; omega) (fun k hk => (hown4.lt k hk).1)).setCell (p := ⟨w.heap.size + 1 + 1, 0, none⟩) hBP (.slice (some ⟨g', 0, none⟩) (L3.length + 1 + s.size) cap'))
        clear hp4 hp5 hown5 hg5 hown4 hg4 hnil4 hne4 hne3 g1 k1
        go_wp2_with fail
        go_roundw
        case rel =>
          refine ⟨k + 1, by omega, by go_num, ?_, Rb.out⟩
          rw [HPP.out]
          dsimp only
          rw [← List.append_assoc, HL3.out, ← Bool.or_assoc, HB3.out]
          exact R.out
        case measure => simp [intOf]; omega
    · obtain rfl : k = c.texts.length := by omega
      have hsz2 := hbl.size
      have d1 : wr.cell? ⟨w.heap.size, 1, none⟩ = some (.slice c.fa c.funs.length c.fc) := (hbl.cell (p := ⟨w.heap.size, 1, none⟩) (Nat.lt_succ_self _)).trans b1
      have hpl := ptexts_len c.texts c.texts.length (Nat.le_refl _)
      have hn3 : ([77, 76, 49] ++ twoB c.texts.length ++ (ptexts c.texts c.texts.length).1).length ≤ 2097152 := by simp only [List.length_append, twoB, List.length_cons, List.length_nil]; unfold wgt at hw; omega
      obtain ⟨L2, hL2⟩ : ∃ L2, L2 = [77, 76, 49] ++ twoB c.texts.length ++ (ptexts c.texts c.texts.length).1 ++ twoB c.funs.length := ⟨_, rfl⟩
      obtain ⟨B2, hB2⟩ : ∃ B2, B2 = (!fitsB c.texts.length || (ptexts c.texts c.texts.length).2 || !fitsB c.funs.length) := ⟨_, rfl⟩
      have hn4 : L2.length ≤ 2097154 := by rw [hL2, List.length_append]; simp only [twoB, List.length_cons, List.length_nil]; simp only [twoB] at hn3; omega
      have HWR := Lib.hid hwr
      have HBL := Lib.hid hbl
      have HL2 := Lib.hid hL2
      have HB2 := Lib.hid hB2
      clear hwr hbl hpl hn3 hL2 hB2 b0
      go_wp2_with fail
      refine (two_any _ _ _ _ _ _ HWR.out (by omega) (by omega) (by rw [HL2.out, List.length_append] at hn4; omega)).mono ?_
      rintro e w2 ⟨rfl, hwr2, hbl2, _⟩
      rw [← HL2.out, ← HB2.out] at hwr2
      have hb12 := HBL.out.trans hbl2
      have d2 : w2.cell? ⟨w.heap.size, 1, none⟩ = some (.slice c.fa c.funs.length c.fc) := (hbl2.cell (p := ⟨w.heap.size, 1, none⟩) (Nat.lt_succ_self _)).trans d1
      have hsz3 := hb12.size
      have HW2 := Lib.hid hwr2
      have HB12 := Lib.hid hb12
      clear hwr2 hbl2 hb12 HWR HBL d1 hsz2 hlt
      go_wp2_with fail
      go_loopw [62] (fun i wr => ∃ k : Nat, k ≤ c.funs.length ∧ i = .int .i64 k ∧ Wr wr (w.heap.size + 1 + 1) (w.heap.size + 1) (L2 ++ (pfuns c.funs k).1) (B2 || (pfuns c.funs k).2) ∧ Below (w.heap.size + 1) w1 wr) (fun i _ => c.funs.length - (intOf i).toNat)
      case atStart =>
        refine ⟨0, Nat.zero_le _, rfl, ?_, HB12.out⟩
        simpa [pfuns] using HW2.out
      case round =>
        obtain ⟨k, hk, rfl, hwr, hbl⟩ := hrel
        by_cases hlt : k < c.funs.length
        · obtain ⟨b, off, hta, hbN, hcell⟩ := HC.out.funs k (by simpa using hlt)
          have hN : b < w.heap.size + 1 := by omega
          have hfm : c.funs.getD k nofn ∈ c.funs := by
            have e : (c.funs.getD k nofn) = c.funs[k] := by rw [List.getD_eq_getElem?_getD, List.getElem?_eq_getElem hlt]; rfl
            rw [e]; exact List.getElem_mem _
          have hwf := HC.out.wf _ hfm
          have hfi := HC.out.ins _ hfm
          have hpl := pfuns_len c.funs k hk
          have htk := take_sum_le c.funs (fun f => f.ins.length + 1) k
          have hfl := fun_le c.funs k hlt
          have hpp : pfuns c.funs (k + 1) = ((pfuns c.funs k).1 ++ (pfun (c.funs.getD k nofn)).1, (pfuns c.funs k).2 || (pfun (c.funs.getD k nofn)).2) := rfl
          have hrow : (c.funs.map fnRow).getD k [] = fnRow (c.funs.getD k nofn) := by simp [List.getD, hlt]
          rw [hrow] at hcell
          obtain ⟨f, hf⟩ : ∃ f, f = c.funs.getD k nofn := ⟨_, rfl⟩
          rw [← hf] at hcell hfl hpp hwf hfi
          have hca : ∀ j, j < 3 → wr.cell? ⟨b, off + k * 3 + j, none⟩ = (fnRow f)[j]? := fun j hj => by
            have h1 := (HB1.out.trans hbl).cell (p := ⟨b, off + k * 3 + j, none⟩) hN
            rw [h1, World.cell?_alloc_old _ _ _ (Nat.ne_of_lt hbN)]
            exact hcell j hj
          have a0 : wr.cell? ⟨b, off + k * 3, none⟩ = some (.int .i64 f.free) := hca 0 (by omega)
          have a1 : wr.cell? ⟨b, off + k * 3 + 1, none⟩ = some (.int .i64 f.slots) := hca 1 (by omega)
          have a2 : wr.cell? ⟨b, off + k * 3 + 2, none⟩ = some (.slice f.ao f.ins.length f.cap) := hca 2 (by omega)
          have hia : ∀ w' : World, (Instr.indexAt 23 (.slice c.fa c.funs.length c.fc) (.int .i64 k)).run Tryd.prog w' = .ok (.pointer (some ⟨b, off + k * 3, none⟩)) w' := index_at Tryd.underlying23 size48 hta c.funs.length c.fc k hlt
          have hn5 : (L2 ++ (pfuns c.funs k).1).length ≤ 20000000 := by rw [List.length_append]; unfold wgt at hw; omega
          have hil : f.ins.length ≤ 1048576 := by unfold wgt at hw; omega
          obtain ⟨⟨f1, f2⟩, ⟨f3, f4⟩, hwi⟩ := hwf
          have HPP := Lib.hid hpp
          have HFI := Lib.hid hfi
          have HWI := Lib.hid hwi
          have HWR := Lib.hid hwr
          have HBL := Lib.hid hbl
          have hsr := hbl.size
          generalize hL3 : (L2 ++ (pfuns c.funs k).1) = L3 at *
          generalize hB3 : (B2 || (pfuns c.funs k).2) = B3 at *
          have HL3 := Lib.hid hL3
          have HB3 := Lib.hid hB3
          clear hL3 hB3 hpp hfi hwi hwr hbl hcell hca hrow hpl htk hfl hta hf hfm HW2 HB12
          go_wp2_with fail
          have hwa := HWR.out.alloc (.cells #[.int .i64 f.free, .int .i64 f.slots, .slice f.ao f.ins.length f.cap] 48)
          have hbx0 := heap_alloc_new wr (.cells #[.int .i64 f.free, .int .i64 f.slots, .slice f.ao f.ins.length f.cap] 48)
          have hba := HBL.out.alloc (by omega) (.cells #[.int .i64 f.free, .int .i64 f.slots, .slice f.ao f.ins.length f.cap] 48)
          have hPw : w.heap.size + 1 + 1 < wr.heap.size := by obtain ⟨_, v3, hp3, _⟩ := HWR.out; exact lt_of_block hp3
          refine (two_any _ _ _ _ _ _ hwa f1 f2 (by omega)).mono ?_
          rintro e w4 ⟨rfl, hwr4, hbl4, hok4⟩
          have hbx4 := hok4 _ _ hbx0 (by simp; omega) (by intro c fz h; simp at h)
          have m1 : w4.cell? ⟨wr.heap.size, 1, none⟩ = some (.int .i64 f.slots) := blk_cell hbx4 1
          have HX4 := Lib.hid hbx4
          have HW4 := Lib.hid hwr4
          have HB4 := Lib.hid (hba.trans hbl4)
          have hs4 := hbl4.size
          rw [World.size_alloc] at hs4
          clear hwa hbx0 hba hwr4 hbl4 hok4 hbx4
          go_wp2_with fail
          refine (two_any _ _ _ _ _ _ HW4.out f3 f4 (by simp only [List.length_append, twoB, List.length_cons, List.length_nil]; omega)).mono ?_
          rintro e w5 ⟨rfl, hwr5, hbl5, hok5⟩
          have hbx5 := hok5 _ _ HX4.out (by simp; omega) (by intro c fz h; simp at h)
          have m2 : w5.cell? ⟨wr.heap.size, 2, none⟩ = some (.slice f.ao f.ins.length f.cap) := blk_cell hbx5 2
          have HX5 := Lib.hid hbx5
          have HW5 := Lib.hid hwr5
          have HB5 := Lib.hid (HB4.out.trans hbl5)
          have hs5 := hbl5.size
          clear hwr5 hbl5 hok5 hbx5 HX4 HW4 m1
          go_wp2_with fail
          refine (two_any _ _ _ _ _ _ HW5.out (by omega) (by omega) (by simp only [List.length_append, twoB, List.length_cons, List.length_nil]; omega)).mono ?_
          rintro e w6 ⟨rfl, hwr6, hbl6, hok6⟩
          have hbx6 := hok6 _ _ HX5.out (by simp; omega) (by intro c fz h; simp at h)
          have n2 : w6.cell? ⟨wr.heap.size, 2, none⟩ = some (.slice f.ao f.ins.length f.cap) := blk_cell hbx6 2
          have HW6 := Lib.hid hwr6
          have HB6 := Lib.hid (HB5.out.trans hbl6)
          have hs6 := hbl6.size
          clear hwr6 hbl6 hok6 hbx6 HX5 HW5 m2
          obtain ⟨L6, hL6⟩ : ∃ L6, L6 = L3 ++ twoB f.free ++ twoB f.slots ++ twoB f.ins.length := ⟨_, rfl⟩
          obtain ⟨B6, hB6⟩ : ∃ B6, B6 = (B3 || !fitsB f.free || !fitsB f.slots || !fitsB f.ins.length) := ⟨_, rfl⟩
          have hn6 : L6.length ≤ 20000100 := by rw [hL6]; simp only [List.length_append, twoB, List.length_cons, List.length_nil]; omega
          have HL6 := Lib.hid hL6
          have HBB6 := Lib.hid hB6
          clear hL6 hB6
          go_wp2_with fail
          go_loopw [82] (fun i wr => ∃ j : Nat, j ≤ f.ins.length ∧ i = .int .i64 j ∧ Wr wr (w.heap.size + 1 + 1) (w.heap.size + 1) (L6 ++ (pinss f.ins j).1) (B6 || (pinss f.ins j).2) ∧ Below (w.heap.size + 1) w1 wr) (fun i _ => f.ins.length - (intOf i).toNat)
          case atStart =>
            refine ⟨0, Nat.zero_le _, rfl, ?_, HB6.out⟩
            rw [HL6.out, HBB6.out]
            simpa [pinss] using HW6.out
          case round =>
            obtain ⟨j, hj, rfl, hwr, hbl⟩ := hrel
            by_cases hlj : j < f.ins.length
            · obtain ⟨b', off', hta', hbN', hcell'⟩ := HFI.out j (by simpa using hlj)
              have hN' : b' < w.heap.size + 1 := by omega
              have hpl' := pinss_len f.ins j
              have hxm : f.ins.getD j (0, 0, 0) ∈ f.ins := by
                have e : (f.ins.getD j (0, 0, 0)) = f.ins[j] := by rw [List.getD_eq_getElem?_getD, List.getElem?_eq_getElem hlj]; rfl
                rw [e]; exact List.getElem_mem _
              have hxw := HWI.out _ hxm
              have hpp' : pinss f.ins (j + 1) = ((pinss f.ins j).1 ++ (pinsB (f.ins.getD j (0, 0, 0)).1 (f.ins.getD j (0, 0, 0)).2.1 (f.ins.getD j (0, 0, 0)).2.2).1, (pinss f.ins j).2 || (pinsB (f.ins.getD j (0, 0, 0)).1 (f.ins.getD j (0, 0, 0)).2.1 (f.ins.getD j (0, 0, 0)).2.2).2) := rfl
              have hrow' : (f.ins.map insRow).getD j [] = insRow (f.ins.getD j (0, 0, 0)) := by simp [List.getD, hlj]
              rw [hrow'] at hcell'
              obtain ⟨x, hx⟩ : ∃ x, x = f.ins.getD j (0, 0, 0) := ⟨_, rfl⟩
              rw [← hx] at hcell' hpp' hxw
              obtain ⟨op, oa, ob⟩ := x
              obtain ⟨⟨o1, o2⟩, ⟨o3, o4⟩, ⟨o5, o6⟩⟩ := hxw
              have hca' : ∀ i, i < 3 → wr.cell? ⟨b', off' + j * 3 + i, none⟩ = (insRow (op, oa, ob))[i]? := fun i hi => by
                have h1 := (HB1.out.trans hbl).cell (p := ⟨b', off' + j * 3 + i, none⟩) hN'
                rw [h1, World.cell?_alloc_old _ _ _ (Nat.ne_of_lt hbN')]
                exact hcell' i hi
              have a0' : wr.cell? ⟨b', off' + j * 3, none⟩ = some (.int .i64 op) := hca' 0 (by omega)
              have a1' : wr.cell? ⟨b', off' + j * 3 + 1, none⟩ = some (.int .i64 oa) := hca' 1 (by omega)
              have a2' : wr.cell? ⟨b', off' + j * 3 + 2, none⟩ = some (.int .i64 ob) := hca' 2 (by omega)
              have hia' : ∀ w' : World, (Instr.indexAt 46 (.slice f.ao f.ins.length f.cap) (.int .i64 j)).run Tryd.prog w' = .ok (.pointer (some ⟨b', off' + j * 3, none⟩)) w' := index_at Tryd.underlying46 size50 hta' f.ins.length f.cap j hlj
              have hn7 : (L6 ++ (pinss f.ins j).1).length ≤ 40000000 := by rw [List.length_append]; omega
              have hF7 := (HF.out.alloc h0 (.cells #[.slice c.ta c.texts.length c.tc, .slice c.fa c.funs.length c.fc] 25)).below (HB1.out.trans hbl) (Nat.succ_pos _)
              have hsr7 := hbl.size
              have HF8 := Lib.hid (hF7.alloc (by omega) (.cells #[.int .i64 op, .int .i64 oa, .int .i64 ob] 50))
              have HW8 := Lib.hid (hwr.alloc (.cells #[.int .i64 op, .int .i64 oa, .int .i64 ob] 50))
              have HB8 := Lib.hid (hbl.alloc (by omega) (.cells #[.int .i64 op, .int .i64 oa, .int .i64 ob] 50))
              have HPP' := Lib.hid hpp'
              generalize hL7 : (L6 ++ (pinss f.ins j).1) = L7 at *
              generalize hB7 : (B6 || (pinss f.ins j).2) = B7 at *
              have HL7 := Lib.hid hL7
              have HB7 := Lib.hid hB7
              clear hL7 hB7 hpp' hwr hbl hcell' hca' hrow' hpl' hta' hx hxm hF7
              go_wp2_with fail
              refine (pins_any _ _ _ _ op oa ob _ HW8.out HF8.out (Nat.succ_pos _) (by omega) o3 o4 o5 o6).mono ?_
              rintro e w9 ⟨rfl, hwr9, hbl9⟩
              have HW9 := Lib.hid hwr9
              have HB9 := Lib.hid (HB8.out.trans hbl9)
              clear hwr9 hbl9 HW8 HB8 HF8
              go_wp2_with fail
              go_roundw
              case rel =>
                refine ⟨j + 1, by omega, by go_num, ?_, HB9.out⟩
                rw [HPP'.out]
                dsimp only
                rw [← List.append_assoc, HL7.out, ← Bool.or_assoc, HB7.out]
                exact HW9.out
              case measure => simp [intOf]; omega
            · obtain rfl : j = f.ins.length := by omega
              have HW9 := Lib.hid hwr
              have HB9 := Lib.hid hbl
              clear hwr hbl
              go_wp2_with fail
              go_roundw
              case rel =>
                refine ⟨k + 1, by omega, by go_num, ?_, HB9.out⟩
                rw [HPP.out]
                dsimp only
                rw [← List.append_assoc, HL3.out, ← Bool.or_assoc, HB3.out]
                have h := HW9.out
                rw [HL6.out, HBB6.out] at h
                simpa [pfun, List.append_assoc, Bool.or_assoc] using h
              case measure => simp [intOf]; omega
        · obtain rfl : k = c.funs.length := by omega
          have hsr := hbl.size
          have hpb : pbytes c = (L2 ++ (pfuns c.funs c.funs.length).1, B2 || (pfuns c.funs c.funs.length).2) := by
            rw [HL2.out, HB2.out]; rfl
          have HPB := Lib.hid hpb
          have hpl := pfuns_len c.funs c.funs.length (Nat.le_refl _)
          have htk := take_sum_le c.funs (fun f => f.ins.length + 1) c.funs.length
          have hn5 : (L2 ++ (pfuns c.funs c.funs.length).1).length ≤ 20000000 := by rw [List.length_append]; unfold wgt at hw; omega
          have hn6 : 3 ≤ (L2 ++ (pfuns c.funs c.funs.length).1).length := by rw [HL2.out]; simp only [List.length_append, List.length_cons, List.length_nil]; omega
          obtain ⟨hBP, v3, hp3, hown3⟩ := hwr
          have hvn : ¬v3 = .slice none 0 0 := by
            intro e; subst e
            rcases hown3.2 with ⟨_, h⟩ | ⟨_, _, _, h, _⟩
            · omega
            · simp at h
          obtain ⟨g', cap', hv'⟩ := own_shape hown3 hvn
          have hcv := conv_own 42 9 5 Tryd.underlying42 Tryd.underlying5 Tryd.underlying9 hown3 hvn
          rw [hv'] at hcv hp3
          have g0 := blk_cell hp3 0
          have g1 := blk_cell hp3 1
          simp only [List.getElem?_toArray, List.getElem?_cons_zero, List.getElem?_cons_succ] at g0 g1
          have HBL := Lib.hid hbl
          generalize hL3 : (L2 ++ (pfuns c.funs c.funs.length).1) = L3 at *
          generalize hB3 : (B2 || (pfuns c.funs c.funs.length).2) = B3 at *
          clear hL3 hB3 hpb hpl htk hp3 hown3 hbl hv' hvn HW2 HB12
          have hbe : Below w.heap.size w wr := (((Below.refl _ w).alloc (Nat.le_refl _) _).trans (HB1.out.mono (by omega))).trans (HBL.out.mono (by omega))
          have HBE := Lib.hid hbe
          clear hbe
          cases B3
          · by_cases hbig : 4000000 < (L3.length : Int)
            · have hfin : penc c = ([], 1) := by unfold penc; rw [HPB.out]; simp; omega
              have HFN := Lib.hid hfin
              clear hfin hcv
              go_wp2_with fail
              go_ret2
              exact ⟨by rw [HFN.out]; rfl, HBE.out⟩
            · have hfin : penc c = (L3, 0) := by unfold penc; rw [HPB.out]; simp; omega
              have HFN := Lib.hid hfin
              clear hfin
              go_wp2_with fail
              go_ret2
              exact ⟨by rw [HFN.out]; rfl, HBE.out⟩
          · have hfin : penc c = ([], 17) := by unfold penc; rw [HPB.out]; simp
            have HFN := Lib.hid hfin
            clear hfin hcv
            go_wp2_with fail
            go_ret2
            exact ⟨by rw [HFN.out]; rfl, HBE.out⟩

end Go.Proofs.YtebappmamaafaaaDoor
