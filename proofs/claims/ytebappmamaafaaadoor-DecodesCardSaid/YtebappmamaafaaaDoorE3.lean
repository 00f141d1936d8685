/-
  Proved: the contract of the program's writer.ins (an instruction's bytes). Conditions: numbers within int, the writer's bytes below 2^40.
-/
import Derived.Test.YtebappmamaafaaaDoorE2
import Derived.Deep.RegionHeld3
import Derived.Deep.DeepCutAuto
import Derived.Deep.RegionLaw
import Derived.Deep.AppendLies
set_option linter.unusedSimpArgs false
set_option linter.unusedVariables false
namespace Go.Proofs.YtebappmamaafaaaDoor
open Go.RowKit

theorem new_cells_d {w : World} {c : Array Value} {t : TypeId} (n : Nat) (hn : n = w.heap.size) : ∀ (j : Nat) (u : Value), c.toList[j]? = some u → (w.alloc (.cells c t)).drew.cell? ((⟨n, 0, none⟩ : Addr).add j) = some u := new_cells n hn
theorem lo_wrap (n : Int) : Value.int .u8 (IntKind.u8.wrap n) = bv (lo n) := by
  have h3 := Int.emod_nonneg n (b := 256) (by decide)
  have h4 := Int.emod_lt_of_pos n (b := 256) (by decide)
  simp [bv, lo, IntKind.wrap, IntKind.bits, IntKind.signed]
  omega

theorem next_at {P : Program} (w : World) (k : Nat) (f : List UInt8) (pos : Nat) (ty : TypeId) (c : UInt8) (hit : w.heap[k]? = some (.stringIter ⟨f.toArray⟩ pos)) (hlt : pos < f.length) (hc : f.getD pos 0 = c) (hc2 : c.toNat < 128) :
    (Instr.next (.pointer (some ⟨k, 0, none⟩)) true ty).run P w = .ok (.tuple #[.bool true, .int .i64 pos, .int .i32 c.toNat]) (w.iterAt k ⟨f.toArray⟩ (pos + 1)) := by
  have hlt' : pos < (ByteArray.mk f.toArray).size := by simpa [ByteArray.size] using hlt
  have e : (ByteArray.mk f.toArray)[pos]'hlt' = c := by rw [← hc]; simp [List.getD, hlt]; rfl
  rw [Lib.run_next_ascii_at w k _ pos ty hit hlt' (by rw [e]; exact hc2), e]
theorem next_end {P : Program} (w : World) (k : Nat) (f : List UInt8) (pos : Nat) (ty : TypeId) (hit : w.heap[k]? = some (.stringIter ⟨f.toArray⟩ pos)) (hlt : ¬ pos < f.length) :
    (Instr.next (.pointer (some ⟨k, 0, none⟩)) true ty).run P w = .ok (.tuple #[.bool false]) w :=
  Lib.run_next_end_at w k _ pos ty hit (by simpa [ByteArray.size] using hlt)
theorem iterPos_of {w : World} {k : Nat} {s : ByteArray} {pos : Nat} (h : w.heap[k]? = some (.stringIter s pos)) : w.iterPos k = pos := by simp [World.iterPos, h]

theorem four_bytes (n : Int) : [Value.int .u8 (n / 16777216 % 256), .int .u8 (n / 65536 % 256), .int .u8 (n / 256 % 256), .int .u8 (n % 256)] = (fourB n).map bv := by
  have h1 := Int.emod_nonneg (n / 256) (b := 256) (by decide)
  have h2 := Int.emod_lt_of_pos (n / 256) (b := 256) (by decide)
  have h3 := Int.emod_nonneg n (b := 256) (by decide)
  have h4 := Int.emod_lt_of_pos n (b := 256) (by decide)
  have h5 := Int.emod_nonneg (n / 65536) (b := 256) (by decide)
  have h6 := Int.emod_lt_of_pos (n / 65536) (b := 256) (by decide)
  have h7 := Int.emod_nonneg (n / 16777216) (b := 256) (by decide)
  have h8 := Int.emod_lt_of_pos (n / 16777216) (b := 256) (by decide)
  simp [fourB, bv, lo]
  omega

theorem new_four {w : World} (v : Int) (n : Nat) (hn : n = w.heap.size) : ∀ (j : Nat) (u : Value), ((fourB v).map bv)[j]? = some u → (w.alloc (.cells #[.int .u8 (v / 16777216 % 256), .int .u8 (v / 65536 % 256), .int .u8 (v / 256 % 256), .int .u8 (v % 256)] 5)).cell? ((⟨n, 0, none⟩ : Addr).add j) = some u := by
  rw [← four_bytes]
  exact new_cells n hn
theorem bv_ones (l : List UInt8) : ∀ u ∈ l.map bv, u.oneCell' = true := by
  intro u hu
  obtain ⟨_, _, rfl⟩ := List.mem_map.1 hu
  rfl

/-- the k-th operand -/
def opnd (a b : Int) (k : Nat) : Int := if k = 0 then a else b
/-- an operand's bytes by its form; does it not fit? -/
def stepP (c : UInt8) (v : Int) : List UInt8 × Bool :=
  if c = 110 then (twoB v, !fitsB v) else (fourB v, decide (1000000000 < v) || decide (v < -1000000000))
/-- of the first k operands -/
def prefP (f : List UInt8) (a b : Int) : Nat → List UInt8 × Bool
  | 0 => ([], false)
  | k + 1 => ((prefP f a b k).1 ++ (stepP (f.getD k 0) (opnd a b k)).1, (prefP f a b k).2 || (stepP (f.getD k 0) (opnd a b k)).2)
theorem prefP_len (f : List UInt8) (a b : Int) (k : Nat) : (prefP f a b k).1.length ≤ 4 * k := by
  induction k with
  | zero => simp [prefP]
  | succ k ih =>
    have : (stepP (f.getD k 0) (opnd a b k)).1.length ≤ 4 := by unfold stepP; split <;> simp [twoB, fourB]
    simp only [prefP, List.length_append]
    omega
/-- is one of the operands from n on, below k, not 0? -/
def zbad (a b : Int) (n : Nat) : Nat → Bool
  | 0 => false
  | k + 1 => zbad a b n k || (decide (n ≤ k) && !(opnd a b k == 0))
theorem zbad_lt (a b : Int) (n k : Nat) (h : k ≤ n) : zbad a b n k = false := by
  induction k with
  | zero => rfl
  | succ k ih => simp [zbad, ih (by omega), show ¬ n ≤ k by omega]
/-- what the program's writer writes of an instruction; does something not fit? -/
def pinsB (op a b : Int) : List UInt8 × Bool :=
  if op < 0 ∨ 26 ≤ op then ([], true)
  else (lo op :: (prefP (formB op).1 a b (formB op).1.length).1, (prefP (formB op).1 a b (formB op).1.length).2 || zbad a b (formB op).1.length 2)

/-- the table of forms lies in block 0 -/
def Forms (w : World) : Prop := ∀ k : Nat, k < 26 → w.cell? ⟨0, k, none⟩ = some (.string ⟨(formB k).1.toArray⟩)

def PinsPost (p B : Nat) (bs : List UInt8) (bad : Bool) (op a b : Int) (w : World) (e : Ending) (w' : World) : Prop :=
  e = .returned (.tuple #[]) ∧ Wr w' p B (bs ++ (pinsB op a b).1) (bad || (pinsB op a b).2) ∧ Below B w w'

theorem pins_out (p B : Nat) (bs : List UInt8) (bad : Bool) (op a b : Int) (w : World) (hw : Wr w p B bs bad) (h : op < 0 ∨ 26 ≤ op) :
    Calls Tryd.prog 17 #[.pointer (some ⟨p, 0, none⟩), .agg #[.int .i64 op, .int .i64 a, .int .i64 b]] w (PinsPost p B bs bad op a b w) := by
  obtain ⟨hB, v, hp, hown⟩ := hw
  have hne := own_ne hp hown (by decide)
  have hlt := lt_of_block hp
  have hfin : pinsB op a b = ([], true) := by rw [pinsB, if_pos h]
  have HE := Lib.hid hfin
  have c1 := blk_cell (blk_alloc hp (.cells #[.int .i64 op, .int .i64 a, .int .i64 b] 50)) 1
  have f1 := blk_free (blk_alloc hp (.cells #[.int .i64 op, .int .i64 a, .int .i64 b] 50)) 1
  have HP := Lib.hid hp
  have HO := Lib.hid hown
  clear hfin hp hown
  rcases h with h | h
  all_goals
    go_enter Tryd.func17, Tryd.ntmps17
    go_wp2
    go_end0
    refine ⟨rfl, ?_, ?_⟩
    · rw [HE.out, List.append_nil, Bool.or_true]
      exact ⟨hB, v, blk_alloc (blk_set HP.out 1 (.bool true)) _, (ownsRow_setCell_other HO.out hne _).alloc _⟩
    · exact ((Below.refl B w).setCell (p := ⟨p, 1, none⟩) hB _).alloc (by simp; omega) _

/-- behind the first byte: the writer, the instruction in its box -/
def HeadOut (p B : Nat) (bs : List UInt8) (bad : Bool) (op a b : Int) (w wx : World) : Prop :=
  Wr wx p B (bs ++ [lo op]) bad ∧ wx.heap[w.heap.size]? = some (.cells #[.int .i64 op, .int .i64 a, .int .i64 b] 50 (0, 0)) ∧ Below B w wx

theorem head_out {p B : Nat} {bs : List UInt8} {bad : Bool} {op a b : Int} {w w1 : World} {v v' : Value} (hB : B ≤ p) (hBw : B ≤ w.heap.size) (hp : w.heap[p]? = some (.cells #[v, .bool bad] 44 (0, 0))) (hown : w.ownsRow B 5 1 v bs.length (bs.map bv))
    (hown1 : w1.ownsRow B 5 1 v' (bs.length + 1) (bs.map bv ++ [.int .u8 (IntKind.u8.wrap op)]))
    (hgrow : ((w.alloc (.cells #[.int .i64 op, .int .i64 a, .int .i64 b] 50)).alloc (.cells #[.int .u8 (IntKind.u8.wrap op)] 5)).drew.grownBy w1 v.ownBlock) :
    HeadOut p B bs bad op a b w (w1.setCell ⟨p, 0, none⟩ v') := by
  have hne := own_ne hp hown (by decide)
  have hlt := lt_of_block hp
  have hp1 := blk_grown (w := (World.drew _)) (blk_alloc (blk_alloc hp _) _) hgrow hne
  have hne2 : v.ownBlock ≠ some w.heap.size := fun e => by have := (hown.lt _ e).2; omega
  have hbx := blk_grown (w := (World.drew _)) (blk_alloc (heap_alloc_new w _) _) hgrow hne2
  rw [lo_wrap, show [bv (lo op)] = [lo op].map bv from rfl, ← List.map_append] at hown1
  refine ⟨wr_stored hB rfl rfl hp1 hown1, blk_set_ne hbx (by omega) _ _, ?_⟩
  exact (((((Below.refl B w).alloc hBw _).alloc (by simp; omega) _).drew).grown hgrow (by simp; omega) (fun k hk => (hown.lt k hk).1)).setCell (p := ⟨p, 0, none⟩) hB _

set_option maxRecDepth 100000 in
set_option maxHeartbeats 4000000 in
theorem pins_head (p B : Nat) (bs : List UInt8) (bad : Bool) (op a b : Int) (w : World) (hw : Wr w p B bs bad) (a1 : -9223372036854775808 ≤ a) (a2 : a ≤ 9223372036854775807) (b1 : -9223372036854775808 ≤ b) (b2 : b ≤ 9223372036854775807) (hF : Forms w) (hB0 : 0 < B) (h1 : 0 ≤ op) (h2 : op < 26) (hl : bs.length ≤ 1099511627000) :
    Calls Tryd.prog 17 #[.pointer (some ⟨p, 0, none⟩), .agg #[.int .i64 op, .int .i64 a, .int .i64 b]] w (PinsPost p B bs bad op a b w) := by
  obtain ⟨hB, v, hp, hown⟩ := hw
  have hne := own_ne hp hown (by decide)
  have hlt := lt_of_block hp
  have c0 : (w.alloc (.cells #[.int .i64 op, .int .i64 a, .int .i64 b] 50)).cell? ⟨p, 0, none⟩ = some v := blk_cell (blk_alloc hp (.cells #[.int .i64 op, .int .i64 a, .int .i64 b] 50)) 0
  have f0 := blk_free (blk_alloc hp (.cells #[.int .i64 op, .int .i64 a, .int .i64 b] 50)) 0
  have HP := Lib.hid hp
  have HO := Lib.hid hown
  have HF := Lib.hid hF
  obtain ⟨i0, hi, hz0, hz1, hz2⟩ := info_parts info5
  have hne2 : v.ownBlock ≠ some w.heap.size := fun e => by have := (hown.lt _ e).2; omega
  clear hp hown hF
  have HI := Lib.hid hi
  clear hi
  go_enter Tryd.func17, Tryd.ntmps17
  go_upto_region 3 with fail
  go_cut [] (fun wx => HeadOut p B bs bad op a b w wx)
  case first =>
    go_region_law ((refine step_append_lies _ (by rfl) _ _ _ (by rfl) B 5 i0 _ 1 1 Tryd.underlying42 HI.out hz0 hz1 hz2 rfl (by omega) v bs.length (bs.map bv) (by rfl) (((HO.out.alloc _).alloc _).drew) ⟨w.heap.size + 1, 0, none⟩ 1 1 [.int .u8 (IntKind.u8.wrap op)] (by rfl) (by rfl) (new_cells_d (c := #[.int .u8 (IntKind.u8.wrap op)]) _ (by simp)) (by simp [Value.oneCell']) (by omega) (by unfold maxLen; omega) (by omega) (by simp; omega) (w.heap.size + 2) (by simp) ?_; intro gg cap w1 hown1 hgrow hat hlt1; have hp1 := blk_grown (w := (World.drew _)) (blk_alloc (blk_alloc HP.out _) _) hgrow hne; have c0' : w1.cell? ⟨p, 0, none⟩ = some v := blk_cell hp1 0; have f0' := blk_free hp1 0))
    all_goals (go_wp2_with fail; go_meet; exact head_out hB (by omega) HP.out HO.out ‹_› ‹_›)
  case rest =>
    have hT : wc.cell? ⟨0, op.toNat, none⟩ = some (.string ⟨(formB op).1.toArray⟩) := by
      have := HF.out op.toNat (by omega)
      rw [← (show ((op.toNat : Nat) : Int) = op from Int.toNat_of_nonneg h1)] 
      rw [hcut.2.2.cell (by exact hB0)]
      simpa [Int.toNat_of_nonneg h1] using this
    obtain ⟨hwr0, hbx, hbel⟩ := hcut
    clear c0 f0 hne hne2
    have hltb := lt_of_block hbx
    have hltp : p < wc.heap.size := by obtain ⟨_, v2, hp2, _⟩ := hwr0; exact lt_of_block hp2
    have h00 : 0 < wc.heap.size := by omega
    have e0 : wc.cell? ⟨w.heap.size, 0, none⟩ = some (.int .i64 op) := blk_cell hbx 0
    have e1 : wc.cell? ⟨w.heap.size, 1, none⟩ = some (.int .i64 a) := blk_cell hbx 1
    have e2 : wc.cell? ⟨w.heap.size, 2, none⟩ = some (.int .i64 b) := blk_cell hbx 2
    have HBX := Lib.hid hbx
    have HBE := Lib.hid hbel
    have HWR := Lib.hid hwr0
    clear hbx hbel hwr0
    obtain ⟨f, hf⟩ : ∃ f, f = (formB op).1 := ⟨_, rfl⟩
    have hfl : f.length ≤ 2 ∧ ∀ k, k < f.length → f.getD k 0 = 105 ∨ f.getD k 0 = 110 := by
      rw [hf]
      rcases formB_cases op with h | h | h | h | h <;> rw [h] <;> refine ⟨by decide, ?_⟩ <;> intro k hk <;> simp at hk
      · subst hk; simp
      · subst hk; simp
      · rcases (by omega : k = 0 ∨ k = 1) with h | h <;> subst h <;> simp
    rw [← hf] at hT
    have HFF := Lib.hid hf
    clear hf
    obtain ⟨hfl, hfe⟩ := hfl
    have HFE := Lib.hid hfe
    clear hfe
    go_wp2_with fail
    go_loopw [] (fun wr => ∃ pos : Nat, pos ≤ f.length ∧ wr.heap[wc.heap.size + 1]? = some (.stringIter ⟨f.toArray⟩ pos) ∧ wr.heap[wc.heap.size]? = some (.cells #[.int .i64 a, .int .i64 b] 80 (0, 0)) ∧ wr.heap[w.heap.size]? = some (.cells #[.int .i64 op, .int .i64 a, .int .i64 b] 50 (0, 0)) ∧ Wr wr p B (bs ++ [lo op] ++ (prefP f a b pos).1) (bad || (prefP f a b pos).2) ∧ Below B wc wr) (fun wr => f.length - wr.iterPos (wc.heap.size + 1))
    case atStart =>
      refine ⟨0, Nat.zero_le _, ?_, ?_, ?_, ?_, ?_⟩
      · have h := World.iter_heap (wc.alloc (.cells #[.int .i64 a, .int .i64 b] 80)) ⟨f.toArray⟩ 0
        rw [World.size_alloc] at h
        exact h
      · exact blk_alloc (heap_alloc_new wc _) _
      · exact blk_alloc (blk_alloc HBX.out _) _
      · rw [show prefP f a b 0 = ([], false) from rfl, List.append_nil, Bool.or_false]
        exact (HWR.out.alloc (.cells #[.int .i64 a, .int .i64 b] 80)).alloc (.stringIter ⟨f.toArray⟩ 0)
      · exact ((Below.refl B wc).alloc (by omega) _).alloc (by simp; omega) _
    case round =>
      obtain ⟨pos, hpos, hit, harr, hbox, hwr, hbl⟩ := hrel
      have hsz := hbl.size
      by_cases hlt : pos < f.length
      · have hv : -9223372036854775808 ≤ opnd a b pos ∧ opnd a b pos ≤ 9223372036854775807 := by unfold opnd; split <;> omega
        have hcell : harr = harr := rfl
        have hpl := prefP_len f a b pos
        have hp2 : pos < 2 := by omega
        obtain ⟨w3, hw3⟩ : ∃ w3, w3 = wr.iterAt (wc.heap.size + 1) ⟨f.toArray⟩ (pos + 1) := ⟨_, rfl⟩
        have hwr3 := hwr.iterAt hit (pos + 1)
        have harr3 := iter_cells (pos' := pos + 1) hit harr
        have hbox3 := iter_cells (pos' := pos + 1) hit hbox
        have hit3 := Lib.iterAt_heap wr _ _ pos (pos + 1) hit
        have hbl3 := Lib.below_iterAt hbl (k := wc.heap.size + 1) (by omega) ⟨f.toArray⟩ (pos + 1)
        have hsz3 := Lib.iterAt_size wr (wc.heap.size + 1) ⟨f.toArray⟩ (pos + 1)
        rw [← hw3] at hwr3 harr3 hbox3 hit3 hbl3 hsz3
        have hca : w3.cell? ⟨wc.heap.size, pos, none⟩ = some (.int .i64 (opnd a b pos)) := by
          rw [blk_cell harr3]
          rcases (by omega : pos = 0 ∨ pos = 1) with h | h <;> subst h <;> rfl
        have hpp : prefP f a b (pos + 1) = ((prefP f a b pos).1 ++ (stepP (f.getD pos 0) (opnd a b pos)).1, (prefP f a b pos).2 || (stepP (f.getD pos 0) (opnd a b pos)).2) := rfl
        have hip := iterPos_of hit
        rcases HFE.out pos hlt with hc | hc
        · have hnx : ∀ ty, (Instr.next (.pointer (some ⟨wc.heap.size + 1, 0, none⟩)) true ty).run Tryd.prog wr = _ := fun ty => next_at wr _ f pos ty 105 hit hlt hc (by decide)
          rw [← hw3] at hnx
          rw [hc, show stepP 105 (opnd a b pos) = (fourB (opnd a b pos), decide (1000000000 < opnd a b pos) || decide (opnd a b pos < -1000000000)) from rfl] at hpp
          generalize hv0 : opnd a b pos = v0 at *
          have HV0 := Lib.hid hv0
          have HPP := Lib.hid hpp
          have HWR3 := Lib.hid hwr3
          have HARR3 := Lib.hid harr3
          have HBOX3 := Lib.hid hbox3
          have HIT3 := Lib.hid hit3
          have HBL3 := Lib.hid hbl3
          have HIP := Lib.hid hip
          obtain ⟨hv1, hv2⟩ := hv
          clear hv0 hpp hwr3 harr3 hbox3 hit3 hbl3 hip hit harr hbox hwr hbl hcell hc hw3 hsz3 HWR
          have HF4 := Lib.hid (four_bytes v0)
          obtain ⟨_, v3, hp3, hown3⟩ := HWR3.out
          have hne3 := own_ne hp3 hown3 (by decide)
          have hltp3 := lt_of_block hp3
          have g0 : w3.cell? ⟨p, 0, none⟩ = some v3 := blk_cell hp3 0
          have g1 : w3.cell? ⟨p, 1, none⟩ = some (.bool (bad || (prefP f a b pos).2)) := blk_cell hp3 1
          have k0 := blk_free hp3 0
          have k1 := blk_free hp3 1
          have HP3 := Lib.hid hp3
          have HO3 := Lib.hid hown3
          have hlen3 := hown3.1
          have hn3 : (bs ++ [lo op] ++ (prefP f a b pos).1).length ≤ 1099511627700 := by simp only [List.length_append, List.length_singleton]; omega
          generalize hL3 : (bs ++ [lo op] ++ (prefP f a b pos).1) = L3 at *
          generalize hB3 : (bad || (prefP f a b pos).2) = B3 at *
          have HL3 := Lib.hid hL3
          have HB3 := Lib.hid hB3
          clear hL3 hB3
          clear hp3 hown3 hlen3 HWR3
          have hdd : B3 = true ∨ (B3 = false ∧ decide (1000000000 < v0) = true) ∨ (B3 = false ∧ decide (1000000000 < v0) = false ∧ decide (v0 < -1000000000) = true) ∨ (B3 = false ∧ decide (1000000000 < v0) = false ∧ decide (v0 < -1000000000) = false) := by
            cases B3 <;> cases decide (1000000000 < v0) <;> cases decide (v0 < -1000000000) <;> simp
          rcases hdd with rfl | ⟨rfl, d1⟩ | ⟨rfl, d1, d2⟩ | ⟨rfl, d1, d2⟩
          all_goals
            go_wp2_with (first | (at_builtin; go_must (refine wpList_append_own _ rfl (.tmp 75) (.tmp 87) 42 rfl B 5 i0 (.int .u8 0) 1 1 Tryd.underlying42 HI.out hz0 hz1 hz2 rfl (by decide) v3 L3.length (L3.map bv) rfl ((ownsRow_setCell_other HO3.out hne3 _).alloc _) ⟨w3.heap.size, 0, none⟩ 4 4 ((fourB v0).map bv) rfl rfl (new_four v0 _ (by simp)) (bv_ones _) (by unfold maxLen; omega) (by omega) (by simp; omega) ?_)))
            intro v' w1 hown1 hg1 hnil
            obtain ⟨g', cap', hv'⟩ := own_shape hown1 hnil
            rw [hv'] at hown1 ⊢
            clear hnil hv'
            rw [← List.map_append] at hown1
            have hp1 := blk_grown (blk_alloc (blk_set HP3.out 1 _) _) hg1 hne3
            have q0 : w1.cell? ⟨p, 0, none⟩ = some v3 := blk_cell hp1 0
            have r0 := blk_free hp1 0
            have R := Lib.hid (wr_stored (v := v3) hB rfl rfl hp1 hown1)
            have Ro := Lib.hid (((((Lib.OthersKept.refl 5 (some p) w3).setCell ⟨p, 1, none⟩ rfl _).alloc _).grown hg1 (fun g hg => by obtain ⟨c, fz, h⟩ := own_row HO3.out g hg; exact ⟨c, fz, blk_alloc (blk_set_ne h (fun e => hne3 (by rw [hg, e])) _ _) _⟩)).setCell ⟨p, 0, none⟩ rfl (.slice (some ⟨g', 0, none⟩) (L3.length + 4) cap'))
            have Rb := Lib.hid ((((HBL3.out.setCell (p := ⟨p, 1, none⟩) hB _).alloc (by simp; omega) _).grown hg1 (by simp; omega) (fun k hk => (HO3.out.lt k hk).1)).setCell (p := ⟨p, 0, none⟩) hB (.slice (some ⟨g', 0, none⟩) (L3.length + 4) cap'))
            clear hp1 hown1 hg1 g1 k1 hne3 HF4
            go_wp2_with fail
            go_roundw
            case rel =>
              have hit4 := Ro.out _ _ HIT3.out (by simp; omega) (by intro c fz h; cases h)
              refine ⟨pos + 1, by omega, hit4, Ro.out _ _ HARR3.out (by simp; omega) (by intro c fz h; simp at h), Ro.out _ _ HBOX3.out (by simp; omega) (by intro c fz h; simp at h), ?_, Rb.out⟩
              rw [HPP.out]
              dsimp only
              rw [← List.append_assoc, HL3.out, ← Bool.or_assoc, HB3.out]
              first | exact R.out | (rw [d1]; exact R.out) | (rw [d1, d2]; exact R.out)
            case measure =>
              have hit4 := Ro.out _ _ HIT3.out (by simp; omega) (by intro c fz h; cases h)
              rw [iterPos_of hit4, HIP.out]
              omega
        · have hnx : ∀ ty, (Instr.next (.pointer (some ⟨wc.heap.size + 1, 0, none⟩)) true ty).run Tryd.prog wr = _ := fun ty => next_at wr _ f pos ty 110 hit hlt hc (by decide)
          rw [← hw3] at hnx
          rw [hc, show stepP 110 (opnd a b pos) = (twoB (opnd a b pos), !fitsB (opnd a b pos)) from rfl] at hpp
          generalize hv0 : opnd a b pos = v0 at *
          have HV0 := Lib.hid hv0
          have HPP := Lib.hid hpp
          have HWR3 := Lib.hid hwr3
          have HARR3 := Lib.hid harr3
          have HBOX3 := Lib.hid hbox3
          have HIT3 := Lib.hid hit3
          have HBL3 := Lib.hid hbl3
          have HIP := Lib.hid hip
          obtain ⟨hv1, hv2⟩ := hv
          clear hv0 hpp hwr3 harr3 hbox3 hit3 hbl3 hip hit harr hbox hwr hbl hcell hc hw3 hsz3 HWR
          go_wp2_with (first | (go_at_call 16; go_must (refine (two_any p B v0 _ _ _ HWR3.out hv1 hv2 (by simp only [List.length_append, List.length_singleton]; omega)).mono ?_); rintro e w4 ⟨rfl, hwr4, hbl4, hok4⟩))
          go_roundw
          case rel =>
            have hit4 := hok4 _ _ HIT3.out (by simp; omega) (by intro c fz h; cases h)
            refine ⟨pos + 1, by omega, hit4, hok4 _ _ HARR3.out (by simp; omega) (by intro c fz h; simp at h), hok4 _ _ HBOX3.out (by simp; omega) (by intro c fz h; simp at h), ?_, HBL3.out.trans hbl4⟩
            rw [HPP.out]
            simpa [List.append_assoc, Bool.or_assoc] using hwr4
          case measure =>
            have hit4 := hok4 _ _ HIT3.out (by simp; omega) (by intro c fz h; cases h)
            rw [iterPos_of hit4, HIP.out]
            omega
      · have hps : pos = f.length := by omega
        subst hps
        have hnx : ∀ ty, (Instr.next (.pointer (some ⟨wc.heap.size + 1, 0, none⟩)) true ty).run Tryd.prog wr = _ := fun ty => next_end wr _ f f.length ty hit hlt
        have hT3 : wr.cell? ⟨0, op.toNat, none⟩ = some (.string ⟨f.toArray⟩) := (hbl.cell (p := ⟨0, op.toNat, none⟩) hB0).trans hT
        have hx0 : wr.cell? ⟨w.heap.size, 0, none⟩ = some (.int .i64 op) := blk_cell hbox 0
        have HWR3 := Lib.hid hwr
        have HARR3 := Lib.hid harr
        have HBOX3 := Lib.hid hbox
        have HBL3 := Lib.hid hbl
        have hpl := prefP_len f a b f.length
        have hn3 : (bs ++ [lo op] ++ (prefP f a b f.length).1).length ≤ 1099511627700 := by simp only [List.length_append, List.length_singleton]; omega
        have hfin : pinsB op a b = (lo op :: (prefP f a b f.length).1, (prefP f a b f.length).2 || zbad a b f.length 2) := by
          rw [pinsB, if_neg (by omega), ← HFF.out]
        have HFIN := Lib.hid hfin
        generalize hL3 : (bs ++ [lo op] ++ (prefP f a b f.length).1) = L3 at *
        generalize hB3 : (bad || (prefP f a b f.length).2) = B3 at *
        have HL3 := Lib.hid hL3
        have HB3 := Lib.hid hB3
        have hsl : (ByteArray.mk f.toArray).size = f.length := by simp [ByteArray.size]
        clear hL3 hB3 hwr harr hbox hbl hfin hit hpl HWR HBX
        go_wp2_with fail
        have HSL := Lib.hid hsl
        clear hsl
        go_loopw [8] (fun i wz => ∃ k : Nat, f.length ≤ k ∧ k ≤ 2 ∧ i = .int .i64 k ∧ wz.heap[wc.heap.size]? = some (.cells #[.int .i64 a, .int .i64 b] 80 (0, 0)) ∧ Wr wz p B L3 (B3 || zbad a b f.length k) ∧ Below B wc wz) (fun i _ => 2 - (intOf i).toNat)
        case atStart =>
          refine ⟨f.length, Nat.le_refl _, hfl, by first | rfl | (rw [HSL.out]), HARR3.out, ?_, HBL3.out⟩
          rw [zbad_lt _ _ _ _ (Nat.le_refl _), Bool.or_false]
          exact HWR3.out
        case round =>
          obtain ⟨k, hk1, hk2, rfl, harr, hwr, hbz⟩ := hrel
          by_cases hlt : k < 2
          · have hsz4 := hbz.size
            have hcell : wr.cell? ⟨wc.heap.size, k, none⟩ = some (.int .i64 (opnd a b k)) := by
              rw [blk_cell harr]
              rcases (by omega : k = 0 ∨ k = 1) with h | h <;> subst h <;> rfl
            have hzz : zbad a b f.length (k + 1) = (zbad a b f.length k || !(opnd a b k == 0)) := by simp [zbad, hk1]
            have HZZ := Lib.hid hzz
            obtain ⟨_, v4, hp4, hown4⟩ := hwr
            have g1 : wr.cell? ⟨p, 1, none⟩ = some (.bool (B3 || zbad a b f.length k)) := blk_cell hp4 1
            have k1 := blk_free hp4 1
            have HP4 := Lib.hid hp4
            have HO4 := Lib.hid hown4
            have hne4 := own_ne hp4 hown4 (by decide)
            have HARR4 := Lib.hid harr
            have HBZ := Lib.hid hbz
            generalize opnd a b k = v0 at *
            generalize hB4 : (B3 || zbad a b f.length k) = B4 at *
            have HB4 := Lib.hid hB4
            clear hzz hp4 hown4 hB4 harr hbz
            cases B4
            all_goals
              go_wp2_with fail
              go_roundw
              case rel =>
                refine ⟨k + 1, by omega, by omega, by go_num, blk_set_ne HARR4.out (by omega) _ _, ?_, HBZ.out.setCell (p := ⟨p, 1, none⟩) (by simp; omega) _⟩
                rw [HZZ.out, ← Bool.or_assoc, HB4.out]
                exact ⟨hB, v4, blk_set HP4.out 1 _, ownsRow_setCell_other HO4.out hne4 _⟩
              case measure => simp [intOf]; omega
          · obtain rfl : k = 2 := by omega
            have HWR4 := Lib.hid hwr
            have HBZ := Lib.hid hbz
            clear hwr hbz harr
            go_wp2_with fail
            go_end0
            refine ⟨rfl, ?_, HBE.out.trans (HBZ.out.mono (by omega))⟩
            rw [HFIN.out]
            dsimp only
            rw [← Bool.or_assoc, HB3.out, List.append_cons, HL3.out]
            exact HWR4.out

theorem pins_any (p B : Nat) (bs : List UInt8) (bad : Bool) (op a b : Int) (w : World) (hw : Wr w p B bs bad) (hF : Forms w) (hB0 : 0 < B) (hl : bs.length ≤ 1099511627000)
    (a1 : -9223372036854775808 ≤ a) (a2 : a ≤ 9223372036854775807) (b1 : -9223372036854775808 ≤ b) (b2 : b ≤ 9223372036854775807) :
    Calls Tryd.prog 17 #[.pointer (some ⟨p, 0, none⟩), .agg #[.int .i64 op, .int .i64 a, .int .i64 b]] w (PinsPost p B bs bad op a b w) := by
  by_cases h : op < 0 ∨ 26 ≤ op
  · exact pins_out p B bs bad op a b w hw h
  · exact pins_head p B bs bad op a b w hw a1 a2 b1 b2 hF hB0 (by omega) (by omega) hl

end Go.Proofs.YtebappmamaafaaaDoor
