/-
  Proved: the contract of the program's Decode. Condition: the tables.
-/
import Derived.Test.YtebappmamaafaaaDoorD4
import Derived.Test.YtebappmamaafaaaDoorD5
set_option linter.unusedSimpArgs false
set_option linter.unusedVariables false
namespace Go.Proofs.YtebappmamaafaaaDoor
open Go.RowKit

/-- the variable errors.errorType -/
def ErrT (w : World) : Prop := w.cell? ⟨1, 0, none⟩ = some (.iface 123 (.agg #[.pointer (some ⟨3, 64, none⟩)]))
theorem ErrT.below {w w' : World} (h : ErrT w) (hb : Below w.heap.size w w') : ErrT w' := (hb.cell (p := ⟨1, 0, none⟩) (World.block_lt_of_cell? w _ h)).trans h
def noCd : Cd := ⟨none, 0, none, 0, [], []⟩
theorem noCd_own (w : World) (B : Nat) : CodeOwn w B noCd := ⟨⟨rfl, .inl ⟨rfl, rfl⟩⟩, ⟨rfl, .inl ⟨rfl, rfl⟩⟩, (fun f hf => by cases hf), (fun f hf => by cases hf)⟩
theorem CodeOwn.base {W : World} {B B' : Nat} {c : Cd} (h : CodeOwn W B' c) (hB : B ≤ B') : CodeOwn W B c := ⟨own_base h.1 hB, own_base h.2.1 hB, fun f hf => own_base (h.2.2.1 f hf) hB, h.2.2.2⟩
/-- what Decode answers -/
def decF (s : ByteArray) : Int × Int := match codeD s with | .inl f => f | .inr _ => (0, 0)
def decC (s : ByteArray) : Cc := match codeD s with | .inl _ => ([], []) | .inr c => c
def DecPost (s : ByteArray) (w : World) (e : Ending) (w' : World) : Prop :=
  ∃ c : Cd, c.ct = decC s ∧ e = .returned (.tuple #[c.val, .agg #[.int .i64 (decF s).1, .int .i64 (decF s).2]]) ∧ CodeOwn w' w.heap.size c ∧ Below w.heap.size w w'
/-- what region 5 reads -/
abbrev S5 (bt : Nat) (v : Value) (b : Nat) (f : Int × Int) (W : World) : Prop :=
  W.cell? ⟨bt, 0, none⟩ = some v ∧ W.cell? ⟨b, 0, none⟩ = some (.int .i64 f.1) ∧ W.cell? ⟨b, 1, none⟩ = some (.int .i64 f.2)
theorem S5.drew {bt : Nat} {v : Value} {b : Nat} {f : Int × Int} {W : World} (h : S5 bt v b f W) : S5 bt v b f W.drew := h
theorem S5.set {bt : Nat} {v : Value} {b : Nat} {f : Int × Int} {W : World} (h : S5 bt v b f W) (q i : Nat) (u : Value) (h1 : q ≠ bt) (h2 : q ≠ b) : S5 bt v b f (W.setCell ⟨q, i, none⟩ u) :=
  ⟨(World.cell?_setCell_far W _ _ u h1).trans h.1, (World.cell?_setCell_far W _ _ u h2).trans h.2.1, (World.cell?_setCell_far W _ _ u h2).trans h.2.2⟩

set_option maxRecDepth 100000 in
set_option maxHeartbeats 4000000 in
theorem pdec_any (s : ByteArray) (w : World) (hF : Forms w) (hE : ErrT w) :
    Calls Tryd.prog 13 #[.string s] w (DecPost s w) := by
  have HF := Lib.hid hF
  have HE := Lib.hid hE
  have h1 : 1 < w.heap.size := World.block_lt_of_cell? w _ hE
  obtain ⟨W, hW⟩ : ∃ W, W = ((w.alloc (.cells #[.slice none 0 0, .slice none 0 0] 25)).alloc (.cells #[.int .i64 0, .int .i64 0] 34)).alloc (.cells #[.string s, .int .i64 0] 62) := ⟨_, rfl⟩
  have hb : Below w.heap.size w W := by rw [hW]; exact balloc (balloc (balloc (Below.refl _ _) _) _) _
  have hc0 : W.heap[w.heap.size]? = some (.cells #[.slice none 0 0, .slice none 0 0] 25 (0, 0)) := by rw [hW]; exact blk_alloc (blk_alloc (heap_alloc_new w _) _) _
  have hf0 : W.heap[w.heap.size + 1]? = some (.cells #[.int .i64 0, .int .i64 0] 34 (0, 0)) := by
    rw [hW]
    have := heap_alloc_new (w.alloc (.cells #[.slice none 0 0, .slice none 0 0] 25)) (.cells #[.int .i64 0, .int .i64 0] 34)
    rw [World.size_alloc] at this
    exact blk_alloc this _
  have hr0 : Rdr W (w.heap.size + 1 + 1) s 0 := by
    rw [hW]
    have := heap_alloc_new ((w.alloc (.cells #[.slice none 0 0, .slice none 0 0] 25)).alloc (.cells #[.int .i64 0, .int .i64 0] 34)) (.cells #[.string s, .int .i64 0] 62)
    rw [World.size_alloc, World.size_alloc] at this
    exact this
  have hWs : W.heap.size = w.heap.size + 1 + 1 + 1 := by rw [hW, World.size_alloc, World.size_alloc, World.size_alloc]
  have HWS := Lib.hid hWs
  have HW := Lib.hid hW
  have HB := Lib.hid hb
  have HC0 := Lib.hid hc0
  have HF0 := Lib.hid hf0
  have HR0 := Lib.hid hr0
  clear hF hE hb hc0 hf0 hr0 hW hWs
  go_enter Tryd.func13, Tryd.ntmps13
  go_wp2_with fail
  rw [← HW.out]
  refine (pcodeD_any (w.heap.size + 1 + 1) s W HR0.out (HF.out.later (by omega) HB.out)).mono ?_
  intro e w1 hpost
  unfold CodeDPost at hpost
  cases hn : codeD s with
  | inl f =>
    rw [hn] at hpost
    obtain ⟨ao, n1, cap1, ao2, n2, cap2, b, a', rfl, hst, her⟩ := hpost
    have hfin : decC s = ([], []) ∧ decF s = f := by unfold decC decF; rw [hn]; exact ⟨rfl, rfl⟩
    have HFIN := Lib.hid hfin
    have HB1 : Hid (Below w.heap.size w w1) := HB.out.grown hst.gr (HB.out.size) (fun k hk => by cases hk; omega)
    have hc1 := blk_grown HC0.out hst.gr (by simp; omega)
    have hf1 := blk_grown HF0.out hst.gr (by simp)
    have lt1 : w.heap.size + 1 + 1 < w1.heap.size := lt_of_block hst.rd
    obtain ⟨w2, hw2⟩ : ∃ w2, w2 = (w1.alloc (.cells #[.slice ao n1 cap1, .slice ao2 n2 cap2] 25)).alloc (.cells #[.pointer none] 67) := ⟨_, rfl⟩
    have hb2 : Below w1.heap.size w1 w2 := by rw [hw2]; exact balloc (balloc (Below.refl _ _) _) _
    have hs2 : w2.heap.size = w1.heap.size + 1 + 1 := by rw [hw2, World.size_alloc, World.size_alloc]
    have hv2 : w2.heap[w1.heap.size + 1]? = some (.cells #[.pointer none] 67 (0, 0)) := by
      rw [hw2]
      have := heap_alloc_new (w1.alloc (.cells #[.slice ao n1 cap1, .slice ao2 n2 cap2] 25)) (.cells #[.pointer none] 67)
      rw [World.size_alloc] at this
      exact this
    have HC2 := Lib.hid (blk_below hc1 hb2 (by omega))
    have HF2 := Lib.hid (blk_below hf1 hb2 (by omega))
    have HER2 := Lib.hid (blk_below her hb2 (lt_of_block her))
    have hbl : b < w1.heap.size := lt_of_block her
    have hbc : b ≠ w.heap.size ∧ b ≠ w.heap.size + 1 := by
      unfold ErrAt at her
      constructor
      · intro e; rw [e, hc1] at her; simp at her
      · intro e; rw [e, hf1] at her; simp at her
    have hE2 : ErrT w2 := HE.out.below (HB1.out.trans (hb2.mono (by omega)))
    have HE2 := Lib.hid hE2
    have HW2 := Lib.hid hw2
    have HS2 := Lib.hid hs2
    have HV2 := Lib.hid hv2
    have HB2 := Lib.hid hb2
    obtain ⟨hbc1, hbc2⟩ := hbc
    clear hn hst her hc1 hf1 hfin hw2 hb2 hs2 hv2 hE2
    unfold cval
    go_wp2_with fail
    rw [← HW2.out]
    refine (as_hit ⟨b, 0, none⟩ ⟨w1.heap.size + 1, 0, none⟩ (.pointer none) _ HE2.out (blk_cell HV2.out 0) (blk_free HV2.out 0)).mono ?_
    rintro e w3 ⟨rfl, hw3⟩
    have hs3 : w2.heap.size ≤ w3.heap.size := by rw [hw3]; simp [World.setCell]; omega
    have hv3 : w3.heap[w1.heap.size + 1]? = some (.cells #[.pointer (some ⟨b, 0, none⟩)] 67 (0, 0)) := by rw [hw3]; exact blk_set (blk_alloc (blk_alloc (blk_alloc (blk_alloc HV2.out _) _) _) _) 0 _
    have hgo : ∀ {q : Nat} {x : Obj}, w2.heap[q]? = some x → q ≠ w1.heap.size + 1 → w3.heap[q]? = some x := fun h hne => by rw [hw3]; exact blk_set_ne (blk_alloc (blk_alloc (blk_alloc (blk_alloc h _) _) _) _) hne _ _
    have hc3 := hgo HC2.out (by omega)
    have hf3 := hgo HF2.out (by omega)
    have her3 := hgo HER2.out (by omega)
    have hB3 : Below w.heap.size w w3 := by
      rw [hw3]
      have h2 := HB1.out.trans (HB2.out.mono (by omega))
      exact (balloc (balloc (balloc (balloc h2 _) _) _) _).setCell (p := ⟨w1.heap.size + 1, 0, none⟩) (by simp; omega) _
    have HB3 := Lib.hid hB3
    have HC3 := Lib.hid hc3
    have HF3 := Lib.hid hf3
    have HER3 := Lib.hid her3
    have hS : S5 (w1.heap.size + 1) (.pointer (some ⟨b, 0, none⟩)) b f w3 := ⟨blk_cell hv3 0, blk_cell her3 0, blk_cell her3 1⟩
    have x0 : w3.cell? ⟨w.heap.size, 0, none⟩ = some (.slice none 0 0) := blk_cell hc3 0
    have x1 : w3.cell? ⟨w.heap.size, 1, none⟩ = some (.slice none 0 0) := blk_cell hc3 1
    have y0 : w3.cell? ⟨w.heap.size + 1, 0, none⟩ = some (.int .i64 0) := blk_cell hf3 0
    have y1 : w3.cell? ⟨w.heap.size + 1, 1, none⟩ = some (.int .i64 0) := blk_cell hf3 1
    have z0 := blk_free hc3 0
    have z1 := blk_free hc3 1
    have u0 := blk_free hf3 0
    have u1 := blk_free hf3 1
    have l3 : w.heap.size < w3.heap.size := lt_of_block hc3
    have l4 : w.heap.size + 1 < w3.heap.size := lt_of_block hf3
    clear hw3 hs3 hv3 hgo hc3 hf3 her3 hB3
    go_wp2_with fail
    go_region_held3 (fun w' => S5 (w1.heap.size + 1) (.pointer (some ⟨b, 0, none⟩)) b f w')
      (repeat (first | exact hS | apply S5.drew | (refine S5.set ?_ _ _ _ (by omega) (by omega))))
      (fail)
    all_goals go_wp2_with fail
    all_goals
      refine bodyPost_ret (v := .tuple #[noCd.val, .agg #[.int .i64 f.1, .int .i64 f.2]]) (by simp [results, Tryd.results13, go_sem, *]; rfl) rfl ?_
      refine ⟨noCd, by rw [HFIN.out.1]; rfl, by rw [HFIN.out.2], noCd_own _ _, ?_⟩
      repeat (first | exact HB3.out | apply Below.drew | refine Below.setCell ?_ (by simp) _)
  | inr ct =>
    rw [hn] at hpost
    obtain ⟨c, a', hct, rfl, hst, hca⟩ := hpost
    have hfin : decC s = ct ∧ decF s = (0, 0) := by unfold decC decF; rw [hn]; exact ⟨rfl, rfl⟩
    have HFIN := Lib.hid hfin
    have HB1 : Hid (Below w.heap.size w w1) := HB.out.grown hst.gr (HB.out.size) (fun k hk => by cases hk; omega)
    have hc1 := blk_grown HC0.out hst.gr (by simp; omega)
    have hf1 := blk_grown HF0.out hst.gr (by simp)
    have lt1 : w.heap.size + 1 + 1 < w1.heap.size := lt_of_block hst.rd
    have HC1 := Lib.hid hc1
    have HF1 := Lib.hid hf1
    have HCA := Lib.hid hca
    have x0 : w1.cell? ⟨w.heap.size, 0, none⟩ = some (.slice none 0 0) := blk_cell hc1 0
    have x1 : w1.cell? ⟨w.heap.size, 1, none⟩ = some (.slice none 0 0) := blk_cell hc1 1
    have y0 : w1.cell? ⟨w.heap.size + 1, 0, none⟩ = some (.int .i64 0) := blk_cell hf1 0
    have y1 : w1.cell? ⟨w.heap.size + 1, 1, none⟩ = some (.int .i64 0) := blk_cell hf1 1
    have z0 := blk_free hc1 0
    have z1 := blk_free hc1 1
    have u0 := blk_free hf1 0
    have u1 := blk_free hf1 1
    have l1 : w.heap.size < w1.heap.size := by omega
    have l2 : w.heap.size + 1 < w1.heap.size := by omega
    clear hn hst hca hc1 hf1 hfin
    unfold Cd.val
    go_wp2_with (first | (go_at_call 24; refine (as_nil _ _).mono ?_; rintro e w' ⟨rfl, rfl⟩))
    refine bodyPost_ret (v := .tuple #[c.val, .agg #[.int .i64 0, .int .i64 0]]) (by simp [results, Tryd.results13, go_sem, *]; rfl) rfl ?_
    refine ⟨c, by rw [HFIN.out.1]; exact hct, by rw [HFIN.out.2], ?_, ?_⟩
    · have hws := HWS.out
      exact ((((((HCA.out.set (by omega) _ _).set (by omega) _ _).set (by omega) _ _).set (by omega) _ _).alloc _).alloc _).base (by omega)
    · exact balloc (balloc ((((HB1.out.setCell (p := ⟨w.heap.size, 0, none⟩) (Nat.le_refl _) _).setCell (p := ⟨w.heap.size, 1, none⟩) (Nat.le_refl _) _).setCell (p := ⟨w.heap.size + 1, 0, none⟩) (by simp) _).setCell (p := ⟨w.heap.size + 1, 1, none⟩) (by simp) _) _) _

end Go.Proofs.YtebappmamaafaaaDoor
