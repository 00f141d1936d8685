/-
  Proved: the walk of the law Decodes. Condition: the tables.
-/
import Derived.Test.YtebappmamaafaaaDoorD10
import Derived.Test.YtebappmamaafaaaDoorD14
set_option linter.unusedSimpArgs false
set_option linter.unusedVariables false
namespace Go.Proofs.YtebappmamaafaaaDoor
open Go.RowKit

theorem dec_wgt {s : ByteArray} {c : Cd} (h : c.ct = decC s) : wgt c ≤ 4000000 := by
  cases hd : codeD s with
  | inl f =>
    have h2 : decC s = ([], []) := by unfold decC; rw [hd]
    rw [h2] at h
    unfold Cd.ct at h
    simp only [Prod.mk.injEq, List.map_eq_nil_iff] at h
    unfold wgt
    rw [h.1, h.2]
    simp
  | inr ct =>
    have h2 : decC s = ct := by unfold decC; rw [hd]
    rw [h2] at h
    rw [← h] at hd
    obtain ⟨h1, h3, h4⟩ := code_dec hd
    have h5 := wgt_cb c h1
    rw [h3, sizeL] at h5
    omega

theorem wgt_lens4 {c : Cd} (h : wgt c ≤ 4000000) : c.texts.length ≤ 4611686018427387904 ∧ c.funs.length ≤ 4611686018427387904 ∧ ∀ f ∈ c.funs, f.ins.length ≤ 4611686018427387904 := by
  have a1 := len_le_sum c.texts (fun s => s.size)
  have a2 := len_le_sum c.funs (fun f => f.ins.length)
  unfold wgt at h
  refine ⟨by omega, by omega, fun f hf => ?_⟩
  obtain ⟨i, hi, rfl⟩ := List.getElem_of_mem hf
  have a3 := fun_le c.funs i hi
  have e1 : c.funs.getD i nofn = c.funs[i] := by rw [List.getD_eq_getElem?_getD, List.getElem?_eq_getElem hi]; rfl
  rw [e1] at a3
  omega

set_option maxRecDepth 100000 in
set_option maxHeartbeats 4000000 in
theorem decodes_any (s : ByteArray) (w : World) (hF : Forms w) (hE : ErrT w) :
    Calls Tryd.prog 5 #[.string s] w fun e w' => e = .returned (.bool true) ∧ Below w.heap.size w w' := by
  have HF := Lib.hid hF
  have HE := Lib.hid hE
  clear hF hE
  go_enter Tryd.func5, Tryd.ntmps5
  go_wp2_with fail
  refine (pdec_any s w HF.out HE.out).mono ?_
  rintro e w1 ⟨c, hct, rfl, hco, hb1⟩
  have HCT := Lib.hid hct
  have HCO := Lib.hid hco
  have HB1 := Lib.hid hb1
  obtain ⟨W1, hW1⟩ : ∃ W1, W1 = (w1.alloc (.cells #[.slice c.ta c.texts.length c.tc, .slice c.fa c.funs.length c.fc] 25)).alloc (.cells #[.int .i64 (decF s).1, .int .i64 (decF s).2] 34) := ⟨_, rfl⟩
  have hB1 : Below w1.heap.size w1 W1 := by rw [hW1]; exact balloc (balloc (Below.refl _ _) _) _
  have hS1 : W1.heap.size = w1.heap.size + 1 + 1 := by rw [hW1, World.size_alloc, World.size_alloc]
  have h31 : W1.heap[w1.heap.size]? = some (.cells #[.slice c.ta c.texts.length c.tc, .slice c.fa c.funs.length c.fc] 25 (0, 0)) := by rw [hW1]; exact blk_alloc (heap_alloc_new w1 _) _
  have h41 : W1.heap[w1.heap.size + 1]? = some (.cells #[.int .i64 (decF s).1, .int .i64 (decF s).2] 34 (0, 0)) := by
    rw [hW1]
    have := heap_alloc_new (w1.alloc (.cells #[.slice c.ta c.texts.length c.tc, .slice c.fa c.funs.length c.fc] 25)) (.cells #[.int .i64 (decF s).1, .int .i64 (decF s).2] 34)
    rw [World.size_alloc] at this
    exact this
  have HW1 := Lib.hid hW1
  have HBW1 := Lib.hid hB1
  have HS1 := Lib.hid hS1
  have H31 := Lib.hid h31
  have H41 := Lib.hid h41
  clear hct hco hb1 hW1 hB1 hS1 h31 h41
  unfold Cd.val
  go_wp2_with fail
  rw [← HW1.out]
  refine (rdec_any s W1).mono ?_
  rintro e w2 ⟨d, hdt, rfl, hdo, hb2⟩
  obtain ⟨W2, hW2⟩ : ∃ W2, W2 = (w2.alloc (.cells #[.slice d.ta d.texts.length d.tc, .slice d.fa d.funs.length d.fc] 25)).alloc (.cells #[.int .i64 (decF s).1, .int .i64 (decF s).2] 34) := ⟨_, rfl⟩
  have hB2 : Below w2.heap.size w2 W2 := by rw [hW2]; exact balloc (balloc (Below.refl _ _) _) _
  have hS2 : W2.heap.size = w2.heap.size + 1 + 1 := by rw [hW2, World.size_alloc, World.size_alloc]
  have h52 : W2.heap[w2.heap.size]? = some (.cells #[.slice d.ta d.texts.length d.tc, .slice d.fa d.funs.length d.fc] 25 (0, 0)) := by rw [hW2]; exact blk_alloc (heap_alloc_new w2 _) _
  have h62 : W2.heap[w2.heap.size + 1]? = some (.cells #[.int .i64 (decF s).1, .int .i64 (decF s).2] 34 (0, 0)) := by
    rw [hW2]
    have := heap_alloc_new (w2.alloc (.cells #[.slice d.ta d.texts.length d.tc, .slice d.fa d.funs.length d.fc] 25)) (.cells #[.int .i64 (decF s).1, .int .i64 (decF s).2] 34)
    rw [World.size_alloc] at this
    exact this
  have hs2 := hb2.size
  have hs1 := HS1.out
  have hb12 : Below W1.heap.size W1 W2 := hb2.trans (hB2.mono hs2)
  have h32 := blk_below H31.out hb12 (by omega)
  have h42 := blk_below H41.out hb12 (by omega)
  have hbw2 : Below w1.heap.size w1 W2 := HBW1.out.trans (hb12.mono (by omega))
  have HBW2 := Lib.hid hbw2
  have HC2 := Lib.hid (HCO.out.at_.later hbw2)
  have HD2 := Lib.hid (hdo.at_.later hB2)
  have HDT := Lib.hid hdt
  have HW2 := Lib.hid hW2
  have H42 := Lib.hid h42
  have H62 := Lib.hid h62
  have x0 : W2.cell? ⟨w1.heap.size, 0, none⟩ = some (.slice c.ta c.texts.length c.tc) := blk_cell h32 0
  have x1 : W2.cell? ⟨w1.heap.size, 1, none⟩ = some (.slice c.fa c.funs.length c.fc) := blk_cell h32 1
  have y0 : W2.cell? ⟨w2.heap.size, 0, none⟩ = some (.slice d.ta d.texts.length d.tc) := blk_cell h52 0
  have y1 : W2.cell? ⟨w2.heap.size, 1, none⟩ = some (.slice d.fa d.funs.length d.fc) := blk_cell h52 1
  clear hdt hdo hb2 hW2 hB2 hS2 h52 h62 hs2 hs1 hb12 h32 h42 hbw2
  unfold Cd.val
  go_upto_region 3 with fail
  rw [← HW2.out]
  go_wp2_with fail
  refine (same_any c d W2 HC2.out HD2.out (same_ct (HCT.out.trans HDT.out.symm)) (wgt_lens4 (dec_wgt HCT.out))).mono ?_
  rintro e w3 ⟨rfl, hb3⟩
  have h43 := blk_below H42.out hb3 (lt_of_block H42.out)
  have h63 := blk_below H62.out hb3 (lt_of_block H62.out)
  have u0 : w3.cell? ⟨w1.heap.size + 1, 0, none⟩ = some (.int .i64 (decF s).1) := blk_cell h43 0
  have u1 : w3.cell? ⟨w1.heap.size + 1, 1, none⟩ = some (.int .i64 (decF s).2) := blk_cell h43 1
  have v0 : w3.cell? ⟨w2.heap.size + 1, 0, none⟩ = some (.int .i64 (decF s).1) := blk_cell h63 0
  have v1 : w3.cell? ⟨w2.heap.size + 1, 1, none⟩ = some (.int .i64 (decF s).2) := blk_cell h63 1
  have HB3 := Lib.hid hb3
  clear h43 h63 hb3 x0 x1 y0 y1
  go_wp2_with fail
  go_ret
  exact ⟨by simp, HB1.out.trans ((HBW2.out.trans (HB3.out.mono HBW2.out.size)).mono HB1.out.size)⟩

end Go.Proofs.YtebappmamaafaaaDoor
