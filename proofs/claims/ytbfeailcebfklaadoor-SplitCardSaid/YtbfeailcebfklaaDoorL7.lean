/-
  Proved: the contract of the reference's Token at strings and type variables. Conditions: a text of at most 4000 bytes.
-/
import Derived.Test.YtbfeailcebfklaaDoorL6
set_option linter.unusedSimpArgs false
set_option linter.unusedVariables false
namespace Go.Proofs.YtbfeailcebfklaaDoor
open Go.RowKit

theorem isWord_among (t : ByteArray) : isWordD t = amongD wordB t := by
  have h : wordL.map String.toUTF8 = wordB := by decide +kernel
  unfold isWordD amongD
  rw [← h, List.any_map]
  rfl
theorem tokD_text {s : ByteArray} {i : Nat} (h : bt s i = 34) : tokD s i = match textD s (i + 1) [] with
    | some (b, j) => some ((2, i, ⟨b.toArray⟩, 0), j)
    | none => none := by
  unfold tokD
  rw [if_neg (by simp [dig, h]), if_pos h]
  rfl
theorem tokD_var {s : ByteArray} {i : Nat} (h : bt s i = 39) : tokD s i = if vfD s i < varD s (vfD s i) (vfD s i) ∧ varD s (vfD s i) (vfD s i) - vfD s i ≤ 20 then some ((5, i, cut s i (varD s (vfD s i) (vfD s i)), 0), varD s (vfD s i) (vfD s i)) else none := by
  unfold tokD
  rw [if_neg (by simp [dig, h]), if_neg (by omega), if_pos h]
  rfl

set_option maxRecDepth 100000 in
set_option maxHeartbeats 4000000 in
theorem rtok_text (s : ByteArray) (i0 : Nat) (w : World) (hs : s.size ≤ 4000) (hi : i0 < s.size) (h34 : bt s i0 = 34) :
    Calls Tryd.prog 15 #[.string s, .int .i64 i0] w (RTokPost s i0 w) := by
  have k0 : (0 : Int) ≤ (i0 : Int) := by omega
  have k1 : (i0 : Int) < (s.size : Int) := by omega
  obtain ⟨W, hW⟩ : ∃ W, W = (w.alloc (.cells #[.int .i64 0, .int .i64 0, .string ⟨#[]⟩, .int .i64 0] 30)).alloc (.cells #[.int .i64 0, .int .i64 i0, .string ⟨#[]⟩, .int .i64 0] 30) := ⟨_, rfl⟩
  have hts : TS w W 0 i0 ⟨#[]⟩ 0 := by rw [hW]; exact TS.start w i0
  have HW := Lib.hid hW
  have HTS := Lib.hid hts
  clear hW hts
  obtain ⟨c, hcb⟩ : ∃ c, c = bt s i0 := ⟨_, rfl⟩
  have hck := bt_eq hi hcb
  have HCB := Lib.hid hcb
  have hT := tokD_text h34
  rw [← hcb] at h34
  have hdg : dig c = false := by rw [h34]; rfl
  have e34 : ((c : Int) == 34) = true := by rw [h34]; rfl
  have HTT := Lib.hid hT
  clear hcb h34 hT
  have s0 : W.cell? ⟨w.heap.size + 1, 0, none⟩ = some (.int .i64 0) := blk_cell HTS.out.t 0
  have sf := blk_free HTS.out.t 0
  have hl0 : w.heap.size + 1 < W.heap.size := lt_of_block HTS.out.t
  go_enter Tryd.func15, Tryd.ntmps15
  go_wp2_with fail
  rw [← HW.out]
  refine (digit_any _ _).mono ?_
  rintro e w' ⟨rfl, rfl⟩
  go_wp2_with fail
  refine (rtext_any s i0 _ hs hi).mono ?_
  rintro e w2 ⟨he, hb2⟩
  have hts2 := (HTS.out.setk 2).below hb2
  have HT2 := Lib.hid hts2
  clear hb2 hts2 s0 sf hl0
  have r0 : w2.cell? ⟨w.heap.size, 0, none⟩ = some (.int .i64 0) := blk_cell HT2.out.r 0
  have r1 : w2.cell? ⟨w.heap.size, 1, none⟩ = some (.int .i64 0) := blk_cell HT2.out.r 1
  have r2 : w2.cell? ⟨w.heap.size, 2, none⟩ = some (.string ⟨#[]⟩) := blk_cell HT2.out.r 2
  have r3 : w2.cell? ⟨w.heap.size, 3, none⟩ = some (.int .i64 0) := blk_cell HT2.out.r 3
  have y0 := blk_free HT2.out.r 0
  have y1 := blk_free HT2.out.r 1
  have y2 := blk_free HT2.out.r 2
  have y3 := blk_free HT2.out.r 3
  have a0 : w2.cell? ⟨w.heap.size + 1, 0, none⟩ = some (.int .i64 2) := blk_cell HT2.out.t 0
  have a1 : w2.cell? ⟨w.heap.size + 1, 1, none⟩ = some (.int .i64 i0) := blk_cell HT2.out.t 1
  have a2 : w2.cell? ⟨w.heap.size + 1, 2, none⟩ = some (.string ⟨#[]⟩) := blk_cell HT2.out.t 2
  have a3 : w2.cell? ⟨w.heap.size + 1, 3, none⟩ = some (.int .i64 0) := blk_cell HT2.out.t 3
  have z0 := blk_free HT2.out.t 0
  have z1 := blk_free HT2.out.t 1
  have z2 := blk_free HT2.out.t 2
  have z3 := blk_free HT2.out.t 3
  have hl2 : w.heap.size < w2.heap.size := lt_of_block HT2.out.r
  have hl3 : w.heap.size + 1 < w2.heap.size := lt_of_block HT2.out.t
  cases ht : textD s (i0 + 1) [] with
  | none =>
    rw [textV_none ht] at he
    subst he
    have hT := HTT.out
    rw [ht] at hT
    have HTK := Lib.hid hT
    clear hT ht
    go_wp2_with fail
    refine bodyPost_ret (v := .tuple #[.agg #[.int .i64 2, .int .i64 i0, .string ⟨#[]⟩, .int .i64 0], .int .i64 (-1)]) (by simp [results, Tryd.results15, go_sem, *]) rfl ?_
    refine ⟨?_, ?_⟩
    · rw [HTK.out]; exact ⟨_, _, _, _, rfl⟩
    · repeat (first | exact HT2.out.b | refine Below.setCell ?_ (by simp) _)
  | some p =>
    obtain ⟨r, j⟩ := p
    rw [textV_some ht] at he
    subst he
    have hT := HTT.out
    rw [ht] at hT
    have HTK := Lib.hid hT
    clear hT ht
    go_wp2_with fail
    refine bodyPost_ret (v := .tuple #[.agg #[.int .i64 2, .int .i64 i0, .string ⟨r.toArray⟩, .int .i64 0], .int .i64 j]) (by simp [results, Tryd.results15, go_sem, *]) rfl ?_
    refine ⟨?_, ?_⟩
    · rw [HTK.out]; rfl
    · repeat (first | exact HT2.out.b | refine Below.setCell ?_ (by simp) _)

set_option maxRecDepth 100000 in
set_option maxHeartbeats 4000000 in
theorem rtok_var (s : ByteArray) (i0 : Nat) (w : World) (hs : s.size ≤ 4000) (hi : i0 < s.size) (h39 : bt s i0 = 39) :
    Calls Tryd.prog 15 #[.string s, .int .i64 i0] w (RTokPost s i0 w) := by
  have k0 : (0 : Int) ≤ (i0 : Int) := by omega
  have k1 : (i0 : Int) < (s.size : Int) := by omega
  obtain ⟨W, hW⟩ : ∃ W, W = (w.alloc (.cells #[.int .i64 0, .int .i64 0, .string ⟨#[]⟩, .int .i64 0] 30)).alloc (.cells #[.int .i64 0, .int .i64 i0, .string ⟨#[]⟩, .int .i64 0] 30) := ⟨_, rfl⟩
  have hts : TS w W 0 i0 ⟨#[]⟩ 0 := by rw [hW]; exact TS.start w i0
  have HW := Lib.hid hW
  have HTS := Lib.hid hts
  clear hW hts
  obtain ⟨c, hcb⟩ : ∃ c, c = bt s i0 := ⟨_, rfl⟩
  have hck := bt_eq hi hcb
  have HCB := Lib.hid hcb
  have hT := tokD_var h39
  rw [← hcb] at h39
  have hdg : dig c = false := by rw [h39]; rfl
  have e34 : ((c : Int) == 34) = false := by rw [h39]; rfl
  have e39 : ((c : Int) == 39) = true := by rw [h39]; rfl
  clear hcb h39
  have hv : varI s i0 = if vfD s i0 < varD s (vfD s i0) (vfD s i0) ∧ varD s (vfD s i0) (vfD s i0) - vfD s i0 ≤ 20 then (varD s (vfD s i0) (vfD s i0) : Int) else -1 := rfl
  have hvs := varD_ge (s := s) (vfD s i0) (vfD s i0)
  have hfs : vfD s i0 ≤ s.size ∧ i0 < vfD s i0 := by
    unfold vfD
    split
    · rename_i h; simp [tokD.hasQ] at h; omega
    · omega
  generalize vfD s i0 = f at *
  generalize varD s f f = j at *
  obtain ⟨hj1, hj2⟩ := hvs
  obtain ⟨hf1, hf2⟩ := hfs
  have hj2 := hj2 hf1
  go_enter Tryd.func15, Tryd.ntmps15
  go_wp2_with fail
  rw [← HW.out]
  refine (digit_any _ _).mono ?_
  rintro e w' ⟨rfl, rfl⟩
  have HV := Lib.hid hv
  have HTT := Lib.hid hT
  clear hT hv
  go_wp2_with fail
  refine (rvariable_any s i0 _ hs hi).mono ?_
  rintro e w2 ⟨rfl, rfl⟩
  have r0 : W.cell? ⟨w.heap.size, 0, none⟩ = some (.int .i64 0) := blk_cell HTS.out.r 0
  have r1 : W.cell? ⟨w.heap.size, 1, none⟩ = some (.int .i64 0) := blk_cell HTS.out.r 1
  have r2 : W.cell? ⟨w.heap.size, 2, none⟩ = some (.string ⟨#[]⟩) := blk_cell HTS.out.r 2
  have r3 : W.cell? ⟨w.heap.size, 3, none⟩ = some (.int .i64 0) := blk_cell HTS.out.r 3
  have y0 := blk_free HTS.out.r 0
  have y1 := blk_free HTS.out.r 1
  have y2 := blk_free HTS.out.r 2
  have y3 := blk_free HTS.out.r 3
  have a0 : W.cell? ⟨w.heap.size + 1, 0, none⟩ = some (.int .i64 0) := blk_cell HTS.out.t 0
  have a1 : W.cell? ⟨w.heap.size + 1, 1, none⟩ = some (.int .i64 i0) := blk_cell HTS.out.t 1
  have a2 : W.cell? ⟨w.heap.size + 1, 2, none⟩ = some (.string ⟨#[]⟩) := blk_cell HTS.out.t 2
  have a3 : W.cell? ⟨w.heap.size + 1, 3, none⟩ = some (.int .i64 0) := blk_cell HTS.out.t 3
  have z0 := blk_free HTS.out.t 0
  have z1 := blk_free HTS.out.t 1
  have z2 := blk_free HTS.out.t 2
  have z3 := blk_free HTS.out.t 3
  have hl2 : w.heap.size < W.heap.size := lt_of_block HTS.out.r
  have hl3 : w.heap.size + 1 < W.heap.size := lt_of_block HTS.out.t
  have hv2 := HV.out
  have hT2 := HTT.out
  by_cases hg : f < j ∧ j - f ≤ 20
  · rw [if_pos hg] at hv2 hT2
    rw [hv2]
    have HTK := Lib.hid hT2
    have j0 : (0 : Int) ≤ (j : Int) := by omega
    have j1 : (i0 : Int) ≤ (j : Int) := by omega
    have j2 : (j : Int) ≤ (s.size : Int) := by omega
    clear hv2 hT2 hg
    go_wp2_with fail
    refine bodyPost_ret (v := .tuple #[.agg #[.int .i64 5, .int .i64 i0, .string (s.extract i0 j), .int .i64 0], .int .i64 j]) (by simp [results, Tryd.results15, go_sem, *]) rfl ?_
    refine ⟨?_, ?_⟩
    · rw [HTK.out]; rfl
    · repeat (first | exact HTS.out.b | refine Below.setCell ?_ (by simp) _)
  · rw [if_neg hg] at hv2 hT2
    rw [hv2]
    have HTK := Lib.hid hT2
    clear hv2 hT2 hg
    go_wp2_with fail
    refine bodyPost_ret (v := .tuple #[.agg #[.int .i64 0, .int .i64 i0, .string ⟨#[]⟩, .int .i64 0], .int .i64 (-1)]) (by simp [results, Tryd.results15, go_sem, *]) rfl ?_
    refine ⟨?_, ?_⟩
    · rw [HTK.out]; exact ⟨_, _, _, _, rfl⟩
    · repeat (first | exact HTS.out.b | refine Below.setCell ?_ (by simp) _)

end Go.Proofs.YtbfeailcebfklaaDoor
