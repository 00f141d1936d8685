/-
  Proved: mlcorelaw1's one and Tokens return true for every text. Condition: the table of sorts.
-/
import Derived.Test.YtbfeailcebfklaaDoorM2
import Derived.Test.YtbfeailcebfklaaDoorS1
set_option linter.unusedSimpArgs false
set_option linter.unusedVariables false
namespace Go.Proofs.YtbfeailcebfklaaDoor
open Go.RowKit

theorem toksD_len (s : ByteArray) (i : Nat) (l : List Tok) : i ≤ s.size → (toksD s i l).1.length ≤ l.length + (s.size - i) + 1 := by
  obtain ⟨m, hm⟩ : ∃ m, m = s.size - i := ⟨_, rfl⟩
  induction m using Nat.strongRecOn generalizing i l with
  | ind m IH =>
    intro hi
    have hge := gapD_ge (s := s) i hi
    cases hg : gapD s i with
    | mk k ok =>
      rw [hg] at hge
      simp only at hge
      cases ok with
      | false => rw [toksD_bad hg]; simp; omega
      | true =>
        by_cases hk : k = s.size
        · subst hk; rw [toksD_end hg]; simp
        · cases ht : tokD s k with
          | none => rw [toksD_none hg hk ht]; simp; omega
          | some r =>
            obtain ⟨tk, z⟩ := r
            have hz := tokD_lt (by omega) ht
            rw [toksD_some hi hg hk ht]
            have := IH (s.size - z) (by omega) z (l ++ [tk]) rfl hz.2
            simp at this
            omega
theorem lexD_len (s : ByteArray) : (lexD s).1.length ≤ 4001 := by
  unfold lexD
  split
  · simp
  · cases badD s 0 with
    | none =>
      have := toksD_len s 0 [] (by omega)
      simp at this
      simp only
      omega
    | some i => simp

set_option maxRecDepth 100000 in
set_option maxHeartbeats 2000000 in
theorem one_any (s : ByteArray) (w : World) (hso : Sorts w) (h0 : 0 < w.heap.size) : Calls Tryd.prog 6 #[.string s] w fun e w' => e = .returned (.bool true) ∧ Below w.heap.size w w' := by
  have HSO := Lib.hid hso
  clear hso
  have hlen := lexD_len s
  go_enter Tryd.func6, Tryd.ntmps6
  go_wp2_with fail
  refine (ptoks_any s w HSO.out h0).mono ?_
  rintro e w1 ⟨a, ca, rfl, ho1, hb1⟩
  have hra := toks_own ho1
  obtain ⟨l, hl⟩ : ∃ l, l = (lexD s).1 := ⟨_, rfl⟩
  obtain ⟨f1, hf1⟩ : ∃ f1, f1 = (lexD s).2.1 := ⟨_, rfl⟩
  obtain ⟨f2, hf2⟩ : ∃ f2, f2 = (lexD s).2.2 := ⟨_, rfl⟩
  rw [← hl] at hra hlen
  rw [← hl, ← hf1, ← hf2]
  obtain ⟨w2, hw2⟩ : ∃ w2, w2 = w1.alloc (.cells #[.int .i64 f1, .int .i64 f2] 26) := ⟨_, rfl⟩
  have hfb : w2.heap[w1.heap.size]? = some (.cells #[.int .i64 f1, .int .i64 f2] 26 (0, 0)) := by rw [hw2]; exact heap_alloc_new w1 _
  have hb2 : Below w.heap.size w w2 := by rw [hw2]; exact balloc hb1 _
  have hra2 : RowsAt w2 w1.heap.size a 4 (l.map tokRow) := by rw [hw2]; exact hra.below ((Below.refl _ _).alloc (Nat.le_refl _) _)
  have hlt2 : w1.heap.size < w2.heap.size := lt_of_block hfb
  have HF := Lib.hid hfb
  have HB := Lib.hid hb2
  have HRA := Lib.hid hra2
  have HL := Lib.hid hl
  have HF1 := Lib.hid hf1
  have HF2 := Lib.hid hf2
  have HW := Lib.hid hw2
  clear ho1 hb1 hra hfb hb2 hra2 hl hf1 hf2 hw2
  go_wp2_with fail
  rw [← HW.out]
  refine (rtoks_any s w2).mono ?_
  rintro e w3 ⟨b, cb, rfl, ho3, hb3⟩
  have hrb := toks_own ho3
  rw [← HL.out, ← HF1.out, ← HF2.out]
  rw [← HL.out] at hrb
  obtain ⟨w4, hw4⟩ : ∃ w4, w4 = w3.alloc (.cells #[.int .i64 f1, .int .i64 f2] 26) := ⟨_, rfl⟩
  have hgb : w4.heap[w3.heap.size]? = some (.cells #[.int .i64 f1, .int .i64 f2] 26 (0, 0)) := by rw [hw4]; exact heap_alloc_new w3 _
  have hb34 : Below w2.heap.size w2 w4 := by rw [hw4]; exact balloc hb3 _
  have hfb4 := blk_below HF.out hb34 (lt_of_block HF.out)
  have hb4 : Below w.heap.size w w4 := bthen HB.out hb34
  have hra4 : RowsAt w4 w4.heap.size a 4 (l.map tokRow) := ((HRA.out.mono (Nat.le_of_lt hlt2)).below hb34).mono hb34.size
  have hrb4 : RowsAt w4 w4.heap.size b 4 (l.map tokRow) := by
    have h := hrb.below ((Below.refl w3.heap.size w3).alloc (Nat.le_refl _) (.cells #[.int .i64 f1, .int .i64 f2] 26))
    rw [← hw4] at h
    exact h.mono (Nat.le_of_lt (lt_of_block hgb))
  have HG := Lib.hid hgb
  have HF4 := Lib.hid hfb4
  have HB4 := Lib.hid hb4
  have HRA4 := Lib.hid hra4
  have HRB4 := Lib.hid hrb4
  have HW4 := Lib.hid hw4
  clear ho3 hb3 hrb hgb hb34 hfb4 hb4 hra4 hrb4 hw4 HF HB HRA HW
  go_wp2_with fail
  rw [← HW4.out]
  refine (same_any l a b ca cb w4 HRA4.out HRB4.out (by omega)).mono ?_
  rintro e w5 ⟨rfl, hb5⟩
  have hg5 := blk_below HG.out hb5 (lt_of_block HG.out)
  have hf5 := blk_below HF4.out hb5 (lt_of_block HF4.out)
  have x0 : w5.cell? ⟨w1.heap.size, 0, none⟩ = some (.int .i64 f1) := blk_cell hf5 0
  have x1 : w5.cell? ⟨w1.heap.size, 1, none⟩ = some (.int .i64 f2) := blk_cell hf5 1
  have y0 : w5.cell? ⟨w3.heap.size, 0, none⟩ = some (.int .i64 f1) := blk_cell hg5 0
  have y1 : w5.cell? ⟨w3.heap.size, 1, none⟩ = some (.int .i64 f2) := blk_cell hg5 1
  have HB5 := Lib.hid (bthen HB4.out hb5)
  clear hg5 hf5 hb5 HW4
  go_wp2_with fail
  go_ret
  exact ⟨rfl, HB5.out⟩

set_option maxRecDepth 100000 in
set_option maxHeartbeats 2000000 in
theorem tokens_any (s : ByteArray) (w : World) (hso : Sorts w) (h0 : 0 < w.heap.size) : Calls Tryd.prog 3 #[.string s] w fun e w' => e = .returned (.bool true) ∧ Below w.heap.size w w' := by
  have HSO := Lib.hid hso
  clear hso
  go_enter Tryd.func3, Tryd.ntmps3
  go_wp2_with fail
  refine (one_any _ w HSO.out h0).mono ?_
  rintro e w1 ⟨rfl, hb1⟩
  have HB := Lib.hid hb1
  have h1 : 0 < w1.heap.size := Nat.lt_of_lt_of_le h0 hb1.size
  have hso1 := HSO.out.below hb1 h0
  clear hb1
  go_wp2_with fail
  refine (one_any s w1 hso1 h1).mono ?_
  rintro e w2 ⟨rfl, hb2⟩
  have HB2 := Lib.hid (bthen HB.out hb2)
  clear hb2 hso1
  go_wp2_with fail
  go_ret
  exact ⟨rfl, HB2.out⟩

end Go.Proofs.YtbfeailcebfklaaDoor
