/-
  Proved: the contract of the scanner's next at any byte. Conditions: the table of sorts, a text of at most 4000 bytes below 128.
-/
import Derived.Test.YtbfeailcebfklaaDoorQ8
import Derived.Test.YtbfeailcebfklaaDoorQ9
import Derived.Test.YtbfeailcebfklaaDoorQ10
import Derived.Test.YtbfeailcebfklaaDoorQ11
import Derived.BigRegion
set_option linter.unusedSimpArgs false
set_option linter.unusedVariables false
namespace Go.Proofs.YtbfeailcebfklaaDoor
open Go.RowKit

theorem pair_sign : ∀ p ∈ pairL, p.1 ∈ signL := by decide +kernel
theorem tokD_no {s : ByteArray} {i : Nat} (h1 : dig (bt s i) = false) (h2 : bt s i ≠ 34) (h3 : bt s i ≠ 39) (h4 : small (bt s i) = false) (h5 : great (bt s i) = false) (h6 : bt s i ≠ 95) (h7 : bt s i ∉ signL) : tokD s i = none := by
  unfold tokD
  rw [if_neg (by simp [h1]), if_neg h2, if_neg h3, if_neg (by simp [h4, h5, h6]), if_neg (fun h => h7 (pair_sign _ h.2)), if_neg h7]

set_option maxRecDepth 100000 in
set_option maxHeartbeats 4000000 in
theorem next_no0 (s : ByteArray) (b i : Nat) (w : World) (hsc : Scan w b s i) (hs : s.size ≤ 4000) (hi : i < s.size) (hso : Sorts w) (hA : ∀ k, k < s.size → bt s k < 128) (hb : 0 ≠ b) (h6 : srt (bt s i) = 0) (hT : tokD s i = none) :
    Calls Tryd.prog 13 #[pv b] w (NextPost s b i w) := by
  obtain ⟨W, hW⟩ : ∃ W, W = (w.alloc (.cells #[.int .i64 0, .int .i64 0, .string ⟨#[]⟩, .int .i64 0] 30)).alloc (.cells #[.int .i64 0, .int .i64 i, .string ⟨#[]⟩, .int .i64 0] 30) := ⟨_, rfl⟩
  have hns : NS w W b s i 0 i ⟨#[]⟩ 0 := by rw [hW]; exact NS.start hsc i
  have hbw := hsc.lt
  have qw0 : (w.alloc (.cells #[.int .i64 0, .int .i64 0, .string ⟨#[]⟩, .int .i64 0] 30)).cell? ⟨b, 0, none⟩ = some (.string s) := blk_cell (blk_alloc hsc _) 0
  have qw1 : (w.alloc (.cells #[.int .i64 0, .int .i64 0, .string ⟨#[]⟩, .int .i64 0] 30)).cell? ⟨b, 1, none⟩ = some (.int .i64 i) := blk_cell (blk_alloc hsc _) 1
  have HSO := Lib.hid hso
  have HW := Lib.hid hW
  have HV := Lib.hid hns
  obtain ⟨s0, s1, z, b0, b1, b2, b3, y0, y1, y2, y3, a0, a1, a2, a3, f0, f2, f3, l0, l1, l2⟩ := hns.facts
  have k0 : (0 : Int) ≤ (i : Int) := by omega
  have k1 : (i : Int) < (s.size : Int) := by omega
  obtain ⟨c, hcb⟩ : ∃ c, c = bt s i := ⟨_, rfl⟩
  have hck := bt_eq hi hcb
  have hc := hA i hi
  rw [← hcb] at hc
  have hsr : W.cell? ⟨0, c, none⟩ = some (.int .i64 (srt c)) := gr_cell HV.out.g hb (HSO.out c hc)
  have HCB := Lib.hid hcb
  have c0 : (0 : Int) ≤ (c : Int) := by omega
  have c1 : (c : Int) < 128 := by omega
  have hsv : srt c = 0 := by rw [hcb]; exact h6
  rw [hsv] at hsr
  have HT := Lib.hid hT
  clear hT
  clear hcb hso hW hns hsc
  go_enter Tryd.func13, Tryd.ntmps13
  go_upto_region 2 with fail
  rw [← HW.out]
  clear qw0 qw1
  go_quiet (fail)
  go_upto_region 3 with fail
  have hvX := HV.out.drewN nq
  clear HV hsr hck s0 s1 z b0 b1 b2 b3 y0 y1 y2 y3 a0 a1 a2 a3 f0 f2 f3 l0 l1 l2
  generalize W.drewN nq = W1 at hvX ⊢
  have HV := Lib.hid hvX
  obtain ⟨s0, s1, z, b0, b1, b2, b3, y0, y1, y2, y3, a0, a1, a2, a3, f0, f2, f3, l0, l1, l2⟩ := hvX.facts
  clear hvX
  go_wp2_with fail
  refine bodyPost_ret (v := .tuple #[.agg #[.int .i64 0, .int .i64 i, .string ⟨#[]⟩, .int .i64 0], .bool false]) (by simp [results, Tryd.results13, go_sem, b0, b1, b2, b3, y0, y1, y2, y3, l1]) rfl ?_
  exact NextPost.bad HT.out rfl (HV.out.fin hbw _ _ _ _).2

set_option maxRecDepth 100000 in
set_option maxHeartbeats 4000000 in
theorem next_no1 (s : ByteArray) (b i : Nat) (w : World) (hsc : Scan w b s i) (hs : s.size ≤ 4000) (hi : i < s.size) (hso : Sorts w) (hA : ∀ k, k < s.size → bt s k < 128) (hb : 0 ≠ b) (h6 : srt (bt s i) = 1) (hT : tokD s i = none) :
    Calls Tryd.prog 13 #[pv b] w (NextPost s b i w) := by
  obtain ⟨W, hW⟩ : ∃ W, W = (w.alloc (.cells #[.int .i64 0, .int .i64 0, .string ⟨#[]⟩, .int .i64 0] 30)).alloc (.cells #[.int .i64 0, .int .i64 i, .string ⟨#[]⟩, .int .i64 0] 30) := ⟨_, rfl⟩
  have hns : NS w W b s i 0 i ⟨#[]⟩ 0 := by rw [hW]; exact NS.start hsc i
  have hbw := hsc.lt
  have qw0 : (w.alloc (.cells #[.int .i64 0, .int .i64 0, .string ⟨#[]⟩, .int .i64 0] 30)).cell? ⟨b, 0, none⟩ = some (.string s) := blk_cell (blk_alloc hsc _) 0
  have qw1 : (w.alloc (.cells #[.int .i64 0, .int .i64 0, .string ⟨#[]⟩, .int .i64 0] 30)).cell? ⟨b, 1, none⟩ = some (.int .i64 i) := blk_cell (blk_alloc hsc _) 1
  have HSO := Lib.hid hso
  have HW := Lib.hid hW
  have HV := Lib.hid hns
  obtain ⟨s0, s1, z, b0, b1, b2, b3, y0, y1, y2, y3, a0, a1, a2, a3, f0, f2, f3, l0, l1, l2⟩ := hns.facts
  have k0 : (0 : Int) ≤ (i : Int) := by omega
  have k1 : (i : Int) < (s.size : Int) := by omega
  obtain ⟨c, hcb⟩ : ∃ c, c = bt s i := ⟨_, rfl⟩
  have hck := bt_eq hi hcb
  have hc := hA i hi
  rw [← hcb] at hc
  have hsr : W.cell? ⟨0, c, none⟩ = some (.int .i64 (srt c)) := gr_cell HV.out.g hb (HSO.out c hc)
  have HCB := Lib.hid hcb
  have c0 : (0 : Int) ≤ (c : Int) := by omega
  have c1 : (c : Int) < 128 := by omega
  have hsv : srt c = 1 := by rw [hcb]; exact h6
  rw [hsv] at hsr
  have HT := Lib.hid hT
  clear hT
  clear hcb hso hW hns hsc
  go_enter Tryd.func13, Tryd.ntmps13
  go_upto_region 2 with fail
  rw [← HW.out]
  clear qw0 qw1
  go_quiet (fail)
  go_upto_region 3 with fail
  have hvX := HV.out.drewN nq
  clear HV hsr hck s0 s1 z b0 b1 b2 b3 y0 y1 y2 y3 a0 a1 a2 a3 f0 f2 f3 l0 l1 l2
  generalize W.drewN nq = W1 at hvX ⊢
  have HV := Lib.hid hvX
  obtain ⟨s0, s1, z, b0, b1, b2, b3, y0, y1, y2, y3, a0, a1, a2, a3, f0, f2, f3, l0, l1, l2⟩ := hvX.facts
  clear hvX
  go_wp2_with fail
  refine bodyPost_ret (v := .tuple #[.agg #[.int .i64 0, .int .i64 i, .string ⟨#[]⟩, .int .i64 0], .bool false]) (by simp [results, Tryd.results13, go_sem, b0, b1, b2, b3, y0, y1, y2, y3, l1]) rfl ?_
  exact NextPost.bad HT.out rfl (HV.out.fin hbw _ _ _ _).2

/-- next, wherever it stands -/
theorem next_any (s : ByteArray) (b i : Nat) (w : World) (hsc : Scan w b s i) (hs : s.size ≤ 4000) (hi : i < s.size) (hso : Sorts w) (hA : ∀ k, k < s.size → bt s k < 128) (hb : 0 ≠ b) :
    Calls Tryd.prog 13 #[pv b] w (NextPost s b i w) := by
  rcases sort_cases _ (hA i hi) with ⟨h, _⟩ | ⟨h, _⟩ | ⟨h, _⟩ | ⟨_, h⟩ | ⟨h, _⟩ | ⟨_, h⟩ | ⟨h, h1, h2, h3, h4, h5, h6, h7⟩
  · exact next_digit s b i w hsc hs hi hso hA hb h
  · exact next_low s b i w hsc hs hi hso hA hb h
  · exact next_up s b i w hsc hs hi hso hA hb h
  · exact next_var s b i w hsc hs hi hso hA hb h
  · exact next_sign s b i w hsc hs hi hso hA hb h
  · exact next_text s b i w hsc hs hi hso hA hb h
  · have hT := tokD_no h1 h2 h3 h4 h5 h6 h7
    rcases h with h | h
    · exact next_no0 s b i w hsc hs hi hso hA hb h hT
    · exact next_no1 s b i w hsc hs hi hso hA hb h hT

end Go.Proofs.YtbfeailcebfklaaDoor
