/-
  Proved: the contract of the scanner's next at type variables and strings. Conditions: the table of sorts, a text of at most 4000 bytes below 128.
-/
import Derived.Test.YtbfeailcebfklaaDoorQ7
import Derived.BigRegion
set_option linter.unusedSimpArgs false
set_option linter.unusedVariables false
namespace Go.Proofs.YtbfeailcebfklaaDoor
open Go.RowKit

set_option maxRecDepth 100000 in
set_option maxHeartbeats 4000000 in
theorem next_var (s : ByteArray) (b i : Nat) (w : World) (hsc : Scan w b s i) (hs : s.size ≤ 4000) (hi : i < s.size) (hso : Sorts w) (hA : ∀ k, k < s.size → bt s k < 128) (hb : 0 ≠ b) (h39 : bt s i = 39) :
    Calls Tryd.prog 13 #[pv b] w (NextPost s b i w) := by
  obtain ⟨W, hW⟩ : ∃ W, W = (w.alloc (.cells #[.int .i64 0, .int .i64 0, .string ⟨#[]⟩, .int .i64 0] 30)).alloc (.cells #[.int .i64 0, .int .i64 i, .string ⟨#[]⟩, .int .i64 0] 30) := ⟨_, rfl⟩
  have hns : NS w W b s i 0 i ⟨#[]⟩ 0 := by rw [hW]; exact NS.start hsc i
  have hbw := hsc.lt
  have qw0 : (w.alloc (.cells #[.int .i64 0, .int .i64 0, .string ⟨#[]⟩, .int .i64 0] 30)).cell? ⟨b, 0, none⟩ = some (.string s) := blk_cell (blk_alloc hsc _) 0
  have qw1 : (w.alloc (.cells #[.int .i64 0, .int .i64 0, .string ⟨#[]⟩, .int .i64 0] 30)).cell? ⟨b, 1, none⟩ = some (.int .i64 i) := blk_cell (blk_alloc hsc _) 1
  have HSO := Lib.hid hso
  have HW := Lib.hid hW
  have HV := Lib.hid hns
  obtain ⟨s0, s1, z, b0, b1, b2, b3, y0, y1, y2, y3, a0, a1, a2, a3, f0, f2, f3, l0, l1, l2⟩ := hns.facts
  have k0 : (0 : Int) ≤ (i : Int) := by omega
  have k1 : (i : Int) < (s.size : Int) := by omega
  obtain ⟨c, hcb⟩ : ∃ c, c = bt s i := ⟨_, rfl⟩
  have hck := bt_eq hi hcb
  have hc := hA i hi
  rw [← hcb] at hc
  have hsr : W.cell? ⟨0, c, none⟩ = some (.int .i64 (srt c)) := gr_cell HV.out.g hb (HSO.out c hc)
  have HCB := Lib.hid hcb
  have c0 : (0 : Int) ≤ (c : Int) := by omega
  have c1 : (c : Int) < 128 := by omega
  have hsv : srt c = 5 := by rw [hcb, h39]; rfl
  rw [hsv] at hsr
  clear hcb hso hW hns hsc
  go_enter Tryd.func13, Tryd.ntmps13
  go_upto_region 2 with fail
  rw [← HW.out]
  clear qw0 qw1
  go_quiet (fail)
  go_upto_region 19 with fail
  have hvX := HV.out.drewN nq
  clear HV hsr hck s0 s1 z b0 b1 b2 b3 y0 y1 y2 y3 a0 a1 a2 a3 f0 f2 f3 l0 l1 l2
  generalize W.drewN nq = W1 at hvX ⊢
  have HV := Lib.hid hvX
  obtain ⟨s0, s1, z, b0, b1, b2, b3, y0, y1, y2, y3, a0, a1, a2, a3, f0, f2, f3, l0, l1, l2⟩ := hvX.facts
  clear hvX
  go_wp2_with fail
  refine (variable_any s b i 0 0 ⟨#[]⟩ W1 HV.out.sc hs hi (HSO.out.gr HV.out.g hb) hA hb).mono ?_
  rintro e w2 ⟨rfl, hs2, hg2⟩
  have hT := tokD_var h39
  obtain ⟨f, hf⟩ : ∃ f, f = vfD s i := ⟨_, rfl⟩
  rw [← hf] at hs2 hT ⊢
  obtain ⟨j, hj⟩ : ∃ j, j = varD s f f := ⟨_, rfl⟩
  rw [← hj] at hs2 hT ⊢
  have HT := Lib.hid hT
  have hv2 := HV.out.gr hbw hg2 hs2
  clear HV hT hf hj hg2 hs2 s0 s1 z b0 b1 b2 b3 y0 y1 y2 y3 a0 a1 a2 a3 f0 f2 f3 l0 l1 l2
  have HV := Lib.hid hv2
  obtain ⟨s0, s1, z, b0, b1, b2, b3, y0, y1, y2, y3, a0, a1, a2, a3, f0, f2, f3, l0, l1, l2⟩ := hv2.facts
  clear hv2
  generalize hx : cut s i j = x
  go_wp2_with fail
  refine bodyPost_ret (v := .tuple #[.agg #[.int .i64 5, .int .i64 i, .string x, .int .i64 0], .bool (decide (f < j ∧ j - f ≤ 20))]) (by simp [results, Tryd.results13, go_sem, b0, b1, b2, b3, y0, y1, y2, y3, l1]) rfl ?_
  have hT := HT.out
  by_cases hg : f < j ∧ j - f ≤ 20
  · rw [if_pos hg, hx] at hT
    refine NextPost.ok hT (by rw [decide_eq_true hg]; rfl) ?_
    exact HV.out.fin hbw _ _ _ _
  · rw [if_neg hg] at hT
    exact NextPost.bad hT (by rw [decide_eq_false hg]) (HV.out.fin hbw _ _ _ _).2

set_option maxRecDepth 100000 in
set_option maxHeartbeats 4000000 in
theorem next_text (s : ByteArray) (b i : Nat) (w : World) (hsc : Scan w b s i) (hs : s.size ≤ 4000) (hi : i < s.size) (hso : Sorts w) (hA : ∀ k, k < s.size → bt s k < 128) (hb : 0 ≠ b) (h34 : bt s i = 34) :
    Calls Tryd.prog 13 #[pv b] w (NextPost s b i w) := by
  obtain ⟨W, hW⟩ : ∃ W, W = (w.alloc (.cells #[.int .i64 0, .int .i64 0, .string ⟨#[]⟩, .int .i64 0] 30)).alloc (.cells #[.int .i64 0, .int .i64 i, .string ⟨#[]⟩, .int .i64 0] 30) := ⟨_, rfl⟩
  have hns : NS w W b s i 0 i ⟨#[]⟩ 0 := by rw [hW]; exact NS.start hsc i
  have hbw := hsc.lt
  have qw0 : (w.alloc (.cells #[.int .i64 0, .int .i64 0, .string ⟨#[]⟩, .int .i64 0] 30)).cell? ⟨b, 0, none⟩ = some (.string s) := blk_cell (blk_alloc hsc _) 0
  have qw1 : (w.alloc (.cells #[.int .i64 0, .int .i64 0, .string ⟨#[]⟩, .int .i64 0] 30)).cell? ⟨b, 1, none⟩ = some (.int .i64 i) := blk_cell (blk_alloc hsc _) 1
  have HSO := Lib.hid hso
  have HW := Lib.hid hW
  have HV := Lib.hid hns
  obtain ⟨s0, s1, z, b0, b1, b2, b3, y0, y1, y2, y3, a0, a1, a2, a3, f0, f2, f3, l0, l1, l2⟩ := hns.facts
  have k0 : (0 : Int) ≤ (i : Int) := by omega
  have k1 : (i : Int) < (s.size : Int) := by omega
  obtain ⟨c, hcb⟩ : ∃ c, c = bt s i := ⟨_, rfl⟩
  have hck := bt_eq hi hcb
  have hc := hA i hi
  rw [← hcb] at hc
  have hsr : W.cell? ⟨0, c, none⟩ = some (.int .i64 (srt c)) := gr_cell HV.out.g hb (HSO.out c hc)
  have HCB := Lib.hid hcb
  have c0 : (0 : Int) ≤ (c : Int) := by omega
  have c1 : (c : Int) < 128 := by omega
  have hsv : srt c = 7 := by rw [hcb, h34]; rfl
  rw [hsv] at hsr
  clear hcb hso hW hns hsc
  go_enter Tryd.func13, Tryd.ntmps13
  go_upto_region 2 with fail
  rw [← HW.out]
  clear qw0 qw1
  go_quiet (fail)
  go_upto_region 21 with fail
  have hvX := HV.out.drewN nq
  clear HV hsr hck s0 s1 z b0 b1 b2 b3 y0 y1 y2 y3 a0 a1 a2 a3 f0 f2 f3 l0 l1 l2
  generalize W.drewN nq = W1 at hvX ⊢
  have HV := Lib.hid hvX
  obtain ⟨s0, s1, z, b0, b1, b2, b3, y0, y1, y2, y3, a0, a1, a2, a3, f0, f2, f3, l0, l1, l2⟩ := hvX.facts
  clear hvX
  go_wp2_with fail
  have hvX := HV.out.setk hbw 2
  clear HV s0 s1 z b0 b1 b2 b3 y0 y1 y2 y3 a0 a1 a2 a3 f0 f2 f3 l0 l1 l2
  generalize W1.setCell ⟨w.heap.size + 1, 0, none⟩ (.int .i64 2) = W2 at hvX ⊢
  have HV := Lib.hid hvX
  obtain ⟨s0, s1, z, b0, b1, b2, b3, y0, y1, y2, y3, a0, a1, a2, a3, f0, f2, f3, l0, l1, l2⟩ := hvX.facts
  clear hvX
  refine (text_any s b i W2 HV.out.sc hs hi (HSO.out.gr HV.out.g hb) hA hb).mono ?_
  rintro e w3 ⟨hg3, hm⟩
  have hT := tokD_text h34
  cases htx : textD s (i + 1) [] with
  | some r =>
    obtain ⟨r, j⟩ := r
    rw [htx] at hm hT
    obtain ⟨rfl, hs3⟩ := hm
    have HT := Lib.hid hT
    have hv3 := HV.out.gr hbw hg3 hs3
    clear HV hT hg3 hs3 htx s0 s1 z b0 b1 b2 b3 y0 y1 y2 y3 a0 a1 a2 a3 f0 f2 f3 l0 l1 l2
    have HV := Lib.hid hv3
    obtain ⟨s0, s1, z, b0, b1, b2, b3, y0, y1, y2, y3, a0, a1, a2, a3, f0, f2, f3, l0, l1, l2⟩ := hv3.facts
    clear hv3
    go_wp2_with fail
    refine bodyPost_ret (v := .tuple #[.agg #[.int .i64 2, .int .i64 i, .string ⟨r.toArray⟩, .int .i64 0], .bool true]) (by simp [results, Tryd.results13, go_sem, b0, b1, b2, b3, y0, y1, y2, y3, l1, a0, a1, a2, a3, f2, l2]) rfl ?_
    exact NextPost.ok HT.out rfl ((HV.out.setx hbw _).fin hbw _ _ _ _)
  | none =>
    rw [htx] at hm hT
    obtain ⟨x, rfl⟩ := hm
    have HT := Lib.hid hT
    have hr3 : TokB w3 w.heap.size 0 0 ⟨#[]⟩ 0 := blk_grown HV.out.r hg3 (by intro e; injection e with e; omega)
    have ht3 : TokB w3 (w.heap.size + 1) 2 i ⟨#[]⟩ 0 := blk_grown HV.out.t hg3 (by intro e; injection e with e; omega)
    have HG := Lib.hid (gr_trans HV.out.g hg3)
    clear HV hT hg3 htx s0 s1 z b0 b1 b2 b3 y0 y1 y2 y3 a0 a1 a2 a3 f0 f2 f3 l0 l1 l2
    have b0 := blk_cell hr3 0
    have b1 := blk_cell hr3 1
    have b2 := blk_cell hr3 2
    have b3 := blk_cell hr3 3
    have y0 := blk_free hr3 0
    have y1 := blk_free hr3 1
    have y2 := blk_free hr3 2
    have y3 := blk_free hr3 3
    have a0 := blk_cell ht3 0
    have a1 := blk_cell ht3 1
    have a2 := blk_cell ht3 2
    have a3 := blk_cell ht3 3
    have f2 := blk_free ht3 2
    have l1 : w.heap.size < w3.heap.size := lt_of_block hr3
    have l2 : w.heap.size + 1 < w3.heap.size := lt_of_block ht3
    clear hr3 ht3
    simp only [List.getElem?_toArray, List.getElem?_cons_zero, List.getElem?_cons_succ] at b0 b1 b2 b3 a0 a1 a2 a3
    go_wp2_with fail
    refine bodyPost_ret (v := .tuple #[.agg #[.int .i64 2, .int .i64 i, .string x, .int .i64 0], .bool false]) (by simp [results, Tryd.results13, go_sem, b0, b1, b2, b3, y0, y1, y2, y3, l1, a0, a1, a2, a3, f2, l2]) rfl ?_
    refine NextPost.bad HT.out rfl ?_
    have e := Nat.le_refl w.heap.size
    exact gr_far (gr_far (gr_far (gr_far (gr_far HG.out _ _ _ (Nat.le_succ _)) _ _ _ e) _ _ _ e) _ _ _ e) _ _ _ e

end Go.Proofs.YtbfeailcebfklaaDoor
