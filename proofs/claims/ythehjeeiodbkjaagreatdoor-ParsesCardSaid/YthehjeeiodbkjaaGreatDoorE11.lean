/-
  Proved: the contract of the scanner's next at names; the contract of the scanner's next at any byte. Conditions: the table of sorts, a text of at most 4000 bytes below 128.
-/
import Derived.Test.YthehjeeiodbkjaaGreatDoorE09
import Derived.Test.YthehjeeiodbkjaaGreatDoorE05
import Derived.Test.YthehjeeiodbkjaaGreatDoorE10
import Derived.BigRegion
set_option linter.unusedSimpArgs false
set_option linter.unusedVariables false
set_option maxRecDepth 100000
set_option maxHeartbeats 16000000
namespace Go.Proofs.YthehjeeiodbkjaaGreatDoor
open Go.RowKit
theorem name_sort : ∀ c, c < 128 → inL [3, 4, 2, 5] (srt c) = inName c := by decide +kernel
theorem under_eq (x : ByteArray) : (x.toList == [95]) = decide (x = ⟨#[95]⟩) := by
 have e : (⟨#[95]⟩ : ByteArray).toList = [95] := by rw [ByteArray.toList_eq]
 have h := str_eq x ⟨#[95]⟩
 rw [e] at h
 exact h
theorem nameK_eq (s : ByteArray) (i : Nat) (t : ByteArray) : nameK s i t = if t = ⟨#[95]⟩ then 7 else if amongD wordB t then 6 else if great (bt s i) then 4 else 3 := by unfold nameK; rw [isWord_among]
theorem great_sort : ∀ c, c < 128 → srt c = 4 → great c = true := by decide +kernel
theorem low_great : ∀ c, c < 128 → srt c = 3 → great c = false := by decide +kernel
theorem next_low (s : ByteArray) (b i : Nat) (w : World) (hsc : Scan w b s i) (hs : s.size ≤ 4000) (hi : i < s.size) (hso : Sorts w) (hA : ∀ k, k < s.size → bt s k < 128) (hb : 1 ≠ b) (h6 : srt (bt s i) = 3) :
 Calls Tryz.prog 33 #[pv b] w (NextPost s b i w) := by
 obtain ⟨W, hW⟩ : ∃ W, W = (w.alloc (.cells #[.int .i64 0, .int .i64 0, .string ⟨#[]⟩, .int .i64 0] 59)).alloc (.cells #[.int .i64 0, .int .i64 i, .string ⟨#[]⟩, .int .i64 0] 59) := ⟨_, rfl⟩
 have hns : NS w W b s i 0 i ⟨#[]⟩ 0 := by rw [hW]; exact NS.start hsc i
 have hbw := hsc.lt
 have qw0 : (w.alloc (.cells #[.int .i64 0, .int .i64 0, .string ⟨#[]⟩, .int .i64 0] 59)).cell? ⟨b, 0, none⟩ = some (.string s) := blk_cell (blk_alloc hsc _) 0
 have qw1 : (w.alloc (.cells #[.int .i64 0, .int .i64 0, .string ⟨#[]⟩, .int .i64 0] 59)).cell? ⟨b, 1, none⟩ = some (.int .i64 i) := blk_cell (blk_alloc hsc _) 1
 have HSO := lh hso
 have HW := lh hW
 have HV := lh hns
 obtain ⟨s0, s1, z, b0, b1, b2, b3, y0, y1, y2, y3, a0, a1, a2, a3, f0, f2, f3, l0, l1, l2⟩ := hns.facts
 have k0 : (0 : Int) ≤ (i : Int) := by omega
 have k1 : (i : Int) < (s.size : Int) := by omega
 obtain ⟨c, hcb⟩ : ∃ c, c = bt s i := ⟨_, rfl⟩
 have hck := bt_eq hi hcb
 have hc := hA i hi
 rw [← hcb] at hc
 have hsr : W.cell? ⟨1, c, none⟩ = some (.int .i64 (srt c)) := gr_cell HV.out.g hb (HSO.out c hc)
 have HCB := lh hcb
 have c0 : (0 : Int) ≤ (c : Int) := by omega
 have c1 : (c : Int) < 128 := by omega
 have hsv : srt c = 3 := by rw [hcb]; exact h6
 rw [hsv] at hsr
 clear hcb hso hW hns hsc
 go_enter Tryz.func33, Tryz.ntmps33
 go_upto_region 2 with fail
 rw [← HW.out]
 clear qw0 qw1
 go_quiet (fail)
 go_upto_region 13 with fail
 have hvX := HV.out.drewN nq
 clear HV hsr hck s0 s1 z b0 b1 b2 b3 y0 y1 y2 y3 a0 a1 a2 a3 f0 f2 f3 l0 l1 l2
 generalize W.drewN nq = W1 at hvX ⊢
 have HV := lh hvX
 obtain ⟨s0, s1, z, b0, b1, b2, b3, y0, y1, y2, y3, a0, a1, a2, a3, f0, f2, f3, l0, l1, l2⟩ := hvX.facts
 clear hvX
 go_upto_region 14 with fail
 have hvX := HV.out.setk hbw 3
 clear HV s0 s1 z b0 b1 b2 b3 y0 y1 y2 y3 a0 a1 a2 a3 f0 f2 f3 l0 l1 l2
 generalize W1.setCell ⟨w.heap.size + 1, 0, none⟩ (.int .i64 3) = W2 at hvX ⊢
 have HV := lh hvX
 obtain ⟨s0, s1, z, b0, b1, b2, b3, y0, y1, y2, y3, a0, a1, a2, a3, f0, f2, f3, l0, l1, l2⟩ := hvX.facts
 clear hvX
 go_wp2_with fail
 refine (while_any s b W2.heap.size i [3, 4, 2, 5] inName _ (HV.out.alloc _).sc hs (by omega) (HSO.out.gr (HV.out.alloc _).g hb) hA (ints_new W2 [3, 4, 2, 5] _ _ rfl) (by omega) hb (by decide) name_sort).mono ?_
 rintro e w3 ⟨rfl, hs3, hg3⟩
 have hv3 := (HV.out.alloc (.cells #[.int .i64 3, .int .i64 4, .int .i64 2, .int .i64 5] 3)).gr hbw hg3 hs3
 have hwh := whD_ge s inName i
 have hT := tokD_name (s := s) (i := i) (by rcases low_sort _ (hA i hi) |>.1 h6 with h | h; exact .inl h; exact .inr (.inr h))
 obtain ⟨j, hj⟩ : ∃ j, j = whD s inName i := ⟨_, rfl⟩
 rw [← hj] at hv3 hwh hT
 have hij := hwh.1
 have hjs := hwh.2 (by omega)
 clear HV hs3 hg3 hwh hj s0 s1 z b0 b1 b2 b3 y0 y1 y2 y3 a0 a1 a2 a3 f0 f2 f3 l0 l1 l2
 have HV := lh hv3
 obtain ⟨s0, s1, z, b0, b1, b2, b3, y0, y1, y2, y3, a0, a1, a2, a3, f0, f2, f3, l0, l1, l2⟩ := hv3.facts
 clear hv3
 rw [nameK_eq] at hT
 have HT := lh hT
 clear hT
 have n1 : ¬ (w.heap.size + 1 = b) := by omega
 have n2 : ¬ (w.heap.size + 1 = w.heap.size) := by omega
 have n3 : ¬ (b = w.heap.size + 1) := by omega
 have n4 : ¬ (w.heap.size = w.heap.size + 1) := by omega
 have n5 : ¬ (b = w.heap.size) := by omega
 have n6 : ¬ (w.heap.size = b) := by omega
 go_upto_region 33 with fail
 have j0 : (0 : Int) ≤ (i : Int) := by omega
 have j1 : (i : Int) ≤ ((j : Nat) : Int) := by omega
 have j2 : ((j : Nat) : Int) ≤ (s.size : Int) := by omega
 go_region
 have hvX := (HV.out.setx hbw (s.extract i (j))).drew
 clear HV s0 s1 z b0 b1 b2 b3 y0 y1 y2 y3 a0 a1 a2 a3 f0 f2 f3 l0 l1 l2
 generalize (w3.setCell ⟨w.heap.size + 1, 2, none⟩ (.string (s.extract i (j)))).drew = W6 at hvX ⊢
 have HV := lh hvX
 obtain ⟨s0, s1, z, b0, b1, b2, b3, y0, y1, y2, y3, a0, a1, a2, a3, f0, f2, f3, l0, l1, l2⟩ := hvX.facts
 clear hvX
 obtain ⟨x, hx⟩ : ∃ x, x = s.extract i j := ⟨_, rfl⟩
 have hxs : x.size = j - i := by rw [hx, ByteArray.size_extract]; omega
 rw [← hx] at HV a2 ⊢
 have hue := under_eq x
 have hT := HT.out
 rw [show cut s i j = x from hx.symm] at hT
 have HT2 := lh hT
 clear hT hx HT
 by_cases hu : x = ⟨#[95]⟩
 · rw [decide_eq_true hu] at hue
   have hT := HT2.out
   rw [if_pos hu] at hT
   have HT := lh hT
   clear hT HT2 hu
   go_upto_region 38 with fail
   have hvX := HV.out.setk hbw 7
   clear HV s0 s1 z b0 b1 b2 b3 y0 y1 y2 y3 a0 a1 a2 a3 f0 f2 f3 l0 l1 l2
   generalize W6.setCell ⟨w.heap.size + 1, 0, none⟩ (.int .i64 7) = W7 at hvX ⊢
   have HV := lh hvX
   obtain ⟨s0, s1, z, b0, b1, b2, b3, y0, y1, y2, y3, a0, a1, a2, a3, f0, f2, f3, l0, l1, l2⟩ := hvX.facts
   clear hvX
   by_cases h20 : j - i ≤ 20
   · have hd : decide ((x.size : Int) ≤ 20) = true := by simp; omega
     have hd2 : decide ((20 : Int) < (x.size : Int)) = false := by simp; omega
     have hd3 : (((j - i : Nat) : Int) ≤ 20) := by omega
     have hT := HT.out
     rw [if_pos h20] at hT
     have HTT := lh hT
     clear hT
     go_region
     all_goals go_wp2_with fail
     all_goals
      refine bodyPost_ret (v := .tuple #[.agg #[.int .i64 7, .int .i64 i, .string x, .int .i64 0], .bool true]) (by simp [results, Tryz.results33, go_sem, b0, b1, b2, b3, y0, y1, y2, y3, l1, hd3]) rfl ?_
      exact NextPost.ok HTT.out rfl (HV.out.fin hbw _ _ _ _).drew
   · have hd : decide ((x.size : Int) ≤ 20) = false := by simp; omega
     have hd2 : decide ((20 : Int) < (x.size : Int)) = true := by simp; omega
     have hd3 : ((20 : Int) < ((j - i : Nat) : Int)) := by omega
     have hT := HT.out
     rw [if_neg h20] at hT
     have HTT := lh hT
     clear hT
     go_region
     all_goals go_wp2_with fail
     all_goals
      refine bodyPost_ret (v := .tuple #[.agg #[.int .i64 7, .int .i64 i, .string x, .int .i64 0], .bool false]) (by simp [results, Tryz.results33, go_sem, b0, b1, b2, b3, y0, y1, y2, y3, l1, hd3]) rfl ?_
      exact NextPost.bad HTT.out rfl (HV.out.fin hbw _ _ _ _).drew.2
 · rw [decide_eq_false hu] at hue
   have hT := HT2.out
   rw [if_neg hu] at hT
   have HT := lh hT
   clear hT HT2 hu
   go_wp2_with fail
   refine (isWord_any x _).mono ?_
   rintro e w8 ⟨rfl, hb8⟩
   have hvX := HV.out.below hb8
   clear HV hb8 s0 s1 z b0 b1 b2 b3 y0 y1 y2 y3 a0 a1 a2 a3 f0 f2 f3 l0 l1 l2
   have HV := lh hvX
   obtain ⟨s0, s1, z, b0, b1, b2, b3, y0, y1, y2, y3, a0, a1, a2, a3, f0, f2, f3, l0, l1, l2⟩ := hvX.facts
   clear hvX
   cases hw : amongD wordB x with
   | true =>
    have hT := HT.out
    rw [if_pos hw] at hT
    have HT2 := lh hT
    clear hT HT hw
    go_upto_region 38 with fail
    have hvX := HV.out.setk hbw 6
    clear HV s0 s1 z b0 b1 b2 b3 y0 y1 y2 y3 a0 a1 a2 a3 f0 f2 f3 l0 l1 l2
    generalize w8.setCell ⟨w.heap.size + 1, 0, none⟩ (.int .i64 6) = W7 at hvX ⊢
    have HV := lh hvX
    obtain ⟨s0, s1, z, b0, b1, b2, b3, y0, y1, y2, y3, a0, a1, a2, a3, f0, f2, f3, l0, l1, l2⟩ := hvX.facts
    clear hvX
    by_cases h20 : j - i ≤ 20
    · have hd : decide ((x.size : Int) ≤ 20) = true := by simp; omega
      have hd2 : decide ((20 : Int) < (x.size : Int)) = false := by simp; omega
      have hd3 : (((j - i : Nat) : Int) ≤ 20) := by omega
      have hT := HT2.out
      rw [if_pos h20] at hT
      have HTT := lh hT
      clear hT
      go_region
      all_goals go_wp2_with fail
      all_goals
       refine bodyPost_ret (v := .tuple #[.agg #[.int .i64 6, .int .i64 i, .string x, .int .i64 0], .bool true]) (by simp [results, Tryz.results33, go_sem, b0, b1, b2, b3, y0, y1, y2, y3, l1, hd3]) rfl ?_
       exact NextPost.ok HTT.out rfl (HV.out.fin hbw _ _ _ _).drew
    · have hd : decide ((x.size : Int) ≤ 20) = false := by simp; omega
      have hd2 : decide ((20 : Int) < (x.size : Int)) = true := by simp; omega
      have hd3 : ((20 : Int) < ((j - i : Nat) : Int)) := by omega
      have hT := HT2.out
      rw [if_neg h20] at hT
      have HTT := lh hT
      clear hT
      go_region
      all_goals go_wp2_with fail
      all_goals
       refine bodyPost_ret (v := .tuple #[.agg #[.int .i64 6, .int .i64 i, .string x, .int .i64 0], .bool false]) (by simp [results, Tryz.results33, go_sem, b0, b1, b2, b3, y0, y1, y2, y3, l1, hd3]) rfl ?_
       exact NextPost.bad HTT.out rfl (HV.out.fin hbw _ _ _ _).drew.2
   | false =>
    have hT := HT.out
    rw [if_neg (show ¬ amongD wordB x = true by simp [hw]), if_neg (show ¬ great (bt s i) = true by simp [low_great _ (hA i hi) h6])] at hT
    have HT2 := lh hT
    clear hT HT hw
    go_upto_region 38 with fail
    obtain ⟨W7, hW7⟩ : ∃ W7, W7 = w8 := ⟨_, rfl⟩
    subst hW7
    by_cases h20 : j - i ≤ 20
    · have hd : decide ((x.size : Int) ≤ 20) = true := by simp; omega
      have hd2 : decide ((20 : Int) < (x.size : Int)) = false := by simp; omega
      have hd3 : (((j - i : Nat) : Int) ≤ 20) := by omega
      have hT := HT2.out
      rw [if_pos h20] at hT
      have HTT := lh hT
      clear hT
      go_region
      all_goals go_wp2_with fail
      all_goals
       refine bodyPost_ret (v := .tuple #[.agg #[.int .i64 3, .int .i64 i, .string x, .int .i64 0], .bool true]) (by simp [results, Tryz.results33, go_sem, b0, b1, b2, b3, y0, y1, y2, y3, l1, hd3]) rfl ?_
       exact NextPost.ok HTT.out rfl (HV.out.fin hbw _ _ _ _).drew
    · have hd : decide ((x.size : Int) ≤ 20) = false := by simp; omega
      have hd2 : decide ((20 : Int) < (x.size : Int)) = true := by simp; omega
      have hd3 : ((20 : Int) < ((j - i : Nat) : Int)) := by omega
      have hT := HT2.out
      rw [if_neg h20] at hT
      have HTT := lh hT
      clear hT
      go_region
      all_goals go_wp2_with fail
      all_goals
       refine bodyPost_ret (v := .tuple #[.agg #[.int .i64 3, .int .i64 i, .string x, .int .i64 0], .bool false]) (by simp [results, Tryz.results33, go_sem, b0, b1, b2, b3, y0, y1, y2, y3, l1, hd3]) rfl ?_
       exact NextPost.bad HTT.out rfl (HV.out.fin hbw _ _ _ _).drew.2
theorem next_up (s : ByteArray) (b i : Nat) (w : World) (hsc : Scan w b s i) (hs : s.size ≤ 4000) (hi : i < s.size) (hso : Sorts w) (hA : ∀ k, k < s.size → bt s k < 128) (hb : 1 ≠ b) (h6 : srt (bt s i) = 4) :
 Calls Tryz.prog 33 #[pv b] w (NextPost s b i w) := by
 obtain ⟨W, hW⟩ : ∃ W, W = (w.alloc (.cells #[.int .i64 0, .int .i64 0, .string ⟨#[]⟩, .int .i64 0] 59)).alloc (.cells #[.int .i64 0, .int .i64 i, .string ⟨#[]⟩, .int .i64 0] 59) := ⟨_, rfl⟩
 have hns : NS w W b s i 0 i ⟨#[]⟩ 0 := by rw [hW]; exact NS.start hsc i
 have hbw := hsc.lt
 have qw0 : (w.alloc (.cells #[.int .i64 0, .int .i64 0, .string ⟨#[]⟩, .int .i64 0] 59)).cell? ⟨b, 0, none⟩ = some (.string s) := blk_cell (blk_alloc hsc _) 0
 have qw1 : (w.alloc (.cells #[.int .i64 0, .int .i64 0, .string ⟨#[]⟩, .int .i64 0] 59)).cell? ⟨b, 1, none⟩ = some (.int .i64 i) := blk_cell (blk_alloc hsc _) 1
 have HSO := lh hso
 have HW := lh hW
 have HV := lh hns
 obtain ⟨s0, s1, z, b0, b1, b2, b3, y0, y1, y2, y3, a0, a1, a2, a3, f0, f2, f3, l0, l1, l2⟩ := hns.facts
 have k0 : (0 : Int) ≤ (i : Int) := by omega
 have k1 : (i : Int) < (s.size : Int) := by omega
 obtain ⟨c, hcb⟩ : ∃ c, c = bt s i := ⟨_, rfl⟩
 have hck := bt_eq hi hcb
 have hc := hA i hi
 rw [← hcb] at hc
 have hsr : W.cell? ⟨1, c, none⟩ = some (.int .i64 (srt c)) := gr_cell HV.out.g hb (HSO.out c hc)
 have HCB := lh hcb
 have c0 : (0 : Int) ≤ (c : Int) := by omega
 have c1 : (c : Int) < 128 := by omega
 have hsv : srt c = 4 := by rw [hcb]; exact h6
 rw [hsv] at hsr
 clear hcb hso hW hns hsc
 go_enter Tryz.func33, Tryz.ntmps33
 go_upto_region 2 with fail
 rw [← HW.out]
 clear qw0 qw1
 go_quiet (fail)
 go_upto_region 16 with fail
 have hvX := HV.out.drewN nq
 clear HV hsr hck s0 s1 z b0 b1 b2 b3 y0 y1 y2 y3 a0 a1 a2 a3 f0 f2 f3 l0 l1 l2
 generalize W.drewN nq = W1 at hvX ⊢
 have HV := lh hvX
 obtain ⟨s0, s1, z, b0, b1, b2, b3, y0, y1, y2, y3, a0, a1, a2, a3, f0, f2, f3, l0, l1, l2⟩ := hvX.facts
 clear hvX
 go_upto_region 17 with fail
 have hvX := HV.out.setk hbw 4
 clear HV s0 s1 z b0 b1 b2 b3 y0 y1 y2 y3 a0 a1 a2 a3 f0 f2 f3 l0 l1 l2
 generalize W1.setCell ⟨w.heap.size + 1, 0, none⟩ (.int .i64 4) = W2 at hvX ⊢
 have HV := lh hvX
 obtain ⟨s0, s1, z, b0, b1, b2, b3, y0, y1, y2, y3, a0, a1, a2, a3, f0, f2, f3, l0, l1, l2⟩ := hvX.facts
 clear hvX
 go_wp2_with fail
 refine (while_any s b W2.heap.size i [3, 4, 2, 5] inName _ (HV.out.alloc _).sc hs (by omega) (HSO.out.gr (HV.out.alloc _).g hb) hA (ints_new W2 [3, 4, 2, 5] _ _ rfl) (by omega) hb (by decide) name_sort).mono ?_
 rintro e w3 ⟨rfl, hs3, hg3⟩
 have hv3 := (HV.out.alloc (.cells #[.int .i64 3, .int .i64 4, .int .i64 2, .int .i64 5] 3)).gr hbw hg3 hs3
 have hwh := whD_ge s inName i
 have hT := tokD_name (s := s) (i := i) (.inr (.inl (great_sort _ (hA i hi) h6)))
 obtain ⟨j, hj⟩ : ∃ j, j = whD s inName i := ⟨_, rfl⟩
 rw [← hj] at hv3 hwh hT
 have hij := hwh.1
 have hjs := hwh.2 (by omega)
 clear HV hs3 hg3 hwh hj s0 s1 z b0 b1 b2 b3 y0 y1 y2 y3 a0 a1 a2 a3 f0 f2 f3 l0 l1 l2
 have HV := lh hv3
 obtain ⟨s0, s1, z, b0, b1, b2, b3, y0, y1, y2, y3, a0, a1, a2, a3, f0, f2, f3, l0, l1, l2⟩ := hv3.facts
 clear hv3
 rw [nameK_eq] at hT
 have HT := lh hT
 clear hT
 have n1 : ¬ (w.heap.size + 1 = b) := by omega
 have n2 : ¬ (w.heap.size + 1 = w.heap.size) := by omega
 have n3 : ¬ (b = w.heap.size + 1) := by omega
 have n4 : ¬ (w.heap.size = w.heap.size + 1) := by omega
 have n5 : ¬ (b = w.heap.size) := by omega
 have n6 : ¬ (w.heap.size = b) := by omega
 go_upto_region 33 with fail
 have j0 : (0 : Int) ≤ (i : Int) := by omega
 have j1 : (i : Int) ≤ ((j : Nat) : Int) := by omega
 have j2 : ((j : Nat) : Int) ≤ (s.size : Int) := by omega
 go_region
 have hvX := (HV.out.setx hbw (s.extract i (j))).drew
 clear HV s0 s1 z b0 b1 b2 b3 y0 y1 y2 y3 a0 a1 a2 a3 f0 f2 f3 l0 l1 l2
 generalize (w3.setCell ⟨w.heap.size + 1, 2, none⟩ (.string (s.extract i (j)))).drew = W6 at hvX ⊢
 have HV := lh hvX
 obtain ⟨s0, s1, z, b0, b1, b2, b3, y0, y1, y2, y3, a0, a1, a2, a3, f0, f2, f3, l0, l1, l2⟩ := hvX.facts
 clear hvX
 obtain ⟨x, hx⟩ : ∃ x, x = s.extract i j := ⟨_, rfl⟩
 have hxs : x.size = j - i := by rw [hx, ByteArray.size_extract]; omega
 rw [← hx] at HV a2 ⊢
 have hue := under_eq x
 have hT := HT.out
 rw [show cut s i j = x from hx.symm] at hT
 have HT2 := lh hT
 clear hT hx HT
 by_cases hu : x = ⟨#[95]⟩
 · rw [decide_eq_true hu] at hue
   have hT := HT2.out
   rw [if_pos hu] at hT
   have HT := lh hT
   clear hT HT2 hu
   go_upto_region 38 with fail
   have hvX := HV.out.setk hbw 7
   clear HV s0 s1 z b0 b1 b2 b3 y0 y1 y2 y3 a0 a1 a2 a3 f0 f2 f3 l0 l1 l2
   generalize W6.setCell ⟨w.heap.size + 1, 0, none⟩ (.int .i64 7) = W7 at hvX ⊢
   have HV := lh hvX
   obtain ⟨s0, s1, z, b0, b1, b2, b3, y0, y1, y2, y3, a0, a1, a2, a3, f0, f2, f3, l0, l1, l2⟩ := hvX.facts
   clear hvX
   by_cases h20 : j - i ≤ 20
   · have hd : decide ((x.size : Int) ≤ 20) = true := by simp; omega
     have hd2 : decide ((20 : Int) < (x.size : Int)) = false := by simp; omega
     have hd3 : (((j - i : Nat) : Int) ≤ 20) := by omega
     have hT := HT.out
     rw [if_pos h20] at hT
     have HTT := lh hT
     clear hT
     go_region
     all_goals go_wp2_with fail
     all_goals
      refine bodyPost_ret (v := .tuple #[.agg #[.int .i64 7, .int .i64 i, .string x, .int .i64 0], .bool true]) (by simp [results, Tryz.results33, go_sem, b0, b1, b2, b3, y0, y1, y2, y3, l1, hd3]) rfl ?_
      exact NextPost.ok HTT.out rfl (HV.out.fin hbw _ _ _ _).drew
   · have hd : decide ((x.size : Int) ≤ 20) = false := by simp; omega
     have hd2 : decide ((20 : Int) < (x.size : Int)) = true := by simp; omega
     have hd3 : ((20 : Int) < ((j - i : Nat) : Int)) := by omega
     have hT := HT.out
     rw [if_neg h20] at hT
     have HTT := lh hT
     clear hT
     go_region
     all_goals go_wp2_with fail
     all_goals
      refine bodyPost_ret (v := .tuple #[.agg #[.int .i64 7, .int .i64 i, .string x, .int .i64 0], .bool false]) (by simp [results, Tryz.results33, go_sem, b0, b1, b2, b3, y0, y1, y2, y3, l1, hd3]) rfl ?_
      exact NextPost.bad HTT.out rfl (HV.out.fin hbw _ _ _ _).drew.2
 · rw [decide_eq_false hu] at hue
   have hT := HT2.out
   rw [if_neg hu] at hT
   have HT := lh hT
   clear hT HT2 hu
   go_wp2_with fail
   refine (isWord_any x _).mono ?_
   rintro e w8 ⟨rfl, hb8⟩
   have hvX := HV.out.below hb8
   clear HV hb8 s0 s1 z b0 b1 b2 b3 y0 y1 y2 y3 a0 a1 a2 a3 f0 f2 f3 l0 l1 l2
   have HV := lh hvX
   obtain ⟨s0, s1, z, b0, b1, b2, b3, y0, y1, y2, y3, a0, a1, a2, a3, f0, f2, f3, l0, l1, l2⟩ := hvX.facts
   clear hvX
   cases hw : amongD wordB x with
   | true =>
    have hT := HT.out
    rw [if_pos hw] at hT
    have HT2 := lh hT
    clear hT HT hw
    go_upto_region 38 with fail
    have hvX := HV.out.setk hbw 6
    clear HV s0 s1 z b0 b1 b2 b3 y0 y1 y2 y3 a0 a1 a2 a3 f0 f2 f3 l0 l1 l2
    generalize w8.setCell ⟨w.heap.size + 1, 0, none⟩ (.int .i64 6) = W7 at hvX ⊢
    have HV := lh hvX
    obtain ⟨s0, s1, z, b0, b1, b2, b3, y0, y1, y2, y3, a0, a1, a2, a3, f0, f2, f3, l0, l1, l2⟩ := hvX.facts
    clear hvX
    by_cases h20 : j - i ≤ 20
    · have hd : decide ((x.size : Int) ≤ 20) = true := by simp; omega
      have hd2 : decide ((20 : Int) < (x.size : Int)) = false := by simp; omega
      have hd3 : (((j - i : Nat) : Int) ≤ 20) := by omega
      have hT := HT2.out
      rw [if_pos h20] at hT
      have HTT := lh hT
      clear hT
      go_region
      all_goals go_wp2_with fail
      all_goals
       refine bodyPost_ret (v := .tuple #[.agg #[.int .i64 6, .int .i64 i, .string x, .int .i64 0], .bool true]) (by simp [results, Tryz.results33, go_sem, b0, b1, b2, b3, y0, y1, y2, y3, l1, hd3]) rfl ?_
       exact NextPost.ok HTT.out rfl (HV.out.fin hbw _ _ _ _).drew
    · have hd : decide ((x.size : Int) ≤ 20) = false := by simp; omega
      have hd2 : decide ((20 : Int) < (x.size : Int)) = true := by simp; omega
      have hd3 : ((20 : Int) < ((j - i : Nat) : Int)) := by omega
      have hT := HT2.out
      rw [if_neg h20] at hT
      have HTT := lh hT
      clear hT
      go_region
      all_goals go_wp2_with fail
      all_goals
       refine bodyPost_ret (v := .tuple #[.agg #[.int .i64 6, .int .i64 i, .string x, .int .i64 0], .bool false]) (by simp [results, Tryz.results33, go_sem, b0, b1, b2, b3, y0, y1, y2, y3, l1, hd3]) rfl ?_
       exact NextPost.bad HTT.out rfl (HV.out.fin hbw _ _ _ _).drew.2
   | false =>
    have hT := HT.out
    rw [if_neg (show ¬ amongD wordB x = true by simp [hw]), if_pos (great_sort _ (hA i hi) h6)] at hT
    have HT2 := lh hT
    clear hT HT hw
    go_upto_region 38 with fail
    obtain ⟨W7, hW7⟩ : ∃ W7, W7 = w8 := ⟨_, rfl⟩
    subst hW7
    by_cases h20 : j - i ≤ 20
    · have hd : decide ((x.size : Int) ≤ 20) = true := by simp; omega
      have hd2 : decide ((20 : Int) < (x.size : Int)) = false := by simp; omega
      have hd3 : (((j - i : Nat) : Int) ≤ 20) := by omega
      have hT := HT2.out
      rw [if_pos h20] at hT
      have HTT := lh hT
      clear hT
      go_region
      all_goals go_wp2_with fail
      all_goals
       refine bodyPost_ret (v := .tuple #[.agg #[.int .i64 4, .int .i64 i, .string x, .int .i64 0], .bool true]) (by simp [results, Tryz.results33, go_sem, b0, b1, b2, b3, y0, y1, y2, y3, l1, hd3]) rfl ?_
       exact NextPost.ok HTT.out rfl (HV.out.fin hbw _ _ _ _).drew
    · have hd : decide ((x.size : Int) ≤ 20) = false := by simp; omega
      have hd2 : decide ((20 : Int) < (x.size : Int)) = true := by simp; omega
      have hd3 : ((20 : Int) < ((j - i : Nat) : Int)) := by omega
      have hT := HT2.out
      rw [if_neg h20] at hT
      have HTT := lh hT
      clear hT
      go_region
      all_goals go_wp2_with fail
      all_goals
       refine bodyPost_ret (v := .tuple #[.agg #[.int .i64 4, .int .i64 i, .string x, .int .i64 0], .bool false]) (by simp [results, Tryz.results33, go_sem, b0, b1, b2, b3, y0, y1, y2, y3, l1, hd3]) rfl ?_
       exact NextPost.bad HTT.out rfl (HV.out.fin hbw _ _ _ _).drew.2
theorem pair_sign : ∀ p ∈ pairL, p.1 ∈ signL := by decide +kernel
theorem tokD_no {s : ByteArray} {i : Nat} (h1 : dig (bt s i) = false) (h2 : bt s i ≠ 34) (h3 : bt s i ≠ 39) (h4 : small (bt s i) = false) (h5 : great (bt s i) = false) (h6 : bt s i ≠ 95) (h7 : bt s i ∉ signL) : tokD s i = none := by
 unfold tokD
 rw [if_neg (by simp [h1]), if_neg h2, if_neg h3, if_neg (by simp [h4, h5, h6]), if_neg (fun h => h7 (pair_sign _ h.2)), if_neg h7]
theorem next_no0 (s : ByteArray) (b i : Nat) (w : World) (hsc : Scan w b s i) (hs : s.size ≤ 4000) (hi : i < s.size) (hso : Sorts w) (hA : ∀ k, k < s.size → bt s k < 128) (hb : 1 ≠ b) (h6 : srt (bt s i) = 0) (hT : tokD s i = none) :
 Calls Tryz.prog 33 #[pv b] w (NextPost s b i w) := by
 obtain ⟨W, hW⟩ : ∃ W, W = (w.alloc (.cells #[.int .i64 0, .int .i64 0, .string ⟨#[]⟩, .int .i64 0] 59)).alloc (.cells #[.int .i64 0, .int .i64 i, .string ⟨#[]⟩, .int .i64 0] 59) := ⟨_, rfl⟩
 have hns : NS w W b s i 0 i ⟨#[]⟩ 0 := by rw [hW]; exact NS.start hsc i
 have hbw := hsc.lt
 have qw0 : (w.alloc (.cells #[.int .i64 0, .int .i64 0, .string ⟨#[]⟩, .int .i64 0] 59)).cell? ⟨b, 0, none⟩ = some (.string s) := blk_cell (blk_alloc hsc _) 0
 have qw1 : (w.alloc (.cells #[.int .i64 0, .int .i64 0, .string ⟨#[]⟩, .int .i64 0] 59)).cell? ⟨b, 1, none⟩ = some (.int .i64 i) := blk_cell (blk_alloc hsc _) 1
 have HSO := lh hso
 have HW := lh hW
 have HV := lh hns
 obtain ⟨s0, s1, z, b0, b1, b2, b3, y0, y1, y2, y3, a0, a1, a2, a3, f0, f2, f3, l0, l1, l2⟩ := hns.facts
 have k0 : (0 : Int) ≤ (i : Int) := by omega
 have k1 : (i : Int) < (s.size : Int) := by omega
 obtain ⟨c, hcb⟩ : ∃ c, c = bt s i := ⟨_, rfl⟩
 have hck := bt_eq hi hcb
 have hc := hA i hi
 rw [← hcb] at hc
 have hsr : W.cell? ⟨1, c, none⟩ = some (.int .i64 (srt c)) := gr_cell HV.out.g hb (HSO.out c hc)
 have HCB := lh hcb
 have c0 : (0 : Int) ≤ (c : Int) := by omega
 have c1 : (c : Int) < 128 := by omega
 have hsv : srt c = 0 := by rw [hcb]; exact h6
 rw [hsv] at hsr
 have HT := lh hT
 clear hT
 clear hcb hso hW hns hsc
 go_enter Tryz.func33, Tryz.ntmps33
 go_upto_region 2 with fail
 rw [← HW.out]
 clear qw0 qw1
 go_quiet (fail)
 go_upto_region 3 with fail
 have hvX := HV.out.drewN nq
 clear HV hsr hck s0 s1 z b0 b1 b2 b3 y0 y1 y2 y3 a0 a1 a2 a3 f0 f2 f3 l0 l1 l2
 generalize W.drewN nq = W1 at hvX ⊢
 have HV := lh hvX
 obtain ⟨s0, s1, z, b0, b1, b2, b3, y0, y1, y2, y3, a0, a1, a2, a3, f0, f2, f3, l0, l1, l2⟩ := hvX.facts
 clear hvX
 go_wp2_with fail
 refine bodyPost_ret (v := .tuple #[.agg #[.int .i64 0, .int .i64 i, .string ⟨#[]⟩, .int .i64 0], .bool false]) (by simp [results, Tryz.results33, go_sem, b0, b1, b2, b3, y0, y1, y2, y3, l1]) rfl ?_
 exact NextPost.bad HT.out rfl (HV.out.fin hbw _ _ _ _).2
theorem next_no1 (s : ByteArray) (b i : Nat) (w : World) (hsc : Scan w b s i) (hs : s.size ≤ 4000) (hi : i < s.size) (hso : Sorts w) (hA : ∀ k, k < s.size → bt s k < 128) (hb : 1 ≠ b) (h6 : srt (bt s i) = 1) (hT : tokD s i = none) :
 Calls Tryz.prog 33 #[pv b] w (NextPost s b i w) := by
 obtain ⟨W, hW⟩ : ∃ W, W = (w.alloc (.cells #[.int .i64 0, .int .i64 0, .string ⟨#[]⟩, .int .i64 0] 59)).alloc (.cells #[.int .i64 0, .int .i64 i, .string ⟨#[]⟩, .int .i64 0] 59) := ⟨_, rfl⟩
 have hns : NS w W b s i 0 i ⟨#[]⟩ 0 := by rw [hW]; exact NS.start hsc i
 have hbw := hsc.lt
 have qw0 : (w.alloc (.cells #[.int .i64 0, .int .i64 0, .string ⟨#[]⟩, .int .i64 0] 59)).cell? ⟨b, 0, none⟩ = some (.string s) := blk_cell (blk_alloc hsc _) 0
 have qw1 : (w.alloc (.cells #[.int .i64 0, .int .i64 0, .string ⟨#[]⟩, .int .i64 0] 59)).cell? ⟨b, 1, none⟩ = some (.int .i64 i) := blk_cell (blk_alloc hsc _) 1
 have HSO := lh hso
 have HW := lh hW
 have HV := lh hns
 obtain ⟨s0, s1, z, b0, b1, b2, b3, y0, y1, y2, y3, a0, a1, a2, a3, f0, f2, f3, l0, l1, l2⟩ := hns.facts
 have k0 : (0 : Int) ≤ (i : Int) := by omega
 have k1 : (i : Int) < (s.size : Int) := by omega
 obtain ⟨c, hcb⟩ : ∃ c, c = bt s i := ⟨_, rfl⟩
 have hck := bt_eq hi hcb
 have hc := hA i hi
 rw [← hcb] at hc
 have hsr : W.cell? ⟨1, c, none⟩ = some (.int .i64 (srt c)) := gr_cell HV.out.g hb (HSO.out c hc)
 have HCB := lh hcb
 have c0 : (0 : Int) ≤ (c : Int) := by omega
 have c1 : (c : Int) < 128 := by omega
 have hsv : srt c = 1 := by rw [hcb]; exact h6
 rw [hsv] at hsr
 have HT := lh hT
 clear hT
 clear hcb hso hW hns hsc
 go_enter Tryz.func33, Tryz.ntmps33
 go_upto_region 2 with fail
 rw [← HW.out]
 clear qw0 qw1
 go_quiet (fail)
 go_upto_region 3 with fail
 have hvX := HV.out.drewN nq
 clear HV hsr hck s0 s1 z b0 b1 b2 b3 y0 y1 y2 y3 a0 a1 a2 a3 f0 f2 f3 l0 l1 l2
 generalize W.drewN nq = W1 at hvX ⊢
 have HV := lh hvX
 obtain ⟨s0, s1, z, b0, b1, b2, b3, y0, y1, y2, y3, a0, a1, a2, a3, f0, f2, f3, l0, l1, l2⟩ := hvX.facts
 clear hvX
 go_wp2_with fail
 refine bodyPost_ret (v := .tuple #[.agg #[.int .i64 0, .int .i64 i, .string ⟨#[]⟩, .int .i64 0], .bool false]) (by simp [results, Tryz.results33, go_sem, b0, b1, b2, b3, y0, y1, y2, y3, l1]) rfl ?_
 exact NextPost.bad HT.out rfl (HV.out.fin hbw _ _ _ _).2
/-- next, wherever it stands -/
theorem next_any (s : ByteArray) (b i : Nat) (w : World) (hsc : Scan w b s i) (hs : s.size ≤ 4000) (hi : i < s.size) (hso : Sorts w) (hA : ∀ k, k < s.size → bt s k < 128) (hb : 1 ≠ b) :
 Calls Tryz.prog 33 #[pv b] w (NextPost s b i w) := by
 rcases sort_cases _ (hA i hi) with ⟨h, _⟩ | ⟨h, _⟩ | ⟨h, _⟩ | ⟨_, h⟩ | ⟨h, _⟩ | ⟨_, h⟩ | ⟨h, h1, h2, h3, h4, h5, h6, h7⟩
 · exact next_digit s b i w hsc hs hi hso hA hb h
 · exact next_low s b i w hsc hs hi hso hA hb h
 · exact next_up s b i w hsc hs hi hso hA hb h
 · exact next_var s b i w hsc hs hi hso hA hb h
 · exact next_sign s b i w hsc hs hi hso hA hb h
 · exact next_text s b i w hsc hs hi hso hA hb h
 · have hT := tokD_no h1 h2 h3 h4 h5 h6 h7
   rcases h with h | h
   · exact next_no0 s b i w hsc hs hi hso hA hb h hT
   · exact next_no1 s b i w hsc hs hi hso hA hb h hT
end Go.Proofs.YthehjeeiodbkjaaGreatDoor
