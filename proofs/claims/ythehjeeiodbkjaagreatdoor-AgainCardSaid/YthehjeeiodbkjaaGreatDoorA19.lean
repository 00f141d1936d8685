/-
  Proved: the contract of the scanner's next at signs; the contract of the scanner's next at names; the contract of the scanner's next at digits. Conditions: the table of sorts, a text of at most 4000 bytes below 128.
-/
import Derived.Test.YthehjeeiodbkjaaGreatDoorA01
import Derived.Test.YthehjeeiodbkjaaGreatDoorA18
import Derived.Test.YthehjeeiodbkjaaGreatDoorA16
import Derived.BigRegion
set_option linter.unusedSimpArgs false
set_option linter.unusedVariables false
set_option maxRecDepth 100000
set_option maxHeartbeats 16000000
namespace Go.Proofs.YthehjeeiodbkjaaGreatDoor
open Go.RowKit
theorem pair_eq (s : ByteArray) (i : Nat) (h : i + 2 ≤ s.size) : (pairB.any fun x => (s.extract i (i + 2)).toList == x.data.toList) = decide ((bt s i, bt s (i + 1)) ∈ pairL) := by
 have e : s.extract i (i + 2) = ⟨#[s[i], s[i + 1]]⟩ := cut_two s i h
 have e2 : ∀ a b : UInt8, (⟨#[a, b]⟩ : ByteArray).toList = [a, b] := fun a b => by rw [ByteArray.toList_eq]
 rw [e, e2, ← bt_get s i (by omega), ← bt_get s (i + 1) (by omega)]
 generalize s[i] = a
 generalize s[i + 1] = b
 rw [Bool.eq_iff_iff]
 simp [pairB, pairL, u8_eq]
theorem isPair_same (t : ByteArray) (w : World) : Calls Tryz.prog 70 #[.string t] w fun e w' => e = .returned (.bool (pairB.any fun x => t.toList == x.data.toList)) ∧ w' = w := (isPair_any t w).mono fun _ _ h => ⟨h.1, h.2.symm⟩
theorem tokD_sg {s : ByteArray} {i : Nat} (hsv : srt (bt s i) = 6) (hA : bt s i < 128) : tokD s i = if i + 2 ≤ s.size ∧ (bt s i, bt s (i + 1)) ∈ pairL then some ((7, i, cut s i (i + 2), 0), i + 2) else some ((7, i, cut s i (i + 1), 0), i + 1) := by
 have h : ∀ c, c < 128 → srt c = 6 → dig c = false ∧ c ≠ 34 ∧ c ≠ 39 ∧ (small c || great c || decide (c = 95)) = false ∧ c ∈ signL := by decide +kernel
 obtain ⟨h1, h2, h3, h4, h5⟩ := h _ hA hsv
 unfold tokD
 rw [if_neg (by simp [h1]), if_neg h2, if_neg h3, if_neg (by simp [h4]), if_pos h5]
theorem next_sign (s : ByteArray) (b i : Nat) (w : World) (hsc : Scan w b s i) (hs : s.size ≤ 4000) (hi : i < s.size) (hso : Sorts w) (hA : ∀ k, k < s.size → bt s k < 128) (hb : 1 ≠ b) (h6 : srt (bt s i) = 6) :
 Calls Tryz.prog 33 #[pv b] w (NextPost s b i w) := by
 obtain ⟨W, hW⟩ : ∃ W, W = (w.alloc (.cells #[.int .i64 0, .int .i64 0, .string ⟨#[]⟩, .int .i64 0] 59)).alloc (.cells #[.int .i64 0, .int .i64 i, .string ⟨#[]⟩, .int .i64 0] 59) := ⟨_, rfl⟩
 have hns : NS w W b s i 0 i ⟨#[]⟩ 0 := by rw [hW]; exact NS.start hsc i
 have hbw := hsc.lt
 have qw0 : (w.alloc (.cells #[.int .i64 0, .int .i64 0, .string ⟨#[]⟩, .int .i64 0] 59)).cell? ⟨b, 0, none⟩ = some (.string s) := blk_cell (blk_alloc hsc _) 0
 have qw1 : (w.alloc (.cells #[.int .i64 0, .int .i64 0, .string ⟨#[]⟩, .int .i64 0] 59)).cell? ⟨b, 1, none⟩ = some (.int .i64 i) := blk_cell (blk_alloc hsc _) 1
 have HSO := lh hso
 have HW := lh hW
 have HV := lh hns
 obtain ⟨s0, s1, z, b0, b1, b2, b3, y0, y1, y2, y3, a0, a1, a2, a3, f0, f2, f3, l0, l1, l2⟩ := hns.facts
 have k0 : (0 : Int) ≤ (i : Int) := by omega
 have k1 : (i : Int) < (s.size : Int) := by omega
 obtain ⟨c, hcb⟩ : ∃ c, c = bt s i := ⟨_, rfl⟩
 have hck := bt_eq hi hcb
 have hc := hA i hi
 rw [← hcb] at hc
 have hsr : W.cell? ⟨1, c, none⟩ = some (.int .i64 (srt c)) := gr_cell HV.out.g hb (HSO.out c hc)
 have HCB := lh hcb
 have c0 : (0 : Int) ≤ (c : Int) := by omega
 have c1 : (c : Int) < 128 := by omega
 have hsv : srt c = 6 := by rw [hcb]; exact h6
 rw [hsv] at hsr
 clear hcb hso hW hns hsc
 go_enter Tryz.func33, Tryz.ntmps33
 go_upto_region 2 with fail
 rw [← HW.out]
 clear qw0 qw1
 go_quiet (fail)
 go_upto_region 26 with fail
 have hvX := HV.out.drewN nq
 clear HV hsr hck s0 s1 z b0 b1 b2 b3 y0 y1 y2 y3 a0 a1 a2 a3 f0 f2 f3 l0 l1 l2
 generalize W.drewN nq = W1 at hvX ⊢
 have HV := lh hvX
 obtain ⟨s0, s1, z, b0, b1, b2, b3, y0, y1, y2, y3, a0, a1, a2, a3, f0, f2, f3, l0, l1, l2⟩ := hvX.facts
 clear hvX
 go_upto_region 28 with fail
 have hvX := HV.out.setk hbw 7
 clear HV s0 s1 z b0 b1 b2 b3 y0 y1 y2 y3 a0 a1 a2 a3 f0 f2 f3 l0 l1 l2
 generalize W1.setCell ⟨w.heap.size + 1, 0, none⟩ (.int .i64 7) = W2 at hvX ⊢
 have HV := lh hvX
 obtain ⟨s0, s1, z, b0, b1, b2, b3, y0, y1, y2, y3, a0, a1, a2, a3, f0, f2, f3, l0, l1, l2⟩ := hvX.facts
 clear hvX
 have n1 : ¬ (w.heap.size + 1 = b) := by omega
 have n2 : ¬ (w.heap.size + 1 = w.heap.size) := by omega
 have n3 : ¬ (b = w.heap.size + 1) := by omega
 have n4 : ¬ (w.heap.size = w.heap.size + 1) := by omega
 have n5 : ¬ (b = w.heap.size) := by omega
 have n6 : ¬ (w.heap.size = b) := by omega
 have hT := tokD_sg h6 (hA i hi)
 have hw2 : IntKind.i64.wrap ((i : Int) + 2) = (i : Int) + 2 := IntWalk.i64_in _ (by omega)
 have hw1 : IntKind.i64.wrap ((i : Int) + 1) = (i : Int) + 1 := IntWalk.i64_in _ (by omega)
 by_cases h2 : i + 2 ≤ s.size
 · have hpe := pair_eq s i h2
   have hd : decide ((i : Int) + 2 ≤ (s.size : Int)) = true := by simp; omega
   have hd2 : decide ((s.size : Int) < (i : Int) + 2) = false := by simp; omega
   have q1 : (i : Int) ≤ (i : Int) + 2 := by omega
   have q2 : (i : Int) + 2 ≤ (s.size : Int) := by omega
   have HPE := lh hpe
   have ht : ((i : Int) + 2).toNat = i + 2 := by omega
   go_quiet (exact Calls.quiet_of_same (isPair_same _ _))
   rw [HPE.out]
   by_cases hp : (bt s i, bt s (i + 1)) ∈ pairL
   · rw [if_pos ⟨h2, hp⟩] at hT
     rw [decide_eq_true hp]
     have HT := lh hT
     clear hT hp hpe
     go_upto_region 31 with fail
     have hvX := HV.out.drewN nq
     clear HV hd hd2 q1 q2 s0 s1 z b0 b1 b2 b3 y0 y1 y2 y3 a0 a1 a2 a3 f0 f2 f3 l0 l1 l2
     generalize W2.drewN nq = W4 at hvX ⊢
     have HV := lh hvX
     obtain ⟨s0, s1, z, b0, b1, b2, b3, y0, y1, y2, y3, a0, a1, a2, a3, f0, f2, f3, l0, l1, l2⟩ := hvX.facts
     clear hvX
     have hvX := HV.out.setat hbw ((i : Int) + 2) (i + 2) (by omega)
     clear HV s0 s1 z b0 b1 b2 b3 y0 y1 y2 y3 a0 a1 a2 a3 f0 f2 f3 l0 l1 l2
     generalize W4.setCell ⟨b, 1, none⟩ (.int .i64 ((i : Int) + 2)) = W5 at hvX ⊢
     have HV := lh hvX
     obtain ⟨s0, s1, z, b0, b1, b2, b3, y0, y1, y2, y3, a0, a1, a2, a3, f0, f2, f3, l0, l1, l2⟩ := hvX.facts
     clear hvX
     have j0 : (0 : Int) ≤ (i : Int) := by omega
     have j1 : (i : Int) ≤ ((i + 2 : Nat) : Int) := by omega
     have j2 : ((i + 2 : Nat) : Int) ≤ (s.size : Int) := by omega
     go_region
     have hvX := (HV.out.setx hbw (s.extract i (i + 2))).drew
     clear HV s0 s1 z b0 b1 b2 b3 y0 y1 y2 y3 a0 a1 a2 a3 f0 f2 f3 l0 l1 l2
     generalize (W5.setCell ⟨w.heap.size + 1, 2, none⟩ (.string (s.extract i (i + 2)))).drew = W6 at hvX ⊢
     have HV := lh hvX
     obtain ⟨s0, s1, z, b0, b1, b2, b3, y0, y1, y2, y3, a0, a1, a2, a3, f0, f2, f3, l0, l1, l2⟩ := hvX.facts
     clear hvX
     go_wp2_with fail
     refine bodyPost_ret (v := .tuple #[.agg #[.int .i64 7, .int .i64 i, .string (s.extract i (i + 2)), .int .i64 0], .bool true]) (by simp [results, Tryz.results33, go_sem, b0, b1, b2, b3, y0, y1, y2, y3, l1]) rfl ?_
     exact NextPost.ok HT.out rfl (HV.out.fin hbw _ _ _ _)
   · rw [if_neg (fun h => hp h.2)] at hT
     rw [decide_eq_false hp]
     have HT := lh hT
     clear hT hp hpe
     go_upto_region 31 with fail
     have hvX := HV.out.drewN nq
     clear HV hd hd2 q1 q2 s0 s1 z b0 b1 b2 b3 y0 y1 y2 y3 a0 a1 a2 a3 f0 f2 f3 l0 l1 l2
     generalize W2.drewN nq = W4 at hvX ⊢
     have HV := lh hvX
     obtain ⟨s0, s1, z, b0, b1, b2, b3, y0, y1, y2, y3, a0, a1, a2, a3, f0, f2, f3, l0, l1, l2⟩ := hvX.facts
     clear hvX
     have hvX := HV.out.setat hbw ((i : Int) + 1) (i + 1) (by omega)
     clear HV s0 s1 z b0 b1 b2 b3 y0 y1 y2 y3 a0 a1 a2 a3 f0 f2 f3 l0 l1 l2
     generalize W4.setCell ⟨b, 1, none⟩ (.int .i64 ((i : Int) + 1)) = W5 at hvX ⊢
     have HV := lh hvX
     obtain ⟨s0, s1, z, b0, b1, b2, b3, y0, y1, y2, y3, a0, a1, a2, a3, f0, f2, f3, l0, l1, l2⟩ := hvX.facts
     clear hvX
     have j0 : (0 : Int) ≤ (i : Int) := by omega
     have j1 : (i : Int) ≤ ((i + 1 : Nat) : Int) := by omega
     have j2 : ((i + 1 : Nat) : Int) ≤ (s.size : Int) := by omega
     go_region
     have hvX := (HV.out.setx hbw (s.extract i (i + 1))).drew
     clear HV s0 s1 z b0 b1 b2 b3 y0 y1 y2 y3 a0 a1 a2 a3 f0 f2 f3 l0 l1 l2
     generalize (W5.setCell ⟨w.heap.size + 1, 2, none⟩ (.string (s.extract i (i + 1)))).drew = W6 at hvX ⊢
     have HV := lh hvX
     obtain ⟨s0, s1, z, b0, b1, b2, b3, y0, y1, y2, y3, a0, a1, a2, a3, f0, f2, f3, l0, l1, l2⟩ := hvX.facts
     clear hvX
     go_wp2_with fail
     refine bodyPost_ret (v := .tuple #[.agg #[.int .i64 7, .int .i64 i, .string (s.extract i (i + 1)), .int .i64 0], .bool true]) (by simp [results, Tryz.results33, go_sem, b0, b1, b2, b3, y0, y1, y2, y3, l1]) rfl ?_
     exact NextPost.ok HT.out rfl (HV.out.fin hbw _ _ _ _)
 · have hd : decide ((i : Int) + 2 ≤ (s.size : Int)) = false := by simp; omega
   have hd2 : decide ((s.size : Int) < (i : Int) + 2) = true := by simp; omega
   rw [if_neg (fun h => h2 h.1)] at hT
   have HT := lh hT
   clear hT
   go_quiet (fail)
   go_upto_region 31 with fail
   have hvX := HV.out.drewN nq
   clear HV hd hd2 s0 s1 z b0 b1 b2 b3 y0 y1 y2 y3 a0 a1 a2 a3 f0 f2 f3 l0 l1 l2
   generalize W2.drewN nq = W4 at hvX ⊢
   have HV := lh hvX
   obtain ⟨s0, s1, z, b0, b1, b2, b3, y0, y1, y2, y3, a0, a1, a2, a3, f0, f2, f3, l0, l1, l2⟩ := hvX.facts
   clear hvX
   have hvX := HV.out.setat hbw ((i : Int) + 1) (i + 1) (by omega)
   clear HV s0 s1 z b0 b1 b2 b3 y0 y1 y2 y3 a0 a1 a2 a3 f0 f2 f3 l0 l1 l2
   generalize W4.setCell ⟨b, 1, none⟩ (.int .i64 ((i : Int) + 1)) = W5 at hvX ⊢
   have HV := lh hvX
   obtain ⟨s0, s1, z, b0, b1, b2, b3, y0, y1, y2, y3, a0, a1, a2, a3, f0, f2, f3, l0, l1, l2⟩ := hvX.facts
   clear hvX
   have j0 : (0 : Int) ≤ (i : Int) := by omega
   have j1 : (i : Int) ≤ ((i + 1 : Nat) : Int) := by omega
   have j2 : ((i + 1 : Nat) : Int) ≤ (s.size : Int) := by omega
   go_region
   have hvX := (HV.out.setx hbw (s.extract i (i + 1))).drew
   clear HV s0 s1 z b0 b1 b2 b3 y0 y1 y2 y3 a0 a1 a2 a3 f0 f2 f3 l0 l1 l2
   generalize (W5.setCell ⟨w.heap.size + 1, 2, none⟩ (.string (s.extract i (i + 1)))).drew = W6 at hvX ⊢
   have HV := lh hvX
   obtain ⟨s0, s1, z, b0, b1, b2, b3, y0, y1, y2, y3, a0, a1, a2, a3, f0, f2, f3, l0, l1, l2⟩ := hvX.facts
   clear hvX
   go_wp2_with fail
   refine bodyPost_ret (v := .tuple #[.agg #[.int .i64 7, .int .i64 i, .string (s.extract i (i + 1)), .int .i64 0], .bool true]) (by simp [results, Tryz.results33, go_sem, b0, b1, b2, b3, y0, y1, y2, y3, l1]) rfl ?_
   exact NextPost.ok HT.out rfl (HV.out.fin hbw _ _ _ _)
theorem name_sort : ∀ c, c < 128 → inL [3, 4, 2, 5] (srt c) = inName c := by decide +kernel
theorem under_eq (x : ByteArray) : (x.toList == [95]) = decide (x = ⟨#[95]⟩) := by
 have e : (⟨#[95]⟩ : ByteArray).toList = [95] := by rw [ByteArray.toList_eq]
 have h := str_eq x ⟨#[95]⟩
 rw [e] at h
 exact h
theorem nameK_eq (s : ByteArray) (i : Nat) (t : ByteArray) : nameK s i t = if t = ⟨#[95]⟩ then 7 else if amongD wordB t then 6 else if great (bt s i) then 4 else 3 := by unfold nameK; rw [isWord_among]
theorem great_sort : ∀ c, c < 128 → srt c = 4 → great c = true := by decide +kernel
theorem low_great : ∀ c, c < 128 → srt c = 3 → great c = false := by decide +kernel
theorem next_low (s : ByteArray) (b i : Nat) (w : World) (hsc : Scan w b s i) (hs : s.size ≤ 4000) (hi : i < s.size) (hso : Sorts w) (hA : ∀ k, k < s.size → bt s k < 128) (hb : 1 ≠ b) (h6 : srt (bt s i) = 3) :
 Calls Tryz.prog 33 #[pv b] w (NextPost s b i w) := by
 obtain ⟨W, hW⟩ : ∃ W, W = (w.alloc (.cells #[.int .i64 0, .int .i64 0, .string ⟨#[]⟩, .int .i64 0] 59)).alloc (.cells #[.int .i64 0, .int .i64 i, .string ⟨#[]⟩, .int .i64 0] 59) := ⟨_, rfl⟩
 have hns : NS w W b s i 0 i ⟨#[]⟩ 0 := by rw [hW]; exact NS.start hsc i
 have hbw := hsc.lt
 have qw0 : (w.alloc (.cells #[.int .i64 0, .int .i64 0, .string ⟨#[]⟩, .int .i64 0] 59)).cell? ⟨b, 0, none⟩ = some (.string s) := blk_cell (blk_alloc hsc _) 0
 have qw1 : (w.alloc (.cells #[.int .i64 0, .int .i64 0, .string ⟨#[]⟩, .int .i64 0] 59)).cell? ⟨b, 1, none⟩ = some (.int .i64 i) := blk_cell (blk_alloc hsc _) 1
 have HSO := lh hso
 have HW := lh hW
 have HV := lh hns
 obtain ⟨s0, s1, z, b0, b1, b2, b3, y0, y1, y2, y3, a0, a1, a2, a3, f0, f2, f3, l0, l1, l2⟩ := hns.facts
 have k0 : (0 : Int) ≤ (i : Int) := by omega
 have k1 : (i : Int) < (s.size : Int) := by omega
 obtain ⟨c, hcb⟩ : ∃ c, c = bt s i := ⟨_, rfl⟩
 have hck := bt_eq hi hcb
 have hc := hA i hi
 rw [← hcb] at hc
 have hsr : W.cell? ⟨1, c, none⟩ = some (.int .i64 (srt c)) := gr_cell HV.out.g hb (HSO.out c hc)
 have HCB := lh hcb
 have c0 : (0 : Int) ≤ (c : Int) := by omega
 have c1 : (c : Int) < 128 := by omega
 have hsv : srt c = 3 := by rw [hcb]; exact h6
 rw [hsv] at hsr
 clear hcb hso hW hns hsc
 go_enter Tryz.func33, Tryz.ntmps33
 go_upto_region 2 with fail
 rw [← HW.out]
 clear qw0 qw1
 go_quiet (fail)
 go_upto_region 13 with fail
 have hvX := HV.out.drewN nq
 clear HV hsr hck s0 s1 z b0 b1 b2 b3 y0 y1 y2 y3 a0 a1 a2 a3 f0 f2 f3 l0 l1 l2
 generalize W.drewN nq = W1 at hvX ⊢
 have HV := lh hvX
 obtain ⟨s0, s1, z, b0, b1, b2, b3, y0, y1, y2, y3, a0, a1, a2, a3, f0, f2, f3, l0, l1, l2⟩ := hvX.facts
 clear hvX
 go_upto_region 14 with fail
 have hvX := HV.out.setk hbw 3
 clear HV s0 s1 z b0 b1 b2 b3 y0 y1 y2 y3 a0 a1 a2 a3 f0 f2 f3 l0 l1 l2
 generalize W1.setCell ⟨w.heap.size + 1, 0, none⟩ (.int .i64 3) = W2 at hvX ⊢
 have HV := lh hvX
 obtain ⟨s0, s1, z, b0, b1, b2, b3, y0, y1, y2, y3, a0, a1, a2, a3, f0, f2, f3, l0, l1, l2⟩ := hvX.facts
 clear hvX
 go_wp2_with fail
 refine (while_any s b W2.heap.size i [3, 4, 2, 5] inName _ (HV.out.alloc _).sc hs (by omega) (HSO.out.gr (HV.out.alloc _).g hb) hA (ints_new W2 [3, 4, 2, 5] _ _ rfl) (by omega) hb (by decide) name_sort).mono ?_
 rintro e w3 ⟨rfl, hs3, hg3⟩
 have hv3 := (HV.out.alloc (.cells #[.int .i64 3, .int .i64 4, .int .i64 2, .int .i64 5] 3)).gr hbw hg3 hs3
 have hwh := whD_ge s inName i
 have hT := tokD_name (s := s) (i := i) (by rcases low_sort _ (hA i hi) |>.1 h6 with h | h; exact .inl h; exact .inr (.inr h))
 obtain ⟨j, hj⟩ : ∃ j, j = whD s inName i := ⟨_, rfl⟩
 rw [← hj] at hv3 hwh hT
 have hij := hwh.1
 have hjs := hwh.2 (by omega)
 clear HV hs3 hg3 hwh hj s0 s1 z b0 b1 b2 b3 y0 y1 y2 y3 a0 a1 a2 a3 f0 f2 f3 l0 l1 l2
 have HV := lh hv3
 obtain ⟨s0, s1, z, b0, b1, b2, b3, y0, y1, y2, y3, a0, a1, a2, a3, f0, f2, f3, l0, l1, l2⟩ := hv3.facts
 clear hv3
 rw [nameK_eq] at hT
 have HT := lh hT
 clear hT
 have n1 : ¬ (w.heap.size + 1 = b) := by omega
 have n2 : ¬ (w.heap.size + 1 = w.heap.size) := by omega
 have n3 : ¬ (b = w.heap.size + 1) := by omega
 have n4 : ¬ (w.heap.size = w.heap.size + 1) := by omega
 have n5 : ¬ (b = w.heap.size) := by omega
 have n6 : ¬ (w.heap.size = b) := by omega
 go_upto_region 33 with fail
 have j0 : (0 : Int) ≤ (i : Int) := by omega
 have j1 : (i : Int) ≤ ((j : Nat) : Int) := by omega
 have j2 : ((j : Nat) : Int) ≤ (s.size : Int) := by omega
 go_region
 have hvX := (HV.out.setx hbw (s.extract i (j))).drew
 clear HV s0 s1 z b0 b1 b2 b3 y0 y1 y2 y3 a0 a1 a2 a3 f0 f2 f3 l0 l1 l2
 generalize (w3.setCell ⟨w.heap.size + 1, 2, none⟩ (.string (s.extract i (j)))).drew = W6 at hvX ⊢
 have HV := lh hvX
 obtain ⟨s0, s1, z, b0, b1, b2, b3, y0, y1, y2, y3, a0, a1, a2, a3, f0, f2, f3, l0, l1, l2⟩ := hvX.facts
 clear hvX
 obtain ⟨x, hx⟩ : ∃ x, x = s.extract i j := ⟨_, rfl⟩
 have hxs : x.size = j - i := by rw [hx, ByteArray.size_extract]; omega
 rw [← hx] at HV a2 ⊢
 have hue := under_eq x
 have hT := HT.out
 rw [show cut s i j = x from hx.symm] at hT
 have HT2 := lh hT
 clear hT hx HT
 by_cases hu : x = ⟨#[95]⟩
 · rw [decide_eq_true hu] at hue
   have hT := HT2.out
   rw [if_pos hu] at hT
   have HT := lh hT
   clear hT HT2 hu
   go_upto_region 38 with fail
   have hvX := HV.out.setk hbw 7
   clear HV s0 s1 z b0 b1 b2 b3 y0 y1 y2 y3 a0 a1 a2 a3 f0 f2 f3 l0 l1 l2
   generalize W6.setCell ⟨w.heap.size + 1, 0, none⟩ (.int .i64 7) = W7 at hvX ⊢
   have HV := lh hvX
   obtain ⟨s0, s1, z, b0, b1, b2, b3, y0, y1, y2, y3, a0, a1, a2, a3, f0, f2, f3, l0, l1, l2⟩ := hvX.facts
   clear hvX
   by_cases h20 : j - i ≤ 20
   · have hd : decide ((x.size : Int) ≤ 20) = true := by simp; omega
     have hd2 : decide ((20 : Int) < (x.size : Int)) = false := by simp; omega
     have hd3 : (((j - i : Nat) : Int) ≤ 20) := by omega
     have hT := HT.out
     rw [if_pos h20] at hT
     have HTT := lh hT
     clear hT
     go_region
     all_goals go_wp2_with fail
     all_goals
      refine bodyPost_ret (v := .tuple #[.agg #[.int .i64 7, .int .i64 i, .string x, .int .i64 0], .bool true]) (by simp [results, Tryz.results33, go_sem, b0, b1, b2, b3, y0, y1, y2, y3, l1, hd3]) rfl ?_
      exact NextPost.ok HTT.out rfl (HV.out.fin hbw _ _ _ _).drew
   · have hd : decide ((x.size : Int) ≤ 20) = false := by simp; omega
     have hd2 : decide ((20 : Int) < (x.size : Int)) = true := by simp; omega
     have hd3 : ((20 : Int) < ((j - i : Nat) : Int)) := by omega
     have hT := HT.out
     rw [if_neg h20] at hT
     have HTT := lh hT
     clear hT
     go_region
     all_goals go_wp2_with fail
     all_goals
      refine bodyPost_ret (v := .tuple #[.agg #[.int .i64 7, .int .i64 i, .string x, .int .i64 0], .bool false]) (by simp [results, Tryz.results33, go_sem, b0, b1, b2, b3, y0, y1, y2, y3, l1, hd3]) rfl ?_
      exact NextPost.bad HTT.out rfl (HV.out.fin hbw _ _ _ _).drew.2
 · rw [decide_eq_false hu] at hue
   have hT := HT2.out
   rw [if_neg hu] at hT
   have HT := lh hT
   clear hT HT2 hu
   go_wp2_with fail
   refine (isWord_any x _).mono ?_
   rintro e w8 ⟨rfl, hb8⟩
   have hvX := HV.out.below hb8
   clear HV hb8 s0 s1 z b0 b1 b2 b3 y0 y1 y2 y3 a0 a1 a2 a3 f0 f2 f3 l0 l1 l2
   have HV := lh hvX
   obtain ⟨s0, s1, z, b0, b1, b2, b3, y0, y1, y2, y3, a0, a1, a2, a3, f0, f2, f3, l0, l1, l2⟩ := hvX.facts
   clear hvX
   cases hw : amongD wordB x with
   | true =>
    have hT := HT.out
    rw [if_pos hw] at hT
    have HT2 := lh hT
    clear hT HT hw
    go_upto_region 38 with fail
    have hvX := HV.out.setk hbw 6
    clear HV s0 s1 z b0 b1 b2 b3 y0 y1 y2 y3 a0 a1 a2 a3 f0 f2 f3 l0 l1 l2
    generalize w8.setCell ⟨w.heap.size + 1, 0, none⟩ (.int .i64 6) = W7 at hvX ⊢
    have HV := lh hvX
    obtain ⟨s0, s1, z, b0, b1, b2, b3, y0, y1, y2, y3, a0, a1, a2, a3, f0, f2, f3, l0, l1, l2⟩ := hvX.facts
    clear hvX
    by_cases h20 : j - i ≤ 20
    · have hd : decide ((x.size : Int) ≤ 20) = true := by simp; omega
      have hd2 : decide ((20 : Int) < (x.size : Int)) = false := by simp; omega
      have hd3 : (((j - i : Nat) : Int) ≤ 20) := by omega
      have hT := HT2.out
      rw [if_pos h20] at hT
      have HTT := lh hT
      clear hT
      go_region
      all_goals go_wp2_with fail
      all_goals
       refine bodyPost_ret (v := .tuple #[.agg #[.int .i64 6, .int .i64 i, .string x, .int .i64 0], .bool true]) (by simp [results, Tryz.results33, go_sem, b0, b1, b2, b3, y0, y1, y2, y3, l1, hd3]) rfl ?_
       exact NextPost.ok HTT.out rfl (HV.out.fin hbw _ _ _ _).drew
    · have hd : decide ((x.size : Int) ≤ 20) = false := by simp; omega
      have hd2 : decide ((20 : Int) < (x.size : Int)) = true := by simp; omega
      have hd3 : ((20 : Int) < ((j - i : Nat) : Int)) := by omega
      have hT := HT2.out
      rw [if_neg h20] at hT
      have HTT := lh hT
      clear hT
      go_region
      all_goals go_wp2_with fail
      all_goals
       refine bodyPost_ret (v := .tuple #[.agg #[.int .i64 6, .int .i64 i, .string x, .int .i64 0], .bool false]) (by simp [results, Tryz.results33, go_sem, b0, b1, b2, b3, y0, y1, y2, y3, l1, hd3]) rfl ?_
       exact NextPost.bad HTT.out rfl (HV.out.fin hbw _ _ _ _).drew.2
   | false =>
    have hT := HT.out
    rw [if_neg (show ¬ amongD wordB x = true by simp [hw]), if_neg (show ¬ great (bt s i) = true by simp [low_great _ (hA i hi) h6])] at hT
    have HT2 := lh hT
    clear hT HT hw
    go_upto_region 38 with fail
    obtain ⟨W7, hW7⟩ : ∃ W7, W7 = w8 := ⟨_, rfl⟩
    subst hW7
    by_cases h20 : j - i ≤ 20
    · have hd : decide ((x.size : Int) ≤ 20) = true := by simp; omega
      have hd2 : decide ((20 : Int) < (x.size : Int)) = false := by simp; omega
      have hd3 : (((j - i : Nat) : Int) ≤ 20) := by omega
      have hT := HT2.out
      rw [if_pos h20] at hT
      have HTT := lh hT
      clear hT
      go_region
      all_goals go_wp2_with fail
      all_goals
       refine bodyPost_ret (v := .tuple #[.agg #[.int .i64 3, .int .i64 i, .string x, .int .i64 0], .bool true]) (by simp [results, Tryz.results33, go_sem, b0, b1, b2, b3, y0, y1, y2, y3, l1, hd3]) rfl ?_
       exact NextPost.ok HTT.out rfl (HV.out.fin hbw _ _ _ _).drew
    · have hd : decide ((x.size : Int) ≤ 20) = false := by simp; omega
      have hd2 : decide ((20 : Int) < (x.size : Int)) = true := by simp; omega
      have hd3 : ((20 : Int) < ((j - i : Nat) : Int)) := by omega
      have hT := HT2.out
      rw [if_neg h20] at hT
      have HTT := lh hT
      clear hT
      go_region
      all_goals go_wp2_with fail
      all_goals
       refine bodyPost_ret (v := .tuple #[.agg #[.int .i64 3, .int .i64 i, .string x, .int .i64 0], .bool false]) (by simp [results, Tryz.results33, go_sem, b0, b1, b2, b3, y0, y1, y2, y3, l1, hd3]) rfl ?_
       exact NextPost.bad HTT.out rfl (HV.out.fin hbw _ _ _ _).drew.2
theorem next_up (s : ByteArray) (b i : Nat) (w : World) (hsc : Scan w b s i) (hs : s.size ≤ 4000) (hi : i < s.size) (hso : Sorts w) (hA : ∀ k, k < s.size → bt s k < 128) (hb : 1 ≠ b) (h6 : srt (bt s i) = 4) :
 Calls Tryz.prog 33 #[pv b] w (NextPost s b i w) := by
 obtain ⟨W, hW⟩ : ∃ W, W = (w.alloc (.cells #[.int .i64 0, .int .i64 0, .string ⟨#[]⟩, .int .i64 0] 59)).alloc (.cells #[.int .i64 0, .int .i64 i, .string ⟨#[]⟩, .int .i64 0] 59) := ⟨_, rfl⟩
 have hns : NS w W b s i 0 i ⟨#[]⟩ 0 := by rw [hW]; exact NS.start hsc i
 have hbw := hsc.lt
 have qw0 : (w.alloc (.cells #[.int .i64 0, .int .i64 0, .string ⟨#[]⟩, .int .i64 0] 59)).cell? ⟨b, 0, none⟩ = some (.string s) := blk_cell (blk_alloc hsc _) 0
 have qw1 : (w.alloc (.cells #[.int .i64 0, .int .i64 0, .string ⟨#[]⟩, .int .i64 0] 59)).cell? ⟨b, 1, none⟩ = some (.int .i64 i) := blk_cell (blk_alloc hsc _) 1
 have HSO := lh hso
 have HW := lh hW
 have HV := lh hns
 obtain ⟨s0, s1, z, b0, b1, b2, b3, y0, y1, y2, y3, a0, a1, a2, a3, f0, f2, f3, l0, l1, l2⟩ := hns.facts
 have k0 : (0 : Int) ≤ (i : Int) := by omega
 have k1 : (i : Int) < (s.size : Int) := by omega
 obtain ⟨c, hcb⟩ : ∃ c, c = bt s i := ⟨_, rfl⟩
 have hck := bt_eq hi hcb
 have hc := hA i hi
 rw [← hcb] at hc
 have hsr : W.cell? ⟨1, c, none⟩ = some (.int .i64 (srt c)) := gr_cell HV.out.g hb (HSO.out c hc)
 have HCB := lh hcb
 have c0 : (0 : Int) ≤ (c : Int) := by omega
 have c1 : (c : Int) < 128 := by omega
 have hsv : srt c = 4 := by rw [hcb]; exact h6
 rw [hsv] at hsr
 clear hcb hso hW hns hsc
 go_enter Tryz.func33, Tryz.ntmps33
 go_upto_region 2 with fail
 rw [← HW.out]
 clear qw0 qw1
 go_quiet (fail)
 go_upto_region 16 with fail
 have hvX := HV.out.drewN nq
 clear HV hsr hck s0 s1 z b0 b1 b2 b3 y0 y1 y2 y3 a0 a1 a2 a3 f0 f2 f3 l0 l1 l2
 generalize W.drewN nq = W1 at hvX ⊢
 have HV := lh hvX
 obtain ⟨s0, s1, z, b0, b1, b2, b3, y0, y1, y2, y3, a0, a1, a2, a3, f0, f2, f3, l0, l1, l2⟩ := hvX.facts
 clear hvX
 go_upto_region 17 with fail
 have hvX := HV.out.setk hbw 4
 clear HV s0 s1 z b0 b1 b2 b3 y0 y1 y2 y3 a0 a1 a2 a3 f0 f2 f3 l0 l1 l2
 generalize W1.setCell ⟨w.heap.size + 1, 0, none⟩ (.int .i64 4) = W2 at hvX ⊢
 have HV := lh hvX
 obtain ⟨s0, s1, z, b0, b1, b2, b3, y0, y1, y2, y3, a0, a1, a2, a3, f0, f2, f3, l0, l1, l2⟩ := hvX.facts
 clear hvX
 go_wp2_with fail
 refine (while_any s b W2.heap.size i [3, 4, 2, 5] inName _ (HV.out.alloc _).sc hs (by omega) (HSO.out.gr (HV.out.alloc _).g hb) hA (ints_new W2 [3, 4, 2, 5] _ _ rfl) (by omega) hb (by decide) name_sort).mono ?_
 rintro e w3 ⟨rfl, hs3, hg3⟩
 have hv3 := (HV.out.alloc (.cells #[.int .i64 3, .int .i64 4, .int .i64 2, .int .i64 5] 3)).gr hbw hg3 hs3
 have hwh := whD_ge s inName i
 have hT := tokD_name (s := s) (i := i) (.inr (.inl (great_sort _ (hA i hi) h6)))
 obtain ⟨j, hj⟩ : ∃ j, j = whD s inName i := ⟨_, rfl⟩
 rw [← hj] at hv3 hwh hT
 have hij := hwh.1
 have hjs := hwh.2 (by omega)
 clear HV hs3 hg3 hwh hj s0 s1 z b0 b1 b2 b3 y0 y1 y2 y3 a0 a1 a2 a3 f0 f2 f3 l0 l1 l2
 have HV := lh hv3
 obtain ⟨s0, s1, z, b0, b1, b2, b3, y0, y1, y2, y3, a0, a1, a2, a3, f0, f2, f3, l0, l1, l2⟩ := hv3.facts
 clear hv3
 rw [nameK_eq] at hT
 have HT := lh hT
 clear hT
 have n1 : ¬ (w.heap.size + 1 = b) := by omega
 have n2 : ¬ (w.heap.size + 1 = w.heap.size) := by omega
 have n3 : ¬ (b = w.heap.size + 1) := by omega
 have n4 : ¬ (w.heap.size = w.heap.size + 1) := by omega
 have n5 : ¬ (b = w.heap.size) := by omega
 have n6 : ¬ (w.heap.size = b) := by omega
 go_upto_region 33 with fail
 have j0 : (0 : Int) ≤ (i : Int) := by omega
 have j1 : (i : Int) ≤ ((j : Nat) : Int) := by omega
 have j2 : ((j : Nat) : Int) ≤ (s.size : Int) := by omega
 go_region
 have hvX := (HV.out.setx hbw (s.extract i (j))).drew
 clear HV s0 s1 z b0 b1 b2 b3 y0 y1 y2 y3 a0 a1 a2 a3 f0 f2 f3 l0 l1 l2
 generalize (w3.setCell ⟨w.heap.size + 1, 2, none⟩ (.string (s.extract i (j)))).drew = W6 at hvX ⊢
 have HV := lh hvX
 obtain ⟨s0, s1, z, b0, b1, b2, b3, y0, y1, y2, y3, a0, a1, a2, a3, f0, f2, f3, l0, l1, l2⟩ := hvX.facts
 clear hvX
 obtain ⟨x, hx⟩ : ∃ x, x = s.extract i j := ⟨_, rfl⟩
 have hxs : x.size = j - i := by rw [hx, ByteArray.size_extract]; omega
 rw [← hx] at HV a2 ⊢
 have hue := under_eq x
 have hT := HT.out
 rw [show cut s i j = x from hx.symm] at hT
 have HT2 := lh hT
 clear hT hx HT
 by_cases hu : x = ⟨#[95]⟩
 · rw [decide_eq_true hu] at hue
   have hT := HT2.out
   rw [if_pos hu] at hT
   have HT := lh hT
   clear hT HT2 hu
   go_upto_region 38 with fail
   have hvX := HV.out.setk hbw 7
   clear HV s0 s1 z b0 b1 b2 b3 y0 y1 y2 y3 a0 a1 a2 a3 f0 f2 f3 l0 l1 l2
   generalize W6.setCell ⟨w.heap.size + 1, 0, none⟩ (.int .i64 7) = W7 at hvX ⊢
   have HV := lh hvX
   obtain ⟨s0, s1, z, b0, b1, b2, b3, y0, y1, y2, y3, a0, a1, a2, a3, f0, f2, f3, l0, l1, l2⟩ := hvX.facts
   clear hvX
   by_cases h20 : j - i ≤ 20
   · have hd : decide ((x.size : Int) ≤ 20) = true := by simp; omega
     have hd2 : decide ((20 : Int) < (x.size : Int)) = false := by simp; omega
     have hd3 : (((j - i : Nat) : Int) ≤ 20) := by omega
     have hT := HT.out
     rw [if_pos h20] at hT
     have HTT := lh hT
     clear hT
     go_region
     all_goals go_wp2_with fail
     all_goals
      refine bodyPost_ret (v := .tuple #[.agg #[.int .i64 7, .int .i64 i, .string x, .int .i64 0], .bool true]) (by simp [results, Tryz.results33, go_sem, b0, b1, b2, b3, y0, y1, y2, y3, l1, hd3]) rfl ?_
      exact NextPost.ok HTT.out rfl (HV.out.fin hbw _ _ _ _).drew
   · have hd : decide ((x.size : Int) ≤ 20) = false := by simp; omega
     have hd2 : decide ((20 : Int) < (x.size : Int)) = true := by simp; omega
     have hd3 : ((20 : Int) < ((j - i : Nat) : Int)) := by omega
     have hT := HT.out
     rw [if_neg h20] at hT
     have HTT := lh hT
     clear hT
     go_region
     all_goals go_wp2_with fail
     all_goals
      refine bodyPost_ret (v := .tuple #[.agg #[.int .i64 7, .int .i64 i, .string x, .int .i64 0], .bool false]) (by simp [results, Tryz.results33, go_sem, b0, b1, b2, b3, y0, y1, y2, y3, l1, hd3]) rfl ?_
      exact NextPost.bad HTT.out rfl (HV.out.fin hbw _ _ _ _).drew.2
 · rw [decide_eq_false hu] at hue
   have hT := HT2.out
   rw [if_neg hu] at hT
   have HT := lh hT
   clear hT HT2 hu
   go_wp2_with fail
   refine (isWord_any x _).mono ?_
   rintro e w8 ⟨rfl, hb8⟩
   have hvX := HV.out.below hb8
   clear HV hb8 s0 s1 z b0 b1 b2 b3 y0 y1 y2 y3 a0 a1 a2 a3 f0 f2 f3 l0 l1 l2
   have HV := lh hvX
   obtain ⟨s0, s1, z, b0, b1, b2, b3, y0, y1, y2, y3, a0, a1, a2, a3, f0, f2, f3, l0, l1, l2⟩ := hvX.facts
   clear hvX
   cases hw : amongD wordB x with
   | true =>
    have hT := HT.out
    rw [if_pos hw] at hT
    have HT2 := lh hT
    clear hT HT hw
    go_upto_region 38 with fail
    have hvX := HV.out.setk hbw 6
    clear HV s0 s1 z b0 b1 b2 b3 y0 y1 y2 y3 a0 a1 a2 a3 f0 f2 f3 l0 l1 l2
    generalize w8.setCell ⟨w.heap.size + 1, 0, none⟩ (.int .i64 6) = W7 at hvX ⊢
    have HV := lh hvX
    obtain ⟨s0, s1, z, b0, b1, b2, b3, y0, y1, y2, y3, a0, a1, a2, a3, f0, f2, f3, l0, l1, l2⟩ := hvX.facts
    clear hvX
    by_cases h20 : j - i ≤ 20
    · have hd : decide ((x.size : Int) ≤ 20) = true := by simp; omega
      have hd2 : decide ((20 : Int) < (x.size : Int)) = false := by simp; omega
      have hd3 : (((j - i : Nat) : Int) ≤ 20) := by omega
      have hT := HT2.out
      rw [if_pos h20] at hT
      have HTT := lh hT
      clear hT
      go_region
      all_goals go_wp2_with fail
      all_goals
       refine bodyPost_ret (v := .tuple #[.agg #[.int .i64 6, .int .i64 i, .string x, .int .i64 0], .bool true]) (by simp [results, Tryz.results33, go_sem, b0, b1, b2, b3, y0, y1, y2, y3, l1, hd3]) rfl ?_
       exact NextPost.ok HTT.out rfl (HV.out.fin hbw _ _ _ _).drew
    · have hd : decide ((x.size : Int) ≤ 20) = false := by simp; omega
      have hd2 : decide ((20 : Int) < (x.size : Int)) = true := by simp; omega
      have hd3 : ((20 : Int) < ((j - i : Nat) : Int)) := by omega
      have hT := HT2.out
      rw [if_neg h20] at hT
      have HTT := lh hT
      clear hT
      go_region
      all_goals go_wp2_with fail
      all_goals
       refine bodyPost_ret (v := .tuple #[.agg #[.int .i64 6, .int .i64 i, .string x, .int .i64 0], .bool false]) (by simp [results, Tryz.results33, go_sem, b0, b1, b2, b3, y0, y1, y2, y3, l1, hd3]) rfl ?_
       exact NextPost.bad HTT.out rfl (HV.out.fin hbw _ _ _ _).drew.2
   | false =>
    have hT := HT.out
    rw [if_neg (show ¬ amongD wordB x = true by simp [hw]), if_pos (great_sort _ (hA i hi) h6)] at hT
    have HT2 := lh hT
    clear hT HT hw
    go_upto_region 38 with fail
    obtain ⟨W7, hW7⟩ : ∃ W7, W7 = w8 := ⟨_, rfl⟩
    subst hW7
    by_cases h20 : j - i ≤ 20
    · have hd : decide ((x.size : Int) ≤ 20) = true := by simp; omega
      have hd2 : decide ((20 : Int) < (x.size : Int)) = false := by simp; omega
      have hd3 : (((j - i : Nat) : Int) ≤ 20) := by omega
      have hT := HT2.out
      rw [if_pos h20] at hT
      have HTT := lh hT
      clear hT
      go_region
      all_goals go_wp2_with fail
      all_goals
       refine bodyPost_ret (v := .tuple #[.agg #[.int .i64 4, .int .i64 i, .string x, .int .i64 0], .bool true]) (by simp [results, Tryz.results33, go_sem, b0, b1, b2, b3, y0, y1, y2, y3, l1, hd3]) rfl ?_
       exact NextPost.ok HTT.out rfl (HV.out.fin hbw _ _ _ _).drew
    · have hd : decide ((x.size : Int) ≤ 20) = false := by simp; omega
      have hd2 : decide ((20 : Int) < (x.size : Int)) = true := by simp; omega
      have hd3 : ((20 : Int) < ((j - i : Nat) : Int)) := by omega
      have hT := HT2.out
      rw [if_neg h20] at hT
      have HTT := lh hT
      clear hT
      go_region
      all_goals go_wp2_with fail
      all_goals
       refine bodyPost_ret (v := .tuple #[.agg #[.int .i64 4, .int .i64 i, .string x, .int .i64 0], .bool false]) (by simp [results, Tryz.results33, go_sem, b0, b1, b2, b3, y0, y1, y2, y3, l1, hd3]) rfl ?_
       exact NextPost.bad HTT.out rfl (HV.out.fin hbw _ _ _ _).drew.2
theorem digit_sort : ∀ c, c < 128 → inL [2] (srt c) = dig c := by decide +kernel
theorem digit_dig : ∀ c, c < 128 → srt c = 2 → dig c = true := by decide +kernel
theorem whD_all (s : ByteArray) (p : Nat → Bool) (i : Nat) : ∀ m, i ≤ m → m < whD s p i → p (bt s m) = true := by
 induction i using whD.induct s p with
 | case1 i h hp ih =>
  intro m h1 h2
  rw [whD_step h hp] at h2
  by_cases e : m = i
  · rw [e]; exact hp
  · exact ih m (by omega) h2
 | case2 i h hp => intro m h1 h2; rw [whD_stop h (by simpa using hp)] at h2; omega
 | case3 i h => intro m h1 h2; rw [whD_end (by omega)] at h2; omega
theorem NS.iterAt {w W : World} {b : Nat} {s : ByteArray} {q : Nat} {k i n : Int} {x : ByteArray} (h : NS w W b s q k i x n) {r : Nat} {f : ByteArray} {p : Nat} (hk : W.heap[r]? = some (.stringIter f p)) (hr : w.heap.size ≤ r) (p' : Nat) : NS w (W.iterAt r f p') b s q k i x n := by
 refine ⟨iter_cells hk h.sc, ⟨h.g.os, h.g.tape, h.g.output, by rw [Lib.iterAt_size]; exact h.g.size, fun m hm hne => ?_⟩, iter_cells hk h.r, iter_cells hk h.t⟩
 rw [Lib.iterAt_other _ _ _ _ _ (by omega)]
 exact h.g.block m hm hne
theorem ext_bt (s : ByteArray) (i j p : Nat) (hij : i ≤ j) (hj : j ≤ s.size) (hp : p < j - i) : ((s.extract i j).data.toList.getD p 0).toNat = bt s (i + p) := by
 have hz := sizeL s
 unfold bt
 congr 1
 simp only [ByteArray.data_extract, Array.toList_extract]
 rw [List.extract_eq_take_drop, List.getD_eq_getElem?_getD, List.getD_eq_getElem?_getD, List.getElem?_take_of_lt hp, List.getElem?_drop]
theorem next_digit (s : ByteArray) (b i : Nat) (w : World) (hsc : Scan w b s i) (hs : s.size ≤ 4000) (hi : i < s.size) (hso : Sorts w) (hA : ∀ k, k < s.size → bt s k < 128) (hb : 1 ≠ b) (h6 : srt (bt s i) = 2) :
 Calls Tryz.prog 33 #[pv b] w (NextPost s b i w) := by
 obtain ⟨W, hW⟩ : ∃ W, W = (w.alloc (.cells #[.int .i64 0, .int .i64 0, .string ⟨#[]⟩, .int .i64 0] 59)).alloc (.cells #[.int .i64 0, .int .i64 i, .string ⟨#[]⟩, .int .i64 0] 59) := ⟨_, rfl⟩
 have hns : NS w W b s i 0 i ⟨#[]⟩ 0 := by rw [hW]; exact NS.start hsc i
 have hbw := hsc.lt
 have qw0 : (w.alloc (.cells #[.int .i64 0, .int .i64 0, .string ⟨#[]⟩, .int .i64 0] 59)).cell? ⟨b, 0, none⟩ = some (.string s) := blk_cell (blk_alloc hsc _) 0
 have qw1 : (w.alloc (.cells #[.int .i64 0, .int .i64 0, .string ⟨#[]⟩, .int .i64 0] 59)).cell? ⟨b, 1, none⟩ = some (.int .i64 i) := blk_cell (blk_alloc hsc _) 1
 have HSO := lh hso
 have HW := lh hW
 have HV := lh hns
 obtain ⟨s0, s1, z, b0, b1, b2, b3, y0, y1, y2, y3, a0, a1, a2, a3, f0, f2, f3, l0, l1, l2⟩ := hns.facts
 have k0 : (0 : Int) ≤ (i : Int) := by omega
 have k1 : (i : Int) < (s.size : Int) := by omega
 obtain ⟨c, hcb⟩ : ∃ c, c = bt s i := ⟨_, rfl⟩
 have hck := bt_eq hi hcb
 have hc := hA i hi
 rw [← hcb] at hc
 have hsr : W.cell? ⟨1, c, none⟩ = some (.int .i64 (srt c)) := gr_cell HV.out.g hb (HSO.out c hc)
 have HCB := lh hcb
 have c0 : (0 : Int) ≤ (c : Int) := by omega
 have c1 : (c : Int) < 128 := by omega
 have hsv : srt c = 2 := by rw [hcb]; exact h6
 rw [hsv] at hsr
 clear hcb hso hW hns hsc
 go_enter Tryz.func33, Tryz.ntmps33
 go_upto_region 2 with fail
 rw [← HW.out]
 clear qw0 qw1
 go_quiet (fail)
 go_upto_region 5 with fail
 have hvX := HV.out.drewN nq
 clear HV hsr hck s0 s1 z b0 b1 b2 b3 y0 y1 y2 y3 a0 a1 a2 a3 f0 f2 f3 l0 l1 l2
 generalize W.drewN nq = W1 at hvX ⊢
 have HV := lh hvX
 obtain ⟨s0, s1, z, b0, b1, b2, b3, y0, y1, y2, y3, a0, a1, a2, a3, f0, f2, f3, l0, l1, l2⟩ := hvX.facts
 clear hvX
 go_wp2_with fail
 refine (while_any s b W1.heap.size i [2] dig _ (HV.out.alloc _).sc hs (by omega) (HSO.out.gr (HV.out.alloc _).g hb) hA (ints_new W1 [2] _ _ rfl) (by omega) hb (by decide) digit_sort).mono ?_
 rintro e w3 ⟨rfl, hs3, hg3⟩
 have hv3 := (HV.out.alloc (.cells #[.int .i64 2] 3)).gr hbw hg3 hs3
 have hwh := whD_ge s dig i
 have hall := whD_all s dig i
 have hno := whD_not s dig i
 have hnw := numD_wh (s := s) i 0
 obtain ⟨j, hj⟩ : ∃ j, j = whD s dig i := ⟨_, rfl⟩
 rw [← hj] at hv3 hwh hall hnw hno
 have hij := hwh.1
 have hjs := hwh.2 (by omega)
 clear HV hs3 hg3 hwh hj s0 s1 z b0 b1 b2 b3 y0 y1 y2 y3 a0 a1 a2 a3 f0 f2 f3 l0 l1 l2
 have HV := lh hv3
 obtain ⟨s0, s1, z, b0, b1, b2, b3, y0, y1, y2, y3, a0, a1, a2, a3, f0, f2, f3, l0, l1, l2⟩ := hv3.facts
 clear hv3
 have HALL := lh hall
 have HNW := lh hnw
 have HNO := lh hno
 clear hall hnw hno
 go_upto_region 7 with fail
 have hvX := HV.out.setk hbw 1
 clear HV s0 s1 z b0 b1 b2 b3 y0 y1 y2 y3 a0 a1 a2 a3 f0 f2 f3 l0 l1 l2
 generalize w3.setCell ⟨w.heap.size + 1, 0, none⟩ (.int .i64 1) = W4 at hvX ⊢
 have HV := lh hvX
 obtain ⟨s0, s1, z, b0, b1, b2, b3, y0, y1, y2, y3, a0, a1, a2, a3, f0, f2, f3, l0, l1, l2⟩ := hvX.facts
 clear hvX
 have j0 : (0 : Int) ≤ (i : Int) := by omega
 have j1 : (i : Int) ≤ (j : Int) := by omega
 have j2 : (j : Int) ≤ (s.size : Int) := by omega
 go_region
 have hq : w.heap.size + 1 < W4.heap.size := l2
 have hvX := (HV.out.drew)
 have hsz : W4.drew.heap.size = W4.heap.size := rfl
 clear HV s0 s1 z b0 b1 b2 b3 y0 y1 y2 y3 a0 a1 a2 a3 f0 f2 f3 l0 l1 l2
 generalize W4.drew = W5 at hvX hsz ⊢
 obtain ⟨f, hf⟩ : ∃ f : List UInt8, f = (s.extract i j).data.toList := ⟨_, rfl⟩
 have hfl : f.length = j - i := by rw [hf, sizeL, ByteArray.size_extract]; omega
 have hfe : s.extract i j = ⟨f.toArray⟩ := by rw [hf]
 have hfb : ∀ p, p < j - i → (f.getD p 0).toNat = bt s (i + p) := fun p hp => by rw [hf]; exact ext_bt s i j p hij hjs hp
 rw [hfe]
 have hit0 := World.iter_heap W5 ⟨f.toArray⟩ 0
 have hns0 : NS w (W5.iter ⟨f.toArray⟩ 0) b s j 1 i ⟨#[]⟩ 0 := hvX.alloc _
 rw [hsz] at hit0
 have HSZ := lh hsz
 have HIT := lh hit0
 have HNS := lh hns0
 have HFB := lh hfb
 clear hit0 hns0 hvX hf hfe hfb
 generalize W5.iter ⟨f.toArray⟩ 0 = W6 at HIT HNS ⊢
 generalize W4.heap.size = q at *
 go_wp2_with fail
 go_loopw [] (fun wr => ∃ p n : Nat, p ≤ j - i ∧ n ≤ 1000000001 ∧ wr.heap[q]? = some (.stringIter ⟨f.toArray⟩ p) ∧ NS w wr b s j 1 i ⟨#[]⟩ n ∧ numD s (i + p) n = numD s i 0) (fun wr => (j - i) - wr.iterPos q)
 case atStart => exact ⟨0, 0, by omega, by omega, HIT.out, HNS.out, rfl⟩
 case round =>
  clear HIT HNS
  obtain ⟨p, n, hp, hn, hit, hns, hc⟩ := hrel
  have HC := lh hc
  have HIP := lh (iterPos_of hit)
  clear hc
  by_cases hlt : p < j - i
  · have hdg := HALL.out (i + p) (by omega) (by omega)
    have hst := numD_step (s := s) (n := n) (show i + p < s.size by omega) hdg
    rw [HC.out] at hst
    have hge := dig_ge hdg
    obtain ⟨d, hdd⟩ : ∃ d : UInt8, d = f.getD p 0 := ⟨_, rfl⟩
    have hdn : d.toNat = bt s (i + p) := by rw [hdd]; exact HFB.out p hlt
    rw [← hdn] at hst hge
    have hnx := fun ty => next_at (P := Tryz.prog) wr q f p ty d hit (by omega) hdd.symm (by omega)
    obtain ⟨w3, hw3⟩ : ∃ w3, w3 = wr.iterAt q ⟨f.toArray⟩ (p + 1) := ⟨_, rfl⟩
    rw [← hw3] at hnx
    have hns3 : NS w w3 b s j 1 i ⟨#[]⟩ n := by rw [hw3]; exact hns.iterAt hit (by omega) (p + 1)
    have hit3 : w3.heap[q]? = some (.stringIter ⟨f.toArray⟩ (p + 1)) := by rw [hw3]; exact Lib.iterAt_heap wr _ _ p (p + 1) hit
    have HST := lh hst
    have HNS := lh hns3
    have HIT := lh hit3
    obtain ⟨m, hm⟩ : ∃ m, m = d.toNat := ⟨_, rfl⟩
    rw [← hm] at hnx hst hge
    have HM := lh hm
    obtain ⟨s0, s1, z, b0, b1, b2, b3, y0, y1, y2, y3, a0, a1, a2, a3, f0, f2, f3, l0, l1, l2⟩ := hns3.facts
    clear hst hns hit hns3 hit3 hw3 hdd hdn hdg hm
    have e0 : IntKind.i32.wrap ((m : Int) - 48) = ((m - 48 : Nat) : Int) := by show _ = _; rw [show (m : Int) - 48 = ((m - 48 : Nat) : Int) from by omega]; exact IntWalk.i32_in _ (by omega)
    have e2 : IntKind.i64.wrap (((m - 48 : Nat) : Int)) = ((m - 48 : Nat) : Int) := IntWalk.i64_in _ (by omega)
    have e3 : IntKind.i64.wrap (10 * (n : Int)) = 10 * (n : Int) := IntWalk.i64_in _ (by omega)
    have e4 : IntKind.i64.wrap (10 * (n : Int) + ((m - 48 : Nat) : Int)) = ((10 * n + (m - 48) : Nat) : Int) := by rw [IntWalk.i64_in _ (by omega)]; push_cast; rfl
    have hv : (if (1000000001 : Int) < 10 * (n : Int) + ((m - 48 : Nat) : Int) then 1000000001 else 10 * (n : Int) + ((m - 48 : Nat) : Int)) = ((min (10 * n + (m - 48)) 1000000001 : Nat) : Int) := by split <;> omega
    go_wp2_with fail
    go_roundw
    case rel => exact ⟨p + 1, min (10 * n + (m - 48)) 1000000001, by omega, by omega, blk_set_ne HIT.out (by omega) _ _, HNS.out.setn hbw _, by rw [show i + (p + 1) = i + p + 1 from by omega, HM.out]; exact HST.out.symm⟩
    case measure => rw [iterPos_of (blk_set_ne HIT.out (by omega) _ _), HIP.out]; omega
  · obtain rfl : p = j - i := by omega
    have hst := numD_stop (s := s) (i := i + (j - i)) (n := n) (fun h => by rw [show i + (j - i) = j from by omega] at h ⊢; exact HNO.out h)
    rw [HC.out, show i + (j - i) = j from by omega] at hst
    have htk : tokD s i = if n ≤ 1000000000 then some ((1, i, ByteArray.empty, n), j) else none := by
     unfold tokD
     rw [if_pos (digit_dig _ (hA i hi) h6), hst]
    have HTK := lh htk
    have HNS := lh hns
    have hnx := fun ty => next_end (P := Tryz.prog) wr q f (j - i) ty hit (by omega)
    obtain ⟨s0, s1, z, b0, b1, b2, b3, y0, y1, y2, y3, a0, a1, a2, a3, f0, f2, f3, l0, l1, l2⟩ := hns.facts
    clear hns hit hst htk
    have n1 : ¬ (w.heap.size + 1 = b) := by omega
    have n2 : ¬ (w.heap.size + 1 = w.heap.size) := by omega
    have n3 : ¬ (b = w.heap.size + 1) := by omega
    have n4 : ¬ (w.heap.size = w.heap.size + 1) := by omega
    have n5 : ¬ (b = w.heap.size) := by omega
    have n6 : ¬ (w.heap.size = b) := by omega
    by_cases hbig : n ≤ 1000000000
    · have g1 : decide ((n : Int) ≤ 1000000000) = true := by simp; omega
      have g2 : (n : Int) ≤ 1000000000 := by omega
      have hT := HTK.out
      rw [if_pos hbig] at hT
      have HT := lh hT
      clear hT HTK
      go_wp2_with fail
      go_region
      all_goals go_wp2_with fail
      all_goals
       refine bodyPost_ret (v := .tuple #[.agg #[.int .i64 1, .int .i64 i, .string ⟨#[]⟩, .int .i64 n], .bool true]) (by simp [results, Tryz.results33, go_sem, b0, b1, b2, b3, y0, y1, y2, y3, l1, g2]) rfl ?_
       exact NextPost.ok HT.out rfl (HNS.out.fin hbw _ _ _ _).drew
    · have g1 : decide ((n : Int) ≤ 1000000000) = false := by simp; omega
      have g2 : (1000000000 : Int) < (n : Int) := by omega
      have hT := HTK.out
      rw [if_neg hbig] at hT
      have HT := lh hT
      clear hT HTK
      go_wp2_with fail
      go_region
      all_goals go_wp2_with fail
      all_goals
       refine bodyPost_ret (v := .tuple #[.agg #[.int .i64 1, .int .i64 i, .string ⟨#[]⟩, .int .i64 n], .bool false]) (by simp [results, Tryz.results33, go_sem, b0, b1, b2, b3, y0, y1, y2, y3, l1, g2]) rfl ?_
       exact NextPost.bad HT.out rfl (HNS.out.fin hbw _ _ _ _).drew.2
end Go.Proofs.YthehjeeiodbkjaaGreatDoor
