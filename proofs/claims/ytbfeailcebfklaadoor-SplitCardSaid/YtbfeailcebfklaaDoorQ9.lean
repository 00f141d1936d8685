/-
  Proved: the contract of the scanner's next at signs. Conditions: the table of sorts, a text of at most 4000 bytes below 128.
-/
import Derived.Test.YtbfeailcebfklaaDoorQ7
import Derived.BigRegion
set_option linter.unusedSimpArgs false
set_option linter.unusedVariables false
namespace Go.Proofs.YtbfeailcebfklaaDoor
open Go.RowKit

theorem pair_eq (s : ByteArray) (i : Nat) (h : i + 2 ≤ s.size) : (pairB.any fun x => (s.extract i (i + 2)).toList == x.data.toList) = decide ((bt s i, bt s (i + 1)) ∈ pairL) := by
  have e : s.extract i (i + 2) = ⟨#[s[i], s[i + 1]]⟩ := cut_two s i h
  have e2 : ∀ a b : UInt8, (⟨#[a, b]⟩ : ByteArray).toList = [a, b] := fun a b => by rw [ByteArray.toList_eq]
  rw [e, e2, ← bt_get s i (by omega), ← bt_get s (i + 1) (by omega)]
  generalize s[i] = a
  generalize s[i + 1] = b
  rw [Bool.eq_iff_iff]
  simp [pairB, pairL, u8_eq]
theorem isPair_same (t : ByteArray) (w : World) : Calls Tryd.prog 20 #[.string t] w fun e w' => e = .returned (.bool (pairB.any fun x => t.toList == x.data.toList)) ∧ w' = w := (isPair_any t w).mono fun _ _ h => ⟨h.1, h.2.symm⟩
theorem tokD_sg {s : ByteArray} {i : Nat} (hsv : srt (bt s i) = 6) (hA : bt s i < 128) : tokD s i = if i + 2 ≤ s.size ∧ (bt s i, bt s (i + 1)) ∈ pairL then some ((7, i, cut s i (i + 2), 0), i + 2) else some ((7, i, cut s i (i + 1), 0), i + 1) := by
  have h : ∀ c, c < 128 → srt c = 6 → dig c = false ∧ c ≠ 34 ∧ c ≠ 39 ∧ (small c || great c || decide (c = 95)) = false ∧ c ∈ signL := by decide +kernel
  obtain ⟨h1, h2, h3, h4, h5⟩ := h _ hA hsv
  unfold tokD
  rw [if_neg (by simp [h1]), if_neg h2, if_neg h3, if_neg (by simp [h4]), if_pos h5]

set_option maxRecDepth 100000 in
set_option maxHeartbeats 4000000 in
theorem next_sign (s : ByteArray) (b i : Nat) (w : World) (hsc : Scan w b s i) (hs : s.size ≤ 4000) (hi : i < s.size) (hso : Sorts w) (hA : ∀ k, k < s.size → bt s k < 128) (hb : 0 ≠ b) (h6 : srt (bt s i) = 6) :
    Calls Tryd.prog 13 #[pv b] w (NextPost s b i w) := by
  obtain ⟨W, hW⟩ : ∃ W, W = (w.alloc (.cells #[.int .i64 0, .int .i64 0, .string ⟨#[]⟩, .int .i64 0] 30)).alloc (.cells #[.int .i64 0, .int .i64 i, .string ⟨#[]⟩, .int .i64 0] 30) := ⟨_, rfl⟩
  have hns : NS w W b s i 0 i ⟨#[]⟩ 0 := by rw [hW]; exact NS.start hsc i
  have hbw := hsc.lt
  have qw0 : (w.alloc (.cells #[.int .i64 0, .int .i64 0, .string ⟨#[]⟩, .int .i64 0] 30)).cell? ⟨b, 0, none⟩ = some (.string s) := blk_cell (blk_alloc hsc _) 0
  have qw1 : (w.alloc (.cells #[.int .i64 0, .int .i64 0, .string ⟨#[]⟩, .int .i64 0] 30)).cell? ⟨b, 1, none⟩ = some (.int .i64 i) := blk_cell (blk_alloc hsc _) 1
  have HSO := Lib.hid hso
  have HW := Lib.hid hW
  have HV := Lib.hid hns
  obtain ⟨s0, s1, z, b0, b1, b2, b3, y0, y1, y2, y3, a0, a1, a2, a3, f0, f2, f3, l0, l1, l2⟩ := hns.facts
  have k0 : (0 : Int) ≤ (i : Int) := by omega
  have k1 : (i : Int) < (s.size : Int) := by omega
  obtain ⟨c, hcb⟩ : ∃ c, c = bt s i := ⟨_, rfl⟩
  have hck := bt_eq hi hcb
  have hc := hA i hi
  rw [← hcb] at hc
  have hsr : W.cell? ⟨0, c, none⟩ = some (.int .i64 (srt c)) := gr_cell HV.out.g hb (HSO.out c hc)
  have HCB := Lib.hid hcb
  have c0 : (0 : Int) ≤ (c : Int) := by omega
  have c1 : (c : Int) < 128 := by omega
  have hsv : srt c = 6 := by rw [hcb]; exact h6
  rw [hsv] at hsr
  clear hcb hso hW hns hsc
  go_enter Tryd.func13, Tryd.ntmps13
  go_upto_region 2 with fail
  rw [← HW.out]
  clear qw0 qw1
  go_quiet (fail)
  go_upto_region 26 with fail
  have hvX := HV.out.drewN nq
  clear HV hsr hck s0 s1 z b0 b1 b2 b3 y0 y1 y2 y3 a0 a1 a2 a3 f0 f2 f3 l0 l1 l2
  generalize W.drewN nq = W1 at hvX ⊢
  have HV := Lib.hid hvX
  obtain ⟨s0, s1, z, b0, b1, b2, b3, y0, y1, y2, y3, a0, a1, a2, a3, f0, f2, f3, l0, l1, l2⟩ := hvX.facts
  clear hvX
  go_upto_region 28 with fail
  have hvX := HV.out.setk hbw 7
  clear HV s0 s1 z b0 b1 b2 b3 y0 y1 y2 y3 a0 a1 a2 a3 f0 f2 f3 l0 l1 l2
  generalize W1.setCell ⟨w.heap.size + 1, 0, none⟩ (.int .i64 7) = W2 at hvX ⊢
  have HV := Lib.hid hvX
  obtain ⟨s0, s1, z, b0, b1, b2, b3, y0, y1, y2, y3, a0, a1, a2, a3, f0, f2, f3, l0, l1, l2⟩ := hvX.facts
  clear hvX
  have n1 : ¬ (w.heap.size + 1 = b) := by omega
  have n2 : ¬ (w.heap.size + 1 = w.heap.size) := by omega
  have n3 : ¬ (b = w.heap.size + 1) := by omega
  have n4 : ¬ (w.heap.size = w.heap.size + 1) := by omega
  have n5 : ¬ (b = w.heap.size) := by omega
  have n6 : ¬ (w.heap.size = b) := by omega
  have hT := tokD_sg h6 (hA i hi)
  have hw2 : IntKind.i64.wrap ((i : Int) + 2) = (i : Int) + 2 := IntWalk.i64_in _ (by omega)
  have hw1 : IntKind.i64.wrap ((i : Int) + 1) = (i : Int) + 1 := IntWalk.i64_in _ (by omega)
  by_cases h2 : i + 2 ≤ s.size
  · have hpe := pair_eq s i h2
    have hd : decide ((i : Int) + 2 ≤ (s.size : Int)) = true := by simp; omega
    have hd2 : decide ((s.size : Int) < (i : Int) + 2) = false := by simp; omega
    have q1 : (i : Int) ≤ (i : Int) + 2 := by omega
    have q2 : (i : Int) + 2 ≤ (s.size : Int) := by omega
    have HPE := Lib.hid hpe
    have ht : ((i : Int) + 2).toNat = i + 2 := by omega
    go_quiet (exact Calls.quiet_of_same (isPair_same _ _))
    rw [HPE.out]
    by_cases hp : (bt s i, bt s (i + 1)) ∈ pairL
    · rw [if_pos ⟨h2, hp⟩] at hT
      rw [decide_eq_true hp]
      have HT := Lib.hid hT
      clear hT hp hpe
      go_upto_region 31 with fail
      have hvX := HV.out.drewN nq
      clear HV hd hd2 q1 q2 s0 s1 z b0 b1 b2 b3 y0 y1 y2 y3 a0 a1 a2 a3 f0 f2 f3 l0 l1 l2
      generalize W2.drewN nq = W4 at hvX ⊢
      have HV := Lib.hid hvX
      obtain ⟨s0, s1, z, b0, b1, b2, b3, y0, y1, y2, y3, a0, a1, a2, a3, f0, f2, f3, l0, l1, l2⟩ := hvX.facts
      clear hvX
      have hvX := HV.out.setat hbw ((i : Int) + 2) (i + 2) (by omega)
      clear HV s0 s1 z b0 b1 b2 b3 y0 y1 y2 y3 a0 a1 a2 a3 f0 f2 f3 l0 l1 l2
      generalize W4.setCell ⟨b, 1, none⟩ (.int .i64 ((i : Int) + 2)) = W5 at hvX ⊢
      have HV := Lib.hid hvX
      obtain ⟨s0, s1, z, b0, b1, b2, b3, y0, y1, y2, y3, a0, a1, a2, a3, f0, f2, f3, l0, l1, l2⟩ := hvX.facts
      clear hvX
      have j0 : (0 : Int) ≤ (i : Int) := by omega
      have j1 : (i : Int) ≤ ((i + 2 : Nat) : Int) := by omega
      have j2 : ((i + 2 : Nat) : Int) ≤ (s.size : Int) := by omega
      go_region
      have hvX := (HV.out.setx hbw (s.extract i (i + 2))).drew
      clear HV s0 s1 z b0 b1 b2 b3 y0 y1 y2 y3 a0 a1 a2 a3 f0 f2 f3 l0 l1 l2
      generalize (W5.setCell ⟨w.heap.size + 1, 2, none⟩ (.string (s.extract i (i + 2)))).drew = W6 at hvX ⊢
      have HV := Lib.hid hvX
      obtain ⟨s0, s1, z, b0, b1, b2, b3, y0, y1, y2, y3, a0, a1, a2, a3, f0, f2, f3, l0, l1, l2⟩ := hvX.facts
      clear hvX
      go_wp2_with fail
      refine bodyPost_ret (v := .tuple #[.agg #[.int .i64 7, .int .i64 i, .string (s.extract i (i + 2)), .int .i64 0], .bool true]) (by simp [results, Tryd.results13, go_sem, b0, b1, b2, b3, y0, y1, y2, y3, l1]) rfl ?_
      exact NextPost.ok HT.out rfl (HV.out.fin hbw _ _ _ _)
    · rw [if_neg (fun h => hp h.2)] at hT
      rw [decide_eq_false hp]
      have HT := Lib.hid hT
      clear hT hp hpe
      go_upto_region 31 with fail
      have hvX := HV.out.drewN nq
      clear HV hd hd2 q1 q2 s0 s1 z b0 b1 b2 b3 y0 y1 y2 y3 a0 a1 a2 a3 f0 f2 f3 l0 l1 l2
      generalize W2.drewN nq = W4 at hvX ⊢
      have HV := Lib.hid hvX
      obtain ⟨s0, s1, z, b0, b1, b2, b3, y0, y1, y2, y3, a0, a1, a2, a3, f0, f2, f3, l0, l1, l2⟩ := hvX.facts
      clear hvX
      have hvX := HV.out.setat hbw ((i : Int) + 1) (i + 1) (by omega)
      clear HV s0 s1 z b0 b1 b2 b3 y0 y1 y2 y3 a0 a1 a2 a3 f0 f2 f3 l0 l1 l2
      generalize W4.setCell ⟨b, 1, none⟩ (.int .i64 ((i : Int) + 1)) = W5 at hvX ⊢
      have HV := Lib.hid hvX
      obtain ⟨s0, s1, z, b0, b1, b2, b3, y0, y1, y2, y3, a0, a1, a2, a3, f0, f2, f3, l0, l1, l2⟩ := hvX.facts
      clear hvX
      have j0 : (0 : Int) ≤ (i : Int) := by omega
      have j1 : (i : Int) ≤ ((i + 1 : Nat) : Int) := by omega
      have j2 : ((i + 1 : Nat) : Int) ≤ (s.size : Int) := by omega
      go_region
      have hvX := (HV.out.setx hbw (s.extract i (i + 1))).drew
      clear HV s0 s1 z b0 b1 b2 b3 y0 y1 y2 y3 a0 a1 a2 a3 f0 f2 f3 l0 l1 l2
      generalize (W5.setCell ⟨w.heap.size + 1, 2, none⟩ (.string (s.extract i (i + 1)))).drew = W6 at hvX ⊢
      have HV := Lib.hid hvX
      obtain ⟨s0, s1, z, b0, b1, b2, b3, y0, y1, y2, y3, a0, a1, a2, a3, f0, f2, f3, l0, l1, l2⟩ := hvX.facts
      clear hvX
      go_wp2_with fail
      refine bodyPost_ret (v := .tuple #[.agg #[.int .i64 7, .int .i64 i, .string (s.extract i (i + 1)), .int .i64 0], .bool true]) (by simp [results, Tryd.results13, go_sem, b0, b1, b2, b3, y0, y1, y2, y3, l1]) rfl ?_
      exact NextPost.ok HT.out rfl (HV.out.fin hbw _ _ _ _)
  · have hd : decide ((i : Int) + 2 ≤ (s.size : Int)) = false := by simp; omega
    have hd2 : decide ((s.size : Int) < (i : Int) + 2) = true := by simp; omega
    rw [if_neg (fun h => h2 h.1)] at hT
    have HT := Lib.hid hT
    clear hT
    go_quiet (fail)
    go_upto_region 31 with fail
    have hvX := HV.out.drewN nq
    clear HV hd hd2 s0 s1 z b0 b1 b2 b3 y0 y1 y2 y3 a0 a1 a2 a3 f0 f2 f3 l0 l1 l2
    generalize W2.drewN nq = W4 at hvX ⊢
    have HV := Lib.hid hvX
    obtain ⟨s0, s1, z, b0, b1, b2, b3, y0, y1, y2, y3, a0, a1, a2, a3, f0, f2, f3, l0, l1, l2⟩ := hvX.facts
    clear hvX
    have hvX := HV.out.setat hbw ((i : Int) + 1) (i + 1) (by omega)
    clear HV s0 s1 z b0 b1 b2 b3 y0 y1 y2 y3 a0 a1 a2 a3 f0 f2 f3 l0 l1 l2
    generalize W4.setCell ⟨b, 1, none⟩ (.int .i64 ((i : Int) + 1)) = W5 at hvX ⊢
    have HV := Lib.hid hvX
    obtain ⟨s0, s1, z, b0, b1, b2, b3, y0, y1, y2, y3, a0, a1, a2, a3, f0, f2, f3, l0, l1, l2⟩ := hvX.facts
    clear hvX
    have j0 : (0 : Int) ≤ (i : Int) := by omega
    have j1 : (i : Int) ≤ ((i + 1 : Nat) : Int) := by omega
    have j2 : ((i + 1 : Nat) : Int) ≤ (s.size : Int) := by omega
    go_region
    have hvX := (HV.out.setx hbw (s.extract i (i + 1))).drew
    clear HV s0 s1 z b0 b1 b2 b3 y0 y1 y2 y3 a0 a1 a2 a3 f0 f2 f3 l0 l1 l2
    generalize (W5.setCell ⟨w.heap.size + 1, 2, none⟩ (.string (s.extract i (i + 1)))).drew = W6 at hvX ⊢
    have HV := Lib.hid hvX
    obtain ⟨s0, s1, z, b0, b1, b2, b3, y0, y1, y2, y3, a0, a1, a2, a3, f0, f2, f3, l0, l1, l2⟩ := hvX.facts
    clear hvX
    go_wp2_with fail
    refine bodyPost_ret (v := .tuple #[.agg #[.int .i64 7, .int .i64 i, .string (s.extract i (i + 1)), .int .i64 0], .bool true]) (by simp [results, Tryd.results13, go_sem, b0, b1, b2, b3, y0, y1, y2, y3, l1]) rfl ?_
    exact NextPost.ok HT.out rfl (HV.out.fin hbw _ _ _ _)

end Go.Proofs.YtbfeailcebfklaaDoor
