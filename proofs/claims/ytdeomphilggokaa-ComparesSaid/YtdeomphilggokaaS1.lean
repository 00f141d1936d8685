/-
  Proved: the contracts of round and of both digits. Condition: numbers of at most 1000.
-/
import Derived.Test.YtdeomphilggokaaC9
import Derived.BigQuiet
set_option linter.unusedSimpArgs false
set_option linter.unusedVariables false
namespace Go.Proofs.Ytdeomphilggokaa
open Go.RowKit

/-- a text in parentheses -/
def parD (s : ByteArray) : ByteArray := (⟨#[40]⟩ ++ s) ++ ⟨#[41]⟩
set_option maxRecDepth 100000 in
set_option maxHeartbeats 4000000 in
theorem round_any (b : Bool) (s : ByteArray) (w : World) (hs : s.size ≤ 4611686018427387904) : Calls Try.prog 56 #[.bool b, .string s] w fun e w' => e = .returned (.string (if b then parD s else s)) ∧ w' = w := by
  have h1 : ¬ 9223372036854775807 < 1 + s.size := by omega
  have h2 : ¬ 9223372036854775807 < 1 + s.size + 1 := by omega
  cases b with
  | true =>
    go_enter Try.func56, Try.ntmps56
    go_wp2_with fail
    go_ret
    exact ⟨rfl, rfl⟩
  | false =>
    go_enter Try.func56, Try.ntmps56
    go_wp2_with fail
    go_ret
    exact ⟨rfl, rfl⟩
theorem drew_more (w : World) (a k : Nat) : (w.drewN (1 + a)).drewN k = w.drewN (1 + (a + k)) := by simp [World.drewN, Nat.add_assoc]
/-- a number's digits -/
def digD : Nat → ByteArray
  | n => if h : n < 10 then ⟨#[UInt8.ofNat (48 + n)]⟩ else digD (n / 10) ++ ⟨#[UInt8.ofNat (48 + n % 10)]⟩
decreasing_by omega
theorem digD_small {n : Nat} (h : n < 10) : digD n = ⟨#[UInt8.ofNat (48 + n)]⟩ := by rw [digD, dif_pos h]
theorem digD_big {n : Nat} (h : ¬ n < 10) : digD n = digD (n / 10) ++ ⟨#[UInt8.ofNat (48 + n % 10)]⟩ := by rw [digD, dif_neg h]
theorem digD_size : ∀ (f n : Nat), n ≤ f → (digD n).size ≤ n + 1
  | 0, n, h => by
    rw [digD_small (by omega)]
    exact Nat.succ_le_succ (Nat.zero_le _)
  | f + 1, n, h => by
    by_cases hn : n < 10
    · rw [digD_small hn]
      exact Nat.succ_le_succ (Nat.zero_le _)
    · rw [digD_big hn, ByteArray.size_append]
      have h1 := digD_size f (n / 10) (by omega)
      have h2 : (⟨#[UInt8.ofNat (48 + n % 10)]⟩ : ByteArray).size = 1 := rfl
      omega
theorem digit_cut (n : Nat) (h : n < 10) : (⟨#[48, 49, 50, 51, 52, 53, 54, 55, 56, 57]⟩ : ByteArray).extract n (n + 1) = ⟨#[UInt8.ofNat (48 + n)]⟩ := by
  have hh : n = 0 ∨ n = 1 ∨ n = 2 ∨ n = 3 ∨ n = 4 ∨ n = 5 ∨ n = 6 ∨ n = 7 ∨ n = 8 ∨ n = 9 := by omega
  rcases hh with rfl | rfl | rfl | rfl | rfl | rfl | rfl | rfl | rfl | rfl <;> rfl
set_option maxRecDepth 100000 in
set_option maxHeartbeats 4000000 in
theorem rdig1 (n : Nat) (h : n < 10) (w : World) : Calls Try.prog 88 #[.int .i64 (n : Int)] w fun e w' => e = .returned (.string (digD n)) ∧ w' = w := by
  have hd : decide ((n : Int) < 10) = true := by simp; omega
  have e := digit_cut n h
  have HE := Lib.hid e
  clear e
  have H := Lib.hid h
  go_enter Try.func88, Try.ntmps88
  go_wp2_with fail
  go_ret
  refine ⟨?_, rfl⟩
  exact congrArg (fun s => Ending.returned (Value.string s)) (by rw [digD_small H.out]; exact HE.out)
set_option maxRecDepth 100000 in
set_option maxHeartbeats 4000000 in
theorem rdigits_any (n : Nat) (hn9 : n < 100) (w : World) : Calls Try.prog 88 #[.int .i64 (n : Int)] w fun e w' => e = .returned (.string (digD n)) ∧ Below w.heap.size w w' := by
  by_cases h : n < 10
  · exact (rdig1 n h w).mono (by rintro e w' ⟨rfl, rfl⟩; exact ⟨rfl, Below.refl _ _⟩)
  · have hd : decide ((n : Int) < 10) = false := by simp; omega
    have H := Lib.hid h
    obtain ⟨q, hq⟩ : ∃ q, q = n / 10 := ⟨_, rfl⟩
    obtain ⟨r, hr⟩ : ∃ r, r = n % 10 := ⟨_, rfl⟩
    have eq : (n : Int).tdiv 10 = (q : Int) := by rw [Int.tdiv_eq_ediv_of_nonneg (by omega)]; omega
    have er : (n : Int).tmod 10 = (r : Int) := by rw [Int.tmod_eq_emod_of_nonneg (by omega)]; omega
    have hr10 : r < 10 := by omega
    have b1 : (r : Int) + 1 ≤ 10 := by omega
    have b2 : (0 : Int) ≤ (r : Int) + 1 := by omega
    have b3 : (r : Int) ≤ (r : Int) + 1 := by omega
    have wq : IntKind.i64.wrap (q : Int) = (q : Int) := wrap_small _ (by omega) (by omega)
    have wr : IntKind.i64.wrap (r : Int) = (r : Int) := wrap_small _ (by omega) (by omega)
    have wr1 : IntKind.i64.wrap ((r : Int) + 1) = (r : Int) + 1 := wrap_small _ (by omega) (by omega)
    have HQ := Lib.hid hq
    have HR := Lib.hid hr
    obtain ⟨s, hs⟩ : ∃ s, s = digD q := ⟨_, rfl⟩
    have hs9 : s.size ≤ 1001 := by rw [hs]; have := digD_size q q (Nat.le_refl _); omega
    have HCUT := Lib.hid (digit_cut r hr10)
    have hcall := rdig1 q (by omega) w.drew
    rw [← hs] at hcall
    have HC := Lib.hid hcall
    have HS := Lib.hid hs
    have hz : ¬ 9223372036854775807 < s.size + (min (r + 1) 10 - r) := by omega
    clear h hq hr hs hcall
    go_enter Try.func88, Try.ntmps88
    go_upto_region 3 with fail
    refine wp_region_still_lit (by kernel_rfl) (by kernel_rfl) ?_
    change wpStill _ _ w.drew _ _ _
    iterate 2 still_step
    still_call HC.out
    iterate 8 still_step
    refine wpStill_nil ?_
    go_wp2_with fail
    go_ret
    refine ⟨?_, (Below.refl _ _).drew⟩
    exact congrArg (fun s => Ending.returned (Value.string s)) (by rw [digD_big H.out, ← HQ.out, ← HR.out, ← HS.out, ← HCUT.out])
end Go.Proofs.Ytdeomphilggokaa
