/-
  Proved: the contracts of the reference's small functions: digit, small, great, inName, blank, at, comment, Gap, name, variable. Conditions: places inside the text.
-/
import Derived.Test.YtbfeailcebfklaaDoorL1
import Derived.Test.YtbfeailcebfklaaDoorChecked
import Derived.WalkKit
import Derived.IntWalk
import Derived.Lib.Hide
import Derived.Deep.QuietTactic
import Derived.BigQuiet
set_option linter.unusedSimpArgs false
set_option linter.unusedVariables false
namespace Go.Proofs.YtbfeailcebfklaaDoor
open Go.RowKit

theorem ret_bool {a b : Bool} (h : a = b) : Ending.returned (.bool a) = .returned (.bool b) := by rw [h]
theorem ret_int {k : IntKind} {a b : Int} (h : a = b) : Ending.returned (.int k a) = .returned (.int k b) := by rw [h]

theorem digit_any (c : Nat) (w : World) : Calls Tryd.prog 25 #[.int .u8 c] w fun e w' => e = .returned (.bool (dig c)) ∧ w = w' := by
  go_enter Tryd.func25, Tryd.ntmps25
  go_wp2
  all_goals
    go_ret
    exact ⟨ret_bool (by rw [Bool.eq_iff_iff]; simp [dig]; omega), rfl⟩
theorem small_any (c : Nat) (w : World) : Calls Tryd.prog 28 #[.int .u8 c] w fun e w' => e = .returned (.bool (small c)) ∧ w = w' := by
  go_enter Tryd.func28, Tryd.ntmps28
  go_wp2
  all_goals
    go_ret
    exact ⟨ret_bool (by rw [Bool.eq_iff_iff]; simp [small]; omega), rfl⟩
theorem great_any (c : Nat) (w : World) : Calls Tryd.prog 29 #[.int .u8 c] w fun e w' => e = .returned (.bool (great c)) ∧ w = w' := by
  go_enter Tryd.func29, Tryd.ntmps29
  go_wp2
  all_goals
    go_ret
    exact ⟨ret_bool (by rw [Bool.eq_iff_iff]; simp [great]; omega), rfl⟩
theorem blank_any (c : Nat) (w : World) : Calls Tryd.prog 24 #[.int .u8 c] w fun e w' => e = .returned (.bool (blank c)) ∧ w = w' := by
  go_enter Tryd.func24, Tryd.ntmps24
  go_wp2
  all_goals
    go_ret
    exact ⟨ret_bool (by rw [Bool.eq_iff_iff]; simp [blank]; omega), rfl⟩
theorem inName_any (c : Nat) (w : World) : Calls Tryd.prog 35 #[.int .u8 c] w fun e w' => e = .returned (.bool (inName c)) ∧ w = w' := by
  cases h1 : dig c <;> cases h2 : small c <;> cases h3 : great c
  all_goals
    go_enter Tryd.func35, Tryd.ntmps35
    go_wp2_with (first
      | (go_at_call 25; refine (digit_any _ _).mono ?_; rintro e w' ⟨rfl, rfl⟩)
      | (go_at_call 28; refine (small_any _ _).mono ?_; rintro e w' ⟨rfl, rfl⟩)
      | (go_at_call 29; refine (great_any _ _).mono ?_; rintro e w' ⟨rfl, rfl⟩))
    all_goals
      go_ret
      exact ⟨ret_bool (by rw [Bool.eq_iff_iff]; simp [inName, h1, h2, h3]; try omega), rfl⟩

theorem str_eq (a b : ByteArray) : (a.toList == b.toList) = decide (a = b) := by
  rw [Bool.eq_iff_iff]
  simp only [beq_iff_eq, decide_eq_true_eq, ByteArray.toList_eq]
  constructor
  · intro h
    exact ByteArray.ext (Array.ext' h)
  · intro h; rw [h]
/-- does a text stand at a place of another? -/
def atD (s : ByteArray) (i : Nat) (t : ByteArray) : Bool := decide (i + t.size ≤ s.size ∧ cut s i (i + t.size) = t)
theorem at_any (s : ByteArray) (i : Nat) (t : ByteArray) (w : World) (hs : s.size ≤ 4000) (hi : i ≤ s.size) (ht : t.size ≤ 4000000000) :
    Calls Tryd.prog 22 #[.string s, .int .i64 i, .string t] w fun e w' => e = .returned (.bool (atD s i t)) ∧ w = w' := by
  have hw : IntKind.i64.wrap ((i : Int) + t.size) = i + t.size := IntWalk.i64_in _ (by omega)
  by_cases h : i + t.size ≤ s.size
  · have hd : decide ((i : Int) + t.size ≤ s.size) = true := by simp; omega
    have k0 : (0 : Int) ≤ (i : Int) := by omega
    have k1 : (i : Int) ≤ (i : Int) + t.size := by omega
    have k2 : (i : Int) + t.size ≤ (s.size : Int) := by omega
    go_enter Tryd.func22, Tryd.ntmps22
    go_wp2
    all_goals
      go_ret
      refine ⟨ret_bool ?_, rfl⟩
      rw [str_eq, Bool.eq_iff_iff]
      simp [atD, cut, h]
  · have hd : decide ((i : Int) + t.size ≤ s.size) = false := by simp; omega
    go_enter Tryd.func22, Tryd.ntmps22
    go_wp2
    all_goals
      go_ret
      refine ⟨ret_bool ?_, rfl⟩
      simp [atD, h]

theorem cut_two (s : ByteArray) (k : Nat) (h : k + 2 ≤ s.size) : cut s k (k + 2) = ⟨#[s[k], s[k + 1]]⟩ := by
  have hz := sizeL s
  apply ByteArray.ext
  apply Array.ext'
  have h1 : k < s.data.toList.length := by omega
  have h2 : k + 1 < s.data.toList.length := by omega
  simp only [cut, ByteArray.data_extract, Array.toList_extract]
  rw [List.extract_eq_take_drop, List.drop_eq_getElem_cons h1, show k + 2 - k = 2 from by omega, List.drop_eq_getElem_cons h2]
  rfl
theorem u8_eq (a b : UInt8) : a = b ↔ a.toNat = b.toNat := UInt8.toNat_inj.symm
theorem atD_two (s : ByteArray) (k : Nat) (a b : UInt8) : atD s k ⟨#[a, b]⟩ = hasD s k a.toNat b.toNat := by
  have e : (⟨#[a, b]⟩ : ByteArray).size = 2 := rfl
  unfold atD hasD
  rw [e]
  by_cases h : k + 2 ≤ s.size
  · rw [cut_two s k h, ← bt_get s k (by omega), ← bt_get s (k + 1) (by omega), Bool.eq_iff_iff]
    simp [u8_eq, h]
  · simp [h]
theorem at2_any (s : ByteArray) (i : Nat) (a b : UInt8) (w : World) (hs : s.size ≤ 4000) (hi : i ≤ s.size) :
    Calls Tryd.prog 22 #[.string s, .int .i64 i, .string ⟨#[a, b]⟩] w fun e w' => e = .returned (.bool (hasD s i a.toNat b.toNat)) ∧ w = w' := by
  rw [← atD_two]
  exact at_any s i ⟨#[a, b]⟩ w hs hi (by show 2 ≤ _; omega)
theorem at_open (s : ByteArray) (i : Nat) (w : World) (hs : s.size ≤ 4000) (hi : i ≤ s.size) :
    Calls Tryd.prog 22 #[.string s, .int .i64 i, .string ⟨#[40, 42]⟩] w fun e w' => e = .returned (.bool (hasD s i 40 42)) ∧ w = w' := at2_any s i 40 42 w hs hi
theorem at_close (s : ByteArray) (i : Nat) (w : World) (hs : s.size ≤ 4000) (hi : i ≤ s.size) :
    Calls Tryd.prog 22 #[.string s, .int .i64 i, .string ⟨#[42, 41]⟩] w fun e w' => e = .returned (.bool (hasD s i 42 41)) ∧ w = w' := at2_any s i 42 41 w hs hi
def comI (s : ByteArray) (i : Nat) : Int := match comD s i 0 with | some j => j | none => -1
set_option maxHeartbeats 1000000 in
theorem comment_any (s : ByteArray) (i0 : Nat) (w : World) (hs : s.size ≤ 4000) (hh : hasD s i0 40 42 = true) :
    Calls Tryd.prog 23 #[.string s, .int .i64 i0] w fun e w' => e = .returned (.int .i64 (comI s i0)) ∧ w = w' := by
  have hi0 := (hasD_pos hh).1
  have HH := Lib.hid hh
  clear hh
  go_enter Tryd.func23, Tryd.ntmps23
  go_wp2_with fail
  go_loop [1, 5] (fun i o => ∃ k q : Nat, k ≤ s.size ∧ q ≤ k ∧ i = .int .i64 k ∧ o = .int .i64 q ∧ ((k = i0 ∧ q = 0) ∨ 1 ≤ q) ∧ comD s k q = comD s i0 0) (fun i _ => s.size - (intOf i).toNat)
  case atStart => exact ⟨i0, 0, by omega, by omega, rfl, rfl, .inl ⟨rfl, rfl⟩, rfl⟩
  case round =>
    obtain ⟨k, q, hk, hq, rfl, rfl, hor, hc⟩ := hrel
    have HC := Lib.hid hc
    have HOR := Lib.hid hor
    clear hc hor
    by_cases hlt : k < s.size
    · cases hb : hasD s k 40 42 with
      | true =>
        have hst := comD_open (o := q) hlt hb
        have HST := Lib.hid hst
        have hp := (hasD_pos hb).1
        have hz : ((q : Int) + 1 == 0) = false := by simp; omega
        clear hst
        go_wp2_with fail
        refine (at_open s k _ hs hk).mono ?_
        rintro e w' ⟨rfl, rfl⟩
        go_wp2_with fail
        refine (at_close s k _ hs hk).mono ?_
        rintro e w' ⟨rfl, rfl⟩
        go_wp2_with fail
        go_round
        case rel => exact ⟨k + 2, q + 1, by omega, by omega, by go_num, by go_num, .inr (by omega), by rw [← HC.out, HST.out]⟩
        case measure => simp [intOf]; omega
      | false =>
        have hq1 : 1 ≤ q := by
          rcases HOR.out with ⟨rfl, _⟩ | h
          · have := HH.out; rw [hb] at this; cases this
          · exact h
        cases he : hasD s k 42 41 with
        | true =>
          have hst := comD_close (o := q) hlt he
          have HST := Lib.hid hst
          have hp := (hasD_pos he).1
          clear hst
          by_cases h1 : q = 1
          · subst h1
            go_wp2_with fail
            refine (at_open s k _ hs hk).mono ?_
            rintro e w' ⟨rfl, rfl⟩
            go_wp2_with fail
            refine (at_close s k _ hs hk).mono ?_
            rintro e w' ⟨rfl, rfl⟩
            go_wp2_with fail
            go_ret
            refine ⟨ret_int ?_, rfl⟩
            unfold comI
            rw [← HC.out, HST.out]
            simp
          · have hz : ((q : Int) - 1 == 0) = false := by simp; omega
            have hk1 : (0 : Int) ≤ (q : Int) - 1 := by omega
            have H1 := Lib.hid h1
            clear h1
            go_wp2_with fail
            refine (at_open s k _ hs hk).mono ?_
            rintro e w' ⟨rfl, rfl⟩
            go_wp2_with fail
            refine (at_close s k _ hs hk).mono ?_
            rintro e w' ⟨rfl, rfl⟩
            go_wp2_with fail
            go_round
            case rel => exact ⟨k + 2, q - 1, by omega, by omega, by go_num, by rw [show ((q - 1 : Nat) : Int) = (q : Int) - 1 from by omega], .inr (by have := H1.out; omega), by rw [← HC.out, HST.out, if_neg H1.out]⟩
            case measure => simp [intOf]; omega
        | false =>
          have hst := comD_else (o := q) hlt hb he
          rw [if_neg (by omega)] at hst
          have HST := Lib.hid hst
          have hz : ((q : Int) == 0) = false := by simp; omega
          clear hst
          go_wp2_with fail
          refine (at_open s k _ hs hk).mono ?_
          rintro e w' ⟨rfl, rfl⟩
          go_wp2_with fail
          refine (at_close s k _ hs hk).mono ?_
          rintro e w' ⟨rfl, rfl⟩
          go_wp2_with fail
          go_round
          case rel => exact ⟨k + 1, q, by omega, by omega, by go_num, rfl, .inr hq1, by rw [← HC.out, HST.out]⟩
          case measure => simp [intOf]; omega
    · obtain rfl : k = s.size := by omega
      have hst := comD_end (s := s) (i := s.size) (o := q) (Nat.le_refl _)
      have HST := Lib.hid hst
      clear hst
      go_wp2_with fail
      go_ret
      refine ⟨ret_int ?_, rfl⟩
      unfold comI
      rw [← HC.out, HST.out]

def blankGap (s : ByteArray) (i : Nat) : Value := .tuple #[.int .i64 (gapD s i).1, .bool (gapD s i).2]
set_option maxHeartbeats 1000000 in
theorem rgap_any (s : ByteArray) (i0 : Nat) (w : World) (hs : s.size ≤ 4000) (hi : i0 ≤ s.size) :
    Calls Tryd.prog 14 #[.string s, .int .i64 i0] w fun e w' => e = .returned (blankGap s i0) ∧ w = w' := by
  go_enter Tryd.func14, Tryd.ntmps14
  go_wp2_with fail
  go_loop [1] (fun i => ∃ k : Nat, k ≤ s.size ∧ i = .int .i64 k ∧ gapD s k = gapD s i0) (fun i => s.size - (intOf i).toNat)
  case atStart => exact ⟨i0, hi, rfl, rfl⟩
  case round =>
    obtain ⟨k, hk, rfl, hc⟩ := hrel
    have HC := Lib.hid hc
    clear hc
    by_cases hlt : k < s.size
    · cases hb : hasD s k 40 42 with
      | true =>
        cases hcm : comD s k 0 with
        | none =>
          have hst := gapD_bad hb hcm
          have HST := Lib.hid hst
          have hci : comI s k = -1 := by unfold comI; rw [hcm]
          clear hst hcm
          go_wp2_with fail
          refine (at_open s k _ hs hk).mono ?_
          rintro e w' ⟨rfl, rfl⟩
          go_wp2_with fail
          refine (comment_any s k _ hs hb).mono ?_
          rintro e w' ⟨rfl, rfl⟩
          go_wp2_with fail
          go_ret2
          unfold blankGap
          rw [← HC.out, HST.out]
          exact ⟨rfl, rfl⟩
        | some j =>
          have hst := gapD_com hb hcm
          have hj := comD_lt _ _ hcm
          have HST := Lib.hid hst
          have hci : comI s k = j := by unfold comI; rw [hcm]
          have hj0 : (0 : Int) ≤ (j : Int) := by omega
          clear hst hcm
          go_wp2_with fail
          refine (at_open s k _ hs hk).mono ?_
          rintro e w' ⟨rfl, rfl⟩
          go_wp2_with fail
          refine (comment_any s k _ hs hb).mono ?_
          rintro e w' ⟨rfl, rfl⟩
          go_wp2_with fail
          go_round
          case rel => exact ⟨j, by omega, rfl, by rw [← HC.out, HST.out]⟩
          case measure => simp [intOf]; omega
      | false =>
        have k1 : (k : Int) < (s.size : Int) := by omega
        have k0 : (0 : Int) ≤ (k : Int) := by omega
        cases hbl : blank (bt s k) with
        | true =>
          have hst := gapD_blank hlt hbl
          have HST := Lib.hid hst
          clear hst
          go_wp2_with fail
          refine (at_open s k _ hs hk).mono ?_
          rintro e w' ⟨rfl, rfl⟩
          go_wp2_with fail
          refine (blank_any _ _).mono ?_
          rintro e w' ⟨rfl, rfl⟩
          rw [bt_get s k hlt]
          go_wp2_with fail
          go_round
          case rel => exact ⟨k + 1, by omega, by go_num, by rw [← HC.out, HST.out]⟩
          case measure => simp [intOf]; omega
        | false =>
          have hst := gapD_stop hb (fun _ => hbl)
          have HST := Lib.hid hst
          clear hst
          go_wp2_with fail
          refine (at_open s k _ hs hk).mono ?_
          rintro e w' ⟨rfl, rfl⟩
          go_wp2_with fail
          refine (blank_any _ _).mono ?_
          rintro e w' ⟨rfl, rfl⟩
          rw [bt_get s k hlt]
          go_wp2_with fail
          go_ret2
          unfold blankGap
          rw [← HC.out, HST.out]
          exact ⟨rfl, rfl⟩
    · have hst := gapD_end (s := s) (i := k) (by omega)
      have HST := Lib.hid hst
      clear hst
      go_wp2_with fail
      go_ret2
      unfold blankGap
      rw [← HC.out, HST.out]
      exact ⟨rfl, rfl⟩

end Go.Proofs.YtbfeailcebfklaaDoor
