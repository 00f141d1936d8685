/-
  Proved: the contracts of the reference's small functions: digit, small, great, inName, blank, at, comment, Gap, name, variable; the contracts of the reference's name, variable, Among, words, signs; the contracts of the reference's words, signs, Among. Conditions: places inside the text; a text of at most 4000 bytes; the list as it stands in memory.
-/
import Derived.Test.YthehjeeiodbkjaaGreatDoorE01
import Derived.Test.YthehjeeiodbkjaaGreatDoorChecked
import Derived.Test.YthehjeeiodbkjaaGreatDoorE02
import Derived.WalkKit
import Derived.IntWalk
import Derived.Lib.Hide
import Derived.Deep.QuietTactic
import Derived.BigQuiet
import Derived.Deep.DeepCutAuto
import Derived.Deep.CutBlock
set_option linter.unusedSimpArgs false
set_option linter.unusedVariables false
set_option maxRecDepth 100000
set_option maxHeartbeats 16000000
namespace Go.Proofs.YthehjeeiodbkjaaGreatDoor
open Go.RowKit
theorem ret_bool {a b : Bool} (h : a = b) : Ending.returned (.bool a) = .returned (.bool b) := by rw [h]
theorem ret_int {k : IntKind} {a b : Int} (h : a = b) : Ending.returned (.int k a) = .returned (.int k b) := by rw [h]
theorem digit_any (c : Nat) (w : World) : Calls Tryz.prog 172 #[.int .u8 c] w fun e w' => e = .returned (.bool (dig c)) ∧ w = w' := by
 go_enter Tryz.func172, Tryz.ntmps172
 go_wp2
 all_goals
  go_ret
  exact ⟨ret_bool (by rw [Bool.eq_iff_iff]; simp [dig]; omega), rfl⟩
theorem small_any (c : Nat) (w : World) : Calls Tryz.prog 175 #[.int .u8 c] w fun e w' => e = .returned (.bool (small c)) ∧ w = w' := by
 go_enter Tryz.func175, Tryz.ntmps175
 go_wp2
 all_goals
  go_ret
  exact ⟨ret_bool (by rw [Bool.eq_iff_iff]; simp [small]; omega), rfl⟩
theorem great_any (c : Nat) (w : World) : Calls Tryz.prog 176 #[.int .u8 c] w fun e w' => e = .returned (.bool (great c)) ∧ w = w' := by
 go_enter Tryz.func176, Tryz.ntmps176
 go_wp2
 all_goals
  go_ret
  exact ⟨ret_bool (by rw [Bool.eq_iff_iff]; simp [great]; omega), rfl⟩
theorem blank_any (c : Nat) (w : World) : Calls Tryz.prog 171 #[.int .u8 c] w fun e w' => e = .returned (.bool (blank c)) ∧ w = w' := by
 go_enter Tryz.func171, Tryz.ntmps171
 go_wp2
 all_goals
  go_ret
  exact ⟨ret_bool (by rw [Bool.eq_iff_iff]; simp [blank]; omega), rfl⟩
theorem inName_any (c : Nat) (w : World) : Calls Tryz.prog 198 #[.int .u8 c] w fun e w' => e = .returned (.bool (inName c)) ∧ w = w' := by
 cases h1 : dig c <;> cases h2 : small c <;> cases h3 : great c
 all_goals
  go_enter Tryz.func198, Tryz.ntmps198
  go_wp2_with (first
   | (go_at_call 172; refine (digit_any _ _).mono ?_; rintro e w' ⟨rfl, rfl⟩)
   | (go_at_call 175; refine (small_any _ _).mono ?_; rintro e w' ⟨rfl, rfl⟩)
   | (go_at_call 176; refine (great_any _ _).mono ?_; rintro e w' ⟨rfl, rfl⟩))
  all_goals
   go_ret
   exact ⟨ret_bool (by rw [Bool.eq_iff_iff]; simp [inName, h1, h2, h3]; try omega), rfl⟩
theorem str_eq (a b : ByteArray) : (a.toList == b.toList) = decide (a = b) := by
 rw [Bool.eq_iff_iff]
 simp only [beq_iff_eq, decide_eq_true_eq, ByteArray.toList_eq]
 constructor
 · intro h
   exact ByteArray.ext (Array.ext' h)
 · intro h; rw [h]
/-- does a text stand at a place of another? -/
def atD (s : ByteArray) (i : Nat) (t : ByteArray) : Bool := decide (i + t.size ≤ s.size ∧ cut s i (i + t.size) = t)
theorem at_any (s : ByteArray) (i : Nat) (t : ByteArray) (w : World) (hs : s.size ≤ 4000) (hi : i ≤ s.size) (ht : t.size ≤ 4000000000) :
 Calls Tryz.prog 169 #[.string s, .int .i64 i, .string t] w fun e w' => e = .returned (.bool (atD s i t)) ∧ w = w' := by
 have hw : IntKind.i64.wrap ((i : Int) + t.size) = i + t.size := IntWalk.i64_in _ (by omega)
 by_cases h : i + t.size ≤ s.size
 · have hd : decide ((i : Int) + t.size ≤ s.size) = true := by simp; omega
   have k0 : (0 : Int) ≤ (i : Int) := by omega
   have k1 : (i : Int) ≤ (i : Int) + t.size := by omega
   have k2 : (i : Int) + t.size ≤ (s.size : Int) := by omega
   go_enter Tryz.func169, Tryz.ntmps169
   go_wp2
   all_goals
    go_ret
    refine ⟨ret_bool ?_, rfl⟩
    rw [str_eq, Bool.eq_iff_iff]
    simp [atD, cut, h]
 · have hd : decide ((i : Int) + t.size ≤ s.size) = false := by simp; omega
   go_enter Tryz.func169, Tryz.ntmps169
   go_wp2
   all_goals
    go_ret
    refine ⟨ret_bool ?_, rfl⟩
    simp [atD, h]
theorem cut_two (s : ByteArray) (k : Nat) (h : k + 2 ≤ s.size) : cut s k (k + 2) = ⟨#[s[k], s[k + 1]]⟩ := by
 have hz := sizeL s
 apply ByteArray.ext
 apply Array.ext'
 have h1 : k < s.data.toList.length := by omega
 have h2 : k + 1 < s.data.toList.length := by omega
 simp only [cut, ByteArray.data_extract, Array.toList_extract]
 rw [List.extract_eq_take_drop, List.drop_eq_getElem_cons h1, show k + 2 - k = 2 from by omega, List.drop_eq_getElem_cons h2]
 rfl
theorem u8_eq (a b : UInt8) : a = b ↔ a.toNat = b.toNat := UInt8.toNat_inj.symm
theorem atD_two (s : ByteArray) (k : Nat) (a b : UInt8) : atD s k ⟨#[a, b]⟩ = hasD s k a.toNat b.toNat := by
 have e : (⟨#[a, b]⟩ : ByteArray).size = 2 := rfl
 unfold atD hasD
 rw [e]
 by_cases h : k + 2 ≤ s.size
 · rw [cut_two s k h, ← bt_get s k (by omega), ← bt_get s (k + 1) (by omega), Bool.eq_iff_iff]
   simp [u8_eq, h]
 · simp [h]
theorem at2_any (s : ByteArray) (i : Nat) (a b : UInt8) (w : World) (hs : s.size ≤ 4000) (hi : i ≤ s.size) :
 Calls Tryz.prog 169 #[.string s, .int .i64 i, .string ⟨#[a, b]⟩] w fun e w' => e = .returned (.bool (hasD s i a.toNat b.toNat)) ∧ w = w' := by
 rw [← atD_two]
 exact at_any s i ⟨#[a, b]⟩ w hs hi (by show 2 ≤ _; omega)
theorem at_open (s : ByteArray) (i : Nat) (w : World) (hs : s.size ≤ 4000) (hi : i ≤ s.size) :
 Calls Tryz.prog 169 #[.string s, .int .i64 i, .string ⟨#[40, 42]⟩] w fun e w' => e = .returned (.bool (hasD s i 40 42)) ∧ w = w' := at2_any s i 40 42 w hs hi
theorem at_close (s : ByteArray) (i : Nat) (w : World) (hs : s.size ≤ 4000) (hi : i ≤ s.size) :
 Calls Tryz.prog 169 #[.string s, .int .i64 i, .string ⟨#[42, 41]⟩] w fun e w' => e = .returned (.bool (hasD s i 42 41)) ∧ w = w' := at2_any s i 42 41 w hs hi
def comI (s : ByteArray) (i : Nat) : Int := match comD s i 0 with | some j => j | none => -1
theorem comment_any (s : ByteArray) (i0 : Nat) (w : World) (hs : s.size ≤ 4000) (hh : hasD s i0 40 42 = true) :
 Calls Tryz.prog 170 #[.string s, .int .i64 i0] w fun e w' => e = .returned (.int .i64 (comI s i0)) ∧ w = w' := by
 have hi0 := (hasD_pos hh).1
 have HH := lh hh
 clear hh
 go_enter Tryz.func170, Tryz.ntmps170
 go_wp2_with fail
 go_loop [1, 5] (fun i o => ∃ k q : Nat, k ≤ s.size ∧ q ≤ k ∧ i = .int .i64 k ∧ o = .int .i64 q ∧ ((k = i0 ∧ q = 0) ∨ 1 ≤ q) ∧ comD s k q = comD s i0 0) (fun i _ => s.size - (intOf i).toNat)
 case atStart => exact ⟨i0, 0, by omega, by omega, rfl, rfl, .inl ⟨rfl, rfl⟩, rfl⟩
 case round =>
  obtain ⟨k, q, hk, hq, rfl, rfl, hor, hc⟩ := hrel
  have HC := lh hc
  have HOR := lh hor
  clear hc hor
  by_cases hlt : k < s.size
  · cases hb : hasD s k 40 42 with
    | true =>
     have hst := comD_open (o := q) hlt hb
     have HST := lh hst
     have hp := (hasD_pos hb).1
     have hz : ((q : Int) + 1 == 0) = false := by simp; omega
     clear hst
     go_wp2_with fail
     refine (at_open s k _ hs hk).mono ?_
     rintro e w' ⟨rfl, rfl⟩
     go_wp2_with fail
     refine (at_close s k _ hs hk).mono ?_
     rintro e w' ⟨rfl, rfl⟩
     go_wp2_with fail
     go_round
     case rel => exact ⟨k + 2, q + 1, by omega, by omega, by go_num, by go_num, .inr (by omega), by rw [← HC.out, HST.out]⟩
     case measure => simp [intOf]; omega
    | false =>
     have hq1 : 1 ≤ q := by
      rcases HOR.out with ⟨rfl, _⟩ | h
      · have := HH.out; rw [hb] at this; cases this
      · exact h
     cases he : hasD s k 42 41 with
     | true =>
      have hst := comD_close (o := q) hlt he
      have HST := lh hst
      have hp := (hasD_pos he).1
      clear hst
      by_cases h1 : q = 1
      · subst h1
        go_wp2_with fail
        refine (at_open s k _ hs hk).mono ?_
        rintro e w' ⟨rfl, rfl⟩
        go_wp2_with fail
        refine (at_close s k _ hs hk).mono ?_
        rintro e w' ⟨rfl, rfl⟩
        go_wp2_with fail
        go_ret
        refine ⟨ret_int ?_, rfl⟩
        unfold comI
        rw [← HC.out, HST.out]
        simp
      · have hz : ((q : Int) - 1 == 0) = false := by simp; omega
        have hk1 : (0 : Int) ≤ (q : Int) - 1 := by omega
        have H1 := lh h1
        clear h1
        go_wp2_with fail
        refine (at_open s k _ hs hk).mono ?_
        rintro e w' ⟨rfl, rfl⟩
        go_wp2_with fail
        refine (at_close s k _ hs hk).mono ?_
        rintro e w' ⟨rfl, rfl⟩
        go_wp2_with fail
        go_round
        case rel => exact ⟨k + 2, q - 1, by omega, by omega, by go_num, by rw [show ((q - 1 : Nat) : Int) = (q : Int) - 1 from by omega], .inr (by have := H1.out; omega), by rw [← HC.out, HST.out, if_neg H1.out]⟩
        case measure => simp [intOf]; omega
     | false =>
      have hst := comD_else (o := q) hlt hb he
      rw [if_neg (by omega)] at hst
      have HST := lh hst
      have hz : ((q : Int) == 0) = false := by simp; omega
      clear hst
      go_wp2_with fail
      refine (at_open s k _ hs hk).mono ?_
      rintro e w' ⟨rfl, rfl⟩
      go_wp2_with fail
      refine (at_close s k _ hs hk).mono ?_
      rintro e w' ⟨rfl, rfl⟩
      go_wp2_with fail
      go_round
      case rel => exact ⟨k + 1, q, by omega, by omega, by go_num, rfl, .inr hq1, by rw [← HC.out, HST.out]⟩
      case measure => simp [intOf]; omega
  · obtain rfl : k = s.size := by omega
    have hst := comD_end (s := s) (i := s.size) (o := q) (Nat.le_refl _)
    have HST := lh hst
    clear hst
    go_wp2_with fail
    go_ret
    refine ⟨ret_int ?_, rfl⟩
    unfold comI
    rw [← HC.out, HST.out]
def blankGap (s : ByteArray) (i : Nat) : Value := .tuple #[.int .i64 (gapD s i).1, .bool (gapD s i).2]
theorem rgap_any (s : ByteArray) (i0 : Nat) (w : World) (hs : s.size ≤ 4000) (hi : i0 ≤ s.size) :
 Calls Tryz.prog 141 #[.string s, .int .i64 i0] w fun e w' => e = .returned (blankGap s i0) ∧ w = w' := by
 go_enter Tryz.func141, Tryz.ntmps141
 go_wp2_with fail
 go_loop [1] (fun i => ∃ k : Nat, k ≤ s.size ∧ i = .int .i64 k ∧ gapD s k = gapD s i0) (fun i => s.size - (intOf i).toNat)
 case atStart => exact ⟨i0, hi, rfl, rfl⟩
 case round =>
  obtain ⟨k, hk, rfl, hc⟩ := hrel
  have HC := lh hc
  clear hc
  by_cases hlt : k < s.size
  · cases hb : hasD s k 40 42 with
    | true =>
     cases hcm : comD s k 0 with
     | none =>
      have hst := gapD_bad hb hcm
      have HST := lh hst
      have hci : comI s k = -1 := by unfold comI; rw [hcm]
      clear hst hcm
      go_wp2_with fail
      refine (at_open s k _ hs hk).mono ?_
      rintro e w' ⟨rfl, rfl⟩
      go_wp2_with fail
      refine (comment_any s k _ hs hb).mono ?_
      rintro e w' ⟨rfl, rfl⟩
      go_wp2_with fail
      go_ret2
      unfold blankGap
      rw [← HC.out, HST.out]
      exact ⟨rfl, rfl⟩
     | some j =>
      have hst := gapD_com hb hcm
      have hj := comD_lt _ _ hcm
      have HST := lh hst
      have hci : comI s k = j := by unfold comI; rw [hcm]
      have hj0 : (0 : Int) ≤ (j : Int) := by omega
      clear hst hcm
      go_wp2_with fail
      refine (at_open s k _ hs hk).mono ?_
      rintro e w' ⟨rfl, rfl⟩
      go_wp2_with fail
      refine (comment_any s k _ hs hb).mono ?_
      rintro e w' ⟨rfl, rfl⟩
      go_wp2_with fail
      go_round
      case rel => exact ⟨j, by omega, rfl, by rw [← HC.out, HST.out]⟩
      case measure => simp [intOf]; omega
    | false =>
     have k1 : (k : Int) < (s.size : Int) := by omega
     have k0 : (0 : Int) ≤ (k : Int) := by omega
     cases hbl : blank (bt s k) with
     | true =>
      have hst := gapD_blank hlt hbl
      have HST := lh hst
      clear hst
      go_wp2_with fail
      refine (at_open s k _ hs hk).mono ?_
      rintro e w' ⟨rfl, rfl⟩
      go_wp2_with fail
      refine (blank_any _ _).mono ?_
      rintro e w' ⟨rfl, rfl⟩
      rw [bt_get s k hlt]
      go_wp2_with fail
      go_round
      case rel => exact ⟨k + 1, by omega, by go_num, by rw [← HC.out, HST.out]⟩
      case measure => simp [intOf]; omega
     | false =>
      have hst := gapD_stop hb (fun _ => hbl)
      have HST := lh hst
      clear hst
      go_wp2_with fail
      refine (at_open s k _ hs hk).mono ?_
      rintro e w' ⟨rfl, rfl⟩
      go_wp2_with fail
      refine (blank_any _ _).mono ?_
      rintro e w' ⟨rfl, rfl⟩
      rw [bt_get s k hlt]
      go_wp2_with fail
      go_ret2
      unfold blankGap
      rw [← HC.out, HST.out]
      exact ⟨rfl, rfl⟩
  · have hst := gapD_end (s := s) (i := k) (by omega)
    have HST := lh hst
    clear hst
    go_wp2_with fail
    go_ret2
    unfold blankGap
    rw [← HC.out, HST.out]
    exact ⟨rfl, rfl⟩
theorem name_any (s : ByteArray) (i0 : Nat) (w : World) (hs : s.size ≤ 4000) (hi : i0 ≤ s.size) :
 Calls Tryz.prog 177 #[.string s, .int .i64 i0] w fun e w' => e = .returned (.int .i64 (whD s inName i0)) ∧ w = w' := by
 go_enter Tryz.func177, Tryz.ntmps177
 go_wp2_with fail
 go_loop [1] (fun i => ∃ k : Nat, k ≤ s.size ∧ i = .int .i64 k ∧ whD s inName k = whD s inName i0) (fun i => s.size - (intOf i).toNat)
 case atStart => exact ⟨i0, hi, rfl, rfl⟩
 case round =>
  obtain ⟨k, hk, rfl, hc⟩ := hrel
  have HC := lh hc
  clear hc
  have k0 : (0 : Int) ≤ (k : Int) := by omega
  by_cases hlt : k < s.size
  · have k1 : (k : Int) < (s.size : Int) := by omega
    cases hb : inName (bt s k) with
    | true =>
     have hst := whD_step hlt hb
     have HST := lh hst
     clear hst
     go_wp2_with fail
     refine (inName_any _ _).mono ?_
     rintro e w' ⟨rfl, rfl⟩
     rw [bt_get s k hlt]
     go_wp2_with fail
     go_round
     case rel => exact ⟨k + 1, by omega, by go_num, by rw [← HC.out, HST.out]⟩
     case measure => simp [intOf]; omega
    | false =>
     have hst := whD_stop hlt hb
     have HST := lh hst
     clear hst
     go_wp2_with fail
     refine (inName_any _ _).mono ?_
     rintro e w' ⟨rfl, rfl⟩
     rw [bt_get s k hlt]
     go_wp2_with fail
     go_ret
     exact ⟨ret_int (by rw [← HC.out, HST.out]), rfl⟩
  · have hst := whD_end (s := s) (p := inName) (i := k) (by omega)
    have HST := lh hst
    clear hst
    go_wp2_with fail
    go_ret
    exact ⟨ret_int (by rw [← HC.out, HST.out]), rfl⟩
/-- where a type variable's name begins -/
def vfD (s : ByteArray) (i : Nat) : Nat := if tokD.hasQ s (i + 1) then i + 2 else i + 1
/-- the place behind a type variable; -1: it is none -/
def varI (s : ByteArray) (i : Nat) : Int := if vfD s i < varD s (vfD s i) (vfD s i) ∧ varD s (vfD s i) (vfD s i) - vfD s i ≤ 20 then varD s (vfD s i) (vfD s i) else -1
theorem rvariable_any (s : ByteArray) (i0 : Nat) (w : World) (hs : s.size ≤ 4000) (hi : i0 < s.size) :
 Calls Tryz.prog 174 #[.string s, .int .i64 i0] w fun e w' => e = .returned (.int .i64 (varI s i0)) ∧ w = w' := by
 obtain ⟨f0, hf0⟩ : ∃ f0, f0 = vfD s i0 := ⟨_, rfl⟩
 have hfs : f0 ≤ s.size ∧ i0 < f0 := by
  rw [hf0]; unfold vfD
  split
  · rename_i h; simp [tokD.hasQ] at h; omega
  · omega
 obtain ⟨hfs, hfi⟩ := hfs
 have hv : varI s i0 = if f0 < varD s f0 f0 ∧ varD s f0 f0 - f0 ≤ 20 then (varD s f0 f0 : Int) else -1 := by unfold varI; rw [hf0]
 have HV := lh hv
 have hpre : Calls Tryz.prog 174 #[.string s, .int .i64 i0] w fun e w' => e = .returned (.int .i64 (varI s i0)) ∧ w = w' := by
  have hq0 : (0 : Int) ≤ (i0 : Int) + 1 := by omega
  have hqn : ((i0 : Int) + 1).toNat = i0 + 1 := by omega
  unfold vfD at hf0
  by_cases hl : i0 + 1 < s.size
  · have hl1 : (i0 : Int) + 1 < (s.size : Int) := by omega
    by_cases h39 : bt s (i0 + 1) = 39
    · have e0 : f0 = i0 + 2 := by rw [hf0, if_pos (by simp [tokD.hasQ, hl, h39])]
      have hb : (((s[i0 + 1]'hl).toNat : Int) == 39) = true := by rw [bt_get s (i0 + 1) hl, h39]; rfl
      have HE := lh e0
      clear e0 hf0 h39 hv
      go_enter Tryz.func174, Tryz.ntmps174
      go_wp2_with fail
      rw [show (i0 : Int) + 1 + 1 = (f0 : Int) from by rw [HE.out]; push_cast; omega]
      go_loop [1] (fun i => ∃ k : Nat, f0 ≤ k ∧ k ≤ s.size ∧ i = .int .i64 k ∧ varD s f0 k = varD s f0 f0) (fun i => s.size - (intOf i).toNat)
      case atStart => exact ⟨f0, Nat.le_refl _, hfs, rfl, rfl⟩
      case round =>
       obtain ⟨k, hfk, hk, rfl, hc⟩ := hrel
       have HC := lh hc
       clear hc
       have k0 : (0 : Int) ≤ (k : Int) := by omega
       by_cases hlt : k < s.size
       · have k1 : (k : Int) < (s.size : Int) := by omega
         cases hsm : small (bt s k) with
         | true =>
          have hst := varD_step (f := f0) hlt (by simp [hsm])
          have HST := lh hst
          clear hst
          go_wp2_with fail
          refine (small_any _ _).mono ?_
          rintro e w' ⟨rfl, rfl⟩
          rw [bt_get s k hlt]
          go_wp2_with fail
          go_round
          case rel => exact ⟨k + 1, by omega, by omega, by go_num, by rw [← HC.out, HST.out]⟩
          case measure => simp [intOf]; omega
         | false =>
          by_cases hff : f0 < k
          · have hd : decide ((f0 : Int) < (k : Int)) = true := by simp; omega
            cases hdg : dig (bt s k) with
            | true =>
             have hst := varD_step (f := f0) hlt (by simp [hsm, hdg, hff])
             have HST := lh hst
             clear hst
             go_wp2_with fail
             refine (small_any _ _).mono ?_
             rintro e w' ⟨rfl, rfl⟩
             rw [bt_get s k hlt]
             go_wp2_with fail
             refine (digit_any _ _).mono ?_
             rintro e w' ⟨rfl, rfl⟩
             rw [bt_get s k hlt]
             go_wp2_with fail
             go_round
             case rel => exact ⟨k + 1, by omega, by omega, by go_num, by rw [← HC.out, HST.out]⟩
             case measure => simp [intOf]; omega
            | false =>
             have hst := varD_stop (s := s) (f := f0) (i := k) (fun _ => by simp [hsm, hdg])
             have hj : varD s f0 f0 = k := by rw [← HC.out, hst]
             have HJ := lh hj
             clear hst hj
             by_cases hkf : k = f0
             · have hb1 : ((k : Int) == (f0 : Int)) = true := by simp [hkf]
               have HK := lh hkf
               clear hkf
               go_wp2_with fail
               refine (small_any _ _).mono ?_
               rintro e w' ⟨rfl, rfl⟩
               rw [bt_get s k hlt]
               go_wp2_with fail
               refine (digit_any _ _).mono ?_
               rintro e w' ⟨rfl, rfl⟩
               rw [bt_get s k hlt]
               go_wp2_with fail
               go_ret
               exact ⟨ret_int (by rw [HV.out, HJ.out, if_neg (by have := HK.out; omega)]), rfl⟩
             · have hb1 : ((k : Int) == (f0 : Int)) = false := by simp; omega
               have HK := lh hkf
               clear hkf
               by_cases h20 : k - f0 ≤ 20
               · have hd20 : decide ((20 : Int) < (k : Int) - f0) = false := by simp; omega
                 go_wp2_with fail
                 refine (small_any _ _).mono ?_
                 rintro e w' ⟨rfl, rfl⟩
                 rw [bt_get s k hlt]
                 go_wp2_with fail
                 refine (digit_any _ _).mono ?_
                 rintro e w' ⟨rfl, rfl⟩
                 rw [bt_get s k hlt]
                 go_wp2_with fail
                 go_ret
                 exact ⟨ret_int (by rw [HV.out, HJ.out, if_pos ⟨by have := HK.out; omega, h20⟩]), rfl⟩
               · have hd20 : decide ((20 : Int) < (k : Int) - f0) = true := by simp; omega
                 go_wp2_with fail
                 refine (small_any _ _).mono ?_
                 rintro e w' ⟨rfl, rfl⟩
                 rw [bt_get s k hlt]
                 go_wp2_with fail
                 refine (digit_any _ _).mono ?_
                 rintro e w' ⟨rfl, rfl⟩
                 rw [bt_get s k hlt]
                 go_wp2_with fail
                 go_ret
                 exact ⟨ret_int (by rw [HV.out, HJ.out, if_neg (by omega)]), rfl⟩
          · have hd : decide ((f0 : Int) < (k : Int)) = false := by simp; omega
            have hst := varD_stop (s := s) (f := f0) (i := k) (fun _ => by simp [hsm, hff])
            have hj : varD s f0 f0 = k := by rw [← HC.out, hst]
            have HJ := lh hj
            clear hst hj
            by_cases hkf : k = f0
            · have hb1 : ((k : Int) == (f0 : Int)) = true := by simp [hkf]
              have HK := lh hkf
              clear hkf
              go_wp2_with fail
              refine (small_any _ _).mono ?_
              rintro e w' ⟨rfl, rfl⟩
              rw [bt_get s k hlt]
              go_wp2_with fail
              go_ret
              exact ⟨ret_int (by rw [HV.out, HJ.out, if_neg (by have := HK.out; omega)]), rfl⟩
            · have hb1 : ((k : Int) == (f0 : Int)) = false := by simp; omega
              have HK := lh hkf
              clear hkf
              by_cases h20 : k - f0 ≤ 20
              · have hd20 : decide ((20 : Int) < (k : Int) - f0) = false := by simp; omega
                go_wp2_with fail
                refine (small_any _ _).mono ?_
                rintro e w' ⟨rfl, rfl⟩
                rw [bt_get s k hlt]
                go_wp2_with fail
                go_ret
                exact ⟨ret_int (by rw [HV.out, HJ.out, if_pos ⟨by have := HK.out; omega, h20⟩]), rfl⟩
              · have hd20 : decide ((20 : Int) < (k : Int) - f0) = true := by simp; omega
                go_wp2_with fail
                refine (small_any _ _).mono ?_
                rintro e w' ⟨rfl, rfl⟩
                rw [bt_get s k hlt]
                go_wp2_with fail
                go_ret
                exact ⟨ret_int (by rw [HV.out, HJ.out, if_neg (by omega)]), rfl⟩
       · have hst := varD_stop (s := s) (f := f0) (i := k) (fun h => absurd h hlt)
         have hj : varD s f0 f0 = k := by rw [← HC.out, hst]
         have HJ := lh hj
         clear hst hj
         by_cases hkf : k = f0
         · have hb1 : ((k : Int) == (f0 : Int)) = true := by simp [hkf]
           have HK := lh hkf
           clear hkf
           go_wp2_with fail
           go_ret
           exact ⟨ret_int (by rw [HV.out, HJ.out, if_neg (by have := HK.out; omega)]), rfl⟩
         · have hb1 : ((k : Int) == (f0 : Int)) = false := by simp; omega
           have HK := lh hkf
           clear hkf
           by_cases h20 : k - f0 ≤ 20
           · have hd20 : decide ((20 : Int) < (k : Int) - f0) = false := by simp; omega
             go_wp2_with fail
             go_ret
             exact ⟨ret_int (by rw [HV.out, HJ.out, if_pos ⟨by have := HK.out; omega, h20⟩]), rfl⟩
           · have hd20 : decide ((20 : Int) < (k : Int) - f0) = true := by simp; omega
             go_wp2_with fail
             go_ret
             exact ⟨ret_int (by rw [HV.out, HJ.out, if_neg (by omega)]), rfl⟩
    · have e0 : f0 = i0 + 1 := by rw [hf0, if_neg (by simp [tokD.hasQ, hl, h39])]
      have hb : (((s[i0 + 1]'hl).toNat : Int) == 39) = false := by rw [bt_get s (i0 + 1) hl]; simp; omega
      have HE := lh e0
      clear e0 hf0 h39 hv
      go_enter Tryz.func174, Tryz.ntmps174
      go_wp2_with fail
      simp only [show (i0 : Int) + 1 = (f0 : Int) from by rw [HE.out]; rfl]
      go_loop [1] (fun i => ∃ k : Nat, f0 ≤ k ∧ k ≤ s.size ∧ i = .int .i64 k ∧ varD s f0 k = varD s f0 f0) (fun i => s.size - (intOf i).toNat)
      case atStart => exact ⟨f0, Nat.le_refl _, hfs, rfl, rfl⟩
      case round =>
       obtain ⟨k, hfk, hk, rfl, hc⟩ := hrel
       have HC := lh hc
       clear hc
       have k0 : (0 : Int) ≤ (k : Int) := by omega
       by_cases hlt : k < s.size
       · have k1 : (k : Int) < (s.size : Int) := by omega
         cases hsm : small (bt s k) with
         | true =>
          have hst := varD_step (f := f0) hlt (by simp [hsm])
          have HST := lh hst
          clear hst
          go_wp2_with fail
          refine (small_any _ _).mono ?_
          rintro e w' ⟨rfl, rfl⟩
          rw [bt_get s k hlt]
          go_wp2_with fail
          go_round
          case rel => exact ⟨k + 1, by omega, by omega, by go_num, by rw [← HC.out, HST.out]⟩
          case measure => simp [intOf]; omega
         | false =>
          by_cases hff : f0 < k
          · have hd : decide ((f0 : Int) < (k : Int)) = true := by simp; omega
            cases hdg : dig (bt s k) with
            | true =>
             have hst := varD_step (f := f0) hlt (by simp [hsm, hdg, hff])
             have HST := lh hst
             clear hst
             go_wp2_with fail
             refine (small_any _ _).mono ?_
             rintro e w' ⟨rfl, rfl⟩
             rw [bt_get s k hlt]
             go_wp2_with fail
             refine (digit_any _ _).mono ?_
             rintro e w' ⟨rfl, rfl⟩
             rw [bt_get s k hlt]
             go_wp2_with fail
             go_round
             case rel => exact ⟨k + 1, by omega, by omega, by go_num, by rw [← HC.out, HST.out]⟩
             case measure => simp [intOf]; omega
            | false =>
             have hst := varD_stop (s := s) (f := f0) (i := k) (fun _ => by simp [hsm, hdg])
             have hj : varD s f0 f0 = k := by rw [← HC.out, hst]
             have HJ := lh hj
             clear hst hj
             by_cases hkf : k = f0
             · have hb1 : ((k : Int) == (f0 : Int)) = true := by simp [hkf]
               have HK := lh hkf
               clear hkf
               go_wp2_with fail
               refine (small_any _ _).mono ?_
               rintro e w' ⟨rfl, rfl⟩
               rw [bt_get s k hlt]
               go_wp2_with fail
               refine (digit_any _ _).mono ?_
               rintro e w' ⟨rfl, rfl⟩
               rw [bt_get s k hlt]
               go_wp2_with fail
               go_ret
               exact ⟨ret_int (by rw [HV.out, HJ.out, if_neg (by have := HK.out; omega)]), rfl⟩
             · have hb1 : ((k : Int) == (f0 : Int)) = false := by simp; omega
               have HK := lh hkf
               clear hkf
               by_cases h20 : k - f0 ≤ 20
               · have hd20 : decide ((20 : Int) < (k : Int) - f0) = false := by simp; omega
                 go_wp2_with fail
                 refine (small_any _ _).mono ?_
                 rintro e w' ⟨rfl, rfl⟩
                 rw [bt_get s k hlt]
                 go_wp2_with fail
                 refine (digit_any _ _).mono ?_
                 rintro e w' ⟨rfl, rfl⟩
                 rw [bt_get s k hlt]
                 go_wp2_with fail
                 go_ret
                 exact ⟨ret_int (by rw [HV.out, HJ.out, if_pos ⟨by have := HK.out; omega, h20⟩]), rfl⟩
               · have hd20 : decide ((20 : Int) < (k : Int) - f0) = true := by simp; omega
                 go_wp2_with fail
                 refine (small_any _ _).mono ?_
                 rintro e w' ⟨rfl, rfl⟩
                 rw [bt_get s k hlt]
                 go_wp2_with fail
                 refine (digit_any _ _).mono ?_
                 rintro e w' ⟨rfl, rfl⟩
                 rw [bt_get s k hlt]
                 go_wp2_with fail
                 go_ret
                 exact ⟨ret_int (by rw [HV.out, HJ.out, if_neg (by omega)]), rfl⟩
          · have hd : decide ((f0 : Int) < (k : Int)) = false := by simp; omega
            have hst := varD_stop (s := s) (f := f0) (i := k) (fun _ => by simp [hsm, hff])
            have hj : varD s f0 f0 = k := by rw [← HC.out, hst]
            have HJ := lh hj
            clear hst hj
            by_cases hkf : k = f0
            · have hb1 : ((k : Int) == (f0 : Int)) = true := by simp [hkf]
              have HK := lh hkf
              clear hkf
              go_wp2_with fail
              refine (small_any _ _).mono ?_
              rintro e w' ⟨rfl, rfl⟩
              rw [bt_get s k hlt]
              go_wp2_with fail
              go_ret
              exact ⟨ret_int (by rw [HV.out, HJ.out, if_neg (by have := HK.out; omega)]), rfl⟩
            · have hb1 : ((k : Int) == (f0 : Int)) = false := by simp; omega
              have HK := lh hkf
              clear hkf
              by_cases h20 : k - f0 ≤ 20
              · have hd20 : decide ((20 : Int) < (k : Int) - f0) = false := by simp; omega
                go_wp2_with fail
                refine (small_any _ _).mono ?_
                rintro e w' ⟨rfl, rfl⟩
                rw [bt_get s k hlt]
                go_wp2_with fail
                go_ret
                exact ⟨ret_int (by rw [HV.out, HJ.out, if_pos ⟨by have := HK.out; omega, h20⟩]), rfl⟩
              · have hd20 : decide ((20 : Int) < (k : Int) - f0) = true := by simp; omega
                go_wp2_with fail
                refine (small_any _ _).mono ?_
                rintro e w' ⟨rfl, rfl⟩
                rw [bt_get s k hlt]
                go_wp2_with fail
                go_ret
                exact ⟨ret_int (by rw [HV.out, HJ.out, if_neg (by omega)]), rfl⟩
       · have hst := varD_stop (s := s) (f := f0) (i := k) (fun h => absurd h hlt)
         have hj : varD s f0 f0 = k := by rw [← HC.out, hst]
         have HJ := lh hj
         clear hst hj
         by_cases hkf : k = f0
         · have hb1 : ((k : Int) == (f0 : Int)) = true := by simp [hkf]
           have HK := lh hkf
           clear hkf
           go_wp2_with fail
           go_ret
           exact ⟨ret_int (by rw [HV.out, HJ.out, if_neg (by have := HK.out; omega)]), rfl⟩
         · have hb1 : ((k : Int) == (f0 : Int)) = false := by simp; omega
           have HK := lh hkf
           clear hkf
           by_cases h20 : k - f0 ≤ 20
           · have hd20 : decide ((20 : Int) < (k : Int) - f0) = false := by simp; omega
             go_wp2_with fail
             go_ret
             exact ⟨ret_int (by rw [HV.out, HJ.out, if_pos ⟨by have := HK.out; omega, h20⟩]), rfl⟩
           · have hd20 : decide ((20 : Int) < (k : Int) - f0) = true := by simp; omega
             go_wp2_with fail
             go_ret
             exact ⟨ret_int (by rw [HV.out, HJ.out, if_neg (by omega)]), rfl⟩
  · have hl1 : ¬ (i0 : Int) + 1 < (s.size : Int) := by omega
    have e0 : f0 = i0 + 1 := by rw [hf0, if_neg (by simp [tokD.hasQ]; omega)]
    have HE := lh e0
    clear e0 hf0 hv
    go_enter Tryz.func174, Tryz.ntmps174
    go_wp2_with fail
    simp only [show (i0 : Int) + 1 = (f0 : Int) from by rw [HE.out]; rfl]
    go_loop [1] (fun i => ∃ k : Nat, f0 ≤ k ∧ k ≤ s.size ∧ i = .int .i64 k ∧ varD s f0 k = varD s f0 f0) (fun i => s.size - (intOf i).toNat)
    case atStart => exact ⟨f0, Nat.le_refl _, hfs, rfl, rfl⟩
    case round =>
     obtain ⟨k, hfk, hk, rfl, hc⟩ := hrel
     have HC := lh hc
     clear hc
     have k0 : (0 : Int) ≤ (k : Int) := by omega
     by_cases hlt : k < s.size
     · have k1 : (k : Int) < (s.size : Int) := by omega
       cases hsm : small (bt s k) with
       | true =>
        have hst := varD_step (f := f0) hlt (by simp [hsm])
        have HST := lh hst
        clear hst
        go_wp2_with fail
        refine (small_any _ _).mono ?_
        rintro e w' ⟨rfl, rfl⟩
        rw [bt_get s k hlt]
        go_wp2_with fail
        go_round
        case rel => exact ⟨k + 1, by omega, by omega, by go_num, by rw [← HC.out, HST.out]⟩
        case measure => simp [intOf]; omega
       | false =>
        by_cases hff : f0 < k
        · have hd : decide ((f0 : Int) < (k : Int)) = true := by simp; omega
          cases hdg : dig (bt s k) with
          | true =>
           have hst := varD_step (f := f0) hlt (by simp [hsm, hdg, hff])
           have HST := lh hst
           clear hst
           go_wp2_with fail
           refine (small_any _ _).mono ?_
           rintro e w' ⟨rfl, rfl⟩
           rw [bt_get s k hlt]
           go_wp2_with fail
           refine (digit_any _ _).mono ?_
           rintro e w' ⟨rfl, rfl⟩
           rw [bt_get s k hlt]
           go_wp2_with fail
           go_round
           case rel => exact ⟨k + 1, by omega, by omega, by go_num, by rw [← HC.out, HST.out]⟩
           case measure => simp [intOf]; omega
          | false =>
           have hst := varD_stop (s := s) (f := f0) (i := k) (fun _ => by simp [hsm, hdg])
           have hj : varD s f0 f0 = k := by rw [← HC.out, hst]
           have HJ := lh hj
           clear hst hj
           by_cases hkf : k = f0
           · have hb1 : ((k : Int) == (f0 : Int)) = true := by simp [hkf]
             have HK := lh hkf
             clear hkf
             go_wp2_with fail
             refine (small_any _ _).mono ?_
             rintro e w' ⟨rfl, rfl⟩
             rw [bt_get s k hlt]
             go_wp2_with fail
             refine (digit_any _ _).mono ?_
             rintro e w' ⟨rfl, rfl⟩
             rw [bt_get s k hlt]
             go_wp2_with fail
             go_ret
             exact ⟨ret_int (by rw [HV.out, HJ.out, if_neg (by have := HK.out; omega)]), rfl⟩
           · have hb1 : ((k : Int) == (f0 : Int)) = false := by simp; omega
             have HK := lh hkf
             clear hkf
             by_cases h20 : k - f0 ≤ 20
             · have hd20 : decide ((20 : Int) < (k : Int) - f0) = false := by simp; omega
               go_wp2_with fail
               refine (small_any _ _).mono ?_
               rintro e w' ⟨rfl, rfl⟩
               rw [bt_get s k hlt]
               go_wp2_with fail
               refine (digit_any _ _).mono ?_
               rintro e w' ⟨rfl, rfl⟩
               rw [bt_get s k hlt]
               go_wp2_with fail
               go_ret
               exact ⟨ret_int (by rw [HV.out, HJ.out, if_pos ⟨by have := HK.out; omega, h20⟩]), rfl⟩
             · have hd20 : decide ((20 : Int) < (k : Int) - f0) = true := by simp; omega
               go_wp2_with fail
               refine (small_any _ _).mono ?_
               rintro e w' ⟨rfl, rfl⟩
               rw [bt_get s k hlt]
               go_wp2_with fail
               refine (digit_any _ _).mono ?_
               rintro e w' ⟨rfl, rfl⟩
               rw [bt_get s k hlt]
               go_wp2_with fail
               go_ret
               exact ⟨ret_int (by rw [HV.out, HJ.out, if_neg (by omega)]), rfl⟩
        · have hd : decide ((f0 : Int) < (k : Int)) = false := by simp; omega
          have hst := varD_stop (s := s) (f := f0) (i := k) (fun _ => by simp [hsm, hff])
          have hj : varD s f0 f0 = k := by rw [← HC.out, hst]
          have HJ := lh hj
          clear hst hj
          by_cases hkf : k = f0
          · have hb1 : ((k : Int) == (f0 : Int)) = true := by simp [hkf]
            have HK := lh hkf
            clear hkf
            go_wp2_with fail
            refine (small_any _ _).mono ?_
            rintro e w' ⟨rfl, rfl⟩
            rw [bt_get s k hlt]
            go_wp2_with fail
            go_ret
            exact ⟨ret_int (by rw [HV.out, HJ.out, if_neg (by have := HK.out; omega)]), rfl⟩
          · have hb1 : ((k : Int) == (f0 : Int)) = false := by simp; omega
            have HK := lh hkf
            clear hkf
            by_cases h20 : k - f0 ≤ 20
            · have hd20 : decide ((20 : Int) < (k : Int) - f0) = false := by simp; omega
              go_wp2_with fail
              refine (small_any _ _).mono ?_
              rintro e w' ⟨rfl, rfl⟩
              rw [bt_get s k hlt]
              go_wp2_with fail
              go_ret
              exact ⟨ret_int (by rw [HV.out, HJ.out, if_pos ⟨by have := HK.out; omega, h20⟩]), rfl⟩
            · have hd20 : decide ((20 : Int) < (k : Int) - f0) = true := by simp; omega
              go_wp2_with fail
              refine (small_any _ _).mono ?_
              rintro e w' ⟨rfl, rfl⟩
              rw [bt_get s k hlt]
              go_wp2_with fail
              go_ret
              exact ⟨ret_int (by rw [HV.out, HJ.out, if_neg (by omega)]), rfl⟩
     · have hst := varD_stop (s := s) (f := f0) (i := k) (fun h => absurd h hlt)
       have hj : varD s f0 f0 = k := by rw [← HC.out, hst]
       have HJ := lh hj
       clear hst hj
       by_cases hkf : k = f0
       · have hb1 : ((k : Int) == (f0 : Int)) = true := by simp [hkf]
         have HK := lh hkf
         clear hkf
         go_wp2_with fail
         go_ret
         exact ⟨ret_int (by rw [HV.out, HJ.out, if_neg (by have := HK.out; omega)]), rfl⟩
       · have hb1 : ((k : Int) == (f0 : Int)) = false := by simp; omega
         have HK := lh hkf
         clear hkf
         by_cases h20 : k - f0 ≤ 20
         · have hd20 : decide ((20 : Int) < (k : Int) - f0) = false := by simp; omega
           go_wp2_with fail
           go_ret
           exact ⟨ret_int (by rw [HV.out, HJ.out, if_pos ⟨by have := HK.out; omega, h20⟩]), rfl⟩
         · have hd20 : decide ((20 : Int) < (k : Int) - f0) = true := by simp; omega
           go_wp2_with fail
           go_ret
           exact ⟨ret_int (by rw [HV.out, HJ.out, if_neg (by omega)]), rfl⟩
 exact hpre
def wordB : List ByteArray := [⟨#[97, 110, 100]⟩, ⟨#[97, 110, 100, 97, 108, 115, 111]⟩, ⟨#[97, 115]⟩, ⟨#[99, 97, 115, 101]⟩, ⟨#[100, 97, 116, 97]⟩, ⟨#[101, 108, 115, 101]⟩, ⟨#[101, 110, 100]⟩, ⟨#[101, 120, 99, 101, 112, 116, 105, 111, 110]⟩, ⟨#[102, 97, 108, 115, 101]⟩, ⟨#[102, 110]⟩, ⟨#[102, 117, 110]⟩, ⟨#[105, 102]⟩, ⟨#[105, 110]⟩, ⟨#[108, 101, 116]⟩, ⟨#[111, 102]⟩, ⟨#[111, 112, 101, 110]⟩, ⟨#[111, 114, 101, 108, 115, 101]⟩, ⟨#[114, 97, 105, 115, 101]⟩, ⟨#[115, 105, 103]⟩, ⟨#[115, 105, 103, 110, 97, 116, 117, 114, 101]⟩, ⟨#[115, 116, 114, 117, 99, 116]⟩, ⟨#[115, 116, 114, 117, 99, 116, 117, 114, 101]⟩, ⟨#[116, 104, 101, 110]⟩, ⟨#[116, 114, 117, 101]⟩, ⟨#[116, 114, 121]⟩, ⟨#[116, 121, 112, 101]⟩, ⟨#[118, 97, 108]⟩, ⟨#[119, 105, 116, 104]⟩]
def signB : List ByteArray := [⟨#[61, 62]⟩, ⟨#[45, 62]⟩, ⟨#[58, 61]⟩, ⟨#[58, 58]⟩, ⟨#[58, 62]⟩, ⟨#[60, 62]⟩, ⟨#[60, 61]⟩, ⟨#[62, 61]⟩, ⟨#[40]⟩, ⟨#[41]⟩, ⟨#[91]⟩, ⟨#[93]⟩, ⟨#[44]⟩, ⟨#[59]⟩, ⟨#[58]⟩, ⟨#[124]⟩, ⟨#[61]⟩, ⟨#[60]⟩, ⟨#[62]⟩, ⟨#[43]⟩, ⟨#[45]⟩, ⟨#[42]⟩, ⟨#[47]⟩, ⟨#[37]⟩, ⟨#[94]⟩, ⟨#[126]⟩, ⟨#[33]⟩, ⟨#[46]⟩]
abbrev wordV : Array Value := #[.string ⟨#[97, 110, 100]⟩, .string ⟨#[97, 110, 100, 97, 108, 115, 111]⟩, .string ⟨#[97, 115]⟩, .string ⟨#[99, 97, 115, 101]⟩, .string ⟨#[100, 97, 116, 97]⟩, .string ⟨#[101, 108, 115, 101]⟩, .string ⟨#[101, 110, 100]⟩, .string ⟨#[101, 120, 99, 101, 112, 116, 105, 111, 110]⟩, .string ⟨#[102, 97, 108, 115, 101]⟩, .string ⟨#[102, 110]⟩, .string ⟨#[102, 117, 110]⟩, .string ⟨#[105, 102]⟩, .string ⟨#[105, 110]⟩, .string ⟨#[108, 101, 116]⟩, .string ⟨#[111, 102]⟩, .string ⟨#[111, 112, 101, 110]⟩, .string ⟨#[111, 114, 101, 108, 115, 101]⟩, .string ⟨#[114, 97, 105, 115, 101]⟩, .string ⟨#[115, 105, 103]⟩, .string ⟨#[115, 105, 103, 110, 97, 116, 117, 114, 101]⟩, .string ⟨#[115, 116, 114, 117, 99, 116]⟩, .string ⟨#[115, 116, 114, 117, 99, 116, 117, 114, 101]⟩, .string ⟨#[116, 104, 101, 110]⟩, .string ⟨#[116, 114, 117, 101]⟩, .string ⟨#[116, 114, 121]⟩, .string ⟨#[116, 121, 112, 101]⟩, .string ⟨#[118, 97, 108]⟩, .string ⟨#[119, 105, 116, 104]⟩]
abbrev signV : Array Value := #[.string ⟨#[61, 62]⟩, .string ⟨#[45, 62]⟩, .string ⟨#[58, 61]⟩, .string ⟨#[58, 58]⟩, .string ⟨#[58, 62]⟩, .string ⟨#[60, 62]⟩, .string ⟨#[60, 61]⟩, .string ⟨#[62, 61]⟩, .string ⟨#[40]⟩, .string ⟨#[41]⟩, .string ⟨#[91]⟩, .string ⟨#[93]⟩, .string ⟨#[44]⟩, .string ⟨#[59]⟩, .string ⟨#[58]⟩, .string ⟨#[124]⟩, .string ⟨#[61]⟩, .string ⟨#[60]⟩, .string ⟨#[62]⟩, .string ⟨#[43]⟩, .string ⟨#[45]⟩, .string ⟨#[42]⟩, .string ⟨#[47]⟩, .string ⟨#[37]⟩, .string ⟨#[94]⟩, .string ⟨#[126]⟩, .string ⟨#[33]⟩, .string ⟨#[46]⟩]
theorem words_any (w : World) : Calls Tryz.prog 178 #[] w fun e w' => e = .returned (.slice (some ⟨w.heap.size, 0, none⟩) 28 28) ∧ w' = w.alloc (.cells wordV 9) := by
 go_enter Tryz.func178, Tryz.ntmps178
 go_wp2
 go_ret
 exact ⟨rfl, rfl⟩
theorem signs_any (w : World) : Calls Tryz.prog 179 #[] w fun e w' => e = .returned (.slice (some ⟨w.heap.size, 0, none⟩) 28 28) ∧ w' = w.alloc (.cells signV 9) := by
 go_enter Tryz.func179, Tryz.ntmps179
 go_wp2
 go_ret
 exact ⟨rfl, rfl⟩
/-- a list of strings lies at a block -/
def StrsAt (w : World) (b : Nat) (l : List ByteArray) : Prop := ∀ k, k < l.length → w.cell? ⟨b, k, none⟩ = some (.string (l.getD k ByteArray.empty))
theorem strs_new (w : World) (l : List ByteArray) (c : Array Value) (t : TypeId) (h : c = (l.map Value.string).toArray) : StrsAt (w.alloc (.cells c t)) w.heap.size l := by
 subst h
 intro k hk
 rw [blk_cell (heap_alloc_new w _)]
 simp [hk]
theorem words_at (w : World) : StrsAt (w.alloc (.cells wordV 9)) w.heap.size wordB := strs_new w _ _ _ rfl
theorem signs_at (w : World) : StrsAt (w.alloc (.cells signV 9)) w.heap.size signB := strs_new w _ _ _ rfl
def amongD (l : List ByteArray) (s : ByteArray) : Bool := l.any fun x => decide (x = s)
theorem amongD_drop (l : List ByteArray) (s : ByteArray) (k : Nat) (h : k < l.length) : amongD (l.drop k) s = (decide (l.getD k ByteArray.empty = s) || amongD (l.drop (k + 1)) s) := by
 rw [List.drop_eq_getElem_cons h]
 have e : l.getD k ByteArray.empty = l[k] := by rw [List.getD_eq_getElem?_getD, List.getElem?_eq_getElem h]; rfl
 rw [e]
 rfl
theorem among_any (l : List ByteArray) (b : Nat) (s : ByteArray) (w : World) (hl : StrsAt w b l) (hn : l.length ≤ 4000) :
 Calls Tryz.prog 143 #[.slice (some ⟨b, 0, none⟩) l.length l.length, .string s] w fun e w' => e = .returned (.bool (amongD l s)) ∧ w = w' := by
 have HL := lh hl
 clear hl
 go_enter Tryz.func143, Tryz.ntmps143
 go_wp2_with fail
 go_loop [5] (fun i => ∃ k : Nat, k ≤ l.length ∧ i = .int .i64 k ∧ amongD (l.drop k) s = amongD l s) (fun i => l.length - (intOf i).toNat)
 case atStart => exact ⟨0, Nat.zero_le _, rfl, rfl⟩
 case round =>
  obtain ⟨k, hk, rfl, hc⟩ := hrel
  have HC := lh hc
  clear hc
  by_cases hlt : k < l.length
  · have k0 : (0 : Int) ≤ (k : Int) := by omega
    have k1 : (k : Int) < (l.length : Int) := by omega
    have hcell := HL.out k hlt
    have hst := amongD_drop l s k hlt
    generalize l.getD k ByteArray.empty = x at hcell hst
    have HST := lh hst
    clear hst
    cases hx : decide (x = s) with
    | true =>
     have hb : (x.toList == s.toList) = true := by rw [str_eq, hx]
     have HX := lh hx
     clear hx
     go_wp2_with fail
     go_ret
     exact ⟨ret_bool (by rw [← HC.out, HST.out, HX.out]; rfl), rfl⟩
    | false =>
     have hb : (x.toList == s.toList) = false := by rw [str_eq, hx]
     have HX := lh hx
     clear hx
     go_wp2_with fail
     go_round
     case rel => exact ⟨k + 1, by omega, by go_num, by rw [← HC.out, HST.out, HX.out]; rfl⟩
     case measure => simp [intOf]; omega
  · obtain rfl : k = l.length := by omega
    go_wp2_with fail
    go_ret
    exact ⟨ret_bool (by rw [← HC.out, List.drop_length]; rfl), rfl⟩
end Go.Proofs.YthehjeeiodbkjaaGreatDoor
