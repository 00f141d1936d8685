/-
  Proved: the contracts of the reference's name, variable, Among, words, signs. Conditions: a text of at most 4000 bytes.
-/
import Derived.Test.YtbfeailcebfklaaDoorL2
import Derived.Deep.DeepCutAuto
import Derived.Deep.CutBlock
set_option linter.unusedSimpArgs false
set_option linter.unusedVariables false
namespace Go.Proofs.YtbfeailcebfklaaDoor
open Go.RowKit

set_option maxHeartbeats 1000000 in
theorem name_any (s : ByteArray) (i0 : Nat) (w : World) (hs : s.size ≤ 4000) (hi : i0 ≤ s.size) :
    Calls Tryd.prog 30 #[.string s, .int .i64 i0] w fun e w' => e = .returned (.int .i64 (whD s inName i0)) ∧ w = w' := by
  go_enter Tryd.func30, Tryd.ntmps30
  go_wp2_with fail
  go_loop [1] (fun i => ∃ k : Nat, k ≤ s.size ∧ i = .int .i64 k ∧ whD s inName k = whD s inName i0) (fun i => s.size - (intOf i).toNat)
  case atStart => exact ⟨i0, hi, rfl, rfl⟩
  case round =>
    obtain ⟨k, hk, rfl, hc⟩ := hrel
    have HC := Lib.hid hc
    clear hc
    have k0 : (0 : Int) ≤ (k : Int) := by omega
    by_cases hlt : k < s.size
    · have k1 : (k : Int) < (s.size : Int) := by omega
      cases hb : inName (bt s k) with
      | true =>
        have hst := whD_step hlt hb
        have HST := Lib.hid hst
        clear hst
        go_wp2_with fail
        refine (inName_any _ _).mono ?_
        rintro e w' ⟨rfl, rfl⟩
        rw [bt_get s k hlt]
        go_wp2_with fail
        go_round
        case rel => exact ⟨k + 1, by omega, by go_num, by rw [← HC.out, HST.out]⟩
        case measure => simp [intOf]; omega
      | false =>
        have hst := whD_stop hlt hb
        have HST := Lib.hid hst
        clear hst
        go_wp2_with fail
        refine (inName_any _ _).mono ?_
        rintro e w' ⟨rfl, rfl⟩
        rw [bt_get s k hlt]
        go_wp2_with fail
        go_ret
        exact ⟨ret_int (by rw [← HC.out, HST.out]), rfl⟩
    · have hst := whD_end (s := s) (p := inName) (i := k) (by omega)
      have HST := Lib.hid hst
      clear hst
      go_wp2_with fail
      go_ret
      exact ⟨ret_int (by rw [← HC.out, HST.out]), rfl⟩

/-- where a type variable's name begins -/
def vfD (s : ByteArray) (i : Nat) : Nat := if tokD.hasQ s (i + 1) then i + 2 else i + 1
/-- the place behind a type variable; -1: it is none -/
def varI (s : ByteArray) (i : Nat) : Int := if vfD s i < varD s (vfD s i) (vfD s i) ∧ varD s (vfD s i) (vfD s i) - vfD s i ≤ 20 then varD s (vfD s i) (vfD s i) else -1
set_option maxHeartbeats 2000000 in
theorem rvariable_any (s : ByteArray) (i0 : Nat) (w : World) (hs : s.size ≤ 4000) (hi : i0 < s.size) :
    Calls Tryd.prog 27 #[.string s, .int .i64 i0] w fun e w' => e = .returned (.int .i64 (varI s i0)) ∧ w = w' := by
  obtain ⟨f0, hf0⟩ : ∃ f0, f0 = vfD s i0 := ⟨_, rfl⟩
  have hfs : f0 ≤ s.size ∧ i0 < f0 := by
    rw [hf0]; unfold vfD
    split
    · rename_i h; simp [tokD.hasQ] at h; omega
    · omega
  obtain ⟨hfs, hfi⟩ := hfs
  have hv : varI s i0 = if f0 < varD s f0 f0 ∧ varD s f0 f0 - f0 ≤ 20 then (varD s f0 f0 : Int) else -1 := by unfold varI; rw [hf0]
  have HV := Lib.hid hv
  have hpre : Calls Tryd.prog 27 #[.string s, .int .i64 i0] w fun e w' => e = .returned (.int .i64 (varI s i0)) ∧ w = w' := by
    have hq0 : (0 : Int) ≤ (i0 : Int) + 1 := by omega
    have hqn : ((i0 : Int) + 1).toNat = i0 + 1 := by omega
    unfold vfD at hf0
    by_cases hl : i0 + 1 < s.size
    · have hl1 : (i0 : Int) + 1 < (s.size : Int) := by omega
      by_cases h39 : bt s (i0 + 1) = 39
      · have e0 : f0 = i0 + 2 := by rw [hf0, if_pos (by simp [tokD.hasQ, hl, h39])]
        have hb : (((s[i0 + 1]'hl).toNat : Int) == 39) = true := by rw [bt_get s (i0 + 1) hl, h39]; rfl
        have HE := Lib.hid e0
        clear e0 hf0 h39 hv
        go_enter Tryd.func27, Tryd.ntmps27
        go_wp2_with fail
        rw [show (i0 : Int) + 1 + 1 = (f0 : Int) from by rw [HE.out]; push_cast; omega]
        go_loop [1] (fun i => ∃ k : Nat, f0 ≤ k ∧ k ≤ s.size ∧ i = .int .i64 k ∧ varD s f0 k = varD s f0 f0) (fun i => s.size - (intOf i).toNat)
        case atStart => exact ⟨f0, Nat.le_refl _, hfs, rfl, rfl⟩
        case round =>
          obtain ⟨k, hfk, hk, rfl, hc⟩ := hrel
          have HC := Lib.hid hc
          clear hc
          have k0 : (0 : Int) ≤ (k : Int) := by omega
          by_cases hlt : k < s.size
          · have k1 : (k : Int) < (s.size : Int) := by omega
            cases hsm : small (bt s k) with
            | true =>
              have hst := varD_step (f := f0) hlt (by simp [hsm])
              have HST := Lib.hid hst
              clear hst
              go_wp2_with fail
              refine (small_any _ _).mono ?_
              rintro e w' ⟨rfl, rfl⟩
              rw [bt_get s k hlt]
              go_wp2_with fail
              go_round
              case rel => exact ⟨k + 1, by omega, by omega, by go_num, by rw [← HC.out, HST.out]⟩
              case measure => simp [intOf]; omega
            | false =>
              by_cases hff : f0 < k
              · have hd : decide ((f0 : Int) < (k : Int)) = true := by simp; omega
                cases hdg : dig (bt s k) with
                | true =>
                  have hst := varD_step (f := f0) hlt (by simp [hsm, hdg, hff])
                  have HST := Lib.hid hst
                  clear hst
                  go_wp2_with fail
                  refine (small_any _ _).mono ?_
                  rintro e w' ⟨rfl, rfl⟩
                  rw [bt_get s k hlt]
                  go_wp2_with fail
                  refine (digit_any _ _).mono ?_
                  rintro e w' ⟨rfl, rfl⟩
                  rw [bt_get s k hlt]
                  go_wp2_with fail
                  go_round
                  case rel => exact ⟨k + 1, by omega, by omega, by go_num, by rw [← HC.out, HST.out]⟩
                  case measure => simp [intOf]; omega
                | false =>
                  have hst := varD_stop (s := s) (f := f0) (i := k) (fun _ => by simp [hsm, hdg])
                  have hj : varD s f0 f0 = k := by rw [← HC.out, hst]
                  have HJ := Lib.hid hj
                  clear hst hj
                  by_cases hkf : k = f0
                  · have hb1 : ((k : Int) == (f0 : Int)) = true := by simp [hkf]
                    have HK := Lib.hid hkf
                    clear hkf
                    go_wp2_with fail
                    refine (small_any _ _).mono ?_
                    rintro e w' ⟨rfl, rfl⟩
                    rw [bt_get s k hlt]
                    go_wp2_with fail
                    refine (digit_any _ _).mono ?_
                    rintro e w' ⟨rfl, rfl⟩
                    rw [bt_get s k hlt]
                    go_wp2_with fail
                    go_ret
                    exact ⟨ret_int (by rw [HV.out, HJ.out, if_neg (by have := HK.out; omega)]), rfl⟩
                  · have hb1 : ((k : Int) == (f0 : Int)) = false := by simp; omega
                    have HK := Lib.hid hkf
                    clear hkf
                    by_cases h20 : k - f0 ≤ 20
                    · have hd20 : decide ((20 : Int) < (k : Int) - f0) = false := by simp; omega
                      go_wp2_with fail
                      refine (small_any _ _).mono ?_
                      rintro e w' ⟨rfl, rfl⟩
                      rw [bt_get s k hlt]
                      go_wp2_with fail
                      refine (digit_any _ _).mono ?_
                      rintro e w' ⟨rfl, rfl⟩
                      rw [bt_get s k hlt]
                      go_wp2_with fail
                      go_ret
                      exact ⟨ret_int (by rw [HV.out, HJ.out, if_pos ⟨by have := HK.out; omega, h20⟩]), rfl⟩
                    · have hd20 : decide ((20 : Int) < (k : Int) - f0) = true := by simp; omega
                      go_wp2_with fail
                      refine (small_any _ _).mono ?_
                      rintro e w' ⟨rfl, rfl⟩
                      rw [bt_get s k hlt]
                      go_wp2_with fail
                      refine (digit_any _ _).mono ?_
                      rintro e w' ⟨rfl, rfl⟩
                      rw [bt_get s k hlt]
                      go_wp2_with fail
                      go_ret
                      exact ⟨ret_int (by rw [HV.out, HJ.out, if_neg (by omega)]), rfl⟩
              · have hd : decide ((f0 : Int) < (k : Int)) = false := by simp; omega
                have hst := varD_stop (s := s) (f := f0) (i := k) (fun _ => by simp [hsm, hff])
                have hj : varD s f0 f0 = k := by rw [← HC.out, hst]
                have HJ := Lib.hid hj
                clear hst hj
                by_cases hkf : k = f0
                · have hb1 : ((k : Int) == (f0 : Int)) = true := by simp [hkf]
                  have HK := Lib.hid hkf
                  clear hkf
                  go_wp2_with fail
                  refine (small_any _ _).mono ?_
                  rintro e w' ⟨rfl, rfl⟩
                  rw [bt_get s k hlt]
                  go_wp2_with fail
                  go_ret
                  exact ⟨ret_int (by rw [HV.out, HJ.out, if_neg (by have := HK.out; omega)]), rfl⟩
                · have hb1 : ((k : Int) == (f0 : Int)) = false := by simp; omega
                  have HK := Lib.hid hkf
                  clear hkf
                  by_cases h20 : k - f0 ≤ 20
                  · have hd20 : decide ((20 : Int) < (k : Int) - f0) = false := by simp; omega
                    go_wp2_with fail
                    refine (small_any _ _).mono ?_
                    rintro e w' ⟨rfl, rfl⟩
                    rw [bt_get s k hlt]
                    go_wp2_with fail
                    go_ret
                    exact ⟨ret_int (by rw [HV.out, HJ.out, if_pos ⟨by have := HK.out; omega, h20⟩]), rfl⟩
                  · have hd20 : decide ((20 : Int) < (k : Int) - f0) = true := by simp; omega
                    go_wp2_with fail
                    refine (small_any _ _).mono ?_
                    rintro e w' ⟨rfl, rfl⟩
                    rw [bt_get s k hlt]
                    go_wp2_with fail
                    go_ret
                    exact ⟨ret_int (by rw [HV.out, HJ.out, if_neg (by omega)]), rfl⟩
          · have hst := varD_stop (s := s) (f := f0) (i := k) (fun h => absurd h hlt)
            have hj : varD s f0 f0 = k := by rw [← HC.out, hst]
            have HJ := Lib.hid hj
            clear hst hj
            by_cases hkf : k = f0
            · have hb1 : ((k : Int) == (f0 : Int)) = true := by simp [hkf]
              have HK := Lib.hid hkf
              clear hkf
              go_wp2_with fail
              go_ret
              exact ⟨ret_int (by rw [HV.out, HJ.out, if_neg (by have := HK.out; omega)]), rfl⟩
            · have hb1 : ((k : Int) == (f0 : Int)) = false := by simp; omega
              have HK := Lib.hid hkf
              clear hkf
              by_cases h20 : k - f0 ≤ 20
              · have hd20 : decide ((20 : Int) < (k : Int) - f0) = false := by simp; omega
                go_wp2_with fail
                go_ret
                exact ⟨ret_int (by rw [HV.out, HJ.out, if_pos ⟨by have := HK.out; omega, h20⟩]), rfl⟩
              · have hd20 : decide ((20 : Int) < (k : Int) - f0) = true := by simp; omega
                go_wp2_with fail
                go_ret
                exact ⟨ret_int (by rw [HV.out, HJ.out, if_neg (by omega)]), rfl⟩
      · have e0 : f0 = i0 + 1 := by rw [hf0, if_neg (by simp [tokD.hasQ, hl, h39])]
        have hb : (((s[i0 + 1]'hl).toNat : Int) == 39) = false := by rw [bt_get s (i0 + 1) hl]; simp; omega
        have HE := Lib.hid e0
        clear e0 hf0 h39 hv
        go_enter Tryd.func27, Tryd.ntmps27
        go_wp2_with fail
        simp only [show (i0 : Int) + 1 = (f0 : Int) from by rw [HE.out]; rfl]
        go_loop [1] (fun i => ∃ k : Nat, f0 ≤ k ∧ k ≤ s.size ∧ i = .int .i64 k ∧ varD s f0 k = varD s f0 f0) (fun i => s.size - (intOf i).toNat)
        case atStart => exact ⟨f0, Nat.le_refl _, hfs, rfl, rfl⟩
        case round =>
          obtain ⟨k, hfk, hk, rfl, hc⟩ := hrel
          have HC := Lib.hid hc
          clear hc
          have k0 : (0 : Int) ≤ (k : Int) := by omega
          by_cases hlt : k < s.size
          · have k1 : (k : Int) < (s.size : Int) := by omega
            cases hsm : small (bt s k) with
            | true =>
              have hst := varD_step (f := f0) hlt (by simp [hsm])
              have HST := Lib.hid hst
              clear hst
              go_wp2_with fail
              refine (small_any _ _).mono ?_
              rintro e w' ⟨rfl, rfl⟩
              rw [bt_get s k hlt]
              go_wp2_with fail
              go_round
              case rel => exact ⟨k + 1, by omega, by omega, by go_num, by rw [← HC.out, HST.out]⟩
              case measure => simp [intOf]; omega
            | false =>
              by_cases hff : f0 < k
              · have hd : decide ((f0 : Int) < (k : Int)) = true := by simp; omega
                cases hdg : dig (bt s k) with
                | true =>
                  have hst := varD_step (f := f0) hlt (by simp [hsm, hdg, hff])
                  have HST := Lib.hid hst
                  clear hst
                  go_wp2_with fail
                  refine (small_any _ _).mono ?_
                  rintro e w' ⟨rfl, rfl⟩
                  rw [bt_get s k hlt]
                  go_wp2_with fail
                  refine (digit_any _ _).mono ?_
                  rintro e w' ⟨rfl, rfl⟩
                  rw [bt_get s k hlt]
                  go_wp2_with fail
                  go_round
                  case rel => exact ⟨k + 1, by omega, by omega, by go_num, by rw [← HC.out, HST.out]⟩
                  case measure => simp [intOf]; omega
                | false =>
                  have hst := varD_stop (s := s) (f := f0) (i := k) (fun _ => by simp [hsm, hdg])
                  have hj : varD s f0 f0 = k := by rw [← HC.out, hst]
                  have HJ := Lib.hid hj
                  clear hst hj
                  by_cases hkf : k = f0
                  · have hb1 : ((k : Int) == (f0 : Int)) = true := by simp [hkf]
                    have HK := Lib.hid hkf
                    clear hkf
                    go_wp2_with fail
                    refine (small_any _ _).mono ?_
                    rintro e w' ⟨rfl, rfl⟩
                    rw [bt_get s k hlt]
                    go_wp2_with fail
                    refine (digit_any _ _).mono ?_
                    rintro e w' ⟨rfl, rfl⟩
                    rw [bt_get s k hlt]
                    go_wp2_with fail
                    go_ret
                    exact ⟨ret_int (by rw [HV.out, HJ.out, if_neg (by have := HK.out; omega)]), rfl⟩
                  · have hb1 : ((k : Int) == (f0 : Int)) = false := by simp; omega
                    have HK := Lib.hid hkf
                    clear hkf
                    by_cases h20 : k - f0 ≤ 20
                    · have hd20 : decide ((20 : Int) < (k : Int) - f0) = false := by simp; omega
                      go_wp2_with fail
                      refine (small_any _ _).mono ?_
                      rintro e w' ⟨rfl, rfl⟩
                      rw [bt_get s k hlt]
                      go_wp2_with fail
                      refine (digit_any _ _).mono ?_
                      rintro e w' ⟨rfl, rfl⟩
                      rw [bt_get s k hlt]
                      go_wp2_with fail
                      go_ret
                      exact ⟨ret_int (by rw [HV.out, HJ.out, if_pos ⟨by have := HK.out; omega, h20⟩]), rfl⟩
                    · have hd20 : decide ((20 : Int) < (k : Int) - f0) = true := by simp; omega
                      go_wp2_with fail
                      refine (small_any _ _).mono ?_
                      rintro e w' ⟨rfl, rfl⟩
                      rw [bt_get s k hlt]
                      go_wp2_with fail
                      refine (digit_any _ _).mono ?_
                      rintro e w' ⟨rfl, rfl⟩
                      rw [bt_get s k hlt]
                      go_wp2_with fail
                      go_ret
                      exact ⟨ret_int (by rw [HV.out, HJ.out, if_neg (by omega)]), rfl⟩
              · have hd : decide ((f0 : Int) < (k : Int)) = false := by simp; omega
                have hst := varD_stop (s := s) (f := f0) (i := k) (fun _ => by simp [hsm, hff])
                have hj : varD s f0 f0 = k := by rw [← HC.out, hst]
                have HJ := Lib.hid hj
                clear hst hj
                by_cases hkf : k = f0
                · have hb1 : ((k : Int) == (f0 : Int)) = true := by simp [hkf]
                  have HK := Lib.hid hkf
                  clear hkf
                  go_wp2_with fail
                  refine (small_any _ _).mono ?_
                  rintro e w' ⟨rfl, rfl⟩
                  rw [bt_get s k hlt]
                  go_wp2_with fail
                  go_ret
                  exact ⟨ret_int (by rw [HV.out, HJ.out, if_neg (by have := HK.out; omega)]), rfl⟩
                · have hb1 : ((k : Int) == (f0 : Int)) = false := by simp; omega
                  have HK := Lib.hid hkf
                  clear hkf
                  by_cases h20 : k - f0 ≤ 20
                  · have hd20 : decide ((20 : Int) < (k : Int) - f0) = false := by simp; omega
                    go_wp2_with fail
                    refine (small_any _ _).mono ?_
                    rintro e w' ⟨rfl, rfl⟩
                    rw [bt_get s k hlt]
                    go_wp2_with fail
                    go_ret
                    exact ⟨ret_int (by rw [HV.out, HJ.out, if_pos ⟨by have := HK.out; omega, h20⟩]), rfl⟩
                  · have hd20 : decide ((20 : Int) < (k : Int) - f0) = true := by simp; omega
                    go_wp2_with fail
                    refine (small_any _ _).mono ?_
                    rintro e w' ⟨rfl, rfl⟩
                    rw [bt_get s k hlt]
                    go_wp2_with fail
                    go_ret
                    exact ⟨ret_int (by rw [HV.out, HJ.out, if_neg (by omega)]), rfl⟩
          · have hst := varD_stop (s := s) (f := f0) (i := k) (fun h => absurd h hlt)
            have hj : varD s f0 f0 = k := by rw [← HC.out, hst]
            have HJ := Lib.hid hj
            clear hst hj
            by_cases hkf : k = f0
            · have hb1 : ((k : Int) == (f0 : Int)) = true := by simp [hkf]
              have HK := Lib.hid hkf
              clear hkf
              go_wp2_with fail
              go_ret
              exact ⟨ret_int (by rw [HV.out, HJ.out, if_neg (by have := HK.out; omega)]), rfl⟩
            · have hb1 : ((k : Int) == (f0 : Int)) = false := by simp; omega
              have HK := Lib.hid hkf
              clear hkf
              by_cases h20 : k - f0 ≤ 20
              · have hd20 : decide ((20 : Int) < (k : Int) - f0) = false := by simp; omega
                go_wp2_with fail
                go_ret
                exact ⟨ret_int (by rw [HV.out, HJ.out, if_pos ⟨by have := HK.out; omega, h20⟩]), rfl⟩
              · have hd20 : decide ((20 : Int) < (k : Int) - f0) = true := by simp; omega
                go_wp2_with fail
                go_ret
                exact ⟨ret_int (by rw [HV.out, HJ.out, if_neg (by omega)]), rfl⟩
    · have hl1 : ¬ (i0 : Int) + 1 < (s.size : Int) := by omega
      have e0 : f0 = i0 + 1 := by rw [hf0, if_neg (by simp [tokD.hasQ]; omega)]
      have HE := Lib.hid e0
      clear e0 hf0 hv
      go_enter Tryd.func27, Tryd.ntmps27
      go_wp2_with fail
      simp only [show (i0 : Int) + 1 = (f0 : Int) from by rw [HE.out]; rfl]
      go_loop [1] (fun i => ∃ k : Nat, f0 ≤ k ∧ k ≤ s.size ∧ i = .int .i64 k ∧ varD s f0 k = varD s f0 f0) (fun i => s.size - (intOf i).toNat)
      case atStart => exact ⟨f0, Nat.le_refl _, hfs, rfl, rfl⟩
      case round =>
        obtain ⟨k, hfk, hk, rfl, hc⟩ := hrel
        have HC := Lib.hid hc
        clear hc
        have k0 : (0 : Int) ≤ (k : Int) := by omega
        by_cases hlt : k < s.size
        · have k1 : (k : Int) < (s.size : Int) := by omega
          cases hsm : small (bt s k) with
          | true =>
            have hst := varD_step (f := f0) hlt (by simp [hsm])
            have HST := Lib.hid hst
            clear hst
            go_wp2_with fail
            refine (small_any _ _).mono ?_
            rintro e w' ⟨rfl, rfl⟩
            rw [bt_get s k hlt]
            go_wp2_with fail
            go_round
            case rel => exact ⟨k + 1, by omega, by omega, by go_num, by rw [← HC.out, HST.out]⟩
            case measure => simp [intOf]; omega
          | false =>
            by_cases hff : f0 < k
            · have hd : decide ((f0 : Int) < (k : Int)) = true := by simp; omega
              cases hdg : dig (bt s k) with
              | true =>
                have hst := varD_step (f := f0) hlt (by simp [hsm, hdg, hff])
                have HST := Lib.hid hst
                clear hst
                go_wp2_with fail
                refine (small_any _ _).mono ?_
                rintro e w' ⟨rfl, rfl⟩
                rw [bt_get s k hlt]
                go_wp2_with fail
                refine (digit_any _ _).mono ?_
                rintro e w' ⟨rfl, rfl⟩
                rw [bt_get s k hlt]
                go_wp2_with fail
                go_round
                case rel => exact ⟨k + 1, by omega, by omega, by go_num, by rw [← HC.out, HST.out]⟩
                case measure => simp [intOf]; omega
              | false =>
                have hst := varD_stop (s := s) (f := f0) (i := k) (fun _ => by simp [hsm, hdg])
                have hj : varD s f0 f0 = k := by rw [← HC.out, hst]
                have HJ := Lib.hid hj
                clear hst hj
                by_cases hkf : k = f0
                · have hb1 : ((k : Int) == (f0 : Int)) = true := by simp [hkf]
                  have HK := Lib.hid hkf
                  clear hkf
                  go_wp2_with fail
                  refine (small_any _ _).mono ?_
                  rintro e w' ⟨rfl, rfl⟩
                  rw [bt_get s k hlt]
                  go_wp2_with fail
                  refine (digit_any _ _).mono ?_
                  rintro e w' ⟨rfl, rfl⟩
                  rw [bt_get s k hlt]
                  go_wp2_with fail
                  go_ret
                  exact ⟨ret_int (by rw [HV.out, HJ.out, if_neg (by have := HK.out; omega)]), rfl⟩
                · have hb1 : ((k : Int) == (f0 : Int)) = false := by simp; omega
                  have HK := Lib.hid hkf
                  clear hkf
                  by_cases h20 : k - f0 ≤ 20
                  · have hd20 : decide ((20 : Int) < (k : Int) - f0) = false := by simp; omega
                    go_wp2_with fail
                    refine (small_any _ _).mono ?_
                    rintro e w' ⟨rfl, rfl⟩
                    rw [bt_get s k hlt]
                    go_wp2_with fail
                    refine (digit_any _ _).mono ?_
                    rintro e w' ⟨rfl, rfl⟩
                    rw [bt_get s k hlt]
                    go_wp2_with fail
                    go_ret
                    exact ⟨ret_int (by rw [HV.out, HJ.out, if_pos ⟨by have := HK.out; omega, h20⟩]), rfl⟩
                  · have hd20 : decide ((20 : Int) < (k : Int) - f0) = true := by simp; omega
                    go_wp2_with fail
                    refine (small_any _ _).mono ?_
                    rintro e w' ⟨rfl, rfl⟩
                    rw [bt_get s k hlt]
                    go_wp2_with fail
                    refine (digit_any _ _).mono ?_
                    rintro e w' ⟨rfl, rfl⟩
                    rw [bt_get s k hlt]
                    go_wp2_with fail
                    go_ret
                    exact ⟨ret_int (by rw [HV.out, HJ.out, if_neg (by omega)]), rfl⟩
            · have hd : decide ((f0 : Int) < (k : Int)) = false := by simp; omega
              have hst := varD_stop (s := s) (f := f0) (i := k) (fun _ => by simp [hsm, hff])
              have hj : varD s f0 f0 = k := by rw [← HC.out, hst]
              have HJ := Lib.hid hj
              clear hst hj
              by_cases hkf : k = f0
              · have hb1 : ((k : Int) == (f0 : Int)) = true := by simp [hkf]
                have HK := Lib.hid hkf
                clear hkf
                go_wp2_with fail
                refine (small_any _ _).mono ?_
                rintro e w' ⟨rfl, rfl⟩
                rw [bt_get s k hlt]
                go_wp2_with fail
                go_ret
                exact ⟨ret_int (by rw [HV.out, HJ.out, if_neg (by have := HK.out; omega)]), rfl⟩
              · have hb1 : ((k : Int) == (f0 : Int)) = false := by simp; omega
                have HK := Lib.hid hkf
                clear hkf
                by_cases h20 : k - f0 ≤ 20
                · have hd20 : decide ((20 : Int) < (k : Int) - f0) = false := by simp; omega
                  go_wp2_with fail
                  refine (small_any _ _).mono ?_
                  rintro e w' ⟨rfl, rfl⟩
                  rw [bt_get s k hlt]
                  go_wp2_with fail
                  go_ret
                  exact ⟨ret_int (by rw [HV.out, HJ.out, if_pos ⟨by have := HK.out; omega, h20⟩]), rfl⟩
                · have hd20 : decide ((20 : Int) < (k : Int) - f0) = true := by simp; omega
                  go_wp2_with fail
                  refine (small_any _ _).mono ?_
                  rintro e w' ⟨rfl, rfl⟩
                  rw [bt_get s k hlt]
                  go_wp2_with fail
                  go_ret
                  exact ⟨ret_int (by rw [HV.out, HJ.out, if_neg (by omega)]), rfl⟩
        · have hst := varD_stop (s := s) (f := f0) (i := k) (fun h => absurd h hlt)
          have hj : varD s f0 f0 = k := by rw [← HC.out, hst]
          have HJ := Lib.hid hj
          clear hst hj
          by_cases hkf : k = f0
          · have hb1 : ((k : Int) == (f0 : Int)) = true := by simp [hkf]
            have HK := Lib.hid hkf
            clear hkf
            go_wp2_with fail
            go_ret
            exact ⟨ret_int (by rw [HV.out, HJ.out, if_neg (by have := HK.out; omega)]), rfl⟩
          · have hb1 : ((k : Int) == (f0 : Int)) = false := by simp; omega
            have HK := Lib.hid hkf
            clear hkf
            by_cases h20 : k - f0 ≤ 20
            · have hd20 : decide ((20 : Int) < (k : Int) - f0) = false := by simp; omega
              go_wp2_with fail
              go_ret
              exact ⟨ret_int (by rw [HV.out, HJ.out, if_pos ⟨by have := HK.out; omega, h20⟩]), rfl⟩
            · have hd20 : decide ((20 : Int) < (k : Int) - f0) = true := by simp; omega
              go_wp2_with fail
              go_ret
              exact ⟨ret_int (by rw [HV.out, HJ.out, if_neg (by omega)]), rfl⟩
  exact hpre

end Go.Proofs.YtbfeailcebfklaaDoor
