/-
  Proved: the contract of the reference's whole. Condition: patterns that fit.
-/
import Derived.Test.YtcieoelogocjkaaQ1
set_option linter.unusedSimpArgs false
set_option linter.unusedVariables false
namespace Go.Proofs.Ytcieoelogocjkaa
open Go.RowKit

def conB (i : Nat) (q : Pt) : Bool := decide (q.k = 6 ∧ q.n = i)
def AllCon (l : List Pt) (i : Nat) : Prop := ∀ i', i' < i → l.any (conB i') = true
def anyTo (l : List Pt) (j i : Nat) : Bool := (l.take j).any (conB i)
theorem whole_con {p : Pt} {ps : List Pt} (h : p.k = 6) : whole (p :: ps) = (List.range p.o.toNat).all fun i => (p :: ps).any (conB i) := by
  unfold whole
  simp only
  rw [if_neg (by omega), if_pos h]
  rfl
set_option maxRecDepth 100000 in
set_option maxHeartbeats 4000000 in
theorem rwhole_any (D : Nat → Prop) (l : List Pt) (ao : Option Addr) (cap : Nat) (w : World) (hv : SlD w D l ao cap) (hl : l.length ≤ 1048576) (hf : ∀ q ∈ l, Fits q) :
    Calls Try.prog 30 #[.slice ao l.length cap] w fun e w' => e = .returned (.bool (whole l)) ∧ w' = w := by
  have HF := Lib.hid hf
  have HV := Lib.hid hv
  obtain ⟨lk, hlk⟩ : ∃ lk, lk = l.length := ⟨_, rfl⟩
  rw [← hlk] at hl ⊢
  have HLK := Lib.hid hlk
  clear hf hv hlk
  obtain ⟨ans, hans⟩ : ∃ ans, ans = whole l := ⟨_, rfl⟩
  rw [← hans]
  have HANS := Lib.hid hans
  clear hans
  cases l with
  | nil =>
    have h0 : ((lk : Int) == 0) = true := by rw [HLK.out]; rfl
    go_enter Try.func30, Try.ntmps30
    go_wp2_with fail
    go_ret
    exact ⟨by rw [HANS.out]; rfl, rfl⟩
  | cons p ps =>
    have hlk1 : 1 ≤ lk := by rw [HLK.out]; simp
    have h0 : ((lk : Int) == 0) = false := by simp; omega
    obtain ⟨b, off, row, ha, hb, hrow, hpv⟩ := HV.out.2.get (k := 0) (by simp)
    obtain ⟨aq, cq, rfl, hkv⟩ := hpv.row
    have hix0 : ∀ w' : World, (Instr.indexAt 23 (.slice ao lk cap) (.int .i64 0)).run Try.prog w' = .ok (.pointer (some ⟨b, off + 0 * 6, none⟩)) w' := fun w' => index_at Try.underlying23 size26 ha lk cap 0 (by omega) w'
    rw [show off + 0 * 6 = off from by omega] at hix0
    have x0 : w.cell? ⟨b, off, none⟩ = some (.int .i64 p.k) := hrow 0 (by omega)
    have x2 : w.cell? ⟨b, off + 2, none⟩ = some (.int .i64 p.o) := hrow 2 (by omega)
    have hio := (HF.out p (by simp)).ints.2.2.1
    obtain ⟨o, ho⟩ : ∃ o, o = p.o := ⟨_, rfl⟩
    rw [← ho] at x2 hio
    have HO := Lib.hid ho
    have HIO := Lib.hid hio
    clear hio
    have HROW := Lib.hid hrow
    clear hrow hpv hkv ho ha
    by_cases h5 : p.k = 5
    · rw [h5] at x0
      have H5 := Lib.hid h5
      clear h5
      go_enter Try.func30, Try.ntmps30
      go_wp2_with fail
      go_ret
      refine ⟨?_, rfl⟩
      have : ans = true := by rw [HANS.out]; unfold whole; simp only; rw [if_pos H5.out]
      rw [this]
      rfl
    · by_cases h6 : p.k = 6
      · rw [h6] at x0
        have hwc := whole_con (ps := ps) h6
        rw [← HANS.out, ← HO.out] at hwc
        have HWC := Lib.hid hwc
        clear h5 h6 hwc
        go_enter Try.func30, Try.ntmps30
        go_wp2_with fail
        go_loop [3] (fun v => ∃ i : Nat, v = .int .i64 i ∧ i ≤ o.toNat ∧ AllCon (p :: ps) i) (fun v => o.toNat - (intOf v).toNat)
        case atStart => exact ⟨0, rfl, Nat.zero_le _, fun i' h => by omega⟩
        case round =>
          obtain ⟨i, rfl, hi, hall⟩ := hrel
          have HALL := Lib.hid hall
          clear hall
          by_cases hlt : (i : Int) < o
          · have HLT := Lib.hid hlt
            go_wp2_with fail
            go_loop [4, 5] (fun t v => ∃ j : Nat, v = .int .i64 j ∧ j ≤ lk ∧ t = .bool (anyTo (p :: ps) j i)) (fun _ v => lk - (intOf v).toNat)
            case atStart => exact ⟨0, rfl, Nat.zero_le _, rfl⟩
            case round =>
              obtain ⟨j, rfl, hj, rfl⟩ := hrel
              obtain ⟨tb, htb⟩ : ∃ tb, tb = anyTo (p :: ps) j i := ⟨_, rfl⟩
              rw [← htb]
              have HTB := Lib.hid htb
              clear htb
              by_cases hjl : j < lk
              · have hdj : decide ((j : Int) < (lk : Int)) = true := by simp; omega
                have hjL : j < (p :: ps).length := by rw [← HLK.out]; exact hjl
                cases tb with
                | false =>
                  obtain ⟨b', off', row', ha', hb', hrow', hpv'⟩ := HV.out.2.get (k := j) hjL
                  obtain ⟨aq', cq', rfl, hkk⟩ := hpv'.row
                  obtain ⟨x, hx⟩ : ∃ x, x = (p :: ps)[j] := ⟨_, rfl⟩
                  rw [← hx] at hrow'
                  have hstep : anyTo (p :: ps) (j + 1) i = conB i x := by
                    have hf := HTB.out
                    unfold anyTo at hf ⊢
                    rw [List.take_succ_eq_append_getElem hjL, List.any_append, ← hf, ← hx]; simp
                  have hix : ∀ w' : World, (Instr.indexAt 23 (.slice ao lk cap) (.int .i64 j)).run Try.prog w' = .ok (.pointer (some ⟨b', off' + j * 6, none⟩)) w' := fun w' => index_at Try.underlying23 size26 ha' lk cap j hjl w'
                  rw [Nat.zero_add] at hrow'
                  obtain ⟨p0, hp0⟩ : ∃ p0, p0 = off' + j * 6 := ⟨_, rfl⟩
                  rw [← hp0] at hix hrow'
                  have y0 : w.cell? ⟨b', p0, none⟩ = some (.int .i64 x.k) := hrow' 0 (by omega)
                  have y1 : w.cell? ⟨b', p0 + 1, none⟩ = some (.int .i64 x.n) := hrow' 1 (by omega)
                  obtain ⟨xk, hxk⟩ : ∃ xk, xk = x.k := ⟨_, rfl⟩
                  obtain ⟨xn, hxn⟩ : ∃ xn, xn = x.n := ⟨_, rfl⟩
                  rw [← hxk] at y0
                  rw [← hxn] at y1
                  have hcb : conB i x = decide (xk = 6 ∧ xn = i) := by rw [hxk, hxn]; rfl
                  rw [hcb] at hstep
                  have HSTEP := Lib.hid hstep
                  clear hkk hrow' hpv' hx hstep ha' hp0 hxk hxn hcb hb' hjL
                  by_cases h6 : xk = 6
                  · rw [h6] at y0
                    have H6 := Lib.hid h6
                    clear h6
                    go_wp2_with fail
                    go_round
                    case rel => exact ⟨j + 1, by go_num, hjl, by rw [HSTEP.out]; simp [H6.out, beqI]⟩
                    case measure => simp [intOf]; omega
                  · have h6b : (xk == 6) = false := by simp [h6]
                    have H6 := Lib.hid h6
                    clear h6
                    go_wp2_with fail
                    go_round
                    case rel => exact ⟨j + 1, by go_num, hjl, by rw [HSTEP.out]; simp [H6.out]⟩
                    case measure => simp [intOf]; omega
                | true =>
                  clear hjL
                  have hi64 : (i : Int) < 9223372036854775807 := by have h := HIO.out; unfold I64 at h; omega
                  go_wp2_with fail
                  go_round
                  case rel =>
                    refine ⟨i + 1, by go_num, by omega, fun i' hi' => ?_⟩
                    by_cases he : i' = i
                    · subst he
                      have h := HTB.out.symm
                      unfold anyTo at h
                      rw [List.any_eq_true] at h ⊢
                      obtain ⟨x, hx, hxx⟩ := h
                      exact ⟨x, List.mem_of_mem_take hx, hxx⟩
                    · exact HALL.out i' (by omega)
                  case measure => simp [intOf]; omega
              · have hdj : decide ((j : Int) < (lk : Int)) = false := by simp; omega
                have hje : j = (p :: ps).length := by rw [← HLK.out]; omega
                have htb : tb = (p :: ps).any (conB i) := by rw [HTB.out, hje]; unfold anyTo; rw [List.take_length]
                have HTB2 := Lib.hid htb
                clear hje htb
                cases tb with
                | false =>
                  go_wp2_with fail
                  go_ret
                  refine ⟨?_, rfl⟩
                  have : ans = false := by
                    rw [HWC.out, Bool.eq_false_iff]
                    intro hc
                    rw [List.all_eq_true] at hc
                    have := hc i (List.mem_range.2 (by omega))
                    rw [← HTB2.out] at this
                    cases this
                  rw [this]
                  rfl
                | true =>
                  have hi64 : (i : Int) < 9223372036854775807 := by have h := HIO.out; unfold I64 at h; omega
                  go_wp2_with fail
                  go_round
                  case rel =>
                    refine ⟨i + 1, by go_num, by omega, fun i' hi' => ?_⟩
                    by_cases he : i' = i
                    · subst he
                      exact HTB2.out.symm
                    · exact HALL.out i' (by omega)
                  case measure => simp [intOf]; omega
          · go_wp2_with fail
            go_ret
            refine ⟨?_, rfl⟩
            have : ans = true := by
              rw [HWC.out, List.all_eq_true]
              intro i' hi'
              have := List.mem_range.1 hi'
              exact HALL.out i' (by omega)
            rw [this]
            rfl
      · have h5b : (p.k != 5) = true := by simp [h5]
        have h6b : (p.k != 6) = true := by simp [h6]
        have H5 := Lib.hid h5
        have H6 := Lib.hid h6
        clear h5 h6
        go_enter Try.func30, Try.ntmps30
        go_wp2_with fail
        go_ret
        refine ⟨?_, rfl⟩
        have : ans = false := by rw [HANS.out]; unfold whole; simp only; rw [if_neg H5.out, if_neg H6.out]
        rw [this]
        rfl
end Go.Proofs.Ytcieoelogocjkaa
