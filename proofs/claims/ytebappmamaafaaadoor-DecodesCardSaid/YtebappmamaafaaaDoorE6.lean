/-
  Proved: what the program's Encode computes is what the reference's computes. No condition.
-/
import Derived.Test.YtebappmamaafaaaDoorE5
set_option linter.unusedSimpArgs false
set_option linter.unusedVariables false
namespace Go.Proofs.YtebappmamaafaaaDoor

def Meet (p r : List UInt8 × Bool) : Prop := p.2 = !r.2 ∧ (r.2 = true → p.1 = r.1)
theorem Meet.app {p r p' r' : List UInt8 × Bool} (h : Meet p r) (h' : Meet p' r') : Meet (p.1 ++ p'.1, p.2 || p'.2) (r.1 ++ r'.1, r.2 && r'.2) := by
  obtain ⟨h1, h2⟩ := h
  obtain ⟨h3, h4⟩ := h'
  refine ⟨by simp [h1, h3], fun h => ?_⟩
  simp at h
  simp [h2 h.1, h4 h.2]

theorem big_dec (a : Int) : (decide (1000000000 < a) || decide (a < -1000000000)) = !(decide (a ≤ 1000000000) && decide (-1000000000 ≤ a)) := by
  by_cases h : a ≤ 1000000000
  · by_cases h2 : -1000000000 ≤ a
    · rw [decide_eq_false (show ¬ 1000000000 < a by omega), decide_eq_false (show ¬ a < -1000000000 by omega), decide_eq_true h, decide_eq_true h2]; rfl
    · rw [decide_eq_true (show a < -1000000000 by omega), decide_eq_false h2]; simp
  · rw [decide_eq_true (show 1000000000 < a by omega), decide_eq_false h]; simp

theorem form_out {op : Int} (h : op < 0 ∨ 26 ≤ op) : formB op = ([], false) := by
  unfold formB
  rw [if_neg (by omega), if_neg (by omega), if_neg (by omega), if_neg (by omega)]
theorem form_in {op : Int} (h : ¬ (op < 0 ∨ 26 ≤ op)) : formB op ≠ ([], false) := by
  unfold formB
  split
  · simp
  · split
    · simp
    · split
      · simp
      · rw [if_pos (by omega)]; simp

theorem ins_meet (op a b : Int) : Meet (pinsB op a b) (rinsB op a b) := by
  by_cases h : op < 0 ∨ 26 ≤ op
  · have hf := form_out h
    refine ⟨?_, ?_⟩
    · rw [pinsB, if_pos h, rinsB, hf]; simp [stepR]
    · rw [rinsB, hf]; simp [stepR]
  · have hn := form_in h
    have z0 : ∀ n, zbad a b n 0 = false := fun _ => rfl
    have z2 : ∀ n, zbad a b n 2 = ((false || (decide (n ≤ 0) && !(a == 0))) || (decide (n ≤ 1) && !(b == 0))) := fun _ => rfl
    rcases formB_cases op with hf | hf | hf | hf | hf
    · have hp : pinsB op a b = (lo op :: fourB a, (decide (1000000000 < a) || decide (a < -1000000000)) || !(b == 0)) := by
        rw [pinsB, if_neg h, hf]
        simp [prefP, stepP, opnd, z2]
      rw [hp, big_dec, rinsB, hf]
      cases hg : (decide (a ≤ 1000000000) && decide (-1000000000 ≤ a)) <;> simp [Meet, stepR, hg]
    · have hp : pinsB op a b = (lo op :: twoB a, !fitsB a || !(b == 0)) := by
        rw [pinsB, if_neg h, hf]
        simp [prefP, stepP, opnd, z2]
      rw [hp, rinsB, hf]
      cases hg : fitsB a <;> simp [Meet, stepR, hg]
    · have hp : pinsB op a b = (lo op :: (twoB a ++ twoB b), !fitsB a || !fitsB b) := by
        rw [pinsB, if_neg h, hf]
        simp [prefP, stepP, opnd, z2]
      rw [hp, rinsB, hf]
      cases hg : fitsB a <;> simp [Meet, stepR, hg]
    · have hp : pinsB op a b = ([lo op], !(a == 0) || !(b == 0)) := by
        rw [pinsB, if_neg h, hf]
        simp [prefP, z2]
      rw [hp, rinsB, hf]
      cases hg : (a == 0) <;> simp [Meet, stepR, hg]
    · exact absurd hf hn

theorem pinss_meet (l : List (Int × Int × Int)) (k : Nat) : Meet (pinss l k) (rinss l k) := by
  induction k with
  | zero => exact ⟨rfl, fun _ => rfl⟩
  | succ k ih => exact ih.app (ins_meet _ _ _)
theorem fun_meet (f : Fn) : Meet (pfun f) (rfun f) := by
  obtain ⟨h1, h2⟩ := pinss_meet f.ins f.ins.length
  refine ⟨?_, fun h => ?_⟩
  · simp [pfun, rfun, h1, Bool.not_and]
  · simp [rfun] at h
    simp [pfun, rfun, h2 h.2]
theorem pfuns_meet (l : List Fn) (k : Nat) : Meet (pfuns l k) (rfuns l k) := by
  induction k with
  | zero => exact ⟨rfl, fun _ => rfl⟩
  | succ k ih => exact ih.app (fun_meet _)
theorem enc_same (c : Cd) : penc c = renc c := by
  obtain ⟨h1, h2⟩ := pfuns_meet c.funs c.funs.length
  have hb : (pbytes c).2 = !(rbytes c).2 := by simp [pbytes, rbytes, h1, Bool.not_and]
  unfold penc renc
  rw [hb]
  cases hg : (rbytes c).2
  · simp
  · have hq : (rfuns c.funs c.funs.length).2 = true := by simp [rbytes] at hg; exact hg.2
    have he : (pbytes c).1 = (rbytes c).1 := by simp [pbytes, rbytes, h2 hq]
    rw [he]
    simp

end Go.Proofs.YtebappmamaafaaaDoor
