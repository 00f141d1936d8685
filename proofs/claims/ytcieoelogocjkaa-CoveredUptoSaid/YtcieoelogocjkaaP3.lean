/-
  Proved: the program's proper and the reference's answer alike, in plain Lean. No condition.
-/
import Derived.Test.YtcieoelogocjkaaP2
set_option linter.unusedSimpArgs false
set_option linter.unusedVariables false
namespace Go.Proofs.Ytcieoelogocjkaa

theorem propL_false : ∀ (l : List Pt) (n : Nat), propL l false n = (false, n)
  | [], n => by rw [propL]
  | p :: ps, n => by rw [propL, if_neg (by simp)]; exact propL_false ps n
theorem refL_neg : ∀ (l : List Pt) (n : Int), n < 0 → refL l n = n
  | [], n, _ => by rw [refL]
  | p :: ps, n, h => by rw [refL, if_neg (by omega)]
theorem refP_zero (p : Pt) : refP p 0 < 0 := by
  cases p with
  | mk k n o a s kids =>
    rw [refP]
    split
    · rw [refL_neg kids (0 - 1) (by omega)]; omega
    · omega
mutual
theorem prop_ref : ∀ (p : Pt) (n : Nat), 0 < n → ((propP p n).1 = true → refP p n = ((propP p n).2 : Nat)) ∧ ((propP p n).1 = false → refP p n < 0)
  | .mk k m o a s kids, n, h => by
    rw [propP, refP]
    cases hok : okP (.mk k m o a s kids) with
    | false =>
      rw [propL_false, if_neg (by simp)]
      exact ⟨fun h => (by cases h), fun _ => by omega⟩
    | true =>
      rw [if_pos rfl]
      have := prop_refL kids (n - 1)
      rw [show ((n - 1 : Nat) : Int) = (n : Int) - 1 from by omega] at this
      exact this
theorem prop_refL : ∀ (l : List Pt) (n : Nat), ((propL l true n).1 = true → refL l n = ((propL l true n).2 : Nat)) ∧ ((propL l true n).1 = false → refL l n < 0)
  | [], n => by rw [propL, refL]; exact ⟨fun _ => rfl, fun h => by cases h⟩
  | p :: ps, n => by
    rw [propL, refL, if_pos (show (0 : Int) ≤ (n : Int) by omega)]
    by_cases h0 : 0 < n
    · rw [if_pos ⟨rfl, h0⟩]
      have h1 := prop_ref p n h0
      cases hr : (propP p n).1 with
      | true =>
        rw [h1.1 hr]
        exact prop_refL ps (propP p n).2
      | false =>
        have hneg := h1.2 hr
        rw [propL_false, refL_neg ps _ hneg]
        exact ⟨fun h => (by cases h), fun _ => hneg⟩
    · have hn : n = 0 := by omega
      subst hn
      rw [if_neg (by intro h; exact h0 h.2), propL_false]
      have hneg := refP_zero p
      rw [show ((0 : Nat) : Int) = 0 from rfl, refL_neg ps _ hneg]
      exact ⟨fun h => (by cases h), fun _ => hneg⟩
end
mutual
/-- what is proper by the program is proper -/
theorem prop_proper : ∀ (p : Pt) (n : Nat), (propP p n).1 = true → Proper p
  | .mk k m o a s kids, n => by
    rw [propP]
    intro h
    cases hok : okP (.mk k m o a s kids) with
    | false => rw [hok, propL_false] at h; cases h
    | true =>
      rw [hok] at h
      unfold Proper
      exact ⟨hok, prop_properL kids (n - 1) h⟩
theorem prop_properL : ∀ (l : List Pt) (n : Nat), (propL l true n).1 = true → ProperL l
  | [], n => fun _ => by unfold ProperL; trivial
  | p :: ps, n => by
    rw [propL]
    intro h
    by_cases h0 : 0 < n
    · rw [if_pos ⟨rfl, h0⟩] at h
      cases hr : (propP p n).1 with
      | true =>
        rw [hr] at h
        unfold ProperL
        exact ⟨prop_proper p n hr, prop_properL ps _ h⟩
      | false => rw [hr, propL_false] at h; cases h
    · rw [if_neg (by intro h; exact h0 h.2), propL_false] at h; cases h
end
end Go.Proofs.Ytcieoelogocjkaa
