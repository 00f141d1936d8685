/-
  Proved: what Useful answers of typed patterns of few parts, in plain Lean. No condition.
-/
import Derived.Test.YtcieoelogocjkaaZ7
set_option linter.unusedSimpArgs false
set_option linter.unusedVariables false
namespace Go.Proofs.Ytcieoelogocjkaa
open Go.RowKit Srt

mutual
/-- what may be and is small enough comes through -/
theorem prop_of : ∀ (p : Pt) (n : Nat), Proper p → parts p ≤ n → propP p n = (true, n - parts p)
  | .mk k m o a s kids, n, hp, hn => by
    unfold Proper at hp
    rw [parts] at hn
    rw [propP, hp.1, prop_ofL kids (n - 1) hp.2 (by omega), parts]
    congr 1
    omega
theorem prop_ofL : ∀ (l : List Pt) (n : Nat), ProperL l → partsL l ≤ n → propL l true n = (true, n - partsL l)
  | [], n, _, _ => by rw [propL, partsL]; rfl
  | p :: ps, n, hp, hn => by
    unfold ProperL at hp
    rw [partsL] at hn
    have h1 := parts_pos p
    rw [propL, if_pos ⟨rfl, by omega⟩, prop_of p n hp.1 (by omega), prop_ofL ps _ hp.2 (by omega), partsL]
    congr 1
    omega
end
theorem chk_none {n : Nat} : ∀ (rows : List (List Pt)) (i left : Nat), (∀ r ∈ rows, r.length = n ∧ ProperL r) → partsR rows ≤ left → chk n rows i left = none
  | [], _, _, _, _ => rfl
  | r :: rs, i, left, h, hl => by
    have h1 := h r (by simp)
    unfold partsR at hl
    rw [List.map_cons, List.sum_cons] at hl
    have hd : decide (r.length = n) = true := by simp [h1.1]
    rw [chk, hd, prop_ofL r left h1.2 (by omega), if_pos rfl]
    exact chk_none rs (i + 1) _ (fun x hx => h x (by simp [hx])) (by unfold partsR; simp only; omega)
/-- rows of one pattern each -/
def ones (ps : List Pt) : List (List Pt) := ps.map fun p => [p]
theorem partsR_ones : ∀ (ps : List Pt), partsR (ones ps) = partsL ps
  | [] => rfl
  | p :: ps => by
    have := partsR_ones ps
    unfold partsR ones at *
    rw [List.map_cons, List.map_cons, List.sum_cons, this, partsL, partsL, partsL]
    rfl
theorem ones_typed {s : Srt} {ps : List Pt} (h : ∀ p ∈ ps, Pty s p) : ∀ r ∈ ones ps, PtyL [s] r := by
  intro r hr
  obtain ⟨p, hp, rfl⟩ := List.mem_map.1 hr
  unfold PtyL
  exact ⟨h p hp, by unfold PtyL; trivial⟩
theorem ans_of {s : Srt} {ps : List Pt} {q : Pt} (h : ∀ p ∈ ps, Pty s p) (hq : Pty s q) (hsz : partsL ps + parts q ≤ 150) : answer (ones ps) [q] = (usefulD (meas (ones ps) [q] + 1) (ones ps) [q], 0, 0) := by
  have hc : chk [q].length (ones ps ++ [[q]]) 0 150 = none := by
    refine chk_none _ _ _ (fun r hr => ?_) ?_
    · rcases List.mem_append.1 hr with hr | hr
      · have := ones_typed h r hr
        exact ⟨by rw [this.len]; rfl, pty_properL this⟩
      · simp only [List.mem_singleton] at hr
        subst hr
        exact ⟨rfl, by unfold ProperL; exact ⟨pty_proper hq, by unfold ProperL; trivial⟩⟩
    · rw [partsR_append, partsR_ones]
      have : partsR [[q]] = parts q := by simp [partsR, partsL]
      omega
  unfold answer
  rw [hc]
/-- a value that a pattern matches, and none of others: the pattern is useful -/
theorem useful_of {s : Srt} {ps : List Pt} {q v : Pt} (h : ∀ p ∈ ps, Pty s p) (hq : Pty s q) (hv : Vty s v) (hm : M q v = true) (hno : (ps.any fun p => M p v) = false) :
    usefulD (meas (ones ps) [q] + 1) (ones ps) [q] = true := by
  refine complete _ _ _ [s] [v] (Nat.lt_succ_self _) (ones_typed h) (by unfold PtyL; exact ⟨hq, by unfold PtyL; trivial⟩) (by unfold VtyL; exact ⟨hv, by unfold VtyL; trivial⟩) (by rw [ML, hm, ML]; rfl) ?_
  intro r hr
  obtain ⟨p, hp, rfl⟩ := List.mem_map.1 hr
  have h1 := List.any_eq_false.1 hno p hp
  rw [ML]
  simp at h1
  rw [h1]
  rfl
theorem ans_first : answer [[conP 1 2], [conP 0 2]] [anyP] = (false, 0, 0) := by
  have e : ([[conP 1 2], [conP 0 2]] : List (List Pt)) = ones [conP 1 2, conP 0 2] := rfl
  have t : ∀ p ∈ [conP 1 2, conP 0 2], Pty s1 p := by
    intro p hp
    simp only [List.mem_cons, List.not_mem_nil, or_false] at hp
    rcases hp with rfl | rfl
    · unfold conP Pty
      exact .inr (.inr (.inr (.inr (.inr ⟨rfl, by omega, by simp [ofS], rfl, by unfold conK PtyL; trivial⟩))))
    · unfold conP Pty
      exact .inr (.inr (.inr (.inr (.inr ⟨rfl, by omega, by simp [ofS], rfl, by unfold conK PtyL; trivial⟩))))
  rw [e, ans_of t (pty_any s1) (by decide)]
  congr 1
end Go.Proofs.Ytcieoelogocjkaa
