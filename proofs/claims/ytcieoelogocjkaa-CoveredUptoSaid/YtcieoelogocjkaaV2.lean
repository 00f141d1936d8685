/-
  Proved: plain laws of patterns: what is proper stays so; the weight that every step of useful lowers. No condition.
-/
import Derived.Test.YtcieoelogocjkaaV
set_option linter.unusedSimpArgs false
set_option linter.unusedVariables false
namespace Go.Proofs.Ytcieoelogocjkaa

theorem Proper.ok {p : Pt} (h : Proper p) : okP p = true := by cases p; unfold Proper at h; exact h.1
theorem Proper.kids {p : Pt} (h : Proper p) : ProperL p.kids := by cases p; unfold Proper at h; exact h.2
theorem proper_any : Proper anyP := by unfold anyP Proper; exact ⟨rfl, by unfold ProperL; trivial⟩
theorem properL_append : ∀ {l l' : List Pt}, ProperL l → ProperL l' → ProperL (l ++ l')
  | [], _, _, h' => h'
  | p :: ps, _, h, h' => by unfold ProperL at h; rw [List.cons_append]; unfold ProperL; exact ⟨h.1, properL_append h.2 h'⟩
theorem properL_any : ∀ (c : Nat), ProperL (List.replicate c anyP)
  | 0 => by simp only [List.replicate]; unfold ProperL; trivial
  | c + 1 => by rw [List.replicate_succ]; unfold ProperL; exact ⟨proper_any, properL_any c⟩
theorem properL_cons {p : Pt} {ps : List Pt} (h : ProperL (p :: ps)) : Proper p ∧ ProperL ps := by unfold ProperL at h; exact h
mutual
theorem proper_bare : ∀ {p : Pt}, Proper p → Proper (bare p) ∧ (bare p).k ≠ 1 ∧ (bare p).k ≠ 2 ∧ wt (bare p) ≤ wt p ∧ ((bare p).k ≠ 0 → 1 + (bare p).kids.length + wtL (bare p).kids ≤ wt p)
  | .mk k n o a s kids, h => by
    rw [bare]
    by_cases h2 : k = 2
    · rw [if_pos h2]
      have hk := h.kids
      have := proper_bareL (l := kids) hk
      have hw : wt (.mk k n o a s kids) = 1 + kids.length + wtL kids := by rw [wt, if_neg (by omega)]
      refine ⟨this.1, this.2.1, this.2.2.1, by omega, fun h0 => ?_⟩
      have := this.2.2.2.2 h0
      omega
    · rw [if_neg h2]
      by_cases h1 : k = 1
      · rw [if_pos h1]
        refine ⟨proper_any, by decide, by decide, ?_, fun h0 => absurd rfl h0⟩
        have : wt anyP = 0 := by unfold anyP; rw [wt]; rfl
        omega
      · rw [if_neg h1]
        refine ⟨h, h1, h2, Nat.le_refl _, fun h0 => ?_⟩
        rw [wt, if_neg (by rintro (h' | h'); exact h0 h'; exact h1 h')]
        exact Nat.le_refl _
theorem proper_bareL : ∀ {l : List Pt}, ProperL l → Proper (bareL l) ∧ (bareL l).k ≠ 1 ∧ (bareL l).k ≠ 2 ∧ wt (bareL l) ≤ wtL l ∧ ((bareL l).k ≠ 0 → 1 + (bareL l).kids.length + wtL (bareL l).kids ≤ wtL l)
  | [], _ => by
    rw [bareL]
    refine ⟨proper_any, by decide, by decide, ?_, fun h0 => absurd rfl h0⟩
    have : wt anyP = 0 := by unfold anyP; rw [wt]; rfl
    omega
  | p :: ps, h => by
    rw [bareL]
    have := proper_bare (properL_cons h).1
    rw [wtL]
    refine ⟨this.1, this.2.1, this.2.2.1, by omega, fun h0 => ?_⟩
    have := this.2.2.2.2 h0
    omega
end
theorem wtL_append : ∀ (l l' : List Pt), wtL (l ++ l') = wtL l + wtL l'
  | [], _ => by simp [wtL]
  | p :: ps, l' => by rw [List.cons_append, wtL, wtL, wtL_append ps l']; omega
theorem wtL_any : ∀ (c : Nat), wtL (List.replicate c anyP) = 0
  | 0 => by simp [wtL]
  | c + 1 => by rw [List.replicate_succ, wtL, wtL_any c]; unfold anyP; rw [wt]; rfl
theorem kids_le {p : Pt} (h : Proper p) : p.kids.length ≤ wt p := by
  cases p with
  | mk k n o a s kids =>
    rw [wt]
    by_cases hk : k = 0 ∨ k = 1
    · rw [if_pos hk]
      have h3 : kids.length = 0 := by
        rcases hk with rfl | rfl
        · exact of_decide_eq_true (show decide (kids.length = 0) = true from h.ok)
        · exact of_decide_eq_true (show decide (kids.length = 0) = true from h.ok)
      simp only [Pt.kids]
      omega
    · rw [if_neg hk]; simp only [Pt.kids]; omega
/-- rows side by side with what is asked: all as long, all proper -/
def Even (n : Nat) (rows : List (List Pt)) : Prop := ∀ r ∈ rows, r.length = n ∧ ProperL r
def wtR (rows : List (List Pt)) : Nat := (rows.map wtL).sum
theorem given_ok {h : Hd} {r l : List Pt} {n : Nat} (hr : r.length = n + 1 ∧ ProperL r) (hg : given h r = some l) : l.length = h.c + n ∧ ProperL l ∧ wtL l ≤ wtL r := by
  match r, hr with
  | p :: ps, hr =>
    have hp := properL_cons hr.2
    have hb := proper_bare hp.1
    have hn : ps.length = n := by simpa using hr.1
    simp only [given] at hg
    split at hg
    · cases hg
      refine ⟨by simp [hn], properL_append (properL_any _) hp.2, ?_⟩
      rw [wtL_append, wtL_any, wtL]; omega
    · rename_i h0
      split at hg
      · rename_i he
        cases hg
        refine ⟨by rw [List.length_append, hn, ← he]; rfl, properL_append hb.1.kids hp.2, ?_⟩
        have := hb.2.2.2.2 h0
        rw [wtL_append, wtL]; omega
      · cases hg
theorem given_less {h : Hd} {p : Pt} {ps l : List Pt} (hp : Proper p) (h0 : (bare p).k ≠ 0) (hg : given h (p :: ps) = some l) : wtL l + 1 + h.c ≤ wtL (p :: ps) := by
  have hb := proper_bare hp
  have := hb.2.2.2.2 h0
  simp only [given] at hg
  rw [if_neg h0] at hg
  split at hg
  · rename_i he
    cases hg
    have hc : h.c = (bare p).kids.length := by rw [← he]; rfl
    rw [wtL_append, wtL]; omega
  · cases hg
theorem givens_ok {h : Hd} {n : Nat} : ∀ {rows : List (List Pt)}, Even (n + 1) rows → Even (h.c + n) (rows.filterMap (given h)) ∧ wtR (rows.filterMap (given h)) ≤ wtR rows
  | [], _ => ⟨by intro r hr; simp at hr, Nat.le_refl _⟩
  | r :: rs, he => by
    have ih := givens_ok (h := h) (rows := rs) (fun x hx => he x (by simp [hx]))
    have hr := he r (by simp)
    rw [List.filterMap_cons]
    cases hg : given h r with
    | none =>
      simp only
      refine ⟨ih.1, ?_⟩
      have := ih.2
      simp only [wtR, List.map_cons, List.sum_cons] at this ⊢
      omega
    | some l =>
      have hl := given_ok hr hg
      simp only
      refine ⟨?_, ?_⟩
      · intro x hx
        rcases List.mem_cons.1 hx with rfl | hx
        · exact ⟨hl.1, hl.2.1⟩
        · exact ih.1 x hx
      · have := ih.2
        simp only [wtR, List.map_cons, List.sum_cons] at this ⊢
        omega
theorem rest1_ok {n : Nat} : ∀ {rows : List (List Pt)}, Even (n + 1) rows → Even n (rows.filterMap rest1) ∧ wtR (rows.filterMap rest1) ≤ wtR rows
  | [], _ => ⟨by intro r hr; simp at hr, Nat.le_refl _⟩
  | r :: rs, he => by
    have ih := rest1_ok (rows := rs) (fun x hx => he x (by simp [hx]))
    have hr := he r (by simp)
    rw [List.filterMap_cons]
    match r, hr with
    | p :: ps, hr =>
      have hp := properL_cons hr.2
      have hn : ps.length = n := by simpa using hr.1
      simp only [rest1]
      by_cases h0 : (bare p).k = 0
      · rw [if_pos h0]
        simp only
        refine ⟨?_, ?_⟩
        · intro x hx
          rcases List.mem_cons.1 hx with rfl | hx
          · exact ⟨hn, hp.2⟩
          · exact ih.1 x hx
        · have := ih.2
          simp only [wtR, List.map_cons, List.sum_cons, wtL] at this ⊢
          omega
      · rw [if_neg h0]
        simp only
        refine ⟨ih.1, ?_⟩
        have := ih.2
        simp only [wtR, List.map_cons, List.sum_cons] at this ⊢
        omega
end Go.Proofs.Ytcieoelogocjkaa
