/-
  Proved: every step of useful lowers the measure, and keeps what is even and proper. No condition.
-/
import Derived.Test.YtcieoelogocjkaaV2
set_option linter.unusedSimpArgs false
set_option linter.unusedVariables false
namespace Go.Proofs.Ytcieoelogocjkaa

def meas (rows : List (List Pt)) (q : List Pt) : Nat := wtR rows + wtL q + q.length
theorem meas_head {rows : List (List Pt)} {p : Pt} {r : List Pt} (he : Even (r.length + 1) rows) (hp : Proper p) (h0 : (bare p).k ≠ 0) :
    meas (rows.filterMap (given (headOf (bare p)))) ((bare p).kids ++ r) < meas rows (p :: r) := by
  have h1 := (givens_ok (h := headOf (bare p)) he).2
  have h2 := (proper_bare hp).2.2.2.2 h0
  unfold meas
  rw [wtL_append, wtL, List.length_append, List.length_cons]
  omega
theorem meas_rest {rows : List (List Pt)} {p : Pt} {r : List Pt} (he : Even (r.length + 1) rows) : meas (rows.filterMap rest1) r < meas rows (p :: r) := by
  have h1 := (rest1_ok he).2
  unfold meas
  rw [wtL, List.length_cons]
  omega
/-- a head that a row begins with -/
def Begins (h : Hd) (rows : List (List Pt)) : Prop := ∃ p ps, (p :: ps) ∈ rows ∧ (bare p).k ≠ 0 ∧ headOf (bare p) = h
theorem givens_less {h : Hd} {n : Nat} : ∀ {rows : List (List Pt)}, Even (n + 1) rows → Begins h rows → wtR (rows.filterMap (given h)) + 1 + h.c ≤ wtR rows
  | [], _, ⟨p, ps, hm, _⟩ => by simp at hm
  | r :: rs, he, ⟨p, ps, hm, h0, hh⟩ => by
    have hers : Even (n + 1) rs := fun x hx => he x (by simp [hx])
    have hr := he r (by simp)
    rw [List.filterMap_cons]
    rcases List.mem_cons.1 hm with rfl | hm
    · have hg : given h (p :: ps) = some ((bare p).kids ++ ps) := by simp only [given]; rw [if_neg h0, if_pos hh]
      have h1 := given_less (properL_cons hr.2).1 h0 hg
      have h2 := (givens_ok (h := h) hers).2
      rw [hg]
      simp only [wtR, List.map_cons, List.sum_cons] at h2 ⊢
      omega
    · have ih := givens_less hers ⟨p, ps, hm, h0, hh⟩
      cases hg : given h r with
      | none =>
        simp only [wtR, List.map_cons, List.sum_cons] at ih ⊢
        omega
      | some l =>
        have hl := given_ok hr hg
        simp only [wtR, List.map_cons, List.sum_cons] at ih ⊢
        omega
theorem meas_each {rows : List (List Pt)} {p : Pt} {r : List Pt} {h : Hd} (he : Even (r.length + 1) rows) (hb : Begins h rows) :
    meas (rows.filterMap (given h)) (List.replicate h.c anyP ++ r) < meas rows (p :: r) := by
  have h1 := givens_less he hb
  unfold meas
  rw [wtL_append, wtL_any, wtL, List.length_append, List.length_replicate, List.length_cons]
  omega
/-- what firsts gives begins a row -/
theorem firstsG_begins : ∀ (rows : List (List Pt)) (l : List Pt) (all : List (List Pt)), (∀ r ∈ rows, r ∈ all) → (∀ q ∈ l, Begins (headOf q) all ∧ q.k ≠ 0) → ∀ q ∈ firstsG rows l, Begins (headOf q) all ∧ q.k ≠ 0
  | [], l, all, _, hl => by rw [firstsG]; exact hl
  | [] :: rs, l, all, hr, hl => by rw [firstsG]; exact firstsG_begins rs l all (fun r h => hr r (by simp [h])) hl
  | (p :: ps) :: rs, l, all, hr, hl => by
    rw [firstsG]
    have hrs : ∀ r ∈ rs, r ∈ all := fun r h => hr r (by simp [h])
    split
    · exact firstsG_begins rs l all hrs hl
    · rename_i h0
      split
      · exact firstsG_begins rs l all hrs hl
      · refine firstsG_begins rs (l ++ [bare p]) all hrs fun q hq => ?_
        rcases List.mem_append.1 hq with hq | hq
        · exact hl q hq
        · simp only [List.mem_singleton] at hq
          subst hq
          exact ⟨⟨p, ps, hr _ (by simp), h0, rfl⟩, h0⟩
theorem firsts_begins {rows : List (List Pt)} : ∀ q ∈ firsts rows, Begins (headOf q) rows ∧ q.k ≠ 0 :=
  firstsG_begins rows [] rows (fun _ h => h) (fun q h => by simp at h)
end Go.Proofs.Ytcieoelogocjkaa
