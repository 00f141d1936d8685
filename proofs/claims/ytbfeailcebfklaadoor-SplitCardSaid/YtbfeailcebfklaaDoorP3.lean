/-
  Proved: the tokens of the text "a b"; a token's place is not behind its text's end; in plain Lean. No condition.
-/
import Derived.Test.YtbfeailcebfklaaDoorP2
set_option linter.unusedSimpArgs false
set_option linter.unusedVariables false
namespace Go.Proofs.YtbfeailcebfklaaDoor
theorem lex_ab : lexD ⟨#[97, 32, 98]⟩ = ([(3, 0, ⟨#[97]⟩, 0), (3, 2, ⟨#[98]⟩, 0), (0, 3, ByteArray.empty, 0)], (0, 0)) := by decide +kernel
theorem tokD_place {s : ByteArray} {i : Nat} {t : Tok} {j : Nat} (h : tokD s i = some (t, j)) : t.2.1 = i := by
  unfold tokD at h
  simp only at h
  repeat' split at h
  all_goals first | (cases h; rfl) | cases h
theorem toksD_place (s : ByteArray) (i : Nat) (l : List Tok) : i ≤ s.size → (∀ t ∈ l, t.2.1 ≤ s.size) → ∀ t ∈ (toksD s i l).1, t.2.1 ≤ s.size := by
  obtain ⟨m, hm⟩ : ∃ m, m = s.size - i := ⟨_, rfl⟩
  induction m using Nat.strongRecOn generalizing i l with
  | ind m IH =>
    intro hi hl
    have hge := gapD_ge (s := s) i hi
    cases hg : gapD s i with
    | mk k ok =>
      rw [hg] at hge
      simp only at hge
      cases ok with
      | false => rw [toksD_bad hg]; exact hl
      | true =>
        by_cases hk : k = s.size
        · subst hk
          rw [toksD_end hg]
          intro t ht
          rcases List.mem_append.1 ht with h | h
          · exact hl t h
          · simp only [List.mem_singleton] at h; subst h; exact Nat.le_refl _
        · cases ht : tokD s k with
          | none => rw [toksD_none hg hk ht]; exact hl
          | some r =>
            obtain ⟨tk, z⟩ := r
            have hz := tokD_lt (by omega) ht
            rw [toksD_some hi hg hk ht]
            refine IH (s.size - z) (by omega) z (l ++ [tk]) rfl hz.2 ?_
            intro t h
            rcases List.mem_append.1 h with h | h
            · exact hl t h
            · simp only [List.mem_singleton] at h; subst h; rw [tokD_place ht]; omega
theorem lexD_ok_size {s : ByteArray} {l : List Tok} (h : lexD s = (l, (0, 0))) : s.size ≤ 4000 := by
  unfold lexD at h
  split at h
  · simp at h
  · omega
/-- the place of a token of a good text -/
theorem tok_at_le {s : ByteArray} {l : List Tok} (h : lexD s = (l, (0, 0))) {m : Nat} (hm : m < l.length) {t1 t2 t4 : Nat} {t3 : ByteArray} (ht : l[m] = (t1, t2, t3, t4)) : t2 ≤ 4001 := by
  have h4 := lexD_ok_size h
  have hp := toksD_place s 0 [] (Nat.zero_le _) (fun t ht => by cases ht)
  unfold lexD at h
  rw [if_neg (by omega)] at h
  cases hb : badD s 0 with
  | some i => rw [hb] at h; simp at h
  | none =>
    rw [hb] at h
    simp only at h
    rw [h] at hp
    have := hp _ (List.getElem_mem hm)
    rw [ht] at this
    simp only at this
    omega
end Go.Proofs.YtbfeailcebfklaaDoor
