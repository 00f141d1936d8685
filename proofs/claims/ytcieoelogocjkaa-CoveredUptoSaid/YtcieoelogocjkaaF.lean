/-
  Proved: what fits a machine, in plain Lean: numbers of 64 bits, lengths within the form's reach; what useful makes of such patterns fits too. No condition.
-/
import Derived.Test.YtcieoelogocjkaaV3
set_option linter.unusedSimpArgs false
set_option linter.unusedVariables false
namespace Go.Proofs.Ytcieoelogocjkaa
open Go.RowKit

def I64 (x : Int) : Prop := -9223372036854775808 ≤ x ∧ x ≤ 9223372036854775807
mutual
def Fits : Pt → Prop
  | .mk k n o a s kids => (I64 k ∧ I64 n ∧ I64 o ∧ I64 a ∧ s.size ≤ maxLen) ∧ kids.length ≤ 2000000000000 ∧ FitsL kids
def FitsL : List Pt → Prop
  | [] => True
  | p :: ps => Fits p ∧ FitsL ps
end
theorem Fits.ints {p : Pt} (h : Fits p) : I64 p.k ∧ I64 p.n ∧ I64 p.o ∧ I64 p.a ∧ p.s.size ≤ maxLen := by cases p; unfold Fits at h; exact h.1
theorem Fits.len {p : Pt} (h : Fits p) : p.kids.length ≤ 2000000000000 := by cases p; unfold Fits at h; exact h.2.1
theorem Fits.kids {p : Pt} (h : Fits p) : FitsL p.kids := by cases p; unfold Fits at h; exact h.2.2
theorem fits_any : Fits anyP := by
  unfold anyP Fits
  exact ⟨⟨by unfold I64; omega, by unfold I64; omega, by unfold I64; omega, by unfold I64; omega, Nat.zero_le _⟩, Nat.zero_le _, by unfold FitsL; trivial⟩
theorem fitsL_cons {p : Pt} {ps : List Pt} (h : FitsL (p :: ps)) : Fits p ∧ FitsL ps := by unfold FitsL at h; exact h
theorem fitsL_mk {p : Pt} {ps : List Pt} (h : Fits p) (h' : FitsL ps) : FitsL (p :: ps) := by unfold FitsL; exact ⟨h, h'⟩
theorem fitsL_get {p : Pt} : ∀ {l : List Pt}, FitsL l → p ∈ l → Fits p
  | x :: xs, h, hp => by
    have h' := fitsL_cons h
    rcases List.mem_cons.1 hp with rfl | hp
    · exact h'.1
    · exact fitsL_get h'.2 hp
theorem fitsL_append : ∀ {l l' : List Pt}, FitsL l → FitsL l' → FitsL (l ++ l')
  | [], _, _, h' => h'
  | p :: ps, _, h, h' => fitsL_mk (fitsL_cons h).1 (fitsL_append (fitsL_cons h).2 h')
theorem fitsL_any : ∀ (c : Nat), FitsL (List.replicate c anyP)
  | 0 => by simp only [List.replicate]; unfold FitsL; trivial
  | c + 1 => by rw [List.replicate_succ]; exact fitsL_mk fits_any (fitsL_any c)
mutual
theorem fits_bare : ∀ {p : Pt}, Fits p → Fits (bare p)
  | .mk k n o a s kids, h => by
    rw [bare]
    by_cases h2 : k = 2
    · rw [if_pos h2]; exact fits_bareL (l := kids) h.kids
    · rw [if_neg h2]
      by_cases h1 : k = 1
      · rw [if_pos h1]; exact fits_any
      · rw [if_neg h1]; exact h
theorem fits_bareL : ∀ {l : List Pt}, FitsL l → Fits (bareL l)
  | [], _ => by rw [bareL]; exact fits_any
  | p :: ps, h => by rw [bareL]; exact fits_bare (fitsL_cons h).1
end
def FitsR (rows : List (List Pt)) : Prop := ∀ r ∈ rows, FitsL r
theorem given_fits {h : Hd} {r l : List Pt} (hr : FitsL r) (hg : given h r = some l) : FitsL l := by
  match r, hr with
  | [], hr => simp [given] at hg
  | p :: ps, hr =>
    have hp := fitsL_cons hr
    simp only [given] at hg
    split at hg
    · cases hg; exact fitsL_append (fitsL_any _) hp.2
    · split at hg
      · cases hg; exact fitsL_append (fits_bare hp.1).kids hp.2
      · cases hg
theorem rest1_fits {r l : List Pt} (hr : FitsL r) (hg : rest1 r = some l) : FitsL l := by
  match r, hr with
  | [], hr => simp [rest1] at hg
  | p :: ps, hr =>
    have hp := fitsL_cons hr
    simp only [rest1] at hg
    split at hg
    · cases hg; exact hp.2
    · cases hg
theorem givens_fits {h : Hd} {rows : List (List Pt)} (hr : FitsR rows) : FitsR (rows.filterMap (given h)) := by
  intro r hm
  obtain ⟨x, hx, hg⟩ := List.mem_filterMap.1 hm
  exact given_fits (hr x hx) hg
theorem rests1_fits {rows : List (List Pt)} (hr : FitsR rows) : FitsR (rows.filterMap rest1) := by
  intro r hm
  obtain ⟨x, hx, hg⟩ := List.mem_filterMap.1 hm
  exact rest1_fits (hr x hx) hg
theorem firstsG_all {P : Pt → Prop} : ∀ (rows : List (List Pt)) (l : List Pt), (∀ p ps, (p :: ps) ∈ rows → P (bare p)) → (∀ q ∈ l, P q) → ∀ q ∈ firstsG rows l, P q
  | [], l, _, hl => by rw [firstsG]; exact hl
  | [] :: rs, l, hr, hl => by rw [firstsG]; exact firstsG_all rs l (fun p ps h => hr p ps (by simp [h])) hl
  | (p :: ps) :: rs, l, hr, hl => by
    rw [firstsG]
    have hrs : ∀ p ps, (p :: ps) ∈ rs → P (bare p) := fun p ps h => hr p ps (by simp [h])
    split
    · exact firstsG_all rs l hrs hl
    · split
      · exact firstsG_all rs l hrs hl
      · refine firstsG_all rs (l ++ [bare p]) hrs fun q hq => ?_
        rcases List.mem_append.1 hq with hq | hq
        · exact hl q hq
        · simp only [List.mem_singleton] at hq
          subst hq
          exact hr p ps (by simp)
theorem firsts_fits {rows : List (List Pt)} (hr : FitsR rows) : ∀ q ∈ firsts rows, Fits q :=
  firstsG_all rows [] (fun p ps h => fits_bare (fitsL_cons (hr _ h)).1) (fun q h => by simp at h)
theorem firsts_proper {n : Nat} {rows : List (List Pt)} (hr : Even n rows) : ∀ q ∈ firsts rows, Proper q :=
  firstsG_all rows [] (fun p ps h => (proper_bare (properL_cons (hr _ h).2).1).1) (fun q h => by simp at h)
theorem firstsG_len : ∀ (rows : List (List Pt)) (l : List Pt), (firstsG rows l).length ≤ rows.length + l.length
  | [], l => by rw [firstsG]; simp
  | [] :: rs, l => by rw [firstsG]; have := firstsG_len rs l; simp only [List.length_cons]; omega
  | (p :: ps) :: rs, l => by
    rw [firstsG]
    simp only [List.length_cons]
    split
    · have := firstsG_len rs l; omega
    · split
      · have := firstsG_len rs l; omega
      · have := firstsG_len rs (l ++ [bare p]); simp only [List.length_append, List.length_singleton] at this; omega
end Go.Proofs.Ytcieoelogocjkaa
