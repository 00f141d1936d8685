/-
  Proved: what Useful answers, in plain Lean; what it lets through is proper and small. No condition.
-/
import Derived.Test.YtcieoelogocjkaaP3
import Derived.Test.YtcieoelogocjkaaF
set_option linter.unusedSimpArgs false
set_option linter.unusedVariables false
namespace Go.Proofs.Ytcieoelogocjkaa

/-- the first row that may not be -/
def chk (n : Nat) : List (List Pt) → Nat → Nat → Option Nat
  | [], _, _ => none
  | r :: rs, i, left => if (propL r (decide (r.length = n)) left).1 = true then chk n rs (i + 1) (propL r (decide (r.length = n)) left).2 else some i
def answer (rows : List (List Pt)) (q : List Pt) : Bool × Int × Int :=
  match chk q.length (rows ++ [q]) 0 150 with
  | some i => (false, 21, i)
  | none => (usefulD (meas rows q + 1) rows q, 0, 0)
mutual
theorem propP_parts : ∀ (p : Pt) (n : Nat), 0 < n → (propP p n).1 = true → parts p + (propP p n).2 = n
  | .mk k m o a s kids, n, h0 => by
    rw [propP, parts]
    intro h
    cases hok : okP (.mk k m o a s kids) with
    | false => rw [hok, propL_false] at h; cases h
    | true =>
      rw [hok] at h
      have := propL_parts kids (n - 1) h
      omega
theorem propL_parts : ∀ (l : List Pt) (n : Nat), (propL l true n).1 = true → partsL l + (propL l true n).2 = n
  | [], n => fun _ => by rw [propL, partsL]; omega
  | p :: ps, n => by
    rw [propL, partsL]
    intro h
    by_cases h0 : 0 < n
    · rw [if_pos ⟨rfl, h0⟩] at h ⊢
      cases hr : (propP p n).1 with
      | true =>
        rw [hr] at h
        have h1 := propP_parts p n h0 hr
        have h2 := propL_parts ps _ h
        omega
      | false => rw [hr, propL_false] at h; cases h
    · rw [if_neg (by intro h; exact h0 h.2), propL_false] at h; cases h
end
mutual
theorem wt_parts : ∀ (p : Pt), wt p + 1 ≤ 2 * parts p
  | .mk k n o a s kids => by
    rw [wt, parts]
    have h1 := wtL_parts kids
    split
    · omega
    · omega
theorem wtL_parts : ∀ (l : List Pt), wtL l + l.length ≤ 2 * partsL l
  | [] => by simp [wtL, partsL]
  | p :: ps => by
    rw [wtL, partsL]
    have h1 := wt_parts p
    have h2 := wtL_parts ps
    simp only [List.length_cons]
    omega
end
def partsR (rows : List (List Pt)) : Nat := (rows.map partsL).sum
theorem chk_ok {n : Nat} : ∀ (rows : List (List Pt)) (i left : Nat), chk n rows i left = none → (∀ r ∈ rows, r.length = n ∧ ProperL r) ∧ partsR rows ≤ left
  | [], _, _, _ => ⟨fun r h => by simp at h, Nat.zero_le _⟩
  | r :: rs, i, left, h => by
    rw [chk] at h
    split at h
    · rename_i hp
      by_cases hl : r.length = n
      · have hd : decide (r.length = n) = true := by simp [hl]
        rw [hd] at hp h
        have ih := chk_ok rs (i + 1) _ h
        have h1 := propL_parts r left hp
        have h2 := prop_properL r left hp
        refine ⟨fun x hx => ?_, ?_⟩
        · rcases List.mem_cons.1 hx with rfl | hx
          · exact ⟨hl, h2⟩
          · exact ih.1 x hx
        · have h3 := ih.2
          unfold partsR at h3 ⊢
          rw [List.map_cons, List.sum_cons]
          omega
      · have hd : decide (r.length = n) = false := by simp [hl]
        rw [hd, propL_false] at hp
        cases hp
    · cases h
theorem partsR_append (rows rows' : List (List Pt)) : partsR (rows ++ rows') = partsR rows + partsR rows' := by
  unfold partsR; rw [List.map_append, List.sum_append]
theorem wtR_parts : ∀ (rows : List (List Pt)), wtR rows ≤ 2 * partsR rows
  | [] => by simp [wtR, partsR]
  | r :: rs => by
    have := wtR_parts rs
    have h2 := wtL_parts r
    unfold wtR partsR at *
    rw [List.map_cons, List.sum_cons, List.map_cons, List.sum_cons]
    omega
theorem rows_parts {n : Nat} (hn : 0 < n) : ∀ (rows : List (List Pt)), (∀ r ∈ rows, r.length = n) → rows.length ≤ partsR rows
  | [], _ => Nat.zero_le _
  | r :: rs, h => by
    have h1 := rows_parts hn rs (fun x hx => h x (by simp [hx]))
    have h2 := len_partsL r
    have h3 := h r (by simp)
    unfold partsR at *
    rw [List.map_cons, List.sum_cons, List.length_cons]
    omega
/-- what comes through is small -/
theorem chk_small {rows : List (List Pt)} {q : List Pt} (h : chk q.length (rows ++ [q]) 0 150 = none) :
    Even q.length rows ∧ ProperL q ∧ meas rows q ≤ 1000000 ∧ (q ≠ [] → rows.length ≤ 1048576) := by
  have h1 := chk_ok _ _ _ h
  have h2 := h1.2
  rw [partsR_append] at h2
  have h3 := wtR_parts rows
  have h4 := wtL_parts q
  have h5 := len_partsL q
  have h6 : partsR [q] = partsL q := by simp [partsR]
  refine ⟨fun r hr => h1.1 r (by simp [hr]), (h1.1 q (by simp)).2, by unfold meas; omega, fun hq => ?_⟩
  have h7 := rows_parts (List.length_pos_iff.2 hq) rows (fun r hr => (h1.1 r (by simp [hr])).1)
  omega
theorem chk_take {n : Nat} {rows : List (List Pt)} {i : Nat} (hi : i < rows.length) (left : Nat) : chk n (rows.drop i) i left = if (propL rows[i] (decide (rows[i].length = n)) left).1 = true then chk n (rows.drop (i + 1)) (i + 1) (propL rows[i] (decide (rows[i].length = n)) left).2 else some i := by
  rw [List.drop_eq_getElem_cons hi, chk]
/-- the reference's step is the program's -/
theorem ref_step {n : Nat} (r : List Pt) (left : Nat) : ((propL r (decide (r.length = n)) left).1 = true → refL r (if r.length = n then (left : Int) else -1) = ((propL r (decide (r.length = n)) left).2 : Nat)) ∧
    ((propL r (decide (r.length = n)) left).1 = false → refL r (if r.length = n then (left : Int) else -1) < 0) := by
  by_cases h : r.length = n
  · have hd : decide (r.length = n) = true := by simp [h]
    rw [hd, if_pos h]
    exact prop_refL r left
  · have hd : decide (r.length = n) = false := by simp [h]
    rw [hd, if_neg h, propL_false, refL_neg r (-1) (by omega)]
    exact ⟨fun h => (by cases h), fun _ => by omega⟩
end Go.Proofs.Ytcieoelogocjkaa
