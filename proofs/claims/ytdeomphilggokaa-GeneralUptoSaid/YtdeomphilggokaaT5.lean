/-
  Proved: what Solve answers, in plain Lean; that the making of all pairs the same comes to an end. No condition.
-/
import Derived.Test.YtdeomphilggokaaU6
set_option linter.unusedSimpArgs false
set_option linter.unusedVariables false
namespace Go.Proofs.Ytdeomphilggokaa
open Go.RowKit

def okP (p : Ty × Ty) : Bool := ProperD p.1 && ProperD p.2
/-- all variables of pairs, behind those of a list -/
def vsP (xs : List Int) : List (Ty × Ty) → List Int
  | [] => xs
  | p :: ps => vsP (varsD (varsD xs p.1) p.2) ps
def qoP : List (Ty × Ty) → List Int
  | [] => []
  | p :: ps => (qoD p.1 ++ qoD p.2) ++ qoP ps
/-- all places of variables in pairs -/
def ocP : List (Ty × Ty) → List Int
  | [] => []
  | p :: ps => (occD p.1 ++ occD p.2) ++ ocP ps
def ptP : List (Ty × Ty) → Nat
  | [] => 0
  | p :: ps => (parts p.1 + parts p.2) + ptP ps
theorem vsP_append : ∀ (l r : List (Ty × Ty)) (xs : List Int), vsP xs (l ++ r) = vsP (vsP xs l) r
  | [], r, xs => rfl
  | p :: ps, r, xs => by rw [List.cons_append, vsP, vsP, vsP_append ps r]
theorem qoP_append : ∀ (l r : List (Ty × Ty)), qoP (l ++ r) = qoP l ++ qoP r
  | [], r => rfl
  | p :: ps, r => by rw [List.cons_append, qoP, qoP, qoP_append ps r, ← List.append_assoc]
theorem ocP_append : ∀ (l r : List (Ty × Ty)), ocP (l ++ r) = ocP l ++ ocP r
  | [], r => rfl
  | p :: ps, r => by rw [List.cons_append, ocP, ocP, ocP_append ps r, ← List.append_assoc]
theorem ptP_append : ∀ (l r : List (Ty × Ty)), ptP (l ++ r) = ptP l + ptP r
  | [], r => by simp [ptP]
  | p :: ps, r => by rw [List.cons_append, ptP, ptP, ptP_append ps r]; omega
theorem take_one {α : Type} {l : List α} {j : Nat} {p : α} (h : l[j]? = some p) : l.take (j + 1) = l.take j ++ [p] := by
  obtain ⟨hl, rfl⟩ := List.getElem?_eq_some_iff.1 h
  exact List.take_succ_eq_append_getElem hl
theorem vsP_take {l : List (Ty × Ty)} {j : Nat} {p : Ty × Ty} (h : l[j]? = some p) (xs : List Int) : vsP xs (l.take (j + 1)) = varsD (varsD (vsP xs (l.take j)) p.1) p.2 := by rw [take_one h, vsP_append]; rfl
theorem qoP_take {l : List (Ty × Ty)} {j : Nat} {p : Ty × Ty} (h : l[j]? = some p) : qoP (l.take (j + 1)) = qoP (l.take j) ++ (qoD p.1 ++ qoD p.2) := by rw [take_one h, qoP_append, qoP, qoP, List.append_nil]
theorem ocP_take {l : List (Ty × Ty)} {j : Nat} {p : Ty × Ty} (h : l[j]? = some p) : ocP (l.take (j + 1)) = ocP (l.take j) ++ (occD p.1 ++ occD p.2) := by rw [take_one h, ocP_append, ocP, ocP, List.append_nil]
theorem ptP_take {l : List (Ty × Ty)} {j : Nat} {p : Ty × Ty} (h : l[j]? = some p) : ptP (l.take (j + 1)) = ptP (l.take j) + (parts p.1 + parts p.2) := by rw [take_one h, ptP_append, ptP, ptP]; rfl
theorem ptP_take_le (l : List (Ty × Ty)) (j : Nat) : ptP (l.take j) ≤ ptP l := by
  have h := ptP_append (l.take j) (l.drop j)
  rw [List.take_append_drop] at h
  omega
theorem ptP_len : ∀ l : List (Ty × Ty), l.length ≤ ptP l
  | [] => Nat.le_refl _
  | p :: ps => by rw [ptP, List.length_cons]; have := parts_pos p.1; have := ptP_len ps; omega
theorem vsP_occ : ∀ (l : List (Ty × Ty)) (xs : List Int), vsP xs l = (ocP l).foldl addV xs
  | [], xs => rfl
  | p :: ps, xs => by rw [vsP, vsP_occ ps, ocP, List.foldl_append, List.foldl_append, vars_occ p.2, vars_occ p.1]
theorem ocP_len : ∀ l : List (Ty × Ty), (ocP l).length ≤ ptP l
  | [] => Nat.le_refl _
  | p :: ps => by
    rw [ocP, ptP, List.length_append, List.length_append]
    have h1 := occD_len p.1
    have h2 := occD_len p.2
    have h3 := ocP_len ps
    omega
theorem vsP_len : ∀ (l : List (Ty × Ty)) (xs : List Int), (vsP xs l).length ≤ xs.length + ptP l
  | [], xs => by simp [vsP, ptP]
  | p :: ps, xs => by
    rw [vsP, ptP]
    have h1 := varsD_len p.1 xs
    have h2 := varsD_len p.2 (varsD xs p.1)
    have h3 := vsP_len ps (varsD (varsD xs p.1) p.2)
    omega
mutual
theorem qo_occ : ∀ (t : Ty) (n : Int), n ∈ qoD t → n ∈ occD t
  | .mk k m s q args, n, h => by
    rw [qoD] at h
    rw [occD]
    split
    · rename_i hk
      rw [if_pos hk] at h
      split at h
      · exact h
      · cases h
    · rename_i hk
      rw [if_neg hk] at h
      exact qoL_occ args n h
theorem qoL_occ : ∀ (l : List Ty) (n : Int), n ∈ qoL l → n ∈ occL l
  | [], n, h => by rw [qoL] at h; cases h
  | p :: ps, n, h => by
    rw [qoL, List.mem_append] at h
    rw [occL, List.mem_append]
    rcases h with h | h
    · exact .inl (qo_occ p n h)
    · exact .inr (qoL_occ ps n h)
end
theorem ocP_mem {l : List (Ty × Ty)} {p : Ty × Ty} (h : p ∈ l) {n : Int} (hn : n ∈ occD p.1 ∨ n ∈ occD p.2) : n ∈ ocP l := by
  induction l with
  | nil => cases h
  | cons q qs ih =>
    rw [ocP, List.mem_append, List.mem_append]
    rcases List.mem_cons.1 h with rfl | h
    · exact .inl hn
    · exact .inr (ih h)
theorem qoP_mem {l : List (Ty × Ty)} {p : Ty × Ty} (h : p ∈ l) {n : Int} (hn : n ∈ qoD p.1 ∨ n ∈ qoD p.2) : n ∈ qoP l := by
  induction l with
  | nil => cases h
  | cons q qs ih =>
    rw [qoP, List.mem_append, List.mem_append]
    rcases List.mem_cons.1 h with rfl | h
    · exact .inl hn
    · exact .inr (ih h)
theorem vsP_mem {l : List (Ty × Ty)} {n : Int} (h : n ∈ ocP l) : n ∈ vsP [] l := by rw [vsP_occ]; exact fold_mem _ _ h
theorem fold_nodup : ∀ (l xs : List Int), xs.Nodup → (l.foldl addV xs).Nodup
  | [], xs, h => h
  | n :: ns, xs, h => by rw [List.foldl_cons]; exact fold_nodup ns _ (addV_nodup h)
theorem vsP_nodup (l : List (Ty × Ty)) : (vsP [] l).Nodup := by rw [vsP_occ]; exact fold_nodup _ _ List.nodup_nil
theorem fold_sub : ∀ (l xs : List Int) (n : Int), n ∈ l.foldl addV xs → n ∈ xs ∨ n ∈ l
  | [], xs, n, h => .inl h
  | m :: ms, xs, n, h => by
    rw [List.foldl_cons] at h
    rcases fold_sub ms _ n h with h | h
    · unfold addV at h
      split at h
      · exact .inl h
      · rcases List.mem_append.1 h with h | h
        · exact .inl h
        · rw [List.mem_singleton] at h; exact .inr (by simp [h])
    · exact .inr (by simp [h])
mutual
theorem occ_i64 : ∀ (t : Ty), Fits t → ∀ n ∈ occD t, I64 n
  | .mk k m s q args, h, n, hn => by
    have h1 := h.n
    unfold Fits at h
    rw [occD] at hn
    split at hn
    · rw [List.mem_singleton] at hn; rw [hn]; exact h1
    · exact occL_i64 args h.2.2 n hn
theorem occL_i64 : ∀ (l : List Ty), FitsL l → ∀ n ∈ occL l, I64 n
  | [], _, n, hn => by rw [occL] at hn; cases hn
  | p :: ps, h, n, hn => by
    unfold FitsL at h
    rw [occL, List.mem_append] at hn
    rcases hn with hn | hn
    · exact occ_i64 p h.1 n hn
    · exact occL_i64 ps h.2 n hn
end
theorem ocP_i64 : ∀ {l : List (Ty × Ty)}, (∀ p ∈ l, Fits p.1 ∧ Fits p.2) → ∀ n ∈ ocP l, I64 n
  | [], _, n, hn => by cases hn
  | p :: ps, h, n, hn => by
    rw [ocP, List.mem_append, List.mem_append] at hn
    rcases hn with (hn | hn) | hn
    · exact occ_i64 _ (h p (by simp)).1 n hn
    · exact occ_i64 _ (h p (by simp)).2 n hn
    · exact ocP_i64 (fun p hp => h p (by simp [hp])) n hn
theorem vsP_i64 {l : List (Ty × Ty)} (h : ∀ p ∈ l, Fits p.1 ∧ Fits p.2) : ∀ n ∈ vsP [] l, I64 n := fun n hn => by
  rw [vsP_occ] at hn
  rcases fold_sub _ _ n hn with h1 | h1
  · cases h1
  · exact ocP_i64 h n h1
/-- pairs made the same, one behind the other -/
noncomputable def runT (F : Nat) : St → List (Ty × Ty) → Nat → Option (St × Int × Nat)
  | s, [], _ => some (s, 0, 0)
  | s, p :: ps, i => match sameT F s p.1 p.2 with
    | none => none
    | some (s', e) => if e = 0 then runT F s' ps (i + 1) else some (s', e, i)
/-- what each variable stands for, told in full -/
noncomputable def outT (s : St) (N : Nat) : List Int → List (Int × Ty) → List (Int × Ty) × Int × Nat
  | [], acc => (acc, 0, 0)
  | n :: ns, acc => if 400 < parts (exT s.b (bareT n)) then ([], 12, N) else outT s N ns (acc ++ [(n, markT s.e (exT s.b (bareT n)))])
def st0 (l : List (Ty × Ty)) : St := ⟨fun _ => none, markE (fun _ => false) (qoP l)⟩
def fuelP (l : List (Ty × Ty)) : Nat := (vsP [] l).length * 401 + 401
/-- what Solve answers -/
noncomputable def solveT (l : List (Ty × Ty)) : List (Int × Ty) × Int × Nat :=
  if (l.takeWhile okP).length < l.length then ([], 21, (l.takeWhile okP).length)
  else match runT (fuelP l) (st0 l) l 0 with
    | none => ([], 0, 0)
    | some (s, e, i) => if e = 0 then outT s l.length (risingD (vsP [] l)) [] else ([], e, i)
theorem pair_wf {l : List (Ty × Ty)} (hf : ∀ p ∈ l, Fits p.1 ∧ Fits p.2) {p : Ty × Ty} (hp : p ∈ l) (hok : okP p = true) : Wf (vsP [] l) (st0 l).e p.1 ∧ Wf (vsP [] l) (st0 l).e p.2 := by
  unfold okP ProperD at hok
  simp only [Bool.and_eq_true, decide_eq_true_eq] at hok
  have hq : ∀ n, n ∈ qoD p.1 ∨ n ∈ qoD p.2 → (st0 l).e n = true := fun n hn => by
    show (false || decide (n ∈ qoP l)) = true
    simp [qoP_mem hp hn]
  exact ⟨⟨(hf p hp).1, hok.1.2, fun n hn => hq n (.inl hn), fun n hn => vsP_mem (ocP_mem hp (.inl hn))⟩, ⟨(hf p hp).2, hok.2.2, fun n hn => hq n (.inr hn), fun n hn => vsP_mem (ocP_mem hp (.inr hn))⟩⟩
theorem st0_ok (V : List Int) (l : List (Ty × Ty)) : StOk V (st0 l) := ⟨total_none, fun n x h => by cases h⟩
theorem unb_le (V : List Int) (σ : Bnd) : unb V σ ≤ V.length := List.length_filter_le _ _
set_option maxRecDepth 100000 in
theorem mu_le (V : List Int) (s : St) (a : Ty) : mu V s a ≤ V.length * 401 + 401 := by
  unfold mu
  exact Nat.add_le_add (Nat.mul_le_mul_right _ (unb_le V s.b)) (Nat.min_le_left _ _)
theorem run_some {V : List Int} {F : Nat} (hF : V.length * 401 + 401 ≤ F) : ∀ (l : List (Ty × Ty)) (s : St) (i : Nat), StOk V s → (∀ p ∈ l, Wf V s.e p.1 ∧ Wf V s.e p.2) → ∃ r, runT F s l i = some r
  | [], s, i, hs, h => ⟨_, rfl⟩
  | p :: ps, s, i, hs, h => by
    have h1 := h p (by simp)
    have hne := same_ends F s p.1 p.2 hs h1.1 h1.2 (Nat.le_trans (mu_le V s p.1) hF)
    rw [runT]
    split
    · rename_i h2; exact absurd h2 hne
    · rename_i s' e h2
      split
      · rename_i e0
        have hg := (same_grown F s p.1 p.2 hs h1.1 h1.2 s' e h2).2 e0
        exact run_some hF ps s' (i + 1) hg.ok fun q hq => ⟨(h q (by simp [hq])).1.more hg.e, (h q (by simp [hq])).2.more hg.e⟩
      · exact ⟨_, rfl⟩
theorem takeW_all {α : Type} {p : α → Bool} : ∀ {l : List α}, ¬ (l.takeWhile p).length < l.length → ∀ x ∈ l, p x = true
  | [], _, x, h => by cases h
  | y :: ys, hl, x, hx => by
    rw [List.takeWhile_cons] at hl
    cases hy : p y with
    | false => rw [hy] at hl; simp at hl
    | true =>
      rw [hy] at hl
      simp at hl
      rcases List.mem_cons.1 hx with rfl | hx
      · exact hy
      · exact takeW_all (by omega) x hx
/-- where all may be, Solve comes to an end -/
theorem solve_run {l : List (Ty × Ty)} (hf : ∀ p ∈ l, Fits p.1 ∧ Fits p.2) (hok : ∀ p ∈ l, okP p = true) : ∃ r, runT (fuelP l) (st0 l) l 0 = some r :=
  run_some (V := vsP [] l) (Nat.le_refl _) l (st0 l) 0 (st0_ok _ l) fun p hp => pair_wf hf hp (hok p hp)
theorem takeW_at {α : Type} {p : α → Bool} : ∀ {l : List α} {j : Nat} (hj : j < l.length), (∀ i (h : i < j), p (l[i]'(by omega)) = true) → p l[j] = false → (l.takeWhile p).length = j
  | y :: ys, 0, _, _, h0 => by
    rw [List.takeWhile_cons]
    simp at h0
    rw [h0]
    rfl
  | y :: ys, j + 1, hj, hb, h0 => by
    have h1 := hb 0 (by omega)
    simp at h1
    rw [List.takeWhile_cons, h1]
    simp
    exact takeW_at (by simpa using hj) (fun i h => by have := hb (i + 1) (by omega); simpa using this) (by simpa using h0)
theorem takeW_none {α : Type} {p : α → Bool} : ∀ {l : List α}, (∀ x ∈ l, p x = true) → (l.takeWhile p).length = l.length
  | [], _ => rfl
  | y :: ys, h => by
    rw [List.takeWhile_cons, h y (by simp)]
    simp
    exact takeW_none fun x hx => h x (by simp [hx])
theorem run_step {F : Nat} {s : St} {l : List (Ty × Ty)} {j : Nat} {p : Ty × Ty} {r : St × Int × Nat} (hp : l[j]? = some p) (h : runT F s (l.drop j) j = some r) : ∃ s' e, sameT F s p.1 p.2 = some (s', e) ∧ ((e = 0 ∧ runT F s' (l.drop (j + 1)) (j + 1) = some r) ∨ (e ≠ 0 ∧ r = (s', e, j))) := by
  obtain ⟨h1, rfl⟩ := List.getElem?_eq_some_iff.1 hp
  rw [← List.getElem_cons_drop (h := h1), runT] at h
  split at h
  · cases h
  · rename_i s' e h3
    refine ⟨s', e, h3, ?_⟩
    by_cases e0 : e = 0
    · rw [if_pos e0] at h
      exact .inl ⟨e0, h⟩
    · rw [if_neg e0] at h
      exact .inr ⟨e0, (Option.some.inj h).symm⟩
end Go.Proofs.Ytdeomphilggokaa
