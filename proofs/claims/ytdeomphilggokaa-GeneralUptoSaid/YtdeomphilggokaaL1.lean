/-
  Proved: plain laws of matching: what is matched are a general type's variables; the binds sorted are one list. No condition.
-/
import Derived.Test.YtdeomphilggokaaC3
set_option linter.unusedSimpArgs false
set_option linter.unusedVariables false
namespace Go.Proofs.Ytdeomphilggokaa
open Go.RowKit

abbrev keys (l : List (Int × Ty)) : List Int := l.map (·.1)
theorem findB_mem {l : List (Int × Ty)} {n : Int} {x : Ty} (h : findB l n = some x) : (n, x) ∈ l := by
  unfold findB at h
  cases hf : l.find? (fun x => decide (x.1 = n)) with
  | none => rw [hf] at h; cases h
  | some y =>
    rw [hf] at h
    have h1 := List.find?_some hf
    have h2 := List.mem_of_find?_eq_some hf
    simp at h1 h
    rw [← h1, ← h]
    exact h2
theorem findB_no {l : List (Int × Ty)} {n : Int} (h : findB l n = none) : n ∉ keys l := by
  unfold findB at h
  intro hm
  obtain ⟨x, hx, rfl⟩ := List.mem_map.1 hm
  have h1 : l.find? (fun y => decide (y.1 = x.1)) = none := by simpa using h
  have := List.find?_eq_none.1 h1 x hx
  simp at this
theorem headA_len {g t : Ty} (h : headA g t = true) : g.args.length = t.args.length := by
  unfold headA at h
  rw [decide_eq_true_eq] at h
  exact h.2.2.2
mutual
theorem match_keys : ∀ (g t : Ty) (l : List (Int × Ty)), (matchD l g t).2 = true → keys (matchD l g t).1 = varsD (keys l) g
  | .mk k n s q args, t, l => by
    intro h
    rw [match_args] at h ⊢
    rw [vars_args]
    by_cases hk : (Ty.mk k n s q args).k = 0
    · rw [if_pos hk] at h ⊢
      rw [if_pos hk]
      by_cases hq : (Ty.mk k n s q args).q = 1 ∧ eqD t = 0
      · rw [if_pos hq] at h; cases h
      · rw [if_neg hq] at h ⊢
        cases hf : findB l (Ty.mk k n s q args).n with
        | some x =>
          have hm := findB_mem hf
          show keys l = addV (keys l) _
          rw [addV, if_pos (List.mem_map.2 ⟨_, hm, rfl⟩)]
        | none =>
          have hm := findB_no hf
          show keys (l ++ [((Ty.mk k n s q args).n, t)]) = addV (keys l) _
          rw [addV, if_neg hm]
          simp
    · rw [if_neg hk] at h ⊢
      rw [if_neg hk]
      by_cases hh : headA (.mk k n s q args) t = true
      · rw [if_pos hh] at h ⊢
        exact matchL_keys args t.args l (headA_len hh) h
      · rw [if_neg hh] at h; cases h
theorem matchL_keys : ∀ (a b : List Ty) (l : List (Int × Ty)), a.length = b.length → (matchL l a b).2 = true → keys (matchL l a b).1 = varsL (keys l) a
  | [], b, l, _, _ => by rw [varsL]; simp [matchL]
  | p :: ps, [], l, hl, _ => by simp at hl
  | p :: ps, r :: rs, l, hl, h => by
    rw [matchL] at h ⊢
    rw [varsL]
    by_cases e : (matchD l p r).2 = true
    · rw [if_pos e] at h ⊢
      rw [matchL_keys ps rs _ (by simpa using hl) h, match_keys p r l e]
    · rw [if_neg e] at h; cases h
end
theorem addV_nodup {xs : List Int} {n : Int} (h : xs.Nodup) : (addV xs n).Nodup := by
  unfold addV
  split
  · exact h
  · rename_i hn
    rw [List.nodup_append]
    refine ⟨h, by simp, fun a ha b hb => ?_⟩
    rw [List.mem_singleton] at hb
    rw [hb]
    exact fun e => hn (e ▸ ha)
mutual
theorem varsD_nodup : ∀ (t : Ty) (xs : List Int), xs.Nodup → (varsD xs t).Nodup
  | .mk k n s q args, xs, h => by
    rw [varsD]
    split
    · exact addV_nodup h
    · exact varsL_nodup args xs h
theorem varsL_nodup : ∀ (l : List Ty) (xs : List Int), xs.Nodup → (varsL xs l).Nodup
  | [], xs, h => by rw [varsL]; exact h
  | p :: ps, xs, h => by rw [varsL]; exact varsL_nodup ps _ (varsD_nodup p xs h)
end
theorem insD_perm (out : List Int) (x : Int) : (insD out x).Perm (x :: out) := by
  unfold insD
  refine List.perm_middle.trans ?_
  rw [List.takeWhile_append_dropWhile]
theorem rising_perm (l : List Int) : (risingD l).Perm l := by
  unfold risingD
  suffices h : ∀ (l out : List Int), (l.foldl insD out).Perm (out ++ l) by simpa using h l []
  intro l
  induction l with
  | nil => intro out; simp
  | cons x l ih =>
    intro out
    rw [List.foldl_cons]
    refine (ih _).trans ?_
    refine ((insD_perm out x).append_right l).trans ?_
    exact List.perm_middle.symm
theorem insD_sorted {out : List Int} (h : out.Pairwise (· ≤ ·)) (x : Int) : (insD out x).Pairwise (· ≤ ·) := by
  induction out with
  | nil => simp [insD]
  | cons y out ih =>
    rw [List.pairwise_cons] at h
    by_cases e : y < x
    · have e2 : insD (y :: out) x = y :: insD out x := by unfold insD; simp [e]
      rw [e2, List.pairwise_cons]
      refine ⟨fun z hz => ?_, ih h.2⟩
      rcases List.mem_cons.1 ((insD_perm out x).subset hz) with rfl | hz
      · omega
      · exact h.1 z hz
    · have e2 : insD (y :: out) x = x :: y :: out := by unfold insD; simp [e]
      rw [e2, List.pairwise_cons, List.pairwise_cons]
      refine ⟨fun z hz => ?_, h⟩
      rcases List.mem_cons.1 hz with rfl | hz
      · omega
      · have := h.1 z hz; omega
theorem rising_sorted (l : List Int) : (risingD l).Pairwise (· ≤ ·) := by
  unfold risingD
  suffices h : ∀ (l out : List Int), out.Pairwise (· ≤ ·) → (l.foldl insD out).Pairwise (· ≤ ·) from h l [] List.Pairwise.nil
  intro l
  induction l with
  | nil => intro out h; exact h
  | cons x l ih => intro out h; rw [List.foldl_cons]; exact ih _ (insD_sorted h x)
/-- two sorted lists of the same binds, each number once, are one -/
theorem sorted_one {a b L : List (Int × Ty)} (hn : (keys L).Nodup) (ha : a.Perm L) (hb : b.Perm L) (sa : a.Pairwise (fun x y => x.1 ≤ y.1)) (sb : b.Pairwise (fun x y => x.1 ≤ y.1)) : a = b := by
  refine List.Perm.eq_of_pairwise (le := fun x y => x.1 ≤ y.1) ?_ sa sb (ha.trans hb.symm)
  intro x y hx hy h1 h2
  have e : x.1 = y.1 := by omega
  have mx := ha.subset hx
  have my := hb.subset hy
  obtain ⟨i, hi, rfl⟩ := List.getElem_of_mem mx
  obtain ⟨j, hj, rfl⟩ := List.getElem_of_mem my
  have : i = j := (List.getElem_inj (xs := keys L) (h₀ := by simpa using hi) (h₁ := by simpa using hj) hn).1 (by simpa using e)
  subst this
  rfl
/-- the reference's binds: sorted, all of them -/
theorem outD_perm {L : List (Int × Ty)} (hn : (keys L).Nodup) : (outD (risingD (keys L)) L).Perm L ∧ (outD (risingD (keys L)) L).Pairwise (fun x y => x.1 ≤ y.1) := by
  constructor
  · have h1 : (outD (risingD (keys L)) L).Perm (outD (keys L) L) := (rising_perm (keys L)).flatMap_right _
    refine h1.trans ?_
    have h2 : ∀ (M : List (Int × Ty)), (keys M).Nodup → outD (keys M) M = M := by
      intro M
      suffices h : ∀ (A B : List (Int × Ty)), (keys (A ++ B)).Nodup → outD (keys B) (A ++ B) = B from h [] M
      intro A B
      induction B generalizing A with
      | nil => intro _; simp [outD]
      | cons b B ih =>
        intro hM
        have h3 := ih (A ++ [b]) (by simpa using hM)
        rw [List.append_assoc] at h3
        unfold outD at h3 ⊢
        show List.flatMap (fun n => List.filter (fun x => decide (x.1 = n)) (A ++ b :: B)) (b.1 :: keys B) = b :: B
        rw [List.flatMap_cons]
        simp only [List.singleton_append] at h3
        rw [h3]
        have h4 : (A ++ b :: B).filter (fun x => decide (x.1 = b.1)) = [b] := by
          simp only [keys, List.map_append, List.map_cons] at hM
          rw [List.nodup_append] at hM
          obtain ⟨_, hB, hAB⟩ := hM
          rw [List.nodup_cons] at hB
          rw [List.filter_append, List.filter_cons]
          have e1 : A.filter (fun x => decide (x.1 = b.1)) = [] := List.filter_eq_nil_iff.2 (fun x hx => by
            have := hAB x.1 (List.mem_map.2 ⟨x, hx, rfl⟩) b.1 (by simp)
            simpa using this)
          have e2 : B.filter (fun x => decide (x.1 = b.1)) = [] := List.filter_eq_nil_iff.2 (fun x hx => by
            have : x.1 ≠ b.1 := fun e => hB.1 (e ▸ List.mem_map.2 ⟨x, hx, rfl⟩)
            simpa using this)
          rw [e1, e2]
          simp
        rw [h4]
        rfl
    rw [h2 L hn]
  · have hs := rising_sorted (keys L)
    unfold outD
    generalize risingD (keys L) = ns at hs
    induction ns with
    | nil => simp
    | cons n ns ih =>
      rw [List.pairwise_cons] at hs
      rw [List.flatMap_cons, List.pairwise_append]
      refine ⟨?_, ih hs.2, fun x hx y hy => ?_⟩
      · refine List.Pairwise.imp_of_mem (R := fun _ _ => True) (fun {x y} hx hy _ => ?_) (List.pairwise_of_forall (fun _ _ => trivial))
        have h1 := (List.mem_filter.1 hx).2
        have h2 := (List.mem_filter.1 hy).2
        simp at h1 h2
        omega
      · obtain ⟨m, hm, hy⟩ := List.mem_flatMap.1 hy
        have h1 := (List.mem_filter.1 hx).2
        have h2 := (List.mem_filter.1 hy).2
        simp at h1 h2
        have := hs.1 m hm
        omega
end Go.Proofs.Ytdeomphilggokaa
