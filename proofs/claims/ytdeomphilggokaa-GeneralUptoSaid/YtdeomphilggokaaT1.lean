/-
  Proved: what variables stand for, in plain Lean: a type with all of its variables replaced. No condition.
-/
import Derived.Test.YtdeomphilggokaaC9
set_option linter.unusedSimpArgs false
set_option linter.unusedVariables false
namespace Go.Proofs.Ytdeomphilggokaa
open Go.RowKit

theorem mem_addV (xs : List Int) (n : Int) : n ∈ addV xs n := by
  unfold addV
  split
  · assumption
  · simp
theorem shaped_mem {t : Ty} (h : shapedD t = true) {u : Ty} (hu : u ∈ t.args) : shapedD u = true := by
  rw [shaped_args, Bool.and_eq_true] at h
  exact shapedL_get h.2 hu
theorem occL_mem {l : List Ty} {u : Ty} (h : u ∈ l) {n : Int} (hn : n ∈ occD u) : n ∈ occL l := by
  induction l with
  | nil => cases h
  | cons p ps ih =>
    rw [occL, List.mem_append]
    rcases List.mem_cons.1 h with rfl | h
    · exact .inl hn
    · exact .inr (ih h)
theorem fold_keep {xs : List Int} {n : Int} : ∀ l : List Int, n ∈ xs → n ∈ l.foldl addV xs := by
  intro l
  induction l generalizing xs with
  | nil => intro h; exact h
  | cons m ms ih =>
    intro h
    rw [List.foldl_cons]
    refine ih ?_
    unfold addV
    split
    · exact h
    · simp [h]
theorem fold_mem {n : Int} : ∀ (l xs : List Int), n ∈ l → n ∈ l.foldl addV xs := by
  intro l
  induction l with
  | nil => intro xs h; cases h
  | cons m ms ih =>
    intro xs h
    rw [List.foldl_cons]
    rcases List.mem_cons.1 h with rfl | h
    · exact fold_keep ms (mem_addV xs _)
    · exact ih _ h
theorem parts_kid {t u : Ty} (h : u ∈ t.args) : parts u < parts t := by
  have h1 := parts_mem h
  rw [parts_args t]
  omega

/-- what variables stand for -/
abbrev Bnd := Int → Option Ty
/-- all of a list, or nothing -/
def allO {α β : Type} (g : α → Option β) : List α → Option (List β)
  | [] => some []
  | x :: xs => match g x, allO g xs with
    | some y, some ys => some (y :: ys)
    | _, _ => none
theorem allO_cons {α β : Type} {g : α → Option β} {x : α} {xs : List α} {l : List β} (h : allO g (x :: xs) = some l) : ∃ y ys, l = y :: ys ∧ g x = some y ∧ allO g xs = some ys := by
  rw [allO] at h
  split at h
  · rename_i y ys h1 h2
    exact ⟨y, ys, (Option.some.inj h).symm, h1, h2⟩
  · cases h
theorem allO_len {α β : Type} {g : α → Option β} : ∀ {xs : List α} {l : List β}, allO g xs = some l → l.length = xs.length
  | [], l, h => by rw [allO] at h; cases h; rfl
  | x :: xs, l, h => by
    obtain ⟨y, ys, rfl, _, h2⟩ := allO_cons h
    simp [allO_len h2]
theorem allO_get {α β : Type} {g : α → Option β} : ∀ {xs : List α} {l : List β}, allO g xs = some l → ∀ {i : Nat} {x : α}, xs[i]? = some x → ∃ y, l[i]? = some y ∧ g x = some y
  | [], l, h, i, x, hx => by simp at hx
  | a :: xs, l, h, i, x, hx => by
    obtain ⟨y, ys, rfl, h1, h2⟩ := allO_cons h
    cases i with
    | zero => simp at hx; subst hx; exact ⟨y, rfl, h1⟩
    | succ i =>
      obtain ⟨z, h3, h4⟩ := allO_get h2 (i := i) (x := x) (by simpa using hx)
      exact ⟨z, by simpa using h3, h4⟩
theorem allO_imp {α β : Type} {g g' : α → Option β} : ∀ {xs : List α} {l : List β}, (∀ x ∈ xs, ∀ y, g x = some y → g' x = some y) → allO g xs = some l → allO g' xs = some l
  | [], l, _, h => h
  | x :: xs, l, hi, h => by
    obtain ⟨y, ys, rfl, h1, h2⟩ := allO_cons h
    rw [allO, hi x (by simp) y h1, allO_imp (fun x hx => hi x (by simp [hx])) h2]
theorem allO_map {α β : Type} {g g' : α → Option β} (F : β → β) : ∀ {xs : List α} {l : List β}, (∀ x ∈ xs, ∀ y, g x = some y → g' x = some (F y)) → allO g xs = some l → allO g' xs = some (l.map F)
  | [], l, _, h => by rw [allO] at h; cases h; rfl
  | x :: xs, l, hi, h => by
    obtain ⟨y, ys, rfl, h1, h2⟩ := allO_cons h
    rw [allO, hi x (by simp) y h1, allO_map F (fun x hx => hi x (by simp [hx])) h2]
    rfl
theorem allO_take {α β : Type} {g : α → Option β} : ∀ {xs : List α} {l : List β}, allO g xs = some l → ∀ i, allO g (xs.take i) = some (l.take i)
  | [], l, h, i => by rw [allO] at h; cases h; simp [allO]
  | x :: xs, l, h, 0 => by simp [allO]
  | x :: xs, l, h, i + 1 => by
    obtain ⟨y, ys, rfl, h1, h2⟩ := allO_cons h
    rw [List.take_succ_cons, List.take_succ_cons, allO, h1, allO_take h2 i]
/-- a variable, bare -/
def bareT (n : Int) : Ty := .mk 0 n ⟨#[]⟩ 0 []
/-- a type with all of its variables replaced, in so many steps -/
def expand (σ : Bnd) : Nat → Ty → Option Ty
  | 0, _ => none
  | f + 1, t => if t.k = 0 then (match σ t.n with
      | none => some (bareT t.n)
      | some x => expand σ f x)
    else (allO (expand σ f) t.args).map fun l => .mk t.k t.n t.s t.q l
theorem expand_free {σ : Bnd} {t : Ty} (hk : t.k = 0) (hb : σ t.n = none) (f : Nat) : expand σ (f + 1) t = some (bareT t.n) := by rw [expand, if_pos hk, hb]
theorem expand_bound {σ : Bnd} {t x : Ty} (hk : t.k = 0) (hb : σ t.n = some x) (f : Nat) : expand σ (f + 1) t = expand σ f x := by rw [expand, if_pos hk, hb]
theorem expand_con {σ : Bnd} {t : Ty} (hk : t.k ≠ 0) (f : Nat) : expand σ (f + 1) t = (allO (expand σ f) t.args).map fun l => .mk t.k t.n t.s t.q l := by rw [expand, if_neg hk]
theorem expand_more {σ : Bnd} : ∀ {f : Nat} {t T : Ty}, expand σ f t = some T → ∀ {g : Nat}, f ≤ g → expand σ g t = some T
  | 0, t, T, h, g, _ => by simp [expand] at h
  | f + 1, t, T, h, g, hg => by
    obtain ⟨g, rfl⟩ : ∃ g', g = g' + 1 := ⟨g - 1, by omega⟩
    by_cases hk : t.k = 0
    · cases hb : σ t.n with
      | none => rw [expand_free hk hb] at h ⊢; exact h
      | some x =>
        rw [expand_bound hk hb] at h ⊢
        exact expand_more h (by omega)
    · rw [expand_con hk] at h ⊢
      obtain ⟨l, h1, h2⟩ := Option.map_eq_some_iff.1 h
      rw [allO_imp (fun x _ y h => expand_more h (by omega)) h1]
      exact congrArg some h2
/-- T is t with all of its variables replaced -/
def Ex (σ : Bnd) (t T : Ty) : Prop := ∃ f, expand σ f t = some T
theorem Ex.one {σ : Bnd} {t T T' : Ty} (h : Ex σ t T) (h' : Ex σ t T') : T = T' := by
  obtain ⟨f, h⟩ := h
  obtain ⟨g, h'⟩ := h'
  have h1 := expand_more h (Nat.le_max_left f g)
  have h2 := expand_more h' (Nat.le_max_right f g)
  exact Option.some.inj (h1.symm.trans h2)
theorem allO_exists {σ : Bnd} : ∀ {xs : List Ty}, (∀ x ∈ xs, ∃ T, Ex σ x T) → ∃ f l, allO (expand σ f) xs = some l
  | [], _ => ⟨0, [], rfl⟩
  | x :: xs, h => by
    obtain ⟨T, f, hf⟩ := h x (by simp)
    obtain ⟨g, l, hg⟩ := allO_exists (xs := xs) fun y hy => h y (by simp [hy])
    refine ⟨max f g, T :: l, ?_⟩
    rw [allO, expand_more hf (Nat.le_max_left f g), allO_imp (fun x _ y h => expand_more h (Nat.le_max_right f g)) hg]
theorem Ex.con {σ : Bnd} {t : Ty} (hk : t.k ≠ 0) {f : Nat} {l : List Ty} (h : allO (expand σ f) t.args = some l) : Ex σ t (.mk t.k t.n t.s t.q l) := ⟨f + 1, by rw [expand_con hk, h]; rfl⟩
theorem Ex.bound {σ : Bnd} {t x T : Ty} (hk : t.k = 0) (hb : σ t.n = some x) (h : Ex σ x T) : Ex σ t T := by
  obtain ⟨f, h⟩ := h
  exact ⟨f + 1, by rw [expand_bound hk hb]; exact h⟩
theorem Ex.free {σ : Bnd} {t : Ty} (hk : t.k = 0) (hb : σ t.n = none) : Ex σ t (bareT t.n) := ⟨1, expand_free hk hb 0⟩
/-- each type has such a one -/
def Total (σ : Bnd) : Prop := ∀ t, ∃ T, Ex σ t T
theorem total_none : Total (fun _ => none) := by
  suffices h : ∀ (f : Nat) (t : Ty), parts t ≤ f → ∃ T, Ex (fun _ => none) t T from fun t => h _ t (Nat.le_refl _)
  intro f
  induction f with
  | zero => intro t h; have := parts_pos t; omega
  | succ f ih =>
    intro t h
    by_cases hk : t.k = 0
    · exact ⟨_, Ex.free hk rfl⟩
    · obtain ⟨g, l, h⟩ := allO_exists (σ := fun _ => none) (xs := t.args) fun x hx => ih x (by have := parts_kid hx; omega)
      exact ⟨_, Ex.con hk h⟩
/-- a variable as it is told -/
def varT (e : Int → Bool) (n : Int) : Ty := .mk 0 n ⟨#[]⟩ (if e n then 1 else 0) []
/-- what a type is on top -/
def top (e : Int → Bool) (σ : Bnd) : Nat → Ty → Ty
  | 0, t => t
  | f + 1, t => if t.k = 0 then (match σ t.n with
      | none => varT e t.n
      | some x => top e σ f x)
    else t
/-- a type replaced, told by its top -/
theorem top_ex (e : Int → Bool) {σ : Bnd} : ∀ {f : Nat} {t T : Ty}, expand σ f t = some T → ((top e σ f t).k = 0 ∧ σ (top e σ f t).n = none ∧ top e σ f t = varT e (top e σ f t).n ∧ T = bareT (top e σ f t).n) ∨ ((top e σ f t).k ≠ 0 ∧ ∃ g l, g < f ∧ allO (expand σ g) (top e σ f t).args = some l ∧ T = .mk (top e σ f t).k (top e σ f t).n (top e σ f t).s (top e σ f t).q l)
  | 0, t, T, h => by simp [expand] at h
  | f + 1, t, T, h => by
    by_cases hk : t.k = 0
    · cases hb : σ t.n with
      | none =>
        rw [expand_free hk hb] at h
        have e1 : top e σ (f + 1) t = varT e t.n := by rw [top, if_pos hk, hb]
        rw [e1]
        exact .inl ⟨rfl, hb, rfl, (Option.some.inj h).symm⟩
      | some x =>
        rw [expand_bound hk hb] at h
        have e1 : top e σ (f + 1) t = top e σ f x := by rw [top, if_pos hk, hb]
        rw [e1]
        rcases top_ex e h with h1 | ⟨h1, g, l, hg, h2, h3⟩
        · exact .inl h1
        · exact .inr ⟨h1, g, l, by omega, h2, h3⟩
    · have e1 : top e σ (f + 1) t = t := by rw [top, if_neg hk]
      rw [e1]
      rw [expand_con hk] at h
      obtain ⟨l, h1, h2⟩ := Option.map_eq_some_iff.1 h
      exact .inr ⟨hk, f, l, by omega, h1, h2.symm⟩
theorem top_more (e : Int → Bool) {σ : Bnd} : ∀ {f : Nat} {t T : Ty}, expand σ f t = some T → ∀ {g : Nat}, f ≤ g → top e σ g t = top e σ f t
  | 0, t, T, h, g, _ => by simp [expand] at h
  | f + 1, t, T, h, g, hg => by
    obtain ⟨g, rfl⟩ : ∃ g', g = g' + 1 := ⟨g - 1, by omega⟩
    by_cases hk : t.k = 0
    · cases hb : σ t.n with
      | none => rw [top, top, if_pos hk, if_pos hk, hb]
      | some x =>
        rw [expand_bound hk hb] at h
        rw [top, top, if_pos hk, if_pos hk, hb]
        exact top_more e h (by omega)
    · rw [top, top, if_neg hk, if_neg hk]
/-- what holds of a type and of all that is bound holds of its top -/
theorem top_kept {e : Int → Bool} {σ : Bnd} (P : Ty → Prop) (hv : ∀ t : Ty, P t → t.k = 0 → P (varT e t.n)) (hb : ∀ n x, σ n = some x → P x) : ∀ (f : Nat) (t : Ty), P t → P (top e σ f t)
  | 0, t, h => h
  | f + 1, t, h => by
    rw [top]
    split
    · rename_i hk
      split
      · exact hv t h hk
      · rename_i x hx
        exact top_kept P hv hb f x (hb _ _ hx)
    · exact h
/- Proved: a variable that stands in no other thing may stand for it: all types can be replaced still. No condition. -/

theorem allO_imp2 {α β : Type} {g g' : α → Option β} : ∀ {xs : List α} {l : List β}, (∀ x ∈ xs, ∀ y ∈ l, g x = some y → g' x = some y) → allO g xs = some l → allO g' xs = some l
  | [], l, _, h => h
  | x :: xs, l, hi, h => by
    obtain ⟨y, ys, rfl, h1, h2⟩ := allO_cons h
    rw [allO, hi x (by simp) y (by simp) h1, allO_imp2 (fun x hx y hy => hi x (by simp [hx]) y (by simp [hy])) h2]
theorem allO_mem {α β : Type} {g : α → Option β} : ∀ {xs : List α} {l : List β}, allO g xs = some l → ∀ {y : β}, y ∈ l → ∃ x ∈ xs, g x = some y
  | [], l, h, y, hy => by rw [allO] at h; cases h; cases hy
  | x :: xs, l, h, y, hy => by
    obtain ⟨z, zs, rfl, h1, h2⟩ := allO_cons h
    rcases List.mem_cons.1 hy with rfl | hy
    · exact ⟨x, by simp, h1⟩
    · obtain ⟨a, ha, e⟩ := allO_mem h2 hy
      exact ⟨a, by simp [ha], e⟩
mutual
/-- a variable replaced -/
def subT (n : Int) (X : Ty) : Ty → Ty
  | .mk k m s q args => if k = 0 then (if m = n then X else .mk k m s q args) else .mk k m s q (subL n X args)
def subL (n : Int) (X : Ty) : List Ty → List Ty
  | [] => []
  | p :: ps => subT n X p :: subL n X ps
end
theorem subL_map (n : Int) (X : Ty) : ∀ l : List Ty, subL n X l = l.map (subT n X)
  | [] => by simp [subL]
  | p :: ps => by rw [subL, subL_map n X ps]; rfl
theorem sub_args (n : Int) (X T : Ty) : subT n X T = if T.k = 0 then (if T.n = n then X else T) else .mk T.k T.n T.s T.q (subL n X T.args) := by cases T; rw [subT]; rfl
mutual
theorem subT_not (n : Int) (X : Ty) : ∀ T : Ty, n ∉ occD T → subT n X T = T
  | .mk k m s q args, h => by
    rw [occD] at h
    rw [subT]
    split
    · rename_i hk
      rw [if_pos hk] at h
      rw [if_neg (fun e => h (by simp [e]))]
    · rename_i hk
      rw [if_neg hk] at h
      rw [subL_not n X args h]
theorem subL_not (n : Int) (X : Ty) : ∀ l : List Ty, n ∉ occL l → subL n X l = l
  | [], _ => by rw [subL]
  | p :: ps, h => by
    rw [occL, List.mem_append, not_or] at h
    rw [subL, subT_not n X p h.1, subL_not n X ps h.2]
end
/-- a variable stands for a type -/
def upd (σ : Bnd) (n : Int) (x : Ty) : Bnd := fun m => if m = n then some x else σ m
theorem upd_same (σ : Bnd) (n : Int) (x : Ty) : upd σ n x n = some x := by rw [upd, if_pos rfl]
theorem upd_other {σ : Bnd} {n m : Int} (x : Ty) (h : m ≠ n) : upd σ n x m = σ m := by rw [upd, if_neg h]
theorem expand_upd {σ : Bnd} {n : Int} (hn : σ n = none) (x : Ty) : ∀ {f : Nat} {t T : Ty}, expand σ f t = some T → n ∉ occD T → expand (upd σ n x) f t = some T
  | 0, t, T, h, _ => by simp [expand] at h
  | f + 1, t, T, h, ho => by
    by_cases hk : t.k = 0
    · cases hb : σ t.n with
      | none =>
        rw [expand_free hk hb] at h
        have e : T = bareT t.n := (Option.some.inj h).symm
        rw [e] at ho
        have hne : t.n ≠ n := fun e => ho (by rw [e]; simp [bareT, occD])
        rw [expand_free hk (by rw [upd_other x hne]; exact hb), e]
      | some y =>
        have hne : t.n ≠ n := fun e => by rw [e, hn] at hb; cases hb
        rw [expand_bound hk hb] at h
        rw [expand_bound hk (by rw [upd_other x hne]; exact hb)]
        exact expand_upd hn x h ho
    · rw [expand_con hk] at h ⊢
      obtain ⟨l, h1, h2⟩ := Option.map_eq_some_iff.1 h
      subst h2
      rw [occ_args, if_neg (show ¬ (Ty.mk t.k t.n t.s t.q l).k = 0 from hk)] at ho
      rw [allO_imp2 (fun a _ y hy h => expand_upd hn x h (fun hm => ho (occL_mem hy hm))) h1]
      rfl
theorem ex_upd {σ : Bnd} {n : Int} (hn : σ n = none) {x X : Ty} (hx : Ex σ x X) (ho : n ∉ occD X) : ∀ {f : Nat} {t T : Ty}, expand σ f t = some T → Ex (upd σ n x) t (subT n X T)
  | 0, t, T, h => by simp [expand] at h
  | f + 1, t, T, h => by
    by_cases hk : t.k = 0
    · cases hb : σ t.n with
      | none =>
        rw [expand_free hk hb] at h
        have e : T = bareT t.n := (Option.some.inj h).symm
        rw [e]
        by_cases hne : t.n = n
        · have e2 : subT n X (bareT t.n) = X := by rw [bareT, subT, if_pos rfl, if_pos hne]
          rw [e2]
          obtain ⟨g, hg⟩ := hx
          exact Ex.bound hk (x := x) (by rw [hne]; exact upd_same _ _ _) ⟨g, expand_upd hn x hg ho⟩
        · have e2 : subT n X (bareT t.n) = bareT t.n := by rw [bareT, subT, if_pos rfl, if_neg hne]
          rw [e2]
          exact Ex.free hk (by rw [upd_other x hne]; exact hb)
      | some y =>
        have hne : t.n ≠ n := fun e => by rw [e, hn] at hb; cases hb
        rw [expand_bound hk hb] at h
        exact Ex.bound hk (x := y) (by rw [upd_other x hne]; exact hb) (ex_upd hn hx ho h)
    · rw [expand_con hk] at h
      obtain ⟨l, h1, h2⟩ := Option.map_eq_some_iff.1 h
      subst h2
      rw [sub_args, if_neg (show ¬ (Ty.mk t.k t.n t.s t.q l).k = 0 from hk)]
      have hall : ∀ {xs l : List Ty}, allO (expand σ f) xs = some l → ∃ g, allO (expand (upd σ n x) g) xs = some (l.map (subT n X)) := by
        intro xs
        induction xs with
        | nil => intro l h; rw [allO] at h; cases h; exact ⟨0, rfl⟩
        | cons a rest ih =>
          intro l h
          obtain ⟨y, ys, rfl, h1, h2⟩ := allO_cons h
          obtain ⟨g1, e1⟩ := ih h2
          obtain ⟨g2, e2⟩ := ex_upd hn hx ho h1
          refine ⟨max g1 g2, ?_⟩
          rw [allO, expand_more e2 (Nat.le_max_right _ _), allO_imp (fun x _ y h => expand_more h (Nat.le_max_left _ _)) e1]
          rfl
      obtain ⟨g, hg⟩ := hall h1
      rw [subL_map]
      exact Ex.con hk hg
theorem total_upd {σ : Bnd} (h : Total σ) {n : Int} (hn : σ n = none) {x X : Ty} (hx : Ex σ x X) (ho : n ∉ occD X) : Total (upd σ n x) := fun t => by
  obtain ⟨T, f, hT⟩ := h t
  exact ⟨_, ex_upd hn hx ho hT⟩
/-- a type replaced -/
noncomputable def exT (σ : Bnd) (t : Ty) : Ty := open Classical in if h : ∃ T, Ex σ t T then h.choose else t
theorem exT_eq {σ : Bnd} {t T : Ty} (h : Ex σ t T) : exT σ t = T := by
  have h' : ∃ T, Ex σ t T := ⟨T, h⟩
  rw [exT, dif_pos h']
  exact h'.choose_spec.one h
theorem Total.ex {σ : Bnd} (h : Total σ) (t : Ty) : Ex σ t (exT σ t) := by
  obtain ⟨T, hT⟩ := h t
  rw [exT_eq hT]
  exact hT
/-- what a type is on top -/
noncomputable def topT (e : Int → Bool) (σ : Bnd) (t : Ty) : Ty := open Classical in if h : ∃ f T, expand σ f t = some T then top e σ h.choose t else t
theorem topT_eq (e : Int → Bool) {σ : Bnd} {f : Nat} {t T : Ty} (h : expand σ f t = some T) : topT e σ t = top e σ f t := by
  have h' : ∃ f T, expand σ f t = some T := ⟨f, T, h⟩
  rw [topT, dif_pos h']
  obtain ⟨T', h2⟩ := h'.choose_spec
  rcases Nat.le_total f h'.choose with hl | hl
  · exact top_more e h hl
  · exact (top_more e h2 hl).symm
/-- are a replaced type's values compared? -/
def cmpHead (T : Ty) : Option Bool := if T.k = 0 then some true else if T.k = 3 ∨ (T.k = 1 ∧ T.q = 0) then some false else if T.k = 1 ∧ T.q = 2 then some true else none
mutual
def cmpT : Ty → Bool
  | .mk k n s q args => if k = 0 then true else if k = 3 ∨ (k = 1 ∧ q = 0) then false else if k = 1 ∧ q = 2 then true else cmpL args
def cmpL : List Ty → Bool
  | [] => true
  | p :: ps => cmpT p && cmpL ps
end
mutual
/-- its variables that must be compared too -/
def cvT : Ty → List Int
  | .mk k n s q args => if k = 0 then [n] else if k = 1 ∧ q = 2 then [] else cvL args
def cvL : List Ty → List Int
  | [] => []
  | p :: ps => cvT p ++ cvL ps
end
theorem cmp_args (T : Ty) : cmpT T = if T.k = 0 then true else if T.k = 3 ∨ (T.k = 1 ∧ T.q = 0) then false else if T.k = 1 ∧ T.q = 2 then true else cmpL T.args := by cases T; rw [cmpT]; rfl
theorem cv_args (T : Ty) : cvT T = if T.k = 0 then [T.n] else if T.k = 1 ∧ T.q = 2 then [] else cvL T.args := by cases T; rw [cvT]; rfl
theorem cmpL_append : ∀ (l r : List Ty), cmpL (l ++ r) = (cmpL l && cmpL r)
  | [], r => by simp [cmpL]
  | p :: ps, r => by rw [List.cons_append, cmpL, cmpL, cmpL_append ps r, Bool.and_assoc]
theorem cvL_append : ∀ (l r : List Ty), cvL (l ++ r) = cvL l ++ cvL r
  | [], r => by simp [cvL]
  | p :: ps, r => by rw [List.cons_append, cvL, cvL, cvL_append ps r, List.append_assoc]
theorem cmpL_take {l : List Ty} {j : Nat} {u : Ty} (h : l[j]? = some u) : cmpL (l.take (j + 1)) = (cmpL (l.take j) && cmpT u) := by
  obtain ⟨hl, rfl⟩ := List.getElem?_eq_some_iff.1 h
  rw [List.take_succ_eq_append_getElem hl, cmpL_append, cmpL, cmpL, Bool.and_true]
theorem cvL_take {l : List Ty} {j : Nat} {u : Ty} (h : l[j]? = some u) : cvL (l.take (j + 1)) = cvL (l.take j) ++ cvT u := by
  obtain ⟨hl, rfl⟩ := List.getElem?_eq_some_iff.1 h
  rw [List.take_succ_eq_append_getElem hl, cvL_append, cvL, cvL, List.append_nil]
theorem cmpL_cut {l : List Ty} (j : Nat) (h : cmpL (l.take j) = false) : cmpL l = false := by
  have e : cmpL l = (cmpL (l.take j) && cmpL (l.drop j)) := by rw [← cmpL_append, List.take_append_drop]
  rw [e, h]; rfl
/-- what is known of variables -/
structure St where
  b : Bnd
  e : Int → Bool
def markE (e : Int → Bool) (l : List Int) : Int → Bool := fun n => e n || decide (n ∈ l)
theorem markE_nil (e : Int → Bool) : markE e [] = e := by funext n; simp [markE]
theorem markE_two (e : Int → Bool) (l r : List Int) : markE (markE e l) r = markE e (l ++ r) := by funext n; simp [markE, Bool.or_assoc]
/-- a variable stands for a type, if it may -/
noncomputable def bindD (s : St) (n : Int) (x : Ty) : St × Int :=
  if n ∈ occD (exT s.b x) then (s, 10)
  else if s.e n = true ∧ cmpT (exT s.b x) = false then (s, 11)
  else (⟨upd s.b n x, if s.e n = true then markE s.e (cvT (exT s.b x)) else s.e⟩, 0)
/-- one behind the other, up to the first error -/
def seqD (g : St → Ty → Ty → Option (St × Int)) : St → List Ty → List Ty → Option (St × Int)
  | s, [], _ => some (s, 0)
  | s, _ :: _, [] => some (s, 0)
  | s, p :: ps, r :: rs => match g s p r with
    | none => none
    | some (s', e) => if e = 0 then seqD g s' ps rs else some (s', e)
/-- two types are made the same -/
noncomputable def sameT : Nat → St → Ty → Ty → Option (St × Int)
  | 0, _, _, _ => none
  | f + 1, s, a, b =>
    if 400 < parts (exT s.b a) ∨ 400 < parts (exT s.b b) then some (s, 12)
    else if (topT s.e s.b a).k = 0 ∧ (topT s.e s.b b).k = 0 ∧ (topT s.e s.b a).n = (topT s.e s.b b).n then some (s, 0)
    else if (topT s.e s.b a).k = 0 then some (bindD s (topT s.e s.b a).n (topT s.e s.b b))
    else if (topT s.e s.b b).k = 0 then some (bindD s (topT s.e s.b b).n (topT s.e s.b a))
    else if headA (topT s.e s.b a) (topT s.e s.b b) = true then seqD (sameT f) s (topT s.e s.b a).args (topT s.e s.b b).args
    else some (s, 9)
/- Proved: making two types the same comes to an end, and keeps what is known in order. No condition. -/

mutual
/-- the variables that say of themselves that they are compared -/
def qoD : Ty → List Int
  | .mk k n s q args => if k = 0 then (if q = 1 then [n] else []) else qoL args
def qoL : List Ty → List Int
  | [] => []
  | p :: ps => qoD p ++ qoL ps
end
theorem qo_args (t : Ty) : qoD t = if t.k = 0 then (if t.q = 1 then [t.n] else []) else qoL t.args := by cases t; rw [qoD]; rfl
theorem qoL_append : ∀ (l r : List Ty), qoL (l ++ r) = qoL l ++ qoL r
  | [], r => by simp [qoL]
  | p :: ps, r => by rw [List.cons_append, qoL, qoL, qoL_append ps r, List.append_assoc]
theorem qoL_mem {l : List Ty} {u : Ty} (h : u ∈ l) {n : Int} (hn : n ∈ qoD u) : n ∈ qoL l := by
  induction l with
  | nil => cases h
  | cons p ps ih =>
    rw [qoL, List.mem_append]
    rcases List.mem_cons.1 h with rfl | h
    · exact .inl hn
    · exact .inr (ih h)
/-- a type in order: it fits, it may be, its marks are known, its variables are among these -/
structure Wf (V : List Int) (e : Int → Bool) (t : Ty) : Prop where
  fits : Fits t
  sh : shapedD t = true
  qs : ∀ n ∈ qoD t, e n = true
  vs : ∀ n ∈ occD t, n ∈ V
theorem Wf.kid {V : List Int} {e : Int → Bool} {t u : Ty} (h : Wf V e t) (hk : t.k ≠ 0) (hu : u ∈ t.args) : Wf V e u :=
  ⟨h.fits.args.get hu, shaped_mem h.sh hu, fun n hn => h.qs n (by rw [qo_args, if_neg hk]; exact qoL_mem hu hn), fun n hn => h.vs n (by rw [occ_args, if_neg hk]; exact occL_mem hu hn)⟩
theorem Wf.more {V : List Int} {e e' : Int → Bool} {t : Ty} (h : Wf V e t) (he : ∀ n, e n = true → e' n = true) : Wf V e' t := ⟨h.fits, h.sh, fun n hn => he n (h.qs n hn), h.vs⟩
theorem Wf.var {V : List Int} {e : Int → Bool} {t : Ty} (h : Wf V e t) (hk : t.k = 0) : Wf V e (varT e t.n) := by
  have hn := h.fits.n
  have hv : t.n ∈ V := h.vs t.n (by rw [occ_args, if_pos hk]; simp)
  refine ⟨?_, ?_, fun n hm => ?_, fun n hm => ?_⟩
  · unfold varT Fits
    refine ⟨⟨by unfold I64; omega, hn, by decide, ?_⟩, by simp, by unfold FitsL; trivial⟩
    unfold I64
    split <;> omega
  · unfold varT
    rw [shapedD, shapedL, Bool.and_true]
    have hnil : (⟨#[]⟩ : ByteArray).toList = [] := by simp
    rw [okT, if_pos (show (Ty.mk 0 t.n ⟨#[]⟩ (if e t.n = true then 1 else 0) []).k = 0 from rfl)]
    refine decide_eq_true ⟨rfl, hnil, ?_⟩
    show (if e t.n = true then (1 : Int) else 0) = 0 ∨ (if e t.n = true then (1 : Int) else 0) = 1
    cases e t.n
    · exact .inl rfl
    · exact .inr rfl
  · unfold varT at hm
    rw [qoD, if_pos rfl] at hm
    cases hen : e t.n with
    | true =>
      rw [hen] at hm
      simp at hm
      rw [hm]; exact hen
    | false =>
      rw [hen] at hm
      simp at hm
  · unfold varT at hm
    rw [occD, if_pos rfl, List.mem_singleton] at hm
    rw [hm]; exact hv
/-- what is known is in order -/
structure StOk (V : List Int) (s : St) : Prop where
  total : Total s.b
  wf : ∀ n x, s.b n = some x → n ∈ V ∧ Wf V s.e x
theorem ex_list {σ : Bnd} {g : Nat} : ∀ {xs l : List Ty}, allO (expand σ g) xs = some l → l = xs.map (exT σ)
  | [], l, h => by rw [allO] at h; cases h; rfl
  | x :: xs, l, h => by
    obtain ⟨y, ys, rfl, h1, h2⟩ := allO_cons h
    rw [List.map_cons, ex_list h2, exT_eq ⟨g, h1⟩]
/-- a type in order, told by its top -/
structure TopOk (V : List Int) (s : St) (t u : Ty) : Prop where
  wf : Wf V s.e u
  cases : (u.k = 0 ∧ s.b u.n = none ∧ u = varT s.e u.n ∧ exT s.b t = bareT u.n) ∨ (u.k ≠ 0 ∧ exT s.b t = .mk u.k u.n u.s u.q (u.args.map (exT s.b)))
  top : exT s.b u = exT s.b t
theorem top_ok {V : List Int} {s : St} (hs : StOk V s) {t : Ty} (ht : Wf V s.e t) : TopOk V s t (topT s.e s.b t) := by
  obtain ⟨T, f, hT⟩ := hs.total t
  rw [topT_eq s.e hT]
  have hex : exT s.b t = T := exT_eq ⟨f, hT⟩
  have hw : Wf V s.e (Go.Proofs.Ytdeomphilggokaa.top s.e s.b f t) := top_kept (fun x => Wf V s.e x) (fun t h hk => h.var hk) (fun n x hx => (hs.wf n x hx).2) f t ht
  have htop := top_ex s.e hT
  refine ⟨hw, ?_, ?_⟩
  · rcases htop with ⟨h1, h2, h3, h4⟩ | ⟨h1, g, l, _, h2, h3⟩
    · exact .inl ⟨h1, h2, h3, by rw [hex]; exact h4⟩
    · exact .inr ⟨h1, by rw [hex, h3, ex_list h2]⟩
  · rcases htop with ⟨h1, h2, h3, h4⟩ | ⟨h1, g, l, _, h2, h3⟩
    · rw [hex, h4]; exact exT_eq (Ex.free h1 h2)
    · rw [hex, h3]; exact exT_eq (Ex.con h1 h2)
/-- how many variables stand for nothing yet -/
def unb (V : List Int) (σ : Bnd) : Nat := (V.filter fun n => (σ n).isNone).length
theorem unb_upd {V : List Int} {σ : Bnd} {n : Int} (hV : n ∈ V) (hn : σ n = none) (x : Ty) : unb V (upd σ n x) < unb V σ := by
  unfold unb
  have hp : ∀ m, (upd σ n x m).isNone = true → (σ m).isNone = true := fun m h => by
    by_cases e : m = n
    · rw [e, hn]; rfl
    · rwa [upd_other x e] at h
  induction V with
  | nil => cases hV
  | cons m ms ih =>
    rw [List.filter_cons, List.filter_cons]
    rcases List.mem_cons.1 hV with rfl | hV
    · rw [if_neg (by rw [upd_same]; simp), if_pos (by rw [hn]; rfl)]
      have h1 : (ms.filter fun m => (upd σ n x m).isNone).length ≤ (ms.filter fun m => (σ m).isNone).length := by
        clear ih hV
        induction ms with
        | nil => simp
        | cons a rest ih =>
          rw [List.filter_cons, List.filter_cons]
          cases h2 : (upd σ n x a).isNone with
          | true => rw [if_pos rfl, if_pos (hp a h2)]; simp; exact ih
          | false =>
            rw [if_neg (by simp)]
            split
            · simp; omega
            · exact ih
      simp
      omega
    · have h1 := ih hV
      cases h2 : (upd σ n x m).isNone with
      | true => rw [if_pos rfl, if_pos (hp m h2)]; simp; exact h1
      | false =>
        rw [if_neg (by simp)]
        split
        · simp; omega
        · exact h1
/-- how one knows more -/
structure Grown (V : List Int) (s s' : St) : Prop where
  ok : StOk V s'
  e : ∀ n, s.e n = true → s'.e n = true
  b : s'.b = s.b ∨ unb V s'.b < unb V s.b
theorem Grown.refl {V : List Int} {s : St} (h : StOk V s) : Grown V s s := ⟨h, fun _ h => h, .inl rfl⟩
theorem Grown.trans {V : List Int} {s s1 s2 : St} (h : Grown V s s1) (h2 : Grown V s1 s2) : Grown V s s2 := by
  refine ⟨h2.ok, fun n hn => h2.e n (h.e n hn), ?_⟩
  rcases h.b with e | e
  · rcases h2.b with e2 | e2
    · exact .inl (e2.trans e)
    · rw [e] at e2; exact .inr e2
  · rcases h2.b with e2 | e2
    · rw [e2]; exact .inr e
    · exact .inr (Nat.lt_trans e2 e)
theorem bind_ok {V : List Int} {s : St} (hs : StOk V s) {n : Int} {x : Ty} (hV : n ∈ V) (hn : s.b n = none) (hx : Wf V s.e x) : (bindD s n x).2 = 10 ∨ (bindD s n x).2 = 11 ∨ ((bindD s n x).2 = 0 ∧ Grown V s (bindD s n x).1 ∧ (bindD s n x).1.b = upd s.b n x ∧ n ∉ occD (exT s.b x)) := by
  unfold bindD
  split
  · exact .inl rfl
  · rename_i ho
    split
    · exact .inr (.inl rfl)
    · have he : ∀ m, s.e m = true → (if s.e n = true then markE s.e (cvT (exT s.b x)) else s.e) m = true := fun m hm => by
        split
        · simp [markE, hm]
        · exact hm
      refine .inr (.inr ⟨rfl, ⟨⟨total_upd hs.total hn (hs.total.ex x) ho, fun m y hy => ?_⟩, he, .inr (unb_upd hV hn x)⟩, rfl, ho⟩)
      by_cases e : m = n
      · subst e
        have hy' : upd s.b m x m = some y := hy
        rw [upd_same] at hy'
        cases hy'
        exact ⟨hV, hx.more he⟩
      · have hy' : upd s.b n x m = some y := hy
        rw [upd_other x e] at hy'
        have h := hs.wf m y hy'
        exact ⟨h.1, h.2.more he⟩
/-- what making two types the same tells -/
def ErrOk (e : Int) : Prop := e = 0 ∨ e = 9 ∨ e = 10 ∨ e = 11 ∨ e = 12
theorem seq_grown {V : List Int} {g : St → Ty → Ty → Option (St × Int)} (hg : ∀ s a b, StOk V s → Wf V s.e a → Wf V s.e b → ∀ s' e, g s a b = some (s', e) → ErrOk e ∧ (e = 0 → Grown V s s')) : ∀ (as' bs : List Ty) (s : St), StOk V s → (∀ a ∈ as', Wf V s.e a) → (∀ b ∈ bs, Wf V s.e b) → ∀ s' e, seqD g s as' bs = some (s', e) → ErrOk e ∧ (e = 0 → Grown V s s')
  | [], bs, s, hs, _, _, s', e, h => by
    rw [seqD] at h
    cases h
    exact ⟨.inl rfl, fun _ => Grown.refl hs⟩
  | a :: as', [], s, hs, _, _, s', e, h => by
    rw [seqD] at h
    cases h
    exact ⟨.inl rfl, fun _ => Grown.refl hs⟩
  | a :: as', b :: bs, s, hs, ha, hb, s', e, h => by
    rw [seqD] at h
    split at h
    · cases h
    · rename_i s1 e1 h1
      obtain ⟨h2, h3⟩ := hg s a b hs (ha a (by simp)) (hb b (by simp)) s1 e1 h1
      by_cases e0 : e1 = 0
      · rw [if_pos e0] at h
        have hg1 := h3 e0
        obtain ⟨h4, h5⟩ := seq_grown hg as' bs s1 hg1.ok (fun x hx => (ha x (by simp [hx])).more hg1.e) (fun x hx => (hb x (by simp [hx])).more hg1.e) s' e h
        exact ⟨h4, fun h => hg1.trans (h5 h)⟩
      · rw [if_neg e0] at h
        cases h
        exact ⟨h2, fun h => absurd h e0⟩
theorem same_grown {V : List Int} : ∀ (f : Nat) (s : St) (a b : Ty), StOk V s → Wf V s.e a → Wf V s.e b → ∀ s' e, sameT f s a b = some (s', e) → ErrOk e ∧ (e = 0 → Grown V s s')
  | 0, s, a, b, _, _, _, s', e, h => by rw [sameT] at h; cases h
  | f + 1, s, a, b, hs, ha, hb, s', e, h => by
    have hta := top_ok hs ha
    have htb := top_ok hs hb
    rw [sameT] at h
    have hbind : ∀ n x, n ∈ V → s.b n = none → Wf V s.e x → some (bindD s n x) = some (s', e) → ErrOk e ∧ (e = 0 → Grown V s s') := fun n x hV hn hx h => by
      have e1 : bindD s n x = (s', e) := Option.some.inj h
      rcases bind_ok hs hV hn hx with h1 | h1 | ⟨h1, h2, _⟩
      · rw [e1] at h1; exact ⟨.inr (.inr (.inl h1)), fun h => by rw [h] at h1; cases h1⟩
      · rw [e1] at h1; exact ⟨.inr (.inr (.inr (.inl h1))), fun h => by rw [h] at h1; cases h1⟩
      · rw [e1] at h1 h2; exact ⟨.inl h1, fun _ => h2⟩
    have hfree : ∀ t u, TopOk V s t u → u.k = 0 → u.n ∈ V ∧ s.b u.n = none := fun t u ht hk => by
      rcases ht.cases with ⟨_, h2, _⟩ | ⟨h1, _⟩
      · exact ⟨ht.wf.vs u.n (by rw [occ_args, if_pos hk]; simp), h2⟩
      · exact absurd hk h1
    split at h
    · cases h; exact ⟨.inr (.inr (.inr (.inr rfl))), fun h => by cases h⟩
    · split at h
      · cases h; exact ⟨.inl rfl, fun _ => Grown.refl hs⟩
      · split at h
        · rename_i hk
          obtain ⟨h1, h2⟩ := hfree a _ hta hk
          exact hbind _ _ h1 h2 htb.wf h
        · rename_i hka
          split at h
          · rename_i hk
            obtain ⟨h1, h2⟩ := hfree b _ htb hk
            exact hbind _ _ h1 h2 hta.wf h
          · rename_i hkb
            split at h
            · exact seq_grown (fun s a b h1 h2 h3 s' e h => same_grown f s a b h1 h2 h3 s' e h) _ _ s hs (fun x hx => hta.wf.kid hka hx) (fun x hx => htb.wf.kid hkb hx) s' e h
            · cases h; exact ⟨.inr (.inl rfl), fun h => by cases h⟩
/-- how long it may go on -/
noncomputable def mu (V : List Int) (s : St) (a : Ty) : Nat := unb V s.b * 401 + min 401 (parts (exT s.b a))
theorem mu_one {u p N : Nat} (h : u * 401 + p ≤ N) : u * 401 + min 401 p ≤ N := Nat.le_trans (Nat.add_le_add_left (Nat.min_le_right _ _) _) h
theorem mu_two {u u0 p N : Nat} (e : u < u0) (h : u0 * 401 ≤ N) : u * 401 + min 401 p ≤ N := by
  have h2 : (u + 1) * 401 ≤ u0 * 401 := Nat.mul_le_mul_right _ e
  have h3 : min 401 p ≤ 401 := Nat.min_le_left _ _
  rw [Nat.add_mul, Nat.one_mul] at h2
  exact Nat.le_trans (Nat.le_trans (Nat.add_le_add_left h3 _) h2) h
set_option maxRecDepth 100000 in
theorem mu_low {u p q f : Nat} (h : u * 401 + min 401 p ≤ f + 1) (hp : p ≤ 400) (hq : q < p) : q < 401 ∧ u * 401 + q ≤ f := by
  rw [Nat.min_eq_right (by omega)] at h
  omega
set_option maxRecDepth 100000 in
theorem mu_low0 {u p f : Nat} (h : u * 401 + min 401 p ≤ f + 1) (hp : 0 < p) : u * 401 ≤ f := by
  have h3 : 0 < min 401 p := by rw [Nat.lt_min]; exact ⟨by decide, hp⟩
  omega
set_option maxRecDepth 100000 in
theorem seq_ends {V : List Int} {g : St → Ty → Ty → Option (St × Int)} {N : Nat} (s0 : St) (hg : ∀ s a b, StOk V s → Wf V s.e a → Wf V s.e b → ∀ s' e, g s a b = some (s', e) → ErrOk e ∧ (e = 0 → Grown V s s')) (hN : ∀ s a b, StOk V s → Wf V s.e a → Wf V s.e b → mu V s a ≤ N → g s a b ≠ none) : ∀ (as' bs : List Ty) (s : St), StOk V s → (s.b = s0.b ∨ unb V s.b < unb V s0.b) → (∀ a ∈ as', parts (exT s0.b a) < 401 ∧ unb V s0.b * 401 + parts (exT s0.b a) ≤ N) → unb V s0.b * 401 ≤ N → (∀ a ∈ as', Wf V s.e a) → (∀ b ∈ bs, Wf V s.e b) → seqD g s as' bs ≠ none
  | [], bs, s, hs, _, _, _, _, _ => by rw [seqD]; simp
  | a :: as', [], s, hs, _, _, _, _, _ => by rw [seqD]; simp
  | a :: as', b :: bs, s, hs, hu, hp, hN0, ha, hb => by
    rw [seqD]
    have h1 : mu V s a ≤ N := by
      unfold mu
      have hpa := hp a (by simp)
      rcases hu with e | e
      · rw [e]
        exact mu_one hpa.2
      · exact mu_two e hN0
    have h2 := hN s a b hs (ha a (by simp)) (hb b (by simp)) h1
    split
    · rename_i h3; exact fun _ => h2 h3
    · rename_i s1 e1 h3
      split
      · rename_i e0
        have hg1 := (hg s a b hs (ha a (by simp)) (hb b (by simp)) s1 e1 h3).2 e0
        refine seq_ends s0 hg hN as' bs s1 hg1.ok ?_ (fun x hx => hp x (by simp [hx])) hN0 (fun x hx => (ha x (by simp [hx])).more hg1.e) (fun x hx => (hb x (by simp [hx])).more hg1.e)
        rcases hg1.b with e | e
        · rw [e]; exact hu
        · rcases hu with e2 | e2
          · rw [e2] at e; exact .inr e
          · exact .inr (Nat.lt_trans e e2)
      · simp
set_option maxRecDepth 100000 in
theorem same_ends {V : List Int} : ∀ (f : Nat) (s : St) (a b : Ty), StOk V s → Wf V s.e a → Wf V s.e b → mu V s a ≤ f → sameT f s a b ≠ none
  | 0, s, a, b, _, _, _, h => by
    unfold mu at h
    have h1 := parts_pos (exT s.b a)
    have h3 : 0 < min 401 (parts (exT s.b a)) := by rw [Nat.lt_min]; exact ⟨by decide, h1⟩
    exact absurd (Nat.le_trans (Nat.le_add_left _ _) h) (Nat.not_le_of_lt h3)
  | f + 1, s, a, b, hs, ha, hb, h => by
    rw [sameT]
    split
    · simp
    · rename_i hbig
      split
      · simp
      · split
        · simp
        · rename_i hka
          split
          · simp
          · rename_i hkb
            split
            · have hta := top_ok hs ha
              have htb := top_ok hs hb
              have hlt : parts (exT s.b a) ≤ 400 := by omega
              have hpa : ∀ x ∈ (topT s.e s.b a).args, parts (exT s.b x) < parts (exT s.b a) := fun x hx => by
                rcases hta.cases with ⟨h1, _⟩ | ⟨_, h2⟩
                · exact absurd h1 hka
                · rw [h2]
                  exact parts_kid (t := .mk _ _ _ _ _) (List.mem_map_of_mem hx)
              unfold mu at h
              refine seq_ends s (fun s a b h1 h2 h3 s' e h => same_grown f s a b h1 h2 h3 s' e h) (fun s a b h1 h2 h3 h4 => same_ends f s a b h1 h2 h3 h4) _ _ s hs (.inl rfl) (fun x hx => ?_) ?_ (fun x hx => hta.wf.kid hka hx) (fun x hx => htb.wf.kid hkb hx)
              · exact mu_low h hlt (hpa x hx)
              · exact mu_low0 h (parts_pos _)
            · simp
end Go.Proofs.Ytdeomphilggokaa
