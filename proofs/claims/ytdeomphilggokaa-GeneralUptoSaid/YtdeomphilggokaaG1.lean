/-
  Proved: what Solve finds makes all pairs the same, and is most general, in plain Lean. No condition.
-/
import Derived.Test.YtdeomphilggokaaT5
import Derived.Test.YtdeomphilggokaaT6
import Derived.Test.YtdeomphilggokaaQ2
import Derived.Deep.AppendLies
set_option linter.unusedSimpArgs false
set_option linter.unusedVariables false
namespace Go.Proofs.Ytdeomphilggokaa
open Go.RowKit

mutual
/-- a type as it is compared -/
def er : Ty → Ty
  | .mk k n s _ args => .mk k n ⟨⟨s.toList⟩⟩ 0 (erL args)
def erL : List Ty → List Ty
  | [] => []
  | p :: ps => er p :: erL ps
end
theorem erL_map : ∀ l : List Ty, erL l = l.map er
  | [] => by simp [erL]
  | p :: ps => by rw [erL, erL_map ps]; rfl
theorem er_args (t : Ty) : er t = .mk t.k t.n ⟨⟨t.s.toList⟩⟩ 0 (t.args.map er) := by cases t; rw [er, erL_map]; rfl
mutual
theorem alike_er : ∀ t u : Ty, alikeD t u = true ↔ er t = er u
  | .mk k n s q args, .mk k' n' s' q' args' => by
    rw [alikeD, er, er, Bool.and_eq_true, headA, decide_eq_true_eq]
    show ((k = k' ∧ s.toList = s'.toList ∧ n = n' ∧ args.length = args'.length) ∧ _) ↔ _
    constructor
    · rintro ⟨⟨h1, h2, h3, h4⟩, h5⟩
      rw [h1, h2, h3, (alikeL_er args args' h4).1 h5]
    · intro h
      injection h with h1 h2 h3 h4 h5
      injection h3 with h3
      injection h3 with h3
      have h6 : args.length = args'.length := by
        have := congrArg List.length h5
        rw [erL_map, erL_map, List.length_map, List.length_map] at this
        exact this
      exact ⟨⟨h1, h3, h2, h6⟩, (alikeL_er args args' h6).2 h5⟩
theorem alikeL_er : ∀ l r : List Ty, l.length = r.length → (alikeL l r = true ↔ erL l = erL r)
  | [], [], _ => by simp [alikeL, erL]
  | [], _ :: _, h => by simp at h
  | _ :: _, [], h => by simp at h
  | p :: ps, r :: rs, h => by
    rw [alikeL, erL, erL, Bool.and_eq_true, alike_er p r, alikeL_er ps rs (by simpa using h)]
    constructor
    · rintro ⟨h1, h2⟩; rw [h1, h2]
    · intro h; injection h with h1 h2; exact ⟨h1, h2⟩
end
mutual
theorem er_parts : ∀ t : Ty, parts (er t) = parts t
  | .mk k n s q args => by rw [er, parts, parts, erL_parts args]
theorem erL_parts : ∀ l : List Ty, partsL (erL l) = partsL l
  | [] => by rw [erL]
  | p :: ps => by rw [erL, partsL, partsL, er_parts p, erL_parts ps]
end
mutual
theorem er_occ : ∀ t : Ty, occD (er t) = occD t
  | .mk k n s q args => by rw [er, occD, occD, erL_occ args]
theorem erL_occ : ∀ l : List Ty, occL (erL l) = occL l
  | [] => by rw [erL]
  | p :: ps => by rw [erL, occL, occL, er_occ p, erL_occ ps]
end
mutual
/-- each variable replaced -/
def subS (g : Int → Ty) : Ty → Ty
  | .mk k n s q args => if k = 0 then g n else .mk k n s q (subSL g args)
def subSL (g : Int → Ty) : List Ty → List Ty
  | [] => []
  | p :: ps => subS g p :: subSL g ps
end
theorem subSL_map (g : Int → Ty) : ∀ l : List Ty, subSL g l = l.map (subS g)
  | [] => by simp [subSL]
  | p :: ps => by rw [subSL, subSL_map g ps]; rfl
theorem subS_args (g : Int → Ty) (t : Ty) : subS g t = if t.k = 0 then g t.n else .mk t.k t.n t.s t.q (t.args.map (subS g)) := by cases t; rw [subS, subSL_map]; rfl
mutual
theorem er_sub (g : Int → Ty) : ∀ t : Ty, er (subS g t) = subS (fun n => er (g n)) (er t)
  | .mk k n s q args => by
    rw [er, subS, subS]
    split
    · rfl
    · rw [er, er_subL g args]
theorem er_subL (g : Int → Ty) : ∀ l : List Ty, erL (subSL g l) = subSL (fun n => er (g n)) (erL l)
  | [] => by simp [subSL, erL]
  | p :: ps => by rw [subSL, erL, erL, subSL, er_sub g p, er_subL g ps]
end
theorem sub_er (g : Int → Ty) {t u : Ty} (h : er t = er u) : er (subS g t) = er (subS g u) := by rw [er_sub, er_sub, h]
mutual
theorem sub_sub (g h : Int → Ty) : ∀ t : Ty, subS g (subS h t) = subS (fun n => subS g (h n)) t
  | .mk k n s q args => by
    rw [subS, subS]
    split
    · rfl
    · rename_i hk
      rw [subS, if_neg hk, sub_subL g h args]
theorem sub_subL (g h : Int → Ty) : ∀ l : List Ty, subSL g (subSL h l) = subSL (fun n => subS g (h n)) l
  | [] => by simp [subSL]
  | p :: ps => by rw [subSL, subSL, subSL, sub_sub g h p, sub_subL g h ps]
end
mutual
theorem sub_ext {g h : Int → Ty} : ∀ t : Ty, (∀ n ∈ occD t, g n = h n) → subS g t = subS h t
  | .mk k n s q args, H => by
    rw [occD] at H
    rw [subS, subS]
    split
    · rename_i hk
      rw [if_pos hk] at H
      exact H n (by simp)
    · rename_i hk
      rw [if_neg hk] at H
      rw [subL_ext args H]
theorem subL_ext {g h : Int → Ty} : ∀ l : List Ty, (∀ n ∈ occL l, g n = h n) → subSL g l = subSL h l
  | [], _ => by simp [subSL]
  | p :: ps, H => by
    rw [occL] at H
    rw [subSL, subSL, sub_ext p fun n hn => H n (by simp [hn]), subL_ext ps fun n hn => H n (by simp [hn])]
end
theorem sub_erext {g h : Int → Ty} (t : Ty) (H : ∀ n ∈ occD t, er (g n) = er (h n)) : er (subS g t) = er (subS h t) := by
  rw [er_sub, er_sub]
  exact sub_ext _ fun n hn => H n (by rwa [er_occ] at hn)
mutual
theorem sub_big (g : Int → Ty) (n : Int) : ∀ t : Ty, n ∈ occD t → parts (g n) ≤ parts (subS g t) ∧ (t.k ≠ 0 → parts (g n) < parts (subS g t))
  | .mk k m s q args, h => by
    rw [occD] at h
    rw [subS]
    split
    · rename_i hk
      rw [if_pos hk, List.mem_singleton] at h
      rw [h]
      exact ⟨Nat.le_refl _, fun h => absurd hk h⟩
    · rename_i hk
      rw [if_neg hk] at h
      have := sub_bigL g n args h
      rw [parts]
      exact ⟨by omega, fun _ => by omega⟩
theorem sub_bigL (g : Int → Ty) (n : Int) : ∀ l : List Ty, n ∈ occL l → parts (g n) ≤ partsL (subSL g l)
  | [], h => by rw [occL] at h; cases h
  | p :: ps, h => by
    rw [occL, List.mem_append] at h
    rw [subSL, partsL]
    rcases h with h | h
    · have := (sub_big g n p h).1; omega
    · have := sub_bigL g n ps h; omega
end
/-- a type that is no variable, replaced -/
theorem ex_con {σ : Bnd} (h : Total σ) {t : Ty} (hk : t.k ≠ 0) : exT σ t = .mk t.k t.n t.s t.q (t.args.map (exT σ)) := by
  obtain ⟨f, l, hl⟩ := allO_exists (σ := σ) (xs := t.args) fun x _ => h x
  rw [exT_eq (Ex.con hk hl), ex_list hl]
theorem ex_var {σ : Bnd} (h : Total σ) {t : Ty} (hk : t.k = 0) : exT σ t = exT σ (bareT t.n) := by
  obtain ⟨T, f, hT⟩ := h t
  rw [exT_eq ⟨f, hT⟩]
  cases f with
  | zero => simp [expand] at hT
  | succ f =>
    refine (exT_eq ⟨f + 1, ?_⟩).symm
    cases hb : σ t.n with
    | none =>
      rw [expand_free hk hb] at hT
      rw [expand_free (t := bareT t.n) rfl hb]
      exact hT
    | some x =>
      rw [expand_bound hk hb] at hT
      rw [expand_bound (t := bareT t.n) rfl hb]
      exact hT
theorem ex_free {σ : Bnd} {n : Int} (h : σ n = none) : exT σ (bareT n) = bareT n := exT_eq (Ex.free (t := bareT n) rfl h)
theorem ex_sub {σ : Bnd} (h : Total σ) : ∀ (f : Nat) (t : Ty), parts t ≤ f → exT σ t = subS (fun n => exT σ (bareT n)) t
  | 0, t, hf => by have := parts_pos t; omega
  | f + 1, t, hf => by
    rw [subS_args]
    split
    · rename_i hk; exact ex_var h hk
    · rename_i hk
      rw [ex_con h hk]
      have : t.args.map (exT σ) = t.args.map (subS fun n => exT σ (bareT n)) := List.map_congr_left fun x hx => ex_sub h f x (by have := parts_kid hx; omega)
      rw [this]
theorem ex_subS {σ : Bnd} (h : Total σ) (t : Ty) : exT σ t = subS (fun n => exT σ (bareT n)) t := ex_sub h _ t (Nat.le_refl _)
mutual
theorem subT_er (n : Int) (X : Ty) : ∀ t : Ty, er (subT n X t) = subT n (er X) (er t)
  | .mk k m s q args => by
    rw [er, subT, subT]
    split
    · split
      · rfl
      · rw [er]
    · rw [er, subTL_er n X args]
theorem subTL_er (n : Int) (X : Ty) : ∀ l : List Ty, erL (subL n X l) = subL n (er X) (erL l)
  | [] => by simp [subL, erL]
  | p :: ps => by rw [subL, erL, erL, subL, subT_er n X p, subTL_er n X ps]
end
mutual
theorem sub_subT (g : Int → Ty) (n : Int) (X : Ty) (h : er (g n) = er (subS g X)) : ∀ t : Ty, er (subS g (subT n X t)) = er (subS g t)
  | .mk k m s q args => by
    rw [subT]
    split
    · rename_i hk
      split
      · rename_i hm
        rw [subS, if_pos hk, hm, h]
      · rfl
    · rename_i hk
      rw [subS, subS, if_neg hk, if_neg hk, er, er, sub_subTL g n X h args]
theorem sub_subTL (g : Int → Ty) (n : Int) (X : Ty) (h : er (g n) = er (subS g X)) : ∀ l : List Ty, erL (subSL g (subL n X l)) = erL (subSL g l)
  | [] => by simp [subL]
  | p :: ps => by rw [subL, subSL, subSL, erL, erL, sub_subT g n X h p, sub_subTL g n X h ps]
end
theorem ex_upd_eq {σ : Bnd} (h : Total σ) {n : Int} (hn : σ n = none) (x : Ty) (ho : n ∉ occD (exT σ x)) (t : Ty) : exT (upd σ n x) t = subT n (exT σ x) (exT σ t) := by
  obtain ⟨f, hf⟩ := h.ex t
  exact exT_eq (ex_upd hn (h.ex x) ho hf)
/-- more is known: what was the same stays the same -/
def Ext (σ σ' : Bnd) : Prop := ∃ θ : Ty → Ty, (∀ t, exT σ' t = θ (exT σ t)) ∧ ∀ T U, er T = er U → er (θ T) = er (θ U)
theorem Ext.refl (σ : Bnd) : Ext σ σ := ⟨fun T => T, fun _ => rfl, fun _ _ h => h⟩
theorem Ext.trans {σ σ1 σ2 : Bnd} (h : Ext σ σ1) (h2 : Ext σ1 σ2) : Ext σ σ2 := by
  obtain ⟨θ, a, b⟩ := h
  obtain ⟨θ2, a2, b2⟩ := h2
  exact ⟨fun T => θ2 (θ T), fun t => by rw [a2, a], fun T U h => b2 _ _ (b _ _ h)⟩
theorem Ext.keep {σ σ' : Bnd} (h : Ext σ σ') {t u : Ty} (e : er (exT σ t) = er (exT σ u)) : er (exT σ' t) = er (exT σ' u) := by
  obtain ⟨θ, a, b⟩ := h
  rw [a, a]
  exact b _ _ e
theorem Ext.eq {σ σ' : Bnd} (h : Ext σ σ') {t u : Ty} (e : exT σ t = exT σ u) : exT σ' t = exT σ' u := by
  obtain ⟨θ, a, b⟩ := h
  rw [a, a, e]
theorem bind_ext {V : List Int} {s : St} (hs : StOk V s) {n : Int} (hn : s.b n = none) {x : Ty} {s' : St} (h : bindD s n x = (s', 0)) : Ext s.b s'.b ∧ er (exT s'.b (bareT n)) = er (exT s'.b x) ∧ s'.b = upd s.b n x ∧ n ∉ occD (exT s.b x) := by
  unfold bindD at h
  split at h
  · injection h with h1 h2; cases h2
  · rename_i ho
    split at h
    · injection h with h1 h2; cases h2
    · injection h with h1 h2
      subst h1
      have hx := ex_upd_eq hs.total hn x ho
      refine ⟨⟨_, hx, fun T U h => by rw [subT_er, subT_er, h]⟩, ?_, rfl, ho⟩
      show er (exT (upd s.b n x) (bareT n)) = er (exT (upd s.b n x) x)
      rw [hx, hx, ex_free hn, subT_not n _ _ ho, bareT, subT, if_pos rfl, if_pos rfl]
theorem seq_sound {V : List Int} {g : St → Ty → Ty → Option (St × Int)} (hg : ∀ s a b, StOk V s → Wf V s.e a → Wf V s.e b → ∀ s' e, g s a b = some (s', e) → ErrOk e ∧ (e = 0 → Grown V s s'))
    (hs2 : ∀ s a b, StOk V s → Wf V s.e a → Wf V s.e b → ∀ s', g s a b = some (s', 0) → Ext s.b s'.b ∧ er (exT s'.b a) = er (exT s'.b b)) : ∀ (as' bs : List Ty) (s : St), as'.length = bs.length → StOk V s → (∀ a ∈ as', Wf V s.e a) → (∀ b ∈ bs, Wf V s.e b) → ∀ s', seqD g s as' bs = some (s', 0) → Ext s.b s'.b ∧ as'.map (fun a => er (exT s'.b a)) = bs.map (fun a => er (exT s'.b a))
  | [], [], s, _, hs, _, _, s', h => by
    rw [seqD] at h
    injection h with h
    injection h with h
    subst h
    exact ⟨Ext.refl _, rfl⟩
  | [], _ :: _, s, hl, _, _, _, _, _ => by simp at hl
  | _ :: _, [], s, hl, _, _, _, _, _ => by simp at hl
  | a :: as', b :: bs, s, hl, hs, ha, hb, s', h => by
    rw [seqD] at h
    split at h
    · cases h
    · rename_i s1 e1 h1
      have h2 := (hg s a b hs (ha a (by simp)) (hb b (by simp)) s1 e1 h1).2
      by_cases e0 : e1 = 0
      · rw [if_pos e0] at h
        have hgr := h2 e0
        subst e0
        obtain ⟨h3, h4⟩ := hs2 s a b hs (ha a (by simp)) (hb b (by simp)) s1 h1
        obtain ⟨h5, h6⟩ := seq_sound hg hs2 as' bs s1 (by simpa using hl) hgr.ok (fun x hx => (ha x (by simp [hx])).more hgr.e) (fun x hx => (hb x (by simp [hx])).more hgr.e) s' h
        refine ⟨h3.trans h5, ?_⟩
        rw [List.map_cons, List.map_cons, h6, h5.keep h4]
      · rw [if_neg e0] at h
        injection h with h
        injection h with h5 h6
        exact absurd h6 e0
theorem same_sound {V : List Int} : ∀ (f : Nat) (s : St) (a b : Ty), StOk V s → Wf V s.e a → Wf V s.e b → ∀ s', sameT f s a b = some (s', 0) → Ext s.b s'.b ∧ er (exT s'.b a) = er (exT s'.b b)
  | 0, s, a, b, _, _, _, s', h => by rw [sameT] at h; cases h
  | f + 1, s, a, b, hs, ha, hb, s', h => by
    have hgr := (same_grown (f + 1) s a b hs ha hb s' 0 h).2 rfl
    have hta := top_ok hs ha
    have htb := top_ok hs hb
    obtain ⟨A, hA⟩ : ∃ A, A = topT s.e s.b a := ⟨_, rfl⟩
    obtain ⟨B, hB⟩ : ∃ B, B = topT s.e s.b b := ⟨_, rfl⟩
    rw [sameT, ← hA, ← hB] at h
    rw [← hA] at hta
    rw [← hB] at htb
    clear hA hB
    split at h
    · injection h with h; injection h with h1 h2; cases h2
    · split at h
      · rename_i hk
        injection h with h; injection h with h1 h2
        subst h1
        refine ⟨Ext.refl _, ?_⟩
        rcases hta.cases with ⟨_, _, _, e1⟩ | ⟨e1, _⟩
        · rcases htb.cases with ⟨_, _, _, e2⟩ | ⟨e2, _⟩
          · rw [e1, e2, hk.2.2]
          · exact absurd hk.2.1 e2
        · exact absurd hk.1 e1
      · split at h
        · rename_i hk
          rcases hta.cases with ⟨_, hn, _, e1⟩ | ⟨e1, _⟩
          · obtain ⟨h1, h2, _, _⟩ := bind_ext hs hn (Option.some.inj h)
            refine ⟨h1, ?_⟩
            rw [h1.eq (t := a) (u := bareT A.n) (by rw [e1, ex_free hn]), h2, h1.eq htb.top]
          · exact absurd hk e1
        · rename_i hka
          split at h
          · rename_i hk
            rcases htb.cases with ⟨_, hn, _, e1⟩ | ⟨e1, _⟩
            · obtain ⟨h1, h2, _, _⟩ := bind_ext hs hn (Option.some.inj h)
              refine ⟨h1, ?_⟩
              rw [h1.eq (t := b) (u := bareT B.n) (by rw [e1, ex_free hn]), h2, h1.eq hta.top]
            · exact absurd hk e1
          · rename_i hkb
            split at h
            · rename_i hh
              unfold headA at hh
              have hh := of_decide_eq_true hh
              obtain ⟨h1, h2⟩ := seq_sound (V := V) (fun s a b h1 h2 h3 s' e h => same_grown f s a b h1 h2 h3 s' e h) (fun s a b h1 h2 h3 s' h => same_sound f s a b h1 h2 h3 s' h) _ _ s hh.2.2.2 hs (fun x hx => hta.wf.kid hka hx) (fun x hx => htb.wf.kid hkb hx) s' h
              refine ⟨h1, ?_⟩
              rw [← h1.eq hta.top, ← h1.eq htb.top, ex_con hgr.ok.total hka, ex_con hgr.ok.total hkb, er_args, er_args]
              show Ty.mk A.k A.n ⟨⟨A.s.toList⟩⟩ 0 ((A.args.map (exT s'.b)).map er) = Ty.mk B.k B.n ⟨⟨B.s.toList⟩⟩ 0 ((B.args.map (exT s'.b)).map er)
              have h3 : (A.args.map (exT s'.b)).map er = (B.args.map (exT s'.b)).map er := by rw [List.map_map, List.map_map]; exact h2
              rw [hh.1, hh.2.1, hh.2.2.1, h3]
            · injection h with h; injection h with h1 h2; cases h2
/-- some replacement makes the same what is known to be so -/
def Resp (g : Int → Ty) (σ : Bnd) : Prop := ∀ n, er (g n) = er (subS g (exT σ (bareT n)))
theorem resp_all {g : Int → Ty} {σ : Bnd} (ht : Total σ) (h : Resp g σ) (t : Ty) : er (subS g t) = er (subS g (exT σ t)) := by
  rw [ex_subS ht t, sub_sub]
  exact sub_erext t fun n _ => h n
theorem bind_resp {V : List Int} {s : St} (hs : StOk V s) {n : Int} (hn : s.b n = none) {x : Ty} (g : Int → Ty) (hr : Resp g s.b) (hx : er (g n) = er (subS g (exT s.b x))) (hv : exT s.b x ≠ bareT n) (hc : (exT s.b x).k = 0 → exT s.b x = bareT (exT s.b x).n) {s' : St} {e : Int} (h : bindD s n x = (s', e)) : (e = 0 ∧ Resp g s'.b) ∨ e = 11 := by
  have ho : n ∉ occD (exT s.b x) := fun ho => by
    by_cases hk : (exT s.b x).k = 0
    · have h2 := hc hk
      rw [h2, bareT, occD, if_pos rfl, List.mem_singleton] at ho
      rw [← ho] at h2
      exact hv h2
    · have h1 := (sub_big g n _ ho).2 hk
      have h2 := congrArg parts hx
      rw [er_parts, er_parts] at h2
      omega
  unfold bindD at h
  rw [if_neg ho] at h
  split at h
  · injection h with h1 h2; exact .inr h2.symm
  · injection h with h1 h2
    subst h1
    refine .inl ⟨h2.symm, fun m => ?_⟩
    show er (g m) = er (subS g (exT (upd s.b n x) (bareT m)))
    rw [ex_upd_eq hs.total hn x ho, sub_subT g n _ hx]
    exact hr m
theorem seq_resp {V : List Int} {g : Int → Ty} {G : St → Ty → Ty → Option (St × Int)} (hg : ∀ s a b, StOk V s → Wf V s.e a → Wf V s.e b → ∀ s' e, G s a b = some (s', e) → ErrOk e ∧ (e = 0 → Grown V s s'))
    (hs2 : ∀ s a b, StOk V s → Wf V s.e a → Wf V s.e b → Resp g s.b → er (subS g a) = er (subS g b) → ∀ s' e, G s a b = some (s', e) → (e = 0 ∧ Resp g s'.b) ∨ e = 11 ∨ e = 12) : ∀ (as' bs : List Ty) (s : St), StOk V s → (∀ a ∈ as', Wf V s.e a) → (∀ b ∈ bs, Wf V s.e b) → Resp g s.b → as'.map (fun a => er (subS g a)) = bs.map (fun a => er (subS g a)) → ∀ s' e, seqD G s as' bs = some (s', e) → (e = 0 ∧ Resp g s'.b) ∨ e = 11 ∨ e = 12
  | [], bs, s, hs, _, _, hr, _, s', e, h => by
    rw [seqD] at h
    injection h with h
    injection h with h h2
    subst h
    exact .inl ⟨h2.symm, hr⟩
  | _ :: _, [], s, _, _, _, hr, hm, _, _, h => by simp at hm
  | a :: as', b :: bs, s, hs, ha, hb, hr, hm, s', e, h => by
    rw [List.map_cons, List.map_cons] at hm
    injection hm with hm1 hm2
    rw [seqD] at h
    split at h
    · cases h
    · rename_i s1 e1 h1
      have h2 := (hg s a b hs (ha a (by simp)) (hb b (by simp)) s1 e1 h1).2
      have h3 := hs2 s a b hs (ha a (by simp)) (hb b (by simp)) hr hm1 s1 e1 h1
      by_cases e0 : e1 = 0
      · rw [if_pos e0] at h
        have hgr := h2 e0
        rcases h3 with h3 | h3 | h3
        · exact seq_resp hg hs2 as' bs s1 hgr.ok (fun x hx => (ha x (by simp [hx])).more hgr.e) (fun x hx => (hb x (by simp [hx])).more hgr.e) h3.2 hm2 s' e h
        · rw [e0] at h3; cases h3
        · rw [e0] at h3; cases h3
      · rw [if_neg e0] at h
        injection h with h
        injection h with h5 h6
        rw [← h6]
        rcases h3 with h3 | h3
        · exact absurd h3.1 e0
        · exact .inr h3
theorem same_resp {V : List Int} (g : Int → Ty) : ∀ (f : Nat) (s : St) (a b : Ty), StOk V s → Wf V s.e a → Wf V s.e b → Resp g s.b → er (subS g a) = er (subS g b) → ∀ s' e, sameT f s a b = some (s', e) → (e = 0 ∧ Resp g s'.b) ∨ e = 11 ∨ e = 12
  | 0, s, a, b, _, _, _, _, _, s', e, h => by rw [sameT] at h; cases h
  | f + 1, s, a, b, hs, ha, hb, hr, hab, s', e, h => by
    have hta := top_ok hs ha
    have htb := top_ok hs hb
    obtain ⟨A, hA⟩ : ∃ A, A = topT s.e s.b a := ⟨_, rfl⟩
    obtain ⟨B, hB⟩ : ∃ B, B = topT s.e s.b b := ⟨_, rfl⟩
    rw [sameT, ← hA, ← hB] at h
    rw [← hA] at hta
    rw [← hB] at htb
    clear hA hB
    rw [resp_all hs.total hr a, resp_all hs.total hr b] at hab
    have hcl : ∀ {t u : Ty}, TopOk V s t u → (exT s.b t).k = 0 → exT s.b t = bareT (exT s.b t).n := fun {t u} ht hk => by
      rcases ht.cases with ⟨_, _, _, e1⟩ | ⟨e1, e2⟩
      · rw [e1]; rfl
      · rw [e2] at hk; exact absurd hk e1
    split at h
    · injection h with h; injection h with h1 h2; exact .inr (.inr h2.symm)
    · split at h
      · injection h with h; injection h with h1 h2
        subst h1
        exact .inl ⟨h2.symm, hr⟩
      · rename_i hne
        split at h
        · rename_i hk
          rcases hta.cases with ⟨_, hn, _, e1⟩ | ⟨e1, _⟩
          · rcases bind_resp hs hn g hr (by rw [htb.top, ← hab, e1, bareT, subS, if_pos rfl]) (fun e2 => by
              rw [htb.top] at e2
              rcases htb.cases with ⟨k2, _, _, e3⟩ | ⟨k2, e3⟩
              · rw [e3] at e2
                have e4 := congrArg Ty.n e2
                exact hne ⟨hk, k2, e4.symm⟩
              · rw [e3] at e2
                have e4 := congrArg Ty.k e2
                exact k2 e4) (by rw [htb.top]; exact hcl htb) (Option.some.inj h) with h | h
            · exact .inl h
            · exact .inr (.inl h)
          · exact absurd hk e1
        · rename_i hka
          split at h
          · rename_i hk
            rcases htb.cases with ⟨_, hn, _, e1⟩ | ⟨e1, _⟩
            · rcases bind_resp hs hn g hr (by rw [hta.top, hab, e1, bareT, subS, if_pos rfl]) (fun e2 => by
                rw [hta.top] at e2
                rcases hta.cases with ⟨k2, _, _, e3⟩ | ⟨k2, e3⟩
                · exact hka k2
                · rw [e3] at e2
                  have e4 := congrArg Ty.k e2
                  exact k2 e4) (by rw [hta.top]; exact hcl hta) (Option.some.inj h) with h | h
              · exact .inl h
              · exact .inr (.inl h)
            · exact absurd hk e1
          · rename_i hkb
            rcases hta.cases with ⟨k1, _⟩ | ⟨_, e1⟩
            · exact absurd k1 hka
            rcases htb.cases with ⟨k2, _⟩ | ⟨_, e2⟩
            · exact absurd k2 hkb
            rw [e1, e2, subS_args, subS_args, if_neg (show ¬ (Ty.mk A.k A.n A.s A.q (A.args.map (exT s.b))).k = 0 from hka), if_neg (show ¬ (Ty.mk B.k B.n B.s B.q (B.args.map (exT s.b))).k = 0 from hkb), er_args, er_args] at hab
            injection hab with a1 a2 a3 a4 a5
            injection a3 with a3
            injection a3 with a3
            have a6 : A.args.length = B.args.length := by
              have := congrArg List.length a5
              simpa [Ty.args] using this
            split at h
            · refine seq_resp (V := V) (g := g) (fun s a b h1 h2 h3 s' e h => same_grown f s a b h1 h2 h3 s' e h) (fun s a b h1 h2 h3 h4 h5 s' e h => same_resp g f s a b h1 h2 h3 h4 h5 s' e h) _ _ s hs (fun x hx => hta.wf.kid hka hx) (fun x hx => htb.wf.kid hkb hx) hr ?_ s' e h
              have h3 : ∀ l : List Ty, l.map (fun a => er (subS g a)) = ((l.map (exT s.b)).map (subS g)).map er := fun l => by
                rw [List.map_map, List.map_map]
                exact List.map_congr_left fun x _ => resp_all hs.total hr x
              rw [h3, h3]
              exact a5
            · rename_i hh
              exfalso
              apply hh
              unfold headA
              exact decide_eq_true ⟨a1, a3, a2, a6⟩
mutual
/-- a type, its variables replaced by what they stand for in a list, once -/
def putD (l : List (Int × Ty)) : Ty → Ty
  | .mk k n s q args => if k = 0 then (match findB l n with
    | some T => T
    | none => .mk k n s q args) else .mk k n s q (putL l args)
def putL (l : List (Int × Ty)) : List Ty → List Ty
  | [] => []
  | p :: ps => putD l p :: putL l ps
end
theorem putL_map (l : List (Int × Ty)) : ∀ r : List Ty, putL l r = r.map (putD l)
  | [] => by simp [putL]
  | p :: ps => by rw [putL, putL_map l ps]; rfl
theorem put_con (l : List (Int × Ty)) {t : Ty} (hk : t.k ≠ 0) : putD l t = .mk t.k t.n t.s t.q (t.args.map (putD l)) := by
  cases t with
  | mk k n s q args =>
    rw [putD, if_neg (show ¬ k = 0 from hk), putL_map]
    rfl
theorem put_hit {l : List (Int × Ty)} {t T : Ty} (hk : t.k = 0) (h : findB l t.n = some T) : putD l t = T := by
  cases t with
  | mk k n s q args =>
    have h' : findB l n = some T := h
    rw [putD, if_pos (show k = 0 from hk), h']
theorem put_miss {l : List (Int × Ty)} {t : Ty} (hk : t.k = 0) (h : findB l t.n = none) : putD l t = t := by
  cases t with
  | mk k n s q args =>
    have h' : findB l n = none := h
    rw [putD, if_pos (show k = 0 from hk), h']
mutual
/-- no variable says more than its number -/
def cleanD : Ty → Bool
  | .mk k n s q args => if k = 0 then decide (s.toList = [] ∧ args.length = 0) else cleanL args
def cleanL : List Ty → Bool
  | [] => true
  | p :: ps => cleanD p && cleanL ps
end
theorem cleanL_of : ∀ {l : List Ty}, (∀ x ∈ l, cleanD x = true) → cleanL l = true
  | [], _ => rfl
  | p :: ps, h => by rw [cleanL, h p (by simp), cleanL_of fun x hx => h x (by simp [hx])]; rfl
mutual
theorem shaped_clean : ∀ t : Ty, shapedD t = true → cleanD t = true
  | .mk k n s q args, h => by
    rw [shapedD, Bool.and_eq_true] at h
    rw [cleanD]
    split
    · rename_i hk
      have h1 := h.1
      rw [okT, if_pos (show (Ty.mk k n s q args).k = 0 from hk)] at h1
      have h1 := of_decide_eq_true h1
      exact decide_eq_true ⟨h1.2.1, h1.1⟩
    · exact shapedL_clean args h.2
theorem shapedL_clean : ∀ l : List Ty, shapedL l = true → cleanL l = true
  | [], _ => rfl
  | p :: ps, h => by
    rw [shapedL, Bool.and_eq_true] at h
    rw [cleanL, shaped_clean p h.1, shapedL_clean ps h.2]
    rfl
end
/-- what a list says of a number -/
def gOf (l : List (Int × Ty)) (n : Int) : Ty := (findB l n).getD (bareT n)
theorem nil_list : (⟨#[]⟩ : ByteArray).toList = [] := by simp
mutual
theorem put_er (l : List (Int × Ty)) : ∀ t : Ty, cleanD t = true → er (putD l t) = er (subS (gOf l) t)
  | .mk k n s q args, h => by
    rw [cleanD] at h
    rw [putD, subS]
    split
    · rename_i hk
      rw [if_pos hk] at h
      have h := of_decide_eq_true h
      unfold gOf
      split
      · rename_i T hT
        rw [hT]; rfl
      · rename_i hT
        rw [hT]
        show er (.mk k n s q args) = er (bareT n)
        have ha : args = [] := List.eq_nil_of_length_eq_zero h.2
        rw [bareT, er, er, hk, h.1, nil_list, ha]
    · rename_i hk
      rw [if_neg hk] at h
      rw [er, er, put_erL l args h]
theorem put_erL (l : List (Int × Ty)) : ∀ r : List Ty, cleanL r = true → erL (putL l r) = erL (subSL (gOf l) r)
  | [], _ => by simp [putL, subSL]
  | p :: ps, h => by
    rw [cleanL, Bool.and_eq_true] at h
    rw [putL, subSL, erL, erL, put_er l p h.1, put_erL l ps h.2]
end
theorem clean_bare (n : Int) : cleanD (bareT n) = true := by
  rw [bareT, cleanD, if_pos rfl]
  exact decide_eq_true ⟨nil_list, rfl⟩
theorem clean_varT (e : Int → Bool) (n : Int) : cleanD (varT e n) = true := by
  rw [varT, cleanD, if_pos rfl]
  exact decide_eq_true ⟨nil_list, rfl⟩
theorem expand_clean {σ : Bnd} : ∀ {f : Nat} {t T : Ty}, expand σ f t = some T → cleanD T = true
  | 0, t, T, h => by simp [expand] at h
  | f + 1, t, T, h => by
    by_cases hk : t.k = 0
    · cases hn : σ t.n with
      | none =>
        rw [expand_free hk hn] at h
        rw [← Option.some.inj h]
        exact clean_bare _
      | some x =>
        rw [expand_bound hk hn] at h
        exact expand_clean h
    · rw [expand_con hk] at h
      obtain ⟨l, h1, h2⟩ := Option.map_eq_some_iff.1 h
      subst h2
      rw [cleanD, if_neg hk]
      refine cleanL_of fun y hy => ?_
      obtain ⟨x, hx, e⟩ := allO_mem h1 hy
      exact expand_clean e
theorem ex_clean {σ : Bnd} (h : Total σ) (t : Ty) : cleanD (exT σ t) = true := by
  obtain ⟨f, hf⟩ := h.ex t
  exact expand_clean hf
mutual
theorem mark_er (e : Int → Bool) : ∀ t : Ty, cleanD t = true → er (markT e t) = er t ∧ cleanD (markT e t) = true
  | .mk k n s q args, h => by
    rw [cleanD] at h
    rw [markT]
    split
    · rename_i hk
      rw [if_pos hk] at h
      have h := of_decide_eq_true h
      have ha : args = [] := List.eq_nil_of_length_eq_zero h.2
      exact ⟨by rw [varT, er, er, hk, h.1, nil_list, ha], clean_varT e n⟩
    · rename_i hk
      rw [if_neg hk] at h
      have h2 := mark_erL e args h
      exact ⟨by rw [er, er, h2.1], by rw [cleanD, if_neg hk]; exact h2.2⟩
theorem mark_erL (e : Int → Bool) : ∀ l : List Ty, cleanL l = true → erL (markL e l) = erL l ∧ cleanL (markL e l) = true
  | [], _ => by simp [markL, cleanL]
  | p :: ps, h => by
    rw [cleanL, Bool.and_eq_true] at h
    have h1 := mark_er e p h.1
    have h2 := mark_erL e ps h.2
    rw [markL]
    exact ⟨by rw [erL, erL, h1.1, h2.1], by rw [cleanL, h1.2, h2.2]; rfl⟩
end
theorem run_law {V : List Int} {F : Nat} : ∀ (l : List (Ty × Ty)) (s : St) (i : Nat), StOk V s → (∀ p ∈ l, Wf V s.e p.1 ∧ Wf V s.e p.2) → ∀ s' e k, runT F s l i = some (s', e, k) →
    (e = 0 → StOk V s' ∧ Ext s.b s'.b ∧ ∀ p ∈ l, er (exT s'.b p.1) = er (exT s'.b p.2)) ∧ (∀ g, Resp g s.b → (∀ p ∈ l, er (subS g p.1) = er (subS g p.2)) → (e = 0 ∧ Resp g s'.b) ∨ e = 11 ∨ e = 12)
  | [], s, i, hs, _, s', e, k, h => by
    rw [runT] at h
    injection h with h
    injection h with h1 h2
    injection h2 with h2 h3
    subst h1
    exact ⟨fun _ => ⟨hs, Ext.refl _, fun p hp => by cases hp⟩, fun g hr _ => .inl ⟨h2.symm, hr⟩⟩
  | p :: ps, s, i, hs, hw, s', e, k, h => by
    have hp := hw p (by simp)
    rw [runT] at h
    split at h
    · cases h
    · rename_i s1 e1 h1
      have hgr := (same_grown F s p.1 p.2 hs hp.1 hp.2 s1 e1 h1).2
      have hre := fun g hr hg => same_resp g F s p.1 p.2 hs hp.1 hp.2 hr hg s1 e1 h1
      by_cases e0 : e1 = 0
      · rw [if_pos e0] at h
        have hgr2 := hgr e0
        clear hgr
        subst e0
        obtain ⟨x1, x2⟩ := same_sound F s p.1 p.2 hs hp.1 hp.2 s1 h1
        obtain ⟨y1, y2⟩ := run_law ps s1 (i + 1) hgr2.ok (fun q hq => ⟨(hw q (by simp [hq])).1.more hgr2.e, (hw q (by simp [hq])).2.more hgr2.e⟩) s' e k h
        refine ⟨fun he => ?_, fun g hr hg => ?_⟩
        · obtain ⟨z1, z2, z3⟩ := y1 he
          refine ⟨z1, x1.trans z2, fun q hq => ?_⟩
          rcases List.mem_cons.1 hq with rfl | hq
          · exact z2.keep x2
          · exact z3 q hq
        · rcases hre g hr (hg p (by simp)) with h3 | h3 | h3
          · exact y2 g h3.2 fun q hq => hg q (by simp [hq])
          · cases h3
          · cases h3
      · rw [if_neg e0] at h
        injection h with h
        injection h with h3 h4
        injection h4 with h4 h5
        refine ⟨fun he => absurd (h4.trans he) e0, fun g hr hg => ?_⟩
        rcases hre g hr (hg p (by simp)) with h6 | h6
        · exact absurd h6.1 e0
        · rw [← h4]; exact .inr h6
theorem out_law (s : St) (N : Nat) : ∀ (ns : List Int) (acc : List (Int × Ty)), ((outT s N ns acc).2.1 = 0 ∧ (outT s N ns acc).1 = acc ++ ns.map fun n => (n, markT s.e (exT s.b (bareT n)))) ∨ (outT s N ns acc).2.1 = 12
  | [], acc => .inl ⟨rfl, by rw [outT, List.map_nil, List.append_nil]⟩
  | n :: ns, acc => by
    rw [outT]
    split
    · exact .inr rfl
    · rcases out_law s N ns (acc ++ [(n, markT s.e (exT s.b (bareT n)))]) with h | h
      · refine .inl ⟨h.1, ?_⟩
        rw [h.2, List.map_cons, List.append_assoc]
        rfl
      · exact .inr h
theorem find_map (F : Int → Ty) (m : Int) : ∀ ns : List Int, m ∈ ns → findB (ns.map fun n => (n, F n)) m = some (F m)
  | [], h => by cases h
  | n :: ns, h => by
    unfold findB
    rw [List.map_cons, List.find?_cons]
    by_cases e : n = m
    · subst e; simp
    · have h2 := find_map F m ns (by rcases List.mem_cons.1 h with h | h; exact absurd h.symm e; exact h)
      unfold findB at h2
      simp only [e, decide_false]
      exact h2
theorem rising_mem {l : List Int} {n : Int} : n ∈ risingD l ↔ n ∈ l := (rising_perm l).mem_iff
theorem resp_none (g : Int → Ty) : Resp g (fun _ => none) := fun n => by rw [ex_free rfl, bareT, subS, if_pos rfl]
/-- how a Solve ends -/
theorem solve_law {l : List (Ty × Ty)} (hf : ∀ p ∈ l, Fits p.1 ∧ Fits p.2) :
    ((∃ p ∈ l, okP p = false) → (solveT l).2.1 = 21) ∧
    ((solveT l).2.1 = 0 → (∀ p ∈ l, okP p = true) ∧ ∃ s, StOk (vsP [] l) s ∧ (solveT l).1 = (risingD (vsP [] l)).map (fun n => (n, markT s.e (exT s.b (bareT n)))) ∧ (∀ p ∈ l, er (exT s.b p.1) = er (exT s.b p.2)) ∧ ∀ g, (∀ p ∈ l, er (subS g p.1) = er (subS g p.2)) → Resp g s.b) ∧
    (∀ g, (∀ p ∈ l, okP p = true) → (∀ p ∈ l, er (subS g p.1) = er (subS g p.2)) → (solveT l).2.1 = 0 ∨ (solveT l).2.1 = 11 ∨ (solveT l).2.1 = 12) := by
  by_cases hok : (l.takeWhile okP).length < l.length
  · have hne : ¬ ∀ p ∈ l, okP p = true := fun h => by rw [takeW_none h] at hok; omega
    have e : solveT l = ([], 21, (l.takeWhile okP).length) := by rw [solveT, if_pos hok]
    rw [e]
    exact ⟨fun _ => rfl, (fun h => by cases h), fun g h => absurd h hne⟩
  · have hall := takeW_all hok
    obtain ⟨⟨s, e, i⟩, hr⟩ := solve_run hf hall
    have hs : solveT l = if e = 0 then outT s l.length (risingD (vsP [] l)) [] else ([], e, i) := by rw [solveT, if_neg hok, hr]
    obtain ⟨h1, h2⟩ := run_law l (st0 l) 0 (st0_ok (vsP [] l) l) (fun p hp => pair_wf hf hp (hall p hp)) s e i hr
    refine ⟨(fun ⟨p, hp, h⟩ => by rw [hall p hp] at h; cases h), fun h0 => ⟨hall, ?_⟩, fun g _ hg => ?_⟩
    · rw [hs] at h0 ⊢
      by_cases he : e = 0
      · rw [if_pos he] at h0 ⊢
        obtain ⟨h3, h4, h5⟩ := h1 he
        rcases out_law s l.length (risingD (vsP [] l)) [] with h6 | h6
        · refine ⟨s, h3, by rw [h6.2, List.nil_append], h5, fun g hg => ?_⟩
          rcases h2 g (resp_none g) hg with h7 | h7 | h7
          · exact h7.2
          · rw [he] at h7; cases h7
          · rw [he] at h7; cases h7
        · rw [h6] at h0; cases h0
      · rw [if_neg he] at h0
        exact absurd h0 he
    · rw [hs]
      by_cases he : e = 0
      · rw [if_pos he]
        rcases out_law s l.length (risingD (vsP [] l)) [] with h6 | h6
        · exact .inl h6.1
        · exact .inr (.inr h6)
      · rw [if_neg he]
        rcases h2 g (resp_none g) hg with h7 | h7
        · exact absurd h7.1 he
        · exact .inr h7
theorem okP_sh {p : Ty × Ty} (h : okP p = true) : shapedD p.1 = true ∧ shapedD p.2 = true := by
  unfold okP ProperD at h
  simp only [Bool.and_eq_true] at h
  exact ⟨h.1.2, h.2.2⟩
/-- what Solve finds makes each two the same -/
theorem gen_sound {l : List (Ty × Ty)} (hf : ∀ p ∈ l, Fits p.1 ∧ Fits p.2) (h : (solveT l).2.1 = 0) : ∀ p ∈ l, alikeD (putD (solveT l).1 p.1) (putD (solveT l).1 p.2) = true := by
  obtain ⟨hok, s, hs, hfd, hsame, -⟩ := (solve_law hf).2.1 h
  intro p hp
  have hsh := okP_sh (hok p hp)
  have key : ∀ t : Ty, shapedD t = true → (∀ n ∈ occD t, n ∈ vsP [] l) → er (putD (solveT l).1 t) = er (exT s.b t) := fun t ht hv => by
    rw [put_er _ t (shaped_clean t ht), ex_subS hs.total t]
    refine sub_erext t fun n hn => ?_
    unfold gOf
    rw [hfd, find_map (fun n => markT s.e (exT s.b (bareT n))) n _ (rising_mem.2 (hv n hn))]
    exact (mark_er s.e _ (ex_clean hs.total _)).1
  rw [alike_er, key p.1 hsh.1 fun n hn => vsP_mem (ocP_mem hp (.inl hn)), key p.2 hsh.2 fun n hn => vsP_mem (ocP_mem hp (.inr hn))]
  exact hsame p hp
theorem some_sub {sm : List (Int × Ty)} {l : List (Ty × Ty)} (hok : ∀ p ∈ l, okP p = true) (h : ∀ p ∈ l, alikeD (putD sm p.1) (putD sm p.2) = true) : ∀ p ∈ l, er (subS (gOf sm) p.1) = er (subS (gOf sm) p.2) := fun p hp => by
  have hsh := okP_sh (hok p hp)
  have h1 := (alike_er _ _).1 (h p hp)
  rwa [put_er _ _ (shaped_clean _ hsh.1), put_er _ _ (shaped_clean _ hsh.2)] at h1
/-- where some list makes them the same, Solve finds one, but for two reasons -/
theorem gen_stop {l : List (Ty × Ty)} (hf : ∀ p ∈ l, Fits p.1 ∧ Fits p.2) (sm : List (Int × Ty)) (hok : ∀ p ∈ l, okP p = true) (h : ∀ p ∈ l, alikeD (putD sm p.1) (putD sm p.2) = true) : (solveT l).2.1 = 0 ∨ (solveT l).2.1 = 11 ∨ (solveT l).2.1 = 12 :=
  (solve_law hf).2.2 (gOf sm) hok (some_sub hok h)
/-- what Solve finds is most general -/
theorem gen_most {l : List (Ty × Ty)} (hf : ∀ p ∈ l, Fits p.1 ∧ Fits p.2) (sm : List (Int × Ty)) (h0 : (solveT l).2.1 = 0) (h : ∀ p ∈ l, alikeD (putD sm p.1) (putD sm p.2) = true) : ∀ x ∈ (solveT l).1, alikeD (putD sm (bareT x.1)) (putD sm x.2) = true := by
  obtain ⟨hok, s, hs, hfd, -, hres⟩ := (solve_law hf).2.1 h0
  have hr := hres (gOf sm) (some_sub hok h)
  intro x hx
  rw [hfd, List.mem_map] at hx
  obtain ⟨n, -, rfl⟩ := hx
  have hm := mark_er s.e _ (ex_clean hs.total (bareT n))
  rw [alike_er, put_er _ _ (clean_bare n), put_er _ _ hm.2, sub_er _ hm.1, ← hr n, bareT, subS, if_pos rfl]
/-- where a pair may not be, Solve says so -/
theorem gen_bad {l : List (Ty × Ty)} (hf : ∀ p ∈ l, Fits p.1 ∧ Fits p.2) (h : ∃ p ∈ l, okP p = false) : (solveT l).2.1 = 21 := (solve_law hf).1 h
/- Proved: the contract of the law's put. Condition: none but that the type and the list fit a machine. -/

/-- a slice of binds, in blocks of D -/
def BindsV (w : World) (D : Nat → Prop) (l : List (Int × Ty)) (ao : Option Addr) : Prop := ∀ k (_ : k < l.length), ∃ b off a c, ao = some ⟨b, off, none⟩ ∧ D b ∧ (∀ j, j < 6 → w.cell? ⟨b, off + k * 6 + j, none⟩ = (Value.int .i64 l[k].1 :: (rowOf l[k].2 a c).toList)[j]?) ∧ SlD w D l[k].2.args a c
theorem BindsV.keep {w w' : World} {D : Nat → Prop} {l : List (Int × Ty)} {ao : Option Addr} (h : BindsV w D l ao) (hk : ∀ b, D b → ∀ off, w'.cell? ⟨b, off, none⟩ = w.cell? ⟨b, off, none⟩) : BindsV w' D l ao := by
  intro k hl
  obtain ⟨b, off, a, c, h1, h2, h3, h4⟩ := h k hl
  exact ⟨b, off, a, c, h1, h2, fun j hj => (hk b h2 _).trans (h3 j hj), h4.keep hk⟩
theorem BindsV.mono {w : World} {D D' : Nat → Prop} {l : List (Int × Ty)} {ao : Option Addr} (h : BindsV w D l ao) (hN : ∀ b, D b → D' b) : BindsV w D' l ao := by
  intro k hl
  obtain ⟨b, off, a, c, h1, h2, h3, h4⟩ := h k hl
  exact ⟨b, off, a, c, h1, hN b h2, h3, h4.mono hN⟩
theorem OwnB.binds {B : Nat} {w : World} {D D' : Nat → Prop} {v : Value} {bs : List Bd} (h : OwnB B w D v bs) (hD : ∀ b, D b → D' b) (hv : ∀ b, v.ownBlock = some b → D' b) : ∃ ao cap, v = .slice ao bs.length cap ∧ BindsV w D' (bs.map Bd.pair) ao := by
  rcases h.own.2 with ⟨rfl, h0⟩ | ⟨g, cap, cur, rfl, hB, hg, hc, hm, hs, ht⟩
  · have hb : bs = [] := List.eq_nil_of_length_eq_zero h0
    subst hb
    exact ⟨none, 0, rfl, fun k hk => by simp at hk⟩
  · refine ⟨_, cap, rfl, fun k hk => ?_⟩
    have hk' : k < bs.length := by simpa using hk
    refine ⟨g, 0, bs[k].ao, bs[k].cap, rfl, hv g rfl, fun j hj => ?_, ?_⟩
    · have h4 := bcells_get hk' hj
      rw [← ht, List.getElem?_take, if_pos (by omega), Array.getElem?_toList] at h4
      rw [blk_cell hg, Nat.zero_add, List.getElem_map]
      exact h4
    · rw [List.getElem_map]
      exact (h.sl _ (List.getElem_mem hk')).mono hD
/-- a bind as a walk reads it: its place, its cells -/
theorem bind_cells {w : World} {D : Nat → Prop} {l : List (Int × Ty)} {ao : Option Addr} (cap : Nat) (h : BindsV w D l ao) {k : Nat} {n : Int} {x : Ty} (hk : l[k]? = some (n, x)) : ∃ b p a c, D b ∧ (∀ w' : World, (Instr.indexAt 25 (.slice ao l.length cap) (.int .i64 k)).run Try.prog w' = .ok (.pointer (some ⟨b, p, none⟩)) w') ∧
    (w.cell? ⟨b, p, none⟩ = some (.int .i64 n) ∧ w.cell? ⟨b, p + 1, none⟩ = some (.int .i64 x.k) ∧ w.cell? ⟨b, p + 2, none⟩ = some (.int .i64 x.n) ∧ w.cell? ⟨b, p + 3, none⟩ = some (.string x.s) ∧ w.cell? ⟨b, p + 4, none⟩ = some (.int .i64 x.q) ∧ w.cell? ⟨b, p + 5, none⟩ = some (.slice a x.args.length c)) ∧ SlD w D x.args a c := by
  obtain ⟨hl, e⟩ := List.getElem?_eq_some_iff.1 hk
  obtain ⟨b, off, a, c, ha, hD, hrow, h1⟩ := h k hl
  rw [e] at hrow h1
  exact ⟨b, off + k * 6, a, c, hD, fun w' => index_at Try.underlying25 size35 ha l.length cap k hl w', ⟨hrow 0 (by omega), hrow 1 (by omega), hrow 2 (by omega), hrow 3 (by omega), hrow 4 (by omega), hrow 5 (by omega)⟩, h1⟩
theorem find_take {l : List (Int × Ty)} {j : Nat} {n m : Int} {x : Ty} (hj : l[j]? = some (n, x)) (h : findB (l.take j) m = none) : findB (l.take (j + 1)) m = if n = m then some x else none := by
  rw [take_one hj]
  unfold findB at h ⊢
  rw [Option.map_eq_none_iff] at h
  rw [List.find?_append, h, Option.none_or, List.find?_cons]
  by_cases e : n = m
  · simp [e]
  · simp [e]
theorem find_cut {l : List (Int × Ty)} {j : Nat} {m : Int} {x : Ty} (h : findB (l.take j) m = some x) : findB l m = some x := by
  unfold findB at h ⊢
  obtain ⟨p, h1, h2⟩ := Option.map_eq_some_iff.1 h
  have h3 : l.find? (fun x => decide (x.1 = m)) = some p := by
    rw [← List.take_append_drop j l, List.find?_append, h1]; rfl
  rw [h3]
  exact congrArg some h2
theorem put_fits {l : List (Int × Ty)} (hl : ∀ x ∈ l, Fits x.2) : ∀ (f : Nat) (t : Ty), parts t ≤ f → Fits t → Fits (putD l t)
  | 0, t, h, _ => by have := parts_pos t; omega
  | f + 1, t, h, ht => by
    by_cases hk : t.k = 0
    · cases hn : findB l t.n with
      | none => rw [put_miss hk hn]; exact ht
      | some T =>
        rw [put_hit hk hn]
        unfold findB at hn
        obtain ⟨p, h1, rfl⟩ := Option.map_eq_some_iff.1 hn
        exact hl p (List.mem_of_find?_eq_some h1)
    · rw [put_con l hk]
      refine fits_mk ht (by rw [List.length_map]) (fitsL_of fun y hy => ?_)
      obtain ⟨x, hx, rfl⟩ := List.mem_map.1 hy
      exact put_fits hl f x (by have := parts_kid hx; omega) (ht.args.get hx)
/-- what put leaves -/
structure PutP (w : World) (D : Nat → Prop) (F : Ty) (e : Ending) (w' : World) : Prop where
  out : ∃ ao cap, e = .returned (.agg (rowOf F ao cap)) ∧ SlD w' (fun b => D b ∨ (w.heap.size ≤ b ∧ b < w'.heap.size)) F.args ao cap ∧ Below w.heap.size w w'
theorem PutP.call {w : World} {D : Nat → Prop} {F : Ty} {e : Ending} {w' : World} (h : PutP w D F e w') : ∃ ao cap, e = .returned (.agg (rowOf F ao cap)) ∧ SlD w' (fun b => D b ∨ (w.heap.size ≤ b ∧ b < w'.heap.size)) F.args ao cap ∧ Below w.heap.size w w' := h.out
set_option maxRecDepth 100000 in
set_option maxHeartbeats 16000000 in
theorem put_any (l : List (Int × Ty)) (hlf : l.length ≤ 3000000000000) : ∀ (f : Nat) (t : Ty), parts t ≤ f → f ≤ 1000 → ∀ (D : Nat → Prop) (ao lo : Option Addr) (cap lc : Nat) (w : World), (∀ b, D b → b < w.heap.size) → SlD w D t.args ao cap → BindsV w D l lo →
    Calls Try.prog 9 #[.agg (rowOf t ao cap), .slice lo l.length lc] w (PutP w D (putD l t)) := by
  intro f
  induction f with
  | zero => intro t ht; have := parts_pos t; omega
  | succ f IH =>
    intro t ht hf9 D ao lo cap lc w hD hv hl
    obtain ⟨W, hW⟩ : ∃ W, W = (w.alloc (.cells (rowOf t ao cap) 33)).alloc (.cells zeroRow 33) := ⟨_, rfl⟩
    obtain ⟨hbW, hszW, hr0, hr1⟩ := two_boxes hW
    have hcl : t.args.length ≤ 1000 := by
      have h1 := parts_args t
      have h2 : ∀ l : List Ty, l.length ≤ partsL l := fun l => by
        induction l with
        | nil => simp
        | cons p ps ih => rw [partsL, List.length_cons]; have := parts_pos p; omega
      have h3 := h2 t.args
      omega
    obtain ⟨F, hF⟩ : ∃ F, F = putD l t := ⟨_, rfl⟩
    rw [← hF]
    have HF := Lib.hid hF
    have HPT : Hid (∀ x ∈ t.args, parts x ≤ f) := Lib.hid (fun x hx => by have := parts_kid hx; omega)
    obtain ⟨n, hn⟩ : ∃ n, n = l.length := ⟨_, rfl⟩
    have HN := Lib.hid hn
    have HIH := Lib.hid IH
    have HBW := Lib.hid hbW
    have HR0 := Lib.hid hr0
    have HR1 := Lib.hid hr1
    have HD := Lib.hid hD
    have HV := Lib.hid hv
    have HL := Lib.hid hl
    have HSZ0 := Lib.hid hszW
    rw [← hn] at hlf ⊢
    obtain ⟨c, hc⟩ : ∃ c, c = t.args.length := ⟨_, rfl⟩
    have HC := Lib.hid hc
    unfold rowOf at hW hr0 ⊢
    unfold zeroRow at hW hr1
    rw [← hc] at hW hr0 hcl ⊢
    have HWW := Lib.hid hW
    have HR05 := Lib.hid hr0
    obtain ⟨⟨c0, c1, c2, c3, c4⟩, -⟩ := five_cells hr0
    clear IH hW hbW hr0 hr1 hv hl hD hF ht hszW hc hn
    go_enter Try.func9, Try.ntmps9
    go_upto_region 1 with fail
    rw [← HWW.out]
    clear HWW
    generalize Value.agg #[.int .i64 t.k, .int .i64 t.n, .string t.s, .int .i64 t.q, .slice ao c cap] = v0
    by_cases hk : t.k = 0
    · have e0 : (t.k == 0) = true := by simpa using hk
      have HK := Lib.hid hk
      clear hk c2 c3 c4
      have hp0 : w.heap.size < W.heap.size := lt_of_block HR0.out
      have hp1 : w.heap.size + 1 < W.heap.size := lt_of_block HR1.out
      go_upto_region 3 with fail
      clear c0 c1 e0
      go_wp2_with fail
      go_loopw [5] (fun i wr => ∃ j : Nat, i = .int .i64 (j : Int) ∧ j ≤ n ∧ findB (l.take j) t.n = none ∧ Below W.heap.size W wr) (fun i _ => n - (intOf i).toNat)
      case atStart => exact ⟨0, rfl, Nat.zero_le _, rfl, Below.refl _ _⟩
      case round =>
        obtain ⟨j, rfl, hj, hno, hbr⟩ := hrel
        obtain ⟨wo, rfl⟩ : ∃ wo : World, wo = wr := ⟨_, rfl⟩
        have hrow := blk_below HR05.out hbr hp0
        have hrow1 := blk_below HR1.out hbr hp1
        have HRW := Lib.hid hrow
        have HRW1 := Lib.hid hrow1
        obtain ⟨⟨c0, c1, c2, c3, c4⟩, -⟩ := five_cells hrow
        obtain ⟨⟨d0, d1, d2, d3, d4⟩, ⟨z0, z1, z2, z3, z4⟩⟩ := five_cells hrow1
        have HBR := Lib.hid hbr
        have HNO := Lib.hid hno
        have hbo : Below w.heap.size w wo := bthen' HBW.out hbr (Nat.le_of_lt hp0)
        have HBO := Lib.hid hbo
        clear hbr hno hrow hrow1 hbo
        by_cases hlt : j < n
        · have hd : decide ((j : Int) < (n : Int)) = true := by simp; omega
          have hjl : j < l.length := by rw [← HN.out]; exact hlt
          obtain ⟨m, x, hmx⟩ : ∃ m x, l[j]? = some (m, x) := ⟨l[j].1, l[j].2, by rw [List.getElem?_eq_getElem hjl]⟩
          have hlv : BindsV wo D l lo := HL.out.keep (cells_D HD.out HBO.out)
          obtain ⟨gb, p, ax, cx, hDb, hix, ⟨x0, x1, x2, x3, x4, x5⟩, hs⟩ := bind_cells lc hlv hmx
          rw [← HN.out] at hix
          have HMX := Lib.hid hmx
          have HSX := Lib.hid hs
          clear hlv hmx hs hjl
          by_cases hen : m = t.n
          · have e2 : (m == t.n) = true := by simp [hen]
            have HEN := Lib.hid hen
            have HFX : Hid (F = x) := Lib.hid (by
              have h1 := find_take HMX.out HNO.out
              rw [if_pos HEN.out] at h1
              rw [HF.out]
              exact put_hit HK.out (find_cut h1))
            clear hen
            go_upto_region 5 with fail
            go_quiet (fail)
            obtain ⟨V, hV⟩ : ∃ V : World, V = wo.drewN nq := ⟨_, rfl⟩
            have hbV : Below wo.heap.size wo V := by rw [hV]; exact below_drewN (Below.refl _ _) _
            have ecell : ∀ p : Addr, V.cell? p = wo.cell? p := fun p => by rw [hV]; rfl
            have efroz : ∀ p : Addr, V.frozen? p = wo.frozen? p := fun p => by rw [hV]; rfl
            have hVr1 : V.heap[w.heap.size + 1]? = some (.cells zeroRow 33 (0, 0)) := by rw [hV]; exact HRW1.out
            have HVS : Hid (SlD V D x.args ax cx) := Lib.hid (HSX.out.keep fun b _ off => ecell _)
            rw [← hV]
            replace x2 : wo.cell? ⟨gb, p + 1 + 1, none⟩ = some (.int .i64 x.n) := x2
            replace x3 : wo.cell? ⟨gb, p + 1 + 2, none⟩ = some (.string x.s) := x3
            replace x4 : wo.cell? ⟨gb, p + 1 + 3, none⟩ = some (.int .i64 x.q) := x4
            replace x5 : wo.cell? ⟨gb, p + 1 + 4, none⟩ = some (.slice ax x.args.length cx) := x5
            rw [← ecell] at x1 x2 x3 x4 x5 d0 d1 d2 d3 d4
            rw [← efroz] at z0 z1 z2 z3 z4
            have HVR1 := Lib.hid hVr1
            have HBV := Lib.hid hbV
            clear hV hbV ecell efroz x0 c0 c1 c2 c3 c4 hVr1
            go_wp2_with fail
            have hTB : TB (set5 V (w.heap.size + 1) x ax cx) (w.heap.size + 1) x ax cx := TB.set HVR1.out x ax cx
            have hbf : Below w.heap.size V (set5 V (w.heap.size + 1) x ax cx) := below_set5 (Below.refl _ _) (Nat.le_succ _)
            have hDlt := HD.out
            refine bodyPost_ret (v := .agg (rowOf x ax cx)) (res_ty rfl rfl hTB) rfl ⟨ax, cx, by rw [HFX.out], ?_, HBO.out.trans (((HBV.out).mono HBO.out.size).trans hbf)⟩
            rw [HFX.out]
            exact (HVS.out.keep fun b hb off => hbf.cell (p := ⟨b, off, none⟩) (hDlt b hb)).mono fun b hb => .inl hb
          · have e2 : (m == t.n) = false := by simp [hen]
            have HEN := Lib.hid hen
            clear hen
            go_upto_region 5 with fail
            go_quiet (fail)
            go_wp2_with fail
            go_roundw
            case rel =>
              refine ⟨j + 1, by go_num, hlt, ?_, HBR.out.trans ((below_drewN (Below.refl _ _) _).mono HBR.out.size)⟩
              have h1 := find_take HMX.out HNO.out
              rwa [if_neg HEN.out] at h1
            case measure => simp only [intOf]; omega
        · obtain rfl : j = n := by omega
          have hd : decide ((j : Int) < (j : Int)) = false := by simp
          have HFX : Hid (F = t) := Lib.hid (by
            have h1 := HNO.out
            rw [HN.out, List.take_length] at h1
            rw [HF.out]
            exact put_miss HK.out h1)
          go_wp2_with fail
          have hTB : TB (set5 wo (w.heap.size + 1) t ao cap) (w.heap.size + 1) t ao cap := TB.set HRW1.out t ao cap
          have hbf : Below w.heap.size wo (set5 wo (w.heap.size + 1) t ao cap) := below_set5 (Below.refl _ _) (Nat.le_succ _)
          have hDlt := HD.out
          unfold set5 at hTB hbf
          rw [← HC.out] at hTB hbf
          refine bodyPost_ret (v := .agg (rowOf t ao cap)) (res_ty rfl rfl hTB) rfl ⟨ao, cap, by rw [HFX.out], ?_, HBO.out.trans hbf⟩
          rw [HFX.out]
          exact (HV.out.keep fun b hb off => (HBO.out.trans hbf).cell (p := ⟨b, off, none⟩) (hDlt b hb)).mono fun b hb => .inl hb
    · have e0 : (t.k == 0) = false := by simpa using hk
      have HK := Lib.hid hk
      clear hk
      have hp0 : w.heap.size < W.heap.size := lt_of_block HR0.out
      have hp1 : w.heap.size + 1 < W.heap.size := lt_of_block HR1.out
      have HSW : Hid (SlD W D t.args ao cap) := Lib.hid (HV.out.keep (cells_D HD.out HBW.out))
      have HFE : Hid (F = .mk t.k t.n t.s t.q (t.args.map (putD l))) := Lib.hid (by rw [HF.out]; exact put_con l HK.out)
      go_upto_region 9 with fail
      clear c0 c1 c2 c3 c4 e0
      go_wp2_with fail
      go_loopw [6, 7, 8] (fun v i _ wr => ∃ (j : Nat) (bs : List Bt) (Dj : Nat → Prop), i = .int .i64 (j : Int) ∧ j ≤ c ∧ bs.length = j ∧ bs.map Bt.t = (t.args.take j).map (putD l) ∧ OwnT W.heap.size wr Dj v bs ∧ (∀ b, Dj b → b < wr.heap.size ∧ v.ownBlock ≠ some b ∧ (D b ∨ W.heap.size ≤ b)) ∧ Below W.heap.size W wr) (fun _ i _ _ => c - (intOf i).toNat)
      case atStart => exact ⟨0, [], fun _ => False, rfl, Nat.zero_le _, rfl, by simp, OwnT.nil _ _ _, fun b h => h.elim, Below.refl _ _⟩
      case round =>
        obtain ⟨j, bs, Dj, rfl, hj, hlen, hmap, hown, hDj, hbr⟩ := hrel
        obtain ⟨wo, rfl⟩ : ∃ wo : World, wo = wr := ⟨_, rfl⟩
        have hrow2 := blk_below HR0.out hbr hp0
        have hrow3 := blk_below HR1.out hbr hp1
        have HRW2 := Lib.hid hrow2
        have HRW3 := Lib.hid hrow3
        unfold rowOf at hrow2
        rw [← HC.out] at hrow2
        obtain ⟨⟨c0, c1, c2, c3, c4⟩, ⟨y0, y1, y2, y3, y4⟩⟩ := five_cells hrow2
        have HBR := Lib.hid hbr
        have HMAP := Lib.hid hmap
        have HLEN := Lib.hid hlen
        have HOWN := Lib.hid hown
        have HDJ := Lib.hid hDj
        have HBO : Hid (Below w.heap.size w wo) := Lib.hid (bthen' HBW.out hbr (Nat.le_of_lt hp0))
        have hsz : W.heap.size ≤ wo.heap.size := hbr.size
        clear hbr hrow2 hmap hlen hown hDj
        by_cases hlt : j < c
        · have hd : decide ((j : Int) < (c : Int)) = true := by simp; omega
          have hju : j < t.args.length := by rw [← HC.out]; exact hlt
          have hvr : SlD wo D t.args ao cap := HV.out.keep (cells_D HD.out HBO.out)
          obtain ⟨bb, p, aq, cq, hDb, hix, x0, x1, x2, x3, x4, hs⟩ := arg_cells hvr hju
          rw [← HC.out] at hix
          obtain ⟨x, hx⟩ : ∃ x, x = t.args[j] := ⟨_, rfl⟩
          rw [← hx] at x0 x1 x2 x3 x4 hs
          have hmem : x ∈ t.args := by rw [hx]; exact List.getElem_mem _
          have hcall := HIH.out x (HPT.out x hmem) (by omega) D aq lo cq lc wo (fun b hb => Nat.lt_of_lt_of_le (HD.out b hb) HBO.out.size) hs (HL.out.keep (cells_D HD.out HBO.out))
          obtain ⟨G, hG⟩ : ∃ G, G = putD l x := ⟨_, rfl⟩
          rw [← hG, ← HN.out] at hcall
          unfold rowOf at hcall
          have HCALL := Lib.hid hcall
          have HG := Lib.hid hG
          have HX := Lib.hid hx
          clear hcall hvr hs hx hmem hG hrow3
          go_upto_region 13 with (first | (go_at_call 9; refine HCALL.out.mono ?_; rintro e w7 h7; obtain ⟨a7, k7, rfl, hs7, hb7⟩ := h7.call; have HS7 := Lib.hid hs7; have HB7 := Lib.hid hb7; unfold rowOf at ⊢; clear h7 hs7 hb7))
          obtain ⟨cg, hcg⟩ : ∃ cg, cg = G.args.length := ⟨_, rfl⟩
          rw [← hcg]
          have HCG := Lib.hid hcg
          clear c0 c1 c2 c3 c4 y0 y1 y2 y3 y4 x0 x1 x2 x3 x4 hcg
          obtain ⟨Z, hZ⟩ : ∃ Z, Z = w7.alloc (.cells #[.int .i64 G.k, .int .i64 G.n, .string G.s, .int .i64 G.q, .slice a7 cg k7] 33) := ⟨_, rfl⟩
          rw [← hZ]
          have hZr : Z.heap[w7.heap.size]? = some (.cells #[.int .i64 G.k, .int .i64 G.n, .string G.s, .int .i64 G.q, .slice a7 cg k7] 33 (0, 0)) := by rw [hZ]; exact heap_alloc_new w7 _
          have HBZ : Hid (Below wo.heap.size wo Z) := Lib.hid (by rw [hZ]; exact balloc HB7.out _)
          have HSZ : Hid (Z.heap.size = w7.heap.size + 1) := Lib.hid (by rw [hZ, World.size_alloc])
          have HZ7 : Hid (Below w7.heap.size w7 Z) := Lib.hid (by rw [hZ]; exact balloc (Below.refl _ _) _)
          obtain ⟨⟨z0, z1, z2, z3, z4⟩, -⟩ := five_cells hZr
          clear hZ hZr
          obtain ⟨va, vc, hvs, -⟩ := HOWN.out.read (D' := fun _ => True) (fun _ _ => trivial) (fun _ _ => trivial)
          subst hvs
          rw [HLEN.out]
          have HOZ := HOWN.out.keep HBZ.out (fun b hb => (HDJ.out b hb).1)
          rw [HLEN.out] at HOZ HDJ
          have HOA : Hid ((Z.alloc (.cells #[.int .i64 G.k, .int .i64 G.n, .string G.s, .int .i64 G.q, .slice a7 cg k7] 33)).ownsRow W.heap.size 33 5 (.slice va j vc) j (tcells bs)) := Lib.hid (by
            have h := HOZ.own.alloc (.cells #[.int .i64 G.k, .int .i64 G.n, .string G.s, .int .i64 G.q, .slice a7 cg k7] 33)
            rw [HLEN.out] at h
            exact h)
          have HOZ := Lib.hid HOZ
          obtain ⟨i33, hi, hz0, hz1, hz2⟩ := info_parts info33
          have HI := Lib.hid hi
          have hone : ∀ u ∈ ([.int .i64 G.k, .int .i64 G.n, .string G.s, .int .i64 G.q, .slice a7 cg k7] : List Value), u.oneCell' = true := by
            intro u hu
            simp at hu
            rcases hu with rfl | rfl | rfl | rfl | rfl <;> rfl
          have hj9 : j ≤ 1000 := by omega
          have hbase : W.heap.size ≤ (Z.alloc (.cells #[.int .i64 G.k, .int .i64 G.n, .string G.s, .int .i64 G.q, .slice a7 cg k7] 33)).heap.size := by
            have h1 := HSZ.out
            have h2 := HB7.out.size
            rw [World.size_alloc]
            omega
          have HBASE := Lib.hid hbase
          clear hi hbase
          go_upto_region 11 with (first | (at_builtin; go_must (refine wpList_append3 rfl (.tmp 46) (.tmp 48) 31 31 rfl W.heap.size 33 33 i33 _ 5 64 Try.underlying31 Try.underlying31 HI.out hz0 hz1 hz2 rfl (by decide) (.slice va j vc) j (tcells bs) rfl HOA.out (some ⟨Z.heap.size, 0, none⟩) 1 1 [.int .i64 G.k, .int .i64 G.n, .string G.s, .int .i64 G.q, .slice a7 cg k7] rfl rfl (fun _ => ⟨_, rfl, new_cells (c := #[.int .i64 G.k, .int .i64 G.n, .string G.s, .int .i64 G.q, .slice a7 cg k7]) _ (by simp)⟩) hone (by unfold maxLen; omega) (by omega) HBASE.out ?_)))
          intro v1 w9 hown1 hgr1 hat1
          have FIN : ∃ (bs' : List Bt) (Dj' : Nat → Prop), bs'.length = j + 1 ∧ bs'.map Bt.t = (t.args.take (j + 1)).map (putD l) ∧ OwnT W.heap.size w9 Dj' v1 bs' ∧ (∀ b, Dj' b → b < w9.heap.size ∧ v1.ownBlock ≠ some b ∧ (D b ∨ W.heap.size ≤ b)) ∧ Below W.heap.size W w9 := by
            obtain ⟨A, hA⟩ : ∃ A, A = Z.alloc (.cells #[.int .i64 G.k, .int .i64 G.n, .string G.s, .int .i64 G.q, .slice a7 cg k7] 33) := ⟨_, rfl⟩
            rw [← hA] at hgr1
            have hat1 : v1.ownBlock = (Value.slice va j vc).ownBlock ∨ v1.ownBlock = some A.heap.size := by
              rw [hA]
              simpa using hat1
            have hZA : Below Z.heap.size Z A := by rw [hA]; exact balloc (Below.refl _ _) _
            have hsA : A.heap.size = w7.heap.size + 2 := by rw [hA, World.size_alloc, HSZ.out]
            have hboA : Below wo.heap.size wo A := bthen HBZ.out hZA
            have h7A : Below w7.heap.size w7 A := bthen HZ7.out hZA
            have hs7 := HB7.out.size
            have hold : ∀ g, (Value.slice va j vc).ownBlock = some g → W.heap.size ≤ g ∧ g < wo.heap.size := fun g hg => by
              have h := HOWN.out.own.lt g (by rw [HLEN.out]; exact hg)
              exact h
            have hDw : ∀ b, D b → b < W.heap.size := fun b hb => Nat.lt_trans (HD.out b hb) hp0
            have hc9 : ∀ b, b < A.heap.size → (Value.slice va j vc).ownBlock ≠ some b → ∀ off, w9.cell? ⟨b, off, none⟩ = A.cell? ⟨b, off, none⟩ := fun b hb hne off => World.cell?_of_block (hgr1.block b hb (fun e => hne e.symm))
            have hlast : ∀ b, (D b ∨ (wo.heap.size ≤ b ∧ b < w7.heap.size)) → b < w7.heap.size ∧ (Value.slice va j vc).ownBlock ≠ some b ∧ (D b ∨ W.heap.size ≤ b) := fun b hb => by
              rcases hb with hb | hb
              · exact ⟨by have := hDw b hb; omega, (fun e => by have := (hold b e).1; have := hDw b hb; omega), .inl hb⟩
              · exact ⟨hb.2, (fun e => by have := (hold b e).2; omega), .inr (Nat.le_trans hsz hb.1)⟩
            refine ⟨bs ++ [⟨G, a7, k7⟩], fun b => Dj b ∨ (D b ∨ (wo.heap.size ≤ b ∧ b < w7.heap.size)), by rw [List.length_append, HLEN.out]; rfl, ?_, ⟨?_, ?_⟩, ?_, ?_⟩
            · rw [List.map_append, HMAP.out, List.take_succ_eq_append_getElem hju, List.map_append, List.map_singleton, List.map_singleton, HG.out, HX.out]
            · rw [List.length_append, tcells_append, HLEN.out]
              have e : tcells [⟨G, a7, k7⟩] = [.int .i64 G.k, .int .i64 G.n, .string G.s, .int .i64 G.q, .slice a7 cg k7] := by rw [HCG.out]; rfl
              rw [e]
              exact hown1
            · intro b hb
              rcases List.mem_append.1 hb with hb | hb
              · refine ((HOWN.out.sl b hb).keep fun d hd off => ?_).mono fun b h => .inl h
                have h1 := HDJ.out d hd
                rw [hc9 d (Nat.lt_of_lt_of_le h1.1 hboA.size) h1.2.1 off]
                exact below_cells hboA d h1.1 off
              · rw [List.mem_singleton] at hb
                subst hb
                refine (HS7.out.keep fun d hd off => ?_).mono fun b h => .inr h
                have h1 := hlast d hd
                rw [hc9 d (Nat.lt_of_lt_of_le h1.1 h7A.size) h1.2.1 off]
                exact below_cells h7A d h1.1 off
            · intro b hb
              have hb9 : b < w7.heap.size ∧ (Value.slice va j vc).ownBlock ≠ some b ∧ (D b ∨ W.heap.size ≤ b) := by
                rcases hb with hb | hb
                · exact ⟨Nat.lt_of_lt_of_le (HDJ.out b hb).1 hs7, (HDJ.out b hb).2⟩
                · exact hlast b hb
              refine ⟨Nat.lt_of_lt_of_le (by omega) hgr1.size, ?_, hb9.2.2⟩
              rcases hat1 with e | e
              · rw [e]; exact hb9.2.1
              · rw [e, hsA]
                intro e2
                have := Option.some.inj e2
                omega
            · exact HBR.out.trans ((hboA.mono hsz).trans (grew_none hgr1 (by omega) (fun g hg => (hold g hg).1)))
          have HFIN := Lib.hid FIN
          clear FIN hown1 hgr1 hat1 hone z0 z1 z2 z3 z4 HOA HOZ HI HBASE
          go_wp2_with fail
          go_roundw
          case rel =>
            obtain ⟨bs', Dj', h1, h2, h3, h4, h5⟩ := HFIN.out
            exact ⟨j + 1, bs', Dj', by go_num, hlt, h1, h2, h3, h4, h5⟩
          case measure => simp only [intOf]; omega
        · obtain rfl : j = c := by omega
          have hd : decide ((j : Int) < (j : Int)) = false := by simp
          obtain ⟨va, vc, hvs, hread⟩ := HOWN.out.read (D' := fun b => D b ∨ (W.heap.size ≤ b ∧ b < wo.heap.size)) (fun b hb => (HDJ.out b hb).2.2.elim .inl (fun h => .inr ⟨h, (HDJ.out b hb).1⟩)) (fun b hb => .inr (HOWN.out.own.lt b hb))
          subst hvs
          rw [HLEN.out]
          have hFa : F.args = bs.map Bt.t := by rw [HFE.out, HMAP.out, HC.out, List.take_length]; rfl
          have HREAD : Hid (SlD wo (fun b => D b ∨ (W.heap.size ≤ b ∧ b < wo.heap.size)) F.args va vc) := Lib.hid (by rw [hFa]; exact hread)
          have hFl : F.args.length = j := by rw [hFa, List.length_map, HLEN.out]
          have HROWF : Hid (rowOf F va vc = #[.int .i64 t.k, .int .i64 t.n, .string t.s, .int .i64 t.q, .slice va j vc]) := Lib.hid (by unfold rowOf; rw [hFl, HFE.out]; rfl)
          unfold zeroRow at hrow3
          obtain ⟨⟨d0, d1, d2, d3, d4⟩, ⟨z0, z1, z2, z3, z4⟩⟩ := five_cells hrow3
          clear hrow3 hread hFa hFl
          go_wp2_with fail
          have hTB1 : ((wo.setCell ⟨w.heap.size, 4, none⟩ (.slice va j vc))).heap[w.heap.size + 1]? = some (.cells zeroRow 33 (0, 0)) := blk_set_ne HRW3.out (Nat.succ_ne_self _) 4 _
          have hbo1 : Below w.heap.size wo (wo.setCell ⟨w.heap.size, 4, none⟩ (.slice va j vc)) := (Below.refl w.heap.size wo).setCell (p := ⟨w.heap.size, 4, none⟩) (Nat.le_refl _) _
          have hrf := HROWF.out
          have hTB : TB (set5 (wo.setCell ⟨w.heap.size, 4, none⟩ (.slice va j vc)) (w.heap.size + 1) F va vc) (w.heap.size + 1) F va vc := TB.set hTB1 F va vc
          have hb9 : Below w.heap.size wo (set5 (wo.setCell ⟨w.heap.size, 4, none⟩ (.slice va j vc)) (w.heap.size + 1) F va vc) := below_set5 hbo1 (Nat.le_succ _)
          have hfin : PutP w D F (.returned (.agg (rowOf F va vc))) (set5 (wo.setCell ⟨w.heap.size, 4, none⟩ (.slice va j vc)) (w.heap.size + 1) F va vc) := by
            refine ⟨va, vc, rfl, ?_, HBO.out.trans hb9⟩
            refine (HREAD.out.keep fun b hb off => ?_).mono fun b hb => hb.elim .inl fun h => .inr ⟨by omega, Nat.lt_of_lt_of_le h.2 hb9.size⟩
            refine World.cell?_of_block ?_
            have n0 : b ≠ w.heap.size ∧ b ≠ w.heap.size + 1 := by
              rcases hb with hb | hb
              · have := HD.out b hb; omega
              · have := hb.1; omega
            exact set5_ne (q := F) (aq := va) (cq := vc) (blk_set_ne rfl n0.1 4 _) n0.2
          have eF : F.k = t.k ∧ F.n = t.n ∧ F.s = t.s ∧ F.q = t.q ∧ F.args.length = j := by
            refine ⟨by rw [HFE.out]; rfl, by rw [HFE.out]; rfl, by rw [HFE.out]; rfl, by rw [HFE.out]; rfl, ?_⟩
            rw [HFE.out]
            show (t.args.map _).length = j
            rw [List.length_map, ← HC.out]
          rw [← eF.1, ← eF.2.1, ← eF.2.2.1, ← eF.2.2.2.1, ← eF.2.2.2.2]
          rw [← eF.2.2.2.2] at hTB hfin
          exact bodyPost_ret (v := .agg (rowOf F va vc)) (res_ty rfl rfl hTB) rfl hfin
/- Proved: the contract of the law General: it answers true. Condition: pairs and binds that fit, pairs of at most 200000 parts. -/

theorem exT_of {σ : Bnd} {t T : Ty} (f : Nat) (h : expand σ f t = some T) : exT σ t = T := exT_eq ⟨f, h⟩
theorem ex_l (σ : Bnd) (h1 : σ 1 = none) : expand σ 2 exL = some exL := by
  rw [exL, expand_con (by decide)]
  show Option.map _ (allO (expand σ 1) [exV, exI]) = _
  rw [allO, allO, allO, show expand σ 1 exV = some exV from by rw [show (1 : Nat) = 0 + 1 from rfl, expand_free (t := exV) rfl h1]; rfl]
  rfl
theorem ex_r (σ : Bnd) (h2 : σ 2 = none) : expand σ 2 exR = some exR := by
  rw [exR, expand_con (by decide)]
  show Option.map _ (allO (expand σ 1) [exB, exW]) = _
  rw [allO, allO, allO, show expand σ 1 exW = some exW from by rw [show (1 : Nat) = 0 + 1 from rfl, expand_free (t := exW) rfl h2]; rfl]
  rfl
theorem ex_c (σ : Bnd) : expand σ 1 exB = some exB ∧ expand σ 1 exI = some exI := ⟨rfl, rfl⟩
theorem ex_v (σ : Bnd) (n : Int) (h : σ n = none) : expand σ 1 (bareT n) = some (bareT n) := expand_free (t := bareT n) rfl h 0
set_option maxRecDepth 100000 in
theorem ex_same (F : Nat) (e : Int → Bool) (h1 : e 1 = false) (h2 : e 2 = false) : sameT (F + 2) ⟨fun _ => none, e⟩ exL exR = some (⟨upd (upd (fun _ => none) 1 exB) 2 exI, e⟩, 0) := by
  have pl : parts exL = 3 := rfl
  have pr : parts exR = 3 := rfl
  have a1 : sameT (F + 1) ⟨fun _ => none, e⟩ exV exB = some (⟨upd (fun _ => none) 1 exB, e⟩, 0) := by
    have hv : expand (fun _ => none) 1 exV = some exV := ex_v _ 1 rfl
    have t1 : topT e (fun _ => none) exV = varT e 1 := topT_eq e hv
    have t2 : topT e (fun _ => none) exB = exB := topT_eq e (ex_c _).1
    rw [sameT]
    simp only []
    rw [exT_of 1 hv, exT_of 1 (ex_c _).1, t1, t2]
    rw [if_neg (by decide), if_neg (by rintro ⟨_, h, _⟩; exact absurd h (by decide)), if_pos (show (varT e 1).k = 0 from rfl)]
    unfold bindD
    simp only []
    rw [exT_of 1 (ex_c _).1, show (varT e 1).n = 1 from rfl, if_neg (show ¬ (1 : Int) ∈ occD exB from by decide), h1, if_neg (fun h => by cases h.1), if_neg (by decide)]
  have a2 : sameT (F + 1) ⟨upd (fun _ => none) 1 exB, e⟩ exI exW = some (⟨upd (upd (fun _ => none) 1 exB) 2 exI, e⟩, 0) := by
    have hw : expand (upd (fun _ => none) 1 exB) 1 exW = some exW := ex_v _ 2 rfl
    have t1 : topT e (upd (fun _ => none) 1 exB) exI = exI := topT_eq e (ex_c _).2
    have t2 : topT e (upd (fun _ => none) 1 exB) exW = varT e 2 := topT_eq e hw
    rw [sameT]
    simp only []
    rw [exT_of 1 (ex_c _).2, exT_of 1 hw, t1, t2]
    rw [if_neg (by decide), if_neg (by rintro ⟨h, _, _⟩; exact absurd h (by decide)), if_neg (by decide), if_pos (show (varT e 2).k = 0 from rfl)]
    unfold bindD
    simp only []
    rw [exT_of 1 (ex_c _).2, show (varT e 2).n = 2 from rfl, if_neg (show ¬ (2 : Int) ∈ occD exI from by decide), h2, if_neg (fun h => by cases h.1), if_neg (by decide)]
  have t1 : topT e (fun _ => none) exL = exL := topT_eq e (ex_l _ rfl)
  have t2 : topT e (fun _ => none) exR = exR := topT_eq e (ex_r _ rfl)
  rw [sameT]
  simp only []
  rw [exT_of 2 (ex_l _ rfl), exT_of 2 (ex_r _ rfl), t1, t2]
  rw [if_neg (by rw [pl, pr]; decide), if_neg (by rintro ⟨h, _, _⟩; exact absurd h (by decide)), if_neg (by decide), if_neg (by decide), if_pos (by unfold headA; exact decide_eq_true ⟨rfl, rfl, rfl, rfl⟩)]
  show seqD (sameT (F + 1)) _ [exV, exI] [exB, exW] = _
  rw [seqD, a1]
  simp only []
  rw [if_pos trivial, seqD, a2]
  simp only []
  rw [if_pos trivial, seqD]
theorem mark_parts (e : Int → Bool) (f : Nat) : ∀ t : Ty, parts t ≤ f → parts (markT e t) ≤ parts t := by
  induction f with
  | zero => intro t h; have := parts_pos t; omega
  | succ f ih =>
    intro t h
    cases t with
    | mk k n s q args =>
      rw [markT]
      split
      · have := parts_pos (Ty.mk k n s q args)
        have e2 : parts (varT e n) = 1 := rfl
        omega
      · rw [parts, parts, markL_map]
        rw [parts] at h
        have hl : ∀ l : List Ty, partsL l ≤ f → partsL (l.map (markT e)) ≤ partsL l := fun l => by
          induction l with
          | nil => intro _; exact Nat.le_refl _
          | cons p ps ihl =>
            intro hl
            rw [partsL] at hl
            rw [List.map_cons, partsL, partsL]
            have h1 := ih p (by omega)
            have h2 := ihl (by omega)
            omega
        have := hl args (by omega)
        omega
theorem out_parts (s : St) (N : Nat) : ∀ (ns : List Int) (acc : List (Int × Ty)), (∀ x ∈ acc, parts x.2 ≤ 400) → ∀ x ∈ (outT s N ns acc).1, parts x.2 ≤ 400
  | [], acc, h => by rw [outT]; exact h
  | n :: ns, acc, h => by
    rw [outT]
    split
    · intro x hx; cases hx
    · rename_i hp
      refine out_parts s N ns _ fun x hx => ?_
      rcases List.mem_append.1 hx with hx | hx
      · exact h x hx
      · rw [List.mem_singleton] at hx
        subst hx
        have := mark_parts s.e _ (exT s.b (bareT n)) (Nat.le_refl _)
        show parts (markT s.e (exT s.b (bareT n))) ≤ 400
        omega
theorem solve_parts (l : List (Ty × Ty)) : ∀ x ∈ (solveT l).1, parts x.2 ≤ 400 := by
  unfold solveT
  split
  · intro x hx; cases hx
  · split
    · intro x hx; cases hx
    · split
      · exact out_parts _ _ _ _ fun x hx => by cases hx
      · intro x hx; cases hx
theorem out_i64 (s : St) (N : Nat) : ∀ (ns : List Int) (acc : List (Int × Ty)), (∀ x ∈ acc, I64 x.1) → (∀ n ∈ ns, I64 n) → ∀ x ∈ (outT s N ns acc).1, I64 x.1
  | [], acc, h, _ => by rw [outT]; exact h
  | n :: ns, acc, h, hn => by
    rw [outT]
    split
    · intro x hx; cases hx
    · refine out_i64 s N ns _ (fun x hx => ?_) fun m hm => hn m (by simp [hm])
      rcases List.mem_append.1 hx with hx | hx
      · exact h x hx
      · rw [List.mem_singleton] at hx
        subst hx
        exact hn n (by simp)
theorem solve_i64 {l : List (Ty × Ty)} (hf : ∀ p ∈ l, Fits p.1 ∧ Fits p.2) : ∀ x ∈ (solveT l).1, I64 x.1 := by
  unfold solveT
  split
  · intro x hx; cases hx
  · split
    · intro x hx; cases hx
    · split
      · exact out_i64 _ _ _ _ (fun x hx => by cases hx) fun n hn => vsP_i64 hf n (rising_mem.1 hn)
      · intro x hx; cases hx
theorem okP_parts {p : Ty × Ty} (h : okP p = true) : parts p.1 ≤ 400 ∧ parts p.2 ≤ 400 := by
  unfold okP ProperD at h
  simp only [Bool.and_eq_true, decide_eq_true_eq] at h
  exact ⟨h.1.1, h.2.1⟩
theorem fin_own0 {rb : Nat} {w : World} {D : Nat → Prop} {v : Value} {bs : List Bd} {v0 v1 : Value} (ho : OwnB 0 w D v bs) (hr : w.heap[rb]? = some (.cells #[v0, v1] 28 (0, 0))) (hD : ∀ b, D b → b ≠ rb) (x y : Value) : OwnB 0 ((w.setCell ⟨rb, 0, none⟩ x).setCell ⟨rb, 1, none⟩ y) D v bs :=
  ⟨own_set (own_set ho.own hr (by decide) 0 x) (blk_set hr 0 x) (by decide) 1 y, fun b hb => (ho.sl b hb).keep fun d hd off => by
    have hne := hD d hd
    exact World.cell?_of_block (a := ⟨d, off, none⟩) (blk_set_ne (blk_set_ne rfl hne 0 x) hne 1 y)⟩
/-- what Solve finds of the law's example -/
theorem ex_solved : solveT [(exL, exR)] = ([(1, exB), (2, exI)], 0, 0) := by
  have hf : fuelP [(exL, exR)] = 1201 + 2 := rfl
  have hr : runT (fuelP [(exL, exR)]) (st0 [(exL, exR)]) [(exL, exR)] 0 = some (⟨upd (upd (fun _ => none) 1 exB) 2 exI, (st0 [(exL, exR)]).e⟩, 0, 0) := by
    rw [hf, runT]
    have h := ex_same 1201 (st0 [(exL, exR)]).e rfl rfl
    show (match sameT (1201 + 2) ⟨fun _ => none, (st0 [(exL, exR)]).e⟩ exL exR with
      | none => none
      | some (s', e) => if e = 0 then runT (1201 + 2) s' [] 1 else some (s', e, 0)) = _
    rw [h]
    simp only []
    rw [if_pos trivial, runT]
  have hv : risingD (vsP [] [(exL, exR)]) = [1, 2] := by decide
  have h1 : expand (upd (upd (fun _ => none) 1 exB) 2 exI) 2 (bareT 1) = some exB := rfl
  have h2 : expand (upd (upd (fun _ => none) 1 exB) 2 exI) 2 (bareT 2) = some exI := rfl
  have hok : okP (exL, exR) = true := by simp [okP, ProperD, exL, exR, exV, exW, exI, exB, shapedD, shapedL, okT, parts, partsL, Ty.k, Ty.n, Ty.s, Ty.q, Ty.args]
  have hw : ([(exL, exR)].takeWhile okP).length = 1 := by rw [List.takeWhile_cons, hok]; rfl
  rw [solveT, hw, if_neg (by show ¬ 1 < 1; decide), hr]
  simp only []
  rw [if_pos trivial, hv, outT]
  simp only []
  rw [exT_of 2 h1, if_neg (by decide), outT]
  simp only []
  rw [exT_of 2 h2, if_neg (by decide), outT]
  rfl
set_option maxRecDepth 100000 in
set_option maxHeartbeats 16000000 in
theorem general_any (l : List (Ty × Ty)) (sm : List (Int × Ty)) (D : Nat → Prop) (ao so : Option Addr) (cap sc : Nat) (w : World) (hD : ∀ b, D b → b < w.heap.size) (hv : PairsV w D l ao) (hb : BindsV w D sm so) (hf : ∀ p ∈ l, Fits p.1 ∧ Fits p.2) (hfs : ∀ x ∈ sm, Fits x.2) (hN : ptP l ≤ 200000) (hsl : sm.length ≤ 3000000000000) :
    Calls Try.prog 4 #[.slice ao l.length cap, .slice so sm.length sc] w fun e w' => e = .returned (.bool true) ∧ Below w.heap.size w w' := by
  have HEX := Lib.hid (example_any w)
  have HE1 : Hid (∀ (X : World) (b : Nat) (D1 : Nat → Prop), (∀ b, D1 b → b < X.heap.size) → PairsV X D1 [(exL, exR)] (some ⟨b, 0, none⟩) → Calls Try.prog 8 #[.slice (some ⟨b, 0, none⟩) 1 1] X fun e w' => ∃ v, e = .returned (.tuple #[v, .agg #[.int .i64 0, .int .i64 0]]) ∧ SolveP X ([(1, exB), (2, exI)], 0, 0) v w') := Lib.hid (fun X b D1 h1 h2 => by
    have h := psolve_any [(exL, exR)] D1 _ 1 X h1 h2 ex_fitsP (by simp [ptP, parts, partsL, exL, exR, exV, exW, exI, exB])
    rw [ex_solved] at h
    exact h)
  have HS : Hid (∀ X : World, Below w.heap.size w X → Calls Try.prog 8 #[.slice ao l.length cap] X fun e w' => ∃ v, e = .returned (.tuple #[v, .agg #[.int .i64 (solveT l).2.1, .int .i64 ((solveT l).2.2 : Int)]]) ∧ SolveP X (solveT l) v w') := Lib.hid (fun X hX => psolve_any l D ao cap X (fun b hb => Nat.lt_of_lt_of_le (hD b hb) hX.size) (hv.below hD hX) hf hN)
  have hfl := solveT_len l
  have SOUND := Lib.hid (gen_sound hf)
  have BAD : Hid ((∃ p ∈ l, okP p = false) → (solveT l).2.1 = 21) := Lib.hid (gen_bad hf)
  have STOP := Lib.hid (gen_stop hf sm)
  have MOST := Lib.hid (gen_most hf sm)
  have FP := Lib.hid (solve_parts l)
  have FI := Lib.hid (solve_i64 hf)
  obtain ⟨ans, hans⟩ : ∃ ans, ans = solveT l := ⟨_, rfl⟩
  rw [← hans] at HS SOUND BAD STOP MOST FP FI hfl
  obtain ⟨n, hn⟩ : ∃ n, n = l.length := ⟨_, rfl⟩
  have hn9 : n ≤ 200000 := by rw [hn]; exact Nat.le_trans (ptP_len l) hN
  have HN := Lib.hid hn
  obtain ⟨ns, hns⟩ : ∃ ns, ns = sm.length := ⟨_, rfl⟩
  have HNS := Lib.hid hns
  rw [← hn] at HS
  rw [← hns] at hsl
  rw [← hn, ← hns]
  obtain ⟨fd, hfd⟩ : ∃ fd, fd = ans.1 := ⟨_, rfl⟩
  obtain ⟨kd, hkd⟩ : ∃ kd, kd = ans.2.1 := ⟨_, rfl⟩
  obtain ⟨ai, hai⟩ : ∃ ai : Int, ai = (ans.2.2 : Int) := ⟨_, rfl⟩
  rw [← hfd] at SOUND MOST FP FI hfl
  rw [← hkd] at HS SOUND BAD STOP MOST
  rw [← hai] at HS
  have HFD := Lib.hid hfd
  have HV := Lib.hid hv
  have HB := Lib.hid hb
  have HF := Lib.hid hf
  have HFS := Lib.hid hfs
  have HD := Lib.hid hD
  have hfl9 : fd.length ≤ 200000 := by omega
  clear hans hn hns hkd hai hfd hv hb hf hfs hD hN hfl
  go_enter Try.func4, Try.ntmps4
  go_upto_region 2 with (first
    | (go_at_call 8; refine HC1.out.mono ?_; rintro e w2 ⟨v1, rfl, h2⟩; have H2 := Lib.hid h2; clear h2)
    | (go_at_call 7; refine HEX.out.mono ?_; rintro e w1 h1; obtain ⟨b1, D1, rfl, hp1, hd1, hb1⟩ := h1.out; have HC1 := Lib.hid (HE1.out w1 b1 D1 (fun b hb => (hd1 b hb).2) hp1); have HB1 := Lib.hid hb1; clear h1 hp1 hd1 hb1))
  obtain ⟨D2, bs1, he1, ho1, hD2, -, hb2⟩ := H2.out.out
  obtain ⟨W1, hW1⟩ : ∃ W1, W1 = w2.alloc (.cells #[.int .i64 0, .int .i64 0] 28) := ⟨_, rfl⟩
  obtain ⟨fb, hfb⟩ : ∃ fb, fb = w2.heap.size := ⟨_, rfl⟩
  have hr1 : W1.heap[fb]? = some (.cells #[.int .i64 0, .int .i64 0] 28 (0, 0)) := by rw [hW1, hfb]; exact heap_alloc_new w2 _
  have hb11 : Below w2.heap.size w2 W1 := by rw [hW1]; exact balloc (Below.refl _ _) _
  have hbw2 : Below w.heap.size w w2 := bthen HB1.out hb2
  have HBW1 := Lib.hid (bthen hbw2 hb11)
  have HR1 := Lib.hid hr1
  have HFB : Hid (w.heap.size ≤ fb) := Lib.hid (by rw [hfb]; exact hbw2.size)
  have hpk := ho1.keep hb11 (fun b hb => (hD2 b hb).2)
  obtain ⟨fo1, fc1, rfl, hbd1⟩ := hpk.binds (D' := fun _ => True) (fun _ _ => trivial) (fun _ _ => trivial)
  rw [he1] at hbd1
  have hl1 : bs1.length = 2 := by
    have h := congrArg List.length he1
    rw [List.length_map] at h
    exact h
  obtain ⟨g0, q0, a0, k0, -, hix0, ⟨-, -, -, x3, -, -⟩, -⟩ := bind_cells fc1 hbd1 (k := 0) (n := 1) (x := exB) rfl
  obtain ⟨g1, q1, a1, k1, -, hix1, ⟨-, -, -, y3, -, -⟩, -⟩ := bind_cells fc1 hbd1 (k := 1) (n := 2) (x := exI) rfl
  have hixa : ∀ w' : World, (Instr.indexAt 25 (.slice fo1 2 fc1) (.int .i64 0)).run Try.prog w' = .ok (.pointer (some ⟨g0, q0, none⟩)) w' := hix0
  have hixb : ∀ w' : World, (Instr.indexAt 25 (.slice fo1 2 fc1) (.int .i64 1)).run Try.prog w' = .ok (.pointer (some ⟨g1, q1, none⟩)) w' := hix1
  have xs0 : W1.cell? ⟨g0, q0 + 1 + 2, none⟩ = some (.string ⟨#[98, 111, 111, 108]⟩) := x3
  have xs1 : W1.cell? ⟨g1, q1 + 1 + 2, none⟩ = some (.string ⟨#[105, 110, 116]⟩) := y3
  have r0 : W1.cell? ⟨fb, 0, none⟩ = some (.int .i64 0) := blk_cell hr1 0
  have r1 : W1.cell? ⟨fb, 1, none⟩ = some (.int .i64 0) := blk_cell hr1 1
  rw [← hW1, ← hfb, hl1]
  clear hW1 hfb hr1 hb11 hbw2 he1 ho1 hD2 hb2 H2 HC1 HE1 HEX HB1 hpk hbd1 hl1 hix0 hix1 x3 y3
  go_upto_region 4 with fail
  clear hixa hixb xs0 xs1 r0 r1
  go_upto_region 5 with (first | (go_at_call 8; refine (HS.out W1 HBW1.out).mono ?_; rintro e w3 ⟨v7, rfl, h3⟩; have H3 := Lib.hid h3; obtain ⟨-, -, -, -, -, -, hb3⟩ := h3.out; have hr3 := blk_below HR1.out hb3 (lt_of_block HR1.out); have HR3 := Lib.hid hr3; have r0 := blk_cell hr3 0; have r1 := blk_cell hr3 1; have y0 := blk_free hr3 0; have y1 := blk_free hr3 1; clear h3 hb3 hr3))
  obtain ⟨D3, bs3, he3, ho3, hD3, hf3, hb3⟩ := H3.out.out
  obtain ⟨Y, hY⟩ : ∃ Y, Y = (w3.setCell ⟨fb, 0, none⟩ (.int .i64 kd)).setCell ⟨fb, 1, none⟩ (.int .i64 ai) := ⟨_, rfl⟩
  have hrY : Y.heap[fb]? = some (.cells #[.int .i64 kd, .int .i64 ai] 28 (0, 0)) := by rw [hY]; exact set28 HR3.out _ _
  have hbY : Below w.heap.size w Y := by rw [hY]; exact ((bthen HBW1.out hb3).setCell (p := ⟨fb, 0, none⟩) HFB.out _).setCell (p := ⟨fb, 1, none⟩) HFB.out _
  have hoY : OwnB 0 Y D3 v7 bs3 := by rw [hY]; exact fin_own0 ho3 HR3.out (fun b hb e => by have := (hD3 b hb).1; have := lt_of_block HR1.out; omega) _ _
  have hs3 : Y.heap.size = w3.heap.size := by rw [hY]; simp
  obtain ⟨N, hNN⟩ : ∃ N, N = Y.heap.size := ⟨_, rfl⟩
  obtain ⟨fo, fc, rfl, hbd⟩ := hoY.binds (D' := fun b => b < N) (fun b hb => by rw [hNN, hs3]; exact (hD3 b hb).2) (fun b hb => by rw [hNN]; exact (hoY.own.lt b hb).2)
  rw [he3, ← HFD.out] at hbd
  have hl3 : bs3.length = fd.length := by
    have h := congrArg List.length he3
    rw [List.length_map, ← HFD.out] at h
    exact h
  have hff : ∀ x ∈ fd, Fits x.2 := fun x hx => by
    rw [HFD.out, ← he3] at hx
    obtain ⟨b, hb, rfl⟩ := List.mem_map.1 hx
    exact hf3 b hb
  obtain ⟨nf, hnf⟩ : ∃ nf, nf = fd.length := ⟨_, rfl⟩
  have KEEP : Hid (∀ V : World, Below N Y V → (∀ b, b < N → b < V.heap.size) ∧ PairsV V (fun b => b < N) l ao ∧ BindsV V (fun b => b < N) fd fo ∧ BindsV V (fun b => b < N) sm so ∧ V.heap[fb]? = some (.cells #[.int .i64 kd, .int .i64 ai] 28 (0, 0)) ∧ Below w.heap.size w V) := Lib.hid (fun V hV => by
    have hwY : w.heap.size ≤ N := by rw [hNN]; exact hbY.size
    have hwV : Below w.heap.size w V := hbY.trans (hV.mono hwY)
    refine ⟨fun b hb => Nat.lt_of_lt_of_le hb (by rw [hNN]; exact hV.size), ?_, hbd.keep (below_cells hV), ?_, blk_below hrY hV (by rw [hNN]; exact lt_of_block hrY), hwV⟩
    · intro k hk
      obtain ⟨b, off, a1, c1, a2, c2, h1, h2, h3, h4, h5⟩ := (HV.out.keep (cells_D HD.out hwV)) k hk
      have hm : ∀ b, D b → b < N := fun b hb => Nat.lt_of_lt_of_le (HD.out b hb) hwY
      exact ⟨b, off, a1, c1, a2, c2, h1, hm b h2, h3, h4.mono hm, h5.mono hm⟩
    · exact (HB.out.keep (cells_D HD.out hwV)).mono fun b hb => Nat.lt_of_lt_of_le (HD.out b hb) hwY)
  have P1 : Hid (∀ V : World, Below N Y V → ∀ (x : Ty) (a : Option Addr) (c : Nat), parts x ≤ 1000 → SlD V (fun b => b < N) x.args a c → Calls Try.prog 9 #[.agg (rowOf x a c), .slice fo nf fc] V (PutP V (fun b => b < N) (putD fd x))) := Lib.hid (fun V hV x a c hp hs => by
    have hk := KEEP.out V hV
    rw [hnf]
    exact put_any fd (by omega) 1000 x hp (Nat.le_refl _) _ a fo c fc V hk.1 hs hk.2.2.1)
  have P2 : Hid (∀ V : World, Below N Y V → ∀ (x : Ty) (a : Option Addr) (c : Nat), parts x ≤ 1000 → SlD V (fun b => b < N) x.args a c → Calls Try.prog 9 #[.agg (rowOf x a c), .slice so ns sc] V (PutP V (fun b => b < N) (putD sm x))) := Lib.hid (fun V hV x a c hp hs => by
    have hk := KEEP.out V hV
    rw [HNS.out]
    exact put_any sm (by rw [← HNS.out]; exact hsl) 1000 x hp (Nat.le_refl _) _ a so c sc V hk.1 hs hk.2.2.2.1)
  have FF1 : Hid (∀ x, Fits x → Fits (putD fd x)) := Lib.hid (fun x hx => put_fits hff _ x (Nat.le_refl _) hx)
  have FF2 : Hid (∀ x, Fits x → Fits (putD sm x)) := Lib.hid (fun x hx => put_fits HFS.out _ x (Nat.le_refl _) hx)
  have HFF := Lib.hid hff
  have HRY := Lib.hid hrY
  have HNF := Lib.hid hnf
  have HNY := Lib.hid hNN
  have r0 : Y.cell? ⟨fb, 0, none⟩ = some (.int .i64 kd) := blk_cell hrY 0
  rw [← hY, hl3, ← hnf]
  clear hY hrY hbY hoY hs3 he3 ho3 hD3 hf3 hb3 hbd hl3 hff hnf H3 HS HR1 HR3 HBW1 HFB y0 y1 hNN HV HB HD HFD r1
  have hfl8 : nf ≤ 200000 := by rw [HNF.out]; exact hfl9
  clear hfl9
  go_upto_if 58 with fail
  clear r0
  generalize hkb : (kd == 0) = kb
  have HKB := Lib.hid hkb
  clear hkb
  go_cut [8, 9, 10, 11] from 59 to 83 (fun _ _ _ _ wx => Below N Y wx)
  case first =>
    cases kb with
    | true =>
      have HK0 : Hid (kd = 0) := Lib.hid (by have := HKB.out; simpa using this)
      go_wp2_with fail
      go_loopw [8, 9, 10, 11] (fun i _ _ _ wr => ∃ j : Nat, i = .int .i64 (j : Int) ∧ j ≤ n ∧ Below N Y wr) (fun i _ _ _ _ => n - (intOf i).toNat)
      case atStart => exact ⟨0, rfl, Nat.zero_le _, by rw [HNY.out]; exact Below.refl _ _⟩
      case round =>
        obtain ⟨j, rfl, hj, hwo⟩ := hrel
        obtain ⟨wo, rfl⟩ : ∃ wo : World, wo = wr := ⟨_, rfl⟩
        have HWO := Lib.hid hwo
        clear hwo
        by_cases hlt : j < n
        · have hd : decide ((j : Int) < (n : Int)) = true := by simp; omega
          have hjl : j < l.length := by rw [← HN.out]; exact hlt
          obtain ⟨x, y, hxy⟩ : ∃ x y, l[j]? = some (x, y) := ⟨l[j].1, l[j].2, by rw [List.getElem?_eq_getElem hjl]⟩
          have HXY := Lib.hid hxy
          have HMEM : Hid ((x, y) ∈ l) := Lib.hid (List.mem_of_getElem? hxy)
          have hok : okP (x, y) = true := by
            cases h : okP (x, y) with
            | true => rfl
            | false =>
              have := BAD.out ⟨_, HMEM.out, h⟩
              rw [HK0.out] at this
              cases this
          have HOK := Lib.hid hok
          clear hxy hok hjl
          obtain ⟨b0, p, a1, c1, a2, c2, -, hix, ⟨x0, x1, x2, x3, x4⟩, -, hsx, -⟩ := pair_cells cap (KEEP.out wo HWO.out).2.1 HXY.out
          rw [← HN.out] at hix
          have hfit := HF.out _ HMEM.out
          have hpar := okP_parts HOK.out
          have HFX := Lib.hid hfit.1
          have HFY := Lib.hid hfit.2
          have HPX := Lib.hid hpar.1
          have HPY := Lib.hid hpar.2
          clear hfit hpar
          have hcall := P1.out wo HWO.out x a1 c1 (Nat.le_trans HPX.out (by omega)) hsx
          obtain ⟨X, hX⟩ : ∃ X, X = putD fd x := ⟨_, rfl⟩
          rw [← hX] at hcall
          unfold rowOf at hcall
          have HCALL := Lib.hid hcall
          have HX := Lib.hid hX
          clear hcall hX
          go_upto_region 10 with (first | (go_at_call 9; refine HCALL.out.mono ?_; rintro e w1 h1; obtain ⟨p1, k1, rfl, hs1, hb1⟩ := h1.call; have HS1 := Lib.hid hs1; have HB1 := Lib.hid hb1; unfold rowOf at ⊢; clear h1 hs1 hb1))
          obtain ⟨cX, hcX⟩ : ∃ cX, cX = X.args.length := ⟨_, rfl⟩
          rw [← hcX]
          have HCX := Lib.hid hcX
          clear x0 x1 x2 x3 x4 hix hsx hcX HCALL
          obtain ⟨Z1, hZ1⟩ : ∃ Z1, Z1 = w1.alloc (.cells #[.int .i64 X.k, .int .i64 X.n, .string X.s, .int .i64 X.q, .slice p1 cX k1] 33) := ⟨_, rfl⟩
          rw [← hZ1]
          have hZr1 : Z1.heap[w1.heap.size]? = some (.cells #[.int .i64 X.k, .int .i64 X.n, .string X.s, .int .i64 X.q, .slice p1 cX k1] 33 (0, 0)) := by rw [hZ1]; exact heap_alloc_new w1 _
          have hZ11 : Below w1.heap.size w1 Z1 := by rw [hZ1]; exact balloc (Below.refl _ _) _
          have hwoZ1 : Below wo.heap.size wo Z1 := bthen HB1.out hZ11
          have HBZ1 : Hid (Below N Y Z1) := Lib.hid (HWO.out.trans (hwoZ1.mono (by have := HWO.out.size; have := HNY.out; omega)))
          have HSZ1 : Hid (SlD Z1 (fun b => b < w1.heap.size) X.args p1 k1) := Lib.hid ((HS1.out.keep (cells_D (B := w1.heap.size) (fun b hb => hb.elim (fun h => by have := HWO.out.size; have := HNY.out; have := HB1.out.size; omega) (fun h => h.2)) hZ11)).mono fun b hb => hb.elim (fun h => by have := HWO.out.size; have := HNY.out; have := HB1.out.size; omega) (fun h => h.2))
          have HZR1 := Lib.hid hZr1
          clear hZ1 hZr1 hZ11 hwoZ1 HS1 HB1
          obtain ⟨bb, q, b1, e1, b2, e2, -, hix, -, ⟨u0, u1, u2, u3, u4⟩, -, hsy⟩ := pair_cells cap (KEEP.out Z1 HBZ1.out).2.1 HXY.out
          rw [← HN.out] at hix
          replace u1 : Z1.cell? ⟨bb, q + 5 + 1, none⟩ = some (.int .i64 y.n) := u1
          replace u2 : Z1.cell? ⟨bb, q + 5 + 2, none⟩ = some (.string y.s) := u2
          replace u3 : Z1.cell? ⟨bb, q + 5 + 3, none⟩ = some (.int .i64 y.q) := u3
          replace u4 : Z1.cell? ⟨bb, q + 5 + 4, none⟩ = some (.slice b2 y.args.length e2) := u4
          have hcall := P1.out Z1 HBZ1.out y b2 e2 (Nat.le_trans HPY.out (by omega)) hsy
          obtain ⟨X2, hX2⟩ : ∃ X2, X2 = putD fd y := ⟨_, rfl⟩
          rw [← hX2] at hcall
          unfold rowOf at hcall
          have HCALL := Lib.hid hcall
          have HX2 := Lib.hid hX2
          clear hcall hX2
          go_upto_region 11 with (first | (go_at_call 9; refine HCALL.out.mono ?_; rintro e w2 h2; obtain ⟨p2, k2, rfl, hs2, hb2⟩ := h2.call; have HS2 := Lib.hid hs2; have HB2 := Lib.hid hb2; unfold rowOf at ⊢; clear h2 hs2 hb2))
          obtain ⟨cX2, hcX2⟩ : ∃ cX2, cX2 = X2.args.length := ⟨_, rfl⟩
          rw [← hcX2]
          have HCX2 := Lib.hid hcX2
          clear u0 u1 u2 u3 u4 hix hsy hcX2 HCALL
          obtain ⟨Z2, hZ2⟩ : ∃ Z2, Z2 = w2.alloc (.cells #[.int .i64 X2.k, .int .i64 X2.n, .string X2.s, .int .i64 X2.q, .slice p2 cX2 k2] 33) := ⟨_, rfl⟩
          rw [← hZ2]
          have hZr2 : Z2.heap[w2.heap.size]? = some (.cells #[.int .i64 X2.k, .int .i64 X2.n, .string X2.s, .int .i64 X2.q, .slice p2 cX2 k2] 33 (0, 0)) := by rw [hZ2]; exact heap_alloc_new w2 _
          have hZ22 : Below w2.heap.size w2 Z2 := by rw [hZ2]; exact balloc (Below.refl _ _) _
          have hZ12 : Below Z1.heap.size Z1 Z2 := bthen HB2.out hZ22
          have HBZ2 : Hid (Below N Y Z2) := Lib.hid (HBZ1.out.trans (hZ12.mono (by have := HBZ1.out.size; have := HNY.out; omega)))
          have hsz2 : w2.heap.size ≤ Z2.heap.size := hZ22.size
          have HSZ2 : SlD Z2 (fun b => b < Z2.heap.size) X2.args p2 k2 := (HS2.out.keep (cells_D (B := w2.heap.size) (fun b hb => hb.elim (fun h => by have := HBZ1.out.size; have := HNY.out; have := HB2.out.size; omega) (fun h => h.2)) hZ22)).mono fun b hb => hb.elim (fun h => by have := HBZ1.out.size; have := HNY.out; have := HB2.out.size; omega) (fun h => by have := h.2; omega)
          have hw1 : w1.heap.size < Z1.heap.size := lt_of_block HZR1.out
          have HSZ1b : SlD Z2 (fun b => b < Z2.heap.size) X.args p1 k1 := (HSZ1.out.keep (cells_D (B := Z1.heap.size) (fun b hb => Nat.lt_trans hb hw1) hZ12)).mono fun b hb => by have := hZ12.size; omega
          have hr1 := blk_below HZR1.out hZ12 hw1
          have hal := ralike_any (parts X) X (Nat.le_refl _) X2 (fun b => b < Z2.heap.size) p1 p2 k1 k2 Z2 (fun b hb => hb) HSZ1b HSZ2 (by rw [HX.out]; exact FF1.out _ (HFX.out)) (by rw [HX2.out]; exact FF1.out _ (HFY.out))
          obtain ⟨av, hav⟩ : ∃ av, av = alikeD X X2 := ⟨_, rfl⟩
          rw [← hav] at hal
          unfold rowOf at hal
          rw [← HCX.out, ← HCX2.out] at hal
          have HAL := Lib.hid hal
          have HAV : Hid (av = alikeD (putD fd x) (putD fd y)) := Lib.hid (by rw [hav, HX.out, HX2.out])
          obtain ⟨⟨z0, z1, z2, z3, z4⟩, -⟩ := five_cells hr1
          obtain ⟨⟨u0, u1, u2, u3, u4⟩, -⟩ := five_cells hZr2
          clear hal hav hr1 hZ2 hZr2 hZ22 hZ12 hsz2 HSZ2 hw1 HSZ1b HS2 HB2 HSZ1 HZR1 HX HX2 HCX HCX2
          go_upto_region 12 with (first | (go_at_call 10; refine HAL.out.mono ?_; rintro e w3 ⟨rfl, hb3⟩; have HB3 : Hid (Below N Y w3) := Lib.hid (HBZ2.out.trans (hb3.mono (by have := HBZ2.out.size; have := HNY.out; omega))); clear hb3))
          clear z0 z1 z2 z3 z4 u0 u1 u2 u3 u4 HAL
          obtain rfl : av = true := by
            rw [HAV.out]
            exact SOUND.out HK0.out _ HMEM.out
          go_wp2_with fail
          go_roundw
          case rel => exact ⟨j + 1, by go_num, hlt, HB3.out⟩
          case measure => simp only [intOf]; omega
        · obtain rfl : j = n := by omega
          have hd : decide ((j : Int) < (j : Int)) = false := by simp
          go_wp2_with fail
          go_meet
          exact HWO.out
    | false =>
      go_wp2_with fail
      go_meet
      rw [HNY.out]
      exact Below.refl _ _
  case rest =>
  obtain ⟨Y2, rfl⟩ : ∃ Y2 : World, Y2 = wc := ⟨_, rfl⟩
  have HY2 := Lib.hid hcut
  clear hcut
  go_wp2_with fail
  go_loopw [12, 13, 14, 15, 16, 17] (fun i _ _ _ _ _ wr => ∃ j : Nat, i = .int .i64 (j : Int) ∧ j ≤ n ∧ (∀ p ∈ l.take j, okP p = true ∧ alikeD (putD sm p.1) (putD sm p.2) = true) ∧ Below N Y wr) (fun i _ _ _ _ _ _ => n - (intOf i).toNat)
  case atStart => exact ⟨0, rfl, Nat.zero_le _, by simp, HY2.out⟩
  case round =>
    obtain ⟨j, rfl, hj, hal, hwo⟩ := hrel
    obtain ⟨wo, rfl⟩ : ∃ wo : World, wo = wr := ⟨_, rfl⟩
    have HWO := Lib.hid hwo
    have HALL := Lib.hid hal
    clear hwo hal
    by_cases hlt : j < n
    · have hd : decide ((j : Int) < (n : Int)) = true := by simp; omega
      have hjl : j < l.length := by rw [← HN.out]; exact hlt
      obtain ⟨x, y, hxy⟩ : ∃ x y, l[j]? = some (x, y) := ⟨l[j].1, l[j].2, by rw [List.getElem?_eq_getElem hjl]⟩
      have HXY := Lib.hid hxy
      have HMEM : Hid ((x, y) ∈ l) := Lib.hid (List.mem_of_getElem? hxy)
      clear hxy hjl
      obtain ⟨b0, p, a1, c1, a2, c2, -, hix, ⟨x0, x1, x2, x3, x4⟩, -, hsx, -⟩ := pair_cells cap (KEEP.out wo HWO.out).2.1 HXY.out
      rw [← HN.out] at hix
      have hpr := rproper_any x _ a1 c1 wo (KEEP.out wo HWO.out).1 hsx (HF.out _ HMEM.out).1
      obtain ⟨px, hpx⟩ : ∃ px, px = ProperD x := ⟨_, rfl⟩
      rw [← hpx] at hpr
      unfold rowOf at hpr
      have HPR := Lib.hid hpr
      have HPX := Lib.hid hpx
      clear hpr hpx hsx
      go_upto_region 18 with (first | (go_at_call 11; refine HPR.out.mono ?_; rintro e v1 ⟨rfl, hb1⟩; have HV1 : Hid (Below N Y v1) := Lib.hid (HWO.out.trans (hb1.mono (by have := HWO.out.size; have := HNY.out; omega))); clear hb1))
      clear x0 x1 x2 x3 x4 hix HPR
      obtain ⟨bb, q, b1, e1, b2, e2, -, hix, -, ⟨u0, u1, u2, u3, u4⟩, -, hsy⟩ := pair_cells cap (KEEP.out v1 HV1.out).2.1 HXY.out
      rw [← HN.out] at hix
      replace u1 : v1.cell? ⟨bb, q + 5 + 1, none⟩ = some (.int .i64 y.n) := u1
      replace u2 : v1.cell? ⟨bb, q + 5 + 2, none⟩ = some (.string y.s) := u2
      replace u3 : v1.cell? ⟨bb, q + 5 + 3, none⟩ = some (.int .i64 y.q) := u3
      replace u4 : v1.cell? ⟨bb, q + 5 + 4, none⟩ = some (.slice b2 y.args.length e2) := u4
      have hpr := rproper_any y _ b2 e2 v1 (KEEP.out v1 HV1.out).1 hsy (HF.out _ HMEM.out).2
      obtain ⟨py, hpy⟩ : ∃ py, py = ProperD y := ⟨_, rfl⟩
      rw [← hpy] at hpr
      unfold rowOf at hpr
      have HPR := Lib.hid hpr
      have HPY0 := Lib.hid hpy
      clear hpr hpy hsy
      go_upto_region 19 with (first | (go_at_call 11; refine HPR.out.mono ?_; rintro e v2 ⟨rfl, hb2⟩; have HV2 : Hid (Below N Y v2) := Lib.hid (HV1.out.trans (hb2.mono (by have := HV1.out.size; have := HNY.out; omega))); clear hb2))
      clear u0 u1 u2 u3 u4 hix HPR
      have HBADK : Hid (px = false ∨ py = false → kd = 21) := Lib.hid (fun h => BAD.out ⟨_, HMEM.out, by
        unfold okP
        rw [← HPX.out, ← HPY0.out]
        rcases h with h | h
        · rw [h]; rfl
        · rw [h, Bool.and_false]⟩)
      have HTOP := Lib.hid (KEEP.out v2 HV2.out).2.2.2.2.2
      cases px with
      | false =>
        have r0 : v2.cell? ⟨fb, 0, none⟩ = some (.int .i64 kd) := blk_cell (KEEP.out v2 HV2.out).2.2.2.2.1 0
        have k21 : (kd == 21) = true := by rw [HBADK.out (.inl rfl)]; rfl
        go_wp2_with fail
        go_ret
        exact ⟨rfl, HTOP.out⟩
      | true =>
        cases py with
        | false =>
          have r0 : v2.cell? ⟨fb, 0, none⟩ = some (.int .i64 kd) := blk_cell (KEEP.out v2 HV2.out).2.2.2.2.1 0
          have k21 : (kd == 21) = true := by rw [HBADK.out (.inr rfl)]; rfl
          go_wp2_with fail
          go_ret
          exact ⟨rfl, HTOP.out⟩
        | true =>
          have HOK : Hid (okP (x, y) = true) := Lib.hid (by unfold okP; rw [← HPX.out, ← HPY0.out]; rfl)
          go_upto_region 21 with fail
          clear HPX HPY0 HBADK HTOP HWO HV1
          obtain ⟨wo, rfl⟩ : ∃ wo : World, wo = v2 := ⟨_, rfl⟩
          have HWO := HV2
          clear HV2
          obtain ⟨b0, p, a1, c1, a2, c2, -, hix, ⟨x0, x1, x2, x3, x4⟩, -, hsx, -⟩ := pair_cells cap (KEEP.out wo HWO.out).2.1 HXY.out
          rw [← HN.out] at hix
          have hfit := HF.out _ HMEM.out
          have hpar := okP_parts HOK.out
          have HFX := Lib.hid hfit.1
          have HFY := Lib.hid hfit.2
          have HPX := Lib.hid hpar.1
          have HPY := Lib.hid hpar.2
          clear hfit hpar
          have hcall := P2.out wo HWO.out x a1 c1 (Nat.le_trans HPX.out (by omega)) hsx
          obtain ⟨X, hX⟩ : ∃ X, X = putD sm x := ⟨_, rfl⟩
          rw [← hX] at hcall
          unfold rowOf at hcall
          have HCALL := Lib.hid hcall
          have HX := Lib.hid hX
          clear hcall hX
          go_upto_region 22 with (first | (go_at_call 9; refine HCALL.out.mono ?_; rintro e w1 h1; obtain ⟨p1, k1, rfl, hs1, hb1⟩ := h1.call; have HS1 := Lib.hid hs1; have HB1 := Lib.hid hb1; unfold rowOf at ⊢; clear h1 hs1 hb1))
          obtain ⟨cX, hcX⟩ : ∃ cX, cX = X.args.length := ⟨_, rfl⟩
          rw [← hcX]
          have HCX := Lib.hid hcX
          clear x0 x1 x2 x3 x4 hix hsx hcX HCALL
          obtain ⟨Z1, hZ1⟩ : ∃ Z1, Z1 = w1.alloc (.cells #[.int .i64 X.k, .int .i64 X.n, .string X.s, .int .i64 X.q, .slice p1 cX k1] 33) := ⟨_, rfl⟩
          rw [← hZ1]
          have hZr1 : Z1.heap[w1.heap.size]? = some (.cells #[.int .i64 X.k, .int .i64 X.n, .string X.s, .int .i64 X.q, .slice p1 cX k1] 33 (0, 0)) := by rw [hZ1]; exact heap_alloc_new w1 _
          have hZ11 : Below w1.heap.size w1 Z1 := by rw [hZ1]; exact balloc (Below.refl _ _) _
          have hwoZ1 : Below wo.heap.size wo Z1 := bthen HB1.out hZ11
          have HBZ1 : Hid (Below N Y Z1) := Lib.hid (HWO.out.trans (hwoZ1.mono (by have := HWO.out.size; have := HNY.out; omega)))
          have HSZ1 : Hid (SlD Z1 (fun b => b < w1.heap.size) X.args p1 k1) := Lib.hid ((HS1.out.keep (cells_D (B := w1.heap.size) (fun b hb => hb.elim (fun h => by have := HWO.out.size; have := HNY.out; have := HB1.out.size; omega) (fun h => h.2)) hZ11)).mono fun b hb => hb.elim (fun h => by have := HWO.out.size; have := HNY.out; have := HB1.out.size; omega) (fun h => h.2))
          have HZR1 := Lib.hid hZr1
          clear hZ1 hZr1 hZ11 hwoZ1 HS1 HB1
          obtain ⟨bb, q, b1, e1, b2, e2, -, hix, -, ⟨u0, u1, u2, u3, u4⟩, -, hsy⟩ := pair_cells cap (KEEP.out Z1 HBZ1.out).2.1 HXY.out
          rw [← HN.out] at hix
          replace u1 : Z1.cell? ⟨bb, q + 5 + 1, none⟩ = some (.int .i64 y.n) := u1
          replace u2 : Z1.cell? ⟨bb, q + 5 + 2, none⟩ = some (.string y.s) := u2
          replace u3 : Z1.cell? ⟨bb, q + 5 + 3, none⟩ = some (.int .i64 y.q) := u3
          replace u4 : Z1.cell? ⟨bb, q + 5 + 4, none⟩ = some (.slice b2 y.args.length e2) := u4
          have hcall := P2.out Z1 HBZ1.out y b2 e2 (Nat.le_trans HPY.out (by omega)) hsy
          obtain ⟨X2, hX2⟩ : ∃ X2, X2 = putD sm y := ⟨_, rfl⟩
          rw [← hX2] at hcall
          unfold rowOf at hcall
          have HCALL := Lib.hid hcall
          have HX2 := Lib.hid hX2
          clear hcall hX2
          go_upto_region 23 with (first | (go_at_call 9; refine HCALL.out.mono ?_; rintro e w2 h2; obtain ⟨p2, k2, rfl, hs2, hb2⟩ := h2.call; have HS2 := Lib.hid hs2; have HB2 := Lib.hid hb2; unfold rowOf at ⊢; clear h2 hs2 hb2))
          obtain ⟨cX2, hcX2⟩ : ∃ cX2, cX2 = X2.args.length := ⟨_, rfl⟩
          rw [← hcX2]
          have HCX2 := Lib.hid hcX2
          clear u0 u1 u2 u3 u4 hix hsy hcX2 HCALL
          obtain ⟨Z2, hZ2⟩ : ∃ Z2, Z2 = w2.alloc (.cells #[.int .i64 X2.k, .int .i64 X2.n, .string X2.s, .int .i64 X2.q, .slice p2 cX2 k2] 33) := ⟨_, rfl⟩
          rw [← hZ2]
          have hZr2 : Z2.heap[w2.heap.size]? = some (.cells #[.int .i64 X2.k, .int .i64 X2.n, .string X2.s, .int .i64 X2.q, .slice p2 cX2 k2] 33 (0, 0)) := by rw [hZ2]; exact heap_alloc_new w2 _
          have hZ22 : Below w2.heap.size w2 Z2 := by rw [hZ2]; exact balloc (Below.refl _ _) _
          have hZ12 : Below Z1.heap.size Z1 Z2 := bthen HB2.out hZ22
          have HBZ2 : Hid (Below N Y Z2) := Lib.hid (HBZ1.out.trans (hZ12.mono (by have := HBZ1.out.size; have := HNY.out; omega)))
          have hsz2 : w2.heap.size ≤ Z2.heap.size := hZ22.size
          have HSZ2 : SlD Z2 (fun b => b < Z2.heap.size) X2.args p2 k2 := (HS2.out.keep (cells_D (B := w2.heap.size) (fun b hb => hb.elim (fun h => by have := HBZ1.out.size; have := HNY.out; have := HB2.out.size; omega) (fun h => h.2)) hZ22)).mono fun b hb => hb.elim (fun h => by have := HBZ1.out.size; have := HNY.out; have := HB2.out.size; omega) (fun h => by have := h.2; omega)
          have hw1 : w1.heap.size < Z1.heap.size := lt_of_block HZR1.out
          have HSZ1b : SlD Z2 (fun b => b < Z2.heap.size) X.args p1 k1 := (HSZ1.out.keep (cells_D (B := Z1.heap.size) (fun b hb => Nat.lt_trans hb hw1) hZ12)).mono fun b hb => by have := hZ12.size; omega
          have hr1 := blk_below HZR1.out hZ12 hw1
          have hal := ralike_any (parts X) X (Nat.le_refl _) X2 (fun b => b < Z2.heap.size) p1 p2 k1 k2 Z2 (fun b hb => hb) HSZ1b HSZ2 (by rw [HX.out]; exact FF2.out _ (HFX.out)) (by rw [HX2.out]; exact FF2.out _ (HFY.out))
          obtain ⟨av, hav⟩ : ∃ av, av = alikeD X X2 := ⟨_, rfl⟩
          rw [← hav] at hal
          unfold rowOf at hal
          rw [← HCX.out, ← HCX2.out] at hal
          have HAL := Lib.hid hal
          have HAV : Hid (av = alikeD (putD sm x) (putD sm y)) := Lib.hid (by rw [hav, HX.out, HX2.out])
          obtain ⟨⟨z0, z1, z2, z3, z4⟩, -⟩ := five_cells hr1
          obtain ⟨⟨u0, u1, u2, u3, u4⟩, -⟩ := five_cells hZr2
          clear hal hav hr1 hZ2 hZr2 hZ22 hZ12 hsz2 HSZ2 hw1 HSZ1b HS2 HB2 HSZ1 HZR1 HX HX2 HCX HCX2
          go_upto_region 24 with (first | (go_at_call 10; refine HAL.out.mono ?_; rintro e w3 ⟨rfl, hb3⟩; have HB3 : Hid (Below N Y w3) := Lib.hid (HBZ2.out.trans (hb3.mono (by have := HBZ2.out.size; have := HNY.out; omega))); clear hb3))
          clear z0 z1 z2 z3 z4 u0 u1 u2 u3 u4 HAL
          have HT9 := Lib.hid (KEEP.out w3 HB3.out).2.2.2.2.2
          cases av with
          | false =>
            go_wp2_with fail
            go_ret
            exact ⟨rfl, HT9.out⟩
          | true =>
            go_wp2_with fail
            go_roundw
            case rel =>
              refine ⟨j + 1, by go_num, hlt, fun p hp => ?_, HB3.out⟩
              rw [take_one HXY.out] at hp
              rcases List.mem_append.1 hp with hp | hp
              · exact HALL.out p hp
              · rw [List.mem_singleton] at hp
                subst hp
                exact ⟨HOK.out, HAV.out.symm⟩
            case measure => simp only [intOf]; omega
    · obtain rfl : j = n := by omega
      have hd : decide ((j : Int) < (j : Int)) = false := by simp
      have hall : ∀ p ∈ l, okP p = true ∧ alikeD (putD sm p.1) (putD sm p.2) = true := by
        have h := HALL.out
        rw [HN.out, List.take_length] at h
        exact h
      have hk3 := STOP.out (fun p hp => (hall p hp).1) (fun p hp => (hall p hp).2)
      have HMO := Lib.hid (fun h => MOST.out h (fun p hp => (hall p hp).2))
      have HTOP := Lib.hid (KEEP.out wo HWO.out).2.2.2.2.2
      have r0 : wo.cell? ⟨fb, 0, none⟩ = some (.int .i64 kd) := blk_cell (KEEP.out wo HWO.out).2.2.2.2.1 0
      clear hall
      rcases hk3 with hk | hk | hk
      · have k0 : (kd != 0) = false := by rw [hk]; rfl
        have HK0 := Lib.hid hk
        clear hk
        go_upto_region 28 with fail
        clear r0 k0
        obtain ⟨Y3, rfl⟩ : ∃ Y3 : World, Y3 = wo := ⟨_, rfl⟩
        have HY3 := HWO
        clear HWO HALL
        go_wp2_with fail
        go_loopw [18, 19, 20, 21] (fun i _ _ _ wr => ∃ j : Nat, i = .int .i64 (j : Int) ∧ j ≤ nf ∧ Below N Y wr) (fun i _ _ _ _ => nf - (intOf i).toNat)
        case atStart => exact ⟨0, rfl, Nat.zero_le _, HY3.out⟩
        case round =>
          obtain ⟨i, rfl, hi, hwo⟩ := hrel
          obtain ⟨wo, rfl⟩ : ∃ wo : World, wo = wr := ⟨_, rfl⟩
          have HWO := Lib.hid hwo
          clear hwo
          by_cases hlt : i < nf
          · have hd2 : decide ((i : Int) < (nf : Int)) = true := by simp; omega
            have hjl : i < fd.length := by rw [← HNF.out]; exact hlt
            obtain ⟨m, y, hxy⟩ : ∃ m y, fd[i]? = some (m, y) := ⟨fd[i].1, fd[i].2, by rw [List.getElem?_eq_getElem hjl]⟩
            have HXY := Lib.hid hxy
            have HMEM : Hid ((m, y) ∈ fd) := Lib.hid (List.mem_of_getElem? hxy)
            have HFY := Lib.hid (HFF.out _ HMEM.out)
            have HPY := Lib.hid (FP.out _ HMEM.out)
            obtain ⟨b0, p, a1, c1, -, hix, ⟨x0, -, -, -, -, -⟩, -⟩ := bind_cells fc (KEEP.out wo HWO.out).2.2.1 HXY.out
            rw [← HNF.out] at hix
            have HMI : Hid (I64 m) := Lib.hid (FI.out _ HMEM.out)
            clear hxy hjl
            have hcall := P2.out wo HWO.out (bareT m) none 0 (by rw [show parts (bareT m) = 1 from rfl]; omega) (sl_nil rfl)
            obtain ⟨X, hX⟩ : ∃ X, X = putD sm (bareT m) := ⟨_, rfl⟩
            rw [← hX] at hcall
            unfold rowOf at hcall
            have HCALL : Hid (Calls Try.prog 9 #[.agg #[.int .i64 0, .int .i64 m, .string ⟨#[]⟩, .int .i64 0, .slice none 0 0], .slice so ns sc] wo (PutP wo (fun b => b < N) X)) := Lib.hid hcall
            have HX := Lib.hid hX
            clear hcall hX
            go_upto_region 32 with (first | (go_at_call 9; refine HCALL.out.mono ?_; rintro e w1 h1; obtain ⟨p1, k1, rfl, hs1, hb1⟩ := h1.call; have HS1 := Lib.hid hs1; have HB1 := Lib.hid hb1; unfold rowOf at ⊢; clear h1 hs1 hb1))
            obtain ⟨cX, hcX⟩ : ∃ cX, cX = X.args.length := ⟨_, rfl⟩
            rw [← hcX]
            have HCX := Lib.hid hcX
            clear x0 hix hcX HCALL
            obtain ⟨Z1, hZ1⟩ : ∃ Z1, Z1 = w1.alloc (.cells #[.int .i64 X.k, .int .i64 X.n, .string X.s, .int .i64 X.q, .slice p1 cX k1] 33) := ⟨_, rfl⟩
            rw [← hZ1]
            have hZr1 : Z1.heap[w1.heap.size]? = some (.cells #[.int .i64 X.k, .int .i64 X.n, .string X.s, .int .i64 X.q, .slice p1 cX k1] 33 (0, 0)) := by rw [hZ1]; exact heap_alloc_new w1 _
            have hZ11 : Below w1.heap.size w1 Z1 := by rw [hZ1]; exact balloc (Below.refl _ _) _
            have hwoZ1 : Below wo.heap.size wo Z1 := bthen HB1.out hZ11
            have HBZ1 : Hid (Below N Y Z1) := Lib.hid (HWO.out.trans (hwoZ1.mono (by have := HWO.out.size; have := HNY.out; omega)))
            have HSZ1 : Hid (SlD Z1 (fun b => b < w1.heap.size) X.args p1 k1) := Lib.hid ((HS1.out.keep (cells_D (B := w1.heap.size) (fun b hb => hb.elim (fun h => by have := HWO.out.size; have := HNY.out; have := HB1.out.size; omega) (fun h => h.2)) hZ11)).mono fun b hb => hb.elim (fun h => by have := HWO.out.size; have := HNY.out; have := HB1.out.size; omega) (fun h => h.2))
            have HZR1 := Lib.hid hZr1
            clear hZ1 hZr1 hZ11 hwoZ1 HS1 HB1
            obtain ⟨bb, q, b2, e2, -, hix, ⟨-, u0, u1, u2, u3, u4⟩, hsy⟩ := bind_cells fc (KEEP.out Z1 HBZ1.out).2.2.1 HXY.out
            rw [← HNF.out] at hix
            replace u1 : Z1.cell? ⟨bb, q + 1 + 1, none⟩ = some (.int .i64 y.n) := u1
            replace u2 : Z1.cell? ⟨bb, q + 1 + 2, none⟩ = some (.string y.s) := u2
            replace u3 : Z1.cell? ⟨bb, q + 1 + 3, none⟩ = some (.int .i64 y.q) := u3
            replace u4 : Z1.cell? ⟨bb, q + 1 + 4, none⟩ = some (.slice b2 y.args.length e2) := u4
            have hcall := P2.out Z1 HBZ1.out y b2 e2 (Nat.le_trans HPY.out (by omega)) hsy
            obtain ⟨X2, hX2⟩ : ∃ X2, X2 = putD sm y := ⟨_, rfl⟩
            rw [← hX2] at hcall
            unfold rowOf at hcall
            have HCALL := Lib.hid hcall
            have HX2 := Lib.hid hX2
            clear hcall hX2
            go_upto_region 33 with (first | (go_at_call 9; refine HCALL.out.mono ?_; rintro e w2 h2; obtain ⟨p2, k2, rfl, hs2, hb2⟩ := h2.call; have HS2 := Lib.hid hs2; have HB2 := Lib.hid hb2; unfold rowOf at ⊢; clear h2 hs2 hb2))
            obtain ⟨cX2, hcX2⟩ : ∃ cX2, cX2 = X2.args.length := ⟨_, rfl⟩
            rw [← hcX2]
            have HCX2 := Lib.hid hcX2
            clear u0 u1 u2 u3 u4 hix hsy hcX2 HCALL
            obtain ⟨Z2, hZ2⟩ : ∃ Z2, Z2 = w2.alloc (.cells #[.int .i64 X2.k, .int .i64 X2.n, .string X2.s, .int .i64 X2.q, .slice p2 cX2 k2] 33) := ⟨_, rfl⟩
            rw [← hZ2]
            have hZr2 : Z2.heap[w2.heap.size]? = some (.cells #[.int .i64 X2.k, .int .i64 X2.n, .string X2.s, .int .i64 X2.q, .slice p2 cX2 k2] 33 (0, 0)) := by rw [hZ2]; exact heap_alloc_new w2 _
            have hZ22 : Below w2.heap.size w2 Z2 := by rw [hZ2]; exact balloc (Below.refl _ _) _
            have hZ12 : Below Z1.heap.size Z1 Z2 := bthen HB2.out hZ22
            have HBZ2 : Hid (Below N Y Z2) := Lib.hid (HBZ1.out.trans (hZ12.mono (by have := HBZ1.out.size; have := HNY.out; omega)))
            have hsz2 : w2.heap.size ≤ Z2.heap.size := hZ22.size
            have HSZ2 : SlD Z2 (fun b => b < Z2.heap.size) X2.args p2 k2 := (HS2.out.keep (cells_D (B := w2.heap.size) (fun b hb => hb.elim (fun h => by have := HBZ1.out.size; have := HNY.out; have := HB2.out.size; omega) (fun h => h.2)) hZ22)).mono fun b hb => hb.elim (fun h => by have := HBZ1.out.size; have := HNY.out; have := HB2.out.size; omega) (fun h => by have := h.2; omega)
            have hw1 : w1.heap.size < Z1.heap.size := lt_of_block HZR1.out
            have HSZ1b : SlD Z2 (fun b => b < Z2.heap.size) X.args p1 k1 := (HSZ1.out.keep (cells_D (B := Z1.heap.size) (fun b hb => Nat.lt_trans hb hw1) hZ12)).mono fun b hb => by have := hZ12.size; omega
            have hr1 := blk_below HZR1.out hZ12 hw1
            have hal := ralike_any (parts X) X (Nat.le_refl _) X2 (fun b => b < Z2.heap.size) p1 p2 k1 k2 Z2 (fun b hb => hb) HSZ1b HSZ2 (by rw [HX.out]; exact FF2.out _ (fits_bare HMI.out)) (by rw [HX2.out]; exact FF2.out _ (HFY.out))
            obtain ⟨av, hav⟩ : ∃ av, av = alikeD X X2 := ⟨_, rfl⟩
            rw [← hav] at hal
            unfold rowOf at hal
            rw [← HCX.out, ← HCX2.out] at hal
            have HAL := Lib.hid hal
            have HAV : Hid (av = alikeD (putD sm (bareT m)) (putD sm y)) := Lib.hid (by rw [hav, HX.out, HX2.out])
            obtain ⟨⟨z0, z1, z2, z3, z4⟩, -⟩ := five_cells hr1
            obtain ⟨⟨u0, u1, u2, u3, u4⟩, -⟩ := five_cells hZr2
            clear hal hav hr1 hZ2 hZr2 hZ22 hZ12 hsz2 HSZ2 hw1 HSZ1b HS2 HB2 HSZ1 HZR1 HX HX2 HCX HCX2
            go_upto_region 34 with (first | (go_at_call 10; refine HAL.out.mono ?_; rintro e w3 ⟨rfl, hb3⟩; have HB3 : Hid (Below N Y w3) := Lib.hid (HBZ2.out.trans (hb3.mono (by have := HBZ2.out.size; have := HNY.out; omega))); clear hb3))
            clear z0 z1 z2 z3 z4 u0 u1 u2 u3 u4 HAL
            obtain rfl : av = true := by
              rw [HAV.out]
              exact HMO.out HK0.out _ HMEM.out
            go_wp2_with fail
            go_roundw
            case rel => exact ⟨i + 1, by go_num, hlt, HB3.out⟩
            case measure => simp only [intOf]; omega
          · obtain rfl : i = nf := by omega
            have hd2 : decide ((i : Int) < (i : Int)) = false := by simp
            have HT9 := Lib.hid (KEEP.out wo HWO.out).2.2.2.2.2
            go_wp2_with fail
            go_ret
            exact ⟨rfl, HT9.out⟩
      · have k0 : (kd != 0) = true := by rw [hk]; rfl
        have k11 : (kd == 11) = true := by rw [hk]; rfl
        clear hk
        go_wp2_with fail
        go_ret
        exact ⟨rfl, HTOP.out⟩
      · have k0 : (kd != 0) = true := by rw [hk]; rfl
        have k11 : (kd == 11) = false := by rw [hk]; rfl
        have k12 : (kd == 12) = true := by rw [hk]; rfl
        clear hk
        go_wp2_with fail
        go_ret
        exact ⟨rfl, HTOP.out⟩
end Go.Proofs.Ytdeomphilggokaa
