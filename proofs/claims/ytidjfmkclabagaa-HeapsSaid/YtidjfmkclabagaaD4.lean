/-
  Proved: in plain Lean: both heaps say the same, behind a Collect or a Live too; what is reached takes as many cells on both sides. No condition.
-/
import Derived.Test.YtidjfmkclabagaaD3
set_option linter.unusedSimpArgs false
set_option linter.unusedVariables false
namespace Go.Proofs.Ytidjfmkclabagaa

/-- whatever is there is paired -/
def Cov (ρ : Nat → Nat → Prop) (L : LMap) : Prop := ∀ j x, L j = some x → ∃ a, ρ a j
theorem closed_of {ρ : Nat → Nat → Prop} {us : List C} {nx : Nat} {L : LMap} {p q : List C} (h : Sim ρ us nx L) (hr : RSim ρ p q) (hc : Cov ρ L) : ClosedL L q := by
  have key : ∀ c d : C, CSim ρ c d → d.p = true → ∃ j x, d.n = ((j : Nat) : Int) ∧ L j = some x := by
    intro c d h1 hp
    obtain ⟨a, b, _, h3, h4⟩ := h1.2.2.2.2 (by rw [h1.1]; exact hp)
    obtain ⟨x, hx, _⟩ := h.th a b h4
    exact ⟨b, x, h3, hx⟩
  have kq : ∀ d ∈ q, ∃ c, CSim ρ c d := by
    intro d hd
    obtain ⟨i, hi, e⟩ := List.getElem_of_mem hd
    exact ⟨_, e ▸ hr.c i (by rw [hr.len]; exact hi) hi⟩
  have kf : ∀ i x, L i = some x → ∀ d ∈ x.l, ∃ c, CSim ρ c d := by
    intro i x hx d hd
    obtain ⟨a, ha⟩ := hc i x hx
    obtain ⟨x', hx', ht⟩ := h.th a i ha
    rw [hx] at hx'
    obtain rfl := Option.some.inj hx'
    obtain ⟨n, hn, e⟩ := List.getElem_of_mem hd
    exact ⟨_, e ▸ ht.f n hn⟩
  refine ⟨fun c hcq hp => ?_, fun i x hx c hcx hp => ?_, fun c hcq => ?_, fun i x hx c hcx => ?_⟩
  · obtain ⟨c', h1⟩ := kq c hcq
    exact key c' c h1 hp
  · obtain ⟨c', h1⟩ := kf i x hx c hcx
    exact key c' c h1 hp
  · obtain ⟨c', h1⟩ := kq c hcq
    exact h1.2.2.1
  · obtain ⟨c', h1⟩ := kf i x hx c hcx
    exact h1.2.2.1
theorem ln_of {ρ : Nat → Nat → Prop} {us : List C} {nx a : Nat} {x : Th} (h : TSim ρ us nx a x) : ln us a = x.l.length := by
  unfold ln
  rw [h.hd]
  show (hdr x.k x.t x.l.length).toNat / 524288 = _
  unfold hdr
  have := h.k
  have := h.t
  omega
/-- what is paired with some things takes as many cells -/
theorem pre_of {ρ : Nat → Nat → Prop} {us : List C} {nx : Nat} {L : LMap} (h : Sim ρ us nx L) : ∀ K : List Nat, K.Nodup → (∀ j ∈ K, ∃ a, ρ a j) → ∃ A : List Nat, A.Nodup ∧ T us A = S L K ∧ ∀ a, a ∈ A ↔ ∃ j ∈ K, ρ a j
  | [], _, _ => ⟨[], List.nodup_nil, rfl, fun a => by simp⟩
  | j :: K, hn, hk => by
    have hn' := List.nodup_cons.1 hn
    obtain ⟨A, h1, h2, h3⟩ := pre_of h K hn'.2 (fun j' hj' => hk j' (by simp [hj']))
    obtain ⟨a, ha⟩ := hk j (by simp)
    obtain ⟨x, hx, ht⟩ := h.th a j ha
    refine ⟨a :: A, List.nodup_cons.2 ⟨fun hm => ?_, h1⟩, ?_, fun a' => ?_⟩
    · obtain ⟨j', hj', hr⟩ := (h3 a).1 hm
      rw [h.one.inj1 a j j' ha hr] at hn'
      exact hn'.1 hj'
    · have hf : flds L j = x.l := by unfold flds; rw [hx]; rfl
      rw [T, S, h2, ln_of ht, hf]
    · rw [List.mem_cons, h3]
      constructor
      · rintro (rfl | ⟨j', h4, h5⟩)
        · exact ⟨j, by simp, ha⟩
        · exact ⟨j', by simp [h4], h5⟩
      · rintro ⟨j', h4, h5⟩
        rcases List.mem_cons.1 h4 with rfl | h4
        · exact .inl (h.one.inj2 a' a j' h5 ha)
        · exact .inr ⟨j', h4, h5⟩
theorem sum_room {ρ : Nat → Nat → Prop} {us : List C} {nx : Nat} {L : LMap} (h : Sim ρ us nx L) (hT : Things us (fun a => ∃ b, ρ a b) nx) {K : List Nat} (hn : K.Nodup) (hk : ∀ j ∈ K, ∃ a, ρ a j) : S L K ≤ nx := by
  obtain ⟨A, h1, h2, h3⟩ := pre_of h K hn hk
  rw [← h2]
  exact T_room hT h1 fun a ha => by
    obtain ⟨j, _, hr⟩ := (h3 a).1 ha
    exact ⟨j, hr⟩
theorem reach_to {ρ : Nat → Nat → Prop} {us : List C} {nx : Nat} {L : LMap} {p q : List C} (h : Sim ρ us nx L) (hr : RSim ρ p q) : ∀ {a : Nat}, Rch us p a → ∃ b, ρ a b ∧ RchL L q b := by
  intro a ha
  induction ha with
  | root hc hp hn =>
    obtain ⟨i, hi, e⟩ := List.getElem_of_mem hc
    have h1 := hr.c i hi (by rw [← hr.len]; exact hi)
    rw [e] at h1
    obtain ⟨a', b, h2, h3, h4⟩ := h1.2.2.2.2 hp
    have e2 : a' = _ := Int.ofNat.inj (h2.symm.trans hn)
    subst e2
    exact ⟨b, h4, .root (List.getElem_mem (by rw [← hr.len]; exact hi)) (by rw [← h1.1]; exact hp) h3⟩
  | fld _ hi hp hn ih =>
    obtain ⟨b, h1, h2⟩ := ih
    obtain ⟨x, hx, ht⟩ := h.th _ _ h1
    rw [ln_of ht] at hi
    have h3 := ht.f _ hi
    obtain ⟨a', b', h4, h5, h6⟩ := h3.2.2.2.2 hp
    have e2 : a' = _ := Int.ofNat.inj (h4.symm.trans hn)
    subst e2
    exact ⟨b', h6, .fld h2 hx (List.getElem_mem hi) (by rw [← h3.1]; exact hp) h5⟩
theorem reach_fro {ρ : Nat → Nat → Prop} {us : List C} {nx : Nat} {L : LMap} {p q : List C} (h : Sim ρ us nx L) (hr : RSim ρ p q) : ∀ {b : Nat}, RchL L q b → ∃ a, ρ a b ∧ Rch us p a := by
  intro b hb
  induction hb with
  | root hc hp hn =>
    obtain ⟨i, hi, e⟩ := List.getElem_of_mem hc
    have h1 := hr.c i (by rw [hr.len]; exact hi) hi
    rw [e] at h1
    obtain ⟨a, b', h2, h3, h4⟩ := h1.2.2.2.2 (by rw [h1.1]; exact hp)
    have e2 : b' = _ := Int.ofNat.inj (h3.symm.trans hn)
    subst e2
    exact ⟨a, h4, .root (List.getElem_mem (by rw [hr.len]; exact hi)) (by rw [h1.1]; exact hp) h2⟩
  | fld _ hx hc hp hn ih =>
    obtain ⟨a, h1, h2⟩ := ih
    obtain ⟨x', hx', ht⟩ := h.th _ _ h1
    rw [hx] at hx'
    obtain rfl := Option.some.inj hx'
    obtain ⟨i, hi, e⟩ := List.getElem_of_mem hc
    have h3 := ht.f i hi
    rw [e] at h3
    obtain ⟨a', b', h4, h5, h6⟩ := h3.2.2.2.2 (by rw [h3.1]; exact hp)
    have e2 : b' = _ := Int.ofNat.inj (h5.symm.trans hn)
    subst e2
    exact ⟨a', h6, .fld h2 (by rw [ln_of ht]; exact hi) (by rw [h3.1]; exact hp) h4⟩
theorem T_perm {us : List C} {A B : List Nat} (h : A.Perm B) : T us A = T us B := by
  induction h with
  | nil => rfl
  | cons a _ ih => rw [T, T, ih]
  | swap a b l => rw [T, T, T, T]; omega
  | trans _ _ h1 h2 => rw [h1, h2]
/-- what is reached takes as many cells on both sides -/
theorem live_eq {ρ : Nat → Nat → Prop} {us : List C} {nx : Nat} {L : LMap} {p q : List C} (h : Sim ρ us nx L) (hr : RSim ρ p q) {A K : List Nat} (hA : A.Nodup) (hAm : ∀ a, a ∈ A ↔ Rch us p a) (hK : K.Nodup) (hKm : ∀ j, j ∈ K ↔ RchL L q j) : T us A = S L K := by
  obtain ⟨A', h1, h2, h3⟩ := pre_of h K hK (fun j hj => by
    obtain ⟨a, ha, _⟩ := reach_fro h hr ((hKm j).1 hj)
    exact ⟨a, ha⟩)
  rw [← h2]
  refine T_perm ((List.perm_ext_iff_of_nodup hA h1).2 fun a => ?_)
  rw [hAm, h3]
  constructor
  · intro ha
    obtain ⟨b, hb, hl⟩ := reach_to h hr ha
    exact ⟨b, (hKm b).2 hl, hb⟩
  · rintro ⟨j, hj, hρ⟩
    obtain ⟨a', h4, h5⟩ := reach_fro h hr ((hKm j).1 hj)
    rw [h.one.inj2 a a' j hρ h4]
    exact h5
/-- behind Collect all that is reached has been moved -/
theorem colld_all {us p : List C} {D : Nat → Prop} {sz : Nat} {A : List Nat} {od nw : List C} (h : Colld us p D sz A od nw) : ∀ a, a ∈ A ↔ Rch us p a := by
  intro a
  refine ⟨h.st.sub a, fun ha => ?_⟩
  induction ha with
  | root hc hp hn =>
    obtain ⟨a', h1, h2⟩ := h.root _ hc hp
    have e : a' = _ := Int.ofNat.inj (h2.symm.trans hn)
    rw [← e]; exact h1
  | fld _ hi hp hn ih =>
    have hlt := off_lt (us := us) ih
    obtain ⟨a', h1, h2⟩ := h.st.dn _ ih _ hi (by omega) hp
    have e : a' = _ := Int.ofNat.inj (h2.symm.trans hn)
    rw [← e]; exact h1
end Go.Proofs.Ytidjfmkclabagaa
