/-
  Proved: in plain Lean: both heaps say the same behind a Collect, a Live, one thing more, one field set. No condition.
-/
import Derived.Test.YtidjfmkclabagaaD4
set_option linter.unusedSimpArgs false
set_option linter.unusedVariables false
namespace Go.Proofs.Ytidjfmkclabagaa

/-- all that the walk keeps, in plain Lean -/
structure Ok (ρ : Nat → Nat → Prop) (us : List C) (nx : Nat) (L : LMap) (p q : List C) : Prop where
  sim : Sim ρ us nx L
  things : Things us (fun a => ∃ b, ρ a b) nx
  cov : Cov ρ L
  rs : RSim ρ p q
theorem things_of {ρ : Nat → Nat → Prop} {us : List C} {nx : Nat} {L : LMap} (h : Sim ρ us nx L) (hnx : nx ≤ 1000000) (hd : ∀ a b a' b', ρ a b → ρ a' b' → a ≠ a' → a + 1 + ln us a ≤ a' ∨ a' + 1 + ln us a' ≤ a) : Things us (fun a => ∃ b, ρ a b) nx := by
  refine ⟨?_, ?_, ?_, ?_⟩
  · rintro a ⟨b, hb⟩
    obtain ⟨x, hx, ht⟩ := h.th a b hb
    rw [ht.hd]
    have := ht.k
    have := ht.t
    have := ht.fit
    refine ⟨rfl, ?_, ?_⟩
    · show 0 ≤ hdr _ _ _; unfold hdr; omega
    · show hdr _ _ _ < _; unfold hdr; omega
  · rintro a ⟨b, hb⟩
    obtain ⟨x, hx, ht⟩ := h.th a b hb
    rw [ln_of ht]; exact ht.fit
  · rintro a ⟨b, hb⟩ a' ⟨b', hb'⟩ hne
    exact hd a b a' b' hb hb' hne
  · rintro a ⟨b, hb⟩ i hi hp
    obtain ⟨x, hx, ht⟩ := h.th a b hb
    rw [ln_of ht] at hi
    obtain ⟨a', b', h1, h2, h3⟩ := (ht.f i hi).2.2.2.2 hp
    exact ⟨a', ⟨b', h3⟩, h1⟩
theorem restr_some {L : LMap} {K : List Nat} {j : Nat} {x : Th} (h : restr L K j = some x) : j ∈ K ∧ L j = some x := by
  unfold restr at h
  split at h
  · exact ⟨by assumption, h⟩
  · cases h
/-- behind a Live alone -/
theorem ok_live {ρ : Nat → Nat → Prop} {us : List C} {nx : Nat} {L : LMap} {p q : List C} (h : Ok ρ us nx L p q) (hnx : nx ≤ 1000000) {K : List Nat} (hKm : ∀ j, j ∈ K ↔ RchL L q j) : Ok (fun a b => ρ a b ∧ b ∈ K) us nx (restr L K) p q := by
  have hs : Sim (fun a b => ρ a b ∧ b ∈ K) us nx (restr L K) := by
    refine ⟨⟨fun a b b' h1 h2 => h.sim.one.inj1 a b b' h1.1 h2.1, fun a a' b h1 h2 => h.sim.one.inj2 a a' b h1.1 h2.1, fun a b h1 => h.sim.one.lt a b h1.1⟩, ?_⟩
    rintro a b ⟨hab, hb⟩
    obtain ⟨x, hx, ht⟩ := h.sim.th a b hab
    refine ⟨x, by unfold restr; rw [if_pos hb]; exact hx, ht.fit, ht.hd, ht.k, ht.t, fun i hi => ?_⟩
    have hc := ht.f i hi
    refine ⟨hc.1, hc.2.1, hc.2.2.1, hc.2.2.2.1, fun hp => ?_⟩
    obtain ⟨a', b', h1, h2, h3⟩ := hc.2.2.2.2 hp
    exact ⟨a', b', h1, h2, h3, (hKm b').2 (.fld ((hKm b).1 hb) hx (List.getElem_mem hi) (by rw [← hc.1]; exact hp) h2)⟩
  refine ⟨hs, things_of hs hnx (fun a b a' b' h1 h2 hne => h.things.dis a ⟨b, h1.1⟩ a' ⟨b', h2.1⟩ hne), fun j x hx => ?_, h.rs.len, fun i hi hi' => ?_⟩
  · obtain ⟨h1, h2⟩ := restr_some hx
    obtain ⟨a, ha⟩ := h.cov j x h2
    exact ⟨a, ha, h1⟩
  · have hc := h.rs.c i hi hi'
    refine ⟨hc.1, hc.2.1, hc.2.2.1, hc.2.2.2.1, fun hp => ?_⟩
    obtain ⟨a', b', h1, h2, h3⟩ := hc.2.2.2.2 hp
    exact ⟨a', b', h1, h2, h3, (hKm b').2 (.root (List.getElem_mem hi') (by rw [← hc.1]; exact hp) h2)⟩
theorem ph_sim {ρ : Nat → Nat → Prop} {us : List C} {A : List Nat} {c d : C} {K : List Nat} (h : CSim ρ c d) (hA : c.p = true → ∃ a ∈ A, c.n = ((a : Nat) : Int)) (hK : c.p = true → ∀ b : Nat, d.n = b → b ∈ K) (hT : T us A ≤ 1000000) : CSim (fun a' b => b ∈ K ∧ ∃ a ∈ A, ρ a b ∧ a' = off us A a) (ph us A c) d := by
  unfold ph
  by_cases hp : c.p = true
  · rw [if_pos hp]
    obtain ⟨a, ha, hn⟩ := hA hp
    obtain ⟨a', b, h1, h2, h3⟩ := h.2.2.2.2 hp
    have e : a' = a := Int.ofNat.inj (h1.symm.trans hn)
    subst e
    have hlt := off_lt (us := us) ha
    refine ⟨by rw [← h.1, hp], ?_, h.2.2.1, (fun h => by cases h), fun _ => ⟨_, b, rfl, h2, hK hp b h2, a', ha, h3, ?_⟩⟩
    · show I64 ((off us A c.n.toNat : Nat) : Int)
      rw [hn, Int.toNat_natCast]; unfold I64; omega
    · rw [hn, Int.toNat_natCast]
  · rw [if_neg hp]
    exact ⟨h.1, h.2.1, h.2.2.1, h.2.2.2.1, fun h => absurd h hp⟩
/-- behind a Collect and a Live -/
theorem ok_collect {ρ : Nat → Nat → Prop} {us : List C} {nx sz : Nat} {L : LMap} {p q : List C} (h : Ok ρ us nx L p q) {A : List Nat} {od nw : List C} (hc : Colld us p (fun a => ∃ b, ρ a b) sz A od nw) (hnx : nx ≤ 1000000) {K : List Nat} (hKm : ∀ j, j ∈ K ↔ RchL L q j) :
    Ok (fun a' b => b ∈ K ∧ ∃ a ∈ A, ρ a b ∧ a' = off us A a) nw (T us A) (restr L K) (p.map (ph us A)) q := by
  have hAm := colld_all hc
  have hT : T us A ≤ nx := T_room h.things hc.st.nd (fun a ha => by
    obtain ⟨b, hb, _⟩ := reach_to h.sim h.rs ((hAm a).1 ha)
    exact ⟨b, hb⟩)
  have hoff : ∀ a ∈ A, ∀ a' ∈ A, off us A a = off us A a' → a = a' := by
    intro a ha a' ha' e
    by_cases hne : a = a'
    · exact hne
    · rcases off_dis (us := us) ha ha' hne with h1 | h1 <;> omega
  have hln : ∀ a b x, ρ a b → TSim ρ us nx a x → a ∈ A → ln nw (off us A a) = ln us a := by
    intro a b x hab ht ha
    unfold ln
    rw [hc.st.hd a ha]
  have hs : Sim (fun a' b => b ∈ K ∧ ∃ a ∈ A, ρ a b ∧ a' = off us A a) nw (T us A) (restr L K) := by
    refine ⟨⟨?_, ?_, ?_⟩, ?_⟩
    · rintro a' b b' ⟨_, a, ha, hab, rfl⟩ ⟨_, a2, ha2, hab2, e⟩
      have := hoff a ha a2 ha2 e
      subst this
      exact h.sim.one.inj1 a b b' hab hab2
    · rintro a' a2' b ⟨_, a, ha, hab, rfl⟩ ⟨_, a2, ha2, hab2, rfl⟩
      rw [h.sim.one.inj2 a a2 b hab hab2]
    · rintro a' b ⟨_, a, ha, hab, rfl⟩
      have := off_lt (us := us) ha
      exact ⟨by omega, (h.sim.one.lt a b hab).2⟩
    · rintro a' b ⟨hb, a, ha, hab, rfl⟩
      obtain ⟨x, hx, ht⟩ := h.sim.th a b hab
      have hl := ln_of ht
      have hlt := off_lt (us := us) ha
      refine ⟨x, by unfold restr; rw [if_pos hb]; exact hx, by rw [← hl]; exact hlt, by rw [hc.st.hd a ha]; exact ht.hd, ht.k, ht.t, fun i hi => ?_⟩
      rw [hc.st.fd a ha i (by rw [hl]; exact hi), if_pos (by omega)]
      have hcs := ht.f i hi
      refine ph_sim hcs (fun hp => ?_) (fun hp b' e => ?_) (by omega)
      · exact hc.st.dn a ha i (by rw [hl]; exact hi) (by omega) hp
      · exact (hKm b').2 (.fld ((hKm b).1 hb) hx (List.getElem_mem hi) (by rw [← hcs.1]; exact hp) e)
  refine ⟨hs, things_of hs (by omega) ?_, ?_, ?_, ?_⟩
  · rintro a' b a2' b2 ⟨_, a, ha, hab, rfl⟩ ⟨_, a2, ha2, hab2, rfl⟩ hne
    obtain ⟨x, hx, ht⟩ := h.sim.th a b hab
    obtain ⟨x2, hx2, ht2⟩ := h.sim.th a2 b2 hab2
    rw [hln a b x hab ht ha, hln a2 b2 x2 hab2 ht2 ha2]
    exact off_dis ha ha2 (fun e => hne (by rw [e]))
  · intro j x hx
    obtain ⟨h1, h2⟩ := restr_some hx
    obtain ⟨a, ha, hr⟩ := reach_fro h.sim h.rs ((hKm j).1 h1)
    exact ⟨_, h1, a, (hAm a).2 hr, ha, rfl⟩
  · rw [List.length_map]; exact h.rs.len
  · intro i hi hi'
    have hi2 : i < p.length := by simpa using hi
    have hcs := h.rs.c i hi2 hi'
    rw [List.getElem_map]
    refine ph_sim hcs (fun hp => hc.root _ (List.getElem_mem hi2) hp) (fun hp b' e => ?_) (by omega)
    exact (hKm b').2 (.root (List.getElem_mem hi') (by rw [← hcs.1]; exact hp) e)
theorem csim_mono {ρ ρ' : Nat → Nat → Prop} (hρ : ∀ a b, ρ a b → ρ' a b) {c d : C} (h : CSim ρ c d) : CSim ρ' c d :=
  ⟨h.1, h.2.1, h.2.2.1, h.2.2.2.1, fun hp => by
    obtain ⟨a, b, h1, h2, h3⟩ := h.2.2.2.2 hp
    exact ⟨a, b, h1, h2, hρ a b h3⟩⟩
theorem csim_num (ρ : Nat → Nat → Prop) {n : Int} (h : I64 n) : CSim ρ ⟨false, n⟩ ⟨false, n⟩ := ⟨rfl, h, h, fun _ => rfl, fun h => by cases h⟩
theorem gt_rep (n y : Nat) : gt (List.replicate n zc) y = zc := by
  unfold gt List.getD
  rw [List.getElem?_replicate]
  split <;> rfl
theorem gt_made {us : List C} {nx n : Nat} {k t : Int} (h : nx + (n + 1) ≤ us.length) (y : Nat) : gt (made us nx k t n) y = if y = nx then ⟨false, hdr k t n⟩ else if nx + 1 ≤ y ∧ y < nx + 1 + n then zc else gt us y := by
  unfold made
  rw [gt_spl _ _ _ (by simp; omega), List.length_replicate, gt_set (by omega), gt_rep]
  by_cases h1 : y = nx
  · rw [if_neg (by omega), if_pos h1, if_pos h1]
  · rw [if_neg h1, if_neg h1]
theorem rsim_snoc {ρ : Nat → Nat → Prop} {p q : List C} {c d : C} (h : RSim ρ p q) (hc : CSim ρ c d) : RSim ρ (p ++ [c]) (q ++ [d]) := by
  refine ⟨by simp [h.len], fun i hi hi' => ?_⟩
  by_cases hl : i < p.length
  · rw [List.getElem_append_left hl, List.getElem_append_left (by rw [← h.len]; exact hl)]
    exact h.c i hl _
  · have e : i = p.length := by simp at hi; omega
    subst e
    rw [List.getElem_append_right (Nat.le_refl _), List.getElem_append_right (by rw [h.len]; exact Nat.le_refl _)]
    simpa [h.len] using hc
/-- behind one thing more -/
theorem ok_made {ρ : Nat → Nat → Prop} {us : List C} {nx n rn bk : Nat} {L : LMap} {p q : List C} {k t : Int} (h : Ok ρ us nx L p q) (hn : nx + (n + 1) ≤ us.length) (hul : us.length ≤ 1000000) (hlt : ∀ j x, L j = some x → j < rn) (hrn : rn < 100000000000000) (hk : 0 ≤ k ∧ k < 8) (ht : 0 ≤ t ∧ t < 65536) :
    Ok (fun a b => ρ a b ∨ (a = nx ∧ b = rn)) (made us nx k t n) (nx + (n + 1)) (addL L rn ⟨k, t, bk, List.replicate n zc⟩) (p ++ [⟨true, nx⟩]) (q ++ [⟨true, rn⟩]) := by
  have hold : ∀ a b, ρ a b → a < nx ∧ b < rn := by
    intro a b hab
    obtain ⟨x, hx, htx⟩ := h.sim.th a b hab
    have := htx.fit
    exact ⟨by omega, hlt b x hx⟩
  have hgo : ∀ y, y < nx → gt (made us nx k t n) y = gt us y := fun y hy => by rw [gt_made hn, if_neg (by omega), if_neg (by omega)]
  have hs : Sim (fun a b => ρ a b ∨ (a = nx ∧ b = rn)) (made us nx k t n) (nx + (n + 1)) (addL L rn ⟨k, t, bk, List.replicate n zc⟩) := by
    refine ⟨⟨?_, ?_, ?_⟩, ?_⟩
    · rintro a b b' (h1 | ⟨rfl, rfl⟩) (h2 | ⟨h3, rfl⟩)
      · exact h.sim.one.inj1 a b b' h1 h2
      · have := hold a b h1; omega
      · have := hold _ _ h2; omega
      · rfl
    · rintro a a' b (h1 | ⟨rfl, rfl⟩) (h2 | ⟨rfl, h3⟩)
      · exact h.sim.one.inj2 a a' b h1 h2
      · have := hold a b h1; omega
      · have := hold _ _ h2; omega
      · rfl
    · rintro a b (h1 | ⟨rfl, rfl⟩)
      · exact h.sim.one.lt a b h1
      · exact ⟨by omega, hrn⟩
    · rintro a b (h1 | ⟨rfl, rfl⟩)
      · obtain ⟨x, hx, htx⟩ := h.sim.th a b h1
        have hf := htx.fit
        refine ⟨x, by unfold addL; rw [if_neg (by have := hold a b h1; omega)]; exact hx, by omega, by rw [hgo _ (by omega)]; exact htx.hd, htx.k, htx.t, fun i hi => ?_⟩
        rw [hgo _ (by omega)]
        exact csim_mono (fun a b h => .inl h) (htx.f i hi)
      · refine ⟨⟨k, t, bk, List.replicate n zc⟩, by unfold addL; rw [if_pos rfl], by simp; omega, by rw [gt_made hn, if_pos rfl]; simp, hk, ht, fun i hi => ?_⟩
        have hi' : i < n := by simpa using hi
        rw [gt_made hn, if_neg (by omega), if_pos (by omega)]
        simp only [List.getElem_replicate]
        exact csim_num _ (by unfold I64; decide)
  have hlo : ∀ a b, ρ a b → ln (made us nx k t n) a = ln us a := fun a b hab => by unfold ln; rw [hgo a (hold a b hab).1]
  have hln : ln (made us nx k t n) nx = n := by
    unfold ln
    rw [gt_made hn, if_pos rfl]
    show (hdr k t n).toNat / 524288 = n
    unfold hdr; omega
  refine ⟨hs, things_of hs (by omega) ?_, ?_, ?_⟩
  · rintro a b a' b' (h1 | ⟨rfl, rfl⟩) (h2 | ⟨rfl, rfl⟩) hne
    · rw [hlo a b h1, hlo a' b' h2]
      exact h.things.dis a ⟨b, h1⟩ a' ⟨b', h2⟩ hne
    · rw [hlo a b h1]
      have := h.things.fit a ⟨b, h1⟩
      omega
    · rw [hlo a' b' h2]
      have := h.things.fit a' ⟨b', h2⟩
      omega
    · exact absurd rfl hne
  · intro j x hx
    unfold addL at hx
    split at hx
    · rename_i e
      exact ⟨nx, .inr ⟨rfl, e⟩⟩
    · obtain ⟨a, ha⟩ := h.cov j x hx
      exact ⟨a, .inl ha⟩
  · refine rsim_snoc ⟨h.rs.len, fun i hi hi' => csim_mono (fun a b h => .inl h) (h.rs.c i hi hi')⟩ ?_
    exact ⟨rfl, by show I64 (nx : Int); unfold I64; omega, by show I64 (rn : Int); unfold I64; omega, (fun h => by cases h), fun _ => ⟨nx, rn, rfl, rfl, .inr ⟨rfl, rfl⟩⟩⟩
/-- one field set -/
def setL (L : LMap) (b i : Nat) (d : C) : LMap := fun j => if j = b then (L b).map fun x => { x with l := x.l.set i d } else L j
theorem ok_set {ρ : Nat → Nat → Prop} {us : List C} {nx a b i : Nat} {L : LMap} {p q : List C} {x : Th} {c d : C} (h : Ok ρ us nx L p q) (hnx : nx ≤ us.length) (hul : us.length ≤ 1000000) (hab : ρ a b) (hx : L b = some x) (hi : i < x.l.length) (hc : CSim ρ c d) :
    Ok ρ (us.set (a + 1 + i) c) nx (setL L b i d) p q := by
  obtain ⟨x0, hx0, htx⟩ := h.sim.th a b hab
  rw [hx] at hx0
  obtain rfl := Option.some.inj hx0
  have hfit := htx.fit
  have hln := ln_of htx
  have hg : ∀ y, gt (us.set (a + 1 + i) c) y = if y = a + 1 + i then c else gt us y := fun y => gt_set (by omega) c y
  have hhd : ∀ a' b', ρ a' b' → a' ≠ a + 1 + i := by
    intro a' b' h' e
    by_cases hne : a = a'
    · omega
    · rcases h.things.dis a ⟨b, hab⟩ a' ⟨b', h'⟩ hne with h1 | h1 <;> omega
  have hs : Sim ρ (us.set (a + 1 + i) c) nx (setL L b i d) := by
    refine ⟨h.sim.one, ?_⟩
    intro a' b' h'
    obtain ⟨x', hx', ht'⟩ := h.sim.th a' b' h'
    by_cases e : b' = b
    · subst e
      have ea := h.sim.one.inj2 a' a b' h' hab
      subst ea
      rw [hx] at hx'
      obtain rfl := Option.some.inj hx'
      refine ⟨{ x with l := x.l.set i d }, by unfold setL; rw [if_pos rfl, hx]; rfl, by simpa using hfit, ?_, ht'.k, ht'.t, fun i' hi' => ?_⟩
      · rw [hg, if_neg (by omega)]; simpa using ht'.hd
      · have hi2 : i' < x.l.length := by simpa using hi'
        rw [hg]
        by_cases e2 : i' = i
        · subst e2
          rw [if_pos rfl]
          simpa using hc
        · rw [if_neg (by omega)]
          have := ht'.f i' hi2
          simpa [List.getElem_set_ne (fun h => e2 h.symm)] using this
    · have hne : a ≠ a' := fun e2 => e (h.sim.one.inj1 a' b' b h' (e2 ▸ hab))
      have hl' := ln_of ht'
      refine ⟨x', by unfold setL; rw [if_neg e]; exact hx', ht'.fit, ?_, ht'.k, ht'.t, fun i' hi' => ?_⟩
      · rw [hg, if_neg (hhd a' b' h')]; exact ht'.hd
      · rw [hg, if_neg ?_]
        · exact ht'.f i' hi'
        · intro e2
          rcases h.things.dis a ⟨b, hab⟩ a' ⟨b', h'⟩ hne with h1 | h1 <;> omega
  have hlo : ∀ a' b', ρ a' b' → ln (us.set (a + 1 + i) c) a' = ln us a' := fun a' b' h' => by unfold ln; rw [hg, if_neg (hhd a' b' h')]
  refine ⟨hs, things_of hs (by omega) ?_, ?_, h.rs⟩
  · intro a1 b1 a2 b2 h1 h2 hne
    rw [hlo a1 b1 h1, hlo a2 b2 h2]
    exact h.things.dis a1 ⟨b1, h1⟩ a2 ⟨b2, h2⟩ hne
  · intro j y hy
    unfold setL at hy
    split at hy
    · rename_i e
      subst e
      exact ⟨a, hab⟩
    · exact h.cov j y hy
end Go.Proofs.Ytidjfmkclabagaa
