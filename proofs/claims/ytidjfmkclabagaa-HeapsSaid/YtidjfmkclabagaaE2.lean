/-
  Proved: what Collect on the program's side and Live on the document's leave of the law's world: both tell the same. No condition.
-/
import Derived.Test.YtidjfmkclabagaaE1
set_option linter.unusedSimpArgs false
set_option linter.unusedVariables false
namespace Go.Proofs.Ytidjfmkclabagaa
open Go.RowKit

theorem st_collect {B : Nat} {ρ : Nat → Nat → Prop} {w w2 W2 w3 : World} {wb : Nat} {g : Hp} {r : Rf} {pv qv : Value} {p q : List C} (h : St B ρ w wb g r pv qv p q) {pb psz : Nat}
    (hown : 0 < p.length → pv.ownBlock = some pb) (h0 : p.length = 0 → pb = w.heap.size) (hback : ∀ w' l', l'.length = p.length → 0 < p.length → RowC w' pb psz l' → Rw w' pv l')
    {A : List Nat} {od nw : List C} (hc : Colld g.us p (fun a => ∃ b, ρ a b) g.sz A od nw) (hg2 : HpAt w2 { g with ub := g.sb, sb := g.ub, us := nw, nx := T g.us A }) (hrow : 0 < p.length → RowC w2 pb psz (p.map (ph g.us A))) (hk : Keeps (CS g pb) w w2)
    (hb2 : Below w2.heap.size w2 W2) {e : Ending} (hL : LivePost r q W2 e w3) :
    e = .returned (.int .i64 (T g.us A : Nat)) ∧ ∃ ρ' g' r' p', St B ρ' w3 wb g' r' pv qv p' q ∧ p'.length = p.length ∧ r'.nx = r.nx ∧ g'.hb = g.hb ∧ r'.rb = r.rb ∧ Below B w w3 := by
  obtain ⟨K, mb, hnd, hK, he, hrf, hmb, hk3⟩ := hL
  have hB := h.base
  have hs := live_eq h.ok.sim h.ok.rs hc.st.nd (colld_all hc) hnd hK
  refine ⟨by rw [hs]; exact he, ?_⟩
  have hkP : Keeps (PS g pv) w w2 := by
    refine ⟨hk.os, hk.tape, hk.output, hk.size, fun b hb hnb => hk.block b hb ?_⟩
    rintro (e | e | e | e)
    · exact hnb (.inl e)
    · exact hnb (.inr (.inl e))
    · exact hnb (.inr (.inr (.inl e)))
    · by_cases hp0 : p.length = 0
      · have := h0 hp0; omega
      · exact hnb (.inr (.inr (.inr (by rw [e]; exact hown (by omega)))))
  have hkW : Keeps (PS g pv) w W2 := hkP.trans (Keeps.of_below hb2)
  obtain ⟨a1, a2, a3⟩ := h.prog hkW
  have hGW := hg2.keep (Keeps.of_below (S := fun _ => False) hb2) (fun h => h) (fun h => h) (fun h => h)
  have hp2 : Rw w2 pv (p.map (ph g.us A)) := by
    by_cases hp0 : p.length = 0
    · have hp1 : p = [] := List.length_eq_zero_iff.1 hp0
      subst hp1
      refine h.hp.keep hk fun b hb => ?_
      rintro (e | e | e | e)
      · exact (h.pu b hb).1 e
      · exact (h.pu b hb).2.1 e
      · subst e; exact h.hp.ne h.hg.h (by decide) hb
      · have := h0 hp0
        have := h.hp.lt hb
        omega
    · exact hback w2 _ (List.length_map ..) (by omega) (hrow (by omega))
  have hpW : Rw W2 pv (p.map (ph g.us A)) := hp2.keep (Keeps.of_below (S := fun _ => False) hb2) (fun _ _ h => h)
  obtain ⟨c1, c2, c3, c4⟩ := St.ref hGW a1.h a2 hpW a3 hk3
  have hLs : ∀ j x, restr r.L K j = some x → r.L j = some x := fun j x hx => (restr_some hx).2
  have hnx := h.hg.nx
  have hsz := h.hg.sz
  have hW2 := hkW.size
  refine ⟨_, _, _, _, ⟨c1, hrf, c2, c3, c4, ?_, ?_, ?_, ok_collect h.ok hc (by omega) hK, h.sz, ?_⟩, List.length_map .., rfl, rfl, rfl, ?_⟩
  · intro b hb
    have := h.pu b hb
    exact ⟨this.2.1, this.1, this.2.2.1, fun j x hx => this.2.2.2 j x (hLs j x hx)⟩
  · intro b hb
    have := h.qu b hb
    exact ⟨this.2.1, this.1, fun j x hx => this.2.2 j x (hLs j x hx)⟩
  · intro j x hx
    have := h.xu j x (hLs j x hx)
    exact ⟨this.2, this.1⟩
  · rintro b (e | e | e | e | e | e | e | e | ⟨j, x, hx, e⟩)
    · exact h.lo b (.inl e)
    · exact h.lo b (.inr (.inr (.inl e)))
    · exact h.lo b (.inr (.inl e))
    · exact h.lo b (.inr (.inr (.inr (.inl e))))
    · exact h.lo b (.inr (.inr (.inr (.inr (.inl e)))))
    · exact h.lo b (.inr (.inr (.inr (.inr (.inr (.inl e))))))
    · exact h.lo b (.inr (.inr (.inr (.inr (.inr (.inr (.inl e)))))))
    · have e' : mb = b := Option.some.inj e
      omega
    · exact h.lo b (.inr (.inr (.inr (.inr (.inr (.inr (.inr (.inr ⟨j, x, hLs j x hx, e⟩))))))))
  · refine (hkW.below hB ?_).trans (hk3.below (Nat.le_trans hB hkW.size) (fun b e => h.lo b (.inr (.inr (.inr (.inl e))))))
    rintro b (e | e | e | e)
    · exact h.lo b (.inr (.inl e))
    · exact h.lo b (.inr (.inr (.inl e)))
    · exact h.lo b (.inl e)
    · exact h.lo b (.inr (.inr (.inr (.inr (.inr (.inl e))))))
end Go.Proofs.Ytidjfmkclabagaa
