/-
  Proved: one root more, one field set: what is left of the law's world. No condition.
-/
import Derived.Test.YtidjfmkclabagaaD8
set_option linter.unusedSimpArgs false
set_option linter.unusedVariables false
namespace Go.Proofs.Ytidjfmkclabagaa
open Go.RowKit

theorem St.base {B : Nat} {ρ : Nat → Nat → Prop} {w : World} {wb : Nat} {g : Hp} {r : Rf} {pv qv : Value} {p q : List C} (h : St B ρ w wb g r pv qv p q) : B ≤ w.heap.size :=
  Nat.le_trans (h.lo wb (.inr (.inr (.inr (.inr (.inl rfl)))))) (Nat.le_of_lt (lt_of_block h.hw))
theorem St.below {B : Nat} {ρ : Nat → Nat → Prop} {w w' : World} {wb : Nat} {g : Hp} {r : Rf} {pv qv : Value} {p q : List C} (h : St B ρ w wb g r pv qv p q) (hb : Below w.heap.size w w') : St B ρ w' wb g r pv qv p q := by
  have hk : Keeps (fun _ => False) w w' := Keeps.of_below hb
  exact ⟨h.hg.keep hk (fun h => h) (fun h => h) (fun h => h), h.hr.keep hk (fun h => h) (fun _ _ h => h) (fun _ _ _ h => h), hk.blk h.hw (fun h => h), h.hp.keep hk (fun _ _ h => h), h.hq.keep hk (fun _ _ h => h), h.pu, h.qu, h.xu, h.ok, h.sz, h.lo⟩
/-- the roots' rows alone have turned -/
theorem St.rows {B : Nat} {ρ : Nat → Nat → Prop} {w w' : World} {wb : Nat} {g : Hp} {r : Rf} {pv qv pv' qv' : Value} {p q p' q' : List C} (h : St B ρ w wb g r pv qv p q) (hrs : RSim ρ p' q')
    (hw : w'.heap[wb]? = some (.cells #[.pointer (some ⟨g.hb, 0, none⟩), .pointer (some ⟨r.rb, 0, none⟩), pv', qv'] 34 (0, 0))) (hp : Rw w' pv' p') (hq : Rw w' qv' q')
    (h1 : pv.ownBlock = pv'.ownBlock ∨ ∃ g, pv'.ownBlock = some g ∧ w.heap.size ≤ g) (h2 : qv.ownBlock = qv'.ownBlock ∨ ∃ g, qv'.ownBlock = some g ∧ w.heap.size ≤ g) (h3 : ∀ g, pv'.ownBlock = some g → qv'.ownBlock ≠ some g)
    (hk : Keeps (fun x => x = wb ∨ pv.ownBlock = some x ∨ qv.ownBlock = some x) w w') : St B ρ w' wb g r pv' qv' p' q' ∧ Below B w w' := by
  have hB := h.base
  obtain ⟨ss, hss, _⟩ := h.hg.s
  have hss' : w.heap[g.sb]? = some (.cells (cvA ss) 49 (0, 0)) := hss
  have hu' : w.heap[g.ub]? = some (.cells (cvA g.us) 49 (0, 0)) := h.hg.u
  have ex : ∀ {j x}, r.L j = some x → x.b < w.heap.size := fun hx => (h.hr.th _ _ hx).lt
  refine ⟨⟨h.hg.keep hk ?_ ?_ ?_, h.hr.keep hk ?_ ?_ ?_, hw, hp, hq, ?_, ?_, h.xu, h.ok.roots hrs, h.sz, ?_⟩, ?_⟩
  · rintro (e | e | e)
    · exact blk_ne h.hg.h h.hw (by decide) e
    · exact h.hp.ne h.hg.h (by decide) e
    · exact h.hq.ne h.hg.h (by decide) e
  · rintro (e | e | e)
    · exact blk_ne hu' h.hw (by decide) e
    · exact (h.pu _ e).1 rfl
    · exact (h.qu _ e).1 rfl
  · rintro (e | e | e)
    · exact blk_ne hss' h.hw (by decide) e
    · exact (h.pu _ e).2.1 rfl
    · exact (h.qu _ e).2.1 rfl
  · rintro (e | e | e)
    · exact blk_ne h.hr.h h.hw (by decide) e
    · exact h.hp.ne h.hr.h (by decide) e
    · exact h.hq.ne h.hr.h (by decide) e
  · intro b hb
    have hm := h.hr.m b hb
    rintro (e | e | e)
    · exact map_ne hm h.hw e.symm
    · exact h.hp.ne_map hm e
    · exact h.hq.ne_map hm e
  · intro j x hx
    rintro (e | e | e)
    · exact blk_ne (h.hr.th j x hx) h.hw (by decide) e
    · exact (h.pu _ e).2.2.2 j x hx rfl
    · exact (h.qu _ e).2.2 j x hx rfl
  · intro b hb
    rcases h1 with e | ⟨g', e, hlt⟩
    · have := h.pu b (e.trans hb)
      exact ⟨this.1, this.2.1, h3 b hb, this.2.2.2⟩
    · have e' : g' = b := Option.some.inj (e.symm.trans hb)
      have := h.hg.lu
      have := hss.lt
      exact ⟨by omega, by omega, h3 b hb, fun j x hx => by have := ex hx; omega⟩
  · intro b hb
    rcases h2 with e | ⟨g', e, hlt⟩
    · exact h.qu b (e.trans hb)
    · have e' : g' = b := Option.some.inj (e.symm.trans hb)
      have := h.hg.lu
      have := hss.lt
      exact ⟨by omega, by omega, fun j x hx => by have := ex hx; omega⟩
  · rintro b (e | e | e | e | e | e | e | e | e)
    · exact h.lo b (.inl e)
    · exact h.lo b (.inr (.inl e))
    · exact h.lo b (.inr (.inr (.inl e)))
    · exact h.lo b (.inr (.inr (.inr (.inl e))))
    · exact h.lo b (.inr (.inr (.inr (.inr (.inl e)))))
    · rcases h1 with e1 | ⟨g', e1, hlt⟩
      · exact h.lo b (.inr (.inr (.inr (.inr (.inr (.inl (e1.trans e)))))))
      · have e' : g' = b := Option.some.inj (e1.symm.trans e)
        omega
    · rcases h2 with e1 | ⟨g', e1, hlt⟩
      · exact h.lo b (.inr (.inr (.inr (.inr (.inr (.inr (.inl (e1.trans e))))))))
      · have e' : g' = b := Option.some.inj (e1.symm.trans e)
        omega
    · exact h.lo b (.inr (.inr (.inr (.inr (.inr (.inr (.inr (.inl e))))))))
    · exact h.lo b (.inr (.inr (.inr (.inr (.inr (.inr (.inr (.inr e))))))))
  · refine hk.below hB ?_
    rintro b (e | e | e)
    · exact h.lo b (.inr (.inr (.inr (.inr (.inl e)))))
    · exact h.lo b (.inr (.inr (.inr (.inr (.inr (.inl e))))))
    · exact h.lo b (.inr (.inr (.inr (.inr (.inr (.inr (.inl e)))))))
/-- one root more -/
theorem st_more {B : Nat} {ρ : Nat → Nat → Prop} {w w' : World} {wb : Nat} {g : Hp} {r : Rf} {pv qv : Value} {p q : List C} {a b : C} {e : Ending} (h : St B ρ w wb g r pv qv p q) (hc : CSim ρ a b)
    (hm : MorePost wb (.pointer (some ⟨g.hb, 0, none⟩)) (.pointer (some ⟨r.rb, 0, none⟩)) pv qv p q a b w e w') : e = .returned (.tuple #[]) ∧ ∃ pv' qv', St B ρ w' wb g r pv' qv' (p ++ [a]) (q ++ [b]) ∧ Below B w w' := by
  obtain ⟨pv', qv', he, h1, h2, h3, h4, h5, h6, h7⟩ := hm
  exact ⟨he, pv', qv', h.rows (rsim_snoc h.ok.rs hc) h1 h2 h3 h4 h5 h6 h7⟩
/-- one field set, on the program's side, then on the document's -/
theorem st_set {B : Nat} {ρ : Nat → Nat → Prop} {w w' : World} {wb : Nat} {g : Hp} {r : Rf} {pv qv : Value} {p q : List C} {a b i : Nat} {x : Th} {c d : C} (h : St B ρ w wb g r pv qv p q) (hab : ρ a b) (hx : r.L b = some x) (hi : i < x.l.length) (hc : CSim ρ c d)
    (hk : Keeps (· = g.ub) w w') (hg : HpAt w' { g with us := g.us.set (a + 1 + i) c }) :
    St B ρ ((w'.setCell ⟨x.b, i * 2, none⟩ (.bool d.p)).setCell ⟨x.b, i * 2 + 1, none⟩ (.int .i64 d.n)) wb { g with us := g.us.set (a + 1 + i) c } { r with L := setL r.L b i d } pv qv p q ∧ Below B w ((w'.setCell ⟨x.b, i * 2, none⟩ (.bool d.p)).setCell ⟨x.b, i * 2 + 1, none⟩ (.int .i64 d.n)) := by
  have hB := h.base
  have hkP : Keeps (PS g pv) w w' := hk.mono fun b e => .inl e
  obtain ⟨a1, a2, a3⟩ := h.prog hkP
  have hpW : Rw w' pv p := h.hp.keep hk fun b hb e => (h.pu b hb).1 e
  have hxc : Cells w' x.b x.l := a1.th b x hx
  obtain ⟨w2, hw2⟩ : ∃ w2, w2 = (w'.setCell ⟨x.b, i * 2, none⟩ (.bool d.p)).setCell ⟨x.b, i * 2 + 1, none⟩ (.int .i64 d.n) := ⟨_, rfl⟩
  have hxs : Cells w2 x.b (x.l.set i d) := by rw [hw2]; exact hxc.set hi d
  have hk2 : Keeps (fun y => y = x.b) w' w2 := by rw [hw2]; exact (((Keeps.refl (fun y => y = x.b) w').set (b := x.b) (.inl rfl) (i * 2) (.bool d.p)).set (b := x.b) (.inl rfl) (i * 2 + 1) (.int .i64 d.n))
  rw [← hw2]
  have hxw : w'.heap[x.b]? = some (.cells (cvA x.l) 49 (0, 0)) := hxc
  have hxu := h.xu b x hx
  have hL : ∀ j y, setL r.L b i d j = some y → ∃ y0, r.L j = some y0 ∧ y0.b = y.b ∧ (j = b → y = { x with l := x.l.set i d }) ∧ (j ≠ b → y0 = y) := by
    intro j y hy
    unfold setL at hy
    split at hy
    · rename_i e
      subst e
      rw [hx] at hy
      obtain rfl := Option.some.inj hy
      exact ⟨x, hx, rfl, fun _ => rfl, fun h => absurd rfl h⟩
    · rename_i e
      exact ⟨y, hy, rfl, fun h => absurd h e, fun _ => rfl⟩
  have hlo : ∀ b', (b' = g.hb ∨ b' = g.ub ∨ b' = g.sb ∨ b' = r.rb ∨ b' = wb ∨ pv.ownBlock = some b' ∨ qv.ownBlock = some b' ∨ r.mb = some b' ∨ ∃ j y, setL r.L b i d j = some y ∧ y.b = b') → B ≤ b' := by
    rintro b' (e | e | e | e | e | e | e | e | ⟨j, y, hy, e⟩)
    · exact h.lo b' (.inl e)
    · exact h.lo b' (.inr (.inl e))
    · exact h.lo b' (.inr (.inr (.inl e)))
    · exact h.lo b' (.inr (.inr (.inr (.inl e))))
    · exact h.lo b' (.inr (.inr (.inr (.inr (.inl e)))))
    · exact h.lo b' (.inr (.inr (.inr (.inr (.inr (.inl e))))))
    · exact h.lo b' (.inr (.inr (.inr (.inr (.inr (.inr (.inl e)))))))
    · exact h.lo b' (.inr (.inr (.inr (.inr (.inr (.inr (.inr (.inl e))))))))
    · obtain ⟨y0, h1, h2, _⟩ := hL j y hy
      exact h.lo b' (.inr (.inr (.inr (.inr (.inr (.inr (.inr (.inr ⟨j, y0, h1, h2.trans e⟩))))))))
  refine ⟨⟨hg.keep hk2 ?_ ?_ ?_, ⟨hk2.blk a1.h ?_, fun m hm => ((a1.m m hm).of_same (hk2.block _ (a1.m m hm).lt ?_)).congr (fun k _ => ?_), fun hm => ?_, ?_, ?_, ?_, a1.cnt, a1.nx⟩, hk2.blk a2 ?_, hpW.keep hk2 ?_, a3.keep hk2 ?_, ?_, ?_, ?_, ?_, h.sz, hlo⟩, ?_⟩
  · exact fun e => blk_ne hg.h hxw (by decide) e
  · exact fun e => hxu.1 e.symm
  · exact fun e => hxu.2 e.symm
  · exact fun e => blk_ne a1.h hxw (by decide) e
  · exact fun e => map_ne (a1.m m hm) hxw e.symm
  · unfold fL
    by_cases h0 : 0 ≤ k
    · rw [if_pos h0, if_pos h0]
      show Option.map _ (r.L k.toNat) = Option.map _ (setL r.L b i d k.toNat)
      unfold setL
      by_cases e : k.toNat = b
      · rw [if_pos e, e, hx]
        simp [trow]
      · rw [if_neg e]
    · rw [if_neg h0, if_neg h0]
  · have := h.hr.mn hm b
    rw [hx] at this
    cases this
  · intro j y hy
    obtain ⟨y0, h1, h2, h3, h4⟩ := hL j y hy
    by_cases e : j = b
    · rw [h3 e]; exact hxs
    · rw [← h4 e]
      exact hk2.blk (a1.th j y0 h1) (fun e2 => h.hr.ne j y0 b x h1 hx e e2)
  · intro j y j' y' hy hy' hne
    obtain ⟨y0, h1, h2, _⟩ := hL j y hy
    obtain ⟨y0', h1', h2', _⟩ := hL j' y' hy'
    rw [← h2, ← h2']
    exact h.hr.ne j y0 j' y0' h1 h1' hne
  · intro j y hy
    obtain ⟨y0, h1, _⟩ := hL j y hy
    exact h.hr.lt j y0 h1
  · exact fun e => blk_ne a2 hxw (by decide) e
  · exact fun b' hb' e => (h.pu b' hb').2.2.2 b x hx e.symm
  · exact fun b' hb' e => (h.qu b' hb').2.2 b x hx e.symm
  · intro b' hb'
    have := h.pu b' hb'
    refine ⟨this.1, this.2.1, this.2.2.1, fun j y hy => ?_⟩
    obtain ⟨y0, h1, h2, _⟩ := hL j y hy
    rw [← h2]; exact this.2.2.2 j y0 h1
  · intro b' hb'
    have := h.qu b' hb'
    refine ⟨this.1, this.2.1, fun j y hy => ?_⟩
    obtain ⟨y0, h1, h2, _⟩ := hL j y hy
    rw [← h2]; exact this.2.2 j y0 h1
  · intro j y hy
    obtain ⟨y0, h1, h2, _⟩ := hL j y hy
    rw [← h2]; exact h.xu j y0 h1
  · exact ok_set h.ok (by rw [h.hg.ul]; exact h.hg.nx) (by rw [h.hg.ul]; exact h.hg.sz) hab hx hi hc
  · refine (hk.below hB (fun y e => h.lo y (.inr (.inl e)))).trans (hk2.below (Nat.le_trans hB hk.size) fun y e => ?_)
    exact h.lo y (.inr (.inr (.inr (.inr (.inr (.inr (.inr (.inr ⟨b, x, hx, e.symm⟩))))))))
end Go.Proofs.Ytidjfmkclabagaa
