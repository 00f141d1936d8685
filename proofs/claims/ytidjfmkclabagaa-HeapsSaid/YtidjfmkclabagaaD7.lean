/-
  Proved: how the law's world stands in memory; what Make on both sides leaves of it. No condition.
-/
import Derived.Test.YtidjfmkclabagaaD6
set_option linter.unusedSimpArgs false
set_option linter.unusedVariables false
namespace Go.Proofs.Ytidjfmkclabagaa
open Go.RowKit

/-- the row as a list of cells in a block, and back -/
theorem Rw.row2 {w : World} {v : Value} {l : List C} (h : Rw w v l) : ∃ ao cap pb psz, v = .slice ao l.length cap ∧ (0 < l.length → ao = some ⟨pb, 0, none⟩) ∧ (0 < l.length → RowC w pb psz l) ∧ (0 < l.length → v.ownBlock = some pb) ∧ (l.length = 0 → pb = w.heap.size) ∧
    ∀ w' l', l'.length = l.length → 0 < l.length → RowC w' pb psz l' → Rw w' v l' := by
  by_cases h0 : l.length = 0
  · rcases h.2 with ⟨rfl, _⟩ | ⟨g, cap, cur, rfl, hB, hg, hc, hm, hs, ht⟩
    · exact ⟨none, 0, w.heap.size, 0, by rw [h0], fun h => by omega, fun h => by omega, fun h => by omega, fun _ => rfl, fun _ _ _ h => by omega⟩
    · exact ⟨_, cap, w.heap.size, 0, rfl, fun h => by omega, fun h => by omega, fun h => by omega, fun _ => rfl, fun _ _ _ h => by omega⟩
  · rcases h.2 with ⟨rfl, h1⟩ | ⟨g, cap, cur, rfl, hB, hg, hc, hm, hs, ht⟩
    · exact absurd h1 h0
    · refine ⟨_, cap, g, cur.size, rfl, fun _ => rfl, fun _ => ⟨cur, hg, rfl, ht⟩, fun _ => rfl, fun h => absurd h h0, fun w' l' hl _ hr => ?_⟩
      obtain ⟨cur', h1, h2, h3⟩ := hr
      refine ⟨by rw [cv_len], .inr ⟨g, cap, cur', by rw [hl], Nat.zero_le _, h1, by rw [hl]; exact hc, hm, by rw [h2, hs], h3⟩⟩
/-- the law's world -/
structure St (B : Nat) (ρ : Nat → Nat → Prop) (w : World) (wb : Nat) (g : Hp) (r : Rf) (pv qv : Value) (p q : List C) : Prop where
  hg : HpAt w g
  hr : RfAt w r
  hw : w.heap[wb]? = some (.cells #[.pointer (some ⟨g.hb, 0, none⟩), .pointer (some ⟨r.rb, 0, none⟩), pv, qv] 34 (0, 0))
  hp : Rw w pv p
  hq : Rw w qv q
  pu : ∀ b, pv.ownBlock = some b → b ≠ g.ub ∧ b ≠ g.sb ∧ qv.ownBlock ≠ some b ∧ ∀ j x, r.L j = some x → x.b ≠ b
  qu : ∀ b, qv.ownBlock = some b → b ≠ g.ub ∧ b ≠ g.sb ∧ ∀ j x, r.L j = some x → x.b ≠ b
  xu : ∀ j x, r.L j = some x → x.b ≠ g.ub ∧ x.b ≠ g.sb
  ok : Ok ρ g.us g.nx r.L p q
  sz : r.sz = g.sz
  lo : ∀ b, (b = g.hb ∨ b = g.ub ∨ b = g.sb ∨ b = r.rb ∨ b = wb ∨ pv.ownBlock = some b ∨ qv.ownBlock = some b ∨ r.mb = some b ∨ ∃ j x, r.L j = some x ∧ x.b = b) → B ≤ b
/-- the blocks that the program's side may write -/
abbrev PS (g : Hp) (pv : Value) : Nat → Prop := fun b => b = g.ub ∨ b = g.sb ∨ b = g.hb ∨ pv.ownBlock = some b
theorem St.prog {B : Nat} {ρ : Nat → Nat → Prop} {w w' : World} {wb : Nat} {g : Hp} {r : Rf} {pv qv : Value} {p q : List C} (h : St B ρ w wb g r pv qv p q) (hk : Keeps (PS g pv) w w') :
    RfAt w' r ∧ w'.heap[wb]? = some (.cells #[.pointer (some ⟨g.hb, 0, none⟩), .pointer (some ⟨r.rb, 0, none⟩), pv, qv] 34 (0, 0)) ∧ Rw w' qv q := by
  obtain ⟨ss, hss, _⟩ := h.hg.s
  have hss' : w.heap[g.sb]? = some (.cells (cvA ss) 49 (0, 0)) := hss
  have hu' : w.heap[g.ub]? = some (.cells (cvA g.us) 49 (0, 0)) := h.hg.u
  refine ⟨h.hr.keep hk ?_ ?_ ?_, hk.blk h.hw ?_, h.hq.keep hk ?_⟩
  · rintro (e | e | e | e)
    · exact blk_ne h.hr.h hu' (by decide) e
    · exact blk_ne h.hr.h hss' (by decide) e
    · exact blk_ne h.hr.h h.hg.h (by decide) e
    · exact h.hp.ne h.hr.h (by decide) e
  · intro b hb
    have hm := h.hr.m b hb
    rintro (e | e | e | e)
    · exact map_ne hm hu' e.symm
    · exact map_ne hm hss' e.symm
    · exact map_ne hm h.hg.h e.symm
    · exact h.hp.ne_map hm e
  · intro j x hx
    rintro (e | e | e | e)
    · exact (h.xu j x hx).1 e
    · exact (h.xu j x hx).2 e
    · exact blk_ne (h.hr.th j x hx) h.hg.h (by decide) e
    · exact (h.pu _ e).2.2.2 j x hx rfl
  · rintro (e | e | e | e)
    · exact blk_ne h.hw hu' (by decide) e
    · exact blk_ne h.hw hss' (by decide) e
    · exact blk_ne h.hw h.hg.h (by decide) e
    · exact h.hp.ne h.hw (by decide) e
  · intro b hb
    rintro (e | e | e | e)
    · exact (h.qu b hb).1 e
    · exact (h.qu b hb).2.1 e
    · subst e; exact h.hq.ne h.hg.h (by decide) hb
    · exact (h.pu b e).2.2.1 hb
theorem St.ref {w w' : World} {wb : Nat} {g : Hp} {r : Rf} {pv qv : Value} {p q : List C} (hg : HpAt w g) (hrh : w.heap[r.rb]? = some (.cells (rrow r) 31 (0, 0)))
    (hw : w.heap[wb]? = some (.cells #[.pointer (some ⟨g.hb, 0, none⟩), .pointer (some ⟨r.rb, 0, none⟩), pv, qv] 34 (0, 0))) (hp : Rw w pv p) (hq : Rw w qv q) (hk : Keeps (fun b => b = r.rb) w w') :
    HpAt w' g ∧ w'.heap[wb]? = some (.cells #[.pointer (some ⟨g.hb, 0, none⟩), .pointer (some ⟨r.rb, 0, none⟩), pv, qv] 34 (0, 0)) ∧ Rw w' pv p ∧ Rw w' qv q := by
  obtain ⟨ss, hss, _⟩ := hg.s
  have hss' : w.heap[g.sb]? = some (.cells (cvA ss) 49 (0, 0)) := hss
  have hu' : w.heap[g.ub]? = some (.cells (cvA g.us) 49 (0, 0)) := hg.u
  refine ⟨hg.keep hk ?_ ?_ ?_, hk.blk hw ?_, hp.keep hk ?_, hq.keep hk ?_⟩
  · exact fun e => blk_ne hg.h hrh (by decide) e
  · exact fun e => blk_ne hu' hrh (by decide) e
  · exact fun e => blk_ne hss' hrh (by decide) e
  · exact fun e => blk_ne hw hrh (by decide) e
  · intro b hb e
    subst e
    exact hp.ne hrh (by decide) hb
  · intro b hb e
    subst e
    exact hq.ne hrh (by decide) hb
/-- behind a Collect of the program's (or none), with the document's Live -/
theorem St.placed {B : Nat} {ρ : Nat → Nat → Prop} {w wx : World} {wb : Nat} {g : Hp} {r : Rf} {pv qv : Value} {p q : List C} (h : St B ρ w wb g r pv qv p q) {pb psz n : Nat} {G : Hp}
    (hown : 0 < p.length → pv.ownBlock = some pb) (h0 : p.length = 0 → pb = w.heap.size) (hback : ∀ w' l', l'.length = p.length → 0 < p.length → RowC w' pb psz l' → Rw w' pv l')
    (hP : Placed g p (fun a => ∃ b, ρ a b) pb psz n w wx G) {K : List Nat} (hn : K.Nodup) (hK : ∀ j, j ∈ K ↔ RchL r.L q j) :
    Keeps (PS g pv) w wx ∧ ∃ ρ' p', Ok ρ' G.us G.nx (restr r.L K) p' q ∧ Rw wx pv p' ∧ p'.length = p.length ∧ (G.nx + (n + 1) ≤ G.sz ↔ S r.L K + 1 + n ≤ g.sz) ∧ ((G.ub = g.ub ∧ G.sb = g.sb) ∨ (G.ub = g.sb ∧ G.sb = g.ub)) := by
  have hkeep : Keeps (PS g pv) w wx := by
    have hk := hP.keep
    refine ⟨hk.os, hk.tape, hk.output, hk.size, fun b hb hnb => hk.block b hb ?_⟩
    rintro (e | e | e | e)
    · exact hnb (.inl e)
    · exact hnb (.inr (.inl e))
    · exact hnb (.inr (.inr (.inl e)))
    · by_cases hp0 : p.length = 0
      · have := h0 hp0; omega
      · exact hnb (.inr (.inr (.inr (by rw [e]; exact hown (by omega)))))
  refine ⟨hkeep, ?_⟩
  have hnx := h.hg.nx
  have hsz := h.hg.sz
  rcases hP.way with ⟨h1, rfl, h2⟩ | ⟨h1, A, od, nw, hc, hG, hrow⟩
  · have hsum := sum_room h.ok.sim h.ok.things hn (fun j hj => by
      obtain ⟨a, ha, _⟩ := reach_fro h.ok.sim h.ok.rs ((hK j).1 hj)
      exact ⟨a, ha⟩)
    exact ⟨_, p, ok_live h.ok (by omega) hK, h.hp.keep (Keeps.of_below (S := fun _ => False) h2) (fun _ _ h => h), rfl, ⟨fun _ => by omega, fun _ => h1⟩, .inl ⟨rfl, rfl⟩⟩
  · have hs := live_eq h.ok.sim h.ok.rs hc.st.nd (colld_all hc) hn hK
    subst hG
    refine ⟨_, p.map (ph g.us A), ok_collect h.ok hc (by omega) hK, ?_, List.length_map .., ?_, .inr ⟨rfl, rfl⟩⟩
    · by_cases hp0 : p.length = 0
      · have hp1 : p = [] := List.length_eq_zero_iff.1 hp0
        subst hp1
        refine h.hp.keep hP.keep fun b hb => ?_
        rintro (e | e | e | e)
        · exact (h.pu b hb).1 e
        · exact (h.pu b hb).2.1 e
        · subst e; exact h.hp.ne h.hg.h (by decide) hb
        · have := h0 hp0
          have := h.hp.lt hb
          omega
      · exact hback wx _ (List.length_map ..) (by omega) (hrow (by omega))
    · show T g.us A + (n + 1) ≤ g.sz ↔ _
      rw [hs]; omega
end Go.Proofs.Ytidjfmkclabagaa
