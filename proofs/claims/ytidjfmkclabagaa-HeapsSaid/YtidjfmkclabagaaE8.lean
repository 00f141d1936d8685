/-
  Proved: the law's step where nothing is to be done. Condition: rows of at most 3·10^12 cells.
-/
import Derived.Test.YtidjfmkclabagaaE6
import Derived.BigQuiet
set_option linter.unusedSimpArgs false
set_option linter.unusedVariables false
namespace Go.Proofs.Ytidjfmkclabagaa
open Go.RowKit

theorem rw_form {w : World} {v : Value} {l : List C} (h : Rw w v l) (h0 : 0 < l.length) : ∃ b c, v = .slice (some ⟨b, 0, none⟩) l.length c ∧ ∀ i (h : i < l.length), w.cell? ⟨b, i * 2, none⟩ = some (.bool l[i].p) ∧ w.cell? ⟨b, i * 2 + 1, none⟩ = some (.int .i64 l[i].n) := by
  obtain ⟨ao, cap, pb, psz, rfl, hr⟩ := h.row
  obtain ⟨rfl, _, cur, hg, hs, ht⟩ := hr h0
  refine ⟨pb, cap, rfl, fun i hi => ?_⟩
  have h4 := cv_get0 hi
  have h5 := cv_get1 hi
  rw [← ht, List.getElem?_take, if_pos (by omega), Array.getElem?_toList] at h4 h5
  exact ⟨by rw [blk_cell hg]; exact h4, by rw [blk_cell hg]; exact h5⟩
set_option maxRecDepth 100000 in
set_option maxHeartbeats 8000000 in
theorem step_idle (B : Nat) (ρ : Nat → Nat → Prop) (w : World) (wb : Nat) (g : Hp) (r : Rf) (pv qv : Value) (p q : List C) (h : St B ρ w wb g r pv qv p q) (hp0 : p.length = 0) (k a b c : Int) (hk1 : ¬ k = 1) (hk6 : ¬ k = 6) (hk5 : ¬ k = 5) (lv : Value) (l : List Int) (hl : IntsAt B w lv l) :
    Calls Try.prog 5 #[.pointer (some ⟨wb, 0, none⟩), .agg #[.int .i64 k, .int .i64 a, .int .i64 b, .int .i64 c, lv]] w (StepPost B wb r p w) := by
  obtain ⟨lo, lc, hlv, hcell⟩ := hl.v
  obtain ⟨ln, hln⟩ : ∃ ln, ln = l.length := ⟨_, rfl⟩
  rw [← hln] at hlv
  have hbx := boxed h k a b c lv
  obtain ⟨W, hW⟩ : ∃ W, W = w.alloc (.cells (opRow k a b c lv) 38) := ⟨_, rfl⟩
  rw [← hW] at hbx
  obtain ⟨hS, hup, _, x0, x1, x2, x3, x4⟩ := hbx
  obtain ⟨ao, pc, pb, psz, hpv, _⟩ := hS.hp.row2
  rw [hp0] at hpv
  have c2 : W.cell? ⟨wb, 2, none⟩ = some (.slice ao 0 pc) := by rw [← hpv]; exact blk_cell hS.hw 2
  have H := Lib.hid hS
  have HUP := Lib.hid hup
  subst hlv
  clear h hS hup hl hln hcell hpv
  go_enter Try.func5, Try.ntmps5
  go_upto_region 1 with fail
  rw [← hW]
  have HWW := Lib.hid hW
  clear hW
  go_wp2_with fail
  go_ret
  exact .mk ρ g r pv qv p q rfl H.out (Nat.le_succ _) (Nat.le_succ _) HUP.out
/-- what a step on root i reads -/
structure RootAt (ρ : Nat → Nat → Prop) (V : World) (wb : Nat) (g : Hp) (r : Rf) (pv qv : Value) (n i pb pc qb qc : Nat) (x y : C) : Prop where
  pv : pv = .slice (some ⟨pb, 0, none⟩) n pc
  qv : qv = .slice (some ⟨qb, 0, none⟩) n qc
  c0 : V.cell? ⟨wb, 0, none⟩ = some (.pointer (some ⟨g.hb, 0, none⟩))
  c1 : V.cell? ⟨wb, 1, none⟩ = some (.pointer (some ⟨r.rb, 0, none⟩))
  c2 : V.cell? ⟨wb, 2, none⟩ = some (.slice (some ⟨pb, 0, none⟩) n pc)
  c3 : V.cell? ⟨wb, 3, none⟩ = some (.slice (some ⟨qb, 0, none⟩) n qc)
  x0 : V.cell? ⟨pb, i * 2, none⟩ = some (.bool x.p)
  x1 : V.cell? ⟨pb, i * 2 + 1, none⟩ = some (.int .i64 x.n)
  y0 : V.cell? ⟨qb, i * 2, none⟩ = some (.bool y.p)
  y1 : V.cell? ⟨qb, i * 2 + 1, none⟩ = some (.int .i64 y.n)
  sim : CSim ρ x y
theorem St.root {B : Nat} {ρ : Nat → Nat → Prop} {V : World} {wb : Nat} {g : Hp} {r : Rf} {pv qv : Value} {p q : List C} (h : St B ρ V wb g r pv qv p q) (i : Nat) (hi : i < p.length) (hi' : i < q.length) : ∃ pb pc qb qc, RootAt ρ V wb g r pv qv p.length i pb pc qb qc p[i] q[i] := by
  have e := h.ok.rs.len
  obtain ⟨pb, pc, rfl, hp⟩ := rw_form h.hp (by omega)
  obtain ⟨qb, qc, rfl, hq⟩ := rw_form h.hq (by omega)
  obtain ⟨a1, a2⟩ := hp i hi
  obtain ⟨b1, b2⟩ := hq i (by omega)
  exact ⟨pb, pc, qb, qc, rfl, by rw [e], blk_cell h.hw 0, blk_cell h.hw 1, blk_cell h.hw 2, by rw [e]; exact blk_cell h.hw 3, a1, a2, b1, b2, h.ok.rs.c i hi (by omega)⟩
set_option maxRecDepth 100000 in
set_option maxHeartbeats 8000000 in
theorem step_num (B : Nat) (ρ : Nat → Nat → Prop) (w : World) (wb : Nat) (g : Hp) (r : Rf) (pv qv : Value) (p q : List C) (h : St B ρ w wb g r pv qv p q) (hpl : p.length ≤ 3000000000000) (k a b c : Int) (hk1 : ¬ k = 1) (hk6 : ¬ k = 6) (hk5 : ¬ k = 5) (hk4 : ¬ k = 4) (ha : I64 a) (lv : Value) (l : List Int) (hl : IntsAt B w lv l)
    (i : Nat) (hi : i < p.length) (hpi : pickD a p.length = (i : Int)) (hno : p[i].p = false) :
    Calls Try.prog 5 #[.pointer (some ⟨wb, 0, none⟩), .agg #[.int .i64 k, .int .i64 a, .int .i64 b, .int .i64 c, lv]] w (StepPost B wb r p w) := by
  obtain ⟨lo, lc, hlv, hcell⟩ := hl.v
  obtain ⟨ln, hln⟩ : ∃ ln, ln = l.length := ⟨_, rfl⟩
  rw [← hln] at hlv
  have hbx := boxed h k a b c lv
  obtain ⟨W, hW⟩ : ∃ W, W = w.alloc (.cells (opRow k a b c lv) 38) := ⟨_, rfl⟩
  rw [← hW] at hbx
  obtain ⟨hS, hup, _, x0, x1, x2, x3, x4⟩ := hbx
  have hiq : i < q.length := by rw [← h.ok.rs.len]; exact hi
  obtain ⟨pb, pc, qb, qc, hpv, hqv, c0, c1, c2, c3, z0, z1, z2, z3, _⟩ := hS.root i hi hiq
  rw [hno] at z0
  have PI := Lib.hid (pick_any a p.length W.drew ha.1 ha.2 (by omega) (by omega))
  rw [hpi] at PI
  have H := Lib.hid hS
  have HUP := Lib.hid hup
  have hne0 : ¬ ((p.length : Int) = 0) := by omega
  have ux := index_cell pb p.length pc i hi
  have y0 : W.drew.cell? ⟨w.heap.size, 0, none⟩ = some (.int .i64 k) := x0
  have y1 : W.drew.cell? ⟨w.heap.size, 1, none⟩ = some (.int .i64 a) := x1
  have y2 : W.drew.cell? ⟨wb, 2, none⟩ = some (.slice (some ⟨pb, 0, none⟩) p.length pc) := c2
  have t2 : W.drew.drew.cell? ⟨wb, 2, none⟩ = some (.slice (some ⟨pb, 0, none⟩) p.length pc) := c2
  have t3 : W.drew.drew.cell? ⟨pb, i * 2, none⟩ = some (.bool false) := z0
  subst hlv
  clear h hS hup hl hln hcell hpi hno ha hpv hqv
  go_enter Try.func5, Try.ntmps5
  go_upto_region 1 with fail
  rw [← hW]
  have HWW := Lib.hid hW
  clear hW
  go_upto_region 11 with fail
  refine wp_region_still_lit (by kernel_rfl) (by kernel_rfl) ?_
  change wpStill _ _ W.drew _ _ _
  iterate 7 still_step
  still_call PI.out
  still_step
  refine wpStill_nil ?_
  go_upto_region 17 with fail
  go_quiet (fail)
  go_wp2_with fail
  go_ret
  exact .mk ρ g r pv qv p q rfl (H.out.below (below_drewN (below_drewN (Below.refl _ _) 1) _)) (Nat.le_succ _) (Nat.le_succ _) (HUP.out.trans (below_drewN (below_drewN (Below.refl _ _) 1) _))
end Go.Proofs.Ytidjfmkclabagaa
