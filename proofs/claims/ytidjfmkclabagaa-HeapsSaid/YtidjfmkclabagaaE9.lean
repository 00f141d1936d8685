/-
  Proved: the law's step on a root whose thing has no fields. Condition: rows of at most 3·10^12 cells.
-/
import Derived.Test.YtidjfmkclabagaaE8
set_option linter.unusedSimpArgs false
set_option linter.unusedVariables false
namespace Go.Proofs.Ytidjfmkclabagaa
open Go.RowKit

/-- what is looked up in the document's heap -/
theorem look_any {V : World} {r : Rf} (h : RfAt V r) {j : Nat} {x : Th} (hx : r.L j = some x) : ∃ b0, V.cell? ⟨r.rb, 1, none⟩ = some (.map (some b0)) ∧ b0 < V.heap.size ∧
    ∀ W' : World, W'.heap[b0]? = V.heap[b0]? → (Instr.lookup 29 (.map (some b0)) (.int .i64 (j : Int)) false).run Try.prog W' = .ok (.agg #[.int .i64 x.k, .int .i64 x.t, .slice (some ⟨x.b, 0, none⟩) x.l.length x.l.length]) W' := by
  obtain ⟨b0, hb0⟩ : ∃ b0, r.mb = some b0 := by
    cases hm : r.mb with
    | none => have := h.mn hm j; rw [hx] at this; cases this
    | some b0 => exact ⟨b0, rfl⟩
  have hIr : I64 (j : Int) := by
    have := h.lt j x hx
    have := h.nx
    unfold I64; omega
  refine ⟨b0, ?_, (h.m b0 hb0).lt, fun W' e => ?_⟩
  · rw [blk_cell h.h 1]
    show some (Value.map r.mb) = _
    rw [hb0]
  · have hl := (((h.m b0 hb0).of_same (w' := W') e).look Try.underlying29 (zero51 W') hIr).1
    rw [fL_nat, hx] at hl
    exact hl
theorem neg_not (b : Bool) : (!b) = true ↔ b = false := by cases b <;> simp
set_option maxRecDepth 100000 in
set_option maxHeartbeats 8000000 in
theorem step_bare (B : Nat) (ρ : Nat → Nat → Prop) (w : World) (wb : Nat) (g : Hp) (r : Rf) (pv qv : Value) (p q : List C) (h : St B ρ w wb g r pv qv p q) (hpl : p.length ≤ 3000000000000) (k a b c : Int) (hk1 : ¬ k = 1) (hk6 : ¬ k = 6) (hk5 : ¬ k = 5) (hk4 : ¬ k = 4) (ha : I64 a) (lv : Value) (l : List Int) (hl : IntsAt B w lv l)
    (i : Nat) (hi : i < p.length) (hiq : i < q.length) (hpi : pickD a p.length = (i : Int)) (hno : p[i].p = true) (j : Nat) (hj : q[i].n = (j : Int)) (x : Th) (hx : r.L j = some x) (hx0 : x.l.length = 0) :
    Calls Try.prog 5 #[.pointer (some ⟨wb, 0, none⟩), .agg #[.int .i64 k, .int .i64 a, .int .i64 b, .int .i64 c, lv]] w (StepPost B wb r p w) := by
  obtain ⟨lo, lc, hlv, hcell⟩ := hl.v
  obtain ⟨ln, hln⟩ : ∃ ln, ln = l.length := ⟨_, rfl⟩
  rw [← hln] at hlv
  have hbx := boxed h k a b c lv
  obtain ⟨W, hW⟩ : ∃ W, W = w.alloc (.cells (opRow k a b c lv) 38) := ⟨_, rfl⟩
  rw [← hW] at hbx
  obtain ⟨hS, hup, _, x0, x1, x2, x3, x4⟩ := hbx
  obtain ⟨pb, pc, qb, qc, hpv, hqv, c0, c1, c2, c3, z0, z1, z2, z3, _⟩ := hS.root i hi hiq
  rw [hno] at z0
  rw [hj] at z3
  obtain ⟨b0, r1, hb0, hlk⟩ := look_any hS.hr hx
  rw [hx0] at hlk
  have hlkn : ∀ n, (Instr.lookup 29 (.map (some b0)) (.int .i64 (j : Int)) false).run Try.prog (W.drewN n) = .ok (.agg #[.int .i64 x.k, .int .i64 x.t, .slice (some ⟨x.b, 0, none⟩) 0 0]) (W.drewN n) := fun n => hlk _ rfl
  have hfd : ∀ W' : World, (Instr.field 51 (.agg #[.int .i64 x.k, .int .i64 x.t, .slice (some ⟨x.b, 0, none⟩) 0 0]) 2).run Try.prog W' = .ok (.slice (some ⟨x.b, 0, none⟩) 0 0) W' := fun W' => field2 _ _ _ W'
  have PI := Lib.hid (pick_any a p.length W.drew ha.1 ha.2 (by omega) (by omega))
  rw [hpi] at PI
  have H := Lib.hid hS
  have HUP := Lib.hid hup
  have hne0 : ¬ ((p.length : Int) = 0) := by omega
  have ux := index_cell pb p.length pc i hi
  have vx := index_cell qb p.length qc i hi
  have y0 : W.drew.cell? ⟨w.heap.size, 0, none⟩ = some (.int .i64 k) := x0
  have y1 : W.drew.cell? ⟨w.heap.size, 1, none⟩ = some (.int .i64 a) := x1
  have y2 : W.drew.cell? ⟨wb, 2, none⟩ = some (.slice (some ⟨pb, 0, none⟩) p.length pc) := c2
  subst hlv
  clear h hS hup hl hln hcell hpi hno ha hpv hqv hlk hx hx0 hj
  go_enter Try.func5, Try.ntmps5
  go_upto_region 1 with fail
  rw [← hW]
  have HWW := Lib.hid hW
  clear hW
  go_upto_region 11 with fail
  refine wp_region_still_lit (by kernel_rfl) (by kernel_rfl) ?_
  change wpStill _ _ W.drew _ _ _
  iterate 7 still_step
  still_call PI.out
  still_step
  refine wpStill_nil ?_
  go_upto_region 17 with fail
  go_quiet (fail)
  go_wp2_with fail
  go_ret
  exact .mk ρ g r pv qv p q rfl (H.out.below (below_drewN (below_drewN (Below.refl _ _) 1) _)) (Nat.le_succ _) (Nat.le_succ _) (HUP.out.trans (below_drewN (below_drewN (Below.refl _ _) 1) _))
end Go.Proofs.Ytidjfmkclabagaa
