/-
  Proved: the law's step where the step is a Make of picked numbers. Condition: rows of at most 3·10^12 cells.
-/
import Derived.Test.YtidjfmkclabagaaE3
import Derived.StillTailTactics
set_option linter.unusedSimpArgs false
set_option linter.unusedVariables false
namespace Go.Proofs.Ytidjfmkclabagaa
open Go.RowKit

/-- the step's argument, boxed -/
abbrev opRow (k a b c : Int) (lv : Value) : Array Value := #[.int .i64 k, .int .i64 a, .int .i64 b, .int .i64 c, lv]
structure Boxed (B : Nat) (ρ : Nat → Nat → Prop) (w W : World) (wb : Nat) (g : Hp) (r : Rf) (pv qv : Value) (p q : List C) (k a b c : Int) (lv : Value) : Prop where
  st : St B ρ W wb g r pv qv p q
  up : Below B w W
  up1 : Below w.heap.size w W
  x0 : W.cell? ⟨w.heap.size, 0, none⟩ = some (.int .i64 k)
  x1 : W.cell? ⟨w.heap.size, 1, none⟩ = some (.int .i64 a)
  x2 : W.cell? ⟨w.heap.size, 2, none⟩ = some (.int .i64 b)
  x3 : W.cell? ⟨w.heap.size, 3, none⟩ = some (.int .i64 c)
  x4 : W.cell? ⟨w.heap.size, 4, none⟩ = some lv
theorem boxed {B : Nat} {ρ : Nat → Nat → Prop} {w : World} {wb : Nat} {g : Hp} {r : Rf} {pv qv : Value} {p q : List C} (h : St B ρ w wb g r pv qv p q) (k a b c : Int) (lv : Value) :
    Boxed B ρ w (w.alloc (.cells (opRow k a b c lv) 38)) wb g r pv qv p q k a b c lv := by
  have hb1 : Below w.heap.size w (w.alloc (.cells (opRow k a b c lv) 38)) := balloc (Below.refl _ _) _
  have hk : (w.alloc (.cells (opRow k a b c lv) 38)).heap[w.heap.size]? = some (.cells (opRow k a b c lv) 38 (0, 0)) := heap_alloc_new ..
  exact ⟨h.below hb1, hb1.mono h.base, hb1, blk_cell hk 0, blk_cell hk 1, blk_cell hk 2, blk_cell hk 3, blk_cell hk 4⟩
set_option maxRecDepth 100000 in
set_option maxHeartbeats 8000000 in
theorem step_make (B : Nat) (ρ : Nat → Nat → Prop) (w : World) (wb : Nat) (g : Hp) (r : Rf) (pv qv : Value) (p q : List C) (h : St B ρ w wb g r pv qv p q) (hpl : p.length ≤ 3000000000000) (hnx : r.nx + 1 < 100000000000000) (a b c : Int) (ha : I64 a) (hb : I64 b) (hc : I64 c) (lv : Value) (l : List Int) (hl : IntsAt B w lv l) :
    Calls Try.prog 5 #[.pointer (some ⟨wb, 0, none⟩), .agg #[.int .i64 1, .int .i64 a, .int .i64 b, .int .i64 c, lv]] w (StepPost B wb r p w) := by
  obtain ⟨ao, cap, hlv, hcell⟩ := hl.v
  obtain ⟨ln, hln⟩ : ∃ ln, ln = l.length := ⟨_, rfl⟩
  rw [← hln] at hlv
  have hbx := boxed h 1 a b c lv
  obtain ⟨W, hW⟩ : ∃ W, W = w.alloc (.cells (opRow 1 a b c lv) 38) := ⟨_, rfl⟩
  rw [← hW] at hbx
  have hd := below_drewN (Below.refl W.heap.size W) 1
  have HM := Lib.hid (wmake_any B ρ W.drew wb g r pv qv p q (hbx.st.below hd) hpl hnx (pickD a 5) (pickD b 300) (pickD c 12) lv l ((hl.below hbx.up).below (hd.mono hbx.st.base)))
  have HB := Lib.hid (hbx.up.trans (hd.mono hbx.st.base))
  have P1 := Lib.hid (pick_any a 5 W.drew ha.1 ha.2 (by decide) (by decide))
  have P2 := Lib.hid (pick_any b 300 W.drew hb.1 hb.2 (by decide) (by decide))
  have P3 := Lib.hid (pick_any c 12 W.drew hc.1 hc.2 (by decide) (by decide))
  obtain ⟨_, _, _, x0, x1, x2, x3, x4⟩ := hbx
  generalize pickD a 5 = A1 at HM P1
  generalize pickD b 300 = A2 at HM P2
  generalize pickD c 12 = A3 at HM P3
  have y1 : W.drew.cell? ⟨w.heap.size, 1, none⟩ = some (.int .i64 a) := x1
  have y2 : W.drew.cell? ⟨w.heap.size, 2, none⟩ = some (.int .i64 b) := x2
  have y3 : W.drew.cell? ⟨w.heap.size, 3, none⟩ = some (.int .i64 c) := x3
  have y4 : W.drew.cell? ⟨w.heap.size, 4, none⟩ = some lv := x4
  subst hlv
  clear hcell h hl hln ha hb hc hd
  go_enter Try.func5, Try.ntmps5
  go_upto_region 1 with fail
  rw [← hW]
  have HWW := Lib.hid hW
  clear hW
  go_upto_region 3 with fail
  refine wp_region_still_tail 12 (by kernel_rfl) (by kernel_rfl) ?_
  simp only [List.take_succ_cons, List.take_zero, List.drop_succ_cons, List.drop_zero]
  change wpStill _ _ W.drew _ _ _
  still_step
  still_step
  still_step
  still_call P1.out
  still_step
  still_step
  still_call P2.out
  still_step
  still_step
  still_call P3.out
  still_step
  still_step
  refine wpStill_nil ?_
  change wpList _ _ _ _ _ W.drew
  go_wp2_with (first | (go_at_call 7; refine HM.out.mono ?_; rintro e w2 ⟨ρ', g', r', pv', qv', p', q', rfl, h1, h2, h3, h4⟩))
  go_ret
  exact .mk ρ' g' r' pv' qv' p' q' rfl h1 h2 h3 (HB.out.trans h4)
end Go.Proofs.Ytidjfmkclabagaa
