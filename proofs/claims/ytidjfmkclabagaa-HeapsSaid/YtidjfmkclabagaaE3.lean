/-
  Proved: the law's step where the step is a Make. Condition: rows of at most 3·10^12 cells.
-/
import Derived.Test.YtidjfmkclabagaaE2
set_option linter.unusedSimpArgs false
set_option linter.unusedVariables false
namespace Go.Proofs.Ytidjfmkclabagaa
open Go.RowKit

set_option maxRecDepth 100000 in
set_option maxHeartbeats 8000000 in
theorem step_wide (B : Nat) (ρ : Nat → Nat → Prop) (w : World) (wb : Nat) (g : Hp) (r : Rf) (pv qv : Value) (p q : List C) (h : St B ρ w wb g r pv qv p q) (hpl : p.length ≤ 3000000000000) (hnx : r.nx + 1 < 100000000000000) (a b c : Int) (lv : Value) (l : List Int) (hl : IntsAt B w lv l) :
    Calls Try.prog 5 #[.pointer (some ⟨wb, 0, none⟩), .agg #[.int .i64 6, .int .i64 a, .int .i64 b, .int .i64 c, lv]] w (StepPost B wb r p w) := by
  obtain ⟨ao, cap, hlv, hcell⟩ := hl.v
  obtain ⟨ln, hln⟩ : ∃ ln, ln = l.length := ⟨_, rfl⟩
  rw [← hln] at hlv
  have hb1 : Below w.heap.size w (w.alloc (.cells #[.int .i64 6, .int .i64 a, .int .i64 b, .int .i64 c, lv] 38)) := balloc (Below.refl _ _) _
  have HM := Lib.hid (wmake_any B ρ _ wb g r pv qv p q (h.below hb1) hpl hnx a b c lv l (hl.below (hb1.mono h.base)))
  have HB := Lib.hid (hb1.mono h.base)
  subst hlv
  clear hcell hb1 h hl hln
  go_enter Try.func5, Try.ntmps5
  go_wp2_with (first | (go_at_call 7; refine HM.out.mono ?_; rintro e w2 ⟨ρ', g', r', pv', qv', p', q', rfl, h1, h2, h3, h4⟩))
  go_ret
  exact .mk ρ' g' r' pv' qv' p' q' rfl h1 h2 h3 (HB.out.trans h4)
end Go.Proofs.Ytidjfmkclabagaa
