/-
  Proved: the law's step, whatever it is. Condition: rows of at most 3·10^12 cells.
-/
import Derived.Test.YtidjfmkclabagaaE7
import Derived.Test.YtidjfmkclabagaaE11
import Derived.Test.YtidjfmkclabagaaE12
set_option linter.unusedSimpArgs false
set_option linter.unusedVariables false
namespace Go.Proofs.Ytidjfmkclabagaa
open Go.RowKit

theorem step_any (B : Nat) (ρ : Nat → Nat → Prop) (w : World) (wb : Nat) (g : Hp) (r : Rf) (pv qv : Value) (p q : List C) (h : St B ρ w wb g r pv qv p q) (hpl : p.length ≤ 3000000000000) (hnx : r.nx + 1 < 100000000000000) (k a b c : Int) (ha : I64 a) (hb : I64 b) (hc : I64 c) (lv : Value) (l : List Int) (hl : IntsAt B w lv l) :
    Calls Try.prog 5 #[.pointer (some ⟨wb, 0, none⟩), .agg #[.int .i64 k, .int .i64 a, .int .i64 b, .int .i64 c, lv]] w (StepPost B wb r p w) := by
  by_cases h1 : k = 1
  · subst h1; exact step_make B ρ w wb g r pv qv p q h hpl hnx a b c ha hb hc lv l hl
  by_cases h6 : k = 6
  · subst h6; exact step_wide B ρ w wb g r pv qv p q h hpl hnx a b c lv l hl
  by_cases h5 : k = 5
  · subst h5; exact step_collect B ρ w wb g r pv qv p q h hpl a b c lv l hl
  by_cases h0 : p.length = 0
  · exact step_idle B ρ w wb g r pv qv p q h h0 k a b c h1 h6 h5 lv l hl
  by_cases h4 : k = 4
  · subst h4; exact step_drop B ρ w wb g r pv qv p q h hpl (by omega) a b c ha lv l hl
  have hr := pickD_range a p.length (by omega)
  obtain ⟨i, hi⟩ : ∃ i : Nat, pickD a p.length = (i : Int) := ⟨(pickD a p.length).toNat, by omega⟩
  have hip : i < p.length := by omega
  have hiq : i < q.length := by rw [← h.ok.rs.len]; exact hip
  have hcs := h.ok.rs.c i hip hiq
  cases hp : p[i].p with
  | false => exact step_num B ρ w wb g r pv qv p q h hpl k a b c h1 h6 h5 h4 ha lv l hl i hip hi hp
  | true =>
    obtain ⟨a', j, ha', hj, haj⟩ := hcs.2.2.2.2 hp
    obtain ⟨x, hx, ht⟩ := h.ok.sim.th a' j haj
    by_cases hm : x.l.length = 0
    · exact step_bare B ρ w wb g r pv qv p q h hpl k a b c h1 h6 h5 h4 ha lv l hl i hip hiq hi hp j hj x hx hm
    · have hr2 := pickD_range b x.l.length (by omega)
      obtain ⟨kk, hkk⟩ : ∃ kk : Nat, pickD b x.l.length = (kk : Int) := ⟨(pickD b x.l.length).toNat, by omega⟩
      by_cases h2 : k = 2
      · subst h2; exact step_set B ρ w wb g r pv qv p q h hpl a b c ha hb hc lv l hl i hip hiq hi hp a' j ha' hj haj x hx _ rfl (by omega) kk hkk (by omega)
      by_cases h3 : k = 3
      · subst h3; exact step_get B ρ w wb g r pv qv p q h hpl a b c ha hb hc lv l hl i hip hiq hi hp a' j ha' hj haj x hx _ rfl (by omega) kk hkk (by omega)
      exact step_other B ρ w wb g r pv qv p q h hpl k a b c h1 h6 h5 h4 h2 h3 ha hb hc lv l hl i hip hiq hi hp a' j ha' hj haj x hx _ rfl (by omega) kk hkk (by omega)
end Go.Proofs.Ytidjfmkclabagaa
