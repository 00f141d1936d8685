/-
  Proved: the law's step where the step is a Collect. Condition: rows of at most 3·10^12 cells.
-/
import Derived.Test.YtidjfmkclabagaaE4
set_option linter.unusedSimpArgs false
set_option linter.unusedVariables false
namespace Go.Proofs.Ytidjfmkclabagaa
open Go.RowKit

theorem cs_ps {w w2 : World} {g : Hp} {pv : Value} {p : List C} {pb : Nat} (hown : 0 < p.length → pv.ownBlock = some pb) (h0 : p.length = 0 → pb = w.heap.size) (hk : Keeps (CS g pb) w w2) : Keeps (PS g pv) w w2 := by
  refine ⟨hk.os, hk.tape, hk.output, hk.size, fun b hb hnb => hk.block b hb ?_⟩
  rintro (e | e | e | e)
  · exact hnb (.inl e)
  · exact hnb (.inr (.inl e))
  · exact hnb (.inr (.inr (.inl e)))
  · by_cases hp0 : p.length = 0
    · have := h0 hp0; omega
    · exact hnb (.inr (.inr (.inr (by rw [e]; exact hown (by omega)))))
set_option maxRecDepth 100000 in
set_option maxHeartbeats 8000000 in
theorem step_collect (B : Nat) (ρ : Nat → Nat → Prop) (w : World) (wb : Nat) (g : Hp) (r : Rf) (pv qv : Value) (p q : List C) (h : St B ρ w wb g r pv qv p q) (hpl : p.length ≤ 3000000000000) (a b c : Int) (lv : Value) (l : List Int) (hl : IntsAt B w lv l) :
    Calls Try.prog 5 #[.pointer (some ⟨wb, 0, none⟩), .agg #[.int .i64 5, .int .i64 a, .int .i64 b, .int .i64 c, lv]] w (StepPost B wb r p w) := by
  obtain ⟨lo, lc, hlv, hcell⟩ := hl.v
  obtain ⟨ln, hln⟩ : ∃ ln, ln = l.length := ⟨_, rfl⟩
  rw [← hln] at hlv
  have hbx := boxed h 5 a b c lv
  obtain ⟨W, hW⟩ : ∃ W, W = w.alloc (.cells (opRow 5 a b c lv) 38) := ⟨_, rfl⟩
  rw [← hW] at hbx
  obtain ⟨hS, hup, _, x0, _, _, _, _⟩ := hbx
  obtain ⟨ao, cap, pb, psz, hpv, hao, hrow, hown, h0, hback⟩ := hS.hp.row2
  obtain ⟨ao2, cap2, qb, qsz, hqv, hao2, hrow2, hown2, h02, hback2⟩ := hS.hq.row2
  have hp1 : pb ≠ g.ub := by
    by_cases hp0 : p.length = 0
    · rw [h0 hp0]; have := hS.hg.lu; omega
    · exact (h.pu pb (hown (by omega))).1
  have hp2 : pb ≠ g.sb := by
    by_cases hp0 : p.length = 0
    · rw [h0 hp0]
      obtain ⟨ss, hss, _⟩ := hS.hg.s
      have := hss.lt
      omega
    · exact (h.pu pb (hown (by omega))).2.1
  have hroots : ∀ c ∈ p, c.p = true → ∃ a : Nat, (∃ b, ρ a b) ∧ c.n = a := by
    intro c hc hcp
    obtain ⟨i, hi, e⟩ := List.getElem_of_mem hc
    have h1 := h.ok.rs.c i hi (by rw [← h.ok.rs.len]; exact hi)
    rw [e] at h1
    obtain ⟨a, b, h2, _, h3⟩ := h1.2.2.2.2 hcp
    exact ⟨a, ⟨b, h3⟩, h2⟩
  have hw1 := hS.hw
  rw [hpv] at hw1
  have HC := Lib.hid (collect_any g W hS.hg (fun a => ∃ b, ρ a b) hS.ok.things p hroots wb pb psz cap ao _ _ qv hw1 hao hrow (by omega) hp1 hp2)
  have hsum : ∀ K : List Nat, K.Nodup → (∀ j ∈ K, RchL r.L q j) → S r.L K ≤ 1000000 := fun K hn hk => by
    have h1 := sum_room h.ok.sim h.ok.things hn (fun j hj => by
      obtain ⟨a, ha, _⟩ := reach_fro h.ok.sim h.ok.rs (hk j hj)
      exact ⟨a, ha⟩)
    have h2 := h.hg.nx
    have h3 := h.hg.sz
    omega
  have hqbk : 0 < q.length → qb ≠ g.ub ∧ qb ≠ g.sb ∧ qb ≠ g.hb ∧ pv.ownBlock ≠ some qb := fun h0 => by
    have h1 := h.qu qb (hown2 h0)
    refine ⟨h1.1, h1.2.1, ?_, fun e => (h.pu qb e).2.2.1 (hown2 h0)⟩
    intro e
    subst e
    exact hS.hq.ne hS.hg.h (by decide) (hown2 h0)
  have HR : Hid (∀ V : World, Keeps (PS g pv) W V → Calls Try.prog 11 #[.pointer (some ⟨r.rb, 0, none⟩), .slice ao2 q.length cap2] V (LivePost r q V)) := Lib.hid (fun V hk => by
    obtain ⟨a1, a2, a3⟩ := hS.prog hk
    exact live_any r V a1 q (closed_of h.ok.sim h.ok.rs h.ok.cov) hsum qb qsz cap2 ao2 hao2 (fun h0 => (hrow2 h0).of_same (hk.block qb (hrow2 h0).lt (by
      have h1 := hqbk h0
      rintro (e | e | e | e)
      · exact h1.1 e
      · exact h1.2.1 e
      · exact h1.2.2.1 e
      · exact h1.2.2.2 e))) (by rw [← h.ok.rs.len]; omega))
  have c0 : W.cell? ⟨wb, 0, none⟩ = some (.pointer (some ⟨g.hb, 0, none⟩)) := blk_cell hS.hw 0
  have H := Lib.hid hS
  have HUP := Lib.hid hup
  have HOWN := Lib.hid hown
  have H0 := Lib.hid h0
  have HBACK := Lib.hid hback
  have HQV := Lib.hid hqv
  subst hlv
  clear h hS hup hl hln hcell hpv hao hrow hown h0 hback hqv hao2 hrow2 hown2 h02 hback2 hp1 hp2 hroots hw1 hsum hqbk
  go_enter Try.func5, Try.ntmps5
  go_upto_region 1 with fail
  rw [← hW]
  have HWW := Lib.hid hW
  clear hW
  go_upto_region 8 with (first | (go_at_call 9; refine HC.out.mono ?_; rintro e1 w2 ⟨A, od, nw, rfl, hcol, hg2, hrw2, hk2⟩; have HCOL := Lib.hid hcol; have HG2 := Lib.hid hg2; have HRW2 := Lib.hid hrw2; have HK2 := Lib.hid hk2; clear hcol hg2 hrw2 hk2))
  have hkP := cs_ps HOWN.out H0.out HK2.out
  obtain ⟨b1, b2, b3⟩ := H.out.prog hkP
  have d1 : w2.cell? ⟨wb, 1, none⟩ = some (.pointer (some ⟨r.rb, 0, none⟩)) := blk_cell b2 1
  have d3 : w2.cell? ⟨wb, 3, none⟩ = some (.slice ao2 q.length cap2) := by rw [← HQV.out]; exact blk_cell b2 3
  have HR2 := Lib.hid (HR.out _ (hkP.drew 1))
  have HRB : Hid (r.rb ≠ wb) := Lib.hid (blk_ne b1.h b2 (by decide))
  have HB22 : Hid (w2.drew.heap[wb]? = some (.cells #[.pointer (some ⟨g.hb, 0, none⟩), .pointer (some ⟨r.rb, 0, none⟩), pv, .slice ao2 q.length cap2] 34 (0, 0))) := Lib.hid (by rw [← HQV.out]; exact b2)
  clear b1 b2 b3 hkP c0
  go_region_held3 (fun w' => w'.cell? ⟨wb, 1, none⟩ = some (.pointer (some ⟨r.rb, 0, none⟩)) ∧ w'.cell? ⟨wb, 3, none⟩ = some (.slice ao2 q.length cap2))
    (first | exact ⟨d1, d3⟩ | exact d9)
    (first | (go_at_call 11; refine HR2.out.mono ?_; rintro e2 w3 hR1; have d9 : w3.cell? ⟨wb, 1, none⟩ = some (.pointer (some ⟨r.rb, 0, none⟩)) ∧ w3.cell? ⟨wb, 3, none⟩ = some (.slice ao2 q.length cap2) := by { obtain ⟨_, _, _, _, _, _, _, hkr⟩ := hR1; exact ⟨blk_cell (hkr.blk HB22.out (fun e => HRB.out e.symm)) 1, blk_cell (hkr.blk HB22.out (fun e => HRB.out e.symm)) 3⟩ }; obtain ⟨he2, hfin⟩ := st_collect H.out HOWN.out H0.out HBACK.out HCOL.out HG2.out HRW2.out HK2.out (below_drewN (Below.refl _ _) 1) hR1; have HFIN := Lib.hid hfin; clear hR1 hfin; subst he2))
  go_wp2_with fail
  go_ret
  obtain ⟨ρ', g', r', p', h1, h2, h3, _, _, h4⟩ := HFIN.out
  exact .mk ρ' g' r' pv qv p' q rfl h1 (by omega) (by omega) (HUP.out.trans h4)
end Go.Proofs.Ytidjfmkclabagaa
