/-
  Proved: the law's step where a field is read. Condition: rows of at most 3·10^12 cells.
-/
import Derived.Test.YtidjfmkclabagaaE10
set_option linter.unusedSimpArgs false
set_option linter.unusedVariables false
namespace Go.Proofs.Ytidjfmkclabagaa
open Go.RowKit

theorem got1 {U w9 : World} (c : C) (hb : Below U.heap.size U w9) : ∃ A : Nat, Value.pointer (some ⟨w9.heap.size, 0, none⟩) = .pointer (some ⟨A, 0, none⟩) ∧ U.heap.size ≤ A ∧ Below U.heap.size U (w9.alloc (.cells #[.bool c.p, .int .i64 c.n] 49)) ∧
    (w9.alloc (.cells #[.bool c.p, .int .i64 c.n] 49)).heap[A]? = some (.cells #[.bool c.p, .int .i64 c.n] 49 (0, 0)) := ⟨_, rfl, hb.size, balloc hb _, heap_alloc_new w9 _⟩
theorem got2 {U w9 : World} (c : C) (hb : Below U.heap.size U w9) (hx : w9.heap[U.heap.size]? = some (.cells #[.bool false, .int .i64 0] 49 (0, 0))) : ∃ A : Nat, Value.pointer (some ⟨U.heap.size, 0, none⟩) = .pointer (some ⟨A, 0, none⟩) ∧ U.heap.size ≤ A ∧
    Below U.heap.size U ((w9.setCell ⟨U.heap.size, 0, none⟩ (.bool c.p)).setCell ⟨U.heap.size, 1, none⟩ (.int .i64 c.n)) ∧ ((w9.setCell ⟨U.heap.size, 0, none⟩ (.bool c.p)).setCell ⟨U.heap.size, 1, none⟩ (.int .i64 c.n)).heap[A]? = some (.cells #[.bool c.p, .int .i64 c.n] 49 (0, 0)) := by
  refine ⟨_, rfl, Nat.le_refl _, ?_, blk_set (blk_set hx 0 _) 1 _⟩
  exact ((((Keeps.of_below (S := fun _ => False) hb).set (b := U.heap.size) (.inr (Nat.le_refl _)) 0 _).set (b := U.heap.size) (.inr (Nat.le_refl _)) 1 _).below (Nat.le_refl _) (fun _ h => h.elim))
set_option maxRecDepth 100000 in
set_option maxHeartbeats 8000000 in
theorem step_get (B : Nat) (ρ : Nat → Nat → Prop) (w : World) (wb : Nat) (g : Hp) (r : Rf) (pv qv : Value) (p q : List C) (h : St B ρ w wb g r pv qv p q) (hpl : p.length ≤ 3000000000000) (a b c : Int) (ha : I64 a) (hb : I64 b) (hc : I64 c) (lv : Value) (l : List Int) (hl : IntsAt B w lv l)
    (i : Nat) (hi : i < p.length) (hiq : i < q.length) (hpi : pickD a p.length = (i : Int)) (hno : p[i].p = true) (a' j : Nat) (ha' : p[i].n = (a' : Int)) (hj : q[i].n = (j : Int)) (haj : ρ a' j) (x : Th) (hx : r.L j = some x) (m : Nat) (hm : m = x.l.length) (hm0 : 0 < m) (kk : Nat) (hkk : pickD b m = (kk : Int)) (hkm : kk < m) :
    Calls Try.prog 5 #[.pointer (some ⟨wb, 0, none⟩), .agg #[.int .i64 3, .int .i64 a, .int .i64 b, .int .i64 c, lv]] w (StepPost B wb r p w) := by
  obtain ⟨lo, lc, hlv, hcell⟩ := hl.v
  obtain ⟨ln, hln⟩ : ∃ ln, ln = l.length := ⟨_, rfl⟩
  rw [← hln] at hlv
  have hbx := boxed h 3 a b c lv
  obtain ⟨W, hW⟩ : ∃ W, W = w.alloc (.cells (opRow 3 a b c lv) 38) := ⟨_, rfl⟩
  rw [← hW] at hbx
  obtain ⟨hS, hup, _, x0, x1, x2, x3, x4⟩ := hbx
  obtain ⟨pb, pc, qb, qc, hpv, hqv, c0, c1, c2, c3, z0, z1, z2, z3, _⟩ := hS.root i hi hiq
  rw [hno] at z0
  rw [hj] at z3
  rw [ha'] at z1
  obtain ⟨b0, r1, hb0, hlk⟩ := look_any hS.hr hx
  rw [← hm] at hlk
  have HMM := Lib.hid hm
  have HX := Lib.hid hx
  have HPV := Lib.hid hpv
  have HAJ := Lib.hid haj
  have HKK := Lib.hid hkk
  have hlkn : ∀ n, (Instr.lookup 29 (.map (some b0)) (.int .i64 (j : Int)) false).run Try.prog (W.drewN n) = .ok (.agg #[.int .i64 x.k, .int .i64 x.t, .slice (some ⟨x.b, 0, none⟩) m m]) (W.drewN n) := fun n => hlk _ rfl
  have hfd : ∀ W' : World, (Instr.field 51 (.agg #[.int .i64 x.k, .int .i64 x.t, .slice (some ⟨x.b, 0, none⟩) m m]) 2).run Try.prog W' = .ok (.slice (some ⟨x.b, 0, none⟩) m m) W' := fun W' => field2 _ _ _ W'
  have PI := Lib.hid (pick_any a p.length W.drew ha.1 ha.2 (by omega) (by omega))
  rw [hpi] at PI
  have H := Lib.hid hS
  have HUP := Lib.hid hup
  have hne0 : ¬ ((p.length : Int) = 0) := by omega
  have hmz : ¬ ((m : Int) = 0) := by omega
  have ux := index_cell pb p.length pc i hi
  have vx := index_cell qb p.length qc i hi
  have y0 : W.drew.cell? ⟨w.heap.size, 0, none⟩ = some (.int .i64 3) := x0
  have y1 : W.drew.cell? ⟨w.heap.size, 1, none⟩ = some (.int .i64 a) := x1
  have y2 : W.drew.cell? ⟨wb, 2, none⟩ = some (.slice (some ⟨pb, 0, none⟩) p.length pc) := c2
  subst hlv
  clear h hS hup hl hln hcell hpi hno hpv hqv hj ha' hm hx haj hkk
  go_enter Try.func5, Try.ntmps5
  go_upto_region 1 with fail
  rw [← hW]
  have HWW := Lib.hid hW
  clear hW
  go_upto_region 11 with fail
  refine wp_region_still_lit (by kernel_rfl) (by kernel_rfl) ?_
  change wpStill _ _ W.drew _ _ _
  iterate 7 still_step
  still_call PI.out
  still_step
  refine wpStill_nil ?_
  go_upto_region 17 with fail
  go_quiet (fail)
  obtain ⟨V, hV⟩ : ∃ V : World, V = W.drew.drewN nq := ⟨_, rfl⟩
  rw [← hV]
  have hbV : Below W.heap.size W V := by rw [hV]; exact below_drewN (below_drewN (Below.refl _ _) 1) _
  have hVW : ∀ b : Nat, V.heap[b]? = W.heap[b]? := fun b => by rw [hV]; rfl
  have e0 : ∀ p : Addr, V.cell? p = W.cell? p := fun p => by rw [hV]; rfl
  rw [← e0] at c0 c1 c2 c3 z0 z1 z2 z3 x0 x2 x3 r1
  have hlV : (Instr.lookup 29 (.map (some b0)) (.int .i64 (j : Int)) false).run Try.prog V.drew = .ok (.agg #[.int .i64 x.k, .int .i64 x.t, .slice (some ⟨x.b, 0, none⟩) m m]) V.drew := hlk _ (hVW b0)
  have hlA : (Instr.lookup 29 (.map (some b0)) (.int .i64 (j : Int)) false).run Try.prog (V.alloc (.cells #[.int .i64 0, .int .i64 0, .slice none 0 0] 51)).drew = .ok (.agg #[.int .i64 x.k, .int .i64 x.t, .slice (some ⟨x.b, 0, none⟩) m m]) (V.alloc (.cells #[.int .i64 0, .int .i64 0, .slice none 0 0] 51)).drew := hlk _ (by
    rw [← hVW]
    cases hb : V.heap[b0]? with
    | none => rw [hVW, Array.getElem?_eq_none_iff] at hb; omega
    | some o => exact blk_alloc hb _)
  have lwb : wb < V.heap.size := lt_cell c1
  have lqb : qb < V.heap.size := lt_cell z3
  have lrb : r.rb < V.heap.size := lt_cell r1
  have HV := Lib.hid hV
  have HVW := Lib.hid hVW
  have HBV := Lib.hid hbV
  have HLK := Lib.hid hlk
  clear hV hVW hbV e0 hlk hlkn y0 y1 y2
  go_upto_region 19 with fail
  go_cut [7] from 147 to 163 (fun v wx => v = .pointer (some ⟨V.heap.size, 0, none⟩) ∧ wx = (V.alloc (.cells #[.int .i64 x.k, .int .i64 x.t, .slice (some ⟨x.b, 0, none⟩) m m] 51)).drew)
  case first =>
    go_region
    all_goals
      go_wp2_with fail
      go_meet
      exact ⟨rfl, rfl⟩
  case rest =>
  obtain ⟨rfl, hU⟩ := hcut
  obtain ⟨U, hU2⟩ : ∃ U : World, U = wc := ⟨_, rfl⟩
  subst hU2
  have hbU : Below V.heap.size V U := by rw [hU]; exact (balloc (Below.refl _ _) _).drew
  have hsU : V.heap.size < U.heap.size := by rw [hU]; simp [World.size_drew]
  have hSU := (H.out.below HBV.out).below hbU
  have hT : U.heap[V.heap.size]? = some (.cells #[.int .i64 x.k, .int .i64 x.t, .slice (some ⟨x.b, 0, none⟩) m m] 51 (0, 0)) := by rw [hU]; exact heap_alloc_new V _
  have tt : U.cell? ⟨V.heap.size, 2, none⟩ = some (.slice (some ⟨x.b, 0, none⟩) m m) := blk_cell hT 2
  have hcell : ∀ (b i : Nat) (v : Value), V.cell? ⟨b, i, none⟩ = some v → U.cell? ⟨b, i, none⟩ = some v := fun b i v h => (hbU.cell (p := ⟨b, i, none⟩) (lt_cell h)).trans h
  have u0 := hcell _ _ _ x0
  have u2 := hcell _ _ _ x2
  have u3 := hcell _ _ _ x3
  have PK : Hid (Calls Try.prog 8 #[.int .i64 b, .int .i64 m] U fun e w' => e = .returned (.int .i64 (kk : Int)) ∧ w' = U) := by
    have hl := hSU.hg.sz
    have hnx := hSU.hg.nx
    obtain ⟨x', hx', ht⟩ := hSU.ok.sim.th a' j HAJ.out
    obtain rfl : x' = x := Option.some.inj (hx'.symm.trans HX.out)
    have hf := ht.fit
    have h := pick_any b m U hb.1 hb.2 (by omega) (by have := HMM.out; omega)
    rw [HKK.out] at h
    exact h
  have hfit : a' + 1 + kk < g.us.length ∧ (∀ h : a' + 1 + kk < g.us.length, CSim ρ g.us[a' + 1 + kk] (x.l[kk]'(by rw [← HMM.out]; exact hkm))) := by
    obtain ⟨x', hx', ht⟩ := hSU.ok.sim.th a' j HAJ.out
    obtain rfl : x' = x := Option.some.inj (hx'.symm.trans HX.out)
    have hf := ht.fit
    have := hSU.hg.nx
    have := hSU.hg.ul
    have := HMM.out
    refine ⟨by omega, fun h => ?_⟩
    have h2 := ht.f kk (by omega)
    rw [gt_get h]
    exact h2
  obtain ⟨hf1, hf2⟩ := hfit
  obtain ⟨cp, cn⟩ : Unit × Unit := ((), ())
  obtain ⟨C1, hC1⟩ : ∃ C1 : C, C1 = g.us[a' + 1 + kk] := ⟨_, rfl⟩
  have hcs := hf2 hf1
  rw [← hC1] at hcs
  obtain ⟨C2, hC2⟩ : ∃ C2 : C, C2 = (x.l[kk]'(by rw [← HMM.out]; exact hkm)) := ⟨_, rfl⟩
  rw [← hC2] at hcs
  have hbA : Below U.heap.size U (U.alloc (.cells #[.bool false, .int .i64 0] 49)).drew := (balloc (Below.refl _ _) _).drew
  have hbD : Below U.heap.size U U.drew := (Below.refl _ _).drew
  have G1 : Hid (Calls Try.prog 14 #[.pointer (some ⟨g.hb, 0, none⟩), .int .i64 a', .int .i64 kk] U.drew fun e w9 => e = .returned (.agg #[.bool C1.p, .int .i64 C1.n]) ∧ Below U.heap.size U w9) :=
    (get_any g U.drew (hSU.below hbD).hg a' kk hf1).mono (by rintro e w9 ⟨rfl, hb⟩; rw [hC1]; exact ⟨rfl, hbD.trans hb⟩)
  have G2 : Hid (Calls Try.prog 14 #[.pointer (some ⟨g.hb, 0, none⟩), .int .i64 a', .int .i64 kk] (U.alloc (.cells #[.bool false, .int .i64 0] 49)).drew fun e w9 => e = .returned (.agg #[.bool C1.p, .int .i64 C1.n]) ∧ Below U.heap.size U w9 ∧ w9.heap[U.heap.size]? = some (.cells #[.bool false, .int .i64 0] 49 (0, 0))) :=
    (get_any g _ (hSU.below hbA).hg a' kk hf1).mono (by
      rintro e w9 ⟨rfl, hb⟩
      rw [hC1]
      refine ⟨rfl, hbA.trans (hb.mono hbA.size), ?_⟩
      rw [hb.block U.heap.size (by simp [World.size_drew])]
      exact heap_alloc_new U _)
  have HCS := Lib.hid hcs
  have HC2 := Lib.hid hC2
  have HU := Lib.hid hU
  have HBU := Lib.hid hbU
  have HSU := Lib.hid hSU
  have HT := Lib.hid hT
  have d0 : U.cell? ⟨wb, 0, none⟩ = some (.pointer (some ⟨g.hb, 0, none⟩)) := blk_cell hSU.hw 0
  have d2 : U.cell? ⟨wb, 2, none⟩ = some (.slice (some ⟨pb, 0, none⟩) p.length pc) := by
    have h : U.cell? ⟨wb, 2, none⟩ = some pv := blk_cell hSU.hw 2
    rw [HPV.out] at h
    exact h
  have d4 := hcell _ _ _ z1
  have l0 := lt_cell d0
  have l1 := lt_cell d4
  clear hU hbU hSU hT hcell hlV hlA c0 c1 c2 c3 z0 z1 z2 z3 x0 x2 x3 r1 hfd lwb lqb lrb hf1 hf2 hC1 hC2 hcs hbA hbD
  go_upto_region 27 with (first | (go_at_call 8; refine PK.out.mono ?_; rintro e w7 ⟨rfl, rfl⟩))
  obtain ⟨U, hUU⟩ : ∃ U : World, U = w7 := ⟨_, rfl⟩
  subst hUU
  go_cut [11] from 202 to 216 (fun v wx => ∃ A : Nat, v = .pointer (some ⟨A, 0, none⟩) ∧ U.heap.size ≤ A ∧ Below U.heap.size U wx ∧ wx.heap[A]? = some (.cells #[.bool C1.p, .int .i64 C1.n] 49 (0, 0)))
  case first =>
    go_region_with (first
      | (go_at_call 14; refine G1.out.mono ?_; rintro e w9 ⟨rfl, hb9⟩)
      | (go_at_call 14; refine G2.out.mono ?_; rintro e w9 ⟨rfl, hb9, hx9⟩; have e0 : w9.cell? ⟨U.heap.size, 0, none⟩ = some (.bool false) := blk_cell hx9 0; have e1 : w9.cell? ⟨U.heap.size, 1, none⟩ = some (.int .i64 0) := blk_cell hx9 1; have e2 := blk_free hx9 0; have e3 := blk_free hx9 1))
    all_goals
      go_wp2_with fail
      go_meet
      first
        | exact got1 C1 hb9
        | exact got2 C1 hb9 hx9
  case rest =>
  obtain ⟨A, rfl, hAU, hbR, hxA⟩ := hcut
  obtain ⟨R, hR⟩ : ∃ R : World, R = wc := ⟨_, rfl⟩
  subst hR
  have hbR1 : Below U.heap.size U R.drew := hbR.drew
  have hSR := HSU.out.below hbR1
  have hcx : ∀ (b i : Nat) (v : Value), U.cell? ⟨b, i, none⟩ = some v → R.drew.cell? ⟨b, i, none⟩ = some v := fun b i v h => (hbR1.cell (p := ⟨b, i, none⟩) (lt_cell h)).trans h
  have a0 : R.drew.cell? ⟨A, 0, none⟩ = some (.bool C1.p) := blk_cell hxA 0
  have a1 : R.drew.cell? ⟨A, 1, none⟩ = some (.int .i64 C1.n) := blk_cell hxA 1
  have e2 : R.drew.cell? ⟨V.heap.size, 2, none⟩ = some (.slice (some ⟨x.b, 0, none⟩) m m) := hcx _ _ _ (blk_cell HT.out 2)
  have hxc := hSR.hr.th j x HX.out
  have hij : kk < x.l.length := by rw [← HMM.out]; exact hkm
  have d5 := hxc.get0 hij
  have d6 := hxc.get1 hij
  rw [← HC2.out] at d5 d6
  have hxj := index_cell x.b m m kk hkm
  have hmo : Calls Try.prog 15 #[.pointer (some ⟨wb, 0, none⟩), .agg #[.bool C1.p, .int .i64 C1.n], .agg #[.bool C2.p, .int .i64 C2.n]] R.drew (MorePost wb (.pointer (some ⟨g.hb, 0, none⟩)) (.pointer (some ⟨r.rb, 0, none⟩)) pv qv p q C1 C2 R.drew) :=
    more_any R.drew wb _ _ pv qv p q C1 C2 hSR.hw hSR.hp hSR.hq (fun g h => (hSR.pu g h).2.2.1) (by omega) (by rw [← hSR.ok.rs.len]; omega)
  have HMO := Lib.hid hmo
  have HSR := Lib.hid hSR
  have HBR := Lib.hid hbR1
  clear hbR hbR1 hSR hxc hmo hcx hxA d0 d2 d4 hij
  go_upto_region 28 with fail
  refine wp_region_still_tail 7 (by kernel_rfl) (by kernel_rfl) ?_
  simp only [List.take_succ_cons, List.take_zero, List.drop_succ_cons, List.drop_zero]
  change wpStill _ _ R.drew _ _ _
  iterate 7 still_step
  refine wpStill_nil ?_
  change wpList _ _ _ _ _ R.drew
  clear a0 a1 e2 d5 d6
  go_wp2_with (first | (go_at_call 15; refine HMO.out.mono ?_; rintro e w7 hm7; obtain ⟨rfl, pv2, qv2, hst7, hb7⟩ := st_more HSR.out HCS.out hm7; have HST7 := Lib.hid hst7; have HB7 := Lib.hid hb7; clear hm7 hst7 hb7))
  go_ret
  have hB := H.out.base
  have k1 := HBV.out.size
  have k2 := HBU.out.size
  have hA : Below B w R.drew := ((HUP.out.trans (HBV.out.mono hB)).trans (HBU.out.mono (Nat.le_trans hB k1))).trans (HBR.out.mono (Nat.le_trans hB (Nat.le_trans k1 k2)))
  exact .mk ρ _ _ pv2 qv2 _ _ rfl HST7.out (by rw [List.length_append]; exact Nat.le_refl _) (Nat.le_succ _) (hA.trans HB7.out)
end Go.Proofs.Ytidjfmkclabagaa
