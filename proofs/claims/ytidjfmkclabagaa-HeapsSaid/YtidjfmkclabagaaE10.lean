/-
  Proved: the law's step where a field is set. Condition: rows of at most 3·10^12 cells.
-/
import Derived.Test.YtidjfmkclabagaaE9
set_option linter.unusedSimpArgs false
set_option linter.unusedVariables false
namespace Go.Proofs.Ytidjfmkclabagaa
open Go.RowKit

theorem lt_cell {w : World} {b i : Nat} {v : Value} (h : w.cell? ⟨b, i, none⟩ = some v) : b < w.heap.size := World.block_lt_of_cell? w _ h
set_option maxRecDepth 100000 in
set_option maxHeartbeats 8000000 in
theorem step_set (B : Nat) (ρ : Nat → Nat → Prop) (w : World) (wb : Nat) (g : Hp) (r : Rf) (pv qv : Value) (p q : List C) (h : St B ρ w wb g r pv qv p q) (hpl : p.length ≤ 3000000000000) (a b c : Int) (ha : I64 a) (hb : I64 b) (hc : I64 c) (lv : Value) (l : List Int) (hl : IntsAt B w lv l)
    (i : Nat) (hi : i < p.length) (hiq : i < q.length) (hpi : pickD a p.length = (i : Int)) (hno : p[i].p = true) (a' j : Nat) (ha' : p[i].n = (a' : Int)) (hj : q[i].n = (j : Int)) (haj : ρ a' j) (x : Th) (hx : r.L j = some x) (m : Nat) (hm : m = x.l.length) (hm0 : 0 < m) (kk : Nat) (hkk : pickD b m = (kk : Int)) (hkm : kk < m) :
    Calls Try.prog 5 #[.pointer (some ⟨wb, 0, none⟩), .agg #[.int .i64 2, .int .i64 a, .int .i64 b, .int .i64 c, lv]] w (StepPost B wb r p w) := by
  obtain ⟨lo, lc, hlv, hcell⟩ := hl.v
  obtain ⟨ln, hln⟩ : ∃ ln, ln = l.length := ⟨_, rfl⟩
  rw [← hln] at hlv
  have hbx := boxed h 2 a b c lv
  obtain ⟨W, hW⟩ : ∃ W, W = w.alloc (.cells (opRow 2 a b c lv) 38) := ⟨_, rfl⟩
  rw [← hW] at hbx
  obtain ⟨hS, hup, _, x0, x1, x2, x3, x4⟩ := hbx
  obtain ⟨pb, pc, qb, qc, hpv, hqv, c0, c1, c2, c3, z0, z1, z2, z3, _⟩ := hS.root i hi hiq
  rw [hno] at z0
  rw [hj] at z3
  rw [ha'] at z1
  obtain ⟨b0, r1, hb0, hlk⟩ := look_any hS.hr hx
  rw [← hm] at hlk
  have HMM := Lib.hid hm
  have HX := Lib.hid hx
  have HPV := Lib.hid hpv
  have HAJ := Lib.hid haj
  have HKK := Lib.hid hkk
  have hlkn : ∀ n, (Instr.lookup 29 (.map (some b0)) (.int .i64 (j : Int)) false).run Try.prog (W.drewN n) = .ok (.agg #[.int .i64 x.k, .int .i64 x.t, .slice (some ⟨x.b, 0, none⟩) m m]) (W.drewN n) := fun n => hlk _ rfl
  have hfd : ∀ W' : World, (Instr.field 51 (.agg #[.int .i64 x.k, .int .i64 x.t, .slice (some ⟨x.b, 0, none⟩) m m]) 2).run Try.prog W' = .ok (.slice (some ⟨x.b, 0, none⟩) m m) W' := fun W' => field2 _ _ _ W'
  have PI := Lib.hid (pick_any a p.length W.drew ha.1 ha.2 (by omega) (by omega))
  rw [hpi] at PI
  have H := Lib.hid hS
  have HUP := Lib.hid hup
  have hne0 : ¬ ((p.length : Int) = 0) := by omega
  have hmz : ¬ ((m : Int) = 0) := by omega
  have ux := index_cell pb p.length pc i hi
  have vx := index_cell qb p.length qc i hi
  have y0 : W.drew.cell? ⟨w.heap.size, 0, none⟩ = some (.int .i64 2) := x0
  have y1 : W.drew.cell? ⟨w.heap.size, 1, none⟩ = some (.int .i64 a) := x1
  have y2 : W.drew.cell? ⟨wb, 2, none⟩ = some (.slice (some ⟨pb, 0, none⟩) p.length pc) := c2
  subst hlv
  clear h hS hup hl hln hcell hpi hno hpv hqv hj ha' hm hx haj hkk
  go_enter Try.func5, Try.ntmps5
  go_upto_region 1 with fail
  rw [← hW]
  have HWW := Lib.hid hW
  clear hW
  go_upto_region 11 with fail
  refine wp_region_still_lit (by kernel_rfl) (by kernel_rfl) ?_
  change wpStill _ _ W.drew _ _ _
  iterate 7 still_step
  still_call PI.out
  still_step
  refine wpStill_nil ?_
  go_upto_region 17 with fail
  go_quiet (fail)
  obtain ⟨V, hV⟩ : ∃ V : World, V = W.drew.drewN nq := ⟨_, rfl⟩
  rw [← hV]
  have hbV : Below W.heap.size W V := by rw [hV]; exact below_drewN (below_drewN (Below.refl _ _) 1) _
  have hVW : ∀ b : Nat, V.heap[b]? = W.heap[b]? := fun b => by rw [hV]; rfl
  have e0 : ∀ p : Addr, V.cell? p = W.cell? p := fun p => by rw [hV]; rfl
  rw [← e0] at c0 c1 c2 c3 z0 z1 z2 z3 x0 x2 x3 r1
  have hlV : (Instr.lookup 29 (.map (some b0)) (.int .i64 (j : Int)) false).run Try.prog V.drew = .ok (.agg #[.int .i64 x.k, .int .i64 x.t, .slice (some ⟨x.b, 0, none⟩) m m]) V.drew := hlk _ (hVW b0)
  have hlA : (Instr.lookup 29 (.map (some b0)) (.int .i64 (j : Int)) false).run Try.prog (V.alloc (.cells #[.int .i64 0, .int .i64 0, .slice none 0 0] 51)).drew = .ok (.agg #[.int .i64 x.k, .int .i64 x.t, .slice (some ⟨x.b, 0, none⟩) m m]) (V.alloc (.cells #[.int .i64 0, .int .i64 0, .slice none 0 0] 51)).drew := hlk _ (by
    rw [← hVW]
    cases hb : V.heap[b0]? with
    | none => rw [hVW, Array.getElem?_eq_none_iff] at hb; omega
    | some o => exact blk_alloc hb _)
  have lwb : wb < V.heap.size := lt_cell c1
  have lqb : qb < V.heap.size := lt_cell z3
  have lrb : r.rb < V.heap.size := lt_cell r1
  have HV := Lib.hid hV
  have HVW := Lib.hid hVW
  have HBV := Lib.hid hbV
  have HLK := Lib.hid hlk
  clear hV hVW hbV e0 hlk hlkn y0 y1 y2
  go_upto_region 19 with fail
  go_cut [7] from 147 to 163 (fun v wx => v = .pointer (some ⟨V.heap.size, 0, none⟩) ∧ wx = (V.alloc (.cells #[.int .i64 x.k, .int .i64 x.t, .slice (some ⟨x.b, 0, none⟩) m m] 51)).drew)
  case first =>
    go_region
    all_goals
      go_wp2_with fail
      go_meet
      exact ⟨rfl, rfl⟩
  case rest =>
  obtain ⟨rfl, hU⟩ := hcut
  obtain ⟨U, hU2⟩ : ∃ U : World, U = wc := ⟨_, rfl⟩
  subst hU2
  have hbU : Below V.heap.size V U := by rw [hU]; exact (balloc (Below.refl _ _) _).drew
  have hsU : V.heap.size < U.heap.size := by rw [hU]; simp [World.size_drew]
  have hSU := (H.out.below HBV.out).below hbU
  have hT : U.heap[V.heap.size]? = some (.cells #[.int .i64 x.k, .int .i64 x.t, .slice (some ⟨x.b, 0, none⟩) m m] 51 (0, 0)) := by rw [hU]; exact heap_alloc_new V _
  have tt : U.cell? ⟨V.heap.size, 2, none⟩ = some (.slice (some ⟨x.b, 0, none⟩) m m) := blk_cell hT 2
  have hcell : ∀ (b i : Nat) (v : Value), V.cell? ⟨b, i, none⟩ = some v → U.cell? ⟨b, i, none⟩ = some v := fun b i v h => (hbU.cell (p := ⟨b, i, none⟩) (lt_cell h)).trans h
  have u0 := hcell _ _ _ x0
  have u2 := hcell _ _ _ x2
  have u3 := hcell _ _ _ x3
  have PK : Hid (Calls Try.prog 8 #[.int .i64 b, .int .i64 m] U fun e w' => e = .returned (.int .i64 (kk : Int)) ∧ w' = U) := by
    have hl := hSU.hg.sz
    have hnx := hSU.hg.nx
    obtain ⟨x', hx', ht⟩ := hSU.ok.sim.th a' j HAJ.out
    obtain rfl : x' = x := Option.some.inj (hx'.symm.trans HX.out)
    have hf := ht.fit
    have h := pick_any b m U hb.1 hb.2 (by omega) (by have := HMM.out; omega)
    rw [HKK.out] at h
    exact h
  have PF := Lib.hid (field_any ρ U wb _ _ pv qv p q c hc hSU.hw hSU.hp hSU.hq hSU.ok.rs (by omega))
  have HU := Lib.hid hU
  have HBU := Lib.hid hbU
  have HSU := Lib.hid hSU
  have HT := Lib.hid hT
  have HZ1 := Lib.hid (hcell _ _ _ z1)
  clear hU hbU hSU hT hcell hlV hlA c0 c1 c2 c3 z0 z1 z2 z3 x0 x2 x3 r1 hfd lwb lqb lrb
  go_upto_region 24 with (first | (go_at_call 8; refine PK.out.mono ?_; rintro e w7 ⟨rfl, rfl⟩) | (go_at_call 12; refine PF.out.mono ?_; rintro e w5 ⟨xx, yy, hcs5, rfl, hb5⟩; obtain ⟨x0', x1'⟩ := xx; obtain ⟨y0', y1'⟩ := yy; have HC5 := Lib.hid hcs5; have HB5 := Lib.hid hb5; clear hcs5 hb5))
  obtain ⟨U, hUU⟩ : ∃ U : World, U = w7 := ⟨_, rfl⟩
  subst hUU
  obtain ⟨X, hX⟩ : ∃ X, X = (w5.alloc (.cells #[.bool x0', .int .i64 x1'] 49)).alloc (.cells #[.bool y0', .int .i64 y1'] 49) := ⟨_, rfl⟩
  rw [← hX]
  have hbX : Below U.heap.size U X := by rw [hX]; exact balloc (balloc HB5.out _) _
  have hsX := HSU.out.below hbX
  have hxA : X.heap[w5.heap.size]? = some (.cells #[.bool x0', .int .i64 x1'] 49 (0, 0)) := by rw [hX]; exact blk_alloc (heap_alloc_new w5 _) _
  have hxB : X.heap[w5.heap.size + 1]? = some (.cells #[.bool y0', .int .i64 y1'] 49 (0, 0)) := by
    rw [hX]
    have h := heap_alloc_new (w5.alloc (.cells #[.bool x0', .int .i64 x1'] 49)) (.cells #[.bool y0', .int .i64 y1'] 49)
    rw [World.size_alloc] at h
    exact h
  have hl5 : U.heap.size ≤ w5.heap.size := HB5.out.size
  have hcx : ∀ (b i : Nat) (v : Value), U.cell? ⟨b, i, none⟩ = some v → X.drew.cell? ⟨b, i, none⟩ = some v := fun b i v h => (hbX.cell (p := ⟨b, i, none⟩) (lt_cell h)).trans h
  have d0 : X.drew.cell? ⟨wb, 0, none⟩ = some (.pointer (some ⟨g.hb, 0, none⟩)) := blk_cell hsX.hw 0
  have d2 : X.drew.cell? ⟨wb, 2, none⟩ = some (.slice (some ⟨pb, 0, none⟩) p.length pc) := by
    have h : X.cell? ⟨wb, 2, none⟩ = some pv := blk_cell hsX.hw 2
    rw [HPV.out] at h
    exact h
  have d4 := hcx _ _ _ HZ1.out
  have d1 : X.drew.cell? ⟨w5.heap.size, 0, none⟩ = some (.bool x0') := blk_cell hxA 0
  have d3 : X.drew.cell? ⟨w5.heap.size, 1, none⟩ = some (.int .i64 x1') := blk_cell hxA 1
  have hsXd := hsX.below (below_drewN (Below.refl _ _) 1)
  have hfit : a' + 1 + kk < g.us.length := by
    obtain ⟨x', hx', ht⟩ := hsX.ok.sim.th a' j HAJ.out
    obtain rfl : x' = x := Option.some.inj (hx'.symm.trans HX.out)
    have hf := ht.fit
    have := hsX.hg.nx
    have := hsX.hg.ul
    have := HMM.out
    omega
  have hset : Calls Try.prog 13 #[.pointer (some ⟨g.hb, 0, none⟩), .int .i64 a', .int .i64 kk, .agg #[.bool x0', .int .i64 x1']] X.drew fun e w' => e = .returned (.tuple #[]) ∧ Keeps (· = g.ub) X.drew w' ∧ HpAt w' { g with us := g.us.set (a' + 1 + kk) ⟨x0', x1'⟩ } :=
    set_any g X.drew hsXd.hg a' kk ⟨x0', x1'⟩ hfit
  have HSET := Lib.hid hset
  have HSX := Lib.hid hsXd
  have HXB := Lib.hid hxB
  have HBX := Lib.hid hbX
  have lX : w5.heap.size + 1 < X.heap.size := lt_of_block hxB
  have hu2 : g.ub < U.heap.size := HSU.out.hg.lu
  have HTX : Hid (X.heap[V.heap.size]? = some (.cells #[.int .i64 x.k, .int .i64 x.t, .slice (some ⟨x.b, 0, none⟩) m m] 51 (0, 0))) := Lib.hid ((hbX.block _ hsU).trans HT.out)
  have HUB : Hid (V.heap.size ≠ g.ub) := Lib.hid (by
    have := (H.out.below HBV.out).hg.lu
    omega)
  clear hX hbX hsX hxA hxB hsXd hset hcx tt u0 u2 u3
  go_cut [] from 180 to 194 (fun wx => Keeps (· = g.ub) X.drew wx ∧ HpAt wx { g with us := g.us.set (a' + 1 + kk) ⟨x0', x1'⟩ })
  case first =>
    refine wp_region_still_tail 14 (by kernel_rfl) (by kernel_rfl) ?_
    simp only [List.take_succ_cons, List.take_zero, List.drop_succ_cons, List.drop_zero]
    change wpStill _ _ X.drew _ _ _
    iterate 14 still_step
    refine wpStill_nil ?_
    change wpList _ _ _ _ _ X.drew
    go_wp2_with (first | (go_at_call 13; refine HSET.out.mono ?_; rintro e w9 ⟨rfl, hk9, hg9⟩))
    go_meet
    exact ⟨hk9, hg9⟩
  case rest =>
  obtain ⟨hk9, hg9⟩ := hcut
  obtain ⟨Y, hY⟩ : ∃ Y : World, Y = wc := ⟨_, rfl⟩
  subst hY
  obtain ⟨b1, b2, b3⟩ := HSX.out.prog (hk9.mono fun b e => .inl e)
  have hxB9 : Y.heap[w5.heap.size + 1]? = some (.cells #[.bool y0', .int .i64 y1'] 49 (0, 0)) := hk9.blk (w := X.drew) HXB.out (by omega)
  have hT9 : Y.heap[V.heap.size]? = some (.cells #[.int .i64 x.k, .int .i64 x.t, .slice (some ⟨x.b, 0, none⟩) m m] 51 (0, 0)) := hk9.blk (w := X.drew) HTX.out HUB.out
  have e2 : Y.cell? ⟨V.heap.size, 2, none⟩ = some (.slice (some ⟨x.b, 0, none⟩) m m) := blk_cell hT9 2
  have e3 : Y.cell? ⟨w5.heap.size + 1, 0, none⟩ = some (.bool y0') := blk_cell hxB9 0
  have e4 : Y.cell? ⟨w5.heap.size + 1, 1, none⟩ = some (.int .i64 y1') := blk_cell hxB9 1
  have hxc := b1.th j x HX.out
  have hij : kk < x.l.length := by rw [← HMM.out]; exact hkm
  have d5 := hxc.get0 hij
  have d6 := hxc.get1 hij
  have f5 := hxc.free (kk * 2)
  have f6 := hxc.free (kk * 2 + 1)
  have hxj := index_cell x.b m m kk hkm
  have HFIN := Lib.hid (st_set HSX.out HAJ.out HX.out hij HC5.out hk9 hg9)
  clear b1 b2 b3 hxB9 hT9 hxc hk9 hg9 d0 d1 d2 d3 d4
  go_upto_region 25 with fail
  go_wp2_with fail
  go_ret
  obtain ⟨h1, h2⟩ := HFIN.out
  have hB := H.out.base
  have k1 := HBV.out.size
  have k2 := HBU.out.size
  have hA : Below B w X.drew := ((HUP.out.trans (HBV.out.mono hB)).trans (HBU.out.mono (Nat.le_trans hB k1))).trans ((HBX.out.mono (Nat.le_trans hB (Nat.le_trans k1 k2))).drew)
  exact .mk ρ _ _ pv qv p q rfl h1 (Nat.le_succ _) (Nat.le_succ _) (hA.trans h2)
end Go.Proofs.Ytidjfmkclabagaa
