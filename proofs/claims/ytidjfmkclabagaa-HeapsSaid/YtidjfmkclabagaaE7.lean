/-
  Proved: the law's step where a root is dropped. Condition: rows of at most 3·10^12 cells.
-/
import Derived.Test.YtidjfmkclabagaaE6
set_option linter.unusedSimpArgs false
set_option linter.unusedVariables false
namespace Go.Proofs.Ytidjfmkclabagaa
open Go.RowKit

/-- a row has lost a cell, into a new row -/
structure Lost (W wx : World) (wb : Nat) (v' : Value) (l' : List C) : Prop where
  own : Rw wx v' l'
  at' : ∃ g, v'.ownBlock = some g ∧ W.heap.size ≤ g
  keep : Keeps (· = wb) W wx
theorem lost_out {W w1 w2 : World} {wb k i : Nat} {row : Array Value} {l : List C} (hw : W.heap[wb]? = some (.cells row 34 (0, 0))) (hi : i < l.length) {g1 g2 c2 m : Nat}
    (hgr1 : ((W.drew).alloc (.cells #[] 49)).grownBy w1 (some W.heap.size)) (h1 : g1 = W.heap.size ∨ g1 = ((W.drew).alloc (.cells #[] 49)).heap.size) (hgr2 : w1.grownBy w2 (some g1)) (h2 : g2 = g1 ∨ g2 = w1.heap.size) (hm : m = i + (l.length - (i + 1)))
    (hown : w2.ownsRow 0 49 2 (.slice (some ⟨g2, 0, none⟩) m c2) m (cv (l.take i) ++ cv (l.drop (i + 1)))) :
    ∃ v', Lost W (w2.setCell ⟨wb, k, none⟩ (.slice (some ⟨g2, 0, none⟩) m c2)) wb v' (l.take i ++ l.drop (i + 1)) ∧ (w2.setCell ⟨wb, k, none⟩ (.slice (some ⟨g2, 0, none⟩) m c2)).heap[wb]? = some (.cells (row.setIfInBounds k v') 34 (0, 0)) := by
  have hlt := lt_of_block hw
  have s0 : ((W.drew).alloc (.cells #[] 49)).heap.size = W.heap.size + 1 := by simp [World.size_drew]
  rw [s0] at h1
  have s1 : W.heap.size + 1 ≤ w1.heap.size := by have := hgr1.size; simp [World.size_drew] at this; exact this
  have hk1 : Keeps (· = wb) W w1 := (((Keeps.refl _ W).drew 1).alloc _).grown hgr1 (fun g e => .inr (by cases e; exact Nat.le_refl _))
  have hk2 : Keeps (· = wb) W w2 := hk1.grown hgr2 (fun g e => .inr (by cases e; omega))
  have hw2 : w2.heap[wb]? = some (.cells row 34 (0, 0)) := by
    rw [hgr2.block wb (by omega) (by intro e; have := Option.some.inj e; omega), hgr1.block wb (by simp [World.size_drew]; omega) (by intro e; have := Option.some.inj e; omega)]
    exact blk_alloc (show W.drew.heap[wb]? = _ from hw) _
  refine ⟨_, ⟨?_, ⟨g2, rfl, by omega⟩, hk2.set (.inl rfl) _ _⟩, blk_set hw2 k _⟩
  have e : (l.take i ++ l.drop (i + 1)).length = m := by rw [List.length_append, List.length_take, List.length_drop]; omega
  have h1 : w2.ownsRow 0 49 2 (.slice (some ⟨g2, 0, none⟩) m c2) (l.take i ++ l.drop (i + 1)).length (cv (l.take i ++ l.drop (i + 1))) := by
    rw [cv_append, e]; exact hown
  refine ownsRow_setCell_other h1 ?_ _
  intro e
  have e' : g2 = wb := by simpa [Value.ownBlock] using e
  omega
theorem Rw.grown {w w' : World} {v : Value} {l : List C} {row : Option Nat} (h : Rw w v l) (hg : w.grownBy w' row) (hne : ∀ g, v.ownBlock = some g → row ≠ some g) : Rw w' v l :=
  h.keep (S := fun b => row = some b) ((Keeps.refl _ w).grown hg (fun g e => .inl e)) hne
theorem empty_row (w : World) : (w.alloc (.cells #[] 49)).ownsRow 0 49 2 (.slice (some ⟨w.heap.size, 0, none⟩) 0 0) 0 [] := World.ownsRow_made w #[] 0 (Nat.zero_le _) (Nat.zero_le _) rfl
set_option maxRecDepth 100000 in
set_option maxHeartbeats 8000000 in
theorem step_drop (B : Nat) (ρ : Nat → Nat → Prop) (w : World) (wb : Nat) (g : Hp) (r : Rf) (pv qv : Value) (p q : List C) (h : St B ρ w wb g r pv qv p q) (hpl : p.length ≤ 3000000000000) (hp0 : 0 < p.length) (a b c : Int) (ha : I64 a) (lv : Value) (l : List Int) (hl : IntsAt B w lv l) :
    Calls Try.prog 5 #[.pointer (some ⟨wb, 0, none⟩), .agg #[.int .i64 4, .int .i64 a, .int .i64 b, .int .i64 c, lv]] w (StepPost B wb r p w) := by
  obtain ⟨lo, lc, hlv, hcell⟩ := hl.v
  obtain ⟨ln, hln⟩ : ∃ ln, ln = l.length := ⟨_, rfl⟩
  rw [← hln] at hlv
  have hbx := boxed h 4 a b c lv
  obtain ⟨W, hW⟩ : ∃ W, W = w.alloc (.cells (opRow 4 a b c lv) 38) := ⟨_, rfl⟩
  rw [← hW] at hbx
  obtain ⟨hS, hup, _, x0, x1, x2, x3, x4⟩ := hbx
  have hq0 : 0 < q.length := by rw [← h.ok.rs.len]; exact hp0
  obtain ⟨pb, pc, rfl, _, _⟩ := h.hp.form hp0
  obtain ⟨qb, qc, rfl, _, _⟩ := h.hq.form hq0
  have hpc : p.length ≤ pc := by
    rcases h.hp.2 with ⟨h0, _⟩ | ⟨_, _, _, h0, _, _, h1, _⟩
    · cases h0
    · cases h0; exact h1
  have hqc : q.length ≤ qc := by
    rcases h.hq.2 with ⟨h0, _⟩ | ⟨_, _, _, h0, _, _, h1, _⟩
    · cases h0
    · cases h0; exact h1
  have PI := Lib.hid (pick_any a p.length W.drew ha.1 ha.2 (by omega) (by omega))
  have hr := pickD_range a p.length (by omega)
  obtain ⟨i, hi⟩ : ∃ i : Nat, pickD a p.length = (i : Int) := ⟨(pickD a p.length).toNat, by omega⟩
  rw [hi] at PI hr
  have hir : i < p.length := by omega
  have hiq : i < q.length := by rw [← h.ok.rs.len]; exact hir
  have hI : I64 (i : Int) := by unfold I64; omega
  have hI1 : I64 ((i : Int) + 1) := by unfold I64; omega
  have HQE : Hid (p.length = q.length) := Lib.hid h.ok.rs.len
  have hwr : IntKind.i64.wrap ((i : Int) + 1) = (i : Int) + 1 := wrap_small _ (by omega) (by omega)
  have s1 := head_slice pb p.length pc i hir hpc
  have s2 := tail_slice pb p.length pc i hir hpc
  have s3 := head_slice qb q.length qc i hiq hqc
  have s4 := tail_slice qb q.length qc i hiq hqc
  have hne0 : ¬ ((p.length : Int) = 0) := by omega
  have c2 : W.cell? ⟨wb, 2, none⟩ = some (.slice (some ⟨pb, 0, none⟩) p.length pc) := blk_cell hS.hw 2
  have H := Lib.hid hS
  have HUP := Lib.hid hup
  have y0 : W.drew.cell? ⟨w.heap.size, 0, none⟩ = some (.int .i64 4) := x0
  have y1 : W.drew.cell? ⟨w.heap.size, 1, none⟩ = some (.int .i64 a) := x1
  have y2 : W.drew.cell? ⟨wb, 2, none⟩ = some (.slice (some ⟨pb, 0, none⟩) p.length pc) := c2
  subst hlv
  clear h hS hup hl hln hcell hr hi ha hpc hqc
  go_enter Try.func5, Try.ntmps5
  go_upto_region 1 with fail
  rw [← hW]
  have HWW := Lib.hid hW
  clear hW
  go_upto_region 11 with fail
  refine wp_region_still_lit (by kernel_rfl) (by kernel_rfl) ?_
  change wpStill _ _ W.drew _ _ _
  still_step
  still_step
  still_step
  still_step
  still_step
  still_step
  still_step
  still_call PI.out
  still_step
  refine wpStill_nil ?_
  go_upto_region 14 with fail
  obtain ⟨V, hV⟩ : ∃ V : World, V = W.drew := ⟨_, rfl⟩
  have hbV : Below W.heap.size W V := by rw [hV]; exact below_drewN (Below.refl _ _) 1
  rw [← hV]
  have HV := Lib.hid hV
  have hSV := H.out.below hbV
  have HBV := Lib.hid hbV
  have HSV := Lib.hid hSV
  have HWV := Lib.hid hSV.hw
  have HPV := Lib.hid hSV.hp
  have e2 : V.cell? ⟨wb, 2, none⟩ = some (.slice (some ⟨pb, 0, none⟩) p.length pc) := blk_cell hSV.hw 2
  have f2 := blk_free hSV.hw 2
  have lV := lt_of_block hSV.hw
  have lp : pb < V.heap.size := hSV.hp.lt rfl
  have HPA : Hid (Rw (V.drew.alloc (.cells #[] 49)) (.slice (some ⟨pb, 0, none⟩) p.length pc) p) := Lib.hid (hSV.hp.keep (((Keeps.refl (fun _ => False) V).drew 1).alloc _) (fun _ _ h => h))
  have HE : Hid ((V.drew.alloc (.cells #[] 49)).ownsRow 0 49 2 (.slice (some ⟨V.heap.size, 0, none⟩) 0 0) 0 []) := Lib.hid (empty_row V.drew)
  obtain ⟨i49, hi, hz0, hz1, hz2⟩ := info_parts info49
  have HI := Lib.hid hi
  clear hV hbV hSV hi c2 y0 y1 y2 x0 x1 x2 x3
  go_cut [] from 79 to 97 (fun wx => ∃ pv', Lost V wx wb pv' (p.take i ++ p.drop (i + 1)) ∧ wx.heap[wb]? = some (.cells #[.pointer (some ⟨g.hb, 0, none⟩), .pointer (some ⟨r.rb, 0, none⟩), pv', .slice (some ⟨qb, 0, none⟩) q.length qc] 34 (0, 0)))
  case first =>
    go_region_law (first
      | (refine step_app (by rfl) _ _ 32 (by rfl) 0 49 i49 _ 2 16 Try.underlying32 HI.out hz0 hz1 hz2 rfl (by omega) V.heap.size 0 0 [] (by rfl) HE.out ⟨pb, 0, none⟩ i pc (cv (p.take i)) (by rfl) (by rw [cv_len, List.length_take]; omega) (head_news HPA.out i) (cv_one _) (by unfold maxLen; omega) (by omega) (Nat.zero_le _) ?_; intro g1 cap1 w1 hown1 hgr1 hat1 hlt1; have HO1 : Hid (w1.ownsRow 0 49 2 (.slice (some ⟨g1, 0, none⟩) i cap1) i (cv (p.take i))) := (by rw [Nat.zero_add, List.nil_append] at hown1; exact hown1); have HG1 := Lib.hid hgr1; have HA1 := Lib.hid hat1; have hw1 : w1.heap[wb]? = some (.cells #[.pointer (some ⟨g.hb, 0, none⟩), .pointer (some ⟨r.rb, 0, none⟩), .slice (some ⟨pb, 0, none⟩) p.length pc, .slice (some ⟨qb, 0, none⟩) q.length qc] 34 (0, 0)) := (by rw [hgr1.block wb (by simp [World.size_drew]; omega) (by intro e; have := Option.some.inj e; omega)]; exact blk_alloc (show V.drew.heap[wb]? = _ from HWV.out) _); have HP1 : Hid (Rw w1 (.slice (some ⟨pb, 0, none⟩) p.length pc) p) := (HPA.out.grown hgr1 (by intro gg e e2; have := Option.some.inj e; have := Option.some.inj e2; simp at *; omega)); have c1' : w1.cell? ⟨wb, 2, none⟩ = some (.slice (some ⟨pb, 0, none⟩) p.length pc) := blk_cell hw1 2; have HW1 := Lib.hid hw1; clear hown1 hgr1 hat1 hw1)
      | (refine step_app (by rfl) _ _ 32 (by rfl) 0 49 i49 _ 2 16 Try.underlying32 HI.out hz0 hz1 hz2 rfl (by omega) g1 i cap1 (cv (p.take i)) (by rfl) HO1.out (tailAt pb pc i) (p.length - (i + 1)) (pc - (i + 1)) (cv (p.drop (i + 1))) (by rfl) (by rw [cv_len, List.length_drop]) (tail_news HP1.out i hir) (cv_one _) (by unfold maxLen; omega) (by omega) (Nat.zero_le _) ?_; intro g2 cap2 w2 hown2 hgr2 hat2 hlt2; have hw2 : w2.heap[wb]? = some (.cells #[.pointer (some ⟨g.hb, 0, none⟩), .pointer (some ⟨r.rb, 0, none⟩), .slice (some ⟨pb, 0, none⟩) p.length pc, .slice (some ⟨qb, 0, none⟩) q.length qc] 34 (0, 0)) := (by rw [hgr2.block wb (by have := HG1.out.size; simp [World.size_drew] at this; omega) (by intro e; have := Option.some.inj e; have := HA1.out; simp [World.size_drew] at this; omega)]; exact HW1.out); have c2' : w2.cell? ⟨wb, 2, none⟩ = some (.slice (some ⟨pb, 0, none⟩) p.length pc) := blk_cell hw2 2; have f2' := blk_free hw2 2; have HO2 := Lib.hid hown2; have HG2 := Lib.hid hgr2; have HA2 := Lib.hid hat2; clear hown2 hgr2 hat2 hw2))
    all_goals
      go_wp2_with fail
      go_meet
      exact lost_out HWV.out hir HG1.out HA1.out HG2.out HA2.out rfl HO2.out
  case rest =>
  obtain ⟨pv', hlo, hw3⟩ := hcut
  obtain ⟨V2, hV2⟩ : ∃ V2 : World, V2 = wc := ⟨_, rfl⟩
  subst hV2
  have hqV : Rw V2 (.slice (some ⟨qb, 0, none⟩) q.length qc) q := HSV.out.hq.keep hlo.keep (fun g' e e2 => HSV.out.hq.ne HWV.out (by decide) (e.trans (by rw [e2])))
  have e3 : V2.cell? ⟨wb, 3, none⟩ = some (.slice (some ⟨qb, 0, none⟩) q.length qc) := blk_cell hw3 3
  have f3 := blk_free hw3 3
  have lV2 := lt_of_block hw3
  have lq : qb < V2.heap.size := hqV.lt rfl
  have HQA : Hid (Rw (V2.drew.alloc (.cells #[] 49)) (.slice (some ⟨qb, 0, none⟩) q.length qc) q) := Lib.hid (hqV.keep (((Keeps.refl (fun _ => False) V2).drew 1).alloc _) (fun _ _ h => h))
  have HE2 : Hid ((V2.drew.alloc (.cells #[] 49)).ownsRow 0 49 2 (.slice (some ⟨V2.heap.size, 0, none⟩) 0 0) 0 []) := Lib.hid (empty_row V2.drew)
  have HLO := Lib.hid hlo
  have HWV2 := Lib.hid hw3
  have hql : q.length ≤ 3000000000000 := by rw [← HQE.out]; exact hpl
  clear hlo hw3 hqV e2 f2
  go_upto_region 15 with fail
  go_cut [] from 98 to 116 (fun wx => ∃ qv', Lost V2 wx wb qv' (q.take i ++ q.drop (i + 1)) ∧ wx.heap[wb]? = some (.cells #[.pointer (some ⟨g.hb, 0, none⟩), .pointer (some ⟨r.rb, 0, none⟩), pv', qv'] 34 (0, 0)))
  case first =>
    go_region_law (first
      | (refine step_app (by rfl) _ _ 32 (by rfl) 0 49 i49 _ 2 16 Try.underlying32 HI.out hz0 hz1 hz2 rfl (by omega) V2.heap.size 0 0 [] (by rfl) HE2.out ⟨qb, 0, none⟩ i qc (cv (q.take i)) (by rfl) (by rw [cv_len, List.length_take]; omega) (head_news HQA.out i) (cv_one _) (by unfold maxLen; omega) (by omega) (Nat.zero_le _) ?_; intro g1 cap1 w1 hown1 hgr1 hat1 hlt1; have HO1 : Hid (w1.ownsRow 0 49 2 (.slice (some ⟨g1, 0, none⟩) i cap1) i (cv (q.take i))) := (by rw [Nat.zero_add, List.nil_append] at hown1; exact hown1); have HG1 := Lib.hid hgr1; have HA1 := Lib.hid hat1; have hw1 : w1.heap[wb]? = some (.cells #[.pointer (some ⟨g.hb, 0, none⟩), .pointer (some ⟨r.rb, 0, none⟩), pv', .slice (some ⟨qb, 0, none⟩) q.length qc] 34 (0, 0)) := (by rw [hgr1.block wb (by simp [World.size_drew]; omega) (by intro e; have := Option.some.inj e; omega)]; exact blk_alloc (show V2.drew.heap[wb]? = _ from HWV2.out) _); have HQ1 : Hid (Rw w1 (.slice (some ⟨qb, 0, none⟩) q.length qc) q) := (HQA.out.grown hgr1 (by intro gg e e2; have := Option.some.inj e; have := Option.some.inj e2; simp at *; omega)); have d1' : w1.cell? ⟨wb, 3, none⟩ = some (.slice (some ⟨qb, 0, none⟩) q.length qc) := blk_cell hw1 3; have HW1 := Lib.hid hw1; clear hown1 hgr1 hat1 hw1)
      | (refine step_app (by rfl) _ _ 32 (by rfl) 0 49 i49 _ 2 16 Try.underlying32 HI.out hz0 hz1 hz2 rfl (by omega) g1 i cap1 (cv (q.take i)) (by rfl) HO1.out (tailAt qb qc i) (q.length - (i + 1)) (qc - (i + 1)) (cv (q.drop (i + 1))) (by rfl) (by rw [cv_len, List.length_drop]) (tail_news HQ1.out i hiq) (cv_one _) (by unfold maxLen; omega) (by omega) (Nat.zero_le _) ?_; intro g2 cap2 w2 hown2 hgr2 hat2 hlt2; have hw2 : w2.heap[wb]? = some (.cells #[.pointer (some ⟨g.hb, 0, none⟩), .pointer (some ⟨r.rb, 0, none⟩), pv', .slice (some ⟨qb, 0, none⟩) q.length qc] 34 (0, 0)) := (by rw [hgr2.block wb (by have := HG1.out.size; simp [World.size_drew] at this; omega) (by intro e; have := Option.some.inj e; have := HA1.out; simp [World.size_drew] at this; omega)]; exact HW1.out); have d2' : w2.cell? ⟨wb, 3, none⟩ = some (.slice (some ⟨qb, 0, none⟩) q.length qc) := blk_cell hw2 3; have f2' := blk_free hw2 3; have HO2 := Lib.hid hown2; have HG2 := Lib.hid hgr2; have HA2 := Lib.hid hat2; clear hown2 hgr2 hat2 hw2))
    all_goals
      go_wp2_with fail
      go_meet
      exact lost_out HWV2.out hiq HG1.out HA1.out HG2.out HA2.out rfl HO2.out
  case rest =>
  obtain ⟨qv', hlo2, hw4⟩ := hcut
  obtain ⟨V3, hV3⟩ : ∃ V3 : World, V3 = wc := ⟨_, rfl⟩
  subst hV3
  have FIN : StepPost B wb r p w (.returned (.bool true)) V3 := by
    have hlo := HLO.out
    have hS := HSV.out
    obtain ⟨g1, a1, a2⟩ := hlo.at'
    obtain ⟨g2, b1, b2⟩ := hlo2.at'
    have l1 := hlo.own.lt a1
    have l2 := hlo.keep.size
    have hp' : Rw V3 pv' (p.take i ++ p.drop (i + 1)) := hlo.own.keep hlo2.keep (fun g' e e2 => by
      have := Option.some.inj (a1.symm.trans e)
      omega)
    obtain ⟨c1, c2⟩ := hS.rows (rsim_out hS.ok.rs i) hw4 hp' hlo2.own (.inr ⟨g1, a1, a2⟩) (.inr ⟨g2, b1, by omega⟩) (fun g' e e2 => by
      have := Option.some.inj (a1.symm.trans e)
      have := Option.some.inj (b1.symm.trans e2)
      omega) ((hlo.keep.trans hlo2.keep).mono (fun x e => .inl e))
    refine .mk ρ g r pv' qv' _ _ rfl c1 ?_ (Nat.le_succ _) ((HUP.out.trans (HBV.out.mono H.out.base)).trans c2)
    rw [List.length_append, List.length_take, List.length_drop]
    omega
  clear hlo2 hw4
  go_wp2_with fail
  go_ret
  exact FIN
end Go.Proofs.Ytidjfmkclabagaa
