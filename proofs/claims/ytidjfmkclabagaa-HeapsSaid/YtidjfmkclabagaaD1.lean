/-
  Proved: the contract of the law's more. Condition: rows of at most 4·10^12 cells.
-/
import Derived.Test.YtidjfmkclabagaaB4
set_option linter.unusedSimpArgs false
set_option linter.unusedVariables false
namespace Go.Proofs.Ytidjfmkclabagaa
open Go.RowKit

/-- a row of cells that may grow -/
abbrev Rw (w : World) (v : Value) (l : List C) : Prop := w.ownsRow 0 49 2 v l.length (cv l)
theorem Rw.lt {w : World} {v : Value} {l : List C} (h : Rw w v l) {g : Nat} (hg : v.ownBlock = some g) : g < w.heap.size := by
  rcases h.2 with ⟨rfl, _⟩ | ⟨g', cap, cur, rfl, _, h1, _⟩
  · cases hg
  · obtain rfl : g' = g := by simpa [Value.ownBlock] using hg
    exact lt_of_block h1
theorem Rw.ne {w : World} {v : Value} {l : List C} (h : Rw w v l) {b : Nat} {c : Array Value} {t : TypeId} {f : Nat × Nat} (hb : w.heap[b]? = some (.cells c t f)) (ht : t ≠ 49) : v.ownBlock ≠ some b := by
  intro e
  rcases h.2 with ⟨rfl, _⟩ | ⟨g', cap, cur, rfl, _, h1, _⟩
  · cases e
  · obtain rfl : g' = b := by simpa [Value.ownBlock] using e
    have h2 := (show w.heap[g']? = _ from h1).symm.trans hb
    simp at h2
    exact ht h2.2.1.symm
theorem Rw.ne_map {w : World} {v : Value} {l : List C} (h : Rw w v l) {b n : Nat} {f : Int → Option Value} (hb : MapF w b n f) : v.ownBlock ≠ some b := by
  intro e
  rcases h.2 with ⟨rfl, _⟩ | ⟨g', cap, cur, rfl, _, h1, _⟩
  · cases e
  · obtain rfl : g' = b := by simpa [Value.ownBlock] using e
    exact map_ne hb h1 rfl
theorem Rw.keep {w w' : World} {v : Value} {l : List C} {S : Nat → Prop} (h : Rw w v l) (hk : Keeps S w w') (hn : ∀ g, v.ownBlock = some g → ¬ S g) : Rw w' v l := by
  refine ⟨h.1, ?_⟩
  rcases h.2 with h0 | ⟨g, cap, cur, rfl, hbg, hgg, rest⟩
  · exact .inl h0
  · exact .inr ⟨g, cap, cur, rfl, hbg, hk.blk hgg (hn g rfl), rest⟩
/-- the row as a list of cells in a block -/
theorem Rw.row {w : World} {v : Value} {l : List C} (h : Rw w v l) : ∃ ao cap pb psz, v = .slice ao l.length cap ∧ (0 < l.length → ao = some ⟨pb, 0, none⟩ ∧ v.ownBlock = some pb ∧ RowC w pb psz l) := by
  rcases h.2 with ⟨rfl, h0⟩ | ⟨g, cap, cur, rfl, hB, hg, hc, hm, hs, ht⟩
  · exact ⟨none, 0, 0, 0, by rw [h0], fun h => by omega⟩
  · refine ⟨_, cap, g, cur.size, rfl, fun _ => ⟨rfl, rfl, cur, hg, rfl, ?_⟩⟩
    exact ht
/-- a row has got one cell more -/
structure Grew (W wx : World) (wb : Nat) (v v' : Value) (l : List C) (c : C) : Prop where
  own : Rw wx v' (l ++ [c])
  at' : v.ownBlock = v'.ownBlock ∨ ∃ g, v'.ownBlock = some g ∧ W.heap.size ≤ g
  keep : Keeps (fun b => b = wb ∨ v.ownBlock = some b) W wx
theorem grew_out {W w1 : World} {wb i : Nat} {row : Array Value} {v : Value} {l : List C} {c : C} {g cap : Nat} (hw : W.heap[wb]? = some (.cells row 34 (0, 0))) (hown : Rw W v l)
    (hown1 : w1.ownsRow 0 49 2 (.slice (some ⟨g, 0, none⟩) (l.length + 1) cap) (l.length + 1) (cv l ++ [.bool c.p, .int .i64 c.n]))
    (hgrow : ((W.alloc (.cells #[.bool c.p, .int .i64 c.n] 49)).drew).grownBy w1 v.ownBlock) (hat : v.ownBlock = some g ∨ g = W.heap.size + 1) :
    ∃ v', Grew W (w1.setCell ⟨wb, i, none⟩ (.slice (some ⟨g, 0, none⟩) (l.length + 1) cap)) wb v v' l c ∧ (w1.setCell ⟨wb, i, none⟩ (.slice (some ⟨g, 0, none⟩) (l.length + 1) cap)).heap[wb]? = some (.cells (row.setIfInBounds i v') 34 (0, 0)) := by
  have hne := hown.ne hw (by decide)
  have hlt := lt_of_block hw
  refine ⟨.slice (some ⟨g, 0, none⟩) (l.length + 1) cap, ⟨?_, ?_, ?_⟩, ?_⟩
  · have h1 : w1.ownsRow 0 49 2 (.slice (some ⟨g, 0, none⟩) (l.length + 1) cap) (l ++ [c]).length (cv (l ++ [c])) := by
      rw [cv_append, List.length_append, List.length_singleton]; exact hown1
    have hwg : wb ≠ g := by
      rintro rfl
      rcases hat with h | h
      · exact hne h
      · omega
    refine ownsRow_setCell_other h1 ?_ _
    intro e
    exact hwg (by simpa [Value.ownBlock] using e.symm)
  · rcases hat with h | h
    · exact .inl h
    · exact .inr ⟨g, rfl, by omega⟩
  · have hk : Keeps (fun b => b = wb ∨ v.ownBlock = some b) W (W.alloc (.cells #[.bool c.p, .int .i64 c.n] 49)).drew := ((Keeps.refl _ W).alloc _).drew 1
    exact (hk.grown hgrow (fun g' e => .inl (.inr e))).set (.inl (.inl rfl)) _ _
  · have h1 : w1.heap[wb]? = some (.cells row 34 (0, 0)) := by
      rw [hgrow.block wb (by simp [World.size_drew]; omega) (fun e => hne e.symm)]
      exact blk_alloc hw _
    exact blk_set h1 i _
inductive MorePost (wb : Nat) (x1 x2 pv qv : Value) (p q : List C) (a b : C) (w : World) (e : Ending) (w' : World) : Prop
  | mk (pv' qv' : Value) : e = .returned (.tuple #[]) → w'.heap[wb]? = some (.cells #[x1, x2, pv', qv'] 34 (0, 0)) → Rw w' pv' (p ++ [a]) → Rw w' qv' (q ++ [b]) →
      (pv.ownBlock = pv'.ownBlock ∨ ∃ g, pv'.ownBlock = some g ∧ w.heap.size ≤ g) → (qv.ownBlock = qv'.ownBlock ∨ ∃ g, qv'.ownBlock = some g ∧ w.heap.size ≤ g) → (∀ g, pv'.ownBlock = some g → qv'.ownBlock ≠ some g) →
      Keeps (fun x => x = wb ∨ pv.ownBlock = some x ∨ qv.ownBlock = some x) w w' → MorePost wb x1 x2 pv qv p q a b w e w'
set_option maxRecDepth 100000 in
set_option maxHeartbeats 8000000 in
theorem more_any (w : World) (wb : Nat) (x1 x2 pv qv : Value) (p q : List C) (a b : C) (hw : w.heap[wb]? = some (.cells #[x1, x2, pv, qv] 34 (0, 0))) (hp : Rw w pv p) (hq : Rw w qv q) (hne : ∀ g, pv.ownBlock = some g → qv.ownBlock ≠ some g) (hpl : p.length ≤ 4000000000000) (hql : q.length ≤ 4000000000000) :
    Calls Try.prog 15 #[.pointer (some ⟨wb, 0, none⟩), cval a, cval b] w (MorePost wb x1 x2 pv qv p q a b w) := by
  obtain ⟨i49, hi, hz0, hz1, hz2⟩ := info_parts info49
  have HI := Lib.hid hi
  have HW := Lib.hid hw
  have HP := Lib.hid hp
  have HQ := Lib.hid hq
  have HNE := Lib.hid hne
  obtain ⟨a0, a1⟩ := a
  obtain ⟨b0, b1⟩ := b
  clear hi hw hp hq hne
  go_enter Try.func15, Try.ntmps15
  go_upto_region 1 with fail
  obtain ⟨W, hW⟩ : ∃ W, W = (w.alloc (.cells #[.bool a0, .int .i64 a1] 49)).alloc (.cells #[.bool b0, .int .i64 b1] 49) := ⟨_, rfl⟩
  have hkW : Keeps (fun x => x = wb ∨ pv.ownBlock = some x ∨ qv.ownBlock = some x) w W := by rw [hW]; exact ((Keeps.refl _ _).alloc _).alloc _
  have hbW : Below w.heap.size w W := by rw [hW]; exact balloc (balloc (Below.refl _ _) _) _
  have hxA : W.heap[w.heap.size]? = some (.cells #[.bool a0, .int .i64 a1] 49 (0, 0)) := by rw [hW]; exact blk_alloc (heap_alloc_new w _) _
  have hxB : W.heap[w.heap.size + 1]? = some (.cells #[.bool b0, .int .i64 b1] 49 (0, 0)) := by
    rw [hW]
    have h := heap_alloc_new (w.alloc (.cells #[.bool a0, .int .i64 a1] 49)) (.cells #[.bool b0, .int .i64 b1] 49)
    rw [World.size_alloc] at h
    exact h
  have hsW : W.heap.size = w.heap.size + 1 + 1 := by rw [hW, World.size_alloc, World.size_alloc]
  have hwW := blk_below HW.out hbW (lt_of_block HW.out)
  have hpW : Rw W pv p := HP.out.keep (Keeps.of_below (S := fun _ => False) hbW) (fun _ _ h => h)
  have hqW : Rw W qv q := HQ.out.keep (Keeps.of_below (S := fun _ => False) hbW) (fun _ _ h => h)
  rw [← hW]
  have c2 : W.cell? ⟨wb, 2, none⟩ = some pv := blk_cell hwW 2
  have f2 := blk_free hwW 2
  have b0' : W.cell? ⟨w.heap.size, 0, none⟩ = some (.bool a0) := blk_cell hxA 0
  have b1' : W.cell? ⟨w.heap.size, 1, none⟩ = some (.int .i64 a1) := blk_cell hxA 1
  have HWW := Lib.hid hwW
  have HPW := Lib.hid hpW
  have HQW := Lib.hid hqW
  have HKW := Lib.hid hkW
  have HXB := Lib.hid hxB
  have HSW := Lib.hid hsW
  have hpd : Rw (W.alloc (.cells #[.bool a0, .int .i64 a1] 49)).drew pv p := hpW.keep (((Keeps.refl (fun _ => False) W).alloc _).drew 1) (fun _ _ h => h)
  have HPD := Lib.hid hpd
  have hnW : pv.ownBlock ≠ some wb := hpW.ne hwW (by decide)
  have lw := lt_of_block hwW
  clear hW hkW hbW hxA hxB hsW hwW hpW hqW hpd
  go_cut [] from 6 to 15 (fun wx => ∃ pv', Grew W wx wb pv pv' p ⟨a0, a1⟩ ∧ wx.heap[wb]? = some (.cells #[x1, x2, pv', qv] 34 (0, 0)))
  case first =>
    go_region_law ((refine step_append_lies _ (by rfl) _ _ _ (by rfl) 0 49 i49 _ 2 16 Try.underlying32 HI.out hz0 hz1 hz2 rfl (by omega) pv p.length (cv p) (by rfl) HPD.out ⟨W.heap.size, 0, none⟩ 1 1 [.bool a0, .int .i64 a1] (by rfl) (by rfl) (new_cells_d (c := #[.bool a0, .int .i64 a1]) _ (by simp)) (by simp [Value.oneCell']) (by omega) (by unfold maxLen; omega) (by omega) (by simp) (W.heap.size + 1) (by simp) ?_; intro gg cap w1 hown1 hgrow hat hlt1; have hp1 : w1.heap[wb]? = some (.cells #[x1, x2, pv, qv] 34 (0, 0)) := (by rw [hgrow.block wb (by simp [World.size_drew]; omega) (fun e => hnW e.symm)]; exact blk_alloc HWW.out _); have c0' : w1.cell? ⟨wb, 2, none⟩ = some pv := blk_cell hp1 2; have f0' := blk_free hp1 2))
    all_goals
      go_wp2_with fail
      go_meet
      exact grew_out (i := 2) HWW.out HPW.out ‹_› ‹_› ‹_›
  case rest =>
  obtain ⟨pv', hg1, hw1⟩ := hcut
  obtain ⟨V, hV⟩ : ∃ V : World, V = wc := ⟨_, rfl⟩
  subst hV
  have hlp : ∀ g, pv.ownBlock = some g → g < w.heap.size := fun g h => HP.out.lt h
  have hlq : ∀ g, qv.ownBlock = some g → g < w.heap.size := fun g h => HQ.out.lt h
  have hlw := lt_of_block HW.out
  have hqV : Rw V qv q := HQW.out.keep hg1.keep (fun g h => by
    rintro (e | e)
    · subst e; exact HQ.out.ne HW.out (by decide) h
    · exact HNE.out g e h)
  have hxV : V.heap[w.heap.size + 1]? = some (.cells #[.bool b0, .int .i64 b1] 49 (0, 0)) := hg1.keep.blk HXB.out (by
    rintro (e | e)
    · omega
    · have := hlp _ e; omega)
  have c3 : V.cell? ⟨wb, 3, none⟩ = some qv := blk_cell hw1 3
  have f3 := blk_free hw1 3
  have d0 : V.cell? ⟨w.heap.size + 1, 0, none⟩ = some (.bool b0) := blk_cell hxV 0
  have d1 : V.cell? ⟨w.heap.size + 1, 1, none⟩ = some (.int .i64 b1) := blk_cell hxV 1
  have hqd : Rw (V.alloc (.cells #[.bool b0, .int .i64 b1] 49)).drew qv q := hqV.keep (((Keeps.refl (fun _ => False) V).alloc _).drew 1) (fun _ _ h => h)
  have hnV : qv.ownBlock ≠ some wb := hqV.ne hw1 (by decide)
  have lV := lt_of_block hw1
  have HG1 := Lib.hid hg1
  have HW1 := Lib.hid hw1
  have HQV := Lib.hid hqV
  have HQD := Lib.hid hqd
  clear hg1 hw1 hqV hxV hqd c2 f2 b0' b1' hnW lw hlp hlq hlw
  have FIN : ∀ (wx : World) (qv' : Value), Grew V wx wb qv qv' q ⟨b0, b1⟩ → wx.heap[wb]? = some (.cells #[x1, x2, pv', qv'] 34 (0, 0)) → MorePost wb x1 x2 pv qv p q ⟨a0, a1⟩ ⟨b0, b1⟩ w (.returned (.tuple #[])) wx := by
    intro wx qv' hg2 hw2
    have hg1 := HG1.out
    have hsW := HSW.out
    have hlp : ∀ g, pv.ownBlock = some g → g < w.heap.size := fun g h => HP.out.lt h
    have hlq : ∀ g, qv.ownBlock = some g → g < w.heap.size := fun g h => HQ.out.lt h
    have hsV : W.heap.size ≤ V.heap.size := hg1.keep.size
    have hat1 : pv.ownBlock = pv'.ownBlock ∨ ∃ g, pv'.ownBlock = some g ∧ w.heap.size ≤ g := by
      rcases hg1.at' with h | ⟨g, h1, h2⟩
      · exact .inl h
      · exact .inr ⟨g, h1, by omega⟩
    have hat2 : qv.ownBlock = qv'.ownBlock ∨ ∃ g, qv'.ownBlock = some g ∧ V.heap.size ≤ g := hg2.at'
    have hpV : Rw V pv' (p ++ [⟨a0, a1⟩]) := hg1.own
    have hsep : ∀ g, pv'.ownBlock = some g → qv.ownBlock ≠ some g := by
      intro g h e
      rcases hat1 with h1 | ⟨g', h1, h2⟩
      · exact HNE.out g (h1.trans h) e
      · have h3 := hlq g e
        have h4 : g' = g := Option.some.inj (h1.symm.trans h)
        omega
    refine .mk pv' qv' rfl hw2 ?_ hg2.own hat1 ?_ ?_ ?_
    · refine hpV.keep hg2.keep fun g h => ?_
      rintro (e | e)
      · subst e; exact hpV.ne HW1.out (by decide) h
      · exact hsep g h e
    · rcases hat2 with h | ⟨g, h1, h2⟩
      · exact .inl h
      · exact .inr ⟨g, h1, by omega⟩
    · intro g h e
      rcases hat2 with h1 | ⟨g', h1, h2⟩
      · exact hsep g h (h1.trans e)
      · have h3 := hpV.lt h
        have h4 : g' = g := Option.some.inj (h1.symm.trans e)
        omega
    · have k1 := HKW.out
      have k2 : Keeps (fun x => x = wb ∨ pv.ownBlock = some x ∨ qv.ownBlock = some x) W V := hg1.keep.mono (fun k h => by rcases h with h | h; exact .inl h; exact .inr (.inl h))
      exact (k1.trans k2).trans (hg2.keep.mono (fun k h => by rcases h with h | h; exact .inl h; exact .inr (.inr h)))
  go_upto_region 2 with fail
  go_region_law ((refine step_append_lies _ (by rfl) _ _ _ (by rfl) 0 49 i49 _ 2 16 Try.underlying32 HI.out hz0 hz1 hz2 rfl (by omega) qv q.length (cv q) (by rfl) HQD.out ⟨V.heap.size, 0, none⟩ 1 1 [.bool b0, .int .i64 b1] (by rfl) (by rfl) (new_cells_d (c := #[.bool b0, .int .i64 b1]) _ (by simp)) (by simp [Value.oneCell']) (by omega) (by unfold maxLen; omega) (by omega) (by simp) (V.heap.size + 1) (by simp) ?_; intro gg cap w1 hown1 hgrow hat hlt1; have hp1 : w1.heap[wb]? = some (.cells #[x1, x2, pv', qv] 34 (0, 0)) := (by rw [hgrow.block wb (by simp [World.size_drew]; omega) (fun e => hnV e.symm)]; exact blk_alloc HW1.out _); have c0' : w1.cell? ⟨wb, 3, none⟩ = some qv := blk_cell hp1 3; have f0' := blk_free hp1 3))
  all_goals
    go_wp2_with fail
    go_end0
    obtain ⟨qv', h1, h2⟩ := grew_out (i := 3) (c := ⟨b0, b1⟩) HW1.out HQV.out ‹_› ‹_› ‹_›
    exact FIN _ _ h1 h2
end Go.Proofs.Ytidjfmkclabagaa
