/-
  Proved: the contract of Collect. Condition: a heap whose things lie within it.
-/
import Derived.Test.YtidjfmkclabagaaR2
import Derived.Shelf.Abstract
import Derived.Deep.RegionHeld3
import Derived.Deep.LoopGhost
set_option linter.unusedSimpArgs false
set_option linter.unusedVariables false
namespace Go.Proofs.Ytidjfmkclabagaa
open Go.RowKit Go.Shelf
attribute [local go_sem] Oper.semAt_some

/-- a row of cells within a block that may be longer -/
def RowC (w : World) (b sz : Nat) (l : List C) : Prop := ∃ cur : Array Value, w.heap[b]? = some (.cells cur 49 (0, 0)) ∧ cur.size = sz ∧ cur.toList.take (l.length * 2) = cv l
theorem RowC.get0 {w : World} {b sz : Nat} {l : List C} (h : RowC w b sz l) : ∃ cur : Array Value, w.heap[b]? = some (.cells cur 49 (0, 0)) ∧ cur.size = sz ∧ (∀ i (hi : i < l.length), cur[i * 2]? = some (.bool l[i].p) ∧ cur[i * 2 + 1]? = some (.int .i64 l[i].n)) ∧
    ∀ i (hi : i < l.length) (n : Int), (cur.setIfInBounds (i * 2 + 1) (.int .i64 n)).toList.take ((l.set i ⟨l[i].p, n⟩).length * 2) = cv (l.set i ⟨l[i].p, n⟩) := by
  obtain ⟨cur, h1, h2, h3⟩ := h
  refine ⟨cur, h1, h2, fun i hi => ?_, fun i hi n => ?_⟩
  · have h4 := cv_get0 hi
    have h5 := cv_get1 hi
    rw [← h3, List.getElem?_take, if_pos (by omega), Array.getElem?_toList] at h4 h5
    exact ⟨h4, h5⟩
  · rw [Array.toList_setIfInBounds, List.length_set, List.take_set, h3, cv_set1 hi]
theorem enters10 : ∀ (args : Array Value) (w : World), (callFunc 10 args).run Try.prog w = .ok (.enter 10 args) w := enters_of Try.func10 (by kernel_rfl) rfl
theorem heap_putObj_ne {W : World} {l b : Nat} {o : Obj} (h : b ≠ l) : (W.putObj l o).heap[b]? = W.heap[b]? := World.putObj_heap_other h
theorem Keeps.putObj {S : Nat → Prop} {w w1 : World} (h : Keeps S w w1) {l : Nat} (o : Obj) (hl : w.heap.size ≤ l) : Keeps S w (w1.putObj l o) :=
  ⟨h.os, h.tape, h.output, by rw [World.putObj_size]; exact h.size, fun k hk hn => (World.putObj_heap_other (by omega)).trans (h.block k hk hn)⟩
theorem RowC.of_same {w w' : World} {b sz : Nat} {l : List C} (h : RowC w b sz l) (e : w'.heap[b]? = w.heap[b]?) : RowC w' b sz l := by
  obtain ⟨cur, h1, h2, h3⟩ := h
  exact ⟨cur, e.trans h1, h2, h3⟩
theorem RowC.lt {w : World} {b sz : Nat} {l : List C} (h : RowC w b sz l) : b < w.heap.size := by
  obtain ⟨cur, h1, _⟩ := h
  exact lt_of_block h1
/-- all of its blocks lie below B -/
structure LowM (B : Nat) (m : Mv) : Prop where
  h : m.hb < B
  o : m.ob < B
  n : m.nb < B
  b1 : m.x1 < B
  b2 : m.x2 < B
theorem lt_m {w : World} (m : Mv) (h : MvAt w m) : LowM w.heap.size m := ⟨lt_of_block h.h, h.o.lt, h.n.lt, lt_of_block h.b1, lt_of_block h.b2⟩
theorem MvAt.of_low {w w' : World} {m : Mv} {od nw : List C} {nx B : Nat} (h : MvAt w (mvTo m od nw nx)) (hl : LowM B m) (e : ∀ b, b < B → w'.heap[b]? = w.heap[b]?) : MvAt w' (mvTo m od nw nx) :=
  ⟨(e _ hl.h).trans h.h, (e _ hl.o).trans h.o, (e _ hl.n).trans h.n, h.ol, h.nl, h.ne, (e _ hl.b1).trans h.b1, (e _ hl.b2).trans h.b2, h.sz⟩
theorem MvAt.of_same {w w' : World} {m : Mv} (h : MvAt w m) (e : ∀ (b : Nat) (x : Obj), w.heap[b]? = some x → x.isCells = true → w'.heap[b]? = some x) : MvAt w' m :=
  ⟨e _ _ h.h rfl, e _ _ h.o rfl, e _ _ h.n rfl, h.ol, h.nl, h.ne, e _ _ h.b1 rfl, e _ _ h.b2 rfl, h.sz⟩
theorem ph_p (us : List C) (A : List Nat) (c : C) : (⟨c.p, (ph us A c).n⟩ : C) = ph us A c := by
  unfold ph
  cases hp : c.p with
  | false => simp; cases c; simp_all
  | true => simp
theorem row_step {us p : List C} {A : List Nat} (A2 : List Nat) {k : Nat} (hk : k < p.length) (h : ∀ c ∈ p.take k, c.p = true → ∃ a ∈ A, c.n = ((a : Nat) : Int)) :
    ((p.take k).map (ph us A) ++ p.drop k).set k ⟨p[k].p, (ph us (A ++ A2) p[k]).n⟩ = (p.take (k + 1)).map (ph us (A ++ A2)) ++ p.drop (k + 1) := by
  have e1 : (p.take k).map (ph us A) = (p.take k).map (ph us (A ++ A2)) := List.map_congr_left fun c hc => (ph_app A2 (h c hc)).symm
  rw [e1, ph_p, List.take_succ_eq_append_getElem hk, List.map_append, List.append_assoc, List.set_append_right _ _ (by simp only [List.length_map, List.length_take]; exact Nat.min_le_left _ _)]
  congr 1
  have : k - ((p.take k).map (ph us (A ++ A2))).length = 0 := by simp; omega
  rw [this, List.drop_eq_getElem_cons hk]
  rfl
/-- what Collect leaves -/
structure Colld (us p : List C) (D : Nat → Prop) (sz : Nat) (A : List Nat) (od nw : List C) : Prop where
  st : MSt us p D A sz (T us A) od nw (T us A)
  root : ∀ c ∈ p, c.p = true → ∃ a ∈ A, c.n = ((a : Nat) : Int)
/-- while roots are moved -/
def PhaseI (us p : List C) (D : Nat → Prop) (sz pb psz vb wb : Nat) (m : Mv) (S : Nat → Prop) (w U : World) (k : Nat) (W0 : World) : Prop :=
  ∃ A od nw nx, MvAt W0 (mvTo m od nw nx) ∧ MSt us p D A sz 0 od nw nx ∧ (0 < p.length → RowC W0 pb psz ((p.take k).map (ph us A) ++ p.drop k)) ∧ (∀ c ∈ p.take k, c.p = true → ∃ a ∈ A, c.n = ((a : Nat) : Int)) ∧
      W0.heap[vb]? = U.heap[vb]? ∧ W0.heap[wb]? = U.heap[wb]? ∧ Keeps S w W0 ∧ U.heap.size ≤ W0.heap.size
abbrev CS (g : Hp) (pb : Nat) : Nat → Prop := fun k => k = g.ub ∨ k = g.sb ∨ k = g.hb ∨ k = pb
set_option maxRecDepth 100000 in
set_option maxHeartbeats 8000000 in
theorem collect_any (g : Hp) (w : World) (hg : HpAt w g) (D : Nat → Prop) (hT : Things g.us D g.nx) (p : List C) (hr : ∀ c ∈ p, c.p = true → ∃ a : Nat, D a ∧ c.n = a) (wb pb psz cap : Nat) (ao : Option Addr) (va vb vc : Value)
    (hw : w.heap[wb]? = some (.cells #[va, vb, .slice ao p.length cap, vc] 34 (0, 0))) (hao : 0 < p.length → ao = some ⟨pb, 0, none⟩) (hrow : 0 < p.length → RowC w pb psz p) (hpl : p.length ≤ 1000000000000000) (hp1 : pb ≠ g.ub) (hp2 : pb ≠ g.sb) :
    Calls Try.prog 9 #[.pointer (some ⟨g.hb, 0, none⟩), .func (.func 10) #[.pointer (some ⟨wb, 0, none⟩)] #[]] w fun e w' => ∃ A od nw, e = .returned (.int .i64 (T g.us A : Nat)) ∧ Colld g.us p D g.sz A od nw ∧
      HpAt w' { g with ub := g.sb, sb := g.ub, us := nw, nx := T g.us A } ∧ (0 < p.length → RowC w' pb psz (p.map (ph g.us A))) ∧ Keeps (CS g pb) w w' := by
  refine (callsIn_wide (n := 5)).1 ?_
  obtain ⟨ss, hss, hsl⟩ := hg.s
  have lh := hg.lh
  have lu := hg.lu
  have k0 : w.cell? ⟨g.hb, 0, none⟩ = some (.slice (some ⟨g.ub, 0, none⟩) g.sz g.sz) := blk_cell hg.h 0
  have k1 : w.cell? ⟨g.hb, 1, none⟩ = some (.slice (some ⟨g.sb, 0, none⟩) g.sz g.sz) := blk_cell hg.h 1
  have k2 : w.cell? ⟨g.hb, 2, none⟩ = some (.int .i64 g.nx) := blk_cell hg.h 2
  have f0 := blk_free hg.h 0
  have f1 := blk_free hg.h 1
  have f2 := blk_free hg.h 2
  refine callsIn_of_wp_marks Try.func9 rfl trivial ?_ rfl
  simp only [Try.ntmps9, List.size_toArray, List.length_cons, List.length_nil, Nat.reduceAdd, Nat.reduceSub, Array.replicate_succ, Array.replicate_zero, List.push_toArray, List.append_toArray, List.nil_append, List.cons_append]
  refine wpIn_wide.2 ?_
  go_wp2_with fail
  obtain ⟨W, hW⟩ : ∃ W, W = (w.alloc (.cells #[.pointer (some ⟨g.hb, 0, none⟩)] 23)).alloc (.cells #[.slice (some ⟨g.ub, 0, none⟩) g.sz g.sz] 32) := ⟨_, rfl⟩
  rw [← hW]
  have hkW : Keeps (CS g pb) w W := by rw [hW]; exact ((Keeps.refl _ w).alloc _).alloc _
  have b2 : W.heap[w.heap.size]? = some (.cells #[.pointer (some ⟨g.hb, 0, none⟩)] 23 (0, 0)) := by rw [hW]; exact blk_alloc (heap_alloc_new w _) _
  have b1 : W.heap[w.heap.size + 1]? = some (.cells #[.slice (some ⟨g.ub, 0, none⟩) g.sz g.sz] 32 (0, 0)) := by
    rw [hW]
    have h := heap_alloc_new (w.alloc (.cells #[.pointer (some ⟨g.hb, 0, none⟩)] 23)) (.cells #[.slice (some ⟨g.ub, 0, none⟩) g.sz g.sz] 32)
    rwa [World.size_alloc] at h
  have hsW : W.heap.size = w.heap.size + 2 := by rw [hW]; simp
  have hbW : Below w.heap.size w W := by rw [hW]; exact balloc (balloc (Below.refl _ _) _) _
  have wh := blk_below hg.h hbW lh
  have wu := hg.u.below hbW lu
  have ws := hss.below hbW hss.lt
  have ww := blk_below hw hbW (lt_of_block hw)
  have x0 : W.cell? ⟨w.heap.size, 0, none⟩ = some (.pointer (some ⟨g.hb, 0, none⟩)) := blk_cell b2 0
  have x1 : W.cell? ⟨w.heap.size + 1, 0, none⟩ = some (.slice (some ⟨g.ub, 0, none⟩) g.sz g.sz) := blk_cell b1 0
  have y0 : W.cell? ⟨g.hb, 0, none⟩ = some (.slice (some ⟨g.ub, 0, none⟩) g.sz g.sz) := blk_cell wh 0
  have y1 : W.cell? ⟨g.hb, 1, none⟩ = some (.slice (some ⟨g.sb, 0, none⟩) g.sz g.sz) := blk_cell wh 1
  have y2 : W.cell? ⟨g.hb, 2, none⟩ = some (.int .i64 g.nx) := blk_cell wh 2
  have z0 := blk_free wh 0
  have z1 := blk_free wh 1
  have z2 := blk_free wh 2
  have n1 : ¬ (w.heap.size = g.hb) := by omega
  have n2 : ¬ (w.heap.size + 1 = g.hb) := by omega
  have n3 : ¬ (g.hb = w.heap.size) := by omega
  have n4 : ¬ (g.hb = w.heap.size + 1) := by omega
  have lW : g.hb < W.heap.size := by omega
  have HG := Lib.hid hg
  have HT := Lib.hid hT
  have HR := Lib.hid hr
  have HROW := Lib.hid hrow
  have HKW := Lib.hid hkW
  have HBW := Lib.hid hbW
  have HW := Lib.hid hw
  have WH := Lib.hid wh
  have WU := Lib.hid wu
  have WS := Lib.hid ws
  have WW := Lib.hid ww
  have B1 := Lib.hid b1
  have B2 := Lib.hid b2
  have HSL := Lib.hid hsl
  clear hg hT hr hrow hkW hbW hw wh wu ws ww b1 b2 hW k0 k1 k2 f0 f1 f2 hss hsl lu
  go_region
  obtain ⟨V, hV⟩ : ∃ V, V = ((W.setCell ⟨g.hb, 0, none⟩ (.slice (some ⟨g.sb, 0, none⟩) g.sz g.sz)).setCell ⟨g.hb, 1, none⟩ (.slice (some ⟨g.ub, 0, none⟩) g.sz g.sz)).drew := ⟨_, rfl⟩
  rw [← hV]
  have hkV : Keeps (CS g pb) w V := by
    rw [hV]
    have h1 : Keeps (CS g pb) w (W.setCell ⟨g.hb, 0, none⟩ (.slice (some ⟨g.sb, 0, none⟩) g.sz g.sz)) := HKW.out.set (.inl (.inr (.inr (.inl rfl)))) _ _
    exact (h1.set (.inl (.inr (.inr (.inl rfl)))) _ _).drew1
  have hsV : V.heap.size = w.heap.size + 2 := by rw [hV]; simpa [World.setCell, World.drew] using hsW
  have hVne : ∀ {k : Nat} {x : Obj}, W.heap[k]? = some x → k ≠ g.hb → V.heap[k]? = some x := by
    intro k x h hk
    rw [hV]
    exact blk_set_ne (blk_set_ne h hk 0 (.slice (some ⟨g.sb, 0, none⟩) g.sz g.sz)) hk 1 (.slice (some ⟨g.ub, 0, none⟩) g.sz g.sz)
  have vh : V.heap[g.hb]? = some (.cells #[.slice (some ⟨g.sb, 0, none⟩) g.sz g.sz, .slice (some ⟨g.ub, 0, none⟩) g.sz g.sz, .int .i64 g.nx] 42 (0, 0)) := by
    rw [hV]
    exact blk_set (blk_set WH.out 0 (.slice (some ⟨g.sb, 0, none⟩) g.sz g.sz)) 1 (.slice (some ⟨g.ub, 0, none⟩) g.sz g.sz)
  have vu : Cells V g.ub g.us := hVne WU.out (fun e => HG.out.ne_u e.symm)
  have vs : Cells V g.sb ss := hVne WS.out (fun e => HG.out.ne_s e.symm)
  have vb1 := hVne B1.out n2
  have vb2 := hVne B2.out n1
  have vw := hVne WW.out (blk_ne WW.out WH.out (by decide))
  have x0 : V.cell? ⟨w.heap.size, 0, none⟩ = some (.pointer (some ⟨g.hb, 0, none⟩)) := blk_cell vb2 0
  have x1 : V.cell? ⟨w.heap.size + 1, 0, none⟩ = some (.slice (some ⟨g.ub, 0, none⟩) g.sz g.sz) := blk_cell vb1 0
  have y2 : V.cell? ⟨g.hb, 2, none⟩ = some (.int .i64 g.nx) := blk_cell vh 2
  have z2 := blk_free vh 2
  have lV : g.hb < V.heap.size := by omega
  have hVne' : ∀ (k : Nat) (x : Obj), W.heap[k]? = some x → k ≠ g.hb → V.heap[k]? = some x := fun k x h1 h2 => hVne h1 h2
  have HVNE := Lib.hid hVne'
  clear hVne'
  have HSV := Lib.hid hsV
  have HKV := Lib.hid hkV
  have VH := Lib.hid vh
  have VU := Lib.hid vu
  have VS := Lib.hid vs
  have VB1 := Lib.hid vb1
  have VB2 := Lib.hid vb2
  have VW := Lib.hid vw
  clear hV hkV hVne vh vu vs vb1 vb2 vw hsV
  have hst : (store ⟨V.heap.size, 0, none⟩ (.func (.func 22) #[] #[.pointer (some ⟨w.heap.size + 1, 0, none⟩), .pointer (some ⟨w.heap.size, 0, none⟩)])).run Try.prog ((V.setCell ⟨g.hb, 2, none⟩ (.int .i64 0)).alloc (.cells #[.nilFunc] 70)) =
      .ok () (((V.setCell ⟨g.hb, 2, none⟩ (.int .i64 0)).alloc (.cells #[.nilFunc] 70)).setCell ⟨V.heap.size, 0, none⟩ (.func (.func 22) #[] #[.pointer (some ⟨w.heap.size + 1, 0, none⟩), .pointer (some ⟨w.heap.size, 0, none⟩)])) := by
    have hz : (V.setCell ⟨g.hb, 2, none⟩ (.int .i64 0)).heap.size = V.heap.size := by simp [World.setCell]
    have hn := heap_alloc_new (V.setCell ⟨g.hb, 2, none⟩ (.int .i64 0)) (.cells #[.nilFunc] 70)
    rw [hz] at hn
    rw [run_store _ _ _ _ _ (by rfl)]
    simp [blk_cell hn, blk_free hn]
  go_wp2_with fail
  obtain ⟨U, hU⟩ : ∃ U, U = (V.setCell ⟨g.hb, 2, none⟩ (.int .i64 0)).alloc (.cells #[.func (.func 22) #[] #[.pointer (some ⟨w.heap.size + 1, 0, none⟩), .pointer (some ⟨w.heap.size, 0, none⟩)]] 70) := ⟨_, rfl⟩
  rw [← hU]
  have hzV : (V.setCell ⟨g.hb, 2, none⟩ (.int .i64 0)).heap.size = V.heap.size := by simp [World.setCell]
  have u3 : U.heap[V.heap.size]? = some (.cells #[.func (.func 22) #[] #[.pointer (some ⟨w.heap.size + 1, 0, none⟩), .pointer (some ⟨w.heap.size, 0, none⟩)]] 70 (0, 0)) := by
    rw [hU]
    have h := heap_alloc_new (V.setCell ⟨g.hb, 2, none⟩ (.int .i64 0)) (.cells #[.func (.func 22) #[] #[.pointer (some ⟨w.heap.size + 1, 0, none⟩), .pointer (some ⟨w.heap.size, 0, none⟩)]] 70)
    rwa [hzV] at h
  have hUne : ∀ {k : Nat} {x : Obj}, V.heap[k]? = some x → k ≠ g.hb → U.heap[k]? = some x := fun h hk => by rw [hU]; exact blk_alloc (blk_set_ne h hk _ _) _
  obtain ⟨m, hm⟩ : ∃ m : Mv, m = { hb := g.hb, ob := g.ub, nb := g.sb, x1 := w.heap.size + 1, x2 := w.heap.size, sz := g.sz, nx := 0, od := g.us, nw := ss } := ⟨_, rfl⟩
  have hMU : MvAt U m := by
    rw [hm]
    refine ⟨?_, hUne VU.out (fun e => HG.out.ne_u e.symm), hUne VS.out (fun e => HG.out.ne_s e.symm), HG.out.ul, HSL.out, HG.out.ne, hUne VB1.out n2, hUne VB2.out n1, HG.out.sz⟩
    rw [hU]
    exact blk_alloc (blk_set VH.out 2 (.int .i64 0)) _
  have hUw := hUne VW.out (blk_ne VW.out VH.out (by decide))
  have hkU : Keeps (CS g pb) w U := by
    rw [hU]
    exact (HKV.out.set (.inl (.inr (.inr (.inl rfl)))) _ _).alloc _
  have hsU : U.heap.size = w.heap.size + 3 := by rw [hU, World.size_alloc, hzV, HSV.out]
  have hst0 : MSt g.us p D [] g.sz 0 g.us ss 0 := mst_start HG.out.ul HSL.out
  have HMU := Lib.hid hMU
  have HMM := Lib.hid hm
  have HUW := Lib.hid hUw
  have HKU := Lib.hid hkU
  have HST0 := Lib.hid hst0
  have U3 := Lib.hid u3
  have HSU := Lib.hid hsU
  have hru : 0 < p.length → RowC U pb psz p := fun h => by
    obtain ⟨cur, h1, h2, h3⟩ := HROW.out h
    have hl := lt_of_block h1
    have e1 : W.heap[pb]? = some (.cells cur 49 (0, 0)) := blk_below h1 HBW.out hl
    have hne : pb ≠ g.hb := blk_ne h1 HG.out.h (by decide)
    exact ⟨cur, hUne (HVNE.out _ _ e1 hne) hne, h2, h3⟩
  have HRU := Lib.hid hru
  have HPB := Lib.hid (fun h => (hru h).lt)
  have LV := Lib.hid (lt_of_block u3)
  have LW := Lib.hid (lt_of_block hUw)
  clear hU u3 hUne hMU hUw hkU hst0 hzV hst x0 x1 y0 y1 y2 z0 z1 z2 hm hsU hsW hru
  refine (wpIn_wide (n := 5)).1 ?_
  refine range_meth (n := 5) (by omega) (gf := 10) (rv := .pointer (some ⟨wb, 0, none⟩)) rfl enters10 (N := p.length) (enc := fun k => .pointer (some ⟨pb, k * 2, none⟩)) (Row := RootsRow wb ao p.length cap)
    (fun l J W0 hRow hY h0 => roots_any 4 (by omega) wb pb p.length cap ao hao hpl l J W0 hRow hY h0)
    (PhaseI g.us p D g.sz pb psz V.heap.size wb m (CS g pb) w U)
    ?hI ?hIa ?hRow ?h0 ?hround ?hdone
  case hI =>
    rintro k W0 l o hl ⟨A, od, nw, nx, i1, i2, i3, i4, i5, i6, i7, i8⟩
    have hsame : ∀ b, b < U.heap.size → (W0.putObj l o).heap[b]? = W0.heap[b]? := fun b hb => World.putObj_heap_other (by omega)
    exact ⟨A, od, nw, nx, i1.of_low (lt_m m HMU.out) hsame, i2, fun h => (i3 h).of_same (hsame pb (HPB.out h)), i4, (hsame _ LV.out).trans i5, (hsame _ LW.out).trans i6, i7.putObj o (by have := HSU.out; omega), by rw [World.putObj_size]; exact i8⟩
  case hIa =>
    rintro k W0 o hl ⟨A, od, nw, nx, i1, i2, i3, i4, i5, i6, i7, i8⟩
    have hsame : ∀ b, b < U.heap.size → (W0.alloc o).heap[b]? = W0.heap[b]? := fun b hb => Below.heap_alloc _ _ _ (by omega)
    exact ⟨A, od, nw, nx, i1.of_low (lt_m m HMU.out) hsame, i2, fun h => (i3 h).of_same (hsame pb (HPB.out h)), i4, (hsame _ LV.out).trans i5, (hsame _ LW.out).trans i6, i7.alloc o, by rw [World.size_alloc]; omega⟩
  case hRow =>
    rintro k W0 ⟨A, od, nw, nx, i1, i2, i3, i4, i5, i6, i7, i8⟩
    exact ⟨_, _, _, i6.trans HUW.out⟩
  case h0 =>
    refine ⟨[], g.us, ss, 0, ?_, HST0.out, fun h => ?_, fun c hc => by simp at hc, rfl, rfl, HKU.out, Nat.le_refl _⟩
    · rw [HMM.out]; rw [HMM.out] at HMU; exact HMU.out
    · simpa using HRU.out h
  case hround =>
    intro l k W0 hk
    gi_wp2
    refine ⟨trivial, ?_⟩
    rintro W2 hlt ⟨A, od, nw, nx, i1, i2, i3, i4, i5, i6, i7, i8⟩
    have hN : 0 < p.length := by omega
    obtain ⟨L, hL⟩ : ∃ L, L = (p.take k).map (ph g.us A) ++ p.drop k := ⟨_, rfl⟩
    have hLl : L.length = p.length := by rw [hL]; simp; omega
    have hLk : ∀ h : k < L.length, L[k] = p[k] := by
      intro h
      subst hL
      rw [List.getElem_append_right (by simp; omega)]
      simp
      congr 1
      omega
    have hrw := i3 hN
    rw [← hL] at hrw
    obtain ⟨cur, hc1, hc2, hc3, hc4⟩ := hrw.get0
    have hkL : k < L.length := by omega
    obtain ⟨g0, g1⟩ := hc3 k hkL
    rw [hLk hkL] at g0 g1
    have mx1 : m.x1 = w.heap.size + 1 := by rw [HMM.out]
    have mx2 : m.x2 = w.heap.size := by rw [HMM.out]
    have mo : m.ob = g.ub := by rw [HMM.out]
    have mn : m.nb = g.sb := by rw [HMM.out]
    have mh : m.hb = g.hb := by rw [HMM.out]
    have ms : m.sz = g.sz := by rw [HMM.out]
    have hcall := move_root HT.out HR.out i1 (by show g.nx ≤ m.sz; rw [ms]; exact HG.out.nx) (by show MSt g.us p D A m.sz 0 od nw nx; rw [ms]; exact i2) hc1 (x := p[k]) (List.getElem_mem hk) g0 g1 (by show pb ≠ m.ob; rw [mo]; exact hp1) (by show pb ≠ m.nb; rw [mn]; exact hp2)
    simp only [mx1, mx2, ms] at hcall
    have c6 : W2.cell? ⟨V.heap.size, 0, none⟩ = some (.func (.func 22) #[] #[.pointer (some ⟨w.heap.size + 1, 0, none⟩), .pointer (some ⟨w.heap.size, 0, none⟩)]) := blk_cell (i5.trans U3.out) 0
    have HC := Lib.hid hcall
    clear hcall
    gi_wp2_with (first | (refine ⟨trivial, ?_⟩; gi_at_call 22; refine (CallsIn.inRound l (callsIn_wide.2 HC.out)).mono ?_))
    rintro e w' ⟨rfl, A2, od2, nw2, nx2, j1, j2, j3, j4, j5⟩
    clear c6
    gi_wp2
    have hlo : g.ub < w.heap.size ∧ g.sb < w.heap.size ∧ g.hb < w.heap.size := ⟨HG.out.lu, (HG.out.s).elim fun _ h => h.1.lt, HG.out.lh⟩
    have hpbU : pb < U.heap.size := HPB.out hN
    have hsv := HSV.out
    have hsu := HSU.out
    have nV : ¬ MS (mvTo m od nw nx) pb V.heap.size := by
      rintro (e | e | e | e)
      · rw [show (mvTo m od nw nx).ob = g.ub from mo] at e; omega
      · rw [show (mvTo m od nw nx).nb = g.sb from mn] at e; omega
      · rw [show (mvTo m od nw nx).hb = g.hb from mh] at e; omega
      · exact absurd e (blk_ne (i5.trans U3.out) hc1 (by decide))
    have nW : ¬ MS (mvTo m od nw nx) pb wb := by
      rintro (e | e | e | e)
      · exact absurd e (blk_ne (i6.trans HUW.out) i1.o (by decide))
      · exact absurd e (blk_ne (i6.trans HUW.out) i1.n (by decide))
      · exact absurd e (blk_ne (i6.trans HUW.out) i1.h (by decide))
      · exact absurd e (blk_ne (i6.trans HUW.out) hc1 (by decide))
    refine ⟨⟨A ++ A2, od2, nw2, nx2, j1, j2, fun _ => ⟨_, j4, by simpa using hc2, ?_⟩, ?_, ?_, ?_, ?_, Nat.le_trans i8 j3.size⟩, ?_⟩
    · have h := hc4 k hkL (ph g.us (A ++ A2) p[k]).n
      rw [hLk hkL] at h
      have e1 := row_step (us := g.us) A2 hk i4
      rw [← hL] at e1
      rw [e1] at h
      exact h
    · intro c hc hcp
      rw [List.take_succ_eq_append_getElem hk] at hc
      rcases List.mem_append.1 hc with hc | hc
      · obtain ⟨a, h1, h2⟩ := i4 c hc hcp
        exact ⟨a, by simp [h1], h2⟩
      · simp at hc
        subst hc
        exact j5 hcp
    · rw [j3.block _ (lt_of_block (i5.trans U3.out)) nV]; exact i5
    · rw [j3.block _ (lt_of_block (i6.trans HUW.out)) nW]; exact i6
    · refine i7.trans (j3.mono fun b hb => ?_)
      rcases hb with e | e | e | e
      · left; rw [e]; exact mo
      · right; left; rw [e]; exact mn
      · right; right; left; rw [e]; exact mh
      · right; right; right; exact e
    · intro b hb1 hb2
      refine j3.block b hb2 ?_
      rintro (e | e | e | e)
      · rw [show (mvTo m od nw nx).ob = g.ub from mo] at e; omega
      · rw [show (mvTo m od nw nx).nb = g.sb from mn] at e; omega
      · rw [show (mvTo m od nw nx).hb = g.hb from mh] at e; omega
      · omega
  case hdone =>
    rintro Dd W3 hD ⟨A, od, nw, nx, i1, i2, i3, i4, i5, i6, i7, i8⟩ hdd
    rw [List.take_length, List.drop_length, List.append_nil] at i3
    rw [List.take_length] at i4
    have hmm := HMM.out
    subst hmm
    have HI1 := Lib.hid i1
    have HI2 := Lib.hid i2
    have HI3 := Lib.hid i3
    have HI4 := Lib.hid i4
    have HI5 := Lib.hid i5
    have HI7 := Lib.hid i7
    have HDD := Lib.hid hdd
    have HU8 := Lib.hid i8
    clear i1 i2 i3 i4 i5 i6 i7 hdd i8
    go_wp2_with fail
    go_loopw [8] (fun at' wr => ∃ A1 A2 od nw nx, at' = .int .i64 ((T g.us A1 : Nat) : Int) ∧ MvAt wr (mvTo { hb := g.hb, ob := g.ub, nb := g.sb, x1 := w.heap.size + 1, x2 := w.heap.size, sz := g.sz, nx := 0, od := g.us, nw := ss } od nw nx) ∧ MSt g.us p D (A1 ++ A2) g.sz (T g.us A1) od nw nx ∧
      (0 < p.length → RowC wr pb psz (p.map (ph g.us (A1 ++ A2)))) ∧ (∀ c ∈ p, c.p = true → ∃ a ∈ A1 ++ A2, c.n = ((a : Nat) : Int)) ∧ wr.heap[V.heap.size]? = U.heap[V.heap.size]? ∧ Keeps (CS g pb) w wr ∧ wr.heap[Dd]? = some (.deferred (some [])) ∧ U.heap.size ≤ wr.heap.size)
      (fun at' wr => g.sz + 1 - (intOf at').toNat)
    case atStart => exact ⟨[], A, od, nw, nx, rfl, HI1.out, HI2.out, HI3.out, HI4.out, HI5.out, HI7.out, HDD.out, HU8.out⟩
    case round =>
      obtain ⟨A1, A2, od, nw, nx, rfl, i1, i2, i3, i4, i5, i7, hdd, i8⟩ := hrel
      have hnx := i2.nx
      have hroom : nx ≤ g.sz := by rw [hnx]; exact Nat.le_trans (T_room HT.out i2.nd (fun a h => rch_in HT.out HR.out (i2.sub a h))) HG.out.nx
      have hsz := HG.out.sz
      rw [T_app] at hnx
      obtain ⟨t, ht⟩ : ∃ t, t = T g.us A1 := ⟨_, rfl⟩
      rw [← ht] at hnx ⊢
      have b2 : wr.cell? ⟨w.heap.size, 0, none⟩ = some (.pointer (some ⟨g.hb, 0, none⟩)) := blk_cell i1.b2 0
      have h0 : wr.cell? ⟨g.hb, 0, none⟩ = some (.slice (some ⟨g.sb, 0, none⟩) g.sz g.sz) := blk_cell i1.h 0
      have h2 : wr.cell? ⟨g.hb, 2, none⟩ = some (.int .i64 nx) := blk_cell i1.h 2
      have tb : t ≤ 1000000 := by omega
      have HI1 := Lib.hid i1
      have HI2 := Lib.hid i2
      have HI3 := Lib.hid i3
      have HI4 := Lib.hid i4
      have HI5 := Lib.hid i5
      have HI7 := Lib.hid i7
      have HDD := Lib.hid hdd
      have HU8 := Lib.hid i8
      have HT0 := Lib.hid ht
      have HNX := Lib.hid hnx
      clear i1 i2 i3 i4 i5 i7 hdd i8 ht
      cases A2 with
      | nil =>
        have hge : nx ≤ t := by rw [T] at hnx; omega
        have hge2 : ¬ (t < nx) := by omega
        have hd : decide ((t : Int) < (nx : Int)) = false := by simp; omega
        clear hnx
        go_wp2_with fail
        have htn : nx = t := by have h := HNX.out; rw [T] at h; omega
        have hA : A1 ++ [] = A1 := List.append_nil A1
        have e2 := HI2.out
        rw [hA, ← HT0.out, htn] at e2
        have e3 := HI3.out
        rw [hA] at e3
        have e4 := HI4.out
        rw [hA] at e4
        refine ⟨by simp, .inl ⟨_, _, rfl, run_takeDeferred HDD.out, ?_⟩⟩
        refine ⟨_, results_tmp rfl _ _ _, A1, od, nw, ?_, ⟨by rw [← HT0.out]; exact e2, e4⟩, ?_, fun h => (e3 h).of_same ?_, HI7.out.putObj _ (by have := HSU.out; omega)⟩
        · rw [← HT0.out, ← htn]; rfl
        · have i1' := HI1.out.of_low (lt_m _ HMU.out) (w' := wr.putObj Dd (.deferred none)) (fun b hb => World.putObj_heap_other (show b ≠ Dd by omega))
          rw [htn, HT0.out] at i1'
          exact ⟨i1'.h, i1'.n, ⟨od, i1'.o, i1'.ol⟩, i1'.nl, fun e => i1'.ne e.symm, by show T g.us A1 ≤ g.sz; rw [← HT0.out, ← htn]; exact hroom, i1'.sz⟩
        · exact World.putObj_heap_other (fun e => by have h1 := HPB.out h; omega)
      | cons a A2 =>
        have hlt : t < nx := by rw [T] at hnx; omega
        have hmem : a ∈ A1 ++ a :: A2 := by simp
        have hoff : off g.us (A1 ++ a :: A2) a = t := by rw [off_at HI2.out.nd, HT0.out]
        have hd : decide ((t : Int) < (nx : Int)) = true := by simp; omega
        have htl : t < nw.length := by rw [HI2.out.nl]; omega
        have hx := index_cell g.sb g.sz g.sz t (by omega)
        have hc1 : wr.cell? ⟨g.sb, t * 2 + 1, none⟩ = some (.int .i64 nw[t].n) := HI1.out.n.get1 htl
        have hnn : nw[t].n = (gt g.us a).n := by rw [gt_get htl, ← hoff, HI2.out.hd a hmem]
        rw [hnn] at hc1
        have hnum := HT.out.num a (rch_in HT.out HR.out (HI2.out.sub a hmem))
        obtain ⟨l0, hl0⟩ : ∃ l0, l0 = ln g.us a := ⟨_, rfl⟩
        have hdiv : (gt g.us a).n / 524288 = (l0 : Int) := by rw [hl0]; unfold ln; omega
        have hlb : t + 1 + l0 ≤ nx := by rw [hnx, T, hl0]; omega
        have HL0 := Lib.hid hl0
        have HOFF := Lib.hid hoff
        have HMEM := Lib.hid hmem
        clear hnx hnn hnum hoff hmem htl hl0
        go_wp2_with fail
        obtain ⟨wo, rfl⟩ : ∃ wo : World, wo = wr := ⟨_, rfl⟩
        go_loopw [10] (fun i' wi => ∃ (j : Nat) (A3 : List Nat) (od nw : List C) (nx : Nat), j ≤ l0 ∧ i' = .int .i64 ((t + 1 + j : Nat) : Int) ∧ MvAt wi (mvTo { hb := g.hb, ob := g.ub, nb := g.sb, x1 := w.heap.size + 1, x2 := w.heap.size, sz := g.sz, nx := 0, od := g.us, nw := ss } od nw nx) ∧ MSt g.us p D (A1 ++ a :: A3) g.sz (t + 1 + j) od nw nx ∧
          (0 < p.length → RowC wi pb psz (p.map (ph g.us (A1 ++ a :: A3)))) ∧ (∀ c ∈ p, c.p = true → ∃ a' ∈ A1 ++ a :: A3, c.n = ((a' : Nat) : Int)) ∧ wi.heap[V.heap.size]? = U.heap[V.heap.size]? ∧ Keeps (CS g pb) w wi ∧ wi.heap[Dd]? = some (.deferred (some [])) ∧ U.heap.size ≤ wi.heap.size)
          (fun i' _ => t + 2 + l0 - (intOf i').toNat)
        case atStart =>
          refine ⟨0, A2, od, nw, nx, Nat.zero_le _, rfl, HI1.out, ?_, HI3.out, HI4.out, HI5.out, HI7.out, HDD.out, HU8.out⟩
          have h := mst_head HI2.out HMEM.out (by rw [HOFF.out, HT0.out])
          rw [← HT0.out] at h
          exact h
        case round =>
          obtain ⟨j, A3, od, nw, nx, hj, rfl, i1, i2, i3, i4, i5, i7, hdd, i8⟩ := hrel
          have hnx2 := i2.nx
          have hroom2 : nx ≤ g.sz := by rw [hnx2]; exact Nat.le_trans (T_room HT.out i2.nd (fun a h => rch_in HT.out HR.out (i2.sub a h))) HG.out.nx
          have hoff2 : off g.us (A1 ++ a :: A3) a = t := by rw [off_at i2.nd, HT0.out]
          have hmem2 : a ∈ A1 ++ a :: A3 := by simp
          have hb2 : wr.cell? ⟨w.heap.size, 0, none⟩ = some (.pointer (some ⟨g.hb, 0, none⟩)) := blk_cell i1.b2 0
          have hh0 : wr.cell? ⟨g.hb, 0, none⟩ = some (.slice (some ⟨g.sb, 0, none⟩) g.sz g.sz) := blk_cell i1.h 0
          have c6 : wr.cell? ⟨V.heap.size, 0, none⟩ = some (.func (.func 22) #[] #[.pointer (some ⟨w.heap.size + 1, 0, none⟩), .pointer (some ⟨w.heap.size, 0, none⟩)]) := blk_cell (i5.trans U3.out) 0
          have HI1 := Lib.hid i1
          have HI2 := Lib.hid i2
          have HI3 := Lib.hid i3
          have HI4 := Lib.hid i4
          have HI5 := Lib.hid i5
          have HI7 := Lib.hid i7
          have HDD := Lib.hid hdd
          have HU8 := Lib.hid i8
          have HMEM2 := Lib.hid hmem2
          have HOFF2 := Lib.hid hoff2
          clear i1 i2 i3 i4 i5 i7 hdd i8 hnx2 b2 h0 h2 hx hc1 hmem2 hoff2
          by_cases hlt2 : j < l0
          · have hle : t + 1 + j ≤ t + l0 := by omega
            have hd2 : decide (((t + 1 + j : Nat) : Int) ≤ (t : Int) + (l0 : Int)) = true := by simp; omega
            have hx2 := index_cell3 g.sb g.sz g.sz t j (by omega)
            have hi1d : MvAt wr.drew (mvTo { hb := g.hb, ob := g.ub, nb := g.sb, x1 := w.heap.size + 1, x2 := w.heap.size, sz := g.sz, nx := 0, od := g.us, nw := ss } od nw nx) := ⟨HI1.out.h, HI1.out.o, HI1.out.n, HI1.out.ol, HI1.out.nl, HI1.out.ne, HI1.out.b1, HI1.out.b2, HI1.out.sz⟩
            have hcall := move_field HT.out HR.out hi1d HG.out.nx HI2.out HMEM2.out (j := j) (by rw [← HL0.out]; exact hlt2) (by rw [HOFF2.out])
            have HC := Lib.hid hcall
            clear hcall hi1d
            have hlo : g.ub < w.heap.size ∧ g.sb < w.heap.size ∧ g.hb < w.heap.size := ⟨HG.out.lu, (HG.out.s).elim fun _ h => h.1.lt, HG.out.lh⟩
            have hnV : ∀ q, w.heap.size ≤ q → ¬ (q = g.ub ∨ q = g.sb ∨ q = g.hb ∨ q = g.sb) := by
              intro q hq
              rintro (e | e | e | e) <;> omega
            have HNV := Lib.hid hnV
            have HLO := Lib.hid hlo
            have hsvl : w.heap.size ≤ V.heap.size := by have := HSV.out; omega
            have hvl : V.heap.size < wr.heap.size := World.block_lt_of_cell? wr _ c6
            clear hnV hlo
            go_upto_region 14 with fail
            go_region_held3 (fun w' => w'.cell? ⟨V.heap.size, 0, none⟩ = some (.func (.func 22) #[] #[.pointer (some ⟨w.heap.size + 1, 0, none⟩), .pointer (some ⟨w.heap.size, 0, none⟩)]) ∧ w'.cell? ⟨w.heap.size, 0, none⟩ = some (.pointer (some ⟨g.hb, 0, none⟩)) ∧ w'.cell? ⟨g.hb, 0, none⟩ = some (.slice (some ⟨g.sb, 0, none⟩) g.sz g.sz))
              (first | exact ⟨c6, hb2, hh0⟩ | assumption | trivial)
              (first | (go_at_call 22; refine HC.out.mono ?_; rintro e w9 ⟨rfl, A4, od9, nw9, nx9, j1, j2, j3⟩; have q5 : w9.heap[V.heap.size]? = wr.heap[V.heap.size]? := j3.block V.heap.size hvl (HNV.out _ hsvl); have q6 : w9.cell? ⟨V.heap.size, 0, none⟩ = some (.func (.func 22) #[] #[.pointer (some ⟨w.heap.size + 1, 0, none⟩), .pointer (some ⟨w.heap.size, 0, none⟩)]) := by { unfold World.cell? at c6 ⊢; rw [q5]; exact c6 }; have q7 : w9.cell? ⟨w.heap.size, 0, none⟩ = some (.pointer (some ⟨g.hb, 0, none⟩)) := blk_cell j1.b2 0; have q8 : w9.cell? ⟨g.hb, 0, none⟩ = some (.slice (some ⟨g.sb, 0, none⟩) g.sz g.sz) := blk_cell j1.h 0; have J1 := Lib.hid j1; have J2 := Lib.hid j2; have J3 := Lib.hid j3; have Q5 := Lib.hid q5; clear j1 j2 j3 q5))
            clear c6 hb2 hh0 q6 q7 q8
            go_wp2_with fail
            go_roundw
            case rel =>
              have e1 : (A1 ++ a :: A3) ++ A4 = A1 ++ a :: (A3 ++ A4) := by simp
              have e2 := J2.out
              rw [e1] at e2
              have hmap : p.map (ph g.us (A1 ++ a :: (A3 ++ A4))) = p.map (ph g.us (A1 ++ a :: A3)) := by rw [← e1]; exact List.map_congr_left fun c hc => ph_app A4 (HI4.out c hc)
              have hsz9 : wr.heap.size ≤ w9.heap.size := J3.out.size
              have hU8 := HU8.out
              have hdl : Dd < wr.heap.size := lt_of_block HDD.out
              have hsu := HSU.out
              refine ⟨j + 1, A3 ++ A4, od9, nw9, nx9, hlt2, by go_num, J1.out, e2, fun h => ?_, ?_, Q5.out.trans HI5.out, ?_, ?_, by omega⟩
              · rw [hmap]
                refine (HI3.out h).of_same (J3.out.block pb ((HI3.out h).lt) ?_)
                rintro (e | e | e | e)
                · exact hp1 e
                · exact hp2 e
                · obtain ⟨cur, hc1, _⟩ := HI3.out h
                  exact absurd e (blk_ne hc1 HI1.out.h (by decide))
                · exact hp2 e
              · intro c hc hcp
                obtain ⟨a', h1, h2⟩ := HI4.out c hc hcp
                refine ⟨a', ?_, h2⟩
                rw [← e1]
                exact List.mem_append_left _ h1
              · refine HI7.out.trans ((Keeps.mono (w := wr) (w' := w9) ⟨J3.out.os, J3.out.tape, J3.out.output, J3.out.size, J3.out.block⟩ fun b hb => ?_))
                rcases hb with e | e | e | e
                · left; exact e
                · right; left; exact e
                · right; right; left; exact e
                · right; left; exact e
              · rw [J3.out.block Dd hdl (HNV.out _ (by omega))]; exact HDD.out
            case measure => simp only [intOf]; omega
          · have hge : ¬ (t + 1 + j ≤ t + l0) := by omega
            have hge2 : t + l0 < t + 1 + j := by omega
            have hd2 : decide (((t + 1 + j : Nat) : Int) ≤ (t : Int) + (l0 : Int)) = false := by simp; omega
            go_wp2_with fail
            obtain rfl : j = l0 := by omega
            have e1 : (A1 ++ [a]) ++ A3 = A1 ++ a :: A3 := by simp
            have e2 : T g.us (A1 ++ [a]) = t + 1 + j := by rw [T_app, T, T, HT0.out, HL0.out]; omega
            refine ⟨⟨A1 ++ [a], A3, od, nw, nx, ?_, HI1.out, ?_, ?_, ?_, HI5.out, HI7.out, HDD.out, HU8.out⟩, ?_⟩
            · rw [e2]; congr 1; omega
            · rw [e1, e2]; exact HI2.out
            · rw [e1]; exact HI3.out
            · rw [e1]; exact HI4.out
            · simp only [intOf]; omega
end Go.Proofs.Ytidjfmkclabagaa
