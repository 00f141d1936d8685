/-
  Proved: the contract of Collect's closure, which moves what a cell refers to. Condition: room for it.
-/
import Derived.Test.YtidjfmkclabagaaA1
set_option linter.unusedSimpArgs false
set_option linter.unusedVariables false
namespace Go.Proofs.Ytidjfmkclabagaa
open Go.RowKit

/-- while things are moved: which blocks, what they hold -/
structure Mv where
  hb : Nat
  ob : Nat
  nb : Nat
  x1 : Nat
  x2 : Nat
  sz : Nat
  nx : Nat
  od : List C
  nw : List C
def mrow (m : Mv) : Array Value := #[.slice (some ⟨m.nb, 0, none⟩) m.sz m.sz, .slice (some ⟨m.ob, 0, none⟩) m.sz m.sz, .int .i64 m.nx]
structure MvAt (w : World) (m : Mv) : Prop where
  h : w.heap[m.hb]? = some (.cells (mrow m) 42 (0, 0))
  o : Cells w m.ob m.od
  n : Cells w m.nb m.nw
  ol : m.od.length = m.sz
  nl : m.nw.length = m.sz
  ne : m.ob ≠ m.nb
  b1 : w.heap[m.x1]? = some (.cells #[.slice (some ⟨m.ob, 0, none⟩) m.sz m.sz] 32 (0, 0))
  b2 : w.heap[m.x2]? = some (.cells #[.pointer (some ⟨m.hb, 0, none⟩)] 23 (0, 0))
  sz : m.sz ≤ 1000000
theorem below_drewN {N : Nat} {w w1 : World} (h : Below N w w1) (n : Nat) : Below N w (w1.drewN n) := ⟨h.os, h.tape, h.output, h.size, h.block⟩
theorem MvAt.below {w w' : World} {m : Mv} (h : MvAt w m) (hb : Below w.heap.size w w') : MvAt w' m :=
  ⟨blk_below h.h hb (lt_of_block h.h), h.o.below hb h.o.lt, h.n.below hb h.n.lt, h.ol, h.nl, h.ne, blk_below h.b1 hb (lt_of_block h.b1), blk_below h.b2 hb (lt_of_block h.b2), h.sz⟩
theorem Below.both_set {N : Nat} {w w' : World} (h : Below N w w') (b i : Nat) (v : Value) (hN : N ≤ w.heap.size) : Below N (w.setCell ⟨b, i, none⟩ v) (w'.setCell ⟨b, i, none⟩ v) := by
  refine ⟨h.os, h.tape, h.output, by simpa [World.setCell] using h.size, fun k hk => ?_⟩
  by_cases hb : k = b
  · subst hb
    have e := h.block k hk
    have hlt : k < w.heap.size := Nat.lt_of_lt_of_le hk hN
    have hlt' : k < w'.heap.size := Nat.lt_of_lt_of_le hlt h.size
    rw [Array.getElem?_eq_getElem hlt, Array.getElem?_eq_getElem hlt'] at e
    have e2 := Option.some.inj e
    unfold World.setCell
    rw [Array.getElem?_eq_getElem (by simpa using hlt'), Array.getElem?_eq_getElem (by simpa using hlt)]
    simp only [Array.getElem_modify_self, e2]
  · rw [Below.heap_setCell _ _ _ _ hb, Below.heap_setCell _ _ _ _ hb]
    exact h.block k hk
theorem size_setCells (b : Nat) : ∀ (vs : List Value) (o : Nat) (w : World), (w.setCells b o vs).heap.size = w.heap.size
  | [], _, _ => rfl
  | v :: vs, o, w => by rw [World.setCells, size_setCells b vs]; simp [World.setCell]
theorem Below.both_sets {N : Nat} (b : Nat) : ∀ (vs : List Value) (o : Nat) {w w' : World}, Below N w w' → N ≤ w.heap.size → Below N (w.setCells b o vs) (w'.setCells b o vs)
  | [], _, _, _, h, _ => h
  | v :: vs, o, w, w', h, hN => by
    rw [World.setCells, World.setCells]
    exact Below.both_sets b vs (o + 1) (Below.both_set h b o v hN) (by simpa [World.setCell] using hN)
theorem heap_setCells_ne (b : Nat) : ∀ (vs : List Value) (o : Nat) (w : World) {k : Nat}, k ≠ b → (w.setCells b o vs).heap[k]? = w.heap[k]?
  | [], _, _, _, _ => rfl
  | v :: vs, o, w, k, h => by rw [World.setCells, heap_setCells_ne b vs _ _ h, Below.heap_setCell _ _ _ _ h]
theorem blk_ne {w : World} {p q : Nat} {c c' : Array Value} {t t' : TypeId} {f f' : Nat × Nat} (h : w.heap[p]? = some (.cells c t f)) (h' : w.heap[q]? = some (.cells c' t' f')) (hne : t ≠ t') : p ≠ q := fun e => by
  rw [e, h'] at h
  simp at h
  exact hne h.2.1.symm
set_option maxRecDepth 100000 in
set_option maxHeartbeats 8000000 in
theorem move_num (m : Mv) (w : World) (hm : MvAt w m) (cb co : Nat) (n : Int) (h0 : w.cell? ⟨cb, co, none⟩ = some (.bool false)) :
    Calls Try.prog 22 #[.pointer (some ⟨cb, co, none⟩), .pointer (some ⟨m.x1, 0, none⟩), .pointer (some ⟨m.x2, 0, none⟩)] w fun e w' => e = .returned (.tuple #[]) ∧ w' = w := by
  go_enter Try.func22, Try.ntmps22
  go_wp2_with fail
  exact bodyPost_ret (results_none rfl _ _ _) rfl ⟨rfl, rfl⟩
set_option maxRecDepth 100000 in
set_option maxHeartbeats 8000000 in
theorem move_old (m : Mv) (w : World) (hm : MvAt w m) (cb co a : Nat) (ha : a < m.od.length) (h0 : w.cell? ⟨cb, co, none⟩ = some (.bool true)) (h1 : w.cell? ⟨cb, co + 1, none⟩ = some (.int .i64 a)) (hf : w.frozen? ⟨cb, co + 1, none⟩ = false) (hp : m.od[a].p = true) :
    Calls Try.prog 22 #[.pointer (some ⟨cb, co, none⟩), .pointer (some ⟨m.x1, 0, none⟩), .pointer (some ⟨m.x2, 0, none⟩)] w fun e w' => e = .returned (.tuple #[]) ∧ Below w.heap.size (w.setCell ⟨cb, co + 1, none⟩ (.int .i64 m.od[a].n)) w' := by
  have lb1 := lt_of_block hm.b1
  have lb2 := lt_of_block hm.b2
  have lcb := World.block_lt_of_cell? w _ h0
  have lo := hm.o.lt
  have b1 : w.cell? ⟨m.x1, 0, none⟩ = some (.slice (some ⟨m.ob, 0, none⟩) m.sz m.sz) := blk_cell hm.b1 0
  have b2 : w.cell? ⟨m.x2, 0, none⟩ = some (.pointer (some ⟨m.hb, 0, none⟩)) := blk_cell hm.b2 0
  have hx := index_cell m.ob m.sz m.sz a (by rw [← hm.ol]; exact ha)
  have o0 := hm.o.get0 ha
  have o1 := hm.o.get1 ha
  rw [hp] at o0
  generalize hn : m.od[a].n = n at o1
  have HN := Lib.hid hn
  clear hn
  go_enter Try.func22, Try.ntmps22
  go_upto_region 1 with fail
  go_region
  go_wp2_with fail
  refine bodyPost_ret (results_none rfl _ _ _) rfl ⟨rfl, ?_⟩
  exact ((Below.refl _ _).alloc (by simp [World.setCell]) _).drew
theorem copy_cells (w : World) (ty : TypeId) (b o dCap sb so sCap n : Nat) (cs : List C) (hl : cs.length = n) (hsrc : ∀ j u, (cv cs)[j]? = some u → w.cell? ⟨sb, so * 2 + j, none⟩ = some u) (hc : ∀ j, j < n * 2 → (w.cell? ⟨b, o * 2 + j, none⟩).isSome = true) (hf : ∀ j, j < n * 2 → w.frozen? ⟨b, o * 2 + j, none⟩ = false) :
    (Builtin.copy_ #[32, 32] ty #[.slice (some ⟨b, o * 2, none⟩) n dCap, .slice (some ⟨sb, so * 2, none⟩) n sCap]).run Try.prog w = .ok (goInt n) (w.setCells b (o * 2) (cv cs)) := by
  have hcl : (cv cs).length = n * 2 := by rw [cv_len, hl]
  have hl1 := run_loadCells_list (P := Try.prog) w ⟨sb, so * 2, none⟩ (cv cs) (fun j u hu => by rw [show (⟨sb, so * 2, none⟩ : Addr).add j = ⟨sb, so * 2 + j, none⟩ from by unfold Addr.add; split <;> simp_all]; exact hsrc j u hu)
  have hst := run_storeCells_cells (P := Try.prog) b (o * 2) (cv cs) 0 w (by simpa [hcl] using hc) (by simpa [hcl] using hf) (cv_one cs)
  rw [hcl] at hl1
  have hsz := size49 w
  simp [Builtin.copy_, run_underlying Try.underlying32, Builtin.lenOf, Builtin.firstCells, hsz, hl1, hst]
set_option maxRecDepth 100000 in
set_option maxHeartbeats 8000000 in
theorem move_new (m : Mv) (w : World) (hm : MvAt w m) (cb co a n : Nat) (ha : a + n ≤ m.od.length) (hn : m.nx + n ≤ m.nw.length) (ha0 : a < m.od.length) (h0 : w.cell? ⟨cb, co, none⟩ = some (.bool true)) (h1 : w.cell? ⟨cb, co + 1, none⟩ = some (.int .i64 a)) (hf : w.frozen? ⟨cb, co + 1, none⟩ = false) (hp : m.od[a].p = false)
    (hnn : (n : Int) = 1 + m.od[a].n / 524288) (h524 : 0 ≤ m.od[a].n ∧ m.od[a].n < 4611686018427387904) (hco : cb ≠ m.nb ∨ co + 1 < m.nx * 2) (hcb : cb ≠ m.ob) (hch : cb ≠ m.hb) (hc1 : cb ≠ m.x1) (hc2 : cb ≠ m.x2) :
    Calls Try.prog 22 #[.pointer (some ⟨cb, co, none⟩), .pointer (some ⟨m.x1, 0, none⟩), .pointer (some ⟨m.x2, 0, none⟩)] w fun e w' => e = .returned (.tuple #[]) ∧
      Below w.heap.size (((((w.setCells m.nb (m.nx * 2) (cv ((m.od.drop a).take n))).setCell ⟨m.ob, a * 2, none⟩ (.bool true)).setCell ⟨m.ob, a * 2 + 1, none⟩ (.int .i64 m.nx)).setCell ⟨cb, co + 1, none⟩ (.int .i64 m.nx)).setCell ⟨m.hb, 2, none⟩ (.int .i64 ((m.nx + n : Nat) : Int))) w' := by
  have lb1 := lt_of_block hm.b1
  have lb2 := lt_of_block hm.b2
  have lcb := World.block_lt_of_cell? w _ h0
  have lo := hm.o.lt
  have ln := hm.n.lt
  have lh := lt_of_block hm.h
  have b1 : w.cell? ⟨m.x1, 0, none⟩ = some (.slice (some ⟨m.ob, 0, none⟩) m.sz m.sz) := blk_cell hm.b1 0
  have b2 : w.cell? ⟨m.x2, 0, none⟩ = some (.pointer (some ⟨m.hb, 0, none⟩)) := blk_cell hm.b2 0
  have k0 : w.cell? ⟨m.hb, 0, none⟩ = some (.slice (some ⟨m.nb, 0, none⟩) m.sz m.sz) := blk_cell hm.h 0
  have k2 : w.cell? ⟨m.hb, 2, none⟩ = some (.int .i64 m.nx) := blk_cell hm.h 2
  have hx := index_cell m.ob m.sz m.sz a (by rw [← hm.ol]; exact ha0)
  have o0 := hm.o.get0 ha0
  have o1 := hm.o.get1 ha0
  rw [hp] at o0
  generalize hv : m.od[a].n = v at o1 hnn h524
  have HV := Lib.hid hv
  clear hv
  go_enter Try.func22, Try.ntmps22
  go_upto_region 1 with fail
  go_region
  go_upto_region 4 with fail
  go_quiet (fail)
  go_upto_region 6 with fail
  obtain ⟨W, hW⟩ : ∃ W, W = ((w.alloc (.cells #[.bool false, .int .i64 v] 49)).drewN (1 + nq)) := ⟨_, rfl⟩
  rw [← hW]
  have hBW : Below w.heap.size w W := by rw [hW]; exact below_drewN ((Below.refl _ _).alloc (Nat.le_refl _) _) _
  have hsW := hBW.size
  have y0 : W.cell? ⟨cb, co, none⟩ = some (.bool true) := (hBW.cell (p := ⟨cb, co, none⟩) lcb).trans h0
  have y1 : W.cell? ⟨cb, co + 1, none⟩ = some (.int .i64 a) := (hBW.cell (p := ⟨cb, co + 1, none⟩) lcb).trans h1
  have yf : W.frozen? ⟨cb, co + 1, none⟩ = false := (hBW.frozen (p := ⟨cb, co + 1, none⟩) lcb).trans hf
  have ym : MvAt W m := hm.below hBW
  have z1 : W.cell? ⟨m.x1, 0, none⟩ = some (.slice (some ⟨m.ob, 0, none⟩) m.sz m.sz) := blk_cell ym.b1 0
  have z2 : W.cell? ⟨m.x2, 0, none⟩ = some (.pointer (some ⟨m.hb, 0, none⟩)) := blk_cell ym.b2 0
  have z3 : W.cell? ⟨m.hb, 0, none⟩ = some (.slice (some ⟨m.nb, 0, none⟩) m.sz m.sz) := blk_cell ym.h 0
  have z4 : W.cell? ⟨m.hb, 2, none⟩ = some (.int .i64 m.nx) := blk_cell ym.h 2
  have hnv : 1 + v / 524288 = (n : Int) := by omega
  have hal : a + n ≤ m.sz := by rw [← hm.ol]; exact ha
  have hnl : m.nx + n ≤ m.sz := by rw [← hm.nl]; exact hn
  have hsz := hm.sz
  have hn1 : 1 ≤ n := by have := h524.1; omega
  have e1 : ¬ m.sz = m.nx := by omega
  have e2 : ¬ m.sz = a := by omega
  have hcp : ∀ ty, (Builtin.copy_ #[32, 32] ty #[.slice (some ⟨m.nb, m.nx * 2, none⟩) n (m.sz - m.nx), .slice (some ⟨m.ob, a * 2, none⟩) n (m.sz - a)]).run Try.prog W.drew = .ok (goInt n) (W.drew.setCells m.nb (m.nx * 2) (cv ((m.od.drop a).take n))) := by
    intro ty
    have hol := ym.ol
    have hnl' := ym.nl
    refine copy_cells W.drew ty m.nb m.nx _ m.ob a _ n _ (by simp; omega) ?_ ?_ ?_
    · intro j u hu
      have hb : W.heap[m.ob]? = some (.cells (cvA m.od) 49 (0, 0)) := ym.o
      have h2 : W.drew.cell? ⟨m.ob, a * 2 + j, none⟩ = (cvA m.od)[a * 2 + j]? := blk_cell hb _
      rw [h2, List.getElem?_toArray]
      have hlt : j < n * 2 := by
        have := (List.getElem?_eq_some_iff.1 hu).1
        rw [cv_len] at this
        simp at this
        omega
      rw [← cv_take, ← cv_drop, List.getElem?_take, if_pos hlt, List.getElem?_drop] at hu
      exact hu
    · intro j hj
      have hb : W.heap[m.nb]? = some (.cells (cvA m.nw) 49 (0, 0)) := ym.n
      have h2 : W.drew.cell? ⟨m.nb, m.nx * 2 + j, none⟩ = (cvA m.nw)[m.nx * 2 + j]? := blk_cell hb _
      rw [h2, List.getElem?_toArray, List.getElem?_eq_getElem (by rw [cv_len]; omega)]
      rfl
    · intro j hj
      have hb : W.heap[m.nb]? = some (.cells (cvA m.nw) 49 (0, 0)) := ym.n
      exact blk_free (w := W.drew) hb _
  rw [hnv]
  have hb1 : a + n ≤ 1000000 := by omega
  have hb2 : m.nx + n ≤ 1000000 := by omega
  have HM := Lib.hid hm
  have YM := Lib.hid ym
  have HBW := Lib.hid hBW
  have HNN := Lib.hid hnn
  have HCO := Lib.hid hco
  have lW1 : m.nb < W.heap.size := by omega
  have lW2 : m.ob < W.heap.size := by omega
  have lW3 : m.hb < W.heap.size := by omega
  have lW4 : cb < W.heap.size := Nat.lt_of_lt_of_le lcb hsW
  clear hW hm ym hBW hnn h524 hco b1 b2 k0 k2 o0 o1 h0 h1 hf hnv ha hn HV hp lb1 lb2 lcb lo ln lh
  go_region
  obtain ⟨V, hV⟩ : ∃ V, V = W.drew.setCells m.nb (m.nx * 2) (cv ((m.od.drop a).take n)) := ⟨_, rfl⟩
  rw [← hV]
  have hol := YM.out.ol
  have hcl : (cv ((m.od.drop a).take n)).length = n * 2 := by rw [cv_len]; simp; omega
  have hsV : V.heap.size = W.heap.size := by rw [hV]; exact size_setCells _ _ _ W.drew
  have hVne : ∀ k, k ≠ m.nb → V.heap[k]? = W.heap[k]? := fun k hk => by rw [hV]; exact heap_setCells_ne _ _ _ W.drew hk
  have hBV : Below w.heap.size (w.setCells m.nb (m.nx * 2) (cv ((m.od.drop a).take n))) V := by rw [hV]; exact Below.both_sets _ _ _ (HBW.out.drew) (Nat.le_refl _)
  have n1 : m.x1 ≠ m.nb := blk_ne YM.out.b1 YM.out.n (by decide)
  have n2 : m.x2 ≠ m.nb := blk_ne YM.out.b2 YM.out.n (by decide)
  have n3 : m.hb ≠ m.nb := blk_ne YM.out.h YM.out.n (by decide)
  have n4 : m.ob ≠ m.nb := YM.out.ne
  have v1 : V.cell? ⟨m.x1, 0, none⟩ = some (.slice (some ⟨m.ob, 0, none⟩) m.sz m.sz) := blk_cell ((hVne _ n1).trans YM.out.b1) 0
  have v2 : V.cell? ⟨m.x2, 0, none⟩ = some (.pointer (some ⟨m.hb, 0, none⟩)) := blk_cell ((hVne _ n2).trans YM.out.b2) 0
  have v4 : V.cell? ⟨m.hb, 2, none⟩ = some (.int .i64 m.nx) := blk_cell ((hVne _ n3).trans YM.out.h) 2
  have v5 : V.frozen? ⟨m.hb, 2, none⟩ = false := blk_free ((hVne _ n3).trans YM.out.h) 2
  have vo : Cells V m.ob m.od := (hVne _ n4).trans YM.out.o
  have o0 := vo.get0 ha0
  have o1 := vo.get1 ha0
  have of0 := vo.free (a * 2)
  have of1 := vo.free (a * 2 + 1)
  have u1 : V.cell? ⟨cb, co + 1, none⟩ = some (.int .i64 a) := by
    rw [hV, World.cell?_setCells_out]
    · exact y1
    · intro e _
      rw [hcl]
      rcases HCO.out with h | h
      · exact absurd e h
      · left; exact h
  have u2 : V.frozen? ⟨cb, co + 1, none⟩ = false := by rw [hV, World.frozen?_setCells]; exact yf
  have HBV := Lib.hid hBV
  have HVN := Lib.hid hVne
  have q1 : m.hb ≠ m.ob := blk_ne YM.out.h YM.out.o (by decide)
  have q2 : m.x1 ≠ m.ob := blk_ne YM.out.b1 YM.out.o (by decide)
  have q3 : m.x2 ≠ m.ob := blk_ne YM.out.b2 YM.out.o (by decide)
  have q4 : m.x2 ≠ m.hb := blk_ne YM.out.b2 YM.out.h (by decide)
  rw [← hsV] at lW1 lW2 lW3 lW4
  clear hV hBV hVne hcp hol hcl y0 y1 yf z1 z2 z3 z4 hal hnl hsz e1 e2 hsW
  go_upto_region 7 with fail
  go_region
  have r1 : ¬ (m.ob = cb) := fun e => hcb e.symm
  have r2 : ¬ (m.ob = m.x2) := fun e => q3 e.symm
  have r3 : ¬ (m.ob = m.hb) := fun e => q1 e.symm
  have r4 : ¬ (cb = m.x2) := hc2
  have r5 : ¬ (cb = m.hb) := hch
  have r6 : ¬ (cb = m.ob) := hcb
  have r7 : ¬ (m.x2 = m.ob) := q3
  have r8 : ¬ (m.hb = m.ob) := q1
  have r9 : ¬ (m.x2 = cb) := fun e => hc2 e.symm
  have r10 : ¬ (m.hb = cb) := fun e => hch e.symm
  go_wp2_with fail
  go_end0
  refine ⟨rfl, ?_⟩
  rw [show ((m.nx + n : Nat) : Int) = (m.nx : Int) + (n : Int) by omega]
  have g0 : w.heap.size ≤ (w.setCells m.nb (m.nx * 2) (cv ((m.od.drop a).take n))).heap.size := by rw [size_setCells]; exact Nat.le_refl _
  have g1 := Below.both_set HBV.out m.ob (a * 2) (.bool true) g0
  have g2 := Below.both_set g1 m.ob (a * 2 + 1) (.int .i64 m.nx) (by simpa [World.setCell] using g0)
  have g3 := Below.both_set g2 cb (co + 1) (.int .i64 m.nx) (by simpa [World.setCell] using g0)
  exact (Below.both_set g3 m.hb 2 (.int .i64 ((m.nx : Int) + (n : Int))) (by simpa [World.setCell] using g0)).drew
end Go.Proofs.Ytidjfmkclabagaa
