/-
  Proved: Proved: what is left at the door of a function that reads within. No condition.; Proved: the contracts of the closure that catches a slip. No condition.. Conditions: .
-/
import Derived.Test.YthehjeeiodbkjaaGreatDoorE19
import Derived.Defers
import Derived.Recover
import Derived.BigRegion
set_option linter.unusedSimpArgs false
set_option linter.unusedVariables false
set_option maxRecDepth 100000
set_option maxHeartbeats 16000000
namespace Go.Proofs.YthehjeeiodbkjaaGreatDoor
open Go.RowKit
theorem leaves_end {fn : Func} {tmps : Array Value} {R : Ending → World → Prop} {b i d : Nat} {E : Env} {w : World} {u : FrameMode} (hu : u ≠ .run) (hr : Rd E w i (d + 1)) (hc : w.heap[b]? = some (.cells #[.pointer (some ⟨E.rb, 0, none⟩)] 42 (0, 0))) (h : Leaves Tryz.prog fn tmps R [] (settle u) (w.setCell ⟨E.rb, 4, none⟩ (.int .i64 (d : Int)))) :
 Leaves Tryz.prog fn tmps R [{ target := Target.fn (Fn.func 72) #[.pointer (some ⟨b, 0, none⟩)], args := #[] }] u w := by
 refine leaves_cons (f := 72) (args := #[.pointer (some ⟨b, 0, none⟩)]) hu (by simp [go_sem]) ?_
 refine (end_any E w i d b u hr hc).mono ?_
 rintro e u' w'' ⟨rfl, rfl, rfl⟩
 exact h
/-- behind a panic -/
theorem dleave_bad {E : Env} {d d1 k a b i' : Nat} (hdd : d1 = d + 1) {w W : World} {fn : Func} {tmps : Array Value} {T : Res Ty} {Q : Ty → Value → World → Prop} (hg : w.grownBy W (some E.rb)) (hT : T = .bad k a) (hr : Rd E W i' d1) (hc : W.heap[b]? = some (.cells #[.pointer (some ⟨E.rb, 0, none⟩)] 42 (0, 0))) :
 Leaves Tryz.prog fn tmps (PPost E d w T Q) [{ target := Target.fn (Fn.func 72) #[.pointer (some ⟨b, 0, none⟩)], args := #[] }] (.panicking (slipV k a)) W := by
 subst hdd
 exact leaves_end (by intro h; cases h) hr hc (PPost.bad (gr_trans hg (gr_set _ _ _ _)) hT (hr.setd (d' := d) (by have := hr.d60; omega)))
/-- behind a return -/
theorem dleave_ok {E : Env} {d d1 b j : Nat} (hdd : d1 = d + 1) {w W : World} {fn : Func} {t : Tmp} (hres : fn.results = #[.cell t 26]) {tmps : Array Value} (ht : tmps.getD t undef = .pointer (some ⟨w.heap.size, 0, none⟩)) {T : Res Ty} {x : Ty} {ao : Option Addr} {cap : Nat} (hrb : E.rb < w.heap.size) (f1 : TB W w.heap.size x ao cap) (hg : w.grownBy W (some E.rb)) (hT : T = .ok x j) (hr : Rd E W j d1) (hq : NdQ w x (.agg (rowOf x ao cap)) W) (hc : W.heap[b]? = some (.cells #[.pointer (some ⟨E.rb, 0, none⟩)] 42 (0, 0))) :
 Leaves Tryz.prog fn tmps (PPost E d w T (NdQ w)) [{ target := Target.fn (Fn.func 72) #[.pointer (some ⟨b, 0, none⟩)], args := #[] }]   .returning W := by
 subst hdd
 refine leaves_end (by intro h; cases h) hr hc ?_
 refine ⟨_, res_ty hres ht (blk_set_ne f1 (by omega) 4 _), PPost.ok (gr_trans hg (gr_set _ _ _ _)) hT ?_ (hr.setd (d' := d) (by have := hr.d60; omega))⟩
 obtain ⟨ao', cap', e, hs⟩ := hq
 refine ⟨ao', cap', e, (hs.keep fun b hb off => World.cell?_of_block (a := ⟨b, off, none⟩) (blk_set_ne rfl (by have := hb.1; show b ≠ E.rb; omega) 4 _)).mono fun b hb => ⟨hb.1, by rw [World.size_setCell]; exact hb.2⟩⟩
/-- the post of a body that reads within: what stands behind a panic does not look at the slots -/
def bodyPostE (fn : Func) (E : Env) (d : Nat) (w : World) (T : Res Ty) : Exit → Act → World → Prop
 | .normal, a, W | .ret, a, W => Leaves Tryz.prog fn a.tmps (PPost E d w T (NdQ w)) a.defers .returning W
 | .panic chain, a, W => ∃ b k q i', a.defers = [{ target := Target.fn (Fn.func 72) #[.pointer (some ⟨b, 0, none⟩)], args := #[] }] ∧ chain = slipV k q ∧ w.grownBy W (some E.rb) ∧ T = .bad k q ∧ Rd E W i' (d + 1) ∧ W.heap[b]? = some (.cells #[.pointer (some ⟨E.rb, 0, none⟩)] 42 (0, 0))
 | _, _, _ => False
theorem bodyPostE_le (fn : Func) (E : Env) (d : Nat) (w : World) (T : Res Ty) : ∀ e a W, bodyPostE fn E d w T e a W → bodyPostD Tryz.prog fn (PPost E d w T (NdQ w)) e a W := by
 intro e a W h
 cases e with
 | normal => exact h
 | ret => exact h
 | panic chain =>
  obtain ⟨b, k, q, i', hd, rfl, hg, hT, hr, hc⟩ := h
  show Leaves _ _ _ _ a.defers _ _
  rw [hd]
  exact dleave_bad rfl hg hT hr hc
 | exit id => exact h.elim
 | goto l => exact h.elim
 | outgrown => exact h.elim
theorem bad_E {E : Env} {d d1 k q b i' : Nat} (hdd : d1 = d + 1) {w W : World} {fn : Func} {tmps : Array Value} {T : Res Ty} (hg : w.grownBy W (some E.rb)) (hT : T = .bad k q) (hr : Rd E W i' d1) (hc : W.heap[b]? = some (.cells #[.pointer (some ⟨E.rb, 0, none⟩)] 42 (0, 0))) :
 bodyPostE fn E d w T (.panic (slipV k q)) { tmps := tmps, defers := [{ target := Target.fn (Fn.func 72) #[.pointer (some ⟨b, 0, none⟩)], args := #[] }] } W := by
 subst hdd
 exact ⟨b, k, q, i', rfl, rfl, hg, hT, hr, hc⟩
theorem ret_E {E : Env} {d d1 b j : Nat} (hdd : d1 = d + 1) {w W : World} {fn : Func} {t : Tmp} (hres : fn.results = #[.cell t 26]) {tmps : Array Value} (ht : tmps.getD t undef = .pointer (some ⟨w.heap.size, 0, none⟩)) {T : Res Ty} {x : Ty} {ao : Option Addr} {cap : Nat} (hrb : E.rb < w.heap.size) (f1 : TB W w.heap.size x ao cap) (hg : w.grownBy W (some E.rb)) (hT : T = .ok x j) (hr : Rd E W j d1) (hq : NdQ w x (.agg (rowOf x ao cap)) W) (hc : W.heap[b]? = some (.cells #[.pointer (some ⟨E.rb, 0, none⟩)] 42 (0, 0))) :
 bodyPostE fn E d w T .ret { tmps := tmps, defers := [{ target := Target.fn (Fn.func 72) #[.pointer (some ⟨b, 0, none⟩)], args := #[] }] } W := dleave_ok hdd hres ht hrb f1 hg hT hr hq hc
/-- the same, where nothing may have been deferred as yet -/
def bodyPostF (fn : Func) (E : Env) (d : Nat) (w : World) (T : Res Ty) : Exit → Act → World → Prop
 | .normal, a, W | .ret, a, W => Leaves Tryz.prog fn a.tmps (PPost E d w T (NdQ w)) a.defers .returning W
 | .panic chain, a, W => (a.defers = [] ∧ PPost E d w T (NdQ w) (.panicked chain) W) ∨ bodyPostE fn E d w T (.panic chain) a W
 | _, _, _ => False
theorem bodyPostF_le (fn : Func) (E : Env) (d : Nat) (w : World) (T : Res Ty) : ∀ e a W, bodyPostF fn E d w T e a W → bodyPostD Tryz.prog fn (PPost E d w T (NdQ w)) e a W := by
 intro e a W h
 cases e with
 | normal => exact h
 | ret => exact h
 | panic chain =>
  rcases h with ⟨hd, hp⟩ | h
  · show Leaves _ _ _ _ a.defers _ _
    rw [hd]
    exact hp
  · exact bodyPostE_le fn E d w T _ a W h
 | exit id => exact h.elim
 | goto l => exact h.elim
 | outgrown => exact h.elim
theorem bad_F {E : Env} {d d1 k q b i' : Nat} (hdd : d1 = d + 1) {w W : World} {fn : Func} {tmps : Array Value} {T : Res Ty} (hg : w.grownBy W (some E.rb)) (hT : T = .bad k q) (hr : Rd E W i' d1) (hc : W.heap[b]? = some (.cells #[.pointer (some ⟨E.rb, 0, none⟩)] 42 (0, 0))) :
 bodyPostF fn E d w T (.panic (slipV k q)) { tmps := tmps, defers := [{ target := Target.fn (Fn.func 72) #[.pointer (some ⟨b, 0, none⟩)], args := #[] }] } W := .inr (bad_E hdd hg hT hr hc)
theorem bad_N {E : Env} {d k q i' : Nat} {w W : World} {fn : Func} {tmps : Array Value} {T : Res Ty} (hg : w.grownBy W (some E.rb)) (hT : T = .bad k q) (hr : Rd E W i' d) :
 bodyPostF fn E d w T (.panic (slipV k q)) { tmps := tmps, defers := [] } W := .inl ⟨rfl, PPost.bad hg hT hr⟩
theorem ret_N {E : Env} {d j : Nat} {w W : World} {fn : Func} {t : Tmp} (hres : fn.results = #[.cell t 26]) {tmps : Array Value} (ht : tmps.getD t undef = .pointer (some ⟨w.heap.size, 0, none⟩)) {T : Res Ty} {x : Ty} {ao : Option Addr} {cap : Nat} (f1 : TB W w.heap.size x ao cap) (hg : w.grownBy W (some E.rb)) (hT : T = .ok x j) (hr : Rd E W j d) (hq : NdQ w x (.agg (rowOf x ao cap)) W) :
 bodyPostF fn E d w T .ret { tmps := tmps, defers := [] } W := ⟨_, res_ty hres ht f1, PPost.ok hg hT hq hr⟩
theorem ret_F {E : Env} {d d1 b j : Nat} (hdd : d1 = d + 1) {w W : World} {fn : Func} {t : Tmp} (hres : fn.results = #[.cell t 26]) {tmps : Array Value} (ht : tmps.getD t undef = .pointer (some ⟨w.heap.size, 0, none⟩)) {T : Res Ty} {x : Ty} {ao : Option Addr} {cap : Nat} (hrb : E.rb < w.heap.size) (f1 : TB W w.heap.size x ao cap) (hg : w.grownBy W (some E.rb)) (hT : T = .ok x j) (hr : Rd E W j d1) (hq : NdQ w x (.agg (rowOf x ao cap)) W) (hc : W.heap[b]? = some (.cells #[.pointer (some ⟨E.rb, 0, none⟩)] 42 (0, 0))) :
 bodyPostF fn E d w T .ret { tmps := tmps, defers := [{ target := Target.fn (Fn.func 72) #[.pointer (some ⟨b, 0, none⟩)], args := #[] }] } W := dleave_ok hdd hres ht hrb f1 hg hT hr hq hc
abbrev set2 (W : World) (b : Nat) (x y : Nat) : World := (W.setCell ⟨b, 0, none⟩ (.int .i64 (x : Int))).setCell ⟨b, 1, none⟩ (.int .i64 (y : Int))
/-- what the closure leaves behind a slip -/
def CatchP (nb fb k a : Nat) (w w' : World) : Prop := Below nb w w' ∧ w'.heap[nb]? = some (.cells zeroRow 26 (0, 0)) ∧ w'.heap[fb]? = some (.cells #[.int .i64 (k : Int), .int .i64 (a : Int)] 29 (0, 0))
theorem catch_end {nb fb k a : Nat} {w W : World} {r0 r1 c0 c1 c2 c3 c4 : Value} (bW : Below w.heap.size w W) (l1 : nb < w.heap.size) (l2 : fb < w.heap.size) (hlt : nb < fb) (rn : W.heap[nb]? = some (.cells #[c0, c1, c2, c3, c4] 26 (0, 0))) (rf : W.heap[fb]? = some (.cells #[r0, r1] 29 (0, 0))) : CatchP nb fb k a w (set2 (set5 W nb (.mk 0 0 ⟨#[]⟩ 0 []) none 0) fb k a).drew := by
 obtain ⟨Y, hY⟩ : ∃ Y, Y = set5 W nb (.mk 0 0 ⟨#[]⟩ 0 []) none 0 := ⟨_, rfl⟩
 have b1 : Below nb w Y := by rw [hY]; exact below_set5 (bW.mono (by omega)) (Nat.le_refl nb)
 have b2 : Y.heap[nb]? = some (.cells zeroRow 26 (0, 0)) := by rw [hY]; exact TB.set (W := W) rn (.mk 0 0 ⟨#[]⟩ 0 []) none 0
 have b3 : Y.heap[fb]? = some (.cells #[r0, r1] 29 (0, 0)) := by rw [hY]; exact set5_ne rf (by omega)
 rw [← hY]
 clear hY
 obtain ⟨Z, hZ⟩ : ∃ Z, Z = set2 Y fb k a := ⟨_, rfl⟩
 have d1 : Below nb w Z := by rw [hZ]; exact (b1.setCell (p := ⟨fb, 0, none⟩) (Nat.le_of_lt hlt) _).setCell (p := ⟨fb, 1, none⟩) (Nat.le_of_lt hlt) _
 have d2 : Z.heap[nb]? = some (.cells zeroRow 26 (0, 0)) := by rw [hZ]; exact blk_set_ne (blk_set_ne b2 (by omega) 0 _) (by omega) 1 _
 have d3 : Z.heap[fb]? = some (.cells #[.int .i64 (k : Int), .int .i64 (a : Int)] 29 (0, 0)) := by rw [hZ]; exact blk_set (blk_set b3 0 _) 1 _
 rw [← hZ]
 exact ⟨d1.drew, d2, d3⟩
theorem catch_slip (nb fb k a : Nat) (r0 r1 : Value) (c0 c1 c2 c3 c4 : Value) (w : World) (hn : w.heap[nb]? = some (.cells #[c0, c1, c2, c3, c4] 26 (0, 0))) (hf : w.heap[fb]? = some (.cells #[r0, r1] 29 (0, 0))) (hlt : nb < fb) :
 CallsD Tryz.prog 34 #[.pointer (some ⟨nb, 0, none⟩), .pointer (some ⟨fb, 0, none⟩)] (.panicking (slipV k a)) w fun e u' w' => e = .returned (.tuple #[]) ∧ u' = .panicking [{ v := .iface 65 (.agg #[.int .i64 (k : Int), .int .i64 (a : Int)]), recovered := true }] ∧ CatchP nb fb k a w w' := by
 have hta : ∀ w' : World, (Instr.typeAssert (.iface 65 (.agg #[.int .i64 (k : Int), .int .i64 (a : Int)])) 20 65 true).run Tryz.prog w' = .ok (.tuple #[.agg #[.int .i64 (k : Int), .int .i64 (a : Int)], .bool true]) w' := fun w' => by kernel_rfl
 refine callsD_of_wpS Tryz.func34 rfl fun c₀ cs hu => ?_
 simp only [Tryz.ntmps34, List.size_toArray, List.length_cons, List.length_nil, Nat.reduceAdd, Nat.reduceSub, Array.replicate_succ, Array.replicate_zero, List.push_toArray, List.append_toArray, List.nil_append, List.cons_append]
 apply wpS_seq
 apply wpS_region
 unfold slipV at hu
 simp [wpOpsS, go_sem, recoverD, hu, Tryz.ntmps34, Exit.thenS]
 refine wpS_of_wp ?_
 have n1 : ¬ (nb = fb) := by omega
 have n2 : ¬ (fb = nb) := by omega
 have l1 := lt_of_block hn
 have l2 := lt_of_block hf
 have HN := lh hn
 have HF := lh hf
 clear hn hf
 go_upto_region 7 with fail
 obtain ⟨W, hW⟩ : ∃ W, W = w.alloc (.cells #[.int .i64 (k : Int), .int .i64 (a : Int)] 65) := ⟨_, rfl⟩
 have bW : Below w.heap.size w W := by rw [hW]; exact balloc (Below.refl _ _) _
 have rW : W.heap[w.heap.size]? = some (.cells #[.int .i64 (k : Int), .int .i64 (a : Int)] 65 (0, 0)) := by rw [hW]; exact heap_alloc_new w _
 rw [← hW]
 have rn := blk_below HN.out bW l1
 have rf := blk_below HF.out bW l2
 have HBW := lh bW
 have HRN := lh rn
 have HRF := lh rf
 obtain ⟨⟨x0, x1, x2, x3, x4⟩, ⟨z0, z1, z2, z3, z4⟩⟩ := five_cells rn
 have y0 : W.cell? ⟨fb, 0, none⟩ = some r0 := blk_cell rf 0
 have y1 : W.cell? ⟨fb, 1, none⟩ = some r1 := blk_cell rf 1
 have q0 := blk_free rf 0
 have q1 := blk_free rf 1
 obtain ⟨pb, hpb⟩ : ∃ pb, pb = w.heap.size := ⟨_, rfl⟩
 rw [← hpb] at rW ⊢
 have s0 : W.cell? ⟨pb, 0, none⟩ = some (.int .i64 (k : Int)) := blk_cell rW 0
 have s1 : W.cell? ⟨pb, 1, none⟩ = some (.int .i64 (a : Int)) := blk_cell rW 1
 have n3 : ¬ (nb = pb) := by omega
 have n4 : ¬ (fb = pb) := by omega
 have n5 : ¬ (pb = nb) := by omega
 have n6 : ¬ (pb = fb) := by omega
 have C1 : CatchP nb fb k a w (set2 (set5 W nb (.mk 0 0 ⟨#[]⟩ 0 []) none 0) fb k a).drew := catch_end bW l1 l2 hlt rn rf
 have HC1 := lh C1
 clear hW bW rW rn rf hpb C1
 go_region
 all_goals exact ⟨rfl, _, rfl, .tuple #[], results_none rfl _ _ _, rfl, rfl, HC1.out⟩
/-- behind a return nothing is caught -/
theorem catch_none (nb fb : Nat) (w : World) :
 CallsD Tryz.prog 34 #[.pointer (some ⟨nb, 0, none⟩), .pointer (some ⟨fb, 0, none⟩)] .returning w fun e u' w' => e = .returned (.tuple #[]) ∧ u' = .returning ∧ w' = w := by
 refine callsD_of_wpS Tryz.func34 rfl fun c₀ cs hu => ?_
 simp only [Tryz.ntmps34, List.size_toArray, List.length_cons, List.length_nil, Nat.reduceAdd, Nat.reduceSub, Array.replicate_succ, Array.replicate_zero, List.push_toArray, List.append_toArray, List.nil_append, List.cons_append]
 apply wpS_seq
 apply wpS_region
 simp [wpOpsS, go_sem, recoverD, hu, Tryz.ntmps34, Exit.thenS]
 refine wpS_of_wp ?_
 go_wp2_with fail
 refine ⟨rfl, _, ?_, .tuple #[], results_none rfl _ _ _, rfl, hu, rfl⟩
 rfl
end Go.Proofs.YthehjeeiodbkjaaGreatDoor
