/-
  Proved: what stands while the program's printer prints, in one bundle; calls of function values; the contracts of its put, round and list over it. Conditions: the printer as it stands in memory.
-/
import Derived.Test.YthehjeeiodbkjaaGreatDoorA01
import Derived.Test.YthehjeeiodbkjaaGreatDoorA32
import Derived.Test.YthehjeeiodbkjaaGreatDoorA02
import Derived.Test.YthehjeeiodbkjaaGreatDoorA24
import Derived.Lib.LaidTab
import Derived.Shelf.Strconv.Itoa3
set_option linter.unusedSimpArgs false
set_option linter.unusedVariables false
set_option linter.unusedSectionVars false
set_option maxRecDepth 100000
set_option maxHeartbeats 16000000
namespace Go.Proofs.YthehjeeiodbkjaaGreatDoor
open Go.RowKit
structure Gl (w : World) : Prop where
 lv : Glob w
 mx : ∃ m, w.cell? ⟨3, 0, none⟩ = some (.int .i64 m)
 tb : Lib.TabIs Tryz.prog w "internal/strconv.uint64pow10" .u64 Lib.pow10Tab
theorem gP4 : Tryz.prog.globalNamed "internal/strconv.uint64pow10" = some 4 := by kernel_rfl
abbrev Bx := Nat × Array Value × TypeId
structure Gp (B pb : Nat) (v0 : Value) (w0 : World) (l : List ByteArray) (W : World) (bs : List Bx) : Prop where
 st : ∃ v, PS B pb l v W ∧ FrP pb v0 w0 v W ∧ ∀ x ∈ bs, W.heap[x.1]? = some (.cells x.2.1 x.2.2 (0, 0)) ∧ x.1 ≠ pb ∧ v.ownBlock ≠ some x.1
 v0 : ∀ g, v0.ownBlock = some g → B ≤ g
 gl : Gl W
 g2 : 9 ≤ B
 top : B ≤ w0.heap.size
section
variable {B pb : Nat} {v0 : Value} {w0 W W' : World} {l : List ByteArray} {bs : List Bx}
theorem Gl.of (h : Gl W) (hb : ∀ b, b < 9 → W'.heap[b]? = W.heap[b]?) : Gl W' := ⟨h.lv.of (fun k => World.cell?_of_block (hb 0 (by omega))) (fun k => World.cell?_of_block (hb 2 (by omega))), h.mx.imp fun m e => (World.cell?_of_block (hb 3 (by omega))).trans e, by have := h.tb; unfold Lib.TabIs World.var? at *; rw [gP4] at *; simp only [Option.bind_some] at *; rw [hb 4 (by omega)]; exact this⟩
theorem Gp.low (h : Gp B pb v0 w0 l W bs) : B ≤ pb ∧ B ≤ W.heap.size := by obtain ⟨v, h1, -⟩ := h.st; exact ⟨h1.low, h1.top⟩
theorem Gp.below (h : Gp B pb v0 w0 l W bs) (hb : Below W.heap.size W W') : Gp B pb v0 w0 l W' bs := by
 obtain ⟨v, h1, h2, h3⟩ := h.st
 exact ⟨⟨v, h1.below hb, h2.trans (.below hb), fun x hx => ⟨blk_below (h3 x hx).1 hb (lt_of_block (h3 x hx).1), (h3 x hx).2⟩⟩, h.v0, h.gl.of fun b hb9 => hb.block b (Nat.lt_of_lt_of_le (Nat.lt_of_lt_of_le hb9 h.g2) h1.top), h.g2, h.top⟩
theorem Gp.box (h : Gp B pb v0 w0 l W bs) {c : Array Value} {t : TypeId} (e : W' = W.alloc (.cells c t)) : Gp B pb v0 w0 l W' ((W.heap.size, c, t) :: bs) := by
 have h9 := h.below (W' := W') (by rw [e]; exact balloc (Below.refl _ _) _)
 obtain ⟨v, h1, h2, h3⟩ := h9.st
 refine ⟨⟨v, h1, h2, fun x hx => ?_⟩, h9.v0, h9.gl, h9.g2, h9.top⟩
 rcases List.mem_cons.1 hx with rfl | hx
 · obtain ⟨v9, h4, h5, -⟩ := h.st
   have hv : v = v9 := by
    have := h1.row
    rw [e, Below.heap_alloc _ _ _ h4.lt, h4.row] at this
    simp at this; exact this.symm
   exact ⟨by rw [e]; exact heap_alloc_new W _, fun e2 => by have := h4.lt; simp at e2; omega, fun e2 => by rw [hv] at e2; have := (h4.own.lt _ e2).2; simp at this⟩
 · exact h3 x hx
theorem Gp.mono (h : Gp B pb v0 w0 l W bs) {cs : List Bx} (hs : ∀ x ∈ cs, x ∈ bs) : Gp B pb v0 w0 l W cs := by
 obtain ⟨v, h1, h2, h3⟩ := h.st
 exact ⟨⟨v, h1, h2, fun x hx => h3 x (hs x hx)⟩, h.v0, h.gl, h.g2, h.top⟩
theorem Gp.at (h : Gp B pb v0 w0 l W bs) {b : Nat} {c : Array Value} {t : TypeId} (hx : (b, c, t) ∈ bs) : W.heap[b]? = some (.cells c t (0, 0)) := by
 obtain ⟨v, h1, h2, h3⟩ := h.st
 exact (h3 _ hx).1
theorem Gp.set (h : Gp B pb v0 w0 l W bs) {b i : Nat} {c : Array Value} {t : TypeId} {u : Value} (hx : (b, c, t) ∈ bs) {cs : List Bx} (hs : ∀ x ∈ cs, x.1 ≠ b ∧ x ∈ bs) (hb : B ≤ b) (hw : w0.heap.size ≤ b) : Gp B pb v0 w0 l (W.setCell ⟨b, i, none⟩ u) ((b, c.setIfInBounds i u, t) :: cs) := by
 obtain ⟨v, h1, h2, h3⟩ := h.st
 obtain ⟨h4, h5, h6⟩ := h3 _ hx
 have hg := gr_set W b i u
 refine ⟨⟨v, ⟨by rw [Below.heap_setCell _ _ _ _ (Ne.symm h5)]; exact h1.row, h1.own.kept hg (.inr fun e => h6 e), h1.low, Nat.le_trans h1.top hg.size⟩, ⟨h2.os, h2.tape, h2.output, Nat.le_trans h2.size hg.size, fun b9 hb9 hp hv => ?_, h2.lies⟩, fun x hx9 => ?_⟩, h.v0, h.gl.of fun b9 hb9 => ?_, h.g2, h.top⟩
 · rw [Below.heap_setCell _ _ _ _ (by show b9 ≠ b; omega)]; exact h2.block b9 hb9 hp hv
 · rcases List.mem_cons.1 hx9 with rfl | hx9
   · exact ⟨blk_set h4 i u, h5, h6⟩
   · exact ⟨by rw [Below.heap_setCell _ _ _ _ (hs x hx9).1]; exact (h3 x (hs x hx9).2).1, (h3 x (hs x hx9).2).2⟩
 · rw [Below.heap_setCell _ _ _ _ (by have := h.g2; show b9 ≠ b; omega)]
theorem Gp.lt (h : Gp B pb v0 w0 l W bs) {x : Bx} (hx : x ∈ bs) : x.1 < W.heap.size := by
 obtain ⟨v, h1, h2, h3⟩ := h.st
 exact lt_of_block (h3 x hx).1
theorem Gp.old (h : Gp B pb v0 w0 l W bs) : w0.heap.size ≤ W.heap.size := by
 obtain ⟨v, h1, h2, h3⟩ := h.st
 exact h2.size
theorem Gp.hd {b : Nat} {c : Array Value} {t : TypeId} (h : Gp B pb v0 w0 l W ((b, c, t) :: bs)) : W.heap[b]? = some (.cells c t (0, 0)) := h.at (List.mem_cons_self ..)
theorem five {b t : Nat} {k a s q x : Value} (h : W.heap[b]? = some (.cells #[k, a, s, q, x] t (0, 0))) : W.cell? ⟨b, 0, none⟩ = some k ∧ W.cell? ⟨b, 1, none⟩ = some a ∧ W.cell? ⟨b, 2, none⟩ = some s ∧ W.cell? ⟨b, 3, none⟩ = some q ∧ W.cell? ⟨b, 4, none⟩ = some x := ⟨blk_cell h 0, blk_cell h 1, blk_cell h 2, blk_cell h 3, blk_cell h 4⟩
theorem one1 {b t : Nat} {k : Value} (h : W.heap[b]? = some (.cells #[k] t (0, 0))) : W.cell? ⟨b, 0, none⟩ = some k := blk_cell h 0
theorem Gp.cl (h : Gp B pb v0 w0 l W bs) (hB : B ≤ w0.heap.size) {b : Nat} (hb : b < B) (o : Nat) : W.cell? ⟨b, o, none⟩ = w0.cell? ⟨b, o, none⟩ := by
 obtain ⟨v, h1, h2, h3⟩ := h.st
 exact World.cell?_of_block (h2.block b (Nat.lt_of_lt_of_le hb hB) (by have := h1.low; omega) fun e => by have := h.v0 b e; omega)
theorem Gp.kid (h : Gp B pb v0 w0 l W bs) {K : List Ty} {ao : Option Addr} {cap : Nat} (hS : SlD w0 (fun b => b < B) K ao cap) (hB : B ≤ w0.heap.size) {j : Nat} (hj : j < K.length) : ∃ b p ap cp, SlD w0 (fun b => b < B) K[j].args ap cp ∧ b < W.heap.size ∧ (∀ w' : World, (Instr.indexAt 24 (.slice ao K.length cap) (.int .i64 j)).run Tryz.prog w' = .ok (.pointer (some ⟨b, p, none⟩)) w') ∧
 W.cell? ⟨b, p, none⟩ = some (.int .i64 K[j].k) ∧ W.cell? ⟨b, p + 1, none⟩ = some (.int .i64 K[j].n) ∧ W.cell? ⟨b, p + 2, none⟩ = some (.string K[j].s) ∧ W.cell? ⟨b, p + 3, none⟩ = some (.int .i64 K[j].q) ∧ W.cell? ⟨b, p + 4, none⟩ = some (.slice ap K[j].args.length cp) := by
 obtain ⟨b, p, ap, cp, hD, hix, x0, x1, x2, x3, x4, hs⟩ := arg_cells hS hj
 rw [← h.cl hB hD] at x0 x1 x2 x3 x4
 exact ⟨b, p, ap, cp, hs, Nat.lt_of_lt_of_le hD h.low.2, hix, x0, x1, x2, x3, x4⟩
def PC (n : Nat) (args : Array Value) (ws : List ByteArray) (B pb : Nat) (W : World) (bx : List Bx) : Prop :=
 ∀ v0 w0 l bs, Gp B pb v0 w0 l W bs → (∀ x ∈ bx, x ∈ bs) → jl l + jl ws ≤ 4000000000 → Calls Tryz.prog n args W fun e w' => e = .returned (.tuple #[]) ∧ Gp B pb v0 w0 (l ++ ws) w' bs
theorem put_g (ws : List ByteArray) (g o c m : Nat) (hm : m = ws.length) (h0 : 0 < m) (hc : ∀ j u, (ws.map Value.string)[j]? = some u → W.cell? ((⟨g, o, none⟩ : Addr).add j) = some u) : PC 85 #[pp pb, .slice (some ⟨g, o, none⟩) m c] ws B pb W [] := by
 intro v0 w0 l bs h _ hl
 obtain ⟨v, h1, h2, h3⟩ := h.st
 refine (put_any B pb l v W h1 ws g o c m hm h0 hc (by have := jl_len l; have := jl_len ws; omega)).mono ?_
 rintro e w' ⟨rfl, v', h4, h5⟩
 exact ⟨rfl, ⟨v', h4, h2.trans h5, fun x hx => ⟨(h5.block _ (lt_of_block (h3 x hx).1) (h3 x hx).2.1 (h3 x hx).2.2).trans (h3 x hx).1, (h3 x hx).2.1, fun e => (h5.lies _ e).elim (h3 x hx).2.2 fun h6 => by have := lt_of_block (h3 x hx).1; omega⟩⟩, h.v0, h.gl.of fun b hb => h5.block b (by have := h1.top; have := h.g2; omega) (by have := h1.low; have := h.g2; omega) fun e => by have := (h1.own.lt b e).1; have := h.g2; omega, h.g2, h.top⟩
theorem put1 (h : Gp B pb v0 w0 l W bs) (s : ByteArray) (hl : jl l + (s.size + 1) ≤ 4000000000) : Calls Tryz.prog 85 #[pp pb, .slice (some ⟨W.heap.size, 0, none⟩) 1 1] (W.alloc (.cells #[.string s] 9)) fun e w' => e = .returned (.tuple #[]) ∧ Gp B pb v0 w0 (l ++ [s]) w' bs :=
 put_g [s] W.heap.size 0 1 1 rfl (by omega) (new_cells (c := #[.string s]) _ rfl) _ _ _ _ (h.below (balloc (Below.refl _ _) _)) (by simp) (by simpa [jl] using hl)
end
theorem wpList_fn0 {P : Program} {ops : Array Oper} {rest : List Oper} {o : Oper} {a : Act} {Q : Exit → Act → World → Prop} {w : World} {n : Nat} {cp : Array Value} {R : Ending → World → Prop} {ts : Array TypeId} (hc : ∀ (x9 : Array Value) (w : World), (callFunc n x9).run P w = .ok (.enter n x9) w) (hgd : o.guard = none) (f : Operand) (ho : o.op = .call { callee := .value f, args := #[], argTypes := ts }) (hf : a.eval f = .func (.func n) #[] cp) (h : Calls P n cp w R) (k : ∀ e w', R e w' → ∃ v, e = .returned v ∧ wpList P ops Q rest (a.put o.dst v) w') : wpList P ops Q (o :: rest) a w := by
 refine wpList_plain hgd fun K hK => ?_
 unfold Oper.wp execOp
 simp only [ho, resolve, invoke, Sem.run_bind, Sem.run_pure, Result.andThen_ok, List.map_toArray, List.map_cons, List.map_nil, hf, Deferred.ofValue, hc]
 rw [Oper.upon_enter, show (#[] ++ #[] ++ cp : Array Value) = cp by simp]
 refine h.mono ?_
 intro e w' hR
 obtain ⟨v, rfl, h9⟩ := k e w' hR
 exact hK _ _ h9
theorem wpList_fn1 {P : Program} {ops : Array Oper} {rest : List Oper} {o : Oper} {a : Act} {Q : Exit → Act → World → Prop} {w : World} {n : Nat} {rv cp : Array Value} {v9 : Value} {R : Ending → World → Prop} {ts : Array TypeId} (hc : ∀ (x9 : Array Value) (w : World), (callFunc n x9).run P w = .ok (.enter n x9) w) (hgd : o.guard = none) (f x : Operand) (ho : o.op = .call { callee := .value f, args := #[x], argTypes := ts }) (hf : a.eval f = .func (.func n) rv cp) (hx : a.eval x = v9) (h : Calls P n (rv ++ #[v9] ++ cp) w R) (k : ∀ e w', R e w' → ∃ v, e = .returned v ∧ wpList P ops Q rest (a.put o.dst v) w') : wpList P ops Q (o :: rest) a w := by
 refine wpList_plain hgd fun K hK => ?_
 unfold Oper.wp execOp
 simp only [ho, resolve, invoke, Sem.run_bind, Sem.run_pure, Result.andThen_ok, List.map_toArray, List.map_cons, List.map_nil, hf, hx, Deferred.ofValue, hc]
 rw [Oper.upon_enter]
 refine h.mono ?_
 intro e w' hR
 obtain ⟨v, rfl, h9⟩ := k e w' hR
 exact hK _ _ h9
end Go.Proofs.YthehjeeiodbkjaaGreatDoor
