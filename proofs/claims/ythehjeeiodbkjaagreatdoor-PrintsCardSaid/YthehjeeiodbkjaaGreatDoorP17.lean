/-
  Proved: what the program's readers answer; the case of a text whose tokens are not read; the contract of the program's read, and so of Parse, ParseExp, ParsePat, ParseType; the contracts of the program's four readers of a text; the contract of the document's begun: a reader of a text; the contract of the document's done: the tree, or the fault; the contracts of the document's four readers of a text; the contract of the law's told: what the document's readers answer; the tokens of words with a qn between; that what the lexer tells is names, numbers, strings; the tokens that the lexer tells are names, numbers and strings by themselves; no reader goes beyond the last token; no fault has the kind 0; what may follow; what a level reads; from a level to the one below; THE PLAIN LAW OF AGAIN for texts: what a text's answer is, its words, what the joined words' answer is. Conditions: the tables as they stand in memory; the reader as it stands in memory; where the lexer has no fault, the last token is the end; the tokens.
-/
import Derived.Test.YthehjeeiodbkjaaGreatDoorP16
import Derived.Test.YthehjeeiodbkjaaGreatDoorP06
import Derived.Test.YthehjeeiodbkjaaGreatDoorP12
import Derived.Test.YthehjeeiodbkjaaGreatDoorP13
import Derived.Test.YthehjeeiodbkjaaGreatDoorP15
import Derived.Test.YthehjeeiodbkjaaGreatDoorP14
import Derived.Test.YthehjeeiodbkjaaGreatDoorP05
import Derived.Test.YthehjeeiodbkjaaGreatDoorP01
import Derived.Test.YthehjeeiodbkjaaGreatDoorP03
import Derived.Deep.RegionLaw
import Derived.StillTailTactics
import Derived.WalkSpells
import Derived.BigRegion
set_option linter.unusedSimpArgs false
set_option linter.unusedVariables false
set_option linter.unusedSectionVars false
set_option maxRecDepth 100000
set_option maxHeartbeats 16000000
namespace Go.Proofs.YthehjeeiodbkjaaGreatDoor
open Go.RowKit
def zeroT : Ty := .mk 0 0 ⟨#[]⟩ 0 []
def vh (s : ByteArray) (m : Src → M Ty) : Ty × Nat × Nat :=
 if (jH s).2.1 = 1 ∨ (jH s).2.1 = 2 then (zeroT, (jH s).2) else match vu (qA s) (m (qA s)) with
  | .ok n _ => (n, 0, 0)
  | .bad k a => (zeroT, k, a)
def vz (A : Ty × Nat × Nat) (w : World) (e : Ending) (w' : World) : Prop :=
 ∃ ao cap, e = .returned (.tuple #[.agg (jh A.1 ao cap), .agg #[.int .i64 A.2.1, .int .i64 A.2.2]]) ∧ Below w.heap.size w w' ∧ SlD w' (fun b => w.heap.size ≤ b ∧ b < w'.heap.size) A.1.args ao cap
theorem kx {fn : Func} {t u : Tmp} (h : fn.results = #[.cell t 26, .cell u 29]) {tmps : Array Value} {w : World} {nb fb : Nat} {p : Ty} {ao : Option Addr} {cap : Nat} {x y : Value} (ht : tmps.getD t undef = .pointer (some ⟨nb, 0, none⟩)) (hu : tmps.getD u undef = .pointer (some ⟨fb, 0, none⟩)) (hn : w.heap[nb]? = some (.cells (jh p ao cap) 26 (0, 0))) (hf : w.heap[fb]? = some (.cells #[x, y] 29 (0, 0))) :
 (results fn tmps).run Tryz.prog w = .ok (.tuple #[.agg (jh p ao cap), .agg #[x, y]]) w := by
 have ht' : tmps[t]?.getD undef = .pointer (some ⟨nb, 0, none⟩) := by simpa using ht
 have hu' : tmps[u]?.getD undef = .pointer (some ⟨fb, 0, none⟩) := by simpa using hu
 have e1 := run_loadVar_row (P := Tryz.prog) w nb 26 26 (jh p ao cap) (0, 0) _ hn Tryz.underlying26 rfl (by kernel_rfl);have e2 := run_loadVar_row (P := Tryz.prog) w fb 29 29 #[x, y] (0, 0) _ hf Tryz.underlying29 rfl (by kernel_rfl);simp [results, h, ht', hu', asAddr, e1, e2]
structure TabOk (w : World) : Prop where
 gl : Glob w
 so : Sorts w
 sz : 2 < w.heap.size
theorem TabOk.below {w w' : World} (h : TabOk w) (hb : Below w.heap.size w w') : TabOk w' :=
 ⟨h.gl.of (fun k => hb.cell (p := ⟨0, k, none⟩) (by have := h.sz; show 0 < _; omega)) (fun k => hb.cell (p := ⟨2, k, none⟩) (by have := h.sz; show 2 < _; omega)), h.so.below hb (by have := h.sz; omega), Nat.lt_of_lt_of_le h.sz hb.size⟩
def rdRow0 : Array Value := #[.slice none 0 0, .int .i64 0, .int .i64 0, .int .i64 0, .int .i64 0]
theorem rd_made (w : World) : ∃ W, W = ((w.alloc (.cells ju 26)).alloc (.cells #[.int .i64 0, .int .i64 0] 29)).alloc (.cells rdRow0 63) ∧ Below w.heap.size w W ∧ W.heap.size = w.heap.size + 3 ∧ W.heap[w.heap.size]? = some (.cells ju 26 (0, 0)) ∧ W.heap[w.heap.size + 1]? = some (.cells #[.int .i64 0, .int .i64 0] 29 (0, 0)) ∧ W.heap[w.heap.size + 1 + 1]? = some (.cells rdRow0 63 (0, 0)) := by
 obtain ⟨W1, hW1⟩ : ∃ W1, W1 = w.alloc (.cells ju 26) := ⟨_, rfl⟩
 obtain ⟨W2, hW2⟩ : ∃ W2, W2 = W1.alloc (.cells #[.int .i64 0, .int .i64 0] 29) := ⟨_, rfl⟩
 obtain ⟨W, hW⟩ : ∃ W, W = W2.alloc (.cells rdRow0 63) := ⟨_, rfl⟩
 have s1 : W1.heap.size = w.heap.size + 1 := by rw [hW1, World.size_alloc]
 have s2 : W2.heap.size = w.heap.size + 1 + 1 := by rw [hW2, World.size_alloc, s1]
 have s3 : W.heap.size = w.heap.size + 3 := by rw [hW, World.size_alloc, s2]
 have hb1 : Below w.heap.size w W1 := by rw [hW1]; exact jk (Below.refl _ _) _
 have hb2 : Below w.heap.size w W2 := by rw [hW2]; exact jk hb1 _
 refine ⟨W, by rw [hW, hW2, hW1], by rw [hW]; exact jk hb2 _, s3, ?_, ?_, ?_⟩
 · rw [hW]; refine js ?_ _; rw [hW2]; refine js ?_ _; rw [hW1]; exact heap_alloc_new w _
 · rw [hW]; refine js ?_ _; rw [hW2, ← s1]; exact heap_alloc_new W1 _
 · rw [hW, ← s2]; exact heap_alloc_new W2 _
theorem rd_cells {w : World} {b : Nat} {v0 v1 v2 v3 v4 : Value} (h : w.heap[b]? = some (.cells #[v0, v1, v2, v3, v4] 63 (0, 0))) : (w.cell? ⟨b, 0, none⟩ = some v0 ∧ w.cell? ⟨b, 1, none⟩ = some v1 ∧ w.cell? ⟨b, 2, none⟩ = some v2 ∧ w.cell? ⟨b, 3, none⟩ = some v3 ∧ w.cell? ⟨b, 4, none⟩ = some v4) ∧ (w.frozen? ⟨b, 0, none⟩ = false ∧ w.frozen? ⟨b, 1, none⟩ = false ∧ w.frozen? ⟨b, 2, none⟩ = false ∧ w.frozen? ⟨b, 3, none⟩ = false ∧ w.frozen? ⟨b, 4, none⟩ = false) :=
 ⟨⟨ja h 0, ja h 1, ja h 2, ja h 3, ja h 4⟩, ⟨jd h 0, jd h 1, jd h 2, jd h 3, jd h 4⟩⟩
abbrev setR (W : World) (b : Nat) (v : Value) (x y : Nat) : World := ((W.setCell ⟨b, 0, none⟩ v).setCell ⟨b, 2, none⟩ (.int .i64 (x : Int))).setCell ⟨b, 3, none⟩ (.int .i64 (y : Int))
theorem setR_row {W : World} {b : Nat} {v0 v1 v2 v3 v4 : Value} (h : W.heap[b]? = some (.cells #[v0, v1, v2, v3, v4] 63 (0, 0))) (v : Value) (x y : Nat) : (setR W b v x y).heap[b]? = some (.cells #[v, v1, .int .i64 (x : Int), .int .i64 (y : Int), v4] 63 (0, 0)) := jy (jy (jy h 0 _) 2 _) 3 _
theorem setR_ne {W : World} {b c : Nat} {o : Option Obj} (h : W.heap[c]? = o) (hne : c ≠ b) (v : Value) (x y : Nat) : (setR W b v x y).heap[c]? = o := jg (jg (jg h hne 0 _) hne 2 _) hne 3 _
theorem setR_below {N : Nat} {w W : World} {b : Nat} (h : Below N w W) (hb : N ≤ b) (v : Value) (x y : Nat) : Below N w (setR W b v x y) := ((h.setCell (p := ⟨b, 0, none⟩) hb _).setCell (p := ⟨b, 2, none⟩) hb _).setCell (p := ⟨b, 3, none⟩) hb _
abbrev Dcl (nb fb : Nat) : Deferred := { target := Target.fn (Fn.func 34) #[.pointer (some ⟨nb, 0, none⟩), .pointer (some ⟨fb, 0, none⟩)], args := #[] }
theorem Rd.set_other {E : Env} {w : World} {i d q : Nat} (h : Rd E w i d) (hq : q ≠ E.rb) (h2 : 2 < q) (hlo : ∀ b off, E.lo = some ⟨b, off, none⟩ → b ≠ q ∨ E.P.toks.length = 0) (k : Nat) (v : Value) : Rd E (w.setCell ⟨q, k, none⟩ v) i d := by
 refine ⟨jg h.row (fun e => hq e.symm) k v, fun m hm => ?_, ⟨h.low.1, by rw [World.size_setCell]; exact h.low.2⟩, h.ok, h.le, h.d60, h.gl.of (fun m => World.cell?_of_block (a := ⟨0, m, none⟩) (jg rfl (by show 0 ≠ q; omega) k v)) (fun m => World.cell?_of_block (a := ⟨2, m, none⟩) (jg rfl (by show 2 ≠ q; omega) k v)), h.g2⟩;obtain ⟨b, off, h1, h3, h4, h5⟩ := h.tk m hm;have hne : b ≠ q := (hlo b off h1).resolve_right (by omega);exact ⟨b, off, h1, h3, h4, fun j hj => (World.cell?_of_block (a := ⟨b, _, none⟩) (jg rfl hne k v)).trans (h5 j hj)⟩
theorem flat_get : ∀ {ts : List Tok} {k j : Nat} (h : k < ts.length), j < 4 → (ts.flatMap kE)[k * 4 + j]? = (tkRow ts[k])[j]?
 | [], k, j, h, _ => by simp at h
 | t :: ts, 0, j, h, hj => by
  rw [List.flatMap_cons, Nat.zero_mul, Nat.zero_add, List.getElem?_append_left (by show j < (kE t).length; exact hj)]
  rfl
 | t :: ts, k + 1, j, h, hj => by
  rw [List.flatMap_cons, List.getElem?_append_right (by show (kE t).length ≤ _; show 4 ≤ _; omega)]
  have e : (k + 1) * 4 + j - (kE t).length = k * 4 + j := by show _ - 4 = _; omega
  rw [e, flat_get (ts := ts) (by simpa using h) hj]
  rfl
theorem door_ret {fn : Func} {t u : Tmp} (h : fn.results = #[.cell t 26, .cell u 29]) {tmps : Array Value} {w W : World} {nb fb : Nat} (ht : tmps.getD t undef = .pointer (some ⟨nb, 0, none⟩)) (hu : tmps.getD u undef = .pointer (some ⟨fb, 0, none⟩)) {A : Ty × Nat × Nat} {n : Ty} {ao : Option Addr} {cap : Nat} (hA : A = (n, 0, 0)) (hn : W.heap[nb]? = some (.cells (jh n ao cap) 26 (0, 0))) (hf : W.heap[fb]? = some (.cells #[.int .i64 0, .int .i64 0] 29 (0, 0))) (hb : Below w.heap.size w W) (hs : SlD W (fun b => w.heap.size ≤ b ∧ b < W.heap.size) n.args ao cap) :
 Leaves Tryz.prog fn tmps (vz A w) [Dcl nb fb] .returning W := by
 refine leaves_cons (f := 34) (args := #[.pointer (some ⟨nb, 0, none⟩), .pointer (some ⟨fb, 0, none⟩)]) (by intro h; cases h) (by simp [go_sem]) ?_;refine (catch_none nb fb W).mono ?_;rintro e u' w' ⟨rfl, rfl, rfl⟩
 show Leaves Tryz.prog fn tmps (vz A w) [] .returning w'
 refine ⟨_, kx h ht hu hn hf, ?_⟩;rw [hA];exact ⟨ao, cap, rfl, hb, hs⟩
theorem Rd.set5n {E : Env} {w : World} {i d q : Nat} (h : Rd E w i d) (hq : q ≠ E.rb) (h2 : 2 < q) (hlo : ∀ b off, E.lo = some ⟨b, off, none⟩ → b ≠ q ∨ E.P.toks.length = 0) (x : Ty) (ao : Option Addr) (cap : Nat) : Rd E (kN w q x ao cap) i d :=
 ((((h.set_other hq h2 hlo _ _).set_other hq h2 hlo _ _).set_other hq h2 hlo _ _).set_other hq h2 hlo _ _).set_other hq h2 hlo _ _
theorem gr_to_below {w W : World} {N rb : Nat} (h : w.grownBy W (some rb)) (hN : N ≤ w.heap.size) (hr : N ≤ rb) : Below N w W := ⟨h.os, h.tape, h.output, h.size, fun k hk => h.block k (by omega) (fun e => by have := Option.some.inj e; omega)⟩
theorem set5_cells {w : World} {q : Nat} {x : Ty} {ao : Option Addr} {cap : Nat} {D : Nat → Prop} (hD : ∀ b, D b → b ≠ q) : ∀ b, D b → ∀ off, (kN w q x ao cap).cell? ⟨b, off, none⟩ = w.cell? ⟨b, off, none⟩ := fun b hb off => World.cell?_of_block (a := ⟨b, off, none⟩) (qi rfl (hD b hb))
theorem set5_size {w : World} {q : Nat} {x : Ty} {ao : Option Addr} {cap : Nat} : (kN w q x ao cap).heap.size = w.heap.size := by unfold kN; rw [World.size_setCell, World.size_setCell, World.size_setCell, World.size_setCell, World.size_setCell]
theorem ret_end {w w2 w3 : World} {nb fb : Nat} {n : Ty} {ao : Option Addr} {cap : Nat} {B : Nat} (hnb : nb = w.heap.size) (hfb : fb = w.heap.size + 1) (hB : w.heap.size + 2 ≤ B) (hb : Below w.heap.size w w3) (rn : w3.heap[nb]? = some (.cells (jh n ao cap) 26 (0, 0))) (rf : w3.heap[fb]? = some (.cells #[.int .i64 0, .int .i64 0] 29 (0, 0))) (hs : SlD w3 (fun b => B ≤ b ∧ b < w3.heap.size) n.args ao cap) (Y : World) (hY : Y = set2 (kN w3 nb n ao cap) fb 0 0) :
 Y.heap[nb]? = some (.cells (jh n ao cap) 26 (0, 0)) ∧ Y.heap[fb]? = some (.cells #[.int .i64 0, .int .i64 0] 29 (0, 0)) ∧ Below w.heap.size w Y ∧ SlD Y (fun b => w.heap.size ≤ b ∧ b < Y.heap.size) n.args ao cap := by
 obtain ⟨Z, hZ⟩ : ∃ Z, Z = kN w3 nb n ao cap := ⟨_, rfl⟩
 have b1 : Below w.heap.size w Z := by rw [hZ]; exact kR hb (by omega)
 have b2 : Z.heap[nb]? = some (.cells (jh n ao cap) 26 (0, 0)) := by rw [hZ]; unfold jh at rn; exact TB.set rn n ao cap
 have b3 : Z.heap[fb]? = some (.cells #[.int .i64 0, .int .i64 0] 29 (0, 0)) := by rw [hZ]; exact qi rf (by omega)
 have b4 : SlD Z (fun b => B ≤ b ∧ b < w3.heap.size) n.args ao cap := by rw [hZ]; exact hs.keep (set5_cells fun b hb => by omega)
 have b5 : Z.heap.size = w3.heap.size := by rw [hZ]; exact set5_size
 rw [← hZ] at hY;clear hZ;have d1 : Below w.heap.size w Y := by rw [hY]; exact (b1.setCell (p := ⟨fb, 0, none⟩) (by show w.heap.size ≤ fb; omega) _).setCell (p := ⟨fb, 1, none⟩) (by show w.heap.size ≤ fb; omega) _
 have d2 : Y.heap[nb]? = some (.cells (jh n ao cap) 26 (0, 0)) := by rw [hY]; exact jg (jg b2 (by omega) 0 _) (by omega) 1 _
 have d3 : Y.heap[fb]? = some (.cells #[.int .i64 0, .int .i64 0] 29 (0, 0)) := by rw [hY]; exact jy (jy b3 0 _) 1 _
 have d5 : Y.heap.size = w3.heap.size := by rw [hY]; unfold set2; rw [World.size_setCell, World.size_setCell, b5]
 refine ⟨d2, d3, d1, (b4.keep fun b hb off => ?_).mono fun b hb => by rw [d5]; omega⟩;rw [hY];exact World.cell?_of_block (a := ⟨b, off, none⟩) (jg (jg rfl (by show b ≠ fb; omega) 0 _) (by show b ≠ fb; omega) 1 _)
def qX : Nat → Src → M Ty
 | 0 => fun P => qm P (jf P 60) 0 >>= fun l => ret (.mk 0 0 ⟨#[]⟩ 0 l)
 | 1 => fun P => jt P 60 .exp
 | 2 => fun P => jt P 60 .pat
 | _ => fun P => jt P 60 .typ
theorem vM (w : World) : ∃ W, W = (w.alloc (.cells ju 26)).alloc (.cells #[.int .i64 0, .int .i64 0] 29) ∧ Below w.heap.size w W ∧ W.heap.size = w.heap.size + 2 ∧ W.heap[w.heap.size]? = some (.cells ju 26 (0, 0)) ∧ W.heap[w.heap.size + 1]? = some (.cells #[.int .i64 0, .int .i64 0] 29 (0, 0)) := by
 obtain ⟨W1, hW1⟩ : ∃ W1, W1 = w.alloc (.cells ju 26) := ⟨_, rfl⟩
 obtain ⟨W, hW⟩ : ∃ W, W = W1.alloc (.cells #[.int .i64 0, .int .i64 0] 29) := ⟨_, rfl⟩
 have s1 : W1.heap.size = w.heap.size + 1 := by rw [hW1, World.size_alloc]
 have s2 : W.heap.size = w.heap.size + 2 := by rw [hW, World.size_alloc, s1]
 have hb1 : Below w.heap.size w W1 := by rw [hW1]; exact jk (Below.refl _ _) _
 refine ⟨W, by rw [hW, hW1], by rw [hW]; exact jk hb1 _, s2, ?_, ?_⟩
 · rw [hW]; refine js ?_ _; rw [hW1]; exact heap_alloc_new w _
 · rw [hW, ← s1]; exact heap_alloc_new W1 _
theorem vW {w W w1 : World} {nb fb : Nat} {n : Ty} {ao : Option Addr} {cap x y : Nat} (hnb : nb = w.heap.size) (hfb : fb = w.heap.size + 1) (hbW : Below w.heap.size w W) (hsW : W.heap.size = w.heap.size + 2) (rn : W.heap[nb]? = some (.cells ju 26 (0, 0))) (rf : W.heap[fb]? = some (.cells #[.int .i64 0, .int .i64 0] 29 (0, 0))) (hb : Below W.heap.size W w1) (hs : SlD w1 (fun b => W.heap.size ≤ b ∧ b < w1.heap.size) n.args ao cap) (Y : World) (hY : Y = set2 (kN w1 nb n ao cap) fb x y) :
 Y.heap[nb]? = some (.cells (jh n ao cap) 26 (0, 0)) ∧ Y.heap[fb]? = some (.cells #[.int .i64 x, .int .i64 y] 29 (0, 0)) ∧ Below w.heap.size w Y ∧ SlD Y (fun b => w.heap.size ≤ b ∧ b < Y.heap.size) n.args ao cap := by
 have r1 := jo rn hb (lt_of_block rn);have r2 := jo rf hb (lt_of_block rf);obtain ⟨Z, hZ⟩ : ∃ Z, Z = kN w1 nb n ao cap := ⟨_, rfl⟩
 have b1 : Below w.heap.size w Z := by rw [hZ]; exact kR (hbW.trans (hb.mono hbW.size)) (by omega)
 have b2 : Z.heap[nb]? = some (.cells (jh n ao cap) 26 (0, 0)) := by rw [hZ]; unfold ju at r1; exact TB.set r1 n ao cap
 have b3 : Z.heap[fb]? = some (.cells #[.int .i64 0, .int .i64 0] 29 (0, 0)) := by rw [hZ]; exact qi r2 (by omega)
 have b4 : SlD Z (fun b => W.heap.size ≤ b ∧ b < w1.heap.size) n.args ao cap := by rw [hZ]; exact hs.keep (set5_cells fun b hb => by omega)
 have b5 : Z.heap.size = w1.heap.size := by rw [hZ]; exact set5_size
 rw [← hZ] at hY;clear hZ;have d1 : Below w.heap.size w Y := by rw [hY]; exact (b1.setCell (p := ⟨fb, 0, none⟩) (by show w.heap.size ≤ fb; omega) _).setCell (p := ⟨fb, 1, none⟩) (by show w.heap.size ≤ fb; omega) _
 have d2 : Y.heap[nb]? = some (.cells (jh n ao cap) 26 (0, 0)) := by rw [hY]; exact jg (jg b2 (by omega) 0 _) (by omega) 1 _
 have d3 : Y.heap[fb]? = some (.cells #[.int .i64 x, .int .i64 y] 29 (0, 0)) := by rw [hY]; exact jy (jy b3 0 _) 1 _
 have d5 : Y.heap.size = w1.heap.size := by rw [hY]; unfold set2; rw [World.size_setCell, World.size_setCell, b5]
 refine ⟨d2, d3, d1, (b4.keep fun b hb off => ?_).mono fun b hb => by rw [d5]; omega⟩;rw [hY];exact World.cell?_of_block (a := ⟨b, off, none⟩) (jg (jg rfl (by show b ≠ fb; omega) 0 _) (by show b ≠ fb; omega) 1 _)
@[reducible] def Cl (w : World) (nb fb : Nat) : Prop := ((w.cell? ⟨nb, 0, none⟩ = some (.int .i64 0) ∧ w.cell? ⟨nb, 1, none⟩ = some (.int .i64 0) ∧ w.cell? ⟨nb, 2, none⟩ = some (.string ⟨#[]⟩) ∧ w.cell? ⟨nb, 3, none⟩ = some (.int .i64 0) ∧ w.cell? ⟨nb, 4, none⟩ = some (.slice none 0 0)) ∧ (w.frozen? ⟨nb, 0, none⟩ = false ∧ w.frozen? ⟨nb, 1, none⟩ = false ∧ w.frozen? ⟨nb, 2, none⟩ = false ∧ w.frozen? ⟨nb, 3, none⟩ = false ∧ w.frozen? ⟨nb, 4, none⟩ = false)) ∧ w.cell? ⟨fb, 0, none⟩ = some (.int .i64 0) ∧ w.cell? ⟨fb, 1, none⟩ = some (.int .i64 0) ∧ w.frozen? ⟨fb, 0, none⟩ = false ∧ w.frozen? ⟨fb, 1, none⟩ = false ∧ nb < w.heap.size ∧ fb < w.heap.size
theorem Cl.of {w : World} {nb fb : Nat} (h : w.heap[nb]? = some (.cells #[.int .i64 0, .int .i64 0, .string ⟨#[]⟩, .int .i64 0, .slice none 0 0] 26 (0, 0))) (h2 : w.heap[fb]? = some (.cells #[.int .i64 0, .int .i64 0] 29 (0, 0))) : Cl w nb fb := ⟨jC h, ja h2 0, ja h2 1, jd h2 0, jd h2 1, lt_of_block h, lt_of_block h2⟩
structure Tp (s : ByteArray) (A : Ty × Nat × Nat) (q : Nat) (w W : World) (nb fb : Nat) : Prop where
 hnb : nb = w.heap.size
 hfb : fb = w.heap.size + 1
 bW : Below w.heap.size w W
 sW : W.heap.size = w.heap.size + 2
 rn : W.heap[nb]? = some (.cells #[.int .i64 0, .int .i64 0, .string ⟨#[]⟩, .int .i64 0, .slice none 0 0] 26 (0, 0))
 rf : W.heap[fb]? = some (.cells #[.int .i64 0, .int .i64 0] 29 (0, 0))
 hA : A = vh s (qX q)
theorem Tp.go (s : ByteArray) (q : Nat) (w : World) : ∃ A W nb fb, vh s (qX q) = A ∧ (w.alloc (.cells #[.int .i64 0, .int .i64 0, .string ⟨#[]⟩, .int .i64 0, .slice none 0 0] 26)).alloc (.cells #[.int .i64 0, .int .i64 0] 29) = W ∧ w.heap.size = nb ∧ w.heap.size + 1 = fb ∧ ¬ (nb = fb) ∧ ¬ (fb = nb) ∧ Hid (Tp s A q w W nb fb) := by
 obtain ⟨W, hW, hbW, hsW, rn, rf⟩ := vM w;exact ⟨_, W, _, _, rfl, hW.symm, rfl, rfl, by omega, by omega, lh ⟨rfl, rfl, hbW, hsW, rn, rf, rfl⟩⟩
abbrev rRow (a : Option Addr) (n cap : Nat) (i f1 f2 k q d : Int) : Array Value := #[.slice a n cap, .int .i64 i, .int .i64 f1, .int .i64 f2, .int .i64 k, .int .i64 q, .int .i64 d]
theorem r_cells {w : World} {b : Nat} {v0 v1 v2 v3 v4 v5 v6 : Value} (h : w.heap[b]? = some (.cells #[v0, v1, v2, v3, v4, v5, v6] 87 (0, 0))) : (w.cell? ⟨b, 0, none⟩ = some v0 ∧ w.cell? ⟨b, 1, none⟩ = some v1 ∧ w.cell? ⟨b, 2, none⟩ = some v2 ∧ w.cell? ⟨b, 3, none⟩ = some v3 ∧ w.cell? ⟨b, 4, none⟩ = some v4 ∧ w.cell? ⟨b, 5, none⟩ = some v5 ∧ w.cell? ⟨b, 6, none⟩ = some v6) ∧ w.frozen? ⟨b, 4, none⟩ = false ∧ w.frozen? ⟨b, 5, none⟩ = false :=
 ⟨⟨ja h 0, ja h 1, ja h 2, ja h 3, ja h 4, ja h 5, ja h 6⟩, jd h 4, jd h 5⟩
theorem rr_start {s : ByteArray} {w1 X : World} {B rb f1 f2 : Nat} {a : Option Addr} {cap : Nat} (hok : SrcOk (qA s)) (hf : (jH s).2 = (f1, f2)) (ho : w1.ownsRow B 59 4 (.slice a (jH s).1.length cap) (jH s).1.length ((jH s).1.flatMap kE)) (hB : w1.heap.size ≤ rb) (hX : ∀ b, b < w1.heap.size → X.heap[b]? = w1.heap[b]?) (hrb : rb < X.heap.size) (hr : X.heap[rb]? = some (.cells (rRow a (jH s).1.length cap 0 f1 f2 0 0 0) 87 (0, 0))) :
 Rr ⟨X.heap.size, rb, qA s, a, cap⟩ X ⟨0, 0, 0⟩ 0 := by
 have e1 : (qA s).fk = f1 := by show (jH s).2.1 = f1; rw [hf]
 have e2 : (qA s).fa = f2 := by show (jH s).2.2 = f2; rw [hf]
 refine ⟨?_, fun k hk => ?_, ⟨hrb, Nat.le_refl _⟩, hok, Nat.zero_le _, fun h0 => (hok.ends h0).1, by decide⟩
 · show X.heap[rb]? = some (.cells #[.slice a (jH s).1.length cap, .int .i64 ((0 : Nat) : Int), .int .i64 ((qA s).fk : Int), .int .i64 ((qA s).fa : Int), .int .i64 ((0 : Nat) : Int), .int .i64 ((0 : Nat) : Int), .int .i64 ((0 : Nat) : Int)] 87 (0, 0))
   rw [e1, e2];exact hr
 · have hk2 : k < (jH s).1.length := hk;rcases ho.2 with ⟨h1, h3⟩ | ⟨g, cap', cur, h1, h3, h4⟩
   · injection h1 with e3 e4 e5
     omega
   · injection h1 with e3 e4 e5
     have hg := ho.lt g (by rw [e3]; rfl);refine ⟨g, 0, e3, by dsimp only; omega, by show g < X.heap.size; omega, fun j hj => ?_⟩;have hc := (show w1.ownsRow B 59 4 (.slice (some ⟨g, 0, none⟩) (jH s).1.length cap) (jH s).1.length _ from by rw [← e3]; exact ho).cellAt (0 + k * 4 + j) (by omega);rw [World.cell?_of_block (a := ⟨g, 0 + k * 4 + j, none⟩) (hX g hg.2), hc, show 0 + k * 4 + j = k * 4 + j from by omega];exact flat_get hk2 hj
def BegP (s : ByteArray) (w : World) (e : Ending) (w' : World) : Prop := ∃ rb, w.heap.size ≤ rb ∧ Below w.heap.size w w' ∧
 ((((jH s).2.1 = 1 ∨ (jH s).2.1 = 2) ∧ e = .returned (.tuple #[.pointer (some ⟨rb, 0, none⟩), .bool false]) ∧ ∃ a n cap, w'.heap[rb]? = some (.cells (rRow a n cap 0 (jH s).2.1 (jH s).2.2 (jH s).2.1 (jH s).2.2 0) 87 (0, 0))) ∨
  (¬ ((jH s).2.1 = 1 ∨ (jH s).2.1 = 2) ∧ SrcOk (qA s) ∧ e = .returned (.tuple #[.pointer (some ⟨rb, 0, none⟩), .bool true]) ∧ ∃ a cap, Rr ⟨w'.heap.size, rb, qA s, a, cap⟩ w' ⟨0, 0, 0⟩ 0))
theorem yb (s : ByteArray) (w : World) : Calls Tryz.prog 52 #[.string s] w (BegP s w) := by
 have HTK : Hid (Calls Tryz.prog 101 #[.string s] w (LexPost s w)) := lh (rtoks_any s w);obtain ⟨f1, f2, hf⟩ : ∃ f1 f2, (jH s).2 = (f1, f2) := ⟨_, _, rfl⟩
 have e1 : (jH s).2.1 = f1 := by rw [hf]
 have e2 : (jH s).2.2 = f2 := by rw [hf]
 have HE1 := lh e1;have HE2 := lh e2;have HF := lh hf;unfold LexPost at HTK;rw [e1, e2] at HTK;obtain ⟨n, hn⟩ : ∃ n, n = (jH s).1.length := ⟨_, rfl⟩
 rw [← hn] at HTK;have HNN := lh hn;clear hf e1 e2 hn;go_enter Tryz.func52, Tryz.ntmps52
 go_upto_region 2 with (first | (go_at_call 101; refine HTK.out.mono ?_; rintro e w1 ⟨a, cap, rfl, ho, hb⟩; have HO := lh ho; have HB1 := lh hb; clear ho hb))
 obtain ⟨V, hV⟩ : ∃ V, V = w1.alloc (.cells #[.int .i64 f1, .int .i64 f2] 29) := ⟨_, rfl⟩
 have hbV : Below w1.heap.size w1 V := by rw [hV]; exact jk (Below.refl _ _) _
 have hsV : V.heap.size = w1.heap.size + 1 := by rw [hV, World.size_alloc]
 have hrV : V.heap[w1.heap.size]? = some (.cells #[.int .i64 f1, .int .i64 f2] 29 (0, 0)) := by rw [hV]; exact heap_alloc_new w1 _
 obtain ⟨fb, hfb⟩ : ∃ fb, fb = w1.heap.size := ⟨_, rfl⟩
 rw [← hfb] at hrV;rw [← hV, ← hfb];have c0 : V.cell? ⟨fb, 0, none⟩ = some (.int .i64 f1) := ja hrV 0;have c1 : V.cell? ⟨fb, 1, none⟩ = some (.int .i64 f2) := ja hrV 1;have HBV := lh hbV;have HSV := lh hsV;have HRV := lh hrV;have HFB := lh hfb;clear hV hbV hsV hrV hfb;go_upto_region 3 with fail
 obtain ⟨X, hX⟩ : ∃ X, X = V.alloc (.cells (rRow a n cap 0 f1 f2 0 0 0) 87) := ⟨_, rfl⟩
 have hbX : Below V.heap.size V X := by rw [hX]; exact jk (Below.refl _ _) _
 have hsX : X.heap.size = V.heap.size + 1 := by rw [hX, World.size_alloc]
 have hrX : X.heap[V.heap.size]? = some (.cells (rRow a n cap 0 f1 f2 0 0 0) 87 (0, 0)) := by rw [hX]; exact heap_alloc_new V _
 obtain ⟨rb, hrb⟩ : ∃ rb, rb = V.heap.size := ⟨_, rfl⟩
 rw [← hrb] at hrX;have hr2 := jo HRV.out hbX (lt_of_block HRV.out);unfold rRow at hX;rw [← hX, ← hrb];replace c0 : X.cell? ⟨fb, 0, none⟩ = some (.int .i64 f1) := ja hr2 0;replace c1 : X.cell? ⟨fb, 1, none⟩ = some (.int .i64 f2) := ja hr2 1;obtain ⟨⟨r0, r1, r2, r3, r4, r5, r6⟩, z4, z5⟩ := r_cells hrX;have HBX := lh hbX;have HSX := lh hsX;have HRX := lh hrX;have HRB := lh hrb;have n1 : ¬ (fb = rb) := by have := HSV.out; have := HFB.out; omega
 have n2 : ¬ (rb = fb) := fun e => n1 e.symm
 clear hX hbX hsX hrX hrb hr2;have HW : Hid (w.heap.size ≤ rb) := lh (by have h1 := HB1.out.size; have h2 := HSV.out; have h3 := HRB.out; omega);have HBW : Hid (Below w.heap.size w X) := lh ((HB1.out.trans (HBV.out.mono HB1.out.size)).trans (HBX.out.mono (by have h1 := HB1.out.size; have h2 := HSV.out; omega)))
 by_cases h12 : f1 = 1 ∨ f1 = 2
 · have H12 := lh h12
   have FIN : ∀ X2 : World, X2 = (X.setCell ⟨rb, 4, none⟩ (.int .i64 f1)).setCell ⟨rb, 5, none⟩ (.int .i64 f2) → Below w.heap.size w X2 ∧ X2.heap[rb]? = some (.cells (rRow a n cap 0 f1 f2 f1 f2 0) 87 (0, 0)) ∧ X2.cell? ⟨rb, 4, none⟩ = some (.int .i64 f1) := by
    intro X2 h;have hr : X2.heap[rb]? = some (.cells (rRow a n cap 0 f1 f2 f1 f2 0) 87 (0, 0)) := (by rw [h]; exact jy (jy HRX.out 4 _) 5 _);exact ⟨by rw [h]; exact (HBW.out.setCell (p := ⟨rb, 4, none⟩) HW.out _).setCell (p := ⟨rb, 5, none⟩) HW.out _, hr, ja hr 4⟩
   have HFIN := lh FIN;clear FIN;have e0 : ((f1 : Int) == 0) = false := by simp; omega
   by_cases h1 : f1 = 1
   · have e1 : ((f1 : Int) == 1) = true := (by simp; omega);clear h1 h12;go_upto_region 5 with fail
     obtain ⟨X2, hX2⟩ : ∃ X2, X2 = (X.setCell ⟨rb, 4, none⟩ (.int .i64 f1)).setCell ⟨rb, 5, none⟩ (.int .i64 f2) := ⟨_, rfl⟩
     obtain ⟨k1, k2, k3⟩ := HFIN.out X2 hX2;rw [← hX2];have HK1 := lh k1;have HK2 := lh k2;clear hX2 k1 k2 c0 c1 r0 r1 r2 r3 r4 r5 r6 z4 z5;go_quiet (fail)
     go_wp2_with fail
     refine bodyPost_ret (results_tmp2 Tryz.results52 _ _ _) rfl ?_;exact ⟨rb, HW.out, below_drewN HK1.out _, .inl ⟨by rw [HE1.out]; exact H12.out, rfl, a, n, cap, by rw [HE1.out, HE2.out]; exact HK2.out⟩⟩
   · have e1 : ((f1 : Int) == 1) = false := (by simp; omega);have e2 : ((f1 : Int) == 2) = true := (by simp; omega);clear h1 h12;go_upto_region 5 with fail
     obtain ⟨X2, hX2⟩ : ∃ X2, X2 = (X.setCell ⟨rb, 4, none⟩ (.int .i64 f1)).setCell ⟨rb, 5, none⟩ (.int .i64 f2) := ⟨_, rfl⟩
     obtain ⟨k1, k2, k3⟩ := HFIN.out X2 hX2;rw [← hX2];have HK1 := lh k1;have HK2 := lh k2;clear hX2 k1 k2 c0 c1 r0 r1 r2 r3 r4 r5 r6 z4 z5;go_quiet (fail)
     go_wp2_with fail
     refine bodyPost_ret (results_tmp2 Tryz.results52 _ _ _) rfl ?_;exact ⟨rb, HW.out, below_drewN HK1.out _, .inl ⟨by rw [HE1.out]; exact H12.out, rfl, a, n, cap, by rw [HE1.out, HE2.out]; exact HK2.out⟩⟩
 · have H12 := lh h12;have e1 : ((f1 : Int) == 1) = false := (by simp; omega);have e2 : ((f1 : Int) == 2) = false := (by simp; omega);clear h12;go_upto_region 5 with fail
   go_quiet (fail)
   go_wp2_with fail
   refine bodyPost_ret (results_tmp2 Tryz.results52 _ _ _) rfl ?_;have hl : ¬ ((jH s).2.1 = 1 ∨ (jH s).2.1 = 2) := by rw [HE1.out]; exact H12.out
   have hok : SrcOk (qA s) := by
    rcases lexD_cases s with ⟨h, -⟩ | ⟨-, h⟩
    · exact absurd h hl
    · exact h
   have hrr := rr_start (X := X) hok HF.out (by rw [← HNN.out]; exact HO.out) (rb := rb) (by have := HSV.out; have := HRB.out; omega) (fun b hb => (HBX.out.block b (by have := HSV.out; omega)).trans (HBV.out.block b hb)) (by have := HSX.out; have := HRB.out; omega) (by rw [← HNN.out]; exact HRX.out);exact ⟨rb, HW.out, below_drewN HBW.out _, .inr ⟨hl, hok, rfl, a, cap, hrr.keepB (below_drewN (Below.refl _ _) _) (Nat.le_refl _)⟩⟩
def ansT (P : Src) (T : Res Ty) : Ty × Nat × Nat := match T with
 | .bad k a => (zeroT, k, a)
 | .ok n j => if P.K j = 0 then (n, 0, 0) else (zeroT, vR P 4 j, failA P j)
def DoneP (E : Env) (A : Ty × Nat × Nat) (D : Nat → Prop) (w : World) (e : Ending) (w' : World) : Prop :=
 ∃ ao cap, e = .returned (.tuple #[.agg (jh A.1 ao cap), .agg #[.int .i64 A.2.1, .int .i64 A.2.2]]) ∧ w.grownBy w' (some E.rb) ∧ SlD w' D A.1.args ao cap
theorem done_made (w : World) (n : Ty) (ao : Option Addr) (cap : Nat) : ∃ W, W = ((w.alloc (.cells (jh n ao cap) 26)).alloc (.cells ju 26)).alloc (.cells #[.int .i64 0, .int .i64 0] 29) ∧ Below w.heap.size w W ∧ W.heap.size = w.heap.size + 3 ∧ W.heap[w.heap.size]? = some (.cells (jh n ao cap) 26 (0, 0)) ∧ W.heap[w.heap.size + 1]? = some (.cells ju 26 (0, 0)) ∧ W.heap[w.heap.size + 1 + 1]? = some (.cells #[.int .i64 0, .int .i64 0] 29 (0, 0)) := by
 obtain ⟨W1, hW1⟩ : ∃ W1, W1 = w.alloc (.cells (jh n ao cap) 26) := ⟨_, rfl⟩
 obtain ⟨W2, hW2⟩ : ∃ W2, W2 = W1.alloc (.cells ju 26) := ⟨_, rfl⟩
 obtain ⟨W, hW⟩ : ∃ W, W = W2.alloc (.cells #[.int .i64 0, .int .i64 0] 29) := ⟨_, rfl⟩
 have s1 : W1.heap.size = w.heap.size + 1 := by rw [hW1, World.size_alloc]
 have s2 : W2.heap.size = w.heap.size + 1 + 1 := by rw [hW2, World.size_alloc, s1]
 have s3 : W.heap.size = w.heap.size + 3 := by rw [hW, World.size_alloc, s2]
 have hb1 : Below w.heap.size w W1 := by rw [hW1]; exact jk (Below.refl _ _) _
 have hb2 : Below w.heap.size w W2 := by rw [hW2]; exact jk hb1 _
 refine ⟨W, by rw [hW, hW2, hW1], by rw [hW]; exact jk hb2 _, s3, ?_, ?_, ?_⟩
 · rw [hW]; refine js ?_ _; rw [hW2]; refine js ?_ _; rw [hW1]; exact heap_alloc_new w _
 · rw [hW]; refine js ?_ _; rw [hW2, ← s1]; exact heap_alloc_new W1 _
 · rw [hW, ← s2]; exact heap_alloc_new W2 _
theorem done_end {E : Env} {w w3 : World} {D : Nat → Prop} {nb fb : Nat} {n : Ty} {ao : Option Addr} {cap : Nat} {v0 v1 v2 v3 v4 x y : Value} {p q : Int} (hnb : nb = w.heap.size + 1) (hfb : fb = w.heap.size + 1 + 1) (hg : w.grownBy w3 (some E.rb)) (rn : w3.heap[nb]? = some (.cells #[v0, v1, v2, v3, v4] 26 (0, 0))) (rf : w3.heap[fb]? = some (.cells #[x, y] 29 (0, 0))) (hs : SlD w3 D n.args ao cap) (hD : ∀ b, D b → b < w.heap.size) (Y : World) (hY : Y = ((kN w3 nb n ao cap).setCell ⟨fb, 0, none⟩ (.int .i64 p)).setCell ⟨fb, 1, none⟩ (.int .i64 q)) :
 Y.heap[nb]? = some (.cells (jh n ao cap) 26 (0, 0)) ∧ Y.heap[fb]? = some (.cells #[.int .i64 p, .int .i64 q] 29 (0, 0)) ∧ w.grownBy Y (some E.rb) ∧ SlD Y D n.args ao cap := by
 obtain ⟨Z, hZ⟩ : ∃ Z, Z = kN w3 nb n ao cap := ⟨_, rfl⟩
 have b1 : Below w.heap.size w3 Z := by rw [hZ]; exact kR (Below.refl _ _) (by omega)
 have b2 : Z.heap[nb]? = some (.cells (jh n ao cap) 26 (0, 0)) := by rw [hZ]; exact TB.set rn n ao cap
 have b3 : Z.heap[fb]? = some (.cells #[x, y] 29 (0, 0)) := by rw [hZ]; exact qi rf (by omega)
 rw [← hZ] at hY;clear hZ;have d1 : Below w.heap.size w3 Y := by rw [hY]; exact (b1.setCell (p := ⟨fb, 0, none⟩) (by show w.heap.size ≤ fb; omega) _).setCell (p := ⟨fb, 1, none⟩) (by show w.heap.size ≤ fb; omega) _
 refine ⟨by rw [hY]; exact jg (jg b2 (by omega) 0 _) (by omega) 1 _, by rw [hY]; exact jy (jy b3 0 _) 1 _, ?_, hs.keep fun b hb off => d1.cell (p := ⟨b, off, none⟩) (hD b hb)⟩;exact ⟨d1.os.trans hg.os, d1.tape.trans hg.tape, d1.output.trans hg.output, Nat.le_trans hg.size d1.size, fun k hk hne => (d1.block k hk).trans (hg.block k hk hne)⟩
theorem rdone_any (E : Env) (w : World) (s : RS) (d : Nat) (n : Ty) (ao : Option Addr) (cap : Nat) (D : Nat → Prop) (T : Res Ty) (h : Rr E w s d) (hT : Rl T n s) (hs : SlD w D n.args ao cap) (hD : ∀ b, D b → b < w.heap.size ∧ b ≠ E.rb) : Calls Tryz.prog 53 #[pr E, .agg (jh n ao cap)] w (DoneP E (ansT E.P T) D w) := by
 obtain ⟨A, hA⟩ : ∃ A, A = ansT E.P T := ⟨_, rfl⟩
 rw [← hA];have HA1 : Hid (s.k ≠ 0 → A = (zeroT, s.k, s.a)) := lh (fun hk => by rw [hA, hT.2 hk]; rfl);have HA2 : Hid (s.k = 0 → E.P.K s.i = 0 → A = (n, 0, 0)) := lh (fun hk h0 => by rw [hA, hT.1 hk]; exact if_pos h0)
 have HA3 : Hid (s.k = 0 → ¬ E.P.K s.i = 0 → A = (zeroT, (noS E.P 4 s).k, (noS E.P 4 s).a)) := lh (fun hk h0 => by
  have e : noS E.P 4 s = ⟨s.i, vR E.P 4 s.i, failA E.P s.i⟩ := if_pos hk
  rw [hA, hT.1 hk, e]; exact if_neg h0)
 clear hA;obtain ⟨W, hW, hbW, hsW, r3, rn, rf⟩ := done_made w n ao cap;have hlr := h.ltr;have HR := lh (h.keep hbW);have HNOW : Hid (∀ w1, Rr E w1 s d → Calls Tryz.prog 102 #[pr E] w1 fun e w' => e = .returned (qb E.P s.i) ∧ Below w1.heap.size w1 w') := lh (fun w1 h1 => qh E w1 s d h1);have HNO : Hid (∀ w1, Rr E w1 s d → Calls Tryz.prog 103 #[pr E, .int .i64 4] w1 fun en w' => (∃ v, en = .returned v) ∧ Rr E w' (noS E.P 4 s) d ∧ w1.grownBy w' (some E.rb)) := lh (fun w1 h1 => rno_any E w1 s d 4 h1);obtain ⟨b3, hb3⟩ : ∃ b3, b3 = w.heap.size := ⟨_, rfl⟩
 obtain ⟨nb, hnb⟩ : ∃ nb, nb = w.heap.size + 1 := ⟨_, rfl⟩
 obtain ⟨fb, hfb⟩ : ∃ fb, fb = w.heap.size + 1 + 1 := ⟨_, rfl⟩
 rw [← hb3] at r3;rw [← hnb] at rn;rw [← hfb] at rf;have m1 : ¬ (b3 = E.rb) := by omega
 have m2 : ¬ (nb = E.rb) := by omega
 have m3 : ¬ (fb = E.rb) := by omega
 have m4 : ¬ (nb = fb) := by omega
 have m5 : ¬ (fb = nb) := by omega
 have m6 : ¬ (b3 = nb) := by omega
 have m7 : ¬ (b3 = fb) := by omega
 have m8 : ¬ (E.rb = nb) := by omega
 have m9 : ¬ (E.rb = fb) := by omega
 have HGW := lh (ji hbW (some E.rb));have HS := lh hs;have HD := lh hD;have HN1 := lh hnb;have HN2 := lh hfb;have HN3 := lh hb3;have H3 := lh r3;have HN := lh rn;have HF := lh rf;have HSW := lh (hs.keep (w' := W) fun b hb off => hbW.cell (p := ⟨b, off, none⟩) (hD b hb).1);have HDZ : Hid (∀ b, D b → b < w.heap.size) := lh (fun b hb => (hD b hb).1);unfold qb at HNOW;unfold pr at HNOW HNO ⊢;unfold ju at hW;unfold jh at hW ⊢;have HWW := lh hW;clear h hT hs hD hW hbW hsW r3 rn rf hb3 hnb hfb;go_enter Tryz.func53, Tryz.ntmps53
 go_upto_region 1 with fail
 rw [← HWW.out, ← HN2.out, ← HN1.out, ← HN3.out];clear HWW;obtain ⟨⟨c0, c1, c2, c3, c4, c5, c6⟩, -⟩ := HR.out.cells
 by_cases hk : s.k = 0
 · have e1 : ((s.k : Int) == 0) = true := (by simp [hk]);have e1b : ((s.k : Int) != 0) = false := (by simp [hk]);have HK := lh hk;clear hk
   by_cases h0 : E.P.K s.i = 0
   · have e2 : (E.P.K s.i != 0) = false := (by simp [h0]);have H0 := lh h0;clear h0;go_upto_region 5 with (first | (go_at_call 102; refine (HNOW.out W HR.out).mono ?_; rintro e w2 ⟨rfl, hb⟩; have flk := tk_fieldK E.P s.i; have HR2 := lh (HR.out.keep hb); have HG2 := lh (jr HGW.out (ji hb (some E.rb))); have H32 := lh (kM (ji hb (some E.rb)) H3.out m1); have HN_2 := lh (kM (ji hb (some E.rb)) HN.out m2); have HF2 := lh (kM (ji hb (some E.rb)) HF.out m3); have HS2 := lh (HSW.out.keep (w' := w2) fun b q off => hb.cell (p := ⟨b, off, none⟩) (Nat.lt_of_lt_of_le (HD.out b q).1 HGW.out.size)); obtain ⟨⟨c0, c1, c2, c3, c4, c5, c6⟩, -⟩ := HR2.out.cells; clear hb))
     have h3 := H32.out;have hn := HN_2.out;have hf := HF2.out;unfold ju at hn;obtain ⟨⟨x0, x1, x2, x3, x4⟩, -⟩ := jC (show w2.heap[b3]? = some (.cells (jh n ao cap) 26 (0, 0)) from h3);obtain ⟨⟨y0, y1, y2, y3, y4⟩, ⟨z0, z1, z2, z3, z4⟩⟩ := jC hn;have u0 : w2.cell? ⟨fb, 0, none⟩ = some (.int .i64 0) := ja hf 0;have u1 : w2.cell? ⟨fb, 1, none⟩ = some (.int .i64 0) := ja hf 1;have q0 := jd hf 0;have q1 := jd hf 1;have HEND := lh (fun (Z : World) hZ => done_end (E := E) (n := n) (ao := ao) (cap := cap) (p := 0) (q := 0) HN1.out HN2.out HG2.out hn hf HS2.out HDZ.out Z hZ);clear h3 hn hf;go_wp2_with fail
     obtain ⟨k1, k2, k3, k4⟩ := HEND.out _ rfl;exact bodyPost_ret (kx rfl rfl rfl k1 k2) rfl ⟨ao, cap, by rw [HA2.out HK.out H0.out]; rfl, k3, by rw [HA2.out HK.out H0.out]; exact k4⟩
   · have e2 : (E.P.K s.i != 0) = true := (by simp [h0]);have H0 := lh h0;have HKN : Hid ((noS E.P 4 s).k ≠ 0) := lh (HR.out.no_bad (by decide));clear h0;go_upto_region 3 with (first | (go_at_call 103; refine (HNO.out w2 HR2.out).mono ?_; rintro e w4 ⟨⟨v, rfl⟩, hr, hg⟩; have HR4 := lh hr; have HG4 := lh (jr HG2.out hg); have HN4 := lh (kM hg HN_2.out m2); have HF4 := lh (kM hg HF2.out m3); obtain ⟨⟨c0, c1, c2, c3, c4, c5, c6⟩, -⟩ := HR4.out.cells; clear hr hg) | (go_at_call 102; refine (HNOW.out W HR.out).mono ?_; rintro e w2 ⟨rfl, hb⟩; have flk := tk_fieldK E.P s.i; have HR2 := lh (HR.out.keep hb); have HG2 := lh (jr HGW.out (ji hb (some E.rb))); have H32 := lh (kM (ji hb (some E.rb)) H3.out m1); have HN_2 := lh (kM (ji hb (some E.rb)) HN.out m2); have HF2 := lh (kM (ji hb (some E.rb)) HF.out m3); have HS2 := lh (HSW.out.keep (w' := w2) fun b q off => hb.cell (p := ⟨b, off, none⟩) (Nat.lt_of_lt_of_le (HD.out b q).1 HGW.out.size)); obtain ⟨⟨c0, c1, c2, c3, c4, c5, c6⟩, -⟩ := HR2.out.cells; clear hb))
     have e3 : (((noS E.P 4 s).k : Int) != 0) = true := (by simp; exact HKN.out);go_upto_region 4 with fail
     have hn := HN4.out;have hf := HF4.out;unfold ju at hn;obtain ⟨⟨y0, y1, y2, y3, y4⟩, ⟨z0, z1, z2, z3, z4⟩⟩ := jC hn;have u0 : w4.cell? ⟨fb, 0, none⟩ = some (.int .i64 0) := ja hf 0;have u1 : w4.cell? ⟨fb, 1, none⟩ = some (.int .i64 0) := ja hf 1;have q0 := jd hf 0;have q1 := jd hf 1;have w0 := lt_of_block hn;have w1 := lt_of_block hf;have HEND := lh (fun (Z : World) hZ => done_end (E := E) (n := zeroT) (ao := none) (cap := 0) (D := D) (p := ((noS E.P 4 s).k : Int)) (q := ((noS E.P 4 s).a : Int)) HN1.out HN2.out HG4.out hn hf (vJ rfl) HDZ.out Z hZ);clear hn hf;go_region
     all_goals
      obtain ⟨Z, hZ⟩ : ∃ Z, Z = (((((((w4.setCell ⟨nb, 0, none⟩ (.int .i64 0)).setCell ⟨nb, 1, none⟩ (.int .i64 0)).setCell ⟨nb, 2, none⟩ (.string ⟨#[]⟩)).setCell ⟨nb, 3, none⟩ (.int .i64 0)).setCell ⟨nb, 4, none⟩ (.slice none 0 0)).setCell ⟨fb, 0, none⟩ (.int .i64 ((noS E.P 4 s).k : Int))).setCell ⟨fb, 1, none⟩ (.int .i64 ((noS E.P 4 s).a : Int))) := ⟨_, rfl⟩
      rw [← hZ];obtain ⟨k1, k2, k3, k4⟩ := HEND.out Z hZ;have HK1 := lh k1;have HK2 := lh k2;have HK3 := lh k3;have HK4 := lh k4;clear hZ k1 k2 k3 k4 y0 y1 y2 y3 y4 z0 z1 z2 z3 z4 u0 u1 q0 q1;go_wp2_with fail
      exact bodyPost_ret (kx rfl rfl rfl (w := Z.drew) HK1.out HK2.out) rfl ⟨none, 0, by rw [HA3.out HK.out H0.out], jr HK3.out (ji (Below.refl _ _).drew _), by rw [HA3.out HK.out H0.out]; exact vJ rfl⟩
 · have e1 : ((s.k : Int) == 0) = false := (by simp [hk]);have e1b : ((s.k : Int) != 0) = true := (by simp [hk]);have HK := lh hk;clear hk;go_upto_region 4 with fail
   have hn := HN.out;have hf := HF.out;unfold ju at hn;obtain ⟨⟨y0, y1, y2, y3, y4⟩, ⟨z0, z1, z2, z3, z4⟩⟩ := jC hn;have u0 : W.cell? ⟨fb, 0, none⟩ = some (.int .i64 0) := ja hf 0;have u1 : W.cell? ⟨fb, 1, none⟩ = some (.int .i64 0) := ja hf 1;have q0 := jd hf 0;have q1 := jd hf 1;have w0 := lt_of_block hn;have w1 := lt_of_block hf;have HEND := lh (fun (Z : World) hZ => done_end (E := E) (n := zeroT) (ao := none) (cap := 0) (D := D) (p := (s.k : Int)) (q := (s.a : Int)) HN1.out HN2.out HGW.out hn hf (vJ rfl) HDZ.out Z hZ);clear hn hf;go_region
   all_goals
    obtain ⟨Z, hZ⟩ : ∃ Z, Z = (((((((W.setCell ⟨nb, 0, none⟩ (.int .i64 0)).setCell ⟨nb, 1, none⟩ (.int .i64 0)).setCell ⟨nb, 2, none⟩ (.string ⟨#[]⟩)).setCell ⟨nb, 3, none⟩ (.int .i64 0)).setCell ⟨nb, 4, none⟩ (.slice none 0 0)).setCell ⟨fb, 0, none⟩ (.int .i64 (s.k : Int))).setCell ⟨fb, 1, none⟩ (.int .i64 (s.a : Int))) := ⟨_, rfl⟩
    rw [← hZ];obtain ⟨k1, k2, k3, k4⟩ := HEND.out Z hZ;have HK1 := lh k1;have HK2 := lh k2;have HK3 := lh k3;have HK4 := lh k4;clear hZ k1 k2 k3 k4 y0 y1 y2 y3 y4 z0 z1 z2 z3 z4 u0 u1 q0 q1;go_wp2_with fail
    exact bodyPost_ret (kx rfl rfl rfl (w := Z.drew) HK1.out HK2.out) rfl ⟨none, 0, by rw [HA1.out HK.out], jr HK3.out (ji (Below.refl _ _).drew _), by rw [HA1.out HK.out]; exact vJ rfl⟩
theorem ansD_long {s : ByteArray} {m : Src → M Ty} (hl : (jH s).2.1 = 1 ∨ (jH s).2.1 = 2) : vh s m = (zeroT, (jH s).2.1, (jH s).2.2) := by unfold vh; rw [if_pos hl]
theorem ansD_short {s : ByteArray} {m : Src → M Ty} (hl : ¬ ((jH s).2.1 = 1 ∨ (jH s).2.1 = 2)) : vh s m = ansT (qA s) (m (qA s) 0) := by
 unfold vh ansT vu;rw [if_neg hl]
 cases m (qA s) 0 with
 | bad k a => rfl
 | ok n j =>
  dsimp only
  by_cases h : (qA s).K j = 0
  · rw [if_pos h, if_pos h]
  · rw [if_neg h, if_neg h, vT]
structure Tq (s : ByteArray) (A : Ty × Nat × Nat) (q : Nat) (w W : World) (nb fb : Nat) (w1 : World) (rb : Nat) : Prop where
 t : Tp s A q w W nb fb
 hrb : W.heap.size ≤ rb
 hb : Below W.heap.size W w1
section
variable {s : ByteArray} {A : Ty × Nat × Nat} {q nb fb rb : Nat} {w W w1 : World}
theorem Tq.ne (h : Tq s A q w W nb fb w1 rb) : ¬ (rb = nb) ∧ ¬ (rb = fb) ∧ ¬ (nb = rb) ∧ ¬ (fb = rb) := by
 have h1 := h.hrb;have h2 := h.t.sW;have h3 := h.t.hnb;have h4 := h.t.hfb;omega
theorem Tq.rn (h : Tq s A q w W nb fb w1 rb) : w1.heap[nb]? = some (.cells #[.int .i64 0, .int .i64 0, .string ⟨#[]⟩, .int .i64 0, .slice none 0 0] 26 (0, 0)) := jo h.t.rn h.hb (lt_of_block h.t.rn)
theorem Tq.rf (h : Tq s A q w W nb fb w1 rb) : w1.heap[fb]? = some (.cells #[.int .i64 0, .int .i64 0] 29 (0, 0)) := jo h.t.rf h.hb (lt_of_block h.t.rf)
theorem Tq.long (h : Tq s A q w W nb fb w1 rb) (hl : (jH s).2.1 = 1 ∨ (jH s).2.1 = 2) : A = (zeroT, (jH s).2.1, (jH s).2.2) := h.t.hA.trans (ansD_long hl)
theorem Tq.endl (h : Tq s A q w W nb fb w1 rb) (x y : Nat) (Y : World) (hY : Y = set2 (kN w1 nb zeroT none 0) fb x y) : (Y.heap[nb]? = some (.cells (jh zeroT none 0) 26 (0, 0)) ∧ Y.heap[fb]? = some (.cells #[.int .i64 x, .int .i64 y] 29 (0, 0)) ∧ Below w.heap.size w Y ∧ SlD Y (fun b => w.heap.size ≤ b ∧ b < Y.heap.size) zeroT.args none 0) := vW h.t.hnb h.t.hfb h.t.bW h.t.sW h.t.rn h.t.rf h.hb (vJ rfl) Y hY
theorem beg_env {N : Nat} {P : Src} {a : Option Addr} {cap d : Nat} {u : RS} (h : Rr ⟨N, rb, P, a, cap⟩ w1 u d) : ∃ E : Env, E.rb = rb ∧ E.P = P ∧ Rr E w1 u d := ⟨_, rfl, rfl, h⟩
theorem Tq.done {E : Env} {w2 : World} {u : RS} {n : Ty} {ao : Option Addr} {cap : Nat} (h : Tq s A q w W nb fb w1 rb) (hE : E.rb = rb) (hP : E.P = qA s) (hl : ¬ ((jH s).2.1 = 1 ∨ (jH s).2.1 = 2)) (hlr : E.rb < w1.heap.size) (hR : Rr E w2 u 0) (hG : w1.grownBy w2 (some E.rb)) (hT : Rl (qX q E.P 0) n u) (hS : SlD w2 (fun b => w1.heap.size ≤ b ∧ b < w2.heap.size) n.args ao cap) :
 Calls Tryz.prog 53 #[.pointer (some ⟨rb, 0, none⟩), .agg #[.int .i64 n.k, .int .i64 n.n, .string n.s, .int .i64 n.q, .slice ao n.args.length cap]] w2 fun e w3 => ∃ ao9 cap9, e = .returned (.tuple #[.agg #[.int .i64 A.1.k, .int .i64 A.1.n, .string A.1.s, .int .i64 A.1.q, .slice ao9 A.1.args.length cap9], .agg #[.int .i64 A.2.1, .int .i64 A.2.2]]) ∧ Cl w3 nb fb ∧ Hid (∀ Y : World, Y = set2 (kN w3 nb A.1 ao9 cap9) fb A.2.1 A.2.2 → (Y.heap[nb]? = some (.cells (jh A.1 ao9 cap9) 26 (0, 0)) ∧ Y.heap[fb]? = some (.cells #[.int .i64 A.2.1, .int .i64 A.2.2] 29 (0, 0)) ∧ Below w.heap.size w Y ∧ SlD Y (fun b => w.heap.size ≤ b ∧ b < Y.heap.size) A.1.args ao9 cap9)) := by
 have hA : ansT E.P (qX q E.P 0) = A := by rw [hP]; exact (h.t.hA.trans (ansD_short hl)).symm
 have h9 := rdone_any E w2 u 0 n ao cap _ _ hR hT hS (fun b hb => ⟨hb.2, by have := hb.1; omega⟩);unfold pr at h9;rw [hE, hA] at h9;refine h9.mono ?_;rintro e w3 ⟨ao9, cap9, rfl, hg, hs⟩;obtain ⟨m1, m2, m3, m4⟩ := h.ne;have hr := h.hrb;have hb3 : Below W.heap.size W w3 := (h.hb.trans (gr_to_below hG h.hb.size (by omega))).trans (gr_to_below hg (Nat.le_trans h.hb.size hG.size) (by omega));have hs3 : SlD w3 (fun b => W.heap.size ≤ b ∧ b < w3.heap.size) A.1.args ao9 cap9 := SlD.mono hs fun b hb => ⟨Nat.le_trans h.hb.size hb.1, Nat.lt_of_lt_of_le hb.2 hg.size⟩
 exact ⟨ao9, cap9, rfl, Cl.of (kM hg (kM hG h.rn (fun e => m3 (e.trans hE))) (fun e => m3 (e.trans hE))) (kM hg (kM hG h.rf (fun e => m4 (e.trans hE))) (fun e => m4 (e.trans hE))), lh fun Y hY => vW h.t.hnb h.t.hfb h.t.bW h.t.sW h.t.rn h.t.rf hb3 hs3 Y hY⟩
end
theorem rParseExp_any (s : ByteArray) (w : World) : Calls Tryz.prog 21 #[.string s] w (vz (vh s (qX 1)) w) := by
 obtain ⟨A, W, nb, fb, hA, hW, hnb, hfb, n1, n2, P0⟩ := Tp.go s 1 w;rw [hA];have HX := lh (And.intro hW (And.intro hfb hnb));clear hA hW hnb hfb;go_enter Tryz.func21, Tryz.ntmps21
 go_upto_region 1 with fail
 rw [HX.out.1, HX.out.2.1, HX.out.2.2];clear HX;go_upto_region 2 with (first | (go_at_call 52; refine (yb s W).mono ?_; rintro e w1 ⟨rb, hrb, hb, h3⟩; have P1 : Hid (Tq s A 1 w W nb fb w1 rb) := lh ⟨P0.out, hrb, hb⟩; clear hrb hb; rcases h3 with ⟨hl, rfl, a, n, cap, hr⟩ | ⟨hl, hok, rfl, a, cap, hr⟩))
 · have HL := lh (P1.out.long hl);obtain ⟨⟨r0, r1, r2, r3, r4, r5, r6⟩, -, -⟩ := r_cells hr;obtain ⟨⟨⟨y0, y1, y2, y3, y4⟩, ⟨z0, z1, z2, z3, z4⟩⟩, u0, u1, q0, q1, v0, v1⟩ := Cl.of P1.out.rn P1.out.rf;have v2 := lt_of_block hr;obtain ⟨m1, m2, m3, m4⟩ := P1.out.ne;clear hr hl;go_upto_region 3 with fail
   go_region
   all_goals
    generalize hZ : (((((((w1.setCell ⟨nb, 0, none⟩ (.int .i64 0)).setCell ⟨nb, 1, none⟩ (.int .i64 0)).setCell ⟨nb, 2, none⟩ (.string ⟨#[]⟩)).setCell ⟨nb, 3, none⟩ (.int .i64 0)).setCell ⟨nb, 4, none⟩ (.slice none 0 0)).setCell ⟨fb, 0, none⟩ (.int .i64 ((jH s).2.1 : Int))).setCell ⟨fb, 1, none⟩ (.int .i64 ((jH s).2.2 : Int))) = Z;have HK := lh (P1.out.endl _ _ Z hZ.symm);clear hZ y0 y1 y2 y3 y4 z0 z1 z2 z3 z4 u0 u1 q0 q1 r0 r1 r2 r3 r4 r5 r6;go_wp2_with fail
    exact bodyPost_ret (kx rfl rfl rfl (w := Z.drew) HK.out.1 HK.out.2.1) rfl ⟨none, 0, by rw [HL.out], HK.out.2.2.1.drew, by rw [HL.out]; exact vJ rfl⟩
 · obtain ⟨E, hEr, hEP, hr⟩ := beg_env hr;have HER := lh hEr;have HEP := lh hEP;have HL := lh hl;have HLR := lh hr.ltr;obtain ⟨m1, m2, m3, m4⟩ := P1.out.ne;have HCALL : Hid (Calls Tryz.prog 56 #[.pointer (some ⟨rb, 0, none⟩)] w1 (RPost E 0 w1 (rn (qX 1 E.P) ⟨0, 0, 0⟩) (NdQ w1))) := lh (by have h := (rall E 60 (Nat.le_refl _)).exp w1 ⟨0, 0, 0⟩ hr; unfold pr at h; rw [hEr] at h; exact h);clear hEr hEP hr hl hok;go_wp2_with (first | (go_at_call 53; refine HD.out.mono ?_; rintro e w3 ⟨ao9, cap9, rfl, ⟨⟨⟨y0, y1, y2, y3, y4⟩, ⟨z0, z1, z2, z3, z4⟩⟩, u0, u1, q0, q1, v0, v1⟩, HEND⟩) | (go_at_call 56; refine HCALL.out.mono ?_; rintro e w2 ⟨x, v, s2, rfl, hg, hr, ⟨aox, capx, rfl, hs⟩, hl⟩; have HD := lh (P1.out.done HER.out HEP.out HL.out HLR.out hr hg hl hs); unfold jh at ⊢; clear hr hg hs hl))
   obtain ⟨k1, k2, k3, k4⟩ := HEND.out _ rfl;exact bodyPost_ret (kx rfl rfl rfl k1 k2) rfl ⟨ao9, cap9, rfl, k3, k4⟩
theorem rParsePat_any (s : ByteArray) (w : World) : Calls Tryz.prog 22 #[.string s] w (vz (vh s (qX 2)) w) := by
 obtain ⟨A, W, nb, fb, hA, hW, hnb, hfb, n1, n2, P0⟩ := Tp.go s 2 w;rw [hA];have HX := lh (And.intro hW (And.intro hfb hnb));clear hA hW hnb hfb;go_enter Tryz.func22, Tryz.ntmps22
 go_upto_region 1 with fail
 rw [HX.out.1, HX.out.2.1, HX.out.2.2];clear HX;go_upto_region 2 with (first | (go_at_call 52; refine (yb s W).mono ?_; rintro e w1 ⟨rb, hrb, hb, h3⟩; have P1 : Hid (Tq s A 2 w W nb fb w1 rb) := lh ⟨P0.out, hrb, hb⟩; clear hrb hb; rcases h3 with ⟨hl, rfl, a, n, cap, hr⟩ | ⟨hl, hok, rfl, a, cap, hr⟩))
 · have HL := lh (P1.out.long hl);obtain ⟨⟨r0, r1, r2, r3, r4, r5, r6⟩, -, -⟩ := r_cells hr;obtain ⟨⟨⟨y0, y1, y2, y3, y4⟩, ⟨z0, z1, z2, z3, z4⟩⟩, u0, u1, q0, q1, v0, v1⟩ := Cl.of P1.out.rn P1.out.rf;have v2 := lt_of_block hr;obtain ⟨m1, m2, m3, m4⟩ := P1.out.ne;clear hr hl;go_upto_region 3 with fail
   go_region
   all_goals
    generalize hZ : (((((((w1.setCell ⟨nb, 0, none⟩ (.int .i64 0)).setCell ⟨nb, 1, none⟩ (.int .i64 0)).setCell ⟨nb, 2, none⟩ (.string ⟨#[]⟩)).setCell ⟨nb, 3, none⟩ (.int .i64 0)).setCell ⟨nb, 4, none⟩ (.slice none 0 0)).setCell ⟨fb, 0, none⟩ (.int .i64 ((jH s).2.1 : Int))).setCell ⟨fb, 1, none⟩ (.int .i64 ((jH s).2.2 : Int))) = Z;have HK := lh (P1.out.endl _ _ Z hZ.symm);clear hZ y0 y1 y2 y3 y4 z0 z1 z2 z3 z4 u0 u1 q0 q1 r0 r1 r2 r3 r4 r5 r6;go_wp2_with fail
    exact bodyPost_ret (kx rfl rfl rfl (w := Z.drew) HK.out.1 HK.out.2.1) rfl ⟨none, 0, by rw [HL.out], HK.out.2.2.1.drew, by rw [HL.out]; exact vJ rfl⟩
 · obtain ⟨E, hEr, hEP, hr⟩ := beg_env hr;have HER := lh hEr;have HEP := lh hEP;have HL := lh hl;have HLR := lh hr.ltr;obtain ⟨m1, m2, m3, m4⟩ := P1.out.ne;have HCALL : Hid (Calls Tryz.prog 57 #[.pointer (some ⟨rb, 0, none⟩)] w1 (RPost E 0 w1 (rn (qX 2 E.P) ⟨0, 0, 0⟩) (NdQ w1))) := lh (by have h := (rall E 60 (Nat.le_refl _)).pat w1 ⟨0, 0, 0⟩ hr; unfold pr at h; rw [hEr] at h; exact h);clear hEr hEP hr hl hok;go_wp2_with (first | (go_at_call 53; refine HD.out.mono ?_; rintro e w3 ⟨ao9, cap9, rfl, ⟨⟨⟨y0, y1, y2, y3, y4⟩, ⟨z0, z1, z2, z3, z4⟩⟩, u0, u1, q0, q1, v0, v1⟩, HEND⟩) | (go_at_call 57; refine HCALL.out.mono ?_; rintro e w2 ⟨x, v, s2, rfl, hg, hr, ⟨aox, capx, rfl, hs⟩, hl⟩; have HD := lh (P1.out.done HER.out HEP.out HL.out HLR.out hr hg hl hs); unfold jh at ⊢; clear hr hg hs hl))
   obtain ⟨k1, k2, k3, k4⟩ := HEND.out _ rfl;exact bodyPost_ret (kx rfl rfl rfl k1 k2) rfl ⟨ao9, cap9, rfl, k3, k4⟩
theorem rParseType_any (s : ByteArray) (w : World) : Calls Tryz.prog 23 #[.string s] w (vz (vh s (qX 3)) w) := by
 obtain ⟨A, W, nb, fb, hA, hW, hnb, hfb, n1, n2, P0⟩ := Tp.go s 3 w;rw [hA];have HX := lh (And.intro hW (And.intro hfb hnb));clear hA hW hnb hfb;go_enter Tryz.func23, Tryz.ntmps23
 go_upto_region 1 with fail
 rw [HX.out.1, HX.out.2.1, HX.out.2.2];clear HX;go_upto_region 2 with (first | (go_at_call 52; refine (yb s W).mono ?_; rintro e w1 ⟨rb, hrb, hb, h3⟩; have P1 : Hid (Tq s A 3 w W nb fb w1 rb) := lh ⟨P0.out, hrb, hb⟩; clear hrb hb; rcases h3 with ⟨hl, rfl, a, n, cap, hr⟩ | ⟨hl, hok, rfl, a, cap, hr⟩))
 · have HL := lh (P1.out.long hl);obtain ⟨⟨r0, r1, r2, r3, r4, r5, r6⟩, -, -⟩ := r_cells hr;obtain ⟨⟨⟨y0, y1, y2, y3, y4⟩, ⟨z0, z1, z2, z3, z4⟩⟩, u0, u1, q0, q1, v0, v1⟩ := Cl.of P1.out.rn P1.out.rf;have v2 := lt_of_block hr;obtain ⟨m1, m2, m3, m4⟩ := P1.out.ne;clear hr hl;go_upto_region 3 with fail
   go_region
   all_goals
    generalize hZ : (((((((w1.setCell ⟨nb, 0, none⟩ (.int .i64 0)).setCell ⟨nb, 1, none⟩ (.int .i64 0)).setCell ⟨nb, 2, none⟩ (.string ⟨#[]⟩)).setCell ⟨nb, 3, none⟩ (.int .i64 0)).setCell ⟨nb, 4, none⟩ (.slice none 0 0)).setCell ⟨fb, 0, none⟩ (.int .i64 ((jH s).2.1 : Int))).setCell ⟨fb, 1, none⟩ (.int .i64 ((jH s).2.2 : Int))) = Z;have HK := lh (P1.out.endl _ _ Z hZ.symm);clear hZ y0 y1 y2 y3 y4 z0 z1 z2 z3 z4 u0 u1 q0 q1 r0 r1 r2 r3 r4 r5 r6;go_wp2_with fail
    exact bodyPost_ret (kx rfl rfl rfl (w := Z.drew) HK.out.1 HK.out.2.1) rfl ⟨none, 0, by rw [HL.out], HK.out.2.2.1.drew, by rw [HL.out]; exact vJ rfl⟩
 · obtain ⟨E, hEr, hEP, hr⟩ := beg_env hr;have HER := lh hEr;have HEP := lh hEP;have HL := lh hl;have HLR := lh hr.ltr;obtain ⟨m1, m2, m3, m4⟩ := P1.out.ne;have HCALL : Hid (Calls Tryz.prog 58 #[.pointer (some ⟨rb, 0, none⟩)] w1 (RPost E 0 w1 (rn (qX 3 E.P) ⟨0, 0, 0⟩) (NdQ w1))) := lh (by have h := (rall E 60 (Nat.le_refl _)).typ w1 ⟨0, 0, 0⟩ hr; unfold pr at h; rw [hEr] at h; exact h);clear hEr hEP hr hl hok;go_wp2_with (first | (go_at_call 53; refine HD.out.mono ?_; rintro e w3 ⟨ao9, cap9, rfl, ⟨⟨⟨y0, y1, y2, y3, y4⟩, ⟨z0, z1, z2, z3, z4⟩⟩, u0, u1, q0, q1, v0, v1⟩, HEND⟩) | (go_at_call 58; refine HCALL.out.mono ?_; rintro e w2 ⟨x, v, s2, rfl, hg, hr, ⟨aox, capx, rfl, hs⟩, hl⟩; have HD := lh (P1.out.done HER.out HEP.out HL.out HLR.out hr hg hl hs); unfold jh at ⊢; clear hr hg hs hl))
   obtain ⟨k1, k2, k3, k4⟩ := HEND.out _ rfl;exact bodyPost_ret (kx rfl rfl rfl k1 k2) rfl ⟨ao9, cap9, rfl, k3, k4⟩
theorem rParse_any (s : ByteArray) (w : World) : Calls Tryz.prog 20 #[.string s] w (vz (vh s (qX 0)) w) := by
 obtain ⟨A, W, nb, fb, hA, hW, hnb, hfb, n1, n2, P0⟩ := Tp.go s 0 w;rw [hA];have HX := lh (And.intro hW (And.intro hfb hnb));clear hA hW hnb hfb;go_enter Tryz.func20, Tryz.ntmps20
 go_upto_region 1 with fail
 rw [HX.out.1, HX.out.2.1, HX.out.2.2];clear HX;go_upto_region 2 with (first | (go_at_call 52; refine (yb s W).mono ?_; rintro e w1 ⟨rb, hrb, hb, h3⟩; have P1 : Hid (Tq s A 0 w W nb fb w1 rb) := lh ⟨P0.out, hrb, hb⟩; clear hrb hb; rcases h3 with ⟨hl, rfl, a, n, cap, hr⟩ | ⟨hl, hok, rfl, a, cap, hr⟩))
 · have HL := lh (P1.out.long hl);obtain ⟨⟨r0, r1, r2, r3, r4, r5, r6⟩, -, -⟩ := r_cells hr;obtain ⟨⟨⟨y0, y1, y2, y3, y4⟩, ⟨z0, z1, z2, z3, z4⟩⟩, u0, u1, q0, q1, v0, v1⟩ := Cl.of P1.out.rn P1.out.rf;have v2 := lt_of_block hr;obtain ⟨m1, m2, m3, m4⟩ := P1.out.ne;clear hr hl;go_upto_region 3 with fail
   go_region
   all_goals
    generalize hZ : (((((((w1.setCell ⟨nb, 0, none⟩ (.int .i64 0)).setCell ⟨nb, 1, none⟩ (.int .i64 0)).setCell ⟨nb, 2, none⟩ (.string ⟨#[]⟩)).setCell ⟨nb, 3, none⟩ (.int .i64 0)).setCell ⟨nb, 4, none⟩ (.slice none 0 0)).setCell ⟨fb, 0, none⟩ (.int .i64 ((jH s).2.1 : Int))).setCell ⟨fb, 1, none⟩ (.int .i64 ((jH s).2.2 : Int))) = Z;have HK := lh (P1.out.endl _ _ Z hZ.symm);clear hZ y0 y1 y2 y3 y4 z0 z1 z2 z3 z4 u0 u1 q0 q1 r0 r1 r2 r3 r4 r5 r6;go_wp2_with fail
    exact bodyPost_ret (kx rfl rfl rfl (w := Z.drew) HK.out.1 HK.out.2.1) rfl ⟨none, 0, by rw [HL.out], HK.out.2.2.1.drew, by rw [HL.out]; exact vJ rfl⟩
 · obtain ⟨E, hEr, hEP, hr⟩ := beg_env hr;have HER := lh hEr;have HEP := lh hEP;have HL := lh hl;have HLR := lh hr.ltr;obtain ⟨m1, m2, m3, m4⟩ := P1.out.ne;have HCALL : Hid (Calls Tryz.prog 55 #[.pointer (some ⟨rb, 0, none⟩), .int .i64 0] w1 (RPost E 0 w1 (rn (qm E.P (jf E.P 60) 0) ⟨0, 0, 0⟩) (OwB w1))) := lh (by have h := rdecs0_any E 60 (rall E 60 (Nat.le_refl _)) w1 ⟨0, 0, 0⟩ 0 (by decide) hr; unfold pr at h; rw [hEr] at h; exact h);clear hEr hEP hr hl hok;go_wp2_with (first | (go_at_call 53; refine HD.out.mono ?_; rintro e w3 ⟨ao9, cap9, rfl, ⟨⟨⟨y0, y1, y2, y3, y4⟩, ⟨z0, z1, z2, z3, z4⟩⟩, u0, u1, q0, q1, v0, v1⟩, HEND⟩) | (go_at_call 54; refine (rnode_any _ _ _ _ _ wd).mono ?_; rintro e w2 ⟨rfl, hb⟩; have HS9 : SlD w2 (fun b => w1.heap.size ≤ b ∧ b < w2.heap.size) l aol capl := SlD.mono (HSl.out.keep (w' := w2) fun b q off => hb.cell (p := ⟨b, off, none⟩) q.2) (fun b q => ⟨q.1, Nat.lt_of_lt_of_le q.2 hb.size⟩); have HD := lh (P1.out.done HER.out HEP.out HL.out HLR.out (n := .mk 0 0 ⟨#[]⟩ 0 l) (HRd.out.keep hb) (jr HGd.out (ji hb (some E.rb))) HT8.out HS9); clear hb HS9) | (go_at_call 55; refine HCALL.out.mono ?_; rintro e wd ⟨l, v, s2, rfl, hg, hr, ⟨ho, hlen⟩, hl⟩; have HT8 := lh (show Rl (qX 0 E.P 0) (.mk 0 0 ⟨#[]⟩ 0 l) s2 from rn_pure (vi (f := fun l => (pure (.mk 0 0 ⟨#[]⟩ 0 l) : M Ty)) hl)); have HRd := lh hr; have HGd := lh hg; obtain ⟨bs, D, e1, own, hD⟩ := ho; obtain ⟨aol, capl, ev, hsl⟩ := own.read (D' := fun b => w1.heap.size ≤ b ∧ b < wd.heap.size) (fun b hb => ⟨(hD b hb).1, (hD b hb).2.1⟩) (fun b hb => ⟨(own.own.lt b hb).1, (own.own.lt b hb).2⟩); rw [e1] at hsl; have eln : bs.length = l.length := (by have h9 := congrArg List.length e1; simpa using h9); rw [eln] at ev; subst ev; have HSl := lh hsl; clear hr hg hl e1 own hD hsl eln hlen))
   obtain ⟨k1, k2, k3, k4⟩ := HEND.out _ rfl;exact bodyPost_ret (kx rfl rfl rfl k1 k2) rfl ⟨ao9, cap9, rfl, k3, k4⟩
theorem told0_any (s : ByteArray) (w : World) : Calls Tryz.prog 9 #[.int .i64 0, .string s] w (vz (vh s (qX 0)) w) := by
 obtain ⟨A, hA⟩ : ∃ A, A = vh s (qX 0) := ⟨_, rfl⟩
 obtain ⟨W, hW, hbW, hsW, rn, rf⟩ := vM w;have HCALL : Hid (Calls Tryz.prog 20 #[.string s] W (vz A W)) := lh (by rw [hA]; exact rParse_any s W);rw [← hA];clear hA;obtain ⟨nb, hnb⟩ : ∃ nb, nb = w.heap.size := ⟨_, rfl⟩
 obtain ⟨fb, hfb⟩ : ∃ fb, fb = w.heap.size + 1 := ⟨_, rfl⟩
 rw [← hnb] at rn;rw [← hfb] at rf;have HNB := lh hnb;have HFB := lh hfb;have HRN := lh rn;have HRF := lh rf;have HBW := lh hbW;have HSW := lh hsW;unfold ju at hW;have HWW := lh hW;have n1 : ¬ (nb = fb) := by omega
 have n2 : ¬ (fb = nb) := by omega
 clear hW hbW hsW rn rf hnb hfb;go_enter Tryz.func9, Tryz.ntmps9
 go_upto_region 1 with fail
 rw [← HWW.out, ← HFB.out, ← HNB.out];clear HWW;go_wp2_with (first | (go_at_call 20; refine HCALL.out.mono ?_; rintro e w1 ⟨ao, cap, rfl, hb, hs⟩; have HEND := lh (fun (Z : World) hZ => vW (x := A.2.1) (y := A.2.2) HNB.out HFB.out HBW.out HSW.out HRN.out HRF.out hb hs Z hZ); have r1 := jo HRN.out hb (lt_of_block HRN.out); have r2 := jo HRF.out hb (lt_of_block HRF.out); unfold ju at r1; obtain ⟨⟨c0, c1, c2, c3, c4⟩, ⟨z0, z1, z2, z3, z4⟩⟩ := jC r1; have u0 : w1.cell? ⟨fb, 0, none⟩ = some (.int .i64 0) := ja r2 0; have u1 : w1.cell? ⟨fb, 1, none⟩ = some (.int .i64 0) := ja r2 1; have q0 := jd r2 0; have q1 := jd r2 1; unfold jh at ⊢; clear hb hs r1 r2))
 obtain ⟨k1, k2, k3, k4⟩ := HEND.out _ rfl;exact bodyPost_ret (kx rfl rfl rfl k1 k2) rfl ⟨ao, cap, rfl, k3, k4⟩
theorem told1_any (s : ByteArray) (w : World) : Calls Tryz.prog 9 #[.int .i64 1, .string s] w (vz (vh s (qX 1)) w) := by
 obtain ⟨A, hA⟩ : ∃ A, A = vh s (qX 1) := ⟨_, rfl⟩
 obtain ⟨W, hW, hbW, hsW, rn, rf⟩ := vM w;have HCALL : Hid (Calls Tryz.prog 21 #[.string s] W (vz A W)) := lh (by rw [hA]; exact rParseExp_any s W);rw [← hA];clear hA;obtain ⟨nb, hnb⟩ : ∃ nb, nb = w.heap.size := ⟨_, rfl⟩
 obtain ⟨fb, hfb⟩ : ∃ fb, fb = w.heap.size + 1 := ⟨_, rfl⟩
 rw [← hnb] at rn;rw [← hfb] at rf;have HNB := lh hnb;have HFB := lh hfb;have HRN := lh rn;have HRF := lh rf;have HBW := lh hbW;have HSW := lh hsW;unfold ju at hW;have HWW := lh hW;have n1 : ¬ (nb = fb) := by omega
 have n2 : ¬ (fb = nb) := by omega
 clear hW hbW hsW rn rf hnb hfb;go_enter Tryz.func9, Tryz.ntmps9
 go_upto_region 1 with fail
 rw [← HWW.out, ← HFB.out, ← HNB.out];clear HWW;go_wp2_with (first | (go_at_call 21; refine HCALL.out.mono ?_; rintro e w1 ⟨ao, cap, rfl, hb, hs⟩; have HEND := lh (fun (Z : World) hZ => vW (x := A.2.1) (y := A.2.2) HNB.out HFB.out HBW.out HSW.out HRN.out HRF.out hb hs Z hZ); have r1 := jo HRN.out hb (lt_of_block HRN.out); have r2 := jo HRF.out hb (lt_of_block HRF.out); unfold ju at r1; obtain ⟨⟨c0, c1, c2, c3, c4⟩, ⟨z0, z1, z2, z3, z4⟩⟩ := jC r1; have u0 : w1.cell? ⟨fb, 0, none⟩ = some (.int .i64 0) := ja r2 0; have u1 : w1.cell? ⟨fb, 1, none⟩ = some (.int .i64 0) := ja r2 1; have q0 := jd r2 0; have q1 := jd r2 1; unfold jh at ⊢; clear hb hs r1 r2))
 obtain ⟨k1, k2, k3, k4⟩ := HEND.out _ rfl;exact bodyPost_ret (kx rfl rfl rfl k1 k2) rfl ⟨ao, cap, rfl, k3, k4⟩
theorem told2_any (s : ByteArray) (w : World) : Calls Tryz.prog 9 #[.int .i64 2, .string s] w (vz (vh s (qX 2)) w) := by
 obtain ⟨A, hA⟩ : ∃ A, A = vh s (qX 2) := ⟨_, rfl⟩
 obtain ⟨W, hW, hbW, hsW, rn, rf⟩ := vM w;have HCALL : Hid (Calls Tryz.prog 22 #[.string s] W (vz A W)) := lh (by rw [hA]; exact rParsePat_any s W);rw [← hA];clear hA;obtain ⟨nb, hnb⟩ : ∃ nb, nb = w.heap.size := ⟨_, rfl⟩
 obtain ⟨fb, hfb⟩ : ∃ fb, fb = w.heap.size + 1 := ⟨_, rfl⟩
 rw [← hnb] at rn;rw [← hfb] at rf;have HNB := lh hnb;have HFB := lh hfb;have HRN := lh rn;have HRF := lh rf;have HBW := lh hbW;have HSW := lh hsW;unfold ju at hW;have HWW := lh hW;have n1 : ¬ (nb = fb) := by omega
 have n2 : ¬ (fb = nb) := by omega
 clear hW hbW hsW rn rf hnb hfb;go_enter Tryz.func9, Tryz.ntmps9
 go_upto_region 1 with fail
 rw [← HWW.out, ← HFB.out, ← HNB.out];clear HWW;go_wp2_with (first | (go_at_call 22; refine HCALL.out.mono ?_; rintro e w1 ⟨ao, cap, rfl, hb, hs⟩; have HEND := lh (fun (Z : World) hZ => vW (x := A.2.1) (y := A.2.2) HNB.out HFB.out HBW.out HSW.out HRN.out HRF.out hb hs Z hZ); have r1 := jo HRN.out hb (lt_of_block HRN.out); have r2 := jo HRF.out hb (lt_of_block HRF.out); unfold ju at r1; obtain ⟨⟨c0, c1, c2, c3, c4⟩, ⟨z0, z1, z2, z3, z4⟩⟩ := jC r1; have u0 : w1.cell? ⟨fb, 0, none⟩ = some (.int .i64 0) := ja r2 0; have u1 : w1.cell? ⟨fb, 1, none⟩ = some (.int .i64 0) := ja r2 1; have q0 := jd r2 0; have q1 := jd r2 1; unfold jh at ⊢; clear hb hs r1 r2))
 obtain ⟨k1, k2, k3, k4⟩ := HEND.out _ rfl;exact bodyPost_ret (kx rfl rfl rfl k1 k2) rfl ⟨ao, cap, rfl, k3, k4⟩
theorem told3_any (s : ByteArray) (w : World) : Calls Tryz.prog 9 #[.int .i64 3, .string s] w (vz (vh s (qX 3)) w) := by
 obtain ⟨A, hA⟩ : ∃ A, A = vh s (qX 3) := ⟨_, rfl⟩
 obtain ⟨W, hW, hbW, hsW, rn, rf⟩ := vM w;have HCALL : Hid (Calls Tryz.prog 23 #[.string s] W (vz A W)) := lh (by rw [hA]; exact rParseType_any s W);rw [← hA];clear hA;obtain ⟨nb, hnb⟩ : ∃ nb, nb = w.heap.size := ⟨_, rfl⟩
 obtain ⟨fb, hfb⟩ : ∃ fb, fb = w.heap.size + 1 := ⟨_, rfl⟩
 rw [← hnb] at rn;rw [← hfb] at rf;have HNB := lh hnb;have HFB := lh hfb;have HRN := lh rn;have HRF := lh rf;have HBW := lh hbW;have HSW := lh hsW;unfold ju at hW;have HWW := lh hW;have n1 : ¬ (nb = fb) := by omega
 have n2 : ¬ (fb = nb) := by omega
 clear hW hbW hsW rn rf hnb hfb;go_enter Tryz.func9, Tryz.ntmps9
 go_upto_region 1 with fail
 rw [← HWW.out, ← HFB.out, ← HNB.out];clear HWW;go_wp2_with (first | (go_at_call 23; refine HCALL.out.mono ?_; rintro e w1 ⟨ao, cap, rfl, hb, hs⟩; have HEND := lh (fun (Z : World) hZ => vW (x := A.2.1) (y := A.2.2) HNB.out HFB.out HBW.out HSW.out HRN.out HRF.out hb hs Z hZ); have r1 := jo HRN.out hb (lt_of_block HRN.out); have r2 := jo HRF.out hb (lt_of_block HRF.out); unfold ju at r1; obtain ⟨⟨c0, c1, c2, c3, c4⟩, ⟨z0, z1, z2, z3, z4⟩⟩ := jC r1; have u0 : w1.cell? ⟨fb, 0, none⟩ = some (.int .i64 0) := ja r2 0; have u1 : w1.cell? ⟨fb, 1, none⟩ = some (.int .i64 0) := ja r2 1; have q0 := jd r2 0; have q1 := jd r2 1; unfold jh at ⊢; clear hb hs r1 r2))
 obtain ⟨k1, k2, k3, k4⟩ := HEND.out _ rfl;exact bodyPost_ret (kx rfl rfl rfl k1 k2) rfl ⟨ao, cap, rfl, k3, k4⟩
theorem toldk_any (k : Nat) (hk : k < 4) (s : ByteArray) (w : World) : Calls Tryz.prog 9 #[.int .i64 k, .string s] w (vz (vh s (qX k)) w) := by
 match k, hk with
 | 0, _ => exact told0_any s w
 | 1, _ => exact told1_any s w
 | 2, _ => exact told2_any s w
 | 3, _ => exact told3_any s w
theorem lex_one {s : ByteArray} {k : Nat} {t : ByteArray} {n : Nat} (h0 : 0 < s.size) (h1 : s.size ≤ 4000) (hb : ∀ i, i < s.size → okB (bt s i) = true) (hg : qf s 0 40 42 = false) (hl : qn (bt s 0) = false) (ht : tokD s 0 = some ((k, 0, t, n), s.size)) : Wt s k t n := by
 unfold Wt jH;rw [if_neg (by omega), badD_none 0 (fun i _ hi => hb i hi)];simp only
 rw [ye (by omega) (gapD_stop hg fun _ => hl) (by omega) ht, vK (gapD_end (by omega))];rfl
theorem cut_sizz {s : ByteArray} {i j : Nat} (h : j ≤ s.size) : (cut s i j).size = j - i := by
 unfold cut;rw [ByteArray.size_extract]; omega
theorem cut_bt {s : ByteArray} {i j k : Nat} (h : j ≤ s.size) (hk : k < j - i) : bt (cut s i j) k = bt s (i + k) := by
 unfold bt cut;rw [ByteArray.data_extract, Array.toList_extract, List.extract_eq_take_drop, List.getD_eq_getElem?_getD, List.getElem?_take_of_lt hk, List.getElem?_drop, ← List.getD_eq_getElem?_getD]
theorem cut_all (s : ByteArray) : cut s 0 s.size = s := by
 unfold cut; simp
theorem whD_in {s : ByteArray} {p : Nat → Bool} (i : Nat) : ∀ k, i ≤ k → k < whD s p i → p (bt s k) = true := by
 induction i using whD.induct s p with
 | case1 i h hp ih =>
  intro k h1 h2;rw [kS h hp] at h2
  by_cases e : k = i
  · rw [e]; exact hp
  · exact ih k (by omega) h2
 | case2 i h hp => intro k h1 h2; rw [vm h (by simpa using hp)] at h2; omega
 | case3 i h => intro k h1 h2; rw [vC (by omega)] at h2; omega
theorem whD_to {s : ByteArray} {p : Nat → Bool} (i : Nat) : i ≤ s.size → (∀ k, i ≤ k → k < s.size → p (bt s k) = true) → whD s p i = s.size := by
 induction i using whD.induct s p with
 | case1 i h hp ih => intro h0 hk; rw [kS h hp]; exact ih (by omega) fun k h1 h2 => hk k (by omega) h2
 | case2 i h hp => intro h0 hk; exact absurd (hk i (by omega) h) hp
 | case3 i h => intro h0 hk; rw [vC (by omega)]; omega
theorem varD_in {s : ByteArray} {f : Nat} (i : Nat) : ∀ k, i ≤ k → k < varD s f i → (kf (bt s k) || (decide (f < k) && dig (bt s k))) = true := by
 induction i using varD.induct s f with
 | case1 i h hp ih =>
  intro k h1 h2;rw [varD_step h hp] at h2
  by_cases e : k = i
  · rw [e]; exact hp
  · exact ih k (by omega) h2
 | case2 i h hp => intro k h1 h2; rw [qI (fun _ => by simpa using hp)] at h2; omega
 | case3 i h => intro k h1 h2; rw [qI (fun h3 => absurd h3 h)] at h2; omega
theorem varD_to {s : ByteArray} {f : Nat} (i : Nat) : i ≤ s.size → (∀ k, i ≤ k → k < s.size → (kf (bt s k) || (decide (f < k) && dig (bt s k))) = true) → varD s f i = s.size := by
 induction i using varD.induct s f with
 | case1 i h hp ih => intro h0 hk; rw [varD_step h hp]; exact ih (by omega) fun k h1 h2 => hk k (by omega) h2
 | case2 i h hp => intro h0 hk; exact absurd (hk i (by omega) h) hp
 | case3 i h => intro h0 hk; rw [qI (fun h3 => absurd h3 h)]; omega
theorem inName_ok {c : Nat} (h : jB c = true) : okB c = true := by
 simp [jB, dig, kf, kB] at h
 simp [okB]; omega
theorem size_get {s : ByteArray} {b : UInt8} (h : b ∈ s.data.toList) : ∃ k, k < s.size ∧ bt s k = b.toNat := by
 obtain ⟨k, hk, e⟩ := List.mem_iff_getElem.1 h;refine ⟨k, by rw [← sizeL]; exact hk, ?_⟩;unfold bt;rw [List.getD_eq_getElem?_getD, List.getElem?_eq_getElem hk, e]; rfl
structure Gtk (t : Tok) : Prop where
 lo : t.1 = 3 → Nm 3 t.2.2.1
 up : t.1 = 4 → Nm 4 t.2.2.1
 va : t.1 = 5 → Nm 5 t.2.2.1
 num : t.1 = 1 → t.2.2.2 ≤ 1000000000
 str : t.1 = 2 → t.2.2.1.size ≤ 200
 sz : t.2.2.1.size ≤ 4000
theorem nm_name {s : ByteArray} {i : Nat} (hi : i < s.size) (h : (kf (bt s i) || kB (bt s i) || decide (bt s i = 95)) = true) (hl : whD s jB i - i ≤ 20) (k : Nat) (hk : k = (if cut s i (whD s jB i) = ⟨#[95]⟩ then 7 else if qM (cut s i (whD s jB i)) then 6 else if kB (bt s i) then 4 else 3)) : Wt (cut s i (whD s jB i)) k (cut s i (whD s jB i)) 0 ∧ 0 < (cut s i (whD s jB i)).size ∧ ∀ b ∈ (cut s i (whD s jB i)).data.toList, jB b.toNat = true := by
 have hin : jB (bt s i) = true := by
  simp at h
  rcases h with (h | h) | h <;> simp [jB, h]
 have hw := whD_ge s jB i
 have hw1 : i < whD s jB i := by
  rw [kS hi hin];have := (whD_ge s jB (i + 1)).1;omega
 have hw2 := hw.2 (by omega);have ha := whD_in (s := s) (p := jB) i;generalize whD s jB i = j at *
 obtain ⟨u, hu⟩ : ∃ u, u = cut s i j := ⟨_, rfl⟩
 have hs : u.size = j - i := by rw [hu]; exact cut_sizz hw2
 have hb : ∀ m, m < u.size → bt u m = bt s (i + m) := fun m hm => by rw [hu]; exact cut_bt hw2 (by omega)
 rw [← hu] at hk ⊢;have h0 : bt u 0 = bt s i := hb 0 (by omega);have hall : ∀ m, m < u.size → jB (bt u m) = true := fun m hm => by rw [hb m hm]; exact ha _ (by omega) (by omega)
 have h00 : (97 ≤ bt u 0 ∧ bt u 0 ≤ 122 ∨ 65 ≤ bt u 0 ∧ bt u 0 ≤ 90) ∨ bt u 0 = 95 := by rw [h0]; simpa [kf, kB] using h
 refine ⟨?_, by omega, ?_⟩
 · refine lex_one (by omega) (by omega) (fun m hm => inName_ok (hall m hm)) ?_ ?_ ?_
   · simp [qf]; omega
   · simp [qn]; omega
   · unfold tokD;rw [if_neg (by simp [dig]; omega), if_neg (by omega), if_neg (by omega), if_pos (by rw [h0]; exact h), whD_to 0 (by omega) (fun m _ hm => hall m hm)];simp only
     rw [if_pos (by omega), cut_all, hk, h0]
 · intro b hbm;obtain ⟨m, hm, e⟩ := size_get hbm;rw [← e]; exact hall m hm
theorem nm_var {s : ByteArray} {i f : Nat} (hi : i < s.size) (h : bt s i = 39) (hf : f = if tokD.hasQ s (i + 1) then i + 2 else i + 1) (hl : f < varD s f f ∧ varD s f f - f ≤ 20) : Nm 5 (cut s i (varD s f f)) := by
 have hf2 : i < f ∧ f ≤ i + 2 := by rw [hf]; split <;> omega
 have hfs : f ≤ s.size := by
  rw [hf]; split
  · rename_i hq; simp [tokD.hasQ] at hq; omega
  · omega
 have hv := (varD_ge (s := s) f f).2 hfs;have ha := varD_in (s := s) (f := f) f;generalize varD s f f = j at *
 obtain ⟨u, hu⟩ : ∃ u, u = cut s i j := ⟨_, rfl⟩
 have hs : u.size = j - i := by rw [hu]; exact cut_sizz hv
 have hb : ∀ m, m < u.size → bt u m = bt s (i + m) := fun m hm => by rw [hu]; exact cut_bt hv (by omega)
 rw [← hu];have h0 : bt u 0 = 39 := by rw [hb 0 (by omega)]; exact h
 have hq : tokD.hasQ u 1 = tokD.hasQ s (i + 1) := by
  unfold tokD.hasQ;rw [hb 1 (by omega), decide_eq_decide];constructor <;> rintro ⟨h1, h2⟩ <;> exact ⟨by omega, h2⟩
 have hfu : (if tokD.hasQ u 1 then 2 else 1) = f - i := by rw [hq, hf]; split <;> omega
 have hall : ∀ m, f - i ≤ m → m < u.size → (kf (bt u m) || (decide (f - i < m) && dig (bt u m))) = true := by
  intro m h1 hm;have h2 := ha (i + m) (by omega) (by omega);rw [hb m hm, show decide (f - i < m) = decide (f < i + m) by rw [decide_eq_decide]; omega];exact h2
 have hlow : ∀ m, m < f - i → bt u m = 39 := by
  intro m hm
  by_cases e : m = 0
  · rw [e]; exact h0
  · have e1 : m = 1 := by omega
    have hq1 : tokD.hasQ s (i + 1) = true := by
     cases hc : tokD.hasQ s (i + 1) with
     | true => rfl
     | false => rw [hc] at hf; simp at hf; omega
    simp [tokD.hasQ] at hq1
    rw [e1, hb 1 (by omega)]; exact hq1.2
 have hin : ∀ m, m < u.size → jB (bt u m) = true := by
  intro m hm
  by_cases e : m < f - i
  · rw [hlow m e]; rfl
  · have := hall m (by omega) hm;simp at this
    rcases this with h | ⟨_, h⟩ <;> simp [jB, h]
 refine ⟨?_, by omega, ?_⟩
 · refine lex_one (by omega) (by omega) (fun m hm => inName_ok (hin m hm)) ?_ ?_ ?_
   · simp [qf]; omega
   · rw [h0]; rfl
   · unfold tokD;rw [if_neg (by rw [h0]; decide), if_neg (by omega), if_pos h0];simp only [Nat.zero_add];rw [hfu, varD_to (f - i) (by omega) hall, if_pos (by omega), cut_all]
 · intro b hbm;obtain ⟨m, hm, e⟩ := size_get hbm;rw [← e]; exact hin m hm
theorem kind4 (a b c : Prop) [Decidable a] [Decidable b] [Decidable c] : 2 < (if a then 7 else if b then 6 else if c then 4 else 3) ∧ (if a then 7 else if b then 6 else if c then 4 else 3) ≠ 5 := by
 by_cases ha : a <;> by_cases hb : b <;> by_cases hc : c <;> simp [ha, hb, hc]
theorem tokD_good {s : ByteArray} {i : Nat} (hs : s.size ≤ 4000) (hi : i < s.size) {t : Tok} {j : Nat} (h : tokD s i = some (t, j)) : Gtk t := by
 have hc : ∀ a b, (cut s a b).size ≤ 4000 := by intro a b; unfold cut; rw [ByteArray.size_extract]; omega
 unfold tokD at h;split at h
 · split at h
   · cases h; exact ⟨by simp, by simp, by simp, fun _ => by assumption, by simp, by simp⟩
   · cases h
 split at h
 · split at h
   · rename_i b j2 ht
     cases h
     have := (textD_lt _ _ ht).2.2;refine ⟨by simp, by simp, by simp, by simp, fun _ => by rw [sizeA]; omega, by rw [sizeA]; omega⟩
   · cases h
 split at h
 · rename_i h3
   have hgo : ∀ f, f = (if tokD.hasQ s (i + 1) then i + 2 else i + 1) → (if f < varD s f f ∧ varD s f f - f ≤ 20 then some (((5, i, cut s i (varD s f f), 0) : Tok), varD s f f) else none) = some (t, j) → Gtk t := by
    intro f hf hq
    by_cases h4 : f < varD s f f ∧ varD s f f - f ≤ 20
    · rw [if_pos h4] at hq
      cases hq
      exact ⟨by simp, by simp, fun _ => nm_var hi h3 hf h4, by simp, by simp, hc _ _⟩
    · rw [if_neg h4] at hq; cases hq
   exact hgo _ rfl h
 split at h
 · rename_i h4
   simp only at h;split at h
   · rename_i h5
     have hn := nm_name hi h4 h5 _ rfl
     cases h
     refine ⟨fun e => ?_, fun e => ?_, fun e => ?_, fun e => ?_, fun e => ?_, hc _ _⟩
     · simp only at e; rw [e] at hn; exact ⟨hn.1, hn.2.1, hn.2.2⟩
     · simp only at e; rw [e] at hn; exact ⟨hn.1, hn.2.1, hn.2.2⟩
     all_goals (exfalso; simp only at e; have h9 := kind4 (cut s i (whD s jB i) = ⟨#[95]⟩) (qM (cut s i (whD s jB i)) = true) (kB (bt s i) = true); omega)
   · cases h
 split at h
 · cases h; exact ⟨by simp, by simp, by simp, by simp, by simp, hc _ _⟩
 split at h
 · cases h; exact ⟨by simp, by simp, by simp, by simp, by simp, hc _ _⟩
 · cases h
theorem toksD_good {s : ByteArray} (hs : s.size ≤ 4000) (i : Nat) (l : List Tok) : i ≤ s.size → (∀ t ∈ l, Gtk t) → ∀ t ∈ (qc s i l).1, Gtk t := by
 obtain ⟨m, hm⟩ : ∃ m, m = s.size - i := ⟨_, rfl⟩
 induction m using Nat.strongRecOn generalizing i l with
 | ind m IH =>
  intro hi hl;have hge := gapD_ge (s := s) i hi
  cases hg : gapD s i with
  | mk k ok =>
   rw [hg] at hge;simp only at hge
   cases ok with
   | false => rw [toksD_bad hg]; exact hl
   | true =>
    by_cases hk : k = s.size
    · subst hk;rw [vK hg];intro t ht;rcases List.mem_append.1 ht with ht | ht
      · exact hl t ht
      · rw [List.mem_singleton.1 ht]; exact ⟨by simp, by simp, by simp, by simp, by simp, by simp⟩
    · cases ht : tokD s k with
      | none => rw [toksD_none hg hk ht]; exact hl
      | some r =>
       obtain ⟨tk, z⟩ := r;have hz := tokD_lt (by omega) ht;rw [ye hi hg hk ht];refine IH (s.size - z) (by omega) z _ rfl hz.2 ?_;intro t h1;rcases List.mem_append.1 h1 with h1 | h1
       · exact hl t h1
       · rw [List.mem_singleton.1 h1]; exact tokD_good hs (by omega) ht
theorem lex_good (s : ByteArray) : ∀ t ∈ (jH s).1, Gtk t := by
 unfold jH;split
 · simp
 · rename_i h
   split
   · simp
   · exact toksD_good (by omega) 0 [] (by omega) (by simp)
theorem good_src {P : Src} (h : ∀ t ∈ P.toks, Gtk t) : GoodT P ∧ ∀ i, (P.T i).size ≤ 4000 := by
 have hg : ∀ i : Nat, (∃ t : Tok, P.toks[i]? = some t ∧ Gtk t) ∨ P.toks[i]? = none := by
  intro i
  cases e : P.toks[i]? with
  | none => exact .inr rfl
  | some t => exact .inl ⟨t, rfl, h t (List.mem_iff_getElem?.2 ⟨i, e⟩)⟩
 refine ⟨⟨?_, ?_, ?_, ?_, ?_⟩, ?_⟩ <;> intro i <;> rcases hg i with ⟨t, e, g⟩ | e <;> simp only [Src.K, Src.T, Src.N, e]
 · intro h; exact g.lo (by omega)
 · intro h; omega
 · intro h; exact g.up (by omega)
 · intro h; omega
 · intro h; exact g.va (by omega)
 · intro h; omega
 · intro h; exact g.num (by omega)
 · intro h; omega
 · intro h; exact g.str (by omega)
 · intro h; omega
 · exact g.sz
 · decide
def In (P : Src) (i : Nat) : Prop := P.fk ≠ 0 ∨ i + 1 ≤ P.toks.length
def EndOk (P : Src) : Prop := P.fk = 0 → ∀ i, i + 1 = P.toks.length → P.K i = 0
def Z (P : Src) {α : Type} : Res α → Prop
 | .ok _ j => In P j
 | .bad k _ => k ≠ 0
def Sz (P : Src) {α : Type} (m : M α) : Prop := ∀ i, In P i → Z P (m i)
section
variable {P : Src}
theorem Z.ok {α : Type} {x : α} {j : Nat} (h : In P j) : Z P (.ok x j) := h
theorem Z.fail {α : Type} {e i : Nat} (h : In P i) (he : e ≠ 0) : Z P (jE (α := α) P e i) := by
 unfold jE
 by_cases c : P.K i = -1
 · rw [if_pos c];rcases h with h | h
   · exact h
   · exfalso
     unfold Src.K at c;rw [List.getElem?_eq_getElem (by omega)] at c;simp at c
 · rw [if_neg c]; exact he
theorem Z.ite {α : Type} {c : Prop} [Decidable c] {r s : Res α} (h1 : c → Z P r) (h2 : ¬ c → Z P s) : Z P (if c then r else s) := by
 by_cases h : c
 · rw [if_pos h]; exact h1 h
 · rw [if_neg h]; exact h2 h
theorem Z.iteM {α : Type} {c : Prop} [Decidable c] {r s : M α} {j : Nat} (h1 : c → Z P (r j)) (h2 : ¬ c → Z P (s j)) : Z P ((if c then r else s) j) := by
 by_cases h : c
 · rw [if_pos h]; exact h1 h
 · rw [if_neg h]; exact h2 h
theorem Z.bind {α β : Type} {m : M α} {f : α → M β} {i : Nat} (hm : Z P (m i)) (h : ∀ x j, In P j → Z P (f x j)) : Z P ((m >>= f) i) := by
 cases hx : m i with
 | bad a n => rw [ke hx]; rw [hx] at hm; exact hm
 | ok x j => rw [kq hx]; rw [hx] at hm; exact h x j hm
variable (HE : EndOk P)
include HE
theorem in_next {i : Nat} (h : In P i) (hk : 1 ≤ P.K i) : In P (i + 1) := by
 rcases h with h | h
 · exact .inl h
 · by_cases e : P.fk = 0
   · by_cases e2 : i + 1 = P.toks.length
     · have := HE e i e2; omega
     · exact .inr (by omega)
   · exact .inl e
theorem qB {i : Nat} {s : ByteArray} (c : isD P s i = true) (h : In P i) : In P (i + 1) := by
 unfold isD at c; simp at c;exact in_next HE h (by omega)
theorem in_one {i : Nat} {l : List ByteArray} (c : jK P l i = true) (h : In P i) : In P (i + 1) := by
 unfold jK at c;simp only [Bool.and_eq_true, decide_eq_true_eq] at c;exact in_next HE h (by omega)
theorem in_or {i : Nat} {s t : ByteArray} (c : isD P s i = true ∨ isD P t i = true) (h : In P i) : In P (i + 1) := c.elim (fun c => qB HE c h) (fun c => qB HE c h)
theorem in_k {i : Nat} {k : Int} (c : P.K i = k) (h : In P i) (hk : 1 ≤ k := by decide) : In P (i + 1) := in_next HE h (by omega)
end
theorem zinL {p : Prop} (h : p := by first | assumption | exact qB (by assumption) (by assumption) (by assumption) | exact in_or (by assumption) (by assumption) (by assumption) | exact in_k (by assumption) (by assumption) (by assumption) | exact in_one (by assumption) (by assumption) (by assumption)) : p := h
section
variable {P : Src} (HE : EndOk P)
include HE
theorem sz_kind (k : Int) (hk : 1 ≤ k := by decide) : Sz P (jI P k) := fun i h => by
 unfold jI
 exact Z.ite (fun c => in_k HE c h hk) (fun _ => Z.fail h (by decide))
theorem sz_must (s : ByteArray) : Sz P (jm P s) := fun i h => by
 unfold jm
 exact Z.ite (fun c => qB HE c h) (fun _ => Z.fail h (by decide))
theorem sz_eat (s : ByteArray) : Sz P (kn P s) := fun i h => by
 unfold kn
 exact Z.ite (fun c => qB HE c h) (fun _ => h)
theorem sz_pathL (last : Nat) : ∀ (f : Nat) (s : ByteArray), Sz P (yg P last f s)
 | 0, s => fun i h => Z.fail h (by decide)
 | f + 1, s => fun i h => by
  show Z P (if P.K i = 3 ∧ last ≠ 4 then Res.ok (s ++ P.T i, 3) (i + 1) else if P.K i ≠ 4 then jE P 4 i else if isD P s_dot (i + 1) = true then yg P last f (s ++ P.T i ++ s_dot) (i + 2) else if last = 3 then jE P 4 (i + 1) else .ok (s ++ P.T i, 4) (i + 1))
  refine Z.ite (fun c => in_k HE c.1 h) (fun _ => Z.ite (fun _ => Z.fail h (by decide)) (fun c => ?_))
  have h1 := in_k HE (Decidable.not_not.1 c) h
  exact Z.ite (fun c => sz_pathL last f _ _ (qB HE c h1)) (fun _ => Z.ite (fun _ => Z.fail h1 (by decide)) (fun _ => h1))
theorem sz_path (last : Nat) : Sz P (ki P last) := sz_pathL HE last _ _
omit HE in
theorem sz_many {α : Type} (c : Nat → Bool) {item : M α} (h : ∀ i, In P i → c i = true → Z P (item i)) : ∀ (f : Nat) (acc : List α), Sz P (qg c item f acc)
 | 0, acc => fun i hi => hi
 | f + 1, acc => fun i hi => by
  show Z P (if c i = true then (item >>= fun x => qg c item f (acc ++ [x])) i else .ok acc i)
  exact Z.ite (fun e => Z.bind (h i hi e) fun x j hj => sz_many c h f _ j hj) (fun _ => hi)
theorem sz_sep {α : Type} {item : M α} (s : ByteArray) (h : Sz P item) : ∀ (f : Nat) (acc : List α), Sz P (ku P item s f acc)
 | 0, acc => fun i hi => hi
 | f + 1, acc => fun i hi => by
  show Z P (if isD P s i = true then (item >>= fun x => ku P item s f (acc ++ [x])) (i + 1) else .ok acc i)
  exact Z.ite (fun e => Z.bind (h _ (qB HE e hi)) fun x j hj => sz_sep s h f _ j hj) (fun _ => hi)
theorem sz_row {α : Type} {item : M α} (s : ByteArray) (h : Sz P item) : Sz P (jZ P item s) := fun i hi => by
 show Z P ((item >>= fun x => ku P item s (P.toks.length + 1) [x]) i)
 exact Z.bind (h i hi) fun x j hj => sz_sep HE s h _ _ j hj
end
structure RZ (P : Src) (R : Rec) : Prop where
 go : ∀ nt, nt ≠ .dec → Sz P (R.go nt)
 dec : ∀ w i, In P i → jK P (jv w) i = true → Z P (R.go .dec i)
 deep : Sz P R.deep
theorem zzL {p : Prop} (h : p := by repeat' first | assumption | exact Z.fail zinL (by decide) | exact Z.ok zinL | exact Z.ret zinL | exact Z.pure zinL | (refine Z.ite (fun _ => ?_) (fun _ => ?_)) | (refine Z.iteM (fun _ => ?_) (fun _ => ?_)) | (refine Z.bind (by first | exact sz_kind (by assumption) _ (by decide) _ zinL | exact sz_must (by assumption) _ _ zinL | exact sz_eat (by assumption) _ _ zinL | exact sz_path (by assumption) _ _ zinL | assumption | exact (by assumption : Sz _ _) _ zinL | exact RZ.go (by assumption) _ (by intro h; cases h) _ zinL | exact RZ.deep (by assumption) _ zinL | exact sz_row (by assumption) _ (by first | assumption | exact RZ.go (by assumption) _ (by intro h; cases h)) _ zinL) (fun _ _ _ => ?_)) | exact RZ.go (by assumption) _ (by intro h; cases h) _ zinL) : p := h
section
variable (P : Src) (R : Rec) (HE : EndOk P) (HR : RZ P R)
include HE HR
theorem sz_appL (a : Nat) : ∀ (f : Nat) (l : List Ty), Sz P (kX P a f l)
 | 0, l => fun i h => Z.fail h (by decide)
 | f + 1, l => fun i h => by
  show Z P (if l.length ≠ 1 ∨ P.K i = 3 ∨ P.K i = 4 then (ki P 3 >>= fun p => kX P a f [.mk 31 a p.1 0 l]) i else .ok (l.headD default) i)
  exact Z.ite (fun _ => Z.bind (sz_path HE 3 i h) fun p j hj => sz_appL a f _ j hj) (fun _ => h)
theorem sz_applied : Sz P (kK P R) := fun i hi => by
 unfold kK
 refine Z.ite (fun c => sz_appL P R HE HR _ _ _ _ (in_k HE c hi)) (fun _ => Z.ite (fun c => ?_) (fun _ => sz_appL P R HE HR _ _ _ _ hi))
 exact Z.bind (sz_row HE s_com (HR.go .typ (by intro h; cases h)) _ (qB HE c hi)) fun l j hj => Z.bind (sz_must HE _ _ hj) fun _ k hk => sz_appL P R HE HR _ _ _ _ hk
theorem sz_arrow : Sz P (arrowB P R) := fun i hi => by
 have h := sz_applied P R HE HR
 unfold arrowB
 exact zzL
theorem sz_roundPat (a : Nat) : Sz P (qa P R a) := fun i hi => by
 unfold qa
 refine Z.ite (fun c => qB HE c hi) (fun _ => Z.ite (fun c => ?_) (fun _ => ?_))
 · have h2 : In P (i + 2) := in_k HE c.2.1 (in_k HE c.1 hi)
   exact zzL
 · exact zzL
theorem sz_apat : Sz P (jR P R) := fun i hi => by
 unfold jR
 refine Z.ite (fun c => qB HE c hi) (fun _ => Z.ite (fun c => in_k HE c hi) (fun _ => Z.ite (fun c => in_k HE c hi) (fun _ => Z.ite (fun c => ?_) (fun _ => Z.ite (fun c => in_k HE c hi) (fun _ => Z.ite (fun c => ?_) (fun _ => Z.ite (fun c => in_or HE c hi) (fun _ => Z.ite (fun c => ?_) (fun _ => Z.ite (fun c => ?_) (fun _ => Z.fail hi (by decide))))))))))
 · have h1 := qB HE c hi
   exact Z.ite (fun c => in_k HE c h1) (fun _ => Z.fail h1 (by decide))
 · exact zzL
 · have h1 := qB HE c hi
   exact zzL
 · exact sz_roundPat P R HE HR _ _ (qB HE c hi)
theorem sz_cpat : Sz P (kr P R) := fun i hi => by
 have h := sz_apat P R HE HR
 unfold kr
 refine Z.bind (h i hi) fun n j hj => ?_
 exact zzL
theorem sz_pat : Sz P (vI P R) := fun i hi => by
 have h := sz_cpat P R HE HR
 unfold vI
 exact zzL
theorem sz_decs (k : Nat) : Sz P (qm P R k) := sz_many _ (fun i h1 h2 => HR.dec k i h1 h2) _ _
theorem sz_con : Sz P (conB P R) := fun i hi => by
 unfold conB
 exact zzL
theorem sz_one : Sz P (oneB P) := fun i hi => by
 unfold oneB
 exact zzL
theorem sz_head (k : Int) (a : Nat) : Sz P (qT P k a) := fun i hi => by
 have h := sz_one P R HE HR
 unfold qT
 exact zzL
theorem sz_dbind : Sz P (vr P R) := fun i hi => by
 have h := sz_con P R HE HR
 have h2 := sz_head P R HE HR 39 (P.A i)
 unfold vr
 refine Z.bind (h2 i hi) fun n j hj => ?_
 exact zzL
theorem sz_data (a : Nat) : Sz P (yj P R a) := fun i hi => by
 have h := sz_dbind P R HE HR
 unfold yj
 exact zzL
theorem sz_fbind : Sz P (kC P R) := fun i hi => by
 have h := sz_apat P R HE HR
 unfold kC
 refine Z.bind (sz_kind HE 3 (by decide) i hi) fun s j hj => Z.bind (h j hj) fun p j2 hj2 => Z.bind (sz_many _ (fun i h1 _ => h i h1) _ _ j2 hj2) fun l j3 hj3 => ?_
 exact zzL
theorem sz_body : Sz P (yf P R) := fun i hi => by
 have h := sz_decs P R HE HR 1
 unfold yf
 exact zzL
theorem sz_ann : Sz P (annB P R) := fun i hi => by
 unfold annB
 exact zzL
theorem sz_structure (a : Nat) : Sz P (kH P R a) := fun i hi => by
 have h := sz_body P R HE HR
 have h2 := sz_ann P R HE HR
 unfold kH
 refine Z.bind (sz_kind HE 4 (by decide) i hi) fun s j hj => Z.bind (h2 j hj) fun g j2 hj2 => Z.bind (sz_must HE _ _ hj2) fun _ j3 hj3 => Z.bind (h j3 hj3) fun b j4 hj4 => hj4
theorem sz_dec (i : Nat) (hi0 : In P i) (w : Nat) (c : jK P (jv w) i = true) : Z P (qZ P R i) := by
 have hi := in_one HE c hi0;have h1 := sz_fbind P R HE HR;have h2 := sz_data P R HE HR (P.A i) (i + 1) hi;have h3 := sz_con P R HE HR (i + 1) hi;have h4 := sz_structure P R HE HR (P.A i) (i + 1) hi;have h5 := sz_head P R HE HR 37 (P.A i) (i + 1) hi;unfold qZ;exact zzL
theorem sz_spec : Sz P (ky P R) := fun i hi => by
 have h2 := sz_data P R HE HR (P.A i)
 have h3 := sz_con P R HE HR
 have h5 := sz_head P R HE HR 50 (P.A i)
 unfold ky
 refine Z.ite (fun _ => ?_) (fun _ => Z.ite (fun _ => ?_) (fun _ => Z.ite (fun c => h2 _ (qB HE c hi)) (fun _ => Z.ite (fun _ => ?_) (fun _ => Z.ite (fun _ => ?_) (fun _ => Z.fail hi (by decide))))))
 · exact zzL
 · exact zzL
 · exact zzL
 · exact zzL
theorem sz_specs : ∀ (f : Nat) (acc : List Ty), Sz P (kT P R f acc)
 | 0, acc => fun i hi => hi
 | f + 1, acc => fun i hi => by
  show Z P (if isD P w_end i = true then .ok acc (i + 1) else (ky P R >>= fun x => kT P R f (acc ++ [x])) i)
  exact Z.ite (fun c => qB HE c hi) (fun _ => Z.bind (sz_spec P R HE HR i hi) fun x j hj => sz_specs f _ j hj)
theorem sz_sigs : Sz P (sigsB P R) := fun i hi => by
 have h := sz_specs P R HE HR (P.toks.length + 1) []
 unfold sigsB
 exact zzL
theorem sz_rule : Sz P (ruleB P R) := fun i hi => by
 unfold ruleB
 exact zzL
theorem sz_rules (k : Int) (a : Nat) (w : ByteArray) : Sz P (vc P R k a w) := fun i hi => by
 have h := sz_rule P R HE HR
 unfold vc
 exact zzL
theorem sz_round (a : Nat) : Sz P (vX P R a) := fun i hi => by
 unfold vX
 exact zzL
theorem sz_atom : Sz P (kp P R) := fun i hi => by
 have h1 := sz_round P R HE HR (P.A i)
 have h2 := sz_decs P R HE HR 2
 have h3 := sz_rules P R HE HR 10 (P.A i) w_of
 have h4 := sz_rules P R HE HR 11 (P.A i) w_with
 unfold kp
 refine Z.ite (fun c => in_k HE c hi) (fun _ => Z.ite (fun c => in_k HE c hi) (fun _ => Z.ite (fun _ => Z.bind (sz_path HE 0 i hi) fun p j hj => hj) (fun _ => Z.ite (fun c => in_or HE c hi) (fun _ => Z.ite (fun c => h1 _ (qB HE c hi)) (fun _ => Z.ite (fun _ => ?_) (fun _ => Z.ite (fun _ => ?_) (fun _ => Z.ite (fun c => h3 _ (qB HE c hi)) (fun _ => Z.ite (fun c => h4 _ (qB HE c hi)) (fun _ => Z.fail hi (by decide))))))))))
 · exact zzL
 · exact zzL
theorem sz_prefixL : ∀ (f : Nat), Sz P (qk P R f)
 | 0 => fun i h => Z.fail h (by decide)
 | f + 1 => fun i hi => by
  show Z P (if isD P s_ti i = true ∨ isD P s_ex i = true then (qk P R f >>= fun n => ret (.mk 18 (P.A i) (P.T i) 0 [n])) (i + 1) else kp P R i)
  exact Z.ite (fun c => Z.bind (sz_prefixL f _ (in_or HE c hi)) fun n j hj => hj) (fun _ => sz_atom P R HE HR i hi)
theorem sz_applyL : ∀ (f : Nat) (n : Ty), Sz P (qr P R f n)
 | 0, n => fun i hi => hi
 | f + 1, n => fun i hi => by
  show Z P (if kh P i = true then (qj P R >>= fun b => qr P R f (.mk 8 n.n ⟨#[]⟩ 0 [n, b])) i else .ok n i)
  exact Z.ite (fun _ => Z.bind (sz_prefixL P R HE HR _ i hi) fun x j hj => sz_applyL f _ j hj) (fun _ => hi)
theorem sz_apply : Sz P (applyB P R) := fun i hi => by
 show Z P ((qj P R >>= fun n => qr P R (P.toks.length + 1) n) i)
 exact Z.bind (sz_prefixL P R HE HR _ i hi) fun n j hj => sz_applyL P R HE HR _ _ j hj
omit HR in
theorem sz_col (k : Nat) {item : M Ty} (h : Sz P item) : ∀ (f : Nat) (acc : List (ByteArray × Ty)), Sz P (jW P k item f acc)
 | 0, acc => fun i hi => hi
 | f + 1, acc => fun i hi => by
  show Z P (if (acc.length = 0 ∨ qd k = false) ∧ jK P (lvL k) i = true then (item >>= fun x => jW P k item f (acc ++ [(P.T i, x)])) (i + 1) else .ok acc i)
  exact Z.ite (fun c => Z.bind (h _ (in_one HE c.2 hi)) fun x j hj => sz_col k h f _ j hj) (fun _ => hi)
theorem sz_bet : ∀ (k : Nat), Sz P (jF P R k)
 | 0 => sz_apply P R HE HR
 | k + 1 => fun i hi => by
  show Z P ((jF P R k >>= fun a => jW P (k + 1) (jF P R k) (P.toks.length + 1) [] >>= fun l => (pure (if k + 1 = 3 then vn a l else jJ a l) : M Ty)) i)
  exact Z.bind (sz_bet k i hi) fun a j hj => Z.bind (sz_col P HE (k + 1) (sz_bet k) _ _ j hj) fun l j2 hj2 => hj2
theorem sz_open : Sz P (openB P R) := fun i hi => by
 have h := sz_apat P R HE HR
 have h2 := sz_bet P R HE HR 7 i hi
 unfold openB
 exact zzL
end
theorem sz_rec (P : Src) (HE : EndOk P) : ∀ g, RZ P ⟨jt P g, jE P 5⟩ ∧ RZ P (jf P g)
 | 0 => by
  have h : ∀ nt, Sz P (jt P 0 nt) := fun nt i hi => Z.fail hi (by decide)
  have hd : Sz P (jE (α := Ty) P 5) := fun i hi => Z.fail hi (by decide)
  exact ⟨⟨fun nt _ => h nt, fun w i hi _ => h .dec i hi, hd⟩, ⟨fun nt _ => h nt, fun w i hi _ => h .dec i hi, hd⟩⟩
 | g + 1 => by
  have IH := (sz_rec P HE g)
  have h : ∀ nt, nt ≠ .dec → Sz P (jt P (g + 1) nt) := fun nt hn => by
   rw [kA]
   cases nt with
   | exp => exact sz_open P _ HE IH.2
   | pat => exact sz_pat P _ HE IH.2
   | typ => exact sz_arrow P _ HE IH.2
   | dec => exact absurd rfl hn
   | sig => exact sz_sigs P _ HE IH.2
  have h2 : ∀ w i, In P i → jK P (jv w) i = true → Z P (jt P (g + 1) .dec i) := fun w i hi c => by
   rw [kA]; exact sz_dec P _ HE IH.2 i hi w c
  exact ⟨⟨h, h2, fun i hi => Z.fail hi (by decide)⟩, ⟨h, h2, fun i hi => IH.1.go .exp (by intro h; cases h) i hi⟩⟩
theorem top_kind {P : Src} (HE : EndOk P) (h0 : In P 0) (k a q : Nat) (h : topD P q = .bad k a) : k ≠ 0 := by
 have hw : ∀ {m : M Ty}, Sz P m → ∀ {k a}, vu P m = .bad k a → k ≠ 0 := by
  intro m hm k a h;have hz := hm 0 h0;unfold vu at h
  cases hx : m 0 with
  | bad k2 a2 => rw [hx] at h hz; cases h; exact hz
  | ok n j =>
   rw [hx] at h hz;rcases jp h with ⟨c, h⟩ | ⟨c, h⟩
   · cases h
   · have h2 : Z P (jE (α := Ty) P 4 j) := Z.fail hz (by decide);rw [h] at h2; exact h2
 have hg := (sz_rec P HE 60);unfold topD at h;split at h
 · exact hw (m := qm P (jf P 60) 0 >>= fun l => ret (.mk 0 0 ⟨#[]⟩ 0 l)) (fun i hi => Z.bind (sz_decs P _ HE hg.2 0 i hi) fun x j hj => hj) h
 split at h
 · exact hw (hg.1.go .exp (by intro h; cases h)) h
 split at h
 · exact hw (hg.1.go .pat (by intro h; cases h)) h
 · exact hw (hg.1.go .typ (by intro h; cases h)) h
section
variable {P : Src}
theorem K_ltt {i : Nat} {k : Nat} (h : P.K i = (k : Int)) : i < P.toks.length := by
 unfold Src.K at h
 cases e : P.toks[i]? with
 | none => rw [e] at h; simp at h
 | some t => exact (List.getElem?_eq_some_iff.1 e).1
end
theorem topD_M (P : Src) (q : Nat) : topD P q = vu P (qX q P) := by
 unfold topD
 match q with
 | 0 => rfl
 | 1 => rfl
 | 2 => rfl
 | q + 3 => rw [if_neg (by omega), if_neg (by omega), if_neg (by omega)]; rfl
theorem ans_cases (s : ByteArray) (q : Nat) : (∃ k, k ≠ 0 ∧ ∃ z a, vh s (qX q) = (z, k, a)) ∨ ∃ n j, SrcOk (qA s) ∧ topD (qA s) q = .ok n j ∧ vh s (qX q) = (n, 0, 0) := by
 unfold vh
 by_cases hl : (jH s).2.1 = 1 ∨ (jH s).2.1 = 2
 · rw [if_pos hl];exact .inl ⟨(jH s).2.1, by omega, _, _, rfl⟩
 · rw [if_neg hl]
   have hok : SrcOk (qA s) := by
    rcases lexD_cases s with ⟨h, -⟩ | ⟨-, h⟩
    · exact absurd h hl
    · exact h
   rw [← topD_M]
   have HE : EndOk (qA s) := fun e i hi => by
    have := (hok.ends e).2;rw [show (qA s).toks.length - 1 = i by omega] at this;exact this
   have h0 : In (qA s) 0 := by
    by_cases e : (qA s).fk = 0
    · exact .inr (by have := (hok.ends e).1; omega)
    · exact .inl e
   cases hx : topD (qA s) q with
   | bad k a => exact .inl ⟨k, top_kind HE h0 k a q hx, _, _, rfl⟩
   | ok n j => exact .inr ⟨n, j, hok, rfl, rfl⟩
theorem ans_read {s : ByteArray} {q : Nat} {n : Ty} {a : Nat} (h : vh s (qX q) = (n, 0, a)) : a = 0 ∧ ∃ ws, TopG q n ws ∧ jl ws ≤ 4000000000 := by
 rcases ans_cases s q with ⟨k, hk, z, b, e⟩ | ⟨m, j, hok, h1, e⟩
 · rw [e] at h;simp only [Prod.mk.injEq] at h;omega
 · rw [e] at h;simp only [Prod.mk.injEq] at h;obtain ⟨rfl, -, rfl⟩ := h;obtain ⟨hg, hs⟩ := good_src (P := qA s) (lex_good s);obtain ⟨hk, ws, h2, h3⟩ := top_inv hg h1;refine ⟨rfl, ws, h2, ?_⟩;have h4 := Ph_le hs j;have h5 := K_ltt (k := 0) hk;have := hok.len;omega
end Go.Proofs.YthehjeeiodbkjaaGreatDoor
