/-
  Proved: cells of the heap as values in memory; reading and writing one; a run of them. No condition.
-/
import Derived.Test.YtidjfmkclabagaaW
import Derived.Laws.IdiomCopy
import Derived.Lib.SliceRun
set_option linter.unusedSimpArgs false
set_option linter.unusedVariables false
namespace Go.Proofs.Ytidjfmkclabagaa
open Go.RowKit

/-- a cell: refers to a thing, or is a number -/
structure C where
  p : Bool
  n : Int
deriving DecidableEq
abbrev cval (c : C) : Value := .agg #[.bool c.p, .int .i64 c.n]
def zc : C := ⟨false, 0⟩
def cv : List C → List Value
  | [] => []
  | c :: l => .bool c.p :: .int .i64 c.n :: cv l
abbrev cvA (l : List C) : Array Value := (cv l).toArray
theorem cv_len : ∀ (l : List C), (cv l).length = l.length * 2
  | [] => rfl
  | c :: l => by simp only [cv, List.length_cons, cv_len l]; omega
theorem cv_append : ∀ (l l' : List C), cv (l ++ l') = cv l ++ cv l'
  | [], _ => rfl
  | c :: l, l' => by simp only [List.cons_append, cv, cv_append l l']
theorem cv_get0 : ∀ {l : List C} {i : Nat} (h : i < l.length), (cv l)[i * 2]? = some (.bool l[i].p)
  | c :: l, 0, _ => rfl
  | c :: l, i + 1, h => by
    rw [show (i + 1) * 2 = i * 2 + 1 + 1 by omega, cv, List.getElem?_cons_succ, List.getElem?_cons_succ]
    exact cv_get0 (by simpa using h)
theorem cv_get1 : ∀ {l : List C} {i : Nat} (h : i < l.length), (cv l)[i * 2 + 1]? = some (.int .i64 l[i].n)
  | c :: l, 0, _ => rfl
  | c :: l, i + 1, h => by
    rw [show (i + 1) * 2 + 1 = i * 2 + 1 + 1 + 1 by omega, cv, List.getElem?_cons_succ, List.getElem?_cons_succ]
    exact cv_get1 (by simpa using h)
theorem cv_one : ∀ (l : List C), ∀ u ∈ cv l, u.oneCell' = true
  | [], u, h => by simp [cv] at h
  | c :: l, u, h => by
    simp only [cv, List.mem_cons] at h
    rcases h with rfl | rfl | h
    · rfl
    · rfl
    · exact cv_one l u h
theorem cv_set : ∀ {l : List C} {i : Nat} (h : i < l.length) (c : C), cv (l.set i c) = ((cv l).set (i * 2) (.bool c.p)).set (i * 2 + 1) (.int .i64 c.n)
  | c' :: l, 0, _, c => rfl
  | c' :: l, i + 1, h, c => by
    rw [List.set_cons_succ, cv, cv, cv_set (by simpa using h) c, show (i + 1) * 2 + 1 = i * 2 + 1 + 1 + 1 by omega, show (i + 1) * 2 = i * 2 + 1 + 1 by omega]
    simp only [List.set_cons_succ]
theorem cv_set1 : ∀ {l : List C} {i : Nat} (h : i < l.length) (n : Int), cv (l.set i ⟨l[i].p, n⟩) = (cv l).set (i * 2 + 1) (.int .i64 n)
  | c' :: l, 0, _, c => rfl
  | c' :: l, i + 1, h, n => by
    rw [List.set_cons_succ, cv, cv, show (i + 1) * 2 + 1 = i * 2 + 1 + 1 + 1 by omega]
    simp only [List.set_cons_succ, List.getElem_cons_succ]
    rw [cv_set1 (by simpa using h) n]
theorem cv_take : ∀ (l : List C) (n : Nat), (cv l).take (n * 2) = cv (l.take n)
  | [], n => by simp [cv]
  | c :: l, 0 => by simp [cv]
  | c :: l, n + 1 => by
    rw [show (n + 1) * 2 = n * 2 + 1 + 1 by omega, cv, List.take_succ_cons, List.take_succ_cons, cv_take l n, List.take_succ_cons, cv]
theorem cv_drop : ∀ (l : List C) (n : Nat), (cv l).drop (n * 2) = cv (l.drop n)
  | [], n => by simp [cv]
  | c :: l, 0 => by simp [cv]
  | c :: l, n + 1 => by
    rw [show (n + 1) * 2 = n * 2 + 1 + 1 by omega, cv, List.drop_succ_cons, List.drop_succ_cons, cv_drop l n, List.drop_succ_cons]
theorem cv_replicate : ∀ (n : Nat), cv (List.replicate n zc) = (List.replicate n [Value.bool false, Value.int .i64 0]).flatten
  | 0 => rfl
  | n + 1 => by rw [List.replicate_succ, cv, cv_replicate n, List.replicate_succ, List.flatten_cons]; rfl

/-- block b of w holds these cells -/
def Cells (w : World) (b : Nat) (l : List C) : Prop := w.heap[b]? = some (.cells (cvA l) 49 (0, 0))
theorem Cells.lt {w : World} {b : Nat} {l : List C} (h : Cells w b l) : b < w.heap.size := lt_of_block h
theorem Cells.get0 {w : World} {b : Nat} {l : List C} (h : Cells w b l) {i : Nat} (hi : i < l.length) : w.cell? ⟨b, i * 2, none⟩ = some (.bool l[i].p) := by
  rw [blk_cell h, List.getElem?_toArray]; exact cv_get0 hi
theorem Cells.get1 {w : World} {b : Nat} {l : List C} (h : Cells w b l) {i : Nat} (hi : i < l.length) : w.cell? ⟨b, i * 2 + 1, none⟩ = some (.int .i64 l[i].n) := by
  rw [blk_cell h, List.getElem?_toArray]; exact cv_get1 hi
theorem Cells.free {w : World} {b : Nat} {l : List C} (h : Cells w b l) (i : Nat) : w.frozen? ⟨b, i, none⟩ = false := blk_free h i
theorem Cells.set {w : World} {b : Nat} {l : List C} (h : Cells w b l) {i : Nat} (hi : i < l.length) (c : C) : Cells ((w.setCell ⟨b, i * 2, none⟩ (.bool c.p)).setCell ⟨b, i * 2 + 1, none⟩ (.int .i64 c.n)) b (l.set i c) := by
  unfold Cells
  have := blk_set (blk_set h (i * 2) (.bool c.p)) (i * 2 + 1) (.int .i64 c.n)
  rw [this, show cvA (l.set i c) = (cv (l.set i c)).toArray from rfl, cv_set hi]
  simp
theorem Cells.set1 {w : World} {b : Nat} {l : List C} (h : Cells w b l) {i : Nat} (hi : i < l.length) (n : Int) : Cells (w.setCell ⟨b, i * 2 + 1, none⟩ (.int .i64 n)) b (l.set i ⟨l[i].p, n⟩) := by
  unfold Cells
  have := blk_set h (i * 2 + 1) (.int .i64 n)
  rw [this, show cvA (l.set i ⟨l[i].p, n⟩) = (cv (l.set i ⟨l[i].p, n⟩)).toArray from rfl, cv_set1 hi]
  simp
theorem Cells.set_ne {w : World} {b : Nat} {l : List C} (h : Cells w b l) {q : Nat} (hne : b ≠ q) (i : Nat) (u : Value) : Cells (w.setCell ⟨q, i, none⟩ u) b l := blk_set_ne h hne i u
theorem Cells.alloc {w : World} {b : Nat} {l : List C} (h : Cells w b l) (o : Obj) : Cells (w.alloc o) b l := blk_alloc h o
theorem Cells.below {w w' : World} {b B : Nat} {l : List C} (h : Cells w b l) (hb : Below B w w') (hl : b < B) : Cells w' b l := blk_below h hb hl

/-- what may turn: the blocks of S alone -/
structure Keeps (S : Nat → Prop) (w w' : World) : Prop where
  os : w'.os = w.os
  tape : w'.tape = w.tape
  output : w'.output = w.output
  size : w.heap.size ≤ w'.heap.size
  block : ∀ k, k < w.heap.size → ¬ S k → w'.heap[k]? = w.heap[k]?
theorem Keeps.refl (S : Nat → Prop) (w : World) : Keeps S w w := ⟨rfl, rfl, rfl, Nat.le_refl _, fun _ _ _ => rfl⟩
theorem Keeps.trans {S : Nat → Prop} {w w1 w2 : World} (h : Keeps S w w1) (h2 : Keeps S w1 w2) : Keeps S w w2 :=
  ⟨h2.os.trans h.os, h2.tape.trans h.tape, h2.output.trans h.output, Nat.le_trans h.size h2.size, fun k hk hn => (h2.block k (Nat.lt_of_lt_of_le hk h.size) hn).trans (h.block k hk hn)⟩
theorem Keeps.mono {S S' : Nat → Prop} {w w' : World} (h : Keeps S w w') (hS : ∀ k, S k → S' k) : Keeps S' w w' :=
  ⟨h.os, h.tape, h.output, h.size, fun k hk hn => h.block k hk (fun e => hn (hS k e))⟩
theorem Keeps.alloc {S : Nat → Prop} {w w1 : World} (h : Keeps S w w1) (o : Obj) : Keeps S w (w1.alloc o) :=
  ⟨h.os, h.tape, h.output, by rw [World.size_alloc]; exact Nat.le_succ_of_le h.size, fun k hk hn => (Below.heap_alloc _ _ _ (Nat.lt_of_lt_of_le hk h.size)).trans (h.block k hk hn)⟩
theorem Keeps.drew {S : Nat → Prop} {w w1 : World} (h : Keeps S w w1) (n : Nat) : Keeps S w (w1.drewN n) := ⟨h.os, h.tape, h.output, h.size, h.block⟩
theorem Keeps.set {S : Nat → Prop} {w w1 : World} (h : Keeps S w w1) {b : Nat} (hb : S b ∨ w.heap.size ≤ b) (i : Nat) (v : Value) : Keeps S w (w1.setCell ⟨b, i, none⟩ v) :=
  ⟨h.os, h.tape, h.output, by simpa [World.setCell] using h.size, fun k hk hn => (Below.heap_setCell _ _ _ _ (fun e => by
    simp only at e
    subst e
    rcases hb with hb | hb
    · exact hn hb
    · omega)).trans (h.block k hk hn)⟩
theorem Keeps.of_below {S : Nat → Prop} {w w' : World} (h : Below w.heap.size w w') : Keeps S w w' := ⟨h.os, h.tape, h.output, h.size, fun k hk _ => h.block k hk⟩
theorem Keeps.below {S : Nat → Prop} {w w' : World} (h : Keeps S w w') {B : Nat} (hB : B ≤ w.heap.size) (hS : ∀ k, S k → B ≤ k) : Below B w w' :=
  ⟨h.os, h.tape, h.output, h.size, fun k hk => h.block k (Nat.lt_of_lt_of_le hk hB) (fun e => by have := hS k e; omega)⟩
theorem Keeps.grown {S : Nat → Prop} {w w1 w2 : World} (h : Keeps S w w1) {row : Option Nat} (hg : w1.grownBy w2 row) (hr : ∀ g, row = some g → S g ∨ w.heap.size ≤ g) : Keeps S w w2 :=
  ⟨hg.os.trans h.os, hg.tape.trans h.tape, hg.output.trans h.output, Nat.le_trans h.size hg.size, fun k hk hn => (hg.block k (Nat.lt_of_lt_of_le hk h.size) (fun e => by
    rcases hr k e.symm with hs | hs
    · exact hn hs
    · omega)).trans (h.block k hk hn)⟩
theorem Keeps.blk {S : Nat → Prop} {w w' : World} (h : Keeps S w w') {b : Nat} {x : Obj} (hx : w.heap[b]? = some x) (hn : ¬ S b) : w'.heap[b]? = some x := by
  rw [h.block b (lt_of_block hx) hn]; exact hx
theorem index_at {P : Program} {t e : TypeId} {sz : Nat} (ht : P.underlying t = some (.slice e)) (hs : ∀ w : World, (sizeOf e).run P w = .ok sz w) {ao : Option Addr} {b off : Nat} (ha : ao = some ⟨b, off, none⟩) (n cp k : Nat) (hk : k < n) (w : World) :
    (Instr.indexAt t (.slice ao n cp) (.int .i64 k)).run P w = .ok (.pointer (some ⟨b, off + k * sz, none⟩)) w := by
  subst ha
  have he : P.elem t = e := by simp [Program.elem, ht]
  rw [run_indexAt_slice (h := by rw [he]; exact ht), if_pos (by omega), he, hs]
  simp [Result.andThen, Addr.add_lit]
theorem size49 (w : World) : (sizeOf 49).run Try.prog w = .ok 2 w := by kernel_rfl
theorem index_cell (b n cp k : Nat) (hk : k < n) (w : World) : (Instr.indexAt 32 (.slice (some ⟨b, 0, none⟩) n cp) (.int .i64 k)).run Try.prog w = .ok (.pointer (some ⟨b, k * 2, none⟩)) w := by
  have h := index_at Try.underlying32 size49 (ao := some ⟨b, 0, none⟩) rfl n cp k hk w
  rwa [Nat.zero_add] at h
/-- the heap: which blocks, how many cells, how far it is used -/
structure Hp where
  hb : Nat
  ub : Nat
  sb : Nat
  sz : Nat
  us : List C
  nx : Nat
def hrow (g : Hp) : Array Value := #[.slice (some ⟨g.ub, 0, none⟩) g.sz g.sz, .slice (some ⟨g.sb, 0, none⟩) g.sz g.sz, .int .i64 g.nx]
structure HpAt (w : World) (g : Hp) : Prop where
  h : w.heap[g.hb]? = some (.cells (hrow g) 42 (0, 0))
  u : Cells w g.ub g.us
  s : ∃ ss, Cells w g.sb ss ∧ ss.length = g.sz
  ul : g.us.length = g.sz
  ne : g.ub ≠ g.sb
  nx : g.nx ≤ g.sz
  sz : g.sz ≤ 1000000
theorem HpAt.ne_u {w : World} {g : Hp} (h : HpAt w g) : g.hb ≠ g.ub := fun e => by
  have h1 := h.h
  have h2 : w.heap[g.ub]? = _ := h.u
  rw [e, h2] at h1
  simp at h1
theorem HpAt.ne_s {w : World} {g : Hp} (h : HpAt w g) : g.hb ≠ g.sb := fun e => by
  obtain ⟨ss, h2, _⟩ := h.s
  have h1 := h.h
  have h2' : w.heap[g.sb]? = _ := h2
  rw [e, h2'] at h1
  simp at h1
end Go.Proofs.Ytidjfmkclabagaa
