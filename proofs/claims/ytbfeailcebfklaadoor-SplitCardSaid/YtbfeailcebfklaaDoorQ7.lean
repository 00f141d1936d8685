/-
  Proved: what the scanner's next keeps (its two blocks of tokens, the scanner). No condition.
-/
import Derived.Test.YtbfeailcebfklaaDoorQ4
import Derived.Test.YtbfeailcebfklaaDoorQ5
import Derived.Test.YtbfeailcebfklaaDoorQ6
set_option linter.unusedSimpArgs false
set_option linter.unusedVariables false
namespace Go.Proofs.YtbfeailcebfklaaDoor
open Go.RowKit

/-- the scanner and next's two blocks -/
structure NS (w W : World) (b : Nat) (s : ByteArray) (q : Nat) (k i : Int) (x : ByteArray) (n : Int) : Prop where
  sc : Scan W b s q
  g : w.grownBy W (some b)
  r : TokB W w.heap.size 0 0 ⟨#[]⟩ 0
  t : TokB W (w.heap.size + 1) k i x n
theorem NS.start {w : World} {b : Nat} {s : ByteArray} {q : Nat} (h : Scan w b s q) (i : Int) : NS w ((w.alloc (.cells #[.int .i64 0, .int .i64 0, .string ⟨#[]⟩, .int .i64 0] 30)).alloc (.cells #[.int .i64 0, .int .i64 i, .string ⟨#[]⟩, .int .i64 0] 30)) b s q 0 i ⟨#[]⟩ 0 := by
  have h2 := heap_alloc_new (w.alloc (.cells #[.int .i64 0, .int .i64 0, .string ⟨#[]⟩, .int .i64 0] 30)) (.cells #[.int .i64 0, .int .i64 i, .string ⟨#[]⟩, .int .i64 0] 30)
  rw [World.size_alloc] at h2
  exact ⟨blk_alloc (blk_alloc h _) _, gr_trans (World.grownBy_alloc w _ _) (World.grownBy_alloc _ _ _), blk_alloc (heap_alloc_new w _) _, h2⟩
theorem NS.drewN {w W : World} {b : Nat} {s : ByteArray} {q : Nat} {k i n : Int} {x : ByteArray} (h : NS w W b s q k i x n) (m : Nat) : NS w (W.drewN m) b s q k i x n := ⟨h.sc.drew _, gr_trans h.g (gr_drew _ _ _), h.r, h.t⟩
theorem NS.drew {w W : World} {b : Nat} {s : ByteArray} {q : Nat} {k i n : Int} {x : ByteArray} (h : NS w W b s q k i x n) : NS w W.drew b s q k i x n := h.drewN 1
theorem NS.alloc {w W : World} {b : Nat} {s : ByteArray} {q : Nat} {k i n : Int} {x : ByteArray} (h : NS w W b s q k i x n) (o : Obj) : NS w (W.alloc o) b s q k i x n :=
  ⟨blk_alloc h.sc _, gr_trans h.g (World.grownBy_alloc W _ _), blk_alloc h.r _, blk_alloc h.t _⟩
theorem NS.below {w W W' : World} {b : Nat} {s : ByteArray} {q : Nat} {k i n : Int} {x : ByteArray} (h : NS w W b s q k i x n) (hb : Below W.heap.size W W') : NS w W' b s q k i x n :=
  ⟨h.sc.below hb, gr_trans h.g (gr_below hb _), blk_below h.r hb (lt_of_block h.r), blk_below h.t hb (lt_of_block h.t)⟩
theorem NS.gr {w W W' : World} {b : Nat} {s : ByteArray} {q q' : Nat} {k i n : Int} {x : ByteArray} (h : NS w W b s q k i x n) (hb : b < w.heap.size) (hg : W.grownBy W' (some b)) (hs : Scan W' b s q') : NS w W' b s q' k i x n :=
  ⟨hs, gr_trans h.g hg, blk_grown h.r hg (by intro e; injection e with e; omega), blk_grown h.t hg (by intro e; injection e with e; omega)⟩
theorem NS.setat {w W : World} {b : Nat} {s : ByteArray} {q : Nat} {k i n : Int} {x : ByteArray} (h : NS w W b s q k i x n) (hb : b < w.heap.size) (q' : Int) (p : Nat) (hp : q' = p) : NS w (W.setCell ⟨b, 1, none⟩ (.int .i64 q')) b s p k i x n :=
  ⟨h.sc.set _ _ hp, gr_trans h.g (gr_set _ _ _ _), blk_set_ne h.r (by omega) _ _, blk_set_ne h.t (by omega) _ _⟩
theorem NS.setk {w W : World} {b : Nat} {s : ByteArray} {q : Nat} {k i n : Int} {x : ByteArray} (h : NS w W b s q k i x n) (hb : b < w.heap.size) (k' : Int) : NS w (W.setCell ⟨w.heap.size + 1, 0, none⟩ (.int .i64 k')) b s q k' i x n :=
  ⟨blk_set_ne h.sc (by omega) _ _, gr_far h.g _ _ _ (by omega), blk_set_ne h.r (by omega) _ _, blk_set h.t 0 _⟩
theorem NS.setx {w W : World} {b : Nat} {s : ByteArray} {q : Nat} {k i n : Int} {x : ByteArray} (h : NS w W b s q k i x n) (hb : b < w.heap.size) (x' : ByteArray) : NS w (W.setCell ⟨w.heap.size + 1, 2, none⟩ (.string x')) b s q k i x' n :=
  ⟨blk_set_ne h.sc (by omega) _ _, gr_far h.g _ _ _ (by omega), blk_set_ne h.r (by omega) _ _, blk_set h.t 2 _⟩
theorem NS.setn {w W : World} {b : Nat} {s : ByteArray} {q : Nat} {k i n : Int} {x : ByteArray} (h : NS w W b s q k i x n) (hb : b < w.heap.size) (n' : Int) : NS w (W.setCell ⟨w.heap.size + 1, 3, none⟩ (.int .i64 n')) b s q k i x n' :=
  ⟨blk_set_ne h.sc (by omega) _ _, gr_far h.g _ _ _ (by omega), blk_set_ne h.r (by omega) _ _, blk_set h.t 3 _⟩
structure NF (w W : World) (b : Nat) (s : ByteArray) (q : Nat) (k i : Int) (x : ByteArray) (n : Int) : Prop where
  s0 : W.cell? ⟨b, 0, none⟩ = some (.string s)
  s1 : W.cell? ⟨b, 1, none⟩ = some (.int .i64 q)
  z : W.frozen? ⟨b, 1, none⟩ = false
  b0 : W.cell? ⟨w.heap.size, 0, none⟩ = some (.int .i64 0)
  b1 : W.cell? ⟨w.heap.size, 1, none⟩ = some (.int .i64 0)
  b2 : W.cell? ⟨w.heap.size, 2, none⟩ = some (.string ⟨#[]⟩)
  b3 : W.cell? ⟨w.heap.size, 3, none⟩ = some (.int .i64 0)
  y0 : W.frozen? ⟨w.heap.size, 0, none⟩ = false
  y1 : W.frozen? ⟨w.heap.size, 1, none⟩ = false
  y2 : W.frozen? ⟨w.heap.size, 2, none⟩ = false
  y3 : W.frozen? ⟨w.heap.size, 3, none⟩ = false
  a0 : W.cell? ⟨w.heap.size + 1, 0, none⟩ = some (.int .i64 k)
  a1 : W.cell? ⟨w.heap.size + 1, 1, none⟩ = some (.int .i64 i)
  a2 : W.cell? ⟨w.heap.size + 1, 2, none⟩ = some (.string x)
  a3 : W.cell? ⟨w.heap.size + 1, 3, none⟩ = some (.int .i64 n)
  f0 : W.frozen? ⟨w.heap.size + 1, 0, none⟩ = false
  f2 : W.frozen? ⟨w.heap.size + 1, 2, none⟩ = false
  f3 : W.frozen? ⟨w.heap.size + 1, 3, none⟩ = false
  l0 : b < W.heap.size
  l1 : w.heap.size < W.heap.size
  l2 : w.heap.size + 1 < W.heap.size
theorem NS.facts {w W : World} {b : Nat} {s : ByteArray} {q : Nat} {k i n : Int} {x : ByteArray} (h : NS w W b s q k i x n) : NF w W b s q k i x n :=
  ⟨blk_cell h.sc 0, blk_cell h.sc 1, blk_free h.sc 1, blk_cell h.r 0, blk_cell h.r 1, blk_cell h.r 2, blk_cell h.r 3, blk_free h.r 0, blk_free h.r 1, blk_free h.r 2, blk_free h.r 3, blk_cell h.t 0, blk_cell h.t 1, blk_cell h.t 2, blk_cell h.t 3, blk_free h.t 0, blk_free h.t 2, blk_free h.t 3, lt_of_block h.sc, lt_of_block h.r, lt_of_block h.t⟩
/-- behind the result's four stores -/
theorem NS.fin {w W : World} {b : Nat} {s : ByteArray} {q : Nat} {k i n : Int} {x : ByteArray} (h : NS w W b s q k i x n) (hb : b < w.heap.size) (u0 u1 u2 u3 : Value) :
    VE w b s q ((((W.setCell ⟨w.heap.size, 0, none⟩ u0).setCell ⟨w.heap.size, 1, none⟩ u1).setCell ⟨w.heap.size, 2, none⟩ u2).setCell ⟨w.heap.size, 3, none⟩ u3) := by
  have hv : VE w b s q W := ⟨h.sc, h.g⟩
  have e := Nat.le_refl w.heap.size
  exact (((hv.set _ 0 _ hb e).set _ 1 _ hb e).set _ 2 _ hb e).set _ 3 _ hb e
def NextPost (s : ByteArray) (b i : Nat) (w : World) (e : Ending) (w' : World) : Prop :=
  w.grownBy w' (some b) ∧ match tokD s i with
    | some (t, j) => e = .returned (.tuple #[tokV t, .bool true]) ∧ Scan w' b s j
    | none => ∃ (k a n : Int) (x : ByteArray), e = .returned (.tuple #[.agg #[.int .i64 k, .int .i64 a, .string x, .int .i64 n], .bool false])
theorem NextPost.ok {s : ByteArray} {b i j : Nat} {t : Tok} {w w' : World} {e : Ending} (h : tokD s i = some (t, j)) (he : e = .returned (.tuple #[tokV t, .bool true])) (hv : VE w b s j w') : NextPost s b i w e w' := by
  refine ⟨hv.2, ?_⟩
  rw [h]
  exact ⟨he, hv.1⟩
theorem NextPost.bad {s : ByteArray} {b i : Nat} {w w' : World} {e : Ending} {k a n : Int} {x : ByteArray} (h : tokD s i = none) (he : e = .returned (.tuple #[.agg #[.int .i64 k, .int .i64 a, .string x, .int .i64 n], .bool false])) (hg : w.grownBy w' (some b)) : NextPost s b i w e w' := by
  refine ⟨hg, ?_⟩
  rw [h]
  exact ⟨k, a, n, x, he⟩
theorem sort_cases : ∀ c, c < 128 → (srt c = 2 ∧ dig c = true) ∨ (srt c = 3 ∧ (small c = true ∨ c = 95)) ∨ (srt c = 4 ∧ great c = true) ∨ (srt c = 5 ∧ c = 39) ∨ (srt c = 6 ∧ c ∈ signL) ∨ (srt c = 7 ∧ c = 34) ∨ ((srt c = 0 ∨ srt c = 1) ∧ dig c = false ∧ c ≠ 34 ∧ c ≠ 39 ∧ small c = false ∧ great c = false ∧ c ≠ 95 ∧ c ∉ signL) := by decide +kernel

end Go.Proofs.YtbfeailcebfklaaDoor
