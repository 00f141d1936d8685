/-
  Proved: the contract of the law's example. No condition.
-/
import Derived.Test.YtdeomphilggokaaC9
set_option linter.unusedSimpArgs false
set_option linter.unusedVariables false
namespace Go.Proofs.Ytdeomphilggokaa
open Go.RowKit

def exV : Ty := .mk 0 1 ⟨#[]⟩ 0 []
def exW : Ty := .mk 0 2 ⟨#[]⟩ 0 []
def exI : Ty := .mk 1 0 ⟨#[105, 110, 116]⟩ 2 []
def exB : Ty := .mk 1 0 ⟨#[98, 111, 111, 108]⟩ 2 []
def exL : Ty := .mk 3 0 ⟨#[]⟩ 0 [exV, exI]
def exR : Ty := .mk 3 0 ⟨#[]⟩ 0 [exB, exW]
/-- a slice of pairs of types, in blocks of D -/
def PairsV (w : World) (D : Nat → Prop) (l : List (Ty × Ty)) (ao : Option Addr) : Prop := ∀ k (_ : k < l.length), ∃ b off a1 c1 a2 c2, ao = some ⟨b, off, none⟩ ∧ D b ∧ (∀ j, j < 10 → w.cell? ⟨b, off + k * 10 + j, none⟩ = ((rowOf l[k].1 a1 c1).toList ++ (rowOf l[k].2 a2 c2).toList)[j]?) ∧ SlD w D l[k].1.args a1 c1 ∧ SlD w D l[k].2.args a2 c2
theorem PairsV.keep {w w' : World} {D : Nat → Prop} {l : List (Ty × Ty)} {ao : Option Addr} (h : PairsV w D l ao) (hk : ∀ b, D b → ∀ off, w'.cell? ⟨b, off, none⟩ = w.cell? ⟨b, off, none⟩) : PairsV w' D l ao := by
  intro k hl
  obtain ⟨b, off, a1, c1, a2, c2, h1, h2, h3, h4, h5⟩ := h k hl
  exact ⟨b, off, a1, c1, a2, c2, h1, h2, fun j hj => (hk b h2 _).trans (h3 j hj), h4.keep hk, h5.keep hk⟩
theorem size38 (w : World) : (sizeOf 38).run Try.prog w = .ok 10 w := by kernel_rfl
/-- a pair as a walk reads it: its place, its cells -/
theorem pair_cells {w : World} {D : Nat → Prop} {l : List (Ty × Ty)} {ao : Option Addr} (cap : Nat) (h : PairsV w D l ao) {k : Nat} {x y : Ty} (hk : l[k]? = some (x, y)) : ∃ b p a1 c1 a2 c2, D b ∧ (∀ w' : World, (Instr.indexAt 22 (.slice ao l.length cap) (.int .i64 k)).run Try.prog w' = .ok (.pointer (some ⟨b, p, none⟩)) w') ∧
    (w.cell? ⟨b, p, none⟩ = some (.int .i64 x.k) ∧ w.cell? ⟨b, p + 1, none⟩ = some (.int .i64 x.n) ∧ w.cell? ⟨b, p + 2, none⟩ = some (.string x.s) ∧ w.cell? ⟨b, p + 3, none⟩ = some (.int .i64 x.q) ∧ w.cell? ⟨b, p + 4, none⟩ = some (.slice a1 x.args.length c1)) ∧
    (w.cell? ⟨b, p + 5, none⟩ = some (.int .i64 y.k) ∧ w.cell? ⟨b, p + 6, none⟩ = some (.int .i64 y.n) ∧ w.cell? ⟨b, p + 7, none⟩ = some (.string y.s) ∧ w.cell? ⟨b, p + 8, none⟩ = some (.int .i64 y.q) ∧ w.cell? ⟨b, p + 9, none⟩ = some (.slice a2 y.args.length c2)) ∧
    SlD w D x.args a1 c1 ∧ SlD w D y.args a2 c2 := by
  obtain ⟨hl, e⟩ := List.getElem?_eq_some_iff.1 hk
  obtain ⟨b, off, a1, c1, a2, c2, ha, hD, hrow, h1, h2⟩ := h k hl
  rw [e] at hrow h1 h2
  exact ⟨b, off + k * 10, a1, c1, a2, c2, hD, fun w' => index_at Try.underlying22 size38 ha l.length cap k hl w', ⟨hrow 0 (by omega), hrow 1 (by omega), hrow 2 (by omega), hrow 3 (by omega), hrow 4 (by omega)⟩, ⟨hrow 5 (by omega), hrow 6 (by omega), hrow 7 (by omega), hrow 8 (by omega), hrow 9 (by omega)⟩, h1, h2⟩
theorem two_args {w : World} {D : Nat → Prop} {g : Nat} {x y : Ty} (h : w.heap[g]? = some (.cells #[.int .i64 x.k, .int .i64 x.n, .string x.s, .int .i64 x.q, .slice none 0 0, .int .i64 y.k, .int .i64 y.n, .string y.s, .int .i64 y.q, .slice none 0 0] 33 (0, 0))) (hx : x.args = []) (hy : y.args = []) (hg : D g) : SlD w D [x, y] (some ⟨g, 0, none⟩) 2 := by
  refine ⟨Nat.le_refl _, ArgsV.of fun k hk => ?_⟩
  have hnil : ∀ z : Ty, z.args = [] → TyV w D z (rowOf z none 0).toList := fun z hz => TyV.mk' (by rw [hz]; exact ⟨Nat.zero_le _, by unfold ArgsV; trivial⟩)
  have hk2 : k = 0 ∨ k = 1 := by simp at hk; omega
  rcases hk2 with rfl | rfl
  · refine ⟨g, 0, (rowOf x none 0).toList, rfl, hg, fun j hj => ?_, hnil x hx⟩
    rw [blk_cell h]
    have : j = 0 ∨ j = 1 ∨ j = 2 ∨ j = 3 ∨ j = 4 := by omega
    rcases this with rfl | rfl | rfl | rfl | rfl <;> simp [rowOf, hx]
  · refine ⟨g, 0, (rowOf y none 0).toList, rfl, hg, fun j hj => ?_, hnil y hy⟩
    rw [blk_cell h]
    have : j = 0 ∨ j = 1 ∨ j = 2 ∨ j = 3 ∨ j = 4 := by omega
    rcases this with rfl | rfl | rfl | rfl | rfl <;> simp [rowOf, hy]
/-- what example leaves: a slice of one pair in new blocks -/
structure ExPost (w : World) (e : Ending) (w' : World) : Prop where
  out : ∃ b D, e = .returned (.slice (some ⟨b, 0, none⟩) 1 1) ∧ PairsV w' D [(exL, exR)] (some ⟨b, 0, none⟩) ∧ (∀ b, D b → w.heap.size ≤ b ∧ b < w'.heap.size) ∧ Below w.heap.size w w'
theorem ex_world (w : World) (c1 c2 c3 c4 : Array Value) (cl cr : Array Value) (hl : cl = #[.int .i64 exV.k, .int .i64 exV.n, .string exV.s, .int .i64 exV.q, .slice none 0 0, .int .i64 exI.k, .int .i64 exI.n, .string exI.s, .int .i64 exI.q, .slice none 0 0]) (hr : cr = #[.int .i64 exB.k, .int .i64 exB.n, .string exB.s, .int .i64 exB.q, .slice none 0 0, .int .i64 exW.k, .int .i64 exW.n, .string exW.s, .int .i64 exW.q, .slice none 0 0]) (X : World)
    (hX : X = ((((((w.alloc (.cells c1 33)).alloc (.cells c2 33)).alloc (.cells c3 33)).alloc (.cells c4 33)).alloc (.cells cl 33)).alloc (.cells cr 33)).alloc (.cells ((rowOf exL (some ⟨w.heap.size + 1 + 1 + 1 + 1, 0, none⟩) 2) ++ (rowOf exR (some ⟨w.heap.size + 1 + 1 + 1 + 1 + 1, 0, none⟩) 2)) 38)) :
    ExPost w (.returned (.slice (some ⟨w.heap.size + 1 + 1 + 1 + 1 + 1 + 1, 0, none⟩) 1 1)) X := by
  obtain ⟨w4, h4⟩ : ∃ w4, w4 = (((w.alloc (.cells c1 33)).alloc (.cells c2 33)).alloc (.cells c3 33)).alloc (.cells c4 33) := ⟨_, rfl⟩
  obtain ⟨w5, h5⟩ : ∃ w5, w5 = w4.alloc (.cells cl 33) := ⟨_, rfl⟩
  obtain ⟨w6, h6⟩ : ∃ w6, w6 = w5.alloc (.cells cr 33) := ⟨_, rfl⟩
  rw [← h4, ← h5, ← h6] at hX
  have s4 : w4.heap.size = w.heap.size + 1 + 1 + 1 + 1 := by rw [h4]; simp
  have s5 : w5.heap.size = w.heap.size + 1 + 1 + 1 + 1 + 1 := by rw [h5, World.size_alloc, s4]
  have s6 : w6.heap.size = w.heap.size + 1 + 1 + 1 + 1 + 1 + 1 := by rw [h6, World.size_alloc, s5]
  have s7 : X.heap.size = w.heap.size + 1 + 1 + 1 + 1 + 1 + 1 + 1 := by rw [hX, World.size_alloc, s6]
  have b4 : Below w.heap.size w w4 := by rw [h4]; exact balloc (balloc (balloc (balloc (Below.refl _ _) _) _) _) _
  have bX : Below w.heap.size w X := by rw [hX, h6, h5]; exact balloc (balloc (balloc b4 _) _) _
  have kl : X.heap[w.heap.size + 1 + 1 + 1 + 1]? = some (.cells cl 33 (0, 0)) := by
    have : w5.heap[w.heap.size + 1 + 1 + 1 + 1]? = some (.cells cl 33 (0, 0)) := by rw [h5, ← s4]; exact heap_alloc_new w4 _
    rw [hX]; refine blk_alloc ?_ _; rw [h6]; exact blk_alloc this _
  have kr : X.heap[w.heap.size + 1 + 1 + 1 + 1 + 1]? = some (.cells cr 33 (0, 0)) := by
    have : w6.heap[w.heap.size + 1 + 1 + 1 + 1 + 1]? = some (.cells cr 33 (0, 0)) := by rw [h6, ← s5]; exact heap_alloc_new w5 _
    rw [hX]; exact blk_alloc this _
  have kp : X.heap[w.heap.size + 1 + 1 + 1 + 1 + 1 + 1]? = some (.cells ((rowOf exL (some ⟨w.heap.size + 1 + 1 + 1 + 1, 0, none⟩) 2) ++ (rowOf exR (some ⟨w.heap.size + 1 + 1 + 1 + 1 + 1, 0, none⟩) 2)) 38 (0, 0)) := by
    rw [hX, ← s6]; exact heap_alloc_new w6 _
  subst hl hr
  refine ⟨_, fun b => w.heap.size ≤ b ∧ b < X.heap.size, rfl, fun k hk => ?_, fun b hb => hb, bX⟩
  obtain rfl : k = 0 := by simp at hk; omega
  refine ⟨_, 0, some ⟨w.heap.size + 1 + 1 + 1 + 1, 0, none⟩, 2, some ⟨w.heap.size + 1 + 1 + 1 + 1 + 1, 0, none⟩, 2, rfl, ⟨by omega, by omega⟩, fun j hj => ?_, two_args kl rfl rfl ⟨by omega, by omega⟩, two_args kr rfl rfl ⟨by omega, by omega⟩⟩
  rw [blk_cell kp, show 0 + 0 * 10 + j = j from by omega]
  have e : ∀ A B : Array Value, (A ++ B)[j]? = (A.toList ++ B.toList)[j]? := fun A B => by rw [← Array.toList_append, Array.getElem?_toList]
  exact e _ _
set_option maxRecDepth 100000 in
set_option maxHeartbeats 4000000 in
theorem example_any (w : World) : Calls Try.prog 7 #[] w (ExPost w) := by
  go_enter Try.func7, Try.ntmps7
  go_upto_region 5 with fail
  go_wp2_with fail
  go_ret
  exact ex_world w _ _ _ _ _ _ rfl rfl _ rfl
end Go.Proofs.Ytdeomphilggokaa
