/-
  Proved: sort.Slice over a row of binds of one's own, however long: the row holds the binds sorted, nothing else has turned. Condition: at most 1000000 binds.
-/
import Derived.Test.YtdeomphilggokaaC6
import Derived.Shelf.GgSortFunc.Tiny
import Derived.Deep.AppendLies
set_option linter.unusedSimpArgs false
set_option linter.unusedVariables false
namespace Go.Proofs.Ytdeomphilggokaa
open Go.RowKit Go.Lib Go.Sort

set_option maxRecDepth 100000 in
theorem sort_tiny (p : Option Addr) (n c : Nat) (h1 : n ≤ 1) (lb : Array Value) (w : World) :
    Calls Try.prog 39 #[.iface 25 (.slice p n c), .func (.func 40) #[] lb] w fun e w' => e = .returned (.tuple #[]) ∧ ∃ os, w' = grow w os := by
  by_cases h0 : n = 0
  · subst h0
    exact Any.sort_Slice_tiny sl6 25 35 svT svE (by kernel_rfl) (by kernel_rfl) (by kernel_rfl) (by kernel_rfl) 25 (fun _ => by kernel_rfl) p 0 c (by omega) 69 (by kernel_rfl) (.func 40) #[] lb w
  · obtain rfl : n = 1 := by omega
    exact Any.sort_Slice_tiny sl6 25 35 svT svE (by kernel_rfl) (by kernel_rfl) (by kernel_rfl) (by kernel_rfl) 25 (fun _ => by kernel_rfl) p 1 c (by omega) 70 (by kernel_rfl) (.func 40) #[] lb w
theorem below_grow' (w : World) (os : Array Obj) : Below w.heap.size w (grow w os) :=
  ⟨rfl, rfl, rfl, by show w.heap.size ≤ (w.heap ++ os).size; rw [Array.size_append]; omega, fun k hk => Array.getElem?_append_left hk⟩
theorem sort_whole (B : Nat) (w : World) (D : Nat → Prop) (v : Value) (Bs : Nat) (bs : List Bd) (h : OwnB B w D v bs) (hl : bs.length ≤ 1000000) (hD : ∀ b, D b → b < w.heap.size ∧ v.ownBlock ≠ some b)
    (hBs : w.heap[Bs]? = some (.cells #[v] 25 (0, 0))) :
    Calls Try.prog 39 #[.iface 25 v, .func (.func 40) #[] #[.pointer (some ⟨Bs, 0, none⟩)]] w (SortPost B w D v bs) := by
  by_cases h2 : 2 ≤ bs.length
  · obtain ⟨g, cap, hv, _, _⟩ := World.ownsRow.form h.own (by omega)
    subst hv
    exact sort_own B w D g cap Bs bs h h2 hl (fun b hb => ⟨(hD b hb).1, fun e => (hD b hb).2 (by rw [e]; rfl)⟩) hBs
  · obtain ⟨ao, cap, hv, _⟩ := h.get
    subst hv
    refine (sort_tiny ao bs.length cap (by omega) _ w).mono ?_
    rintro e w' ⟨he, os, hw⟩
    have hb : Below w.heap.size w w' := by rw [hw]; exact below_grow' w os
    refine ⟨bs, he, List.Perm.refl _, ?_, h.keep hb (fun b hb => (hD b hb).1), gr_below hb _⟩
    match bs, h2 with
    | [], _ => exact List.Pairwise.nil
    | [b], _ => exact List.pairwise_singleton _ _
    | _ :: _ :: _, h2 => simp at h2
end Go.Proofs.Ytdeomphilggokaa
