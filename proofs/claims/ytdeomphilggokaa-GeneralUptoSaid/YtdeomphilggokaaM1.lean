/-
  Proved: a map keyed by numbers as a function of its keys: made, asked, written. No condition.
-/
import Derived.Test.YtdeomphilggokaaB1
import Derived.Maps.OwnSet
import Derived.Maps.Views
import Derived.DeepKeys4
set_option linter.unusedSimpArgs false
set_option linter.unusedVariables false
namespace Go.Proofs.Ytdeomphilggokaa
open Go.RowKit Go.Maps

theorem law3 : Keyed Try.prog 3 := int_keyed Try.underlying3
/-- an element reads as itself -/
def hR (v : Value) : Option (DataW (Option Value) × List MemPlace) := some (.held (some v), [])
def fOf (D : DataW (Option Value)) (k : Int) : Option Value := match D.atKey (.int .i64 k) (.held none) with
  | .held o => o
  | _ => none
theorem key3 {x : Int} (h : I64 x) : keyOf Try.prog 3 (.int .i64 x) = some (.int .i64 x) := keyOf_int_mk Try.underlying3 (WalkArith.wf_i64 h)
/-- block b holds a map of at most n entries that says f -/
def MapF (w : World) (b n : Nat) (f : Int → Option Value) : Prop := ∃ D, w.ownsMap Try.prog 3 hR b n D ∧ ∀ k, I64 k → fOf D k = f k
theorem MapF.lt {w : World} {b n : Nat} {f : Int → Option Value} (h : MapF w b n f) : b < w.heap.size := by
  obtain ⟨D, h1, _⟩ := h
  exact h1.lt
theorem MapF.made (w : World) : MapF (w.alloc (.map #[] 0)) w.heap.size 0 (fun _ => none) := ⟨_, World.ownsMap_made w _ _ _, fun k _ => rfl⟩
theorem MapF.of_same {w w' : World} {b n : Nat} {f : Int → Option Value} (h : MapF w b n f) (e : w'.heap[b]? = w.heap[b]?) : MapF w' b n f := by
  obtain ⟨D, ⟨es, clock, hb, F, hs, hD⟩, hf⟩ := h
  exact ⟨D, ⟨es, clock, e.trans hb, F, hs, hD⟩, hf⟩
theorem MapF.isMap {w : World} {b n : Nat} {f : Int → Option Value} (h : MapF w b n f) : ∃ es clock, w.heap[b]? = some (.map es clock) := by
  obtain ⟨D, ⟨es, clock, hb, _⟩, _⟩ := h
  exact ⟨es, clock, hb⟩
theorem map_ne {w : World} {p b n : Nat} {f : Int → Option Value} {c : Array Value} {t : TypeId} {z : Nat × Nat} (h : MapF w b n f) (hp : w.heap[p]? = some (.cells c t z)) : p ≠ b := fun e => by
  obtain ⟨es, clock, hb⟩ := h.isMap
  rw [e, hb] at hp
  simp at hp
theorem MapF.congr {w : World} {b n : Nat} {f f' : Int → Option Value} (h : MapF w b n f) (e : ∀ k, I64 k → f k = f' k) : MapF w b n f' := by
  obtain ⟨D, h1, h2⟩ := h
  exact ⟨D, h1, fun k hk => (h2 k hk).trans (e k hk)⟩
theorem MapF.mono {w : World} {b n m : Nat} {f : Int → Option Value} (h : MapF w b n f) (hm : n ≤ m) : MapF w b m f := by
  obtain ⟨D, h1, h2⟩ := h
  exact ⟨D, h1.mono hm, h2⟩
theorem MapF.look {w : World} {b n : Nat} {f : Int → Option Value} (h : MapF w b n f) {t e : TypeId} (ht : Try.prog.underlying t = some (.map 3 e)) {z : Value} (hz : (zeroValue e).run Try.prog w = .ok z w) {k : Int} (hk : I64 k) :
    (Instr.lookup t (.map (some b)) (.int .i64 k) false).run Try.prog w = .ok ((f k).getD z) w ∧ (Instr.lookup t (.map (some b)) (.int .i64 k) true).run Try.prog w = .ok (.tuple #[(f k).getD z, .bool (f k).isSome]) w := by
  obtain ⟨D, ⟨es, clock, hb, F, hs, rfl⟩, hf⟩ := h
  have e1 := hf k hk
  rcases Maps.fit_look false law3 ht hz hb F (key3 hk) with ⟨hrun, hno, hat⟩ | ⟨e0, y, hm0, hk0, hrun, hRv, hat, _⟩
  · have hn : f k = none := by rw [← e1]; unfold fOf; rw [hat]
    rcases Maps.fit_look true law3 ht hz hb F (key3 hk) with ⟨hrun2, _, _⟩ | ⟨e2, _, hm2, hk2, _⟩
    · rw [hn]; exact ⟨hrun, hrun2⟩
    · exact absurd hk2 (hno e2 hm2)
  · have hy : y = (.held (some e0.val), []) := by unfold hR at hRv; exact (Option.some.inj hRv).symm
    have hn : f k = some e0.val := by rw [← e1]; unfold fOf; rw [hat, hy]
    rcases Maps.fit_look true law3 ht hz hb F (key3 hk) with ⟨_, hno, _⟩ | ⟨e2, y2, hm2, hk2, hrun2, hRv2, hat2, _⟩
    · exact absurd hk0 (hno e0 hm0)
    · have hy2 : y2 = (.held (some e2.val), []) := by unfold hR at hRv2; exact (Option.some.inj hRv2).symm
      have hn2 : f k = some e2.val := by rw [← e1]; unfold fOf; rw [hat2, hy2]
      have hv : e0.val = e2.val := Option.some.inj (hn.symm.trans hn2)
      rw [hn]
      exact ⟨hrun, by rw [hv]; exact hrun2⟩
theorem MapF.store {w : World} {b n : Nat} {f : Int → Option Value} (h : MapF w b n f) {t e : TypeId} (ht : Try.prog.underlying t = some (.map 3 e)) (hn : n < maxLen) {k : Int} (hk : I64 k) (v : Value) :
    ∃ w', (Instr.mapUpdate t (.map (some b)) (.int .i64 k) v).run Try.prog w = .ok () w' ∧ MapF w' b (n + 1) (fun j => if j = k then some v else f j) ∧ w.grownBy w' (some b) := by
  obtain ⟨D, h1, hf⟩ := h
  obtain ⟨w', hrun, hown, ht'⟩ := h1.store law3 ht hn (key3 hk) (show hR v = some (.held (some v), []) from rfl)
  refine ⟨w', hrun, ⟨_, hown, fun j hj => ?_⟩, ht'.grown⟩
  show fOf _ j = if j = k then some v else f j
  unfold fOf
  by_cases e : j = k
  · subst e
    rw [if_pos rfl, atKey_put_same h1.isMap (law3.key (key3 hj))]
  · rw [if_neg e, atKey_put_other (by simpa using e)]
    exact hf j hj
end Go.Proofs.Ytdeomphilggokaa
