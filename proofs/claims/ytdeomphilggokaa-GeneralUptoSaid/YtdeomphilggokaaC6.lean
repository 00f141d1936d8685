/-
  Proved: sort.Slice over a row of binds of one's own: the row holds the binds sorted, nothing else has turned. Condition: two binds or more.
-/
import Derived.Test.YtdeomphilggokaaC5
set_option linter.unusedSimpArgs false
set_option linter.unusedVariables false
namespace Go.Proofs.Ytdeomphilggokaa
open Go.RowKit Go.Lib Go.Sort

theorem flat_get (bs : List Bd) (t : Nat) (ht : t < bs.length * 6) : (flatK Bd.cells 6 bs.toArray)[t]! = ((bcells bs)[t]?).getD default ∧ (bcells bs)[t]? = some (flatK Bd.cells 6 bs.toArray)[t]! := by
  have h1 : t / 6 < bs.length := by omega
  have h2 : t % 6 < 6 := Nat.mod_lt _ (by omega)
  have e : t / 6 * 6 + t % 6 = t := by omega
  have h3 := bcells_get (bs := bs) (i := t / 6) (j := t % 6) h1 h2
  rw [e] at h3
  have h4 := get_flatK Bd.cells 6 bs.toArray t (by simpa using ht)
  have h5 : bs.toArray[t / 6]! = bs[t / 6] := by simp [h1]
  rw [h5] at h4
  have h6 : bs[t / 6].cells[t % 6]? = some (bs[t / 6].cells[t % 6]!) := by
    have : t % 6 < bs[t / 6].cells.length := by rw [Bd.len]; exact h2
    exact (List.getElem?_eq_getElem this).trans (congrArg some (getElem!_pos bs[t / 6].cells (t % 6) this).symm)
  rw [h4, h3, h6]
  exact ⟨rfl, rfl⟩
theorem holds_of {w : World} {g : Nat} {cur : Array Value} {bs : List Bd} (hg : w.heap[g]? = some (.cells cur 35 (0, 0))) (ht : cur.toList.take (bs.length * 6) = bcells bs) : HoldsK Bd.cells 6 w g 0 bs.toArray := by
  intro j hj
  rw [size_flatK] at hj
  have hj' : j < bs.length * 6 := by simpa using hj
  obtain ⟨_, h2⟩ := flat_get bs j hj'
  rw [← ht, List.getElem?_take, if_pos hj', Array.getElem?_toList] at h2
  rw [Nat.zero_add, blk_cell hg, h2]
  exact ⟨rfl, blk_free hg _⟩
theorem put_heap {w : World} {g : Nat} {cur : Array Value} {bs : List Bd} {n : Nat} (hn : bs.length = n) (hg : w.heap[g]? = some (.cells cur 35 (0, 0))) (hc : n * 6 ≤ cur.size) :
    ∃ cur', (putRowK Bd.cells 6 w g 0 bs.toArray).heap[g]? = some (.cells cur' 35 (0, 0)) ∧ cur'.size = cur.size ∧ cur'.toList.take (n * 6) = bcells bs := by
  refine ⟨putCells id 0 (flatK Bd.cells 6 bs.toArray) cur, ?_, by simp [putCells], ?_⟩
  · show (w.heap.modify g _)[g]? = _
    rw [Array.getElem?_modify, if_pos rfl, hg]
    rfl
  · subst hn
    apply List.ext_getElem?
    intro t
    rw [List.getElem?_take]
    by_cases ht : t < bs.length * 6
    · rw [if_pos ht, (flat_get bs t ht).2, Array.getElem?_toList]
      have : t < cur.size := by omega
      simp [putCells, this, ht]
    · rw [if_neg ht, List.getElem?_eq_none (by rw [bcells_len]; omega)]
theorem put_far {w : World} {g k : Nat} (d : Array Bd) (hk : k ≠ g) : (putRowK Bd.cells 6 w g 0 d).heap[k]? = w.heap[k]? := by
  show (w.heap.modify g _)[k]? = _
  rw [Array.getElem?_modify, if_neg (fun e => hk e.symm)]
/-- what the sort leaves -/
structure SortPost (B : Nat) (w : World) (D : Nat → Prop) (v : Value) (bs : List Bd) (e : Ending) (w' : World) : Prop where
  out : ∃ bs' : List Bd, e = .returned (.tuple #[]) ∧ bs'.Perm bs ∧ bs'.Pairwise (fun a b => a.n ≤ b.n) ∧ OwnB B w' D v bs' ∧ w.grownBy w' v.ownBlock
theorem sort_own (B : Nat) (w : World) (D : Nat → Prop) (g cap Bs : Nat) (bs : List Bd) (h : OwnB B w D (.slice (some ⟨g, 0, none⟩) bs.length cap) bs) (h2 : 2 ≤ bs.length) (hl : bs.length ≤ 1000000) (hD : ∀ b, D b → b < w.heap.size ∧ b ≠ g)
    (hBs : w.heap[Bs]? = some (.cells #[.slice (some ⟨g, 0, none⟩) bs.length cap] 25 (0, 0))) :
    Calls Try.prog 39 #[.iface 25 (.slice (some ⟨g, 0, none⟩) bs.length cap), .func (.func 40) #[] #[.pointer (some ⟨Bs, 0, none⟩)]] w (SortPost B w D (.slice (some ⟨g, 0, none⟩) bs.length cap) bs) := by
  rcases h.own.2 with ⟨h0, _⟩ | ⟨g', cap', cur, h0, hB, hg, hc, hm, hs, ht⟩
  · cases h0
  · simp only [Value.slice.injEq, Option.some.injEq, Addr.mk.injEq] at h0
    obtain ⟨⟨rfl, _⟩, _, rfl⟩ := h0
    have hne : Bs ≠ g := by
      intro e
      subst e
      rw [hg] at hBs
      simp at hBs
    have hgl := lt_of_block hg
    have hS := sort_any g cap Bs bs.toArray (by simpa using h2) (by simp; omega) w (holds_of hg ht) hgl (by simpa using blk_cell hBs 0) (lt_of_block hBs) hne
    rw [List.size_toArray] at hS
    refine hS.mono ?_
    rintro e w' ⟨he, d', n, os, hp, hso, hw⟩
    obtain ⟨hp1, hp2, hp3⟩ := hp
    have hsz : d'.toList.length = bs.length := by simpa using hp1
    have hperm : d'.toList.Perm bs := by
      have h9 := hp3
      rw [show d'.extract 0 bs.length = d' from by rw [← List.size_toArray, ← hp1]; simp, show bs.toArray.extract 0 bs.length = bs.toArray from by simp] at h9
      simpa using h9
    obtain ⟨cur', k1, k2, k3⟩ := put_heap (w := Go.Sort.ahead w n) (g := g) (bs := d'.toList) hsz hg (by rw [hs]; omega)
    rw [Array.toArray_toList] at k1
    have h7 : (putRowK Bd.cells 6 (Go.Sort.ahead w n) g 0 d').heap.size = w.heap.size := by simp [putRowK, putRow, mapBlock, Go.Sort.ahead]
    have hold : ∀ k, k < w.heap.size → w'.heap[k]? = (putRowK Bd.cells 6 (Go.Sort.ahead w n) g 0 d').heap[k]? := fun k hk => by
      rw [hw]
      exact Array.getElem?_append_left (by rw [h7]; exact hk)
    have hbg : w'.heap[g]? = some (.cells cur' 35 (0, 0)) := (hold g hgl).trans k1
    have hfar : ∀ k, k < w.heap.size → k ≠ g → w'.heap[k]? = w.heap[k]? := fun k hk hne => (hold k hk).trans (put_far d' hne)
    have hgr : w.grownBy w' (Value.slice (some ⟨g, 0, none⟩) bs.length cap).ownBlock := by
      refine ⟨by rw [hw]; rfl, by rw [hw]; rfl, by rw [hw]; rfl, ?_, fun k hk hne => hfar k hk (fun e => hne (by rw [e]; rfl))⟩
      rw [hw]
      show w.heap.size ≤ ((putRowK Bd.cells 6 (Go.Sort.ahead w n) g 0 d').heap ++ os).size
      rw [Array.size_append, h7]
      omega
    refine ⟨d'.toList, he, hperm, ?_, ⟨⟨by rw [bcells_len], .inr ⟨g, cap, cur', by rw [hsz], hB, hbg, by rw [hsz]; exact hc, hm, by rw [k2, hs], by rw [hsz]; exact k3⟩⟩, fun b hb => ?_⟩, hgr⟩
    · rw [List.pairwise_iff_getElem]
      intro i j hi hj hij
      have h9 := hso i j (Nat.zero_le _) hij (by rw [← hsz]; exact hj)
      have e1 : d'[i]! = d'.toList[i] := by
        have h0 : i < d'.size := by simpa using hi
        rw [getElem!_pos d' i h0, Array.getElem_toList]
      have e2 : d'[j]! = d'.toList[j] := by
        have h0 : j < d'.size := by simpa using hj
        rw [getElem!_pos d' j h0, Array.getElem_toList]
      rw [e1, e2] at h9
      unfold ltB at h9
      have := of_decide_eq_false h9
      omega
    · exact (h.sl b (hperm.subset hb)).keep fun d hd off => World.cell?_of_block (hfar d (hD d hd).1 (hD d hd).2)
end Go.Proofs.Ytdeomphilggokaa
