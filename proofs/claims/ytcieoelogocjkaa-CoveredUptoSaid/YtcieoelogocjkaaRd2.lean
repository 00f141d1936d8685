/-
  Proved: patterns among the arguments have no more parts than the reading's bulk. No condition.
-/
import Derived.Test.YtcieoelogocjkaaRd
set_option linter.unusedSimpArgs false
set_option linter.unusedVariables false
namespace Go.Proofs.Ytcieoelogocjkaa
open Go.RowKit Go.Deep
section
variable {H : Type} {enc : TypeId × Value → H} {W : World} {base : Nat} {held : Bool}

theorem bulk_all : ∀ (ds : List (DataW H)) (l : List Pt), ds.length = l.length → (∀ i (h1 : i < ds.length) (h2 : i < l.length), parts l[i] ≤ Rows.uptoBulk ds[i]) → partsL l ≤ Rows.uptoBulkAll ds
  | [], [], _, _ => by simp [partsL]
  | d :: ds, p :: l, hl, h => by
    have h0 := h 0 (by simp) (by simp)
    have h1 := bulk_all ds l (by simpa using hl) (fun i h1 h2 => by have := h (i + 1) (by simpa using h1) (by simpa using h2); simpa using this)
    rw [partsL, Rows.uptoBulkAll]
    simp only [List.getElem_cons_zero] at h0
    omega
set_option maxRecDepth 100000 in
theorem open_bulk : ∀ (fuel : Nat),
    (∀ (cs : List Value) (x : DataW H × List MemPlace), DataW.trod enc Try.prog W base (fun _ => true) held fuel 26 cs = some x → (∀ y ∈ x.1.weights Try.prog 26, y ≤ reachBytes) → ∃ p : Pt, PatV W (fun b => b < W.heap.size) p cs ∧ Fits p ∧ parts p ≤ Rows.uptoBulk x.1) ∧
    (∀ (cs : List Value) (x : DataW H × List MemPlace), DataW.trod enc Try.prog W base (fun _ => true) held fuel 23 cs = some x → (∀ y ∈ x.1.weights Try.prog 23, y ≤ reachBytes) → ∃ (ao : Option Addr) (cap : Nat) (l : List Pt), cs = [.slice ao l.length cap] ∧ SlV W W.heap.size l ao cap ∧ FitsL l ∧ l.length ≤ 2000000000000 ∧ partsL l + 1 ≤ Rows.uptoBulk x.1)
  | 0 => ⟨fun cs x h => by simp [DataW.trod] at h, fun cs x h => by simp [DataW.trod] at h⟩
  | fuel + 1 => by
    have ih := open_bulk fuel
    refine ⟨?_, ?_⟩
    · intro cs x h hw
      obtain ⟨xs, n, hn, rfl, hl, hxl, hf⟩ := DataW.trod_struct Try.underlying26 h
      obtain rfl : n = fuel := by omega
      rw [cells26] at hl
      obtain ⟨c0, c1, c2, c3, c4, c5, rfl⟩ := six_of hl
      obtain ⟨y0, y1, y2, y3, y4, y5, rfl⟩ := six_of (show xs.length = 6 from hxl)
      have t0 : DataW.trod enc Try.prog W base (fun _ => true) held n 3 [c0] = some y0 := by have h := hf 0 _ rfl; simpa [cells3] using h
      have t1 : DataW.trod enc Try.prog W base (fun _ => true) held n 3 [c1] = some y1 := by have h := hf 1 _ rfl; simpa [cells3] using h
      have t2 : DataW.trod enc Try.prog W base (fun _ => true) held n 3 [c2] = some y2 := by have h := hf 2 _ rfl; simpa [cells3] using h
      have t3 : DataW.trod enc Try.prog W base (fun _ => true) held n 3 [c3] = some y3 := by have h := hf 3 _ rfl; simpa [cells3] using h
      have t4 : DataW.trod enc Try.prog W base (fun _ => true) held n 9 [c4] = some y4 := by have h := hf 4 _ rfl; simpa [cells9] using h
      have t5 : DataW.trod enc Try.prog W base (fun _ => true) held n 23 [c5] = some y5 := by have h := hf 5 _ rfl; simpa [cells23] using h
      obtain ⟨k, e0, _, w0⟩ := DataW.trod_int Try.underlying3 t0
      obtain ⟨n, e1, _, w1⟩ := DataW.trod_int Try.underlying3 t1
      obtain ⟨o, e2, _, w2⟩ := DataW.trod_int Try.underlying3 t2
      obtain ⟨a, e3, _, w3⟩ := DataW.trod_int Try.underlying3 t3
      obtain ⟨s, e4, _, w4⟩ := DataW.trod_string Try.underlying9 t4
      have hw5 : ∀ y ∈ y5.1.weights Try.prog 23, y ≤ reachBytes := fun y hy => hw y (by
        simp only [List.map_cons, List.map_nil, DataW.weights, Try.underlying26, DataW.weightsEach, List.mem_append]
        exact .inr (.inr (.inr (.inr (.inr (.inl hy))))))
      obtain ⟨ao, cap, l, e5, hs, hfl, hll, hbk⟩ := ih.2 _ _ t5 hw5
      have e0 := (List.cons.inj e0).1
      have e1 := (List.cons.inj e1).1
      have e2 := (List.cons.inj e2).1
      have e3 := (List.cons.inj e3).1
      have e4 := (List.cons.inj e4).1
      have e5 := (List.cons.inj e5).1
      subst e0 e1 e2 e3 e4 e5
      refine ⟨.mk k n o a s l, ?_, ?_, ?_⟩
      · unfold PatV
        exact ⟨ao, cap, rfl, hs.1, hs.2⟩
      · unfold Fits
        exact ⟨⟨i64_of w0, i64_of w1, i64_of w2, i64_of w3, w4⟩, hll, hfl⟩
      · rw [parts]
        simp only [Rows.uptoBulk, List.map_cons, List.map_nil, Rows.uptoBulkAll]
        omega
    · intro cs x h hw
      rcases DataW.trod_slice Try.underlying23 h with ⟨rfl, rfl⟩ | ⟨a, len, cap, elems, rest, n, hn, rfl, rfl, hb, hl, hm, hlen, hel, hsp, hns⟩
      · exact ⟨none, 0, [], rfl, ⟨Nat.le_refl _, by unfold KidsV; trivial⟩, by unfold FitsL; trivial, by simp, by simp [partsL, Rows.uptoBulk]⟩
      · obtain rfl : n = fuel := by omega
        rw [cells26] at hel
        have hw2 : ∀ y ∈ DataW.weights Try.prog 23 (.slice (elems.map (·.1)) (rest.map (·.1)) : DataW H), y ≤ reachBytes := hw
        simp only [DataW.weights, Try.underlying23, bytes26] at hw2
        have hlb : len ≤ 2000000000000 := by
          have h1 := hw2 _ (List.mem_cons_self)
          rw [reach47] at h1
          simp only [List.length_map] at h1
          omega
        have each : ∀ i, i < len → ∃ (p : Pt) (cs' : List Value), W.cells? base (a.add (i * 6)) 6 = some cs' ∧ PatV W (fun b => b < W.heap.size) p cs' ∧ Fits p ∧ ∃ hi : i < elems.length, parts p ≤ Rows.uptoBulk elems[i].1 := fun i hi => by
          have he := hel i hi
          rw [List.getElem?_eq_getElem (by omega)] at he
          obtain ⟨cs', h1, h2⟩ := Option.bind_eq_some_iff.1 he
          obtain ⟨p, hp, hfp, hbp⟩ := ih.1 _ _ h2 (fun y hy => hw2 y (List.mem_cons_of_mem _ (List.mem_append_left _ (weights_all (List.mem_map_of_mem (List.getElem_mem (by omega))) y hy))))
          exact ⟨p, cs', h1, hp, hfp, by omega, hbp⟩
        haveI : Inhabited Pt := ⟨anyP⟩
        obtain ⟨Y, hY⟩ := choose_lt each
        have hk : KidsV W (fun b => b < W.heap.size) ((List.range len).map Y) (some a) 0 := by
          refine KidsV.of fun i hi => ?_
          have hi' : i < len := by simpa using hi
          obtain ⟨b, off, rfl, hbl, hc⟩ := elem_cells (sz := 6) (by omega) (fun i hi => by obtain ⟨cs', h1, _⟩ := hY i hi; exact ⟨cs', h1⟩) (show 0 < len by omega)
          obtain ⟨cs', h1, h2, _⟩ := hY i hi'
          refine ⟨b, off, cs', rfl, hbl, fun j hj => ?_, ?_⟩
          · rw [Nat.zero_add]; exact (hc i hi' cs' h1).2 j hj
          · rw [List.getElem_map, List.getElem_range]; exact h2
        have hfl : ∀ (l : List Nat), (∀ i ∈ l, i < len) → FitsL (l.map Y) := by
          intro l
          induction l with
          | nil => intro _; unfold FitsL; trivial
          | cons i l ihl =>
            intro hl
            rw [List.map_cons]
            obtain ⟨_, _, _, hfp, _⟩ := hY i (hl i (by simp))
            exact fitsL_mk hfp (ihl fun j hj => hl j (by simp [hj]))
        refine ⟨some a, cap, (List.range len).map Y, by simp, ⟨by simpa using hl, hk⟩, hfl _ (fun i hi => List.mem_range.1 hi), by simpa using hlb, ?_⟩
        simp only [Rows.uptoBulk]
        have := bulk_all (elems.map (·.1)) ((List.range len).map Y) (by simp; omega) (fun i h1 h2 => by
          have hi : i < len := by simpa using h2
          obtain ⟨_, _, _, _, hi2, hb⟩ := hY i hi
          simpa using hb)
        omega
theorem open_list {v : Value} {d : DataW H} {p : List MemPlace} {r : Reach} {b0 : Nat} (hv : Value.okWide Try.prog W r b0 23 v) (h : DataW.Trod enc Try.prog W base (fun _ => true) held 23 v d p) (hw : ∀ y ∈ d.weights Try.prog 23, y ≤ reachBytes) :
    ∃ (ao : Option Addr) (cap : Nat) (l : List Pt), v = .slice ao l.length cap ∧ SlV W W.heap.size l ao cap ∧ FitsL l ∧ partsL l ≤ Rows.uptoBulk d := by
  obtain ⟨fuel, hf⟩ := h
  obtain ⟨ao, cap, l, e, hs, hfl, hl, hb⟩ := (open_bulk fuel).2 _ _ hf hw
  refine ⟨ao, cap, l, ?_, hs, hfl, by simp only at hb; omega⟩
  obtain ⟨a, n, c, rfl⟩ := Go.WideShapes.okWide_slice Try.underlying23 hv
  exact (List.cons.inj e).1
theorem open_pat {v : Value} {d : DataW H} {p : List MemPlace} {r : Reach} {b0 : Nat} (hv : Value.okWide Try.prog W r b0 26 v) (h : DataW.Trod enc Try.prog W base (fun _ => true) held 26 v d p) (hw : ∀ y ∈ d.weights Try.prog 26, y ≤ reachBytes) :
    ∃ (ao : Option Addr) (cap : Nat) (q : Pt), v = .agg (rowOf q ao cap) ∧ SlV W W.heap.size q.kids ao cap ∧ Fits q ∧ parts q ≤ Rows.uptoBulk d := by
  obtain ⟨fuel, hf⟩ := h
  obtain ⟨q, hp, hfq, hb⟩ := (open_bulk fuel).1 _ _ hf hw
  obtain ⟨ao, cap, e, hs⟩ := hp.row
  obtain ⟨cs, rfl, _⟩ := Go.WideShapes.okWide_struct Try.underlying26 hv
  refine ⟨ao, cap, q, ?_, hs, hfq, hb⟩
  have e' : cs.toList = (rowOf q ao cap).toList := e
  rw [Array.toList_inj.1 e']
end
end Go.Proofs.Ytcieoelogocjkaa
