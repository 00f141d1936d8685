/-
  Proved: pairs of types among the arguments have six times no more parts than the reading's bulk. No condition.
-/
import Derived.Test.YtdeomphilggokaaRd
import Derived.Test.YtdeomphilggokaaT5
import Derived.Test.YtdeomphilggokaaX1
set_option linter.unusedSimpArgs false
set_option linter.unusedVariables false
namespace Go.Proofs.Ytdeomphilggokaa
open Go.RowKit Go.Deep
section
variable {H : Type} {enc : TypeId × Value → H} {W : World} {base : Nat} {held : Bool}

theorem bulk_pos : ∀ d : DataW H, 1 ≤ Rows.uptoBulk d := by
  intro d
  cases d with
  | lit l => cases l <;> simp [Rows.uptoBulk]
  | _ => simp [Rows.uptoBulk]
theorem bulk_all : ∀ (ds : List (DataW H)) (l : List Ty), ds.length = l.length → (∀ i (h1 : i < ds.length) (h2 : i < l.length), parts l[i] * 6 ≤ Rows.uptoBulk ds[i]) → partsL l * 6 ≤ Rows.uptoBulkAll ds
  | [], [], _, _ => by simp [partsL]
  | d :: ds, p :: l, hl, h => by
    have h0 := h 0 (by simp) (by simp)
    have h1 := bulk_all ds l (by simpa using hl) (fun i h1 h2 => by have := h (i + 1) (by simpa using h1) (by simpa using h2); simpa using this)
    rw [partsL, Rows.uptoBulkAll]
    simp only [List.getElem_cons_zero] at h0
    omega
theorem bulk_pairs : ∀ (ds : List (DataW H)) (l : List (Ty × Ty)), ds.length = l.length → (∀ i (h1 : i < ds.length) (h2 : i < l.length), (parts l[i].1 + parts l[i].2) * 6 ≤ Rows.uptoBulk ds[i]) → ptP l * 6 ≤ Rows.uptoBulkAll ds
  | [], [], _, _ => by simp [ptP]
  | d :: ds, p :: l, hl, h => by
    have h0 := h 0 (by simp) (by simp)
    have h1 := bulk_pairs ds l (by simpa using hl) (fun i h1 h2 => by have := h (i + 1) (by simpa using h1) (by simpa using h2); simpa using this)
    rw [ptP, Rows.uptoBulkAll]
    simp only [List.getElem_cons_zero] at h0
    omega
set_option maxRecDepth 100000 in
theorem open_bulk : ∀ (fuel : Nat),
    (∀ (cs : List Value) (x : DataW H × List MemPlace), DataW.trod enc Try.prog W base (fun _ => true) held fuel 33 cs = some x → (∀ y ∈ x.1.weights Try.prog 33, y ≤ reachBytes) → ∃ p : Ty, TyV W (fun b => b < W.heap.size) p cs ∧ Fits p ∧ parts p * 6 ≤ Rows.uptoBulk x.1) ∧
    (∀ (cs : List Value) (x : DataW H × List MemPlace), DataW.trod enc Try.prog W base (fun _ => true) held fuel 31 cs = some x → (∀ y ∈ x.1.weights Try.prog 31, y ≤ reachBytes) → ∃ (ao : Option Addr) (cap : Nat) (l : List Ty), cs = [.slice ao l.length cap] ∧ SlD W (fun b => b < W.heap.size) l ao cap ∧ FitsL l ∧ l.length ≤ 3000000000000 ∧ partsL l * 6 + 1 ≤ Rows.uptoBulk x.1)
  | 0 => ⟨fun cs x h => by simp [DataW.trod] at h, fun cs x h => by simp [DataW.trod] at h⟩
  | fuel + 1 => by
    have ih := open_bulk fuel
    refine ⟨?_, ?_⟩
    · intro cs x h hw
      obtain ⟨xs, n, hn, rfl, hl, hxl, hf⟩ := DataW.trod_struct Try.underlying33 h
      obtain rfl : n = fuel := by omega
      rw [cells33] at hl
      obtain ⟨c0, c1, c2, c3, c4, rfl⟩ := five_of hl
      obtain ⟨y0, y1, y2, y3, y4, rfl⟩ := five_of (show xs.length = 5 from hxl)
      have t0 : DataW.trod enc Try.prog W base (fun _ => true) held n 3 [c0] = some y0 := by have h := hf 0 _ rfl; simpa [cells3] using h
      have t1 : DataW.trod enc Try.prog W base (fun _ => true) held n 3 [c1] = some y1 := by have h := hf 1 _ rfl; simpa [cells3] using h
      have t2 : DataW.trod enc Try.prog W base (fun _ => true) held n 9 [c2] = some y2 := by have h := hf 2 _ rfl; simpa [cells9] using h
      have t3 : DataW.trod enc Try.prog W base (fun _ => true) held n 3 [c3] = some y3 := by have h := hf 3 _ rfl; simpa [cells3] using h
      have t4 : DataW.trod enc Try.prog W base (fun _ => true) held n 31 [c4] = some y4 := by have h := hf 4 _ rfl; simpa [cells31] using h
      obtain ⟨k, e0, _, w0⟩ := DataW.trod_int Try.underlying3 t0
      obtain ⟨m, e1, _, w1⟩ := DataW.trod_int Try.underlying3 t1
      obtain ⟨s, e2, f2, _⟩ := DataW.trod_string Try.underlying9 t2
      have w2 : s.size ≤ 140737488355328 := by
        have h2 := hw s.data.toList.length (by
          simp only [List.map_cons, List.map_nil, DataW.weights, Try.underlying33, DataW.weightsEach, List.mem_append]
          exact .inr (.inr (.inl (by rw [f2]; simp [DataW.weights]))))
        rw [reach47, Array.length_toList] at h2
        have : s.size = s.data.size := rfl
        omega
      obtain ⟨q, e3, _, w3⟩ := DataW.trod_int Try.underlying3 t3
      have hw4 : ∀ y ∈ y4.1.weights Try.prog 31, y ≤ reachBytes := fun y hy => hw y (by
        simp only [List.map_cons, List.map_nil, DataW.weights, Try.underlying33, DataW.weightsEach, List.mem_append]
        exact .inr (.inr (.inr (.inr (.inl hy)))))
      obtain ⟨ao, cap, l, e4, hs, hfl, hll, hbk⟩ := ih.2 _ _ t4 hw4
      have e0 := (List.cons.inj e0).1
      have e1 := (List.cons.inj e1).1
      have e2 := (List.cons.inj e2).1
      have e3 := (List.cons.inj e3).1
      have e4 := (List.cons.inj e4).1
      subst e0 e1 e2 e3 e4
      refine ⟨.mk k m s q l, ?_, ?_, ?_⟩
      · unfold TyV
        exact ⟨ao, cap, rfl, hs.1, hs.2⟩
      · unfold Fits
        exact ⟨⟨i64_of w0, i64_of w1, w2, i64_of w3⟩, by omega, hfl⟩
      · rw [parts]
        simp only [Rows.uptoBulk, List.map_cons, List.map_nil, Rows.uptoBulkAll]
        have b0 := bulk_pos y0.1
        have b1 := bulk_pos y1.1
        have b2 := bulk_pos y2.1
        have b3 := bulk_pos y3.1
        omega
    · intro cs x h hw
      rcases DataW.trod_slice Try.underlying31 h with ⟨rfl, rfl⟩ | ⟨a, len, cap, elems, rest, n, hn, rfl, rfl, hb, hl, hm, hlen, hel, hsp, hns⟩
      · exact ⟨none, 0, [], rfl, ⟨Nat.le_refl _, by unfold ArgsV; trivial⟩, by unfold FitsL; trivial, by simp, by simp [partsL, Rows.uptoBulk]⟩
      · obtain rfl : n = fuel := by omega
        rw [cells33] at hel
        have hw2 : ∀ y ∈ DataW.weights Try.prog 31 (.slice (elems.map (·.1)) (rest.map (·.1)) : DataW H), y ≤ reachBytes := hw
        simp only [DataW.weights, Try.underlying31, bytes33] at hw2
        have hlb : len ≤ 3000000000000 := by
          have h1 := hw2 _ (List.mem_cons_self)
          rw [reach47] at h1
          simp only [List.length_map] at h1
          omega
        have each : ∀ i, i < len → ∃ (p : Ty) (cs' : List Value), W.cells? base (a.add (i * 5)) 5 = some cs' ∧ TyV W (fun b => b < W.heap.size) p cs' ∧ Fits p ∧ ∃ hi : i < elems.length, parts p * 6 ≤ Rows.uptoBulk elems[i].1 := fun i hi => by
          have he := hel i hi
          rw [List.getElem?_eq_getElem (by omega)] at he
          obtain ⟨cs', h1, h2⟩ := Option.bind_eq_some_iff.1 he
          obtain ⟨p, hp, hfp, hbp⟩ := ih.1 _ _ h2 (fun y hy => hw2 y (List.mem_cons_of_mem _ (List.mem_append_left _ (weights_all (List.mem_map_of_mem (List.getElem_mem (by omega))) y hy))))
          exact ⟨p, cs', h1, hp, hfp, by omega, hbp⟩
        obtain ⟨Y, hY⟩ := choose_lt each
        have hk : ArgsV W (fun b => b < W.heap.size) ((List.range len).map Y) (some a) 0 := by
          refine ArgsV.of fun i hi => ?_
          have hi' : i < len := by simpa using hi
          obtain ⟨b, off, rfl, hbl, hc⟩ := elem_cells (sz := 5) (by omega) (fun i hi => by obtain ⟨cs', h1, _⟩ := hY i hi; exact ⟨cs', h1⟩) (show 0 < len by omega)
          obtain ⟨cs', h1, h2, _, _⟩ := hY i hi'
          refine ⟨b, off, cs', rfl, hbl, fun j hj => ?_, ?_⟩
          · rw [Nat.zero_add]; exact (hc i hi' cs' h1).2 j hj
          · rw [List.getElem_map, List.getElem_range]; exact h2
        have hfl : ∀ (l : List Nat), (∀ i ∈ l, i < len) → FitsL (l.map Y) := by
          intro l
          induction l with
          | nil => intro _; unfold FitsL; trivial
          | cons i l ihl =>
            intro hl
            rw [List.map_cons]
            obtain ⟨_, _, _, hfp, _⟩ := hY i (hl i (by simp))
            exact fitsL_mk hfp (ihl fun j hj => hl j (by simp [hj]))
        refine ⟨some a, cap, (List.range len).map Y, by simp, ⟨by simpa using hl, hk⟩, hfl _ (fun i hi => List.mem_range.1 hi), by simpa using hlb, ?_⟩
        simp only [Rows.uptoBulk]
        have := bulk_all (elems.map (·.1)) ((List.range len).map Y) (by simp; omega) (fun i h1 h2 => by
          have hi : i < len := by simpa using h2
          obtain ⟨_, _, _, _, hi2, hb⟩ := hY i hi
          simpa using hb)
        omega
theorem two_of {α : Type} {l : List α} (h : l.length = 2) : ∃ a b, l = [a, b] := by
  match l, h with
  | [a, b], _ => exact ⟨a, b, rfl⟩
set_option maxRecDepth 100000 in
/-- a pair of types among the arguments -/
theorem open_pair {fuel : Nat} {cs : List Value} {x : DataW H × List MemPlace} (h : DataW.trod enc Try.prog W base (fun _ => true) held fuel 38 cs = some x) (hw : ∀ y ∈ x.1.weights Try.prog 38, y ≤ reachBytes) :
    ∃ p : Ty × Ty, cs.length = 10 ∧ TyV W (fun b => b < W.heap.size) p.1 (cs.take 5) ∧ TyV W (fun b => b < W.heap.size) p.2 (cs.drop 5) ∧ (Fits p.1 ∧ Fits p.2) ∧ (parts p.1 + parts p.2) * 6 ≤ Rows.uptoBulk x.1 := by
  obtain ⟨xs, n, hn, rfl, hl, hxl, hf⟩ := DataW.trod_struct Try.underlying38 h
  rw [cells38] at hl
  obtain ⟨y0, y1, rfl⟩ := two_of (show xs.length = 2 from hxl)
  have t0 : DataW.trod enc Try.prog W base (fun _ => true) held n 33 (cs.take 5) = some y0 := by have h := hf 0 _ rfl; simpa [cells33] using h
  have t1 : DataW.trod enc Try.prog W base (fun _ => true) held n 33 (cs.drop 5) = some y1 := by
    have h := hf 1 _ rfl
    have e : ((cs.drop 5).take 5) = cs.drop 5 := List.take_of_length_le (by simp; omega)
    have h2 : DataW.trod enc Try.prog W base (fun _ => true) held n 33 ((cs.drop 5).take 5) = some y1 := by simpa [cells33] using h
    rw [e] at h2
    exact h2
  have w0 : ∀ y ∈ y0.1.weights Try.prog 33, y ≤ reachBytes := fun y hy => hw y (by
    simp only [List.map_cons, List.map_nil, DataW.weights, Try.underlying38, DataW.weightsEach, List.mem_append]
    exact .inl hy)
  have w1 : ∀ y ∈ y1.1.weights Try.prog 33, y ≤ reachBytes := fun y hy => hw y (by
    simp only [List.map_cons, List.map_nil, DataW.weights, Try.underlying38, DataW.weightsEach, List.mem_append]
    exact .inr (.inl hy))
  obtain ⟨p, hp, hfp, hbp⟩ := (open_bulk n).1 _ _ t0 w0
  obtain ⟨q, hq, hfq, hbq⟩ := (open_bulk n).1 _ _ t1 w1
  refine ⟨(p, q), hl, hp, hq, ⟨hfp, hfq⟩, ?_⟩
  simp only [Rows.uptoBulk, List.map_cons, List.map_nil, Rows.uptoBulkAll]
  omega
set_option maxRecDepth 100000 in
/-- a slice of pairs of types among the arguments -/
theorem open_pairs {v : Value} {d : DataW H} {p : List MemPlace} {r : Reach} {b0 : Nat} (hv : Value.okWide Try.prog W r b0 22 v) (h : DataW.Trod enc Try.prog W base (fun _ => true) held 22 v d p) (hw : ∀ y ∈ d.weights Try.prog 22, y ≤ reachBytes) :
    ∃ (ao : Option Addr) (cap : Nat) (l : List (Ty × Ty)), v = .slice ao l.length cap ∧ PairsV W (fun b => b < W.heap.size) l ao ∧ (∀ p ∈ l, Fits p.1 ∧ Fits p.2) ∧ ptP l * 6 ≤ Rows.uptoBulk d := by
  obtain ⟨fuel, hf⟩ := h
  rcases DataW.trod_slice Try.underlying22 hf with ⟨hv0, hx0⟩ | ⟨a, len, cap, elems, rest, n, hn, hv0, hx0, hb, hl, hm, hlen, hel, hsp, hns⟩
  · obtain ⟨a, n, c, rfl⟩ := Go.WideShapes.okWide_slice Try.underlying22 hv
    have e := (List.cons.inj hv0).1
    cases e
    cases hx0
    exact ⟨none, 0, [], rfl, fun k hk => by simp at hk, fun p hp => (by cases hp), by simp [ptP]⟩
  · obtain ⟨a', n', c', rfl⟩ := Go.WideShapes.okWide_slice Try.underlying22 hv
    have e := (List.cons.inj hv0).1
    cases e
    cases hx0
    rw [cells38] at hel
    have hw2 : ∀ y ∈ DataW.weights Try.prog 22 (.slice (elems.map (·.1)) (rest.map (·.1)) : DataW H), y ≤ reachBytes := hw
    simp only [DataW.weights, Try.underlying22, bytes38] at hw2
    have each : ∀ i, i < len → ∃ (p : Ty × Ty) (cs' : List Value), W.cells? base (a.add (i * 10)) 10 = some cs' ∧ cs'.length = 10 ∧ TyV W (fun b => b < W.heap.size) p.1 (cs'.take 5) ∧ TyV W (fun b => b < W.heap.size) p.2 (cs'.drop 5) ∧ (Fits p.1 ∧ Fits p.2) ∧ ∃ hi : i < elems.length, (parts p.1 + parts p.2) * 6 ≤ Rows.uptoBulk elems[i].1 := fun i hi => by
      have he := hel i hi
      rw [List.getElem?_eq_getElem (by omega)] at he
      obtain ⟨cs', h1, h2⟩ := Option.bind_eq_some_iff.1 he
      obtain ⟨p, g1, g2, g3, g4, g5⟩ := open_pair h2 (fun y hy => hw2 y (List.mem_cons_of_mem _ (List.mem_append_left _ (weights_all (List.mem_map_of_mem (List.getElem_mem (by omega))) y hy))))
      exact ⟨p, cs', h1, g1, g2, g3, g4, by omega, g5⟩
    haveI : Inhabited (Ty × Ty) := ⟨(default, default)⟩
    obtain ⟨Y, hY⟩ := choose_lt each
    refine ⟨some a, cap, (List.range len).map Y, by simp, fun k hk => ?_, fun p hp => ?_, ?_⟩
    · have hi' : k < len := by simpa using hk
      obtain ⟨b, off, rfl, hbl, hc⟩ := elem_cells (sz := 10) (by omega) (fun i hi => by obtain ⟨cs', h1, _⟩ := hY i hi; exact ⟨cs', h1⟩) (show 0 < len by omega)
      obtain ⟨cs', h1, g1, g2, g3, _⟩ := hY k hi'
      obtain ⟨a1, c1, e1, s1⟩ := g2.row
      obtain ⟨a2, c2, e2, s2⟩ := g3.row
      have ek : ((List.range len).map Y)[k] = Y k := by rw [List.getElem_map, List.getElem_range]
      refine ⟨b, off, a1, c1, a2, c2, rfl, hbl, fun j hj => ?_, ?_, ?_⟩
      · rw [ek, (hc k hi' cs' h1).2 j hj, ← e1, ← e2, List.take_append_drop]
      · rw [ek]; exact s1
      · rw [ek]; exact s2
    · obtain ⟨i, hi, rfl⟩ := List.mem_map.1 hp
      obtain ⟨_, _, _, _, _, hf2, _⟩ := hY i (List.mem_range.1 hi)
      exact hf2
    · simp only [Rows.uptoBulk]
      have := bulk_pairs (elems.map (·.1)) ((List.range len).map Y) (by simp; omega) (fun i h1 h2 => by
        have hi : i < len := by simpa using h2
        obtain ⟨_, _, _, _, _, _, hi2, hb⟩ := hY i hi
        simpa using hb)
      omega
end
end Go.Proofs.Ytdeomphilggokaa
