/-
  Proved: patterns among the arguments read as patterns in memory that fit a machine. No condition.
-/
import Derived.Test.YtcieoelogocjkaaRows
import Derived.Test.YtcieoelogocjkaaS3
import Derived.Deep.Slices
import Derived.Deep.Strs
import Derived.Lib.SmallJoins
import Derived.OpenShut
import Derived.SizedLaws
set_option linter.unusedSimpArgs false
set_option linter.unusedVariables false
namespace Go.Proofs.Ytcieoelogocjkaa
open Go.RowKit Go.Deep

theorem cells26 : Try.prog.cellsOf 26 = 6 := by kernel_rfl
theorem cells23 : Try.prog.cellsOf 23 = 1 := by kernel_rfl
theorem cells22 : Try.prog.cellsOf 22 = 1 := by kernel_rfl
theorem bytes26 : Try.prog.bytesOf 26 = 72 := by kernel_rfl
theorem bytes23 : Try.prog.bytesOf 23 = 24 := by kernel_rfl
theorem reach47 : reachBytes = 140737488351232 := by decide
/-- an address of a slice whose elements are there bears no place inside a cell -/
theorem plain_addr {w : World} {a : Addr} {v : Value} (h : w.cell? a = some v) : a.spot = none ∧ a.block < w.heap.size := by
  refine ⟨?_, ?_⟩
  · unfold World.cell? at h
    split at h
    · split at h
      · cases h
      · rename_i hs; simpa using hs
    · cases h
  · exact World.block_lt_of_cell? w a h
theorem i64_of {n : Int} (h : (Lit.int .i64 n).wf = true) : I64 n := by
  have := bounds_i64 h
  unfold I64
  omega
theorem six_of {α : Type} {l : List α} (h : l.length = 6) : ∃ a b c d e f, l = [a, b, c, d, e, f] := by
  match l, h with
  | [a, b, c, d, e, f], _ => exact ⟨a, b, c, d, e, f, rfl⟩
section
variable {H : Type} {enc : TypeId × Value → H} {W : World} {base : Nat} {held : Bool}

/-- the cells of an element, where the first is there -/
theorem elem_cells {a : Addr} {len sz : Nat} (hsz : 0 < sz) (hx : ∀ i, i < len → ∃ cs', W.cells? base (a.add (i * sz)) sz = some cs') (h0 : 0 < len) :
    ∃ b off, a = ⟨b, off, none⟩ ∧ b < W.heap.size ∧ ∀ i, i < len → ∀ cs', W.cells? base (a.add (i * sz)) sz = some cs' → cs'.length = sz ∧ ∀ j, j < sz → W.cell? ⟨b, off + i * sz + j, none⟩ = cs'[j]? := by
  obtain ⟨cs0, g1⟩ := hx 0 h0
  obtain ⟨_, gl, gc⟩ := World.cells?_some g1
  have g0 := gc 0 hsz
  rw [List.getElem?_eq_getElem (by omega)] at g0
  have hq := plain_addr g0
  obtain ⟨b, off, spot⟩ := a
  have hadd : ∀ n, (⟨b, off, spot⟩ : Addr).add n = if n = 0 then ⟨b, off, spot⟩ else ⟨b, off + n, none⟩ := fun n => rfl
  simp [Addr.add] at hq
  obtain ⟨rfl, hq2⟩ := hq
  refine ⟨b, off, rfl, hq2, fun i hi cs' h1 => ?_⟩
  obtain ⟨_, hl, hc⟩ := World.cells?_some h1
  refine ⟨hl, fun j hj => ?_⟩
  have := hc j hj
  rw [Addr.add_lit, Addr.add_lit] at this
  exact this
theorem weights_all {e : TypeId} {P : Program} : ∀ {ds : List (DataW H)} {d : DataW H}, d ∈ ds → ∀ y ∈ d.weights P e, y ∈ DataW.weightsAll P e ds
  | x :: xs, d, hd, y, hy => by
    rw [DataW.weightsAll]
    rcases List.mem_cons.1 hd with rfl | hd
    · exact List.mem_append_left _ hy
    · exact List.mem_append_right _ (weights_all hd y hy)

set_option maxRecDepth 100000 in
theorem open_both : ∀ (fuel : Nat),
    (∀ (cs : List Value) (x : DataW H × List MemPlace), DataW.trod enc Try.prog W base (fun _ => true) held fuel 26 cs = some x → (∀ y ∈ x.1.weights Try.prog 26, y ≤ reachBytes) → ∃ p : Pt, PatV W (fun b => b < W.heap.size) p cs ∧ Fits p) ∧
    (∀ (cs : List Value) (x : DataW H × List MemPlace), DataW.trod enc Try.prog W base (fun _ => true) held fuel 23 cs = some x → (∀ y ∈ x.1.weights Try.prog 23, y ≤ reachBytes) → ∃ (ao : Option Addr) (cap : Nat) (l : List Pt), cs = [.slice ao l.length cap] ∧ SlV W W.heap.size l ao cap ∧ FitsL l ∧ l.length ≤ 2000000000000)
  | 0 => ⟨fun cs x h => by simp [DataW.trod] at h, fun cs x h => by simp [DataW.trod] at h⟩
  | fuel + 1 => by
    have ih := open_both fuel
    refine ⟨?_, ?_⟩
    · intro cs x h hw
      obtain ⟨xs, n, hn, rfl, hl, hxl, hf⟩ := DataW.trod_struct Try.underlying26 h
      obtain rfl : n = fuel := by omega
      rw [cells26] at hl
      obtain ⟨c0, c1, c2, c3, c4, c5, rfl⟩ := six_of hl
      obtain ⟨y0, y1, y2, y3, y4, y5, rfl⟩ := six_of (show xs.length = 6 from hxl)
      have t0 : DataW.trod enc Try.prog W base (fun _ => true) held n 3 [c0] = some y0 := by have h := hf 0 _ rfl; simpa [cells3] using h
      have t1 : DataW.trod enc Try.prog W base (fun _ => true) held n 3 [c1] = some y1 := by have h := hf 1 _ rfl; simpa [cells3] using h
      have t2 : DataW.trod enc Try.prog W base (fun _ => true) held n 3 [c2] = some y2 := by have h := hf 2 _ rfl; simpa [cells3] using h
      have t3 : DataW.trod enc Try.prog W base (fun _ => true) held n 3 [c3] = some y3 := by have h := hf 3 _ rfl; simpa [cells3] using h
      have t4 : DataW.trod enc Try.prog W base (fun _ => true) held n 9 [c4] = some y4 := by have h := hf 4 _ rfl; simpa [cells9] using h
      have t5 : DataW.trod enc Try.prog W base (fun _ => true) held n 23 [c5] = some y5 := by have h := hf 5 _ rfl; simpa [cells23] using h
      obtain ⟨k, e0, _, w0⟩ := DataW.trod_int Try.underlying3 t0
      obtain ⟨n, e1, _, w1⟩ := DataW.trod_int Try.underlying3 t1
      obtain ⟨o, e2, _, w2⟩ := DataW.trod_int Try.underlying3 t2
      obtain ⟨a, e3, _, w3⟩ := DataW.trod_int Try.underlying3 t3
      obtain ⟨s, e4, _, w4⟩ := DataW.trod_string Try.underlying9 t4
      have hw5 : ∀ y ∈ y5.1.weights Try.prog 23, y ≤ reachBytes := fun y hy => hw y (by
        simp only [List.map_cons, List.map_nil, DataW.weights, Try.underlying26, DataW.weightsEach, List.mem_append]
        exact .inr (.inr (.inr (.inr (.inr (.inl hy))))))
      obtain ⟨ao, cap, l, e5, hs, hfl, hll⟩ := ih.2 _ _ t5 hw5
      have e0 := (List.cons.inj e0).1
      have e1 := (List.cons.inj e1).1
      have e2 := (List.cons.inj e2).1
      have e3 := (List.cons.inj e3).1
      have e4 := (List.cons.inj e4).1
      have e5 := (List.cons.inj e5).1
      subst e0 e1 e2 e3 e4 e5
      refine ⟨.mk k n o a s l, ?_, ?_⟩
      · unfold PatV
        exact ⟨ao, cap, rfl, hs.1, hs.2⟩
      · unfold Fits
        exact ⟨⟨i64_of w0, i64_of w1, i64_of w2, i64_of w3, w4⟩, hll, hfl⟩
    · intro cs x h hw
      rcases DataW.trod_slice Try.underlying23 h with ⟨rfl, rfl⟩ | ⟨a, len, cap, elems, rest, n, hn, rfl, rfl, hb, hl, hm, hlen, hel, hsp, hns⟩
      · exact ⟨none, 0, [], rfl, ⟨Nat.le_refl _, by unfold KidsV; trivial⟩, by unfold FitsL; trivial, by simp⟩
      · obtain rfl : n = fuel := by omega
        rw [cells26] at hel
        have hw2 : ∀ y ∈ DataW.weights Try.prog 23 (.slice (elems.map (·.1)) (rest.map (·.1)) : DataW H), y ≤ reachBytes := hw
        simp only [DataW.weights, Try.underlying23, bytes26] at hw2
        have hlb : len ≤ 2000000000000 := by
          have h1 := hw2 _ (List.mem_cons_self)
          rw [reach47] at h1
          simp only [List.length_map] at h1
          omega
        have each : ∀ i, i < len → ∃ (p : Pt) (cs' : List Value), W.cells? base (a.add (i * 6)) 6 = some cs' ∧ PatV W (fun b => b < W.heap.size) p cs' ∧ Fits p := fun i hi => by
          have he := hel i hi
          rw [List.getElem?_eq_getElem (by omega)] at he
          obtain ⟨cs', h1, h2⟩ := Option.bind_eq_some_iff.1 he
          obtain ⟨p, hp, hfp⟩ := ih.1 _ _ h2 (fun y hy => hw2 y (List.mem_cons_of_mem _ (List.mem_append_left _ (weights_all (List.mem_map_of_mem (List.getElem_mem (by omega))) y hy))))
          exact ⟨p, cs', h1, hp, hfp⟩
        haveI : Inhabited Pt := ⟨anyP⟩
        obtain ⟨Y, hY⟩ := choose_lt each
        have hk : KidsV W (fun b => b < W.heap.size) ((List.range len).map Y) (some a) 0 := by
          refine KidsV.of fun i hi => ?_
          have hi' : i < len := by simpa using hi
          obtain ⟨b, off, rfl, hbl, hc⟩ := elem_cells (sz := 6) (by omega) (fun i hi => by obtain ⟨cs', h1, _⟩ := hY i hi; exact ⟨cs', h1⟩) (show 0 < len by omega)
          obtain ⟨cs', h1, h2, _⟩ := hY i hi'
          refine ⟨b, off, cs', rfl, hbl, fun j hj => ?_, ?_⟩
          · rw [Nat.zero_add]; exact (hc i hi' cs' h1).2 j hj
          · rw [List.getElem_map, List.getElem_range]; exact h2
        have hfl : ∀ (l : List Nat), (∀ i ∈ l, i < len) → FitsL (l.map Y) := by
          intro l
          induction l with
          | nil => intro _; unfold FitsL; trivial
          | cons i l ihl =>
            intro hl
            rw [List.map_cons]
            obtain ⟨_, _, _, hfp⟩ := hY i (hl i (by simp))
            exact fitsL_mk hfp (ihl fun j hj => hl j (by simp [hj]))
        exact ⟨some a, cap, (List.range len).map Y, by simp, ⟨by simpa using hl, hk⟩, hfl _ (fun i hi => List.mem_range.1 hi), by simpa using hlb⟩
theorem open_pats {v : Value} {d : DataW H} {p : List MemPlace} {r : Reach} {b0 : Nat} (hv : Value.okWide Try.prog W r b0 23 v) (h : DataW.Trod enc Try.prog W base (fun _ => true) held 23 v d p) (hw : ∀ y ∈ d.weights Try.prog 23, y ≤ reachBytes) :
    ∃ (ao : Option Addr) (cap : Nat) (l : List Pt), v = .slice ao l.length cap ∧ SlV W W.heap.size l ao cap ∧ FitsL l ∧ l.length ≤ 2000000000000 := by
  obtain ⟨fuel, hf⟩ := h
  obtain ⟨ao, cap, l, e, hs, hfl, hl⟩ := (open_both fuel).2 _ _ hf hw
  refine ⟨ao, cap, l, ?_, hs, hfl, hl⟩
  obtain ⟨a, n, c, rfl⟩ := Go.WideShapes.okWide_slice Try.underlying23 hv
  exact (List.cons.inj e).1
theorem open_rows {v : Value} {d : DataW H} {p : List MemPlace} {r : Reach} {b0 : Nat} (hv : Value.okWide Try.prog W r b0 22 v) (h : DataW.Trod enc Try.prog W base (fun _ => true) held 22 v d p) (hw : ∀ y ∈ d.weights Try.prog 22, y ≤ reachBytes) :
    ∃ (ao : Option Addr) (cap : Nat) (rows : List (List Pt)), v = .slice ao rows.length cap ∧ MatV W W.heap.size rows ao cap ∧ FitsR rows ∧ rows.length ≤ 5864062014634 ∧ LenOk rows := by
  obtain ⟨fuel, hf⟩ := h
  obtain ⟨a0, n0, c0, rfl⟩ := Go.WideShapes.okWide_slice Try.underlying22 hv
  rcases DataW.trod_slice Try.underlying22 hf with ⟨he, _⟩ | ⟨a, len, cap, elems, rest, n, hn, he, hx, hb, hl, hm, hlen, hel, hsp, hns⟩
  · refine ⟨none, 0, [], (List.cons.inj he).1, ⟨Nat.le_refl _, [], trivial, fun h => by simp at h⟩, fun r hr => by simp at hr, by simp, fun r hr => by simp at hr⟩
  · rw [cells23] at hel
    have hd : d = .slice (elems.map (·.1)) (rest.map (·.1)) := congrArg Prod.fst hx
    rw [hd] at hw
    simp only [DataW.weights, Try.underlying22, bytes23] at hw
    have hlb : len ≤ 5864062014634 := by
      have h1 := hw _ (List.mem_cons_self)
      rw [reach47] at h1
      simp only [List.length_map] at h1
      omega
    have each : ∀ i, i < len → ∃ (y : List Pt × Option Addr × Nat), W.cells? base (a.add (i * 1)) 1 = some [.slice y.2.1 y.1.length y.2.2] ∧ SlV W W.heap.size y.1 y.2.1 y.2.2 ∧ FitsL y.1 ∧ y.1.length ≤ 2000000000000 := fun i hi => by
      have he := hel i hi
      rw [List.getElem?_eq_getElem (by omega)] at he
      obtain ⟨cs', h1, h2⟩ := Option.bind_eq_some_iff.1 he
      obtain ⟨ao, cap, l, rfl, hs, hfl, hll⟩ := (open_both n).2 _ _ h2 (fun y hy => hw y (List.mem_cons_of_mem _ (List.mem_append_left _ (weights_all (List.mem_map_of_mem (List.getElem_mem (by omega))) y hy))))
      exact ⟨(l, ao, cap), h1, hs, hfl, hll⟩
    haveI : Inhabited (List Pt × Option Addr × Nat) := ⟨([], none, 0)⟩
    obtain ⟨Y, hY⟩ := choose_lt each
    have hvs : ∀ (l : List Nat), (∀ i ∈ l, i < len) → SlvL W (fun b => b < W.heap.size) (l.map fun i => (Y i).1) (l.map fun i => .slice (Y i).2.1 (Y i).1.length (Y i).2.2) := by
      intro l
      induction l with
      | nil => intro _; trivial
      | cons i l ihl =>
        intro hl
        exact ⟨⟨_, _, rfl, (hY i (hl i (by simp))).2.1⟩, ihl fun j hj => hl j (by simp [hj])⟩
    refine ⟨some a, cap, (List.range len).map fun i => (Y i).1, ?_, ⟨by simpa using hl, _, hvs _ (fun i hi => List.mem_range.1 hi), fun h0 => ?_⟩, ?_, by simpa using hlb, ?_⟩
    · have := (List.cons.inj he).1
      simpa using this
    · have h0' : 0 < len := by simpa using h0
      obtain ⟨b, off, rfl, hbl, hc⟩ := elem_cells (sz := 1) (by omega) (fun i hi => ⟨_, (hY i hi).1⟩) h0'
      refine ⟨b, off, rfl, hbl, fun j u hu => ?_⟩
      have hj : j < len := by
        have := (List.getElem?_eq_some_iff.1 hu).1
        simpa using this
      have := (hc j hj _ (hY j hj).1).2 0 (by omega)
      rw [show off + j * 1 + 0 = off + j from by omega] at this
      rw [this]
      simp [hj] at hu
      simp [hu]
    · intro r hr
      obtain ⟨i, hi, rfl⟩ := List.mem_map.1 hr
      exact (hY i (List.mem_range.1 hi)).2.2.1
    · intro r hr
      obtain ⟨i, hi, rfl⟩ := List.mem_map.1 hr
      exact (hY i (List.mem_range.1 hi)).2.2.2
end
end Go.Proofs.Ytcieoelogocjkaa
