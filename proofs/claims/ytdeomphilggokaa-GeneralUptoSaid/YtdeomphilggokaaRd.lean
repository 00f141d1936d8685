/-
  Proved: types among the arguments read as types in memory that fit a machine. No condition.
-/
import Derived.Test.YtdeomphilggokaaRows
import Derived.Test.YtdeomphilggokaaX1
import Derived.Deep.Slices
import Derived.Deep.Strs
import Derived.Lib.SmallJoins
import Derived.OpenShut
import Derived.SizedLaws
set_option linter.unusedSimpArgs false
set_option linter.unusedVariables false
namespace Go.Proofs.Ytdeomphilggokaa
open Go.RowKit Go.Deep

theorem cells33 : Try.prog.cellsOf 33 = 5 := by kernel_rfl
theorem cells31 : Try.prog.cellsOf 31 = 1 := by kernel_rfl
theorem cells22 : Try.prog.cellsOf 22 = 1 := by kernel_rfl
theorem cells38 : Try.prog.cellsOf 38 = 10 := by kernel_rfl
theorem cells35 : Try.prog.cellsOf 35 = 6 := by kernel_rfl
theorem cells25 : Try.prog.cellsOf 25 = 1 := by kernel_rfl
theorem cells3 : Try.prog.cellsOf 3 = 1 := by kernel_rfl
theorem cells9 : Try.prog.cellsOf 9 = 1 := by kernel_rfl
theorem bytes33 : Try.prog.bytesOf 33 = 64 := by kernel_rfl
theorem bytes31 : Try.prog.bytesOf 31 = 24 := by kernel_rfl
theorem bytes38 : Try.prog.bytesOf 38 = 128 := by kernel_rfl
theorem bytes35 : Try.prog.bytesOf 35 = 72 := by kernel_rfl
theorem reach47 : reachBytes = 140737488351232 := by decide
/-- an address of a slice whose elements are there bears no place inside a cell -/
theorem plain_addr {w : World} {a : Addr} {v : Value} (h : w.cell? a = some v) : a.spot = none ∧ a.block < w.heap.size := by
  refine ⟨?_, ?_⟩
  · unfold World.cell? at h
    split at h
    · split at h
      · cases h
      · rename_i hs; simpa using hs
    · cases h
  · exact World.block_lt_of_cell? w a h
theorem i64_of {n : Int} (h : (Lit.int .i64 n).wf = true) : I64 n := by
  have := bounds_i64 h
  unfold I64
  omega
theorem five_of {α : Type} {l : List α} (h : l.length = 5) : ∃ a b c d e, l = [a, b, c, d, e] := by
  match l, h with
  | [a, b, c, d, e], _ => exact ⟨a, b, c, d, e, rfl⟩
theorem fitsL_mk {p : Ty} {ps : List Ty} (h : Fits p) (h' : FitsL ps) : FitsL (p :: ps) := by unfold FitsL; exact ⟨h, h'⟩
section
variable {H : Type} {enc : TypeId × Value → H} {W : World} {base : Nat} {held : Bool}

/-- the cells of an element, where the first is there -/
theorem elem_cells {a : Addr} {len sz : Nat} (hsz : 0 < sz) (hx : ∀ i, i < len → ∃ cs', W.cells? base (a.add (i * sz)) sz = some cs') (h0 : 0 < len) :
    ∃ b off, a = ⟨b, off, none⟩ ∧ b < W.heap.size ∧ ∀ i, i < len → ∀ cs', W.cells? base (a.add (i * sz)) sz = some cs' → cs'.length = sz ∧ ∀ j, j < sz → W.cell? ⟨b, off + i * sz + j, none⟩ = cs'[j]? := by
  obtain ⟨cs0, g1⟩ := hx 0 h0
  obtain ⟨_, gl, gc⟩ := World.cells?_some g1
  have g0 := gc 0 hsz
  rw [List.getElem?_eq_getElem (by omega)] at g0
  have hq := plain_addr g0
  obtain ⟨b, off, spot⟩ := a
  have hadd : ∀ n, (⟨b, off, spot⟩ : Addr).add n = if n = 0 then ⟨b, off, spot⟩ else ⟨b, off + n, none⟩ := fun n => rfl
  simp [Addr.add] at hq
  obtain ⟨rfl, hq2⟩ := hq
  refine ⟨b, off, rfl, hq2, fun i hi cs' h1 => ?_⟩
  obtain ⟨_, hl, hc⟩ := World.cells?_some h1
  refine ⟨hl, fun j hj => ?_⟩
  have := hc j hj
  rw [Addr.add_lit, Addr.add_lit] at this
  exact this
theorem weights_all {e : TypeId} {P : Program} : ∀ {ds : List (DataW H)} {d : DataW H}, d ∈ ds → ∀ y ∈ d.weights P e, y ∈ DataW.weightsAll P e ds
  | x :: xs, d, hd, y, hy => by
    rw [DataW.weightsAll]
    rcases List.mem_cons.1 hd with rfl | hd
    · exact List.mem_append_left _ hy
    · exact List.mem_append_right _ (weights_all hd y hy)

set_option maxRecDepth 100000 in
theorem open_both : ∀ (fuel : Nat),
    (∀ (cs : List Value) (x : DataW H × List MemPlace), DataW.trod enc Try.prog W base (fun _ => true) held fuel 33 cs = some x → (∀ y ∈ x.1.weights Try.prog 33, y ≤ reachBytes) → ∃ p : Ty, TyV W (fun b => b < W.heap.size) p cs ∧ Fits p) ∧
    (∀ (cs : List Value) (x : DataW H × List MemPlace), DataW.trod enc Try.prog W base (fun _ => true) held fuel 31 cs = some x → (∀ y ∈ x.1.weights Try.prog 31, y ≤ reachBytes) → ∃ (ao : Option Addr) (cap : Nat) (l : List Ty), cs = [.slice ao l.length cap] ∧ SlD W (fun b => b < W.heap.size) l ao cap ∧ FitsL l ∧ l.length ≤ 3000000000000)
  | 0 => ⟨fun cs x h => by simp [DataW.trod] at h, fun cs x h => by simp [DataW.trod] at h⟩
  | fuel + 1 => by
    have ih := open_both fuel
    refine ⟨?_, ?_⟩
    · intro cs x h hw
      obtain ⟨xs, n, hn, rfl, hl, hxl, hf⟩ := DataW.trod_struct Try.underlying33 h
      obtain rfl : n = fuel := by omega
      rw [cells33] at hl
      obtain ⟨c0, c1, c2, c3, c4, rfl⟩ := five_of hl
      obtain ⟨y0, y1, y2, y3, y4, rfl⟩ := five_of (show xs.length = 5 from hxl)
      have t0 : DataW.trod enc Try.prog W base (fun _ => true) held n 3 [c0] = some y0 := by have h := hf 0 _ rfl; simpa [cells3] using h
      have t1 : DataW.trod enc Try.prog W base (fun _ => true) held n 3 [c1] = some y1 := by have h := hf 1 _ rfl; simpa [cells3] using h
      have t2 : DataW.trod enc Try.prog W base (fun _ => true) held n 9 [c2] = some y2 := by have h := hf 2 _ rfl; simpa [cells9] using h
      have t3 : DataW.trod enc Try.prog W base (fun _ => true) held n 3 [c3] = some y3 := by have h := hf 3 _ rfl; simpa [cells3] using h
      have t4 : DataW.trod enc Try.prog W base (fun _ => true) held n 31 [c4] = some y4 := by have h := hf 4 _ rfl; simpa [cells31] using h
      obtain ⟨k, e0, _, w0⟩ := DataW.trod_int Try.underlying3 t0
      obtain ⟨m, e1, _, w1⟩ := DataW.trod_int Try.underlying3 t1
      obtain ⟨s, e2, f2, _⟩ := DataW.trod_string Try.underlying9 t2
      have w2 : s.size ≤ 140737488355328 := by
        have h2 := hw s.data.toList.length (by
          simp only [List.map_cons, List.map_nil, DataW.weights, Try.underlying33, DataW.weightsEach, List.mem_append]
          exact .inr (.inr (.inl (by rw [f2]; simp [DataW.weights]))))
        rw [reach47, Array.length_toList] at h2
        have : s.size = s.data.size := rfl
        omega
      obtain ⟨q, e3, _, w3⟩ := DataW.trod_int Try.underlying3 t3
      have hw4 : ∀ y ∈ y4.1.weights Try.prog 31, y ≤ reachBytes := fun y hy => hw y (by
        simp only [List.map_cons, List.map_nil, DataW.weights, Try.underlying33, DataW.weightsEach, List.mem_append]
        exact .inr (.inr (.inr (.inr (.inl hy)))))
      obtain ⟨ao, cap, l, e4, hs, hfl, hll⟩ := ih.2 _ _ t4 hw4
      have e0 := (List.cons.inj e0).1
      have e1 := (List.cons.inj e1).1
      have e2 := (List.cons.inj e2).1
      have e3 := (List.cons.inj e3).1
      have e4 := (List.cons.inj e4).1
      subst e0 e1 e2 e3 e4
      refine ⟨.mk k m s q l, ?_, ?_⟩
      · unfold TyV
        exact ⟨ao, cap, rfl, hs.1, hs.2⟩
      · unfold Fits
        exact ⟨⟨i64_of w0, i64_of w1, w2, i64_of w3⟩, by omega, hfl⟩
    · intro cs x h hw
      rcases DataW.trod_slice Try.underlying31 h with ⟨rfl, rfl⟩ | ⟨a, len, cap, elems, rest, n, hn, rfl, rfl, hb, hl, hm, hlen, hel, hsp, hns⟩
      · exact ⟨none, 0, [], rfl, ⟨Nat.le_refl _, by unfold ArgsV; trivial⟩, by unfold FitsL; trivial, by simp⟩
      · obtain rfl : n = fuel := by omega
        rw [cells33] at hel
        have hw2 : ∀ y ∈ DataW.weights Try.prog 31 (.slice (elems.map (·.1)) (rest.map (·.1)) : DataW H), y ≤ reachBytes := hw
        simp only [DataW.weights, Try.underlying31, bytes33] at hw2
        have hlb : len ≤ 3000000000000 := by
          have h1 := hw2 _ (List.mem_cons_self)
          rw [reach47] at h1
          simp only [List.length_map] at h1
          omega
        have each : ∀ i, i < len → ∃ (p : Ty) (cs' : List Value), W.cells? base (a.add (i * 5)) 5 = some cs' ∧ TyV W (fun b => b < W.heap.size) p cs' ∧ Fits p := fun i hi => by
          have he := hel i hi
          rw [List.getElem?_eq_getElem (by omega)] at he
          obtain ⟨cs', h1, h2⟩ := Option.bind_eq_some_iff.1 he
          obtain ⟨p, hp, hfp⟩ := ih.1 _ _ h2 (fun y hy => hw2 y (List.mem_cons_of_mem _ (List.mem_append_left _ (weights_all (List.mem_map_of_mem (List.getElem_mem (by omega))) y hy))))
          exact ⟨p, cs', h1, hp, hfp⟩
        obtain ⟨Y, hY⟩ := choose_lt each
        have hk : ArgsV W (fun b => b < W.heap.size) ((List.range len).map Y) (some a) 0 := by
          refine ArgsV.of fun i hi => ?_
          have hi' : i < len := by simpa using hi
          obtain ⟨b, off, rfl, hbl, hc⟩ := elem_cells (sz := 5) (by omega) (fun i hi => by obtain ⟨cs', h1, _⟩ := hY i hi; exact ⟨cs', h1⟩) (show 0 < len by omega)
          obtain ⟨cs', h1, h2, _⟩ := hY i hi'
          refine ⟨b, off, cs', rfl, hbl, fun j hj => ?_, ?_⟩
          · rw [Nat.zero_add]; exact (hc i hi' cs' h1).2 j hj
          · rw [List.getElem_map, List.getElem_range]; exact h2
        have hfl : ∀ (l : List Nat), (∀ i ∈ l, i < len) → FitsL (l.map Y) := by
          intro l
          induction l with
          | nil => intro _; unfold FitsL; trivial
          | cons i l ihl =>
            intro hl
            rw [List.map_cons]
            obtain ⟨_, _, _, hfp⟩ := hY i (hl i (by simp))
            exact fitsL_mk hfp (ihl fun j hj => hl j (by simp [hj]))
        exact ⟨some a, cap, (List.range len).map Y, by simp, ⟨by simpa using hl, hk⟩, hfl _ (fun i hi => List.mem_range.1 hi), by simpa using hlb⟩
set_option maxRecDepth 100000 in
theorem open_type {v : Value} {d : DataW H} {p : List MemPlace} {r : Reach} {b0 : Nat} (hv : Value.okWide Try.prog W r b0 33 v) (h : DataW.Trod enc Try.prog W base (fun _ => true) held 33 v d p) (hw : ∀ y ∈ d.weights Try.prog 33, y ≤ reachBytes) :
    ∃ (ao : Option Addr) (cap : Nat) (q : Ty), v = .agg (rowOf q ao cap) ∧ SlD W (fun b => b < W.heap.size) q.args ao cap ∧ Fits q := by
  obtain ⟨fuel, hf⟩ := h
  obtain ⟨q, hp, hfq⟩ := (open_both fuel).1 _ _ hf hw
  obtain ⟨ao, cap, e, hs⟩ := hp.row
  obtain ⟨cs, rfl, _⟩ := Go.WideShapes.okWide_struct Try.underlying33 hv
  refine ⟨ao, cap, q, ?_, hs, hfq⟩
  have e' : cs.toList = (rowOf q ao cap).toList := e
  rw [Array.toList_inj.1 e']
end
end Go.Proofs.Ytdeomphilggokaa
