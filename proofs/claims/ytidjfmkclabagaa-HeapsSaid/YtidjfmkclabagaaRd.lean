/-
  Proved: a script among the arguments reads as a script in memory. No condition.
-/
import Derived.Test.YtidjfmkclabagaaRows
import Derived.Test.YtidjfmkclabagaaE14
import Derived.Deep.Slices
import Derived.Deep.Strs
import Derived.Lib.SmallJoins
import Derived.OpenShut
import Derived.SizedLaws
set_option linter.unusedSimpArgs false
set_option linter.unusedVariables false
namespace Go.Proofs.Ytidjfmkclabagaa
open Go.RowKit Go.Deep

theorem cells38 : Try.prog.cellsOf 38 = 5 := by kernel_rfl
theorem cells36 : Try.prog.cellsOf 36 = 1 := by kernel_rfl
theorem cells3 : Try.prog.cellsOf 3 = 1 := by kernel_rfl
theorem bytes38 : Try.prog.bytesOf 38 = 56 := by kernel_rfl
theorem reach47 : reachBytes = 140737488351232 := by decide
/-- an address of a slice whose elements are there bears no place inside a cell -/
theorem plain_addr {w : World} {a : Addr} {v : Value} (h : w.cell? a = some v) : a.spot = none ∧ a.block < w.heap.size := by
  refine ⟨?_, ?_⟩
  · unfold World.cell? at h
    split at h
    · split at h
      · cases h
      · rename_i hs; simpa using hs
    · cases h
  · exact World.block_lt_of_cell? w a h
theorem i64_of {n : Int} (h : (Lit.int .i64 n).wf = true) : I64 n := by
  have := bounds_i64 h
  unfold I64
  omega
theorem five_of {α : Type} {l : List α} (h : l.length = 5) : ∃ a b c d e, l = [a, b, c, d, e] := by
  match l, h with
  | [a, b, c, d, e], _ => exact ⟨a, b, c, d, e, rfl⟩
section
variable {H : Type} {enc : TypeId × Value → H} {W : World} {base : Nat} {held : Bool}

/-- the cells of an element, where the first is there -/
theorem elem_cells {a : Addr} {len sz : Nat} (hsz : 0 < sz) (hx : ∀ i, i < len → ∃ cs', W.cells? base (a.add (i * sz)) sz = some cs') (h0 : 0 < len) :
    ∃ b off, a = ⟨b, off, none⟩ ∧ b < W.heap.size ∧ ∀ i, i < len → ∀ cs', W.cells? base (a.add (i * sz)) sz = some cs' → cs'.length = sz ∧ ∀ j, j < sz → W.cell? ⟨b, off + i * sz + j, none⟩ = cs'[j]? := by
  obtain ⟨cs0, g1⟩ := hx 0 h0
  obtain ⟨_, gl, gc⟩ := World.cells?_some g1
  have g0 := gc 0 hsz
  rw [List.getElem?_eq_getElem (by omega)] at g0
  have hq := plain_addr g0
  obtain ⟨b, off, spot⟩ := a
  have hadd : ∀ n, (⟨b, off, spot⟩ : Addr).add n = if n = 0 then ⟨b, off, spot⟩ else ⟨b, off + n, none⟩ := fun n => rfl
  simp [Addr.add] at hq
  obtain ⟨rfl, hq2⟩ := hq
  refine ⟨b, off, rfl, hq2, fun i hi cs' h1 => ?_⟩
  obtain ⟨_, hl, hc⟩ := World.cells?_some h1
  refine ⟨hl, fun j hj => ?_⟩
  have := hc j hj
  rw [Addr.add_lit, Addr.add_lit] at this
  exact this
/-- a slice of numbers -/
theorem open_ints {fuel : Nat} {cs : List Value} {x : DataW H × List MemPlace} (h : DataW.trod enc Try.prog W base (fun _ => true) held fuel 36 cs = some x) : ∃ (v : Value) (l : List Int), cs = [v] ∧ IntsAt W.heap.size W v l := by
  rcases DataW.trod_slice Try.underlying36 h with ⟨rfl, rfl⟩ | ⟨a, len, cap, elems, rest, n, hn, rfl, rfl, hb, hl, hm, hlen, hel, hsp, hns⟩
  · exact ⟨_, [], rfl, ⟨⟨none, 0, rfl, fun i h => by simp at h⟩, fun x h => by simp at h⟩⟩
  · rw [cells3] at hel
    have each : ∀ i, i < len → ∃ n : Int, W.cells? base (a.add (i * 1)) 1 = some [.int .i64 n] ∧ I64 n := fun i hi => by
      have he := hel i hi
      rw [List.getElem?_eq_getElem (by omega)] at he
      obtain ⟨cs', h1, h2⟩ := Option.bind_eq_some_iff.1 he
      obtain ⟨m, e0, _, w0⟩ := DataW.trod_int Try.underlying3 h2
      exact ⟨m, by rw [h1, e0], i64_of w0⟩
    obtain ⟨Y, hY⟩ := choose_lt each
    refine ⟨_, (List.range len).map Y, rfl, ⟨⟨some a, cap, by simp, fun i hi => ?_⟩, fun x hx => ?_⟩⟩
    · have hi' : i < len := by simpa using hi
      obtain ⟨b, off, rfl, hbl, hc⟩ := elem_cells (sz := 1) (by omega) (fun i hi => ⟨_, (hY i hi).1⟩) (show 0 < len by omega)
      refine ⟨b, off, rfl, hbl, ?_⟩
      have h1 := (hc i hi' _ (hY i hi').1).2 0 (by omega)
      rw [show off + i * 1 + 0 = off + i from by omega] at h1
      rw [h1]
      simp
    · obtain ⟨i, hi, rfl⟩ := List.mem_map.1 hx
      exact (hY i (List.mem_range.1 hi)).2
/-- one step -/
theorem open_op {fuel : Nat} {cs : List Value} {x : DataW H × List MemPlace} (h : DataW.trod enc Try.prog W base (fun _ => true) held fuel 38 cs = some x) : ∃ o : OpD, cs = [.int .i64 o.k, .int .i64 o.a, .int .i64 o.b, .int .i64 o.c, o.lv] ∧ IntsAt W.heap.size W o.lv o.l ∧ I64 o.a ∧ I64 o.b ∧ I64 o.c := by
  obtain ⟨xs, n, hn, rfl, hl, hxl, hf⟩ := DataW.trod_struct Try.underlying38 h
  rw [cells38] at hl
  obtain ⟨c0, c1, c2, c3, c4, rfl⟩ := five_of hl
  obtain ⟨y0, y1, y2, y3, y4, rfl⟩ := five_of (show xs.length = 5 from hxl)
  have t0 : DataW.trod enc Try.prog W base (fun _ => true) held n 3 [c0] = some y0 := by have h := hf 0 _ rfl; simpa [cells3] using h
  have t1 : DataW.trod enc Try.prog W base (fun _ => true) held n 3 [c1] = some y1 := by have h := hf 1 _ rfl; simpa [cells3] using h
  have t2 : DataW.trod enc Try.prog W base (fun _ => true) held n 3 [c2] = some y2 := by have h := hf 2 _ rfl; simpa [cells3] using h
  have t3 : DataW.trod enc Try.prog W base (fun _ => true) held n 3 [c3] = some y3 := by have h := hf 3 _ rfl; simpa [cells3] using h
  have t4 : DataW.trod enc Try.prog W base (fun _ => true) held n 36 [c4] = some y4 := by have h := hf 4 _ rfl; simpa [cells36] using h
  obtain ⟨k, e0, _, w0⟩ := DataW.trod_int Try.underlying3 t0
  obtain ⟨a, e1, _, w1⟩ := DataW.trod_int Try.underlying3 t1
  obtain ⟨b, e2, _, w2⟩ := DataW.trod_int Try.underlying3 t2
  obtain ⟨c, e3, _, w3⟩ := DataW.trod_int Try.underlying3 t3
  obtain ⟨v, l, e4, hi⟩ := open_ints t4
  have e0 := (List.cons.inj e0).1
  have e1 := (List.cons.inj e1).1
  have e2 := (List.cons.inj e2).1
  have e3 := (List.cons.inj e3).1
  have e4 := (List.cons.inj e4).1
  subst e0 e1 e2 e3 e4
  exact ⟨⟨k, a, b, c, _, l⟩, rfl, hi, i64_of w1, i64_of w2, i64_of w3⟩
theorem open_ops {v : Value} {d : DataW H} {p : List MemPlace} {r : Reach} {b0 : Nat} (hv : Value.okWide Try.prog W r b0 22 v) (h : DataW.Trod enc Try.prog W base (fun _ => true) held 22 v d p) (hw : ∀ y ∈ d.weights Try.prog 22, y ≤ reachBytes) :
    ∃ s : List OpD, ScriptAt W.heap.size W v s ∧ s.length ≤ 3000000000000 := by
  obtain ⟨fuel, hf⟩ := h
  obtain ⟨a0, n0, c0, rfl⟩ := Go.WideShapes.okWide_slice Try.underlying22 hv
  rcases DataW.trod_slice Try.underlying22 hf with ⟨he, _⟩ | ⟨a, len, cap, elems, rest, n, hn, he, hx, hb, hl, hm, hlen, hel, hsp, hns⟩
  · exact ⟨[], ⟨none, 0, (List.cons.inj he).1, fun i h => by simp at h⟩, by simp⟩
  · rw [cells38] at hel
    have hd : d = .slice (elems.map (·.1)) (rest.map (·.1)) := congrArg Prod.fst hx
    rw [hd] at hw
    simp only [DataW.weights, Try.underlying22, bytes38] at hw
    have hlb : len ≤ 3000000000000 := by
      have h1 := hw _ (List.mem_cons_self)
      rw [reach47] at h1
      simp only [List.length_map] at h1
      omega
    have each : ∀ i, i < len → ∃ o : OpD, W.cells? base (a.add (i * 5)) 5 = some [.int .i64 o.k, .int .i64 o.a, .int .i64 o.b, .int .i64 o.c, o.lv] ∧ IntsAt W.heap.size W o.lv o.l ∧ I64 o.a ∧ I64 o.b ∧ I64 o.c := fun i hi => by
      have he := hel i hi
      rw [List.getElem?_eq_getElem (by omega)] at he
      obtain ⟨cs', h1, h2⟩ := Option.bind_eq_some_iff.1 he
      obtain ⟨o, rfl, h3⟩ := open_op h2
      exact ⟨o, h1, h3⟩
    haveI : Inhabited OpD := ⟨⟨0, 0, 0, 0, .bool true, []⟩⟩
    obtain ⟨Y, hY⟩ := choose_lt each
    refine ⟨(List.range len).map Y, ⟨some a, cap, ?_, fun i hi => ?_⟩, by simpa using hlb⟩
    · have := (List.cons.inj he).1
      simpa using this
    · have hi' : i < len := by simpa using hi
      obtain ⟨b, off, rfl, hbl, hc⟩ := elem_cells (sz := 5) (by omega) (fun i hi => ⟨_, (hY i hi).1⟩) (show 0 < len by omega)
      have h1 := (hc i hi' _ (hY i hi').1).2
      obtain ⟨_, hi3, ia, ib, ic⟩ := hY i hi'
      refine ⟨b, off, rfl, ?_⟩
      rw [List.getElem_map, List.getElem_range]
      exact ⟨hbl, h1 0 (by omega), h1 1 (by omega), h1 2 (by omega), h1 3 (by omega), h1 4 (by omega), hi3, ia, ib, ic⟩
end
end Go.Proofs.Ytidjfmkclabagaa
