/-
  Proved: a Code among the arguments reads as rows of cells (CodeAt), of a weight at most its bulk; the table of forms holds its strings. No condition.
-/
import Derived.Test.YtebappmamaafaaaDoorRows
import Derived.Test.YtebappmamaafaaaDoorC
import Derived.Deep.Slices
import Derived.Deep.Strs
import Derived.Lib.SmallJoins
import Derived.Lib.LaidTab
import Derived.OpenShut
set_option linter.unusedSimpArgs false
set_option linter.unusedVariables false
namespace Go.Proofs.YtebappmamaafaaaDoor
open Go.RowKit Go.Deep

theorem cells3 : Tryd.prog.cellsOf 3 = 1 := by kernel_rfl
theorem cells9 : Tryd.prog.cellsOf 9 = 1 := by kernel_rfl
theorem cells22 : Tryd.prog.cellsOf 22 = 1 := by kernel_rfl
theorem cells23 : Tryd.prog.cellsOf 23 = 1 := by kernel_rfl
theorem cells25 : Tryd.prog.cellsOf 25 = 2 := by kernel_rfl
theorem cells46 : Tryd.prog.cellsOf 46 = 1 := by kernel_rfl
theorem cells48 : Tryd.prog.cellsOf 48 = 3 := by kernel_rfl
theorem cells50 : Tryd.prog.cellsOf 50 = 3 := by kernel_rfl

/-- a table of strings, as a datum -/
def strData {H : Type} (zs : List (List UInt8)) : DataW H := .agg (zs.map fun z => .lit (.string z))
theorem cells_of_strs {H : Type} {enc : TypeId × Value → H} {P : Program} {w : World} {base : Nat} {sp : Nat → Bool} {held : Bool} {fuel : Nat} {t e : TypeId} {n : Nat} {cs : List Value} {zs : List (List UInt8)} {p : List MemPlace}
    (ht : P.underlying t = some (.array n e)) (he : P.underlying e = some .string) (hce : P.cellsOf e = 1) (hct : P.cellsOf t = n)
    (h : DataW.trod enc P w base sp held fuel t cs = some (strData zs, p)) : cs = zs.map fun z => Value.string ⟨z.toArray⟩ := by
  cases fuel with
  | zero => simp [DataW.trod] at h
  | succ fuel =>
    simp only [DataW.trod, ht, hce, hct, Nat.mul_one] at h
    split at h
    · rename_i hl
      obtain ⟨xs, hm, hx⟩ := Option.map_eq_some_iff.1 h
      have hxs : xs.map (·.1) = zs.map fun z => (DataW.lit (.string z) : DataW H) := by
        have := congrArg Prod.fst hx
        simpa [strData] using this
      have hxl : xs.length = n := by simpa using Lib.mapM_length hm
      have hzl : zs.length = n := by
        have := congrArg List.length hxs
        simp at this
        omega
      apply List.ext_getElem?
      intro i
      by_cases hi : i < n
      · obtain ⟨b, hb, hf⟩ := Lib.mapM_at hm i i (by simp [hi])
        obtain ⟨z, hc, rfl, _⟩ := DataW.trod_string he hf
        have h1 : cs[i]? = some (.string z) := by
          have := congrArg (·[0]?) hc
          simpa [List.getElem?_take, List.getElem?_drop] using this
        have h2 : (xs.map (·.1))[i]? = some (DataW.lit (.string z.data.toList) : DataW H) := by simp [hb]
        rw [hxs] at h2
        simp only [List.getElem?_map, Option.map_eq_some_iff, DataW.lit.injEq, Lit.string.injEq] at h2
        obtain ⟨z', hz', rfl⟩ := h2
        simp [h1, hz']
      · rw [List.getElem?_eq_none (by omega), List.getElem?_eq_none (by simp; omega)]
    · cases h

theorem bulk_one {H : Type} (d : DataW H) : 1 ≤ Rows.uptoBulk d := by
  cases d with
  | lit l => cases l <;> simp [Rows.uptoBulk]
  | nil => simp [Rows.uptoBulk]
  | ptr d => simp [Rows.uptoBulk]
  | slice elems spare => simp [Rows.uptoBulk]
  | agg parts => simp [Rows.uptoBulk]
  | iface t d => simp [Rows.uptoBulk]
  | map entries => simp [Rows.uptoBulk]
  | held h => simp [Rows.uptoBulk]
theorem bulk_map {H : Type} (n : Nat) (D : Nat → DataW H) (g : Nat → Nat) (h : ∀ i, i < n → g i ≤ Rows.uptoBulk (D i)) : ((List.range n).map g).sum ≤ Rows.uptoBulkAll ((List.range n).map D) := by
  induction n with
  | zero => simp [Rows.uptoBulkAll]
  | succ n ih =>
    have app : ∀ (l r : List (DataW H)), Rows.uptoBulkAll (l ++ r) = Rows.uptoBulkAll l + Rows.uptoBulkAll r := by
      intro l r
      induction l with
      | nil => simp [Rows.uptoBulkAll]
      | cons x l ih => simp only [List.cons_append, Rows.uptoBulkAll, ih]; omega
    have := ih (fun i hi => h i (by omega))
    have h2 := h n (by omega)
    rw [List.range_succ, List.map_append, List.map_append, List.sum_append, app]
    simp only [List.map_cons, List.map_nil, List.sum_cons, List.sum_nil, Rows.uptoBulkAll]
    omega

theorem three_of {α : Type} {l : List α} (h : l.length = 3) : ∃ a b c, l = [a, b, c] := by
  match l, h with
  | [a, b, c], _ => exact ⟨a, b, c, rfl⟩
theorem wf64 {n : Int} (h : (Lit.int .i64 n).wf = true) : in64 n := by
  have := bounds_i64 h
  unfold in64
  omega

/-- an address of a slice whose elements are there bears no place inside a cell -/
theorem plain_addr {w : World} {a : Addr} {v : Value} (h : w.cell? a = some v) : a.spot = none ∧ a.block < w.heap.size := by
  refine ⟨?_, ?_⟩
  · unfold World.cell? at h
    split at h
    · split at h
      · cases h
      · rename_i hs; simpa using hs
    · cases h
  · exact World.block_lt_of_cell? w a h

section
variable {H : Type} {enc : TypeId × Value → H} {W : World} {base : Nat} {held : Bool}

theorem rows_of {a : Addr} {len m e sz : Nat} {rows : Nat → List Value} (hle : len ≤ m) (hsz : 0 < sz) (hx : ∀ i, i < m → ∃ cs', W.cells? base (a.add (i * sz)) sz = some cs' ∧ cs' = rows i) :
    RowsAt W W.heap.size (some a) sz ((List.range len).map rows) := by
  intro i hi
  simp at hi
  obtain ⟨cs', h1, h2⟩ := hx i (by omega)
  obtain ⟨_, hl, hc⟩ := World.cells?_some h1
  have h0 := hc 0 hsz
  rw [List.getElem?_eq_getElem (by omega)] at h0
  have hp := plain_addr h0
  obtain ⟨b, off, spot⟩ := a
  have hadd : ∀ n, (⟨b, off, spot⟩ : Addr).add n = if n = 0 then ⟨b, off, spot⟩ else ⟨b, off + n, none⟩ := fun n => rfl
  have hfst := hx 0 (by omega)
  obtain ⟨cs0, g1, g2⟩ := hfst
  obtain ⟨_, gl, gc⟩ := World.cells?_some g1
  have g0 := gc 0 hsz
  rw [List.getElem?_eq_getElem (by omega)] at g0
  have hq := plain_addr g0
  simp [Addr.add] at hq
  obtain ⟨rfl, hq2⟩ := hq
  refine ⟨b, off, rfl, hq2, fun j hj => ?_⟩
  have := hc j hj
  rw [Addr.add_lit, Addr.add_lit] at this
  rw [this, h2]
  simp [hi, List.getD]

set_option maxRecDepth 100000 in
theorem open_ins {fuel : Nat} {cs : List Value} {x : DataW H × List MemPlace} (h : DataW.trod enc Tryd.prog W base (fun _ => true) held fuel 46 cs = some x) :
    ∃ (ao : Option Addr) (cap : Nat) (l : List (Int × Int × Int)), cs = [.slice ao l.length cap] ∧ RowsAt W W.heap.size ao 3 (l.map insRow) ∧ (∀ y ∈ l, in64 y.1 ∧ in64 y.2.1 ∧ in64 y.2.2) ∧ l.length + 1 ≤ Rows.uptoBulk x.1 ∧ l.length ≤ cap := by
  rcases open_slice Tryd.underlying46 h with ⟨rfl, rfl⟩ | ⟨a, len, cap, m, n, D, Pl, rfl, hb, hl, hm, hmm, rfl, hx⟩
  · exact ⟨none, 0, [], rfl, by intro i hi; simp at hi, by simp, by simp [Rows.uptoBulk], Nat.le_refl _⟩
  · simp at hmm
    subst hmm
    rw [cells50] at hx
    have each : ∀ i, i < m → ∃ y : Int × Int × Int, W.cells? base (a.add (i * 3)) 3 = some (insRow y) ∧ in64 y.1 ∧ in64 y.2.1 ∧ in64 y.2.2 := fun i hi => by
      obtain ⟨cs', h1, h2⟩ := hx i hi
      obtain ⟨y0, y1, y2, n', _, hlen, t0, t1, t2⟩ := trod_struct3 Tryd.underlying50 h2
      rw [cells50] at hlen
      obtain ⟨c0, c1, c2, rfl⟩ := three_of hlen
      simp only [cells3] at t0 t1 t2
      obtain ⟨p, e0, _, w0⟩ := DataW.trod_int Tryd.underlying3 t0
      obtain ⟨q, e1, _, w1⟩ := DataW.trod_int Tryd.underlying3 t1
      obtain ⟨r, e2, _, w2⟩ := DataW.trod_int Tryd.underlying3 t2
      simp at e0 e1 e2
      subst e0 e1 e2
      exact ⟨(p, q, r), h1, wf64 w0, wf64 w1, wf64 w2⟩
    obtain ⟨Y, hY⟩ := choose_lt each
    refine ⟨some a, m, (List.range len).map Y, by simp, ?_, ?_, ?_, by simpa using hl⟩
    · rw [List.map_map]
      exact rows_of (m := m) (e := 0) (rows := insRow ∘ Y) hl (by omega) (fun i hi => ⟨_, (hY i hi).1, rfl⟩)
    · intro y hy
      obtain ⟨i, hi, rfl⟩ := List.mem_map.1 hy
      exact (hY i (by have := List.mem_range.1 hi; omega)).2
    · have := bulk_map len D (fun _ => 1) (fun i _ => bulk_one (D i))
      have e : ((List.range len).map fun _ => 1).sum = len := by rw [List.map_const', List.sum_replicate_nat, List.length_range, Nat.mul_one]
      simp only [Rows.uptoBulk, List.length_map, List.length_range]
      omega

set_option maxRecDepth 100000 in
theorem open_code {v : Value} {d : DataW H} {p : List MemPlace} {r : Reach} {b0 : Nat} (hv : Value.okWide Tryd.prog W r b0 25 v) (h : DataW.Trod enc Tryd.prog W base (fun _ => true) held 25 v d p) :
    ∃ c : Cd, v = c.val ∧ CodeAt W W.heap.size c ∧ wgt c ≤ Rows.uptoBulk d := by
  obtain ⟨v0, v1, y0, y1, n, rfl, rfl, rfl, h0, h1⟩ := Go.Joins.open_agg2 Tryd.underlying25 (by kernel_rfl) cells25 hv h
  obtain ⟨ta, tc, texts, rfl, ht, hbt, hct⟩ : ∃ (ta : Option Addr) (tc : Nat) (texts : List ByteArray), v0 = .slice ta texts.length tc ∧ RowsAt W W.heap.size ta 1 (texts.map fun s => [.string s]) ∧ (texts.map fun s => s.size + 1).sum ≤ Rows.uptoBulk y0.1 ∧ texts.length ≤ tc := by
    rcases open_strs Tryd.underlying22 Tryd.underlying9 cells9 h0 with ⟨hv0, rfl⟩ | ⟨a, len, cap, m, Sx, hv0, hb, hl, hm, hmm, rfl, hx⟩
    · simp at hv0
      subst hv0
      exact ⟨none, 0, [], rfl, by intro i hi; simp at hi, by simp, Nat.le_refl _⟩
    · simp at hmm hv0
      subst hmm hv0
      refine ⟨some a, m, (List.range len).map Sx, by simp, ?_, ?_, by simpa using hl⟩
      · rw [List.map_map]
        refine rows_of (m := m) (base := 0) (e := 0) (rows := (fun s => [Value.string s]) ∘ Sx) hl (by omega) (fun i hi => ⟨_, ?_, rfl⟩)
        rw [Nat.mul_one]
        exact ChangeShapes.cells?_one (Nat.zero_le _) (hx i hi).1
      · have := bulk_map (H := H) len (fun i => .lit (.string (Sx i).data.toList)) (fun i => (Sx i).size + 1) (fun i _ => by simp only [Rows.uptoBulk]; have e : (Sx i).data.toList.length = (Sx i).size := Array.length_toList; omega)
        rw [List.map_map]
        simp only [Rows.uptoBulk]
        have e : (List.map ((fun s : ByteArray => s.size + 1) ∘ Sx) (List.range len)).sum = ((List.range len).map fun i => (Sx i).size + 1).sum := rfl
        rw [e]
        omega
  obtain ⟨fa, fc, funs, rfl, hf, hfi, hfw, hbf, hcf⟩ : ∃ (fa : Option Addr) (fc : Nat) (funs : List Fn), v1 = .slice fa funs.length fc ∧ RowsAt W W.heap.size fa 3 (funs.map fnRow) ∧ (∀ f ∈ funs, RowsAt W W.heap.size f.ao 3 (f.ins.map insRow)) ∧
      (∀ f ∈ funs, in64 f.free ∧ in64 f.slots ∧ ∀ x ∈ f.ins, in64 x.1 ∧ in64 x.2.1 ∧ in64 x.2.2) ∧ (funs.map fun f => f.ins.length + 1).sum ≤ Rows.uptoBulk y1.1 ∧ funs.length ≤ fc := by
    rcases open_slice Tryd.underlying23 h1 with ⟨hv1, rfl⟩ | ⟨a, len, cap, m, n, D, Pl, hv1, hb, hl, hm, hmm, rfl, hx⟩
    · simp at hv1
      subst hv1
      exact ⟨none, 0, [], rfl, by intro i hi; simp at hi, by simp, by simp, by simp, Nat.le_refl _⟩
    · simp at hmm hv1
      subst hmm hv1
      rw [cells48] at hx
      have each : ∀ i, i < m → ∃ f : Fn, W.cells? base (a.add (i * 3)) 3 = some (fnRow f) ∧ RowsAt W W.heap.size f.ao 3 (f.ins.map insRow) ∧ (in64 f.free ∧ in64 f.slots ∧ ∀ x ∈ f.ins, in64 x.1 ∧ in64 x.2.1 ∧ in64 x.2.2) ∧ f.ins.length + 1 ≤ Rows.uptoBulk (D i) := fun i hi => by
        obtain ⟨cs', g1, g2⟩ := hx i hi
        obtain ⟨y0, y1, y2, n', hD, hlen, t0, t1, t2⟩ := trod_struct3 Tryd.underlying48 g2
        rw [cells48] at hlen
        obtain ⟨c0, c1, c2, rfl⟩ := three_of hlen
        simp only [cells3, cells46] at t0 t1 t2
        obtain ⟨p, e0, _, w0⟩ := DataW.trod_int Tryd.underlying3 t0
        obtain ⟨q, e1, _, w1⟩ := DataW.trod_int Tryd.underlying3 t1
        obtain ⟨ao, cap, l, e2, hr, hw, hbu, _⟩ := open_ins t2
        simp at e0 e1 e2
        subst e0 e1 e2
        refine ⟨⟨p, q, ao, cap, l⟩, g1, hr, ⟨wf64 w0, wf64 w1, hw⟩, ?_⟩
        have hD1 : D i = .agg [y0.1, y1.1, y2.1] := congrArg Prod.fst hD
        rw [hD1]
        simp only [Rows.uptoBulk, Rows.uptoBulkAll]
        omega
      haveI : Inhabited Fn := ⟨⟨0, 0, none, 0, []⟩⟩
      obtain ⟨F, hF⟩ := choose_lt each
      refine ⟨some a, m, (List.range len).map F, by simp, ?_, ?_, ?_, ?_, by simpa using hl⟩
      · rw [List.map_map]
        exact rows_of (m := m) (e := 0) (rows := fnRow ∘ F) hl (by omega) (fun i hi => ⟨_, (hF i hi).1, rfl⟩)
      · intro f hf
        obtain ⟨i, hi, rfl⟩ := List.mem_map.1 hf
        exact (hF i (by have := List.mem_range.1 hi; omega)).2.1
      · intro f hf
        obtain ⟨i, hi, rfl⟩ := List.mem_map.1 hf
        exact (hF i (by have := List.mem_range.1 hi; omega)).2.2.1
      · have := bulk_map len D (fun i => (F i).ins.length + 1) (fun i hi => (hF i (by omega)).2.2.2)
        rw [List.map_map]
        simp only [Rows.uptoBulk]
        have e : (List.map ((fun f : Fn => f.ins.length + 1) ∘ F) (List.range len)).sum = ((List.range len).map fun i => (F i).ins.length + 1).sum := rfl
        rw [e]
        omega
  refine ⟨⟨ta, tc, fa, fc, texts, funs⟩, rfl, ⟨ht, hf, hfi, hfw, hct, hcf⟩, ?_⟩
  simp only [wgt, Rows.uptoBulk, Rows.uptoBulkAll]
  omega
end

end Go.Proofs.YtebappmamaafaaaDoor
