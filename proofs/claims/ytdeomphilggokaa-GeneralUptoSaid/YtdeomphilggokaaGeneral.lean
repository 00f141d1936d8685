/-
  Proved: mlcorelaw3.General returns true, whatever the pairs of types and the list, of bulk at most 1048576 (the second form), and leaves them as they were. Condition: that bound.
-/
import Derived.Test.YtdeomphilggokaaRd2
import Derived.Test.YtdeomphilggokaaG1
import Derived.Carry
import Derived.Deep.DeepHandedRow
import Derived.JoinedCond
set_option linter.unusedSimpArgs false
set_option linter.unusedVariables false
namespace Go.Proofs.Ytdeomphilggokaa.general
open Go.ChangeShapes Go.WideShapes Go.ChangeAt Go.RowKit Go.Deep

section
variable {H : Type} {enc : TypeId × Value → H} {W : World} {base : Nat} {held : Bool}

set_option maxRecDepth 100000 in
/-- a bind among the arguments -/
theorem open_bind {fuel : Nat} {cs : List Value} {x : DataW H × List MemPlace} (h : DataW.trod enc Try.prog W base (fun _ => true) held fuel 35 cs = some x) (hw : ∀ y ∈ x.1.weights Try.prog 35, y ≤ reachBytes) :
    ∃ p : Int × Ty, ∃ cs', cs = .int .i64 p.1 :: cs' ∧ cs'.length = 5 ∧ TyV W (fun b => b < W.heap.size) p.2 cs' ∧ Fits p.2 := by
  obtain ⟨xs, n, hn, rfl, hl, hxl, hf⟩ := DataW.trod_struct Try.underlying35 h
  rw [cells35] at hl
  obtain ⟨y0, y1, rfl⟩ := two_of (show xs.length = 2 from hxl)
  have t0 : DataW.trod enc Try.prog W base (fun _ => true) held n 3 (cs.take 1) = some y0 := by have h := hf 0 _ rfl; simpa [cells3] using h
  have t1 : DataW.trod enc Try.prog W base (fun _ => true) held n 33 (cs.drop 1) = some y1 := by
    have h := hf 1 _ rfl
    have e : ((cs.drop 1).take 5) = cs.drop 1 := List.take_of_length_le (by simp; omega)
    have h2 : DataW.trod enc Try.prog W base (fun _ => true) held n 33 ((cs.drop 1).take 5) = some y1 := by simpa [cells33, cells3] using h
    rw [e] at h2
    exact h2
  have w1 : ∀ y ∈ y1.1.weights Try.prog 33, y ≤ reachBytes := fun y hy => hw y (by
    simp only [List.map_cons, List.map_nil, DataW.weights, Try.underlying35, DataW.weightsEach, List.mem_append]
    exact .inr (.inl hy))
  obtain ⟨k, e0, _, w0⟩ := DataW.trod_int Try.underlying3 t0
  obtain ⟨q, hq, hfq, hbq⟩ := (open_bulk n).1 _ _ t1 w1
  cases cs with
  | nil => simp at hl
  | cons c0 cs =>
    have e0 := (List.cons.inj (show c0 :: [] = _ from e0)).1
    subst e0
    exact ⟨(k, q), cs, rfl, by simpa using hl, hq, hfq⟩
set_option maxRecDepth 100000 in
/-- a slice of binds among the arguments -/
theorem open_binds {v : Value} {d : DataW H} {p : List MemPlace} {r : Reach} {b0 : Nat} (hv : Value.okWide Try.prog W r b0 25 v) (h : DataW.Trod enc Try.prog W base (fun _ => true) held 25 v d p) (hw : ∀ y ∈ d.weights Try.prog 25, y ≤ reachBytes) :
    ∃ (ao : Option Addr) (cap : Nat) (l : List (Int × Ty)), v = .slice ao l.length cap ∧ BindsV W (fun b => b < W.heap.size) l ao ∧ (∀ p ∈ l, Fits p.2) ∧ l.length ≤ 3000000000000 := by
  obtain ⟨fuel, hf⟩ := h
  rcases DataW.trod_slice Try.underlying25 hf with ⟨hv0, hx0⟩ | ⟨a, len, cap, elems, rest, n, hn, hv0, hx0, hb, hl, hm, hlen, hel, hsp, hns⟩
  · obtain ⟨a, n, c, rfl⟩ := Go.WideShapes.okWide_slice Try.underlying25 hv
    have e := (List.cons.inj hv0).1
    cases e
    cases hx0
    exact ⟨none, 0, [], rfl, fun k hk => by simp at hk, fun p hp => (by cases hp), by simp⟩
  · obtain ⟨a', n', c', rfl⟩ := Go.WideShapes.okWide_slice Try.underlying25 hv
    have e := (List.cons.inj hv0).1
    cases e
    cases hx0
    rw [cells35] at hel
    have hw2 : ∀ y ∈ DataW.weights Try.prog 25 (.slice (elems.map (·.1)) (rest.map (·.1)) : DataW H), y ≤ reachBytes := hw
    simp only [DataW.weights, Try.underlying25, bytes35] at hw2
    have hlb : len ≤ 3000000000000 := by
      have h1 := hw2 _ (List.mem_cons_self)
      rw [reach47] at h1
      simp only [List.length_map] at h1
      omega
    have each : ∀ i, i < len → ∃ (p : Int × Ty) (cs' : List Value), W.cells? base (a.add (i * 6)) 6 = some (.int .i64 p.1 :: cs') ∧ TyV W (fun b => b < W.heap.size) p.2 cs' ∧ Fits p.2 := fun i hi => by
      have he := hel i hi
      rw [List.getElem?_eq_getElem (by omega)] at he
      obtain ⟨cs', h1, h2⟩ := Option.bind_eq_some_iff.1 he
      obtain ⟨p, cs2, rfl, _, g2, g3⟩ := open_bind h2 (fun y hy => hw2 y (List.mem_cons_of_mem _ (List.mem_append_left _ (weights_all (List.mem_map_of_mem (List.getElem_mem (by omega))) y hy))))
      exact ⟨p, cs2, h1, g2, g3⟩
    haveI : Inhabited (Int × Ty) := ⟨(default, default)⟩
    obtain ⟨Y, hY⟩ := choose_lt each
    refine ⟨some a, cap, (List.range len).map Y, by simp, fun k hk => ?_, fun p hp => ?_, by simpa using hlb⟩
    · have hi' : k < len := by simpa using hk
      obtain ⟨b, off, rfl, hbl, hc⟩ := elem_cells (sz := 6) (by omega) (fun i hi => by obtain ⟨cs', h1, _⟩ := hY i hi; exact ⟨_, h1⟩) (show 0 < len by omega)
      obtain ⟨cs', h1, g2, _⟩ := hY k hi'
      obtain ⟨a1, c1, e1, s1⟩ := g2.row
      have ek : ((List.range len).map Y)[k] = Y k := by rw [List.getElem_map, List.getElem_range]
      refine ⟨b, off, a1, c1, rfl, hbl, fun j hj => ?_, ?_⟩
      · rw [ek, (hc k hi' _ h1).2 j hj, e1]
      · rw [ek]; exact s1
    · obtain ⟨i, hi, rfl⟩ := List.mem_map.1 hp
      obtain ⟨_, _, _, hf2⟩ := hY i (List.mem_range.1 hi)
      exact hf2
end
theorem own : ownKnob Try.prog.godebug = none := by kernel_rfl
theorem laidOut : laidOutB Try.prog = true := by kernel_rfl
set_option maxRecDepth 100000 in
theorem contract (H : Type) (enc : TypeId × Value → H) (W : World) (base : Nat) (args : Array Value) (ds gs : List (DataW H)) (before : List MemPlace)
    (hval : ∀ (j : Nat) t v, Try.f4.params[j]? = some t → args[j]? = some v → Value.okWide Try.prog W .any base t v)
    (hW : DataW.Whole enc Try.prog Try.f4.params.toList Rows.generalSpec.vars false W args.toList ds gs before) (hk : Rows.uptoSmall H (ds ++ gs) = true)
    (hsz : (DataW.weightsEach Try.prog (Try.f4.params.toList ++ []) (ds ++ gs)).all (· ≤ reachBytes) = true) :
    Calls Try.prog 4 args W fun e W' => ∃ v, e = .returned v ∧ Rows.generalSpec.post enc Try.prog Try.f4 false true false false W args v W' := by
  have hW' := hW
  obtain ⟨p, q, hA0, hV, rfl, hfz, hnd⟩ := hW
  have hA : DataW.TrodAll enc Try.prog W 0 (fun _ => true) true Try.f4.params.toList args.toList ds p := hA0
  rw [Try.params4] at hA hval
  obtain ⟨v0, vs0, d0, ds0, p0, q0, hargs, rfl, rfl, h0, r0⟩ := trodAll_cons hA
  obtain ⟨v1, vs1, d1, ds1, p1, q1, rfl, rfl, rfl, h1, r1⟩ := trodAll_cons r0
  obtain ⟨rfl, rfl, rfl⟩ := trodAll_nil r1
  obtain rfl : args = #[v0, v1] := by cases args; simp_all
  obtain ⟨rfl, rfl⟩ := trodVars_none hV
  have k0 := h0
  have k1 := h1
  have lt0 : ∀ x ∈ p0, x.block < W.heap.size := by obtain ⟨m, hm⟩ := k0; exact DataW.trod_lt m _ _ _ hm
  have lt1 : ∀ x ∈ p1, x.block < W.heap.size := by obtain ⟨m, hm⟩ := k1; exact DataW.trod_lt m _ _ _ hm
  have hsz' := hsz
  rw [Try.params4, List.append_nil, List.append_nil] at hsz'
  have hs0 : ∀ y ∈ d0.weights Try.prog 22, y ≤ reachBytes := fun y hy => by
    have := List.all_eq_true.1 hsz' _ (DataW.weights_mem_each (j := 0) (t := 22) rfl rfl y hy)
    simpa using this
  have hs1 : ∀ y ∈ d1.weights Try.prog 25, y ≤ reachBytes := fun y hy => by
    have := List.all_eq_true.1 hsz' _ (DataW.weights_mem_each (j := 1) (t := 25) rfl rfl y hy)
    simpa using this
  obtain ⟨ao, cap, l, rfl, hpv, hfl, hb0⟩ := open_pairs (hval 0 22 v0 rfl rfl) h0 hs0
  obtain ⟨so, sc, sm, rfl, hbv, hfs, hsl⟩ := open_binds (hval 1 25 v1 rfl rfl) h1 hs1
  have hkb := of_decide_eq_true hk
  simp only [List.append_nil, Rows.uptoBulkAll] at hkb
  clear hA0 hval
  refine (general_any l sm (fun b => b < W.heap.size) ao so cap sc W (fun _ h => h) hpv hbv hfl hfs (by omega) hsl).mono fun e W' ⟨he, bel⟩ => ?_
  subst he
  exact ⟨_, rfl, _, _, _, [], _, [], hW', trodAll_mk1 (shut_bool Try.underlying4 _), (trodAll_cons_mk (Below.trod laidOut (by kernel_rfl) (of_decide_eq_true (by kernel_rfl)) k0 bel lt0) (trodAll_cons_mk (Below.trod laidOut (by kernel_rfl) (of_decide_eq_true (by kernel_rfl)) k1 bel lt1) trodAll_mk0)), rfl, bel.frame _, fun h => by cases h⟩

noncomputable def w0 (os : Os) : World := World.holding Try.prog os ⟨#[], #[], []⟩
def args0 : Array Value := #[.slice none 0 0, .slice none 0 0]
theorem reads (os : Os) {H : Type} (enc : TypeId × Value → H) : ∃ places, DataW.whole enc Try.prog ((w0 os).forCall (fun _ _ => 0) ⟨#[], args0, []⟩).memory Try.f4.params.toList Rows.generalSpec.vars false args0.toList 8 = some ([.nil, .nil], [], places) :=
  ⟨[], by kernel_rfl⟩

set_option maxRecDepth 100000 in
theorem liftedUpto (os : Os) (started : os.Started) (H : Type) (enc : TypeId × Value → H) (F : Stop.Interp) :
    ReturnsInHanded {} Try.checked os 4 .any ((Rows.OpenSpec.upto Rows.generalSpec).preRow enc Try.prog Try.f4 Rows.generalUptoRow.domain false Rows.generalUptoRow.laid) (((Rows.OpenSpec.upto Rows.generalSpec).at F).post enc Try.prog Try.f4 false true false false) := by
  obtain ⟨places, hx⟩ := reads os enc
  refine returnsInHanded_of_row (C := Try.checked) (s := Rows.OpenSpec.upto Rows.generalSpec) own started (by kernel_rfl) Try.func4
    (witness_row_at (enc := enc) (C := Try.checked) false (w0 os) args0 rfl (by kernel_rfl) (by kernel_rfl) (by kernel_rfl)
      (OpenSpec.preRow_of_cond 8 hx (by kernel_rfl) (fun k hk => by cases hk; kernel_rfl) (by kernel_rfl) (by exact ⟨[], by exact rfl, List.nodup_nil, fun b off h => by cases h⟩))) ?_
  intro W base args ds gs before hval hW _ hcond hsz hL _ _
  refine contract H enc W base args ds gs before hval hW (hcond _ rfl) ?_
  exact hsz

theorem proved : Rows.GeneralUptoSaid :=
  OpenClaim.holds_of_cond 4 Try.f4 rfl rfl rfl rfl rfl rfl rfl ⟨rfl, rfl, rfl, rfl, rfl⟩ rfl rfl rfl rfl rfl (by kernel_rfl) Try.func4 (by kernel_rfl)
    (of_decide_eq_true (by kernel_rfl)) (by unfold Func.isWrapper; first | (rw [if_pos (by decide +kernel)]; kernel_rfl) | (rw [if_neg (by decide +kernel)]; exact ⟨rfl, rfl⟩))
    (fun os started H enc _ F => by rw [OpenClaim.pre_eq_preRow]; exact liftedUpto os started H enc F)
#print axioms proved
end Go.Proofs.Ytdeomphilggokaa.general
