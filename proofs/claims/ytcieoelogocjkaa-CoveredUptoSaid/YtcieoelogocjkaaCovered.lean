/-
  Proved: mlcorelaw8.Covered returns true, whatever the patterns, the value and the sort, of bulk at most 1048576 (the second form), and leaves them as they were. Condition: that bound.
-/
import Derived.Test.YtcieoelogocjkaaRd2
import Derived.Test.YtcieoelogocjkaaZ9
import Derived.Carry
import Derived.Deep.DeepHandedRow
import Derived.JoinedCond
set_option linter.unusedSimpArgs false
set_option linter.unusedVariables false
namespace Go.Proofs.Ytcieoelogocjkaa.covered
open Go.ChangeShapes Go.WideShapes Go.ChangeAt Go.RowKit

theorem own : ownKnob Try.prog.godebug = none := by kernel_rfl
theorem laidOut : laidOutB Try.prog = true := by kernel_rfl
set_option maxRecDepth 100000 in
theorem contract (H : Type) (enc : TypeId × Value → H) (W : World) (base : Nat) (args : Array Value) (ds gs : List (DataW H)) (before : List MemPlace)
    (hval : ∀ (j : Nat) t v, Try.f4.params[j]? = some t → args[j]? = some v → Value.okWide Try.prog W .any base t v)
    (hW : DataW.Whole enc Try.prog Try.f4.params.toList Rows.coveredSpec.vars false W args.toList ds gs before) (hk : Rows.uptoSmall H (ds ++ gs) = true)
    (hsz : (DataW.weightsEach Try.prog (Try.f4.params.toList ++ []) (ds ++ gs)).all (· ≤ reachBytes) = true) :
    Calls Try.prog 4 args W fun e W' => ∃ v, e = .returned v ∧ Rows.coveredSpec.post enc Try.prog Try.f4 false true false false W args v W' := by
  have hW' := hW
  obtain ⟨p, q, hA0, hV, rfl, hfz, hnd⟩ := hW
  have hA : DataW.TrodAll enc Try.prog W 0 (fun _ => true) true Try.f4.params.toList args.toList ds p := hA0
  rw [Try.params4] at hA hval
  obtain ⟨v0, vs0, d0, ds0, p0, q0, hargs, rfl, rfl, h0, r0⟩ := trodAll_cons hA
  obtain ⟨v1, vs1, d1, ds1, p1, q1, rfl, rfl, rfl, h1, r1⟩ := trodAll_cons r0
  obtain ⟨v2, vs2, d2, ds2, p2, q2, rfl, rfl, rfl, h2, r2⟩ := trodAll_cons r1
  obtain ⟨v3, vs3, d3, ds3, p3, q3, rfl, rfl, rfl, h3, r3⟩ := trodAll_cons r2
  obtain ⟨rfl, rfl, rfl⟩ := trodAll_nil r3
  obtain rfl : args = #[v0, v1, v2, v3] := by cases args; simp_all
  obtain ⟨rfl, rfl⟩ := trodVars_none hV
  have k0 := h0
  have k1 := h1
  have k2 := h2
  have k3 := h3
  have lt0 : ∀ x ∈ p0, x.block < W.heap.size := by obtain ⟨m, hm⟩ := k0; exact DataW.trod_lt m _ _ _ hm
  have lt1 : ∀ x ∈ p1, x.block < W.heap.size := by obtain ⟨m, hm⟩ := k1; exact DataW.trod_lt m _ _ _ hm
  have lt2 : ∀ x ∈ p2, x.block < W.heap.size := by obtain ⟨m, hm⟩ := k2; exact DataW.trod_lt m _ _ _ hm
  have lt3 : ∀ x ∈ p3, x.block < W.heap.size := by obtain ⟨m, hm⟩ := k3; exact DataW.trod_lt m _ _ _ hm
  have hsz' := hsz
  rw [Try.params4, List.append_nil, List.append_nil] at hsz'
  have hs0 : ∀ y ∈ d0.weights Try.prog 23, y ≤ reachBytes := fun y hy => by
    have := List.all_eq_true.1 hsz' _ (DataW.weights_mem_each (j := 0) (t := 23) rfl rfl y hy)
    simpa using this
  have hs1 : ∀ y ∈ d1.weights Try.prog 26, y ≤ reachBytes := fun y hy => by
    have := List.all_eq_true.1 hsz' _ (DataW.weights_mem_each (j := 1) (t := 26) rfl rfl y hy)
    simpa using this
  have hs2 : ∀ y ∈ d2.weights Try.prog 26, y ≤ reachBytes := fun y hy => by
    have := List.all_eq_true.1 hsz' _ (DataW.weights_mem_each (j := 2) (t := 26) rfl rfl y hy)
    simpa using this
  obtain ⟨ao, cap, raw, rfl, hraw, hfr, hb0⟩ := open_list (hval 0 23 v0 rfl rfl) h0 hs0
  obtain ⟨al, cl, last, rfl, hlast, hfl, hb1⟩ := open_pat (hval 1 26 v1 rfl rfl) h1 hs1
  obtain ⟨av, cv, value, rfl, hvalue, hfv, hb2⟩ := open_pat (hval 2 26 v2 rfl rfl) h2 hs2
  obtain ⟨srt, rfl, hsrt⟩ : ∃ srt, v3 = .int .i64 srt ∧ I64 srt := by
    obtain ⟨m, hm⟩ := h3
    obtain ⟨n, e, _, wf⟩ := DataW.trod_int Try.underlying3 hm
    obtain ⟨n', rfl⟩ := okWide_int Try.underlying3 (hval 3 3 v3 rfl rfl)
    have e' := (List.cons.inj e).1
    cases e'
    exact ⟨_, rfl, i64_of wf⟩
  have hkb := of_decide_eq_true hk
  simp only [List.append_nil, Rows.uptoBulkAll] at hkb
  clear hA0 hval
  refine (covered_any raw last value ao al av cap cl cv _ srt W rfl hraw hfr (by omega) ⟨hlast, hfl, by omega⟩ ⟨hvalue, hfv, by omega⟩ hsrt).mono fun e W' ⟨he, bel⟩ => ?_
  subst he
  exact ⟨_, rfl, _, _, _, [], _, [], hW', trodAll_mk1 (shut_bool Try.underlying4 _), (trodAll_cons_mk (Below.trod laidOut (by kernel_rfl) (of_decide_eq_true (by kernel_rfl)) k0 bel lt0) (trodAll_cons_mk (Below.trod laidOut (by kernel_rfl) (of_decide_eq_true (by kernel_rfl)) k1 bel lt1) (trodAll_cons_mk (Below.trod laidOut (by kernel_rfl) (of_decide_eq_true (by kernel_rfl)) k2 bel lt2) (trodAll_cons_mk (Below.trod laidOut (by kernel_rfl) (of_decide_eq_true (by kernel_rfl)) k3 bel lt3) trodAll_mk0)))), rfl, bel.frame _, fun h => by cases h⟩

noncomputable def w0 (os : Os) : World := World.holding Try.prog os ⟨#[], #[], []⟩
def args0 : Array Value := #[.slice none 0 0, .agg (rowOf anyP none 0), .agg (rowOf anyP none 0), .int .i64 0]
theorem reads (os : Os) {H : Type} (enc : TypeId × Value → H) : ∃ places, DataW.whole enc Try.prog ((w0 os).forCall (fun _ _ => 0) ⟨#[], args0, []⟩).memory Try.f4.params.toList Rows.coveredSpec.vars false args0.toList 8 = some ([.nil, .agg [.lit (.int .i64 0), .lit (.int .i64 0), .lit (.int .i64 0), .lit (.int .i64 0), .lit (.string []), .nil], .agg [.lit (.int .i64 0), .lit (.int .i64 0), .lit (.int .i64 0), .lit (.int .i64 0), .lit (.string []), .nil], .lit (.int .i64 0)], [], places) :=
  ⟨[], by kernel_rfl⟩

set_option maxRecDepth 100000 in
theorem liftedUpto (os : Os) (started : os.Started) (H : Type) (enc : TypeId × Value → H) (F : Stop.Interp) :
    ReturnsInHanded {} Try.checked os 4 .any ((Rows.OpenSpec.upto Rows.coveredSpec).preRow enc Try.prog Try.f4 Rows.coveredUptoRow.domain false Rows.coveredUptoRow.laid) (((Rows.OpenSpec.upto Rows.coveredSpec).at F).post enc Try.prog Try.f4 false true false false) := by
  obtain ⟨places, hx⟩ := reads os enc
  refine returnsInHanded_of_row (C := Try.checked) (s := Rows.OpenSpec.upto Rows.coveredSpec) own started (by kernel_rfl) Try.func4
    (witness_row_at (enc := enc) (C := Try.checked) false (w0 os) args0 rfl (by kernel_rfl) (by kernel_rfl) (by kernel_rfl)
      (OpenSpec.preRow_of_cond 8 hx (by kernel_rfl) (fun k hk => by cases hk; kernel_rfl) (by kernel_rfl) (by exact ⟨[], by exact rfl, List.nodup_nil, fun b off h => by cases h⟩))) ?_
  intro W base args ds gs before hval hW _ hcond hsz hL _ _
  refine contract H enc W base args ds gs before hval hW (hcond _ rfl) ?_
  exact hsz

theorem proved : Rows.CoveredUptoSaid :=
  OpenClaim.holds_of_cond 4 Try.f4 rfl rfl rfl rfl rfl rfl rfl ⟨rfl, rfl, rfl, rfl, rfl⟩ rfl rfl rfl rfl rfl (by kernel_rfl) Try.func4 (by kernel_rfl)
    (of_decide_eq_true (by kernel_rfl)) (by unfold Func.isWrapper; first | (rw [if_pos (by decide +kernel)]; kernel_rfl) | (rw [if_neg (by decide +kernel)]; exact ⟨rfl, rfl⟩))
    (fun os started H enc _ F => by rw [OpenClaim.pre_eq_preRow]; exact liftedUpto os started H enc F)
#print axioms proved
end Go.Proofs.Ytcieoelogocjkaa.covered
