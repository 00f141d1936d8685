/-
 Proved: mlcorelaw2.Parses returns true for every text (the first form, and its card): the program's four readers and the document's give the same tree with all places, or the same fault. No condition.
-/
import Derived.Test.YthehjeeiodbkjaaGreatDoorCards
import Derived.Test.YthehjeeiodbkjaaGreatDoorTie
import Derived.Test.YthehjeeiodbkjaaGreatDoorE48
import Derived.WalkKit
import Derived.ProofKit
import Derived.OpenShut
import Derived.Deep.DeepHandedRow
import Derived.Lib.LaidTab
import Derived.LaidLaws
import Derived.LaidHandle
import Derived.Stop.Joined
set_option linter.unusedSimpArgs false
set_option linter.unusedVariables false
namespace Go.Proofs.YthehjeeiodbkjaaGreatDoor.parses
open Go.ChangeShapes Go.WideShapes Go.ChangeAt Go.RowKit
theorem own : ownKnob Tryz.prog.godebug = none := by kernel_rfl
theorem gS : Tryz.prog.globalNamed "mlcore/lexer.sorts" = some 1 := by kernel_rfl
theorem gB : Tryz.prog.globalNamed "mlcore/syntax.begun" = some 0 := by kernel_rfl
theorem gL : Tryz.prog.globalNamed "mlcore/syntax.levels" = some 2 := by kernel_rfl
theorem tS : (Tryz.prog.globals[1]?).map (·.type) = some 95 := by kernel_rfl
theorem tB : (Tryz.prog.globals[0]?).map (·.type) = some 93 := by kernel_rfl
theorem tL : (Tryz.prog.globals[2]?).map (·.type) = some 104 := by kernel_rfl
theorem cells95 : Tryz.prog.cellsOf 95 = 128 := by kernel_rfl
theorem cells93 : Tryz.prog.cellsOf 93 = 3 := by kernel_rfl
theorem cells104 : Tryz.prog.cellsOf 104 = 14 := by kernel_rfl
theorem cells103 : Tryz.prog.cellsOf 103 = 2 := by kernel_rfl
theorem cells3 : Tryz.prog.cellsOf 3 = 1 := by kernel_rfl
theorem cells9 : Tryz.prog.cellsOf 9 = 1 := by kernel_rfl
/-- a table of strings, as a datum -/
def strData {H : Type} (zs : List (List UInt8)) : DataW H := .agg (zs.map fun z => .lit (.string z))
theorem cells_of_strs {H : Type} {enc : TypeId × Value → H} {P : Program} {w : World} {base : Nat} {sp : Nat → Bool} {held : Bool} {fuel : Nat} {t e : TypeId} {n : Nat} {cs : List Value} {zs : List (List UInt8)} {p : List MemPlace}
 (ht : P.underlying t = some (.array n e)) (he : P.underlying e = some .string) (hce : P.cellsOf e = 1) (hct : P.cellsOf t = n)
 (h : DataW.trod enc P w base sp held fuel t cs = some (strData zs, p)) : cs = zs.map fun z => Value.string ⟨z.toArray⟩ := by
 cases fuel with
 | zero => simp [DataW.trod] at h
 | succ fuel =>
  simp only [DataW.trod, ht, hce, hct, Nat.mul_one] at h
  split at h
  · rename_i hl
    obtain ⟨xs, hm, hx⟩ := Option.map_eq_some_iff.1 h
    have hxs : xs.map (·.1) = zs.map fun z => (DataW.lit (.string z) : DataW H) := by
     have := congrArg Prod.fst hx
     simpa [strData] using this
    have hxl : xs.length = n := by simpa using Lib.mapM_length hm
    have hzl : zs.length = n := by
     have := congrArg List.length hxs
     simp at this
     omega
    apply List.ext_getElem?
    intro i
    by_cases hi : i < n
    · obtain ⟨b, hb, hf⟩ := Lib.mapM_at hm i i (by simp [hi])
      obtain ⟨z, hc, rfl, _⟩ := DataW.trod_string he hf
      have h1 : cs[i]? = some (.string z) := by
       have := congrArg (·[0]?) hc
       simpa [List.getElem?_take, List.getElem?_drop] using this
      have h2 : (xs.map (·.1))[i]? = some (DataW.lit (.string z.data.toList) : DataW H) := by simp [hb]
      rw [hxs] at h2
      simp only [List.getElem?_map, Option.map_eq_some_iff, DataW.lit.injEq, Lit.string.injEq] at h2
      obtain ⟨z', hz', rfl⟩ := h2
      simp [h1, hz']
    · rw [List.getElem?_eq_none (by omega), List.getElem?_eq_none (by simp; omega)]
  · cases h
/-- a table of strings with numbers, as a datum -/
def lvData {H : Type} (zs : List (List UInt8 × Int)) : DataW H := .agg (zs.map fun z => .agg [.lit (.string z.1), .lit (.int .i64 z.2)])
theorem two_of {α : Type} {c : List α} (h2 : c.length = 2) : ∃ u v, c = [u, v] := by
 cases c with
 | nil => simp at h2
 | cons u r =>
  cases r with
  | nil => simp at h2
  | cons v r =>
   cases r with
   | nil => exact ⟨u, v, rfl⟩
   | cons x r => simp at h2
theorem pair_cells {H : Type} {enc : TypeId × Value → H} {w : World} {base : Nat} {sp : Nat → Bool} {held : Bool} {fuel : Nat} {c : List Value} {x : DataW H × List MemPlace} (h : DataW.trod enc Tryz.prog w base sp held fuel 103 c = some x) : ∃ (s : ByteArray) (z : Int), c = [.string s, .int .i64 z] ∧ x.1 = .agg [.lit (.string s.data.toList), .lit (.int .i64 z)] := by
 cases fuel with
 | zero => simp [DataW.trod] at h
 | succ fuel =>
  simp only [DataW.trod, Tryz.underlying103, cells103] at h
  split at h
  · rename_i hl
    obtain ⟨xs, hm, hx⟩ := Option.map_eq_some_iff.1 h
    simp only [List.mapM_cons, List.mapM_nil, Option.bind_eq_bind, Option.bind_eq_some_iff, Option.pure_def, Option.some.injEq, cells9, cells3] at hm
    obtain ⟨a, ha, r, ⟨b, hb, r2, rfl, rfl⟩, rfl⟩ := hm
    obtain ⟨s, hs, rfl, -⟩ := DataW.trod_string Tryz.underlying9 ha
    obtain ⟨z, hz, rfl, -⟩ := DataW.trod_int Tryz.underlying3 hb
    refine ⟨s, z, ?_, by rw [← hx]; rfl⟩
    obtain ⟨u, v, rfl⟩ := two_of hl
    simp at hs hz
    rw [hs, hz]
  · cases h
theorem cells_of_lvs {H : Type} {enc : TypeId × Value → H} {w : World} {base : Nat} {sp : Nat → Bool} {held : Bool} {fuel : Nat} {cs : List Value} {zs : List (List UInt8 × Int)} {p : List MemPlace}
 (h : DataW.trod enc Tryz.prog w base sp held fuel 104 cs = some (lvData zs, p)) : zs.length = 7 ∧ ∀ i (hi : i < zs.length), cs[i * 2]? = some (.string ⟨zs[i].1.toArray⟩) ∧ cs[i * 2 + 1]? = some (.int .i64 zs[i].2) := by
 cases fuel with
 | zero => simp [DataW.trod] at h
 | succ fuel =>
  simp only [DataW.trod, Tryz.underlying104, cells103, cells104] at h
  split at h
  · rename_i hl
    obtain ⟨xs, hm, hx⟩ := Option.map_eq_some_iff.1 h
    have hxs : xs.map (·.1) = zs.map fun z => (DataW.agg [.lit (.string z.1), .lit (.int .i64 z.2)] : DataW H) := by
     have := congrArg Prod.fst hx
     simpa [lvData] using this
    have hxl : xs.length = 7 := by simpa using Lib.mapM_length hm
    have hzl : zs.length = 7 := by
     have := congrArg List.length hxs
     simp at this
     omega
    refine ⟨hzl, fun i hi => ?_⟩
    obtain ⟨b, hb, hf⟩ := Lib.mapM_at hm i i (by rw [List.getElem?_range (by omega)])
    obtain ⟨s, z, hc, hx2⟩ := pair_cells hf
    have h1 : cs[i * 2]? = some (.string s) := by
     have := congrArg (·[0]?) hc
     simpa [List.getElem?_take, List.getElem?_drop] using this
    have h3 : cs[i * 2 + 1]? = some (.int .i64 z) := by
     have := congrArg (·[1]?) hc
     simpa [List.getElem?_take, List.getElem?_drop] using this
    have h2 : (xs.map (·.1))[i]? = some (DataW.agg [.lit (.string s.data.toList), .lit (.int .i64 z)] : DataW H) := by simp [hb, hx2]
    rw [hxs, List.getElem?_map, List.getElem?_eq_getElem hi] at h2
    simp at h2
    rw [h1, h3, h2.1, h2.2]
    exact ⟨rfl, rfl⟩
  · cases h
def sortL : List Int := (List.range 128).map fun k => ((srt k : Nat) : Int)
def begL : List (List UInt8) := (List.range 3).map fun k => (bgT k).data.toList
def levL : List (List UInt8 × Int) := (List.range 7).map fun k => ((lvT k).data.toList, sideT k)
theorem laid_eqS {H : Type} : (Rows.laid_mlcore_lexer_sorts : DataW H) = Lib.tabData .i64 sortL := by kernel_rfl
theorem laid_eqB {H : Type} : (Rows.laid_mlcore_syntax_begun : DataW H) = strData begL := by kernel_rfl
theorem laid_eqL {H : Type} : (Rows.laid_mlcore_syntax_levels : DataW H) = lvData levL := by kernel_rfl
theorem tables {W : World} (h : laidMetH Tryz.prog Rows.parsesRow.laid W) : TabOk W := by
 have h' : laidMet Tryz.prog [("mlcore/lexer.sorts", Rows.laid_mlcore_lexer_sorts), ("mlcore/syntax.begun", Rows.laid_mlcore_syntax_begun), ("mlcore/syntax.levels", Rows.laid_mlcore_syntax_levels)] W := h
 have h9 := h'
 rw [laid_eqS] at h'
 have ht := Lib.tabIs_of_head gS tS Tryz.underlying95 Tryz.underlying3 cells3 cells95 h'
 have hs : Sorts W := fun k hk => by
  have hc := ht.cell gS k (by simp [sortL]; omega)
  rw [hc]
  simp [sortL, hk]
 obtain ⟨ps, ⟨g1, t1, c1, fuel1, p1, q1, hg1, ht1, hv1, hd1, ⟨g2, t2, c2, fuel2, p2, q2, hg2, ht2, hv2, hd2, ⟨g3, t3, c3, fuel3, p3, q3, hg3, ht3, hv3, hd3, -, -⟩, -⟩, -⟩, -⟩ := h9
 obtain rfl := Option.some.inj (gB.symm.trans hg2)
 obtain rfl := Option.some.inj (tB.symm.trans ht2)
 obtain rfl := Option.some.inj (gL.symm.trans hg3)
 obtain rfl := Option.some.inj (tL.symm.trans ht3)
 rw [laid_eqB] at hd2
 rw [laid_eqL] at hd3
 have hb := cells_of_strs Tryz.underlying93 Tryz.underlying9 cells9 cells93 hd2
 have hl := (cells_of_lvs hd3).2
 have hB : ∀ j, j < 3 → W.cell? ⟨0, j, none⟩ = some (.string (bgT j)) := fun j hj => by
  have hc := World.var?_cell gB hv2 j
  have h8 : c2[j]? = some (.string (bgT j)) := by
   rw [← Array.getElem?_toList, hb]
   simp [begL, hj]
  rw [h8] at hc
  exact hc
 have hL : ∀ j, j < 7 → W.cell? ⟨2, j * 2, none⟩ = some (.string (lvT j)) ∧ W.cell? ⟨2, j * 2 + 1, none⟩ = some (.int .i64 (sideT j)) := fun j hj => by
  have hll : levL.length = 7 := by simp [levL]
  obtain ⟨k1, k2⟩ := hl j (by rw [hll]; exact hj)
  have hc1 := World.var?_cell gL hv3 (j * 2)
  have hc2 := World.var?_cell gL hv3 (j * 2 + 1)
  rw [← Array.getElem?_toList, k1] at hc1
  rw [← Array.getElem?_toList, k2] at hc2
  refine ⟨?_, ?_⟩
  · rw [hc1]; simp [levL]
  · rw [hc2]; simp [levL]
 exact ⟨⟨hL, hB⟩, hs, World.block_lt_of_cell? W _ (hL 0 (by omega)).1⟩
theorem laidOut : laidOutB Tryz.prog = true := by kernel_rfl
set_option maxRecDepth 100000 in
/-- WHAT THE WALK GIVES, FOR EVERY TEXT AND EVERY WORLD THAT HOLDS THE TABLES -/
theorem contract (H : Type) (enc : TypeId × Value → H) (W : World) (base : Nat) (args : Array Value) (ds gs : List (DataW H)) (before : List MemPlace)
 (hval : ∀ (j : Nat) t v, Tryz.f3.params[j]? = some t → args[j]? = some v → Value.okWide Tryz.prog W .any base t v)
 (hW : DataW.Whole enc Tryz.prog Tryz.f3.params.toList Rows.parsesSpec.vars false W args.toList ds gs before) (hL : laidMetH Tryz.prog Rows.parsesRow.laid W) :
 Calls Tryz.prog 3 args W fun e W' => ∃ v, e = .returned v ∧ Rows.parsesSpec.post enc Tryz.prog Tryz.f3 false true false false W args v W' := by
 have hW' := hW
 obtain ⟨p, q, hA0, hV, rfl, hfz, hnd⟩ := hW
 have hA : DataW.TrodAll enc Tryz.prog W 0 (fun _ => true) true Tryz.f3.params.toList args.toList ds p := hA0
 rw [Tryz.params3] at hA hval
 obtain ⟨v0, vs0, d0, ds0, p0, q0, hargs, rfl, rfl, h0, r0⟩ := trodAll_cons hA
 obtain ⟨rfl, rfl, rfl⟩ := trodAll_nil r0
 obtain rfl : args = #[v0] := by cases args; simp_all
 obtain ⟨rfl, rfl⟩ := trodVars_none hV
 have k0 := h0
 have lt0 : ∀ x ∈ p0, x.block < W.heap.size := by obtain ⟨m, hm⟩ := k0; exact DataW.trod_lt m _ _ _ hm
 obtain ⟨s, rfl, rfl, rfl, hs⟩ := Go.ChangeMaps.open_string Tryz.underlying9 (hval 0 9 v0 rfl rfl) h0
 have hT := tables hL
 clear hA0 hval
 refine (parses_any s W hT).mono fun e W' ⟨he, bel⟩ => ?_
 subst he
 exact ⟨_, rfl, _, _, _, [], _, [], hW', trodAll_mk1 (shut_bool Tryz.underlying4 _), (trodAll_cons_mk (Below.trod laidOut (by kernel_rfl) (of_decide_eq_true (by kernel_rfl)) k0 bel lt0) trodAll_mk0), rfl, bel.frame _, fun h => by cases h⟩
/-- A WORLD FOR THE WITNESS: the settled one, the tables holding what their initialisers lay. -/
noncomputable def laidWorld (os : Os) : World :=
 let w0 := World.holding Tryz.prog os ⟨#[], #[], []⟩
 let put (w : World) (b : Nat) (l : List Value) : World := { w with heap := w.heap.modify b fun
  | .cells _ t frozen => .cells l.toArray t frozen
  | o => o }
 put (put (put w0 1 (sortL.map fun z => Value.int .i64 z)) 0 (begL.map fun z => Value.string ⟨z.toArray⟩)) 2 (levL.flatMap fun z => [Value.string ⟨z.1.toArray⟩, Value.int .i64 z.2])
theorem laid_met (os : Os) : laidMet Tryz.prog Rows.parsesRow.laid ((laidWorld os).forCall (fun _ _ => 0) ⟨#[], #[.string ⟨#[]⟩], []⟩).memory :=
 laidMet_of_run' 8 (by kernel_rfl) (by kernel_rfl)
theorem reads (os : Os) {H : Type} (enc : TypeId × Value → H) : ∃ places, DataW.whole enc Tryz.prog ((laidWorld os).forCall (fun _ _ => 0) ⟨#[], #[.string ⟨#[]⟩], []⟩).memory Tryz.f3.params.toList Rows.parsesSpec.vars false #[Value.string ⟨#[]⟩].toList 8 = some ([.lit (.string [])], [], places) :=
 ⟨[], by kernel_rfl⟩
set_option maxRecDepth 100000 in
theorem lifted (os : Os) (started : os.Started) (H : Type) (enc : TypeId × Value → H) (F : Stop.Interp) :
 ReturnsInHanded {} Tryz.checked os 3 .any ((OpenSpec.ofChange Rows.parsesSpec).preRow enc Tryz.prog Tryz.f3 Rows.parsesRow.domain false Rows.parsesRow.laid) (((OpenSpec.ofChange Rows.parsesSpec).at F).post enc Tryz.prog Tryz.f3 false true false false) := by
 obtain ⟨places, hx⟩ := reads os enc
 refine returnsInHanded_of_row (C := Tryz.checked) (s := OpenSpec.ofChange Rows.parsesSpec) own started (by kernel_rfl) Tryz.func3
  (witness_row_at (enc := enc) (C := Tryz.checked) false (laidWorld os) #[.string ⟨#[]⟩] rfl (by kernel_rfl) (by kernel_rfl) (by kernel_rfl)
   (OpenSpec.preRow_of_cond 8 hx (by kernel_rfl) (fun k hk => by cases hk) (by kernel_rfl) (laid_met os))) ?_
 intro W base args ds gs before hval hW _ hcond _ hL _ _
 exact contract H enc W base args ds gs before hval hW hL
theorem said : Rows.ParsesSaid :=
 OpenClaim.holds_of_cond 3 Tryz.f3 rfl rfl rfl rfl rfl rfl rfl ⟨rfl, rfl, rfl, rfl, rfl⟩ rfl rfl rfl rfl rfl (by kernel_rfl) Tryz.func3 (by kernel_rfl)
  (of_decide_eq_true (by kernel_rfl)) (by unfold Func.isWrapper; first | (rw [if_pos (by decide +kernel)]; kernel_rfl) | (rw [if_neg (by decide +kernel)]; exact ⟨rfl, rfl⟩))
  (fun os started H enc _ F => by rw [OpenClaim.pre_eq_preRow]; exact lifted os started H enc F)
/-- No parameter wants a stand-in; the program's own looks are off: what the card asks. -/
theorem plain (f : FuncId) (fn : Func) (hf : Tryz.pinned.checked.prog.funcNamed "mlcore/mlcorelaw2.Parses" = some f) (hfn : Tryz.pinned.checked.prog.funcs[f]? = some fn) :
 true = Tryz.pinned.checked.prog.looks [] ∧ ∀ (j : Nat) t, fn.params[j]? = some t → Tryz.pinned.checked.prog.wantsStandIn t = false := by
 obtain rfl : f = 3 := Option.some.inj ((show Tryz.prog.funcNamed "mlcore/mlcorelaw2.Parses" = some 3 by kernel_rfl).symm.trans hf) |>.symm
 obtain rfl : fn = Tryz.f3 := (Option.some.inj (Tryz.func3.symm.trans hfn)).symm
 refine ⟨by kernel_rfl, fun j t ht => ?_⟩
 rw [Tryz.params3] at ht
 have ht2 : t = 9 := by simpa using Array.mem_of_getElem? ht
 subst ht2
 exact (show Tryz.prog.wantsStandIn 9 = false by kernel_rfl)
/-- THE FIRST FORM's CARD. -/
theorem card : Rows.ParsesCardSaid :=
 Claim7.holds_tied_plain_at .later [] _ _ _ _ said (fun _ h => by cases h) (by kernel_rfl) (fun _ h => by cases h) parses_row_tie rfl ⟨rfl, rfl⟩ (by kernel_rfl) rfl plain (by kernel_rfl)
#print axioms card
end Go.Proofs.YthehjeeiodbkjaaGreatDoor.parses
