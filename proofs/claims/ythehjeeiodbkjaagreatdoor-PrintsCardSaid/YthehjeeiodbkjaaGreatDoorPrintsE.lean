/-
 Proved: mlcorelaw2.Prints returns true for every text (the first form, and its card): the program writes a tree as the document says. No condition.
-/
import Derived.Test.YthehjeeiodbkjaaGreatDoorCards
import Derived.Test.YthehjeeiodbkjaaGreatDoorTie
import Derived.Test.YthehjeeiodbkjaaGreatDoorP18
import Derived.Test.YthehjeeiodbkjaaGreatDoorP18
import Derived.WalkKit
import Derived.ProofKit
import Derived.OpenShut
import Derived.Deep.DeepHandedRow
import Derived.Lib.LaidTab
import Derived.LaidLaws
import Derived.LaidHandle
import Derived.Stop.Joined
import Derived.Stop.LaidErr
import Derived.Shelf.Vars
import Derived.Lay
set_option linter.unusedSimpArgs false
set_option linter.unusedVariables false
namespace Go.Proofs.YthehjeeiodbkjaaGreatDoor.prints
open Go.ChangeShapes Go.WideShapes Go.ChangeAt Go.RowKit
theorem own : ownKnob Tryz.prog.godebug = none := by kernel_rfl
theorem gS : Tryz.prog.globalNamed "mlcore/lexer.sorts" = some 1 := by kernel_rfl
theorem gB : Tryz.prog.globalNamed "mlcore/syntax.begun" = some 0 := by kernel_rfl
theorem gL : Tryz.prog.globalNamed "mlcore/syntax.levels" = some 2 := by kernel_rfl
theorem tS : (Tryz.prog.globals[1]?).map (·.type) = some 95 := by kernel_rfl
theorem tB : (Tryz.prog.globals[0]?).map (·.type) = some 93 := by kernel_rfl
theorem tL : (Tryz.prog.globals[2]?).map (·.type) = some 104 := by kernel_rfl
theorem cells95 : Tryz.prog.cellsOf 95 = 128 := by kernel_rfl
theorem cells93 : Tryz.prog.cellsOf 93 = 3 := by kernel_rfl
theorem cells104 : Tryz.prog.cellsOf 104 = 14 := by kernel_rfl
theorem cells103 : Tryz.prog.cellsOf 103 = 2 := by kernel_rfl
theorem cells3 : Tryz.prog.cellsOf 3 = 1 := by kernel_rfl
theorem cells9 : Tryz.prog.cellsOf 9 = 1 := by kernel_rfl
/-- a table of strings, as a datum -/
def strData {H : Type} (zs : List (List UInt8)) : DataW H := .agg (zs.map fun z => .lit (.string z))
theorem cells_of_strs {H : Type} {enc : TypeId × Value → H} {P : Program} {w : World} {base : Nat} {sp : Nat → Bool} {held : Bool} {fuel : Nat} {t e : TypeId} {n : Nat} {cs : List Value} {zs : List (List UInt8)} {p : List MemPlace}
 (ht : P.underlying t = some (.array n e)) (he : P.underlying e = some .string) (hce : P.cellsOf e = 1) (hct : P.cellsOf t = n)
 (h : DataW.trod enc P w base sp held fuel t cs = some (strData zs, p)) : cs = zs.map fun z => Value.string ⟨z.toArray⟩ := by
 cases fuel with
 | zero => simp [DataW.trod] at h
 | succ fuel =>
  simp only [DataW.trod, ht, hce, hct, Nat.mul_one] at h;split at h
  · rename_i hl
    obtain ⟨xs, hm, hx⟩ := Option.map_eq_some_iff.1 h
    have hxs : xs.map (·.1) = zs.map fun z => (DataW.lit (.string z) : DataW H) := by
     have := congrArg Prod.fst hx
     simpa [strData] using this
    have hxl : xs.length = n := by simpa using Lib.mapM_length hm
    have hzl : zs.length = n := by
     have := congrArg List.length hxs;simp at this
     omega
    apply List.ext_getElem?
    intro i
    by_cases hi : i < n
    · obtain ⟨b, hb, hf⟩ := Lib.mapM_at hm i i (by simp [hi]);obtain ⟨z, hc, rfl, _⟩ := DataW.trod_string he hf
      have h1 : cs[i]? = some (.string z) := by
       have := congrArg (·[0]?) hc
       simpa [List.getElem?_take, List.getElem?_drop] using this
      have h2 : (xs.map (·.1))[i]? = some (DataW.lit (.string z.data.toList) : DataW H) := (by simp [hb]);rw [hxs] at h2;simp only [List.getElem?_map, Option.map_eq_some_iff, DataW.lit.injEq, Lit.string.injEq] at h2;obtain ⟨z', hz', rfl⟩ := h2;simp [h1, hz']
    · rw [List.getElem?_eq_none (by omega), List.getElem?_eq_none (by simp; omega)]
  · cases h
/-- a table of strings with numbers, as a datum -/
def lvData {H : Type} (zs : List (List UInt8 × Int)) : DataW H := .agg (zs.map fun z => .agg [.lit (.string z.1), .lit (.int .i64 z.2)])
theorem two_of {α : Type} {c : List α} (h2 : c.length = 2) : ∃ u v, c = [u, v] := by
 cases c with
 | nil => simp at h2
 | cons u r =>
  cases r with
  | nil => simp at h2
  | cons v r =>
   cases r with
   | nil => exact ⟨u, v, rfl⟩
   | cons x r => simp at h2
theorem pair_cells {H : Type} {enc : TypeId × Value → H} {w : World} {base : Nat} {sp : Nat → Bool} {held : Bool} {fuel : Nat} {c : List Value} {x : DataW H × List MemPlace} (h : DataW.trod enc Tryz.prog w base sp held fuel 103 c = some x) : ∃ (s : ByteArray) (z : Int), c = [.string s, .int .i64 z] ∧ x.1 = .agg [.lit (.string s.data.toList), .lit (.int .i64 z)] := by
 cases fuel with
 | zero => simp [DataW.trod] at h
 | succ fuel =>
  simp only [DataW.trod, Tryz.underlying103, cells103] at h;split at h
  · rename_i hl
    obtain ⟨xs, hm, hx⟩ := Option.map_eq_some_iff.1 h;simp only [List.mapM_cons, List.mapM_nil, Option.bind_eq_bind, Option.bind_eq_some_iff, Option.pure_def, Option.some.injEq, cells9, cells3] at hm;obtain ⟨a, ha, r, ⟨b, hb, r2, rfl, rfl⟩, rfl⟩ := hm;obtain ⟨s, hs, rfl, -⟩ := DataW.trod_string Tryz.underlying9 ha;obtain ⟨z, hz, rfl, -⟩ := DataW.trod_int Tryz.underlying3 hb;refine ⟨s, z, ?_, by rw [← hx]; rfl⟩;obtain ⟨u, v, rfl⟩ := two_of hl;simp at hs hz
    rw [hs, hz]
  · cases h
theorem cells_of_lvs {H : Type} {enc : TypeId × Value → H} {w : World} {base : Nat} {sp : Nat → Bool} {held : Bool} {fuel : Nat} {cs : List Value} {zs : List (List UInt8 × Int)} {p : List MemPlace}
 (h : DataW.trod enc Tryz.prog w base sp held fuel 104 cs = some (lvData zs, p)) : zs.length = 7 ∧ ∀ i (hi : i < zs.length), cs[i * 2]? = some (.string ⟨zs[i].1.toArray⟩) ∧ cs[i * 2 + 1]? = some (.int .i64 zs[i].2) := by
 cases fuel with
 | zero => simp [DataW.trod] at h
 | succ fuel =>
  simp only [DataW.trod, Tryz.underlying104, cells103, cells104] at h;split at h
  · rename_i hl
    obtain ⟨xs, hm, hx⟩ := Option.map_eq_some_iff.1 h
    have hxs : xs.map (·.1) = zs.map fun z => (DataW.agg [.lit (.string z.1), .lit (.int .i64 z.2)] : DataW H) := by
     have := congrArg Prod.fst hx
     simpa [lvData] using this
    have hxl : xs.length = 7 := by simpa using Lib.mapM_length hm
    have hzl : zs.length = 7 := by
     have := congrArg List.length hxs;simp at this
     omega
    refine ⟨hzl, fun i hi => ?_⟩;obtain ⟨b, hb, hf⟩ := Lib.mapM_at hm i i (by rw [List.getElem?_range (by omega)]);obtain ⟨s, z, hc, hx2⟩ := pair_cells hf
    have h1 : cs[i * 2]? = some (.string s) := by
     have := congrArg (·[0]?) hc
     simpa [List.getElem?_take, List.getElem?_drop] using this
    have h3 : cs[i * 2 + 1]? = some (.int .i64 z) := by
     have := congrArg (·[1]?) hc
     simpa [List.getElem?_take, List.getElem?_drop] using this
    have h2 : (xs.map (·.1))[i]? = some (DataW.agg [.lit (.string s.data.toList), .lit (.int .i64 z)] : DataW H) := (by simp [hb, hx2]);rw [hxs, List.getElem?_map, List.getElem?_eq_getElem hi] at h2;simp at h2
    rw [h1, h3, h2.1, h2.2];exact ⟨rfl, rfl⟩
  · cases h
def sortL : List Int := (List.range 128).map fun k => ((srt k : Nat) : Int)
def begL : List (List UInt8) := (List.range 3).map fun k => (bgT k).data.toList
def levL : List (List UInt8 × Int) := (List.range 7).map fun k => ((lvT k).data.toList, sideT k)
theorem laid_eqS {H : Type} : (Rows.laid_mlcore_lexer_sorts : DataW H) = Lib.tabData .i64 sortL := by kernel_rfl
theorem laid_eqB {H : Type} : (Rows.laid_mlcore_syntax_begun : DataW H) = strData begL := by kernel_rfl
theorem laid_eqL {H : Type} : (Rows.laid_mlcore_syntax_levels : DataW H) = lvData levL := by kernel_rfl
theorem gP : Tryz.prog.globalNamed "internal/strconv.uint64pow10" = some 4 := by kernel_rfl
theorem tP : (Tryz.prog.globals[4]?).map (·.type) = some 155 := by kernel_rfl
theorem under155 : Tryz.prog.underlying 155 = some (.array 20 144) := by kernel_rfl
theorem under144 : Tryz.prog.underlying 144 = some (.int .u64) := by kernel_rfl
theorem cells144 : Tryz.prog.cellsOf 144 = 1 := by kernel_rfl
theorem cells155 : Tryz.prog.cellsOf 155 = 20 := by kernel_rfl
theorem laid_eqP {H : Type} : (Rows.laid_internal_strconv_uint64pow10 : DataW H) = Lib.tabData .u64 Lib.pow10Tab := by kernel_rfl
theorem tables {W : World} (h : laidMetH Tryz.prog Rows.printsRow.laid W) (hsh : W.ShapedOpen Tryz.prog) : AW W := by
 have h' : laidMet Tryz.prog [("math/bits.deBruijn32tab", Rows.laid_math_bits_deBruijn32tab), ("math/bits.deBruijn64tab", Rows.laid_math_bits_deBruijn64tab), ("internal/strconv.uint64pow10", Rows.laid_internal_strconv_uint64pow10), ("mlcore/lexer.sorts", Rows.laid_mlcore_lexer_sorts), ("unicode/utf8.acceptRanges", Rows.laid_unicode_utf8_acceptRanges), ("mlcore/syntax.begun", Rows.laid_mlcore_syntax_begun), ("mlcore/syntax.levels", Rows.laid_mlcore_syntax_levels), ("unicode/utf8.first", Rows.laid_unicode_utf8_first)] W := h;have h3 := laidMet.tail (laidMet.tail h');have h4 := laidMet.tail h3;have h6 := laidMet.tail (laidMet.tail h4);rw [laid_eqP] at h3;rw [laid_eqS] at h4;have hp := Lib.tabIs_of_head gP tP under155 under144 cells144 cells155 h3;have ht := Lib.tabIs_of_head gS tS Tryz.underlying95 Tryz.underlying3 cells3 cells95 h4
 have hs : Sorts W := fun k hk => by
  have hc := ht.cell gS k (by simp [sortL]; omega);rw [hc];simp [sortL, hk]
 have hm : ∃ m, W.cell? ⟨3, 0, none⟩ = some (.int .i64 m) := cell_of_shapedOpen_int (t := 3) (zero := #[.int .i64 0]) hsh (of_decide_eq_true (by kernel_rfl)) (by kernel_rfl) rfl (by kernel_rfl) (by kernel_rfl) Tryz.underlying3
 have h9 : 9 ≤ W.heap.size := by
  obtain ⟨cs, hh, -⟩ := hsh.1 8 (Array.replicate 64 (.int .u8 0)) 169 (of_decide_eq_true (by kernel_rfl)) (by kernel_rfl);exact (Array.getElem?_eq_some_iff.1 hh).1
 obtain ⟨ps, ⟨g2, t2, c2, fuel2, p2, q2, hg2, ht2, hv2, hd2, ⟨g3, t3, c3, fuel3, p3, q3, hg3, ht3, hv3, hd3, -, -⟩, -⟩, -⟩ := h6;obtain rfl := Option.some.inj (gB.symm.trans hg2);obtain rfl := Option.some.inj (tB.symm.trans ht2);obtain rfl := Option.some.inj (gL.symm.trans hg3);obtain rfl := Option.some.inj (tL.symm.trans ht3);rw [laid_eqB] at hd2;rw [laid_eqL] at hd3;have hb := cells_of_strs Tryz.underlying93 Tryz.underlying9 cells9 cells93 hd2;have hl := (cells_of_lvs hd3).2
 have hB : ∀ j, j < 3 → W.cell? ⟨0, j, none⟩ = some (.string (bgT j)) := fun j hj => by
  have hc := World.var?_cell gB hv2 j
  have h8 : c2[j]? = some (.string (bgT j)) := by
   rw [← Array.getElem?_toList, hb];simp [begL, hj]
  rw [h8] at hc;exact hc
 have hL : ∀ j, j < 7 → W.cell? ⟨2, j * 2, none⟩ = some (.string (lvT j)) ∧ W.cell? ⟨2, j * 2 + 1, none⟩ = some (.int .i64 (sideT j)) := fun j hj => by
  have hll : levL.length = 7 := by simp [levL]
  obtain ⟨k1, k2⟩ := hl j (by rw [hll]; exact hj);have hc1 := World.var?_cell gL hv3 (j * 2);have hc2 := World.var?_cell gL hv3 (j * 2 + 1);rw [← Array.getElem?_toList, k1] at hc1;rw [← Array.getElem?_toList, k2] at hc2;refine ⟨?_, ?_⟩
  · rw [hc1]; simp [levL]
  · rw [hc2]; simp [levL]
 exact ⟨⟨⟨hL, hB⟩, hs, World.block_lt_of_cell? W _ (hL 0 (by omega)).1⟩, ⟨⟨hL, hB⟩, hm, hp⟩, h9⟩
theorem laidOut : laidOutB Tryz.prog = true := by kernel_rfl
set_option maxRecDepth 100000 in
/-- WHAT THE WALK GIVES, FOR EVERY TEXT AND EVERY WORLD THAT HOLDS THE TABLES -/
theorem contract (H : Type) (enc : TypeId × Value → H) (W : World) (base : Nat) (args : Array Value) (ds gs : List (DataW H)) (before : List MemPlace)
 (hval : ∀ (j : Nat) t v, Tryz.f4.params[j]? = some t → args[j]? = some v → Value.okWide Tryz.prog W .any base t v)
 (hW : DataW.Whole enc Tryz.prog Tryz.f4.params.toList Rows.printsSpec.vars false W args.toList ds gs before) (hL : laidMetH Tryz.prog Rows.printsRow.laid W) (hsh : W.ShapedOpen Tryz.prog) :
 Calls Tryz.prog 4 args W fun e W' => ∃ v, e = .returned v ∧ Rows.printsSpec.post enc Tryz.prog Tryz.f4 false true false false W args v W' := by
 have hW' := hW;obtain ⟨p, q, hA0, hV, rfl, hfz, hnd⟩ := hW;have hA : DataW.TrodAll enc Tryz.prog W 0 (fun _ => true) true Tryz.f4.params.toList args.toList ds p := hA0;rw [Tryz.params4] at hA hval;obtain ⟨v0, vs0, d0, ds0, p0, q0, hargs, rfl, rfl, h0, r0⟩ := trodAll_cons hA;obtain ⟨rfl, rfl, rfl⟩ := trodAll_nil r0;obtain rfl : args = #[v0] := by cases args; simp_all
 obtain ⟨rfl, rfl⟩ := trodVars_none hV;have k0 := h0;have lt0 : ∀ x ∈ p0, x.block < W.heap.size := by obtain ⟨m, hm⟩ := k0; exact DataW.trod_lt m _ _ _ hm
 obtain ⟨s, rfl, rfl, rfl, hs⟩ := Go.ChangeMaps.open_string Tryz.underlying9 (hval 0 9 v0 rfl rfl) h0;have hT := tables hL hsh;clear hA0 hval;refine (prints_any (fun w h => exp_3 w h.t) s W hT).mono fun e W' ⟨he, bel⟩ => ?_
 subst he;exact ⟨_, rfl, _, _, _, [], _, [], hW', trodAll_mk1 (shut_bool Tryz.underlying4 _), (trodAll_cons_mk (Below.trod laidOut (by kernel_rfl) (of_decide_eq_true (by kernel_rfl)) k0 bel lt0) trodAll_mk0), rfl, bel.frame _, fun h => by cases h⟩
/-- A WORLD FOR THE WITNESS. -/
noncomputable def laidWorld (os : Os) : World := World.laidAll Tryz.prog os Rows.printsRow.laid
theorem laid_met (os : Os) : laidMet Tryz.prog Rows.printsRow.laid ((laidWorld os).forCall (fun _ _ => 0) ⟨#[], #[.string ⟨#[]⟩], []⟩).memory :=
 laidMet_laidAll _ (by kernel_rfl) (by kernel_rfl)
theorem reads (os : Os) {H : Type} (enc : TypeId × Value → H) : ∃ places, DataW.whole enc Tryz.prog ((laidWorld os).forCall (fun _ _ => 0) ⟨#[], #[.string ⟨#[]⟩], []⟩).memory Tryz.f4.params.toList Rows.printsSpec.vars false #[Value.string ⟨#[]⟩].toList 8 = some ([.lit (.string [])], [], places) :=
 ⟨[], by kernel_rfl⟩
set_option maxRecDepth 100000 in
theorem lifted (os : Os) (started : os.Started) (H : Type) (enc : TypeId × Value → H) (F : Stop.Interp) :
 ReturnsInHanded {} Tryz.checked os 4 .any ((OpenSpec.ofChange Rows.printsSpec).preRow enc Tryz.prog Tryz.f4 Rows.printsRow.domain false Rows.printsRow.laid) (((OpenSpec.ofChange Rows.printsSpec).at F).post enc Tryz.prog Tryz.f4 false true false false) := by
 obtain ⟨places, hx⟩ := reads os enc
 refine returnsInHanded_of_row (C := Tryz.checked) (s := OpenSpec.ofChange Rows.printsSpec) own started (by kernel_rfl) Tryz.func4
  (witness_row_at (enc := enc) (C := Tryz.checked) false (laidWorld os) #[.string ⟨#[]⟩] (World.laidAll_os _ _ _) (by kernel_rfl) (by kernel_rfl) (by kernel_rfl)
   (OpenSpec.preRow_of_cond 8 hx (by kernel_rfl) (fun k hk => by cases hk) (by kernel_rfl) (laid_met os))) ?_
 intro W base args ds gs before hval hW _ hcond _ hL hsh _;exact contract H enc W base args ds gs before hval hW hL hsh
theorem said : Rows.PrintsSaid :=
 OpenClaim.holds_of_cond 4 Tryz.f4 rfl rfl rfl rfl rfl rfl rfl ⟨rfl, rfl, rfl, rfl, rfl⟩ rfl rfl rfl rfl rfl (by kernel_rfl) Tryz.func4 (by kernel_rfl)
  (of_decide_eq_true (by kernel_rfl)) (by unfold Func.isWrapper; first | (rw [if_pos (by decide +kernel)]; kernel_rfl) | (rw [if_neg (by decide +kernel)]; exact ⟨rfl, rfl⟩))
  (fun os started H enc _ F => by rw [OpenClaim.pre_eq_preRow]; exact lifted os started H enc F)
/-- No parameter wants a stand-in; the program's own looks are off: what the card asks. -/
theorem plain (f : FuncId) (fn : Func) (hf : Tryz.pinned.checked.prog.funcNamed "mlcore/mlcorelaw2.Prints" = some f) (hfn : Tryz.pinned.checked.prog.funcs[f]? = some fn) :
 true = Tryz.pinned.checked.prog.looks [] ∧ ∀ (j : Nat) t, fn.params[j]? = some t → Tryz.pinned.checked.prog.wantsStandIn t = false := by
 obtain rfl : f = 4 := Option.some.inj ((show Tryz.prog.funcNamed "mlcore/mlcorelaw2.Prints" = some 4 by kernel_rfl).symm.trans hf) |>.symm
 obtain rfl : fn = Tryz.f4 := (Option.some.inj (Tryz.func4.symm.trans hfn)).symm;refine ⟨by kernel_rfl, fun j t ht => ?_⟩;rw [Tryz.params4] at ht;have ht2 : t = 9 := by simpa using Array.mem_of_getElem? ht
 subst ht2;exact (show Tryz.prog.wantsStandIn 9 = false by kernel_rfl)
/-- THE FIRST FORM's CARD. -/
theorem card : Rows.PrintsCardSaid :=
 Claim7.holds_tied_plain_at .later [] _ _ _ _ said (fun _ h => by cases h) (by kernel_rfl) (fun _ h => by cases h) prints_row_tie rfl ⟨rfl, rfl⟩ (by kernel_rfl) rfl plain (by kernel_rfl)
#print axioms card
end Go.Proofs.YthehjeeiodbkjaaGreatDoor.prints
