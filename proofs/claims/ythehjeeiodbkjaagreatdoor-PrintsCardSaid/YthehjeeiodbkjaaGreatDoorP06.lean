/-
  Proved: the contracts of the reader's within, of what ends it, and of path; the contract of the syntax's has, at any list and word; what it says of the words and signs that there are; how trees lie in memory: a node's jM cells, rows of nodes of one's own; the contracts of node and of the reader's begins, begun, sign; the contract of the reader's sign; what a reading of nodes leaves; the contract of the reader's row; what stands while the reader reads on: its own place, the variables of a call, the nodes that were read; rows of nodes of the call's own, and what stands when they grow; rows of plain cells of the call's own (tokens, texts), and what stands when they grow; whatever is read lies behind the place where it began: every thing read takes at least one token; how the document's reader stands in memory, what it answers from any state; the contract of its now. Conditions: the reader as it stands in memory; a list of at most 400 bytes, a word of at most 4000; the reader and the table of levels as they stand in memory; the reader as it stands in memory; the contract of what the row is of.
-/
import Derived.Test.YthehjeeiodbkjaaGreatDoorP05
import Derived.Test.YthehjeeiodbkjaaGreatDoorP01
import Derived.Recover
import Derived.Deep.DeepCutAuto
import Derived.Deep.CutBlock
import Derived.StillTailTactics
import Derived.Deep.RegionHeld3
import Derived.BigRegion
import Derived.Deep.AppendLies
import Derived.BigQuiet
import Derived.Deep.RegionLaw
set_option linter.unusedSimpArgs false
set_option linter.unusedVariables false
set_option linter.unusedSectionVars false
set_option maxRecDepth 100000
set_option maxHeartbeats 16000000
namespace Go.Proofs.YthehjeeiodbkjaaGreatDoor
open Go.RowKit
def endV (b : Nat) : Value := .func (.func 72) #[] #[.pointer (some ⟨b, 0, none⟩)]
def WPost (E : Env) (i d : Nat) (w : World) (e : Ending) (w' : World) : Prop :=
 w.grownBy w' (some E.rb) ∧ ((d < 60 ∧ e = .returned (endV w.heap.size) ∧ Rd E w' i (d + 1) ∧ w.heap.size < w'.heap.size ∧ w'.heap[w.heap.size]? = some (.cells #[pr E] 42 (0, 0))) ∨ (¬ d < 60 ∧ ∃ k a, (jE E.P 5 i : Res Unit) = .bad k a ∧ e = .panicked (slipV k a) ∧ Rd E w' i d))
theorem within_any (E : Env) (w : World) (i d : Nat) (h : Rd E w i d) : Calls Tryz.prog 37 #[pr E] w (WPost E i d w) := by
 have hlt := h.ltr;have hmf : ∀ (fn : Fn) (first cap : Array Value) (w : World), (Instr.makeFunc fn first cap).run Tryz.prog w = .ok (.func fn first cap) w := fun _ _ _ _ => rfl
 obtain ⟨W, hW⟩ : ∃ W, W = w.alloc (.cells #[pr E] 42) := ⟨_, rfl⟩
 have hbW : Below w.heap.size w W := by rw [hW]; exact jk (Below.refl _ _) _
 have hrW : W.heap[w.heap.size]? = some (.cells #[pr E] 42 (0, 0)) := by rw [hW]; exact heap_alloc_new w _
 have hR := h.keep hbW;obtain ⟨⟨r0, r1, r2, r3, r4⟩, ⟨z0, z1, z2, z3, z4⟩⟩ := hR.cells;have HFA : Hid (Calls Tryz.prog 36 #[pr E, .int .i64 5] W fun e w' => (∃ x y, (jE E.P 5 i : Res Unit) = .bad x y ∧ e = .panicked (slipV x y)) ∧ Below W.heap.size W w') := lh (fail_any E W i d 5 hR);have c0 : W.cell? ⟨w.heap.size, 0, none⟩ = some (pr E) := ja hrW 0;have HR := lh hR;have HBW := lh hbW;have HRW := lh hrW;have hd9 := h.d60;unfold pr at hW c0 HFA ⊢;have hl : w.heap.size < W.heap.size := lt_of_block hrW;have n1 : ¬ (w.heap.size = E.rb) := by omega
 clear h hR hbW hrW;have HWW := lh hW;clear hW;go_enter Tryz.func37, Tryz.ntmps37
 go_upto_region 1 with fail
 rw [← HWW.out];clear HWW
 by_cases hd : d < 60
 · have h1 : ¬ ((60 : Int) ≤ (d : Int)) := (by omega);have h2 : decide ((60 : Int) ≤ (d : Int)) = false := (by simp; omega);have h3 : decide ((d : Int) ≥ 60) = false := (by simp; omega);have HDD := lh hd;clear hd;go_wp2_with fail
   go_ret
   have hr := HR.out.setd (d' := d + 1) (by have := HDD.out; omega);refine ⟨jr (ji HBW.out _) (jX _ _ _ _), .inl ⟨HDD.out, rfl, hr, ?_, ?_⟩⟩
   · rw [World.size_setCell]; exact hl
   · exact jg HRW.out n1 4 _
 · have h1 : (60 : Int) ≤ (d : Int) := (by omega);have h2 : decide ((60 : Int) ≤ (d : Int)) = true := (by simp; omega);have h3 : decide ((d : Int) ≥ 60) = true := (by simp; omega);have HDD := lh hd;clear hd;go_wp2_with (first | (go_at_call 36; refine HFA.out.mono ?_; rintro e w2 ⟨⟨x, y, hx, rfl⟩, hb2⟩; have HX := lh hx; have HB2 := lh hb2; clear hx hb2))
   exact ⟨rfl, jr (ji HBW.out _) (ji HB2.out _), .inr ⟨HDD.out, _, _, HX.out, rfl, HR.out.keep HB2.out⟩⟩
theorem end_any (E : Env) (w : World) (i d b : Nat) (u : FrameMode) (h : Rd E w i (d + 1)) (hb : w.heap[b]? = some (.cells #[pr E] 42 (0, 0))) :
 CallsD Tryz.prog 72 #[.pointer (some ⟨b, 0, none⟩)] u w fun e u' w' => u' = u ∧ (e = .returned (.tuple #[]) ∧ w' = w.setCell ⟨E.rb, 4, none⟩ (.int .i64 (d : Int))) := by
 have c0 : w.cell? ⟨b, 0, none⟩ = some (pr E) := ja hb 0;obtain ⟨⟨r0, r1, r2, r3, r4⟩, ⟨z0, z1, z2, z3, z4⟩⟩ := h.cells;have hd := h.d60;unfold pr at c0;clear h hb;go_enter_d Tryz.func72, Tryz.ntmps72
 go_wp2_with fail
 go_end0
 exact ⟨rfl, rfl⟩
def posOf (w : World) (b : Nat) : Nat := match w.cell? ⟨b, 1, none⟩ with
 | some (.int _ x) => x.toNat
 | _ => 0
theorem Rd.pos {E : Env} {w : World} {i d : Nat} (h : Rd E w i d) : posOf w E.rb = i := by
 unfold posOf;rw [h.cells.1.2.1];rfl
theorem Rd.tsize {E : Env} {w : World} {i d : Nat} (h : Rd E w i d) (j : Nat) : (E.P.T j).size ≤ 4000 := by
 by_cases hj : j < E.P.toks.length
 · rw [(Src.at' hj).2.2.1];exact (h.ok.tok _ (List.getElem_mem hj)).2.2.2
 · rw [(Src.out' hj).2.2.1];decide
theorem hasB_hit {l w : ByteArray} {i : Nat} (h : hitB l w i = true) : qp l w = true := by
 unfold qp;rw [List.any_eq_true];refine ⟨i, List.mem_range.2 ?_, h⟩;unfold hitB at h;simp at h
 omega
theorem hasB_none {l w : ByteArray} {n : Nat} (h : ∀ i, i < n → hitB l w i = false) (hn : ¬ n + w.size + 2 ≤ l.size) : qp l w = false := by
 unfold qp;rw [List.any_eq_false];intro i _ hi
 by_cases hin : i < n
 · rw [h i hin] at hi; cases hi
 · unfold hitB at hi;simp at hi
   omega
theorem qK (a b : ByteArray) : (a.toList == b.toList) = decide (a = b) := by
 rw [Bool.eq_iff_iff];simp only [beq_iff_eq, decide_eq_true_eq];exact ba_eq
theorem qL (l x : ByteArray) (w : World) (hl : l.size ≤ 400) (hx : x.size ≤ 4000) : Calls Tryz.prog 62 #[.string l, .string x] w fun e w' => e = .returned (.bool (qp l x)) ∧ w' = w := by
 obtain ⟨b, hb⟩ : ∃ b, b = qp l x := ⟨_, rfl⟩
 rw [← hb];have HB := lh hb;have q1 : ∀ w' : World, (Op.stringOp .add ⟨#[32]⟩ x).run Tryz.prog w' = .ok (.string (⟨#[32]⟩ ++ x)) w' := fun w' => run_string_add_sum w' _ _ (by show 1 + x.size ≤ _; omega)
 have q2 : ∀ w' : World, (Op.stringOp .add (⟨#[32]⟩ ++ x) ⟨#[32]⟩).run Tryz.prog w' = .ok (.string (⟨#[32]⟩ ++ x ++ ⟨#[32]⟩)) w' := fun w' => run_string_add_sum w' _ _ (by rw [ByteArray.size_append]; show 1 + x.size + 1 ≤ _; omega)
 clear hb;go_enter Tryz.func62, Tryz.ntmps62
 go_wp2_with fail
 go_loopw [5] (fun i wr => ∃ j : Nat, i = .int .i64 (j : Int) ∧ j ≤ l.size ∧ (∀ k, k < j → hitB l x k = false) ∧ wr = w) (fun i _ => l.size - (intOf i).toNat)
 case atStart => exact ⟨0, rfl, Nat.zero_le _, fun k hk => by omega, rfl⟩
 case round =>
  obtain ⟨j, rfl, hj, hno, rfl⟩ := hrel;have HNO := lh hno;clear hno
  by_cases hlt : j + x.size + 2 ≤ l.size
  · have hd : decide ((j : Int) + (x.size : Int) + 2 ≤ (l.size : Int)) = true := (by simp; omega);have k0 : (0 : Int) ≤ (j : Int) := (by omega);have k1 : (j : Int) ≤ (j : Int) + (x.size : Int) + 2 := (by omega);have k2 : (j : Int) + (x.size : Int) + 2 ≤ (l.size : Int) := (by omega);have e0 : ((j : Int) + (x.size : Int) + 2).toNat = j + x.size + 2 := by omega
    by_cases he : l.extract j (j + x.size + 2) = ⟨#[32]⟩ ++ x ++ ⟨#[32]⟩
    · have hh : hitB l x j = true := (by unfold hitB; rw [decide_eq_true hlt, decide_eq_true he]; rfl);have hb1 : b = true := (by rw [HB.out, hasB_hit hh]);have hs : (l.extract j (j + x.size + 2)).toList = (⟨#[32]⟩ ++ x ++ ⟨#[32]⟩ : ByteArray).toList := (by rw [he]);have HB1 := lh hb1;clear hh hb1 he;go_wp2_with fail
      go_ret
      exact ⟨by rw [HB1.out]; first | rfl | simp, rfl⟩
    · have hh : hitB l x j = false := (by unfold hitB; rw [decide_eq_false he, Bool.and_false]);have hs : ((l.extract j (j + x.size + 2)).toList == (⟨#[32]⟩ ++ x ++ ⟨#[32]⟩ : ByteArray).toList) = false := (by rw [qK]; exact decide_eq_false he);have HH := lh hh;clear hh he;go_wp2_with fail
      refine ⟨⟨j + 1, by go_num, by omega, fun k hk => ?_, trivial⟩, by simp only [intOf]; omega⟩
      by_cases e : k = j
      · rw [e]; exact HH.out
      · exact HNO.out k (by omega)
  · have hd : decide ((j : Int) + (x.size : Int) + 2 ≤ (l.size : Int)) = false := (by simp; omega);go_wp2_with fail
    go_ret
    exact ⟨by rw [HB.out, hasB_none HNO.out hlt]; rfl, rfl⟩
theorem jC {w : World} {b : Nat} {v0 v1 v2 v3 v4 : Value} (h : w.heap[b]? = some (.cells #[v0, v1, v2, v3, v4] 26 (0, 0))) : (w.cell? ⟨b, 0, none⟩ = some v0 ∧ w.cell? ⟨b, 1, none⟩ = some v1 ∧ w.cell? ⟨b, 2, none⟩ = some v2 ∧ w.cell? ⟨b, 3, none⟩ = some v3 ∧ w.cell? ⟨b, 4, none⟩ = some v4) ∧ (w.frozen? ⟨b, 0, none⟩ = false ∧ w.frozen? ⟨b, 1, none⟩ = false ∧ w.frozen? ⟨b, 2, none⟩ = false ∧ w.frozen? ⟨b, 3, none⟩ = false ∧ w.frozen? ⟨b, 4, none⟩ = false) :=
 ⟨⟨ja h 0, ja h 1, ja h 2, ja h 3, ja h 4⟩, ⟨jd h 0, jd h 1, jd h 2, jd h 3, jd h 4⟩⟩
abbrev TB (W : World) (b : Nat) (p : Ty) (ao : Option Addr) (cap : Nat) : Prop := W.heap[b]? = some (.cells (jh p ao cap) 26 (0, 0))
abbrev kN (W : World) (b : Nat) (p : Ty) (ao : Option Addr) (cap : Nat) : World :=
 ((((W.setCell ⟨b, 0, none⟩ (.int .i64 p.k)).setCell ⟨b, 1, none⟩ (.int .i64 p.n)).setCell ⟨b, 2, none⟩ (.string p.s)).setCell ⟨b, 3, none⟩ (.int .i64 p.q)).setCell ⟨b, 4, none⟩ (.slice ao p.args.length cap)
theorem TB.set {W : World} {b : Nat} {v0 v1 v2 v3 v4 : Value} (h : W.heap[b]? = some (.cells #[v0, v1, v2, v3, v4] 26 (0, 0))) (q : Ty) (aq : Option Addr) (cq : Nat) : TB (kN W b q aq cq) b q aq cq :=
 jy (jy (jy (jy (jy h 0 _) 1 _) 2 _) 3 _) 4 _
theorem qi {W : World} {b c : Nat} {o : Option Obj} {q : Ty} {aq : Option Addr} {cq : Nat} (h : W.heap[c]? = o) (hne : c ≠ b) : (kN W b q aq cq).heap[c]? = o :=
 jg (jg (jg (jg (jg h hne _ _) hne _ _) hne _ _) hne _ _) hne _ _
theorem kR {N : Nat} {w W : World} {b : Nat} {q : Ty} {aq : Option Addr} {cq : Nat} (h : Below N w W) (hb : N ≤ b) : Below N w (kN W b q aq cq) :=
 ((((h.setCell (p := ⟨b, 0, none⟩) hb _).setCell (p := ⟨b, 1, none⟩) hb _).setCell (p := ⟨b, 2, none⟩) hb _).setCell (p := ⟨b, 3, none⟩) hb _).setCell (p := ⟨b, 4, none⟩) hb _
theorem vo {fn : Func} {t : Tmp} (h : fn.results = #[.cell t 26]) {tmps : Array Value} {w : World} {b : Nat} {p : Ty} {ao : Option Addr} {cap : Nat} (ht : tmps.getD t undef = .pointer (some ⟨b, 0, none⟩)) (hb : TB w b p ao cap) :
 (results fn tmps).run Tryz.prog w = .ok (.agg (jh p ao cap)) w :=
 results_cell_row (h := h) _ _ b 26 _ (0, 0) _ ht hb Tryz.underlying26 rfl (by kernel_rfl)
theorem vJ {w : World} {D : Nat → Prop} {l : List Ty} {ao : Option Addr} {cap : Nat} (h : l = []) : SlD w D l ao cap := by rw [h]; exact ⟨Nat.zero_le _, by unfold ArgsV; trivial⟩
def ju : Array Value := #[.int .i64 0, .int .i64 0, .string ⟨#[]⟩, .int .i64 0, .slice none 0 0]
structure Bt where
 t : Ty
 ao : Option Addr
 cap : Nat
def jO : List Bt → List Value
 | [] => []
 | b :: bs => (jh b.t b.ao b.cap).toList ++ jO bs
theorem yd : ∀ (bs : List Bt), (jO bs).length = bs.length * 5
 | [] => rfl
 | b :: bs => by rw [jO, List.length_append, yd bs, List.length_cons]; show 5 + _ = _; omega
theorem vG : ∀ (bs cs : List Bt), jO (bs ++ cs) = jO bs ++ jO cs
 | [], cs => by simp [jO]
 | b :: bs, cs => by rw [List.cons_append, jO, jO, vG bs cs, List.append_assoc]
theorem tcells_get : ∀ {bs : List Bt} {i j : Nat} (h : i < bs.length), j < 5 → (jO bs)[i * 5 + j]? = (jh bs[i].t bs[i].ao bs[i].cap).toList[j]?
 | b :: bs, 0, j, _, hj => by rw [jO, Nat.zero_mul, Nat.zero_add, List.getElem?_append_left (by show j < 5; exact hj)]; rfl
 | b :: bs, i + 1, j, h, hj => by
  rw [jO, List.getElem?_append_right (by show 5 ≤ _; omega)]
  show (jO bs)[(i + 1) * 5 + j - 5]? = _
  rw [show (i + 1) * 5 + j - 5 = i * 5 + j from by omega, tcells_get (by simpa using h) hj]
  rfl
theorem ty_one (b : Bt) : ∀ u ∈ (jh b.t b.ao b.cap).toList, u.oneCell' = true := by
 intro u hu;simp [jh] at hu
 rcases hu with rfl | rfl | rfl | rfl | rfl <;> rfl
theorem tcells_one : ∀ (bs : List Bt), ∀ u ∈ jO bs, u.oneCell' = true
 | b :: bs, u, hu => by
  rw [jO, List.mem_append] at hu
  rcases hu with hu | hu
  · exact ty_one b u hu
  · exact tcells_one bs u hu
structure OwnT (B : Nat) (w : World) (D : Nat → Prop) (v : Value) (bs : List Bt) : Prop where
 own : w.ownsRow B 26 5 v bs.length (jO bs)
 sl : ∀ b ∈ bs, SlD w D b.t.args b.ao b.cap
theorem OwnT.nil (B : Nat) (w : World) (D : Nat → Prop) : OwnT B w D (.slice none 0 0) [] := ⟨World.ownsRow_nil _ _ _ _, fun b h => by cases h⟩
theorem OwnT.read {B : Nat} {w : World} {D D' : Nat → Prop} {v : Value} {bs : List Bt} (h : OwnT B w D v bs) (hD : ∀ b, D b → D' b) (hv : ∀ b, v.ownBlock = some b → D' b) : ∃ ao cap, v = .slice ao bs.length cap ∧ SlD w D' (bs.map Bt.t) ao cap := by
 rcases h.own.2 with ⟨rfl, h0⟩ | ⟨g, cap, cur, rfl, hB, hg, hc, hm, hs, ht⟩
 · have hb : bs = [] := List.eq_nil_of_length_eq_zero h0;subst hb;exact ⟨none, 0, rfl, Nat.le_refl _, by unfold ArgsV; trivial⟩
 · refine ⟨_, cap, rfl, ⟨by simpa using hc, ArgsV.of fun k hk => ?_⟩⟩;have hk' : k < bs.length := by simpa using hk
   refine ⟨g, 0, (jh bs[k].t bs[k].ao bs[k].cap).toList, rfl, hv g rfl, fun j hj => ?_, ?_⟩
   · have h4 := tcells_get hk' hj;rw [← ht, List.getElem?_take, if_pos (by omega), Array.getElem?_toList] at h4;rw [ja hg, Nat.zero_add, Nat.zero_add];exact h4
   · rw [List.getElem_map];exact TyV.mk' ((h.sl _ (List.getElem_mem hk')).mono hD)
theorem info26 : (Tryz.prog.info? 26).map (fun i => (i.zero, i.size, i.bytes)) = some (some (.agg #[.int .i64 0, .int .i64 0, .string ⟨#[]⟩, .int .i64 0, .slice none 0 0]), 5, 64) := by kernel_rfl
theorem yh {w W W' : World} {r r' : Option Nat} (h : w.grownBy W r) (hg : W.grownBy W' r') (hr : r' = r ∨ ∀ g, r' = some g → w.heap.size ≤ g) : w.grownBy W' r :=
 ⟨hg.os.trans h.os, hg.tape.trans h.tape, hg.output.trans h.output, Nat.le_trans h.size hg.size, fun k hk hne => (hg.block k (Nat.lt_of_lt_of_le hk h.size) (fun e => by
  rcases hr with rfl | hr
  · exact hne e
  · have := hr k e.symm; omega)).trans (h.block k hk hne)⟩
theorem node_any (k a : Int) (ao : Option Addr) (n cap : Nat) (w : World) : Calls Tryz.prog 28 #[.int .i64 k, .int .i64 a, .slice ao n cap] w fun e w' => e = .returned (.agg #[.int .i64 k, .int .i64 a, .string ⟨#[]⟩, .int .i64 0, .slice ao n cap]) ∧ Below w.heap.size w w' := by
 obtain ⟨W, hW⟩ : ∃ W, W = w.alloc (.cells ju 26) := ⟨_, rfl⟩
 have hbW : Below w.heap.size w W := by rw [hW]; exact jk (Below.refl _ _) _
 have hrW : W.heap[w.heap.size]? = some (.cells ju 26 (0, 0)) := by rw [hW]; exact heap_alloc_new w _
 have HBW := lh hbW;have HRW := lh hrW;unfold ju at hW hrW;obtain ⟨⟨c0, c1, c2, c3, c4⟩, ⟨z0, z1, z2, z3, z4⟩⟩ := jC hrW;clear hbW hrW;go_enter Tryz.func28, Tryz.ntmps28
 go_upto_region 1 with fail
 rw [← hW];clear hW;go_wp2_with fail
 have hr := HRW.out;unfold ju at hr;refine bodyPost_ret (v := .agg #[.int .i64 k, .int .i64 a, .string ⟨#[]⟩, .int .i64 0, .slice ao n cap]) (results_cell_row rfl _ _ w.heap.size 26 _ (0, 0) _ rfl (jy (jy (jy (jy (jy hr 0 (.int .i64 k)) 1 (.int .i64 a)) 2 (.string ⟨#[]⟩)) 3 (.int .i64 0)) 4 (.slice ao n cap)) Tryz.underlying26 rfl (by kernel_rfl)) rfl ⟨rfl, ?_⟩;exact ((((HBW.out.setCell (p := ⟨w.heap.size, 0, none⟩) (Nat.le_refl _) _).setCell (p := ⟨w.heap.size, 1, none⟩) (Nat.le_refl _) _).setCell (p := ⟨w.heap.size, 2, none⟩) (Nat.le_refl _) _).setCell (p := ⟨w.heap.size, 3, none⟩) (Nat.le_refl _) _).setCell (p := ⟨w.heap.size, 4, none⟩) (Nat.le_refl _) _
theorem Rd.word {E : Env} {w : World} {i d : Nat} (h : Rd E w i d) {j : Nat} (hk : E.P.K j = 6) : E.P.T j ∈ kO := by
 have hj := K_lt (P := E.P) (i := j) (by rw [hk]; decide);rw [(Src.at' hj).2.2.1];refine h.ok.words _ (List.getElem_mem hj) ?_;have := (Src.at' hj).1;omega
theorem Rd.sign {E : Env} {w : World} {i d : Nat} (h : Rd E w i d) {j : Nat} (hk : E.P.K j = 7) : E.P.T j ∈ signsA := by
 have hj := K_lt (P := E.P) (i := j) (by rw [hk]; decide);rw [(Src.at' hj).2.2.1];refine h.ok.signs _ (List.getElem_mem hj) ?_;have := (Src.at' hj).1;omega
theorem one_any (P : Src) (l : List ByteArray) (i : Nat) : jK P l i = (decide (P.K i = 6 ∨ P.K i = 7) && anyB l (P.T i)) := rfl
theorem begins_any (E : Env) (w : World) (i d : Nat) (h : Rd E w i d) : Calls Tryz.prog 130 #[pr E] w fun e w' => e = .returned (.bool (kh E.P i)) ∧ Below w.heap.size w w' := by
 have HNOW := lh (now_any E w i d h);have H := lh h;have hts := h.tsize i;obtain ⟨b, hb⟩ : ∃ b, b = kh E.P i := ⟨_, rfl⟩
 rw [← hb];have HB := lh hb;have H7 : Hid (∀ w' : World, Calls Tryz.prog 62 #[.string t_be7, .string (E.P.T i)] w' fun e w2 => e = .returned (.bool (qp t_be7 (E.P.T i))) ∧ w2 = w') := lh (fun w' => qL t_be7 (E.P.T i) w' (by decide) hts);have H6 : Hid (∀ w' : World, Calls Tryz.prog 62 #[.string t_be6, .string (E.P.T i)] w' fun e w2 => e = .returned (.bool (qp t_be6 (E.P.T i))) ∧ w2 = w') := lh (fun w' => qL t_be6 (E.P.T i) w' (by decide) hts);unfold qb at HNOW;unfold pr at HNOW ⊢;clear h hb hts;go_enter Tryz.func130, Tryz.ntmps130
 go_upto_region 2 with (first | (go_at_call 35; refine HNOW.out.mono ?_; rintro e w1 ⟨rfl, hb1⟩; have HB1 := lh hb1; clear hb1))
 obtain ⟨W, hW⟩ : ∃ W, W = w1.alloc (.cells #[.int .i64 (E.P.K i), .int .i64 (E.P.A i : Int), .string (E.P.T i), .int .i64 (E.P.N i : Int)] 59) := ⟨_, rfl⟩
 obtain ⟨hbW, hrW⟩ := qs hW HB1.out;rw [← hW];obtain ⟨c0, c1, c2, c3⟩ := jU hrW;have HBW := lh hbW;clear hW hbW hrW
 by_cases h1 : E.P.K i = 1
 · have e1 : (E.P.K i == 1) = true := (by simp [h1]);have hb1 : b = true := (by rw [HB.out]; unfold kh; simp [h1]);have HB1 := lh hb1;clear h1 hb1;go_wp2_with fail
   go_ret
   exact ⟨by rw [HB1.out]; rfl, HBW.out⟩
 have e1 : (E.P.K i == 1) = false := by simp [h1]
 by_cases h2 : E.P.K i = 2
 · have e2 : (E.P.K i == 2) = true := (by simp [h2]);have hb1 : b = true := (by rw [HB.out]; unfold kh; simp [h2]);have HB1 := lh hb1;clear h1 h2 hb1;go_wp2_with fail
   go_ret
   exact ⟨by rw [HB1.out]; rfl, HBW.out⟩
 have e2 : (E.P.K i == 2) = false := by simp [h2]
 by_cases h3 : E.P.K i = 3
 · have e3 : (E.P.K i == 3) = true := (by simp [h3]);have hb1 : b = true := (by rw [HB.out]; unfold kh; simp [h3]);have HB1 := lh hb1;clear h1 h2 h3 hb1;go_wp2_with fail
   go_ret
   exact ⟨by rw [HB1.out]; rfl, HBW.out⟩
 have e3 : (E.P.K i == 3) = false := by simp [h3]
 by_cases h4 : E.P.K i = 4
 · have e4 : (E.P.K i == 4) = true := (by simp [h4]);have hb1 : b = true := (by rw [HB.out]; unfold kh; simp [h4]);have HB1 := lh hb1;clear h1 h2 h3 h4 hb1;go_wp2_with fail
   go_ret
   exact ⟨by rw [HB1.out]; rfl, HBW.out⟩
 have e4 : (E.P.K i == 4) = false := by simp [h4]
 by_cases h7 : E.P.K i = 7
 · have e7 : (E.P.K i == 7) = true := (by simp [h7]);have hb1 : b = qp t_be7 (E.P.T i) := (by rw [HB.out, has_be7 _ (H.out.sign h7)]; unfold kh; rw [one_any, h7]; rfl);have HB1 := lh hb1;clear h1 h2 h3 h4 h7 hb1;go_wp2_with (first | (go_at_call 62; refine (H7.out W).mono ?_; rintro e w2 ⟨rfl, hw2⟩; subst hw2))
   go_ret
   exact ⟨by rw [HB1.out]; rfl, HBW.out⟩
 have e7 : (E.P.K i == 7) = false := by simp [h7]
 by_cases h6 : E.P.K i = 6
 · have e6 : (E.P.K i == 6) = true := (by simp [h6]);have hb1 : b = qp t_be6 (E.P.T i) := (by rw [HB.out, has_be6 _ (H.out.word h6)]; unfold kh; rw [one_any, h6]; rfl);have HB1 := lh hb1;clear h1 h2 h3 h4 h7 h6 hb1;go_wp2_with (first | (go_at_call 62; refine (H6.out W).mono ?_; rintro e w2 ⟨rfl, hw2⟩; subst hw2))
   go_ret
   exact ⟨by rw [HB1.out]; rfl, HBW.out⟩
 have e6 : (E.P.K i == 6) = false := by simp [h6]
 have hb1 : b = false := by
  rw [HB.out]; unfold kh; rw [one_any, decide_eq_false (show ¬ (1 ≤ E.P.K i ∧ E.P.K i ≤ 4) by omega), decide_eq_false (show ¬ (E.P.K i = 6 ∨ E.P.K i = 7) by omega)]; rfl
 have HB1 := lh hb1;clear h1 h2 h3 h4 h7 h6 hb1;go_wp2_with fail
 go_ret
 exact ⟨by rw [HB1.out]; rfl, HBW.out⟩
theorem oneD_lt {P : Src} {l : List ByteArray} {i : Nat} (h : jK P l i = true) : i < P.toks.length := by
 unfold jK at h;refine K_lt (P := P) ?_;simp only [Bool.and_eq_true, decide_eq_true_eq] at h;have := h.1;omega
theorem sign_any (E : Env) (w : World) (i d j : Nat) (h : Rd E w i d) (hj : j < 7) : Calls Tryz.prog 79 #[pr E, .int .i64 (j : Int)] w fun e w' => e = .returned (.tuple #[.string (E.P.T i), .bool (jK E.P (lvL (7 - j)) i)]) ∧ Rd E w' (if jK E.P (lvL (7 - j)) i = true then i + 1 else i) d ∧ w.grownBy w' (some E.rb) := by
 have HNOW := lh (now_any E w i d h);have H := lh h;have hts := h.tsize i;have hi9 : i ≤ 100000 := Nat.le_trans h.le h.ok.len;obtain ⟨b, hb⟩ : ∃ b, b = jK E.P (lvL (7 - j)) i := ⟨_, rfl⟩
 have hbl : b = true → i < E.P.toks.length := fun e => oneD_lt (by rw [← hb]; exact e)
 rw [← hb];have HB := lh hb;have HBL := lh hbl;have HHAS : Hid (∀ w' : World, Calls Tryz.prog 62 #[.string (lvT j), .string (E.P.T i)] w' fun e w2 => e = .returned (.bool (qp (lvT j) (E.P.T i))) ∧ w2 = w') := lh (fun w' => qL (lvT j) (E.P.T i) w' (vE j) hts);unfold qb at HNOW;unfold pr at HNOW ⊢;clear h hb hts hbl;go_enter Tryz.func79, Tryz.ntmps79
 go_upto_region 2 with (first | (go_at_call 35; refine HNOW.out.mono ?_; rintro e w1 ⟨rfl, hb1⟩; have HB1 := lh hb1; clear hb1))
 obtain ⟨W, hW⟩ : ∃ W, W = w1.alloc (.cells #[.int .i64 (E.P.K i), .int .i64 (E.P.A i : Int), .string (E.P.T i), .int .i64 (E.P.N i : Int)] 59) := ⟨_, rfl⟩
 obtain ⟨hbW, hrW⟩ := qs hW HB1.out;rw [← hW];obtain ⟨c0, c1, c2, c3⟩ := jU hrW;have hR := H.out.keep hbW;have HR := lh hR;have HBW := lh hbW;have HWR := lh hrW;have HW1 := lh HB1.out.size;have l0 := (hR.gl.1 j hj).1;have k0 : (0 : Int) ≤ (j : Int) := by omega
 have k1 : (j : Int) < 7 := by omega
 have n1 : ¬ (w1.heap.size = E.rb) := by have := H.out.ltr; have := HW1.out; omega
 have n2 : ¬ (E.rb = w1.heap.size) := fun e => n1 e.symm
 clear hW hbW hrW hR
 by_cases hk : E.P.K i = 6 ∨ E.P.K i = 7
 · have hb1 : b = qp (lvT j) (E.P.T i) := by
    rw [HB.out, one_any, decide_eq_true hk, Bool.true_and];rcases hk with hk | hk
    · exact (has_lv hj _ (List.mem_append_left _ (H.out.word hk))).symm
    · exact (has_lv hj _ (List.mem_append_right _ (H.out.sign hk))).symm
   rw [← hb1] at HHAS;clear hb1;rcases hk with hk | hk
   · have e7 : (E.P.K i == 7) = false := (by simp [hk]);have e6 : (E.P.K i == 6) = true := (by simp [hk]);clear hk;go_quiet (exact Calls.quiet_of_same (HHAS.out _))
     obtain ⟨V, hV⟩ : ∃ V : World, V = W.drewN nq := ⟨_, rfl⟩
     rw [← hV];have hbV : Below W.heap.size W V := (by rw [hV]; exact below_drewN (Below.refl _ _) _);have hRV := HR.out.keep hbV;have hrV := jo HWR.out hbV (lt_of_block HWR.out);clear c0 c1 c2 c3 l0;obtain ⟨⟨r0, r1, r2, r3, r4⟩, ⟨z0, z1, z2, z3, z4⟩⟩ := hRV.cells;obtain ⟨c0, c1, c2, c3⟩ := jU hrV;have HRV := lh hRV;have HGV : Hid (w.grownBy V (some E.rb)) := lh (jr (ji HBW.out _) (ji hbV _));clear hV hbV hRV hrV
     cases b with
     | true =>
      have hlt := HBL.out rfl;go_wp2_with fail
      go_ret2
      have hr := HRV.out.seti (j := i + 1) (by omega);exact ⟨rfl, by simpa using hr, jr HGV.out (jX _ _ _ _)⟩
     | false =>
      go_wp2_with fail
      go_ret2
      exact ⟨rfl, by simpa using HRV.out, HGV.out⟩
   · have e7 : (E.P.K i == 7) = true := (by simp [hk]);clear hk;go_quiet (exact Calls.quiet_of_same (HHAS.out _))
     obtain ⟨V, hV⟩ : ∃ V : World, V = W.drewN nq := ⟨_, rfl⟩
     rw [← hV];have hbV : Below W.heap.size W V := (by rw [hV]; exact below_drewN (Below.refl _ _) _);have hRV := HR.out.keep hbV;have hrV := jo HWR.out hbV (lt_of_block HWR.out);clear c0 c1 c2 c3 l0;obtain ⟨⟨r0, r1, r2, r3, r4⟩, ⟨z0, z1, z2, z3, z4⟩⟩ := hRV.cells;obtain ⟨c0, c1, c2, c3⟩ := jU hrV;have HRV := lh hRV;have HGV : Hid (w.grownBy V (some E.rb)) := lh (jr (ji HBW.out _) (ji hbV _));clear hV hbV hRV hrV
     cases b with
     | true =>
      have hlt := HBL.out rfl;go_wp2_with fail
      go_ret2
      have hr := HRV.out.seti (j := i + 1) (by omega);exact ⟨rfl, by simpa using hr, jr HGV.out (jX _ _ _ _)⟩
     | false =>
      go_wp2_with fail
      go_ret2
      exact ⟨rfl, by simpa using HRV.out, HGV.out⟩
 · have hb1 : b = false := (by rw [HB.out, one_any, decide_eq_false hk, Bool.false_and]);subst hb1;have e7 : (E.P.K i == 7) = false := (by simp; omega);have e6 : (E.P.K i == 6) = false := (by simp; omega);clear hk;go_quiet (fail)
   obtain ⟨V, hV⟩ : ∃ V : World, V = W.drewN nq := ⟨_, rfl⟩
   rw [← hV];have hbV : Below W.heap.size W V := (by rw [hV]; exact below_drewN (Below.refl _ _) _);have hRV := HR.out.keep hbV;have hrV := jo HWR.out hbV (lt_of_block HWR.out);clear c0 c1 c2 c3 l0;obtain ⟨⟨r0, r1, r2, r3, r4⟩, ⟨z0, z1, z2, z3, z4⟩⟩ := hRV.cells;obtain ⟨c0, c1, c2, c3⟩ := jU hrV;have HRV := lh hRV;have HGV : Hid (w.grownBy V (some E.rb)) := lh (jr (ji HBW.out _) (ji hbV _));clear hV hbV hRV hrV;go_wp2_with fail
   go_ret2
   exact ⟨rfl, by simpa using HRV.out, HGV.out⟩
theorem Rd.keepB {E : Env} {w w' : World} {i d N : Nat} (h : Rd E w i d) (hb : Below N w w') (hN : E.B ≤ N) : Rd E w' i d := by
 have hr := h.low.1;refine ⟨jo h.row hb (by omega), fun k hk => ?_, ⟨h.low.1, Nat.le_trans h.low.2 hb.size⟩, h.ok, h.le, h.d60, h.gl.of (fun k => hb.cell (p := ⟨0, k, none⟩) (by have := h.g2; show 0 < _; omega)) (fun k => hb.cell (p := ⟨2, k, none⟩) (by have := h.g2; show 2 < _; omega)), h.g2⟩;obtain ⟨b, off, h1, h2, h3, h4⟩ := h.tk k hk;exact ⟨b, off, h1, h2, h3, fun j hj => (hb.cell (p := ⟨b, _, none⟩) (Nat.lt_of_lt_of_le h3 hN)).trans (h4 j hj)⟩
def NdQ (w : World) (x : Ty) (v : Value) (w' : World) : Prop := ∃ ao cap, v = .agg (jh x ao cap) ∧ SlD w' (fun b => w.heap.size ≤ b ∧ b < w'.heap.size) x.args ao cap
def OwQ (w : World) (l : List Ty) (v : Value) (w' : World) : Prop := ∃ (bs : List Bt) (D : Nat → Prop), bs.map Bt.t = l ∧ OwnT w.heap.size w' D v bs ∧ ∀ b, D b → w.heap.size ≤ b ∧ b < w'.heap.size ∧ v.ownBlock ≠ some b
def NdO (w : World) (x : Ty) (v : Value) (w' : World) : Prop := ∃ ao cap, v = .agg (jh x ao cap) ∧ OwQ w x.args (.slice ao x.args.length cap) w'
theorem gr_cells {rb : Nat} {w w' : World} (h : w.grownBy w' (some rb)) {D : Nat → Prop} (hD : ∀ b, D b → b < w.heap.size ∧ b ≠ rb) : ∀ b, D b → ∀ off, w'.cell? ⟨b, off, none⟩ = w.cell? ⟨b, off, none⟩ := fun b hb off => World.cell?_of_block (h.block b (hD b hb).1 (fun e => (hD b hb).2 (Option.some.inj e)))
theorem OwnT.gr {B rb : Nat} {w w' : World} {D : Nat → Prop} {v : Value} {bs : List Bt} (h : OwnT B w D v bs) (hg : w.grownBy w' (some rb)) (hrb : rb < B) (hD : ∀ b, D b → b < w.heap.size ∧ b ≠ rb) : OwnT B w' D v bs :=
 ⟨h.own.kept hg (.inr fun e => by have := (h.own.lt rb e).1; omega), fun b hm => (h.sl b hm).keep (gr_cells hg hD)⟩
theorem OwnT.one {B : Nat} {w1 W : World} {D : Nat → Prop} (x : Bt) (hW : W = w1.alloc (.cells (jh x.t x.ao x.cap) 26)) (hB : B ≤ w1.heap.size) (hs : SlD w1 D x.t.args x.ao x.cap) (hD : ∀ b, D b → b < w1.heap.size) : OwnT B W D (.slice (some ⟨w1.heap.size, 0, none⟩) 1 1) [x] := by
 refine ⟨?_, fun b hb => ?_⟩
 · have h := World.ownsRow_lit (base := B) (e := 26) (size := 5) w1 (jh x.t x.ao x.cap) 1 hB (by decide) rfl;rw [hW];have e : jO [x] = (jh x.t x.ao x.cap).toList := (by rw [jO, jO, List.append_nil]);rw [e];exact h
 · rw [List.mem_singleton] at hb;subst hb;refine hs.keep fun d hd off => ?_
   rw [hW];exact (jk (Below.refl w1.heap.size w1) _).cell (p := ⟨d, off, none⟩) (hD d hd)
theorem vY {α : Type} (P : Src) (item : M α) (s : ByteArray) (f : Nat) (acc : List α) (i : Nat) : ku P item s (f + 1) acc i = if isD P s i = true then (item >>= fun x => ku P item s f (acc ++ [x])) (i + 1) else .ok acc i := rfl
theorem tk_fieldK (P : Src) (i : Nat) (w : World) : (Instr.field 59 (.agg #[.int .i64 (P.K i), .int .i64 (P.A i : Int), .string (P.T i), .int .i64 (P.N i : Int)]) 0).run Tryz.prog w = .ok (.int .i64 (P.K i)) w := by kernel_rfl
theorem tk_fieldA (P : Src) (i : Nat) (w : World) : (Instr.field 59 (.agg #[.int .i64 (P.K i), .int .i64 (P.A i : Int), .string (P.T i), .int .i64 (P.N i : Int)]) 1).run Tryz.prog w = .ok (.int .i64 (P.A i : Int)) w := by kernel_rfl
theorem tk_fieldN (P : Src) (i : Nat) (w : World) : (Instr.field 59 (.agg #[.int .i64 (P.K i), .int .i64 (P.A i : Int), .string (P.T i), .int .i64 (P.N i : Int)]) 3).run Tryz.prog w = .ok (.int .i64 (P.N i : Int)) w := by kernel_rfl
theorem kM {rb p : Nat} {w w' : World} {x : Obj} (hg : w.grownBy w' (some rb)) (h : w.heap[p]? = some x) (hne : p ≠ rb) : w'.heap[p]? = some x := by
 rw [hg.block p (lt_of_block h) (fun e => hne (Option.some.inj e))];exact h
def Nw (w wk : World) (X : Nat → Prop) (b : Nat) : Prop := w.heap.size < b ∧ b < wk.heap.size ∧ ¬ X b
structure Fb (E : Env) (w : World) (d : Nat) (wk : World) (j : Nat) : Prop where
 R : Rd E wk j d
 G : w.grownBy wk (some E.rb)
 r0 : wk.heap[w.heap.size]? = some (.cells ju 26 (0, 0))
 rb : E.rb < w.heap.size
theorem Fb.lt {E : Env} {w wk : World} {d j : Nat} (h : Fb E w d wk j) : w.heap.size < wk.heap.size := lt_of_block h.r0
theorem Fb.start {E : Env} {w W : World} {d i : Nat} (h : Rd E w i d) (hW : W = w.alloc (.cells ju 26)) : Fb E w d W i := by
 have hb : Below w.heap.size w W := by rw [hW]; exact jk (Below.refl _ _) _
 exact ⟨h.keep hb, ji hb _, by rw [hW]; exact heap_alloc_new w _, h.ltr⟩
structure Vb (w : World) (nb t : Nat) (row : Array Value) (wk : World) : Prop where
 row : wk.heap[nb]? = some (.cells row t (0, 0))
 lt : w.heap.size < nb
theorem Vb.gr {w w1 w2 : World} {nb t rb : Nat} {row : Array Value} (h : Vb w nb t row w1) (hg : w1.grownBy w2 (some rb)) (hrb : rb < w.heap.size) : Vb w nb t row w2 := ⟨kM hg h.row (by have := h.lt; omega), h.lt⟩
theorem Vb.new {w w1 W : World} {t : Nat} {row : Array Value} (hW : W = w1.alloc (.cells row t)) (hl : w.heap.size < w1.heap.size) : Vb w w1.heap.size t row W := ⟨by rw [hW]; exact heap_alloc_new w1 _, hl⟩
def Kd (w wk : World) (X : Nat → Prop) (l : List Ty) (ao : Option Addr) (cap : Nat) : Prop := SlD wk (Nw w wk X) l ao cap
theorem Kd.gr {w w1 w2 : World} {X : Nat → Prop} {rb cap : Nat} {l : List Ty} {ao : Option Addr} (h : Kd w w1 X l ao cap) (hg : w1.grownBy w2 (some rb)) (hrb : rb < w.heap.size) : Kd w w2 X l ao cap :=
 (SlD.keep h (gr_cells hg (fun b hb => ⟨hb.2.1, by have := hb.1; omega⟩))).mono fun b hb => ⟨hb.1, Nat.lt_of_lt_of_le hb.2.1 hg.size, hb.2.2⟩
theorem Kd.of {w w1 w2 : World} {X : Nat → Prop} {cap : Nat} {l : List Ty} {ao : Option Addr} (h : SlD w2 (fun b => w1.heap.size ≤ b ∧ b < w2.heap.size) l ao cap) (hl : w.heap.size < w1.heap.size) (hn : ∀ b, X b → b < w1.heap.size) : Kd w w2 X l ao cap := h.mono fun b hb => ⟨by omega, hb.2, fun e => by have := hn b e; omega⟩
theorem Kd.nil (w wk : World) (X : Nat → Prop) (ao : Option Addr) (cap : Nat) : Kd w wk X [] ao cap := vJ rfl
theorem Kd.set {w w1 : World} {X : Nat → Prop} {cap q k : Nat} {v : Value} {l : List Ty} {ao : Option Addr} (h : Kd w w1 X l ao cap) (hq : q ≤ w.heap.size ∨ X q) : Kd w (w1.setCell ⟨q, k, none⟩ v) X l ao cap := by
 refine (SlD.keep h fun b hb off => World.cell?_of_block (a := ⟨b, off, none⟩) (jg rfl ?_ k v)).mono fun b hb => ⟨hb.1, by rw [World.size_setCell]; exact hb.2.1, hb.2.2⟩
 have h1 := hb.1;have h2 := hb.2.2
 show b ≠ q
 intro e;rcases hq with hq | hq
 · omega
 · exact h2 (e ▸ hq)
theorem Vb.set {w w1 : World} {nb t : Nat} {row : Array Value} (h : Vb w nb t row w1) (k : Nat) (v : Value) : Vb w nb t (row.setIfInBounds k v) (w1.setCell ⟨nb, k, none⟩ v) := ⟨jy h.row k v, h.lt⟩
theorem Fb.set {E : Env} {w w1 : World} {d j nb t : Nat} {row : Array Value} (f : Fb E w d w1 j) (h : Vb w nb t row w1) (hB : E.B ≤ w.heap.size) (k : Nat) (v : Value) : Fb E w d (w1.setCell ⟨nb, k, none⟩ v) j := by
 have hl := h.lt;have hb : Below w.heap.size w1 (w1.setCell ⟨nb, k, none⟩ v) := (Below.refl w.heap.size w1).setCell (p := ⟨nb, k, none⟩) (Nat.le_of_lt hl) _;refine ⟨f.R.keepB hb hB, yh f.G (jX w1 nb k v) (.inr fun g hg => ?_), jg f.r0 (by omega) k v, f.rb⟩;have := Option.some.inj hg;omega
theorem Vb.other {w w1 : World} {nb nb2 t : Nat} {row : Array Value} (h : Vb w nb t row w1) (hne : nb ≠ nb2) (k : Nat) (v : Value) : Vb w nb t row (w1.setCell ⟨nb2, k, none⟩ v) := ⟨jg h.row hne k v, h.lt⟩
theorem Fb.fin {E : Env} {w wk : World} {d j : Nat} {X : Nat → Prop} {x : Ty} {ao : Option Addr} {cap : Nat} (f : Fb E w d wk j) (hB : E.B ≤ w.heap.size) (K : Kd w wk X x.args ao cap) : TB (kN wk w.heap.size x ao cap) w.heap.size x ao cap ∧ w.grownBy (kN wk w.heap.size x ao cap) (some E.rb) ∧ Rd E (kN wk w.heap.size x ao cap) j d ∧ NdQ w x (.agg (jh x ao cap)) (kN wk w.heap.size x ao cap) := by
 have h0 := f.r0;unfold ju at h0;have hb : Below w.heap.size wk (kN wk w.heap.size x ao cap) := kR (Below.refl _ _) (Nat.le_refl _);refine ⟨TB.set h0 x ao cap, ?_, f.R.keepB hb hB, ⟨ao, cap, rfl, ?_⟩⟩
 · refine yh f.G ⟨hb.os, hb.tape, hb.output, hb.size, fun k hk hne => ?_⟩ (r' := some w.heap.size) (.inr fun g hg => by have := Option.some.inj hg; omega);exact qi rfl (fun e => hne (by rw [e]))
 · refine (SlD.keep K fun b hb2 off => World.cell?_of_block (a := ⟨b, off, none⟩) (qi rfl (by have := hb2.1; show b ≠ w.heap.size; omega))).mono fun b hb2 => ⟨Nat.le_of_lt hb2.1, Nat.lt_of_lt_of_le hb2.2.1 hb.size⟩
theorem own_up {w : World} {B C : Nat} {v : Value} {n e size : Nat} {xs : List Value} (h : w.ownsRow B e size v n xs) (hC : ∀ g, v.ownBlock = some g → C ≤ g) : w.ownsRow C e size v n xs := by
 refine ⟨h.1, ?_⟩;rcases h.2 with hn | ⟨g, cap, cur, rfl, hb, rest⟩
 · exact .inl hn
 · exact .inr ⟨g, cap, cur, rfl, hC g rfl, rest⟩
def Ow (w wk : World) (X : Nat → Prop) (v : Value) (l : List Ty) : Prop := ∃ (bs : List Bt) (D : Nat → Prop), bs.map Bt.t = l ∧ OwnT (w.heap.size + 1) wk D v bs ∧ (∀ b, D b → Nw w wk X b ∧ v.ownBlock ≠ some b) ∧ ∀ g, v.ownBlock = some g → ¬ X g
theorem Ow.nil (w wk : World) (X : Nat → Prop) : Ow w wk X (.slice none 0 0) [] := ⟨[], fun _ => False, rfl, OwnT.nil _ _ _, fun b h => h.elim, fun g h => by simp [Value.ownBlock] at h⟩
theorem Ow.len {w wk : World} {X : Nat → Prop} {v : Value} {l : List Ty} (h : Ow w wk X v l) : ∃ ao cap, v = .slice ao l.length cap := by
 obtain ⟨bs, D, h1, h2, h3, h4⟩ := h;obtain ⟨ao, cap, e, -⟩ := h2.read (D' := fun _ => True) (fun _ _ => trivial) (fun _ _ => trivial);exact ⟨ao, cap, by rw [e, ← h1, List.length_map]⟩
theorem Ow.lt {w wk : World} {X : Nat → Prop} {v : Value} {l : List Ty} (h : Ow w wk X v l) : ∀ g, v.ownBlock = some g → w.heap.size < g ∧ g < wk.heap.size ∧ ¬ X g := by
 obtain ⟨bs, D, h1, h2, h3, h4⟩ := h;intro g e;have := h2.own.lt g e;exact ⟨by omega, this.2, h4 g e⟩
theorem Ow.kd {w wk : World} {X : Nat → Prop} {l : List Ty} {ao : Option Addr} {n cap : Nat} (h : Ow w wk X (.slice ao n cap) l) : n = l.length ∧ Kd w wk X l ao cap := by
 obtain ⟨bs, D, h1, h2, h3, h4⟩ := h;obtain ⟨ao', cap', e, hs⟩ := h2.read (D' := Nw w wk X) (fun b hb => (h3 b hb).1) (fun b hb => ⟨by have := (h2.own.lt b hb).1; omega, (h2.own.lt b hb).2, h4 b hb⟩);injection e with e1 e2 e3
 subst e1 e2 e3;rw [h1] at hs;exact ⟨by rw [← h1, List.length_map], hs⟩
theorem Ow.fresh {w w1 : World} {X Y : Nat → Prop} {v : Value} {l : List Ty} (h : Ow w w1 X v l) (hy : ∀ a, Y a → X a ∨ w1.heap.size ≤ a) : Ow w w1 Y v l := by
 obtain ⟨bs, D, h1, h2, h3, h4⟩ := h;refine ⟨bs, D, h1, h2, fun b hb => ⟨⟨(h3 b hb).1.1, (h3 b hb).1.2.1, fun hy1 => ?_⟩, (h3 b hb).2⟩, fun g hg hy1 => ?_⟩
 · rcases hy b hy1 with h5 | h5
   · exact (h3 b hb).1.2.2 h5
   · have := (h3 b hb).1.2.1; omega
 · rcases hy g hy1 with h5 | h5
   · exact h4 g hg h5
   · have := (h2.own.lt g hg).2; omega
theorem Kd.fresh {w w1 : World} {X Y : Nat → Prop} {cap : Nat} {l : List Ty} {ao : Option Addr} (h : Kd w w1 X l ao cap) (hy : ∀ a, Y a → X a ∨ w1.heap.size ≤ a) : Kd w w1 Y l ao cap := SlD.mono h fun b hb => ⟨hb.1, hb.2.1, fun h1 => by
 rcases hy b h1 with h5 | h5
 · exact hb.2.2 h5
 · have := hb.2.1; omega⟩
theorem Ow.gr {w w1 w2 : World} {X : Nat → Prop} {rb : Nat} {v : Value} {l : List Ty} (h : Ow w w1 X v l) (hg : w1.grownBy w2 (some rb)) (hrb : rb < w.heap.size) : Ow w w2 X v l := by
 obtain ⟨bs, D, h1, h2, h3, h4⟩ := h;exact ⟨bs, D, h1, h2.gr hg (by omega) (fun b hb => ⟨(h3 b hb).1.2.1, by have := (h3 b hb).1.1; omega⟩), fun b hb => ⟨⟨(h3 b hb).1.1, Nat.lt_of_lt_of_le (h3 b hb).1.2.1 hg.size, (h3 b hb).1.2.2⟩, (h3 b hb).2⟩, h4⟩
theorem Ow.set {w w1 : World} {X : Nat → Prop} {q k : Nat} {x v : Value} {l : List Ty} (h : Ow w w1 X v l) (hq : q ≤ w.heap.size ∨ X q) : Ow w (w1.setCell ⟨q, k, none⟩ x) X v l := by
 obtain ⟨bs, D, h1, h2, h3, h4⟩ := h
 have hne : v.ownBlock ≠ some q := fun e => by
  have := (h2.own.lt q e).1;rcases hq with hq | hq
  · omega
  · exact h4 q e hq
 refine ⟨bs, D, h1, ⟨h2.own.kept (jX w1 q k x) (.inr hne), fun b hb => (h2.sl b hb).keep fun d hd off => World.cell?_of_block (a := ⟨d, off, none⟩) (jg rfl ?_ k x)⟩, fun b hb => ⟨⟨(h3 b hb).1.1, by rw [World.size_setCell]; exact (h3 b hb).1.2.1, (h3 b hb).1.2.2⟩, (h3 b hb).2⟩, h4⟩;have h5 := (h3 d hd).1
 show d ≠ q
 have := h5.1;rcases hq with hq | hq
 · omega
 · intro e;exact h5.2.2 (e ▸ hq)
theorem OwQ.ow {w w1 w2 : World} {X : Nat → Prop} {v : Value} {l : List Ty} (h : OwQ w1 l v w2) (hl : w.heap.size < w1.heap.size) (hn : ∀ a, X a → a < w1.heap.size) : Ow w w2 X v l := by
 obtain ⟨bs, D, h1, h2, h3⟩ := h;exact ⟨bs, D, h1, ⟨own_up h2.own (fun g e => by have := (h2.own.lt g e).1; omega), h2.sl⟩, fun b hb => ⟨⟨by have := (h3 b hb).1; omega, (h3 b hb).2.1, fun e => by have := (h3 b hb).1; have := hn b e; omega⟩, (h3 b hb).2.2⟩, fun g hg e => by have := (h2.own.lt g hg).1; have := hn g e; omega⟩
structure AppG (w A w9 : World) (X : Nat → Prop) (r : Option Nat) : Prop where
 g : A.grownBy w9 r
 new : ∀ b, r = some b → w.heap.size < b ∧ ¬ X b
theorem AppG.below {w A w9 : World} {X : Nat → Prop} {r : Option Nat} (h : AppG w A w9 X r) (hl : w.heap.size ≤ A.heap.size) : Below w.heap.size A w9 := ⟨h.g.os, h.g.tape, h.g.output, h.g.size, fun k hk => h.g.block k (by omega) (fun e => by have := (h.new k e.symm).1; omega)⟩
theorem Fb.own {E : Env} {w A w9 : World} {d j : Nat} {X : Nat → Prop} {r : Option Nat} (f : Fb E w d A j) (hB : E.B ≤ w.heap.size) (hg : AppG w A w9 X r) : Fb E w d w9 j := by
 have hlt := f.lt;have hb := hg.below (Nat.le_of_lt hlt);refine ⟨f.R.keepB hb hB, yh f.G hg.g (.inr fun g e => Nat.le_of_lt (hg.new g e).1), ?_, f.rb⟩;rw [hg.g.block w.heap.size hlt (fun e => by have := (hg.new _ e.symm).1; omega)];exact f.r0
theorem Vb.own {w A w9 : World} {nb t : Nat} {row : Array Value} {X : Nat → Prop} {r : Option Nat} (h : Vb w nb t row A) (hg : AppG w A w9 X r) (hx : X nb) : Vb w nb t row w9 := ⟨by rw [hg.g.block nb (lt_of_block h.row) (fun e => (hg.new nb e.symm).2 hx)]; exact h.row, h.lt⟩
theorem Ow.one {w w1 W : World} {X : Nat → Prop} {x : Ty} {ao : Option Addr} {cap : Nat} (hW : W = w1.alloc (.cells (jh x ao cap) 26)) (hs : Kd w w1 X x.args ao cap) (hl : w.heap.size < w1.heap.size) (hn : ∀ a, X a → a < w1.heap.size) : Ow w W X (.slice (some ⟨w1.heap.size, 0, none⟩) 1 1) [x] := by
 have hr : W.heap[w1.heap.size]? = some (.cells (jh x ao cap) 26 (0, 0)) := by rw [hW]; exact heap_alloc_new w1 _
 have hsz : w1.heap.size < W.heap.size := lt_of_block hr;refine ⟨[⟨x, ao, cap⟩], Nw w w1 X, rfl, OwnT.one ⟨x, ao, cap⟩ hW hl hs (fun b hb => hb.2.1), fun b hb => ⟨⟨hb.1, by have := hb.2.1; omega, hb.2.2⟩, fun e => ?_⟩, fun g e h => ?_⟩
 · have := hb.2.1;simp [Value.ownBlock] at e
   omega
 · simp [Value.ownBlock] at e
   have := hn g h;omega
theorem OwnT.many {B : Nat} {w1 W : World} {D : Nat → Prop} (bs : List Bt) (hW : W = w1.alloc (.cells (jO bs).toArray 26)) (hB : B ≤ w1.heap.size) (hn : bs.length ≤ 1000) (hs : ∀ b ∈ bs, SlD w1 D b.t.args b.ao b.cap) (hD : ∀ b, D b → b < w1.heap.size) : OwnT B W D (.slice (some ⟨w1.heap.size, 0, none⟩) bs.length bs.length) bs := by
 refine ⟨?_, fun b hb => (hs b hb).keep fun d hd off => ?_⟩
 · have h := World.ownsRow_lit (base := B) (e := 26) (size := 5) w1 (jO bs).toArray bs.length hB (by unfold maxLen; omega) (by simp [yd]);rw [hW]
   simpa using h
 · rw [hW];exact (jk (Below.refl w1.heap.size w1) _).cell (p := ⟨d, off, none⟩) (hD d hd)
theorem Ow.many {w w1 W : World} {X : Nat → Prop} (bs : List Bt) (hW : W = w1.alloc (.cells (jO bs).toArray 26)) (hn : bs.length ≤ 1000) (hs : ∀ b ∈ bs, Kd w w1 X b.t.args b.ao b.cap) (hl : w.heap.size < w1.heap.size) (hx : ∀ a, X a → a < w1.heap.size) : Ow w W X (.slice (some ⟨w1.heap.size, 0, none⟩) bs.length bs.length) (bs.map Bt.t) := by
 have hr : W.heap[w1.heap.size]? = some (.cells (jO bs).toArray 26 (0, 0)) := by rw [hW]; exact heap_alloc_new w1 _
 have hsz : w1.heap.size < W.heap.size := lt_of_block hr;refine ⟨bs, Nw w w1 X, rfl, OwnT.many bs hW hl hn hs (fun b hb => hb.2.1), fun b hb => ⟨⟨hb.1, by have := hb.2.1; omega, hb.2.2⟩, fun e => ?_⟩, fun g e h => ?_⟩
 · have := hb.2.1;simp [Value.ownBlock] at e
   omega
 · simp [Value.ownBlock] at e
   have := hx g h;omega
theorem Ow.two {w w1 W : World} {X : Nat → Prop} {x y : Ty} {ao bo : Option Addr} {c d : Nat} (hW : W = w1.alloc (.cells #[.int .i64 x.k, .int .i64 x.n, .string x.s, .int .i64 x.q, .slice ao x.args.length c, .int .i64 y.k, .int .i64 y.n, .string y.s, .int .i64 y.q, .slice bo y.args.length d] 26)) (h1 : Kd w w1 X x.args ao c) (h2 : Kd w w1 X y.args bo d) (hl : w.heap.size < w1.heap.size) (hx : ∀ a, X a → a < w1.heap.size) : Ow w W X (.slice (some ⟨w1.heap.size, 0, none⟩) 2 2) [x, y] :=
 Ow.many [⟨x, ao, c⟩, ⟨y, bo, d⟩] hW (by simp) (fun b hb => by
  rcases List.mem_cons.1 hb with rfl | hb
  · exact h1
  · rw [List.mem_singleton] at hb; subst hb; exact h2) hl hx
theorem Ow.three {w w1 W : World} {X : Nat → Prop} {x y z : Ty} {ao bo co : Option Addr} {c d e : Nat} (hW : W = w1.alloc (.cells #[.int .i64 x.k, .int .i64 x.n, .string x.s, .int .i64 x.q, .slice ao x.args.length c, .int .i64 y.k, .int .i64 y.n, .string y.s, .int .i64 y.q, .slice bo y.args.length d, .int .i64 z.k, .int .i64 z.n, .string z.s, .int .i64 z.q, .slice co z.args.length e] 26)) (h1 : Kd w w1 X x.args ao c) (h2 : Kd w w1 X y.args bo d) (h3 : Kd w w1 X z.args co e) (hl : w.heap.size < w1.heap.size) (hx : ∀ a, X a → a < w1.heap.size) : Ow w W X (.slice (some ⟨w1.heap.size, 0, none⟩) 3 3) [x, y, z] :=
 Ow.many [⟨x, ao, c⟩, ⟨y, bo, d⟩, ⟨z, co, e⟩] hW (by simp) (fun b hb => by
  rcases List.mem_cons.1 hb with rfl | hb
  · exact h1
  · rcases List.mem_cons.1 hb with rfl | hb
    · exact h2
    · rw [List.mem_singleton] at hb; subst hb; exact h3) hl hx
theorem Fb.seti {E : Env} {w wk : World} {d j j' : Nat} (f : Fb E w d wk j) (h : j' ≤ E.P.toks.length) : Fb E w d (wk.setCell ⟨E.rb, 1, none⟩ (.int .i64 (j' : Int))) j' := by
 refine ⟨f.R.seti h, yh f.G (jX wk E.rb 1 _) (.inl rfl), jg f.r0 (by have := f.rb; omega) 1 _, f.rb⟩
theorem failD_cast {α β : Type} {P : Src} {e i x y : Nat} (h : (jE P e i : Res α) = .bad x y) : (jE P e i : Res β) = .bad x y := by
 unfold jE at h ⊢;split at h
 · rename_i h1; rw [if_pos h1]; cases h; rfl
 · rename_i h1; rw [if_neg h1]; cases h; rfl
theorem kind_if {β : Type} (P : Src) (k : Int) (f : ByteArray → M β) (i : Nat) : (jI P k >>= f) i = if P.K i = k then f (P.T i) (i + 1) else jE P 4 i := by
 by_cases h : P.K i = k
 · rw [if_pos h, kq (x := P.T i) (j := i + 1) (by unfold jI; rw [if_pos h])]
 · rw [if_neg h];obtain ⟨a, b, hf, -⟩ := failD_eq (α := ByteArray) P 4 i;rw [ke (k := a) (a := b) (by unfold jI; rw [if_neg h]; exact hf)];exact (failD_cast hf).symm
theorem eat_if {β : Type} (P : Src) (s : ByteArray) (f : Bool → M β) (i : Nat) : (kn P s >>= f) i = if isD P s i = true then f true (i + 1) else f false i := by
 by_cases h : isD P s i = true
 · rw [if_pos h, kq (x := true) (j := i + 1) (by unfold kn; rw [if_pos h])]
 · rw [if_neg h, kq (x := false) (j := i) (by unfold kn; rw [if_neg h])]
theorem Ow.news {w wk : World} {X : Nat → Prop} {v : Value} {l : List Ty} (h : Ow w wk X v l) : ∃ (bs : List Bt) (D : Nat → Prop) (ao : Option Addr) (cap : Nat), bs.map Bt.t = l ∧ (∀ b ∈ bs, SlD wk D b.t.args b.ao b.cap) ∧ (∀ b, D b → Nw w wk X b) ∧ v = .slice ao bs.length cap ∧ (0 < bs.length → ∃ ad, ao = some ad ∧ ∀ j u, (jO bs)[j]? = some u → wk.cell? (ad.add j) = some u) := by
 obtain ⟨bs, D, h1, h2, h3, h4⟩ := h;rcases h2.own.2 with ⟨rfl, h0⟩ | ⟨g, cap, cur, rfl, hB, hg, hc, hm, hs, ht⟩
 · exact ⟨bs, D, none, 0, h1, h2.sl, fun b hb => (h3 b hb).1, by rw [h0], fun h => by omega⟩
 · refine ⟨bs, D, _, cap, h1, h2.sl, fun b hb => (h3 b hb).1, rfl, fun _ => ⟨_, rfl, fun j u hu => ?_⟩⟩;have hadd : (⟨g, 0, none⟩ : Addr).add j = ⟨g, j, none⟩ := (by unfold Addr.add; split <;> simp_all);rw [hadd, ja hg];rw [← ht, List.getElem?_take] at hu;split at hu
   · rw [← Array.getElem?_toList]; exact hu
   · cases hu
theorem run_app {w A : World} {X Y : Nat → Prop} {v1 v2 : Value} {l1 l2 : List Ty} (ty : TypeId) (h1 : Ow w A X v1 l1) (h2 : Ow w A Y v2 l2) (hY : ∀ a, X a ∨ v1.ownBlock = some a → Y a) (hl : w.heap.size < A.heap.size) (hX : ∀ a, X a → a < A.heap.size) (hn : l1.length + l2.length ≤ 1099511627776) :
 ∃ ao cap L w9, (Builtin.append_ #[24, 24] ty #[v1, v2]).run Tryz.prog A = .ok (.slice ao L.length cap) w9 ∧ L = l1 ++ l2 ∧ Ow w w9 X (.slice ao L.length cap) L ∧ AppG w A w9 X v1.ownBlock := by
 obtain ⟨i26, hi, hz0, hz1, hz2⟩ := info_parts info26;have hlt1 := h1.lt;obtain ⟨bs, D, e1, own1, hD, hx1⟩ := h1;obtain ⟨cs, D2, ao2, cap2, e2, sl2, hD2, ev2, hnews⟩ := h2.news;have en1 : l1.length = bs.length := by rw [← e1, List.length_map]
 have en2 : l2.length = cs.length := by rw [← e2, List.length_map]
 have hb63 : bs.length + cs.length ≤ maxLen := by unfold maxLen; omega
 have hrun : ∃ v' w', (Builtin.append_ #[24, 24] ty #[v1, v2]).run Tryz.prog A = .ok v' w' ∧ w'.ownsRow (w.heap.size + 1) 26 5 v' (bs.length + cs.length) (jO bs ++ jO cs) ∧ A.grownBy w' v1.ownBlock ∧ (v'.ownBlock = v1.ownBlock ∨ v'.ownBlock = some A.heap.size) := by
  rw [ev2]
  by_cases hm : cs.length = 0
  · have hc : cs = [] := List.eq_nil_of_length_eq_zero hm;subst hc;exact ⟨v1, A, vd (w.heap.size + 1) 24 ty 26 i26 5 Tryz.underlying24 hi v1 bs.length (jO bs) own1.own ao2 cap2, by simpa [jO] using own1.own, World.grownBy.refl _ _, .inl rfl⟩
  · obtain ⟨ad, rfl, hc⟩ := hnews (by omega);obtain ⟨v', w', hr, h3, h4, _, h5⟩ := run_append_own_at (P := Tryz.prog) A (w.heap.size + 1) 24 ty 26 i26 _ 5 64 Tryz.underlying24 hi hz0 hz1 hz2 rfl (by decide) v1 bs.length (jO bs) own1.own ad cs.length cap2 (jO cs) (yd cs) hc (tcells_one cs) hb63 (by omega) hl;exact ⟨v', w', hr, h3, h4, h5⟩
 obtain ⟨v', w9, hr, hown, hg, hat⟩ := hrun;have hs9 := hg.size;have hc9 : ∀ b, b < A.heap.size → v1.ownBlock ≠ some b → ∀ off, w9.cell? ⟨b, off, none⟩ = A.cell? ⟨b, off, none⟩ := fun b hb hne off => World.cell?_of_block (hg.block b hb (fun e => hne e.symm))
 have hA : AppG w A w9 X v1.ownBlock := ⟨hg, fun b e => ⟨(hlt1 b e).1, (hlt1 b e).2.2⟩⟩;have hD2' : ∀ b, D2 b → w.heap.size < b ∧ b < A.heap.size ∧ ¬ X b ∧ v1.ownBlock ≠ some b := fun b hb => ⟨(hD2 b hb).1, (hD2 b hb).2.1, fun e => (hD2 b hb).2.2 (hY b (.inl e)), fun e => (hD2 b hb).2.2 (hY b (.inr e))⟩
 have hO : Ow w w9 X v' (l1 ++ l2) := by
  refine ⟨bs ++ cs, fun b => D b ∨ D2 b, by rw [List.map_append, e1, e2], ⟨?_, fun b hb => ?_⟩, fun b hb => ?_, fun g hg1 hx => ?_⟩
  · rw [List.length_append, vG]; exact hown
  · rcases List.mem_append.1 hb with hb | hb
    · exact ((own1.sl b hb).keep fun d hd off => hc9 d (hD d hd).1.2.1 (hD d hd).2 off).mono fun b h => .inl h
    · exact ((sl2 b hb).keep fun d hd off => hc9 d (hD2' d hd).2.1 (hD2' d hd).2.2.2 off).mono fun b h => .inr h
  · have hb9 : w.heap.size < b ∧ b < A.heap.size ∧ ¬ X b ∧ v1.ownBlock ≠ some b := by
     rcases hb with hb | hb
     · exact ⟨(hD b hb).1.1, (hD b hb).1.2.1, (hD b hb).1.2.2, (hD b hb).2⟩
     · exact hD2' b hb
    refine ⟨⟨hb9.1, by omega, hb9.2.2.1⟩, ?_⟩;rcases hat with e | e
    · rw [e]; exact hb9.2.2.2
    · rw [e]; intro e2; have := Option.some.inj e2; omega
  · rcases hat with e | e
    · rw [e] at hg1; exact hx1 g hg1 hx
    · rw [e] at hg1; have := Option.some.inj hg1; have := hX g hx; omega
 obtain ⟨ao, cap, ev⟩ := hO.len;subst ev;exact ⟨ao, cap, _, w9, hr, rfl, hO, hA⟩
theorem wpList_app {w A : World} {ops : Array Oper} {rest : List Oper} {o : Oper} {a : Act} {Q : Exit → Act → World → Prop} {X Y : Nat → Prop} {v1 v2 : Value} {l1 l2 : List Ty} (hgd : o.guard = none) (s x : Operand)
 (ho : o.op = .call { callee := .builtin .append, args := #[s, x], argTypes := #[24, 24] }) (hs : a.eval s = v1) (hx : a.eval x = v2) (h1 : Ow w A X v1 l1) (h2 : Ow w A Y v2 l2) (hY : ∀ a, X a ∨ v1.ownBlock = some a → Y a) (hl : w.heap.size < A.heap.size) (hX : ∀ a, X a → a < A.heap.size) (hn : l1.length + l2.length ≤ 1099511627776)
 (h : ∀ ao cap L w9, L = l1 ++ l2 → Ow w w9 X (.slice ao L.length cap) L → AppG w A w9 X v1.ownBlock → wpList Tryz.prog ops Q rest (a.put o.dst (.slice ao L.length cap)) w9) : wpList Tryz.prog ops Q (o :: rest) a A := by
 refine wpList_plain hgd fun K hK => ?_
 obtain ⟨ao, cap, L, w9, hr, eL, h3, h4⟩ := run_app o.type h1 h2 hY hl hX hn;unfold Oper.wp execOp;simp only [ho, resolve, invoke, builtin, Sem.run_bind, Sem.run_pure, Result.andThen_ok, List.map_toArray, List.map_cons, List.map_nil, hs, hx, hr];exact hK _ _ (h ao cap L w9 eL h3 h4)
theorem Ow.fin {w wk : World} {X : Nat → Prop} {v : Value} {l : List Ty} (h : Ow w wk X v l) (x : Ty) (ao : Option Addr) (cap : Nat) : OwQ w l v (kN wk w.heap.size x ao cap) := by
 have h5 := ((((h.set (q := w.heap.size) (k := 0) (x := .int .i64 x.k) (.inl (Nat.le_refl _))).set (q := w.heap.size) (k := 1) (x := .int .i64 x.n) (.inl (Nat.le_refl _))).set (q := w.heap.size) (k := 2) (x := .string x.s) (.inl (Nat.le_refl _))).set (q := w.heap.size) (k := 3) (x := .int .i64 x.q) (.inl (Nat.le_refl _))).set (q := w.heap.size) (k := 4) (x := .slice ao x.args.length cap) (.inl (Nat.le_refl _));obtain ⟨bs, D, h1, h2, h3, h4⟩ := h5;exact ⟨bs, D, h1, ⟨own_up h2.own (fun g e => by have := (h2.own.lt g e).1; omega), h2.sl⟩, fun b hb => ⟨Nat.le_of_lt (h3 b hb).1.1, (h3 b hb).1.2.1, (h3 b hb).2⟩⟩
def Pw (w wk : World) (X : Nat → Prop) (e : TypeId) (size : Nat) (v : Value) (n : Nat) (xs : List Value) : Prop := wk.ownsRow (w.heap.size + 1) e size v n xs ∧ ∀ g, v.ownBlock = some g → ¬ X g
theorem Pw.nil (w wk : World) (X : Nat → Prop) (e : TypeId) (size : Nat) : Pw w wk X e size (.slice none 0 0) 0 [] := ⟨World.ownsRow_nil _ _ _ _, fun g h => by simp [Value.ownBlock] at h⟩
theorem Pw.len {w wk : World} {X : Nat → Prop} {e : TypeId} {size n : Nat} {v : Value} {xs : List Value} (h : Pw w wk X e size v n xs) : ∃ ao cap, v = .slice ao n cap := by
 by_cases hn : v = .slice none 0 0
 · rcases h.1.2 with ⟨h1, h2⟩ | ⟨g, cap, cur, h1, h2⟩
   · exact ⟨none, 0, by rw [h1, h2]⟩
   · exact ⟨_, _, h1⟩
 · obtain ⟨g, cap, e⟩ := kj h.1 hn;exact ⟨_, _, e⟩
theorem Pw.lt {w wk : World} {X : Nat → Prop} {e : TypeId} {size n : Nat} {v : Value} {xs : List Value} (h : Pw w wk X e size v n xs) : ∀ g, v.ownBlock = some g → w.heap.size < g ∧ g < wk.heap.size ∧ ¬ X g := fun g hg => by
 have := h.1.lt g hg
 exact ⟨by omega, this.2, h.2 g hg⟩
theorem Pw.gr {w w1 w2 : World} {X : Nat → Prop} {rb : Nat} {e : TypeId} {size n : Nat} {v : Value} {xs : List Value} (h : Pw w w1 X e size v n xs) (hg : w1.grownBy w2 (some rb)) (hrb : rb < w.heap.size) : Pw w w2 X e size v n xs :=
 ⟨h.1.kept hg (.inr fun e => by have := (h.1.lt rb e).1; omega), h.2⟩
theorem Pw.set {w w1 : World} {X : Nat → Prop} {q k : Nat} {x v : Value} {e : TypeId} {size n : Nat} {xs : List Value} (h : Pw w w1 X e size v n xs) (hq : q ≤ w.heap.size ∨ X q) : Pw w (w1.setCell ⟨q, k, none⟩ x) X e size v n xs :=
 ⟨h.1.kept (jX w1 q k x) (.inr fun e => by
  have := (h.1.lt q e).1
  rcases hq with hq | hq
  · omega
  · exact h.2 q e hq), h.2⟩
theorem Pw.fresh {w w1 : World} {X Y : Nat → Prop} {e : TypeId} {size n : Nat} {v : Value} {xs : List Value} (h : Pw w w1 X e size v n xs) (hy : ∀ a, Y a → X a ∨ w1.heap.size ≤ a) : Pw w w1 Y e size v n xs :=
 ⟨h.1, fun g hg hg2 => by
  rcases hy g hg2 with h5 | h5
  · exact h.2 g hg h5
  · have := (h.1.lt g hg).2; omega⟩
theorem Kd.join {w w1 w2 : World} {X : Nat → Prop} {x y : Ty} {ao bo : Option Addr} {c d g : Nat} (h1 : Kd w w1 X x.args ao c) (h2 : Kd w w1 X y.args bo d) (hl : w.heap.size < w1.heap.size) (hX : ∀ a, X a → a < w1.heap.size) (hb : Below w1.heap.size w1 w2) (hg : w1.heap.size ≤ g) (hr : w2.heap[g]? = some (.cells #[.int .i64 x.k, .int .i64 x.n, .string x.s, .int .i64 x.q, .slice ao x.args.length c, .int .i64 y.k, .int .i64 y.n, .string y.s, .int .i64 y.q, .slice bo y.args.length d] 26 (0, 0))) : Kd w w2 X [x, y] (some ⟨g, 0, none⟩) 2 := by
 have hs : g < w2.heap.size := lt_of_block hr;have k1 : Kd w w2 X x.args ao c := (SlD.keep h1 fun b hb2 off => hb.cell (p := ⟨b, off, none⟩) hb2.2.1).mono fun b hb2 => ⟨hb2.1, Nat.lt_of_lt_of_le hb2.2.1 hb.size, hb2.2.2⟩
 have k2 : Kd w w2 X y.args bo d := (SlD.keep h2 fun b hb2 off => hb.cell (p := ⟨b, off, none⟩) hb2.2.1).mono fun b hb2 => ⟨hb2.1, Nat.lt_of_lt_of_le hb2.2.1 hb.size, hb2.2.2⟩
 have hN : Nw w w2 X g := ⟨by omega, hs, fun e => by have := hX g e; omega⟩;refine ⟨Nat.le_refl _, ArgsV.of fun k hk => ?_⟩;have hk2 : k = 0 ∨ k = 1 := by simp at hk; omega
 rcases hk2 with rfl | rfl
 · refine ⟨g, 0, (jh x ao c).toList, rfl, hN, fun j hj => ?_, TyV.mk' k1⟩;rw [ja hr, show 0 + (0 + 0) * 5 + j = j from by omega];rcases (by omega : j = 0 ∨ j = 1 ∨ j = 2 ∨ j = 3 ∨ j = 4) with rfl | rfl | rfl | rfl | rfl <;> rfl
 · refine ⟨g, 0, (jh y bo d).toList, rfl, hN, fun j hj => ?_, TyV.mk' k2⟩;rw [ja hr, show 0 + (0 + 1) * 5 + j = 5 + j from by omega];rcases (by omega : j = 0 ∨ j = 1 ∨ j = 2 ∨ j = 3 ∨ j = 4) with rfl | rfl | rfl | rfl | rfl <;> rfl
theorem Pw.cell {w wk : World} {X : Nat → Prop} {e : TypeId} {size n : Nat} {v : Value} {xs : List Value} (h : Pw w wk X e size v n xs) (hn : 0 < n) : ∃ g cap, v = .slice (some ⟨g, 0, none⟩) n cap ∧ w.heap.size < g ∧ g < wk.heap.size ∧ ¬ X g ∧ ∀ j u, xs[j]? = some u → wk.cell? ⟨g, j, none⟩ = some u := by
 obtain ⟨ao, cap, rfl⟩ := h.len;rcases h.1.2 with ⟨h1, h2⟩ | ⟨g, cap', cur, h1, h2⟩
 · omega
 · injection h1 with e1 e2 e3
   subst e1;have hl := h.lt g rfl;refine ⟨g, cap, rfl, hl.1, hl.2.1, hl.2.2, fun j u hu => ?_⟩;have hc := h.1.cells (g := g) rfl j u hu;have hadd : (⟨g, 0, none⟩ : Addr).add j = ⟨g, j, none⟩ := (by unfold Addr.add; split <;> simp_all);rw [hadd] at hc;exact hc
theorem info9p : (Tryz.prog.info? 9).map (fun i => (i.zero, i.size, i.bytes)) = some (some (.string ⟨#[]⟩), 1, 16) := by kernel_rfl
theorem Pw.beside {w A w9 : World} {X Y : Nat → Prop} {r : Option Nat} {e : TypeId} {size n : Nat} {v : Value} {xs : List Value} (h : Pw w A Y e size v n xs) (hg : AppG w A w9 X r) (hy : ∀ a, r = some a → Y a) : Pw w w9 Y e size v n xs :=
 ⟨h.1.kept hg.g (by
  cases hv : v.ownBlock with
  | none => exact .inl rfl
  | some b => exact .inr fun e => h.2 b hv (hy b e.symm)), h.2⟩
theorem wpList_appP {w A : World} {ops : Array Oper} {rest : List Oper} {o : Oper} {a : Act} {Q : Exit → Act → World → Prop} {X : Nat → Prop} {v z : Value} {n size bytes : Nat} {xs : List Value} {ty e : TypeId} (hu : Tryz.prog.underlying ty = some (.slice e)) (hinf : (Tryz.prog.info? e).map (fun i => (i.zero, i.size, i.bytes)) = some (some z, size, bytes)) (hzs : z.cells.size = size) (hsz : 0 < size) (hby : bytes ≤ 40) (hgd : o.guard = none) (s x : Operand)
 (ho : o.op = .call { callee := .builtin .append, args := #[s, x], argTypes := #[ty, ty] }) (hs : a.eval s = v) (B : World) (row : Array Value) (hrow : row.toList.length = size) (hA : A = B.alloc (.cells row e)) (hx : a.eval x = .slice (some ⟨B.heap.size, 0, none⟩) 1 1) (ho1 : ∀ u ∈ row.toList, u.oneCell' = true) (h1 : Pw w A X e size v n xs) (hl : w.heap.size < A.heap.size) (hX : ∀ a, X a → a < A.heap.size) (hn : n ≤ 1000000000)
 (h : ∀ ao cap w9, Pw w w9 X e size (.slice ao (n + 1) cap) (n + 1) (xs ++ row.toList) → AppG w A w9 X v.ownBlock → (∀ g, (Value.slice ao (n + 1) cap).ownBlock = some g → v.ownBlock = some g ∨ A.heap.size ≤ g) → wpList Tryz.prog ops Q rest (a.put o.dst (.slice ao (n + 1) cap)) w9) : wpList Tryz.prog ops Q (o :: rest) a A := by
 obtain ⟨i, hi, hz0, hz1, hz2⟩ := info_parts hinf;have hlt := h1.lt;refine wpList_append3 hgd s x ty ty ho (w.heap.size + 1) e e i _ size bytes hu hu hi hz0 hz1 hz2 hzs hsz v n xs hs h1.1 (some ⟨B.heap.size, 0, none⟩) 1 1 row.toList hx (by omega) (fun _ => ⟨_, rfl, by rw [hA]; exact jT (c := row) _ rfl⟩) ho1 (by unfold maxLen; omega) (Nat.le_trans (Nat.mul_le_mul (show n + 1 ≤ 1000000001 by omega) hby) (by decide)) hl fun v' w9 hown hg hat => ?_
 have hP : Pw w w9 X e size v' (n + 1) (xs ++ row.toList) := ⟨hown, fun g hg1 hx => by
  rcases hat with e | e
  · rw [e] at hg1; exact h1.2 g hg1 hx
  · rw [e] at hg1; have := Option.some.inj hg1; have := hX g hx; omega⟩
 obtain ⟨ao, cap, e⟩ := hP.len;subst e
 exact h ao cap w9 hP ⟨hg, fun b e => ⟨(hlt b e).1, (hlt b e).2.2⟩⟩ fun g hg1 => by
  rcases hat with e | e
  · rw [e] at hg1; exact .inl hg1
  · rw [e] at hg1; exact .inr (Nat.le_of_eq (Option.some.inj hg1))
def Lo {α : Type} (r : Res α) (b : Nat) : Prop := ∀ x j, r = .ok x j → b ≤ j
def St {α : Type} (m : M α) : Prop := ∀ i, Lo (m i) (i + 1)
theorem Lo.ok {α : Type} {x : α} {j b : Nat} (h : b ≤ j) : Lo (.ok x j) b := fun y k e => by cases e; exact h
theorem Lo.ret {α : Type} {x : α} {j b : Nat} (h : b ≤ j) : Lo ((ret x : M α) j) b := fun y k e => by cases e; exact h
theorem Lo.pure {α : Type} {x : α} {j b : Nat} (h : b ≤ j) : Lo ((pure x : M α) j) b := fun y k e => by cases e; exact h
theorem Lo.fail {α : Type} (P : Src) (e i b : Nat) : Lo (jE (α := α) P e i) b := fun y k h => by
 unfold jE at h
 split at h <;> cases h
theorem Lo.ite {α : Type} {c : Prop} [Decidable c] {r s : Res α} {b : Nat} (h1 : c → Lo r b) (h2 : ¬ c → Lo s b) : Lo (if c then r else s) b := by
 by_cases h : c
 · rw [if_pos h]; exact h1 h
 · rw [if_neg h]; exact h2 h
theorem Lo.iteM {α : Type} {c : Prop} [Decidable c] {r s : M α} {b j : Nat} (h1 : c → Lo (r j) b) (h2 : ¬ c → Lo (s j) b) : Lo ((if c then r else s) j) b := by
 by_cases h : c
 · rw [if_pos h]; exact h1 h
 · rw [if_neg h]; exact h2 h
theorem Lo.bind {α β : Type} {m : M α} {f : α → M β} {i b c : Nat} (hm : Lo (m i) c) (h : ∀ x j, c ≤ j → Lo (f x j) b) : Lo ((m >>= f) i) b := fun y k e => by
 cases hx : m i with
 | bad a n => rw [ke hx] at e; cases e
 | ok x j => rw [kq hx] at e; exact h x j (hm x j hx) y k e
theorem Lo.up {α : Type} {r : Res α} {b c : Nat} (h : Lo r c) (hb : b ≤ c) : Lo r b := fun x j e => Nat.le_trans hb (h x j e)
theorem st_kind (P : Src) (k : Int) : St (jI P k) := fun i => by
 unfold jI
 exact Lo.ite (fun _ => Lo.ok (Nat.le_refl _)) (fun _ => Lo.fail _ _ _ _)
theorem st_must (P : Src) (s : ByteArray) : St (jm P s) := fun i => by
 unfold jm
 exact Lo.ite (fun _ => Lo.ok (Nat.le_refl _)) (fun _ => Lo.fail _ _ _ _)
theorem mo_eat (P : Src) (s : ByteArray) (i : Nat) : Lo (kn P s i) i := by
 unfold kn;exact Lo.ite (fun _ => Lo.ok (Nat.le_succ _)) (fun _ => Lo.ok (Nat.le_refl _))
theorem st_pathL (P : Src) (last : Nat) : ∀ (f : Nat) (s : ByteArray), St (yg P last f s)
 | 0, s => fun i => Lo.fail _ _ _ _
 | f + 1, s => fun i => by
  show Lo (if P.K i = 3 ∧ last ≠ 4 then Res.ok (s ++ P.T i, 3) (i + 1) else if P.K i ≠ 4 then jE P 4 i else if isD P s_dot (i + 1) = true then yg P last f (s ++ P.T i ++ s_dot) (i + 2) else if last = 3 then jE P 4 (i + 1) else .ok (s ++ P.T i, 4) (i + 1)) _
  exact Lo.ite (fun _ => Lo.ok (Nat.le_refl _)) (fun _ => Lo.ite (fun _ => Lo.fail _ _ _ _) (fun _ => Lo.ite (fun _ => (st_pathL P last f _ (i + 2)).up (by omega)) (fun _ => Lo.ite (fun _ => Lo.fail _ _ _ _) (fun _ => Lo.ok (Nat.le_refl _)))))
theorem st_path (P : Src) (last : Nat) : St (ki P last) := st_pathL P last _ _
theorem mo_many {α : Type} (c : Nat → Bool) (item : M α) (h : St item) : ∀ (f : Nat) (acc : List α) (i : Nat), Lo (qg c item f acc i) i
 | 0, acc, i => Lo.ret (Nat.le_refl _)
 | f + 1, acc, i => by
  show Lo (if c i = true then (item >>= fun x => qg c item f (acc ++ [x])) i else .ok acc i) i
  exact Lo.ite (fun _ => Lo.bind (h i) fun x j hj => (mo_many c item h f _ j).up (by omega)) (fun _ => Lo.ok (Nat.le_refl _))
theorem mo_sep {α : Type} (P : Src) (item : M α) (s : ByteArray) (h : St item) : ∀ (f : Nat) (acc : List α) (i : Nat), Lo (ku P item s f acc i) i
 | 0, acc, i => Lo.ret (Nat.le_refl _)
 | f + 1, acc, i => by
  show Lo (if isD P s i = true then (item >>= fun x => ku P item s f (acc ++ [x])) (i + 1) else .ok acc i) i
  exact Lo.ite (fun _ => Lo.bind (h (i + 1)) fun x j hj => (mo_sep P item s h f _ j).up (by omega)) (fun _ => Lo.ok (Nat.le_refl _))
theorem st_row {α : Type} (P : Src) (item : M α) (s : ByteArray) (h : St item) : St (jZ P item s) := fun i => by
 show Lo ((item >>= fun x => ku P item s (P.toks.length + 1) [x]) i) _
 exact Lo.bind (h i) fun x j hj => (mo_sep P item s h _ _ j).up (by omega)
structure StR (R : Rec) : Prop where
 go : ∀ nt, St (R.go nt)
 deep : St R.deep
theorem lo {α : Type} {x : Res α} {n : Nat} (h : Lo x n := by repeat' first | exact Lo.up (by assumption) (by omega) | exact Lo.fail _ _ _ _ | exact Lo.ok (by omega) | exact Lo.ret (by omega) | exact Lo.pure (by omega) | (refine Lo.ite (fun _ => ?_) (fun _ => ?_)) | (refine Lo.iteM (fun _ => ?_) (fun _ => ?_)) | (refine Lo.bind (by first | exact st_kind _ _ _ | exact st_must _ _ _ | exact mo_eat _ _ _ | exact st_path _ _ _ | assumption | exact (by assumption : St _) _ | exact StR.go (by assumption) _ _ | exact StR.deep (by assumption) _ | exact st_row _ _ _ (by first | assumption | exact StR.go (by assumption) _) _) (fun _ _ _ => ?_)) | exact (StR.go (by assumption) _ _).up (by omega) | exact (StR.deep (by assumption) _).up (by omega)) : Lo x n := h
section
variable (P : Src) (R : Rec) (HR : StR R)
include HR
theorem mo_appL (a : Nat) : ∀ (f : Nat) (l : List Ty) (i : Nat), Lo (kX P a f l i) i
 | 0, l, i => Lo.fail _ _ _ _
 | f + 1, l, i => by
  show Lo (if l.length ≠ 1 ∨ P.K i = 3 ∨ P.K i = 4 then (ki P 3 >>= fun p => kX P a f [.mk 31 a p.1 0 l]) i else .ok (l.headD default) i) i
  exact Lo.ite (fun _ => Lo.bind (st_path P 3 i) fun p j hj => (mo_appL a f _ j).up (by omega)) (fun _ => Lo.ok (Nat.le_refl _))
theorem st_applied : St (kK P R) := fun i => by
 show Lo (if P.K i = 5 then kX P (P.A i) (P.toks.length + 1) [.mk 30 (P.A i) (P.T i) 0 []] (i + 1) else if isD P s_lp i = true then (jZ P (R.go .typ) s_com >>= fun l => jm P s_rp >>= fun _ => kX P (P.A i) (P.toks.length + 1) l) (i + 1) else kX P (P.A i) (P.toks.length + 1) [] i) _
 refine Lo.ite (fun _ => mo_appL P R HR _ _ _ _) (fun _ => Lo.ite (fun _ => ?_) (fun _ => ?_))
 · exact Lo.bind (st_row P _ _ (HR.go .typ) _) fun l j hj => Lo.bind (st_must P _ _) fun _ k hk => (mo_appL P R HR _ _ _ _).up (by omega)
 · show Lo (if ([] : List Ty).length ≠ 1 ∨ P.K i = 3 ∨ P.K i = 4 then (ki P 3 >>= fun p => kX P (P.A i) P.toks.length [.mk 31 (P.A i) p.1 0 []]) i else .ok (([] : List Ty).headD default) i) _
   rw [if_pos (.inl (by simp))]
   exact Lo.bind (st_path P 3 i) fun p j hj => (mo_appL P R HR _ _ _ j).up (by omega)
theorem st_arrow : St (arrowB P R) := fun i => by
 have h := st_applied P R HR
 unfold arrowB
 exact lo
theorem st_roundPat (a : Nat) : St (qa P R a) := fun i => by
 unfold qa
 exact lo
theorem st_apat : St (jR P R) := fun i => by
 have h := st_roundPat P R HR (P.A i) (i + 1)
 unfold jR
 exact lo
theorem st_cpat : St (kr P R) := fun i => by
 have h := st_apat P R HR
 unfold kr
 refine Lo.bind (h i) fun n j hj => ?_
 exact lo
theorem st_pat : St (vI P R) := fun i => by
 have h := st_cpat P R HR
 unfold vI
 exact lo
theorem mo_decs (k i : Nat) : Lo (qm P R k i) i := mo_many _ _ (HR.go .dec) _ _ _
theorem st_con : St (conB P R) := fun i => by
 unfold conB
 exact lo
omit HR in
theorem st_one : St (oneB P) := fun i => by
 unfold oneB
 exact Lo.bind (st_kind P 5 i) fun s j hj => Lo.pure (by omega)
omit HR in
theorem st_head (k : Int) (a : Nat) : St (qT P k a) := fun i => by
 have h := st_one P
 unfold qT
 exact lo
theorem st_dbind : St (vr P R) := fun i => by
 have h := st_con P R HR
 have h2 := st_head P 39 (P.A i)
 unfold vr
 refine Lo.bind (h2 i) fun n j hj => ?_
 exact lo
theorem st_data (a : Nat) : St (yj P R a) := fun i => by
 have h := st_dbind P R HR
 unfold yj
 exact lo
theorem st_fbind : St (kC P R) := fun i => by
 have h := st_apat P R HR
 unfold kC
 refine Lo.bind (st_kind P 3 i) fun s j hj => Lo.bind (h j) fun p j2 hj2 => Lo.bind (mo_many _ _ h _ _ j2) fun l j3 hj3 => ?_
 exact lo
theorem st_body : St (yf P R) := fun i => by
 have h := mo_decs P R HR 1
 unfold yf
 repeat' first | exact Lo.up (by assumption) (by omega) | exact Lo.fail _ _ _ _ | exact Lo.ok (by omega) | exact Lo.ret (by omega) | exact Lo.pure (by omega) | (refine Lo.ite (fun _ => ?_) (fun _ => ?_)) | (refine Lo.iteM (fun _ => ?_) (fun _ => ?_)) | (refine Lo.bind (by first | exact st_kind _ _ _ | exact st_must _ _ _ | exact mo_eat _ _ _ | exact st_path _ _ _ | assumption | exact (by assumption : St _) _ | exact StR.go (by assumption) _ _ | exact StR.deep (by assumption) _ | exact st_row _ _ _ (by first | assumption | exact StR.go (by assumption) _) _) (fun _ _ _ => ?_)) | exact (StR.go (by assumption) _ _).up (by omega) | exact (StR.deep (by assumption) _).up (by omega)
 exact Lo.bind (h (i + 1)) fun l j hj => Lo.bind (st_must P _ _) fun _ k hk => Lo.pure (by omega)
theorem mo_ann (i : Nat) : Lo (annB P R i) i := by
 unfold annB;exact lo
theorem st_structure (a : Nat) : St (kH P R a) := fun i => by
 have h := st_body P R HR
 unfold kH
 refine Lo.bind (st_kind P 4 i) fun s j hj => Lo.bind (mo_ann P R HR j) fun g j2 hj2 => Lo.bind (st_must P _ _) fun _ j3 hj3 => Lo.bind (h j3) fun b j4 hj4 => Lo.pure (by omega)
theorem st_dec : St (qZ P R) := fun i => by
 have h1 := st_fbind P R HR
 have h2 := st_data P R HR (P.A i) (i + 1)
 have h3 := st_con P R HR (i + 1)
 have h4 := st_structure P R HR (P.A i) (i + 1)
 have h5 := st_head P 37 (P.A i) (i + 1)
 unfold qZ
 exact lo
theorem st_spec : St (ky P R) := fun i => by
 have h2 := st_data P R HR (P.A i) (i + 1)
 have h3 := st_con P R HR (i + 1)
 have h5 := st_head P 50 (P.A i) (i + 1)
 unfold ky
 exact lo
theorem mo_specs : ∀ (f : Nat) (acc : List Ty) (i : Nat), Lo (kT P R f acc i) i
 | 0, acc, i => Lo.ret (Nat.le_refl _)
 | f + 1, acc, i => by
  show Lo (if isD P w_end i = true then .ok acc (i + 1) else (ky P R >>= fun x => kT P R f (acc ++ [x])) i) i
  exact Lo.ite (fun _ => Lo.ok (by omega)) (fun _ => Lo.bind (st_spec P R HR i) fun x j hj => (mo_specs f _ j).up (by omega))
theorem st_sigs : St (sigsB P R) := fun i => by
 have h := mo_specs P R HR (P.toks.length + 1) [] (i + 1)
 unfold sigsB
 exact lo
theorem st_rule : St (ruleB P R) := fun i => by
 unfold ruleB
 exact lo
theorem st_rules (k : Int) (a : Nat) (w : ByteArray) : St (vc P R k a w) := fun i => by
 have h := st_rule P R HR
 unfold vc
 exact lo
theorem st_round (a : Nat) : St (vX P R a) := fun i => by
 unfold vX
 exact lo
theorem st_atom : St (kp P R) := fun i => by
 have h1 := st_round P R HR (P.A i) (i + 1)
 have h2 := mo_decs P R HR 2 (i + 1)
 have h3 := st_rules P R HR 10 (P.A i) w_of (i + 1)
 have h4 := st_rules P R HR 11 (P.A i) w_with (i + 1)
 unfold kp
 exact lo
theorem st_prefixL : ∀ (f : Nat), St (qk P R f)
 | 0 => fun i => Lo.fail _ _ _ _
 | f + 1 => fun i => by
  show Lo (if isD P s_ti i = true ∨ isD P s_ex i = true then (qk P R f >>= fun n => ret (.mk 18 (P.A i) (P.T i) 0 [n])) (i + 1) else kp P R i) _
  exact Lo.ite (fun _ => Lo.bind (st_prefixL f (i + 1)) fun n j hj => Lo.ret (by omega)) (fun _ => st_atom P R HR i)
theorem st_prefix : St (qj P R) := st_prefixL P R HR _
theorem mo_applyL : ∀ (f : Nat) (n : Ty) (i : Nat), Lo (qr P R f n i) i
 | 0, n, i => Lo.ret (Nat.le_refl _)
 | f + 1, n, i => by
  show Lo (if kh P i = true then (qj P R >>= fun b => qr P R f (.mk 8 n.n ⟨#[]⟩ 0 [n, b])) i else .ok n i) i
  exact Lo.ite (fun _ => Lo.bind (st_prefix P R HR i) fun x j hj => (mo_applyL f _ j).up (by omega)) (fun _ => Lo.ok (Nat.le_refl _))
theorem st_apply : St (applyB P R) := fun i => by
 show Lo ((qj P R >>= fun n => qr P R (P.toks.length + 1) n) i) _
 exact Lo.bind (st_prefix P R HR i) fun n j hj => (mo_applyL P R HR _ _ j).up (by omega)
omit HR in
theorem mo_col (k : Nat) (item : M Ty) (h : St item) : ∀ (f : Nat) (acc : List (ByteArray × Ty)) (i : Nat), Lo (jW P k item f acc i) i
 | 0, acc, i => Lo.ret (Nat.le_refl _)
 | f + 1, acc, i => by
  show Lo (if (acc.length = 0 ∨ qd k = false) ∧ jK P (lvL k) i = true then (item >>= fun x => jW P k item f (acc ++ [(P.T i, x)])) (i + 1) else .ok acc i) i
  exact Lo.ite (fun _ => Lo.bind (h (i + 1)) fun x j hj => (mo_col k item h f _ j).up (by omega)) (fun _ => Lo.ok (Nat.le_refl _))
theorem vF : ∀ (k : Nat), St (jF P R k)
 | 0 => st_apply P R HR
 | k + 1 => fun i => by
  show Lo ((jF P R k >>= fun a => jW P (k + 1) (jF P R k) (P.toks.length + 1) [] >>= fun l => (pure (if k + 1 = 3 then vn a l else jJ a l) : M Ty)) i) _
  exact Lo.bind (vF k i) fun a j hj => Lo.bind (mo_col P (k + 1) _ (vF k) _ _ j) fun l j2 hj2 => Lo.pure (by omega)
theorem st_open : St (openB P R) := fun i => by
 have h := st_apat P R HR (i + 1)
 have h2 := vF P R HR 7 i
 unfold openB
 exact lo
theorem st_step : ∀ nt, St (stepB P R nt)
 | .exp => st_open P R HR
 | .pat => st_pat P R HR
 | .typ => st_arrow P R HR
 | .dec => st_dec P R HR
 | .sig => st_sigs P R HR
end
theorem st_fail {α : Type} (P : Src) (e : Nat) : St (jE (α := α) P e) := fun i => Lo.fail _ _ _ _
theorem kD (P : Src) : ∀ g, (∀ nt, St (jt P g nt)) ∧ StR (jf P g)
 | 0 => by
  have h : ∀ nt, St (jt P 0 nt) := fun nt => st_fail P 5
  exact ⟨h, ⟨h, st_fail P 5⟩⟩
 | g + 1 => by
  have h : ∀ nt, St (jt P (g + 1) nt) := fun nt => by rw [kA]; exact st_step P _ (kD P g).2 nt
  exact ⟨h, ⟨h, (kD P g).1 .exp⟩⟩
structure RS where
 i : Nat
 k : Nat
 a : Nat
def rn {α : Type} (m : M α) (s : RS) : Res α := if s.k = 0 then m s.i else .bad s.k s.a
def Rl {α : Type} (T : Res α) (x : α) (s : RS) : Prop := (s.k = 0 → T = .ok x s.i) ∧ (s.k ≠ 0 → T = .bad s.k s.a)
theorem je {α : Type} {m : M α} {s : RS} (h : s.k = 0) : rn m s = m s.i := if_pos h
theorem jq {α : Type} {m : M α} {s : RS} (h : s.k ≠ 0) : rn m s = .bad s.k s.a := if_neg h
theorem vi {α β : Type} {m : M α} {f : α → M β} {s s' : RS} {x : α} (h : Rl (rn m s) x s') : rn (m >>= f) s = rn (f x) s' := by
 by_cases hs : s.k = 0
 · rw [je hs] at h ⊢
   by_cases h' : s'.k = 0
   · rw [je h', kq (h.1 h')]
   · rw [jq h', ke (h.2 h')]
 · rw [jq hs] at h ⊢
   by_cases h' : s'.k = 0
   · have h2 := h.1 h'; cases h2
   · rw [jq h'];have h2 := h.2 h';injection h2 with e1 e2
     rw [e1, e2]
theorem rn_pure {α : Type} {T : Res α} {x : α} {s : RS} (h : T = rn (pure x : M α) s) : Rl T x s := ⟨fun hs => h.trans (je hs), fun hs => h.trans (jq hs)⟩
theorem rl_lost {α : Type} {T : Res α} {m : M α} {x : α} {s : RS} (h : T = rn m s) (hs : s.k ≠ 0) : Rl T x s := ⟨fun e => absurd e hs, fun _ => h.trans (jq hs)⟩
theorem rl_tail {α : Type} {T : Res α} {m : M α} {x : α} {s s' : RS} (h : T = rn m s) (hl : Rl (rn m s) x s') : Rl T x s' := by rw [h]; exact hl
def stp (s : RS) : RS := ⟨s.i + 1, s.k, s.a⟩
def vR (P : Src) (e i : Nat) : Nat := if P.K i = -1 then P.fk else e
def failA (P : Src) (i : Nat) : Nat := if P.K i = -1 then P.fa else P.A i
theorem vT {α : Type} (P : Src) (e i : Nat) : (jE P e i : Res α) = .bad (vR P e i) (failA P i) := by
 unfold jE vR failA
 by_cases h : P.K i = -1
 · rw [if_pos h, if_pos h, if_pos h]
 · rw [if_neg h, if_neg h, if_neg h]
def noS (P : Src) (e : Nat) (s : RS) : RS := if s.k = 0 then ⟨s.i, vR P e s.i, failA P s.i⟩ else s
def ka (P : Src) (sg : ByteArray) (s : RS) : Bool := decide (s.k = 0) && isD P sg s.i
def kJ (P : Src) (l : List ByteArray) (s : RS) : Bool := decide (s.k = 0) && jK P l s.i
theorem eatb_good {P : Src} {sg : ByteArray} {s : RS} (h : ka P sg s = true) : s.k = 0 ∧ isD P sg s.i = true := by
 unfold ka at h
 simpa using h
theorem kZ {P : Src} {l : List ByteArray} {s : RS} (h : kJ P l s = true) : s.k = 0 ∧ jK P l s.i = true := by
 unfold kJ at h
 simpa using h
theorem rn_eat {β : Type} {P : Src} {sg : ByteArray} {A B : M β} {s : RS} : rn (fun i => if isD P sg i = true then A (i + 1) else B i) s = if ka P sg s = true then rn A (stp s) else rn B s := by
 by_cases hs : s.k = 0
 · have e : ka P sg s = isD P sg s.i := (by unfold ka; rw [decide_eq_true hs, Bool.true_and]);rw [je hs, e]
   by_cases h : isD P sg s.i = true
   · rw [if_pos h, if_pos h]; exact (je (s := stp s) hs).symm
   · rw [if_neg h, if_neg h]; exact (je hs).symm
 · have e : ka P sg s = false := (by unfold ka; rw [decide_eq_false hs, Bool.false_and]);rw [jq hs, e];exact (jq hs).symm
theorem rn_eatD {β : Type} {P : Src} {sg : ByteArray} {f : Bool → M β} {s : RS} : rn (kn P sg >>= f) s = if ka P sg s = true then rn (f true) (stp s) else rn (f false) s := by
 rw [← rn_eat (P := P) (sg := sg) (A := f true) (B := f false) (s := s)]
 congr 1
 funext i
 exact eat_if P sg f i
structure Rr (E : Env) (w : World) (s : RS) (d : Nat) : Prop where
 row : w.heap[E.rb]? = some (.cells #[.slice E.lo E.P.toks.length E.cap, .int .i64 (s.i : Int), .int .i64 (E.P.fk : Int), .int .i64 (E.P.fa : Int), .int .i64 (s.k : Int), .int .i64 (s.a : Int), .int .i64 (d : Int)] 87 (0, 0))
 tk : ∀ k (hk : k < E.P.toks.length), ∃ b off, E.lo = some ⟨b, off, none⟩ ∧ b ≠ E.rb ∧ b < E.B ∧ ∀ j, j < 4 → w.cell? ⟨b, off + k * 4 + j, none⟩ = (tkRow E.P.toks[k])[j]?
 low : E.rb < E.B ∧ E.B ≤ w.heap.size
 ok : SrcOk E.P
 le : s.i ≤ E.P.toks.length
 go : E.P.fk = 0 → s.i < E.P.toks.length
 d61 : d ≤ 61
theorem Rr.ltr {E : Env} {w : World} {s : RS} {d : Nat} (h : Rr E w s d) : E.rb < w.heap.size := Nat.lt_of_lt_of_le h.low.1 h.low.2
theorem Rr.keepB {E : Env} {w w' : World} {s : RS} {d N : Nat} (h : Rr E w s d) (hb : Below N w w') (hN : E.B ≤ N) : Rr E w' s d := by
 have hr := h.low.1;refine ⟨jo h.row hb (by omega), fun k hk => ?_, ⟨h.low.1, Nat.le_trans h.low.2 hb.size⟩, h.ok, h.le, h.go, h.d61⟩;obtain ⟨b, off, h1, h2, h3, h4⟩ := h.tk k hk;exact ⟨b, off, h1, h2, h3, fun j hj => (hb.cell (p := ⟨b, _, none⟩) (Nat.lt_of_lt_of_le h3 hN)).trans (h4 j hj)⟩
theorem Rr.keep {E : Env} {w w' : World} {s : RS} {d : Nat} (h : Rr E w s d) (hb : Below w.heap.size w w') : Rr E w' s d := h.keepB hb h.low.2
theorem Rr.cells {E : Env} {w : World} {s : RS} {d : Nat} (h : Rr E w s d) : (w.cell? ⟨E.rb, 0, none⟩ = some (.slice E.lo E.P.toks.length E.cap) ∧ w.cell? ⟨E.rb, 1, none⟩ = some (.int .i64 (s.i : Int)) ∧ w.cell? ⟨E.rb, 2, none⟩ = some (.int .i64 (E.P.fk : Int)) ∧ w.cell? ⟨E.rb, 3, none⟩ = some (.int .i64 (E.P.fa : Int)) ∧ w.cell? ⟨E.rb, 4, none⟩ = some (.int .i64 (s.k : Int)) ∧ w.cell? ⟨E.rb, 5, none⟩ = some (.int .i64 (s.a : Int)) ∧ w.cell? ⟨E.rb, 6, none⟩ = some (.int .i64 (d : Int))) ∧ (w.frozen? ⟨E.rb, 1, none⟩ = false ∧ w.frozen? ⟨E.rb, 4, none⟩ = false ∧ w.frozen? ⟨E.rb, 5, none⟩ = false ∧ w.frozen? ⟨E.rb, 6, none⟩ = false) :=
 ⟨⟨ja h.row 0, ja h.row 1, ja h.row 2, ja h.row 3, ja h.row 4, ja h.row 5, ja h.row 6⟩, ⟨jd h.row 1, jd h.row 4, jd h.row 5, jd h.row 6⟩⟩
theorem Rr.tok {E : Env} {w : World} {s : RS} {d : Nat} (h : Rr E w s d) {k : Nat} (hk : k < E.P.toks.length) : ∃ b p, b ≠ E.rb ∧ b < E.B ∧ (∀ w' : World, (Instr.indexAt 36 (.slice E.lo E.P.toks.length E.cap) (.int .i64 k)).run Tryz.prog w' = .ok (.pointer (some ⟨b, p, none⟩)) w') ∧
 w.cell? ⟨b, p, none⟩ = some (.int .i64 (E.P.K k)) ∧ w.cell? ⟨b, p + 1, none⟩ = some (.int .i64 (E.P.A k : Int)) ∧ w.cell? ⟨b, p + 2, none⟩ = some (.string (E.P.T k)) ∧ w.cell? ⟨b, p + 3, none⟩ = some (.int .i64 (E.P.N k : Int)) := by
 obtain ⟨b, off, ha, hne, hb, hc⟩ := h.tk k hk;obtain ⟨e1, e2, e3, e4⟩ := Src.at' hk;rw [e1, e2, e3, e4];exact ⟨b, off + k * 4, hne, hb, fun w' => index_at Tryz.underlying36 size59 ha _ _ k hk w', hc 0 (by omega), hc 1 (by omega), hc 2 (by omega), hc 3 (by omega)⟩
theorem Rr.put {E : Env} {w W : World} {s s' : RS} {d d' : Nat} (h : Rr E w s d) (row : W.heap[E.rb]? = some (.cells #[.slice E.lo E.P.toks.length E.cap, .int .i64 (s'.i : Int), .int .i64 (E.P.fk : Int), .int .i64 (E.P.fa : Int), .int .i64 (s'.k : Int), .int .i64 (s'.a : Int), .int .i64 (d' : Int)] 87 (0, 0))) (hc : ∀ b, b ≠ E.rb → W.heap[b]? = w.heap[b]?) (hs : W.heap.size = w.heap.size) (le : s'.i ≤ E.P.toks.length) (go : E.P.fk = 0 → s'.i < E.P.toks.length) (hd : d' ≤ 61) : Rr E W s' d' := by
 refine ⟨row, fun k hk => ?_, ⟨h.low.1, by rw [hs]; exact h.low.2⟩, h.ok, le, go, hd⟩;obtain ⟨b, off, h1, h2, h3, h4⟩ := h.tk k hk;exact ⟨b, off, h1, h2, h3, fun j hj => (World.cell?_of_block (a := ⟨b, _, none⟩) (hc b h2)).trans (h4 j hj)⟩
theorem set_other (w : World) (q k : Nat) (v : Value) : ∀ b, b ≠ q → (w.setCell ⟨q, k, none⟩ v).heap[b]? = w.heap[b]? := fun b hb => jg rfl hb k v
theorem set_size (w : World) (q k : Nat) (v : Value) : (w.setCell ⟨q, k, none⟩ v).heap.size = w.heap.size := World.size_setCell ..
theorem step_ok {P : Src} (h : SrcOk P) {i : Nat} (hk : 1 ≤ P.K i) : i + 1 ≤ P.toks.length ∧ (P.fk = 0 → i + 1 < P.toks.length) := by
 have hlt : i < P.toks.length := K_lt (by omega);refine ⟨hlt, fun h0 => ?_⟩;obtain ⟨h1, h2⟩ := h.ends h0
 by_cases he : i = P.toks.length - 1
 · rw [← he] at h2; omega
 · omega
theorem Rr.step {E : Env} {w : World} {s : RS} {d : Nat} (h : Rr E w s d) (hk : 1 ≤ E.P.K s.i) : Rr E (w.setCell ⟨E.rb, 1, none⟩ (.int .i64 (((stp s).i : Nat) : Int))) (stp s) d :=
 h.put (jy h.row 1 _) (set_other _ _ _ _) (set_size _ _ _ _) (step_ok h.ok hk).1 (step_ok h.ok hk).2 h.d61
theorem Rr.setd {E : Env} {w : World} {s : RS} {d : Nat} (h : Rr E w s d) {d' : Nat} (hd : d' ≤ 61) : Rr E (w.setCell ⟨E.rb, 6, none⟩ (.int .i64 (d' : Int))) s d' :=
 h.put (jy h.row 6 _) (set_other _ _ _ _) (set_size _ _ _ _) h.le h.go hd
theorem K_neg {P : Src} {i : Nat} : P.K i = -1 ∨ 0 ≤ P.K i := by
 unfold Src.K
 cases P.toks[i]? with
 | none => exact .inl rfl
 | some t => exact .inr (by show (0 : Int) ≤ (t.1 : Int); omega)
theorem Rr.fk {E : Env} {w : World} {s : RS} {d e : Nat} (h : Rr E w s d) (he : e ≠ 0) : vR E.P e s.i ≠ 0 := by
 unfold vR
 by_cases hk : E.P.K s.i = -1
 · rw [if_pos hk];intro h0;have := Src.at' (h.go h0);have h2 := this.1;omega
 · rw [if_neg hk];exact he
theorem Rr.no_rl {E : Env} {w : World} {s : RS} {d e : Nat} (h : Rr E w s d) (he : e ≠ 0) {α : Type} (x : α) : Rl (rn (jE E.P e : M α) s) x (noS E.P e s) := by
 by_cases hs : s.k = 0
 · have e1 : noS E.P e s = ⟨s.i, vR E.P e s.i, failA E.P s.i⟩ := if_pos hs;rw [e1, je hs];exact ⟨fun h0 => absurd h0 (h.fk he), fun _ => vT _ _ _⟩
 · have e1 : noS E.P e s = s := if_neg hs;rw [e1, jq hs];exact ⟨fun h0 => absurd h0 hs, fun _ => rfl⟩
theorem Rr.no_bad {E : Env} {w : World} {s : RS} {d e : Nat} (h : Rr E w s d) (he : e ≠ 0) : (noS E.P e s).k ≠ 0 := by
 unfold noS
 by_cases hs : s.k = 0
 · rw [if_pos hs]; exact h.fk he
 · rw [if_neg hs]; exact hs
def RPost {α : Type} (E : Env) (d : Nat) (w : World) (T : Res α) (Q : α → Value → World → Prop) (e : Ending) (w' : World) : Prop :=
 ∃ x v s, e = .returned v ∧ w.grownBy w' (some E.rb) ∧ Rr E w' s d ∧ Q x v w' ∧ Rl T x s
theorem RPost.ok {α : Type} {E : Env} {d : Nat} {w w' : World} {T : Res α} {Q : α → Value → World → Prop} {x : α} {s : RS} {v : Value} (hg : w.grownBy w' (some E.rb)) (hT : Rl T x s) (hQ : Q x v w') (hr : Rr E w' s d) : RPost E d w T Q (.returned v) w' := ⟨x, v, s, rfl, hg, hr, hQ, hT⟩
theorem qh (E : Env) (w : World) (s : RS) (d : Nat) (h : Rr E w s d) : Calls Tryz.prog 102 #[pr E] w fun e w' => e = .returned (qb E.P s.i) ∧ Below w.heap.size w w' := by
 have hlt := h.ltr;obtain ⟨W, hW⟩ : ∃ W, W = w.alloc (.cells #[.int .i64 0, .int .i64 0, .string ⟨#[]⟩, .int .i64 0] 59) := ⟨_, rfl⟩
 have hbW : Below w.heap.size w W := by rw [hW]; exact jk (Below.refl _ _) _
 have hrW : W.heap[w.heap.size]? = some (.cells #[.int .i64 0, .int .i64 0, .string ⟨#[]⟩, .int .i64 0] 59 (0, 0)) := by rw [hW]; exact heap_alloc_new w _
 have hR := h.keep hbW;obtain ⟨⟨r0, r1, r2, r3, r4, r5, r6⟩, -⟩ := hR.cells;obtain ⟨i, hi9⟩ : ∃ i, i = s.i := ⟨_, rfl⟩
 rw [← hi9] at r1 ⊢;have z0 := jd hrW 0;have z1 := jd hrW 1;have z2 := jd hrW 2;have z3 := jd hrW 3;obtain ⟨n, hn⟩ : ∃ n, n = E.P.toks.length := ⟨_, rfl⟩
 have hin : i ≤ E.P.toks.length := by rw [hi9]; exact h.le
 clear hi9;rw [← hn] at r0 hin;have HN := lh hn;have HR := lh hR;have HBW := lh hbW;have HRW := lh hrW;have hn9 : n ≤ 100000 := by rw [hn]; exact h.ok.len
 unfold pr;have HWW := lh hW;have n1 : ¬ (E.rb = w.heap.size) := by omega
 have n2 : ¬ (w.heap.size = E.rb) := by omega
 by_cases hi : i < n
 · have hd : ((i : Int) < (n : Int)) := (by omega);have hi' : i < E.P.toks.length := (by rw [← hn]; exact hi);obtain ⟨b, p, hne, hbl, hix, x0, x1, x2, x3⟩ := hR.tok hi';rw [← hn] at hix;have hbw : b < w.heap.size := Nat.lt_of_lt_of_le hbl h.low.2;have c0 := ja hrW 0;have c1 := ja hrW 1;have c2 := ja hrW 2;have c3 := ja hrW 3;have n3 : ¬ (b = w.heap.size) := (by omega);have n4 : ¬ (w.heap.size = b) := (by omega);unfold qb;clear h hR hbW hrW hn hi' hne hbl hlt hin hi hbw;go_enter Tryz.func102, Tryz.ntmps102
   go_upto_region 1 with fail
   rw [← HWW.out];clear hW HWW;go_quiet (fail)
   go_upto_region 2 with fail
   go_region
   go_wp2_with fail
   obtain ⟨V, hV⟩ : ∃ V : World, V = W.drewN (nq + 1) := ⟨_, rfl⟩
   rw [← hV];have hbV : Below w.heap.size w V := (by rw [hV]; exact below_drewN HBW.out _);have hrV : V.heap[w.heap.size]? = some (.cells #[.int .i64 0, .int .i64 0, .string ⟨#[]⟩, .int .i64 0] 59 (0, 0)) := (by rw [hV]; exact HRW.out);exact bodyPost_ret (res_tok rfl rfl (tok_set hrV _ _ _ _)) rfl ⟨rfl, tok_below hbV (Nat.le_refl _)⟩
 · have hd : decide ((i : Int) < (n : Int)) = false := (by simp; omega);have hd2 : ¬ ((i : Int) < (n : Int)) := (by omega);obtain ⟨e1, e2, e3, e4⟩ := Src.out' (P := E.P) (i := i) (by rw [← hn]; exact hi);unfold qb;rw [e1, e2, e3, e4];clear h hR hbW hlt hin hi e1 e2 e3 e4 hn hrW;go_enter Tryz.func102, Tryz.ntmps102
   go_upto_region 1 with fail
   rw [← HWW.out];clear hW HWW;go_quiet (fail)
   obtain ⟨V, hV⟩ : ∃ V : World, V = W.drewN nq := ⟨_, rfl⟩
   have hbV : Below w.heap.size w V := (by rw [hV]; exact below_drewN HBW.out _);have hrV : V.heap[w.heap.size]? = some (.cells #[.int .i64 0, .int .i64 0, .string ⟨#[]⟩, .int .i64 0] 59 (0, 0)) := (by rw [hV]; exact HRW.out);replace r3 : V.cell? ⟨E.rb, 2 + 1, none⟩ = some (.int .i64 (E.P.fa : Int)) := (by rw [hV]; exact r3);have z0 := jd hrV 0;have z1 := jd hrV 1;have z2 := jd hrV 2;have z3 := jd hrV 3;have c0 := ja hrV 0;have c1 := ja hrV 1;have c2 := ja hrV 2;have c3 := ja hrV 3;rw [← hV];have HBV := lh hbV;have HRV := lh hrV;clear hV hbV hrV r0 r1 r2 r4 r5 r6;go_wp2_with fail
   exact bodyPost_ret (res_tok rfl rfl (tok_set HRV.out _ _ _ _)) rfl ⟨rfl, tok_below HBV.out (Nat.le_refl _)⟩
end Go.Proofs.YthehjeeiodbkjaaGreatDoor
