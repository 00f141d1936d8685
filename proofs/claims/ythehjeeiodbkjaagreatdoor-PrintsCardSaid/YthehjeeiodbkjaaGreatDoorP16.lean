/-
  Proved: what is left at the door of a function that reads within; the steps of a walk over the program's reader, as lemmas on what stands; steps of a walk over rows of plain cells of the call's own; the contracts of the closure that catches a slip; the contract of the reference's Token at digits; the contract of the reference's Token at strings and type variables; the contract of the reference's Token at names; the contract of the reference's Token at signs, and everywhere; the contract of the reference's Tokens; the contracts of isPair, isWord; the contract of the scanner's variable; what the scanner's next keeps (its two blocks of tokens, the scanner); the contract of the scanner's next at signs; the contract of the scanner's next at digits; the contract of the program's Tokens. Conditions: what each names; a text of at most 4000 bytes; the table of sorts, a text of at most 4000 bytes below 128; the table of sorts.
-/
import Derived.Test.YthehjeeiodbkjaaGreatDoorP06
import Derived.Test.YthehjeeiodbkjaaGreatDoorP11
import Derived.Test.YthehjeeiodbkjaaGreatDoorP15
import Derived.Test.YthehjeeiodbkjaaGreatDoorP13
import Derived.Test.YthehjeeiodbkjaaGreatDoorP03
import Derived.Test.YthehjeeiodbkjaaGreatDoorP01
import Derived.Defers
import Derived.Recover
import Derived.BigRegion
import Derived.StillTailTactics
import Derived.Deep.RegionHeld3
set_option linter.unusedSimpArgs false
set_option linter.unusedVariables false
set_option linter.unusedSectionVars false
set_option maxRecDepth 100000
set_option maxHeartbeats 16000000
namespace Go.Proofs.YthehjeeiodbkjaaGreatDoor
open Go.RowKit
theorem leaves_end {fn : Func} {tmps : Array Value} {R : Ending → World → Prop} {b i d : Nat} {E : Env} {w : World} {u : FrameMode} (hu : u ≠ .run) (hr : Rd E w i (d + 1)) (hc : w.heap[b]? = some (.cells #[.pointer (some ⟨E.rb, 0, none⟩)] 42 (0, 0))) (h : Leaves Tryz.prog fn tmps R [] (settle u) (w.setCell ⟨E.rb, 4, none⟩ (.int .i64 (d : Int)))) :
 Leaves Tryz.prog fn tmps R [{ target := Target.fn (Fn.func 72) #[.pointer (some ⟨b, 0, none⟩)], args := #[] }] u w := by
 refine leaves_cons (f := 72) (args := #[.pointer (some ⟨b, 0, none⟩)]) hu (by simp [go_sem]) ?_;refine (end_any E w i d b u hr hc).mono ?_;rintro e u' w'' ⟨rfl, rfl, rfl⟩;exact h
theorem dleave_bad {E : Env} {d d1 k a b i' : Nat} (hdd : d1 = d + 1) {w W : World} {fn : Func} {tmps : Array Value} {T : Res Ty} {Q : Ty → Value → World → Prop} (hg : w.grownBy W (some E.rb)) (hT : T = .bad k a) (hr : Rd E W i' d1) (hc : W.heap[b]? = some (.cells #[.pointer (some ⟨E.rb, 0, none⟩)] 42 (0, 0))) :
 Leaves Tryz.prog fn tmps (PPost E d w T Q) [{ target := Target.fn (Fn.func 72) #[.pointer (some ⟨b, 0, none⟩)], args := #[] }] (.panicking (slipV k a)) W := by
 subst hdd;exact leaves_end (by intro h; cases h) hr hc (PPost.bad (jr hg (jX _ _ _ _)) hT (hr.setd (d' := d) (by have := hr.d60; omega)))
theorem dleave_ok {E : Env} {d d1 b j : Nat} (hdd : d1 = d + 1) {w W : World} {fn : Func} {t : Tmp} (hres : fn.results = #[.cell t 26]) {tmps : Array Value} (ht : tmps.getD t undef = .pointer (some ⟨w.heap.size, 0, none⟩)) {T : Res Ty} {x : Ty} {ao : Option Addr} {cap : Nat} (hrb : E.rb < w.heap.size) (f1 : TB W w.heap.size x ao cap) (hg : w.grownBy W (some E.rb)) (hT : T = .ok x j) (hr : Rd E W j d1) (hq : NdQ w x (.agg (jh x ao cap)) W) (hc : W.heap[b]? = some (.cells #[.pointer (some ⟨E.rb, 0, none⟩)] 42 (0, 0))) :
 Leaves Tryz.prog fn tmps (PPost E d w T (NdQ w)) [{ target := Target.fn (Fn.func 72) #[.pointer (some ⟨b, 0, none⟩)], args := #[] }]   .returning W := by
 subst hdd;refine leaves_end (by intro h; cases h) hr hc ?_;refine ⟨_, vo hres ht (jg f1 (by omega) 4 _), PPost.ok (jr hg (jX _ _ _ _)) hT ?_ (hr.setd (d' := d) (by have := hr.d60; omega))⟩;obtain ⟨ao', cap', e, hs⟩ := hq;refine ⟨ao', cap', e, (hs.keep fun b hb off => World.cell?_of_block (a := ⟨b, off, none⟩) (jg rfl (by have := hb.1; show b ≠ E.rb; omega) 4 _)).mono fun b hb => ⟨hb.1, by rw [World.size_setCell]; exact hb.2⟩⟩
def qD (fn : Func) (E : Env) (d : Nat) (w : World) (T : Res Ty) : Exit → Act → World → Prop
 | .normal, a, W | .ret, a, W => Leaves Tryz.prog fn a.tmps (PPost E d w T (NdQ w)) a.defers .returning W
 | .panic chain, a, W => ∃ b k q i', a.defers = [{ target := Target.fn (Fn.func 72) #[.pointer (some ⟨b, 0, none⟩)], args := #[] }] ∧ chain = slipV k q ∧ w.grownBy W (some E.rb) ∧ T = .bad k q ∧ Rd E W i' (d + 1) ∧ W.heap[b]? = some (.cells #[.pointer (some ⟨E.rb, 0, none⟩)] 42 (0, 0))
 | _, _, _ => False
theorem bodyPostE_le (fn : Func) (E : Env) (d : Nat) (w : World) (T : Res Ty) : ∀ e a W, qD fn E d w T e a W → bodyPostD Tryz.prog fn (PPost E d w T (NdQ w)) e a W := by
 intro e a W h
 cases e with
 | normal => exact h
 | ret => exact h
 | panic chain =>
  obtain ⟨b, k, q, i', hd, rfl, hg, hT, hr, hc⟩ := h
  show Leaves _ _ _ _ a.defers _ _
  rw [hd];exact dleave_bad rfl hg hT hr hc
 | exit id => exact h.elim
 | goto l => exact h.elim
 | outgrown => exact h.elim
theorem ret_E {E : Env} {d d1 b j : Nat} (hdd : d1 = d + 1) {w W : World} {fn : Func} {t : Tmp} (hres : fn.results = #[.cell t 26]) {tmps : Array Value} (ht : tmps.getD t undef = .pointer (some ⟨w.heap.size, 0, none⟩)) {T : Res Ty} {x : Ty} {ao : Option Addr} {cap : Nat} (hrb : E.rb < w.heap.size) (f1 : TB W w.heap.size x ao cap) (hg : w.grownBy W (some E.rb)) (hT : T = .ok x j) (hr : Rd E W j d1) (hq : NdQ w x (.agg (jh x ao cap)) W) (hc : W.heap[b]? = some (.cells #[.pointer (some ⟨E.rb, 0, none⟩)] 42 (0, 0))) :
 qD fn E d w T .ret { tmps := tmps, defers := [{ target := Target.fn (Fn.func 72) #[.pointer (some ⟨b, 0, none⟩)], args := #[] }] } W := dleave_ok hdd hres ht hrb f1 hg hT hr hq hc
def vO (fn : Func) (E : Env) (d : Nat) (w : World) (T : Res Ty) : Exit → Act → World → Prop
 | .normal, a, W | .ret, a, W => Leaves Tryz.prog fn a.tmps (PPost E d w T (NdQ w)) a.defers .returning W
 | .panic chain, a, W => (a.defers = [] ∧ PPost E d w T (NdQ w) (.panicked chain) W) ∨ qD fn E d w T (.panic chain) a W
 | _, _, _ => False
theorem bodyPostF_le (fn : Func) (E : Env) (d : Nat) (w : World) (T : Res Ty) : ∀ e a W, vO fn E d w T e a W → bodyPostD Tryz.prog fn (PPost E d w T (NdQ w)) e a W := by
 intro e a W h
 cases e with
 | normal => exact h
 | ret => exact h
 | panic chain =>
  rcases h with ⟨hd, hp⟩ | h
  · show Leaves _ _ _ _ a.defers _ _
    rw [hd];exact hp
  · exact bodyPostE_le fn E d w T _ a W h
 | exit id => exact h.elim
 | goto l => exact h.elim
 | outgrown => exact h.elim
theorem ret_N {E : Env} {d j : Nat} {w W : World} {fn : Func} {t : Tmp} (hres : fn.results = #[.cell t 26]) {tmps : Array Value} (ht : tmps.getD t undef = .pointer (some ⟨w.heap.size, 0, none⟩)) {T : Res Ty} {x : Ty} {ao : Option Addr} {cap : Nat} (f1 : TB W w.heap.size x ao cap) (hg : w.grownBy W (some E.rb)) (hT : T = .ok x j) (hr : Rd E W j d) (hq : NdQ w x (.agg (jh x ao cap)) W) :
 vO fn E d w T .ret { tmps := tmps, defers := [] } W := ⟨_, vo hres ht f1, PPost.ok hg hT hq hr⟩
section
variable (E : Env) (d : Nat)
theorem know : Hid (∀ w j, Rd E w j d → Calls Tryz.prog 35 #[.pointer (some ⟨E.rb, 0, none⟩)] w fun e w' => e = .returned (.agg #[.int .i64 (E.P.K j), .int .i64 (E.P.A j : Int), .string (E.P.T j), .int .i64 (E.P.N j : Int)]) ∧ Below w.heap.size w w') := lh (fun w j h => now_any E w j d h)
theorem knode : Hid (∀ (k a : Int) (ao : Option Addr) (n cap : Nat) (w : World), Calls Tryz.prog 28 #[.int .i64 k, .int .i64 a, .slice ao n cap] w fun e w' => e = .returned (.agg #[.int .i64 k, .int .i64 a, .string ⟨#[]⟩, .int .i64 0, .slice ao n cap]) ∧ Below w.heap.size w w') := lh node_any
end
abbrev Bp (E : Env) (w : World) (d : Nat) (wk : World) (j : Nat) (ls : List At) : Prop := Bd E w (Rd E) (Fb E w) d wk j ls
theorem fam_b (E : Env) (w : World) : Fam E w (Rd E) (Fb E w) := ⟨fun h => h.R, fun h => h.lt, fun h => h.rb, fun h hg hr => ⟨hr, jr h.G hg, kM hg h.r0 (by have := h.rb; omega), h.rb⟩, fun h => h.keep, fun h => h.set, fun h => h.own⟩
def PQ (R9 : Act → World → Prop) (B9 : List PanicEntry → List Deferred → World → Prop) : Exit → Act → World → Prop
 | .normal, a, W | .ret, a, W => R9 a W
 | .panic c, a, W => B9 c a.defers W
 | _, _, _ => False
structure Pn9 (fn : Func) (E : Env) (d : Nat) (w : World) (T : Res Ty) (P : Ty → Value → World → Prop) (R9 : Act → World → Prop) (B9 : List PanicEntry → List Deferred → World → Prop) : Prop where
 r : R9 = bodyPost Tryz.prog fn (PPost E d w T P) .ret
 b : B9 = fun c ds W => ds = [] ∧ PPost E d w T P (.panicked c) W
theorem Pn9.ex (fn : Func) (E : Env) (d : Nat) (w : World) (T : Res Ty) (P : Ty → Value → World → Prop) : ∃ R9 B9, Pn9 fn E d w T P R9 B9 ∧ ∀ e a W, PQ R9 B9 e a W → bodyPost Tryz.prog fn (PPost E d w T P) e a W := by
 refine ⟨_, _, ⟨rfl, rfl⟩, fun e a W h => ?_⟩
 cases e with
 | normal => exact h
 | ret => exact h
 | panic c => exact h
 | _ => exact h.elim
section
variable {E : Env} {w w1 V : World} {d j j' : Nat} {ls : List At}
theorem Bd.cp (b : Bp E w d w1 j ls) : w1.cell? ⟨w.heap.size, 0, none⟩ = some (.int .i64 0) ∧ w1.cell? ⟨w.heap.size, 1, none⟩ = some (.int .i64 0) ∧ w1.cell? ⟨w.heap.size, 2, none⟩ = some (.string ⟨#[]⟩) ∧ w1.cell? ⟨w.heap.size, 3, none⟩ = some (.int .i64 0) ∧ w1.cell? ⟨w.heap.size, 4, none⟩ = some (.slice none 0 0) ∧ w1.frozen? ⟨w.heap.size, 0, none⟩ = false ∧ w1.frozen? ⟨w.heap.size, 1, none⟩ = false ∧ w1.frozen? ⟨w.heap.size, 2, none⟩ = false ∧ w1.frozen? ⟨w.heap.size, 3, none⟩ = false ∧ w1.frozen? ⟨w.heap.size, 4, none⟩ = false := by
 have h := b.F.r0;unfold ju at h;obtain ⟨⟨c0, c1, c2, c3, c4⟩, ⟨z0, z1, z2, z3, z4⟩⟩ := jC h;exact ⟨c0, c1, c2, c3, c4, z0, z1, z2, z3, z4⟩
theorem Bd.seti {v9 : Value} (b : Bp E w d w1 j ls) (hj : j' ≤ E.P.toks.length) (h : w1.setCell ⟨E.rb, 1, none⟩ v9 = V) (hv : v9 = .int .i64 (j' : Int)) : Bp E w d V j' ls := by subst h; subst hv; exact ⟨b.F.seti hj, b.S.ss (Nat.le_of_lt b.rb) rfl, b.B, b.fm⟩
theorem Bp.fin (x : Ty) {fn : Func} {tm : Array Value} {R9 : Act → World → Prop} {B9 : List PanicEntry → List Deferred → World → Prop} {T : Res Ty} {t : Tmp} {ao : Option Addr} {cap : Nat} (b : Bp E w d w1 j (.kd x.args ao cap :: ls)) (p : Pn9 fn E d w T (NdQ w) R9 B9) (hT : T = .ok x j) (hres : fn.results = #[.cell t 26]) (ht : tm.getD t undef = .pointer (some ⟨w.heap.size, 0, none⟩)) : PQ R9 B9 .ret ⟨tm, []⟩ (kN w1 w.heap.size x ao cap) := by
 obtain ⟨X, hk⟩ := b.S.kd;obtain ⟨f1, f2, f3, f4⟩ := b.F.fin b.B hk
 show R9 _ _
 rw [p.r];exact bodyPost_ret (vo hres ht f1) rfl (PPost.ok f2 hT f4 f3)
end
section
variable {E : Env} {w w1 V : World} {φ : Nat → World → Nat → Prop} {d j j' : Nat} {ls : List At} {Q9 : Ending → World → Prop} {fn : Nat} {args : Array Value}
theorem Bd.drew (b : Bd E w (Rd E) φ d w1 j (ls)) : Bd E w (Rd E) φ d w1.drew j (ls) := b.be (Below.refl _ _).drew
theorem Bd.pnow (b : Bd E w (Rd E) φ d w1 j (ls)) (k : ∀ u, Bd E w (Rd E) φ d u j (ls) → Q9 (.returned (.agg #[.int .i64 (E.P.K j), .int .i64 (E.P.A j : Int), .string (E.P.T j), .int .i64 (E.P.N j : Int)])) u) : Calls Tryz.prog 35 #[.pointer (some ⟨E.rb, 0, none⟩)] w1 Q9 := b.ask ((know E d).out _ _ b.R) k
theorem Bd.pnode {x a : Int} {ao : Option Addr} {n cap : Nat} (b : Bd E w (Rd E) φ d w1 j (ls)) (k : ∀ u, Bd E w (Rd E) φ d u j (ls) → Q9 (.returned (.agg #[.int .i64 x, .int .i64 a, .string ⟨#[]⟩, .int .i64 0, .slice ao n cap])) u) : Calls Tryz.prog 28 #[.int .i64 x, .int .i64 a, .slice ao n cap] w1 Q9 := b.ask (knode.out x a ao n cap w1) k
theorem Bd.pany {α : Type} {U : Res α} {p9 : α → Value → World → Prop} (b : Bd E w (Rd E) φ d w1 j (ls)) (h : Calls Tryz.prog fn args w1 (PPost E d w1 U p9)) (kb : ∀ k a u i', U = .bad k a → Bd E w (Rd E) φ d u i' (ls) → Q9 (.panicked (slipV k a)) u) (k : ∀ u x vv j', U = .ok x j' → Bd E w (Rd E) φ d u j' (ls) → w1.grownBy u (some E.rb) → p9 x vv u → Q9 (.returned vv) u) : Calls Tryz.prog fn args w1 Q9 := h.mono (by
 rintro e u ⟨hg, h3⟩
 rcases h3 with ⟨x, j', v, hx, rfl, hq, hr⟩ | ⟨k9, a, hx, rfl, jj, hr⟩
 · exact k _ _ _ _ hx (b.gr hg hr) hg hq
 · exact kb _ _ _ _ hx (b.gr hg hr))
theorem Bd.pndc {U : Res Ty} (b : Bd E w (Rd E) φ d w1 j (ls)) (h : Calls Tryz.prog fn args w1 (PPost E d w1 U (NdQ w1))) (kb : ∀ k a u i', U = .bad k a → Bd E w (Rd E) φ d u i' (ls) → Q9 (.panicked (slipV k a)) u) (k : ∀ u x ao cap j', U = .ok x j' → Bd E w (Rd E) φ d u j' (.kd x.args ao cap :: ls) → Q9 (.returned (.agg #[.int .i64 x.k, .int .i64 x.n, .string x.s, .int .i64 x.q, .slice ao x.args.length cap])) u) : Calls Tryz.prog fn args w1 Q9 := b.pany h kb fun u x vv j' hx b2 hg h9 => by
 obtain ⟨ao, cap, rfl, hs⟩ := h9
 exact k u x ao cap j' hx ⟨b2.F, b.S.rd b.lt b.rb hg hs, b.B, b.fm⟩
section
variable {β : Type} {T : Res β} {A C : M β} {sg : ByteArray}
theorem Bd.eat1 (b : Bd E w (Rd E) φ d w1 j (ls)) (h : isD E.P sg j = true) (k : ∀ u, Bd E w (Rd E) φ d u (j + 1) (ls) → Q9 (.returned (.bool true)) u) : Calls Tryz.prog 38 #[.pointer (some ⟨E.rb, 0, none⟩), .string sg] w1 Q9 := (eat_any E w1 j d sg b.R).mono (by
 rintro x u ⟨rfl, hr, hg⟩
 rw [h, if_pos rfl] at hr
 rw [h]
 exact k u (b.gr hg hr))
theorem Bd.eat0 (b : Bd E w (Rd E) φ d w1 j (ls)) (h : isD E.P sg j = false) (k : ∀ u, Bd E w (Rd E) φ d u j (ls) → Q9 (.returned (.bool false)) u) : Calls Tryz.prog 38 #[.pointer (some ⟨E.rb, 0, none⟩), .string sg] w1 Q9 := (eat_any E w1 j d sg b.R).mono (by
 rintro x u ⟨rfl, hr, hg⟩
 rw [h, if_neg Bool.false_ne_true] at hr
 rw [h]
 exact k u (b.gr hg hr))
theorem Bd.is0 (b : Bd E w (Rd E) φ d w1 j (ls)) (h : isD E.P sg j = false) (k : ∀ u, Bd E w (Rd E) φ d u j (ls) → Q9 (.returned (.bool false)) u) : Calls Tryz.prog 73 #[.pointer (some ⟨E.rb, 0, none⟩), .string sg] w1 Q9 := b.ask (h ▸ is_any E w1 j d sg b.R) k
end
end
theorem AtsY.gv {w wk : World} {b t : Nat} {row : Array Value} : ∀ {ls : List At} {Y : Nat → Prop}, AtsY w wk Y ls → .gv b t row ∈ ls → wk.heap[b]? = some (.cells row t (0, 0))
 | a :: ls, Y, h, hm => by
  rcases List.mem_cons.1 hm with rfl | hm
  · exact h.1.1.row
  · exact AtsY.gv h.2 hm
theorem Bd.win {E : Env} {w w1 : World} {d j : Nat} {ls : List At} {Q9 : Ending → World → Prop} (b : Bp E w d w1 j ls) (hl : d < 60) (k : ∀ u c, w1.heap.size = c → Bp E w (d + 1) u j (.gv c 42 #[.pointer (some ⟨E.rb, 0, none⟩)] :: ls) → Q9 (.returned (.func (.func 72) #[] #[.pointer (some ⟨c, 0, none⟩)])) u) : Calls Tryz.prog 37 #[.pointer (some ⟨E.rb, 0, none⟩)] w1 Q9 := (within_any E w1 j d b.R).mono (by
 rintro e u ⟨hg, h3⟩
 rcases h3 with ⟨-, rfl, hr, hl2, hc⟩ | ⟨hnd, -⟩
 · exact k u _ rfl ⟨(b.gr hg hr).F, b.S.put hg b.rb (fun X hX => ⟨⟨hc, b.lt⟩, fun e => by have := hX _ e; omega⟩) (fun x e => Nat.le_of_eq e.symm), b.B, b.fm⟩
 · exact absurd hl hnd)
structure Pw9 (fn : Func) (E : Env) (d : Nat) (w : World) (T : Res Ty) (R9 : Act → World → Prop) (B9 : List PanicEntry → List Deferred → World → Prop) : Prop where
 r : R9 = qD fn E d w T .ret
 b : ∀ (c : List PanicEntry) (a : Act) W, qD fn E d w T (.panic c) a W → B9 c a.defers W
theorem Pw9.ex (fn : Func) (E : Env) (d : Nat) (w : World) (T : Res Ty) : ∃ R9 B9, Pw9 fn E d w T R9 B9 ∧ ∀ e a W, PQ R9 B9 e a W → qD fn E d w T e a W := by
 refine ⟨_, fun c ds W => qD fn E d w T (.panic c) ⟨#[], ds⟩ W, ⟨rfl, fun c a W h => h⟩, fun e a W h => ?_⟩
 cases e with
 | normal => exact h
 | ret => exact h
 | panic c => exact h
 | _ => exact h.elim
section
variable {fn : Func} {E : Env} {d b j : Nat} {w w1 : World} {T : Res Ty} {R9 : Act → World → Prop} {B9 : List PanicEntry → List Deferred → World → Prop} {ls : List At}
theorem Bp.finw (x : Ty) {tm : Array Value} {t : Tmp} {ao : Option Addr} {cap : Nat} (h : Bp E w (d + 1) w1 j (.kd x.args ao cap :: ls)) (p : Pw9 fn E d w T R9 B9) (hm : .gv b 42 #[.pointer (some ⟨E.rb, 0, none⟩)] ∈ ls) (hT : T = .ok x j) (hres : fn.results = #[.cell t 26]) (ht : tm.getD t undef = .pointer (some ⟨w.heap.size, 0, none⟩)) : PQ R9 B9 .ret ⟨tm, [{ target := Target.fn (Fn.func 72) #[.pointer (some ⟨b, 0, none⟩)], args := #[] }]⟩ (kN w1 w.heap.size x ao cap) := by
 obtain ⟨X, hk⟩ := h.S.kd;obtain ⟨f1, f2, f3, f4⟩ := h.F.fin h.B hk;have hc := AtsY.gv h.S.dr hm
 have hlt : w.heap.size < b := by
  have h9 := h.S.dr.wr (x := b) ⟨_, hm, rfl⟩;exact h9.1
 show R9 _ _
 rw [p.r];exact ret_E rfl hres ht h.rb f1 f2 hT f3 f4 (qi hc (by omega))
end
structure Pf9 (fn : Func) (E : Env) (d : Nat) (w : World) (T : Res Ty) (R9 : Act → World → Prop) (B9 : List PanicEntry → List Deferred → World → Prop) : Prop where
 r : R9 = vO fn E d w T .ret
 b : ∀ (c : List PanicEntry) (a : Act) W, vO fn E d w T (.panic c) a W → B9 c a.defers W
theorem Pf9.ex (fn : Func) (E : Env) (d : Nat) (w : World) (T : Res Ty) : ∃ R9 B9, Pf9 fn E d w T R9 B9 ∧ ∀ e a W, PQ R9 B9 e a W → bodyPostD Tryz.prog fn (PPost E d w T (NdQ w)) e a W := by
 refine ⟨_, fun c ds W => vO fn E d w T (.panic c) ⟨#[], ds⟩ W, ⟨rfl, fun c a W h => h⟩, fun e a W h => bodyPostF_le fn E d w T e a W ?_⟩
 cases e with
 | normal => exact h
 | ret => exact h
 | panic c => exact h
 | _ => exact h.elim
section
variable {fn : Func} {E : Env} {d b j : Nat} {w w1 : World} {T : Res Ty} {R9 : Act → World → Prop} {B9 : List PanicEntry → List Deferred → World → Prop} {ls : List At}
theorem Bp.finN (x : Ty) {tm : Array Value} {t : Tmp} {ao : Option Addr} {cap : Nat} (h : Bp E w d w1 j (.kd x.args ao cap :: ls)) (p : Pf9 fn E d w T R9 B9) (hT : T = .ok x j) (hres : fn.results = #[.cell t 26]) (ht : tm.getD t undef = .pointer (some ⟨w.heap.size, 0, none⟩)) : PQ R9 B9 .ret ⟨tm, []⟩ (kN w1 w.heap.size x ao cap) := by
 obtain ⟨X, hk⟩ := h.S.kd;obtain ⟨f1, f2, f3, f4⟩ := h.F.fin h.B hk
 show R9 _ _
 rw [p.r];exact ret_N hres ht f1 f2 hT f3 f4
end
theorem Bd.elem {σ : Type} {E : Env} {w w1 : World} {rd : World → σ → Nat → Prop} {φ : Nat → World → σ → Prop} {d : Nat} {s : σ} {ls : List At} {l : List Ty} {ao : Option Addr} {cap : Nat} (b : Bd E w rd φ d w1 s (.kd l ao cap :: ls)) {m : Nat} (hm : m < l.length) : ∃ x b9 p9 a9 c9, Hid (x = l[m]'hm) ∧ Hid (∀ y, wrs ls y → ¬ b9 = y) ∧ (¬ (b9 = w.heap.size) ∧ b9 < w1.heap.size ∧ (∀ w' : World, (Instr.indexAt 24 (.slice ao l.length cap) (.int .i64 (m : Int))).run Tryz.prog w' = .ok (.pointer (some ⟨b9, p9, none⟩)) w') ∧ w1.cell? ⟨b9, p9, none⟩ = some (.int .i64 x.k) ∧ w1.cell? ⟨b9, p9 + 1, none⟩ = some (.int .i64 x.n) ∧ w1.cell? ⟨b9, p9 + 2, none⟩ = some (.string x.s) ∧ w1.cell? ⟨b9, p9 + 3, none⟩ = some (.int .i64 x.q) ∧ w1.cell? ⟨b9, p9 + 4, none⟩ = some (.slice a9 x.args.length c9)) ∧ Bd E w rd φ d w1 s (.kd x.args a9 c9 :: .kd l ao cap :: ls) := by
 obtain ⟨b9, p9, a9, c9, hD, ix, x0, x1, x2, x3, x4, hs⟩ := arg_cells b.S.1 (j := m) hm;refine ⟨_, b9, p9, a9, c9, lh rfl, lh fun y hy e => hD.2.2 (.inr (e ▸ hy)), ⟨Nat.ne_of_gt hD.1, hD.2.1, ix, x0, x1, x2, x3, x4⟩, b.F, ⟨Kd.mono hs fun y hy => hy.elim (fun h => h.elim) (fun h => .inr ((wrs_cons.1 h).elim False.elim id)), Kd.mono b.S.1 fun y hy => hy.elim (fun h => h.elim (fun h => .inl h) (fun h => h.elim)) .inr, AtsY.mono b.S.2 fun y hy => hy.elim (fun h => h.elim (fun h => .inl h) (fun h => h.elim)) .inr⟩, b.B, b.fm⟩
theorem pos_less {E : Env} {w w' : World} {i j d d' : Nat} (h : Rd E w i d) (h' : Rd E w' j d') (hl : i + 1 ≤ j) : E.P.toks.length - posOf w' E.rb < E.P.toks.length - posOf w E.rb := by
 have h1 := h.pos;have h2 := h'.pos;have h3 := h'.le;omega
section
variable {σ : Type} {E : Env} {w w0 w1 A : World} {rd : World → σ → Nat → Prop} {φ : Nat → World → σ → Prop} {d : Nat} {s : σ} {ls : List At} {ao : Option Addr} {cap : Nat}
theorem Bd.nilp (e : TypeId) (size : Nat) (b : Bd E w rd φ d w1 s ls) : Bd E w rd φ d w1 s (.pw e size (.slice none 0 0) 0 [] :: ls) := ⟨b.F, ⟨Pw.nil _ _ _ _ _, AtsY.mono b.S fun x hx => hx.elim id (fun h9 => by simp [At.wr, Value.ownBlock] at h9)⟩, b.B, b.fm⟩
theorem Bd.appP {ops : Array Oper} {rest : List Oper} {o : Oper} {a : Act} {Q : Exit → Act → World → Prop} {v z : Value} {n size bytes : Nat} {xs : List Value} {ty e : TypeId} {row : Array Value} (b : Bd E w rd φ d w0 s (.pw e size v n xs :: ls)) (hu : Tryz.prog.underlying ty = some (.slice e)) (hinf : (Tryz.prog.info? e).map (fun i => (i.zero, i.size, i.bytes)) = some (some z, size, bytes)) (hzs : z.cells.size = size) (hsz : 0 < size) (hby : bytes ≤ 40) (hgd : o.guard = none) (x y : Operand) (ho : o.op = .call { callee := .builtin .append, args := #[x, y], argTypes := #[ty, ty] }) (hs : a.eval x = v) (hA : A = w0.alloc (.cells row e)) (hx : a.eval y = .slice (some ⟨w0.heap.size, 0, none⟩) 1 1) (hrow : row.toList.length = size) (ho1 : ∀ u ∈ row.toList, u.oneCell' = true) (hn : n ≤ 1000000000)
 (k : ∀ ao cap u, Bd E w rd φ d u s (.pw e size (.slice ao (n + 1) cap) (n + 1) (xs ++ row.toList) :: ls) → wpList Tryz.prog ops Q rest (a.put o.dst (.slice ao (n + 1) cap)) u) : wpList Tryz.prog ops Q (o :: rest) a A := by
 have b1 := b.be (V := A) (by rw [hA]; exact jk (Below.refl _ _) _);obtain ⟨h1, h3⟩ := b1.S;refine wpList_appP hu hinf hzs hsz hby hgd x y ho hs w0 row hrow hA hx ho1 (X := wrs ls) (h1.fresh fun a ha => .inl (.inr ha)) b1.lt (fun a ha => (AtsY.wr h3 ha).2.1) hn fun ao cap u hP hA9 hat => k ao cap u ⟨b1.fm.own b1.F b1.B hA9, ⟨hP.fresh fun a ha => ha.elim False.elim .inl, ?_⟩, b1.B, b1.fm⟩
 have key : AtsY w A (fun x => (False ∨ v.ownBlock = some x) ∨ (Value.slice ao (n + 1) cap).ownBlock = some x) ls := AtsY.fresh h3 fun x hx => by
  rcases hx with (hx | hx) | hx
  · exact hx.elim
  · exact .inl (.inr hx)
  · exact (hat x hx).elim (fun h => .inl (.inr h)) .inr
 exact AtsY.mono (AtsY.beside hA9 key (fun a e => .inl (.inr e))) fun x hx => hx.elim False.elim .inr
theorem Bd.pel {n size : Nat} {xs : List Value} {ty e : TypeId} (b : Bd E w rd φ d w1 s (.pw e size (.slice ao n cap) n xs :: ls)) (hu : Tryz.prog.underlying ty = some (.slice e)) (hsz : ∀ w : World, (sizeOf e).run Tryz.prog w = .ok size w) {m : Nat} (hm : m < n) : ∃ b9 p9, Hid (∀ y, wrs ls y → ¬ b9 = y) ∧ ¬ (b9 = w.heap.size) ∧ b9 < w1.heap.size ∧ (∀ w' : World, (Instr.indexAt ty (.slice ao n cap) (.int .i64 (m : Int))).run Tryz.prog w' = .ok (.pointer (some ⟨b9, p9, none⟩)) w') ∧ Hid (∀ c u, xs[m * size + c]? = some u → w1.cell? ⟨b9, p9 + c, none⟩ = some u) := by
 obtain ⟨g, cap', e, h1, h2, h3, h4⟩ := Pw.cell b.S.1 (by omega);injection e with e1 e2 e3
 subst e1 e3;exact ⟨g, 0 + m * size, lh fun y hy e => h3 (.inr (e ▸ hy)), Nat.ne_of_gt h1, h2, fun w' => index_at hu hsz rfl _ _ m hm w', lh fun c u h => by rw [show 0 + m * size + c = m * size + c by omega]; exact h4 _ u h⟩
theorem Bd.join {Q9 : Ending → World → Prop} {x y : Ty} {xo yo : Option Addr} {xc yc : Nat} {sg : ByteArray} (b : Bd E w rd φ d w1 s (.kd x.args xo xc :: .kd y.args yo yc :: ls)) (hj : ∀ s a b, (kG s a b).args = [a, b]) (k : ∀ u g j9, Hid (j9 = kG sg x y) → Bd E w rd φ d u s (.kd j9.args (some ⟨g, 0, none⟩) 2 :: ls) → Q9 (.returned (.agg #[.int .i64 j9.k, .int .i64 j9.n, .string j9.s, .int .i64 j9.q, .slice (some ⟨g, 0, none⟩) j9.args.length 2])) u) : Calls Tryz.prog 80 #[.string sg, .agg #[.int .i64 x.k, .int .i64 x.n, .string x.s, .int .i64 x.q, .slice xo x.args.length xc], .agg #[.int .i64 y.k, .int .i64 y.n, .string y.s, .int .i64 y.q, .slice yo y.args.length yc]] w1 Q9 := (joined_any sg x y xo yo xc yc w1).mono (by
 rintro e u ⟨g, hg, rfl, hb, hr⟩
 have b2 := b.be hb
 have h1 : Kd w w1 (wrs ls) x.args xo xc := Kd.mono b.S.1 fun _ hx => .inr (wrs_cons.2 (.inr hx))
 have h2 : Kd w w1 (wrs ls) y.args yo yc := Kd.mono b.S.2.1 fun _ hx => .inr hx
 have hk := Kd.join h1 h2 b.lt (fun a ha => (AtsY.wr b.S.2.2 ha).2.1) hb hg hr
 refine k u g _ (lh rfl) ⟨b2.F, ⟨?_, ?_⟩, b2.B, b2.fm⟩
 · rw [hj]; exact Kd.mono hk fun _ hx => hx.elim False.elim id
 · exact AtsY.mono b2.S.2.2 fun x hx => hx.elim (fun h => .inl (.inl h)) (fun h => h.elim))
end
abbrev set2 (W : World) (b : Nat) (x y : Nat) : World := (W.setCell ⟨b, 0, none⟩ (.int .i64 (x : Int))).setCell ⟨b, 1, none⟩ (.int .i64 (y : Int))
theorem catch_none (nb fb : Nat) (w : World) :
 CallsD Tryz.prog 34 #[.pointer (some ⟨nb, 0, none⟩), .pointer (some ⟨fb, 0, none⟩)] .returning w fun e u' w' => e = .returned (.tuple #[]) ∧ u' = .returning ∧ w' = w := by
 refine callsD_of_wpS Tryz.func34 rfl fun c₀ cs hu => ?_
 simp only [Tryz.ntmps34, List.size_toArray, List.length_cons, List.length_nil, Nat.reduceAdd, Nat.reduceSub, Array.replicate_succ, Array.replicate_zero, List.push_toArray, List.append_toArray, List.nil_append, List.cons_append];apply wpS_seq
 apply wpS_region
 simp [wpOpsS, go_sem, recoverD, hu, Tryz.ntmps34, Exit.thenS]
 refine wpS_of_wp ?_;go_wp2_with fail
 refine ⟨rfl, _, ?_, .tuple #[], results_none rfl _ _ _, rfl, hu, rfl⟩;rfl
def tokV (t : Tok) : Value := .agg #[.int .i64 t.1, .int .i64 t.2.1, .string t.2.2.1, .int .i64 t.2.2.2]
abbrev TokB (W : World) (b : Nat) (k a : Int) (x : ByteArray) (n : Int) : Prop := W.heap[b]? = some (.cells #[.int .i64 k, .int .i64 a, .string x, .int .i64 n] 59 (0, 0))
structure TS (w W : World) (k i : Int) (x : ByteArray) (n : Int) : Prop where
 r : TokB W w.heap.size 0 0 ⟨#[]⟩ 0
 t : TokB W (w.heap.size + 1) k i x n
 b : Below w.heap.size w W
theorem TS.start (w : World) (i : Int) : TS w ((w.alloc (.cells #[.int .i64 0, .int .i64 0, .string ⟨#[]⟩, .int .i64 0] 59)).alloc (.cells #[.int .i64 0, .int .i64 i, .string ⟨#[]⟩, .int .i64 0] 59)) 0 i ⟨#[]⟩ 0 := by
 have h := heap_alloc_new (w.alloc (.cells #[.int .i64 0, .int .i64 0, .string ⟨#[]⟩, .int .i64 0] 59)) (.cells #[.int .i64 0, .int .i64 i, .string ⟨#[]⟩, .int .i64 0] 59);rw [World.size_alloc] at h;exact ⟨js (heap_alloc_new w _) _, h, jk (jk (Below.refl _ _) _) _⟩
theorem TS.setn {w W : World} {k i n : Int} {x : ByteArray} (h : TS w W k i x n) (n' : Int) : TS w (W.setCell ⟨w.heap.size + 1, 3, none⟩ (.int .i64 n')) k i x n' :=
 ⟨jg h.r (by omega) _ _, jy h.t 3 _, h.b.setCell (p := ⟨w.heap.size + 1, 3, none⟩) (by simp) _⟩
theorem TS.setk {w W : World} {k i n : Int} {x : ByteArray} (h : TS w W k i x n) (k' : Int) : TS w (W.setCell ⟨w.heap.size + 1, 0, none⟩ (.int .i64 k')) k' i x n :=
 ⟨jg h.r (by omega) _ _, jy h.t 0 _, h.b.setCell (p := ⟨w.heap.size + 1, 0, none⟩) (by simp) _⟩
theorem TS.setx {w W : World} {k i n : Int} {x : ByteArray} (h : TS w W k i x n) (x' : ByteArray) : TS w (W.setCell ⟨w.heap.size + 1, 2, none⟩ (.string x')) k i x' n :=
 ⟨jg h.r (by omega) _ _, jy h.t 2 _, h.b.setCell (p := ⟨w.heap.size + 1, 2, none⟩) (by simp) _⟩
theorem TS.drew {w W : World} {k i n : Int} {x : ByteArray} (h : TS w W k i x n) : TS w W.drew k i x n := ⟨h.r, h.t, h.b.drew⟩
theorem TS.below {w W W' : World} {k i n : Int} {x : ByteArray} (h : TS w W k i x n) (hb : Below W.heap.size W W') : TS w W' k i x n :=
 ⟨jo h.r hb (lt_of_block h.r), jo h.t hb (lt_of_block h.t), h.b.trans (hb.mono h.b.size)⟩
def vN (s : ByteArray) (i : Nat) (w : World) (e : Ending) (w' : World) : Prop :=
 (match tokD s i with
 | some (t, j) => e = .returned (.tuple #[tokV t, .int .i64 j])
 | none => ∃ (k a n : Int) (x : ByteArray), e = .returned (.tuple #[.agg #[.int .i64 k, .int .i64 a, .string x, .int .i64 n], .int .i64 (-1)])) ∧ Below w.heap.size w w'
theorem rtok_digit (s : ByteArray) (i0 : Nat) (w : World) (hs : s.size ≤ 4000) (hi : i0 < s.size) (hd : dig (bt s i0) = true) :
 Calls Tryz.prog 142 #[.string s, .int .i64 i0] w (vN s i0 w) := by
 have k0 : (0 : Int) ≤ (i0 : Int) := by omega
 have k1 : (i0 : Int) < (s.size : Int) := by omega
 obtain ⟨W, hW⟩ : ∃ W, W = (w.alloc (.cells #[.int .i64 0, .int .i64 0, .string ⟨#[]⟩, .int .i64 0] 59)).alloc (.cells #[.int .i64 0, .int .i64 i0, .string ⟨#[]⟩, .int .i64 0] 59) := ⟨_, rfl⟩
 have hts : TS w W 0 i0 ⟨#[]⟩ 0 := by rw [hW]; exact TS.start w i0
 have HW := lh hW;have HTS := lh hts;clear hW hts;obtain ⟨c, hcb⟩ : ∃ c, c = bt s i0 := ⟨_, rfl⟩
 have hck := qo hi hcb;have HCB := lh hcb;rw [← hcb] at hd;have HD := lh hd;clear hcb;go_enter Tryz.func142, Tryz.ntmps142
 go_wp2_with fail
 rw [← HW.out];refine (jS _ _).mono ?_;rintro e w' ⟨rfl, rfl⟩;go_wp2_with fail
 clear hd hck k0 k1;go_loopw [7] (fun i wr => ∃ k n : Nat, k ≤ s.size ∧ n ≤ 1000000001 ∧ i = .int .i64 k ∧ TS w wr 0 i0 ⟨#[]⟩ n ∧ numD s k n = numD s i0 0) (fun i _ => s.size - (intOf i).toNat)
 case atStart => exact ⟨i0, 0, by omega, by omega, rfl, HTS.out, rfl⟩
 case round =>
  obtain ⟨k, n, hk, hn, rfl, hts, hc⟩ := hrel;have HC := lh hc;have HT := lh hts;have k0 : (0 : Int) ≤ (k : Int) := by omega
  have t0 : wr.cell? ⟨w.heap.size + 1, 3, none⟩ = some (.int .i64 n) := ja hts.t 3;have z0 := jd hts.t 3;have hl : w.heap.size + 1 < wr.heap.size := lt_of_block hts.t;clear hc hts
  by_cases hg : k < s.size ∧ dig (bt s k) = true
  · obtain ⟨hlt, hdg⟩ := hg;have k1 : (k : Int) < (s.size : Int) := (by omega);obtain ⟨d, hdb⟩ : ∃ d, d = bt s k := ⟨_, rfl⟩
    have hdk := qo hlt hdb;have hst := numD_step (n := n) hlt hdg;have b1 : 48 ≤ bt s k ∧ bt s k ≤ 57 := by simpa [dig] using hdg
    rw [← hdb] at hst b1 hdg;have HST := lh hst;obtain ⟨b1, b2⟩ := b1;have HDB := lh hdb;clear hst hdb;go_wp2_with fail
    refine (jS _ _).mono ?_;rintro e w' ⟨rfl, rfl⟩;go_wp2_with fail
    go_still_tail 10, (by kernel_rfl)
    have e1 : IntKind.u8.wrap ((d : Int) - 48) = ((d - 48 : Nat) : Int) := (by show ((d : Int) - 48) % 256 = _; omega);have e2 : IntKind.i64.wrap (((d - 48 : Nat) : Int)) = ((d - 48 : Nat) : Int) := IntWalk.i64_in _ (by omega);have e3 : IntKind.i64.wrap (10 * (n : Int)) = 10 * (n : Int) := IntWalk.i64_in _ (by omega);have e4 : IntKind.i64.wrap (10 * (n : Int) + ((d - 48 : Nat) : Int)) = ((10 * n + (d - 48) : Nat) : Int) := (by rw [IntWalk.i64_in _ (by omega)]; push_cast; rfl);rw [e1, e2, e3, e4]
    change wpList _ _ _ _ _ wr.drew
    obtain ⟨m, hm⟩ : ∃ m, m = 10 * n + (d - 48) := ⟨_, rfl⟩
    rw [← hm];have hts2 := HT.out.drew;have HM := lh hm;have hm1 : m ≤ 10000000100 := (by omega);clear e1 e2 e3 e4 t0 z0 hl hm;generalize wr.drew = wn at hts2 ⊢;have HT2 := lh hts2;have t0 : wn.cell? ⟨w.heap.size + 1, 3, none⟩ = some (.int .i64 n) := ja hts2.t 3;have z0 := jd hts2.t 3;have hl : w.heap.size + 1 < wn.heap.size := lt_of_block hts2.t;clear hts2
    by_cases hbig : 1000000000 < m
    · have hd1 : decide ((1000000000 : Int) < (m : Int)) = true := (by simp; omega);go_wp2_with fail
      go_roundw
      case rel =>
       refine ⟨k + 1, 1000000001, by omega, by omega, by go_num, (HT2.out.setn _).setn _, ?_⟩;rw [← HC.out, HST.out, ← HM.out, show min m 1000000001 = 1000000001 from by omega]
      case measure => simp [intOf]; omega
    · have hd1 : decide ((1000000000 : Int) < (m : Int)) = false := (by simp; omega);go_wp2_with fail
      go_roundw
      case rel =>
       refine ⟨k + 1, m, by omega, by omega, by go_num, HT2.out.setn _, ?_⟩;rw [← HC.out, HST.out, ← HM.out, show min m 1000000001 = m from by omega]
      case measure => simp [intOf]; omega
  · have hst := numD_stop (s := s) (i := k) (n := n) (fun h => by cases hx : dig (bt s k) with | true => exact absurd ⟨h, hx⟩ hg | false => rfl)
    have htk : tokD s i0 = if n ≤ 1000000000 then some ((1, i0, ByteArray.empty, n), k) else none := by
     unfold tokD;rw [if_pos (by rw [← HCB.out]; exact HD.out), ← HC.out, hst]
    have r0 : wr.cell? ⟨w.heap.size, 0, none⟩ = some (.int .i64 0) := ja HT.out.r 0;have r1 : wr.cell? ⟨w.heap.size, 1, none⟩ = some (.int .i64 0) := ja HT.out.r 1;have r2 : wr.cell? ⟨w.heap.size, 2, none⟩ = some (.string ⟨#[]⟩) := ja HT.out.r 2;have r3 : wr.cell? ⟨w.heap.size, 3, none⟩ = some (.int .i64 0) := ja HT.out.r 3;have y0 := jd HT.out.r 0;have y1 := jd HT.out.r 1;have y2 := jd HT.out.r 2;have y3 := jd HT.out.r 3;have a0 : wr.cell? ⟨w.heap.size + 1, 0, none⟩ = some (.int .i64 0) := ja HT.out.t 0;have a1 : wr.cell? ⟨w.heap.size + 1, 1, none⟩ = some (.int .i64 i0) := ja HT.out.t 1;have a2 : wr.cell? ⟨w.heap.size + 1, 2, none⟩ = some (.string ⟨#[]⟩) := ja HT.out.t 2;have a3 : wr.cell? ⟨w.heap.size + 1, 3, none⟩ = some (.int .i64 n) := ja HT.out.t 3;have z0 := jd HT.out.t 0;have z1 := jd HT.out.t 1;have z2 := jd HT.out.t 2;have z3 := jd HT.out.t 3;have hl2 : w.heap.size < wr.heap.size := lt_of_block HT.out.r;have hl3 : w.heap.size + 1 < wr.heap.size := lt_of_block HT.out.t
    by_cases hbig : n ≤ 1000000000
    · have hd1 : decide ((1000000000 : Int) < (n : Int)) = false := (by simp; omega);rw [if_pos hbig] at htk;have HTK := lh htk;clear htk hst hbig
      by_cases hlt : k < s.size
      · have k1 : (k : Int) < (s.size : Int) := (by omega);have hdg : dig (bt s k) = false := by cases hx : dig (bt s k) with | true => exact absurd ⟨hlt, hx⟩ hg | false => rfl
        obtain ⟨d, hdb⟩ : ∃ d, d = bt s k := ⟨_, rfl⟩
        have hdk := qo hlt hdb;rw [← hdb] at hdg;have HDB := lh hdb;clear hdb hg;go_wp2_with fail
        refine (jS _ _).mono ?_;rintro e w' ⟨rfl, rfl⟩;go_wp2_with fail
        refine bodyPost_ret (v := .tuple #[.agg #[.int .i64 1, .int .i64 i0, .string ⟨#[]⟩, .int .i64 n], .int .i64 k]) (by simp [results, Tryz.results142, go_sem, *]) rfl ?_;refine ⟨?_, ?_⟩
        · rw [HTK.out]; rfl
        · repeat (first | exact HT.out.b | refine Below.setCell ?_ (by simp) _)
      · clear hg;go_wp2_with fail
        refine bodyPost_ret (v := .tuple #[.agg #[.int .i64 1, .int .i64 i0, .string ⟨#[]⟩, .int .i64 n], .int .i64 k]) (by simp [results, Tryz.results142, go_sem, *]) rfl ?_;refine ⟨?_, ?_⟩
        · rw [HTK.out]; rfl
        · repeat (first | exact HT.out.b | refine Below.setCell ?_ (by simp) _)
    · have hd1 : decide ((1000000000 : Int) < (n : Int)) = true := (by simp; omega);rw [if_neg hbig] at htk;have HTK := lh htk;clear htk hst hbig
      by_cases hlt : k < s.size
      · have k1 : (k : Int) < (s.size : Int) := (by omega);have hdg : dig (bt s k) = false := by cases hx : dig (bt s k) with | true => exact absurd ⟨hlt, hx⟩ hg | false => rfl
        obtain ⟨d, hdb⟩ : ∃ d, d = bt s k := ⟨_, rfl⟩
        have hdk := qo hlt hdb;rw [← hdb] at hdg;have HDB := lh hdb;clear hdb hg;go_wp2_with fail
        refine (jS _ _).mono ?_;rintro e w' ⟨rfl, rfl⟩;go_wp2_with fail
        refine bodyPost_ret (v := .tuple #[.agg #[.int .i64 1, .int .i64 i0, .string ⟨#[]⟩, .int .i64 n], .int .i64 (-1)]) (by simp [results, Tryz.results142, go_sem, *]) rfl ?_;refine ⟨?_, ?_⟩
        · rw [HTK.out]; exact ⟨_, _, _, _, rfl⟩
        · repeat (first | exact HT.out.b | refine Below.setCell ?_ (by simp) _)
      · clear hg;go_wp2_with fail
        refine bodyPost_ret (v := .tuple #[.agg #[.int .i64 1, .int .i64 i0, .string ⟨#[]⟩, .int .i64 n], .int .i64 (-1)]) (by simp [results, Tryz.results142, go_sem, *]) rfl ?_;refine ⟨?_, ?_⟩
        · rw [HTK.out]; exact ⟨_, _, _, _, rfl⟩
        · repeat (first | exact HT.out.b | refine Below.setCell ?_ (by simp) _)
theorem vZ (t : ByteArray) : qM t = ve wordB t := by
 have h : wordL.map String.toUTF8 = wordB := by decide +kernel
 unfold qM ve;rw [← h, List.any_map];rfl
theorem tokD_text {s : ByteArray} {i : Nat} (h : bt s i = 34) : tokD s i = match textD s (i + 1) [] with
 | some (b, j) => some ((2, i, ⟨b.toArray⟩, 0), j)
 | none => none := by
 unfold tokD;rw [if_neg (by simp [dig, h]), if_pos h];rfl
theorem tokD_var {s : ByteArray} {i : Nat} (h : bt s i = 39) : tokD s i = if vfD s i < varD s (vfD s i) (vfD s i) ∧ varD s (vfD s i) (vfD s i) - vfD s i ≤ 20 then some ((5, i, cut s i (varD s (vfD s i) (vfD s i)), 0), varD s (vfD s i) (vfD s i)) else none := by
 unfold tokD;rw [if_neg (by simp [dig, h]), if_neg (by omega), if_pos h];rfl
theorem rtok_text (s : ByteArray) (i0 : Nat) (w : World) (hs : s.size ≤ 4000) (hi : i0 < s.size) (h34 : bt s i0 = 34) :
 Calls Tryz.prog 142 #[.string s, .int .i64 i0] w (vN s i0 w) := by
 have k0 : (0 : Int) ≤ (i0 : Int) := by omega
 have k1 : (i0 : Int) < (s.size : Int) := by omega
 obtain ⟨W, hW⟩ : ∃ W, W = (w.alloc (.cells #[.int .i64 0, .int .i64 0, .string ⟨#[]⟩, .int .i64 0] 59)).alloc (.cells #[.int .i64 0, .int .i64 i0, .string ⟨#[]⟩, .int .i64 0] 59) := ⟨_, rfl⟩
 have hts : TS w W 0 i0 ⟨#[]⟩ 0 := by rw [hW]; exact TS.start w i0
 have HW := lh hW;have HTS := lh hts;clear hW hts;obtain ⟨c, hcb⟩ : ∃ c, c = bt s i0 := ⟨_, rfl⟩
 have hck := qo hi hcb;have HCB := lh hcb;have hT := tokD_text h34;rw [← hcb] at h34;have hdg : dig c = false := by rw [h34]; rfl
 have e34 : ((c : Int) == 34) = true := by rw [h34]; rfl
 have HTT := lh hT;clear hcb h34 hT;have s0 : W.cell? ⟨w.heap.size + 1, 0, none⟩ = some (.int .i64 0) := ja HTS.out.t 0;have sf := jd HTS.out.t 0;have hl0 : w.heap.size + 1 < W.heap.size := lt_of_block HTS.out.t;go_enter Tryz.func142, Tryz.ntmps142
 go_wp2_with fail
 rw [← HW.out];refine (jS _ _).mono ?_;rintro e w' ⟨rfl, rfl⟩;go_wp2_with fail
 refine (rtext_any s i0 _ hs hi).mono ?_;rintro e w2 ⟨he, hb2⟩;have hts2 := (HTS.out.setk 2).below hb2;have HT2 := lh hts2;clear hb2 hts2 s0 sf hl0;have r0 : w2.cell? ⟨w.heap.size, 0, none⟩ = some (.int .i64 0) := ja HT2.out.r 0;have r1 : w2.cell? ⟨w.heap.size, 1, none⟩ = some (.int .i64 0) := ja HT2.out.r 1;have r2 : w2.cell? ⟨w.heap.size, 2, none⟩ = some (.string ⟨#[]⟩) := ja HT2.out.r 2;have r3 : w2.cell? ⟨w.heap.size, 3, none⟩ = some (.int .i64 0) := ja HT2.out.r 3;have y0 := jd HT2.out.r 0;have y1 := jd HT2.out.r 1;have y2 := jd HT2.out.r 2;have y3 := jd HT2.out.r 3;have a0 : w2.cell? ⟨w.heap.size + 1, 0, none⟩ = some (.int .i64 2) := ja HT2.out.t 0;have a1 : w2.cell? ⟨w.heap.size + 1, 1, none⟩ = some (.int .i64 i0) := ja HT2.out.t 1;have a2 : w2.cell? ⟨w.heap.size + 1, 2, none⟩ = some (.string ⟨#[]⟩) := ja HT2.out.t 2;have a3 : w2.cell? ⟨w.heap.size + 1, 3, none⟩ = some (.int .i64 0) := ja HT2.out.t 3;have z0 := jd HT2.out.t 0;have z1 := jd HT2.out.t 1;have z2 := jd HT2.out.t 2;have z3 := jd HT2.out.t 3;have hl2 : w.heap.size < w2.heap.size := lt_of_block HT2.out.r;have hl3 : w.heap.size + 1 < w2.heap.size := lt_of_block HT2.out.t
 cases ht : textD s (i0 + 1) [] with
 | none =>
  rw [kz ht] at he;subst he;have hT := HTT.out;rw [ht] at hT;have HTK := lh hT;clear hT ht;go_wp2_with fail
  refine bodyPost_ret (v := .tuple #[.agg #[.int .i64 2, .int .i64 i0, .string ⟨#[]⟩, .int .i64 0], .int .i64 (-1)]) (by simp [results, Tryz.results142, go_sem, *]) rfl ?_;refine ⟨?_, ?_⟩
  · rw [HTK.out]; exact ⟨_, _, _, _, rfl⟩
  · repeat (first | exact HT2.out.b | refine Below.setCell ?_ (by simp) _)
 | some p =>
  obtain ⟨r, j⟩ := p;rw [textV_some ht] at he;subst he;have hT := HTT.out;rw [ht] at hT;have HTK := lh hT;clear hT ht;go_wp2_with fail
  refine bodyPost_ret (v := .tuple #[.agg #[.int .i64 2, .int .i64 i0, .string ⟨r.toArray⟩, .int .i64 0], .int .i64 j]) (by simp [results, Tryz.results142, go_sem, *]) rfl ?_;refine ⟨?_, ?_⟩
  · rw [HTK.out]; rfl
  · repeat (first | exact HT2.out.b | refine Below.setCell ?_ (by simp) _)
theorem rtok_var (s : ByteArray) (i0 : Nat) (w : World) (hs : s.size ≤ 4000) (hi : i0 < s.size) (h39 : bt s i0 = 39) :
 Calls Tryz.prog 142 #[.string s, .int .i64 i0] w (vN s i0 w) := by
 have k0 : (0 : Int) ≤ (i0 : Int) := by omega
 have k1 : (i0 : Int) < (s.size : Int) := by omega
 obtain ⟨W, hW⟩ : ∃ W, W = (w.alloc (.cells #[.int .i64 0, .int .i64 0, .string ⟨#[]⟩, .int .i64 0] 59)).alloc (.cells #[.int .i64 0, .int .i64 i0, .string ⟨#[]⟩, .int .i64 0] 59) := ⟨_, rfl⟩
 have hts : TS w W 0 i0 ⟨#[]⟩ 0 := by rw [hW]; exact TS.start w i0
 have HW := lh hW;have HTS := lh hts;clear hW hts;obtain ⟨c, hcb⟩ : ∃ c, c = bt s i0 := ⟨_, rfl⟩
 have hck := qo hi hcb;have HCB := lh hcb;have hT := tokD_var h39;rw [← hcb] at h39;have hdg : dig c = false := by rw [h39]; rfl
 have e34 : ((c : Int) == 34) = false := by rw [h39]; rfl
 have e39 : ((c : Int) == 39) = true := by rw [h39]; rfl
 clear hcb h39;have hv : varI s i0 = if vfD s i0 < varD s (vfD s i0) (vfD s i0) ∧ varD s (vfD s i0) (vfD s i0) - vfD s i0 ≤ 20 then (varD s (vfD s i0) (vfD s i0) : Int) else -1 := rfl;have hvs := varD_ge (s := s) (vfD s i0) (vfD s i0)
 have hfs : vfD s i0 ≤ s.size ∧ i0 < vfD s i0 := by
  unfold vfD;split
  · rename_i h; simp [tokD.hasQ] at h; omega
  · omega
 generalize vfD s i0 = f at *
 generalize varD s f f = j at *
 obtain ⟨hj1, hj2⟩ := hvs;obtain ⟨hf1, hf2⟩ := hfs;have hj2 := hj2 hf1;go_enter Tryz.func142, Tryz.ntmps142
 go_wp2_with fail
 rw [← HW.out];refine (jS _ _).mono ?_;rintro e w' ⟨rfl, rfl⟩;have HV := lh hv;have HTT := lh hT;clear hT hv;go_wp2_with fail
 refine (rvariable_any s i0 _ hs hi).mono ?_;rintro e w2 ⟨rfl, rfl⟩;have r0 : W.cell? ⟨w.heap.size, 0, none⟩ = some (.int .i64 0) := ja HTS.out.r 0;have r1 : W.cell? ⟨w.heap.size, 1, none⟩ = some (.int .i64 0) := ja HTS.out.r 1;have r2 : W.cell? ⟨w.heap.size, 2, none⟩ = some (.string ⟨#[]⟩) := ja HTS.out.r 2;have r3 : W.cell? ⟨w.heap.size, 3, none⟩ = some (.int .i64 0) := ja HTS.out.r 3;have y0 := jd HTS.out.r 0;have y1 := jd HTS.out.r 1;have y2 := jd HTS.out.r 2;have y3 := jd HTS.out.r 3;have a0 : W.cell? ⟨w.heap.size + 1, 0, none⟩ = some (.int .i64 0) := ja HTS.out.t 0;have a1 : W.cell? ⟨w.heap.size + 1, 1, none⟩ = some (.int .i64 i0) := ja HTS.out.t 1;have a2 : W.cell? ⟨w.heap.size + 1, 2, none⟩ = some (.string ⟨#[]⟩) := ja HTS.out.t 2;have a3 : W.cell? ⟨w.heap.size + 1, 3, none⟩ = some (.int .i64 0) := ja HTS.out.t 3;have z0 := jd HTS.out.t 0;have z1 := jd HTS.out.t 1;have z2 := jd HTS.out.t 2;have z3 := jd HTS.out.t 3;have hl2 : w.heap.size < W.heap.size := lt_of_block HTS.out.r;have hl3 : w.heap.size + 1 < W.heap.size := lt_of_block HTS.out.t;have hv2 := HV.out;have hT2 := HTT.out
 by_cases hg : f < j ∧ j - f ≤ 20
 · rw [if_pos hg] at hv2 hT2;rw [hv2];have HTK := lh hT2;have j0 : (0 : Int) ≤ (j : Int) := (by omega);have j1 : (i0 : Int) ≤ (j : Int) := (by omega);have j2 : (j : Int) ≤ (s.size : Int) := (by omega);clear hv2 hT2 hg;go_wp2_with fail
   refine bodyPost_ret (v := .tuple #[.agg #[.int .i64 5, .int .i64 i0, .string (s.extract i0 j), .int .i64 0], .int .i64 j]) (by simp [results, Tryz.results142, go_sem, *]) rfl ?_;refine ⟨?_, ?_⟩
   · rw [HTK.out]; rfl
   · repeat (first | exact HTS.out.b | refine Below.setCell ?_ (by simp) _)
 · rw [if_neg hg] at hv2 hT2;rw [hv2];have HTK := lh hT2;clear hv2 hT2 hg;go_wp2_with fail
   refine bodyPost_ret (v := .tuple #[.agg #[.int .i64 0, .int .i64 i0, .string ⟨#[]⟩, .int .i64 0], .int .i64 (-1)]) (by simp [results, Tryz.results142, go_sem, *]) rfl ?_;refine ⟨?_, ?_⟩
   · rw [HTK.out]; exact ⟨_, _, _, _, rfl⟩
   · repeat (first | exact HTS.out.b | refine Below.setCell ?_ (by simp) _)
theorem keep2d {w : World} {b i : Nat} {v : Value} (h : w.cell? ⟨b, i, none⟩ = some v) : w.drew.cell? ⟨b, i, none⟩ = some v := h
theorem keep2a {w : World} {b i : Nat} {v : Value} {o : Obj} (h : w.cell? ⟨b, i, none⟩ = some v) : (w.alloc o).cell? ⟨b, i, none⟩ = some v := by
 rw [World.cell?_alloc_old _ _ _ (Nat.ne_of_lt (World.block_lt_of_cell? w _ h))]; exact h
def nameK (s : ByteArray) (i : Nat) (t : ByteArray) : Nat := if t = ⟨#[95]⟩ then 7 else if qM t then 6 else if kB (bt s i) then 4 else 3
theorem tokD_name {s : ByteArray} {i : Nat} (h : kf (bt s i) = true ∨ kB (bt s i) = true ∨ bt s i = 95) : tokD s i = if whD s jB i - i ≤ 20 then some ((nameK s i (cut s i (whD s jB i)), i, cut s i (whD s jB i), 0), whD s jB i) else none := by
 have h1 : dig (bt s i) = false ∧ bt s i ≠ 34 ∧ bt s i ≠ 39 := by
  rcases h with h | h | h
  · simp [kf] at h; simp [dig]; omega
  · simp [kB] at h; simp [dig]; omega
  · simp [dig, h]
 have h2 : (kf (bt s i) || kB (bt s i) || decide (bt s i = 95)) = true := by
  rcases h with h | h | h <;> simp [h]
 unfold tokD;rw [if_neg (by simp [h1.1]), if_neg h1.2.1, if_neg h1.2.2, if_pos h2];rfl
theorem rtok_name (s : ByteArray) (i0 : Nat) (w : World) (hs : s.size ≤ 4000) (hi : i0 < s.size) (hn : kf (bt s i0) = true ∨ kB (bt s i0) = true ∨ bt s i0 = 95) :
 Calls Tryz.prog 142 #[.string s, .int .i64 i0] w (vN s i0 w) := by
 have k0 : (0 : Int) ≤ (i0 : Int) := by omega
 have k1 : (i0 : Int) < (s.size : Int) := by omega
 obtain ⟨W, hW⟩ : ∃ W, W = (w.alloc (.cells #[.int .i64 0, .int .i64 0, .string ⟨#[]⟩, .int .i64 0] 59)).alloc (.cells #[.int .i64 0, .int .i64 i0, .string ⟨#[]⟩, .int .i64 0] 59) := ⟨_, rfl⟩
 have hts : TS w W 0 i0 ⟨#[]⟩ 0 := by rw [hW]; exact TS.start w i0
 have HW := lh hW;have HTS := lh hts;clear hW hts;obtain ⟨c, hcb⟩ : ∃ c, c = bt s i0 := ⟨_, rfl⟩
 have hck := qo hi hcb;have HCB := lh hcb;have hT := tokD_name hn
 have hc1 : dig (bt s i0) = false ∧ bt s i0 ≠ 34 ∧ bt s i0 ≠ 39 := by
  rcases hn with h | h | h
  · simp [kf] at h; simp [dig]; omega
  · simp [kB] at h; simp [dig]; omega
  · simp [dig, h]
 rw [← hcb] at hn hc1;obtain ⟨hdg, n34, n39⟩ := hc1;have e34 : ((c : Int) == 34) = false := by simp; omega
 have e39 : ((c : Int) == 39) = false := by simp; omega
 have hjs := whD_ge s jB i0;generalize hj : whD s jB i0 = j at *
 have HJ := lh hj;have HTT := lh hT;have HN := lh hn;obtain ⟨hj1, hj2⟩ := hjs;have hj2 := hj2 (by omega);clear hcb hn n34 n39 hT hj;go_enter Tryz.func142, Tryz.ntmps142
 go_wp2_with fail
 rw [← HW.out];refine (jS _ _).mono ?_;rintro e w' ⟨rfl, rfl⟩;go_upto_region 25 with fail
 go_cut [92] (fun o wx => o = .bool true ∧ wx = W)
 case first =>
  rcases HN.out with h | h | h
  · go_wp2_with fail
    refine (qF _ _).mono ?_;rintro e w' ⟨rfl, rfl⟩;go_wp2_with fail
    go_meet
    exact ⟨rfl, rfl⟩
  · have h2 : kf c = false := (by simp [kB] at h; simp [kf]; omega);go_wp2_with fail
    refine (qF _ _).mono ?_;rintro e w' ⟨rfl, rfl⟩;go_wp2_with fail
    refine (vj _ _).mono ?_;rintro e w' ⟨rfl, rfl⟩;go_wp2_with fail
    go_meet
    exact ⟨rfl, rfl⟩
  · have h2 : kf c = false := (by simp [h]; rfl);have h3 : kB c = false := (by simp [h]; rfl);have h4 : ((c : Int) == 95) = true := (by simp [h]);clear h;go_wp2_with fail
    refine (qF _ _).mono ?_;rintro e w' ⟨rfl, rfl⟩;go_wp2_with fail
    refine (vj _ _).mono ?_;rintro e w' ⟨rfl, rfl⟩;go_wp2_with fail
    go_meet
    exact ⟨rfl, rfl⟩
 case rest =>
  obtain ⟨rfl, rfl⟩ := hcut;have j1 : (i0 : Int) ≤ (j : Int) := by omega
  have j2 : (j : Int) ≤ (s.size : Int) := by omega
  have j0 : (0 : Int) ≤ (j : Int) := by omega
  have a2 : wc.cell? ⟨w.heap.size + 1, 2, none⟩ = some (.string ⟨#[]⟩) := ja HTS.out.t 2;have z2 := jd HTS.out.t 2;have hl0 : w.heap.size + 1 < wc.heap.size := lt_of_block HTS.out.t;go_wp2_with fail
  refine (name_any s i0 _ hs (by omega)).mono ?_;rintro e w' ⟨rfl, rfl⟩;rw [HJ.out];go_upto_region 28 with fail
  obtain ⟨t, ht⟩ : ∃ t, t = s.extract i0 j := ⟨_, rfl⟩
  rw [← ht];obtain ⟨w3, hw3⟩ : ∃ w3, w3 = wc.setCell ⟨w.heap.size + 1, 2, none⟩ (.string t) := ⟨_, rfl⟩
  have hts3 : TS w w3 0 i0 t 0 := by rw [hw3]; exact HTS.out.setx t
  rw [← hw3];have HT := lh ht;have HTS3 := lh hts3;clear a2 z2 hl0 ht hw3;have hS : w3.cell? ⟨w.heap.size + 1, 2, none⟩ = some (.string t) := ja hts3.t 2;have hl0 : w.heap.size + 1 < w3.heap.size := lt_of_block hts3.t;clear hts3
  go_region_held3 (fun w' => w'.cell? ⟨w.heap.size + 1, 2, none⟩ = some (.string t))
   (repeat (first | exact hS | apply keep2d | apply keep2a))
   (first
    | (go_at_call 178; refine (words_any _).mono ?_; rintro e w5 ⟨rfl, rfl⟩)
    | (go_at_call 143; go_loud (refine (among_any wordB _ t _ (by first | exact words_at _ | exact StrsAt.drew (words_at _) | exact StrsAt.drew (StrsAt.drew (words_at _))) (by decide)).mono ?_); rintro e w5 ⟨rfl, rfl⟩))
  have hts5 := (HTS3.out.below (jk (Below.refl w3.heap.size w3) (.cells wordV 9))).drew;clear hS hl0;generalize (w3.alloc (.cells wordV 9)).drew = w5 at hts5 ⊢;have HTS5 := lh hts5;have a2 : w5.cell? ⟨w.heap.size + 1, 2, none⟩ = some (.string t) := ja hts5.t 2;have a0 : w5.cell? ⟨w.heap.size + 1, 0, none⟩ = some (.int .i64 0) := ja hts5.t 0;have z0 := jd hts5.t 0;have hl0 : w.heap.size + 1 < w5.heap.size := lt_of_block hts5.t;clear hts5;obtain ⟨bw, hbw⟩ : ∃ bw, bw = ve wordB t := ⟨_, rfl⟩
  rw [← hbw];have HBW := lh hbw;clear hbw;go_upto_block 3 with fail
  go_cut [] (fun wx => TS w wx (nameK s i0 t) i0 t 0)
  case first =>
   by_cases h95 : t = ⟨#[95]⟩
   · have hk : nameK s i0 t = 7 := (by unfold nameK; rw [if_pos h95]);have HK := lh hk;have hb : (t.toList == [95]) = true := (by rw [show ([95] : List UInt8) = (⟨#[95]⟩ : ByteArray).toList from by simp [ByteArray.toList_eq], str_eq]; simp [h95]);have H95 := lh h95;clear hk h95;go_wp2_with fail
     go_meet
     rw [HK.out];exact HTS5.out.setk 7
   · have hb : (t.toList == [95]) = false := by rw [show ([95] : List UInt8) = (⟨#[95]⟩ : ByteArray).toList from by simp [ByteArray.toList_eq], str_eq]; simp [h95]
     cases bw with
     | true =>
      have hk : nameK s i0 t = 6 := (by unfold nameK; rw [if_neg h95, vZ, if_pos HBW.out.symm]);have HK := lh hk;clear hk h95;go_wp2_with fail
      go_meet
      rw [HK.out];exact HTS5.out.setk 6
     | false =>
      cases hg : kB c with
      | true =>
       have hk : nameK s i0 t = 4 := (by unfold nameK; rw [if_neg h95, vZ, if_neg (by simp [← HBW.out]), ← HCB.out, if_pos hg]);have HK := lh hk;clear hk h95;go_wp2_with fail
       refine (vj _ _).mono ?_;rintro e w' ⟨rfl, rfl⟩;go_wp2_with fail
       go_meet
       rw [HK.out];exact HTS5.out.setk 4
      | false =>
       have hk : nameK s i0 t = 3 := (by unfold nameK; rw [if_neg h95, vZ, if_neg (by simp [← HBW.out]), ← HCB.out, if_neg (by simp [hg])]);have HK := lh hk;clear hk h95;go_wp2_with fail
       refine (vj _ _).mono ?_;rintro e w' ⟨rfl, rfl⟩;go_wp2_with fail
       go_meet
       rw [HK.out];exact HTS5.out.setk 3
  case rest =>
   clear a0 a2 z0 hl0;have HT6 := lh hcut;obtain ⟨w6, hw6⟩ : ∃ w6 : World, w6 = wc := ⟨_, rfl⟩
   subst hw6;clear hcut;obtain ⟨nk, hnk⟩ : ∃ nk, nk = nameK s i0 t := ⟨_, rfl⟩
   have HNK := lh hnk;rw [← hnk] at HT6;clear hnk;have r0 : w6.cell? ⟨w.heap.size, 0, none⟩ = some (.int .i64 0) := ja HT6.out.r 0;have r1 : w6.cell? ⟨w.heap.size, 1, none⟩ = some (.int .i64 0) := ja HT6.out.r 1;have r2 : w6.cell? ⟨w.heap.size, 2, none⟩ = some (.string ⟨#[]⟩) := ja HT6.out.r 2;have r3 : w6.cell? ⟨w.heap.size, 3, none⟩ = some (.int .i64 0) := ja HT6.out.r 3;have y0 := jd HT6.out.r 0;have y1 := jd HT6.out.r 1;have y2 := jd HT6.out.r 2;have y3 := jd HT6.out.r 3;have a0 : w6.cell? ⟨w.heap.size + 1, 0, none⟩ = some (.int .i64 nk) := ja HT6.out.t 0;have a1 : w6.cell? ⟨w.heap.size + 1, 1, none⟩ = some (.int .i64 i0) := ja HT6.out.t 1;have a2 : w6.cell? ⟨w.heap.size + 1, 2, none⟩ = some (.string t) := ja HT6.out.t 2;have a3 : w6.cell? ⟨w.heap.size + 1, 3, none⟩ = some (.int .i64 0) := ja HT6.out.t 3;have z0 := jd HT6.out.t 0;have z1 := jd HT6.out.t 1;have z2 := jd HT6.out.t 2;have z3 := jd HT6.out.t 3;have hl2 : w.heap.size < w6.heap.size := lt_of_block HT6.out.r;have hl3 : w.heap.size + 1 < w6.heap.size := lt_of_block HT6.out.t
   by_cases h20 : j - i0 ≤ 20
   · have hd20 : decide ((20 : Int) < (j : Int) - i0) = false := (by simp; omega);have hT := HTT.out;rw [if_pos h20] at hT;have HTK := lh hT;clear hT h20;go_wp2_with fail
     refine bodyPost_ret (v := .tuple #[.agg #[.int .i64 nk, .int .i64 i0, .string t, .int .i64 0], .int .i64 j]) (by simp [results, Tryz.results142, go_sem, *]) rfl ?_;refine ⟨?_, ?_⟩
     · rw [HTK.out, HNK.out, HT.out]; rfl
     · repeat (first | exact HT6.out.b | refine Below.setCell ?_ (by simp) _)
   · have hd20 : decide ((20 : Int) < (j : Int) - i0) = true := (by simp; omega);have hT := HTT.out;rw [if_neg h20] at hT;have HTK := lh hT;clear hT h20;go_wp2_with fail
     refine bodyPost_ret (v := .tuple #[.agg #[.int .i64 nk, .int .i64 i0, .string t, .int .i64 0], .int .i64 (-1)]) (by simp [results, Tryz.results142, go_sem, *]) rfl ?_;refine ⟨?_, ?_⟩
     · rw [HTK.out]; exact ⟨_, _, _, _, rfl⟩
     · repeat (first | exact HT6.out.b | refine Below.setCell ?_ (by simp) _)
def mk2 (p : Nat × Nat) : ByteArray := ⟨#[UInt8.ofNat p.1, UInt8.ofNat p.2]⟩
def mk1 (a : Nat) : ByteArray := ⟨#[UInt8.ofNat a]⟩
theorem signB_eq : signB = pairL.map mk2 ++ signL.map mk1 := by decide +kernel
theorem atD_mk2 (s : ByteArray) (i : Nat) (p : Nat × Nat) (h1 : p.1 < 256) (h2 : p.2 < 256) : atD s i (mk2 p) = decide (i + 2 ≤ s.size ∧ (bt s i, bt s (i + 1)) = p) := by
 unfold mk2;rw [atD_two];have e1 : (UInt8.ofNat p.1).toNat = p.1 := by simp; omega
 have e2 : (UInt8.ofNat p.2).toNat = p.2 := by simp; omega
 rw [e1, e2];unfold qf;obtain ⟨a, b⟩ := p;simp
theorem cut_one (s : ByteArray) (k : Nat) (h : k + 1 ≤ s.size) : cut s k (k + 1) = ⟨#[s[k]]⟩ := by
 have hz := sizeL s;apply ByteArray.ext
 apply Array.ext'
 have h1 : k < s.data.toList.length := by omega
 simp only [cut, ByteArray.data_extract, Array.toList_extract];rw [List.extract_eq_take_drop, List.drop_eq_getElem_cons h1, show k + 1 - k = 1 from by omega];rfl
theorem atD_mk1 (s : ByteArray) (i a : Nat) (ha : a < 256) (hi : i < s.size) : atD s i (mk1 a) = decide (bt s i = a) := by
 have e : (mk1 a).size = 1 := rfl;unfold atD;rw [e, cut_one s i (by omega), ← kQ s i hi, decide_eq_decide];constructor
 · intro h;have h2 : s[i] = UInt8.ofNat a := by have := h.2; unfold mk1 at this; injection this with this; simpa using this
   rw [h2]; simp; omega
 · intro h;refine ⟨by omega, ?_⟩;rw [← h]; simp [mk1]
theorem find_pairs (s : ByteArray) (i : Nat) (L : List (Nat × Nat)) (hL : ∀ p ∈ L, p.1 < 256 ∧ p.2 < 256) : (L.map mk2).find? (fun t => atD s i t) = if i + 2 ≤ s.size ∧ (bt s i, bt s (i + 1)) ∈ L then some (mk2 (bt s i, bt s (i + 1))) else none := by
 induction L with
 | nil => simp
 | cons p L ih =>
  have h := hL p (by simp);rw [List.map_cons, List.find?_cons, atD_mk2 s i p h.1 h.2]
  by_cases hp : i + 2 ≤ s.size ∧ (bt s i, bt s (i + 1)) = p
  · rw [decide_eq_true hp, if_pos ⟨hp.1, by rw [hp.2]; simp⟩, hp.2]
  · rw [decide_eq_false hp, ih (fun q hq => hL q (by simp [hq]))]
    by_cases h3 : i + 2 ≤ s.size ∧ (bt s i, bt s (i + 1)) ∈ L
    · rw [if_pos h3, if_pos ⟨h3.1, List.mem_cons_of_mem _ h3.2⟩]
    · rw [if_neg h3, if_neg];rintro ⟨h4, h5⟩;rcases List.mem_cons.1 h5 with h6 | h6
      · exact hp ⟨h4, h6⟩
      · exact h3 ⟨h4, h6⟩
theorem find_signs (s : ByteArray) (i : Nat) (hi : i < s.size) (L : List Nat) (hL : ∀ p ∈ L, p < 256) : (L.map mk1).find? (fun t => atD s i t) = if bt s i ∈ L then some (mk1 (bt s i)) else none := by
 induction L with
 | nil => simp
 | cons p L ih =>
  have h := hL p (by simp);rw [List.map_cons, List.find?_cons, atD_mk1 s i p h hi]
  by_cases hp : bt s i = p
  · rw [decide_eq_true hp, if_pos (by rw [hp]; simp), hp]
  · rw [decide_eq_false hp, ih (fun q hq => hL q (by simp [hq]))]
    by_cases h3 : bt s i ∈ L
    · rw [if_pos h3, if_pos (List.mem_cons_of_mem _ h3)]
    · rw [if_neg h3, if_neg];intro h5;rcases List.mem_cons.1 h5 with h6 | h6
      · exact hp h6
      · exact h3 h6
theorem mk2_cut (s : ByteArray) (i : Nat) (h : i + 2 ≤ s.size) : mk2 (bt s i, bt s (i + 1)) = cut s i (i + 2) := by
 rw [cut_two s i h, ← kQ s i (by omega), ← kQ s (i + 1) (by omega)];simp [mk2]
theorem mk1_cut (s : ByteArray) (i : Nat) (h : i < s.size) : mk1 (bt s i) = cut s i (i + 1) := by
 rw [cut_one s i (by omega), ← kQ s i (by omega)];simp [mk1]
theorem tokD_sign {s : ByteArray} {i : Nat} (hi : i < s.size) (h1 : dig (bt s i) = false) (h2 : bt s i ≠ 34) (h3 : bt s i ≠ 39) (h4 : kf (bt s i) = false) (h5 : kB (bt s i) = false) (h6 : bt s i ≠ 95) :
 tokD s i = match signB.find? (fun t => atD s i t) with
  | some t => some ((7, i, t, 0), i + t.size)
  | none => none := by
 rw [signB_eq, List.find?_append, find_pairs s i pairL (by decide), find_signs s i hi signL (by decide)];unfold tokD;rw [if_neg (by simp [h1]), if_neg h2, if_neg h3, if_neg (by simp [h4, h5, h6])]
 by_cases hp : i + 2 ≤ s.size ∧ (bt s i, bt s (i + 1)) ∈ pairL
 · rw [if_pos hp, if_pos hp, mk2_cut s i hp.1];have e : (cut s i (i + 2)).size = 2 := (by rw [cut_two s i hp.1]; rfl);simp only [Option.some_or, e]
 · rw [if_neg hp, if_neg hp]
   by_cases hq : bt s i ∈ signL
   · rw [if_pos hq, if_pos hq, mk1_cut s i hi];have e : (cut s i (i + 1)).size = 1 := (by rw [cut_one s i (by omega)]; rfl);simp only [Option.none_or, e]
   · rw [if_neg hq, if_neg hq];rfl
theorem find_drop (s : ByteArray) (i : Nat) (L : List ByteArray) (k : Nat) (h : k < L.length) : (L.drop k).find? (fun t => atD s i t) = if atD s i (L.getD k ByteArray.empty) then some (L.getD k ByteArray.empty) else (L.drop (k + 1)).find? (fun t => atD s i t) := by
 have e : L.getD k ByteArray.empty = L[k] := by rw [List.getD_eq_getElem?_getD, List.getElem?_eq_getElem h]; rfl
 rw [List.drop_eq_getElem_cons h, List.find?_cons, e]
 cases atD s i L[k] <;> rfl
theorem sign_size (k : Nat) (hk : k < 28) : (signB.getD k ByteArray.empty).size ≤ 2 := by
 have h : ∀ k : Fin 28, (signB.getD k ByteArray.empty).size ≤ 2 := by decide +kernel
 exact h ⟨k, hk⟩
abbrev S47 (b bs k : Nat) (kd a n : Int) (x y : ByteArray) (W : World) : Prop :=
 W.cell? ⟨b, 0, none⟩ = some (.int .i64 kd) ∧ W.cell? ⟨b, 1, none⟩ = some (.int .i64 a) ∧ W.cell? ⟨b, 2, none⟩ = some (.string x) ∧ W.cell? ⟨b, 3, none⟩ = some (.int .i64 n) ∧ W.cell? ⟨bs, k, none⟩ = some (.string y)
theorem S47.drew {b bs k : Nat} {kd a n : Int} {x y : ByteArray} {W : World} (h : S47 b bs k kd a n x y W) : S47 b bs k kd a n x y W.drew := h
theorem S47.set {b bs k : Nat} {kd a n : Int} {x y : ByteArray} {W : World} (h : S47 b bs k kd a n x y W) (q i : Nat) (u : Value) (h1 : q ≠ b) (h2 : q ≠ bs) : S47 b bs k kd a n x y (W.setCell ⟨q, i, none⟩ u) :=
 ⟨(World.cell?_setCell_far W _ _ u h1).trans h.1, (World.cell?_setCell_far W _ _ u h1).trans h.2.1, (World.cell?_setCell_far W _ _ u h1).trans h.2.2.1, (World.cell?_setCell_far W _ _ u h1).trans h.2.2.2.1, (World.cell?_setCell_far W _ _ u h2).trans h.2.2.2.2⟩
theorem rtok_sign (s : ByteArray) (i0 : Nat) (w : World) (hs : s.size ≤ 4000) (hi : i0 < s.size) (h1 : dig (bt s i0) = false) (h2 : bt s i0 ≠ 34) (h3 : bt s i0 ≠ 39) (h4 : kf (bt s i0) = false) (h5 : kB (bt s i0) = false) (h6 : bt s i0 ≠ 95) :
 Calls Tryz.prog 142 #[.string s, .int .i64 i0] w (vN s i0 w) := by
 have k0 : (0 : Int) ≤ (i0 : Int) := by omega
 have k1 : (i0 : Int) < (s.size : Int) := by omega
 obtain ⟨W, hW⟩ : ∃ W, W = (w.alloc (.cells #[.int .i64 0, .int .i64 0, .string ⟨#[]⟩, .int .i64 0] 59)).alloc (.cells #[.int .i64 0, .int .i64 i0, .string ⟨#[]⟩, .int .i64 0] 59) := ⟨_, rfl⟩
 have hts : TS w W 0 i0 ⟨#[]⟩ 0 := by rw [hW]; exact TS.start w i0
 have HW := lh hW;have HTS := lh hts;clear hW hts;obtain ⟨c, hcb⟩ : ∃ c, c = bt s i0 := ⟨_, rfl⟩
 have hck := qo hi hcb;have HCB := lh hcb;have hT := tokD_sign hi h1 h2 h3 h4 h5 h6;rw [← hcb] at h1 h2 h3 h4 h5 h6;have e34 : ((c : Int) == 34) = false := by simp; omega
 have e39 : ((c : Int) == 39) = false := by simp; omega
 have e95 : ((c : Int) == 95) = false := by simp; omega
 have HTT := lh hT;clear hcb h2 h3 h6 hT;go_enter Tryz.func142, Tryz.ntmps142
 go_wp2_with fail
 rw [← HW.out];refine (jS _ _).mono ?_;rintro e w' ⟨rfl, rfl⟩;go_wp2_with fail
 refine (qF _ _).mono ?_;rintro e w' ⟨rfl, rfl⟩;go_wp2_with fail
 refine (vj _ _).mono ?_;rintro e w' ⟨rfl, rfl⟩;go_wp2_with fail
 refine (signs_any _).mono ?_;rintro e w5 ⟨rfl, hw5⟩;have hts5 : TS w w5 0 i0 ⟨#[]⟩ 0 := by rw [hw5]; exact HTS.out.below (jk (Below.refl _ _) _)
 have hsa : StrsAt w5 W.heap.size signB := by rw [hw5]; exact signs_at W
 have hWs := lt_of_block HTS.out.t;obtain ⟨bs, hbs⟩ : ∃ bs, bs = W.heap.size := ⟨_, rfl⟩
 rw [← hbs] at hsa hWs ⊢;have HT5 := lh hts5;have HSA := lh hsa;clear hts5 hsa hw5 hbs h1 h4 h5 e34 e39 e95 hck k0 k1;go_wp2_with fail
 go_loop [14] (fun i => ∃ k : Nat, k ≤ 28 ∧ i = .int .i64 k ∧ (signB.drop k).find? (fun t => atD s i0 t) = signB.find? (fun t => atD s i0 t)) (fun i => 28 - (intOf i).toNat)
 case atStart => exact ⟨0, by omega, rfl, rfl⟩
 case round =>
  obtain ⟨k, hk, rfl, hc⟩ := hrel;have HC := lh hc;clear hc;have r0 : w5.cell? ⟨w.heap.size, 0, none⟩ = some (.int .i64 0) := ja HT5.out.r 0;have r1 : w5.cell? ⟨w.heap.size, 1, none⟩ = some (.int .i64 0) := ja HT5.out.r 1;have r2 : w5.cell? ⟨w.heap.size, 2, none⟩ = some (.string ⟨#[]⟩) := ja HT5.out.r 2;have r3 : w5.cell? ⟨w.heap.size, 3, none⟩ = some (.int .i64 0) := ja HT5.out.r 3;have y0 := jd HT5.out.r 0;have y1 := jd HT5.out.r 1;have y2 := jd HT5.out.r 2;have y3 := jd HT5.out.r 3;have a0 : w5.cell? ⟨w.heap.size + 1, 0, none⟩ = some (.int .i64 0) := ja HT5.out.t 0;have a1 : w5.cell? ⟨w.heap.size + 1, 1, none⟩ = some (.int .i64 i0) := ja HT5.out.t 1;have a2 : w5.cell? ⟨w.heap.size + 1, 2, none⟩ = some (.string ⟨#[]⟩) := ja HT5.out.t 2;have a3 : w5.cell? ⟨w.heap.size + 1, 3, none⟩ = some (.int .i64 0) := ja HT5.out.t 3;have z0 := jd HT5.out.t 0;have z1 := jd HT5.out.t 1;have z2 := jd HT5.out.t 2;have z3 := jd HT5.out.t 3;have hl2 : w.heap.size < w5.heap.size := lt_of_block HT5.out.r;have hl3 : w.heap.size + 1 < w5.heap.size := lt_of_block HT5.out.t
  by_cases hlt : k < 28
  · have k0 : (0 : Int) ≤ (k : Int) := (by omega);have k1 : (k : Int) < 28 := (by omega);have hcell := HSA.out k hlt;have hst := find_drop s i0 signB k hlt;have hsz := sign_size k hlt;generalize signB.getD k ByteArray.empty = x at hcell hst hsz;have HST := lh hst;clear hst
    cases hx : atD s i0 x with
    | true =>
     have hfd : signB.find? (fun t => atD s i0 t) = some x := (by rw [← HC.out, HST.out, if_pos hx]);have hT := HTT.out;rw [hfd] at hT;have HTK := lh hT;have hxs : (0 : Int) ≤ (x.size : Int) := (by omega);clear hT hfd;go_wp2_with fail
     refine (at_any s i0 x _ hs (by omega) (by omega)).mono ?_;rintro e w' ⟨rfl, rfl⟩;clear a1 a3 r0 r1 r2 r3 z1 z3;go_upto_region 47 with fail
     have hts6 := (HT5.out.setk 7).setx x
     have hcell6 : ((w5.setCell ⟨w.heap.size + 1, 0, none⟩ (.int .i64 7)).setCell ⟨w.heap.size + 1, 2, none⟩ (.string x)).cell? ⟨bs, k, none⟩ = some (.string x) :=
      (World.cell?_setCell_far _ _ _ _ (by simp; omega)).trans ((World.cell?_setCell_far _ _ _ _ (by simp; omega)).trans hcell)
     clear a0 a2 z0 z2 hl2 hl3 hcell y0 y1 y2 y3;generalize (w5.setCell ⟨w.heap.size + 1, 0, none⟩ (.int .i64 7)).setCell ⟨w.heap.size + 1, 2, none⟩ (.string x) = w6 at hts6 hcell6 ⊢;have HT6 := lh hts6;have hS : S47 (w.heap.size + 1) bs k 7 i0 0 x x w6 := ⟨ja hts6.t 0, ja hts6.t 1, ja hts6.t 2, ja hts6.t 3, hcell6⟩;clear hts6 hcell6;have r0 : w6.cell? ⟨w.heap.size, 0, none⟩ = some (.int .i64 0) := ja HT6.out.r 0;have r1 : w6.cell? ⟨w.heap.size, 1, none⟩ = some (.int .i64 0) := ja HT6.out.r 1;have r2 : w6.cell? ⟨w.heap.size, 2, none⟩ = some (.string ⟨#[]⟩) := ja HT6.out.r 2;have r3 : w6.cell? ⟨w.heap.size, 3, none⟩ = some (.int .i64 0) := ja HT6.out.r 3;have y0 := jd HT6.out.r 0;have y1 := jd HT6.out.r 1;have y2 := jd HT6.out.r 2;have y3 := jd HT6.out.r 3;have hl2 : w.heap.size < w6.heap.size := lt_of_block HT6.out.r;have hl3 : w.heap.size + 1 < w6.heap.size := lt_of_block HT6.out.t;have hwx : IntKind.i64.wrap ((i0 : Int) + x.size) = i0 + x.size := IntWalk.i64_in _ (by omega)
     go_region_held3 (fun w' => S47 (w.heap.size + 1) bs k 7 i0 0 x x w')
      (repeat (first | exact hS | apply S47.drew | (refine S47.set ?_ _ _ _ (by omega) (by omega))))
      (fail)
     all_goals go_wp2_with fail
     all_goals
      refine bodyPost_ret (v := .tuple #[.agg #[.int .i64 7, .int .i64 i0, .string x, .int .i64 0], .int .i64 ((i0 : Int) + x.size)]) (by simp [results, Tryz.results142, go_sem, *]) rfl ?_;refine ⟨?_, ?_⟩
      · rw [HTK.out]; rfl
      · repeat (first | exact HT6.out.b | apply Below.drew | refine Below.setCell ?_ (by simp) _)
    | false =>
     go_wp2_with fail
     refine (at_any s i0 x _ hs (by omega) (by omega)).mono ?_;rintro e w' ⟨rfl, rfl⟩;go_wp2_with fail
     go_round
     case rel => exact ⟨k + 1, by omega, by go_num, by rw [← HC.out, HST.out, if_neg (by simp [hx])]⟩
     case measure => simp [intOf]; omega
  · obtain rfl : k = 28 := by omega
    have hfd : signB.find? (fun t => atD s i0 t) = none := (by rw [← HC.out]; rfl);have hT := HTT.out;rw [hfd] at hT;have HTK := lh hT;clear hT hfd;go_wp2_with fail
    refine bodyPost_ret (v := .tuple #[.agg #[.int .i64 0, .int .i64 i0, .string ⟨#[]⟩, .int .i64 0], .int .i64 (-1)]) (by simp [results, Tryz.results142, go_sem, *]) rfl ?_;refine ⟨?_, ?_⟩
    · rw [HTK.out]; exact ⟨_, _, _, _, rfl⟩
    · repeat (first | exact HT5.out.b | refine Below.setCell ?_ (by simp) _)
theorem rtok_any (s : ByteArray) (i0 : Nat) (w : World) (hs : s.size ≤ 4000) (hi : i0 < s.size) : Calls Tryz.prog 142 #[.string s, .int .i64 i0] w (vN s i0 w) := by
 cases h1 : dig (bt s i0) with
 | true => exact rtok_digit s i0 w hs hi h1
 | false =>
  by_cases h2 : bt s i0 = 34
  · exact rtok_text s i0 w hs hi h2
  · by_cases h3 : bt s i0 = 39
    · exact rtok_var s i0 w hs hi h3
    · by_cases hn : kf (bt s i0) = true ∨ kB (bt s i0) = true ∨ bt s i0 = 95
      · exact rtok_name s i0 w hs hi hn
      · simp only [not_or, Bool.not_eq_true] at hn;exact rtok_sign s i0 w hs hi h1 h2 h3 hn.1 hn.2.1 hn.2.2
theorem info59 : (Tryz.prog.info? 59).map (fun i => (i.zero, i.size, i.bytes)) = some (some (.agg #[.int .i64 0, .int .i64 0, .string ⟨#[]⟩, .int .i64 0]), 4, 40) := by kernel_rfl
def kE (t : Tok) : List Value := [.int .i64 t.1, .int .i64 t.2.1, .string t.2.2.1, .int .i64 t.2.2.2]
def LexPost (s : ByteArray) (w : World) (e : Ending) (w' : World) : Prop :=
 ∃ a cap, e = .returned (.tuple #[.slice a (jH s).1.length cap, .agg #[.int .i64 (jH s).2.1, .int .i64 (jH s).2.2]]) ∧
  w'.ownsRow w.heap.size 59 4 (.slice a (jH s).1.length cap) (jH s).1.length ((jH s).1.flatMap kE) ∧ Below w.heap.size w w'
theorem LexPost.mk' {s : ByteArray} {w w' : World} {e : Ending} {l : List Tok} {f : Nat × Nat} {a : Option Addr} {cap : Nat} (h : jH s = (l, f)) (he : e = .returned (.tuple #[.slice a l.length cap, .agg #[.int .i64 f.1, .int .i64 f.2]]))
 (ho : w'.ownsRow w.heap.size 59 4 (.slice a l.length cap) l.length (l.flatMap kE)) (hb : Below w.heap.size w w') : LexPost s w e w' := by
 unfold LexPost;rw [h];exact ⟨a, cap, he, ho, hb⟩
theorem tok_ones (a b d : Int) (x : ByteArray) : ∀ u ∈ ([.int .i64 a, .int .i64 b, .string x, .int .i64 d] : List Value), u.oneCell' = true := by
 intro u hu;simp only [List.mem_cons, List.not_mem_nil, or_false] at hu;rcases hu with rfl | rfl | rfl | rfl <;> rfl
abbrev FltB (W : World) (b : Nat) : Prop := W.heap[b]? = some (.cells #[.int .i64 0, .int .i64 0] 29 (0, 0))
theorem okB_cases (c : Nat) : okB c = true ↔ (c = 9 ∨ c = 10 ∨ (32 ≤ c ∧ c ≤ 126)) := by simp [okB]
theorem badD_step {s : ByteArray} {i : Nat} (h : i < s.size) (ho : okB (bt s i) = true) : badD s i = badD s (i + 1) := by rw [badD, dif_pos h, if_pos ho]
theorem badD_here {s : ByteArray} {i : Nat} (h : i < s.size) (ho : okB (bt s i) = false) : badD s i = some i := by rw [badD, dif_pos h, if_neg (by simp [ho])]
theorem badD_end {s : ByteArray} {i : Nat} (h : s.size ≤ i) : badD s i = none := by rw [badD, dif_neg (by omega)]
def TkRel (s : ByteArray) (w : World) (l i : Value) (wr : World) : Prop :=
 ∃ (k : Nat) (ts : List Tok) (a : Option Addr) (cap : Nat), k ≤ s.size ∧ ts.length ≤ k ∧ i = .int .i64 k ∧ l = .slice a ts.length cap ∧ wr.ownsRow w.heap.size 59 4 (.slice a ts.length cap) ts.length (ts.flatMap kE) ∧ FltB wr w.heap.size ∧ Below w.heap.size w wr ∧ qc s k ts = jH s
theorem rtoks_any (s : ByteArray) (w : World) : Calls Tryz.prog 101 #[.string s] w (LexPost s w) := by
 obtain ⟨W, hW⟩ : ∃ W, W = w.alloc (.cells #[.int .i64 0, .int .i64 0] 29) := ⟨_, rfl⟩
 have hfl : FltB W w.heap.size := by rw [hW]; exact heap_alloc_new w _
 have hbl : Below w.heap.size w W := by rw [hW]; exact (Below.refl _ _).alloc (Nat.le_refl _) _
 have HW := lh hW;have HF := lh hfl;have HB := lh hbl;obtain ⟨i59, hi, hz0, hz1, hz2⟩ := info_parts info59;have HI := lh hi;have x0 : W.cell? ⟨w.heap.size, 0, none⟩ = some (.int .i64 0) := ja hfl 0;have x1 : W.cell? ⟨w.heap.size, 1, none⟩ = some (.int .i64 0) := ja hfl 1;have z0 := jd hfl 0;have z1 := jd hfl 1;have l0 : w.heap.size < W.heap.size := lt_of_block hfl;clear hW hfl hbl hi
 by_cases hbig : 4000 < s.size
 · have hd : decide ((4000 : Int) < (s.size : Int)) = true := (by simp; omega);have hlx : jH s = ([], (1, 0)) := (by unfold jH; rw [if_pos hbig]);have HLX := lh hlx;clear hlx;go_enter Tryz.func101, Tryz.ntmps101
   go_upto_region 1 with fail
   rw [← HW.out];go_wp2_with fail
   refine bodyPost_ret (v := .tuple #[.slice none 0 0, .agg #[.int .i64 1, .int .i64 0]]) (by simp [results, Tryz.results101, go_sem, x0, x1, z0, z1, l0]) rfl ?_;refine LexPost.mk' HLX.out rfl (World.ownsRow_nil _ _ _ _) ?_;exact (HB.out.setCell (p := ⟨w.heap.size, 0, none⟩) (Nat.le_refl _) _).setCell (p := ⟨w.heap.size, 1, none⟩) (Nat.le_refl _) _
 · have hd : decide ((4000 : Int) < (s.size : Int)) = false := (by simp; omega);have hs : s.size ≤ 4000 := (by omega);have hlx : jH s = match badD s 0 with | some i => ([], (2, i)) | none => qc s 0 [] := by unfold jH; rw [if_neg hbig]; rfl
   have HLX := lh hlx;clear hlx;go_enter Tryz.func101, Tryz.ntmps101
   go_upto_region 1 with fail
   rw [← HW.out];go_wp2_with fail
   go_loop [4] (fun i => ∃ k : Nat, k ≤ s.size ∧ i = .int .i64 k ∧ badD s k = badD s 0) (fun i => s.size - (intOf i).toNat)
   case atStart => exact ⟨0, Nat.zero_le _, rfl, rfl⟩
   case round =>
    obtain ⟨k, hk, rfl, hc⟩ := hrel;have HC := lh hc;clear hc hd
    by_cases hlt : k < s.size
    · have k0 : (0 : Int) ≤ (k : Int) := (by omega);have k1 : (k : Int) < (s.size : Int) := (by omega);obtain ⟨c, hcb⟩ : ∃ c, c = bt s k := ⟨_, rfl⟩
      have hck := qo hlt hcb
      cases hok : okB c with
      | true =>
       have hst := badD_step hlt (by rw [← hcb]; exact hok);rw [HC.out] at hst;have HST := lh hst;have hcs := (okB_cases c).1 hok;clear hst hcb hok x0 x1 z0 z1
       by_cases c9 : c = 9
       · have e9 : ((c : Int) != 9) = false := (by simp [c9]);clear hcs c9;go_wp2_with fail
         go_round
         case rel => exact ⟨k + 1, by omega, by go_num, HST.out.symm⟩
         case measure => simp [intOf]; omega
       · have e9 : ((c : Int) != 9) = true := by simp; omega
         by_cases c10 : c = 10
         · have e10 : ((c : Int) != 10) = false := (by simp [c10]);clear hcs c9 c10;go_wp2_with fail
           go_round
           case rel => exact ⟨k + 1, by omega, by go_num, HST.out.symm⟩
           case measure => simp [intOf]; omega
         · have e10 : ((c : Int) != 10) = true := (by simp; omega);have e32 : decide ((c : Int) < 32) = false := (by simp; omega);have e126 : decide ((126 : Int) < (c : Int)) = false := (by simp; omega);clear hcs c9 c10;go_wp2_with fail
           go_round
           case rel => exact ⟨k + 1, by omega, by go_num, HST.out.symm⟩
           case measure => simp [intOf]; omega
      | false =>
       have hst := badD_here hlt (by rw [← hcb]; exact hok);rw [HC.out] at hst;have hlx := HLX.out;rw [hst] at hlx;have HLX2 := lh hlx;have hcs : ¬ (c = 9 ∨ c = 10 ∨ (32 ≤ c ∧ c ≤ 126)) := fun h => by rw [(okB_cases c).2 h] at hok; cases hok
       have e9 : ((c : Int) != 9) = true := (by simp; omega);have e10 : ((c : Int) != 10) = true := (by simp; omega);clear hlx hst hcb hok
       by_cases c32 : c < 32
       · have e32 : decide ((c : Int) < 32) = true := (by simp; omega);clear hcs c32;go_wp2_with fail
         refine bodyPost_ret (v := .tuple #[.slice none 0 0, .agg #[.int .i64 2, .int .i64 k]]) (by simp [results, Tryz.results101, go_sem, x0, x1, z0, z1, l0]) rfl ?_;refine LexPost.mk' HLX2.out rfl (World.ownsRow_nil _ _ _ _) ?_;exact (HB.out.setCell (p := ⟨w.heap.size, 0, none⟩) (Nat.le_refl _) _).setCell (p := ⟨w.heap.size, 1, none⟩) (Nat.le_refl _) _
       · have e32 : decide ((c : Int) < 32) = false := (by simp; omega);have e126 : decide ((126 : Int) < (c : Int)) = true := (by simp; omega);clear hcs c32;go_wp2_with fail
         refine bodyPost_ret (v := .tuple #[.slice none 0 0, .agg #[.int .i64 2, .int .i64 k]]) (by simp [results, Tryz.results101, go_sem, x0, x1, z0, z1, l0]) rfl ?_;refine LexPost.mk' HLX2.out rfl (World.ownsRow_nil _ _ _ _) ?_;exact (HB.out.setCell (p := ⟨w.heap.size, 0, none⟩) (Nat.le_refl _) _).setCell (p := ⟨w.heap.size, 1, none⟩) (Nat.le_refl _) _
    · have hst := badD_end (s := s) (i := k) (by omega);rw [HC.out] at hst;have hlx := HLX.out;rw [hst] at hlx;have HLX2 := lh hlx;clear hlx hst HLX;go_wp2_with fail
      clear x0 x1 z0 z1 l0;go_loopw [5, 6] (fun l i wr => TkRel s w l i wr) (fun _ i _ => s.size - (intOf i).toNat)
      case atStart => exact ⟨0, [], none, 0, Nat.zero_le _, by simp, rfl, rfl, World.ownsRow_nil _ _ _ _, HF.out, HB.out, HLX2.out.symm⟩
      case round =>
       obtain ⟨k, ts, a, cap, hk, hl, rfl, rfl, hown, hfl, hbl, hc⟩ := hrel;have x0 : wr.cell? ⟨w.heap.size, 0, none⟩ = some (.int .i64 0) := ja hfl 0;have x1 : wr.cell? ⟨w.heap.size, 1, none⟩ = some (.int .i64 0) := ja hfl 1;have z0 := jd hfl 0;have z1 := jd hfl 1;have l0 : w.heap.size < wr.heap.size := lt_of_block hfl;have HF2 := lh hfl;have HB2 := lh hbl;have HO := lh hown;have HC := lh hc;have hge := gapD_ge (s := s) k hk;clear hfl hbl hown hc HF HB HLX2;go_wp2_with fail
       refine (rgap_any s k _ hs hk).mono ?_;rintro e w' ⟨rfl, rfl⟩;unfold blankGap
       cases hg : gapD s k with
       | mk j ok =>
        rw [hg] at hge;simp only at hge;obtain ⟨hkj, hjs⟩ := hge;have j0 : (0 : Int) ≤ (j : Int) := by omega
        cases ok with
        | false =>
         have hst := toksD_bad (l := ts) hg;rw [HC.out] at hst;have HST := lh hst;clear hst hg;go_wp2_with fail
         refine bodyPost_ret (v := .tuple #[.slice a ts.length cap, .agg #[.int .i64 3, .int .i64 j]]) (by simp [results, Tryz.results101, go_sem, x0, x1, z0, z1, l0]) rfl ?_;refine LexPost.mk' HST.out rfl (vf (vf HO.out HF2.out (by decide) _ _) (jy HF2.out _ _) (by decide) _ _) ?_;exact (HB2.out.setCell (p := ⟨w.heap.size, 0, none⟩) (Nat.le_refl _) _).setCell (p := ⟨w.heap.size, 1, none⟩) (Nat.le_refl _) _
        | true =>
         by_cases hjz : j = s.size
         · have hde : ((j : Int) == (s.size : Int)) = true := (by simp; omega);subst hjz;have hst := vK (l := ts) hg;rw [HC.out] at hst;have HST := lh hst;clear hst hg x0 x1 z0 z1 l0;have hlo : ∀ g, (Value.slice a ts.length cap).ownBlock = some g → w.heap.size ≤ g := fun g hg => (HO.out.lt g hg).1
           have hnb : (Value.slice a ts.length cap).ownBlock ≠ some w.heap.size := own_ne HF2.out HO.out (by decide);have hWs : w.heap.size ≤ wr.heap.size := HB2.out.size;go_wp2_with (first | (at_builtin; go_must (refine wpList_append_own _ rfl (.tmp 60) (.tmp 63) 36 rfl w.heap.size 59 i59 (.agg #[.int .i64 0, .int .i64 0, .string ⟨#[]⟩, .int .i64 0]) 4 40 Tryz.underlying36 HI.out hz0 hz1 hz2 rfl (by decide) (.slice a ts.length cap) ts.length (ts.flatMap kE) rfl (HO.out.alloc _) ⟨wr.heap.size, 0, none⟩ 1 1 [.int .i64 0, .int .i64 (s.size : Nat), .string ⟨#[]⟩, .int .i64 0] rfl rfl (jT (c := #[.int .i64 0, .int .i64 (s.size : Nat), .string ⟨#[]⟩, .int .i64 0]) _ (by simp)) (tok_ones _ _ _ _) (by unfold maxLen; omega) (by omega) (by simp; omega) ?_)))
           intro v5 w5 hown5 hg5 hnil5;obtain ⟨g5, cap5, hv5⟩ := kj hown5 hnil5;rw [hv5] at hown5 ⊢;clear hnil5 hv5;have hf5 : FltB w5 w.heap.size := kL (js HF2.out _) hg5 hnb;have hb5 : Below w.heap.size w w5 := (jk HB2.out _).grown hg5 (by simp; omega) hlo
           have ho5 : w5.ownsRow w.heap.size 59 4 (.slice (some ⟨g5, 0, none⟩) (ts ++ [((0, s.size, ByteArray.empty, 0) : Tok)]).length cap5) (ts ++ [((0, s.size, ByteArray.empty, 0) : Tok)]).length ((ts ++ [((0, s.size, ByteArray.empty, 0) : Tok)]).flatMap kE) := by
            rw [List.length_append, List.flatMap_append];exact hown5
           have x0 : w5.cell? ⟨w.heap.size, 0, none⟩ = some (.int .i64 0) := ja hf5 0;have x1 : w5.cell? ⟨w.heap.size, 1, none⟩ = some (.int .i64 0) := ja hf5 1;have z0 := jd hf5 0;have z1 := jd hf5 1;have l0 : w.heap.size < w5.heap.size := lt_of_block hf5;have HF5 := lh hf5;have HB5 := lh hb5;have HO5 := lh ho5;clear hf5 hb5 ho5 hown5 hg5 hlo hnb HO HB2 HF2;go_wp2_with fail
           refine bodyPost_ret (v := .tuple #[.slice (some ⟨g5, 0, none⟩) (ts.length + 1) cap5, .agg #[.int .i64 0, .int .i64 0]]) (by simp [results, Tryz.results101, go_sem, x0, x1, z0, z1, l0]) rfl ?_;refine LexPost.mk' HST.out (by rw [List.length_append]; rfl) (vf (vf HO5.out HF5.out (by decide) _ _) (jy HF5.out _ _) (by decide) _ _) ?_;exact (HB5.out.setCell (p := ⟨w.heap.size, 0, none⟩) (Nat.le_refl _) _).setCell (p := ⟨w.heap.size, 1, none⟩) (Nat.le_refl _) _
         · have hde : ((j : Int) == (s.size : Int)) = false := (by simp; omega);have hj2 : j < s.size := (by omega);have HG := lh hg;have HJZ := lh hjz;clear hg hjz x0 x1 z0 z1 l0;go_wp2_with fail
           refine (rtok_any s j _ hs hj2).mono ?_;intro e w4 hpost;obtain ⟨hp, hb4⟩ := hpost;have hf4 : FltB w4 w.heap.size := jo HF2.out hb4 (lt_of_block HF2.out);have hbl4 : Below w.heap.size w w4 := bthen HB2.out hb4;have ho4 := own_keep HO.out (ji hb4 none) (fun q h => by cases h);have x0 : w4.cell? ⟨w.heap.size, 0, none⟩ = some (.int .i64 0) := ja hf4 0;have x1 : w4.cell? ⟨w.heap.size, 1, none⟩ = some (.int .i64 0) := ja hf4 1;have z0 := jd hf4 0;have z1 := jd hf4 1;have l0 : w.heap.size < w4.heap.size := lt_of_block hf4;clear HF2 HB2 HO hb4;have HF2 := lh hf4;have HB2 := lh hbl4;have HO := lh ho4;clear hf4 hbl4 ho4
           cases htk : tokD s j with
           | none =>
            rw [htk] at hp;obtain ⟨tk, ta, tn, tx, rfl⟩ := hp;have hst := toksD_none (l := ts) HG.out HJZ.out htk;rw [HC.out] at hst;have HST := lh hst;clear hst htk;go_wp2_with fail
            refine bodyPost_ret (v := .tuple #[.slice a ts.length cap, .agg #[.int .i64 3, .int .i64 j]]) (by simp [results, Tryz.results101, go_sem, x0, x1, z0, z1, l0]) rfl ?_;refine LexPost.mk' HST.out rfl ((vf (vf HO.out HF2.out (by decide) _ _) (jy HF2.out _ _) (by decide) _ _).alloc _) ?_;exact jk ((HB2.out.setCell (p := ⟨w.heap.size, 0, none⟩) (Nat.le_refl _) _).setCell (p := ⟨w.heap.size, 1, none⟩) (Nat.le_refl _) _) _
           | some r =>
            obtain ⟨⟨t1, t2, t3, t4⟩, q⟩ := r;rw [htk] at hp;subst hp;have hlt3 := tokD_lt hj2 htk;have hst := ye (l := ts) hk HG.out HJZ.out htk;rw [HC.out] at hst;have HST := lh hst;have hdq : decide ((q : Int) < 0) = false := (by simp);have q0 : (0 : Int) ≤ (q : Int) := (by omega);clear hst htk x0 x1 z0 z1 l0;have hWs : w.heap.size ≤ w4.heap.size := HB2.out.size;unfold tokV;dsimp only
            have hlo : ∀ g, (Value.slice a ts.length cap).ownBlock = some g → w.heap.size ≤ g := fun g hg => (HO.out.lt g hg).1
            have hnb : (Value.slice a ts.length cap).ownBlock ≠ some w.heap.size := own_ne HF2.out HO.out (by decide);go_wp2_with (first | (at_builtin; go_must (refine wpList_append_own _ rfl (.tmp 78) (.tmp 80) 36 rfl w.heap.size 59 i59 (.agg #[.int .i64 0, .int .i64 0, .string ⟨#[]⟩, .int .i64 0]) 4 40 Tryz.underlying36 HI.out hz0 hz1 hz2 rfl (by decide) (.slice a ts.length cap) ts.length (ts.flatMap kE) rfl ((HO.out.alloc _).alloc _) ⟨w4.heap.size + 1, 0, none⟩ 1 1 [.int .i64 t1, .int .i64 t2, .string t3, .int .i64 t4] rfl rfl (jT (c := #[.int .i64 t1, .int .i64 t2, .string t3, .int .i64 t4]) _ (by simp)) (tok_ones _ _ _ _) (by unfold maxLen; omega) (by omega) (by simp; omega) ?_)))
            intro v5 w5 hown5 hg5 hnil5;obtain ⟨g5, cap5, hv5⟩ := kj hown5 hnil5;rw [hv5] at hown5 ⊢;clear hnil5 hv5;have hf5 : FltB w5 w.heap.size := kL (js (js HF2.out _) _) hg5 hnb;have hb5 : Below w.heap.size w w5 := (jk (jk HB2.out _) _).grown hg5 (by simp; omega) hlo
            have ho5 : w5.ownsRow w.heap.size 59 4 (.slice (some ⟨g5, 0, none⟩) (ts ++ [((t1, t2, t3, t4) : Tok)]).length cap5) (ts ++ [((t1, t2, t3, t4) : Tok)]).length ((ts ++ [((t1, t2, t3, t4) : Tok)]).flatMap kE) := by
             rw [List.length_append, List.flatMap_append];exact hown5
            have HF5 := lh hf5;have HB5 := lh hb5;have HO5 := lh ho5;clear hf5 hb5 ho5 hown5 hg5 hlo hnb HO HB2 HF2;go_wp2_with fail
            go_roundw
            case rel => exact ⟨q, ts ++ [(t1, t2, t3, t4)], _, cap5, by omega, by rw [List.length_append]; simp; omega, rfl, by rw [List.length_append]; rfl, HO5.out, HF5.out, HB5.out, HST.out.symm⟩
            case measure => simp [intOf]; omega
def pairB : List ByteArray := [⟨#[61, 62]⟩, ⟨#[45, 62]⟩, ⟨#[58, 61]⟩, ⟨#[58, 58]⟩, ⟨#[58, 62]⟩, ⟨#[60, 62]⟩, ⟨#[60, 61]⟩, ⟨#[62, 61]⟩]
theorem isPair_any (t : ByteArray) (w : World) : Calls Tryz.prog 70 #[.string t] w fun e w' => e = .returned (.bool (pairB.any fun x => t.toList == x.data.toList)) ∧ w = w' := by
 have hL : (pairB.any fun x => t.toList == x.data.toList) = ((t.toList == [61, 62]) || ((t.toList == [45, 62]) || ((t.toList == [58, 61]) || ((t.toList == [58, 58]) || ((t.toList == [58, 62]) || ((t.toList == [60, 62]) || ((t.toList == [60, 61]) || ((t.toList == [62, 61]) || false)))))))) := rfl;rw [hL];go_enter Tryz.func70, Tryz.ntmps70
 go_wp2
 all_goals
  go_ret
  refine ⟨kI ?_, rfl⟩
  simp_all
def VE (w : World) (b : Nat) (s : ByteArray) (j : Nat) (W : World) : Prop := Scan W b s j ∧ w.grownBy W (some b)
theorem VE.drew {w W : World} {b : Nat} {s : ByteArray} {j : Nat} (h : VE w b s j W) : VE w b s j W.drew := ⟨h.1, jr h.2 (gr_drew W 1 _)⟩
theorem VE.set {w W : World} {b : Nat} {s : ByteArray} {j : Nat} (h : VE w b s j W) (q o : Nat) (u : Value) (h1 : b < w.heap.size) (h2 : w.heap.size ≤ q) : VE w b s j (W.setCell ⟨q, o, none⟩ u) := ⟨jg h.1 (by omega) _ _, gr_far h.2 _ _ _ h2⟩
structure NS (w W : World) (b : Nat) (s : ByteArray) (q : Nat) (k i : Int) (x : ByteArray) (n : Int) : Prop where
 sc : Scan W b s q
 g : w.grownBy W (some b)
 r : TokB W w.heap.size 0 0 ⟨#[]⟩ 0
 t : TokB W (w.heap.size + 1) k i x n
theorem NS.start {w : World} {b : Nat} {s : ByteArray} {q : Nat} (h : Scan w b s q) (i : Int) : NS w ((w.alloc (.cells #[.int .i64 0, .int .i64 0, .string ⟨#[]⟩, .int .i64 0] 59)).alloc (.cells #[.int .i64 0, .int .i64 i, .string ⟨#[]⟩, .int .i64 0] 59)) b s q 0 i ⟨#[]⟩ 0 := by
 have h2 := heap_alloc_new (w.alloc (.cells #[.int .i64 0, .int .i64 0, .string ⟨#[]⟩, .int .i64 0] 59)) (.cells #[.int .i64 0, .int .i64 i, .string ⟨#[]⟩, .int .i64 0] 59);rw [World.size_alloc] at h2;exact ⟨js (js h _) _, jr (World.grownBy_alloc w _ _) (World.grownBy_alloc _ _ _), js (heap_alloc_new w _) _, h2⟩
theorem NS.drewN {w W : World} {b : Nat} {s : ByteArray} {q : Nat} {k i n : Int} {x : ByteArray} (h : NS w W b s q k i x n) (m : Nat) : NS w (W.drewN m) b s q k i x n := ⟨h.sc.drew _, jr h.g (gr_drew _ _ _), h.r, h.t⟩
theorem NS.drew {w W : World} {b : Nat} {s : ByteArray} {q : Nat} {k i n : Int} {x : ByteArray} (h : NS w W b s q k i x n) : NS w W.drew b s q k i x n := h.drewN 1
theorem NS.alloc {w W : World} {b : Nat} {s : ByteArray} {q : Nat} {k i n : Int} {x : ByteArray} (h : NS w W b s q k i x n) (o : Obj) : NS w (W.alloc o) b s q k i x n :=
 ⟨js h.sc _, jr h.g (World.grownBy_alloc W _ _), js h.r _, js h.t _⟩
theorem NS.gr {w W W' : World} {b : Nat} {s : ByteArray} {q q' : Nat} {k i n : Int} {x : ByteArray} (h : NS w W b s q k i x n) (hb : b < w.heap.size) (hg : W.grownBy W' (some b)) (hs : Scan W' b s q') : NS w W' b s q' k i x n :=
 ⟨hs, jr h.g hg, kL h.r hg (by intro e; injection e with e; omega), kL h.t hg (by intro e; injection e with e; omega)⟩
theorem NS.setat {w W : World} {b : Nat} {s : ByteArray} {q : Nat} {k i n : Int} {x : ByteArray} (h : NS w W b s q k i x n) (hb : b < w.heap.size) (q' : Int) (p : Nat) (hp : q' = p) : NS w (W.setCell ⟨b, 1, none⟩ (.int .i64 q')) b s p k i x n :=
 ⟨h.sc.set _ _ hp, jr h.g (jX _ _ _ _), jg h.r (by omega) _ _, jg h.t (by omega) _ _⟩
theorem NS.setk {w W : World} {b : Nat} {s : ByteArray} {q : Nat} {k i n : Int} {x : ByteArray} (h : NS w W b s q k i x n) (hb : b < w.heap.size) (k' : Int) : NS w (W.setCell ⟨w.heap.size + 1, 0, none⟩ (.int .i64 k')) b s q k' i x n :=
 ⟨jg h.sc (by omega) _ _, gr_far h.g _ _ _ (by omega), jg h.r (by omega) _ _, jy h.t 0 _⟩
theorem NS.setx {w W : World} {b : Nat} {s : ByteArray} {q : Nat} {k i n : Int} {x : ByteArray} (h : NS w W b s q k i x n) (hb : b < w.heap.size) (x' : ByteArray) : NS w (W.setCell ⟨w.heap.size + 1, 2, none⟩ (.string x')) b s q k i x' n :=
 ⟨jg h.sc (by omega) _ _, gr_far h.g _ _ _ (by omega), jg h.r (by omega) _ _, jy h.t 2 _⟩
theorem NS.setn {w W : World} {b : Nat} {s : ByteArray} {q : Nat} {k i n : Int} {x : ByteArray} (h : NS w W b s q k i x n) (hb : b < w.heap.size) (n' : Int) : NS w (W.setCell ⟨w.heap.size + 1, 3, none⟩ (.int .i64 n')) b s q k i x n' :=
 ⟨jg h.sc (by omega) _ _, gr_far h.g _ _ _ (by omega), jg h.r (by omega) _ _, jy h.t 3 _⟩
structure NF (w W : World) (b : Nat) (s : ByteArray) (q : Nat) (k i : Int) (x : ByteArray) (n : Int) : Prop where
 s0 : W.cell? ⟨b, 0, none⟩ = some (.string s)
 s1 : W.cell? ⟨b, 1, none⟩ = some (.int .i64 q)
 z : W.frozen? ⟨b, 1, none⟩ = false
 b0 : W.cell? ⟨w.heap.size, 0, none⟩ = some (.int .i64 0)
 b1 : W.cell? ⟨w.heap.size, 1, none⟩ = some (.int .i64 0)
 b2 : W.cell? ⟨w.heap.size, 2, none⟩ = some (.string ⟨#[]⟩)
 b3 : W.cell? ⟨w.heap.size, 3, none⟩ = some (.int .i64 0)
 y0 : W.frozen? ⟨w.heap.size, 0, none⟩ = false
 y1 : W.frozen? ⟨w.heap.size, 1, none⟩ = false
 y2 : W.frozen? ⟨w.heap.size, 2, none⟩ = false
 y3 : W.frozen? ⟨w.heap.size, 3, none⟩ = false
 a0 : W.cell? ⟨w.heap.size + 1, 0, none⟩ = some (.int .i64 k)
 a1 : W.cell? ⟨w.heap.size + 1, 1, none⟩ = some (.int .i64 i)
 a2 : W.cell? ⟨w.heap.size + 1, 2, none⟩ = some (.string x)
 a3 : W.cell? ⟨w.heap.size + 1, 3, none⟩ = some (.int .i64 n)
 f0 : W.frozen? ⟨w.heap.size + 1, 0, none⟩ = false
 f2 : W.frozen? ⟨w.heap.size + 1, 2, none⟩ = false
 f3 : W.frozen? ⟨w.heap.size + 1, 3, none⟩ = false
 l0 : b < W.heap.size
 l1 : w.heap.size < W.heap.size
 l2 : w.heap.size + 1 < W.heap.size
theorem NS.facts {w W : World} {b : Nat} {s : ByteArray} {q : Nat} {k i n : Int} {x : ByteArray} (h : NS w W b s q k i x n) : NF w W b s q k i x n :=
 ⟨ja h.sc 0, ja h.sc 1, jd h.sc 1, ja h.r 0, ja h.r 1, ja h.r 2, ja h.r 3, jd h.r 0, jd h.r 1, jd h.r 2, jd h.r 3, ja h.t 0, ja h.t 1, ja h.t 2, ja h.t 3, jd h.t 0, jd h.t 2, jd h.t 3, lt_of_block h.sc, lt_of_block h.r, lt_of_block h.t⟩
theorem NS.fin {w W : World} {b : Nat} {s : ByteArray} {q : Nat} {k i n : Int} {x : ByteArray} (h : NS w W b s q k i x n) (hb : b < w.heap.size) (u0 u1 u2 u3 : Value) :
 VE w b s q ((((W.setCell ⟨w.heap.size, 0, none⟩ u0).setCell ⟨w.heap.size, 1, none⟩ u1).setCell ⟨w.heap.size, 2, none⟩ u2).setCell ⟨w.heap.size, 3, none⟩ u3) := by
 have hv : VE w b s q W := ⟨h.sc, h.g⟩;have e := Nat.le_refl w.heap.size;exact (((hv.set _ 0 _ hb e).set _ 1 _ hb e).set _ 2 _ hb e).set _ 3 _ hb e
theorem pair_eq (s : ByteArray) (i : Nat) (h : i + 2 ≤ s.size) : (pairB.any fun x => (s.extract i (i + 2)).toList == x.data.toList) = decide ((bt s i, bt s (i + 1)) ∈ pairL) := by
 have e : s.extract i (i + 2) = ⟨#[s[i], s[i + 1]]⟩ := cut_two s i h;have e2 : ∀ a b : UInt8, (⟨#[a, b]⟩ : ByteArray).toList = [a, b] := fun a b => by rw [ByteArray.toList_eq]
 rw [e, e2, ← kQ s i (by omega), ← kQ s (i + 1) (by omega)];generalize s[i] = a;generalize s[i + 1] = b;rw [Bool.eq_iff_iff];simp [pairB, pairL, u8_eq]
theorem isPair_same (t : ByteArray) (w : World) : Calls Tryz.prog 70 #[.string t] w fun e w' => e = .returned (.bool (pairB.any fun x => t.toList == x.data.toList)) ∧ w' = w := (isPair_any t w).mono fun _ _ h => ⟨h.1, h.2.symm⟩
theorem digit_sort : ∀ c, c < 128 → inL [2] (srt c) = dig c := by decide +kernel
theorem whD_all (s : ByteArray) (p : Nat → Bool) (i : Nat) : ∀ m, i ≤ m → m < whD s p i → p (bt s m) = true := by
 induction i using whD.induct s p with
 | case1 i h hp ih =>
  intro m h1 h2;rw [kS h hp] at h2
  by_cases e : m = i
  · rw [e]; exact hp
  · exact ih m (by omega) h2
 | case2 i h hp => intro m h1 h2; rw [vm h (by simpa using hp)] at h2; omega
 | case3 i h => intro m h1 h2; rw [vC (by omega)] at h2; omega
theorem NS.iterAt {w W : World} {b : Nat} {s : ByteArray} {q : Nat} {k i n : Int} {x : ByteArray} (h : NS w W b s q k i x n) {r : Nat} {f : ByteArray} {p : Nat} (hk : W.heap[r]? = some (.stringIter f p)) (hr : w.heap.size ≤ r) (p' : Nat) : NS w (W.iterAt r f p') b s q k i x n := by
 refine ⟨iter_cells hk h.sc, ⟨h.g.os, h.g.tape, h.g.output, by rw [Lib.iterAt_size]; exact h.g.size, fun m hm hne => ?_⟩, iter_cells hk h.r, iter_cells hk h.t⟩;rw [Lib.iterAt_other _ _ _ _ _ (by omega)];exact h.g.block m hm hne
theorem ext_bt (s : ByteArray) (i j p : Nat) (hij : i ≤ j) (hj : j ≤ s.size) (hp : p < j - i) : ((s.extract i j).data.toList.getD p 0).toNat = bt s (i + p) := by
 have hz := sizeL s;unfold bt
 congr 1
 simp only [ByteArray.data_extract, Array.toList_extract];rw [List.extract_eq_take_drop, List.getD_eq_getElem?_getD, List.getD_eq_getElem?_getD, List.getElem?_take_of_lt hp, List.getElem?_drop]
theorem Sorts.below {w w' : World} (h : Sorts w) (hb : Below w.heap.size w w') (h0 : 1 < w.heap.size) : Sorts w' := fun k hk => by
 have e : w'.heap[1]? = w.heap[1]? := hb.block 1 h0
 have hc := h k hk
 unfold World.cell? at hc ⊢
 simp only at hc ⊢
 rw [e]
 exact hc
theorem gr_b {w w1 w2 : World} (h : Below w.heap.size w w1) (hg : w1.grownBy w2 (some (w.heap.size + 1))) : Below w.heap.size w w2 :=
 h.grown hg h.size (fun k hk => by injection hk with hk; omega)
end Go.Proofs.YthehjeeiodbkjaaGreatDoor
