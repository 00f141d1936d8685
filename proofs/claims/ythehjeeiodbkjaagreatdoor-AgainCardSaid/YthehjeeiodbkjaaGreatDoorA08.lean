/-
  Proved: the steps of a walk over the program's reader, as lemmas on what stands; the contract of the reader's head$1 (a type variable). Conditions: what each names; the reader as it stands in memory.
-/
import Derived.Test.YthehjeeiodbkjaaGreatDoorA01
import Derived.Test.YthehjeeiodbkjaaGreatDoorA06
import Derived.Test.YthehjeeiodbkjaaGreatDoorA07
import Derived.Test.YthehjeeiodbkjaaGreatDoorA04
import Derived.Deep.RegionLaw
set_option linter.unusedSimpArgs false
set_option linter.unusedVariables false
set_option linter.unusedSectionVars false
set_option maxRecDepth 100000
set_option maxHeartbeats 16000000
namespace Go.Proofs.YthehjeeiodbkjaaGreatDoor
open Go.RowKit
structure Qp {α : Type} (T : Res α) (m : M α) (j : Nat) : Prop where
 eq : T = m j
section
variable {α β : Type} {T : Res β} {m : M α} {f : α → M β} {j j' : Nat} {x : α}
theorem Qp.rd (h : Qp T (m >>= f) j) (hx : m j = .ok x j') : Qp T (f x) j' := ⟨h.eq.trans (bind_ok hx)⟩
theorem Qp.bd {k a : Nat} (h : Qp T (m >>= f) j) (hx : m j = .bad k a) : T = .bad k a := h.eq.trans (bind_bad hx)
theorem Qp.pr {x : β} (h : Qp T (pure x : M β) j) : T = .ok x j := h.eq
end
theorem Qp.to {α : Type} {T : Res α} {m m' : M α} {j : Nat} (q : Qp T m j) (h : ∀ i, m i = m' i) : Qp T m' j := ⟨q.eq.trans (h j)⟩
theorem at_p {E : Env} {g d f : Nat} {args : Array Value} {α : Type} {m : M α} {post : World → α → Value → World → Prop} (hd : d = 60 - g) (h : ∀ w j, Rd E w j (60 - g) → Calls Tryz.prog f args w (PPost E (60 - g) w (m j) (post w))) : Hid (∀ w j, Rd E w j d → Calls Tryz.prog f args w (PPost E d w (m j) (post w))) := lh (by subst hd; exact h)
section
variable (E : Env) (d : Nat)
theorem know : Hid (∀ w j, Rd E w j d → Calls Tryz.prog 35 #[.pointer (some ⟨E.rb, 0, none⟩)] w fun e w' => e = .returned (.agg #[.int .i64 (E.P.K j), .int .i64 (E.P.A j : Int), .string (E.P.T j), .int .i64 (E.P.N j : Int)]) ∧ Below w.heap.size w w') := lh (fun w j h => now_any E w j d h)
theorem knode : Hid (∀ (k a : Int) (ao : Option Addr) (n cap : Nat) (w : World), Calls Tryz.prog 28 #[.int .i64 k, .int .i64 a, .slice ao n cap] w fun e w' => e = .returned (.agg #[.int .i64 k, .int .i64 a, .string ⟨#[]⟩, .int .i64 0, .slice ao n cap]) ∧ Below w.heap.size w w') := lh node_any
theorem kmust (sg : ByteArray) : Hid (∀ w j, Rd E w j d → Calls Tryz.prog 40 #[.pointer (some ⟨E.rb, 0, none⟩), .string sg] w (PPost E d w (mustD E.P sg j) fun _ _ _ => True)) := lh (fun w j h => must_any E w j d sg h)
theorem kkind1 : Hid (∀ w j, Rd E w j d → Calls Tryz.prog 74 #[.pointer (some ⟨E.rb, 0, none⟩), .int .i64 1] w (PPost E d w (kindD E.P 1 j) fun x v _ => v = .string x)) := lh (fun w j h => kind_any E w j d 1 h)
theorem kkind3 : Hid (∀ w j, Rd E w j d → Calls Tryz.prog 74 #[.pointer (some ⟨E.rb, 0, none⟩), .int .i64 3] w (PPost E d w (kindD E.P 3 j) fun x v _ => v = .string x)) := lh (fun w j h => kind_any E w j d 3 h)
theorem kkind4 : Hid (∀ w j, Rd E w j d → Calls Tryz.prog 74 #[.pointer (some ⟨E.rb, 0, none⟩), .int .i64 4] w (PPost E d w (kindD E.P 4 j) fun x v _ => v = .string x)) := lh (fun w j h => kind_any E w j d 4 h)
theorem kpath0 : Hid (∀ w j, Rd E w j d → Calls Tryz.prog 75 #[.pointer (some ⟨E.rb, 0, none⟩), .int .i64 0] w (PPost E d w (pathD E.P 0 j) fun x v _ => v = .tuple #[.string x.1, .int .i64 (x.2 : Int)])) := lh (fun w j h => path_any E w j d 0 h (by decide))
theorem kpath3 : Hid (∀ w j, Rd E w j d → Calls Tryz.prog 75 #[.pointer (some ⟨E.rb, 0, none⟩), .int .i64 3] w (PPost E d w (pathD E.P 3 j) fun x v _ => v = .tuple #[.string x.1, .int .i64 (x.2 : Int)])) := lh (fun w j h => path_any E w j d 3 h (by decide))
theorem kpath4 : Hid (∀ w j, Rd E w j d → Calls Tryz.prog 75 #[.pointer (some ⟨E.rb, 0, none⟩), .int .i64 4] w (PPost E d w (pathD E.P 4 j) fun x v _ => v = .tuple #[.string x.1, .int .i64 (x.2 : Int)])) := lh (fun w j h => path_any E w j d 4 h (by decide))
end
theorem krow {E : Env} {d : Nat} (n : Nat) {item : M Ty} (HI : ItemP E d n item) (sg : ByteArray) (hcf : ∀ (x9 : Array Value) (w : World), (callFunc n x9).run Tryz.prog w = .ok (.enter n x9) w) : Hid (∀ w j, Rd E w j d → Calls Tryz.prog 76 #[.pointer (some ⟨E.rb, 0, none⟩), .func (.func n) #[] #[], .string sg] w (PPost E d w (rowD E.P item sg j) (OwQ w))) := lh (fun w j h => rowN_any n hcf E d item HI sg w j h)
theorem item_at {E : Env} {g d n : Nat} {item : M Ty} (hd : d = 60 - g) (h : ItemP E (60 - g) n item) : ItemP E d n item := by subst hd; exact h
structure Pa (E : Env) (d g : Nat) : Prop where
 hd : d = 60 - g
 iexp : Hid (ItemP E d 17 (readS E.P g .exp))
 ipat : Hid (ItemP E d 64 (readS E.P g .pat))
 ityp : Hid (ItemP E d 65 (readS E.P g .typ))
 exp : Hid (∀ w j, Rd E w j d → Calls Tryz.prog 17 #[.pointer (some ⟨E.rb, 0, none⟩)] w (PPost E d w (readS E.P g .exp j) (NdQ w)))
 pat : Hid (∀ w j, Rd E w j d → Calls Tryz.prog 64 #[.pointer (some ⟨E.rb, 0, none⟩)] w (PPost E d w (readS E.P g .pat j) (NdQ w)))
 typ : Hid (∀ w j, Rd E w j d → Calls Tryz.prog 65 #[.pointer (some ⟨E.rb, 0, none⟩)] w (PPost E d w (readS E.P g .typ j) (NdQ w)))
 sig : Hid (∀ w j, Rd E w j d → Calls Tryz.prog 125 #[.pointer (some ⟨E.rb, 0, none⟩)] w (PPost E d w (readS E.P g .sig j) (NdQ w)))
theorem PAll.pa {E : Env} {d g : Nat} (h : PAll E g) (hd : d = 60 - g) : Pa E d g := by
 subst hd
 exact ⟨rfl, lh h.exp, lh h.pat, lh h.typ, lh h.exp.call, lh h.pat.call, lh h.typ.call, lh h.sig.call⟩
abbrev Bp (E : Env) (w : World) (d : Nat) (wk : World) (j : Nat) (ls : List At) : Prop := Bd E w (Rd E) (Fb E w) d wk j ls
theorem fam_b (E : Env) (w : World) : Fam E w (Rd E) (Fb E w) := ⟨fun h => h.R, fun h => h.lt, fun h => h.rb, fun h hg hr => ⟨hr, gr_trans h.G hg, gr_row hg h.r0 (by have := h.rb; omega), h.rb⟩, fun h => h.keep, fun h => h.set, fun h => h.own⟩
theorem Bp.go {E : Env} {g f : Nat} {args : Array Value} {m : M Ty} {w : World} {i : Nat} {P : Ty → Value → World → Prop} (h : Rd E w i (60 - g)) (PA : PAll E g) (k : ∀ d T W, Pa E d g → w.alloc (.cells #[.int .i64 0, .int .i64 0, .string ⟨#[]⟩, .int .i64 0, .slice none 0 0] 26) = W → Bp E w d W i [] → Qp T m i → E.rb < w.heap.size → E.P.toks.length ≤ 100000 → Calls Tryz.prog f args w (PPost E d w T P)) : Calls Tryz.prog f args w (PPost E (60 - g) w (m i) P) := k _ _ _ (PA.pa rfl) rfl ⟨Fb.start h rfl, Ats.nil, h.low.2, fam_b _ _⟩ ⟨rfl⟩ h.ltr h.ok.len
@[reducible] def CpN (f : Nat) (m : Env → Nat → M Ty) : Prop := ∀ (E : Env) (g : Nat), PAll E g → ∀ (w : World) (i : Nat), Rd E w i (60 - g) → Calls Tryz.prog f #[pr E] w (PPost E (60 - g) w (m E g i) (NdQ w))
def PQ (R9 : Act → World → Prop) (B9 : List PanicEntry → List Deferred → World → Prop) : Exit → Act → World → Prop
 | .normal, a, W | .ret, a, W => R9 a W
 | .panic c, a, W => B9 c a.defers W
 | _, _, _ => False
structure Pn9 (fn : Func) (E : Env) (d : Nat) (w : World) (T : Res Ty) (P : Ty → Value → World → Prop) (R9 : Act → World → Prop) (B9 : List PanicEntry → List Deferred → World → Prop) : Prop where
 r : R9 = bodyPost Tryz.prog fn (PPost E d w T P) .ret
 b : B9 = fun c ds W => ds = [] ∧ PPost E d w T P (.panicked c) W
theorem Pn9.ex (fn : Func) (E : Env) (d : Nat) (w : World) (T : Res Ty) (P : Ty → Value → World → Prop) : ∃ R9 B9, Pn9 fn E d w T P R9 B9 ∧ ∀ e a W, PQ R9 B9 e a W → bodyPost Tryz.prog fn (PPost E d w T P) e a W := by
 refine ⟨_, _, ⟨rfl, rfl⟩, fun e a W h => ?_⟩
 cases e with
 | normal => exact h
 | ret => exact h
 | panic c => exact h
 | _ => exact h.elim
theorem Pn9.bad {fn : Func} {E : Env} {d : Nat} {w : World} {T : Res Ty} {P : Ty → Value → World → Prop} {R9 : Act → World → Prop} {B9 : List PanicEntry → List Deferred → World → Prop} {ls : List At} (p : Pn9 fn E d w T P R9 B9) : ∀ k a u i', T = .bad k a → Bp E w d u i' ls → B9 (slipV k a) [] u := fun k a u i' hT b => by rw [p.b]; exact ⟨rfl, PPost.bad b.F.G hT b.F.R⟩
section
variable {E : Env} {w w1 V : World} {d j j' : Nat} {ls : List At}
theorem Bd.cp (b : Bp E w d w1 j ls) : w1.cell? ⟨w.heap.size, 0, none⟩ = some (.int .i64 0) ∧ w1.cell? ⟨w.heap.size, 1, none⟩ = some (.int .i64 0) ∧ w1.cell? ⟨w.heap.size, 2, none⟩ = some (.string ⟨#[]⟩) ∧ w1.cell? ⟨w.heap.size, 3, none⟩ = some (.int .i64 0) ∧ w1.cell? ⟨w.heap.size, 4, none⟩ = some (.slice none 0 0) ∧ w1.frozen? ⟨w.heap.size, 0, none⟩ = false ∧ w1.frozen? ⟨w.heap.size, 1, none⟩ = false ∧ w1.frozen? ⟨w.heap.size, 2, none⟩ = false ∧ w1.frozen? ⟨w.heap.size, 3, none⟩ = false ∧ w1.frozen? ⟨w.heap.size, 4, none⟩ = false := by
 have h := b.F.r0
 unfold zeroRow at h
 obtain ⟨⟨c0, c1, c2, c3, c4⟩, ⟨z0, z1, z2, z3, z4⟩⟩ := five_cells h
 exact ⟨c0, c1, c2, c3, c4, z0, z1, z2, z3, z4⟩
theorem Bd.seti {v9 : Value} (b : Bp E w d w1 j ls) (hj : j' ≤ E.P.toks.length) (h : w1.setCell ⟨E.rb, 1, none⟩ v9 = V) (hv : v9 = .int .i64 (j' : Int)) : Bp E w d V j' ls := by subst h; subst hv; exact ⟨b.F.seti hj, b.S.ss (Nat.le_of_lt b.rb) rfl, b.B, b.fm⟩
theorem Bp.fin (x : Ty) {fn : Func} {tm : Array Value} {R9 : Act → World → Prop} {B9 : List PanicEntry → List Deferred → World → Prop} {T : Res Ty} {t : Tmp} {ao : Option Addr} {cap : Nat} (b : Bp E w d w1 j (.kd x.args ao cap :: ls)) (p : Pn9 fn E d w T (NdQ w) R9 B9) (hT : T = .ok x j) (hres : fn.results = #[.cell t 26]) (ht : tm.getD t undef = .pointer (some ⟨w.heap.size, 0, none⟩)) : PQ R9 B9 .ret ⟨tm, []⟩ (set5 w1 w.heap.size x ao cap) := by
 obtain ⟨X, hk⟩ := b.S.kd
 obtain ⟨f1, f2, f3, f4⟩ := b.F.fin b.B hk
 show R9 _ _
 rw [p.r]
 exact bodyPost_ret (res_ty hres ht f1) rfl (PPost.ok f2 hT f4 f3)
theorem Bp.fino (x : Ty) {fn : Func} {tm : Array Value} {R9 : Act → World → Prop} {B9 : List PanicEntry → List Deferred → World → Prop} {T : Res Ty} {t : Tmp} {ao : Option Addr} {cap : Nat} (b : Bp E w d w1 j (.ow (.slice ao x.args.length cap) x.args :: ls)) (p : Pn9 fn E d w T (NdO w) R9 B9) (hT : T = .ok x j) (hres : fn.results = #[.cell t 26]) (ht : tm.getD t undef = .pointer (some ⟨w.heap.size, 0, none⟩)) : PQ R9 B9 .ret ⟨tm, []⟩ (set5 w1 w.heap.size x ao cap) := by
 obtain ⟨X, ho⟩ := b.S.ow
 obtain ⟨f1, f2, f3, f4⟩ := b.F.fin b.B (Ow.kd ho).2
 show R9 _ _
 rw [p.r]
 exact bodyPost_ret (res_ty hres ht f1) rfl (PPost.ok f2 hT ⟨ao, cap, rfl, ho.fin x ao cap⟩ f3)
end
section
variable {E : Env} {w w1 V : World} {φ : Nat → World → Nat → Prop} {d j j' : Nat} {ls : List At} {Q9 : Ending → World → Prop} {fn : Nat} {args : Array Value}
theorem Bd.drew (b : Bd E w (Rd E) φ d w1 j (ls)) : Bd E w (Rd E) φ d w1.drew j (ls) := b.be (Below.refl _ _).drew
theorem Bd.pnow (b : Bd E w (Rd E) φ d w1 j (ls)) (k : ∀ u, Bd E w (Rd E) φ d u j (ls) → Q9 (.returned (.agg #[.int .i64 (E.P.K j), .int .i64 (E.P.A j : Int), .string (E.P.T j), .int .i64 (E.P.N j : Int)])) u) : Calls Tryz.prog 35 #[.pointer (some ⟨E.rb, 0, none⟩)] w1 Q9 := b.ask ((know E d).out _ _ b.R) k
theorem Bd.pnode {x a : Int} {ao : Option Addr} {n cap : Nat} (b : Bd E w (Rd E) φ d w1 j (ls)) (k : ∀ u, Bd E w (Rd E) φ d u j (ls) → Q9 (.returned (.agg #[.int .i64 x, .int .i64 a, .string ⟨#[]⟩, .int .i64 0, .slice ao n cap])) u) : Calls Tryz.prog 28 #[.int .i64 x, .int .i64 a, .slice ao n cap] w1 Q9 := b.ask (knode.out x a ao n cap w1) k
theorem Bd.pany {α : Type} {U : Res α} {p9 : α → Value → World → Prop} (b : Bd E w (Rd E) φ d w1 j (ls)) (h : Calls Tryz.prog fn args w1 (PPost E d w1 U p9)) (kb : ∀ k a u i', U = .bad k a → Bd E w (Rd E) φ d u i' (ls) → Q9 (.panicked (slipV k a)) u) (k : ∀ u x vv j', U = .ok x j' → Bd E w (Rd E) φ d u j' (ls) → w1.grownBy u (some E.rb) → p9 x vv u → Q9 (.returned vv) u) : Calls Tryz.prog fn args w1 Q9 := h.mono (by
 rintro e u ⟨hg, h3⟩
 rcases h3 with ⟨x, j', v, hx, rfl, hq, hr⟩ | ⟨k9, a, hx, rfl, jj, hr⟩
 · exact k _ _ _ _ hx (b.gr hg hr) hg hq
 · exact kb _ _ _ _ hx (b.gr hg hr))
theorem Bd.pndc {U : Res Ty} (b : Bd E w (Rd E) φ d w1 j (ls)) (h : Calls Tryz.prog fn args w1 (PPost E d w1 U (NdQ w1))) (kb : ∀ k a u i', U = .bad k a → Bd E w (Rd E) φ d u i' (ls) → Q9 (.panicked (slipV k a)) u) (k : ∀ u x ao cap j', U = .ok x j' → Bd E w (Rd E) φ d u j' (.kd x.args ao cap :: ls) → Q9 (.returned (.agg #[.int .i64 x.k, .int .i64 x.n, .string x.s, .int .i64 x.q, .slice ao x.args.length cap])) u) : Calls Tryz.prog fn args w1 Q9 := b.pany h kb fun u x vv j' hx b2 hg h9 => by
 obtain ⟨ao, cap, rfl, hs⟩ := h9
 exact k u x ao cap j' hx ⟨b2.F, b.S.rd b.lt b.rb hg hs, b.B, b.fm⟩
theorem Bd.pndt {T : Res Ty} {m : M Ty} (b : Bd E w (Rd E) φ d w1 j (ls)) (q : Qp T m j) (h : Hid (∀ w j, Rd E w j d → Calls Tryz.prog fn args w (PPost E d w (m j) (NdQ w)))) (kb : ∀ k a u i', T = .bad k a → Bd E w (Rd E) φ d u i' (ls) → Q9 (.panicked (slipV k a)) u) (k : ∀ u x ao cap j', Bd E w (Rd E) φ d u j' (.kd x.args ao cap :: ls) → T = .ok x j' → Q9 (.returned (.agg #[.int .i64 x.k, .int .i64 x.n, .string x.s, .int .i64 x.q, .slice ao x.args.length cap])) u) : Calls Tryz.prog fn args w1 Q9 := b.pndc (h.out _ _ b.R) (fun k a u i' hx => kb k a u i' (q.eq.trans hx)) fun u x ao cap j' hx b => k u x ao cap j' b (q.eq.trans hx)
section
variable {β : Type} {T : Res β}
theorem Bd.pstr {m : M ByteArray} {c : ByteArray → M β} (b : Bd E w (Rd E) φ d w1 j (ls)) (q : Qp T (m >>= c) j) (h : Hid (∀ w j, Rd E w j d → Calls Tryz.prog fn args w (PPost E d w (m j) fun x v _ => v = .string x))) (kb : ∀ k a u i', T = .bad k a → Bd E w (Rd E) φ d u i' (ls) → Q9 (.panicked (slipV k a)) u) (k : ∀ u x j', m j = .ok x j' → Bd E w (Rd E) φ d u j' (ls) → Qp T (c x) j' → Q9 (.returned (.string x)) u) : Calls Tryz.prog fn args w1 Q9 := b.pany (h.out _ _ b.R) (fun k a u i' hx => kb k a u i' (q.bd hx)) fun u x vv j' hx b _ e => by subst e; exact k u x j' hx b (q.rd hx)
theorem Bd.pun {m : M Unit} {c : Unit → M β} (b : Bd E w (Rd E) φ d w1 j (ls)) (q : Qp T (m >>= c) j) (h : Hid (∀ w j, Rd E w j d → Calls Tryz.prog fn args w (PPost E d w (m j) fun _ _ _ => True))) (kb : ∀ k a u i', T = .bad k a → Bd E w (Rd E) φ d u i' (ls) → Q9 (.panicked (slipV k a)) u) (k : ∀ u x vv j', Bd E w (Rd E) φ d u j' (ls) → Qp T (c x) j' → Q9 (.returned vv) u) : Calls Tryz.prog fn args w1 Q9 := b.pany (h.out _ _ b.R) (fun k a u i' hx => kb k a u i' (q.bd hx)) fun u x vv j' hx b _ _ => k u x vv j' b (q.rd hx)
theorem Bd.ppth {m : M (ByteArray × Nat)} {c : ByteArray × Nat → M β} (b : Bd E w (Rd E) φ d w1 j (ls)) (q : Qp T (m >>= c) j) (h : Hid (∀ w j, Rd E w j d → Calls Tryz.prog fn args w (PPost E d w (m j) fun x v _ => v = .tuple #[.string x.1, .int .i64 (x.2 : Int)]))) (kb : ∀ k a u i', T = .bad k a → Bd E w (Rd E) φ d u i' (ls) → Q9 (.panicked (slipV k a)) u) (k : ∀ u x j', m j = .ok x j' → Bd E w (Rd E) φ d u j' (ls) → Qp T (c x) j' → Q9 (.returned (.tuple #[.string x.1, .int .i64 (x.2 : Int)])) u) : Calls Tryz.prog fn args w1 Q9 := b.pany (h.out _ _ b.R) (fun k a u i' hx => kb k a u i' (q.bd hx)) fun u x vv j' hx b _ e => by subst e; exact k u x j' hx b (q.rd hx)
theorem Bd.pnd {m : M Ty} {c : Ty → M β} (b : Bd E w (Rd E) φ d w1 j (ls)) (q : Qp T (m >>= c) j) (h : Hid (∀ w j, Rd E w j d → Calls Tryz.prog fn args w (PPost E d w (m j) (NdQ w)))) (kb : ∀ k a u i', T = .bad k a → Bd E w (Rd E) φ d u i' (ls) → Q9 (.panicked (slipV k a)) u) (k : ∀ u x ao cap j', m j = .ok x j' → Bd E w (Rd E) φ d u j' (.kd x.args ao cap :: ls) → Qp T (c x) j' → Q9 (.returned (.agg #[.int .i64 x.k, .int .i64 x.n, .string x.s, .int .i64 x.q, .slice ao x.args.length cap])) u) : Calls Tryz.prog fn args w1 Q9 := b.pndc (h.out _ _ b.R) (fun k a u i' hx => kb k a u i' (q.bd hx)) fun u x ao cap j' hx b => k u x ao cap j' hx b (q.rd hx)
theorem Bd.prw {m : M (List Ty)} {c : List Ty → M β} (b : Bd E w (Rd E) φ d w1 j (ls)) (q : Qp T (m >>= c) j) (h : Hid (∀ w j, Rd E w j d → Calls Tryz.prog fn args w (PPost E d w (m j) (OwQ w)))) (kb : ∀ k a u i', T = .bad k a → Bd E w (Rd E) φ d u i' (ls) → Q9 (.panicked (slipV k a)) u) (k : ∀ u x ao cap j', m j = .ok x j' → Bd E w (Rd E) φ d u j' (.ow (.slice ao x.length cap) x :: ls) → Qp T (c x) j' → Q9 (.returned (.slice ao x.length cap)) u) : Calls Tryz.prog fn args w1 Q9 := b.pany (h.out _ _ b.R) (fun k a u i' hx => kb k a u i' (q.bd hx)) fun u x vv j' hx b2 hg h9 => by
 obtain ⟨ao, cap, rfl⟩ := OwQ.len9 h9
 exact k u x ao cap j' hx ⟨b2.F, b.S.rdo b.lt b.rb hg h9, b.B, b.fm⟩ (q.rd hx)
theorem Bd.pno {m : M Ty} {c : Ty → M β} (b : Bd E w (Rd E) φ d w1 j (ls)) (q : Qp T (m >>= c) j) (h : Hid (∀ w j, Rd E w j d → Calls Tryz.prog fn args w (PPost E d w (m j) (NdO w)))) (kb : ∀ k a u i', T = .bad k a → Bd E w (Rd E) φ d u i' (ls) → Q9 (.panicked (slipV k a)) u) (k : ∀ u x ao cap j', m j = .ok x j' → Bd E w (Rd E) φ d u j' (.ow (.slice ao x.args.length cap) x.args :: ls) → Qp T (c x) j' → Q9 (.returned (.agg #[.int .i64 x.k, .int .i64 x.n, .string x.s, .int .i64 x.q, .slice ao x.args.length cap])) u) : Calls Tryz.prog fn args w1 Q9 := b.pany (h.out _ _ b.R) (fun k a u i' hx => kb k a u i' (q.bd hx)) fun u x vv j' hx b2 hg h9 => by
 obtain ⟨ao, cap, rfl, ho⟩ := h9
 exact k u x ao cap j' hx ⟨b2.F, b.S.rdo b.lt b.rb hg ho, b.B, b.fm⟩ (q.rd hx)
theorem Bd.fail {e : Nat} {m : M β} (b : Bd E w (Rd E) φ d w1 j (ls)) (q : Qp T m j) (hm : m j = failD E.P e j) (kb : ∀ k a u i', T = .bad k a → Bd E w (Rd E) φ d u i' (ls) → Q9 (.panicked (slipV k a)) u) : Calls Tryz.prog 36 #[.pointer (some ⟨E.rb, 0, none⟩), .int .i64 (e : Int)] w1 Q9 := (fail_any E w1 j d e b.R).mono (by
 rintro x u ⟨⟨y, z, hf, rfl⟩, hb⟩
 exact kb _ _ _ _ ((q.eq.trans hm).trans (failD_cast hf)) (b.be hb))
end
theorem Bd.pnot {T : Res Ty} {m : M Ty} (b : Bd E w (Rd E) φ d w1 j (ls)) (q : Qp T m j) (h : Hid (∀ w j, Rd E w j d → Calls Tryz.prog fn args w (PPost E d w (m j) (NdO w)))) (kb : ∀ k a u i', T = .bad k a → Bd E w (Rd E) φ d u i' (ls) → Q9 (.panicked (slipV k a)) u) (k : ∀ u x ao cap j', Bd E w (Rd E) φ d u j' (.ow (.slice ao x.args.length cap) x.args :: ls) → T = .ok x j' → Q9 (.returned (.agg #[.int .i64 x.k, .int .i64 x.n, .string x.s, .int .i64 x.q, .slice ao x.args.length cap])) u) : Calls Tryz.prog fn args w1 Q9 := b.pany (h.out _ _ b.R) (fun k a u i' hx => kb k a u i' (q.eq.trans hx)) fun u x vv j' hx b2 hg h9 => by
 obtain ⟨ao, cap, rfl, ho⟩ := h9
 exact k u x ao cap j' ⟨b2.F, b.S.rdo b.lt b.rb hg ho, b.B, b.fm⟩ (q.eq.trans hx)
structure PE (E : Env) (w w1 : World) (φ : Nat → World → Nat → Prop) (d j : Nat) (ls : List At) {β : Type} (T : Res β) (x : Bool) (A C : M β) (sg : ByteArray) : Prop where
 e : isD E.P sg j = x
 qt : x = true → Qp T A (j + 1)
 qf : x = false → Qp T C j
 b : Bd E w (Rd E) φ d w1 j (ls)
section
variable {β : Type} {T : Res β} {A C : M β} {sg : ByteArray}
theorem Bd.peat (b : Bd E w (Rd E) φ d w1 j (ls)) (q : Qp T (fun i => if isD E.P sg i = true then A (i + 1) else C i) j) : ∃ x, PE E w w1 φ d j ls T x A C sg := ⟨_, rfl, fun h => ⟨q.eq.trans (if_pos h)⟩, fun h => ⟨q.eq.trans (if_neg (by rw [h]; exact Bool.false_ne_true))⟩, b⟩
theorem Bd.peatd {c : Bool → M β} (b : Bd E w (Rd E) φ d w1 j (ls)) (q : Qp T (eatD E.P sg >>= c) j) : ∃ x, PE E w w1 φ d j ls T x (c true) (c false) sg := b.peat (q.to fun i => eat_if _ _ _ _)
theorem Bd.eat1 (b : Bd E w (Rd E) φ d w1 j (ls)) (h : isD E.P sg j = true) (k : ∀ u, Bd E w (Rd E) φ d u (j + 1) (ls) → Q9 (.returned (.bool true)) u) : Calls Tryz.prog 38 #[.pointer (some ⟨E.rb, 0, none⟩), .string sg] w1 Q9 := (eat_any E w1 j d sg b.R).mono (by
 rintro x u ⟨rfl, hr, hg⟩
 rw [h, if_pos rfl] at hr
 rw [h]
 exact k u (b.gr hg hr))
theorem Bd.eat0 (b : Bd E w (Rd E) φ d w1 j (ls)) (h : isD E.P sg j = false) (k : ∀ u, Bd E w (Rd E) φ d u j (ls) → Q9 (.returned (.bool false)) u) : Calls Tryz.prog 38 #[.pointer (some ⟨E.rb, 0, none⟩), .string sg] w1 Q9 := (eat_any E w1 j d sg b.R).mono (by
 rintro x u ⟨rfl, hr, hg⟩
 rw [h, if_neg Bool.false_ne_true] at hr
 rw [h]
 exact k u (b.gr hg hr))
theorem Bd.is1 (b : Bd E w (Rd E) φ d w1 j (ls)) (h : isD E.P sg j = true) (k : ∀ u, Bd E w (Rd E) φ d u j (ls) → Q9 (.returned (.bool true)) u) : Calls Tryz.prog 73 #[.pointer (some ⟨E.rb, 0, none⟩), .string sg] w1 Q9 := b.ask (h ▸ is_any E w1 j d sg b.R) k
theorem Bd.is0 (b : Bd E w (Rd E) φ d w1 j (ls)) (h : isD E.P sg j = false) (k : ∀ u, Bd E w (Rd E) φ d u j (ls) → Q9 (.returned (.bool false)) u) : Calls Tryz.prog 73 #[.pointer (some ⟨E.rb, 0, none⟩), .string sg] w1 Q9 := b.ask (h ▸ is_any E w1 j d sg b.R) k
theorem PE.t (h : PE E w w1 φ d j ls T true A C sg) (k : ∀ u, Bd E w (Rd E) φ d u (j + 1) (ls) → Qp T A (j + 1) → isD E.P sg j = true → Q9 (.returned (.bool true)) u) : Calls Tryz.prog 38 #[.pointer (some ⟨E.rb, 0, none⟩), .string sg] w1 Q9 := h.b.eat1 h.e fun u b => k u b (h.qt rfl) h.e
theorem PE.f (h : PE E w w1 φ d j ls T false A C sg) (k : ∀ u, Bd E w (Rd E) φ d u j (ls) → Qp T C j → isD E.P sg j = false → Q9 (.returned (.bool false)) u) : Calls Tryz.prog 38 #[.pointer (some ⟨E.rb, 0, none⟩), .string sg] w1 Q9 := h.b.eat0 h.e fun u b => k u b (h.qf rfl) h.e
end
theorem Bd.appO {ops : Array Oper} {o : Oper} {a : Act} {K : Act → World → Prop} {Q : Exit → Act → World → Prop} {Ep : Prop} {v1 v2 : Value} {l1 l2 : List Ty} (hgd : o.guard = none) (x y : Operand) (ho : o.op = .call { callee := .builtin .append, args := #[x, y], argTypes := #[24, 24] }) (hs : a.eval x = v1) (hx : a.eval y = v2) (b : Bd E w (Rd E) φ d w1 j (.ow v1 l1 :: .ow v2 l2 :: ls)) (hn : l1.length + l2.length ≤ 1099511627776)
 (k : ∀ ao cap L u, Hid (L = l1 ++ l2) → Bd E w (Rd E) φ d u j (.ow (.slice ao L.length cap) L :: ls) → K (a.put o.dst (.slice ao L.length cap)) u) : if Region.wanted o (yielded ops a.tmps) = true then Oper.wp Tryz.prog o a w1 K Q else Ep :=
 step_at hgd x y ho hs hx b.S b.lt hn fun ao cap L u e h hA => k ao cap L u (lh e) ⟨b.fm.own b.F b.B hA, h, b.B, b.fm⟩
end
theorem AtsY.gv {w wk : World} {b t : Nat} {row : Array Value} : ∀ {ls : List At} {Y : Nat → Prop}, AtsY w wk Y ls → .gv b t row ∈ ls → wk.heap[b]? = some (.cells row t (0, 0))
 | a :: ls, Y, h, hm => by
  rcases List.mem_cons.1 hm with rfl | hm
  · exact h.1.1.row
  · exact AtsY.gv h.2 hm
theorem Bp.god {E : Env} {g f : Nat} {args : Array Value} {m spec : M Ty} {w : World} {i : Nat} {P : Ty → Value → World → Prop} (hg : g + 1 ≤ 60) (h : Rd E w i (60 - (g + 1))) (PA : PAll E g) (hs : spec i = m i) (k : ∀ d T W, Pa E (d + 1) g → d < 60 → w.alloc (.cells #[.int .i64 0, .int .i64 0, .string ⟨#[]⟩, .int .i64 0, .slice none 0 0] 26) = W → Bp E w d W i [] → Qp T m i → E.rb < w.heap.size → E.P.toks.length ≤ 100000 → Calls Tryz.prog f args w (PPost E d w T P)) : Calls Tryz.prog f args w (PPost E (60 - (g + 1)) w (spec i) P) := by
 rw [hs]
 exact k _ _ _ (PA.pa (by omega)) (by omega) rfl ⟨Fb.start h rfl, Ats.nil, h.low.2, fam_b _ _⟩ ⟨rfl⟩ h.ltr h.ok.len
theorem Bd.win {E : Env} {w w1 : World} {d j : Nat} {ls : List At} {Q9 : Ending → World → Prop} (b : Bp E w d w1 j ls) (hl : d < 60) (k : ∀ u c, w1.heap.size = c → Bp E w (d + 1) u j (.gv c 42 #[.pointer (some ⟨E.rb, 0, none⟩)] :: ls) → Q9 (.returned (.func (.func 72) #[] #[.pointer (some ⟨c, 0, none⟩)])) u) : Calls Tryz.prog 37 #[.pointer (some ⟨E.rb, 0, none⟩)] w1 Q9 := (within_any E w1 j d b.R).mono (by
 rintro e u ⟨hg, h3⟩
 rcases h3 with ⟨-, rfl, hr, hl2, hc⟩ | ⟨hnd, -⟩
 · exact k u _ rfl ⟨(b.gr hg hr).F, b.S.put hg b.rb (fun X hX => ⟨⟨hc, b.lt⟩, fun e => by have := hX _ e; omega⟩) (fun x e => Nat.le_of_eq e.symm), b.B, b.fm⟩
 · exact absurd hl hnd)
structure Pw9 (fn : Func) (E : Env) (d : Nat) (w : World) (T : Res Ty) (R9 : Act → World → Prop) (B9 : List PanicEntry → List Deferred → World → Prop) : Prop where
 r : R9 = bodyPostE fn E d w T .ret
 b : ∀ (c : List PanicEntry) (a : Act) W, bodyPostE fn E d w T (.panic c) a W → B9 c a.defers W
theorem Pw9.ex (fn : Func) (E : Env) (d : Nat) (w : World) (T : Res Ty) : ∃ R9 B9, Pw9 fn E d w T R9 B9 ∧ ∀ e a W, PQ R9 B9 e a W → bodyPostE fn E d w T e a W := by
 refine ⟨_, fun c ds W => bodyPostE fn E d w T (.panic c) ⟨#[], ds⟩ W, ⟨rfl, fun c a W h => h⟩, fun e a W h => ?_⟩
 cases e with
 | normal => exact h
 | ret => exact h
 | panic c => exact h
 | _ => exact h.elim
section
variable {fn : Func} {E : Env} {d b j : Nat} {w w1 : World} {T : Res Ty} {R9 : Act → World → Prop} {B9 : List PanicEntry → List Deferred → World → Prop} {ls : List At}
theorem Pw9.bad (p : Pw9 fn E d w T R9 B9) (hm : .gv b 42 #[.pointer (some ⟨E.rb, 0, none⟩)] ∈ ls) : ∀ k a u i', T = .bad k a → Bp E w (d + 1) u i' ls → B9 (slipV k a) [{ target := Target.fn (Fn.func 72) #[.pointer (some ⟨b, 0, none⟩)], args := #[] }] u := fun k a u i' hT h => p.b (slipV k a) ⟨#[], [{ target := Target.fn (Fn.func 72) #[.pointer (some ⟨b, 0, none⟩)], args := #[] }]⟩ u ⟨b, k, a, i', rfl, rfl, h.F.G, hT, h.F.R, AtsY.gv h.S hm⟩
theorem Bp.finw (x : Ty) {tm : Array Value} {t : Tmp} {ao : Option Addr} {cap : Nat} (h : Bp E w (d + 1) w1 j (.kd x.args ao cap :: ls)) (p : Pw9 fn E d w T R9 B9) (hm : .gv b 42 #[.pointer (some ⟨E.rb, 0, none⟩)] ∈ ls) (hT : T = .ok x j) (hres : fn.results = #[.cell t 26]) (ht : tm.getD t undef = .pointer (some ⟨w.heap.size, 0, none⟩)) : PQ R9 B9 .ret ⟨tm, [{ target := Target.fn (Fn.func 72) #[.pointer (some ⟨b, 0, none⟩)], args := #[] }]⟩ (set5 w1 w.heap.size x ao cap) := by
 obtain ⟨X, hk⟩ := h.S.kd
 obtain ⟨f1, f2, f3, f4⟩ := h.F.fin h.B hk
 have hc := AtsY.gv h.S.dr hm
 have hlt : w.heap.size < b := by
  have h9 := h.S.dr.wr (x := b) ⟨_, hm, rfl⟩
  exact h9.1
 show R9 _ _
 rw [p.r]
 exact ret_E rfl hres ht h.rb f1 f2 hT f3 f4 (set5_ne hc (by omega))
end
structure Pf9 (fn : Func) (E : Env) (d : Nat) (w : World) (T : Res Ty) (R9 : Act → World → Prop) (B9 : List PanicEntry → List Deferred → World → Prop) : Prop where
 r : R9 = bodyPostF fn E d w T .ret
 b : ∀ (c : List PanicEntry) (a : Act) W, bodyPostF fn E d w T (.panic c) a W → B9 c a.defers W
theorem Pf9.ex (fn : Func) (E : Env) (d : Nat) (w : World) (T : Res Ty) : ∃ R9 B9, Pf9 fn E d w T R9 B9 ∧ ∀ e a W, PQ R9 B9 e a W → bodyPostD Tryz.prog fn (PPost E d w T (NdQ w)) e a W := by
 refine ⟨_, fun c ds W => bodyPostF fn E d w T (.panic c) ⟨#[], ds⟩ W, ⟨rfl, fun c a W h => h⟩, fun e a W h => bodyPostF_le fn E d w T e a W ?_⟩
 cases e with
 | normal => exact h
 | ret => exact h
 | panic c => exact h
 | _ => exact h.elim
section
variable {fn : Func} {E : Env} {d b j : Nat} {w w1 : World} {T : Res Ty} {R9 : Act → World → Prop} {B9 : List PanicEntry → List Deferred → World → Prop} {ls : List At}
theorem Pf9.badN (p : Pf9 fn E d w T R9 B9) : ∀ k a u i', T = .bad k a → Bp E w d u i' ls → B9 (slipV k a) [] u := fun k a u i' hT h => p.b (slipV k a) ⟨#[], []⟩ u (bad_N h.F.G hT h.F.R)
theorem Pf9.badF (p : Pf9 fn E d w T R9 B9) (hm : .gv b 42 #[.pointer (some ⟨E.rb, 0, none⟩)] ∈ ls) : ∀ k a u i', T = .bad k a → Bp E w (d + 1) u i' ls → B9 (slipV k a) [{ target := Target.fn (Fn.func 72) #[.pointer (some ⟨b, 0, none⟩)], args := #[] }] u := fun k a u i' hT h => p.b (slipV k a) ⟨#[], [{ target := Target.fn (Fn.func 72) #[.pointer (some ⟨b, 0, none⟩)], args := #[] }]⟩ u (bad_F rfl h.F.G hT h.F.R (AtsY.gv h.S hm))
theorem Bp.finN (x : Ty) {tm : Array Value} {t : Tmp} {ao : Option Addr} {cap : Nat} (h : Bp E w d w1 j (.kd x.args ao cap :: ls)) (p : Pf9 fn E d w T R9 B9) (hT : T = .ok x j) (hres : fn.results = #[.cell t 26]) (ht : tm.getD t undef = .pointer (some ⟨w.heap.size, 0, none⟩)) : PQ R9 B9 .ret ⟨tm, []⟩ (set5 w1 w.heap.size x ao cap) := by
 obtain ⟨X, hk⟩ := h.S.kd
 obtain ⟨f1, f2, f3, f4⟩ := h.F.fin h.B hk
 show R9 _ _
 rw [p.r]
 exact ret_N hres ht f1 f2 hT f3 f4
theorem Bp.finF (x : Ty) {tm : Array Value} {t : Tmp} {ao : Option Addr} {cap : Nat} (h : Bp E w (d + 1) w1 j (.kd x.args ao cap :: ls)) (p : Pf9 fn E d w T R9 B9) (hm : .gv b 42 #[.pointer (some ⟨E.rb, 0, none⟩)] ∈ ls) (hT : T = .ok x j) (hres : fn.results = #[.cell t 26]) (ht : tm.getD t undef = .pointer (some ⟨w.heap.size, 0, none⟩)) : PQ R9 B9 .ret ⟨tm, [{ target := Target.fn (Fn.func 72) #[.pointer (some ⟨b, 0, none⟩)], args := #[] }]⟩ (set5 w1 w.heap.size x ao cap) := by
 obtain ⟨X, hk⟩ := h.S.kd
 obtain ⟨f1, f2, f3, f4⟩ := h.F.fin h.B hk
 have hc := AtsY.gv h.S.dr hm
 have hlt : w.heap.size < b := (h.S.dr.wr (x := b) ⟨_, hm, rfl⟩).1
 show R9 _ _
 rw [p.r]
 exact ret_F rfl hres ht h.rb f1 f2 hT f3 f4 (set5_ne hc (by omega))
theorem Bd.wno {β : Type} {U : Res β} {m : M β} {Q9 : Ending → World → Prop} (h : Bp E w d w1 j ls) (hl : ¬ d < 60) (q : Qp U m j) (hm : ∀ k a, (failD E.P 5 j : Res Unit) = .bad k a → m j = .bad k a) (kb : ∀ k a u i', U = .bad k a → Bp E w d u i' ls → Q9 (.panicked (slipV k a)) u) : Calls Tryz.prog 37 #[.pointer (some ⟨E.rb, 0, none⟩)] w1 Q9 := (within_any E w1 j d h.R).mono (by
 rintro e u ⟨hg, h3⟩
 rcases h3 with ⟨h9, -⟩ | ⟨-, k, a, hx, rfl, hr⟩
 · exact absurd h9 hl
 · exact kb k a u j (q.eq.trans (hm k a hx)) (h.gr hg hr))
end
theorem Bd.elem {σ : Type} {E : Env} {w w1 : World} {rd : World → σ → Nat → Prop} {φ : Nat → World → σ → Prop} {d : Nat} {s : σ} {ls : List At} {l : List Ty} {ao : Option Addr} {cap : Nat} (b : Bd E w rd φ d w1 s (.kd l ao cap :: ls)) {m : Nat} (hm : m < l.length) : ∃ x b9 p9 a9 c9, Hid (x = l[m]'hm) ∧ Hid (∀ y, wrs ls y → ¬ b9 = y) ∧ (¬ (b9 = w.heap.size) ∧ b9 < w1.heap.size ∧ (∀ w' : World, (Instr.indexAt 24 (.slice ao l.length cap) (.int .i64 (m : Int))).run Tryz.prog w' = .ok (.pointer (some ⟨b9, p9, none⟩)) w') ∧ w1.cell? ⟨b9, p9, none⟩ = some (.int .i64 x.k) ∧ w1.cell? ⟨b9, p9 + 1, none⟩ = some (.int .i64 x.n) ∧ w1.cell? ⟨b9, p9 + 2, none⟩ = some (.string x.s) ∧ w1.cell? ⟨b9, p9 + 3, none⟩ = some (.int .i64 x.q) ∧ w1.cell? ⟨b9, p9 + 4, none⟩ = some (.slice a9 x.args.length c9)) ∧ Bd E w rd φ d w1 s (.kd x.args a9 c9 :: .kd l ao cap :: ls) := by
 obtain ⟨b9, p9, a9, c9, hD, ix, x0, x1, x2, x3, x4, hs⟩ := arg_cells b.S.1 (j := m) hm
 refine ⟨_, b9, p9, a9, c9, lh rfl, lh fun y hy e => hD.2.2 (.inr (e ▸ hy)), ⟨Nat.ne_of_gt hD.1, hD.2.1, ix, x0, x1, x2, x3, x4⟩, b.F, ⟨Kd.mono hs fun y hy => hy.elim (fun h => h.elim) (fun h => .inr ((wrs_cons.1 h).elim False.elim id)), Kd.mono b.S.1 fun y hy => hy.elim (fun h => h.elim (fun h => .inl h) (fun h => h.elim)) .inr, AtsY.mono b.S.2 fun y hy => hy.elim (fun h => h.elim (fun h => .inl h) (fun h => h.elim)) .inr⟩, b.B, b.fm⟩
theorem pos_less {E : Env} {w w' : World} {i j d d' : Nat} (h : Rd E w i d) (h' : Rd E w' j d') (hl : i + 1 ≤ j) : E.P.toks.length - posOf w' E.rb < E.P.toks.length - posOf w E.rb := by
 have h1 := h.pos
 have h2 := h'.pos
 have h3 := h'.le
 omega
theorem one_any' (E : Env) (w : World) (i d : Nat) (h : Rd E w i d) : Calls Tryz.prog 161 #[pr E] w (PPost E d w (oneB E.P i) (NdQ w)) := by
 obtain ⟨T, hT⟩ : ∃ T, T = oneB E.P i := ⟨_, rfl⟩
 rw [← hT]
 have HT : Hid (T = (kindD E.P 5 >>= fun s => pure (.mk 30 (E.P.A i) s 0 [])) i) := lh hT
 obtain ⟨W, hW⟩ : ∃ W, W = w.alloc (.cells zeroRow 26) := ⟨_, rfl⟩
 have F0 := lh (Fb.start h hW)
 have HB := lh h.low.2
 have hlr := h.ltr
 have HNOW : Hid (∀ w1 j, Rd E w1 j d → Calls Tryz.prog 35 #[pr E] w1 fun e w' => e = .returned (tkVal E.P j) ∧ Below w1.heap.size w1 w') := lh (fun w1 j h1 => now_any E w1 j d h1)
 have HKI : Hid (∀ w1 j, Rd E w1 j d → Calls Tryz.prog 74 #[pr E, .int .i64 5] w1 (PPost E d w1 (kindD E.P 5 j) fun x v _ => v = .string x)) := lh (fun w1 j h1 => kind_any E w1 j d 5 h1)
 unfold tkVal at HNOW
 unfold pr at HNOW HKI ⊢
 unfold zeroRow at hW
 have HWW := lh hW
 clear h hT hW
 go_enter Tryz.func161, Tryz.ntmps161
 go_upto_region 1 with fail
 rw [← HWW.out]
 clear HWW
 go_upto_region 2 with (first
  | (go_at_call 35; refine (HNOW.out W i F0.out.R).mono ?_; rintro e w1 ⟨rfl, hb⟩; have F1 := lh (F0.out.below hb); clear hb))
 obtain ⟨V, hV⟩ : ∃ V, V = w1.alloc (.cells #[.int .i64 (E.P.K i), .int .i64 (E.P.A i : Int), .string (E.P.T i), .int .i64 (E.P.N i : Int)] 59) := ⟨_, rfl⟩
 have F2 : Hid (Fb E w d V i) := lh (F1.out.below (by rw [hV]; exact balloc (Below.refl _ _) _))
 have VB := Vb.new hV F1.out.lt
 rw [← hV]
 obtain ⟨nb, hnb⟩ : ∃ nb, nb = w1.heap.size := ⟨_, rfl⟩
 rw [← hnb] at VB ⊢
 have V3 := lh VB
 obtain ⟨c0, c1, c2, c3⟩ := tok_cells VB.row
 have V3d : Hid (Vb w nb 59 #[.int .i64 (E.P.K i), .int .i64 (E.P.A i : Int), .string (E.P.T i), .int .i64 (E.P.N i : Int)] V.drew) := lh ⟨V3.out.row, V3.out.lt⟩
 have F2d : Hid (Fb E w d V.drew i) := lh (F2.out.below (Below.refl _ _).drew)
 clear VB hnb hV
 go_region_law (first
  | (go_simp; go_at_call 74; refine (HKI.out V.drew i F2d.out.R).mono ?_; rintro e w3 ⟨hg, h3⟩; rcases h3.symm with ⟨k, a, hx, rfl, jj, hr⟩ | ⟨s, j, v, hx, rfl, rfl, hr⟩; exact ⟨rfl, PPost.bad (gr_trans F2d.out.G hg) (HT.out.trans (bind_bad hx)) hr⟩; have HT1 := lh (HT.out.trans (bind_ok hx)); have F4 := lh (F2d.out.gr hg hr); obtain ⟨k0, k1, k2, k3⟩ := tok_cells (V3d.out.gr hg F2.out.rb).row; have hr0 := F4.out.r0; unfold zeroRow at hr0; obtain ⟨⟨d0, d1, d2, d3, d4⟩, ⟨z0, z1, z2, z3, z4⟩⟩ := five_cells hr0; clear hx hr hg h3 hr0))
 all_goals
  go_wp2_with fail
  obtain ⟨f1, f2, f3, f4⟩ := F4.out.fin (X := fun a => a = nb) (x := .mk 30 (E.P.A i) s 0 []) (ao := none) (cap := 0) HB.out (Kd.nil _ _ _ _ _)
  exact bodyPost_ret (res_ty rfl rfl f1) rfl (PPost.ok f2 HT1.out f4 f3)
end Go.Proofs.YthehjeeiodbkjaaGreatDoor
