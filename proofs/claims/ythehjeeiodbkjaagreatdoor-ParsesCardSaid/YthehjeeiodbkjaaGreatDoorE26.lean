/-
  Proved: the steps of a walk over the document's reader, as lemmas on what stands. Conditions: what each names.
-/
import Derived.Test.YthehjeeiodbkjaaGreatDoorE25
import Derived.Test.YthehjeeiodbkjaaGreatDoorE23
set_option linter.unusedSimpArgs false
set_option linter.unusedVariables false
set_option maxRecDepth 100000
set_option maxHeartbeats 16000000
namespace Go.Proofs.YthehjeeiodbkjaaGreatDoor
open Go.RowKit
/-- what is told is what is read from here -/
structure Qr {α : Type} (T : Res α) (m : M α) (s : RS) : Prop where
 eq : T = rn m s
theorem Qr.rd {α β : Type} {T : Res β} {m : M α} {f : α → M β} {s s' : RS} {x : α} (h : Qr T (m >>= f) s) (hl : Rl (rn m s) x s') : Qr T (f x) s' := ⟨h.eq.trans (rn_bind hl)⟩
theorem Qr.tl {α : Type} {T : Res α} {m : M α} {s s' : RS} {x : α} (h : Qr T m s) (hl : Rl (rn m s) x s') : Rl T x s' := rl_tail h.eq hl
theorem Qr.pr {α : Type} {T : Res α} {x : α} {s : RS} (h : Qr T (pure x : M α) s) : Rl T x s := rn_pure h.eq
theorem Qr.lost {α : Type} {T : Res α} {m : M α} {x : α} {s : RS} (h : Qr T m s) (hs : s.k ≠ 0) : Rl T x s := rl_lost h.eq hs
/-- a part of it by itself -/
theorem Qr.sub {α β : Type} {T : Res β} {m : M α} {f : α → M β} {s : RS} (q : Qr T (m >>= f) s) : ∃ T2, Qr T2 m s ∧ Hid (∀ x s', Rl T2 x s' → Qr T (f x) s') := ⟨_, ⟨rfl⟩, lh fun x s' h => q.rd h⟩
theorem Qr.to {α : Type} {T : Res α} {m m' : M α} {s : RS} (q : Qr T m s) (h : ∀ i, m i = m' i) : Qr T m' s := ⟨q.eq.trans (by rw [funext h])⟩
structure Qb {β : Type} (T : Res β) (b : Bool) (A B : M β) (s : RS) : Prop where
 eq : T = if b = true then rn A (stp s) else rn B s
theorem Qb.t {β : Type} {T : Res β} {A B : M β} {s : RS} (h : Qb T true A B s) : Qr T A (stp s) := ⟨h.eq.trans (if_pos rfl)⟩
theorem Qb.f {β : Type} {T : Res β} {A B : M β} {s : RS} (h : Qb T false A B s) : Qr T B s := ⟨h.eq.trans (if_neg Bool.false_ne_true)⟩
theorem Qr.eat {β : Type} {P : Src} {sg : ByteArray} {A B : M β} {s : RS} {T : Res β} (h : Qr T (fun i => if isD P sg i = true then A (i + 1) else B i) s) : Qb T (eatb P sg s) A B s := ⟨by rw [h.eq]; exact rn_eat⟩
theorem Qr.eatd {β : Type} {P : Src} {sg : ByteArray} {f : Bool → M β} {s : RS} {T : Res β} (h : Qr T (eatD P sg >>= f) s) : Qb T (eatb P sg s) (f true) (f false) s := ⟨by rw [h.eq]; exact rn_eatD⟩
/-- contracts at the depth d -/
theorem at_d {E : Env} {g d f : Nat} {args : Array Value} {m : M Ty} {post : World → Ty → Value → World → Prop} (hd : d = 60 - g) (h : ∀ w s, Rr E w s (60 - g) → Calls Tryz.prog f args w (RPost E (60 - g) w (rn m s) (post w))) : Hid (∀ w s, Rr E w s d → Calls Tryz.prog f args w (RPost E d w (rn m s) (post w))) := lh (by subst hd; exact h)
theorem at_r {E : Env} {g d f : Nat} {args : Array Value} {m : M (List Ty)} {post : World → List Ty → Value → World → Prop} (hd : d = 60 - g) (h : ∀ w s, Rr E w s (60 - g) → E.B < w.heap.size → Calls Tryz.prog f args w (RPost E (60 - g) w (rn m s) (post w))) : Hid (∀ w s, Rr E w s d → E.B < w.heap.size → Calls Tryz.prog f args w (RPost E d w (rn m s) (post w))) := lh (by subst hd; exact h)
section
variable (E : Env) (d : Nat)
theorem hnow : Hid (∀ w s, Rr E w s d → Calls Tryz.prog 102 #[.pointer (some ⟨E.rb, 0, none⟩)] w fun e w' => e = .returned (.agg #[.int .i64 (E.P.K s.i), .int .i64 (E.P.A s.i : Int), .string (E.P.T s.i), .int .i64 (E.P.N s.i : Int)]) ∧ Below w.heap.size w w') := lh (fun w s h => rnow_any E w s d h)
theorem hno : Hid (∀ w s, Rr E w s d → Calls Tryz.prog 103 #[.pointer (some ⟨E.rb, 0, none⟩), .int .i64 4] w fun en w' => (∃ v, en = .returned v) ∧ Rr E w' (noS E.P 4 s) d ∧ w.grownBy w' (some E.rb)) := lh (fun w s h => rno_any E w s d 4 h)
theorem hnode : Hid (∀ (k a : Int) (ao : Option Addr) (n cap : Nat) (w : World), Calls Tryz.prog 54 #[.int .i64 k, .int .i64 a, .slice ao n cap] w fun e w' => e = .returned (.agg #[.int .i64 k, .int .i64 a, .string ⟨#[]⟩, .int .i64 0, .slice ao n cap]) ∧ Below w.heap.size w w') := lh rnode_any
theorem hbegun : Hid (∀ w s, Rr E w s d → Calls Tryz.prog 180 #[.pointer (some ⟨E.rb, 0, none⟩)] w fun e w' => e = .returned (.bool (decide (s.k = 0) && begunB E.P s.i)) ∧ Below w.heap.size w w') := lh (fun w s h => rbegun_any E w s d h)
theorem hbegins : Hid (∀ w s, Rr E w s d → Calls Tryz.prog 201 #[.pointer (some ⟨E.rb, 0, none⟩)] w fun e w' => e = .returned (.bool (decide (s.k = 0) && beginsB E.P s.i)) ∧ Below w.heap.size w w') := lh (fun w s h => rbegins_any E w s d h)
theorem hget1 : Hid (∀ w s, Rr E w s d → Calls Tryz.prog 150 #[.pointer (some ⟨E.rb, 0, none⟩), .int .i64 1] w (RPost E d w (rn (kindD E.P 1) s) fun x v _ => v = .string x)) := lh (fun w s h => rget_any E w s d 1 (by decide) h)
theorem hget3 : Hid (∀ w s, Rr E w s d → Calls Tryz.prog 150 #[.pointer (some ⟨E.rb, 0, none⟩), .int .i64 3] w (RPost E d w (rn (kindD E.P 3) s) fun x v _ => v = .string x)) := lh (fun w s h => rget_any E w s d 3 (by decide) h)
theorem hget4 : Hid (∀ w s, Rr E w s d → Calls Tryz.prog 150 #[.pointer (some ⟨E.rb, 0, none⟩), .int .i64 4] w (RPost E d w (rn (kindD E.P 4) s) fun x v _ => v = .string x)) := lh (fun w s h => rget_any E w s d 4 (by decide) h)
theorem hget5 : Hid (∀ w s, Rr E w s d → Calls Tryz.prog 150 #[.pointer (some ⟨E.rb, 0, none⟩), .int .i64 5] w (RPost E d w (rn (kindD E.P 5) s) fun x v _ => v = .string x)) := lh (fun w s h => rget_any E w s d 5 (by decide) h)
theorem hpath0 : Hid (∀ w s, Rr E w s d → Calls Tryz.prog 152 #[.pointer (some ⟨E.rb, 0, none⟩), .int .i64 0] w (RPost E d w (rn (pathD E.P 0) s) fun x v _ => v = .tuple #[.string x.1, .int .i64 (x.2 : Int)])) := lh (fun w s h => rpath_any E w s d 0 h (by decide))
theorem hpath3 : Hid (∀ w s, Rr E w s d → Calls Tryz.prog 152 #[.pointer (some ⟨E.rb, 0, none⟩), .int .i64 3] w (RPost E d w (rn (pathD E.P 3) s) fun x v _ => v = .tuple #[.string x.1, .int .i64 (x.2 : Int)])) := lh (fun w s h => rpath_any E w s d 3 h (by decide))
theorem hpath4 : Hid (∀ w s, Rr E w s d → Calls Tryz.prog 152 #[.pointer (some ⟨E.rb, 0, none⟩), .int .i64 4] w (RPost E d w (rn (pathD E.P 4) s) fun x v _ => v = .tuple #[.string x.1, .int .i64 (x.2 : Int)])) := lh (fun w s h => rpath_any E w s d 4 h (by decide))
theorem hmust (sg : ByteArray) : Hid (∀ w s, Rr E w s d → Calls Tryz.prog 144 #[.pointer (some ⟨E.rb, 0, none⟩), .string sg] w (RPost E d w (rn (mustD E.P sg) s) fun _ _ _ => True)) := lh (fun w s h => rmust_any E w s d sg h)
theorem heat (sg : ByteArray) : Hid (∀ w s, Rr E w s d → Calls Tryz.prog 153 #[.pointer (some ⟨E.rb, 0, none⟩), .string sg] w fun e w' => e = .returned (.bool (eatb E.P sg s)) ∧ Rr E w' (if eatb E.P sg s = true then stp s else s) d ∧ w.grownBy w' (some E.rb)) := lh (fun w s h => reat_any E w s d sg h)
end
theorem tk_fields (P : Src) (i : Nat) : (∀ w, (Instr.field 59 (.agg #[.int .i64 (P.K i), .int .i64 (P.A i : Int), .string (P.T i), .int .i64 (P.N i : Int)]) 0).run Tryz.prog w = .ok (.int .i64 (P.K i)) w) ∧ (∀ w, (Instr.field 59 (.agg #[.int .i64 (P.K i), .int .i64 (P.A i : Int), .string (P.T i), .int .i64 (P.N i : Int)]) 1).run Tryz.prog w = .ok (.int .i64 (P.A i : Int)) w) ∧ (∀ w, (Instr.field 59 (.agg #[.int .i64 (P.K i), .int .i64 (P.A i : Int), .string (P.T i), .int .i64 (P.N i : Int)]) 3).run Tryz.prog w = .ok (.int .i64 (P.N i : Int)) w) := ⟨tk_fieldK P i, tk_fieldA P i, tk_fieldN P i⟩
/-- all the readings, at the depth d -/
structure Ra (E : Env) (d g : Nat) : Prop where
 hd : d = 60 - g
 exp : Hid (∀ w s, Rr E w s d → Calls Tryz.prog 56 #[.pointer (some ⟨E.rb, 0, none⟩)] w (RPost E d w (rn (readS E.P g .exp) s) (NdQ w)))
 pat : Hid (∀ w s, Rr E w s d → Calls Tryz.prog 57 #[.pointer (some ⟨E.rb, 0, none⟩)] w (RPost E d w (rn (readS E.P g .pat) s) (NdQ w)))
 typ : Hid (∀ w s, Rr E w s d → Calls Tryz.prog 58 #[.pointer (some ⟨E.rb, 0, none⟩)] w (RPost E d w (rn (readS E.P g .typ) s) (NdQ w)))
 sig : Hid (∀ w s, Rr E w s d → Calls Tryz.prog 151 #[.pointer (some ⟨E.rb, 0, none⟩)] w (RPost E d w (rn (readS E.P g .sig) s) (NdQ w)))
theorem RAll.ra {E : Env} {d g : Nat} (h : RAll E g) (hd : d = 60 - g) : Ra E d g := ⟨hd, at_d hd h.exp, at_d hd h.pat, at_d hd h.typ, at_d hd h.sig⟩
/-- a family of frames: the reader at a depth, at a place -/
structure Fam {σ : Type} (E : Env) (w : World) (rd : World → σ → Nat → Prop) (φ : Nat → World → σ → Prop) : Prop where
 R : ∀ {d : Nat} {wk : World} {s : σ}, φ d wk s → rd wk s d
 lt : ∀ {d : Nat} {wk : World} {s : σ}, φ d wk s → w.heap.size < wk.heap.size
 rb : ∀ {d : Nat} {wk : World} {s : σ}, φ d wk s → E.rb < w.heap.size
 gr : ∀ {d d' : Nat} {w1 w2 : World} {s s' : σ}, φ d w1 s → w1.grownBy w2 (some E.rb) → rd w2 s' d' → φ d' w2 s'
 keep : ∀ {d : Nat} {w1 w2 : World} {s : σ}, rd w1 s d → Below w1.heap.size w1 w2 → rd w2 s d
 set : ∀ {d nb t : Nat} {w1 : World} {s : σ} {row : Array Value}, φ d w1 s → Vb w nb t row w1 → E.B ≤ w.heap.size → ∀ (k : Nat) (v : Value), φ d (w1.setCell ⟨nb, k, none⟩ v) s
 own : ∀ {d : Nat} {A w9 : World} {s : σ} {X : Nat → Prop} {r : Option Nat}, φ d A s → E.B ≤ w.heap.size → AppG w A w9 X r → φ d w9 s
/-- the frame, and what else stands -/
structure Bd {σ : Type} (E : Env) (w : World) (rd : World → σ → Nat → Prop) (φ : Nat → World → σ → Prop) (d : Nat) (wk : World) (s : σ) (ls : List At) : Prop where
 F : φ d wk s
 S : Ats w wk ls
 B : E.B ≤ w.heap.size
 fm : Fam E w rd φ
/-- where nodes are left: the reader, the result's variable, what else stands -/
abbrev Br (E : Env) (w : World) (d : Nat) (wk : World) (s : RS) (ls : List At) : Prop := Bd E w (Rr E) (Fr E w) d wk s ls
/-- where a slice is left -/
abbrev Bs (E : Env) (v w : World) (d : Nat) (wk : World) (s : RS) (ls : List At) : Prop := Bd E w (Rr E) (Fs E v w) d wk s ls
theorem fam_r (E : Env) (w : World) : Fam E w (Rr E) (Fr E w) := ⟨fun h => h.R, fun h => h.lt, fun h => h.rb, fun h => h.grd, fun h => h.keep, fun h => h.set, fun h => h.own⟩
theorem fam_s (E : Env) (v w : World) : Fam E w (Rr E) (Fs E v w) := ⟨fun h => h.R, fun h => h.lt, fun h => h.rb, fun h => h.grd, fun h => h.keep, fun h => h.set, fun h => h.own⟩
/-- a function that leaves a node: what a walk over it starts from -/
theorem Br.go {E : Env} {g f : Nat} {args : Array Value} {m : M Ty} {w : World} {s : RS} {P : Ty → Value → World → Prop} (h : Rr E w s (60 - g)) (RA : RAll E g) (k : ∀ d T W, Ra E d g → w.alloc (.cells #[.int .i64 0, .int .i64 0, .string ⟨#[]⟩, .int .i64 0, .slice none 0 0] 26) = W → Br E w d W s [] → Qr T m s → E.rb < w.heap.size → E.P.toks.length ≤ 100000 → Calls Tryz.prog f args w (RPost E d w T P)) : Calls Tryz.prog f args w (RPost E (60 - g) w (rn m s) P) := k _ _ _ (RA.ra rfl) rfl ⟨Fr.start h rfl, Ats.nil, h.low.2, fam_r _ _⟩ ⟨rfl⟩ h.ltr h.ok.len
/-- and a slice of them, some below B -/
theorem Bs.go {E : Env} {g f : Nat} {args : Array Value} {m : M (List Ty)} {v : World} {s : RS} (h : Rr E v s (60 - g)) (hB : E.B < v.heap.size) (RA : RAll E g) (k : ∀ d T w, Ra E d g → Bs E v w d v s [] → Qr T m s → E.rb < w.heap.size → E.P.toks.length ≤ 100000 → Calls Tryz.prog f args v (RPost E d v T (OwB v))) : Calls Tryz.prog f args v (RPost E (60 - g) v (rn m s) (OwB v)) := by
 obtain ⟨w, h1, h2⟩ := Fs.start h hB
 exact k _ _ w (RA.ra rfl) ⟨h1, Ats.nil, h2, fam_s _ _ _⟩ ⟨rfl⟩ h1.rb h.ok.len
/-- the contract of a function of the reader alone that leaves a node -/
@[reducible] def CtN (f : Nat) (m : Env → Nat → M Ty) : Prop := ∀ (E : Env) (g : Nat), RAll E g → ∀ (w : World) (s : RS), Rr E w s (60 - g) → Calls Tryz.prog f #[pr E] w (RPost E (60 - g) w (rn (m E g) s) (NdQ w))
section
variable {σ : Type} {E : Env} {w w1 V : World} {rd : World → σ → Nat → Prop} {φ : Nat → World → σ → Prop} {d : Nat} {s s' : σ} {ls : List At}
theorem Bd.rb (b : Bd E w rd φ d w1 s (ls)) : E.rb < w.heap.size := b.fm.rb b.F
theorem Bd.lt (b : Bd E w rd φ d w1 s (ls)) : w.heap.size < w1.heap.size := b.fm.lt b.F
theorem Bd.R (b : Bd E w rd φ d w1 s (ls)) : rd w1 s d := b.fm.R b.F
theorem Bd.gr {d' : Nat} (b : Bd E w rd φ d w1 s (ls)) (hg : w1.grownBy V (some E.rb)) (hr : rd V s' d') : Bd E w rd φ d' V s' (ls) := ⟨b.fm.gr b.F hg hr, b.S.gr hg b.rb, b.B, b.fm⟩
theorem Bd.be (b : Bd E w rd φ d w1 s (ls)) (hb : Below w1.heap.size w1 V) : Bd E w rd φ d V s (ls) := b.gr (gr_below hb _) (b.fm.keep b.R hb)
theorem Bd.al {c : Array Value} {t : Nat} (b : Bd E w rd φ d w1 s (ls)) (h : w1.alloc (.cells c t) = V) : φ d V s := (b.be (by rw [← h]; exact balloc (Below.refl _ _) _)).F
theorem Bd.box {n : Nat} {k a x q l : Value} (b : Bd E w rd φ d w1 s (ls)) (h : w1.alloc (.cells #[k, a, x, q, l] 26) = V) (hb : w1.heap.size = n) : Bd E w rd φ d V s (.nv n k a x q l :: ls) := ⟨b.al h, b.S.box b.lt b.rb h.symm hb.symm, b.B, b.fm⟩
theorem Bd.boxt {n : Nat} {k a x q : Value} (b : Bd E w rd φ d w1 s (ls)) (h : w1.alloc (.cells #[k, a, x, q] 59) = V) (hb : w1.heap.size = n) : Bd E w rd φ d V s (.tv n k a x q :: ls) := ⟨b.al h, b.S.boxt b.lt b.rb h.symm hb.symm, b.B, b.fm⟩
theorem Bd.dr {a : At} (b : Bd E w rd φ d w1 s (a :: ls)) : Bd E w rd φ d w1 s (ls) := ⟨b.F, b.S.dr, b.B, b.fm⟩
theorem Bd.ko {x : List Ty} {ao : Option Addr} {n cap : Nat} (b : Bd E w rd φ d w1 s (.ow (.slice ao n cap) x :: ls)) : Bd E w rd φ d w1 s (.kd x ao cap :: ls) := ⟨b.F, b.S.ko, b.B, b.fm⟩
theorem Bd.nilo (b : Bd E w rd φ d w1 s (ls)) : Bd E w rd φ d w1 s (.ow (.slice none 0 0) [] :: ls) := ⟨b.F, b.S.nilo, b.B, b.fm⟩
theorem Bd.nilk (b : Bd E w rd φ d w1 s (ls)) : Bd E w rd φ d w1 s (.kd [] none 0 :: ls) := ⟨b.F, b.S.nilk, b.B, b.fm⟩
theorem Bd.kd2 {x : Ty} {ao : Option Addr} {ca : Nat} (b : Bd E w rd φ d w1 s (.kd x.args ao ca :: ls)) : Bd E w rd φ d w1 s (.kd x.args ao ca :: .kd x.args ao ca :: ls) := ⟨b.F, b.S.kd2, b.B, b.fm⟩
theorem Bd.mv1 {a b1 : At} (b : Bd E w rd φ d w1 s (a :: b1 :: ls)) : Bd E w rd φ d w1 s (b1 :: a :: ls) := ⟨b.F, b.S.mv1, b.B, b.fm⟩
theorem Bd.mv2 {a b1 c : At} (b : Bd E w rd φ d w1 s (a :: b1 :: c :: ls)) : Bd E w rd φ d w1 s (c :: a :: b1 :: ls) := ⟨b.F, b.S.mv2, b.B, b.fm⟩
theorem Bd.mv3 {a b1 c d1 : At} (b : Bd E w rd φ d w1 s (a :: b1 :: c :: d1 :: ls)) : Bd E w rd φ d w1 s (d1 :: a :: b1 :: c :: ls) := ⟨b.F, b.S.mv3, b.B, b.fm⟩
theorem Bd.mv4 {a b1 c d1 e : At} (b : Bd E w rd φ d w1 s (a :: b1 :: c :: d1 :: e :: ls)) : Bd E w rd φ d w1 s (e :: a :: b1 :: c :: d1 :: ls) := ⟨b.F, b.S.mv4, b.B, b.fm⟩
theorem Bd.mv5 {a b1 c d1 e f : At} (b : Bd E w rd φ d w1 s (a :: b1 :: c :: d1 :: e :: f :: ls)) : Bd E w rd φ d w1 s (f :: a :: b1 :: c :: d1 :: e :: ls) := ⟨b.F, b.S.mv5, b.B, b.fm⟩
section
variable {n : Nat} {v9 k a x q l : Value} (b : Bd E w rd φ d w1 s (.nv n k a x q l :: ls))
include b
theorem Bd.s0 (h : w1.setCell ⟨n, 0, none⟩ v9 = V) : Bd E w rd φ d V s (.nv n v9 a x q l :: ls) := by subst h; exact ⟨b.fm.set b.F b.S.1.1 b.B _ _, b.S.s0 rfl, b.B, b.fm⟩
theorem Bd.s1 (h : w1.setCell ⟨n, 1, none⟩ v9 = V) : Bd E w rd φ d V s (.nv n k v9 x q l :: ls) := by subst h; exact ⟨b.fm.set b.F b.S.1.1 b.B _ _, b.S.s1 rfl, b.B, b.fm⟩
theorem Bd.s2 (h : w1.setCell ⟨n, 2, none⟩ v9 = V) : Bd E w rd φ d V s (.nv n k a v9 q l :: ls) := by subst h; exact ⟨b.fm.set b.F b.S.1.1 b.B _ _, b.S.s2 rfl, b.B, b.fm⟩
theorem Bd.s3 (h : w1.setCell ⟨n, 3, none⟩ v9 = V) : Bd E w rd φ d V s (.nv n k a x v9 l :: ls) := by subst h; exact ⟨b.fm.set b.F b.S.1.1 b.B _ _, b.S.s3 rfl, b.B, b.fm⟩
theorem Bd.s4 (h : w1.setCell ⟨n, 4, none⟩ v9 = V) : Bd E w rd φ d V s (.nv n k a x q v9 :: ls) := by subst h; exact ⟨b.fm.set b.F b.S.1.1 b.B _ _, b.S.s4 rfl, b.B, b.fm⟩
theorem Bd.sn {v0 v1 v2 v3 v4 : Value} (h : ((((w1.setCell ⟨n, 0, none⟩ v0).setCell ⟨n, 1, none⟩ v1).setCell ⟨n, 2, none⟩ v2).setCell ⟨n, 3, none⟩ v3).setCell ⟨n, 4, none⟩ v4 = V) : Bd E w rd φ d V s (.nv n v0 v1 v2 v3 v4 :: ls) := ((((b.s0 rfl).s1 rfl).s2 rfl).s3 rfl).s4 h
end
section
variable {x y z : Ty} {ao bo co : Option Addr} {ca cb cc z9 : Nat}
theorem Bd.mk1 (b : Bd E w rd φ d w1 s (.kd x.args ao ca :: ls)) (hz : w1.heap.size = z9) (h : w1.alloc (.cells #[.int .i64 x.k, .int .i64 x.n, .string x.s, .int .i64 x.q, .slice ao x.args.length ca] 26) = V) : Bd E w rd φ d V s (.ow (.slice (some ⟨z9, 0, none⟩) 1 1) [x] :: ls) := ⟨b.al h, b.S.mk1 b.lt b.rb hz h.symm, b.B, b.fm⟩
theorem Bd.mkl {k n q : Int} {x : ByteArray} {l : List Ty} (b : Bd E w rd φ d w1 s (.kd l ao ca :: ls)) (hz : w1.heap.size = z9) (h : w1.alloc (.cells #[.int .i64 k, .int .i64 n, .string x, .int .i64 q, .slice ao l.length ca] 26) = V) : Bd E w rd φ d V s (.ow (.slice (some ⟨z9, 0, none⟩) 1 1) [.mk k n x q l] :: ls) := Bd.mk1 (x := .mk k n x q l) b hz h
theorem Bd.mk2 (b : Bd E w rd φ d w1 s (.kd x.args ao ca :: .kd y.args bo cb :: ls)) (hz : w1.heap.size = z9) (h : w1.alloc (.cells #[.int .i64 x.k, .int .i64 x.n, .string x.s, .int .i64 x.q, .slice ao x.args.length ca, .int .i64 y.k, .int .i64 y.n, .string y.s, .int .i64 y.q, .slice bo y.args.length cb] 26) = V) : Bd E w rd φ d V s (.ow (.slice (some ⟨z9, 0, none⟩) 2 2) [x, y] :: ls) := ⟨b.al h, b.S.mk2 b.lt b.rb hz h.symm, b.B, b.fm⟩
theorem Bd.mk3 (b : Bd E w rd φ d w1 s (.kd x.args ao ca :: .kd y.args bo cb :: .kd z.args co cc :: ls)) (hz : w1.heap.size = z9) (h : w1.alloc (.cells #[.int .i64 x.k, .int .i64 x.n, .string x.s, .int .i64 x.q, .slice ao x.args.length ca, .int .i64 y.k, .int .i64 y.n, .string y.s, .int .i64 y.q, .slice bo y.args.length cb, .int .i64 z.k, .int .i64 z.n, .string z.s, .int .i64 z.q, .slice co z.args.length cc] 26) = V) : Bd E w rd φ d V s (.ow (.slice (some ⟨z9, 0, none⟩) 3 3) [x, y, z] :: ls) := ⟨b.al h, b.S.mk3 b.lt b.rb hz h.symm, b.B, b.fm⟩
/-- the node of a list of one -/
theorem Bd.arg (b : Bd E w rd φ d w1 s (.kd [x] ao ca :: ls)) : ∃ b9 p9 a9 c9, ¬ (b9 = w.heap.size) ∧ ((∀ w' : World, (Instr.indexAt 24 (.slice ao 1 ca) (.int .i64 0)).run Tryz.prog w' = .ok (.pointer (some ⟨b9, p9, none⟩)) w') ∧ w1.cell? ⟨b9, p9, none⟩ = some (.int .i64 x.k) ∧ w1.cell? ⟨b9, p9 + 1, none⟩ = some (.int .i64 x.n) ∧ w1.cell? ⟨b9, p9 + 2, none⟩ = some (.string x.s) ∧ w1.cell? ⟨b9, p9 + 3, none⟩ = some (.int .i64 x.q) ∧ w1.cell? ⟨b9, p9 + 4, none⟩ = some (.slice a9 x.args.length c9)) ∧ Bd E w rd φ d w1 s (.kd x.args a9 c9 :: ls) := by
 obtain ⟨b9, p9, a9, c9, hD, ix, x0, x1, x2, x3, x4, hs⟩ := arg_cells b.S.1 (j := 0) (by simp)
 exact ⟨b9, p9, a9, c9, Nat.ne_of_gt hD.1, ⟨ix, x0, x1, x2, x3, x4⟩, b.F, ⟨hs, b.S.2⟩, b.B, b.fm⟩
end
theorem Bd.ask {Q9 : Ending → World → Prop} {f : Nat} {args : Array Value} {x : Value} {W : World} (b : Bd E w rd φ d w1 s (ls)) (h : Calls Tryz.prog f args W fun e w' => e = .returned x ∧ Below w1.heap.size w1 w') (k : ∀ u, Bd E w rd φ d u s (ls) → Q9 (.returned x) u) : Calls Tryz.prog f args W Q9 := h.mono (by rintro e u ⟨rfl, hb⟩; exact k u (b.be hb))
theorem Bd.app {ops : Array Oper} {rest : List Oper} {o : Oper} {a : Act} {Q : Exit → Act → World → Prop} {v1 v2 : Value} {l1 l2 : List Ty} (hgd : o.guard = none) (x y : Operand) (ho : o.op = .call { callee := .builtin .append, args := #[x, y], argTypes := #[24, 24] }) (hs : a.eval x = v1) (hx : a.eval y = v2) (b : Bd E w rd φ d w1 s (.ow v1 l1 :: .ow v2 l2 :: ls)) (hn : l1.length + l2.length ≤ 1099511627776)
 (k : ∀ ao cap L u, Hid (L = l1 ++ l2) → Bd E w rd φ d u s (.ow (.slice ao L.length cap) L :: ls) → wpList Tryz.prog ops Q rest (a.put o.dst (.slice ao L.length cap)) u) : wpList Tryz.prog ops Q (o :: rest) a w1 :=
 wpList_at hgd x y ho hs hx b.S b.lt hn fun ao cap L u e h hA => k ao cap L u (lh e) ⟨b.fm.own b.F b.B hA, h, b.B, b.fm⟩
end
section
variable {E : Env} {w w1 V : World} {φ : Nat → World → RS → Prop} {d : Nat} {s s' : RS} {ls : List At} {Q9 : Ending → World → Prop} {fn : Nat} {args : Array Value}
/-- calls, as a walk meets them -/
theorem Bd.any {α : Type} {m : M α} {p9 : α → Value → World → Prop} (b : Bd E w (Rr E) φ d w1 s (ls)) (h : Calls Tryz.prog fn args w1 (RPost E d w1 (rn m s) p9)) (k : ∀ u x vv s', Bd E w (Rr E) φ d u s' (ls) → w1.grownBy u (some E.rb) → Rl (rn m s) x s' → p9 x vv u → Q9 (.returned vv) u) : Calls Tryz.prog fn args w1 Q9 := h.mono (by rintro e u ⟨x, y, s', rfl, hg, hr, hq, hl⟩; exact k u x y s' (b.gr hg hr) hg hl hq)
theorem Bd.now (b : Bd E w (Rr E) φ d w1 s (ls)) (k : ∀ u, Bd E w (Rr E) φ d u s (ls) → Q9 (.returned (.agg #[.int .i64 (E.P.K s.i), .int .i64 (E.P.A s.i : Int), .string (E.P.T s.i), .int .i64 (E.P.N s.i : Int)])) u) : Calls Tryz.prog 102 #[.pointer (some ⟨E.rb, 0, none⟩)] w1 Q9 := b.ask ((hnow E d).out _ _ b.R) k
theorem Bd.node {x a : Int} {ao : Option Addr} {n cap : Nat} (b : Bd E w (Rr E) φ d w1 s (ls)) (k : ∀ u, Bd E w (Rr E) φ d u s (ls) → Q9 (.returned (.agg #[.int .i64 x, .int .i64 a, .string ⟨#[]⟩, .int .i64 0, .slice ao n cap])) u) : Calls Tryz.prog 54 #[.int .i64 x, .int .i64 a, .slice ao n cap] w1 Q9 := b.ask (hnode.out x a ao n cap w1) k
theorem Bd.no (b : Bd E w (Rr E) φ d w1 s (ls)) (k : ∀ u vv, Bd E w (Rr E) φ d u (noS E.P 4 s) (ls) → Q9 (.returned vv) u) : Calls Tryz.prog 103 #[.pointer (some ⟨E.rb, 0, none⟩), .int .i64 4] w1 Q9 := ((hno E d).out _ _ b.R).mono (by rintro e u ⟨⟨y, rfl⟩, hr, hg⟩; exact k u y (b.gr hg hr))
theorem Bd.ndc {m : M Ty} (b : Bd E w (Rr E) φ d w1 s (ls)) (h : Calls Tryz.prog fn args w1 (RPost E d w1 (rn m s) (NdQ w1))) (k : ∀ u x ao cap s', Rl (rn m s) x s' → Bd E w (Rr E) φ d u s' (.kd x.args ao cap :: ls) → Q9 (.returned (.agg #[.int .i64 x.k, .int .i64 x.n, .string x.s, .int .i64 x.q, .slice ao x.args.length cap])) u) : Calls Tryz.prog fn args w1 Q9 := h.mono (by rintro e u ⟨x, v, s', rfl, hg, hr, ⟨ao, cap, rfl, hs⟩, hl⟩; exact k u x ao cap s' hl ⟨(b.gr hg hr).F, b.S.rd b.lt b.rb hg hs, b.B, b.fm⟩)
theorem Bd.ndx {m : M Ty} (b : Bd E w (Rr E) φ d w1 s (ls)) (h : Hid (∀ w s, Rr E w s d → Calls Tryz.prog fn args w (RPost E d w (rn m s) (NdQ w)))) (k : ∀ u x ao cap s', Rl (rn m s) x s' → Bd E w (Rr E) φ d u s' (.kd x.args ao cap :: ls) → Q9 (.returned (.agg #[.int .i64 x.k, .int .i64 x.n, .string x.s, .int .i64 x.q, .slice ao x.args.length cap])) u) : Calls Tryz.prog fn args w1 Q9 := b.ndc (h.out _ _ b.R) k
theorem Bd.ndt {T : Res Ty} {m : M Ty} (b : Bd E w (Rr E) φ d w1 s (ls)) (q : Qr T m s) (h : Hid (∀ w s, Rr E w s d → Calls Tryz.prog fn args w (RPost E d w (rn m s) (NdQ w)))) (k : ∀ u x ao cap s', Bd E w (Rr E) φ d u s' (.kd x.args ao cap :: ls) → Rl T x s' → Q9 (.returned (.agg #[.int .i64 x.k, .int .i64 x.n, .string x.s, .int .i64 x.q, .slice ao x.args.length cap])) u) : Calls Tryz.prog fn args w1 Q9 := b.ndx h fun u x ao cap s' hl b => k u x ao cap s' b (q.tl hl)
theorem Bd.rwx {m : M (List Ty)} (b : Bd E w (Rr E) φ d w1 s (ls)) (h : Hid (∀ w s, Rr E w s d → E.B < w.heap.size → Calls Tryz.prog fn args w (RPost E d w (rn m s) (OwB w)))) (k : ∀ u x ao cap s', Hid (x.length ≤ 200000) → Rl (rn m s) x s' → Bd E w (Rr E) φ d u s' (.ow (.slice ao x.length cap) x :: ls) → Q9 (.returned (.slice ao x.length cap)) u) : Calls Tryz.prog fn args w1 Q9 := (h.out _ _ b.R (Nat.lt_of_le_of_lt b.B b.lt)).mono (by
 rintro e u ⟨x, v, s', rfl, hg, hr, ⟨ho, hlen⟩, hl⟩
 obtain ⟨ao, cap, rfl⟩ := OwQ.len9 ho
 exact k u x ao cap s' (lh hlen) hl ⟨(b.gr hg hr).F, b.S.rdo b.lt b.rb hg ho, b.B, b.fm⟩)
section
variable {β : Type} {T : Res β}
theorem Bd.str {m : M ByteArray} {c : ByteArray → M β} (b : Bd E w (Rr E) φ d w1 s (ls)) (q : Qr T (m >>= c) s) (h : Hid (∀ w s, Rr E w s d → Calls Tryz.prog fn args w (RPost E d w (rn m s) fun x v _ => v = .string x))) (k : ∀ u x s', Bd E w (Rr E) φ d u s' (ls) → Qr T (c x) s' → Q9 (.returned (.string x)) u) : Calls Tryz.prog fn args w1 Q9 := b.any (h.out _ _ b.R) fun u x vv s' b _ hl e => by subst e; exact k u x s' b (q.rd hl)
theorem Bd.un {m : M Unit} {c : Unit → M β} (b : Bd E w (Rr E) φ d w1 s (ls)) (q : Qr T (m >>= c) s) (h : Hid (∀ w s, Rr E w s d → Calls Tryz.prog fn args w (RPost E d w (rn m s) fun _ _ _ => True))) (k : ∀ u x vv s', Bd E w (Rr E) φ d u s' (ls) → Qr T (c x) s' → Q9 (.returned vv) u) : Calls Tryz.prog fn args w1 Q9 := b.any (h.out _ _ b.R) fun u x vv s' b _ hl _ => k u x vv s' b (q.rd hl)
theorem Bd.pth {m : M (ByteArray × Nat)} {c : ByteArray × Nat → M β} (b : Bd E w (Rr E) φ d w1 s (ls)) (q : Qr T (m >>= c) s) (h : Hid (∀ w s, Rr E w s d → Calls Tryz.prog fn args w (RPost E d w (rn m s) fun x v _ => v = .tuple #[.string x.1, .int .i64 (x.2 : Int)]))) (k : ∀ u x s', Rl (rn m s) x s' → Bd E w (Rr E) φ d u s' (ls) → Qr T (c x) s' → Q9 (.returned (.tuple #[.string x.1, .int .i64 (x.2 : Int)])) u) : Calls Tryz.prog fn args w1 Q9 := b.any (h.out _ _ b.R) fun u x vv s' b _ hl e => by subst e; exact k u x s' hl b (q.rd hl)
theorem Bd.nd {m : M Ty} {c : Ty → M β} (b : Bd E w (Rr E) φ d w1 s (ls)) (q : Qr T (m >>= c) s) (h : Hid (∀ w s, Rr E w s d → Calls Tryz.prog fn args w (RPost E d w (rn m s) (NdQ w)))) (k : ∀ u x ao cap s', Rl (rn m s) x s' → Bd E w (Rr E) φ d u s' (.kd x.args ao cap :: ls) → Qr T (c x) s' → Q9 (.returned (.agg #[.int .i64 x.k, .int .i64 x.n, .string x.s, .int .i64 x.q, .slice ao x.args.length cap])) u) : Calls Tryz.prog fn args w1 Q9 := b.ndx h fun u x ao cap s' hl b => k u x ao cap s' hl b (q.rd hl)
theorem Bd.rw {m : M (List Ty)} {c : List Ty → M β} (b : Bd E w (Rr E) φ d w1 s (ls)) (q : Qr T (m >>= c) s) (h : Hid (∀ w s, Rr E w s d → E.B < w.heap.size → Calls Tryz.prog fn args w (RPost E d w (rn m s) (OwB w)))) (k : ∀ u x ao cap s', Hid (x.length ≤ 200000) → Bd E w (Rr E) φ d u s' (.ow (.slice ao x.length cap) x :: ls) → Qr T (c x) s' → Q9 (.returned (.slice ao x.length cap)) u) : Calls Tryz.prog fn args w1 Q9 := b.rwx h fun u x ao cap s' hn hl b => k u x ao cap s' hn b (q.rd hl)
/-- nodes whose kids are a row of the call's own, not too long -/
def NdOB (w : World) (x : Ty) (v : Value) (w' : World) : Prop := NdO w x v w' ∧ x.args.length ≤ 200000
theorem Bd.nb {m : M Ty} {c : Ty → M β} (b : Bd E w (Rr E) φ d w1 s (ls)) (q : Qr T (m >>= c) s) (h : Hid (∀ w s, Rr E w s d → Calls Tryz.prog fn args w (RPost E d w (rn m s) (NdOB w)))) (k : ∀ u x ao cap s', Hid (x.args.length ≤ 200000) → Rl (rn m s) x s' → Bd E w (Rr E) φ d u s' (.ow (.slice ao x.args.length cap) x.args :: ls) → Qr T (c x) s' → Q9 (.returned (.agg #[.int .i64 x.k, .int .i64 x.n, .string x.s, .int .i64 x.q, .slice ao x.args.length cap])) u) : Calls Tryz.prog fn args w1 Q9 := (h.out _ _ b.R).mono (by
 rintro e u ⟨x, v, s', rfl, hg, hr, ⟨⟨ao, cap, rfl, ho⟩, hlen⟩, hl⟩
 exact k u x ao cap s' (lh hlen) hl ⟨(b.gr hg hr).F, b.S.rdo b.lt b.rb hg ho, b.B, b.fm⟩ (q.rd hl))
end
/-- is a sign next? -/
structure BE (E : Env) (w w1 : World) (φ : Nat → World → RS → Prop) (d : Nat) (s : RS) (ls : List At) {β : Type} (T : Res β) (x : Bool) (A C : M β) (sg : ByteArray) : Prop where
 q : Qb T x A C s
 g : x = true → s.k = 0
 c : ∀ Q9 : Ending → World → Prop, (∀ u, (x = true → Bd E w (Rr E) φ d u (stp s) (ls)) → (x = false → Bd E w (Rr E) φ d u s (ls)) → Q9 (.returned (.bool x)) u) → Calls Tryz.prog 153 #[.pointer (some ⟨E.rb, 0, none⟩), .string sg] w1 Q9
section
variable {β : Type} {T : Res β} {A C : M β} {sg : ByteArray}
theorem BE.t (h : BE E w w1 φ d s ls T true A C sg) (k : ∀ u, Bd E w (Rr E) φ d u (stp s) (ls) → Qr T A (stp s) → s.k = 0 → Q9 (.returned (.bool true)) u) : Calls Tryz.prog 153 #[.pointer (some ⟨E.rb, 0, none⟩), .string sg] w1 Q9 := h.c _ fun u b _ => k u (b rfl) h.q.t (h.g rfl)
theorem BE.f (h : BE E w w1 φ d s ls T false A C sg) (k : ∀ u, Bd E w (Rr E) φ d u s (ls) → Qr T C s → Q9 (.returned (.bool false)) u) : Calls Tryz.prog 153 #[.pointer (some ⟨E.rb, 0, none⟩), .string sg] w1 Q9 := h.c _ fun u _ b => k u (b rfl) h.q.f
theorem Bd.eat' (b : Bd E w (Rr E) φ d w1 s (ls)) (q : Qb T (eatb E.P sg s) A C s) : BE E w w1 φ d s ls T (eatb E.P sg s) A C sg :=
 ⟨q, fun e => (eatb_good e).1, fun Q9 k => ((heat E d sg).out _ _ b.R).mono (by
  rintro e u ⟨rfl, hr, hg⟩
  exact k u (fun e => by rw [if_pos e] at hr; exact b.gr hg hr) (fun e => by rw [if_neg (by rw [e]; exact Bool.false_ne_true)] at hr; exact b.gr hg hr))⟩
theorem Bd.eat (b : Bd E w (Rr E) φ d w1 s (ls)) (q : Qr T (fun i => if isD E.P sg i = true then A (i + 1) else C i) s) : ∃ x, BE E w w1 φ d s ls T x A C sg := ⟨_, b.eat' q.eat⟩
theorem Bd.eatd {c : Bool → M β} (b : Bd E w (Rr E) φ d w1 s (ls)) (q : Qr T (eatD E.P sg >>= c) s) : ∃ x, BE E w w1 φ d s ls T x (c true) (c false) sg := ⟨_, b.eat' q.eatd⟩
theorem Bd.eatg (sg : ByteArray) (b : Bd E w (Rr E) φ d w1 s (ls)) (k : ∀ u, Bd E w (Rr E) φ d u (if eatb E.P sg s = true then stp s else s) (ls) → Q9 (.returned (.bool (eatb E.P sg s))) u) : Calls Tryz.prog 153 #[.pointer (some ⟨E.rb, 0, none⟩), .string sg] w1 Q9 := ((heat E d sg).out _ _ b.R).mono (by rintro e u ⟨rfl, hr, hg⟩; exact k u (b.gr hg hr))
end
/-- one deeper, and back -/
theorem Bd.ent (b : Bd E w (Rr E) φ d w1 s (ls)) (hs : s.k = 0) (hl : d < 60) (k : ∀ u, Bd E w (Rr E) φ (d + 1) u s (ls) → Q9 (.returned (.bool true)) u) : Calls Tryz.prog 106 #[.pointer (some ⟨E.rb, 0, none⟩)] w1 Q9 := (renters_any E _ s d (by omega) b.R).mono (by
 rintro e u ⟨h2, h3, h4⟩
 rw [show entS E.P d s = s from if_neg (by omega)] at h2 h3
 rw [decide_eq_true hs] at h2
 subst h2
 exact k u (b.gr h4 h3))
theorem Bd.enb (b : Bd E w (Rr E) φ d w1 s (ls)) (hs : s.k ≠ 0) (hl : d < 60) (k : ∀ u, Bd E w (Rr E) φ (d + 1) u s (ls) → Q9 (.returned (.bool false)) u) : Calls Tryz.prog 106 #[.pointer (some ⟨E.rb, 0, none⟩)] w1 Q9 := (renters_any E _ s d (by omega) b.R).mono (by
 rintro e u ⟨h2, h3, h4⟩
 rw [show entS E.P d s = s from if_neg (by omega)] at h2 h3
 rw [decide_eq_false hs] at h2
 subst h2
 exact k u (b.gr h4 h3))
theorem Bd.eno (b : Bd E w (Rr E) φ d w1 s (ls)) (hd : d ≤ 60) (hl : ¬ d < 60) (k : ∀ u, Bd E w (Rr E) φ (d + 1) u (noS E.P 5 s) (ls) → Q9 (.returned (.bool false)) u) : Calls Tryz.prog 106 #[.pointer (some ⟨E.rb, 0, none⟩)] w1 Q9 := (renters_any E _ s d hd b.R).mono (by
 rintro e u ⟨h2, h3, h4⟩
 rw [show entS E.P d s = noS E.P 5 s from if_pos (by omega)] at h2 h3
 rw [decide_eq_false (b.R.no_bad (by decide))] at h2
 subst h2
 exact k u (b.gr h4 h3))
theorem Bd.lea (b : Bd E w (Rr E) φ (d + 1) w1 s (ls)) (k : ∀ u vv, Bd E w (Rr E) φ d u s (ls) → Q9 (.returned vv) u) : Calls Tryz.prog 108 #[.pointer (some ⟨E.rb, 0, none⟩)] w1 Q9 := (rleaves_any E _ s d b.R).mono (by rintro e u ⟨⟨y, rfl⟩, hr, hg⟩; exact k u y (b.gr hg hr))
end
section
variable {E : Env} {w w1 V : World} {d : Nat} {s : RS} {ls : List At}
theorem Bd.step (b : Br E w d w1 s ls) (hk : 1 ≤ E.P.K s.i) (h : w1.setCell ⟨E.rb, 1, none⟩ (.int .i64 ((s.i : Int) + 1)) = V) : Br E w d V (stp s) ls := by subst h; exact ⟨b.F.step hk, b.S.ss (Nat.le_of_lt b.rb) rfl, b.B, b.fm⟩
/-- the result's cells -/
theorem Bd.cr (b : Br E w d w1 s ls) : w1.cell? ⟨w.heap.size, 0, none⟩ = some (.int .i64 0) ∧ w1.cell? ⟨w.heap.size, 1, none⟩ = some (.int .i64 0) ∧ w1.cell? ⟨w.heap.size, 2, none⟩ = some (.string ⟨#[]⟩) ∧ w1.cell? ⟨w.heap.size, 3, none⟩ = some (.int .i64 0) ∧ w1.cell? ⟨w.heap.size, 4, none⟩ = some (.slice none 0 0) ∧ w1.frozen? ⟨w.heap.size, 0, none⟩ = false ∧ w1.frozen? ⟨w.heap.size, 1, none⟩ = false ∧ w1.frozen? ⟨w.heap.size, 2, none⟩ = false ∧ w1.frozen? ⟨w.heap.size, 3, none⟩ = false ∧ w1.frozen? ⟨w.heap.size, 4, none⟩ = false := by
 have h := b.F.r0
 unfold zeroRow at h
 obtain ⟨⟨c0, c1, c2, c3, c4⟩, ⟨z0, z1, z2, z3, z4⟩⟩ := five_cells h
 exact ⟨c0, c1, c2, c3, c4, z0, z1, z2, z3, z4⟩
/-- the post of a function that leaves a node -/
structure Po9 (fn : Func) (E : Env) (d : Nat) (w : World) (T : Res Ty) (P : Ty → Value → World → Prop) (Q9 : Exit → Act → World → Prop) : Prop where
 eq : bodyPost Tryz.prog fn (RPost E d w T P) = Q9
theorem Po9.ex (fn : Func) (E : Env) (d : Nat) (w : World) (T : Res Ty) (P : Ty → Value → World → Prop) : ∃ Q9, Po9 fn E d w T P Q9 := ⟨_, ⟨rfl⟩⟩
theorem Br.fin (x : Ty) {fn : Func} {tm : Array Value} {Q9 : Exit → Act → World → Prop} {T : Res Ty} {t : Tmp} {ao : Option Addr} {cap : Nat} (b : Br E w d w1 s (.kd x.args ao cap :: ls)) (p : Po9 fn E d w T (NdQ w) Q9) (hT : Rl T x s) (hres : fn.results = #[.cell t 26]) (ht : tm.getD t undef = .pointer (some ⟨w.heap.size, 0, none⟩)) : Q9 .ret ⟨tm, []⟩ (set5 w1 w.heap.size x ao cap) := by
 obtain ⟨X, hk⟩ := b.S.kd
 obtain ⟨f1, f2, f3, f4⟩ := b.F.fin b.B hk
 rw [← p.eq]
 exact bodyPost_ret (res_ty hres ht f1) rfl (RPost.ok f2 hT f4 f3)
theorem Br.fino (x : Ty) {fn : Func} {tm : Array Value} {Q9 : Exit → Act → World → Prop} {T : Res Ty} {t : Tmp} {ao : Option Addr} {cap : Nat} (b : Br E w d w1 s (.ow (.slice ao x.args.length cap) x.args :: ls)) (hl : x.args.length ≤ 200000) (p : Po9 fn E d w T (NdOB w) Q9) (hT : Rl T x s) (hres : fn.results = #[.cell t 26]) (ht : tm.getD t undef = .pointer (some ⟨w.heap.size, 0, none⟩)) : Q9 .ret ⟨tm, []⟩ (set5 w1 w.heap.size x ao cap) := by
 obtain ⟨X, ho⟩ := b.S.ow
 obtain ⟨f1, f2, f3, f4⟩ := b.F.fin b.B (Ow.kd ho).2
 rw [← p.eq]
 exact bodyPost_ret (res_ty hres ht f1) rfl (RPost.ok f2 hT ⟨⟨ao, cap, rfl, ho.fin x ao cap⟩, hl⟩ f3)
end
/-- the post of a function that leaves a slice -/
structure Ps9 (fn : Func) (E : Env) (d : Nat) (w : World) (T : Res (List Ty)) (Q9 : Exit → Act → World → Prop) : Prop where
 eq : bodyPost Tryz.prog fn (RPost E d w T (OwB w)) = Q9
theorem Ps9.ex (fn : Func) (E : Env) (d : Nat) (w : World) (T : Res (List Ty)) : ∃ Q9, Ps9 fn E d w T Q9 := ⟨_, ⟨rfl⟩⟩
theorem Bd.fin {E : Env} {v w w1 : World} {d : Nat} {s : RS} {ls : List At} {T : Res (List Ty)} {v9 : Value} {l : List Ty} (b : Bs E v w d w1 s (.ow v9 l :: ls)) (hT : Rl T l s) (hl : l.length ≤ 200000) : RPost E d v T (OwB v) (.returned v9) w1 := by
 obtain ⟨X, hk⟩ := b.S.ow
 exact RPost.ok b.F.G hT ⟨hk.q b.F.vw, hl⟩ b.F.R
/-- a list with signs between: behind its first, behind each other -/
theorem sep_first {β : Type} {P : Src} {item : M Ty} {sg : ByteArray} {K : List Ty → M β} {T : Res β} {s s1 : RS} {x : Ty} (q : Qr T (rowD P item sg >>= K) s) (hr : Rl (rn item s) x s1) (hst : ∀ i x j, item i = .ok x j → i + 1 ≤ j) (hle : s1.i ≤ P.toks.length) : ∃ f, SepAt P item sg K T [x] (eatb P sg s1) (if eatb P sg s1 = true then stp s1 else s1) f := by
 obtain ⟨r1, r2, r3⟩ := row_first q.eq hr hst
 exact sep_head r1 r2 hle r3
theorem SepAt.next {β : Type} {P : Src} {item : M Ty} {sg : ByteArray} {K : List Ty → M β} {T : Res β} {l : List Ty} {s s1 : RS} {f : Nat} {x : Ty} (h : SepAt P item sg K T l true s f) (hr : Rl (rn item s) x s1) (hst : ∀ i x j, item i = .ok x j → i + 1 ≤ j) (hle : s1.i ≤ P.toks.length) : (∃ f, SepAt P item sg K T (l ++ [x]) (eatb P sg s1) (if eatb P sg s1 = true then stp s1 else s1) f) ∧ (s1.k = 0 → s.i + 1 ≤ s1.i) := by
 obtain ⟨r1, r2, r3, r4⟩ := h.item hr hst
 exact ⟨sep_head r1 r2 hle r3, r4⟩
theorem SepAt.end {β : Type} {P : Src} {item : M Ty} {sg : ByteArray} {K : List Ty → M β} {T : Res β} {l : List Ty} {s : RS} {f : Nat} (h : SepAt P item sg K T l false s f) : Qr T (K l) s := ⟨h.done⟩
theorem SepAt.le {β : Type} {P : Src} {item : M Ty} {sg : ByteArray} {K : List Ty → M β} {T : Res β} {l : List Ty} {s : RS} {f : Nat} {E : Env} {w : World} {d : Nat} (h : SepAt P item sg K T l true s f) (hr : Rr E w s d) : s.k = 0 ∧ l.length ≤ 100000 := by
 have h0 := h.go rfl
 have h1 := (h.fl h0).2
 have h2 := hr.le
 have h3 := hr.ok.len
 exact ⟨h0, by omega⟩
end Go.Proofs.YthehjeeiodbkjaaGreatDoor
