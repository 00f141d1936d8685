/-
  Proved: Proved: what the reader computes, in plain Lean: trees, places, faults. No condition.; Proved: in which lists of words and signs the words and signs stand. No condition.; Proved: whatever is read lies behind the place where it began: every thing read takes at least one token. No condition.. Conditions: .
-/
import Derived.Test.YthehjeeiodbkjaaGreatDoorE01
import Derived.Test.YthehjeeiodbkjaaGreatDoorE02
set_option linter.unusedSimpArgs false
set_option linter.unusedVariables false
set_option linter.unusedSectionVars false
set_option maxRecDepth 100000
set_option maxHeartbeats 16000000
namespace Go.Proofs.YthehjeeiodbkjaaGreatDoor
open Go.RowKit
abbrev w_and : ByteArray := ⟨#[97, 110, 100]⟩
abbrev w_andalso : ByteArray := ⟨#[97, 110, 100, 97, 108, 115, 111]⟩
abbrev w_as : ByteArray := ⟨#[97, 115]⟩
abbrev w_case : ByteArray := ⟨#[99, 97, 115, 101]⟩
abbrev w_data : ByteArray := ⟨#[100, 97, 116, 97]⟩
abbrev w_else : ByteArray := ⟨#[101, 108, 115, 101]⟩
abbrev w_end : ByteArray := ⟨#[101, 110, 100]⟩
abbrev w_exception : ByteArray := ⟨#[101, 120, 99, 101, 112, 116, 105, 111, 110]⟩
abbrev w_false : ByteArray := ⟨#[102, 97, 108, 115, 101]⟩
abbrev w_fn : ByteArray := ⟨#[102, 110]⟩
abbrev w_fun : ByteArray := ⟨#[102, 117, 110]⟩
abbrev w_if : ByteArray := ⟨#[105, 102]⟩
abbrev w_in : ByteArray := ⟨#[105, 110]⟩
abbrev w_let : ByteArray := ⟨#[108, 101, 116]⟩
abbrev w_of : ByteArray := ⟨#[111, 102]⟩
abbrev w_open : ByteArray := ⟨#[111, 112, 101, 110]⟩
abbrev w_orelse : ByteArray := ⟨#[111, 114, 101, 108, 115, 101]⟩
abbrev w_raise : ByteArray := ⟨#[114, 97, 105, 115, 101]⟩
abbrev w_sig : ByteArray := ⟨#[115, 105, 103]⟩
abbrev w_signature : ByteArray := ⟨#[115, 105, 103, 110, 97, 116, 117, 114, 101]⟩
abbrev w_struct : ByteArray := ⟨#[115, 116, 114, 117, 99, 116]⟩
abbrev w_structure : ByteArray := ⟨#[115, 116, 114, 117, 99, 116, 117, 114, 101]⟩
abbrev w_then : ByteArray := ⟨#[116, 104, 101, 110]⟩
abbrev w_true : ByteArray := ⟨#[116, 114, 117, 101]⟩
abbrev w_try : ByteArray := ⟨#[116, 114, 121]⟩
abbrev w_type : ByteArray := ⟨#[116, 121, 112, 101]⟩
abbrev w_val : ByteArray := ⟨#[118, 97, 108]⟩
abbrev w_with : ByteArray := ⟨#[119, 105, 116, 104]⟩
abbrev s_lp : ByteArray := ⟨#[40]⟩
abbrev s_rp : ByteArray := ⟨#[41]⟩
abbrev s_lb : ByteArray := ⟨#[91]⟩
abbrev s_rb : ByteArray := ⟨#[93]⟩
abbrev s_com : ByteArray := ⟨#[44]⟩
abbrev s_sem : ByteArray := ⟨#[59]⟩
abbrev s_col : ByteArray := ⟨#[58]⟩
abbrev s_bar : ByteArray := ⟨#[124]⟩
abbrev s_eq : ByteArray := ⟨#[61]⟩
abbrev s_lt : ByteArray := ⟨#[60]⟩
abbrev s_gt : ByteArray := ⟨#[62]⟩
abbrev s_pl : ByteArray := ⟨#[43]⟩
abbrev s_mi : ByteArray := ⟨#[45]⟩
abbrev s_st : ByteArray := ⟨#[42]⟩
abbrev s_sl : ByteArray := ⟨#[47]⟩
abbrev s_pc : ByteArray := ⟨#[37]⟩
abbrev s_ca : ByteArray := ⟨#[94]⟩
abbrev s_ti : ByteArray := ⟨#[126]⟩
abbrev s_ex : ByteArray := ⟨#[33]⟩
abbrev s_dot : ByteArray := ⟨#[46]⟩
abbrev s_arr : ByteArray := ⟨#[61, 62]⟩
abbrev s_to : ByteArray := ⟨#[45, 62]⟩
abbrev s_asg : ByteArray := ⟨#[58, 61]⟩
abbrev s_cons : ByteArray := ⟨#[58, 58]⟩
abbrev s_opq : ByteArray := ⟨#[58, 62]⟩
abbrev s_ne : ByteArray := ⟨#[60, 62]⟩
abbrev s_le : ByteArray := ⟨#[60, 61]⟩
abbrev s_ge : ByteArray := ⟨#[62, 61]⟩
abbrev s_us : ByteArray := ⟨#[95]⟩
/-- all words, all signs -/
def wordsA : List ByteArray := [w_and, w_andalso, w_as, w_case, w_data, w_else, w_end, w_exception, w_false, w_fn, w_fun, w_if, w_in, w_let, w_of, w_open, w_orelse, w_raise, w_sig, w_signature, w_struct, w_structure, w_then, w_true, w_try, w_type, w_val, w_with]
def signsA : List ByteArray := [s_lp, s_rp, s_lb, s_rb, s_com, s_sem, s_col, s_bar, s_eq, s_lt, s_gt, s_pl, s_mi, s_st, s_sl, s_pc, s_ca, s_ti, s_ex, s_dot, s_arr, s_to, s_asg, s_cons, s_opq, s_ne, s_le, s_ge, s_us]
/-- a text's tokens; the fault behind them -/
structure Src where
 toks : List Tok
 fk : Nat
 fa : Nat
namespace Src
/-- the next token's kind; -1: there is none -/
def K (P : Src) (i : Nat) : Int := match P.toks[i]? with
 | some t => (t.1 : Int)
 | none => -1
def A (P : Src) (i : Nat) : Nat := match P.toks[i]? with
 | some t => t.2.1
 | none => P.fa
def T (P : Src) (i : Nat) : ByteArray := match P.toks[i]? with
 | some t => t.2.2.1
 | none => ⟨#[]⟩
def N (P : Src) (i : Nat) : Nat := match P.toks[i]? with
 | some t => t.2.2.2
 | none => 0
end Src
/-- a thing read, and the place behind it; or a fault -/
inductive Res (α : Type) where
 | bad (k a : Nat)
 | ok (x : α) (i : Nat)
abbrev M (α : Type) := Nat → Res α
def ret {α : Type} (x : α) : M α := fun i => .ok x i
def bnd {α β : Type} (m : M α) (g : α → M β) : M β := fun i => match m i with
 | .bad k a => .bad k a
 | .ok x j => g x j
instance : Monad M where
 pure := ret
 bind := bnd
theorem bind_ok {α β : Type} {m : M α} {g : α → M β} {i j : Nat} {x : α} (h : m i = .ok x j) : (m >>= g) i = g x j := by show bnd m g i = _; rw [bnd, h]
theorem bind_bad {α β : Type} {m : M α} {g : α → M β} {i k a : Nat} (h : m i = .bad k a) : (m >>= g) i = .bad k a := by show bnd m g i = _; rw [bnd, h]
section
variable (P : Src)
/-- what is told where a text cannot go on -/
def failD {α : Type} (e : Nat) : M α := fun i => if P.K i = -1 then .bad P.fk P.fa else .bad e (P.A i)
/-- is the next token this sign or word? -/
def isD (s : ByteArray) (i : Nat) : Bool := decide (P.K i = 6 ∨ P.K i = 7) && decide (P.T i = s)
/-- is it one of these? -/
def oneD (l : List ByteArray) (i : Nat) : Bool := decide (P.K i = 6 ∨ P.K i = 7) && l.any fun s => decide (P.T i = s)
def eatD (s : ByteArray) : M Bool := fun i => if isD P s i then .ok true (i + 1) else .ok false i
def mustD (s : ByteArray) : M Unit := fun i => if isD P s i then .ok () (i + 1) else failD P 4 i
def kindD (k : Int) : M ByteArray := fun i => if P.K i = k then .ok (P.T i) (i + 1) else failD P 4 i
/-- names with dots between; the kind of the last one -/
def pathL (last : Nat) : Nat → ByteArray → M (ByteArray × Nat)
 | 0, _ => failD P 4
 | f + 1, s => fun i =>
  if P.K i = 3 ∧ last ≠ 4 then .ok (s ++ P.T i, 3) (i + 1)
  else if P.K i ≠ 4 then failD P 4 i
  else if isD P s_dot (i + 1) then pathL last f (s ++ P.T i ++ s_dot) (i + 2)
  else if last = 3 then failD P 4 (i + 1) else .ok (s ++ P.T i, 4) (i + 1)
def pathD (last : Nat) : M (ByteArray × Nat) := pathL P last (P.toks.length + 1) ⟨#[]⟩
/-- things, as long as one begins -/
def manyL {α : Type} (c : Nat → Bool) (item : M α) : Nat → List α → M (List α)
 | 0, acc => ret acc
 | f + 1, acc => fun i => if c i then (item >>= fun x => manyL c item f (acc ++ [x])) i else .ok acc i
/-- things with a sign between, behind those of a list -/
def sepL {α : Type} (item : M α) (s : ByteArray) : Nat → List α → M (List α)
 | 0, acc => ret acc
 | f + 1, acc => fun i => if isD P s i then (item >>= fun x => sepL item s f (acc ++ [x])) (i + 1) else .ok acc i
def rowD {α : Type} (item : M α) (s : ByteArray) : M (List α) := do
 let x ← item
 sepL P item s (P.toks.length + 1) [x]
inductive NT where
 | exp | pat | typ | dec | sig
/-- what is read one deeper -/
structure Rec where
 go : NT → M Ty
 deep : M Ty
variable (R : Rec)
/-- may a pattern without signs begin here? -/
def begunB (i : Nat) : Bool := decide (1 ≤ P.K i ∧ P.K i ≤ 4) || oneD P [s_lp, s_lb, s_ti, s_us, w_true, w_false] i
def beginsB (i : Nat) : Bool := decide (1 ≤ P.K i ∧ P.K i ≤ 4) || oneD P [s_lp, s_lb, s_ti, s_ex, w_let, w_case, w_try, w_true, w_false] i
/-- types -/
def appL (a : Nat) : Nat → List Ty → M Ty
 | 0, _ => failD P 4
 | f + 1, l => fun i => if l.length ≠ 1 ∨ P.K i = 3 ∨ P.K i = 4 then (pathD P 3 >>= fun p => appL a f [.mk 31 a p.1 0 l]) i else .ok (l.headD default) i
def appliedB : M Ty := fun i =>
 if P.K i = 5 then appL P (P.A i) (P.toks.length + 1) [.mk 30 (P.A i) (P.T i) 0 []] (i + 1)
 else if isD P s_lp i then (do
  let l ← rowD P (R.go .typ) s_com
  mustD P s_rp
  appL P (P.A i) (P.toks.length + 1) l : M Ty) (i + 1)
 else appL P (P.A i) (P.toks.length + 1) [] i
def arrowB : M Ty := do
 let l ← rowD P (appliedB P R) s_st
 let n : Ty := if l.length > 1 then .mk 32 (l.headD default).n ⟨#[]⟩ 0 l else l.headD default
 let t ← eatD P s_to
 if t then do
  let r ← R.go .typ
  return .mk 33 n.n ⟨#[]⟩ 0 [n, r]
 else return n
/-- patterns -/
def roundPatB (a : Nat) : M Ty := fun i =>
 if isD P s_rp i then .ok (.mk 25 a ⟨#[]⟩ 0 []) (i + 1)
 else if P.K i = 3 ∧ P.K (i + 1) = 6 ∧ P.T (i + 1) = w_as then (do
  let p ← R.go .pat
  mustD P s_rp
  return .mk 28 a (P.T i) 0 [p] : M Ty) (i + 2)
 else (do
  let p ← R.go .pat
  let c ← eatD P s_com
  if c then do
   let l ← rowD P (R.go .pat) s_com
   mustD P s_rp
   return .mk 25 a ⟨#[]⟩ 0 (p :: l)
  else do
   let h ← eatD P s_col
   if h then do
    let t ← R.go .typ
    mustD P s_rp
    return .mk 29 a ⟨#[]⟩ 0 [p, t]
   else do
    mustD P s_rp
    return p : M Ty) i
def apatB : M Ty := fun i =>
 if isD P s_us i then .ok (.mk 20 (P.A i) ⟨#[]⟩ 0 []) (i + 1)
 else if P.K i = 3 then .ok (.mk 21 (P.A i) (P.T i) 0 []) (i + 1)
 else if P.K i = 1 then .ok (.mk 22 (P.A i) ⟨#[]⟩ (P.N i) []) (i + 1)
 else if isD P s_ti i then (if P.K (i + 1) = 1 then .ok (.mk 22 (P.A i) ⟨#[]⟩ (-(P.N (i + 1) : Int)) []) (i + 2) else failD P 4 (i + 1))
 else if P.K i = 2 then .ok (.mk 23 (P.A i) (P.T i) 0 []) (i + 1)
 else if P.K i = 4 then (pathD P 4 >>= fun p => ret (.mk 24 (P.A i) p.1 0 [])) i
 else if isD P w_true i ∨ isD P w_false i then .ok (.mk 24 (P.A i) (P.T i) 0 []) (i + 1)
 else if isD P s_lb i then (do
  let e ← eatD P s_rb
  if e then return .mk 26 (P.A i) ⟨#[]⟩ 0 []
  else do
   let l ← rowD P (R.go .pat) s_com
   mustD P s_rb
   return .mk 26 (P.A i) ⟨#[]⟩ 0 l : M Ty) (i + 1)
 else if isD P s_lp i then roundPatB P R (P.A i) (i + 1)
 else failD P 4 i
def cpatB : M Ty := fun i => (do
 let n ← apatB P R
 fun j => if P.K i = 4 ∧ begunB P j = true then (apatB P R >>= fun p => ret (.mk n.k n.n n.s n.q [p])) j else .ok n j : M Ty) i
/-- patterns with :: between -/
def consesD : List Ty → Ty
 | [] => default
 | [p] => p
 | p :: q :: r => .mk 27 p.n ⟨#[]⟩ 0 [p, consesD (q :: r)]
def patB : M Ty := do
 let l ← rowD P (cpatB P R) s_cons
 return consesD l
/-- declarations -/
def startsL (where' : Nat) : List ByteArray :=
 if where' = 0 then [w_val, w_fun, w_type, w_data, w_exception, w_structure, w_open, w_signature]
 else if where' = 1 then [w_val, w_fun, w_type, w_data, w_exception, w_structure, w_open]
 else [w_val, w_fun, w_exception, w_open]
def decsB (where' : Nat) : M (List Ty) := manyL (oneD P (startsL where')) (R.go .dec) (P.toks.length + 1) []
def conB : M Ty := fun i => (do
 let s ← kindD P 4
 let o ← eatD P w_of
 if o then do
  let t ← R.go .typ
  return .mk 40 (P.A i) s 0 [t]
 else return .mk 40 (P.A i) s 0 [] : M Ty) i
def oneB : M Ty := fun i => (do
 let s ← kindD P 5
 return .mk 30 (P.A i) s 0 [] : M Ty) i
def headB (k : Int) (a : Nat) : M Ty := fun i =>
 if P.K i = 5 then (do
  let v ← oneB P
  let s ← kindD P 3
  return .mk k a s 1 [v] : M Ty) i
 else if isD P s_lp i then (do
  let l ← rowD P (oneB P) s_com
  mustD P s_rp
  let s ← kindD P 3
  return .mk k a s l.length l : M Ty) (i + 1)
 else (do
  let s ← kindD P 3
  return .mk k a s 0 [] : M Ty) i
def dbindB : M Ty := fun i => (do
 let n ← headB P 39 (P.A i)
 mustD P s_eq
 let l ← rowD P (conB P R) s_bar
 return .mk n.k n.n n.s n.q (n.args ++ l) : M Ty) i
def dataB (a : Nat) : M Ty := do
 let l ← rowD P (dbindB P R) w_and
 return .mk 38 a ⟨#[]⟩ 0 l
def fbindB : M Ty := fun i => (do
 let s ← kindD P 3
 let p ← apatB P R
 let l ← manyL (begunB P) (apatB P R) (P.toks.length + 1) [p]
 let c ← eatD P s_col
 if c then do
  let t ← R.go .typ
  mustD P s_eq
  let e ← R.deep
  return .mk 36 (P.A i) s 0 (l ++ [.mk 19 e.n ⟨#[]⟩ 0 [e, t]])
 else do
  mustD P s_eq
  let e ← R.go .exp
  return .mk 36 (P.A i) s 0 (l ++ [e]) : M Ty) i
def bodyB : M Ty := fun i =>
 if isD P w_struct i then (do
  let l ← decsB P R 1
  mustD P w_end
  return .mk 45 (P.A i) ⟨#[]⟩ 0 l : M Ty) (i + 1)
 else (pathD P 4 >>= fun p => ret (.mk 46 (P.A i) p.1 0 [])) i
/-- a signature behind a sign -/
def annB : M (Int × List Ty) := fun i =>
 if isD P s_col i then (R.go .sig >>= fun g => ret (1, [g])) (i + 1)
 else if isD P s_opq i then (R.go .sig >>= fun g => ret (2, [g])) (i + 1)
 else .ok (0, []) i
def structureB (a : Nat) : M Ty := do
 let s ← kindD P 4
 let g ← annB P R
 mustD P s_eq
 let b ← bodyB P R
 return .mk 42 a s g.1 (g.2 ++ [b])
def decB : M Ty := fun i =>
 if P.T i = w_val then (do
  let p ← R.go .pat
  mustD P s_eq
  let e ← R.go .exp
  return .mk 34 (P.A i) ⟨#[]⟩ 0 [p, e] : M Ty) (i + 1)
 else if P.T i = w_fun then (do
  let l ← rowD P (fbindB P R) w_and
  return .mk 35 (P.A i) ⟨#[]⟩ 0 l : M Ty) (i + 1)
 else if P.T i = w_type then (do
  let n ← headB P 37 (P.A i)
  mustD P s_eq
  let t ← R.go .typ
  return .mk n.k n.n n.s n.q (n.args ++ [t]) : M Ty) (i + 1)
 else if P.T i = w_data then dataB P R (P.A i) (i + 1)
 else if P.T i = w_exception then (do
  let c ← conB P R
  return .mk 41 (P.A i) c.s c.q c.args : M Ty) (i + 1)
 else if P.T i = w_structure then structureB P R (P.A i) (i + 1)
 else if P.T i = w_signature then (do
  let s ← kindD P 4
  mustD P s_eq
  let g ← R.go .sig
  return .mk 43 (P.A i) s 0 [g] : M Ty) (i + 1)
 else (do
  let p ← pathD P 4
  return .mk 44 (P.A i) p.1 0 [] : M Ty) (i + 1)
def specB : M Ty := fun i =>
 if isD P w_val i then (do
  let s ← kindD P 3
  mustD P s_col
  let t ← R.go .typ
  return .mk 49 (P.A i) s 0 [t] : M Ty) (i + 1)
 else if isD P w_type i then (do
  let n ← headB P 50 (P.A i)
  let e ← eatD P s_eq
  if e then do
   let t ← R.go .typ
   return .mk n.k n.n n.s n.q (n.args ++ [t])
  else return n : M Ty) (i + 1)
 else if isD P w_data i then dataB P R (P.A i) (i + 1)
 else if isD P w_exception i then (do
  let c ← conB P R
  return .mk 41 (P.A i) c.s c.q c.args : M Ty) (i + 1)
 else if isD P w_structure i then (do
  let s ← kindD P 4
  mustD P s_col
  let g ← R.go .sig
  return .mk 51 (P.A i) s 0 [g] : M Ty) (i + 1)
 else failD P 4 i
/-- specifications up to end -/
def specsL : Nat → List Ty → M (List Ty)
 | 0, acc => ret acc
 | f + 1, acc => fun i => if isD P w_end i then .ok acc (i + 1) else (specB P R >>= fun x => specsL f (acc ++ [x])) i
def sigsB : M Ty := fun i =>
 if isD P w_sig i then (do
  let l ← specsL P R (P.toks.length + 1) []
  return .mk 47 (P.A i) ⟨#[]⟩ 0 l : M Ty) (i + 1)
 else (do
  let s ← kindD P 4
  return .mk 48 (P.A i) s 0 [] : M Ty) i
/-- expressions -/
def ruleB : M Ty := do
 let p ← R.go .pat
 mustD P s_arr
 let e ← R.go .exp
 return .mk 12 p.n ⟨#[]⟩ 0 [p, e]
def rulesB (k : Int) (a : Nat) (w : ByteArray) : M Ty := do
 let e ← R.go .exp
 mustD P w
 let l ← rowD P (ruleB P R) s_bar
 mustD P w_end
 return .mk k a ⟨#[]⟩ 0 (e :: l)
def roundB (a : Nat) : M Ty := fun i =>
 if isD P s_rp i then .ok (.mk 5 a ⟨#[]⟩ 0 []) (i + 1)
 else (do
  let n ← R.go .exp
  let c ← eatD P s_com
  if c then do
   let l ← rowD P (R.go .exp) s_com
   mustD P s_rp
   return .mk 5 a ⟨#[]⟩ 0 (n :: l)
  else do
   let m ← eatD P s_sem
   if m then do
    let l ← rowD P (R.go .exp) s_sem
    mustD P s_rp
    return .mk 15 a ⟨#[]⟩ 0 (n :: l)
   else do
    let h ← eatD P s_col
    if h then do
     let t ← R.go .typ
     mustD P s_rp
     return .mk 19 a ⟨#[]⟩ 0 [n, t]
    else do
     mustD P s_rp
     return n : M Ty) i
def atomB : M Ty := fun i =>
 if P.K i = 1 then .ok (.mk 1 (P.A i) ⟨#[]⟩ (P.N i) []) (i + 1)
 else if P.K i = 2 then .ok (.mk 2 (P.A i) (P.T i) 0 []) (i + 1)
 else if P.K i = 3 ∨ P.K i = 4 then (pathD P 0 >>= fun p => ret (.mk (if p.2 = 3 then 3 else 4) (P.A i) p.1 0 [])) i
 else if isD P w_true i ∨ isD P w_false i then .ok (.mk 4 (P.A i) (P.T i) 0 []) (i + 1)
 else if isD P s_lp i then roundB P R (P.A i) (i + 1)
 else if isD P s_lb i then (do
  let e ← eatD P s_rb
  if e then return .mk 6 (P.A i) ⟨#[]⟩ 0 []
  else do
   let l ← rowD P (R.go .exp) s_com
   mustD P s_rb
   return .mk 6 (P.A i) ⟨#[]⟩ 0 l : M Ty) (i + 1)
 else if isD P w_let i then (do
  let l ← decsB P R 2
  mustD P w_in
  let e ← R.go .exp
  mustD P w_end
  return .mk 14 (P.A i) ⟨#[]⟩ l.length (l ++ [e]) : M Ty) (i + 1)
 else if isD P w_case i then rulesB P R 10 (P.A i) w_of (i + 1)
 else if isD P w_try i then rulesB P R 11 (P.A i) w_with (i + 1)
 else failD P 4 i
/-- an operand, signs ahead of it -/
def prefixL : Nat → M Ty
 | 0 => failD P 4
 | f + 1 => fun i => if isD P s_ti i ∨ isD P s_ex i then (prefixL f >>= fun n => ret (.mk 18 (P.A i) (P.T i) 0 [n])) (i + 1) else atomB P R i
def prefixB : M Ty := prefixL P R (P.toks.length + 1)
def applyL : Nat → Ty → M Ty
 | 0, n => ret n
 | f + 1, n => fun i => if beginsB P i then (prefixB P R >>= fun b => applyL f (.mk 8 n.n ⟨#[]⟩ 0 [n, b])) i else .ok n i
def applyB : M Ty := do
 let n ← prefixB P R
 applyL P R (P.toks.length + 1) n
/-- the signs of a level -/
def lvL (k : Nat) : List ByteArray :=
 if k = 7 then [s_asg] else if k = 6 then [w_orelse] else if k = 5 then [w_andalso]
 else if k = 4 then [s_eq, s_ne, s_lt, s_le, s_gt, s_ge] else if k = 3 then [s_cons] else if k = 2 then [s_pl, s_mi, s_ca] else [s_st, s_sl, s_pc]
def neverB (k : Nat) : Bool := decide (k = 7 ∨ k = 4)
def joinD (s : ByteArray) (a b : Ty) : Ty :=
 if s = w_andalso then .mk 16 a.n ⟨#[]⟩ 0 [a, b] else if s = w_orelse then .mk 17 a.n ⟨#[]⟩ 0 [a, b] else .mk 18 a.n s 0 [a, b]
/-- signs and operands behind the first one -/
def colL (k : Nat) (item : M Ty) : Nat → List (ByteArray × Ty) → M (List (ByteArray × Ty))
 | 0, acc => ret acc
 | f + 1, acc => fun i => if (acc.length = 0 ∨ neverB k = false) ∧ oneD P (lvL k) i = true then (item >>= fun x => colL k item f (acc ++ [(P.T i, x)])) (i + 1) else .ok acc i
def foldR : Ty → List (ByteArray × Ty) → Ty
 | a, [] => a
 | a, (s, b) :: r => joinD s a (foldR b r)
def foldLd (a : Ty) (l : List (ByteArray × Ty)) : Ty := l.foldl (fun a p => joinD p.1 a p.2) a
def betB : Nat → M Ty
 | 0 => applyB P R
 | k + 1 => do
  let a ← betB k
  let l ← colL P (k + 1) (betB k) (P.toks.length + 1) []
  return if k + 1 = 3 then foldR a l else foldLd a l
def openB : M Ty := fun i =>
 if isD P w_fn i then (do
  let p ← apatB P R
  mustD P s_arr
  let e ← R.go .exp
  return .mk 7 (P.A i) ⟨#[]⟩ 0 [p, e] : M Ty) (i + 1)
 else if isD P w_if i then (do
  let a ← R.go .exp
  mustD P w_then
  let b ← R.go .exp
  mustD P w_else
  let c ← R.go .exp
  return .mk 9 (P.A i) ⟨#[]⟩ 0 [a, b, c] : M Ty) (i + 1)
 else if isD P w_raise i then (do
  let e ← R.go .exp
  return .mk 13 (P.A i) ⟨#[]⟩ 0 [e] : M Ty) (i + 1)
 else betB P R 7 i
def stepB : NT → M Ty
 | .exp => openB P R
 | .pat => patB P R
 | .typ => arrowB P R
 | .dec => decB P R
 | .sig => sigsB P R
end
/-- what is read with so many levels left -/
def readS (P : Src) : Nat → NT → M Ty
 | 0, _ => failD P 5
 | g + 1, nt => stepB P ⟨readS P g, match g with
  | 0 => failD P 5
  | g' + 1 => readS P g' .exp⟩ nt
def recS (P : Src) (g : Nat) : Rec := ⟨readS P g, match g with
 | 0 => failD P 5
 | g' + 1 => readS P g' .exp⟩
theorem readS_succ (P : Src) (g : Nat) (nt : NT) : readS P (g + 1) nt = stepB P (recS P g) nt := by cases g <;> rfl
/-- a whole text, by one of the four -/
def wholeD (P : Src) (m : M Ty) : Res Ty := match m 0 with
 | .bad k a => .bad k a
 | .ok n j => if P.K j = 0 then .ok n j else failD P 4 j
/-- does a word, a blank ahead of it and one behind, stand in a list at a place? -/
def hitB (l w : ByteArray) (i : Nat) : Bool := decide (i + w.size + 2 ≤ l.size) && decide (l.extract i (i + w.size + 2) = ⟨#[32]⟩ ++ w ++ ⟨#[32]⟩)
def hasB (l w : ByteArray) : Bool := (List.range l.size).any (hitB l w)
def anyB (l : List ByteArray) (x : ByteArray) : Bool := l.any fun s => decide (x = s)
def nineB : List ByteArray := [s_lp, s_lb, s_ti, s_ex, w_let, w_case, w_try, w_true, w_false]
def sixB : List ByteArray := [s_lp, s_lb, s_ti, s_us, w_true, w_false]
abbrev t_lv0 : ByteArray := ⟨#[32, 58, 61, 32]⟩
abbrev t_lv1 : ByteArray := ⟨#[32, 111, 114, 101, 108, 115, 101, 32]⟩
abbrev t_lv2 : ByteArray := ⟨#[32, 97, 110, 100, 97, 108, 115, 111, 32]⟩
abbrev t_lv3 : ByteArray := ⟨#[32, 61, 32, 60, 62, 32, 60, 32, 60, 61, 32, 62, 32, 62, 61, 32]⟩
abbrev t_lv4 : ByteArray := ⟨#[32, 58, 58, 32]⟩
abbrev t_lv5 : ByteArray := ⟨#[32, 43, 32, 45, 32, 94, 32]⟩
abbrev t_lv6 : ByteArray := ⟨#[32, 42, 32, 47, 32, 37, 32]⟩
abbrev t_bg0 : ByteArray := ⟨#[32, 118, 97, 108, 32, 102, 117, 110, 32, 116, 121, 112, 101, 32, 100, 97, 116, 97, 32, 101, 120, 99, 101, 112, 116, 105, 111, 110, 32, 115, 116, 114, 117, 99, 116, 117, 114, 101, 32, 111, 112, 101, 110, 32, 115, 105, 103, 110, 97, 116, 117, 114, 101, 32]⟩
abbrev t_bg1 : ByteArray := ⟨#[32, 118, 97, 108, 32, 102, 117, 110, 32, 116, 121, 112, 101, 32, 100, 97, 116, 97, 32, 101, 120, 99, 101, 112, 116, 105, 111, 110, 32, 115, 116, 114, 117, 99, 116, 117, 114, 101, 32, 111, 112, 101, 110, 32]⟩
abbrev t_bg2 : ByteArray := ⟨#[32, 118, 97, 108, 32, 102, 117, 110, 32, 101, 120, 99, 101, 112, 116, 105, 111, 110, 32, 111, 112, 101, 110, 32]⟩
abbrev t_be7 : ByteArray := ⟨#[32, 40, 32, 91, 32, 126, 32, 33, 32]⟩
abbrev t_be6 : ByteArray := ⟨#[32, 108, 101, 116, 32, 99, 97, 115, 101, 32, 116, 114, 121, 32, 116, 114, 117, 101, 32, 102, 97, 108, 115, 101, 32]⟩
abbrev t_bp7 : ByteArray := ⟨#[32, 40, 32, 91, 32, 126, 32, 95, 32]⟩
abbrev t_bp6 : ByteArray := ⟨#[32, 116, 114, 117, 101, 32, 102, 97, 108, 115, 101, 32]⟩
theorem has_lv0 : ∀ x ∈ wordsA ++ signsA, hasB t_lv0 x = anyB (lvL 7) x := by decide +kernel
theorem has_lv1 : ∀ x ∈ wordsA ++ signsA, hasB t_lv1 x = anyB (lvL 6) x := by decide +kernel
theorem has_lv2 : ∀ x ∈ wordsA ++ signsA, hasB t_lv2 x = anyB (lvL 5) x := by decide +kernel
theorem has_lv3 : ∀ x ∈ wordsA ++ signsA, hasB t_lv3 x = anyB (lvL 4) x := by decide +kernel
theorem has_lv4 : ∀ x ∈ wordsA ++ signsA, hasB t_lv4 x = anyB (lvL 3) x := by decide +kernel
theorem has_lv5 : ∀ x ∈ wordsA ++ signsA, hasB t_lv5 x = anyB (lvL 2) x := by decide +kernel
theorem has_lv6 : ∀ x ∈ wordsA ++ signsA, hasB t_lv6 x = anyB (lvL 1) x := by decide +kernel
theorem has_bg0 : ∀ x ∈ wordsA, hasB t_bg0 x = anyB (startsL 0) x := by decide +kernel
theorem not_bg0 : ∀ x ∈ signsA, anyB (startsL 0) x = false := by decide +kernel
theorem has_bg1 : ∀ x ∈ wordsA, hasB t_bg1 x = anyB (startsL 1) x := by decide +kernel
theorem not_bg1 : ∀ x ∈ signsA, anyB (startsL 1) x = false := by decide +kernel
theorem has_bg2 : ∀ x ∈ wordsA, hasB t_bg2 x = anyB (startsL 2) x := by decide +kernel
theorem not_bg2 : ∀ x ∈ signsA, anyB (startsL 2) x = false := by decide +kernel
theorem has_be7 : ∀ x ∈ signsA, hasB t_be7 x = anyB nineB x := by decide +kernel
theorem has_be6 : ∀ x ∈ wordsA, hasB t_be6 x = anyB nineB x := by decide +kernel
theorem has_bp7 : ∀ x ∈ signsA, hasB t_bp7 x = anyB sixB x := by decide +kernel
theorem has_bp6 : ∀ x ∈ wordsA, hasB t_bp6 x = anyB sixB x := by decide +kernel
/-- the lists of the levels, as the program has them -/
def lvT (j : Nat) : ByteArray := if j = 0 then t_lv0 else if j = 1 then t_lv1 else if j = 2 then t_lv2 else if j = 3 then t_lv3 else if j = 4 then t_lv4 else if j = 5 then t_lv5 else t_lv6
def bgT (j : Nat) : ByteArray := if j = 0 then t_bg0 else if j = 1 then t_bg1 else t_bg2
def sideT (j : Nat) : Int := if j = 4 then 2 else if j = 0 ∨ j = 3 then 0 else 1
theorem has_lv {j : Nat} (hj : j < 7) : ∀ x ∈ wordsA ++ signsA, hasB (lvT j) x = anyB (lvL (7 - j)) x := by
 have h : j = 0 ∨ j = 1 ∨ j = 2 ∨ j = 3 ∨ j = 4 ∨ j = 5 ∨ j = 6 := by omega
 rcases h with rfl | rfl | rfl | rfl | rfl | rfl | rfl
 · exact has_lv0
 · exact has_lv1
 · exact has_lv2
 · exact has_lv3
 · exact has_lv4
 · exact has_lv5
 · exact has_lv6
theorem has_bg {j : Nat} (hj : j < 3) : (∀ x ∈ wordsA, hasB (bgT j) x = anyB (startsL j) x) ∧ ∀ x ∈ signsA, anyB (startsL j) x = false := by
 have h : j = 0 ∨ j = 1 ∨ j = 2 := by omega
 rcases h with rfl | rfl | rfl
 · exact ⟨has_bg0, not_bg0⟩
 · exact ⟨has_bg1, not_bg1⟩
 · exact ⟨has_bg2, not_bg2⟩
theorem lv_size (j : Nat) : (lvT j).size ≤ 400 := by
 unfold lvT
 repeat' split
 all_goals decide
theorem bg_size (j : Nat) : (bgT j).size ≤ 400 := by
 unfold bgT
 repeat' split
 all_goals decide
/-- what is read ends at b or behind it -/
def Lo {α : Type} (r : Res α) (b : Nat) : Prop := ∀ x j, r = .ok x j → b ≤ j
def St {α : Type} (m : M α) : Prop := ∀ i, Lo (m i) (i + 1)
theorem Lo.ok {α : Type} {x : α} {j b : Nat} (h : b ≤ j) : Lo (.ok x j) b := fun y k e => by cases e; exact h
theorem Lo.ret {α : Type} {x : α} {j b : Nat} (h : b ≤ j) : Lo ((ret x : M α) j) b := fun y k e => by cases e; exact h
theorem Lo.pure {α : Type} {x : α} {j b : Nat} (h : b ≤ j) : Lo ((pure x : M α) j) b := fun y k e => by cases e; exact h
theorem Lo.fail {α : Type} (P : Src) (e i b : Nat) : Lo (failD (α := α) P e i) b := fun y k h => by
 unfold failD at h
 split at h <;> cases h
theorem Lo.ite {α : Type} {c : Prop} [Decidable c] {r s : Res α} {b : Nat} (h1 : c → Lo r b) (h2 : ¬ c → Lo s b) : Lo (if c then r else s) b := by
 by_cases h : c
 · rw [if_pos h]; exact h1 h
 · rw [if_neg h]; exact h2 h
theorem Lo.iteM {α : Type} {c : Prop} [Decidable c] {r s : M α} {b j : Nat} (h1 : c → Lo (r j) b) (h2 : ¬ c → Lo (s j) b) : Lo ((if c then r else s) j) b := by
 by_cases h : c
 · rw [if_pos h]; exact h1 h
 · rw [if_neg h]; exact h2 h
theorem Lo.bind {α β : Type} {m : M α} {f : α → M β} {i b c : Nat} (hm : Lo (m i) c) (h : ∀ x j, c ≤ j → Lo (f x j) b) : Lo ((m >>= f) i) b := fun y k e => by
 cases hx : m i with
 | bad a n => rw [bind_bad hx] at e; cases e
 | ok x j => rw [bind_ok hx] at e; exact h x j (hm x j hx) y k e
theorem Lo.up {α : Type} {r : Res α} {b c : Nat} (h : Lo r c) (hb : b ≤ c) : Lo r b := fun x j e => Nat.le_trans hb (h x j e)
theorem st_kind (P : Src) (k : Int) : St (kindD P k) := fun i => by
 unfold kindD
 exact Lo.ite (fun _ => Lo.ok (Nat.le_refl _)) (fun _ => Lo.fail _ _ _ _)
theorem st_must (P : Src) (s : ByteArray) : St (mustD P s) := fun i => by
 unfold mustD
 exact Lo.ite (fun _ => Lo.ok (Nat.le_refl _)) (fun _ => Lo.fail _ _ _ _)
theorem mo_eat (P : Src) (s : ByteArray) (i : Nat) : Lo (eatD P s i) i := by
 unfold eatD
 exact Lo.ite (fun _ => Lo.ok (Nat.le_succ _)) (fun _ => Lo.ok (Nat.le_refl _))
theorem st_pathL (P : Src) (last : Nat) : ∀ (f : Nat) (s : ByteArray), St (pathL P last f s)
 | 0, s => fun i => Lo.fail _ _ _ _
 | f + 1, s => fun i => by
  show Lo (if P.K i = 3 ∧ last ≠ 4 then Res.ok (s ++ P.T i, 3) (i + 1) else if P.K i ≠ 4 then failD P 4 i else if isD P s_dot (i + 1) = true then pathL P last f (s ++ P.T i ++ s_dot) (i + 2) else if last = 3 then failD P 4 (i + 1) else .ok (s ++ P.T i, 4) (i + 1)) _
  exact Lo.ite (fun _ => Lo.ok (Nat.le_refl _)) (fun _ => Lo.ite (fun _ => Lo.fail _ _ _ _) (fun _ => Lo.ite (fun _ => (st_pathL P last f _ (i + 2)).up (by omega)) (fun _ => Lo.ite (fun _ => Lo.fail _ _ _ _) (fun _ => Lo.ok (Nat.le_refl _)))))
theorem st_path (P : Src) (last : Nat) : St (pathD P last) := st_pathL P last _ _
theorem mo_many {α : Type} (c : Nat → Bool) (item : M α) (h : St item) : ∀ (f : Nat) (acc : List α) (i : Nat), Lo (manyL c item f acc i) i
 | 0, acc, i => Lo.ret (Nat.le_refl _)
 | f + 1, acc, i => by
  show Lo (if c i = true then (item >>= fun x => manyL c item f (acc ++ [x])) i else .ok acc i) i
  exact Lo.ite (fun _ => Lo.bind (h i) fun x j hj => (mo_many c item h f _ j).up (by omega)) (fun _ => Lo.ok (Nat.le_refl _))
theorem mo_sep {α : Type} (P : Src) (item : M α) (s : ByteArray) (h : St item) : ∀ (f : Nat) (acc : List α) (i : Nat), Lo (sepL P item s f acc i) i
 | 0, acc, i => Lo.ret (Nat.le_refl _)
 | f + 1, acc, i => by
  show Lo (if isD P s i = true then (item >>= fun x => sepL P item s f (acc ++ [x])) (i + 1) else .ok acc i) i
  exact Lo.ite (fun _ => Lo.bind (h (i + 1)) fun x j hj => (mo_sep P item s h f _ j).up (by omega)) (fun _ => Lo.ok (Nat.le_refl _))
theorem st_row {α : Type} (P : Src) (item : M α) (s : ByteArray) (h : St item) : St (rowD P item s) := fun i => by
 show Lo ((item >>= fun x => sepL P item s (P.toks.length + 1) [x]) i) _
 exact Lo.bind (h i) fun x j hj => (mo_sep P item s h _ _ j).up (by omega)
/-- what is known of what is read within -/
structure StR (R : Rec) : Prop where
 go : ∀ nt, St (R.go nt)
 deep : St R.deep
/-- such a proof, step by step -/
theorem lo {α : Type} {x : Res α} {n : Nat} (h : Lo x n := by repeat' first | exact Lo.up (by assumption) (by omega) | exact Lo.fail _ _ _ _ | exact Lo.ok (by omega) | exact Lo.ret (by omega) | exact Lo.pure (by omega) | (refine Lo.ite (fun _ => ?_) (fun _ => ?_)) | (refine Lo.iteM (fun _ => ?_) (fun _ => ?_)) | (refine Lo.bind (by first | exact st_kind _ _ _ | exact st_must _ _ _ | exact mo_eat _ _ _ | exact st_path _ _ _ | assumption | exact (by assumption : St _) _ | exact StR.go (by assumption) _ _ | exact StR.deep (by assumption) _ | exact st_row _ _ _ (by first | assumption | exact StR.go (by assumption) _) _) (fun _ _ _ => ?_)) | exact (StR.go (by assumption) _ _).up (by omega) | exact (StR.deep (by assumption) _).up (by omega)) : Lo x n := h
section
variable (P : Src) (R : Rec) (HR : StR R)
include HR
theorem mo_appL (a : Nat) : ∀ (f : Nat) (l : List Ty) (i : Nat), Lo (appL P a f l i) i
 | 0, l, i => Lo.fail _ _ _ _
 | f + 1, l, i => by
  show Lo (if l.length ≠ 1 ∨ P.K i = 3 ∨ P.K i = 4 then (pathD P 3 >>= fun p => appL P a f [.mk 31 a p.1 0 l]) i else .ok (l.headD default) i) i
  exact Lo.ite (fun _ => Lo.bind (st_path P 3 i) fun p j hj => (mo_appL a f _ j).up (by omega)) (fun _ => Lo.ok (Nat.le_refl _))
theorem st_applied : St (appliedB P R) := fun i => by
 show Lo (if P.K i = 5 then appL P (P.A i) (P.toks.length + 1) [.mk 30 (P.A i) (P.T i) 0 []] (i + 1) else if isD P s_lp i = true then (rowD P (R.go .typ) s_com >>= fun l => mustD P s_rp >>= fun _ => appL P (P.A i) (P.toks.length + 1) l) (i + 1) else appL P (P.A i) (P.toks.length + 1) [] i) _
 refine Lo.ite (fun _ => mo_appL P R HR _ _ _ _) (fun _ => Lo.ite (fun _ => ?_) (fun _ => ?_))
 · exact Lo.bind (st_row P _ _ (HR.go .typ) _) fun l j hj => Lo.bind (st_must P _ _) fun _ k hk => (mo_appL P R HR _ _ _ _).up (by omega)
 · show Lo (if ([] : List Ty).length ≠ 1 ∨ P.K i = 3 ∨ P.K i = 4 then (pathD P 3 >>= fun p => appL P (P.A i) P.toks.length [.mk 31 (P.A i) p.1 0 []]) i else .ok (([] : List Ty).headD default) i) _
   rw [if_pos (.inl (by simp))]
   exact Lo.bind (st_path P 3 i) fun p j hj => (mo_appL P R HR _ _ _ j).up (by omega)
theorem st_arrow : St (arrowB P R) := fun i => by
 have h := st_applied P R HR
 unfold arrowB
 exact lo
theorem st_roundPat (a : Nat) : St (roundPatB P R a) := fun i => by
 unfold roundPatB
 exact lo
theorem st_apat : St (apatB P R) := fun i => by
 have h := st_roundPat P R HR (P.A i) (i + 1)
 unfold apatB
 exact lo
theorem st_cpat : St (cpatB P R) := fun i => by
 have h := st_apat P R HR
 unfold cpatB
 refine Lo.bind (h i) fun n j hj => ?_
 exact lo
theorem st_pat : St (patB P R) := fun i => by
 have h := st_cpat P R HR
 unfold patB
 exact lo
theorem mo_decs (k i : Nat) : Lo (decsB P R k i) i := mo_many _ _ (HR.go .dec) _ _ _
theorem st_con : St (conB P R) := fun i => by
 unfold conB
 exact lo
omit HR in
theorem st_one : St (oneB P) := fun i => by
 unfold oneB
 exact Lo.bind (st_kind P 5 i) fun s j hj => Lo.pure (by omega)
omit HR in
theorem st_head (k : Int) (a : Nat) : St (headB P k a) := fun i => by
 have h := st_one P
 unfold headB
 exact lo
theorem st_dbind : St (dbindB P R) := fun i => by
 have h := st_con P R HR
 have h2 := st_head P 39 (P.A i)
 unfold dbindB
 refine Lo.bind (h2 i) fun n j hj => ?_
 exact lo
theorem st_data (a : Nat) : St (dataB P R a) := fun i => by
 have h := st_dbind P R HR
 unfold dataB
 exact lo
theorem st_fbind : St (fbindB P R) := fun i => by
 have h := st_apat P R HR
 unfold fbindB
 refine Lo.bind (st_kind P 3 i) fun s j hj => Lo.bind (h j) fun p j2 hj2 => Lo.bind (mo_many _ _ h _ _ j2) fun l j3 hj3 => ?_
 exact lo
theorem st_body : St (bodyB P R) := fun i => by
 have h := mo_decs P R HR 1
 unfold bodyB
 repeat' first | exact Lo.up (by assumption) (by omega) | exact Lo.fail _ _ _ _ | exact Lo.ok (by omega) | exact Lo.ret (by omega) | exact Lo.pure (by omega) | (refine Lo.ite (fun _ => ?_) (fun _ => ?_)) | (refine Lo.iteM (fun _ => ?_) (fun _ => ?_)) | (refine Lo.bind (by first | exact st_kind _ _ _ | exact st_must _ _ _ | exact mo_eat _ _ _ | exact st_path _ _ _ | assumption | exact (by assumption : St _) _ | exact StR.go (by assumption) _ _ | exact StR.deep (by assumption) _ | exact st_row _ _ _ (by first | assumption | exact StR.go (by assumption) _) _) (fun _ _ _ => ?_)) | exact (StR.go (by assumption) _ _).up (by omega) | exact (StR.deep (by assumption) _).up (by omega)
 exact Lo.bind (h (i + 1)) fun l j hj => Lo.bind (st_must P _ _) fun _ k hk => Lo.pure (by omega)
theorem mo_ann (i : Nat) : Lo (annB P R i) i := by
 unfold annB
 exact lo
theorem st_structure (a : Nat) : St (structureB P R a) := fun i => by
 have h := st_body P R HR
 unfold structureB
 refine Lo.bind (st_kind P 4 i) fun s j hj => Lo.bind (mo_ann P R HR j) fun g j2 hj2 => Lo.bind (st_must P _ _) fun _ j3 hj3 => Lo.bind (h j3) fun b j4 hj4 => Lo.pure (by omega)
theorem st_dec : St (decB P R) := fun i => by
 have h1 := st_fbind P R HR
 have h2 := st_data P R HR (P.A i) (i + 1)
 have h3 := st_con P R HR (i + 1)
 have h4 := st_structure P R HR (P.A i) (i + 1)
 have h5 := st_head P 37 (P.A i) (i + 1)
 unfold decB
 exact lo
theorem st_spec : St (specB P R) := fun i => by
 have h2 := st_data P R HR (P.A i) (i + 1)
 have h3 := st_con P R HR (i + 1)
 have h5 := st_head P 50 (P.A i) (i + 1)
 unfold specB
 exact lo
theorem mo_specs : ∀ (f : Nat) (acc : List Ty) (i : Nat), Lo (specsL P R f acc i) i
 | 0, acc, i => Lo.ret (Nat.le_refl _)
 | f + 1, acc, i => by
  show Lo (if isD P w_end i = true then .ok acc (i + 1) else (specB P R >>= fun x => specsL P R f (acc ++ [x])) i) i
  exact Lo.ite (fun _ => Lo.ok (by omega)) (fun _ => Lo.bind (st_spec P R HR i) fun x j hj => (mo_specs f _ j).up (by omega))
theorem st_sigs : St (sigsB P R) := fun i => by
 have h := mo_specs P R HR (P.toks.length + 1) [] (i + 1)
 unfold sigsB
 exact lo
theorem st_rule : St (ruleB P R) := fun i => by
 unfold ruleB
 exact lo
theorem st_rules (k : Int) (a : Nat) (w : ByteArray) : St (rulesB P R k a w) := fun i => by
 have h := st_rule P R HR
 unfold rulesB
 exact lo
theorem st_round (a : Nat) : St (roundB P R a) := fun i => by
 unfold roundB
 exact lo
theorem st_atom : St (atomB P R) := fun i => by
 have h1 := st_round P R HR (P.A i) (i + 1)
 have h2 := mo_decs P R HR 2 (i + 1)
 have h3 := st_rules P R HR 10 (P.A i) w_of (i + 1)
 have h4 := st_rules P R HR 11 (P.A i) w_with (i + 1)
 unfold atomB
 exact lo
theorem st_prefixL : ∀ (f : Nat), St (prefixL P R f)
 | 0 => fun i => Lo.fail _ _ _ _
 | f + 1 => fun i => by
  show Lo (if isD P s_ti i = true ∨ isD P s_ex i = true then (prefixL P R f >>= fun n => ret (.mk 18 (P.A i) (P.T i) 0 [n])) (i + 1) else atomB P R i) _
  exact Lo.ite (fun _ => Lo.bind (st_prefixL f (i + 1)) fun n j hj => Lo.ret (by omega)) (fun _ => st_atom P R HR i)
theorem st_prefix : St (prefixB P R) := st_prefixL P R HR _
theorem mo_applyL : ∀ (f : Nat) (n : Ty) (i : Nat), Lo (applyL P R f n i) i
 | 0, n, i => Lo.ret (Nat.le_refl _)
 | f + 1, n, i => by
  show Lo (if beginsB P i = true then (prefixB P R >>= fun b => applyL P R f (.mk 8 n.n ⟨#[]⟩ 0 [n, b])) i else .ok n i) i
  exact Lo.ite (fun _ => Lo.bind (st_prefix P R HR i) fun x j hj => (mo_applyL f _ j).up (by omega)) (fun _ => Lo.ok (Nat.le_refl _))
theorem st_apply : St (applyB P R) := fun i => by
 show Lo ((prefixB P R >>= fun n => applyL P R (P.toks.length + 1) n) i) _
 exact Lo.bind (st_prefix P R HR i) fun n j hj => (mo_applyL P R HR _ _ j).up (by omega)
omit HR in
theorem mo_col (k : Nat) (item : M Ty) (h : St item) : ∀ (f : Nat) (acc : List (ByteArray × Ty)) (i : Nat), Lo (colL P k item f acc i) i
 | 0, acc, i => Lo.ret (Nat.le_refl _)
 | f + 1, acc, i => by
  show Lo (if (acc.length = 0 ∨ neverB k = false) ∧ oneD P (lvL k) i = true then (item >>= fun x => colL P k item f (acc ++ [(P.T i, x)])) (i + 1) else .ok acc i) i
  exact Lo.ite (fun _ => Lo.bind (h (i + 1)) fun x j hj => (mo_col k item h f _ j).up (by omega)) (fun _ => Lo.ok (Nat.le_refl _))
theorem st_bet : ∀ (k : Nat), St (betB P R k)
 | 0 => st_apply P R HR
 | k + 1 => fun i => by
  show Lo ((betB P R k >>= fun a => colL P (k + 1) (betB P R k) (P.toks.length + 1) [] >>= fun l => (pure (if k + 1 = 3 then foldR a l else foldLd a l) : M Ty)) i) _
  exact Lo.bind (st_bet k i) fun a j hj => Lo.bind (mo_col P (k + 1) _ (st_bet k) _ _ j) fun l j2 hj2 => Lo.pure (by omega)
theorem st_open : St (openB P R) := fun i => by
 have h := st_apat P R HR (i + 1)
 have h2 := st_bet P R HR 7 i
 unfold openB
 exact lo
theorem st_step : ∀ nt, St (stepB P R nt)
 | .exp => st_open P R HR
 | .pat => st_pat P R HR
 | .typ => st_arrow P R HR
 | .dec => st_dec P R HR
 | .sig => st_sigs P R HR
end
theorem st_fail {α : Type} (P : Src) (e : Nat) : St (failD (α := α) P e) := fun i => Lo.fail _ _ _ _
theorem st_rec (P : Src) : ∀ g, (∀ nt, St (readS P g nt)) ∧ StR (recS P g)
 | 0 => by
  have h : ∀ nt, St (readS P 0 nt) := fun nt => st_fail P 5
  exact ⟨h, ⟨h, st_fail P 5⟩⟩
 | g + 1 => by
  have h : ∀ nt, St (readS P (g + 1) nt) := fun nt => by rw [readS_succ]; exact st_step P _ (st_rec P g).2 nt
  exact ⟨h, ⟨h, (st_rec P g).1 .exp⟩⟩
end Go.Proofs.YthehjeeiodbkjaaGreatDoor
