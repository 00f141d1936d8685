/-
  Proved: nothing yet but definitions: what both Checks compute of one function. No condition.
-/
import Derived.Test.YtebappmamaafaaaDoorK3
namespace Go.Proofs.YtebappmamaafaaaDoor
open Go.RowKit

abbrev KK := Nat → Option (Int × Int)
def K0 : KK := fun j => if j = 0 then some (0, 0) else none
def nextB (op tk pt : Int) (s : Int × Int) : Int × Int := (s.1 - tk + pt, if op = 20 then s.2 + 1 else if op = 21 then s.2 - 1 else s.2)
def jumpS (op tk pt : Int) (s : Int × Int) : Int × Int := (if op = 20 then s.1 - tk + pt + 1 else s.1 - tk + pt, s.2)
def okB (op tk pt : Int) (s : Int × Int) : Bool :=
  (if op = 17 ∨ op = 16 then decide (s.1 = tk ∧ s.2 = 0) else true) && decide (tk ≤ s.1 ∧ 0 ≤ (nextB op tk pt s).2 ∧ (nextB op tk pt s).1 ≤ 5000 ∧ (jumpS op tk pt s).1 ≤ 5000)
def goOn (op tk pt a : Int) (s : Int × Int) (i : Nat) (K : KK) : Option KK :=
  match (if jumpB op = true then toldK K a.toNat (jumpS op tk pt s) i else some K) with
  | none => none
  | some K1 => if goB op = true then toldK K1 (i + 1) (nextB op tk pt s) i else some K1
def stepF (c : Cd) (i : Nat) (x : Int × Int × Int) (K : KK) : Option KK :=
  match K i with
  | none => none
  | some s => if okB x.1 (tkB (frOf c x.2.1) x.1 x.2.1 x.2.2) (ptB x.1) s = true then goOn x.1 (tkB (frOf c x.2.1) x.1 x.2.1 x.2.2) (ptB x.1) x.2.1 s i K else none
def opOf (c : Cd) (f : Fn) (main : Bool) (x : Int × Int × Int) : Int := opB c.texts.length c.funs.length f.free f.slots f.ins.length main x.1 x.2.1 x.2.2
def opsGo (c : Cd) (f : Fn) (main : Bool) : List (Int × Int × Int) → Nat → Option (Int × Int)
  | [], _ => none
  | x :: r, i => if opOf c f main x = 0 then opsGo c f main r (i + 1) else some (opOf c f main x, (i : Int))
def flowGo (c : Cd) : List (Int × Int × Int) → Nat → KK → Int × Int
  | [], i, K => if (K i).isSome = true then (20, (i : Int)) else (0, 0)
  | x :: r, i, K => match stepF c i x K with
    | none => (20, (i : Int))
    | some K' => flowGo c r (i + 1) K'
def funB (c : Cd) (f : Fn) (main : Bool) : Int × Int :=
  match opsGo c f main f.ins 0 with
  | some r => r
  | none => flowGo c f.ins 0 K0

def InsOk (x : Int × Int × Int) : Prop := 0 ≤ x.1 ∧ x.1 ≤ 25 ∧ (x.1 ≠ 0 → x.1 ≠ 9 → (0 ≤ x.2.1 ∧ x.2.1 ≤ 65535) ∧ (0 ≤ x.2.2 ∧ x.2.2 ≤ 65535))
def FunsOk (c : Cd) : Prop := ∀ f ∈ c.funs, (0 ≤ f.free ∧ f.free ≤ 65535) ∧ ∀ x ∈ f.ins, InsOk x

def FunPost (c : Cd) (f : Fn) (main : Bool) (w : World) (e : Ending) (w' : World) : Prop :=
  e = .returned (.tuple #[.int .i64 (funB c f main).1, .int .i64 (funB c f main).2]) ∧ Below w.heap.size w w'

theorem opsGo_step {c : Cd} {f : Fn} {main : Bool} {l : List (Int × Int × Int)} {k : Nat} (h : k < l.length) : opsGo c f main (l.drop k) k = if opOf c f main (l.getD k (0, 0, 0)) = 0 then opsGo c f main (l.drop (k + 1)) (k + 1) else some (opOf c f main (l.getD k (0, 0, 0)), (k : Int)) := by
  rw [List.drop_eq_getElem_cons h]
  have e : l.getD k (0, 0, 0) = l[k] := by rw [List.getD_eq_getElem?_getD, List.getElem?_eq_getElem h]; rfl
  rw [e]
  rfl
theorem flowGo_step {c : Cd} {l : List (Int × Int × Int)} {k : Nat} (h : k < l.length) (K : KK) : flowGo c (l.drop k) k K = match stepF c k (l.getD k (0, 0, 0)) K with
    | none => (20, (k : Int))
    | some K' => flowGo c (l.drop (k + 1)) (k + 1) K' := by
  rw [List.drop_eq_getElem_cons h]
  have e : l.getD k (0, 0, 0) = l[k] := by rw [List.getD_eq_getElem?_getD, List.getElem?_eq_getElem h]; rfl
  rw [e]
  rfl
theorem opsGo_none {c : Cd} {f : Fn} {main : Bool} {l : List (Int × Int × Int)} {k : Nat} (h : opsGo c f main l k = none) : ∀ x ∈ l, opOf c f main x = 0 := by
  induction l generalizing k with
  | nil => simp
  | cons x r ih =>
    unfold opsGo at h
    split at h
    · rename_i h0
      intro y hy
      rcases List.mem_cons.1 hy with rfl | hy
      · exact h0
      · exact ih h y hy
    · cases h

end Go.Proofs.YtebappmamaafaaaDoor
