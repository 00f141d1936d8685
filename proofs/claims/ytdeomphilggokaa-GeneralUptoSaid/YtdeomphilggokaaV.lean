/-
  Proved: what a type is, in plain Lean; how one stands in memory; which may be, which are alike. No condition.
-/
import Derived.Test.YtdeomphilggokaaW
import Derived.Test.YtdeomphilggokaaChecked
set_option linter.unusedSimpArgs false
set_option linter.unusedVariables false
namespace Go.Proofs.Ytdeomphilggokaa
open Go.RowKit

inductive Ty where
  | mk (k n : Int) (s : ByteArray) (q : Int) (args : List Ty)
namespace Ty
def k : Ty → Int | mk k _ _ _ _ => k
def n : Ty → Int | mk _ n _ _ _ => n
def s : Ty → ByteArray | mk _ _ s _ _ => s
def q : Ty → Int | mk _ _ _ q _ => q
def args : Ty → List Ty | mk _ _ _ _ l => l
end Ty
instance : Inhabited Ty := ⟨.mk 0 0 ⟨#[]⟩ 0 []⟩
/-- a row of a type as the cells of a variable -/
def rowOf (t : Ty) (ao : Option Addr) (cap : Nat) : Array Value := #[.int .i64 t.k, .int .i64 t.n, .string t.s, .int .i64 t.q, .slice ao t.args.length cap]

mutual
/-- a type's five cells; its arguments lie in blocks of D -/
def TyV (w : World) (D : Nat → Prop) : Ty → List Value → Prop
  | .mk k n s q args, row => ∃ ao cap, row = [.int .i64 k, .int .i64 n, .string s, .int .i64 q, .slice ao args.length cap] ∧ args.length ≤ cap ∧ ArgsV w D args ao 0
def ArgsV (w : World) (D : Nat → Prop) : List Ty → Option Addr → Nat → Prop
  | [], _, _ => True
  | p :: ps, ao, i => (∃ b off row, ao = some ⟨b, off, none⟩ ∧ D b ∧ (∀ j, j < 5 → w.cell? ⟨b, off + i * 5 + j, none⟩ = row[j]?) ∧ TyV w D p row) ∧ ArgsV w D ps ao (i + 1)
end
mutual
theorem TyV.keep {w w' : World} {D : Nat → Prop} (hk : ∀ b, D b → ∀ off, w'.cell? ⟨b, off, none⟩ = w.cell? ⟨b, off, none⟩) : ∀ {p : Ty} {row : List Value}, TyV w D p row → TyV w' D p row
  | .mk k n s q args, row => by
    intro h
    unfold TyV at h ⊢
    obtain ⟨ao, cap, hr, hc, hkv⟩ := h
    exact ⟨ao, cap, hr, hc, ArgsV.keep hk hkv⟩
theorem ArgsV.keep {w w' : World} {D : Nat → Prop} (hk : ∀ b, D b → ∀ off, w'.cell? ⟨b, off, none⟩ = w.cell? ⟨b, off, none⟩) : ∀ {l : List Ty} {ao : Option Addr} {i : Nat}, ArgsV w D l ao i → ArgsV w' D l ao i
  | [], _, _ => fun _ => by unfold ArgsV; trivial
  | p :: ps, ao, i => by
    intro h
    unfold ArgsV at h ⊢
    obtain ⟨⟨b, off, row, ha, hb, hc, hp⟩, ht⟩ := h
    exact ⟨⟨b, off, row, ha, hb, fun j hj => (hk b hb _).trans (hc j hj), TyV.keep hk hp⟩, ArgsV.keep hk ht⟩
end
mutual
theorem TyV.mono {w : World} {D D' : Nat → Prop} (hN : ∀ b, D b → D' b) : ∀ {p : Ty} {row : List Value}, TyV w D p row → TyV w D' p row
  | .mk k n s q args, row => by
    intro h
    unfold TyV at h ⊢
    obtain ⟨ao, cap, hr, hc, hkv⟩ := h
    exact ⟨ao, cap, hr, hc, ArgsV.mono hN hkv⟩
theorem ArgsV.mono {w : World} {D D' : Nat → Prop} (hN : ∀ b, D b → D' b) : ∀ {l : List Ty} {ao : Option Addr} {i : Nat}, ArgsV w D l ao i → ArgsV w D' l ao i
  | [], _, _ => fun _ => by unfold ArgsV; trivial
  | p :: ps, ao, i => by
    intro h
    unfold ArgsV at h ⊢
    obtain ⟨⟨b, off, row, ha, hb, hc, hp⟩, ht⟩ := h
    exact ⟨⟨b, off, row, ha, hN b hb, hc, TyV.mono hN hp⟩, ArgsV.mono hN ht⟩
end
theorem ArgsV.get {w : World} {D : Nat → Prop} : ∀ {l : List Ty} {ao : Option Addr} {i : Nat}, ArgsV w D l ao i → ∀ {k : Nat} (hk : k < l.length), ∃ b off row, ao = some ⟨b, off, none⟩ ∧ D b ∧ (∀ j, j < 5 → w.cell? ⟨b, off + (i + k) * 5 + j, none⟩ = row[j]?) ∧ TyV w D l[k] row
  | p :: ps, ao, i, h, k, hk => by
    unfold ArgsV at h
    obtain ⟨⟨b, off, row, ha, hb, hc, hp⟩, ht⟩ := h
    cases k with
    | zero => exact ⟨b, off, row, ha, hb, hc, hp⟩
    | succ k =>
      have := ArgsV.get ht (k := k) (by simpa using hk)
      rw [show i + 1 + k = i + (k + 1) from by omega] at this
      simpa using this
theorem ArgsV.of {w : World} {D : Nat → Prop} : ∀ {l : List Ty} {ao : Option Addr} {i : Nat}, (∀ k (hk : k < l.length), ∃ b off row, ao = some ⟨b, off, none⟩ ∧ D b ∧ (∀ j, j < 5 → w.cell? ⟨b, off + (i + k) * 5 + j, none⟩ = row[j]?) ∧ TyV w D l[k] row) → ArgsV w D l ao i
  | [], _, _ => fun _ => by unfold ArgsV; trivial
  | p :: ps, ao, i => by
    intro h
    unfold ArgsV
    refine ⟨h 0 (by simp), ArgsV.of fun k hk => ?_⟩
    have := h (k + 1) (by simpa using hk)
    rw [show i + (k + 1) = i + 1 + k from by omega] at this
    simpa using this
/-- a slice of types, in blocks of D -/
def SlD (w : World) (D : Nat → Prop) (l : List Ty) (ao : Option Addr) (cap : Nat) : Prop := l.length ≤ cap ∧ ArgsV w D l ao 0
theorem SlD.keep {w w' : World} {D : Nat → Prop} {l : List Ty} {ao : Option Addr} {cap : Nat} (h : SlD w D l ao cap) (hk : ∀ b, D b → ∀ off, w'.cell? ⟨b, off, none⟩ = w.cell? ⟨b, off, none⟩) : SlD w' D l ao cap := ⟨h.1, h.2.keep hk⟩
theorem SlD.mono {w : World} {D D' : Nat → Prop} {l : List Ty} {ao : Option Addr} {cap : Nat} (h : SlD w D l ao cap) (hN : ∀ b, D b → D' b) : SlD w D' l ao cap := ⟨h.1, h.2.mono hN⟩
theorem TyV.row {w : World} {D : Nat → Prop} {p : Ty} {row : List Value} (h : TyV w D p row) : ∃ ao cap, row = (rowOf p ao cap).toList ∧ SlD w D p.args ao cap := by
  cases p
  unfold TyV at h
  obtain ⟨ao, cap, hr, hc, hk⟩ := h
  exact ⟨ao, cap, hr, hc, hk⟩
theorem TyV.mk' {w : World} {D : Nat → Prop} {p : Ty} {ao : Option Addr} {cap : Nat} (h : SlD w D p.args ao cap) : TyV w D p (rowOf p ao cap).toList := by
  cases p
  unfold TyV
  exact ⟨ao, cap, rfl, h.1, h.2⟩
/-- a type in hand: its cells, its arguments in blocks of D -/
structure TyAt (w : World) (D : Nat → Prop) (t : Ty) (v : Value) : Prop where
  v : ∃ ao cap, v = .agg (rowOf t ao cap) ∧ SlD w D t.args ao cap
theorem TyAt.keep {w w' : World} {D : Nat → Prop} {t : Ty} {v : Value} (h : TyAt w D t v) (hk : ∀ b, D b → ∀ off, w'.cell? ⟨b, off, none⟩ = w.cell? ⟨b, off, none⟩) : TyAt w' D t v := by
  obtain ⟨ao, cap, e, h⟩ := h.v
  exact ⟨ao, cap, e, h.keep hk⟩
theorem below_cells {N : Nat} {w w' : World} (h : Below N w w') : ∀ b, b < N → ∀ off, w'.cell? ⟨b, off, none⟩ = w.cell? ⟨b, off, none⟩ := fun b hb off => h.cell (p := ⟨b, off, none⟩) hb
/-- the place of an element, where the slice's address is known by an equation that the walk does not see -/
theorem index_at {P : Program} {t e : TypeId} {sz : Nat} (ht : P.underlying t = some (.slice e)) (hs : ∀ w : World, (sizeOf e).run P w = .ok sz w) {ao : Option Addr} {b off : Nat} (ha : ao = some ⟨b, off, none⟩) (n cp k : Nat) (hk : k < n) (w : World) :
    (Instr.indexAt t (.slice ao n cp) (.int .i64 k)).run P w = .ok (.pointer (some ⟨b, off + k * sz, none⟩)) w := by
  subst ha
  have he : P.elem t = e := by simp [Program.elem, ht]
  rw [run_indexAt_slice (h := by rw [he]; exact ht), if_pos (by omega), he, hs]
  simp [Result.andThen, Addr.add_lit]
theorem size33 (w : World) : (sizeOf 33).run Try.prog w = .ok 5 w := by kernel_rfl
/-- an argument as a walk reads it: its place, its cells -/
theorem arg_cells {w : World} {D : Nat → Prop} {l : List Ty} {ao : Option Addr} {cap : Nat} (h : SlD w D l ao cap) {j : Nat} (hj : j < l.length) : ∃ b p ap cp, D b ∧ (∀ w' : World, (Instr.indexAt 31 (.slice ao l.length cap) (.int .i64 j)).run Try.prog w' = .ok (.pointer (some ⟨b, p, none⟩)) w') ∧
    w.cell? ⟨b, p, none⟩ = some (.int .i64 l[j].k) ∧ w.cell? ⟨b, p + 1, none⟩ = some (.int .i64 l[j].n) ∧ w.cell? ⟨b, p + 2, none⟩ = some (.string l[j].s) ∧ w.cell? ⟨b, p + 3, none⟩ = some (.int .i64 l[j].q) ∧ w.cell? ⟨b, p + 4, none⟩ = some (.slice ap l[j].args.length cp) ∧ SlD w D l[j].args ap cp := by
  obtain ⟨b, off, row, ha, hD, hrow, hp⟩ := h.2.get hj
  obtain ⟨ap, cp, rfl, hs⟩ := hp.row
  rw [Nat.zero_add] at hrow
  exact ⟨b, off + j * 5, ap, cp, hD, fun w' => index_at Try.underlying31 size33 ha l.length cap j hj w', hrow 0 (by omega), hrow 1 (by omega), hrow 2 (by omega), hrow 3 (by omega), hrow 4 (by omega), hs⟩

mutual
def parts : Ty → Nat
  | .mk _ _ _ _ args => 1 + partsL args
def partsL : List Ty → Nat
  | [] => 0
  | p :: ps => parts p + partsL ps
end
/-- may a type be, its arguments aside? -/
def okT (t : Ty) : Bool :=
  if t.k = 0 then decide (t.args.length = 0 ∧ t.s.toList = [] ∧ (t.q = 0 ∨ t.q = 1))
  else if t.k = 1 then decide (0 ≤ t.q ∧ t.q ≤ 2)
  else if t.k = 2 then decide (2 ≤ t.args.length ∧ t.s.toList = [] ∧ t.n = 0 ∧ t.q = 0)
  else if t.k = 3 then decide (t.args.length = 2 ∧ t.s.toList = [] ∧ t.n = 0 ∧ t.q = 0)
  else false
mutual
def shapedD : Ty → Bool
  | .mk k n s q args => okT (.mk k n s q args) && shapedL args
def shapedL : List Ty → Bool
  | [] => true
  | p :: ps => shapedD p && shapedL ps
end
def ProperD (t : Ty) : Bool := decide (parts t ≤ 400) && shapedD t
/-- are two types alike on top? -/
def headA (t u : Ty) : Bool := decide (t.k = u.k ∧ t.s.toList = u.s.toList ∧ t.n = u.n ∧ t.args.length = u.args.length)
def headS (t u : Ty) : Bool := decide (t.k = u.k ∧ t.s.toList = u.s.toList ∧ t.n = u.n ∧ t.q = u.q ∧ t.args.length = u.args.length)
mutual
def alikeD : Ty → Ty → Bool
  | .mk k n s q args, .mk k' n' s' q' args' => headA (.mk k n s q args) (.mk k' n' s' q' args') && alikeL args args'
def alikeL : List Ty → List Ty → Bool
  | [], _ => true
  | _ :: _, [] => true
  | p :: ps, r :: rs => alikeD p r && alikeL ps rs
end
mutual
def sameD : Ty → Ty → Bool
  | .mk k n s q args, .mk k' n' s' q' args' => headS (.mk k n s q args) (.mk k' n' s' q' args') && sameL args args'
def sameL : List Ty → List Ty → Bool
  | [], _ => true
  | _ :: _, [] => true
  | p :: ps, r :: rs => sameD p r && sameL ps rs
end
mutual
def eqD : Ty → Int
  | .mk k _ _ q args => if k = 0 then q else if k = 3 ∨ (k = 1 ∧ q = 0) then 0 else if k = 1 ∧ q = 2 then 1 else if eqL args then 1 else 0
def eqL : List Ty → Bool
  | [] => true
  | p :: ps => decide (eqD p ≠ 0) && eqL ps
end
def I64 (x : Int) : Prop := -9223372036854775808 ≤ x ∧ x ≤ 9223372036854775807
mutual
/-- what fits into a machine -/
def Fits : Ty → Prop
  | .mk k n s q args => (I64 k ∧ I64 n ∧ s.size ≤ 140737488355328 ∧ I64 q) ∧ args.length ≤ 3000000000000 ∧ FitsL args
def FitsL : List Ty → Prop
  | [] => True
  | p :: ps => Fits p ∧ FitsL ps
end
theorem FitsL.get : ∀ {l : List Ty}, FitsL l → ∀ {t : Ty}, t ∈ l → Fits t
  | p :: ps, h, t, ht => by
    unfold FitsL at h
    rcases List.mem_cons.1 ht with rfl | ht
    · exact h.1
    · exact FitsL.get h.2 ht
theorem Fits.len {t : Ty} (h : Fits t) : t.args.length ≤ 3000000000000 := by cases t; unfold Fits at h; exact h.2.1
theorem Fits.args {t : Ty} (h : Fits t) : FitsL t.args := by cases t; unfold Fits at h; exact h.2.2
theorem parts_mem {l : List Ty} {p : Ty} (h : p ∈ l) : parts p ≤ partsL l := by
  induction l with
  | nil => simp at h
  | cons x xs ih =>
    rw [partsL]
    rcases List.mem_cons.1 h with rfl | h
    · omega
    · have := ih h; omega
theorem parts_pos (t : Ty) : 0 < parts t := by cases t; rw [parts]; omega
theorem parts_args (t : Ty) : parts t = 1 + partsL t.args := by cases t; rw [parts]; rfl
end Go.Proofs.Ytdeomphilggokaa
