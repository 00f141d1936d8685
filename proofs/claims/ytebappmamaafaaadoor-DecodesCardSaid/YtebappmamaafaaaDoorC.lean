/-
  Proved: how a Code reads in memory: rows of cells that stay as long as the old blocks stay. No condition.
-/
import Derived.Test.YtebappmamaafaaaDoorW
set_option linter.unusedSimpArgs false
set_option linter.unusedVariables false
namespace Go.Proofs.YtebappmamaafaaaDoor
open Go.RowKit

structure Fn where
  free : Int
  slots : Int
  ao : Option Addr
  cap : Nat
  ins : List (Int × Int × Int)
structure Cd where
  ta : Option Addr
  tc : Nat
  fa : Option Addr
  fc : Nat
  texts : List ByteArray
  funs : List Fn
def insRow (x : Int × Int × Int) : List Value := [.int .i64 x.1, .int .i64 x.2.1, .int .i64 x.2.2]
def fnRow (f : Fn) : List Value := [.int .i64 f.free, .int .i64 f.slots, .slice f.ao f.ins.length f.cap]
def Cd.val (c : Cd) : Value := .agg #[.slice c.ta c.texts.length c.tc, .slice c.fa c.funs.length c.fc]

/-- the slice at 'ao' holds these rows, in blocks below N -/
def RowsAt (w : World) (N : Nat) (ao : Option Addr) (sz : Nat) (rows : List (List Value)) : Prop :=
  ∀ i, i < rows.length → ∃ b off, ao = some ⟨b, off, none⟩ ∧ b < N ∧ ∀ j, j < sz → w.cell? ⟨b, off + i * sz + j, none⟩ = (rows.getD i [])[j]?
theorem RowsAt.below {w w' : World} {N : Nat} {ao : Option Addr} {sz : Nat} {rows : List (List Value)} (h : RowsAt w N ao sz rows) (hb : Below N w w') : RowsAt w' N ao sz rows := by
  intro i hi
  obtain ⟨b, off, e, hlt, hc⟩ := h i hi
  exact ⟨b, off, e, hlt, fun j hj => (hb.cell (p := ⟨b, _, none⟩) hlt).trans (hc j hj)⟩

def in64 (n : Int) : Prop := -9223372036854775808 ≤ n ∧ n ≤ 9223372036854775807
structure CodeAt (w : World) (N : Nat) (c : Cd) : Prop where
  texts : RowsAt w N c.ta 1 (c.texts.map fun s => [.string s])
  funs : RowsAt w N c.fa 3 (c.funs.map fnRow)
  ins : ∀ f ∈ c.funs, RowsAt w N f.ao 3 (f.ins.map insRow)
  wf : ∀ f ∈ c.funs, in64 f.free ∧ in64 f.slots ∧ ∀ x ∈ f.ins, in64 x.1 ∧ in64 x.2.1 ∧ in64 x.2.2
  tcap : c.texts.length ≤ c.tc
  fcap : c.funs.length ≤ c.fc
theorem CodeAt.below {w w' : World} {N : Nat} {c : Cd} (h : CodeAt w N c) (hb : Below N w w') : CodeAt w' N c :=
  ⟨h.texts.below hb, h.funs.below hb, fun f hf => (h.ins f hf).below hb, h.wf, h.tcap, h.fcap⟩

/-- the place of an element, where the slice's address is known by an equation that the walk does not see -/
theorem index_at {P : Program} {t e : TypeId} {sz : Nat} (ht : P.underlying t = some (.slice e)) (hs : ∀ w : World, (sizeOf e).run P w = .ok sz w) {ao : Option Addr} {b off : Nat} (ha : ao = some ⟨b, off, none⟩) (n cp k : Nat) (hk : k < n) (w : World) :
    (Instr.indexAt t (.slice ao n cp) (.int .i64 k)).run P w = .ok (.pointer (some ⟨b, off + k * sz, none⟩)) w := by
  subst ha
  have he : P.elem t = e := by simp [Program.elem, ht]
  rw [run_indexAt_slice (h := by rw [he]; exact ht), if_pos (by omega), he, hs]
  simp [Result.andThen, Addr.add_lit]
theorem size9 (w : World) : (sizeOf 9).run Tryd.prog w = .ok 1 w := by kernel_rfl
theorem size48 (w : World) : (sizeOf 48).run Tryd.prog w = .ok 3 w := by kernel_rfl
theorem size50 (w : World) : (sizeOf 50).run Tryd.prog w = .ok 3 w := by kernel_rfl

/-- how much a code weighs -/
def wgt (c : Cd) : Nat := (c.texts.map fun s => s.size + 1).sum + (c.funs.map fun f => f.ins.length + 1).sum

end Go.Proofs.YtebappmamaafaaaDoor
