/-
  Proved: what a pattern is, in plain Lean; how one stands in memory; what bare, headOf, given, heads, useful and proper compute. No condition.
-/
import Derived.Test.YtcieoelogocjkaaW
import Derived.Test.YtcieoelogocjkaaChecked
set_option linter.unusedSimpArgs false
set_option linter.unusedVariables false
namespace Go.Proofs.Ytcieoelogocjkaa
open Go.RowKit

inductive Pt where
  | mk (k n o a : Int) (s : ByteArray) (kids : List Pt)
namespace Pt
def k : Pt → Int | mk k _ _ _ _ _ => k
def n : Pt → Int | mk _ n _ _ _ _ => n
def o : Pt → Int | mk _ _ o _ _ _ => o
def a : Pt → Int | mk _ _ _ a _ _ => a
def s : Pt → ByteArray | mk _ _ _ _ s _ => s
def kids : Pt → List Pt | mk _ _ _ _ _ l => l
end Pt
def anyP : Pt := .mk 0 0 0 0 ⟨#[]⟩ []

mutual
/-- a pattern's six cells; its kids lie in blocks of D -/
def PatV (w : World) (D : Nat → Prop) : Pt → List Value → Prop
  | .mk k n o a s kids, row => ∃ ao cap, row = [.int .i64 k, .int .i64 n, .int .i64 o, .int .i64 a, .string s, .slice ao kids.length cap] ∧ kids.length ≤ cap ∧ KidsV w D kids ao 0
def KidsV (w : World) (D : Nat → Prop) : List Pt → Option Addr → Nat → Prop
  | [], _, _ => True
  | p :: ps, ao, i => (∃ b off row, ao = some ⟨b, off, none⟩ ∧ D b ∧ (∀ j, j < 6 → w.cell? ⟨b, off + i * 6 + j, none⟩ = row[j]?) ∧ PatV w D p row) ∧ KidsV w D ps ao (i + 1)
end

mutual
theorem PatV.keep {w w' : World} {D : Nat → Prop} (hk : ∀ b, D b → ∀ off, w'.cell? ⟨b, off, none⟩ = w.cell? ⟨b, off, none⟩) : ∀ {p : Pt} {row : List Value}, PatV w D p row → PatV w' D p row
  | .mk k n o a s kids, row => by
    intro h
    unfold PatV at h ⊢
    obtain ⟨ao, cap, hr, hc, hkv⟩ := h
    exact ⟨ao, cap, hr, hc, KidsV.keep hk hkv⟩
theorem KidsV.keep {w w' : World} {D : Nat → Prop} (hk : ∀ b, D b → ∀ off, w'.cell? ⟨b, off, none⟩ = w.cell? ⟨b, off, none⟩) : ∀ {l : List Pt} {ao : Option Addr} {i : Nat}, KidsV w D l ao i → KidsV w' D l ao i
  | [], _, _ => fun _ => by unfold KidsV; trivial
  | p :: ps, ao, i => by
    intro h
    unfold KidsV at h ⊢
    obtain ⟨⟨b, off, row, ha, hb, hc, hp⟩, ht⟩ := h
    exact ⟨⟨b, off, row, ha, hb, fun j hj => (hk b hb _).trans (hc j hj), PatV.keep hk hp⟩, KidsV.keep hk ht⟩
end
mutual
theorem PatV.mono {w : World} {D D' : Nat → Prop} (hN : ∀ b, D b → D' b) : ∀ {p : Pt} {row : List Value}, PatV w D p row → PatV w D' p row
  | .mk k n o a s kids, row => by
    intro h
    unfold PatV at h ⊢
    obtain ⟨ao, cap, hr, hc, hkv⟩ := h
    exact ⟨ao, cap, hr, hc, KidsV.mono hN hkv⟩
theorem KidsV.mono {w : World} {D D' : Nat → Prop} (hN : ∀ b, D b → D' b) : ∀ {l : List Pt} {ao : Option Addr} {i : Nat}, KidsV w D l ao i → KidsV w D' l ao i
  | [], _, _ => fun _ => by unfold KidsV; trivial
  | p :: ps, ao, i => by
    intro h
    unfold KidsV at h ⊢
    obtain ⟨⟨b, off, row, ha, hb, hc, hp⟩, ht⟩ := h
    exact ⟨⟨b, off, row, ha, hN b hb, hc, PatV.mono hN hp⟩, KidsV.mono hN ht⟩
end
theorem KidsV.get {w : World} {D : Nat → Prop} : ∀ {l : List Pt} {ao : Option Addr} {i : Nat}, KidsV w D l ao i → ∀ {k : Nat} (hk : k < l.length), ∃ b off row, ao = some ⟨b, off, none⟩ ∧ D b ∧ (∀ j, j < 6 → w.cell? ⟨b, off + (i + k) * 6 + j, none⟩ = row[j]?) ∧ PatV w D l[k] row
  | p :: ps, ao, i, h, k, hk => by
    unfold KidsV at h
    obtain ⟨⟨b, off, row, ha, hb, hc, hp⟩, ht⟩ := h
    cases k with
    | zero => exact ⟨b, off, row, ha, hb, hc, hp⟩
    | succ k =>
      have := KidsV.get ht (k := k) (by simpa using hk)
      rw [show i + 1 + k = i + (k + 1) from by omega] at this
      simpa using this
theorem KidsV.of {w : World} {D : Nat → Prop} : ∀ {l : List Pt} {ao : Option Addr} {i : Nat}, (∀ k (hk : k < l.length), ∃ b off row, ao = some ⟨b, off, none⟩ ∧ D b ∧ (∀ j, j < 6 → w.cell? ⟨b, off + (i + k) * 6 + j, none⟩ = row[j]?) ∧ PatV w D l[k] row) → KidsV w D l ao i
  | [], _, _ => fun _ => by unfold KidsV; trivial
  | p :: ps, ao, i => by
    intro h
    unfold KidsV
    refine ⟨h 0 (by simp), KidsV.of fun k hk => ?_⟩
    have := h (k + 1) (by simpa using hk)
    rw [show i + (k + 1) = i + 1 + k from by omega] at this
    simpa using this

/-- a slice of patterns, in blocks of D -/
def SlD (w : World) (D : Nat → Prop) (l : List Pt) (ao : Option Addr) (cap : Nat) : Prop := l.length ≤ cap ∧ KidsV w D l ao 0
abbrev SlV (w : World) (N : Nat) (l : List Pt) (ao : Option Addr) (cap : Nat) : Prop := SlD w (fun b => b < N) l ao cap
theorem SlD.keep {w w' : World} {D : Nat → Prop} {l : List Pt} {ao : Option Addr} {cap : Nat} (h : SlD w D l ao cap) (hk : ∀ b, D b → ∀ off, w'.cell? ⟨b, off, none⟩ = w.cell? ⟨b, off, none⟩) : SlD w' D l ao cap := ⟨h.1, h.2.keep hk⟩
theorem SlD.mono {w : World} {D D' : Nat → Prop} {l : List Pt} {ao : Option Addr} {cap : Nat} (h : SlD w D l ao cap) (hN : ∀ b, D b → D' b) : SlD w D' l ao cap := ⟨h.1, h.2.mono hN⟩
theorem below_cells {N : Nat} {w w' : World} (h : Below N w w') : ∀ b, b < N → ∀ off, w'.cell? ⟨b, off, none⟩ = w.cell? ⟨b, off, none⟩ := fun b hb off => h.cell (p := ⟨b, off, none⟩) hb
theorem SlV.keep {w w' : World} {N : Nat} {l : List Pt} {ao : Option Addr} {cap : Nat} (h : SlV w N l ao cap) (hk : Below N w w') : SlV w' N l ao cap := SlD.keep h (below_cells hk)
theorem SlV.mono {w : World} {N N' : Nat} {l : List Pt} {ao : Option Addr} {cap : Nat} (h : SlV w N l ao cap) (hN : N ≤ N') : SlV w N' l ao cap := SlD.mono h fun b hb => Nat.lt_of_lt_of_le hb hN
theorem SlV.on {w w' : World} {l : List Pt} {ao : Option Addr} {cap : Nat} (h : SlV w w.heap.size l ao cap) (hk : Below w.heap.size w w') : SlV w' w'.heap.size l ao cap := (SlV.keep h hk).mono hk.size

/-! what the program computes -/
mutual
def bare : Pt → Pt
  | .mk k n o a s kids => if k = 2 then bareL kids else if k = 1 then anyP else .mk k n o a s kids
def bareL : List Pt → Pt
  | [] => anyP
  | p :: _ => bare p
end
structure Hd where
  k : Int
  n : Int
  c : Nat
  s : ByteArray
deriving DecidableEq
def headOf (p : Pt) : Hd := ⟨p.k, if p.k = 5 then 0 else p.n, p.kids.length, if p.k = 4 then p.s else ⟨#[]⟩⟩
def given (h : Hd) : List Pt → Option (List Pt)
  | [] => none
  | p :: r => if (bare p).k = 0 then some (List.replicate h.c anyP ++ r) else if headOf (bare p) = h then some ((bare p).kids ++ r) else none
def rest1 : List Pt → Option (List Pt)
  | [] => none
  | p :: r => if (bare p).k = 0 then some r else none
/-- the bare first patterns that are not any, each head once -/
def firstsG : List (List Pt) → List Pt → List Pt
  | [], l => l
  | [] :: rs, l => firstsG rs l
  | (p :: _) :: rs, l => if (bare p).k = 0 then firstsG rs l else if l.any (fun q => decide (headOf q = headOf (bare p))) then firstsG rs l else firstsG rs (l ++ [bare p])
def firsts (rows : List (List Pt)) : List Pt := firstsG rows []
def whole (l : List Pt) : Bool :=
  match l with
  | [] => false
  | p :: _ => if p.k = 5 then true else if p.k = 6 then (List.range p.o.toNat).all (fun i => l.any fun q => decide (q.k = 6 ∧ q.n = i)) else false
def usefulD : Nat → List (List Pt) → List Pt → Bool
  | 0, _, _ => false
  | _ + 1, rows, [] => rows.isEmpty
  | f + 1, rows, p :: r =>
    if (bare p).k ≠ 0 then usefulD f (rows.filterMap (given (headOf (bare p)))) ((bare p).kids ++ r)
    else if whole (firsts rows) then (firsts rows).any fun q => usefulD f (rows.filterMap (given (headOf q))) (List.replicate (headOf q).c anyP ++ r)
    else usefulD f (rows.filterMap rest1) r
/-- may a pattern be, its kids aside? -/
def okP (p : Pt) : Bool :=
  if p.k = 0 ∨ p.k = 1 ∨ p.k = 3 ∨ p.k = 4 then decide (p.kids.length = 0)
  else if p.k = 2 then decide (p.kids.length = 1)
  else if p.k = 5 then decide (p.kids.length ≠ 1)
  else if p.k = 6 then decide (p.kids.length ≤ 1 ∧ 0 ≤ p.n ∧ p.n < p.o)
  else if p.k = 7 then decide (p.kids.length ≤ 1)
  else false
mutual
def Proper : Pt → Prop
  | .mk k n o a s kids => okP (.mk k n o a s kids) = true ∧ ProperL kids
def ProperL : List Pt → Prop
  | [] => True
  | p :: ps => Proper p ∧ ProperL ps
end
mutual
def wt : Pt → Nat
  | .mk k _ _ _ _ kids => if k = 0 ∨ k = 1 then 0 else 1 + kids.length + wtL kids
def wtL : List Pt → Nat
  | [] => 0
  | p :: ps => wt p + wtL ps
end
mutual
def parts : Pt → Nat
  | .mk _ _ _ _ _ kids => 1 + partsL kids
def partsL : List Pt → Nat
  | [] => 0
  | p :: ps => parts p + partsL ps
end
end Go.Proofs.Ytcieoelogocjkaa
