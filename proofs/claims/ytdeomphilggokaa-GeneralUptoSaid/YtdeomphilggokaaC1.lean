/-
  Proved: rows of binds of one's own: read, grown, carried. No condition.
-/
import Derived.Test.YtdeomphilggokaaB6
set_option linter.unusedSimpArgs false
set_option linter.unusedVariables false
namespace Go.Proofs.Ytdeomphilggokaa
open Go.RowKit

/-- a bind in memory: its number, its type, where the type's arguments lie -/
structure Bd where
  n : Int
  t : Ty
  ao : Option Addr
  cap : Nat
instance : Inhabited Bd := ⟨⟨0, default, none, 0⟩⟩
def Bd.cells (b : Bd) : List Value := .int .i64 b.n :: (rowOf b.t b.ao b.cap).toList
def Bd.pair (b : Bd) : Int × Ty := (b.n, b.t)
theorem Bd.len (b : Bd) : b.cells.length = 6 := rfl
def bcells : List Bd → List Value
  | [] => []
  | b :: bs => b.cells ++ bcells bs
theorem bcells_len : ∀ (bs : List Bd), (bcells bs).length = bs.length * 6
  | [] => rfl
  | b :: bs => by rw [bcells, List.length_append, Bd.len, bcells_len bs, List.length_cons]; omega
theorem bcells_append : ∀ (bs cs : List Bd), bcells (bs ++ cs) = bcells bs ++ bcells cs
  | [], cs => by simp [bcells]
  | b :: bs, cs => by rw [List.cons_append, bcells, bcells, bcells_append bs cs, List.append_assoc]
theorem bcells_get : ∀ {bs : List Bd} {i j : Nat} (h : i < bs.length), j < 6 → (bcells bs)[i * 6 + j]? = bs[i].cells[j]?
  | b :: bs, 0, j, _, hj => by rw [bcells, Nat.zero_mul, Nat.zero_add, List.getElem?_append_left (by rw [Bd.len]; exact hj)]; rfl
  | b :: bs, i + 1, j, h, hj => by
    rw [bcells, List.getElem?_append_right (by rw [Bd.len]; omega), Bd.len, show (i + 1) * 6 + j - 6 = i * 6 + j from by omega, bcells_get (by simpa using h) hj]
    rfl
theorem bd_one (b : Bd) : ∀ u ∈ b.cells, u.oneCell' = true := by
  intro u hu
  simp [Bd.cells, rowOf] at hu
  rcases hu with rfl | rfl | rfl | rfl | rfl | rfl <;> rfl
theorem bcells_one : ∀ (bs : List Bd), ∀ u ∈ bcells bs, u.oneCell' = true
  | b :: bs, u, hu => by
    rw [bcells, List.mem_append] at hu
    rcases hu with hu | hu
    · exact bd_one b u hu
    · exact bcells_one bs u hu
/-- a row of binds of one's own, at B or above; the types' arguments in blocks of D -/
structure OwnB (B : Nat) (w : World) (D : Nat → Prop) (v : Value) (bs : List Bd) : Prop where
  own : w.ownsRow B 35 6 v bs.length (bcells bs)
  sl : ∀ b ∈ bs, SlD w D b.t.args b.ao b.cap
theorem OwnB.nil (B : Nat) (w : World) (D : Nat → Prop) : OwnB B w D (.slice none 0 0) [] := ⟨World.ownsRow_nil _ _ _ _, fun b h => by cases h⟩
theorem OwnB.keep {B : Nat} {w w' : World} {D : Nat → Prop} {v : Value} {bs : List Bd} (h : OwnB B w D v bs) (hb : Below w.heap.size w w') (hD : ∀ b, D b → b < w.heap.size) : OwnB B w' D v bs :=
  ⟨own_carry h.own fun g c f hg => blk_below hg hb (lt_of_block hg), fun b hm => (h.sl b hm).keep fun d hd off => below_cells hb d (hD d hd) off⟩
theorem size35 (w : World) : (sizeOf 35).run Try.prog w = .ok 6 w := by kernel_rfl
theorem info35 : (Try.prog.info? 35).map (fun i => (i.zero, i.size, i.bytes)) = some (some (.agg #[.int .i64 0, .int .i64 0, .int .i64 0, .string ⟨#[]⟩, .int .i64 0, .slice none 0 0]), 6, 72) := by kernel_rfl
/-- a bind as a walk reads it -/
theorem OwnB.get {B : Nat} {w : World} {D : Nat → Prop} {v : Value} {bs : List Bd} (h : OwnB B w D v bs) : ∃ ao cap, v = .slice ao bs.length cap ∧ ∀ i (_ : i < bs.length), ∃ g, B ≤ g ∧ g < w.heap.size ∧
    (∀ w' : World, (Instr.indexAt 25 (.slice ao bs.length cap) (.int .i64 i)).run Try.prog w' = .ok (.pointer (some ⟨g, i * 6, none⟩)) w') ∧ ∀ j, j < 6 → w.cell? ⟨g, i * 6 + j, none⟩ = bs[i].cells[j]? := by
  rcases h.own.2 with ⟨rfl, h0⟩ | ⟨g, cap, cur, rfl, hB, hg, hc, hm, hs, ht⟩
  · exact ⟨none, 0, by rw [h0], fun i hi => by omega⟩
  · refine ⟨_, cap, rfl, fun i hi => ⟨g, hB, lt_of_block hg, fun w' => ?_, fun j hj => ?_⟩⟩
    · have h := index_at Try.underlying25 size35 (ao := some ⟨g, 0, none⟩) rfl bs.length cap i hi w'
      rwa [Nat.zero_add] at h
    · have h4 := bcells_get hi hj
      rw [← ht, List.getElem?_take, if_pos (by omega), Array.getElem?_toList] at h4
      rw [blk_cell hg]
      exact h4
/-- what is matched: the first bind of a number -/
def findB (l : List (Int × Ty)) (n : Int) : Option Ty := (l.find? fun x => decide (x.1 = n)).map (·.2)
mutual
/-- what a general type's variables stand for in a special one -/
def matchD : List (Int × Ty) → Ty → Ty → List (Int × Ty) × Bool
  | l, .mk k n s q args, .mk k' n' s' q' args' =>
    if k = 0 then
      if q = 1 ∧ eqD (.mk k' n' s' q' args') = 0 then (l, false)
      else match findB l n with
        | some x => (l, alikeD x (.mk k' n' s' q' args'))
        | none => (l ++ [(n, .mk k' n' s' q' args')], true)
    else if headA (.mk k n s q args) (.mk k' n' s' q' args') then matchL l args args' else (l, false)
def matchL : List (Int × Ty) → List Ty → List Ty → List (Int × Ty) × Bool
  | l, [], _ => (l, true)
  | l, _ :: _, [] => (l, true)
  | l, p :: ps, r :: rs => if (matchD l p r).2 = true then matchL (matchD l p r).1 ps rs else ((matchD l p r).1, false)
end
theorem match_args (l : List (Int × Ty)) (g t : Ty) : matchD l g t =
    if g.k = 0 then
      if g.q = 1 ∧ eqD t = 0 then (l, false)
      else match findB l g.n with
        | some x => (l, alikeD x t)
        | none => (l ++ [(g.n, t)], true)
    else if headA g t then matchL l g.args t.args else (l, false) := by cases g; cases t; rw [matchD]; rfl
theorem matchL_take : ∀ {a b : List Ty} {j : Nat} (h : j < a.length) (h' : j < b.length) (l : List (Int × Ty)), (matchL l (a.take j) (b.take j)).2 = true →
    matchL l (a.take (j + 1)) (b.take (j + 1)) = matchD (matchL l (a.take j) (b.take j)).1 a[j] b[j]
  | p :: ps, r :: rs, 0, _, _, l, _ => by
    simp only [List.take_succ_cons, List.take_zero, matchL, List.getElem_cons_zero]
    cases e : (matchD l p r).2 with
    | true => simp [Prod.ext_iff, e]
    | false => simp [Prod.ext_iff, e]
  | p :: ps, r :: rs, j + 1, h, h', l, hok => by
    rw [List.take_succ_cons, List.take_succ_cons, matchL] at hok
    rw [List.take_succ_cons, List.take_succ_cons, List.take_succ_cons, List.take_succ_cons, matchL, matchL]
    by_cases e : (matchD l p r).2 = true
    · rw [if_pos e] at hok
      rw [if_pos e, if_pos e]
      exact matchL_take (by simpa using h) (by simpa using h') _ hok
    · rw [if_neg e] at hok
      cases hok
theorem matchL_stop : ∀ {a b : List Ty} {j : Nat} (l : List (Int × Ty)), (matchL l (a.take j) (b.take j)).2 = false → (matchL l a b).2 = false
  | [], b, j, l, h => by simp [matchL] at h
  | p :: ps, [], j, l, h => by
    cases j <;> simp [matchL] at h
  | p :: ps, r :: rs, 0, l, h => by simp [matchL] at h
  | p :: ps, r :: rs, j + 1, l, h => by
    rw [List.take_succ_cons, List.take_succ_cons, matchL] at h
    rw [matchL]
    by_cases e : (matchD l p r).2 = true
    · rw [if_pos e] at h ⊢
      exact matchL_stop _ h
    · rw [if_neg e]
end Go.Proofs.Ytdeomphilggokaa
