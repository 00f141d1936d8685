/-
  Proved: how the document's heap stands in memory; plain facts on what can be reached in it. No condition.
-/
import Derived.Test.YtidjfmkclabagaaM1
set_option linter.unusedSimpArgs false
set_option linter.unusedVariables false
namespace Go.Proofs.Ytidjfmkclabagaa
open Go.RowKit

/-- a thing of the document's: what it is, its fields, the block where they lie -/
structure Th where
  k : Int
  t : Int
  b : Nat
  l : List C
abbrev trow (x : Th) : Array Value := #[.int .i64 x.k, .int .i64 x.t, .slice (some ⟨x.b, 0, none⟩) x.l.length x.l.length]
abbrev tzero : Array Value := #[.int .i64 0, .int .i64 0, .slice none 0 0]
abbrev LMap := Nat → Option Th
/-- the things as a map's content -/
def fL (L : LMap) (k : Int) : Option Value := if 0 ≤ k then (L k.toNat).map fun x => .agg (trow x) else none
theorem fL_nat (L : LMap) (j : Nat) : fL L (j : Int) = (L j).map fun x => .agg (trow x) := by unfold fL; simp
/-- the document's heap -/
structure Rf where
  rb : Nat
  mb : Option Nat
  sz : Nat
  nx : Nat
  cnt : Nat
  L : LMap
def rrow (r : Rf) : Array Value := #[.int .i64 r.sz, .map r.mb, .int .i64 r.nx]
structure RfAt (w : World) (r : Rf) : Prop where
  h : w.heap[r.rb]? = some (.cells (rrow r) 31 (0, 0))
  m : ∀ b, r.mb = some b → MapF w b r.cnt (fL r.L)
  mn : r.mb = none → ∀ j, r.L j = none
  th : ∀ j x, r.L j = some x → Cells w x.b x.l
  ne : ∀ j x j' x', r.L j = some x → r.L j' = some x' → j ≠ j' → x.b ≠ x'.b
  lt : ∀ j x, r.L j = some x → j < r.nx
  cnt : r.cnt ≤ r.nx
  nx : r.nx ≤ 100000000000000
theorem RfAt.lh {w : World} {r : Rf} (h : RfAt w r) : r.rb < w.heap.size := lt_of_block h.h
theorem RfAt.keep {w w' : World} {S : Nat → Prop} {r : Rf} (h : RfAt w r) (hk : Keeps S w w') (h1 : ¬ S r.rb) (h2 : ∀ b, r.mb = some b → ¬ S b) (h3 : ∀ j x, r.L j = some x → ¬ S x.b) : RfAt w' r :=
  ⟨hk.blk h.h h1, fun b hb => (h.m b hb).of_same (hk.block _ (h.m b hb).lt (h2 b hb)), h.mn, fun j x hx => hk.blk (h.th j x hx) (h3 j x hx), h.ne, h.lt, h.cnt, h.nx⟩
/-- what can be reached -/
inductive RchL (L : LMap) (q : List C) : Nat → Prop
  | root {c : C} {j : Nat} : c ∈ q → c.p = true → c.n = j → RchL L q j
  | fld {i : Nat} {x : Th} {c : C} {j : Nat} : RchL L q i → L i = some x → c ∈ x.l → c.p = true → c.n = j → RchL L q j
/-- whatever a cell refers to is there -/
structure ClosedL (L : LMap) (q : List C) : Prop where
  root : ∀ c ∈ q, c.p = true → ∃ j x, c.n = ((j : Nat) : Int) ∧ L j = some x
  fld : ∀ i x, L i = some x → ∀ c ∈ x.l, c.p = true → ∃ j y, c.n = ((j : Nat) : Int) ∧ L j = some y
  numq : ∀ c ∈ q, I64 c.n
  numf : ∀ i x, L i = some x → ∀ c ∈ x.l, I64 c.n
theorem RchL.there {L : LMap} {q : List C} (h : ClosedL L q) {j : Nat} (hj : RchL L q j) : ∃ x, L j = some x := by
  cases hj with
  | root hc hp hn =>
    obtain ⟨j', x, h1, h2⟩ := h.root _ hc hp
    have : j' = _ := Int.ofNat.inj (h1.symm.trans hn)
    rw [← this]; exact ⟨x, h2⟩
  | fld _ hx hc hp hn =>
    obtain ⟨j', y, h1, h2⟩ := h.fld _ _ hx _ hc hp
    have : j' = _ := Int.ofNat.inj (h1.symm.trans hn)
    rw [← this]; exact ⟨y, h2⟩
/-- the fields of a thing -/
def flds (L : LMap) (j : Nat) : List C := ((L j).map (·.l)).getD []
/-- how many cells some things take -/
def S (L : LMap) : List Nat → Nat
  | [] => 0
  | j :: K => 1 + (flds L j).length + S L K
theorem S_app (L : LMap) : ∀ (A B : List Nat), S L (A ++ B) = S L A + S L B
  | [], _ => by simp [S]
  | a :: A, B => by rw [List.cons_append, S, S, S_app L A B]; omega
theorem flds_len (L : LMap) : ∀ (K : List Nat), (K.flatMap (flds L)).length + K.length = S L K
  | [] => rfl
  | j :: K => by
    have := flds_len L K
    rw [List.flatMap_cons, List.length_append, S, List.length_cons]
    omega
def restr (L : LMap) (K : List Nat) : LMap := fun j => if j ∈ K then L j else none
theorem fL_restr_snoc (L : LMap) (K : List Nat) (j : Nat) {x : Th} (hx : L j = some x) (k : Int) : fL (restr L (K ++ [j])) k = if k = (j : Int) then some (.agg (trow x)) else fL (restr L K) k := by
  unfold fL
  by_cases hk : 0 ≤ k
  · rw [if_pos hk, if_pos hk]
    by_cases e : k = (j : Int)
    · subst e
      rw [if_pos rfl, Int.toNat_natCast]
      simp [restr, hx]
    · rw [if_neg e]
      have : k.toNat ≠ j := by omega
      unfold restr
      simp [this]
  · rw [if_neg hk, if_neg hk, if_neg (by omega)]
/-- what has been gone over, of the document's -/
structure LSt (L : LMap) (q : List C) (K : List Nat) (i : Nat) : Prop where
  nd : K.Nodup
  sub : ∀ j ∈ K, RchL L q j
  dn : ∀ (n : Nat) (h : n < (q ++ K.flatMap (flds L)).length), n < i → (q ++ K.flatMap (flds L))[n].p = true → ∃ j ∈ K, (q ++ K.flatMap (flds L))[n].n = ((j : Nat) : Int)
theorem lst_start (L : LMap) (q : List C) : LSt L q [] 0 := ⟨List.nodup_nil, fun j h => by simp at h, fun n _ h => by omega⟩
/-- what stands in the queue is reached -/
theorem lst_rch {L : LMap} {q : List C} {K : List Nat} {i : Nat} (h : LSt L q K i) {c : C} (hc : c ∈ q ++ K.flatMap (flds L)) (hp : c.p = true) {j : Nat} (hn : c.n = j) : RchL L q j := by
  rcases List.mem_append.1 hc with hc | hc
  · exact .root hc hp hn
  · obtain ⟨i', hi', hc'⟩ := List.mem_flatMap.1 hc
    unfold flds at hc'
    cases hx : L i' with
    | none => rw [hx] at hc'; simp at hc'
    | some x =>
      rw [hx] at hc'
      exact .fld (h.sub i' hi') hx (by simpa using hc') hp hn
theorem lst_skip {L : LMap} {q : List C} {K : List Nat} {i : Nat} (h : LSt L q K i) (hi : i < (q ++ K.flatMap (flds L)).length) (hd : (q ++ K.flatMap (flds L))[i].p = true → ∃ j ∈ K, (q ++ K.flatMap (flds L))[i].n = ((j : Nat) : Int)) : LSt L q K (i + 1) :=
  ⟨h.nd, h.sub, fun n hn hlt hp => by
    by_cases e : n = i
    · subst e; exact hd hp
    · exact h.dn n hn (by omega) hp⟩
theorem lst_new {L : LMap} {q : List C} {K : List Nat} {i : Nat} (h : LSt L q K i) (hi : i < (q ++ K.flatMap (flds L)).length) {j : Nat} (hp : (q ++ K.flatMap (flds L))[i].p = true) (hn : (q ++ K.flatMap (flds L))[i].n = ((j : Nat) : Int)) (hj : j ∉ K) : LSt L q (K ++ [j]) (i + 1) := by
  refine ⟨?_, fun x hx => ?_, fun n hn' hlt hp' => ?_⟩
  · rw [List.nodup_append]
    exact ⟨h.nd, by simp, fun x hx y hy e => by simp at hy; subst hy; subst e; exact hj hx⟩
  · rcases List.mem_append.1 hx with hx | hx
    · exact h.sub x hx
    · simp at hx; subst hx
      exact lst_rch h (List.getElem_mem hi) hp hn
  · have e : q ++ (K ++ [j]).flatMap (flds L) = (q ++ K.flatMap (flds L)) ++ flds L j := by rw [List.flatMap_append]; simp
    have hlt2 : n < (q ++ K.flatMap (flds L)).length := by omega
    have hg : (q ++ (K ++ [j]).flatMap (flds L))[n] = (q ++ K.flatMap (flds L))[n] := by
      simp only [e]
      rw [List.getElem_append_left hlt2]
    rw [hg] at hp' ⊢
    by_cases e2 : n = i
    · subst e2; exact ⟨j, by simp, hn⟩
    · obtain ⟨j', h1, h2⟩ := h.dn n hlt2 (by omega) hp'
      exact ⟨j', by simp [h1], h2⟩
/-- at the end what is reached has been kept -/
theorem lst_end {L : LMap} {q : List C} {K : List Nat} (h : LSt L q K (q ++ K.flatMap (flds L)).length) : ∀ j, RchL L q j → j ∈ K := by
  have key : ∀ c ∈ q ++ K.flatMap (flds L), c.p = true → ∀ j : Nat, c.n = j → j ∈ K := by
    intro c hc hp j hn
    obtain ⟨n, hn', e⟩ := List.getElem_of_mem hc
    obtain ⟨j', h1, h2⟩ := h.dn n hn' hn' (by rw [e]; exact hp)
    rw [e, hn] at h2
    have : j = j' := Int.ofNat.inj h2
    rw [this]; exact h1
  intro j hj
  induction hj with
  | root hc hp hn => exact key _ (List.mem_append_left _ hc) hp _ hn
  | fld _ hx hc hp hn ih =>
    refine key _ (List.mem_append_right _ (List.mem_flatMap.2 ⟨_, ih, ?_⟩)) hp _ hn
    unfold flds
    rw [hx]
    exact hc
end Go.Proofs.Ytidjfmkclabagaa
