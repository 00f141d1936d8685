/-
  Proved: plain laws of the program's heads: a set of numbers below a bound has as many members as the bound just if each is there. No condition.
-/
import Derived.Test.YtcieoelogocjkaaV3
import Derived.Maps.OwnSet
set_option linter.unusedSimpArgs false
set_option linter.unusedVariables false
namespace Go.Proofs.Ytcieoelogocjkaa
open Go.RowKit

theorem nodup_sub {α : Type} [BEq α] [LawfulBEq α] : ∀ (A B : List α), A.Nodup → (∀ x ∈ A, x ∈ B) → A.length ≤ B.length
  | [], _, _, _ => Nat.zero_le _
  | a :: A, B, hA, hB => by
    have hA' := List.nodup_cons.1 hA
    have ha := hB a (by simp)
    have := nodup_sub A (B.erase a) hA'.2 (fun x hx => (List.mem_erase_of_ne (fun e => hA'.1 (by rw [← e]; exact hx))).2 (hB x (by simp [hx])))
    rw [List.length_erase_of_mem ha] at this
    have h0 := List.length_pos_of_mem ha
    simp only [List.length_cons]
    omega
/-- of nodup numbers below o: as many as o just if each below o is there -/
theorem full_iff (K : List Nat) (o : Nat) (hn : K.Nodup) (hb : ∀ x ∈ K, x < o) : K.length = o ↔ ∀ i, i < o → i ∈ K := by
  constructor
  · intro hl i hi
    refine Classical.byContradiction fun hni => ?_
    have := nodup_sub (i :: K) (List.range o) (List.nodup_cons.2 ⟨hni, hn⟩) (fun x hx => by
      rcases List.mem_cons.1 hx with rfl | hx
      · exact List.mem_range.2 hi
      · exact List.mem_range.2 (hb x hx))
    simp only [List.length_cons, List.length_range] at this
    omega
  · intro h
    have h1 := nodup_sub K (List.range o) hn (fun x hx => List.mem_range.2 (hb x hx))
    have h2 := nodup_sub (List.range o) K List.nodup_range (fun x hx => h x (List.mem_range.1 hx))
    simp only [List.length_range] at h1 h2
    omega
/-- the numbers of a list, each once -/
def addN (acc : List Nat) (x : Nat) : List Nat := if x ∈ acc then acc else acc ++ [x]
theorem addN_ok : ∀ (xs acc : List Nat), acc.Nodup → (xs.foldl addN acc).Nodup ∧ ∀ x, x ∈ xs.foldl addN acc ↔ x ∈ acc ∨ x ∈ xs
  | [], acc, h => ⟨h, by simp⟩
  | y :: ys, acc, h => by
    rw [List.foldl_cons]
    by_cases hy : y ∈ acc
    · have e : addN acc y = acc := if_pos hy
      rw [e]
      have := addN_ok ys acc h
      refine ⟨this.1, fun x => ?_⟩
      rw [this.2]
      constructor
      · rintro (h | h)
        · exact .inl h
        · exact .inr (by simp [h])
      · rintro (h | h)
        · exact .inl h
        · rcases List.mem_cons.1 h with rfl | h
          · exact .inl hy
          · exact .inr h
    · have e : addN acc y = acc ++ [y] := if_neg hy
      rw [e]
      have hnd : (acc ++ [y]).Nodup := by
        rw [List.nodup_append]
        exact ⟨h, by simp, fun a ha b hb => by simp only [List.mem_singleton] at hb; subst hb; intro e; subst e; exact hy ha⟩
      have := addN_ok ys (acc ++ [y]) hnd
      refine ⟨this.1, fun x => ?_⟩
      rw [this.2]
      simp only [List.mem_append, List.mem_cons, List.mem_singleton, List.not_mem_nil, or_false]
      constructor
      · rintro ((h | h) | h)
        · exact .inl h
        · exact .inr (.inl h)
        · exact .inr (.inr h)
      · rintro (h | h | h)
        · exact .inl (.inl h)
        · exact .inl (.inr h)
        · exact .inr h
abbrev nl (n : Nat) : Lit := .int .i64 (n : Int)
theorem sameKey_nl (a b : Nat) : (nl a).sameKey (nl b) = decide (a = b) := by
  by_cases h : a = b
  · subst h
    rw [WideAt.sameKey_self (show WideAt.IsKeyLit (nl a) from trivial)]
    simp
  · rw [Maps.sameKey_ne (fun e => h (by simp only [nl, Lit.int.injEq, true_and] at e; omega))]
    simp [h]
theorem addKey_nl : ∀ (xs acc : List Nat), (xs.map nl).foldl Maps.addKey (acc.map nl) = (xs.foldl addN acc).map nl
  | [], acc => rfl
  | y :: ys, acc => by
    rw [List.map_cons, List.foldl_cons, List.foldl_cons]
    have e : Maps.addKey (acc.map nl) (nl y) = (addN acc y).map nl := by
      unfold Maps.addKey addN
      have h1 : ((acc.map nl).any fun z => z.sameKey (nl y)) = decide (y ∈ acc) := by
        rw [Bool.eq_iff_iff]
        simp only [List.any_map, List.any_eq_true, Function.comp, decide_eq_true_eq]
        constructor
        · rintro ⟨z, hz, hs⟩
          rw [sameKey_nl] at hs
          rw [← of_decide_eq_true hs]; exact hz
        · intro h
          exact ⟨y, h, by rw [sameKey_nl]; simp⟩
      rw [h1]
      by_cases h : y ∈ acc
      · simp [h]
      · simp [h]
    rw [e]
    exact addKey_nl ys (addN acc y)
theorem size_nls (xs : List Nat) : Maps.size (Maps.setOf (H := Unit) (.lit (.int .i64 1)) (xs.map nl)) = (xs.foldl addN []).length := by
  rw [Maps.size_setOf _ _ (fun x hx => by obtain ⟨n, _, rfl⟩ := List.mem_map.1 hx; trivial)]
  have := addKey_nl xs []
  rw [List.map_nil] at this
  rw [this, List.length_map]
/-- how many constructors the first of some says -/
def ofOf (l : List Pt) : Int := match l with | [] => -1 | p :: _ => if p.k = 6 then p.o else -1
def tagsOf (of : Int) (l : List Pt) : List Nat := (l.filter fun p => decide (p.k = 6 ∧ p.n < of)).map fun p => p.n.toNat
theorem tagsOf_snoc (of : Int) (l : List Pt) (p : Pt) : tagsOf of (l ++ [p]) = tagsOf of l ++ if p.k = 6 ∧ p.n < of then [p.n.toNat] else [] := by
  unfold tagsOf
  rw [List.filter_append, List.map_append]
  by_cases h : p.k = 6 ∧ p.n < of
  · rw [if_pos h]; simp [h]
  · rw [if_neg h]; simp [h]
theorem ofOf_snoc (l : List Pt) (p : Pt) : ofOf (l ++ [p]) = if l = [] then (if p.k = 6 then p.o else -1) else ofOf l := by
  cases l with
  | nil => rfl
  | cons x xs => rfl
theorem con_range {p : Pt} (h : Proper p) (hk : p.k = 6) : 0 ≤ p.n ∧ p.n < p.o := by
  cases p with
  | mk k n o a s kids =>
    simp only [Pt.k] at hk
    subst hk
    have h2 : decide (kids.length ≤ 1 ∧ 0 ≤ n ∧ n < o) = true := h.ok
    have := of_decide_eq_true h2
    exact ⟨this.2.1, this.2.2⟩
/-- the program's whole -/
def wholeT (l : List Pt) (tn : Nat) : Bool := match l with
    | [] => false
    | p :: _ => decide (p.k = 5) || (decide (p.k = 6) && decide ((tn : Int) = ofOf l))
theorem whole_tags {l : List Pt} (hp : ∀ q ∈ l, Proper q) : whole l = wholeT l ((tagsOf (ofOf l) l).foldl addN []).length := by
  unfold wholeT
  cases l with
  | nil => rfl
  | cons p ps =>
    unfold whole
    simp only
    by_cases h5 : p.k = 5
    · simp [h5]
    · rw [if_neg h5]
      by_cases h6 : p.k = 6
      · rw [if_pos h6]
        have hr := con_range (hp p (by simp)) h6
        have ho : ofOf (p :: ps) = p.o := by simp [ofOf, h6]
        rw [ho]
        have hK := addN_ok (tagsOf p.o (p :: ps)) [] (by simp)
        have hmem : ∀ x, x ∈ tagsOf p.o (p :: ps) ↔ ∃ q ∈ p :: ps, q.k = 6 ∧ q.n < p.o ∧ q.n.toNat = x := by
          intro x
          unfold tagsOf
          simp only [List.mem_map, List.mem_filter, decide_eq_true_eq]
          constructor
          · rintro ⟨q, ⟨h1, h2, h3⟩, h4⟩; exact ⟨q, h1, h2, h3, h4⟩
          · rintro ⟨q, h1, h2, h3, h4⟩; exact ⟨q, ⟨h1, h2, h3⟩, h4⟩
        have hfull := full_iff ((tagsOf p.o (p :: ps)).foldl addN []) p.o.toNat hK.1 (fun x hx => by
          rcases (hK.2 x).1 hx with h | h
          · simp at h
          · obtain ⟨q, hq, h1, h2, rfl⟩ := (hmem x).1 h
            have := con_range (hp q hq) h1
            omega)
        have he : (((tagsOf p.o (p :: ps)).foldl addN []).length : Int) = p.o ↔ ((tagsOf p.o (p :: ps)).foldl addN []).length = p.o.toNat := by omega
        have e1 : (decide (p.k = 5) || (decide (p.k = 6) && decide ((((tagsOf p.o (p :: ps)).foldl addN []).length : Int) = p.o))) = decide ((((tagsOf p.o (p :: ps)).foldl addN []).length : Int) = p.o) := by simp [h6]
        rw [e1, Bool.eq_iff_iff, decide_eq_true_eq, he, hfull, List.all_eq_true]
        constructor
        · intro h i hi
          have := h i (List.mem_range.2 hi)
          rw [List.any_eq_true] at this
          obtain ⟨q, hq, hqq⟩ := this
          have hqq := of_decide_eq_true hqq
          refine (hK.2 i).2 (.inr ((hmem i).2 ⟨q, hq, hqq.1, by omega, by omega⟩))
        · intro h i hi
          have := (hK.2 i).1 (h i (List.mem_range.1 hi))
          rcases this with h' | h'
          · simp at h'
          · obtain ⟨q, hq, h1, h2, h3⟩ := (hmem i).1 h'
            rw [List.any_eq_true]
            have := con_range (hp q hq) h1
            exact ⟨q, hq, by simp only [decide_eq_true_eq]; exact ⟨h1, by omega⟩⟩
      · rw [if_neg h6]
        simp [h5, h6]
end Go.Proofs.Ytcieoelogocjkaa
