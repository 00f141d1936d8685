/-
  Proved: what a shown type is, in plain Lean, and how great it is. No condition.
-/
import Derived.Test.YtdeomphilggokaaS3
set_option linter.unusedSimpArgs false
set_option linter.unusedVariables false
namespace Go.Proofs.Ytdeomphilggokaa
open Go.RowKit

def arrowS : ByteArray := ⟨#[32, 45, 62, 32]⟩
def starS : ByteArray := ⟨#[32, 42, 32]⟩
def commaS : ByteArray := ⟨#[44, 32]⟩
def blankS : ByteArray := ⟨#[32]⟩
def closeS : ByteArray := ⟨#[41, 32]⟩
/-- texts, a sign between each two -/
def joinB (sep : ByteArray) : List ByteArray → ByteArray
  | [] => ⟨#[]⟩
  | x :: xs => xs.foldl (fun a y => (a ++ sep) ++ y) x
def roundD (b : Bool) (s : ByteArray) : ByteArray := if b then parD s else s
def conD (s : ByteArray) (one many : List ByteArray) : ByteArray :=
  match one with
  | [] => s
  | [x] => (x ++ blankS) ++ s
  | _ => ((⟨#[40]⟩ ++ joinB commaS many) ++ closeS) ++ s
mutual
def showD (L : List Int) : Ty → Int → ByteArray
  | .mk k n s q args, least =>
    if k = 0 then nameD L n q
    else if k = 3 then roundD (decide (0 < least)) (((showL L args 1).headD ⟨#[]⟩ ++ arrowS) ++ ((showL L args 0).drop 1).headD ⟨#[]⟩)
    else if k = 2 then roundD (decide (1 < least)) (joinB starS (showL L args 2))
    else conD s (showL L args 2) (showL L args 0)
def showL (L : List Int) : List Ty → Int → List ByteArray
  | [], _ => []
  | p :: ps, c => showD L p c :: showL L ps c
end
theorem show_args (L : List Int) (t : Ty) (c : Int) : showD L t c = if t.k = 0 then nameD L t.n t.q
    else if t.k = 3 then roundD (decide (0 < c)) (((showL L t.args 1).headD ⟨#[]⟩ ++ arrowS) ++ ((showL L t.args 0).drop 1).headD ⟨#[]⟩)
    else if t.k = 2 then roundD (decide (1 < c)) (joinB starS (showL L t.args 2))
    else conD t.s (showL L t.args 2) (showL L t.args 0) := by cases t; rw [showD]; rfl
theorem showL_eq (L : List Int) (c : Int) : ∀ l : List Ty, showL L l c = l.map (fun p => showD L p c)
  | [] => by simp [showL]
  | p :: ps => by rw [showL, showL_eq L c ps]; rfl
theorem showL_len (L : List Int) (c : Int) (l : List Ty) : (showL L l c).length = l.length := by rw [showL_eq]; simp
theorem joinB_snoc (sep : ByteArray) (l : List ByteArray) (x : ByteArray) : joinB sep (l ++ [x]) = if l = [] then x else (joinB sep l ++ sep) ++ x := by
  cases l with
  | nil => rfl
  | cons y ys => simp [joinB, List.foldl_append]
theorem join_take (sep : ByteArray) (L : List Int) (c : Int) {l : List Ty} {j : Nat} (h : j < l.length) : joinB sep ((showL L l c).take (j + 1)) = if j = 0 then showD L l[j] c else (joinB sep ((showL L l c).take j) ++ sep) ++ showD L l[j] c := by
  have hj : j < (showL L l c).length := by rw [showL_len]; exact h
  rw [List.take_succ_eq_append_getElem hj, joinB_snoc]
  have e : (showL L l c)[j] = showD L l[j] c := by simp [showL_eq]
  rw [e]
  by_cases h0 : j = 0
  · subst h0
    simp
  · rw [if_neg h0, if_neg (fun e => ?_)]
    have h1 := congrArg List.length e
    simp at h1
    rcases h1 with h1 | h1
    · exact h0 h1
    · rw [h1] at hj; simp at hj
theorem empty_add (s : ByteArray) : (⟨#[]⟩ : ByteArray) ++ s = s := ByteArray.empty_append
theorem arrow_args (L : List Int) {l : List Ty} (h : l.length = 2) : ((showL L l 1).headD ⟨#[]⟩ ++ arrowS) ++ ((showL L l 0).drop 1).headD ⟨#[]⟩ = (showD L (l[0]'(by omega)) 1 ++ arrowS) ++ showD L (l[1]'(by omega)) 0 := by
  match l, h with
  | [a, b], _ => simp [showL]
theorem con_none (L : List Int) (s : ByteArray) {l : List Ty} (h : l.length = 0) (m : List ByteArray) : conD s (showL L l 2) m = s := by
  match l, h with
  | [], _ => simp [showL, conD]
theorem con_one (L : List Int) (s : ByteArray) {l : List Ty} (h : l.length = 1) (m : List ByteArray) : conD s (showL L l 2) m = (showD L (l[0]'(by omega)) 2 ++ blankS) ++ s := by
  match l, h with
  | [a], _ => simp [showL, conD]
theorem con_many (L : List Int) (s : ByteArray) {l : List Ty} (h : 2 ≤ l.length) (m : List ByteArray) : conD s (showL L l 2) m = ((⟨#[40]⟩ ++ joinB commaS m) ++ closeS) ++ s := by
  match l, h with
  | a :: b :: r, _ => simp [showL, conD]

/-- texts' sizes, ten more for each -/
def totB : List ByteArray → Nat
  | [] => 0
  | x :: xs => (x.size + 10) + totB xs
theorem foldl_tot (sep : ByteArray) (hs : sep.size ≤ 10) : ∀ (l : List ByteArray) (x : ByteArray), (l.foldl (fun a y => (a ++ sep) ++ y) x).size ≤ x.size + totB l
  | [], x => by simp [totB]
  | y :: ys, x => by
    rw [List.foldl_cons, totB]
    have h := foldl_tot sep hs ys ((x ++ sep) ++ y)
    rw [ByteArray.size_append, ByteArray.size_append] at h
    omega
theorem join_tot (sep : ByteArray) (hs : sep.size ≤ 10) : ∀ l : List ByteArray, (joinB sep l).size ≤ totB l
  | [] => Nat.le_refl _
  | x :: xs => by
    have h := foldl_tot sep hs xs x
    rw [joinB, totB]
    omega
theorem tot_take : ∀ (l : List ByteArray) (j : Nat), totB (l.take j) ≤ totB l
  | [], j => by simp
  | x :: xs, 0 => by simp [totB]
  | x :: xs, j + 1 => by
    rw [List.take_succ_cons, totB, totB]
    have := tot_take xs j
    omega
abbrev bigK : Nat := 140737488355328 + 2000
theorem nameD_size (L : List Int) (n q : Int) (hL : L.length ≤ 1000) : (nameD L n q).size ≤ 1100 := by
  rw [nameD, ByteArray.size_append]
  have h1 := letD_size (L.idxOf n)
  have h2 := List.idxOf_le_length (a := n) (l := L)
  have h3 : (if q = 1 then (⟨#[39, 39]⟩ : ByteArray) else ⟨#[39]⟩).size ≤ 2 := by
    split
    · exact Nat.le_refl _
    · exact Nat.le_succ _
  omega
theorem roundD_size (b : Bool) (s : ByteArray) : (roundD b s).size ≤ s.size + 2 := by
  unfold roundD
  split
  · unfold parD
    rw [ByteArray.size_append, ByteArray.size_append]
    have h1 : (⟨#[40]⟩ : ByteArray).size = 1 := rfl
    have h2 : (⟨#[41]⟩ : ByteArray).size = 1 := rfl
    omega
  · omega
theorem head_tot (l : List ByteArray) : (l.headD ⟨#[]⟩).size ≤ totB l := by
  cases l with
  | nil => exact Nat.le_refl _
  | cons x xs => rw [totB]; show x.size ≤ _; omega
theorem second_tot (l : List ByteArray) : ((l.drop 1).headD ⟨#[]⟩).size ≤ totB l := by
  cases l with
  | nil => exact Nat.le_refl _
  | cons x xs =>
    rw [totB]
    have h := head_tot xs
    show (xs.headD _).size ≤ _
    omega
mutual
theorem showD_size (L : List Int) (hL : L.length ≤ 1000) : ∀ (t : Ty) (c : Int), Fits t → (showD L t c).size + 100 ≤ (2 * parts t - 1) * bigK
  | .mk k n s q args, c, hf => by
    have hs : s.size ≤ 140737488355328 := by unfold Fits at hf; exact hf.1.2.2.1
    have ha : FitsL args := by unfold Fits at hf; exact hf.2.2
    rw [showD, parts]
    have hn := nameD_size L n q hL
    have t0 := showL_size L hL args 0 ha
    have t1 := showL_size L hL args 1 ha
    have t2 := showL_size L hL args 2 ha
    have z1 : arrowS.size = 4 := rfl
    have z2 : starS.size = 3 := rfl
    have z3 : commaS.size = 2 := rfl
    have z4 : blankS.size = 1 := rfl
    have z5 : closeS.size = 2 := rfl
    have z6 : (⟨#[40]⟩ : ByteArray).size = 1 := rfl
    have e : (2 * (1 + partsL args) - 1) * bigK = bigK + 2 * partsL args * bigK := by
      rw [show 2 * (1 + partsL args) - 1 = 1 + 2 * partsL args from by omega, Nat.add_mul, Nat.one_mul]
    rw [e]
    obtain ⟨m, hm⟩ : ∃ m, m = 2 * partsL args * bigK := ⟨_, rfl⟩
    have hK : bigK = 140737488357328 := rfl
    rw [← hm] at t0 t1 t2 ⊢
    split
    · omega
    · split
      · have h1 := roundD_size (decide (0 < c)) (((showL L args 1).headD ⟨#[]⟩ ++ arrowS) ++ ((showL L args 0).drop 1).headD ⟨#[]⟩)
        rw [ByteArray.size_append, ByteArray.size_append] at h1
        have h2 := arrow_two L hL args ha
        rw [← hm] at h2
        omega
      · split
        · have h1 := roundD_size (decide (1 < c)) (joinB starS (showL L args 2))
          have h2 := join_tot starS (by omega) (showL L args 2)
          omega
        · unfold conD
          split
          · omega
          · rename_i x hx
            rw [hx, totB, totB] at t2
            rw [ByteArray.size_append, ByteArray.size_append]
            omega
          · rw [ByteArray.size_append, ByteArray.size_append, ByteArray.size_append]
            have h2 := join_tot commaS (by omega) (showL L args 0)
            omega
theorem showL_size (L : List Int) (hL : L.length ≤ 1000) : ∀ (l : List Ty) (c : Int), FitsL l → totB (showL L l c) ≤ 2 * partsL l * bigK
  | [], c, _ => by simp [showL, totB, partsL]
  | p :: ps, c, hf => by
    unfold FitsL at hf
    rw [showL, totB, partsL]
    have h1 := showD_size L hL p c hf.1
    have h2 := showL_size L hL ps c hf.2
    have h3 := parts_pos p
    have hK : bigK = 140737488357328 := rfl
    have e : 2 * (parts p + partsL ps) * bigK = (2 * parts p - 1) * bigK + bigK + 2 * partsL ps * bigK := by
      rw [show 2 * (parts p + partsL ps) = (2 * parts p - 1) + 1 + 2 * partsL ps from by omega, Nat.add_mul, Nat.add_mul, Nat.one_mul]
    omega
theorem arrow_two (L : List Int) (hL : L.length ≤ 1000) : ∀ (l : List Ty), FitsL l → ((showL L l 1).headD ⟨#[]⟩).size + (((showL L l 0).drop 1).headD ⟨#[]⟩).size ≤ 2 * partsL l * bigK
  | [], _ => by
    simp only [showL, partsL, List.headD_nil, List.drop_nil]
    exact Nat.le_refl _
  | p :: ps, hf => by
    unfold FitsL at hf
    rw [showL, showL, partsL]
    have h1 := showD_size L hL p 1 hf.1
    have h2 := showL_size L hL ps 0 hf.2
    have h4 := head_tot (showL L ps 0)
    have h3 := parts_pos p
    have hK : bigK = 140737488357328 := rfl
    have e : 2 * (parts p + partsL ps) * bigK = (2 * parts p - 1) * bigK + bigK + 2 * partsL ps * bigK := by
      rw [show 2 * (parts p + partsL ps) = (2 * parts p - 1) + 1 + 2 * partsL ps from by omega, Nat.add_mul, Nat.add_mul, Nat.one_mul]
    show (showD L p 1).size + ((showL L ps 0).headD ⟨#[]⟩).size ≤ _
    omega
end
/-- what is shown of a small type is small -/
theorem showD_small {L : List Int} (hL : L.length ≤ 1000) {t : Ty} (hf : Fits t) (hp : parts t ≤ 400) (c : Int) : (showD L t c).size ≤ 112590000000000000 := by
  have h := showD_size L hL t c hf
  have h1 : (2 * parts t - 1) * bigK ≤ 799 * bigK := Nat.mul_le_mul_right _ (by omega)
  have h2 : 799 * bigK = 799 * 140737488357328 := rfl
  omega
theorem join_small {L : List Int} (hL : L.length ≤ 1000) {l : List Ty} (hf : FitsL l) (hp : partsL l ≤ 400) (c : Int) (sep : ByteArray) (hs : sep.size ≤ 10) (j : Nat) : (joinB sep ((showL L l c).take j)).size ≤ 112590000000000000 := by
  have h := showL_size L hL l c hf
  have h1 : (2 * partsL l) * bigK ≤ 800 * bigK := Nat.mul_le_mul_right _ (by omega)
  have h2 : 800 * bigK = 800 * 140737488357328 := rfl
  have h3 := join_tot sep hs ((showL L l c).take j)
  have h4 := tot_take (showL L l c) j
  omega
end Go.Proofs.Ytdeomphilggokaa
