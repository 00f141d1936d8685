/-
  Proved: what the lexer computes, in plain Lean: gaps, names, numbers, strings, signs, tokens; that each step goes on. No condition.
-/
import Derived.RowKit
set_option linter.unusedSimpArgs false
set_option linter.unusedVariables false
namespace Go.Proofs.YtbfeailcebfklaaDoor

/-- the byte at a place; 0 behind the end -/
def bt (s : ByteArray) (k : Nat) : Nat := (s.data.toList.getD k 0).toNat
def cut (s : ByteArray) (i j : Nat) : ByteArray := s.extract i j
theorem bt_lt (s : ByteArray) (k : Nat) : bt s k < 256 := UInt8.toNat_lt _
theorem bt_get (s : ByteArray) (k : Nat) (h : k < s.size) : (s[k]'h).toNat = bt s k := by
  have h2 : k < s.data.toList.length := by rw [Array.length_toList]; exact h
  unfold bt
  rw [List.getD_eq_getElem?_getD, List.getElem?_eq_getElem h2]
  rfl

def dig (c : Nat) : Bool := decide (48 ≤ c ∧ c ≤ 57)
def small (c : Nat) : Bool := decide (97 ≤ c ∧ c ≤ 122)
def great (c : Nat) : Bool := decide (65 ≤ c ∧ c ≤ 90)
def inName (c : Nat) : Bool := dig c || small c || great c || decide (c = 95) || decide (c = 39)
def blank (c : Nat) : Bool := decide (c = 32 ∨ c = 9 ∨ c = 10)
def signL : List Nat := [40, 41, 91, 93, 44, 59, 58, 124, 61, 60, 62, 43, 45, 42, 47, 37, 94, 126, 33, 46]
def pairL : List (Nat × Nat) := [(61, 62), (45, 62), (58, 61), (58, 58), (58, 62), (60, 62), (60, 61), (62, 61)]
/-- the program's sort of a byte -/
def srt (c : Nat) : Nat :=
  if dig c then 2 else if small c || decide (c = 95) then 3 else if great c then 4 else if c = 39 then 5 else if c ∈ signL then 6 else if c = 34 then 7 else if blank c then 1 else 0
def okB (c : Nat) : Bool := decide (c = 9 ∨ c = 10 ∨ (32 ≤ c ∧ c ≤ 126))
/-- the first byte that may not be -/
def badD (s : ByteArray) (i : Nat) : Option Nat :=
  if _h : i < s.size then if okB (bt s i) then badD s (i + 1) else some i else none
termination_by s.size - i

/-- behind bytes of such sorts -/
def whD (s : ByteArray) (p : Nat → Bool) (i : Nat) : Nat :=
  if _h : i < s.size then if p (bt s i) then whD s p (i + 1) else i else i
termination_by s.size - i
def hasD (s : ByteArray) (i a b : Nat) : Bool := decide (i + 2 ≤ s.size ∧ bt s i = a ∧ bt s (i + 1) = b)
/-- a comment: how many are open -/
def comD (s : ByteArray) (i o : Nat) : Option Nat :=
  if _h : i < s.size then
    if hasD s i 40 42 then comD s (i + 2) (o + 1)
    else if hasD s i 42 41 then (if o = 1 then some (i + 2) else comD s (i + 2) (o - 1))
    else (if o = 0 then some (i + 1) else comD s (i + 1) o)
  else none
termination_by s.size - i
/-- behind blanks and comments; false: a comment begins there that does not end -/
def gapD (s : ByteArray) (i : Nat) : Nat × Bool :=
  if _h : i < s.size then
    if hasD s i 40 42 then
      match comD s i 0 with
      | some j => if _h2 : i < j then gapD s j else (i, false)
      | none => (i, false)
    else if blank (bt s i) then gapD s (i + 1)
    else (i, true)
  else (i, true)
termination_by s.size - i
/-- what stands behind a \: the byte, and the place behind -/
def escD (s : ByteArray) (i : Nat) : Option (Nat × Nat) :=
  if i < s.size then
    if bt s i = 110 then some (10, i + 1)
    else if bt s i = 116 then some (9, i + 1)
    else if bt s i = 92 ∨ bt s i = 34 then some (bt s i, i + 1)
    else if i + 2 < s.size ∧ dig (bt s i) ∧ dig (bt s (i + 1)) ∧ dig (bt s (i + 2)) then
      (if 100 * (bt s i - 48) + 10 * (bt s (i + 1) - 48) + (bt s (i + 2) - 48) < 256 then some (100 * (bt s i - 48) + 10 * (bt s (i + 1) - 48) + (bt s (i + 2) - 48), i + 3) else none)
    else none
  else none
theorem escD_lt {s : ByteArray} {i v j : Nat} (h : escD s i = some (v, j)) : i < j ∧ j ≤ s.size ∧ v < 256 := by
  have hb := bt_lt s i
  unfold escD at h
  repeat' split at h
  all_goals first | (cases h; done) | (simp only [Option.some.injEq, Prod.mk.injEq] at h; obtain ⟨rfl, rfl⟩ := h; omega)
/-- a string's bytes, from the place behind its first quote -/
def textD (s : ByteArray) (i : Nat) (l : List UInt8) : Option (List UInt8 × Nat) :=
  if _h : i < s.size then
    if bt s i = 34 then (if l.length ≤ 200 then some (l, i + 1) else none)
    else if bt s i < 32 then none
    else if bt s i = 92 then
      match _he : escD s (i + 1) with
      | some (v, j) => if _h2 : i < j then textD s j (l ++ [UInt8.ofNat v]) else none
      | none => none
    else textD s (i + 1) (l ++ [UInt8.ofNat (bt s i)])
  else none
termination_by s.size - i
/-- a number, as far as it matters -/
def numD (s : ByteArray) (i n : Nat) : Nat × Nat :=
  if _h : i < s.size then if dig (bt s i) then numD s (i + 1) (min (10 * n + (bt s i - 48)) 1000000001) else (n, i) else (n, i)
termination_by s.size - i
def varD (s : ByteArray) (f i : Nat) : Nat :=
  if _h : i < s.size then if small (bt s i) || (decide (f < i) && dig (bt s i)) then varD s f (i + 1) else i else i
termination_by s.size - i
abbrev Tok := Nat × Nat × ByteArray × Nat
def wordL : List String := ["and", "andalso", "as", "case", "data", "else", "end", "exception", "false", "fn", "fun", "if", "in", "let", "of", "open", "orelse", "raise", "sig", "signature", "struct", "structure", "then", "true", "try", "type", "val", "with"]
def isWordD (t : ByteArray) : Bool := wordL.any fun w => decide (w.toUTF8 = t)
def tokD (s : ByteArray) (i : Nat) : Option (Tok × Nat) :=
  if dig (bt s i) then
    (if (numD s i 0).1 ≤ 1000000000 then some ((1, i, ByteArray.empty, (numD s i 0).1), (numD s i 0).2) else none)
  else if bt s i = 34 then
    match textD s (i + 1) [] with
    | some (b, j) => some ((2, i, ⟨b.toArray⟩, 0), j)
    | none => none
  else if bt s i = 39 then
    let f := if hasQ s (i + 1) then i + 2 else i + 1
    let j := varD s f f
    if f < j ∧ j - f ≤ 20 then some ((5, i, cut s i j, 0), j) else none
  else if small (bt s i) || great (bt s i) || decide (bt s i = 95) then
    let j := whD s inName i
    let t := cut s i j
    if j - i ≤ 20 then some ((if t = ⟨#[95]⟩ then 7 else if isWordD t then 6 else if great (bt s i) then 4 else 3, i, t, 0), j) else none
  else if i + 2 ≤ s.size ∧ (bt s i, bt s (i + 1)) ∈ pairL then some ((7, i, cut s i (i + 2), 0), i + 2)
  else if bt s i ∈ signL then some ((7, i, cut s i (i + 1), 0), i + 1)
  else none
where hasQ (s : ByteArray) (i : Nat) : Bool := decide (i < s.size ∧ bt s i = 39)
def toksD (s : ByteArray) (i : Nat) (l : List Tok) : List Tok × (Nat × Nat) :=
  match gapD s i with
  | (j, false) => (l, (3, j))
  | (j, true) =>
    if j = s.size then (l ++ [(0, j, ByteArray.empty, 0)], (0, 0))
    else match tokD s j with
      | none => (l, (3, j))
      | some (t, k) => if _h : i < k ∧ k ≤ s.size then toksD s k (l ++ [t]) else (l, (3, j))
termination_by s.size - i
/-- what Tokens answers -/
def lexD (s : ByteArray) : List Tok × (Nat × Nat) :=
  if 4000 < s.size then ([], (1, 0)) else match badD s 0 with | some i => ([], (2, i)) | none => toksD s 0 []

end Go.Proofs.YtbfeailcebfklaaDoor
