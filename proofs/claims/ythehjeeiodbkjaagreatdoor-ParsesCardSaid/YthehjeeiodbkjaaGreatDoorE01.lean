/-
  Proved: Proved: what the lexer computes, in plain Lean: gaps, names, numbers, strings, signs, tokens; that each step goes on. No condition.; Proved: the steps of what the lexer computes, and that each goes on. No condition.. Conditions: .
-/
import Derived.RowKit
import Derived.Lib.Hide
set_option linter.unusedSimpArgs false
set_option linter.unusedVariables false
set_option maxRecDepth 100000
set_option maxHeartbeats 16000000
namespace Go.Proofs.YthehjeeiodbkjaaGreatDoor
open Go.RowKit
theorem lh {p : Prop} (h : p) : RowKit.Hid p := Lib.hid h
/-- the byte at a place; 0 behind the end -/
def bt (s : ByteArray) (k : Nat) : Nat := (s.data.toList.getD k 0).toNat
def cut (s : ByteArray) (i j : Nat) : ByteArray := s.extract i j
theorem bt_lt (s : ByteArray) (k : Nat) : bt s k < 256 := UInt8.toNat_lt _
theorem bt_get (s : ByteArray) (k : Nat) (h : k < s.size) : (s[k]'h).toNat = bt s k := by
 have h2 : k < s.data.toList.length := by rw [Array.length_toList]; exact h
 unfold bt
 rw [List.getD_eq_getElem?_getD, List.getElem?_eq_getElem h2]
 rfl
def dig (c : Nat) : Bool := decide (48 ≤ c ∧ c ≤ 57)
def small (c : Nat) : Bool := decide (97 ≤ c ∧ c ≤ 122)
def great (c : Nat) : Bool := decide (65 ≤ c ∧ c ≤ 90)
def inName (c : Nat) : Bool := dig c || small c || great c || decide (c = 95) || decide (c = 39)
def blank (c : Nat) : Bool := decide (c = 32 ∨ c = 9 ∨ c = 10)
def signL : List Nat := [40, 41, 91, 93, 44, 59, 58, 124, 61, 60, 62, 43, 45, 42, 47, 37, 94, 126, 33, 46]
def pairL : List (Nat × Nat) := [(61, 62), (45, 62), (58, 61), (58, 58), (58, 62), (60, 62), (60, 61), (62, 61)]
/-- the program's sort of a byte -/
def srt (c : Nat) : Nat :=
 if dig c then 2 else if small c || decide (c = 95) then 3 else if great c then 4 else if c = 39 then 5 else if c ∈ signL then 6 else if c = 34 then 7 else if blank c then 1 else 0
def okB (c : Nat) : Bool := decide (c = 9 ∨ c = 10 ∨ (32 ≤ c ∧ c ≤ 126))
/-- the first byte that may not be -/
def badD (s : ByteArray) (i : Nat) : Option Nat :=
 if _h : i < s.size then if okB (bt s i) then badD s (i + 1) else some i else none
termination_by s.size - i
/-- behind bytes of such sorts -/
def whD (s : ByteArray) (p : Nat → Bool) (i : Nat) : Nat :=
 if _h : i < s.size then if p (bt s i) then whD s p (i + 1) else i else i
termination_by s.size - i
def hasD (s : ByteArray) (i a b : Nat) : Bool := decide (i + 2 ≤ s.size ∧ bt s i = a ∧ bt s (i + 1) = b)
/-- a comment: how many are open -/
def comD (s : ByteArray) (i o : Nat) : Option Nat :=
 if _h : i < s.size then
  if hasD s i 40 42 then comD s (i + 2) (o + 1)
  else if hasD s i 42 41 then (if o = 1 then some (i + 2) else comD s (i + 2) (o - 1))
  else (if o = 0 then some (i + 1) else comD s (i + 1) o)
 else none
termination_by s.size - i
/-- behind blanks and comments; false: a comment begins there that does not end -/
def gapD (s : ByteArray) (i : Nat) : Nat × Bool :=
 if _h : i < s.size then
  if hasD s i 40 42 then
   match comD s i 0 with
   | some j => if _h2 : i < j then gapD s j else (i, false)
   | none => (i, false)
  else if blank (bt s i) then gapD s (i + 1)
  else (i, true)
 else (i, true)
termination_by s.size - i
/-- what stands behind a \: the byte, and the place behind -/
def escD (s : ByteArray) (i : Nat) : Option (Nat × Nat) :=
 if i < s.size then
  if bt s i = 110 then some (10, i + 1)
  else if bt s i = 116 then some (9, i + 1)
  else if bt s i = 92 ∨ bt s i = 34 then some (bt s i, i + 1)
  else if i + 2 < s.size ∧ dig (bt s i) ∧ dig (bt s (i + 1)) ∧ dig (bt s (i + 2)) then
   (if 100 * (bt s i - 48) + 10 * (bt s (i + 1) - 48) + (bt s (i + 2) - 48) < 256 then some (100 * (bt s i - 48) + 10 * (bt s (i + 1) - 48) + (bt s (i + 2) - 48), i + 3) else none)
  else none
 else none
theorem escD_lt {s : ByteArray} {i v j : Nat} (h : escD s i = some (v, j)) : i < j ∧ j ≤ s.size ∧ v < 256 := by
 have hb := bt_lt s i
 unfold escD at h
 repeat' split at h
 all_goals first | (cases h; done) | (simp only [Option.some.injEq, Prod.mk.injEq] at h; obtain ⟨rfl, rfl⟩ := h; omega)
/-- a string's bytes, from the place behind its first quote -/
def textD (s : ByteArray) (i : Nat) (l : List UInt8) : Option (List UInt8 × Nat) :=
 if _h : i < s.size then
  if bt s i = 34 then (if l.length ≤ 200 then some (l, i + 1) else none)
  else if bt s i < 32 then none
  else if bt s i = 92 then
   match _he : escD s (i + 1) with
   | some (v, j) => if _h2 : i < j then textD s j (l ++ [UInt8.ofNat v]) else none
   | none => none
  else textD s (i + 1) (l ++ [UInt8.ofNat (bt s i)])
 else none
termination_by s.size - i
/-- a number, as far as it matters -/
def numD (s : ByteArray) (i n : Nat) : Nat × Nat :=
 if _h : i < s.size then if dig (bt s i) then numD s (i + 1) (min (10 * n + (bt s i - 48)) 1000000001) else (n, i) else (n, i)
termination_by s.size - i
def varD (s : ByteArray) (f i : Nat) : Nat :=
 if _h : i < s.size then if small (bt s i) || (decide (f < i) && dig (bt s i)) then varD s f (i + 1) else i else i
termination_by s.size - i
abbrev Tok := Nat × Nat × ByteArray × Nat
def wordL : List String := ["and", "andalso", "as", "case", "data", "else", "end", "exception", "false", "fn", "fun", "if", "in", "let", "of", "open", "orelse", "raise", "sig", "signature", "struct", "structure", "then", "true", "try", "type", "val", "with"]
def isWordD (t : ByteArray) : Bool := wordL.any fun w => decide (w.toUTF8 = t)
def tokD (s : ByteArray) (i : Nat) : Option (Tok × Nat) :=
 if dig (bt s i) then
  (if (numD s i 0).1 ≤ 1000000000 then some ((1, i, ByteArray.empty, (numD s i 0).1), (numD s i 0).2) else none)
 else if bt s i = 34 then
  match textD s (i + 1) [] with
  | some (b, j) => some ((2, i, ⟨b.toArray⟩, 0), j)
  | none => none
 else if bt s i = 39 then
  let f := if hasQ s (i + 1) then i + 2 else i + 1
  let j := varD s f f
  if f < j ∧ j - f ≤ 20 then some ((5, i, cut s i j, 0), j) else none
 else if small (bt s i) || great (bt s i) || decide (bt s i = 95) then
  let j := whD s inName i
  let t := cut s i j
  if j - i ≤ 20 then some ((if t = ⟨#[95]⟩ then 7 else if isWordD t then 6 else if great (bt s i) then 4 else 3, i, t, 0), j) else none
 else if i + 2 ≤ s.size ∧ (bt s i, bt s (i + 1)) ∈ pairL then some ((7, i, cut s i (i + 2), 0), i + 2)
 else if bt s i ∈ signL then some ((7, i, cut s i (i + 1), 0), i + 1)
 else none
where hasQ (s : ByteArray) (i : Nat) : Bool := decide (i < s.size ∧ bt s i = 39)
def toksD (s : ByteArray) (i : Nat) (l : List Tok) : List Tok × (Nat × Nat) :=
 match gapD s i with
 | (j, false) => (l, (3, j))
 | (j, true) =>
  if j = s.size then (l ++ [(0, j, ByteArray.empty, 0)], (0, 0))
  else match tokD s j with
   | none => (l, (3, j))
   | some (t, k) => if _h : i < k ∧ k ≤ s.size then toksD s k (l ++ [t]) else (l, (3, j))
termination_by s.size - i
/-- what Tokens answers -/
def lexD (s : ByteArray) : List Tok × (Nat × Nat) :=
 if 4000 < s.size then ([], (1, 0)) else match badD s 0 with | some i => ([], (2, i)) | none => toksD s 0 []
theorem sizeL (s : ByteArray) : s.data.toList.length = s.size := Array.length_toList
theorem whD_step {s : ByteArray} {p : Nat → Bool} {i : Nat} (h : i < s.size) (hp : p (bt s i) = true) : whD s p i = whD s p (i + 1) := by
 rw [whD, dif_pos h, if_pos hp]
theorem whD_stop {s : ByteArray} {p : Nat → Bool} {i : Nat} (h : i < s.size) (hp : p (bt s i) = false) : whD s p i = i := by
 rw [whD, dif_pos h, if_neg (by simp [hp])]
theorem whD_end {s : ByteArray} {p : Nat → Bool} {i : Nat} (h : s.size ≤ i) : whD s p i = i := by
 rw [whD, dif_neg (by omega)]
theorem whD_ge (s : ByteArray) (p : Nat → Bool) (i : Nat) : i ≤ whD s p i ∧ (i ≤ s.size → whD s p i ≤ s.size) := by
 induction i using whD.induct s p with
 | case1 i h hp ih => rw [whD_step h hp]; omega
 | case2 i h hp => rw [whD_stop h (by simpa using hp)]; omega
 | case3 i h => rw [whD_end (by omega)]; omega
theorem hasD_pos {s : ByteArray} {i a b : Nat} (h : hasD s i a b = true) : i + 2 ≤ s.size ∧ bt s i = a ∧ bt s (i + 1) = b := by simpa [hasD] using h
theorem comD_open {s : ByteArray} {i o : Nat} (h : i < s.size) (h1 : hasD s i 40 42 = true) : comD s i o = comD s (i + 2) (o + 1) := by rw [comD, dif_pos h, if_pos h1]
theorem comD_close {s : ByteArray} {i o : Nat} (h : i < s.size) (h1 : hasD s i 42 41 = true) : comD s i o = if o = 1 then some (i + 2) else comD s (i + 2) (o - 1) := by
 have h2 : hasD s i 40 42 = false := by
  have := hasD_pos h1
  simp [hasD]; omega
 rw [comD, dif_pos h, if_neg (by simp [h2]), if_pos h1]
theorem comD_else {s : ByteArray} {i o : Nat} (h : i < s.size) (h1 : hasD s i 40 42 = false) (h2 : hasD s i 42 41 = false) : comD s i o = if o = 0 then some (i + 1) else comD s (i + 1) o := by
 rw [comD, dif_pos h, if_neg (by simp [h1]), if_neg (by simp [h2])]
theorem comD_end {s : ByteArray} {i o : Nat} (h : s.size ≤ i) : comD s i o = none := by rw [comD, dif_neg (by omega)]
theorem comD_lt {s : ByteArray} (i o : Nat) : ∀ {j : Nat}, comD s i o = some j → i < j ∧ j ≤ s.size := by
 induction i, o using comD.induct s with
 | case1 i o h h1 ih =>
  intro j hj
  rw [comD_open h h1] at hj
  have := ih hj
  omega
 | case2 i h h1 h2 =>
  intro j hj
  have := hasD_pos h2
  rw [comD_close h h2] at hj
  simp at hj
  omega
 | case3 i o h h1 h2 h3 ih =>
  intro j hj
  rw [comD_close h h2, if_neg h3] at hj
  have := ih hj
  omega
 | case4 i h h1 h2 =>
  intro j hj
  rw [comD_else h (by simpa using h1) (by simpa using h2)] at hj
  simp at hj
  omega
 | case5 i o h h1 h2 h3 ih =>
  intro j hj
  rw [comD_else h (by simpa using h1) (by simpa using h2), if_neg h3] at hj
  have := ih hj
  omega
 | case6 i o h =>
  intro j hj
  rw [comD_end (by omega)] at hj
  cases hj
theorem gapD_end {s : ByteArray} {i : Nat} (h : s.size ≤ i) : gapD s i = (i, true) := by rw [gapD, dif_neg (by omega)]
theorem gapD_com {s : ByteArray} {i j : Nat} (h : hasD s i 40 42 = true) (hc : comD s i 0 = some j) : gapD s i = gapD s j := by
 have h1 := hasD_pos h
 have h2 := comD_lt _ _ hc
 rw [gapD, dif_pos (by omega), if_pos h]
 split
 · rename_i k hk
   rw [hc] at hk
   cases hk
   rw [dif_pos (by omega)]
 · rename_i hk
   rw [hc] at hk
   cases hk
theorem gapD_bad {s : ByteArray} {i : Nat} (h : hasD s i 40 42 = true) (hc : comD s i 0 = none) : gapD s i = (i, false) := by
 have h1 := hasD_pos h
 rw [gapD, dif_pos (by omega), if_pos h]
 split
 · rename_i k hk
   rw [hc] at hk
   cases hk
 · rfl
theorem gapD_blank {s : ByteArray} {i : Nat} (h : i < s.size) (h1 : blank (bt s i) = true) : gapD s i = gapD s (i + 1) := by
 have h2 : hasD s i 40 42 = false := by
  simp only [blank, decide_eq_true_eq] at h1
  simp [hasD]; omega
 rw [gapD, dif_pos h, if_neg (by simp [h2]), if_pos h1]
theorem gapD_stop {s : ByteArray} {i : Nat} (h2 : hasD s i 40 42 = false) (h1 : i < s.size → blank (bt s i) = false) : gapD s i = (i, true) := by
 by_cases h : i < s.size
 · rw [gapD, dif_pos h, if_neg (by simp [h2]), if_neg (by simp [h1 h])]
 · exact gapD_end (by omega)
theorem gapD_wh {s : ByteArray} (i : Nat) : gapD s i = gapD s (whD s blank i) := by
 induction i using whD.induct s blank with
 | case1 i h hp ih => rw [whD_step h hp, ← ih, gapD_blank h hp]
 | case2 i h hp => rw [whD_stop h (by simpa using hp)]
 | case3 i h => rw [whD_end (by omega)]
theorem gapD_ge {s : ByteArray} (i : Nat) : i ≤ s.size → i ≤ (gapD s i).1 ∧ (gapD s i).1 ≤ s.size := by
 induction i using gapD.induct s with
 | case1 i h h1 j hc hlt ih =>
  intro hi
  have := comD_lt _ _ hc
  rw [gapD_com h1 hc]
  have := ih (by omega)
  omega
 | case2 i h h1 j hc hlt => exact absurd (comD_lt _ _ hc).1 hlt
 | case3 i h h1 hc => intro hi; rw [gapD_bad h1 hc]; simp; omega
 | case4 i h h1 h2 ih =>
  intro hi
  rw [gapD_blank h h2]
  have := ih (by omega)
  omega
 | case5 i h h1 h2 => intro hi; rw [gapD_stop (by simpa using h1) (fun _ => by simpa using h2)]; simp; omega
 | case6 i h => intro hi; rw [gapD_end (by omega)]; simp; omega
theorem numD_step {s : ByteArray} {i n : Nat} (h : i < s.size) (hd : dig (bt s i) = true) : numD s i n = numD s (i + 1) (min (10 * n + (bt s i - 48)) 1000000001) := by rw [numD, dif_pos h, if_pos hd]
theorem numD_stop {s : ByteArray} {i n : Nat} (h : i < s.size → dig (bt s i) = false) : numD s i n = (n, i) := by
 rw [numD]
 split
 · rename_i h1; rw [if_neg (by simp [h h1])]
 · rfl
theorem numD_wh {s : ByteArray} (i : Nat) : ∀ n, (numD s i n).2 = whD s dig i := by
 induction i using whD.induct s dig with
 | case1 i h hp ih => intro n; rw [numD_step h hp, whD_step h hp, ih]
 | case2 i h hp => intro n; rw [whD_stop h (by simpa using hp), numD_stop (fun _ => by simpa using hp)]
 | case3 i h => intro n; rw [whD_end (by omega), numD_stop (fun h1 => absurd h1 h)]
theorem textD_quote {s : ByteArray} {i : Nat} {l : List UInt8} (h : i < s.size) (h1 : bt s i = 34) : textD s i l = if l.length ≤ 200 then some (l, i + 1) else none := by rw [textD, dif_pos h, if_pos h1]
theorem textD_low {s : ByteArray} {i : Nat} {l : List UInt8} (h : i < s.size) (h1 : bt s i < 32) : textD s i l = none := by rw [textD, dif_pos h, if_neg (by omega), if_pos h1]
theorem textD_esc {s : ByteArray} {i v j : Nat} {l : List UInt8} (h : i < s.size) (h1 : bt s i = 92) (he : escD s (i + 1) = some (v, j)) : textD s i l = textD s j (l ++ [UInt8.ofNat v]) := by
 rw [textD, dif_pos h, if_neg (by omega), if_neg (by omega), if_pos h1]
 split
 · rename_i v' j' he'
   rw [he] at he'
   cases he'
   rw [dif_pos (by have := escD_lt he; omega)]
 · rename_i he'
   rw [he] at he'
   cases he'
theorem textD_bad {s : ByteArray} {i : Nat} {l : List UInt8} (h : i < s.size) (h1 : bt s i = 92) (he : escD s (i + 1) = none) : textD s i l = none := by
 rw [textD, dif_pos h, if_neg (by omega), if_neg (by omega), if_pos h1]
 split
 · rename_i v' j' he'
   rw [he] at he'
   cases he'
 · rfl
theorem textD_byte {s : ByteArray} {i : Nat} {l : List UInt8} (h : i < s.size) (h1 : bt s i ≠ 34) (h2 : 32 ≤ bt s i) (h3 : bt s i ≠ 92) : textD s i l = textD s (i + 1) (l ++ [UInt8.ofNat (bt s i)]) := by
 rw [textD, dif_pos h, if_neg h1, if_neg (by omega), if_neg h3]
theorem textD_end {s : ByteArray} {i : Nat} {l : List UInt8} (h : s.size ≤ i) : textD s i l = none := by rw [textD, dif_neg (by omega)]
theorem textD_lt {s : ByteArray} (i : Nat) (l : List UInt8) : ∀ {r : List UInt8} {j : Nat}, textD s i l = some (r, j) → i < j ∧ j ≤ s.size ∧ r.length ≤ 200 := by
 induction i, l using textD.induct s with
 | case1 i l h h1 h2 => intro r j hr; rw [textD_quote h h1, if_pos h2] at hr; cases hr; omega
 | case2 i l h h1 h2 => intro r j hr; rw [textD_quote h h1, if_neg h2] at hr; cases hr
 | case3 i l h h1 h2 => intro r j hr; rw [textD_low h h2] at hr; cases hr
 | case4 i l h h1 h2 h3 v j' he hlt ih => intro r j hr; rw [textD_esc h h3 he] at hr; have := ih hr; have := escD_lt he; omega
 | case5 i l h h1 h2 h3 v j' he hlt => exact absurd (by have := escD_lt he; omega) hlt
 | case6 i l h h1 h2 h3 he => intro r j hr; rw [textD_bad h h3 he] at hr; cases hr
 | case7 i l h h1 h2 h3 ih => intro r j hr; rw [textD_byte h h1 (by omega) h3] at hr; have := ih hr; omega
 | case8 i l h => intro r j hr; rw [textD_end (by omega)] at hr; cases hr
theorem varD_step {s : ByteArray} {f i : Nat} (h : i < s.size) (hp : (small (bt s i) || (decide (f < i) && dig (bt s i))) = true) : varD s f i = varD s f (i + 1) := by rw [varD, dif_pos h, if_pos hp]
theorem varD_stop {s : ByteArray} {f i : Nat} (h : i < s.size → (small (bt s i) || (decide (f < i) && dig (bt s i))) = false) : varD s f i = i := by
 rw [varD]
 split
 · rename_i h1; rw [if_neg (by simpa using h h1)]
 · rfl
theorem varD_ge {s : ByteArray} (f i : Nat) : i ≤ varD s f i ∧ (i ≤ s.size → varD s f i ≤ s.size) := by
 induction i using varD.induct s f with
 | case1 i h hp ih => rw [varD_step h hp]; omega
 | case2 i h hp => rw [varD_stop (fun _ => by simpa using hp)]; omega
 | case3 i h => rw [varD_stop (fun h1 => absurd h1 h)]; omega
theorem tokD_lt {s : ByteArray} {i : Nat} {t : Tok} {j : Nat} (hi : i < s.size) (h : tokD s i = some (t, j)) : i < j ∧ j ≤ s.size := by
 unfold tokD at h
 split at h
 · rename_i hd
   have h1 := numD_wh (s := s) i 0
   have h2 := whD_ge s dig (i + 1)
   rw [whD_step hi hd] at h1
   split at h
   · cases h; omega
   · cases h
 · split at h
   · split at h
     · rename_i b j' hb
       have := textD_lt _ _ hb
       cases h; omega
     · cases h
   · split at h
     · have hgo : ∀ f, i < f → f ≤ s.size → (if f < varD s f f ∧ varD s f f - f ≤ 20 then some (((5, i, cut s i (varD s f f), 0) : Tok), varD s f f) else none) = some (t, j) → i < j ∧ j ≤ s.size := by
        intro f hf hfs hq
        have h3 := varD_ge (s := s) f f
        split at hq
        · simp only [Option.some.injEq, Prod.mk.injEq] at hq
          omega
        · cases hq
       by_cases hh : tokD.hasQ s (i + 1) = true
       · rw [if_pos hh] at h
         have h4 : i + 1 < s.size := by simp [tokD.hasQ] at hh; omega
         exact hgo _ (by omega) (by omega) h
       · rw [if_neg hh] at h
         exact hgo _ (by omega) (by omega) h
     · split at h
       · rename_i hn
         have h2 := whD_ge s inName (i + 1)
         have h1 := whD_step (s := s) (p := inName) hi (by simp only [inName, Bool.or_eq_true] at hn ⊢; rcases hn with (h | h) | h <;> simp [h])
         have hgo : ∀ (k : Nat), (if whD s inName i - i ≤ 20 then some (((k, i, cut s i (whD s inName i), 0) : Tok), whD s inName i) else none) = some (t, j) → i < j ∧ j ≤ s.size := by
          intro k hq
          split at hq
          · simp only [Option.some.injEq, Prod.mk.injEq] at hq
            omega
          · cases hq
         exact hgo _ h
       · split at h
         · rename_i hp
           simp only [Option.some.injEq, Prod.mk.injEq] at h
           omega
         · split at h
           · simp only [Option.some.injEq, Prod.mk.injEq] at h
             omega
           · cases h
theorem toksD_bad {s : ByteArray} {i j : Nat} {l : List Tok} (h : gapD s i = (j, false)) : toksD s i l = (l, (3, j)) := by rw [toksD, h]
theorem toksD_end {s : ByteArray} {i : Nat} {l : List Tok} (h : gapD s i = (s.size, true)) : toksD s i l = (l ++ [(0, s.size, ByteArray.empty, 0)], (0, 0)) := by rw [toksD, h]; simp
theorem toksD_none {s : ByteArray} {i j : Nat} {l : List Tok} (h : gapD s i = (j, true)) (hj : j ≠ s.size) (ht : tokD s j = none) : toksD s i l = (l, (3, j)) := by
 rw [toksD, h]; simp only; rw [if_neg hj, ht]
theorem toksD_some {s : ByteArray} {i j k : Nat} {t : Tok} {l : List Tok} (hi : i ≤ s.size) (h : gapD s i = (j, true)) (hj : j ≠ s.size) (ht : tokD s j = some (t, k)) : toksD s i l = toksD s k (l ++ [t]) := by
 have h1 := gapD_ge (s := s) i hi
 rw [h] at h1
 simp only at h1
 have h2 := tokD_lt (by omega) ht
 rw [toksD, h]
 simp only
 rw [if_neg hj, ht]
 simp only
 rw [dif_pos ⟨by omega, h2.2⟩]
end Go.Proofs.YthehjeeiodbkjaaGreatDoor
