/-
  Proved: what the lexer computes, in plain Lean: gaps, names, numbers, strings, signs, tokens; that each step goes on; small facts on worlds (a block behind a store, behind growth elsewhere); what a type is, in plain Lean; how one stands in memory; which may be, which are alike; what the reader computes, in plain Lean: trees, places, faults. Conditions: none.
-/
import Derived.Test.YthehjeeiodbkjaaGreatDoorProg
import Derived.Test.YthehjeeiodbkjaaGreatDoorChecked
import Derived.RowKit
import Derived.WalkKit
import Derived.ProofKit
import Derived.WalkSpells
import Derived.WalkLawsBesides
import Derived.Deep.QuietTactic
import Derived.BigQuiet
import Derived.Lib.Hide
import Derived.Handy
import Derived.Lib.OthersKept
import Derived.Lib.Hide
set_option linter.unusedSimpArgs false
set_option linter.unusedVariables false
set_option linter.unusedSectionVars false
set_option maxRecDepth 100000
set_option maxHeartbeats 16000000
namespace Go.Proofs.YthehjeeiodbkjaaGreatDoor
open Go.RowKit
theorem lh {p : Prop} (h : p) : RowKit.Hid p := Lib.hid h
def bt (s : ByteArray) (k : Nat) : Nat := (s.data.toList.getD k 0).toNat
def cut (s : ByteArray) (i j : Nat) : ByteArray := s.extract i j
theorem bt_lt (s : ByteArray) (k : Nat) : bt s k < 256 := UInt8.toNat_lt _
theorem bt_get (s : ByteArray) (k : Nat) (h : k < s.size) : (s[k]'h).toNat = bt s k := by
 have h2 : k < s.data.toList.length := by rw [Array.length_toList]; exact h
 unfold bt
 rw [List.getD_eq_getElem?_getD, List.getElem?_eq_getElem h2]
 rfl
def dig (c : Nat) : Bool := decide (48 ≤ c ∧ c ≤ 57)
def small (c : Nat) : Bool := decide (97 ≤ c ∧ c ≤ 122)
def great (c : Nat) : Bool := decide (65 ≤ c ∧ c ≤ 90)
def inName (c : Nat) : Bool := dig c || small c || great c || decide (c = 95) || decide (c = 39)
def blank (c : Nat) : Bool := decide (c = 32 ∨ c = 9 ∨ c = 10)
def signL : List Nat := [40, 41, 91, 93, 44, 59, 58, 124, 61, 60, 62, 43, 45, 42, 47, 37, 94, 126, 33, 46]
def pairL : List (Nat × Nat) := [(61, 62), (45, 62), (58, 61), (58, 58), (58, 62), (60, 62), (60, 61), (62, 61)]
def srt (c : Nat) : Nat :=
 if dig c then 2 else if small c || decide (c = 95) then 3 else if great c then 4 else if c = 39 then 5 else if c ∈ signL then 6 else if c = 34 then 7 else if blank c then 1 else 0
def okB (c : Nat) : Bool := decide (c = 9 ∨ c = 10 ∨ (32 ≤ c ∧ c ≤ 126))
def badD (s : ByteArray) (i : Nat) : Option Nat :=
 if _h : i < s.size then if okB (bt s i) then badD s (i + 1) else some i else none
termination_by s.size - i
def whD (s : ByteArray) (p : Nat → Bool) (i : Nat) : Nat :=
 if _h : i < s.size then if p (bt s i) then whD s p (i + 1) else i else i
termination_by s.size - i
def hasD (s : ByteArray) (i a b : Nat) : Bool := decide (i + 2 ≤ s.size ∧ bt s i = a ∧ bt s (i + 1) = b)
def comD (s : ByteArray) (i o : Nat) : Option Nat :=
 if _h : i < s.size then
  if hasD s i 40 42 then comD s (i + 2) (o + 1)
  else if hasD s i 42 41 then (if o = 1 then some (i + 2) else comD s (i + 2) (o - 1))
  else (if o = 0 then some (i + 1) else comD s (i + 1) o)
 else none
termination_by s.size - i
def gapD (s : ByteArray) (i : Nat) : Nat × Bool :=
 if _h : i < s.size then
  if hasD s i 40 42 then
   match comD s i 0 with
   | some j => if _h2 : i < j then gapD s j else (i, false)
   | none => (i, false)
  else if blank (bt s i) then gapD s (i + 1)
  else (i, true)
 else (i, true)
termination_by s.size - i
def escD (s : ByteArray) (i : Nat) : Option (Nat × Nat) :=
 if i < s.size then
  if bt s i = 110 then some (10, i + 1)
  else if bt s i = 116 then some (9, i + 1)
  else if bt s i = 92 ∨ bt s i = 34 then some (bt s i, i + 1)
  else if i + 2 < s.size ∧ dig (bt s i) ∧ dig (bt s (i + 1)) ∧ dig (bt s (i + 2)) then
   (if 100 * (bt s i - 48) + 10 * (bt s (i + 1) - 48) + (bt s (i + 2) - 48) < 256 then some (100 * (bt s i - 48) + 10 * (bt s (i + 1) - 48) + (bt s (i + 2) - 48), i + 3) else none)
  else none
 else none
theorem escD_lt {s : ByteArray} {i v j : Nat} (h : escD s i = some (v, j)) : i < j ∧ j ≤ s.size ∧ v < 256 := by
 have hb := bt_lt s i
 unfold escD at h
 repeat' split at h
 all_goals first | (cases h; done) | (simp only [Option.some.injEq, Prod.mk.injEq] at h; obtain ⟨rfl, rfl⟩ := h; omega)
def textD (s : ByteArray) (i : Nat) (l : List UInt8) : Option (List UInt8 × Nat) :=
 if _h : i < s.size then
  if bt s i = 34 then (if l.length ≤ 200 then some (l, i + 1) else none)
  else if bt s i < 32 then none
  else if bt s i = 92 then
   match _he : escD s (i + 1) with
   | some (v, j) => if _h2 : i < j then textD s j (l ++ [UInt8.ofNat v]) else none
   | none => none
  else textD s (i + 1) (l ++ [UInt8.ofNat (bt s i)])
 else none
termination_by s.size - i
def numD (s : ByteArray) (i n : Nat) : Nat × Nat :=
 if _h : i < s.size then if dig (bt s i) then numD s (i + 1) (min (10 * n + (bt s i - 48)) 1000000001) else (n, i) else (n, i)
termination_by s.size - i
def varD (s : ByteArray) (f i : Nat) : Nat :=
 if _h : i < s.size then if small (bt s i) || (decide (f < i) && dig (bt s i)) then varD s f (i + 1) else i else i
termination_by s.size - i
abbrev Tok := Nat × Nat × ByteArray × Nat
def wordL : List String := ["and", "andalso", "as", "case", "data", "else", "end", "exception", "false", "fn", "fun", "if", "in", "let", "of", "open", "orelse", "raise", "sig", "signature", "struct", "structure", "then", "true", "try", "type", "val", "with"]
def isWordD (t : ByteArray) : Bool := wordL.any fun w => decide (w.toUTF8 = t)
def tokD (s : ByteArray) (i : Nat) : Option (Tok × Nat) :=
 if dig (bt s i) then
  (if (numD s i 0).1 ≤ 1000000000 then some ((1, i, ByteArray.empty, (numD s i 0).1), (numD s i 0).2) else none)
 else if bt s i = 34 then
  match textD s (i + 1) [] with
  | some (b, j) => some ((2, i, ⟨b.toArray⟩, 0), j)
  | none => none
 else if bt s i = 39 then
  let f := if hasQ s (i + 1) then i + 2 else i + 1
  let j := varD s f f
  if f < j ∧ j - f ≤ 20 then some ((5, i, cut s i j, 0), j) else none
 else if small (bt s i) || great (bt s i) || decide (bt s i = 95) then
  let j := whD s inName i
  let t := cut s i j
  if j - i ≤ 20 then some ((if t = ⟨#[95]⟩ then 7 else if isWordD t then 6 else if great (bt s i) then 4 else 3, i, t, 0), j) else none
 else if i + 2 ≤ s.size ∧ (bt s i, bt s (i + 1)) ∈ pairL then some ((7, i, cut s i (i + 2), 0), i + 2)
 else if bt s i ∈ signL then some ((7, i, cut s i (i + 1), 0), i + 1)
 else none
where hasQ (s : ByteArray) (i : Nat) : Bool := decide (i < s.size ∧ bt s i = 39)
def toksD (s : ByteArray) (i : Nat) (l : List Tok) : List Tok × (Nat × Nat) :=
 match gapD s i with
 | (j, false) => (l, (3, j))
 | (j, true) =>
  if j = s.size then (l ++ [(0, j, ByteArray.empty, 0)], (0, 0))
  else match tokD s j with
   | none => (l, (3, j))
   | some (t, k) => if _h : i < k ∧ k ≤ s.size then toksD s k (l ++ [t]) else (l, (3, j))
termination_by s.size - i
def lexD (s : ByteArray) : List Tok × (Nat × Nat) :=
 if 4000 < s.size then ([], (1, 0)) else match badD s 0 with | some i => ([], (2, i)) | none => toksD s 0 []
theorem blk_set {w : World} {p : Nat} {c : Array Value} {t : TypeId} {f : Nat × Nat} (h : w.heap[p]? = some (.cells c t f)) (i : Nat) (u : Value) :
 (w.setCell ⟨p, i, none⟩ u).heap[p]? = some (.cells (c.setIfInBounds i u) t f) := by
 have hlt := lt_of_block h
 have h' : w.heap[p] = .cells c t f := by simpa [Array.getElem?_eq_getElem hlt] using h
 show (w.heap.modify p _)[p]? = _
 rw [Array.getElem?_eq_getElem (by simpa using hlt), Array.getElem_modify_self, h']
 rfl
theorem blk_set_ne {w : World} {p q : Nat} {o : Option Obj} (h : w.heap[p]? = o) (hne : p ≠ q) (i : Nat) (u : Value) : (w.setCell ⟨q, i, none⟩ u).heap[p]? = o := by
 rw [Below.heap_setCell _ _ _ _ hne]; exact h
theorem blk_alloc {w : World} {p : Nat} {x : Obj} (h : w.heap[p]? = some x) (o : Obj) : (w.alloc o).heap[p]? = some x := by
 rw [Below.heap_alloc _ _ _ (lt_of_block h)]; exact h
theorem blk_grown {w w' : World} {p : Nat} {x : Obj} {row : Option Nat} (h : w.heap[p]? = some x) (hg : w.grownBy w' row) (hne : row ≠ some p) : w'.heap[p]? = some x := by
 rw [hg.block p (lt_of_block h) (fun e => hne e.symm)]; exact h
theorem blk_below {w w' : World} {p B : Nat} {x : Obj} (h : w.heap[p]? = some x) (hb : Below B w w') (hp : p < B) : w'.heap[p]? = some x := by
 rw [hb.block p hp]; exact h
theorem blk_cell {w : World} {p : Nat} {c : Array Value} {t : TypeId} {f : Nat × Nat} (h : w.heap[p]? = some (.cells c t f)) (i : Nat) : w.cell? ⟨p, i, none⟩ = c[i]? := by simp [World.cell?, h]
theorem blk_free {w : World} {p : Nat} {c : Array Value} {t : TypeId} (h : w.heap[p]? = some (.cells c t (0, 0))) (i : Nat) : w.frozen? ⟨p, i, none⟩ = false := by simp [World.frozen?, h]
theorem own_ne {w : World} {p B : Nat} {c : Array Value} {v : Value} {n e t size : Nat} {xs : List Value} {f : Nat × Nat} (hp : w.heap[p]? = some (.cells c t f)) (hown : w.ownsRow B e size v n xs) (ht : t ≠ e) : v.ownBlock ≠ some p := by
 intro h
 rcases hown.2 with ⟨rfl, _⟩ | ⟨g, cap, cur, rfl, hb, hg, _⟩
 · simp [Value.ownBlock] at h
 · simp [Value.ownBlock] at h
   subst h
   rw [hg] at hp
   simp at hp
   exact ht hp.2.1.symm
theorem new_cells {w : World} {c : Array Value} {t : TypeId} (n : Nat) (hn : n = w.heap.size) : ∀ (j : Nat) (u : Value), c.toList[j]? = some u → (w.alloc (.cells c t)).cell? ((⟨n, 0, none⟩ : Addr).add j) = some u := by
 intro j u h
 have hadd : (⟨n, 0, none⟩ : Addr).add j = ⟨n, j, none⟩ := by unfold Addr.add; split <;> simp_all
 rw [hadd, World.cell?_alloc_at _ _ _ _ hn]
 simpa using h
theorem balloc {w w1 : World} (h : Below w.heap.size w w1) (o : Obj) : Below w.heap.size w (w1.alloc o) := h.alloc h.size o
theorem own_carry {w w' : World} {B : Nat} {v : Value} {n e size : Nat} {xs : List Value} (h : w.ownsRow B e size v n xs) (hc : ∀ (g : Nat) (c : Array Value) (f : Nat × Nat), w.heap[g]? = some (.cells c e f) → w'.heap[g]? = some (.cells c e f)) : w'.ownsRow B e size v n xs := by
 refine ⟨h.1, ?_⟩
 rcases h.2 with hn | ⟨g, cap, cur, rfl, hbg, hgg, rest⟩
 · exact .inl hn
 · exact .inr ⟨g, cap, cur, rfl, hbg, hc _ _ _ hgg, rest⟩
theorem iter_cells {w : World} {k : Nat} {s : ByteArray} {pos pos' : Nat} (hk : w.heap[k]? = some (.stringIter s pos)) {g : Nat} {c : Array Value} {e : TypeId} {f : Nat × Nat} (h : w.heap[g]? = some (.cells c e f)) : (w.iterAt k s pos').heap[g]? = some (.cells c e f) := by
 rw [Lib.iterAt_other _ _ _ _ _ (fun e => by subst e; rw [hk] at h; cases h)]; exact h
theorem own_shape {w : World} {B : Nat} {v : Value} {n e size : Nat} {xs : List Value} (hown : w.ownsRow B e size v n xs) (hn : ¬v = .slice none 0 0) : ∃ g cap, v = .slice (some ⟨g, 0, none⟩) n cap := by
 rcases hown.2 with ⟨rfl, _⟩ | ⟨g, cap, cur, rfl, _⟩
 · exact absurd rfl hn
 · exact ⟨g, cap, rfl⟩
theorem gr_trans {w w1 w2 : World} {row : Option Nat} (h : w.grownBy w1 row) (h2 : w1.grownBy w2 row) : w.grownBy w2 row :=
 ⟨h2.os.trans h.os, h2.tape.trans h.tape, h2.output.trans h.output, Nat.le_trans h.size h2.size, fun k hk hne => (h2.block k (Nat.lt_of_lt_of_le hk h.size) hne).trans (h.block k hk hne)⟩
theorem gr_set (w : World) (b i : Nat) (v : Value) : w.grownBy (w.setCell ⟨b, i, none⟩ v) (some b) :=
 ⟨rfl, rfl, rfl, by simp [World.setCell], fun k _ hne => Below.heap_setCell _ _ _ _ (fun e => hne (by rw [e]))⟩
theorem gr_far {w W : World} {row : Option Nat} (h : w.grownBy W row) (b i : Nat) (v : Value) (hb : w.heap.size ≤ b) : w.grownBy (W.setCell ⟨b, i, none⟩ v) row :=
 ⟨h.os, h.tape, h.output, by simpa [World.setCell] using h.size, fun k hk hne => (Below.heap_setCell _ _ _ _ (by simp; omega)).trans (h.block k hk hne)⟩
theorem gr_drew (w : World) (n : Nat) (row : Option Nat) : w.grownBy (w.drewN n) row := ⟨rfl, rfl, rfl, Nat.le_refl _, fun _ _ _ => rfl⟩
theorem gr_below {w w' : World} (hb : Below w.heap.size w w') (row : Option Nat) : w.grownBy w' row := ⟨hb.os, hb.tape, hb.output, hb.size, fun k hk _ => hb.block k hk⟩
theorem own_keep {w w' : World} {B : Nat} {v : Value} {n e size : Nat} {xs : List Value} {row : Option Nat} (h : w.ownsRow B e size v n xs) (hg : w.grownBy w' row) (hq : ∀ q, row = some q → ∃ c t f, w.heap[q]? = some (.cells c t f) ∧ t ≠ e) : w'.ownsRow B e size v n xs := by
 refine own_carry h fun g c f hb => ?_
 have hlt := lt_of_block hb
 rw [hg.block g hlt ?_]
 · exact hb
 · intro hr
   obtain ⟨c', t, f', hb', ht⟩ := hq g hr.symm
   rw [hb] at hb'
   cases hb'
   exact ht rfl
theorem own_set {W : World} {B : Nat} {v : Value} {n e size : Nat} {xs : List Value} (h : W.ownsRow B e size v n xs) {b t : Nat} {c : Array Value} {f : Nat × Nat} (hb : W.heap[b]? = some (.cells c t f)) (ht : t ≠ e) (i : Nat) (u : Value) : (W.setCell ⟨b, i, Option.none⟩ u).ownsRow B e size v n xs :=
 own_keep h (gr_set W b i u) (fun q hq => by cases hq; exact ⟨_, _, _, hb, ht⟩)
theorem gr_own {w W W' : World} {p : Nat} {row : Option Nat} (h : w.grownBy W (some p)) (hg : W.grownBy W' row) (hrow : ∀ g, row = some g → w.heap.size ≤ g) : w.grownBy W' (some p) :=
 ⟨hg.os.trans h.os, hg.tape.trans h.tape, hg.output.trans h.output, Nat.le_trans h.size hg.size, fun k hk hne => (hg.block k (Nat.lt_of_lt_of_le hk h.size) (fun e => by have := hrow k e.symm; omega)).trans (h.block k hk hne)⟩
abbrev bv (b : UInt8) : Value := .int .u8 b.toNat
theorem conv_own {P : Program} {w : World} {B : Nat} {v : Value} {l : List UInt8} (src dst e : TypeId) (hs : P.underlying src = some (.slice e)) (he : P.underlying e = some (.int .u8)) (hd : P.underlying dst = some .string) (hown : w.ownsRow B e 1 v l.length (l.map bv)) (hv : ¬v = .slice none 0 0) :
 (convert src dst v).run P w = .ok (.string ⟨l.toArray⟩) w := by
 obtain ⟨g, cap, rfl⟩ := own_shape hown hv
 refine run_convert_bytes_back w src dst e _ cap l hs he hd fun j hj => ?_
 exact hown.cells (g := g) rfl j _ (by simp [hj, bv])
theorem bdrewN {B : Nat} {w w' : World} (h : Below B w w') (n : Nat) : Below B w (w'.drewN n) := ⟨h.os, h.tape, h.output, h.size, h.block⟩
theorem next_at {P : Program} (w : World) (k : Nat) (f : List UInt8) (pos : Nat) (ty : TypeId) (c : UInt8) (hit : w.heap[k]? = some (.stringIter ⟨f.toArray⟩ pos)) (hlt : pos < f.length) (hc : f.getD pos 0 = c) (hc2 : c.toNat < 128) :
 (Instr.next (.pointer (some ⟨k, 0, none⟩)) true ty).run P w = .ok (.tuple #[.bool true, .int .i64 pos, .int .i32 c.toNat]) (w.iterAt k ⟨f.toArray⟩ (pos + 1)) := by
 have hlt' : pos < (ByteArray.mk f.toArray).size := by simpa [ByteArray.size] using hlt
 have e : (ByteArray.mk f.toArray)[pos]'hlt' = c := by rw [← hc]; simp [List.getD, hlt]; rfl
 rw [Lib.run_next_ascii_at w k _ pos ty hit hlt' (by rw [e]; exact hc2), e]
theorem next_end {P : Program} (w : World) (k : Nat) (f : List UInt8) (pos : Nat) (ty : TypeId) (hit : w.heap[k]? = some (.stringIter ⟨f.toArray⟩ pos)) (hlt : ¬ pos < f.length) :
 (Instr.next (.pointer (some ⟨k, 0, none⟩)) true ty).run P w = .ok (.tuple #[.bool false]) w :=
 Lib.run_next_end_at w k _ pos ty hit (by simpa [ByteArray.size] using hlt)
theorem iterPos_of {w : World} {k : Nat} {s : ByteArray} {pos : Nat} (h : w.heap[k]? = some (.stringIter s pos)) : w.iterPos k = pos := by simp [World.iterPos, h]
inductive Ty where
 | mk (k n : Int) (s : ByteArray) (q : Int) (args : List Ty)
namespace Ty
def k : Ty → Int | mk k _ _ _ _ => k
def n : Ty → Int | mk _ n _ _ _ => n
def s : Ty → ByteArray | mk _ _ s _ _ => s
def q : Ty → Int | mk _ _ _ q _ => q
def args : Ty → List Ty | mk _ _ _ _ l => l
end Ty
instance : Inhabited Ty := ⟨.mk 0 0 ⟨#[]⟩ 0 []⟩
def rowOf (t : Ty) (ao : Option Addr) (cap : Nat) : Array Value := #[.int .i64 t.k, .int .i64 t.n, .string t.s, .int .i64 t.q, .slice ao t.args.length cap]
mutual
def TyV (w : World) (D : Nat → Prop) : Ty → List Value → Prop
 | .mk k n s q args, row => ∃ ao cap, row = [.int .i64 k, .int .i64 n, .string s, .int .i64 q, .slice ao args.length cap] ∧ args.length ≤ cap ∧ ArgsV w D args ao 0
def ArgsV (w : World) (D : Nat → Prop) : List Ty → Option Addr → Nat → Prop
 | [], _, _ => True
 | p :: ps, ao, i => (∃ b off row, ao = some ⟨b, off, none⟩ ∧ D b ∧ (∀ j, j < 5 → w.cell? ⟨b, off + i * 5 + j, none⟩ = row[j]?) ∧ TyV w D p row) ∧ ArgsV w D ps ao (i + 1)
end
mutual
theorem TyV.keep {w w' : World} {D : Nat → Prop} (hk : ∀ b, D b → ∀ off, w'.cell? ⟨b, off, none⟩ = w.cell? ⟨b, off, none⟩) : ∀ {p : Ty} {row : List Value}, TyV w D p row → TyV w' D p row
 | .mk k n s q args, row => by
  intro h
  unfold TyV at h ⊢
  obtain ⟨ao, cap, hr, hc, hkv⟩ := h
  exact ⟨ao, cap, hr, hc, ArgsV.keep hk hkv⟩
theorem ArgsV.keep {w w' : World} {D : Nat → Prop} (hk : ∀ b, D b → ∀ off, w'.cell? ⟨b, off, none⟩ = w.cell? ⟨b, off, none⟩) : ∀ {l : List Ty} {ao : Option Addr} {i : Nat}, ArgsV w D l ao i → ArgsV w' D l ao i
 | [], _, _ => fun _ => by unfold ArgsV; trivial
 | p :: ps, ao, i => by
  intro h
  unfold ArgsV at h ⊢
  obtain ⟨⟨b, off, row, ha, hb, hc, hp⟩, ht⟩ := h
  exact ⟨⟨b, off, row, ha, hb, fun j hj => (hk b hb _).trans (hc j hj), TyV.keep hk hp⟩, ArgsV.keep hk ht⟩
end
mutual
theorem TyV.mono {w : World} {D D' : Nat → Prop} (hN : ∀ b, D b → D' b) : ∀ {p : Ty} {row : List Value}, TyV w D p row → TyV w D' p row
 | .mk k n s q args, row => by
  intro h
  unfold TyV at h ⊢
  obtain ⟨ao, cap, hr, hc, hkv⟩ := h
  exact ⟨ao, cap, hr, hc, ArgsV.mono hN hkv⟩
theorem ArgsV.mono {w : World} {D D' : Nat → Prop} (hN : ∀ b, D b → D' b) : ∀ {l : List Ty} {ao : Option Addr} {i : Nat}, ArgsV w D l ao i → ArgsV w D' l ao i
 | [], _, _ => fun _ => by unfold ArgsV; trivial
 | p :: ps, ao, i => by
  intro h
  unfold ArgsV at h ⊢
  obtain ⟨⟨b, off, row, ha, hb, hc, hp⟩, ht⟩ := h
  exact ⟨⟨b, off, row, ha, hN b hb, hc, TyV.mono hN hp⟩, ArgsV.mono hN ht⟩
end
theorem ArgsV.get {w : World} {D : Nat → Prop} : ∀ {l : List Ty} {ao : Option Addr} {i : Nat}, ArgsV w D l ao i → ∀ {k : Nat} (hk : k < l.length), ∃ b off row, ao = some ⟨b, off, none⟩ ∧ D b ∧ (∀ j, j < 5 → w.cell? ⟨b, off + (i + k) * 5 + j, none⟩ = row[j]?) ∧ TyV w D l[k] row
 | p :: ps, ao, i, h, k, hk => by
  unfold ArgsV at h
  obtain ⟨⟨b, off, row, ha, hb, hc, hp⟩, ht⟩ := h
  cases k with
  | zero => exact ⟨b, off, row, ha, hb, hc, hp⟩
  | succ k =>
   have := ArgsV.get ht (k := k) (by simpa using hk)
   rw [show i + 1 + k = i + (k + 1) from by omega] at this
   simpa using this
theorem ArgsV.of {w : World} {D : Nat → Prop} : ∀ {l : List Ty} {ao : Option Addr} {i : Nat}, (∀ k (hk : k < l.length), ∃ b off row, ao = some ⟨b, off, none⟩ ∧ D b ∧ (∀ j, j < 5 → w.cell? ⟨b, off + (i + k) * 5 + j, none⟩ = row[j]?) ∧ TyV w D l[k] row) → ArgsV w D l ao i
 | [], _, _ => fun _ => by unfold ArgsV; trivial
 | p :: ps, ao, i => by
  intro h
  unfold ArgsV
  refine ⟨h 0 (by simp), ArgsV.of fun k hk => ?_⟩
  have := h (k + 1) (by simpa using hk)
  rw [show i + (k + 1) = i + 1 + k from by omega] at this
  simpa using this
def SlD (w : World) (D : Nat → Prop) (l : List Ty) (ao : Option Addr) (cap : Nat) : Prop := l.length ≤ cap ∧ ArgsV w D l ao 0
theorem SlD.keep {w w' : World} {D : Nat → Prop} {l : List Ty} {ao : Option Addr} {cap : Nat} (h : SlD w D l ao cap) (hk : ∀ b, D b → ∀ off, w'.cell? ⟨b, off, none⟩ = w.cell? ⟨b, off, none⟩) : SlD w' D l ao cap := ⟨h.1, h.2.keep hk⟩
theorem SlD.mono {w : World} {D D' : Nat → Prop} {l : List Ty} {ao : Option Addr} {cap : Nat} (h : SlD w D l ao cap) (hN : ∀ b, D b → D' b) : SlD w D' l ao cap := ⟨h.1, h.2.mono hN⟩
theorem TyV.row {w : World} {D : Nat → Prop} {p : Ty} {row : List Value} (h : TyV w D p row) : ∃ ao cap, row = (rowOf p ao cap).toList ∧ SlD w D p.args ao cap := by
 cases p
 unfold TyV at h
 obtain ⟨ao, cap, hr, hc, hk⟩ := h
 exact ⟨ao, cap, hr, hc, hk⟩
theorem TyV.mk' {w : World} {D : Nat → Prop} {p : Ty} {ao : Option Addr} {cap : Nat} (h : SlD w D p.args ao cap) : TyV w D p (rowOf p ao cap).toList := by
 cases p
 unfold TyV
 exact ⟨ao, cap, rfl, h.1, h.2⟩
theorem below_cells {N : Nat} {w w' : World} (h : Below N w w') : ∀ b, b < N → ∀ off, w'.cell? ⟨b, off, none⟩ = w.cell? ⟨b, off, none⟩ := fun b hb off => h.cell (p := ⟨b, off, none⟩) hb
theorem index_at {P : Program} {t e : TypeId} {sz : Nat} (ht : P.underlying t = some (.slice e)) (hs : ∀ w : World, (sizeOf e).run P w = .ok sz w) {ao : Option Addr} {b off : Nat} (ha : ao = some ⟨b, off, none⟩) (n cp k : Nat) (hk : k < n) (w : World) :
 (Instr.indexAt t (.slice ao n cp) (.int .i64 k)).run P w = .ok (.pointer (some ⟨b, off + k * sz, none⟩)) w := by
 subst ha
 have he : P.elem t = e := by simp [Program.elem, ht]
 rw [run_indexAt_slice (h := by rw [he]; exact ht), if_pos (by omega), he, hs]
 simp [Result.andThen, Addr.add_lit]
theorem size26 (w : World) : (sizeOf 26).run Tryz.prog w = .ok 5 w := by kernel_rfl
theorem arg_cells {w : World} {D : Nat → Prop} {l : List Ty} {ao : Option Addr} {cap : Nat} (h : SlD w D l ao cap) {j : Nat} (hj : j < l.length) : ∃ b p ap cp, D b ∧ (∀ w' : World, (Instr.indexAt 24 (.slice ao l.length cap) (.int .i64 j)).run Tryz.prog w' = .ok (.pointer (some ⟨b, p, none⟩)) w') ∧
 w.cell? ⟨b, p, none⟩ = some (.int .i64 l[j].k) ∧ w.cell? ⟨b, p + 1, none⟩ = some (.int .i64 l[j].n) ∧ w.cell? ⟨b, p + 2, none⟩ = some (.string l[j].s) ∧ w.cell? ⟨b, p + 3, none⟩ = some (.int .i64 l[j].q) ∧ w.cell? ⟨b, p + 4, none⟩ = some (.slice ap l[j].args.length cp) ∧ SlD w D l[j].args ap cp := by
 obtain ⟨b, off, row, ha, hD, hrow, hp⟩ := h.2.get hj
 obtain ⟨ap, cp, rfl, hs⟩ := hp.row
 rw [Nat.zero_add] at hrow
 exact ⟨b, off + j * 5, ap, cp, hD, fun w' => index_at Tryz.underlying24 size26 ha l.length cap j hj w', hrow 0 (by omega), hrow 1 (by omega), hrow 2 (by omega), hrow 3 (by omega), hrow 4 (by omega), hs⟩
mutual
def parts : Ty → Nat
 | .mk _ _ _ _ args => 1 + partsL args
def partsL : List Ty → Nat
 | [] => 0
 | p :: ps => parts p + partsL ps
end
theorem parts_mem {l : List Ty} {p : Ty} (h : p ∈ l) : parts p ≤ partsL l := by
 induction l with
 | nil => simp at h
 | cons x xs ih =>
  rw [partsL]
  rcases List.mem_cons.1 h with rfl | h
  · omega
  · have := ih h; omega
theorem parts_pos (t : Ty) : 0 < parts t := by cases t; rw [parts]; omega
theorem parts_args (t : Ty) : parts t = 1 + partsL t.args := by cases t; rw [parts]; rfl
abbrev w_and : ByteArray := ⟨#[97, 110, 100]⟩
abbrev w_andalso : ByteArray := ⟨#[97, 110, 100, 97, 108, 115, 111]⟩
abbrev w_as : ByteArray := ⟨#[97, 115]⟩
abbrev w_case : ByteArray := ⟨#[99, 97, 115, 101]⟩
abbrev w_data : ByteArray := ⟨#[100, 97, 116, 97]⟩
abbrev w_else : ByteArray := ⟨#[101, 108, 115, 101]⟩
abbrev w_end : ByteArray := ⟨#[101, 110, 100]⟩
abbrev w_exception : ByteArray := ⟨#[101, 120, 99, 101, 112, 116, 105, 111, 110]⟩
abbrev w_false : ByteArray := ⟨#[102, 97, 108, 115, 101]⟩
abbrev w_fn : ByteArray := ⟨#[102, 110]⟩
abbrev w_fun : ByteArray := ⟨#[102, 117, 110]⟩
abbrev w_if : ByteArray := ⟨#[105, 102]⟩
abbrev w_in : ByteArray := ⟨#[105, 110]⟩
abbrev w_let : ByteArray := ⟨#[108, 101, 116]⟩
abbrev w_of : ByteArray := ⟨#[111, 102]⟩
abbrev w_open : ByteArray := ⟨#[111, 112, 101, 110]⟩
abbrev w_orelse : ByteArray := ⟨#[111, 114, 101, 108, 115, 101]⟩
abbrev w_raise : ByteArray := ⟨#[114, 97, 105, 115, 101]⟩
abbrev w_sig : ByteArray := ⟨#[115, 105, 103]⟩
abbrev w_signature : ByteArray := ⟨#[115, 105, 103, 110, 97, 116, 117, 114, 101]⟩
abbrev w_struct : ByteArray := ⟨#[115, 116, 114, 117, 99, 116]⟩
abbrev w_structure : ByteArray := ⟨#[115, 116, 114, 117, 99, 116, 117, 114, 101]⟩
abbrev w_then : ByteArray := ⟨#[116, 104, 101, 110]⟩
abbrev w_true : ByteArray := ⟨#[116, 114, 117, 101]⟩
abbrev w_try : ByteArray := ⟨#[116, 114, 121]⟩
abbrev w_type : ByteArray := ⟨#[116, 121, 112, 101]⟩
abbrev w_val : ByteArray := ⟨#[118, 97, 108]⟩
abbrev w_with : ByteArray := ⟨#[119, 105, 116, 104]⟩
abbrev s_lp : ByteArray := ⟨#[40]⟩
abbrev s_rp : ByteArray := ⟨#[41]⟩
abbrev s_lb : ByteArray := ⟨#[91]⟩
abbrev s_rb : ByteArray := ⟨#[93]⟩
abbrev s_com : ByteArray := ⟨#[44]⟩
abbrev s_sem : ByteArray := ⟨#[59]⟩
abbrev s_col : ByteArray := ⟨#[58]⟩
abbrev s_bar : ByteArray := ⟨#[124]⟩
abbrev s_eq : ByteArray := ⟨#[61]⟩
abbrev s_lt : ByteArray := ⟨#[60]⟩
abbrev s_gt : ByteArray := ⟨#[62]⟩
abbrev s_pl : ByteArray := ⟨#[43]⟩
abbrev s_mi : ByteArray := ⟨#[45]⟩
abbrev s_st : ByteArray := ⟨#[42]⟩
abbrev s_sl : ByteArray := ⟨#[47]⟩
abbrev s_pc : ByteArray := ⟨#[37]⟩
abbrev s_ca : ByteArray := ⟨#[94]⟩
abbrev s_ti : ByteArray := ⟨#[126]⟩
abbrev s_ex : ByteArray := ⟨#[33]⟩
abbrev s_dot : ByteArray := ⟨#[46]⟩
abbrev s_arr : ByteArray := ⟨#[61, 62]⟩
abbrev s_to : ByteArray := ⟨#[45, 62]⟩
abbrev s_asg : ByteArray := ⟨#[58, 61]⟩
abbrev s_cons : ByteArray := ⟨#[58, 58]⟩
abbrev s_opq : ByteArray := ⟨#[58, 62]⟩
abbrev s_ne : ByteArray := ⟨#[60, 62]⟩
abbrev s_le : ByteArray := ⟨#[60, 61]⟩
abbrev s_ge : ByteArray := ⟨#[62, 61]⟩
abbrev s_us : ByteArray := ⟨#[95]⟩
def wordsA : List ByteArray := [w_and, w_andalso, w_as, w_case, w_data, w_else, w_end, w_exception, w_false, w_fn, w_fun, w_if, w_in, w_let, w_of, w_open, w_orelse, w_raise, w_sig, w_signature, w_struct, w_structure, w_then, w_true, w_try, w_type, w_val, w_with]
def signsA : List ByteArray := [s_lp, s_rp, s_lb, s_rb, s_com, s_sem, s_col, s_bar, s_eq, s_lt, s_gt, s_pl, s_mi, s_st, s_sl, s_pc, s_ca, s_ti, s_ex, s_dot, s_arr, s_to, s_asg, s_cons, s_opq, s_ne, s_le, s_ge, s_us]
structure Src where
 toks : List Tok
 fk : Nat
 fa : Nat
namespace Src
def K (P : Src) (i : Nat) : Int := match P.toks[i]? with
 | some t => (t.1 : Int)
 | none => -1
def A (P : Src) (i : Nat) : Nat := match P.toks[i]? with
 | some t => t.2.1
 | none => P.fa
def T (P : Src) (i : Nat) : ByteArray := match P.toks[i]? with
 | some t => t.2.2.1
 | none => ⟨#[]⟩
def N (P : Src) (i : Nat) : Nat := match P.toks[i]? with
 | some t => t.2.2.2
 | none => 0
end Src
inductive Res (α : Type) where
 | bad (k a : Nat)
 | ok (x : α) (i : Nat)
abbrev M (α : Type) := Nat → Res α
def ret {α : Type} (x : α) : M α := fun i => .ok x i
def bnd {α β : Type} (m : M α) (g : α → M β) : M β := fun i => match m i with
 | .bad k a => .bad k a
 | .ok x j => g x j
instance : Monad M where
 pure := ret
 bind := bnd
theorem bind_ok {α β : Type} {m : M α} {g : α → M β} {i j : Nat} {x : α} (h : m i = .ok x j) : (m >>= g) i = g x j := by show bnd m g i = _; rw [bnd, h]
theorem bind_bad {α β : Type} {m : M α} {g : α → M β} {i k a : Nat} (h : m i = .bad k a) : (m >>= g) i = .bad k a := by show bnd m g i = _; rw [bnd, h]
section
variable (P : Src)
def failD {α : Type} (e : Nat) : M α := fun i => if P.K i = -1 then .bad P.fk P.fa else .bad e (P.A i)
def isD (s : ByteArray) (i : Nat) : Bool := decide (P.K i = 6 ∨ P.K i = 7) && decide (P.T i = s)
def oneD (l : List ByteArray) (i : Nat) : Bool := decide (P.K i = 6 ∨ P.K i = 7) && l.any fun s => decide (P.T i = s)
def eatD (s : ByteArray) : M Bool := fun i => if isD P s i then .ok true (i + 1) else .ok false i
def mustD (s : ByteArray) : M Unit := fun i => if isD P s i then .ok () (i + 1) else failD P 4 i
def kindD (k : Int) : M ByteArray := fun i => if P.K i = k then .ok (P.T i) (i + 1) else failD P 4 i
def pathL (last : Nat) : Nat → ByteArray → M (ByteArray × Nat)
 | 0, _ => failD P 4
 | f + 1, s => fun i =>
  if P.K i = 3 ∧ last ≠ 4 then .ok (s ++ P.T i, 3) (i + 1)
  else if P.K i ≠ 4 then failD P 4 i
  else if isD P s_dot (i + 1) then pathL last f (s ++ P.T i ++ s_dot) (i + 2)
  else if last = 3 then failD P 4 (i + 1) else .ok (s ++ P.T i, 4) (i + 1)
def pathD (last : Nat) : M (ByteArray × Nat) := pathL P last (P.toks.length + 1) ⟨#[]⟩
def manyL {α : Type} (c : Nat → Bool) (item : M α) : Nat → List α → M (List α)
 | 0, acc => ret acc
 | f + 1, acc => fun i => if c i then (item >>= fun x => manyL c item f (acc ++ [x])) i else .ok acc i
def sepL {α : Type} (item : M α) (s : ByteArray) : Nat → List α → M (List α)
 | 0, acc => ret acc
 | f + 1, acc => fun i => if isD P s i then (item >>= fun x => sepL item s f (acc ++ [x])) (i + 1) else .ok acc i
def rowD {α : Type} (item : M α) (s : ByteArray) : M (List α) := do
 let x ← item
 sepL P item s (P.toks.length + 1) [x]
inductive NT where
 | exp | pat | typ | dec | sig
structure Rec where
 go : NT → M Ty
 deep : M Ty
variable (R : Rec)
def begunB (i : Nat) : Bool := decide (1 ≤ P.K i ∧ P.K i ≤ 4) || oneD P [s_lp, s_lb, s_ti, s_us, w_true, w_false] i
def beginsB (i : Nat) : Bool := decide (1 ≤ P.K i ∧ P.K i ≤ 4) || oneD P [s_lp, s_lb, s_ti, s_ex, w_let, w_case, w_try, w_true, w_false] i
def appL (a : Nat) : Nat → List Ty → M Ty
 | 0, _ => failD P 4
 | f + 1, l => fun i => if l.length ≠ 1 ∨ P.K i = 3 ∨ P.K i = 4 then (pathD P 3 >>= fun p => appL a f [.mk 31 a p.1 0 l]) i else .ok (l.headD default) i
def appliedB : M Ty := fun i =>
 if P.K i = 5 then appL P (P.A i) (P.toks.length + 1) [.mk 30 (P.A i) (P.T i) 0 []] (i + 1)
 else if isD P s_lp i then (do
  let l ← rowD P (R.go .typ) s_com
  mustD P s_rp
  appL P (P.A i) (P.toks.length + 1) l : M Ty) (i + 1)
 else appL P (P.A i) (P.toks.length + 1) [] i
def arrowB : M Ty := do
 let l ← rowD P (appliedB P R) s_st
 let n : Ty := if l.length > 1 then .mk 32 (l.headD default).n ⟨#[]⟩ 0 l else l.headD default
 let t ← eatD P s_to
 if t then do
  let r ← R.go .typ
  return .mk 33 n.n ⟨#[]⟩ 0 [n, r]
 else return n
def roundPatB (a : Nat) : M Ty := fun i =>
 if isD P s_rp i then .ok (.mk 25 a ⟨#[]⟩ 0 []) (i + 1)
 else if P.K i = 3 ∧ P.K (i + 1) = 6 ∧ P.T (i + 1) = w_as then (do
  let p ← R.go .pat
  mustD P s_rp
  return .mk 28 a (P.T i) 0 [p] : M Ty) (i + 2)
 else (do
  let p ← R.go .pat
  let c ← eatD P s_com
  if c then do
   let l ← rowD P (R.go .pat) s_com
   mustD P s_rp
   return .mk 25 a ⟨#[]⟩ 0 (p :: l)
  else do
   let h ← eatD P s_col
   if h then do
    let t ← R.go .typ
    mustD P s_rp
    return .mk 29 a ⟨#[]⟩ 0 [p, t]
   else do
    mustD P s_rp
    return p : M Ty) i
def apatB : M Ty := fun i =>
 if isD P s_us i then .ok (.mk 20 (P.A i) ⟨#[]⟩ 0 []) (i + 1)
 else if P.K i = 3 then .ok (.mk 21 (P.A i) (P.T i) 0 []) (i + 1)
 else if P.K i = 1 then .ok (.mk 22 (P.A i) ⟨#[]⟩ (P.N i) []) (i + 1)
 else if isD P s_ti i then (if P.K (i + 1) = 1 then .ok (.mk 22 (P.A i) ⟨#[]⟩ (-(P.N (i + 1) : Int)) []) (i + 2) else failD P 4 (i + 1))
 else if P.K i = 2 then .ok (.mk 23 (P.A i) (P.T i) 0 []) (i + 1)
 else if P.K i = 4 then (pathD P 4 >>= fun p => ret (.mk 24 (P.A i) p.1 0 [])) i
 else if isD P w_true i ∨ isD P w_false i then .ok (.mk 24 (P.A i) (P.T i) 0 []) (i + 1)
 else if isD P s_lb i then (do
  let e ← eatD P s_rb
  if e then return .mk 26 (P.A i) ⟨#[]⟩ 0 []
  else do
   let l ← rowD P (R.go .pat) s_com
   mustD P s_rb
   return .mk 26 (P.A i) ⟨#[]⟩ 0 l : M Ty) (i + 1)
 else if isD P s_lp i then roundPatB P R (P.A i) (i + 1)
 else failD P 4 i
def cpatB : M Ty := fun i => (do
 let n ← apatB P R
 fun j => if P.K i = 4 ∧ begunB P j = true then (apatB P R >>= fun p => ret (.mk n.k n.n n.s n.q [p])) j else .ok n j : M Ty) i
def consesD : List Ty → Ty
 | [] => default
 | [p] => p
 | p :: q :: r => .mk 27 p.n ⟨#[]⟩ 0 [p, consesD (q :: r)]
def patB : M Ty := do
 let l ← rowD P (cpatB P R) s_cons
 return consesD l
def startsL (where' : Nat) : List ByteArray :=
 if where' = 0 then [w_val, w_fun, w_type, w_data, w_exception, w_structure, w_open, w_signature]
 else if where' = 1 then [w_val, w_fun, w_type, w_data, w_exception, w_structure, w_open]
 else [w_val, w_fun, w_exception, w_open]
def decsB (where' : Nat) : M (List Ty) := manyL (oneD P (startsL where')) (R.go .dec) (P.toks.length + 1) []
def conB : M Ty := fun i => (do
 let s ← kindD P 4
 let o ← eatD P w_of
 if o then do
  let t ← R.go .typ
  return .mk 40 (P.A i) s 0 [t]
 else return .mk 40 (P.A i) s 0 [] : M Ty) i
def oneB : M Ty := fun i => (do
 let s ← kindD P 5
 return .mk 30 (P.A i) s 0 [] : M Ty) i
def headB (k : Int) (a : Nat) : M Ty := fun i =>
 if P.K i = 5 then (do
  let v ← oneB P
  let s ← kindD P 3
  return .mk k a s 1 [v] : M Ty) i
 else if isD P s_lp i then (do
  let l ← rowD P (oneB P) s_com
  mustD P s_rp
  let s ← kindD P 3
  return .mk k a s l.length l : M Ty) (i + 1)
 else (do
  let s ← kindD P 3
  return .mk k a s 0 [] : M Ty) i
def dbindB : M Ty := fun i => (do
 let n ← headB P 39 (P.A i)
 mustD P s_eq
 let l ← rowD P (conB P R) s_bar
 return .mk n.k n.n n.s n.q (n.args ++ l) : M Ty) i
def dataB (a : Nat) : M Ty := do
 let l ← rowD P (dbindB P R) w_and
 return .mk 38 a ⟨#[]⟩ 0 l
def fbindB : M Ty := fun i => (do
 let s ← kindD P 3
 let p ← apatB P R
 let l ← manyL (begunB P) (apatB P R) (P.toks.length + 1) [p]
 let c ← eatD P s_col
 if c then do
  let t ← R.go .typ
  mustD P s_eq
  let e ← R.deep
  return .mk 36 (P.A i) s 0 (l ++ [.mk 19 e.n ⟨#[]⟩ 0 [e, t]])
 else do
  mustD P s_eq
  let e ← R.go .exp
  return .mk 36 (P.A i) s 0 (l ++ [e]) : M Ty) i
def bodyB : M Ty := fun i =>
 if isD P w_struct i then (do
  let l ← decsB P R 1
  mustD P w_end
  return .mk 45 (P.A i) ⟨#[]⟩ 0 l : M Ty) (i + 1)
 else (pathD P 4 >>= fun p => ret (.mk 46 (P.A i) p.1 0 [])) i
def annB : M (Int × List Ty) := fun i =>
 if isD P s_col i then (R.go .sig >>= fun g => ret (1, [g])) (i + 1)
 else if isD P s_opq i then (R.go .sig >>= fun g => ret (2, [g])) (i + 1)
 else .ok (0, []) i
def structureB (a : Nat) : M Ty := do
 let s ← kindD P 4
 let g ← annB P R
 mustD P s_eq
 let b ← bodyB P R
 return .mk 42 a s g.1 (g.2 ++ [b])
def decB : M Ty := fun i =>
 if P.T i = w_val then (do
  let p ← R.go .pat
  mustD P s_eq
  let e ← R.go .exp
  return .mk 34 (P.A i) ⟨#[]⟩ 0 [p, e] : M Ty) (i + 1)
 else if P.T i = w_fun then (do
  let l ← rowD P (fbindB P R) w_and
  return .mk 35 (P.A i) ⟨#[]⟩ 0 l : M Ty) (i + 1)
 else if P.T i = w_type then (do
  let n ← headB P 37 (P.A i)
  mustD P s_eq
  let t ← R.go .typ
  return .mk n.k n.n n.s n.q (n.args ++ [t]) : M Ty) (i + 1)
 else if P.T i = w_data then dataB P R (P.A i) (i + 1)
 else if P.T i = w_exception then (do
  let c ← conB P R
  return .mk 41 (P.A i) c.s c.q c.args : M Ty) (i + 1)
 else if P.T i = w_structure then structureB P R (P.A i) (i + 1)
 else if P.T i = w_signature then (do
  let s ← kindD P 4
  mustD P s_eq
  let g ← R.go .sig
  return .mk 43 (P.A i) s 0 [g] : M Ty) (i + 1)
 else (do
  let p ← pathD P 4
  return .mk 44 (P.A i) p.1 0 [] : M Ty) (i + 1)
def specB : M Ty := fun i =>
 if isD P w_val i then (do
  let s ← kindD P 3
  mustD P s_col
  let t ← R.go .typ
  return .mk 49 (P.A i) s 0 [t] : M Ty) (i + 1)
 else if isD P w_type i then (do
  let n ← headB P 50 (P.A i)
  let e ← eatD P s_eq
  if e then do
   let t ← R.go .typ
   return .mk n.k n.n n.s n.q (n.args ++ [t])
  else return n : M Ty) (i + 1)
 else if isD P w_data i then dataB P R (P.A i) (i + 1)
 else if isD P w_exception i then (do
  let c ← conB P R
  return .mk 41 (P.A i) c.s c.q c.args : M Ty) (i + 1)
 else if isD P w_structure i then (do
  let s ← kindD P 4
  mustD P s_col
  let g ← R.go .sig
  return .mk 51 (P.A i) s 0 [g] : M Ty) (i + 1)
 else failD P 4 i
def specsL : Nat → List Ty → M (List Ty)
 | 0, acc => ret acc
 | f + 1, acc => fun i => if isD P w_end i then .ok acc (i + 1) else (specB P R >>= fun x => specsL f (acc ++ [x])) i
def sigsB : M Ty := fun i =>
 if isD P w_sig i then (do
  let l ← specsL P R (P.toks.length + 1) []
  return .mk 47 (P.A i) ⟨#[]⟩ 0 l : M Ty) (i + 1)
 else (do
  let s ← kindD P 4
  return .mk 48 (P.A i) s 0 [] : M Ty) i
def ruleB : M Ty := do
 let p ← R.go .pat
 mustD P s_arr
 let e ← R.go .exp
 return .mk 12 p.n ⟨#[]⟩ 0 [p, e]
def rulesB (k : Int) (a : Nat) (w : ByteArray) : M Ty := do
 let e ← R.go .exp
 mustD P w
 let l ← rowD P (ruleB P R) s_bar
 mustD P w_end
 return .mk k a ⟨#[]⟩ 0 (e :: l)
def roundB (a : Nat) : M Ty := fun i =>
 if isD P s_rp i then .ok (.mk 5 a ⟨#[]⟩ 0 []) (i + 1)
 else (do
  let n ← R.go .exp
  let c ← eatD P s_com
  if c then do
   let l ← rowD P (R.go .exp) s_com
   mustD P s_rp
   return .mk 5 a ⟨#[]⟩ 0 (n :: l)
  else do
   let m ← eatD P s_sem
   if m then do
    let l ← rowD P (R.go .exp) s_sem
    mustD P s_rp
    return .mk 15 a ⟨#[]⟩ 0 (n :: l)
   else do
    let h ← eatD P s_col
    if h then do
     let t ← R.go .typ
     mustD P s_rp
     return .mk 19 a ⟨#[]⟩ 0 [n, t]
    else do
     mustD P s_rp
     return n : M Ty) i
def atomB : M Ty := fun i =>
 if P.K i = 1 then .ok (.mk 1 (P.A i) ⟨#[]⟩ (P.N i) []) (i + 1)
 else if P.K i = 2 then .ok (.mk 2 (P.A i) (P.T i) 0 []) (i + 1)
 else if P.K i = 3 ∨ P.K i = 4 then (pathD P 0 >>= fun p => ret (.mk (if p.2 = 3 then 3 else 4) (P.A i) p.1 0 [])) i
 else if isD P w_true i ∨ isD P w_false i then .ok (.mk 4 (P.A i) (P.T i) 0 []) (i + 1)
 else if isD P s_lp i then roundB P R (P.A i) (i + 1)
 else if isD P s_lb i then (do
  let e ← eatD P s_rb
  if e then return .mk 6 (P.A i) ⟨#[]⟩ 0 []
  else do
   let l ← rowD P (R.go .exp) s_com
   mustD P s_rb
   return .mk 6 (P.A i) ⟨#[]⟩ 0 l : M Ty) (i + 1)
 else if isD P w_let i then (do
  let l ← decsB P R 2
  mustD P w_in
  let e ← R.go .exp
  mustD P w_end
  return .mk 14 (P.A i) ⟨#[]⟩ l.length (l ++ [e]) : M Ty) (i + 1)
 else if isD P w_case i then rulesB P R 10 (P.A i) w_of (i + 1)
 else if isD P w_try i then rulesB P R 11 (P.A i) w_with (i + 1)
 else failD P 4 i
def prefixL : Nat → M Ty
 | 0 => failD P 4
 | f + 1 => fun i => if isD P s_ti i ∨ isD P s_ex i then (prefixL f >>= fun n => ret (.mk 18 (P.A i) (P.T i) 0 [n])) (i + 1) else atomB P R i
def prefixB : M Ty := prefixL P R (P.toks.length + 1)
def applyL : Nat → Ty → M Ty
 | 0, n => ret n
 | f + 1, n => fun i => if beginsB P i then (prefixB P R >>= fun b => applyL f (.mk 8 n.n ⟨#[]⟩ 0 [n, b])) i else .ok n i
def applyB : M Ty := do
 let n ← prefixB P R
 applyL P R (P.toks.length + 1) n
def lvL (k : Nat) : List ByteArray :=
 if k = 7 then [s_asg] else if k = 6 then [w_orelse] else if k = 5 then [w_andalso]
 else if k = 4 then [s_eq, s_ne, s_lt, s_le, s_gt, s_ge] else if k = 3 then [s_cons] else if k = 2 then [s_pl, s_mi, s_ca] else [s_st, s_sl, s_pc]
def neverB (k : Nat) : Bool := decide (k = 7 ∨ k = 4)
def joinD (s : ByteArray) (a b : Ty) : Ty :=
 if s = w_andalso then .mk 16 a.n ⟨#[]⟩ 0 [a, b] else if s = w_orelse then .mk 17 a.n ⟨#[]⟩ 0 [a, b] else .mk 18 a.n s 0 [a, b]
def colL (k : Nat) (item : M Ty) : Nat → List (ByteArray × Ty) → M (List (ByteArray × Ty))
 | 0, acc => ret acc
 | f + 1, acc => fun i => if (acc.length = 0 ∨ neverB k = false) ∧ oneD P (lvL k) i = true then (item >>= fun x => colL k item f (acc ++ [(P.T i, x)])) (i + 1) else .ok acc i
def foldR : Ty → List (ByteArray × Ty) → Ty
 | a, [] => a
 | a, (s, b) :: r => joinD s a (foldR b r)
def foldLd (a : Ty) (l : List (ByteArray × Ty)) : Ty := l.foldl (fun a p => joinD p.1 a p.2) a
def betB : Nat → M Ty
 | 0 => applyB P R
 | k + 1 => do
  let a ← betB k
  let l ← colL P (k + 1) (betB k) (P.toks.length + 1) []
  return if k + 1 = 3 then foldR a l else foldLd a l
def openB : M Ty := fun i =>
 if isD P w_fn i then (do
  let p ← apatB P R
  mustD P s_arr
  let e ← R.go .exp
  return .mk 7 (P.A i) ⟨#[]⟩ 0 [p, e] : M Ty) (i + 1)
 else if isD P w_if i then (do
  let a ← R.go .exp
  mustD P w_then
  let b ← R.go .exp
  mustD P w_else
  let c ← R.go .exp
  return .mk 9 (P.A i) ⟨#[]⟩ 0 [a, b, c] : M Ty) (i + 1)
 else if isD P w_raise i then (do
  let e ← R.go .exp
  return .mk 13 (P.A i) ⟨#[]⟩ 0 [e] : M Ty) (i + 1)
 else betB P R 7 i
def stepB : NT → M Ty
 | .exp => openB P R
 | .pat => patB P R
 | .typ => arrowB P R
 | .dec => decB P R
 | .sig => sigsB P R
end
def readS (P : Src) : Nat → NT → M Ty
 | 0, _ => failD P 5
 | g + 1, nt => stepB P ⟨readS P g, match g with
  | 0 => failD P 5
  | g' + 1 => readS P g' .exp⟩ nt
def recS (P : Src) (g : Nat) : Rec := ⟨readS P g, match g with
 | 0 => failD P 5
 | g' + 1 => readS P g' .exp⟩
theorem readS_succ (P : Src) (g : Nat) (nt : NT) : readS P (g + 1) nt = stepB P (recS P g) nt := by cases g <;> rfl
def wholeD (P : Src) (m : M Ty) : Res Ty := match m 0 with
 | .bad k a => .bad k a
 | .ok n j => if P.K j = 0 then .ok n j else failD P 4 j
def topD (P : Src) (which : Nat) : Res Ty :=
 if which = 0 then wholeD P (decsB P (recS P 60) 0 >>= fun l => ret (.mk 0 0 ⟨#[]⟩ 0 l))
 else if which = 1 then wholeD P (readS P 60 .exp) else if which = 2 then wholeD P (readS P 60 .pat) else wholeD P (readS P 60 .typ)
end Go.Proofs.YthehjeeiodbkjaaGreatDoor
