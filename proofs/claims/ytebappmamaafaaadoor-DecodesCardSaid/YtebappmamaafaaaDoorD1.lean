/-
  Proved: what Decode computes, in plain Lean; the contracts of the reader's fail, take and number. No condition but a text of at most 2^62 bytes.
-/
import Derived.Test.YtebappmamaafaaaDoorE7
import Derived.Deep.RegionHeld3
set_option linter.unusedSimpArgs false
set_option linter.unusedVariables false
namespace Go.Proofs.YtebappmamaafaaaDoor
open Go.RowKit

/-- a number, the highest byte first -/
def beN (l : List UInt8) : Nat := l.foldl (fun v b => v * 256 + b.toNat) 0
def cutB (s : ByteArray) (at_ n : Nat) : List UInt8 := (s.data.toList.drop at_).take n
def numB (s : ByteArray) (at_ n : Nat) : Option Nat := if at_ + n ≤ s.size then some (beN (cutB s at_ n)) else none
abbrev Rs (α : Type) := (Int × Int) ⊕ (α × Nat)
def endF (s : ByteArray) : Int × Int := (16, s.size)
abbrev Ic := Int × Int × Int
abbrev Fc := Int × Int × List Ic
abbrev Cc := List ByteArray × List Fc
def setOp (x : Ic) (i : Nat) (v : Int) : Ic := if i = 0 then (x.1, v, x.2.2) else (x.1, x.2.1, v)
def sgn (v : Nat) : Int := if 2147483648 ≤ v then (v : Int) - 4294967296 else v
def opsD (s : ByteArray) : List UInt8 → Nat → Ic → Nat → Rs Ic
  | [], _, x, a => .inr (x, a)
  | k :: r, i, x, a =>
    if k = 105 then match numB s a 4 with
      | none => .inl (endF s)
      | some v => if 1000000000 < sgn v ∨ sgn v < -1000000000 then .inl (17, a) else opsD s r (i + 1) (setOp x i (sgn v)) (a + 4)
    else match numB s a 2 with
      | none => .inl (endF s)
      | some v => opsD s r (i + 1) (setOp x i v) (a + 2)
def insD (s : ByteArray) (a : Nat) : Rs Ic :=
  match numB s a 1 with
  | none => .inl (endF s)
  | some op => if 26 ≤ op then .inl (18, a) else opsD s (formB op).1 0 (op, 0, 0) (a + 1)
def inssD (s : ByteArray) : Nat → List Ic → Nat → Rs (List Ic)
  | 0, l, a => .inr (l, a)
  | n + 1, l, a => match insD s a with
    | .inl f => .inl f
    | .inr (x, a') => inssD s n (l ++ [x]) a'
def funD (s : ByteArray) (a : Nat) : Rs Fc :=
  match numB s a 2 with
  | none => .inl (endF s)
  | some f => match numB s (a + 2) 2 with
    | none => .inl (endF s)
    | some t => match numB s (a + 4) 2 with
      | none => .inl (endF s)
      | some n => match inssD s n [] (a + 6) with
        | .inl e => .inl e
        | .inr (l, a') => .inr ((f, t, l), a')
def funsD (s : ByteArray) : Nat → List Fc → Nat → Rs (List Fc)
  | 0, l, a => .inr (l, a)
  | n + 1, l, a => match funD s a with
    | .inl f => .inl f
    | .inr (x, a') => funsD s n (l ++ [x]) a'
def textsD (s : ByteArray) : Nat → List ByteArray → Nat → Rs (List ByteArray)
  | 0, l, a => .inr (l, a)
  | n + 1, l, a => match numB s a 1 with
    | none => .inl (endF s)
    | some k => if 200 < k then .inl (17, a) else if a + 1 + k ≤ s.size then textsD s n (l ++ [⟨(cutB s (a + 1) k).toArray⟩]) (a + 1 + k) else .inl (endF s)
def headB : List UInt8 := [77, 76, 49]
def headD (s : ByteArray) : List UInt8 → Nat → Option (Int × Int)
  | [], _ => none
  | c :: r, i => if i = s.size then some (16, i) else if s.data.toList.getD i 0 = c then headD s r (i + 1) else some (15, i)
def codeD (s : ByteArray) : (Int × Int) ⊕ Cc :=
  if 4000000 < s.size then .inl (1, 0) else
  match headD s headB 0 with
  | some f => .inl f
  | none => match numB s 3 2 with
    | none => .inl (endF s)
    | some n => match textsD s n [] 5 with
      | .inl f => .inl f
      | .inr (ts, a) => match numB s a 2 with
        | none => .inl (endF s)
        | some m => match funsD s m [] (a + 2) with
          | .inl f => .inl f
          | .inr (fs, a') => if a' < s.size then .inl (16, (a' : Int)) else .inr (ts, fs)

theorem beN_snoc (l : List UInt8) (b : UInt8) : beN (l ++ [b]) = beN l * 256 + b.toNat := by simp [beN]
theorem beN_lt (l : List UInt8) : beN l < 256 ^ l.length := by
  have h : ∀ (l : List UInt8) (v : Nat), l.foldl (fun v b => v * 256 + b.toNat) v < (v + 1) * 256 ^ l.length := by
    intro l
    induction l with
    | nil => intro v; simp
    | cons b l ih =>
      intro v
      have h1 := ih (v * 256 + b.toNat)
      have h2 := b.toNat_lt
      have h3 : (v * 256 + b.toNat + 1) * 256 ^ l.length ≤ ((v + 1) * 256) * 256 ^ l.length := Nat.mul_le_mul_right _ (by omega)
      simp only [List.foldl_cons, List.length_cons, Nat.pow_succ]
      calc _ < _ := h1
        _ ≤ _ := h3
        _ = _ := by rw [Nat.mul_assoc, Nat.mul_comm 256]
  have := h l 0
  simpa [beN] using this

/-- the reader -/
def Rdr (w : World) (p : Nat) (s : ByteArray) (a : Nat) : Prop := w.heap[p]? = some (.cells #[.string s, .int .i64 a] 62 (0, 0))
abbrev errv (b : Nat) : Value := .iface 67 (.pointer (some ⟨b, 0, none⟩))
def ErrAt (w : World) (b : Nat) (f : Int × Int) : Prop := w.heap[b]? = some (.cells #[.int .i64 f.1, .int .i64 f.2] 71 (0, 0))

theorem fail_any (p : Value) (k a : Int) (w : World) : Calls Tryd.prog 39 #[p, .int .i64 k, .int .i64 a] w fun e w' => e = .returned (errv w.heap.size) ∧ w' = w.alloc (.cells #[.int .i64 k, .int .i64 a] 71) := by
  go_enter Tryd.func39, Tryd.ntmps39
  go_wp2
  go_ret
  exact ⟨rfl, rfl⟩

/-- what a step of the reader leaves -/
structure RStep (w w' : World) (p : Nat) (s : ByteArray) (a : Nat) : Prop where
  rd : Rdr w' p s a
  gr : w.grownBy w' (some p)
theorem gr_trans {w w1 w2 : World} {row : Option Nat} (h : w.grownBy w1 row) (h2 : w1.grownBy w2 row) : w.grownBy w2 row :=
  ⟨h2.os.trans h.os, h2.tape.trans h.tape, h2.output.trans h.output, Nat.le_trans h.size h2.size, fun k hk hne => (h2.block k (Nat.lt_of_lt_of_le hk h.size) hne).trans (h.block k hk hne)⟩
theorem gr_set (w : World) (b i : Nat) (v : Value) : w.grownBy (w.setCell ⟨b, i, none⟩ v) (some b) :=
  ⟨rfl, rfl, rfl, by simp [World.setCell], fun k _ hne => Below.heap_setCell _ _ _ _ (fun e => hne (by rw [e]))⟩
theorem gr_far {w W : World} {row : Option Nat} (h : w.grownBy W row) (b i : Nat) (v : Value) (hb : w.heap.size ≤ b) : w.grownBy (W.setCell ⟨b, i, none⟩ v) row :=
  ⟨h.os, h.tape, h.output, by simpa [World.setCell] using h.size, fun k hk hne => (Below.heap_setCell _ _ _ _ (by simp; omega)).trans (h.block k hk hne)⟩
theorem gr_drew (w : World) (n : Nat) (row : Option Nat) : w.grownBy (w.drewN n) row := ⟨rfl, rfl, rfl, Nat.le_refl _, fun _ _ _ => rfl⟩
theorem gr_below {w w' : World} (hb : Below w.heap.size w w') (row : Option Nat) : w.grownBy w' row := ⟨hb.os, hb.tape, hb.output, hb.size, fun k hk _ => hb.block k hk⟩
theorem Rdr.lt {w : World} {p : Nat} {s : ByteArray} {a : Nat} (h : Rdr w p s a) : p < w.heap.size := lt_of_block h
theorem cut_extract (s : ByteArray) (a n : Nat) (h : a + n ≤ s.size) : s.extract a (a + n) = ⟨(cutB s a n).toArray⟩ := by
  apply ByteArray.ext
  apply Array.ext'
  simp [cutB, ByteArray.data_extract, List.take_drop]

def TakePost (p : Nat) (s : ByteArray) (a n : Nat) (w : World) (e : Ending) (w' : World) : Prop :=
  (a + n ≤ s.size ∧ e = .returned (.tuple #[.string ⟨(cutB s a n).toArray⟩, .nilIface]) ∧ RStep w w' p s (a + n)) ∨
  (s.size < a + n ∧ ∃ b, e = .returned (.tuple #[.string ⟨#[]⟩, errv b]) ∧ RStep w w' p s a ∧ ErrAt w' b (endF s) ∧ w.heap.size ≤ b)
theorem take_any (p : Nat) (s : ByteArray) (a n : Nat) (w : World) (hr : Rdr w p s a) (ha : a ≤ s.size) (hs : s.size ≤ 4611686018427387904) (hn : n ≤ 65535) :
    Calls Tryd.prog 41 #[.pointer (some ⟨p, 0, none⟩), .int .i64 n] w (TakePost p s a n w) := by
  have HR := Lib.hid hr
  have hlt := hr.lt
  have r0 : w.cell? ⟨p, 0, none⟩ = some (.string s) := blk_cell hr 0
  have r1 : w.cell? ⟨p, 1, none⟩ = some (.int .i64 a) := blk_cell hr 1
  have z1 : w.frozen? ⟨p, 1, none⟩ = false := blk_free hr 1
  clear hr
  have hw1 : IntKind.i64.wrap ((s.size : Int) - (a : Int)) = (s.size : Int) - a := IntWalk.i64_in _ (by omega)
  by_cases h : a + n ≤ s.size
  · have hd : decide ((s.size : Int) - (a : Int) < (n : Int)) = false := by simp; omega
    go_enter Tryd.func41, Tryd.ntmps41
    go_wp2_with fail
    go_quiet (fail)
    go_wp2_with fail
    have hw2 : IntKind.i64.wrap ((a : Int) + n - n) = a := by rw [show (a : Int) + n - n = a from by omega]; exact IntWalk.i64_in _ (by omega)
    have h0 : (0 : Int) ≤ (a : Int) := by omega
    have h1 : (a : Int) ≤ (a : Int) + n := by omega
    have h2 : (a : Int) + n ≤ (s.size : Int) := by omega
    go_quiet (fail)
    go_wp2_with fail
    go_ret2
    refine .inl ⟨h, by rw [← cut_extract s a n h]; rfl, ?_, ?_⟩
    · have := blk_set HR.out 1 (.int .i64 ((a : Int) + n))
      unfold Rdr
      push_cast
      exact this
    · exact gr_trans (gr_trans (gr_drew _ _ _) (gr_set _ _ _ _)) (gr_drew _ _ _)
  · have hd : decide ((s.size : Int) - (a : Int) < (n : Int)) = true := by simp; omega
    go_enter Tryd.func41, Tryd.ntmps41
    go_wp2_with fail
    go_quiet (fail)
    go_wp2_with fail
    refine (fail_any _ _ _ _).mono ?_
    rintro e w1 ⟨rfl, rfl⟩
    go_wp2_with fail
    go_ret2
    exact .inr ⟨by omega, w.heap.size, rfl, ⟨blk_alloc HR.out _, gr_trans (World.grownBy_alloc w _ _) (gr_drew _ _ _)⟩, heap_alloc_new w _, Nat.le_refl _⟩

def NumPost (p : Nat) (s : ByteArray) (a n : Nat) (w : World) (e : Ending) (w' : World) : Prop :=
  match numB s a n with
  | some v => e = .returned (.tuple #[.int .i64 v, .nilIface]) ∧ RStep w w' p s (a + n)
  | none => ∃ b, e = .returned (.tuple #[.int .i64 0, errv b]) ∧ RStep w w' p s a ∧ ErrAt w' b (endF s) ∧ w.heap.size ≤ b
theorem cutB_len (s : ByteArray) (a n : Nat) (h : a + n ≤ s.size) : (cutB s a n).length = n := by
  have : s.data.toList.length = s.size := Array.length_toList
  simp [cutB, this]
  omega
theorem beN_step (l : List UInt8) (k : Nat) (h : k < l.length) : beN (l.take (k + 1)) = beN (l.take k) * 256 + (l.getD k 0).toNat := by
  rw [List.take_succ_eq_append_getElem h, beN_snoc]
  simp [List.getD, h]
theorem beN_bd (l : List UInt8) (k : Nat) (h : k ≤ 4) : beN (l.take k) ≤ 4294967295 := by
  have h1 := beN_lt (l.take k)
  have h2 : 256 ^ (l.take k).length ≤ 256 ^ 4 := Nat.pow_le_pow_right (by decide) (by rw [List.length_take]; omega)
  have h3 : (256 : Nat) ^ 4 = 4294967296 := by decide
  omega
theorem or_byte (v b : Nat) (hv : v ≤ 4294967295) (hb : b < 256) : bits BinOp.or IntKind.i64 ((v : Int) * 256) (wrap64 (b : Int)) = ((v * 256 + b : Nat) : Int) := by
  have e : wrap64 (b : Int) = (b : Int) := by
    unfold wrap64; omega
  rw [e]
  have := bits_join .i64 62 (by decide) (fun n h0 h1 => IntWalk.i64_in _ (by omega)) 8 ((v : Int) * 256) (b : Int)
  rw [this (by omega) (by omega) (by omega) (by omega) (by omega) (by omega)]
  omega
set_option maxHeartbeats 1000000 in
theorem number_any (p : Nat) (s : ByteArray) (a n : Nat) (w : World) (hr : Rdr w p s a) (ha : a ≤ s.size) (hs : s.size ≤ 4611686018427387904) (hn : n ≤ 4) :
    Calls Tryd.prog 40 #[.pointer (some ⟨p, 0, none⟩), .int .i64 n] w (NumPost p s a n w) := by
  go_enter Tryd.func40, Tryd.ntmps40
  go_wp2_with fail
  refine (take_any p s a n _ hr ha hs (by omega)).mono ?_
  rintro e w1 (⟨h, rfl, hst⟩ | ⟨h, b, rfl, hst, her, hb⟩)
  · have hlen := cutB_len s a n h
    generalize hl : cutB s a n = l at *
    have HL := Lib.hid hl
    have HLEN := Lib.hid hlen
    have hl2 : l.length ≤ 4 := by omega
    have HST := Lib.hid hst
    clear hl hlen hst
    go_wp2_with fail
    go_loop [8, 18] (fun v i => ∃ k : Nat, k ≤ l.length ∧ i = .int .i64 k ∧ v = .int .i64 (beN (l.take k))) (fun _ i => l.length - (intOf i).toNat)
    case atStart => exact ⟨0, Nat.zero_le _, rfl, rfl⟩
    case round =>
      obtain ⟨k, hk, rfl, rfl⟩ := hrel
      have hbd := beN_bd l k (by omega)
      by_cases hlt : k < l.length
      · have hst := beN_step l k hlt
        have HS2 := Lib.hid hst
        clear hst
        go_wp2_with fail
        go_round
        case rel =>
          refine ⟨k + 1, by omega, by go_num, ?_⟩
          rw [HS2.out]
          have e : ({ data := l.toArray } : ByteArray)[k].toNat = (l.getD k 0).toNat := by simp [ByteArray.getElem_eq_getElem_data, List.getD, hlt]
          rw [e, or_byte _ _ hbd (UInt8.toNat_lt _)]
        case measure => simp [intOf]; omega
      · obtain rfl : k = l.length := by omega
        go_wp2_with fail
        go_ret2
        unfold NumPost numB
        rw [if_pos h]
        simp only
        rw [HL.out]
        exact ⟨rfl, HST.out⟩
  · have HST := Lib.hid hst
    have HER := Lib.hid her
    clear hst her
    go_wp2_with fail
    go_loop [8, 18] (fun v i => i = .int .i64 0 ∧ v = .int .i64 0) (fun _ i => 0)
    case atStart => exact ⟨rfl, rfl⟩
    case round =>
      obtain ⟨rfl, rfl⟩ := hrel
      go_wp2_with fail
      go_ret2
      unfold NumPost numB
      rw [if_neg (by omega)]
      exact ⟨b, rfl, HST.out, HER.out, hb⟩

end Go.Proofs.YtebappmamaafaaaDoor
