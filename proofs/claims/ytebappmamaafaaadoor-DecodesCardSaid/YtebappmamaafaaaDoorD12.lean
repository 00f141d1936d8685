/-
  Proved: the contracts of the reference's reader: fail, number. Conditions: a text of at most 2^62 bytes.
-/
import Derived.Test.YtebappmamaafaaaDoorD2
set_option linter.unusedSimpArgs false
set_option linter.unusedVariables false
namespace Go.Proofs.YtebappmamaafaaaDoor
open Go.RowKit

/-- the reference's reader -/
abbrev RRd (w : World) (p : Nat) (s : ByteArray) (a : Nat) (f : Int × Int) : Prop := w.heap[p]? = some (.cells #[.string s, .int .i64 a, .int .i64 f.1, .int .i64 f.2] 74 (0, 0))
structure RS (w w' : World) (p : Nat) (s : ByteArray) (a : Nat) (f : Int × Int) : Prop where
  rd : RRd w' p s a f
  gr : w.grownBy w' (some p)
def fst0 (f g : Int × Int) : Int × Int := if f.1 = 0 then g else f
theorem RS.start {w : World} {p : Nat} {s : ByteArray} {a : Nat} {f : Int × Int} (h : RRd w p s a f) : RS w w p s a f := ⟨h, ⟨rfl, rfl, rfl, Nat.le_refl _, fun _ _ _ => rfl⟩⟩
theorem RS.drewN {w W : World} {p : Nat} {s : ByteArray} {a : Nat} {f : Int × Int} (h : RS w W p s a f) (n : Nat) : RS w (W.drewN n) p s a f := ⟨h.rd, gr_trans h.gr (gr_drew W n _)⟩
theorem RS.trans {w W W' : World} {p : Nat} {s : ByteArray} {a a' : Nat} {f f' : Int × Int} (h : RS w W p s a f) (h' : RS W W' p s a' f') : RS w W' p s a' f' := ⟨h'.rd, gr_trans h.gr h'.gr⟩
theorem RRd.lt {w : World} {p : Nat} {s : ByteArray} {a : Nat} {f : Int × Int} (h : RRd w p s a f) : p < w.heap.size := lt_of_block h

theorem rfail_any (p : Nat) (s : ByteArray) (a : Nat) (f : Int × Int) (k q : Int) (w : World) (h : RRd w p s a f) :
    Calls Tryd.prog 25 #[.pointer (some ⟨p, 0, none⟩), .int .i64 k, .int .i64 q] w fun e w' => e = .returned (.tuple #[]) ∧ RS w w' p s a (fst0 f (k, q)) := by
  have H := Lib.hid h
  have hlt := h.lt
  have r2 : w.cell? ⟨p, 2, none⟩ = some (.int .i64 f.1) := blk_cell h 2
  have r3 : w.cell? ⟨p, 3, none⟩ = some (.int .i64 f.2) := blk_cell h 3
  have z2 := blk_free h 2
  have z3 := blk_free h 3
  clear h
  by_cases h0 : f.1 = 0
  · have hf : fst0 f (k, q) = (k, q) := by unfold fst0; rw [if_pos h0]
    rw [h0] at r2
    have HF := Lib.hid hf
    clear h0 hf
    go_enter Tryd.func25, Tryd.ntmps25
    go_wp2
    go_end0
    refine ⟨rfl, ?_⟩
    rw [HF.out]
    exact ⟨blk_set (blk_set H.out 2 _) 3 _, gr_trans (gr_set _ _ _ _) (gr_set _ _ _ _)⟩
  · have hf : fst0 f (k, q) = f := by unfold fst0; rw [if_neg h0]
    have HF := Lib.hid hf
    have hb : (f.1 == 0) = false := by simpa using h0
    clear h0 hf
    go_enter Tryd.func25, Tryd.ntmps25
    go_wp2
    go_end0
    refine ⟨rfl, ?_⟩
    rw [HF.out]
    exact RS.start H.out

theorem num_some {s : ByteArray} {a n : Nat} (h : a + n ≤ s.size) : numB s a n = some (beN (cutB s a n)) := by unfold numB; rw [if_pos h]
theorem sum_byte (V b : Nat) (hV : V ≤ 4294967295) (hb : b < 256) : wrap64 (256 * (V : Int) + wrap64 (b : Int)) = ((V * 256 + b : Nat) : Int) := by unfold wrap64; omega
theorem cut_get (s : ByteArray) (a n k : Nat) (hk : k < n) (h : a + n ≤ s.size) (hlt : a + k < s.size) : s[a + k]'hlt = (cutB s a n).getD k 0 := by
  have hz : s.data.toList.length = s.size := Array.length_toList
  have hl := cutB_len s a n h
  rw [List.getD_eq_getElem?_getD, List.getElem?_eq_getElem (by omega)]
  simp [cutB, ByteArray.getElem_eq_getElem_data]
def RNumPost (p : Nat) (s : ByteArray) (a n : Nat) (f : Int × Int) (w : World) (e : Ending) (w' : World) : Prop :=
  if f.1 = 0 then
    match numB s a n with
    | some v => e = .returned (.int .i64 v) ∧ RS w w' p s (a + n) f
    | none => e = .returned (.int .i64 0) ∧ RS w w' p s a (endF s)
  else e = .returned (.int .i64 0) ∧ RS w w' p s a f

set_option maxRecDepth 100000 in
set_option maxHeartbeats 2000000 in
theorem rnum_any (p : Nat) (s : ByteArray) (a n : Nat) (f : Int × Int) (w : World) (h : RRd w p s a f) (ha : a ≤ s.size) (hs : s.size ≤ 4611686018427387904) (hn : n ≤ 4) :
    Calls Tryd.prog 26 #[.pointer (some ⟨p, 0, none⟩), .int .i64 n] w (RNumPost p s a n f w) := by
  have H := Lib.hid h
  have hlt := h.lt
  have r0 : w.cell? ⟨p, 0, none⟩ = some (.string s) := blk_cell h 0
  have r1 : w.cell? ⟨p, 1, none⟩ = some (.int .i64 a) := blk_cell h 1
  have r2 : w.cell? ⟨p, 2, none⟩ = some (.int .i64 f.1) := blk_cell h 2
  clear h
  have hw1 : IntKind.i64.wrap ((s.size : Int) - (a : Int)) = (s.size : Int) - a := IntWalk.i64_in _ (by omega)
  by_cases h0 : f.1 = 0
  · rw [h0] at r2
    by_cases hle : a + n ≤ s.size
    · have hd : decide ((s.size : Int) - (a : Int) < (n : Int)) = false := by simp; omega
      have hnum := num_some (s := s) hle
      have HNUM := Lib.hid hnum
      have HLEN := Lib.hid (cutB_len s a n hle)
      have H0 := Lib.hid h0
      clear h0 hnum
      go_enter Tryd.func26, Tryd.ntmps26
      go_wp2_with fail
      go_quiet (fail)
      go_wp2_with fail
      clear r0 r1 r2 hw1 hd
      go_loopw [5, 6] (fun v i wr => ∃ k : Nat, k ≤ n ∧ i = .int .i64 k ∧ v = .int .i64 (beN ((cutB s a n).take k)) ∧ RS w wr p s a f) (fun _ i _ => n - (intOf i).toNat)
      case atStart => exact ⟨0, Nat.zero_le _, rfl, rfl, (RS.start H.out).drewN _⟩
      case round =>
        obtain ⟨k, hk, rfl, rfl, hst⟩ := hrel
        have HST := Lib.hid hst
        have hpl : p < wr.heap.size := hst.rd.lt
        have c0 : wr.cell? ⟨p, 0, none⟩ = some (.string s) := blk_cell hst.rd 0
        have c1 : wr.cell? ⟨p, 1, none⟩ = some (.int .i64 a) := blk_cell hst.rd 1
        have z1 := blk_free hst.rd 1
        clear hst
        by_cases hkn : k < n
        · have hbd := beN_bd (cutB s a n) k (by omega)
          have hstep := beN_step (cutB s a n) k (by rw [HLEN.out]; exact hkn)
          have HSTEP := Lib.hid hstep
          generalize beN ((cutB s a n).take k) = V at *
          have hw2 : IntKind.i64.wrap (256 * (V : Int)) = 256 * V := IntWalk.i64_in _ (by omega)
          have hw3 : IntKind.i64.wrap ((a : Int) + k) = a + k := IntWalk.i64_in _ (by omega)
          have k0 : (0 : Int) ≤ (a : Int) + k := by omega
          have k1 : (a : Int) + k < (s.size : Int) := by omega
          have k2 : ((a : Int) + k).toNat = a + k := by omega
          clear hstep
          go_wp2_with fail
          go_quiet (fail)
          have hlt2 : a + k < s.size := by omega
          rw [cut_get s a n k hkn hle hlt2, sum_byte V _ hbd (UInt8.toNat_lt _)]
          have hst2 := HST.out.drewN nq
          clear hw2 hw3 k0 k1 k2 c0 c1 z1
          generalize wr.drewN nq = wn at hst2 ⊢
          have HST2 := Lib.hid hst2
          clear hst2
          go_wp2_with fail
          go_roundw
          case rel => exact ⟨k + 1, by omega, by go_num, by rw [HSTEP.out], HST2.out⟩
          case measure => simp [intOf]; omega
        · obtain rfl : k = n := by omega
          have hsum : (0 : Int) ≤ (a : Int) + k := by omega
          go_wp2_with fail
          go_ret
          unfold RNumPost
          rw [if_pos H0.out, HNUM.out]
          refine ⟨?_, ⟨?_, gr_trans HST.out.gr (gr_set _ _ _ _)⟩⟩
          · rw [List.take_of_length_le (by rw [HLEN.out]; exact Nat.le_refl _)]; rfl
          · have := blk_set HST.out.rd 1 (.int .i64 ((a : Int) + k))
            unfold RRd
            push_cast
            exact this
    · have hd : decide ((s.size : Int) - (a : Int) < (n : Int)) = true := by simp; omega
      have hnum : numB s a n = none := by unfold numB; rw [if_neg hle]
      have HNUM := Lib.hid hnum
      have H0 := Lib.hid h0
      clear h0 hnum
      go_enter Tryd.func26, Tryd.ntmps26
      go_wp2_with fail
      go_quiet (fail)
      have hst2 := (RS.start H.out).drewN nq
      clear r0 r1 r2 hw1
      generalize w.drewN nq = wn at hst2 ⊢
      have HST2 := Lib.hid hst2
      have c0 : wn.cell? ⟨p, 0, none⟩ = some (.string s) := blk_cell hst2.rd 0
      clear hst2
      go_wp2_with fail
      refine (rfail_any p s a f 16 s.size _ HST2.out.rd).mono ?_
      rintro e w1 ⟨rfl, hst3⟩
      have HST3 := Lib.hid (HST2.out.trans hst3)
      clear hst3
      go_wp2_with fail
      go_ret
      unfold RNumPost
      rw [if_pos H0.out, HNUM.out]
      refine ⟨rfl, ?_⟩
      have h3 := HST3.out
      unfold fst0 at h3
      rw [if_pos H0.out] at h3
      exact h3
  · have hb : (f.1 != 0) = true := by simpa using h0
    have H0 := Lib.hid h0
    clear h0
    go_enter Tryd.func26, Tryd.ntmps26
    go_wp2_with fail
    go_quiet (fail)
    have hst2 := (RS.start H.out).drewN nq
    clear r0 r1 r2 hw1
    generalize w.drewN nq = wn at hst2 ⊢
    have HST2 := Lib.hid hst2
    have c0 : wn.cell? ⟨p, 0, none⟩ = some (.string s) := blk_cell hst2.rd 0
    clear hst2
    go_wp2_with fail
    refine (rfail_any p s a f 16 s.size _ HST2.out.rd).mono ?_
    rintro e w1 ⟨rfl, hst3⟩
    have HST3 := Lib.hid (HST2.out.trans hst3)
    clear hst3
    go_wp2_with fail
    go_ret
    unfold RNumPost
    rw [if_neg H0.out]
    refine ⟨rfl, ?_⟩
    have h3 := HST3.out
    unfold fst0 at h3
    rw [if_neg H0.out] at h3
    exact h3

end Go.Proofs.YtebappmamaafaaaDoor
