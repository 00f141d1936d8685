/-
  Proved: the contract of the reference's Token at digits. Conditions: a text of at most 4000 bytes.
-/
import Derived.Test.YtbfeailcebfklaaDoorL5
import Derived.StillTailTactics
import Derived.Deep.RegionHeld3
set_option linter.unusedSimpArgs false
set_option linter.unusedVariables false
namespace Go.Proofs.YtbfeailcebfklaaDoor
open Go.RowKit

def tokV (t : Tok) : Value := .agg #[.int .i64 t.1, .int .i64 t.2.1, .string t.2.2.1, .int .i64 t.2.2.2]
abbrev TokB (W : World) (b : Nat) (k a : Int) (x : ByteArray) (n : Int) : Prop := W.heap[b]? = some (.cells #[.int .i64 k, .int .i64 a, .string x, .int .i64 n] 30 (0, 0))
/-- what Token's own variables are -/
structure TS (w W : World) (k i : Int) (x : ByteArray) (n : Int) : Prop where
  r : TokB W w.heap.size 0 0 ⟨#[]⟩ 0
  t : TokB W (w.heap.size + 1) k i x n
  b : Below w.heap.size w W
theorem TS.start (w : World) (i : Int) : TS w ((w.alloc (.cells #[.int .i64 0, .int .i64 0, .string ⟨#[]⟩, .int .i64 0] 30)).alloc (.cells #[.int .i64 0, .int .i64 i, .string ⟨#[]⟩, .int .i64 0] 30)) 0 i ⟨#[]⟩ 0 := by
  have h := heap_alloc_new (w.alloc (.cells #[.int .i64 0, .int .i64 0, .string ⟨#[]⟩, .int .i64 0] 30)) (.cells #[.int .i64 0, .int .i64 i, .string ⟨#[]⟩, .int .i64 0] 30)
  rw [World.size_alloc] at h
  exact ⟨blk_alloc (heap_alloc_new w _) _, h, balloc (balloc (Below.refl _ _) _) _⟩
theorem TS.setn {w W : World} {k i n : Int} {x : ByteArray} (h : TS w W k i x n) (n' : Int) : TS w (W.setCell ⟨w.heap.size + 1, 3, none⟩ (.int .i64 n')) k i x n' :=
  ⟨blk_set_ne h.r (by omega) _ _, blk_set h.t 3 _, h.b.setCell (p := ⟨w.heap.size + 1, 3, none⟩) (by simp) _⟩
theorem TS.setk {w W : World} {k i n : Int} {x : ByteArray} (h : TS w W k i x n) (k' : Int) : TS w (W.setCell ⟨w.heap.size + 1, 0, none⟩ (.int .i64 k')) k' i x n :=
  ⟨blk_set_ne h.r (by omega) _ _, blk_set h.t 0 _, h.b.setCell (p := ⟨w.heap.size + 1, 0, none⟩) (by simp) _⟩
theorem TS.setx {w W : World} {k i n : Int} {x : ByteArray} (h : TS w W k i x n) (x' : ByteArray) : TS w (W.setCell ⟨w.heap.size + 1, 2, none⟩ (.string x')) k i x' n :=
  ⟨blk_set_ne h.r (by omega) _ _, blk_set h.t 2 _, h.b.setCell (p := ⟨w.heap.size + 1, 2, none⟩) (by simp) _⟩
theorem TS.drew {w W : World} {k i n : Int} {x : ByteArray} (h : TS w W k i x n) : TS w W.drew k i x n := ⟨h.r, h.t, h.b.drew⟩
theorem TS.below {w W W' : World} {k i n : Int} {x : ByteArray} (h : TS w W k i x n) (hb : Below W.heap.size W W') : TS w W' k i x n :=
  ⟨blk_below h.r hb (lt_of_block h.r), blk_below h.t hb (lt_of_block h.t), h.b.trans (hb.mono h.b.size)⟩
def RTokPost (s : ByteArray) (i : Nat) (w : World) (e : Ending) (w' : World) : Prop :=
  (match tokD s i with
  | some (t, j) => e = .returned (.tuple #[tokV t, .int .i64 j])
  | none => ∃ (k a n : Int) (x : ByteArray), e = .returned (.tuple #[.agg #[.int .i64 k, .int .i64 a, .string x, .int .i64 n], .int .i64 (-1)])) ∧ Below w.heap.size w w'

set_option maxRecDepth 100000 in
set_option maxHeartbeats 4000000 in
theorem rtok_digit (s : ByteArray) (i0 : Nat) (w : World) (hs : s.size ≤ 4000) (hi : i0 < s.size) (hd : dig (bt s i0) = true) :
    Calls Tryd.prog 15 #[.string s, .int .i64 i0] w (RTokPost s i0 w) := by
  have k0 : (0 : Int) ≤ (i0 : Int) := by omega
  have k1 : (i0 : Int) < (s.size : Int) := by omega
  obtain ⟨W, hW⟩ : ∃ W, W = (w.alloc (.cells #[.int .i64 0, .int .i64 0, .string ⟨#[]⟩, .int .i64 0] 30)).alloc (.cells #[.int .i64 0, .int .i64 i0, .string ⟨#[]⟩, .int .i64 0] 30) := ⟨_, rfl⟩
  have hts : TS w W 0 i0 ⟨#[]⟩ 0 := by rw [hW]; exact TS.start w i0
  have HW := Lib.hid hW
  have HTS := Lib.hid hts
  clear hW hts
  obtain ⟨c, hcb⟩ : ∃ c, c = bt s i0 := ⟨_, rfl⟩
  have hck := bt_eq hi hcb
  have HCB := Lib.hid hcb
  rw [← hcb] at hd
  have HD := Lib.hid hd
  clear hcb
  go_enter Tryd.func15, Tryd.ntmps15
  go_wp2_with fail
  rw [← HW.out]
  refine (digit_any _ _).mono ?_
  rintro e w' ⟨rfl, rfl⟩
  go_wp2_with fail
  clear hd hck k0 k1
  go_loopw [7] (fun i wr => ∃ k n : Nat, k ≤ s.size ∧ n ≤ 1000000001 ∧ i = .int .i64 k ∧ TS w wr 0 i0 ⟨#[]⟩ n ∧ numD s k n = numD s i0 0) (fun i _ => s.size - (intOf i).toNat)
  case atStart => exact ⟨i0, 0, by omega, by omega, rfl, HTS.out, rfl⟩
  case round =>
    obtain ⟨k, n, hk, hn, rfl, hts, hc⟩ := hrel
    have HC := Lib.hid hc
    have HT := Lib.hid hts
    have k0 : (0 : Int) ≤ (k : Int) := by omega
    have t0 : wr.cell? ⟨w.heap.size + 1, 3, none⟩ = some (.int .i64 n) := blk_cell hts.t 3
    have z0 := blk_free hts.t 3
    have hl : w.heap.size + 1 < wr.heap.size := lt_of_block hts.t
    clear hc hts
    by_cases hg : k < s.size ∧ dig (bt s k) = true
    · obtain ⟨hlt, hdg⟩ := hg
      have k1 : (k : Int) < (s.size : Int) := by omega
      obtain ⟨d, hdb⟩ : ∃ d, d = bt s k := ⟨_, rfl⟩
      have hdk := bt_eq hlt hdb
      have hst := numD_step (n := n) hlt hdg
      have b1 : 48 ≤ bt s k ∧ bt s k ≤ 57 := by simpa [dig] using hdg
      rw [← hdb] at hst b1 hdg
      have HST := Lib.hid hst
      obtain ⟨b1, b2⟩ := b1
      have HDB := Lib.hid hdb
      clear hst hdb
      go_wp2_with fail
      refine (digit_any _ _).mono ?_
      rintro e w' ⟨rfl, rfl⟩
      go_wp2_with fail
      go_still_tail 10, (by kernel_rfl)
      have e1 : IntKind.u8.wrap ((d : Int) - 48) = ((d - 48 : Nat) : Int) := by show ((d : Int) - 48) % 256 = _; omega
      have e2 : IntKind.i64.wrap (((d - 48 : Nat) : Int)) = ((d - 48 : Nat) : Int) := IntWalk.i64_in _ (by omega)
      have e3 : IntKind.i64.wrap (10 * (n : Int)) = 10 * (n : Int) := IntWalk.i64_in _ (by omega)
      have e4 : IntKind.i64.wrap (10 * (n : Int) + ((d - 48 : Nat) : Int)) = ((10 * n + (d - 48) : Nat) : Int) := by rw [IntWalk.i64_in _ (by omega)]; push_cast; rfl
      rw [e1, e2, e3, e4]
      change wpList _ _ _ _ _ wr.drew
      obtain ⟨m, hm⟩ : ∃ m, m = 10 * n + (d - 48) := ⟨_, rfl⟩
      rw [← hm]
      have hts2 := HT.out.drew
      have HM := Lib.hid hm
      have hm1 : m ≤ 10000000100 := by omega
      clear e1 e2 e3 e4 t0 z0 hl hm
      generalize wr.drew = wn at hts2 ⊢
      have HT2 := Lib.hid hts2
      have t0 : wn.cell? ⟨w.heap.size + 1, 3, none⟩ = some (.int .i64 n) := blk_cell hts2.t 3
      have z0 := blk_free hts2.t 3
      have hl : w.heap.size + 1 < wn.heap.size := lt_of_block hts2.t
      clear hts2
      by_cases hbig : 1000000000 < m
      · have hd1 : decide ((1000000000 : Int) < (m : Int)) = true := by simp; omega
        go_wp2_with fail
        go_roundw
        case rel =>
          refine ⟨k + 1, 1000000001, by omega, by omega, by go_num, (HT2.out.setn _).setn _, ?_⟩
          rw [← HC.out, HST.out, ← HM.out, show min m 1000000001 = 1000000001 from by omega]
        case measure => simp [intOf]; omega
      · have hd1 : decide ((1000000000 : Int) < (m : Int)) = false := by simp; omega
        go_wp2_with fail
        go_roundw
        case rel =>
          refine ⟨k + 1, m, by omega, by omega, by go_num, HT2.out.setn _, ?_⟩
          rw [← HC.out, HST.out, ← HM.out, show min m 1000000001 = m from by omega]
        case measure => simp [intOf]; omega
    · have hst := numD_stop (s := s) (i := k) (n := n) (fun h => by cases hx : dig (bt s k) with | true => exact absurd ⟨h, hx⟩ hg | false => rfl)
      have htk : tokD s i0 = if n ≤ 1000000000 then some ((1, i0, ByteArray.empty, n), k) else none := by
        unfold tokD
        rw [if_pos (by rw [← HCB.out]; exact HD.out), ← HC.out, hst]
      have r0 : wr.cell? ⟨w.heap.size, 0, none⟩ = some (.int .i64 0) := blk_cell HT.out.r 0
      have r1 : wr.cell? ⟨w.heap.size, 1, none⟩ = some (.int .i64 0) := blk_cell HT.out.r 1
      have r2 : wr.cell? ⟨w.heap.size, 2, none⟩ = some (.string ⟨#[]⟩) := blk_cell HT.out.r 2
      have r3 : wr.cell? ⟨w.heap.size, 3, none⟩ = some (.int .i64 0) := blk_cell HT.out.r 3
      have y0 := blk_free HT.out.r 0
      have y1 := blk_free HT.out.r 1
      have y2 := blk_free HT.out.r 2
      have y3 := blk_free HT.out.r 3
      have a0 : wr.cell? ⟨w.heap.size + 1, 0, none⟩ = some (.int .i64 0) := blk_cell HT.out.t 0
      have a1 : wr.cell? ⟨w.heap.size + 1, 1, none⟩ = some (.int .i64 i0) := blk_cell HT.out.t 1
      have a2 : wr.cell? ⟨w.heap.size + 1, 2, none⟩ = some (.string ⟨#[]⟩) := blk_cell HT.out.t 2
      have a3 : wr.cell? ⟨w.heap.size + 1, 3, none⟩ = some (.int .i64 n) := blk_cell HT.out.t 3
      have z0 := blk_free HT.out.t 0
      have z1 := blk_free HT.out.t 1
      have z2 := blk_free HT.out.t 2
      have z3 := blk_free HT.out.t 3
      have hl2 : w.heap.size < wr.heap.size := lt_of_block HT.out.r
      have hl3 : w.heap.size + 1 < wr.heap.size := lt_of_block HT.out.t
      by_cases hbig : n ≤ 1000000000
      · have hd1 : decide ((1000000000 : Int) < (n : Int)) = false := by simp; omega
        rw [if_pos hbig] at htk
        have HTK := Lib.hid htk
        clear htk hst hbig
        by_cases hlt : k < s.size
        · have k1 : (k : Int) < (s.size : Int) := by omega
          have hdg : dig (bt s k) = false := by cases hx : dig (bt s k) with | true => exact absurd ⟨hlt, hx⟩ hg | false => rfl
          obtain ⟨d, hdb⟩ : ∃ d, d = bt s k := ⟨_, rfl⟩
          have hdk := bt_eq hlt hdb
          rw [← hdb] at hdg
          have HDB := Lib.hid hdb
          clear hdb hg
          go_wp2_with fail
          refine (digit_any _ _).mono ?_
          rintro e w' ⟨rfl, rfl⟩
          go_wp2_with fail
          refine bodyPost_ret (v := .tuple #[.agg #[.int .i64 1, .int .i64 i0, .string ⟨#[]⟩, .int .i64 n], .int .i64 k]) (by simp [results, Tryd.results15, go_sem, *]) rfl ?_
          refine ⟨?_, ?_⟩
          · rw [HTK.out]; rfl
          · repeat (first | exact HT.out.b | refine Below.setCell ?_ (by simp) _)
        · clear hg
          go_wp2_with fail
          refine bodyPost_ret (v := .tuple #[.agg #[.int .i64 1, .int .i64 i0, .string ⟨#[]⟩, .int .i64 n], .int .i64 k]) (by simp [results, Tryd.results15, go_sem, *]) rfl ?_
          refine ⟨?_, ?_⟩
          · rw [HTK.out]; rfl
          · repeat (first | exact HT.out.b | refine Below.setCell ?_ (by simp) _)
      · have hd1 : decide ((1000000000 : Int) < (n : Int)) = true := by simp; omega
        rw [if_neg hbig] at htk
        have HTK := Lib.hid htk
        clear htk hst hbig
        by_cases hlt : k < s.size
        · have k1 : (k : Int) < (s.size : Int) := by omega
          have hdg : dig (bt s k) = false := by cases hx : dig (bt s k) with | true => exact absurd ⟨hlt, hx⟩ hg | false => rfl
          obtain ⟨d, hdb⟩ : ∃ d, d = bt s k := ⟨_, rfl⟩
          have hdk := bt_eq hlt hdb
          rw [← hdb] at hdg
          have HDB := Lib.hid hdb
          clear hdb hg
          go_wp2_with fail
          refine (digit_any _ _).mono ?_
          rintro e w' ⟨rfl, rfl⟩
          go_wp2_with fail
          refine bodyPost_ret (v := .tuple #[.agg #[.int .i64 1, .int .i64 i0, .string ⟨#[]⟩, .int .i64 n], .int .i64 (-1)]) (by simp [results, Tryd.results15, go_sem, *]) rfl ?_
          refine ⟨?_, ?_⟩
          · rw [HTK.out]; exact ⟨_, _, _, _, rfl⟩
          · repeat (first | exact HT.out.b | refine Below.setCell ?_ (by simp) _)
        · clear hg
          go_wp2_with fail
          refine bodyPost_ret (v := .tuple #[.agg #[.int .i64 1, .int .i64 i0, .string ⟨#[]⟩, .int .i64 n], .int .i64 (-1)]) (by simp [results, Tryd.results15, go_sem, *]) rfl ?_
          refine ⟨?_, ?_⟩
          · rw [HTK.out]; exact ⟨_, _, _, _, rfl⟩
          · repeat (first | exact HT.out.b | refine Below.setCell ?_ (by simp) _)

end Go.Proofs.YtbfeailcebfklaaDoor
