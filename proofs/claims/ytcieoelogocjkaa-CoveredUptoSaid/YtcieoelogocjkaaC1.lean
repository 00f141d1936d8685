/-
  Proved: the contracts of the law's con, of, parts, pick. No condition.
-/
import Derived.Test.YtcieoelogocjkaaB1
import Derived.Deep.DeepCutAuto
import Derived.Deep.CutBlock
set_option linter.unusedSimpArgs false
set_option linter.unusedVariables false
namespace Go.Proofs.Ytcieoelogocjkaa
open Go.RowKit

def conP (n o : Int) : Pt := .mk 6 n o 0 ⟨#[]⟩ []
set_option maxRecDepth 100000 in
set_option maxHeartbeats 4000000 in
theorem con_any (n o : Int) (w : World) : Calls Try.prog 6 #[.int .i64 n, .int .i64 o] w fun e w' => e = .returned (.agg (rowOf (conP n o) none 0)) ∧ Below w.heap.size w w' := by
  obtain ⟨W, hW⟩ : ∃ W, W = w.alloc (.cells #[.int .i64 0, .int .i64 0, .int .i64 0, .int .i64 0, .string ⟨#[]⟩, .slice none 0 0] 26) := ⟨_, rfl⟩
  have hz : PB W w.heap.size anyP none 0 := by rw [hW]; exact heap_alloc_new w _
  have hb : Below w.heap.size w W := by rw [hW]; exact balloc (Below.refl _ _) _
  have z0 : W.cell? ⟨w.heap.size, 0, none⟩ = some (.int .i64 0) := blk_cell hz 0
  have z1 : W.cell? ⟨w.heap.size, 1, none⟩ = some (.int .i64 0) := blk_cell hz 1
  have z2 : W.cell? ⟨w.heap.size, 2, none⟩ = some (.int .i64 0) := blk_cell hz 2
  have z3 : W.cell? ⟨w.heap.size, 3, none⟩ = some (.int .i64 0) := blk_cell hz 3
  have z4 : W.cell? ⟨w.heap.size, 4, none⟩ = some (.string ⟨#[]⟩) := blk_cell hz 4
  have z5 : W.cell? ⟨w.heap.size, 5, none⟩ = some (.slice none 0 0) := blk_cell hz 5
  have g0 := blk_free hz 0
  have g1 := blk_free hz 1
  have g2 := blk_free hz 2
  have g3 := blk_free hz 3
  have g4 := blk_free hz 4
  have g5 := blk_free hz 5
  have lz := lt_of_block hz
  have HW := Lib.hid hW
  have HZ := Lib.hid hz
  have HB := Lib.hid hb
  clear hW hz hb
  go_enter Try.func6, Try.ntmps6
  go_upto_region 1 with fail
  rw [← HW.out]
  go_wp2_with fail
  have hblk : PB (set6 W w.heap.size (conP n o) none 0) w.heap.size (conP n o) none 0 := HZ.out.set
  refine bodyPost_ret (v := .agg (rowOf (conP n o) none 0)) ?_ rfl ?_
  · exact res_pat (fn := Try.f6) (t := 4) Try.results6 rfl hblk
  · exact ⟨rfl, below_set6 (q := conP n o) (aq := none) (cq := 0) HB.out (Nat.le_refl _)⟩
def ofD (s : Int) : Int := if s = 5 then 3 else 2
theorem of_any (s : Int) (w : World) : Calls Try.prog 17 #[.int .i64 s] w fun e w' => e = .returned (.int .i64 (ofD s)) ∧ w' = w := by
  go_enter Try.func17, Try.ntmps17
  by_cases h : s = 5
  · subst h
    go_wp2_with fail
    go_ret
    exact ⟨rfl, rfl⟩
  · have hb : (s == 5) = false := by simp [h]
    have H := Lib.hid h
    clear h
    go_wp2_with fail
    go_ret
    exact ⟨by unfold ofD; rw [if_neg H.out]; rfl, rfl⟩
def pickD (c n : Int) : Int := (if c < 0 then -(c + 1) else c).tmod n
theorem pickD_range (c n : Int) (hn : 0 < n) : 0 ≤ pickD c n ∧ pickD c n < n := by
  unfold pickD
  split
  · exact ⟨Int.tmod_nonneg _ (by omega), Int.tmod_lt_of_pos _ hn⟩
  · exact ⟨Int.tmod_nonneg _ (by omega), Int.tmod_lt_of_pos _ hn⟩
set_option maxRecDepth 100000 in
set_option maxHeartbeats 4000000 in
theorem pick_any (c n : Int) (w : World) (h1 : -9223372036854775808 ≤ c) (h2 : c ≤ 9223372036854775807) (hn : 0 < n) (hn2 : n ≤ 1000000) : Calls Try.prog 7 #[.int .i64 c, .int .i64 n] w fun e w' => e = .returned (.int .i64 (pickD c n)) ∧ w' = w := by
  have hn0 : ¬ n = 0 := by omega
  have hn1 : ¬ n = -1 := by omega
  obtain ⟨r, hr⟩ : ∃ r, r = pickD c n := ⟨_, rfl⟩
  rw [← hr]
  have HR := Lib.hid hr
  clear hr
  go_enter Try.func7, Try.ntmps7
  by_cases hc : c < 0
  · have hd : decide (c < 0) = true := by simpa using hc
    have hv : r = -((c + 1).tmod n) := by rw [HR.out]; unfold pickD; rw [if_pos hc, Int.neg_tmod]
    have HV := Lib.hid hv
    clear hv
    go_wp2_with fail
    go_ret
    exact ⟨by rw [HV.out]; rfl, rfl⟩
  · have hd : decide (c < 0) = false := by simp; omega
    have hv : r = c % n := by rw [HR.out]; unfold pickD; rw [if_neg hc, Int.tmod_eq_emod_of_nonneg (by omega)]
    have HV := Lib.hid hv
    clear hv
    go_wp2_with fail
    go_ret
    exact ⟨by rw [HV.out]; rfl, rfl⟩
def partsD (s n : Int) : Int := if s = 2 ∧ n = 1 then 0 else if s = 3 ∧ n = 1 then -2 else if s = 5 ∧ n = 1 then 1 else if s = 5 ∧ n = 2 then 4 else -1
set_option maxRecDepth 100000 in
set_option maxHeartbeats 4000000 in
theorem parts_any (s n : Int) (w : World) : Calls Try.prog 18 #[.int .i64 s, .int .i64 n] w fun e w' => e = .returned (.int .i64 (partsD s n)) ∧ w' = w := by
  obtain ⟨r, hr⟩ : ∃ r, r = partsD s n := ⟨_, rfl⟩
  rw [← hr]
  have HR := Lib.hid hr
  clear hr
  go_enter Try.func18, Try.ntmps18
  by_cases h2 : s = 2
  · subst h2
    by_cases hn : n = 1
    · subst hn
      go_wp2_with fail
      go_ret
      exact ⟨by rw [HR.out]; rfl, rfl⟩
    · have b : (n == 1) = false := by simp [hn]
      have H := Lib.hid hn
      clear hn
      go_wp2_with fail
      go_ret
      exact ⟨by rw [HR.out]; simp [partsD, H.out], rfl⟩
  · have b2 : (s == 2) = false := by simp [h2]
    have H2 := Lib.hid h2
    clear h2
    by_cases h3 : s = 3
    · subst h3
      by_cases hn : n = 1
      · subst hn
        go_wp2_with fail
        go_ret
        exact ⟨by rw [HR.out]; rfl, rfl⟩
      · have b : (n == 1) = false := by simp [hn]
        have H := Lib.hid hn
        clear hn
        go_wp2_with fail
        go_ret
        exact ⟨by rw [HR.out]; simp [partsD, H.out], rfl⟩
    · have b3 : (s == 3) = false := by simp [h3]
      have H3 := Lib.hid h3
      clear h3
      by_cases h5 : s = 5
      · subst h5
        by_cases hn : n = 1
        · subst hn
          go_wp2_with fail
          go_ret
          exact ⟨by rw [HR.out]; rfl, rfl⟩
        · have b : (n == 1) = false := by simp [hn]
          by_cases hm : n = 2
          · subst hm
            clear hn
            go_wp2_with fail
            go_ret
            exact ⟨by rw [HR.out]; rfl, rfl⟩
          · have b' : (n == 2) = false := by simp [hm]
            have H := Lib.hid hn
            have HM := Lib.hid hm
            clear hn hm
            go_wp2_with fail
            go_ret
            exact ⟨by rw [HR.out]; simp [partsD, H.out, HM.out], rfl⟩
      · have b5 : (s == 5) = false := by simp [h5]
        have H5 := Lib.hid h5
        clear h5
        go_wp2_with fail
        go_ret
        exact ⟨by rw [HR.out]; simp [partsD, H2.out, H3.out, H5.out], rfl⟩
end Go.Proofs.Ytcieoelogocjkaa
