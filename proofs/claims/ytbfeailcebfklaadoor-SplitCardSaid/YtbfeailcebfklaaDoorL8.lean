/-
  Proved: the contract of the reference's Token at names. Conditions: a text of at most 4000 bytes.
-/
import Derived.Test.YtbfeailcebfklaaDoorL7
set_option linter.unusedSimpArgs false
set_option linter.unusedVariables false
namespace Go.Proofs.YtbfeailcebfklaaDoor
open Go.RowKit

theorem StrsAt.drew {w : World} {b : Nat} {l : List ByteArray} (h : StrsAt w b l) : StrsAt w.drew b l := h
theorem keep2d {w : World} {b i : Nat} {v : Value} (h : w.cell? ⟨b, i, none⟩ = some v) : w.drew.cell? ⟨b, i, none⟩ = some v := h
theorem keep2a {w : World} {b i : Nat} {v : Value} {o : Obj} (h : w.cell? ⟨b, i, none⟩ = some v) : (w.alloc o).cell? ⟨b, i, none⟩ = some v := by
  rw [World.cell?_alloc_old _ _ _ (Nat.ne_of_lt (World.block_lt_of_cell? w _ h))]; exact h
/-- the kind of a name -/
def nameK (s : ByteArray) (i : Nat) (t : ByteArray) : Nat := if t = ⟨#[95]⟩ then 7 else if isWordD t then 6 else if great (bt s i) then 4 else 3
theorem tokD_name {s : ByteArray} {i : Nat} (h : small (bt s i) = true ∨ great (bt s i) = true ∨ bt s i = 95) : tokD s i = if whD s inName i - i ≤ 20 then some ((nameK s i (cut s i (whD s inName i)), i, cut s i (whD s inName i), 0), whD s inName i) else none := by
  have h1 : dig (bt s i) = false ∧ bt s i ≠ 34 ∧ bt s i ≠ 39 := by
    rcases h with h | h | h
    · simp [small] at h; simp [dig]; omega
    · simp [great] at h; simp [dig]; omega
    · simp [dig, h]
  have h2 : (small (bt s i) || great (bt s i) || decide (bt s i = 95)) = true := by
    rcases h with h | h | h <;> simp [h]
  unfold tokD
  rw [if_neg (by simp [h1.1]), if_neg h1.2.1, if_neg h1.2.2, if_pos h2]
  rfl

set_option maxRecDepth 100000 in
set_option maxHeartbeats 4000000 in
theorem rtok_name (s : ByteArray) (i0 : Nat) (w : World) (hs : s.size ≤ 4000) (hi : i0 < s.size) (hn : small (bt s i0) = true ∨ great (bt s i0) = true ∨ bt s i0 = 95) :
    Calls Tryd.prog 15 #[.string s, .int .i64 i0] w (RTokPost s i0 w) := by
  have k0 : (0 : Int) ≤ (i0 : Int) := by omega
  have k1 : (i0 : Int) < (s.size : Int) := by omega
  obtain ⟨W, hW⟩ : ∃ W, W = (w.alloc (.cells #[.int .i64 0, .int .i64 0, .string ⟨#[]⟩, .int .i64 0] 30)).alloc (.cells #[.int .i64 0, .int .i64 i0, .string ⟨#[]⟩, .int .i64 0] 30) := ⟨_, rfl⟩
  have hts : TS w W 0 i0 ⟨#[]⟩ 0 := by rw [hW]; exact TS.start w i0
  have HW := Lib.hid hW
  have HTS := Lib.hid hts
  clear hW hts
  obtain ⟨c, hcb⟩ : ∃ c, c = bt s i0 := ⟨_, rfl⟩
  have hck := bt_eq hi hcb
  have HCB := Lib.hid hcb
  have hT := tokD_name hn
  have hc1 : dig (bt s i0) = false ∧ bt s i0 ≠ 34 ∧ bt s i0 ≠ 39 := by
    rcases hn with h | h | h
    · simp [small] at h; simp [dig]; omega
    · simp [great] at h; simp [dig]; omega
    · simp [dig, h]
  rw [← hcb] at hn hc1
  obtain ⟨hdg, n34, n39⟩ := hc1
  have e34 : ((c : Int) == 34) = false := by simp; omega
  have e39 : ((c : Int) == 39) = false := by simp; omega
  have hjs := whD_ge s inName i0
  generalize hj : whD s inName i0 = j at *
  have HJ := Lib.hid hj
  have HTT := Lib.hid hT
  have HN := Lib.hid hn
  obtain ⟨hj1, hj2⟩ := hjs
  have hj2 := hj2 (by omega)
  clear hcb hn n34 n39 hT hj
  go_enter Tryd.func15, Tryd.ntmps15
  go_wp2_with fail
  rw [← HW.out]
  refine (digit_any _ _).mono ?_
  rintro e w' ⟨rfl, rfl⟩
  go_upto_region 25 with fail
  go_cut [92] (fun o wx => o = .bool true ∧ wx = W)
  case first =>
    rcases HN.out with h | h | h
    · go_wp2_with fail
      refine (small_any _ _).mono ?_
      rintro e w' ⟨rfl, rfl⟩
      go_wp2_with fail
      go_meet
      exact ⟨rfl, rfl⟩
    · have h2 : small c = false := by simp [great] at h; simp [small]; omega
      go_wp2_with fail
      refine (small_any _ _).mono ?_
      rintro e w' ⟨rfl, rfl⟩
      go_wp2_with fail
      refine (great_any _ _).mono ?_
      rintro e w' ⟨rfl, rfl⟩
      go_wp2_with fail
      go_meet
      exact ⟨rfl, rfl⟩
    · have h2 : small c = false := by simp [h]; rfl
      have h3 : great c = false := by simp [h]; rfl
      have h4 : ((c : Int) == 95) = true := by simp [h]
      clear h
      go_wp2_with fail
      refine (small_any _ _).mono ?_
      rintro e w' ⟨rfl, rfl⟩
      go_wp2_with fail
      refine (great_any _ _).mono ?_
      rintro e w' ⟨rfl, rfl⟩
      go_wp2_with fail
      go_meet
      exact ⟨rfl, rfl⟩
  case rest =>
    obtain ⟨rfl, rfl⟩ := hcut
    have j1 : (i0 : Int) ≤ (j : Int) := by omega
    have j2 : (j : Int) ≤ (s.size : Int) := by omega
    have j0 : (0 : Int) ≤ (j : Int) := by omega
    have a2 : wc.cell? ⟨w.heap.size + 1, 2, none⟩ = some (.string ⟨#[]⟩) := blk_cell HTS.out.t 2
    have z2 := blk_free HTS.out.t 2
    have hl0 : w.heap.size + 1 < wc.heap.size := lt_of_block HTS.out.t
    go_wp2_with fail
    refine (name_any s i0 _ hs (by omega)).mono ?_
    rintro e w' ⟨rfl, rfl⟩
    rw [HJ.out]
    go_upto_region 28 with fail
    obtain ⟨t, ht⟩ : ∃ t, t = s.extract i0 j := ⟨_, rfl⟩
    rw [← ht]
    obtain ⟨w3, hw3⟩ : ∃ w3, w3 = wc.setCell ⟨w.heap.size + 1, 2, none⟩ (.string t) := ⟨_, rfl⟩
    have hts3 : TS w w3 0 i0 t 0 := by rw [hw3]; exact HTS.out.setx t
    rw [← hw3]
    have HT := Lib.hid ht
    have HTS3 := Lib.hid hts3
    clear a2 z2 hl0 ht hw3
    have hS : w3.cell? ⟨w.heap.size + 1, 2, none⟩ = some (.string t) := blk_cell hts3.t 2
    have hl0 : w.heap.size + 1 < w3.heap.size := lt_of_block hts3.t
    clear hts3
    go_region_held3 (fun w' => w'.cell? ⟨w.heap.size + 1, 2, none⟩ = some (.string t))
      (repeat (first | exact hS | apply keep2d | apply keep2a))
      (first
        | (go_at_call 32; refine (words_any _).mono ?_; rintro e w5 ⟨rfl, rfl⟩)
        | (go_at_call 31; go_loud (refine (among_any wordB _ t _ (by first | exact words_at _ | exact StrsAt.drew (words_at _) | exact StrsAt.drew (StrsAt.drew (words_at _))) (by decide)).mono ?_); rintro e w5 ⟨rfl, rfl⟩))
    have hts5 := (HTS3.out.below (balloc (Below.refl w3.heap.size w3) (.cells wordV 9))).drew
    clear hS hl0
    generalize (w3.alloc (.cells wordV 9)).drew = w5 at hts5 ⊢
    have HTS5 := Lib.hid hts5
    have a2 : w5.cell? ⟨w.heap.size + 1, 2, none⟩ = some (.string t) := blk_cell hts5.t 2
    have a0 : w5.cell? ⟨w.heap.size + 1, 0, none⟩ = some (.int .i64 0) := blk_cell hts5.t 0
    have z0 := blk_free hts5.t 0
    have hl0 : w.heap.size + 1 < w5.heap.size := lt_of_block hts5.t
    clear hts5
    obtain ⟨bw, hbw⟩ : ∃ bw, bw = amongD wordB t := ⟨_, rfl⟩
    rw [← hbw]
    have HBW := Lib.hid hbw
    clear hbw
    go_upto_block 3 with fail
    go_cut [] (fun wx => TS w wx (nameK s i0 t) i0 t 0)
    case first =>
      by_cases h95 : t = ⟨#[95]⟩
      · have hk : nameK s i0 t = 7 := by unfold nameK; rw [if_pos h95]
        have HK := Lib.hid hk
        have hb : (t.toList == [95]) = true := by rw [show ([95] : List UInt8) = (⟨#[95]⟩ : ByteArray).toList from by simp [ByteArray.toList_eq], str_eq]; simp [h95]
        have H95 := Lib.hid h95
        clear hk h95
        go_wp2_with fail
        go_meet
        rw [HK.out]
        exact HTS5.out.setk 7
      · have hb : (t.toList == [95]) = false := by rw [show ([95] : List UInt8) = (⟨#[95]⟩ : ByteArray).toList from by simp [ByteArray.toList_eq], str_eq]; simp [h95]
        cases bw with
        | true =>
          have hk : nameK s i0 t = 6 := by unfold nameK; rw [if_neg h95, isWord_among, if_pos HBW.out.symm]
          have HK := Lib.hid hk
          clear hk h95
          go_wp2_with fail
          go_meet
          rw [HK.out]
          exact HTS5.out.setk 6
        | false =>
          cases hg : great c with
          | true =>
            have hk : nameK s i0 t = 4 := by unfold nameK; rw [if_neg h95, isWord_among, if_neg (by simp [← HBW.out]), ← HCB.out, if_pos hg]
            have HK := Lib.hid hk
            clear hk h95
            go_wp2_with fail
            refine (great_any _ _).mono ?_
            rintro e w' ⟨rfl, rfl⟩
            go_wp2_with fail
            go_meet
            rw [HK.out]
            exact HTS5.out.setk 4
          | false =>
            have hk : nameK s i0 t = 3 := by unfold nameK; rw [if_neg h95, isWord_among, if_neg (by simp [← HBW.out]), ← HCB.out, if_neg (by simp [hg])]
            have HK := Lib.hid hk
            clear hk h95
            go_wp2_with fail
            refine (great_any _ _).mono ?_
            rintro e w' ⟨rfl, rfl⟩
            go_wp2_with fail
            go_meet
            rw [HK.out]
            exact HTS5.out.setk 3
    case rest =>
      clear a0 a2 z0 hl0
      have HT6 := Lib.hid hcut
      obtain ⟨w6, hw6⟩ : ∃ w6 : World, w6 = wc := ⟨_, rfl⟩
      subst hw6
      clear hcut
      obtain ⟨nk, hnk⟩ : ∃ nk, nk = nameK s i0 t := ⟨_, rfl⟩
      have HNK := Lib.hid hnk
      rw [← hnk] at HT6
      clear hnk
      have r0 : w6.cell? ⟨w.heap.size, 0, none⟩ = some (.int .i64 0) := blk_cell HT6.out.r 0
      have r1 : w6.cell? ⟨w.heap.size, 1, none⟩ = some (.int .i64 0) := blk_cell HT6.out.r 1
      have r2 : w6.cell? ⟨w.heap.size, 2, none⟩ = some (.string ⟨#[]⟩) := blk_cell HT6.out.r 2
      have r3 : w6.cell? ⟨w.heap.size, 3, none⟩ = some (.int .i64 0) := blk_cell HT6.out.r 3
      have y0 := blk_free HT6.out.r 0
      have y1 := blk_free HT6.out.r 1
      have y2 := blk_free HT6.out.r 2
      have y3 := blk_free HT6.out.r 3
      have a0 : w6.cell? ⟨w.heap.size + 1, 0, none⟩ = some (.int .i64 nk) := blk_cell HT6.out.t 0
      have a1 : w6.cell? ⟨w.heap.size + 1, 1, none⟩ = some (.int .i64 i0) := blk_cell HT6.out.t 1
      have a2 : w6.cell? ⟨w.heap.size + 1, 2, none⟩ = some (.string t) := blk_cell HT6.out.t 2
      have a3 : w6.cell? ⟨w.heap.size + 1, 3, none⟩ = some (.int .i64 0) := blk_cell HT6.out.t 3
      have z0 := blk_free HT6.out.t 0
      have z1 := blk_free HT6.out.t 1
      have z2 := blk_free HT6.out.t 2
      have z3 := blk_free HT6.out.t 3
      have hl2 : w.heap.size < w6.heap.size := lt_of_block HT6.out.r
      have hl3 : w.heap.size + 1 < w6.heap.size := lt_of_block HT6.out.t
      by_cases h20 : j - i0 ≤ 20
      · have hd20 : decide ((20 : Int) < (j : Int) - i0) = false := by simp; omega
        have hT := HTT.out
        rw [if_pos h20] at hT
        have HTK := Lib.hid hT
        clear hT h20
        go_wp2_with fail
        refine bodyPost_ret (v := .tuple #[.agg #[.int .i64 nk, .int .i64 i0, .string t, .int .i64 0], .int .i64 j]) (by simp [results, Tryd.results15, go_sem, *]) rfl ?_
        refine ⟨?_, ?_⟩
        · rw [HTK.out, HNK.out, HT.out]; rfl
        · repeat (first | exact HT6.out.b | refine Below.setCell ?_ (by simp) _)
      · have hd20 : decide ((20 : Int) < (j : Int) - i0) = true := by simp; omega
        have hT := HTT.out
        rw [if_neg h20] at hT
        have HTK := Lib.hid hT
        clear hT h20
        go_wp2_with fail
        refine bodyPost_ret (v := .tuple #[.agg #[.int .i64 nk, .int .i64 i0, .string t, .int .i64 0], .int .i64 (-1)]) (by simp [results, Tryd.results15, go_sem, *]) rfl ?_
        refine ⟨?_, ?_⟩
        · rw [HTK.out]; exact ⟨_, _, _, _, rfl⟩
        · repeat (first | exact HT6.out.b | refine Below.setCell ?_ (by simp) _)

end Go.Proofs.YtbfeailcebfklaaDoor
