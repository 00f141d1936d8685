/-
  Proved: the contract of the reference's Token at strings and type variables; the contract of the reference's Token at names; the contract of the reference's Token at signs, and everywhere. Conditions: a text of at most 4000 bytes.
-/
import Derived.Test.YthehjeeiodbkjaaGreatDoorE04
set_option linter.unusedSimpArgs false
set_option linter.unusedVariables false
set_option maxRecDepth 100000
set_option maxHeartbeats 16000000
namespace Go.Proofs.YthehjeeiodbkjaaGreatDoor
open Go.RowKit
theorem isWord_among (t : ByteArray) : isWordD t = amongD wordB t := by
 have h : wordL.map String.toUTF8 = wordB := by decide +kernel
 unfold isWordD amongD
 rw [← h, List.any_map]
 rfl
theorem tokD_text {s : ByteArray} {i : Nat} (h : bt s i = 34) : tokD s i = match textD s (i + 1) [] with
 | some (b, j) => some ((2, i, ⟨b.toArray⟩, 0), j)
 | none => none := by
 unfold tokD
 rw [if_neg (by simp [dig, h]), if_pos h]
 rfl
theorem tokD_var {s : ByteArray} {i : Nat} (h : bt s i = 39) : tokD s i = if vfD s i < varD s (vfD s i) (vfD s i) ∧ varD s (vfD s i) (vfD s i) - vfD s i ≤ 20 then some ((5, i, cut s i (varD s (vfD s i) (vfD s i)), 0), varD s (vfD s i) (vfD s i)) else none := by
 unfold tokD
 rw [if_neg (by simp [dig, h]), if_neg (by omega), if_pos h]
 rfl
theorem rtok_text (s : ByteArray) (i0 : Nat) (w : World) (hs : s.size ≤ 4000) (hi : i0 < s.size) (h34 : bt s i0 = 34) :
 Calls Tryz.prog 142 #[.string s, .int .i64 i0] w (RTokPost s i0 w) := by
 have k0 : (0 : Int) ≤ (i0 : Int) := by omega
 have k1 : (i0 : Int) < (s.size : Int) := by omega
 obtain ⟨W, hW⟩ : ∃ W, W = (w.alloc (.cells #[.int .i64 0, .int .i64 0, .string ⟨#[]⟩, .int .i64 0] 59)).alloc (.cells #[.int .i64 0, .int .i64 i0, .string ⟨#[]⟩, .int .i64 0] 59) := ⟨_, rfl⟩
 have hts : TS w W 0 i0 ⟨#[]⟩ 0 := by rw [hW]; exact TS.start w i0
 have HW := lh hW
 have HTS := lh hts
 clear hW hts
 obtain ⟨c, hcb⟩ : ∃ c, c = bt s i0 := ⟨_, rfl⟩
 have hck := bt_eq hi hcb
 have HCB := lh hcb
 have hT := tokD_text h34
 rw [← hcb] at h34
 have hdg : dig c = false := by rw [h34]; rfl
 have e34 : ((c : Int) == 34) = true := by rw [h34]; rfl
 have HTT := lh hT
 clear hcb h34 hT
 have s0 : W.cell? ⟨w.heap.size + 1, 0, none⟩ = some (.int .i64 0) := blk_cell HTS.out.t 0
 have sf := blk_free HTS.out.t 0
 have hl0 : w.heap.size + 1 < W.heap.size := lt_of_block HTS.out.t
 go_enter Tryz.func142, Tryz.ntmps142
 go_wp2_with fail
 rw [← HW.out]
 refine (digit_any _ _).mono ?_
 rintro e w' ⟨rfl, rfl⟩
 go_wp2_with fail
 refine (rtext_any s i0 _ hs hi).mono ?_
 rintro e w2 ⟨he, hb2⟩
 have hts2 := (HTS.out.setk 2).below hb2
 have HT2 := lh hts2
 clear hb2 hts2 s0 sf hl0
 have r0 : w2.cell? ⟨w.heap.size, 0, none⟩ = some (.int .i64 0) := blk_cell HT2.out.r 0
 have r1 : w2.cell? ⟨w.heap.size, 1, none⟩ = some (.int .i64 0) := blk_cell HT2.out.r 1
 have r2 : w2.cell? ⟨w.heap.size, 2, none⟩ = some (.string ⟨#[]⟩) := blk_cell HT2.out.r 2
 have r3 : w2.cell? ⟨w.heap.size, 3, none⟩ = some (.int .i64 0) := blk_cell HT2.out.r 3
 have y0 := blk_free HT2.out.r 0
 have y1 := blk_free HT2.out.r 1
 have y2 := blk_free HT2.out.r 2
 have y3 := blk_free HT2.out.r 3
 have a0 : w2.cell? ⟨w.heap.size + 1, 0, none⟩ = some (.int .i64 2) := blk_cell HT2.out.t 0
 have a1 : w2.cell? ⟨w.heap.size + 1, 1, none⟩ = some (.int .i64 i0) := blk_cell HT2.out.t 1
 have a2 : w2.cell? ⟨w.heap.size + 1, 2, none⟩ = some (.string ⟨#[]⟩) := blk_cell HT2.out.t 2
 have a3 : w2.cell? ⟨w.heap.size + 1, 3, none⟩ = some (.int .i64 0) := blk_cell HT2.out.t 3
 have z0 := blk_free HT2.out.t 0
 have z1 := blk_free HT2.out.t 1
 have z2 := blk_free HT2.out.t 2
 have z3 := blk_free HT2.out.t 3
 have hl2 : w.heap.size < w2.heap.size := lt_of_block HT2.out.r
 have hl3 : w.heap.size + 1 < w2.heap.size := lt_of_block HT2.out.t
 cases ht : textD s (i0 + 1) [] with
 | none =>
  rw [textV_none ht] at he
  subst he
  have hT := HTT.out
  rw [ht] at hT
  have HTK := lh hT
  clear hT ht
  go_wp2_with fail
  refine bodyPost_ret (v := .tuple #[.agg #[.int .i64 2, .int .i64 i0, .string ⟨#[]⟩, .int .i64 0], .int .i64 (-1)]) (by simp [results, Tryz.results142, go_sem, *]) rfl ?_
  refine ⟨?_, ?_⟩
  · rw [HTK.out]; exact ⟨_, _, _, _, rfl⟩
  · repeat (first | exact HT2.out.b | refine Below.setCell ?_ (by simp) _)
 | some p =>
  obtain ⟨r, j⟩ := p
  rw [textV_some ht] at he
  subst he
  have hT := HTT.out
  rw [ht] at hT
  have HTK := lh hT
  clear hT ht
  go_wp2_with fail
  refine bodyPost_ret (v := .tuple #[.agg #[.int .i64 2, .int .i64 i0, .string ⟨r.toArray⟩, .int .i64 0], .int .i64 j]) (by simp [results, Tryz.results142, go_sem, *]) rfl ?_
  refine ⟨?_, ?_⟩
  · rw [HTK.out]; rfl
  · repeat (first | exact HT2.out.b | refine Below.setCell ?_ (by simp) _)
theorem rtok_var (s : ByteArray) (i0 : Nat) (w : World) (hs : s.size ≤ 4000) (hi : i0 < s.size) (h39 : bt s i0 = 39) :
 Calls Tryz.prog 142 #[.string s, .int .i64 i0] w (RTokPost s i0 w) := by
 have k0 : (0 : Int) ≤ (i0 : Int) := by omega
 have k1 : (i0 : Int) < (s.size : Int) := by omega
 obtain ⟨W, hW⟩ : ∃ W, W = (w.alloc (.cells #[.int .i64 0, .int .i64 0, .string ⟨#[]⟩, .int .i64 0] 59)).alloc (.cells #[.int .i64 0, .int .i64 i0, .string ⟨#[]⟩, .int .i64 0] 59) := ⟨_, rfl⟩
 have hts : TS w W 0 i0 ⟨#[]⟩ 0 := by rw [hW]; exact TS.start w i0
 have HW := lh hW
 have HTS := lh hts
 clear hW hts
 obtain ⟨c, hcb⟩ : ∃ c, c = bt s i0 := ⟨_, rfl⟩
 have hck := bt_eq hi hcb
 have HCB := lh hcb
 have hT := tokD_var h39
 rw [← hcb] at h39
 have hdg : dig c = false := by rw [h39]; rfl
 have e34 : ((c : Int) == 34) = false := by rw [h39]; rfl
 have e39 : ((c : Int) == 39) = true := by rw [h39]; rfl
 clear hcb h39
 have hv : varI s i0 = if vfD s i0 < varD s (vfD s i0) (vfD s i0) ∧ varD s (vfD s i0) (vfD s i0) - vfD s i0 ≤ 20 then (varD s (vfD s i0) (vfD s i0) : Int) else -1 := rfl
 have hvs := varD_ge (s := s) (vfD s i0) (vfD s i0)
 have hfs : vfD s i0 ≤ s.size ∧ i0 < vfD s i0 := by
  unfold vfD
  split
  · rename_i h; simp [tokD.hasQ] at h; omega
  · omega
 generalize vfD s i0 = f at *
 generalize varD s f f = j at *
 obtain ⟨hj1, hj2⟩ := hvs
 obtain ⟨hf1, hf2⟩ := hfs
 have hj2 := hj2 hf1
 go_enter Tryz.func142, Tryz.ntmps142
 go_wp2_with fail
 rw [← HW.out]
 refine (digit_any _ _).mono ?_
 rintro e w' ⟨rfl, rfl⟩
 have HV := lh hv
 have HTT := lh hT
 clear hT hv
 go_wp2_with fail
 refine (rvariable_any s i0 _ hs hi).mono ?_
 rintro e w2 ⟨rfl, rfl⟩
 have r0 : W.cell? ⟨w.heap.size, 0, none⟩ = some (.int .i64 0) := blk_cell HTS.out.r 0
 have r1 : W.cell? ⟨w.heap.size, 1, none⟩ = some (.int .i64 0) := blk_cell HTS.out.r 1
 have r2 : W.cell? ⟨w.heap.size, 2, none⟩ = some (.string ⟨#[]⟩) := blk_cell HTS.out.r 2
 have r3 : W.cell? ⟨w.heap.size, 3, none⟩ = some (.int .i64 0) := blk_cell HTS.out.r 3
 have y0 := blk_free HTS.out.r 0
 have y1 := blk_free HTS.out.r 1
 have y2 := blk_free HTS.out.r 2
 have y3 := blk_free HTS.out.r 3
 have a0 : W.cell? ⟨w.heap.size + 1, 0, none⟩ = some (.int .i64 0) := blk_cell HTS.out.t 0
 have a1 : W.cell? ⟨w.heap.size + 1, 1, none⟩ = some (.int .i64 i0) := blk_cell HTS.out.t 1
 have a2 : W.cell? ⟨w.heap.size + 1, 2, none⟩ = some (.string ⟨#[]⟩) := blk_cell HTS.out.t 2
 have a3 : W.cell? ⟨w.heap.size + 1, 3, none⟩ = some (.int .i64 0) := blk_cell HTS.out.t 3
 have z0 := blk_free HTS.out.t 0
 have z1 := blk_free HTS.out.t 1
 have z2 := blk_free HTS.out.t 2
 have z3 := blk_free HTS.out.t 3
 have hl2 : w.heap.size < W.heap.size := lt_of_block HTS.out.r
 have hl3 : w.heap.size + 1 < W.heap.size := lt_of_block HTS.out.t
 have hv2 := HV.out
 have hT2 := HTT.out
 by_cases hg : f < j ∧ j - f ≤ 20
 · rw [if_pos hg] at hv2 hT2
   rw [hv2]
   have HTK := lh hT2
   have j0 : (0 : Int) ≤ (j : Int) := by omega
   have j1 : (i0 : Int) ≤ (j : Int) := by omega
   have j2 : (j : Int) ≤ (s.size : Int) := by omega
   clear hv2 hT2 hg
   go_wp2_with fail
   refine bodyPost_ret (v := .tuple #[.agg #[.int .i64 5, .int .i64 i0, .string (s.extract i0 j), .int .i64 0], .int .i64 j]) (by simp [results, Tryz.results142, go_sem, *]) rfl ?_
   refine ⟨?_, ?_⟩
   · rw [HTK.out]; rfl
   · repeat (first | exact HTS.out.b | refine Below.setCell ?_ (by simp) _)
 · rw [if_neg hg] at hv2 hT2
   rw [hv2]
   have HTK := lh hT2
   clear hv2 hT2 hg
   go_wp2_with fail
   refine bodyPost_ret (v := .tuple #[.agg #[.int .i64 0, .int .i64 i0, .string ⟨#[]⟩, .int .i64 0], .int .i64 (-1)]) (by simp [results, Tryz.results142, go_sem, *]) rfl ?_
   refine ⟨?_, ?_⟩
   · rw [HTK.out]; exact ⟨_, _, _, _, rfl⟩
   · repeat (first | exact HTS.out.b | refine Below.setCell ?_ (by simp) _)
theorem keep2d {w : World} {b i : Nat} {v : Value} (h : w.cell? ⟨b, i, none⟩ = some v) : w.drew.cell? ⟨b, i, none⟩ = some v := h
theorem keep2a {w : World} {b i : Nat} {v : Value} {o : Obj} (h : w.cell? ⟨b, i, none⟩ = some v) : (w.alloc o).cell? ⟨b, i, none⟩ = some v := by
 rw [World.cell?_alloc_old _ _ _ (Nat.ne_of_lt (World.block_lt_of_cell? w _ h))]; exact h
/-- the kind of a name -/
def nameK (s : ByteArray) (i : Nat) (t : ByteArray) : Nat := if t = ⟨#[95]⟩ then 7 else if isWordD t then 6 else if great (bt s i) then 4 else 3
theorem tokD_name {s : ByteArray} {i : Nat} (h : small (bt s i) = true ∨ great (bt s i) = true ∨ bt s i = 95) : tokD s i = if whD s inName i - i ≤ 20 then some ((nameK s i (cut s i (whD s inName i)), i, cut s i (whD s inName i), 0), whD s inName i) else none := by
 have h1 : dig (bt s i) = false ∧ bt s i ≠ 34 ∧ bt s i ≠ 39 := by
  rcases h with h | h | h
  · simp [small] at h; simp [dig]; omega
  · simp [great] at h; simp [dig]; omega
  · simp [dig, h]
 have h2 : (small (bt s i) || great (bt s i) || decide (bt s i = 95)) = true := by
  rcases h with h | h | h <;> simp [h]
 unfold tokD
 rw [if_neg (by simp [h1.1]), if_neg h1.2.1, if_neg h1.2.2, if_pos h2]
 rfl
theorem rtok_name (s : ByteArray) (i0 : Nat) (w : World) (hs : s.size ≤ 4000) (hi : i0 < s.size) (hn : small (bt s i0) = true ∨ great (bt s i0) = true ∨ bt s i0 = 95) :
 Calls Tryz.prog 142 #[.string s, .int .i64 i0] w (RTokPost s i0 w) := by
 have k0 : (0 : Int) ≤ (i0 : Int) := by omega
 have k1 : (i0 : Int) < (s.size : Int) := by omega
 obtain ⟨W, hW⟩ : ∃ W, W = (w.alloc (.cells #[.int .i64 0, .int .i64 0, .string ⟨#[]⟩, .int .i64 0] 59)).alloc (.cells #[.int .i64 0, .int .i64 i0, .string ⟨#[]⟩, .int .i64 0] 59) := ⟨_, rfl⟩
 have hts : TS w W 0 i0 ⟨#[]⟩ 0 := by rw [hW]; exact TS.start w i0
 have HW := lh hW
 have HTS := lh hts
 clear hW hts
 obtain ⟨c, hcb⟩ : ∃ c, c = bt s i0 := ⟨_, rfl⟩
 have hck := bt_eq hi hcb
 have HCB := lh hcb
 have hT := tokD_name hn
 have hc1 : dig (bt s i0) = false ∧ bt s i0 ≠ 34 ∧ bt s i0 ≠ 39 := by
  rcases hn with h | h | h
  · simp [small] at h; simp [dig]; omega
  · simp [great] at h; simp [dig]; omega
  · simp [dig, h]
 rw [← hcb] at hn hc1
 obtain ⟨hdg, n34, n39⟩ := hc1
 have e34 : ((c : Int) == 34) = false := by simp; omega
 have e39 : ((c : Int) == 39) = false := by simp; omega
 have hjs := whD_ge s inName i0
 generalize hj : whD s inName i0 = j at *
 have HJ := lh hj
 have HTT := lh hT
 have HN := lh hn
 obtain ⟨hj1, hj2⟩ := hjs
 have hj2 := hj2 (by omega)
 clear hcb hn n34 n39 hT hj
 go_enter Tryz.func142, Tryz.ntmps142
 go_wp2_with fail
 rw [← HW.out]
 refine (digit_any _ _).mono ?_
 rintro e w' ⟨rfl, rfl⟩
 go_upto_region 25 with fail
 go_cut [92] (fun o wx => o = .bool true ∧ wx = W)
 case first =>
  rcases HN.out with h | h | h
  · go_wp2_with fail
    refine (small_any _ _).mono ?_
    rintro e w' ⟨rfl, rfl⟩
    go_wp2_with fail
    go_meet
    exact ⟨rfl, rfl⟩
  · have h2 : small c = false := by simp [great] at h; simp [small]; omega
    go_wp2_with fail
    refine (small_any _ _).mono ?_
    rintro e w' ⟨rfl, rfl⟩
    go_wp2_with fail
    refine (great_any _ _).mono ?_
    rintro e w' ⟨rfl, rfl⟩
    go_wp2_with fail
    go_meet
    exact ⟨rfl, rfl⟩
  · have h2 : small c = false := by simp [h]; rfl
    have h3 : great c = false := by simp [h]; rfl
    have h4 : ((c : Int) == 95) = true := by simp [h]
    clear h
    go_wp2_with fail
    refine (small_any _ _).mono ?_
    rintro e w' ⟨rfl, rfl⟩
    go_wp2_with fail
    refine (great_any _ _).mono ?_
    rintro e w' ⟨rfl, rfl⟩
    go_wp2_with fail
    go_meet
    exact ⟨rfl, rfl⟩
 case rest =>
  obtain ⟨rfl, rfl⟩ := hcut
  have j1 : (i0 : Int) ≤ (j : Int) := by omega
  have j2 : (j : Int) ≤ (s.size : Int) := by omega
  have j0 : (0 : Int) ≤ (j : Int) := by omega
  have a2 : wc.cell? ⟨w.heap.size + 1, 2, none⟩ = some (.string ⟨#[]⟩) := blk_cell HTS.out.t 2
  have z2 := blk_free HTS.out.t 2
  have hl0 : w.heap.size + 1 < wc.heap.size := lt_of_block HTS.out.t
  go_wp2_with fail
  refine (name_any s i0 _ hs (by omega)).mono ?_
  rintro e w' ⟨rfl, rfl⟩
  rw [HJ.out]
  go_upto_region 28 with fail
  obtain ⟨t, ht⟩ : ∃ t, t = s.extract i0 j := ⟨_, rfl⟩
  rw [← ht]
  obtain ⟨w3, hw3⟩ : ∃ w3, w3 = wc.setCell ⟨w.heap.size + 1, 2, none⟩ (.string t) := ⟨_, rfl⟩
  have hts3 : TS w w3 0 i0 t 0 := by rw [hw3]; exact HTS.out.setx t
  rw [← hw3]
  have HT := lh ht
  have HTS3 := lh hts3
  clear a2 z2 hl0 ht hw3
  have hS : w3.cell? ⟨w.heap.size + 1, 2, none⟩ = some (.string t) := blk_cell hts3.t 2
  have hl0 : w.heap.size + 1 < w3.heap.size := lt_of_block hts3.t
  clear hts3
  go_region_held3 (fun w' => w'.cell? ⟨w.heap.size + 1, 2, none⟩ = some (.string t))
   (repeat (first | exact hS | apply keep2d | apply keep2a))
   (first
    | (go_at_call 178; refine (words_any _).mono ?_; rintro e w5 ⟨rfl, rfl⟩)
    | (go_at_call 143; go_loud (refine (among_any wordB _ t _ (by first | exact words_at _ | exact StrsAt.drew (words_at _) | exact StrsAt.drew (StrsAt.drew (words_at _))) (by decide)).mono ?_); rintro e w5 ⟨rfl, rfl⟩))
  have hts5 := (HTS3.out.below (balloc (Below.refl w3.heap.size w3) (.cells wordV 9))).drew
  clear hS hl0
  generalize (w3.alloc (.cells wordV 9)).drew = w5 at hts5 ⊢
  have HTS5 := lh hts5
  have a2 : w5.cell? ⟨w.heap.size + 1, 2, none⟩ = some (.string t) := blk_cell hts5.t 2
  have a0 : w5.cell? ⟨w.heap.size + 1, 0, none⟩ = some (.int .i64 0) := blk_cell hts5.t 0
  have z0 := blk_free hts5.t 0
  have hl0 : w.heap.size + 1 < w5.heap.size := lt_of_block hts5.t
  clear hts5
  obtain ⟨bw, hbw⟩ : ∃ bw, bw = amongD wordB t := ⟨_, rfl⟩
  rw [← hbw]
  have HBW := lh hbw
  clear hbw
  go_upto_block 3 with fail
  go_cut [] (fun wx => TS w wx (nameK s i0 t) i0 t 0)
  case first =>
   by_cases h95 : t = ⟨#[95]⟩
   · have hk : nameK s i0 t = 7 := by unfold nameK; rw [if_pos h95]
     have HK := lh hk
     have hb : (t.toList == [95]) = true := by rw [show ([95] : List UInt8) = (⟨#[95]⟩ : ByteArray).toList from by simp [ByteArray.toList_eq], str_eq]; simp [h95]
     have H95 := lh h95
     clear hk h95
     go_wp2_with fail
     go_meet
     rw [HK.out]
     exact HTS5.out.setk 7
   · have hb : (t.toList == [95]) = false := by rw [show ([95] : List UInt8) = (⟨#[95]⟩ : ByteArray).toList from by simp [ByteArray.toList_eq], str_eq]; simp [h95]
     cases bw with
     | true =>
      have hk : nameK s i0 t = 6 := by unfold nameK; rw [if_neg h95, isWord_among, if_pos HBW.out.symm]
      have HK := lh hk
      clear hk h95
      go_wp2_with fail
      go_meet
      rw [HK.out]
      exact HTS5.out.setk 6
     | false =>
      cases hg : great c with
      | true =>
       have hk : nameK s i0 t = 4 := by unfold nameK; rw [if_neg h95, isWord_among, if_neg (by simp [← HBW.out]), ← HCB.out, if_pos hg]
       have HK := lh hk
       clear hk h95
       go_wp2_with fail
       refine (great_any _ _).mono ?_
       rintro e w' ⟨rfl, rfl⟩
       go_wp2_with fail
       go_meet
       rw [HK.out]
       exact HTS5.out.setk 4
      | false =>
       have hk : nameK s i0 t = 3 := by unfold nameK; rw [if_neg h95, isWord_among, if_neg (by simp [← HBW.out]), ← HCB.out, if_neg (by simp [hg])]
       have HK := lh hk
       clear hk h95
       go_wp2_with fail
       refine (great_any _ _).mono ?_
       rintro e w' ⟨rfl, rfl⟩
       go_wp2_with fail
       go_meet
       rw [HK.out]
       exact HTS5.out.setk 3
  case rest =>
   clear a0 a2 z0 hl0
   have HT6 := lh hcut
   obtain ⟨w6, hw6⟩ : ∃ w6 : World, w6 = wc := ⟨_, rfl⟩
   subst hw6
   clear hcut
   obtain ⟨nk, hnk⟩ : ∃ nk, nk = nameK s i0 t := ⟨_, rfl⟩
   have HNK := lh hnk
   rw [← hnk] at HT6
   clear hnk
   have r0 : w6.cell? ⟨w.heap.size, 0, none⟩ = some (.int .i64 0) := blk_cell HT6.out.r 0
   have r1 : w6.cell? ⟨w.heap.size, 1, none⟩ = some (.int .i64 0) := blk_cell HT6.out.r 1
   have r2 : w6.cell? ⟨w.heap.size, 2, none⟩ = some (.string ⟨#[]⟩) := blk_cell HT6.out.r 2
   have r3 : w6.cell? ⟨w.heap.size, 3, none⟩ = some (.int .i64 0) := blk_cell HT6.out.r 3
   have y0 := blk_free HT6.out.r 0
   have y1 := blk_free HT6.out.r 1
   have y2 := blk_free HT6.out.r 2
   have y3 := blk_free HT6.out.r 3
   have a0 : w6.cell? ⟨w.heap.size + 1, 0, none⟩ = some (.int .i64 nk) := blk_cell HT6.out.t 0
   have a1 : w6.cell? ⟨w.heap.size + 1, 1, none⟩ = some (.int .i64 i0) := blk_cell HT6.out.t 1
   have a2 : w6.cell? ⟨w.heap.size + 1, 2, none⟩ = some (.string t) := blk_cell HT6.out.t 2
   have a3 : w6.cell? ⟨w.heap.size + 1, 3, none⟩ = some (.int .i64 0) := blk_cell HT6.out.t 3
   have z0 := blk_free HT6.out.t 0
   have z1 := blk_free HT6.out.t 1
   have z2 := blk_free HT6.out.t 2
   have z3 := blk_free HT6.out.t 3
   have hl2 : w.heap.size < w6.heap.size := lt_of_block HT6.out.r
   have hl3 : w.heap.size + 1 < w6.heap.size := lt_of_block HT6.out.t
   by_cases h20 : j - i0 ≤ 20
   · have hd20 : decide ((20 : Int) < (j : Int) - i0) = false := by simp; omega
     have hT := HTT.out
     rw [if_pos h20] at hT
     have HTK := lh hT
     clear hT h20
     go_wp2_with fail
     refine bodyPost_ret (v := .tuple #[.agg #[.int .i64 nk, .int .i64 i0, .string t, .int .i64 0], .int .i64 j]) (by simp [results, Tryz.results142, go_sem, *]) rfl ?_
     refine ⟨?_, ?_⟩
     · rw [HTK.out, HNK.out, HT.out]; rfl
     · repeat (first | exact HT6.out.b | refine Below.setCell ?_ (by simp) _)
   · have hd20 : decide ((20 : Int) < (j : Int) - i0) = true := by simp; omega
     have hT := HTT.out
     rw [if_neg h20] at hT
     have HTK := lh hT
     clear hT h20
     go_wp2_with fail
     refine bodyPost_ret (v := .tuple #[.agg #[.int .i64 nk, .int .i64 i0, .string t, .int .i64 0], .int .i64 (-1)]) (by simp [results, Tryz.results142, go_sem, *]) rfl ?_
     refine ⟨?_, ?_⟩
     · rw [HTK.out]; exact ⟨_, _, _, _, rfl⟩
     · repeat (first | exact HT6.out.b | refine Below.setCell ?_ (by simp) _)
def mk2 (p : Nat × Nat) : ByteArray := ⟨#[UInt8.ofNat p.1, UInt8.ofNat p.2]⟩
def mk1 (a : Nat) : ByteArray := ⟨#[UInt8.ofNat a]⟩
theorem signB_eq : signB = pairL.map mk2 ++ signL.map mk1 := by decide +kernel
theorem atD_mk2 (s : ByteArray) (i : Nat) (p : Nat × Nat) (h1 : p.1 < 256) (h2 : p.2 < 256) : atD s i (mk2 p) = decide (i + 2 ≤ s.size ∧ (bt s i, bt s (i + 1)) = p) := by
 unfold mk2
 rw [atD_two]
 have e1 : (UInt8.ofNat p.1).toNat = p.1 := by simp; omega
 have e2 : (UInt8.ofNat p.2).toNat = p.2 := by simp; omega
 rw [e1, e2]
 unfold hasD
 obtain ⟨a, b⟩ := p
 simp
theorem cut_one (s : ByteArray) (k : Nat) (h : k + 1 ≤ s.size) : cut s k (k + 1) = ⟨#[s[k]]⟩ := by
 have hz := sizeL s
 apply ByteArray.ext
 apply Array.ext'
 have h1 : k < s.data.toList.length := by omega
 simp only [cut, ByteArray.data_extract, Array.toList_extract]
 rw [List.extract_eq_take_drop, List.drop_eq_getElem_cons h1, show k + 1 - k = 1 from by omega]
 rfl
theorem atD_mk1 (s : ByteArray) (i a : Nat) (ha : a < 256) (hi : i < s.size) : atD s i (mk1 a) = decide (bt s i = a) := by
 have e : (mk1 a).size = 1 := rfl
 unfold atD
 rw [e, cut_one s i (by omega), ← bt_get s i hi, decide_eq_decide]
 constructor
 · intro h
   have h2 : s[i] = UInt8.ofNat a := by have := h.2; unfold mk1 at this; injection this with this; simpa using this
   rw [h2]; simp; omega
 · intro h
   refine ⟨by omega, ?_⟩
   rw [← h]; simp [mk1]
theorem find_pairs (s : ByteArray) (i : Nat) (L : List (Nat × Nat)) (hL : ∀ p ∈ L, p.1 < 256 ∧ p.2 < 256) : (L.map mk2).find? (fun t => atD s i t) = if i + 2 ≤ s.size ∧ (bt s i, bt s (i + 1)) ∈ L then some (mk2 (bt s i, bt s (i + 1))) else none := by
 induction L with
 | nil => simp
 | cons p L ih =>
  have h := hL p (by simp)
  rw [List.map_cons, List.find?_cons, atD_mk2 s i p h.1 h.2]
  by_cases hp : i + 2 ≤ s.size ∧ (bt s i, bt s (i + 1)) = p
  · rw [decide_eq_true hp, if_pos ⟨hp.1, by rw [hp.2]; simp⟩, hp.2]
  · rw [decide_eq_false hp, ih (fun q hq => hL q (by simp [hq]))]
    by_cases h3 : i + 2 ≤ s.size ∧ (bt s i, bt s (i + 1)) ∈ L
    · rw [if_pos h3, if_pos ⟨h3.1, List.mem_cons_of_mem _ h3.2⟩]
    · rw [if_neg h3, if_neg]
      rintro ⟨h4, h5⟩
      rcases List.mem_cons.1 h5 with h6 | h6
      · exact hp ⟨h4, h6⟩
      · exact h3 ⟨h4, h6⟩
theorem find_signs (s : ByteArray) (i : Nat) (hi : i < s.size) (L : List Nat) (hL : ∀ p ∈ L, p < 256) : (L.map mk1).find? (fun t => atD s i t) = if bt s i ∈ L then some (mk1 (bt s i)) else none := by
 induction L with
 | nil => simp
 | cons p L ih =>
  have h := hL p (by simp)
  rw [List.map_cons, List.find?_cons, atD_mk1 s i p h hi]
  by_cases hp : bt s i = p
  · rw [decide_eq_true hp, if_pos (by rw [hp]; simp), hp]
  · rw [decide_eq_false hp, ih (fun q hq => hL q (by simp [hq]))]
    by_cases h3 : bt s i ∈ L
    · rw [if_pos h3, if_pos (List.mem_cons_of_mem _ h3)]
    · rw [if_neg h3, if_neg]
      intro h5
      rcases List.mem_cons.1 h5 with h6 | h6
      · exact hp h6
      · exact h3 h6
theorem mk2_cut (s : ByteArray) (i : Nat) (h : i + 2 ≤ s.size) : mk2 (bt s i, bt s (i + 1)) = cut s i (i + 2) := by
 rw [cut_two s i h, ← bt_get s i (by omega), ← bt_get s (i + 1) (by omega)]
 simp [mk2]
theorem mk1_cut (s : ByteArray) (i : Nat) (h : i < s.size) : mk1 (bt s i) = cut s i (i + 1) := by
 rw [cut_one s i (by omega), ← bt_get s i (by omega)]
 simp [mk1]
theorem tokD_sign {s : ByteArray} {i : Nat} (hi : i < s.size) (h1 : dig (bt s i) = false) (h2 : bt s i ≠ 34) (h3 : bt s i ≠ 39) (h4 : small (bt s i) = false) (h5 : great (bt s i) = false) (h6 : bt s i ≠ 95) :
 tokD s i = match signB.find? (fun t => atD s i t) with
  | some t => some ((7, i, t, 0), i + t.size)
  | none => none := by
 rw [signB_eq, List.find?_append, find_pairs s i pairL (by decide), find_signs s i hi signL (by decide)]
 unfold tokD
 rw [if_neg (by simp [h1]), if_neg h2, if_neg h3, if_neg (by simp [h4, h5, h6])]
 by_cases hp : i + 2 ≤ s.size ∧ (bt s i, bt s (i + 1)) ∈ pairL
 · rw [if_pos hp, if_pos hp, mk2_cut s i hp.1]
   have e : (cut s i (i + 2)).size = 2 := by rw [cut_two s i hp.1]; rfl
   simp only [Option.some_or, e]
 · rw [if_neg hp, if_neg hp]
   by_cases hq : bt s i ∈ signL
   · rw [if_pos hq, if_pos hq, mk1_cut s i hi]
     have e : (cut s i (i + 1)).size = 1 := by rw [cut_one s i (by omega)]; rfl
     simp only [Option.none_or, e]
   · rw [if_neg hq, if_neg hq]
     rfl
theorem find_drop (s : ByteArray) (i : Nat) (L : List ByteArray) (k : Nat) (h : k < L.length) : (L.drop k).find? (fun t => atD s i t) = if atD s i (L.getD k ByteArray.empty) then some (L.getD k ByteArray.empty) else (L.drop (k + 1)).find? (fun t => atD s i t) := by
 have e : L.getD k ByteArray.empty = L[k] := by rw [List.getD_eq_getElem?_getD, List.getElem?_eq_getElem h]; rfl
 rw [List.drop_eq_getElem_cons h, List.find?_cons, e]
 cases atD s i L[k] <;> rfl
theorem sign_size (k : Nat) (hk : k < 28) : (signB.getD k ByteArray.empty).size ≤ 2 := by
 have h : ∀ k : Fin 28, (signB.getD k ByteArray.empty).size ≤ 2 := by decide +kernel
 exact h ⟨k, hk⟩
abbrev S47 (b bs k : Nat) (kd a n : Int) (x y : ByteArray) (W : World) : Prop :=
 W.cell? ⟨b, 0, none⟩ = some (.int .i64 kd) ∧ W.cell? ⟨b, 1, none⟩ = some (.int .i64 a) ∧ W.cell? ⟨b, 2, none⟩ = some (.string x) ∧ W.cell? ⟨b, 3, none⟩ = some (.int .i64 n) ∧ W.cell? ⟨bs, k, none⟩ = some (.string y)
theorem S47.drew {b bs k : Nat} {kd a n : Int} {x y : ByteArray} {W : World} (h : S47 b bs k kd a n x y W) : S47 b bs k kd a n x y W.drew := h
theorem S47.set {b bs k : Nat} {kd a n : Int} {x y : ByteArray} {W : World} (h : S47 b bs k kd a n x y W) (q i : Nat) (u : Value) (h1 : q ≠ b) (h2 : q ≠ bs) : S47 b bs k kd a n x y (W.setCell ⟨q, i, none⟩ u) :=
 ⟨(World.cell?_setCell_far W _ _ u h1).trans h.1, (World.cell?_setCell_far W _ _ u h1).trans h.2.1, (World.cell?_setCell_far W _ _ u h1).trans h.2.2.1, (World.cell?_setCell_far W _ _ u h1).trans h.2.2.2.1, (World.cell?_setCell_far W _ _ u h2).trans h.2.2.2.2⟩
theorem rtok_sign (s : ByteArray) (i0 : Nat) (w : World) (hs : s.size ≤ 4000) (hi : i0 < s.size) (h1 : dig (bt s i0) = false) (h2 : bt s i0 ≠ 34) (h3 : bt s i0 ≠ 39) (h4 : small (bt s i0) = false) (h5 : great (bt s i0) = false) (h6 : bt s i0 ≠ 95) :
 Calls Tryz.prog 142 #[.string s, .int .i64 i0] w (RTokPost s i0 w) := by
 have k0 : (0 : Int) ≤ (i0 : Int) := by omega
 have k1 : (i0 : Int) < (s.size : Int) := by omega
 obtain ⟨W, hW⟩ : ∃ W, W = (w.alloc (.cells #[.int .i64 0, .int .i64 0, .string ⟨#[]⟩, .int .i64 0] 59)).alloc (.cells #[.int .i64 0, .int .i64 i0, .string ⟨#[]⟩, .int .i64 0] 59) := ⟨_, rfl⟩
 have hts : TS w W 0 i0 ⟨#[]⟩ 0 := by rw [hW]; exact TS.start w i0
 have HW := lh hW
 have HTS := lh hts
 clear hW hts
 obtain ⟨c, hcb⟩ : ∃ c, c = bt s i0 := ⟨_, rfl⟩
 have hck := bt_eq hi hcb
 have HCB := lh hcb
 have hT := tokD_sign hi h1 h2 h3 h4 h5 h6
 rw [← hcb] at h1 h2 h3 h4 h5 h6
 have e34 : ((c : Int) == 34) = false := by simp; omega
 have e39 : ((c : Int) == 39) = false := by simp; omega
 have e95 : ((c : Int) == 95) = false := by simp; omega
 have HTT := lh hT
 clear hcb h2 h3 h6 hT
 go_enter Tryz.func142, Tryz.ntmps142
 go_wp2_with fail
 rw [← HW.out]
 refine (digit_any _ _).mono ?_
 rintro e w' ⟨rfl, rfl⟩
 go_wp2_with fail
 refine (small_any _ _).mono ?_
 rintro e w' ⟨rfl, rfl⟩
 go_wp2_with fail
 refine (great_any _ _).mono ?_
 rintro e w' ⟨rfl, rfl⟩
 go_wp2_with fail
 refine (signs_any _).mono ?_
 rintro e w5 ⟨rfl, hw5⟩
 have hts5 : TS w w5 0 i0 ⟨#[]⟩ 0 := by rw [hw5]; exact HTS.out.below (balloc (Below.refl _ _) _)
 have hsa : StrsAt w5 W.heap.size signB := by rw [hw5]; exact signs_at W
 have hWs := lt_of_block HTS.out.t
 obtain ⟨bs, hbs⟩ : ∃ bs, bs = W.heap.size := ⟨_, rfl⟩
 rw [← hbs] at hsa hWs ⊢
 have HT5 := lh hts5
 have HSA := lh hsa
 clear hts5 hsa hw5 hbs h1 h4 h5 e34 e39 e95 hck k0 k1
 go_wp2_with fail
 go_loop [14] (fun i => ∃ k : Nat, k ≤ 28 ∧ i = .int .i64 k ∧ (signB.drop k).find? (fun t => atD s i0 t) = signB.find? (fun t => atD s i0 t)) (fun i => 28 - (intOf i).toNat)
 case atStart => exact ⟨0, by omega, rfl, rfl⟩
 case round =>
  obtain ⟨k, hk, rfl, hc⟩ := hrel
  have HC := lh hc
  clear hc
  have r0 : w5.cell? ⟨w.heap.size, 0, none⟩ = some (.int .i64 0) := blk_cell HT5.out.r 0
  have r1 : w5.cell? ⟨w.heap.size, 1, none⟩ = some (.int .i64 0) := blk_cell HT5.out.r 1
  have r2 : w5.cell? ⟨w.heap.size, 2, none⟩ = some (.string ⟨#[]⟩) := blk_cell HT5.out.r 2
  have r3 : w5.cell? ⟨w.heap.size, 3, none⟩ = some (.int .i64 0) := blk_cell HT5.out.r 3
  have y0 := blk_free HT5.out.r 0
  have y1 := blk_free HT5.out.r 1
  have y2 := blk_free HT5.out.r 2
  have y3 := blk_free HT5.out.r 3
  have a0 : w5.cell? ⟨w.heap.size + 1, 0, none⟩ = some (.int .i64 0) := blk_cell HT5.out.t 0
  have a1 : w5.cell? ⟨w.heap.size + 1, 1, none⟩ = some (.int .i64 i0) := blk_cell HT5.out.t 1
  have a2 : w5.cell? ⟨w.heap.size + 1, 2, none⟩ = some (.string ⟨#[]⟩) := blk_cell HT5.out.t 2
  have a3 : w5.cell? ⟨w.heap.size + 1, 3, none⟩ = some (.int .i64 0) := blk_cell HT5.out.t 3
  have z0 := blk_free HT5.out.t 0
  have z1 := blk_free HT5.out.t 1
  have z2 := blk_free HT5.out.t 2
  have z3 := blk_free HT5.out.t 3
  have hl2 : w.heap.size < w5.heap.size := lt_of_block HT5.out.r
  have hl3 : w.heap.size + 1 < w5.heap.size := lt_of_block HT5.out.t
  by_cases hlt : k < 28
  · have k0 : (0 : Int) ≤ (k : Int) := by omega
    have k1 : (k : Int) < 28 := by omega
    have hcell := HSA.out k hlt
    have hst := find_drop s i0 signB k hlt
    have hsz := sign_size k hlt
    generalize signB.getD k ByteArray.empty = x at hcell hst hsz
    have HST := lh hst
    clear hst
    cases hx : atD s i0 x with
    | true =>
     have hfd : signB.find? (fun t => atD s i0 t) = some x := by rw [← HC.out, HST.out, if_pos hx]
     have hT := HTT.out
     rw [hfd] at hT
     have HTK := lh hT
     have hxs : (0 : Int) ≤ (x.size : Int) := by omega
     clear hT hfd
     go_wp2_with fail
     refine (at_any s i0 x _ hs (by omega) (by omega)).mono ?_
     rintro e w' ⟨rfl, rfl⟩
     clear a1 a3 r0 r1 r2 r3 z1 z3
     go_upto_region 47 with fail
     have hts6 := (HT5.out.setk 7).setx x
     have hcell6 : ((w5.setCell ⟨w.heap.size + 1, 0, none⟩ (.int .i64 7)).setCell ⟨w.heap.size + 1, 2, none⟩ (.string x)).cell? ⟨bs, k, none⟩ = some (.string x) :=
      (World.cell?_setCell_far _ _ _ _ (by simp; omega)).trans ((World.cell?_setCell_far _ _ _ _ (by simp; omega)).trans hcell)
     clear a0 a2 z0 z2 hl2 hl3 hcell y0 y1 y2 y3
     generalize (w5.setCell ⟨w.heap.size + 1, 0, none⟩ (.int .i64 7)).setCell ⟨w.heap.size + 1, 2, none⟩ (.string x) = w6 at hts6 hcell6 ⊢
     have HT6 := lh hts6
     have hS : S47 (w.heap.size + 1) bs k 7 i0 0 x x w6 := ⟨blk_cell hts6.t 0, blk_cell hts6.t 1, blk_cell hts6.t 2, blk_cell hts6.t 3, hcell6⟩
     clear hts6 hcell6
     have r0 : w6.cell? ⟨w.heap.size, 0, none⟩ = some (.int .i64 0) := blk_cell HT6.out.r 0
     have r1 : w6.cell? ⟨w.heap.size, 1, none⟩ = some (.int .i64 0) := blk_cell HT6.out.r 1
     have r2 : w6.cell? ⟨w.heap.size, 2, none⟩ = some (.string ⟨#[]⟩) := blk_cell HT6.out.r 2
     have r3 : w6.cell? ⟨w.heap.size, 3, none⟩ = some (.int .i64 0) := blk_cell HT6.out.r 3
     have y0 := blk_free HT6.out.r 0
     have y1 := blk_free HT6.out.r 1
     have y2 := blk_free HT6.out.r 2
     have y3 := blk_free HT6.out.r 3
     have hl2 : w.heap.size < w6.heap.size := lt_of_block HT6.out.r
     have hl3 : w.heap.size + 1 < w6.heap.size := lt_of_block HT6.out.t
     have hwx : IntKind.i64.wrap ((i0 : Int) + x.size) = i0 + x.size := IntWalk.i64_in _ (by omega)
     go_region_held3 (fun w' => S47 (w.heap.size + 1) bs k 7 i0 0 x x w')
      (repeat (first | exact hS | apply S47.drew | (refine S47.set ?_ _ _ _ (by omega) (by omega))))
      (fail)
     all_goals go_wp2_with fail
     all_goals
      refine bodyPost_ret (v := .tuple #[.agg #[.int .i64 7, .int .i64 i0, .string x, .int .i64 0], .int .i64 ((i0 : Int) + x.size)]) (by simp [results, Tryz.results142, go_sem, *]) rfl ?_
      refine ⟨?_, ?_⟩
      · rw [HTK.out]; rfl
      · repeat (first | exact HT6.out.b | apply Below.drew | refine Below.setCell ?_ (by simp) _)
    | false =>
     go_wp2_with fail
     refine (at_any s i0 x _ hs (by omega) (by omega)).mono ?_
     rintro e w' ⟨rfl, rfl⟩
     go_wp2_with fail
     go_round
     case rel => exact ⟨k + 1, by omega, by go_num, by rw [← HC.out, HST.out, if_neg (by simp [hx])]⟩
     case measure => simp [intOf]; omega
  · obtain rfl : k = 28 := by omega
    have hfd : signB.find? (fun t => atD s i0 t) = none := by rw [← HC.out]; rfl
    have hT := HTT.out
    rw [hfd] at hT
    have HTK := lh hT
    clear hT hfd
    go_wp2_with fail
    refine bodyPost_ret (v := .tuple #[.agg #[.int .i64 0, .int .i64 i0, .string ⟨#[]⟩, .int .i64 0], .int .i64 (-1)]) (by simp [results, Tryz.results142, go_sem, *]) rfl ?_
    refine ⟨?_, ?_⟩
    · rw [HTK.out]; exact ⟨_, _, _, _, rfl⟩
    · repeat (first | exact HT5.out.b | refine Below.setCell ?_ (by simp) _)
theorem rtok_any (s : ByteArray) (i0 : Nat) (w : World) (hs : s.size ≤ 4000) (hi : i0 < s.size) : Calls Tryz.prog 142 #[.string s, .int .i64 i0] w (RTokPost s i0 w) := by
 cases h1 : dig (bt s i0) with
 | true => exact rtok_digit s i0 w hs hi h1
 | false =>
  by_cases h2 : bt s i0 = 34
  · exact rtok_text s i0 w hs hi h2
  · by_cases h3 : bt s i0 = 39
    · exact rtok_var s i0 w hs hi h3
    · by_cases hn : small (bt s i0) = true ∨ great (bt s i0) = true ∨ bt s i0 = 95
      · exact rtok_name s i0 w hs hi hn
      · simp only [not_or, Bool.not_eq_true] at hn
        exact rtok_sign s i0 w hs hi h1 h2 h3 hn.1 hn.2.1 hn.2.2
end Go.Proofs.YthehjeeiodbkjaaGreatDoor
