/-
  Proved: the contract of the law's read; the tokens of two texts side by side, in plain Lean; what is quoted is read back, in plain Lean. Conditions: the tables as they stand in memory.
-/
import Derived.Test.YthehjeeiodbkjaaGreatDoorA01
import Derived.Test.YthehjeeiodbkjaaGreatDoorA21
import Derived.Test.YthehjeeiodbkjaaGreatDoorA22
import Derived.Test.YthehjeeiodbkjaaGreatDoorA05
set_option linter.unusedSimpArgs false
set_option linter.unusedVariables false
set_option maxRecDepth 100000
set_option maxHeartbeats 16000000
namespace Go.Proofs.YthehjeeiodbkjaaGreatDoor
open Go.RowKit
theorem ft_zero : Fit zeroT := fit0
theorem ft_top (P : Src) (hN : P.toks.length ≤ 100000) : ∀ q, Ft (topM q P)
 | 0 => fun i => Po.bind (ft_decs P _ (ft_rec P hN 60).2 hN 0 i) fun l j hl => Po.ret (fitr hl)
 | 1 => (ft_rec P hN 60).1 .exp
 | 2 => (ft_rec P hN 60).1 .pat
 | q + 3 => (ft_rec P hN 60).1 .typ
theorem ansD_fit (s : ByteArray) (q : Nat) : Fit (ansD s (topM q)).1 := by
 unfold ansD
 by_cases hl : (lexD s).2.1 = 1 ∨ (lexD s).2.1 = 2
 · rw [if_pos hl]; exact ft_zero
 · rw [if_neg hl]
   have hok : SrcOk (srcD s) := by
    rcases lexD_cases s with ⟨h, -⟩ | ⟨-, h⟩
    · exact absurd h hl
    · exact h
   cases hx : wholeD (srcD s) (topM q (srcD s)) with
   | bad k a => exact ft_zero
   | ok n j =>
    unfold wholeD at hx
    cases hy : topM q (srcD s) 0 with
    | bad k a => rw [hy] at hx; cases hx
    | ok m i =>
     rw [hy] at hx
     dsimp only at hx
     split at hx
     · cases hx; exact ft_top _ hok.len q 0 _ _ hy
     · rw [failD_at] at hx; cases hx
theorem read0_any (s : ByteArray) (w : World) (hT : TabOk w) : Calls Tryz.prog 12 #[.int .i64 0, .string s] w (TopP (ansD s (topM 0)) w) := by
 obtain ⟨A, hA⟩ : ∃ A, A = ansD s (topM 0) := ⟨_, rfl⟩
 obtain ⟨W, hW, hbW, hsW, rn, rf⟩ := two_made w
 have HCALL : Hid (Calls Tryz.prog 11 #[.string s] W (TopP A W)) := lh (by rw [hA]; exact pParse_any s W (hT.below hbW))
 rw [← hA]
 clear hA
 obtain ⟨nb, hnb⟩ : ∃ nb, nb = w.heap.size := ⟨_, rfl⟩
 obtain ⟨fb, hfb⟩ : ∃ fb, fb = w.heap.size + 1 := ⟨_, rfl⟩
 rw [← hnb] at rn
 rw [← hfb] at rf
 have HNB := lh hnb
 have HFB := lh hfb
 have HRN := lh rn
 have HRF := lh rf
 have HBW := lh hbW
 have HSW := lh hsW
 unfold zeroRow at hW
 have HWW := lh hW
 have n1 : ¬ (nb = fb) := by omega
 have n2 : ¬ (fb = nb) := by omega
 clear hW hbW hsW rn rf hT hnb hfb
 go_enter Tryz.func12, Tryz.ntmps12
 go_upto_region 1 with fail
 rw [← HWW.out, ← HFB.out, ← HNB.out]
 clear HWW
 go_wp2_with (first | (go_at_call 11; refine HCALL.out.mono ?_; rintro e w1 ⟨ao, cap, rfl, hb, hs⟩; have HEND := lh (fun (Z : World) hZ => two_end (x := A.2.1) (y := A.2.2) HNB.out HFB.out HBW.out HSW.out HRN.out HRF.out hb hs Z hZ); have r1 := blk_below HRN.out hb (lt_of_block HRN.out); have r2 := blk_below HRF.out hb (lt_of_block HRF.out); unfold zeroRow at r1; obtain ⟨⟨c0, c1, c2, c3, c4⟩, ⟨z0, z1, z2, z3, z4⟩⟩ := five_cells r1; have u0 : w1.cell? ⟨fb, 0, none⟩ = some (.int .i64 0) := blk_cell r2 0; have u1 : w1.cell? ⟨fb, 1, none⟩ = some (.int .i64 0) := blk_cell r2 1; have q0 := blk_free r2 0; have q1 := blk_free r2 1; unfold rowOf at ⊢; clear hb hs r1 r2))
 obtain ⟨k1, k2, k3, k4⟩ := HEND.out _ rfl
 exact bodyPost_ret (res_top rfl rfl rfl k1 k2) rfl ⟨ao, cap, rfl, k3, k4⟩
theorem read1_any (s : ByteArray) (w : World) (hT : TabOk w) : Calls Tryz.prog 12 #[.int .i64 1, .string s] w (TopP (ansD s (topM 1)) w) := by
 obtain ⟨A, hA⟩ : ∃ A, A = ansD s (topM 1) := ⟨_, rfl⟩
 obtain ⟨W, hW, hbW, hsW, rn, rf⟩ := two_made w
 have HCALL : Hid (Calls Tryz.prog 7 #[.string s] W (TopP A W)) := lh (by rw [hA]; exact pParseExp_any s W (hT.below hbW))
 rw [← hA]
 clear hA
 obtain ⟨nb, hnb⟩ : ∃ nb, nb = w.heap.size := ⟨_, rfl⟩
 obtain ⟨fb, hfb⟩ : ∃ fb, fb = w.heap.size + 1 := ⟨_, rfl⟩
 rw [← hnb] at rn
 rw [← hfb] at rf
 have HNB := lh hnb
 have HFB := lh hfb
 have HRN := lh rn
 have HRF := lh rf
 have HBW := lh hbW
 have HSW := lh hsW
 unfold zeroRow at hW
 have HWW := lh hW
 have n1 : ¬ (nb = fb) := by omega
 have n2 : ¬ (fb = nb) := by omega
 clear hW hbW hsW rn rf hT hnb hfb
 go_enter Tryz.func12, Tryz.ntmps12
 go_upto_region 1 with fail
 rw [← HWW.out, ← HFB.out, ← HNB.out]
 clear HWW
 go_wp2_with (first | (go_at_call 7; refine HCALL.out.mono ?_; rintro e w1 ⟨ao, cap, rfl, hb, hs⟩; have HEND := lh (fun (Z : World) hZ => two_end (x := A.2.1) (y := A.2.2) HNB.out HFB.out HBW.out HSW.out HRN.out HRF.out hb hs Z hZ); have r1 := blk_below HRN.out hb (lt_of_block HRN.out); have r2 := blk_below HRF.out hb (lt_of_block HRF.out); unfold zeroRow at r1; obtain ⟨⟨c0, c1, c2, c3, c4⟩, ⟨z0, z1, z2, z3, z4⟩⟩ := five_cells r1; have u0 : w1.cell? ⟨fb, 0, none⟩ = some (.int .i64 0) := blk_cell r2 0; have u1 : w1.cell? ⟨fb, 1, none⟩ = some (.int .i64 0) := blk_cell r2 1; have q0 := blk_free r2 0; have q1 := blk_free r2 1; unfold rowOf at ⊢; clear hb hs r1 r2))
 obtain ⟨k1, k2, k3, k4⟩ := HEND.out _ rfl
 exact bodyPost_ret (res_top rfl rfl rfl k1 k2) rfl ⟨ao, cap, rfl, k3, k4⟩
theorem read2_any (s : ByteArray) (w : World) (hT : TabOk w) : Calls Tryz.prog 12 #[.int .i64 2, .string s] w (TopP (ansD s (topM 2)) w) := by
 obtain ⟨A, hA⟩ : ∃ A, A = ansD s (topM 2) := ⟨_, rfl⟩
 obtain ⟨W, hW, hbW, hsW, rn, rf⟩ := two_made w
 have HCALL : Hid (Calls Tryz.prog 30 #[.string s] W (TopP A W)) := lh (by rw [hA]; exact pParsePat_any s W (hT.below hbW))
 rw [← hA]
 clear hA
 obtain ⟨nb, hnb⟩ : ∃ nb, nb = w.heap.size := ⟨_, rfl⟩
 obtain ⟨fb, hfb⟩ : ∃ fb, fb = w.heap.size + 1 := ⟨_, rfl⟩
 rw [← hnb] at rn
 rw [← hfb] at rf
 have HNB := lh hnb
 have HFB := lh hfb
 have HRN := lh rn
 have HRF := lh rf
 have HBW := lh hbW
 have HSW := lh hsW
 unfold zeroRow at hW
 have HWW := lh hW
 have n1 : ¬ (nb = fb) := by omega
 have n2 : ¬ (fb = nb) := by omega
 clear hW hbW hsW rn rf hT hnb hfb
 go_enter Tryz.func12, Tryz.ntmps12
 go_upto_region 1 with fail
 rw [← HWW.out, ← HFB.out, ← HNB.out]
 clear HWW
 go_wp2_with (first | (go_at_call 30; refine HCALL.out.mono ?_; rintro e w1 ⟨ao, cap, rfl, hb, hs⟩; have HEND := lh (fun (Z : World) hZ => two_end (x := A.2.1) (y := A.2.2) HNB.out HFB.out HBW.out HSW.out HRN.out HRF.out hb hs Z hZ); have r1 := blk_below HRN.out hb (lt_of_block HRN.out); have r2 := blk_below HRF.out hb (lt_of_block HRF.out); unfold zeroRow at r1; obtain ⟨⟨c0, c1, c2, c3, c4⟩, ⟨z0, z1, z2, z3, z4⟩⟩ := five_cells r1; have u0 : w1.cell? ⟨fb, 0, none⟩ = some (.int .i64 0) := blk_cell r2 0; have u1 : w1.cell? ⟨fb, 1, none⟩ = some (.int .i64 0) := blk_cell r2 1; have q0 := blk_free r2 0; have q1 := blk_free r2 1; unfold rowOf at ⊢; clear hb hs r1 r2))
 obtain ⟨k1, k2, k3, k4⟩ := HEND.out _ rfl
 exact bodyPost_ret (res_top rfl rfl rfl k1 k2) rfl ⟨ao, cap, rfl, k3, k4⟩
theorem read3_any (s : ByteArray) (w : World) (hT : TabOk w) : Calls Tryz.prog 12 #[.int .i64 3, .string s] w (TopP (ansD s (topM 3)) w) := by
 obtain ⟨A, hA⟩ : ∃ A, A = ansD s (topM 3) := ⟨_, rfl⟩
 obtain ⟨W, hW, hbW, hsW, rn, rf⟩ := two_made w
 have HCALL : Hid (Calls Tryz.prog 31 #[.string s] W (TopP A W)) := lh (by rw [hA]; exact pParseType_any s W (hT.below hbW))
 rw [← hA]
 clear hA
 obtain ⟨nb, hnb⟩ : ∃ nb, nb = w.heap.size := ⟨_, rfl⟩
 obtain ⟨fb, hfb⟩ : ∃ fb, fb = w.heap.size + 1 := ⟨_, rfl⟩
 rw [← hnb] at rn
 rw [← hfb] at rf
 have HNB := lh hnb
 have HFB := lh hfb
 have HRN := lh rn
 have HRF := lh rf
 have HBW := lh hbW
 have HSW := lh hsW
 unfold zeroRow at hW
 have HWW := lh hW
 have n1 : ¬ (nb = fb) := by omega
 have n2 : ¬ (fb = nb) := by omega
 clear hW hbW hsW rn rf hT hnb hfb
 go_enter Tryz.func12, Tryz.ntmps12
 go_upto_region 1 with fail
 rw [← HWW.out, ← HFB.out, ← HNB.out]
 clear HWW
 go_wp2_with (first | (go_at_call 31; refine HCALL.out.mono ?_; rintro e w1 ⟨ao, cap, rfl, hb, hs⟩; have HEND := lh (fun (Z : World) hZ => two_end (x := A.2.1) (y := A.2.2) HNB.out HFB.out HBW.out HSW.out HRN.out HRF.out hb hs Z hZ); have r1 := blk_below HRN.out hb (lt_of_block HRN.out); have r2 := blk_below HRF.out hb (lt_of_block HRF.out); unfold zeroRow at r1; obtain ⟨⟨c0, c1, c2, c3, c4⟩, ⟨z0, z1, z2, z3, z4⟩⟩ := five_cells r1; have u0 : w1.cell? ⟨fb, 0, none⟩ = some (.int .i64 0) := blk_cell r2 0; have u1 : w1.cell? ⟨fb, 1, none⟩ = some (.int .i64 0) := blk_cell r2 1; have q0 := blk_free r2 0; have q1 := blk_free r2 1; unfold rowOf at ⊢; clear hb hs r1 r2))
 obtain ⟨k1, k2, k3, k4⟩ := HEND.out _ rfl
 exact bodyPost_ret (res_top rfl rfl rfl k1 k2) rfl ⟨ao, cap, rfl, k3, k4⟩
theorem readk_any (k : Nat) (hk : k < 4) (s : ByteArray) (w : World) (hT : TabOk w) : Calls Tryz.prog 12 #[.int .i64 k, .string s] w (TopP (ansD s (topM k)) w) := by
 match k, hk with
 | 0, _ => exact read0_any s w hT
 | 1, _ => exact read1_any s w hT
 | 2, _ => exact read2_any s w hT
 | 3, _ => exact read3_any s w hT
structure SideB (s t j : ByteArray) : Prop where
 size : j.size = s.size + 1 + t.size
 left : ∀ k, k < s.size → bt j k = bt s k
 mid : bt j s.size = 32
 right : ∀ k, bt j (s.size + 1 + k) = bt t k
 cutl : ∀ a b, b ≤ s.size → cut j a b = cut s a b
 cutr : ∀ a b, cut j (s.size + 1 + a) (s.size + 1 + b) = cut t a b
theorem side_ofB (s t : ByteArray) : SideB s t (s ++ ⟨#[32]⟩ ++ t) := by
 have hs := sizeL s
 have hl : (s ++ ⟨#[32]⟩ ++ t).data.toList = s.data.toList ++ (32 :: t.data.toList) := by simp [ByteArray.data_append]
 have hbt : ∀ k, bt (s ++ ⟨#[32]⟩ ++ t) k = ((s.data.toList ++ (32 :: t.data.toList)).getD k 0).toNat := by intro k; unfold bt; rw [hl]
 refine ⟨?_, ?_, ?_, ?_, ?_, ?_⟩
 · rw [← sizeL, hl, List.length_append, List.length_cons, sizeL, sizeL]; omega
 · intro k hk
   rw [hbt, List.getD_eq_getElem?_getD, List.getElem?_append_left (by omega), ← List.getD_eq_getElem?_getD]
   rfl
 · rw [hbt, List.getD_eq_getElem?_getD, List.getElem?_append_right (by omega), hs, Nat.sub_self]
   rfl
 · intro k
   rw [hbt, List.getD_eq_getElem?_getD, List.getElem?_append_right (by omega), hs, show s.size + 1 + k - s.size = k + 1 from by omega, List.getElem?_cons_succ, ← List.getD_eq_getElem?_getD]
   rfl
 · intro a b hb
   apply ByteArray.ext
   apply Array.ext'
   simp only [cut, ByteArray.data_extract, Array.toList_extract]
   rw [hl, List.extract_eq_take_drop, List.extract_eq_take_drop]
   by_cases ha : a ≤ b
   · rw [List.drop_append_of_le_length (by omega), List.take_append_of_le_length (by rw [List.length_drop]; omega)]
   · rw [show b - a = 0 from by omega]; rfl
 · intro a b
   apply ByteArray.ext
   apply Array.ext'
   simp only [cut, ByteArray.data_extract, Array.toList_extract]
   rw [hl, List.extract_eq_take_drop, List.extract_eq_take_drop, List.drop_append, show s.size + 1 + b - (s.size + 1 + a) = b - a from by omega]
   rw [List.drop_eq_nil_of_le (by omega), hs, show s.size + 1 + a - s.size = a + 1 from by omega, List.drop_succ_cons]
   rfl
/-! the left text -/
theorem hasD_leftB {s t j : ByteArray} (H : SideB s t j) {i a b : Nat} (hi : i < s.size) (hb : b ≠ 32) : hasD j i a b = hasD s i a b := by
 unfold hasD
 rw [decide_eq_decide]
 have h1 := H.left i hi
 have h2 := H.size
 by_cases h : i + 1 < s.size
 · have h3 := H.left (i + 1) h
   omega
 · have h3 := H.mid
   have h4 : i + 1 = s.size := by omega
   rw [← h4] at h3
   omega
theorem comD_leftB {s t j : ByteArray} (H : SideB s t j) (i o : Nat) : ∀ {k : Nat}, comD s i o = some k → comD j i o = some k := by
 have hsz := H.size
 induction i, o using comD.induct s with
 | case1 i o h h1 ih => intro k hk; rw [comD_open h h1] at hk; rw [comD_open (by omega) (by rw [hasD_leftB H h (by omega)]; exact h1)]; exact ih hk
 | case2 i h h1 h2 => intro k hk; rw [comD_close h h2] at hk; rw [comD_close (by omega) (by rw [hasD_leftB H h (by omega)]; exact h2)]; exact hk
 | case3 i o h h1 h2 h3 ih =>
  intro k hk
  rw [comD_close h h2, if_neg h3] at hk
  rw [comD_close (by omega) (by rw [hasD_leftB H h (by omega)]; exact h2), if_neg h3]
  exact ih hk
 | case4 i h h1 h2 =>
  intro k hk
  rw [comD_else h (by simpa using h1) (by simpa using h2)] at hk
  rw [comD_else (by omega) (by rw [hasD_leftB H h (by omega)]; simpa using h1) (by rw [hasD_leftB H h (by omega)]; simpa using h2)]
  exact hk
 | case5 i o h h1 h2 h3 ih =>
  intro k hk
  rw [comD_else h (by simpa using h1) (by simpa using h2), if_neg h3] at hk
  rw [comD_else (by omega) (by rw [hasD_leftB H h (by omega)]; simpa using h1) (by rw [hasD_leftB H h (by omega)]; simpa using h2), if_neg h3]
  exact ih hk
 | case6 i o h => intro k hk; rw [comD_end (by omega)] at hk; cases hk
theorem gapD_leftB {s t j : ByteArray} (H : SideB s t j) (i : Nat) : ∀ {k : Nat}, i ≤ s.size → gapD s i = (k, true) → (k < s.size → gapD j i = (k, true)) ∧ (k = s.size → gapD j i = gapD j (s.size + 1)) := by
 have hsz := H.size
 have hend : gapD j s.size = gapD j (s.size + 1) := gapD_blank (by omega) (by rw [H.mid]; rfl)
 induction i using gapD.induct s with
 | case1 i h h1 m hc hlt ih =>
  intro k hi hk
  have h3 := comD_lt _ _ hc
  rw [gapD_com h1 hc] at hk
  rw [gapD_com (by rw [hasD_leftB H h (by omega)]; exact h1) (comD_leftB H _ _ hc)]
  exact ih (by omega) hk
 | case2 i h h1 m hc hlt => exact absurd (comD_lt _ _ hc).1 hlt
 | case3 i h h1 hc => intro k hi hk; rw [gapD_bad h1 hc] at hk; cases hk
 | case4 i h h1 h2 ih =>
  intro k hi hk
  rw [gapD_blank h h2] at hk
  rw [gapD_blank (by omega) (by rw [H.left i h]; exact h2)]
  exact ih (by omega) hk
 | case5 i h h1 h2 =>
  intro k hi hk
  rw [gapD_stop (by simpa using h1) (fun _ => by simpa using h2)] at hk
  cases hk
  refine ⟨fun _ => gapD_stop (by rw [hasD_leftB H h (by omega)]; simpa using h1) (fun _ => by rw [H.left i h]; simpa using h2), fun e => by omega⟩
 | case6 i h =>
  intro k hi hk
  rw [gapD_end (by omega)] at hk
  cases hk
  refine ⟨fun e => by omega, fun e => by rw [e]; exact hend⟩
theorem whD_leftB {s t j : ByteArray} (H : SideB s t j) {p : Nat → Bool} (hp32 : p 32 = false) (i : Nat) : i ≤ s.size → whD j p i = whD s p i := by
 have hsz := H.size
 induction i using whD.induct s p with
 | case1 i h hp ih => intro hi; rw [whD_step h hp, whD_step (by omega) (by rw [H.left i h]; exact hp)]; exact ih (by omega)
 | case2 i h hp => intro hi; rw [whD_stop h (by simpa using hp), whD_stop (by omega) (by rw [H.left i h]; simpa using hp)]
 | case3 i h =>
  intro hi
  have e : i = s.size := by omega
  rw [whD_end (s := s) (by omega), whD_stop (s := j) (by omega) (by rw [e, H.mid]; exact hp32)]
theorem numD_leftB {s t j : ByteArray} (H : SideB s t j) (i : Nat) : i ≤ s.size → ∀ n, numD j i n = numD s i n := by
 have hsz := H.size
 induction i using whD.induct s dig with
 | case1 i h hp ih => intro hi n; rw [numD_step h hp, numD_step (by omega) (by rw [H.left i h]; exact hp), H.left i h]; exact ih (by omega) _
 | case2 i h hp => intro hi n; rw [numD_stop (s := s) (fun _ => by simpa using hp), numD_stop (s := j) (fun _ => by rw [H.left i h]; simpa using hp)]
 | case3 i h =>
  intro hi n
  have e : i = s.size := by omega
  rw [numD_stop (s := s) (fun h1 => absurd h1 h), numD_stop (s := j) (fun _ => by rw [e, H.mid]; rfl)]
theorem varD_leftB {s t j : ByteArray} (H : SideB s t j) (f i : Nat) : i ≤ s.size → varD j f i = varD s f i := by
 have hsz := H.size
 induction i using varD.induct s f with
 | case1 i h hp ih => intro hi; rw [varD_step h hp, varD_step (by omega) (by rw [H.left i h]; exact hp)]; exact ih (by omega)
 | case2 i h hp => intro hi; rw [varD_stop (s := s) (fun _ => by simpa using hp), varD_stop (s := j) (fun _ => by rw [H.left i h]; simpa using hp)]
 | case3 i h =>
  intro hi
  have e : i = s.size := by omega
  rw [varD_stop (s := s) (fun h1 => absurd h1 h), varD_stop (s := j) (fun _ => by rw [e, H.mid]; simp [small, dig])]
theorem escD_leftB {s t j : ByteArray} (H : SideB s t j) {i : Nat} {r : Nat × Nat} (h : escD s i = some r) : escD j i = some r := by
 have hsz := H.size
 have hi : i < s.size := by
  unfold escD at h
  split at h
  · assumption
  · cases h
 have h0 := H.left i hi
 unfold escD at h ⊢
 rw [if_pos hi] at h
 rw [if_pos (by omega), h0]
 split at h
 · rename_i h1; rw [if_pos h1]; exact h
 · rename_i h1
   rw [if_neg h1]
   split at h
   · rename_i h2; rw [if_pos h2]; exact h
   · rename_i h2
     rw [if_neg h2]
     split at h
     · rename_i h3; rw [if_pos h3]; exact h
     · rename_i h3
       rw [if_neg h3]
       split at h
       · rename_i h4
         rw [H.left (i + 1) (by omega), H.left (i + 2) (by omega), if_pos ⟨by omega, h4.2⟩]
         exact h
       · cases h
theorem textD_leftB {s t j : ByteArray} (H : SideB s t j) (i : Nat) (l : List UInt8) : ∀ {r : List UInt8 × Nat}, textD s i l = some r → textD j i l = some r := by
 have hsz := H.size
 induction i, l using textD.induct s with
 | case1 i l h h1 h2 => intro r hr; rw [textD_quote h h1] at hr; rw [textD_quote (by omega) (by rw [H.left i h]; exact h1)]; exact hr
 | case2 i l h h1 h2 => intro r hr; rw [textD_quote h h1, if_neg h2] at hr; cases hr
 | case3 i l h h1 h2 => intro r hr; rw [textD_low h h2] at hr; cases hr
 | case4 i l h h1 h2 h3 v j' he hlt ih =>
  intro r hr
  rw [textD_esc h h3 he] at hr
  rw [textD_esc (by omega) (by rw [H.left i h]; exact h3) (escD_leftB H he)]
  exact ih hr
 | case5 i l h h1 h2 h3 v j' he hlt => exact absurd (by have := escD_lt he; omega) hlt
 | case6 i l h h1 h2 h3 he => intro r hr; rw [textD_bad h h3 he] at hr; cases hr
 | case7 i l h h1 h2 h3 ih =>
  intro r hr
  rw [textD_byte h h1 (by omega) h3] at hr
  rw [textD_byte (by omega) (by rw [H.left i h]; exact h1) (by rw [H.left i h]; omega) (by rw [H.left i h]; exact h3), H.left i h]
  exact ih hr
 | case8 i l h => intro r hr; rw [textD_end (by omega)] at hr; cases hr
theorem hasQ_leftB {s t j : ByteArray} (H : SideB s t j) {i : Nat} (hi : i ≤ s.size) : tokD.hasQ j i = tokD.hasQ s i := by
 have hsz := H.size
 unfold tokD.hasQ
 rw [decide_eq_decide]
 by_cases h : i < s.size
 · have := H.left i h
   omega
 · have e : i = s.size := by omega
   have := H.mid
   rw [← e] at this
   omega
theorem pair_leftB {s t j : ByteArray} (H : SideB s t j) {i : Nat} (hi : i < s.size) : (i + 2 ≤ j.size ∧ (bt s i, bt j (i + 1)) ∈ pairL) ↔ (i + 2 ≤ s.size ∧ (bt s i, bt s (i + 1)) ∈ pairL) := by
 have hsz := H.size
 by_cases h : i + 1 < s.size
 · rw [H.left (i + 1) h]
   constructor <;> rintro ⟨h1, h2⟩ <;> exact ⟨by omega, h2⟩
 · have e : i + 1 = s.size := by omega
   rw [e, H.mid]
   constructor
   · rintro ⟨_, h2⟩
     simp [pairL] at h2
   · rintro ⟨h1, _⟩
     omega
theorem tokD_leftB {s t j : ByteArray} (H : SideB s t j) {i : Nat} (hi : i < s.size) {r : Tok × Nat} (h : tokD s i = some r) : tokD j i = some r := by
 have h0 := H.left i hi
 have hp := pair_leftB H hi
 unfold tokD at h ⊢
 rw [h0, numD_leftB H i (by omega), hasQ_leftB H (by omega), whD_leftB H (by decide) i (by omega)]
 have hwh := (whD_ge s inName i).2 (by omega)
 have hv : ∀ f, f ≤ s.size → varD j f f = varD s f f ∧ varD s f f ≤ s.size := fun f hf => ⟨varD_leftB H f f hf, (varD_ge f f).2 hf⟩
 split at h
 · rename_i h1; rw [if_pos h1]; exact h
 · rename_i h1
   rw [if_neg h1]
   split at h
   · rename_i h2
     rw [if_pos h2]
     cases htx : textD s (i + 1) [] with
     | none => rw [htx] at h; cases h
     | some q => rw [htx] at h; rw [textD_leftB H _ _ htx]; exact h
   · rename_i h2
     rw [if_neg h2]
     split at h
     · rename_i h3
       rw [if_pos h3]
       have hf : (if tokD.hasQ s (i + 1) = true then i + 2 else i + 1) ≤ s.size := by
        split
        · rename_i hq; simp [tokD.hasQ] at hq; omega
        · omega
       have h4 := hv _ hf
       generalize (if tokD.hasQ s (i + 1) = true then i + 2 else i + 1) = f at h h4 ⊢
       simp only at h ⊢
       rw [h4.1, H.cutl _ _ h4.2]
       exact h
     · rename_i h3
       rw [if_neg h3]
       split at h
       · rename_i h4
         rw [if_pos h4]
         simp only at h ⊢
         rw [H.cutl _ _ hwh]
         exact h
       · rename_i h4
         rw [if_neg h4]
         split at h
         · rename_i h5
           rw [if_pos (hp.2 h5), H.cutl _ _ h5.1]
           exact h
         · rename_i h5
           rw [if_neg (fun q => h5 (hp.1 q))]
           split at h
           · rename_i h6
             rw [if_pos h6, H.cutl _ _ (by omega)]
             exact h
           · cases h
theorem toksD_gapB {s : ByteArray} {i k : Nat} {l : List Tok} (hi : i ≤ s.size) (hk : k ≤ s.size) (h : gapD s i = gapD s k) : toksD s i l = toksD s k l := by
 cases hg : gapD s k with
 | mk m ok =>
  cases ok with
  | false => rw [toksD_bad hg, toksD_bad (h.trans hg)]
  | true =>
   by_cases hm : m = s.size
   · subst hm; rw [toksD_end hg, toksD_end (h.trans hg)]
   · cases ht : tokD s m with
     | none => rw [toksD_none hg hm ht, toksD_none (h.trans hg) hm ht]
     | some r => rw [toksD_some hk hg hm ht, toksD_some hi (h.trans hg) hm ht]
theorem toksD_leftB {s t j : ByteArray} (H : SideB s t j) (i : Nat) (l : List Tok) : i ≤ s.size → ∀ {a : List Tok}, toksD s i l = (a, (0, 0)) → ∃ a', a = a' ++ [(0, s.size, ByteArray.empty, 0)] ∧ toksD j i l = toksD j (s.size + 1) a' := by
 have hsz := H.size
 obtain ⟨m, hm⟩ : ∃ m, m = s.size - i := ⟨_, rfl⟩
 induction m using Nat.strongRecOn generalizing i l with
 | ind m IH =>
  intro hi a ha
  have hge := gapD_ge (s := s) i hi
  cases hg : gapD s i with
  | mk k ok =>
   rw [hg] at hge
   simp only at hge
   cases ok with
   | false => rw [toksD_bad hg] at ha; simp at ha
   | true =>
    have hgl := gapD_leftB H i hi hg
    by_cases hk : k = s.size
    · subst hk
      rw [toksD_end hg] at ha
      cases ha
      refine ⟨l, rfl, ?_⟩
      exact toksD_gapB (by omega) (by omega) (hgl.2 rfl)
    · cases ht : tokD s k with
      | none => rw [toksD_none hg hk ht] at ha; simp at ha
      | some r =>
       obtain ⟨tk, z⟩ := r
       have hz := tokD_lt (by omega) ht
       rw [toksD_some hi hg hk ht] at ha
       rw [toksD_some (by omega) (hgl.1 (by omega)) (by omega) (tokD_leftB H (by omega) ht)]
       exact IH (s.size - z) (by omega) z _ rfl hz.2 ha
/-! the right text -/
theorem hasD_rightB {s t j : ByteArray} (H : SideB s t j) (i a b : Nat) : hasD j (s.size + 1 + i) a b = hasD t i a b := by
 unfold hasD
 rw [H.right i, show s.size + 1 + i + 1 = s.size + 1 + (i + 1) from by omega, H.right (i + 1), decide_eq_decide]
 have h2 := H.size
 constructor <;> rintro ⟨h1, h2⟩ <;> exact ⟨by omega, h2⟩
theorem comD_rightB {s t j : ByteArray} (H : SideB s t j) (i o : Nat) : comD j (s.size + 1 + i) o = (comD t i o).map (s.size + 1 + ·) := by
 have hsz := H.size
 induction i, o using comD.induct t with
 | case1 i o h h1 ih => rw [comD_open h h1, ← ih, comD_open (by omega) (by rw [hasD_rightB H]; exact h1)]; rfl
 | case2 i h h1 h2 => rw [comD_close h h2, comD_close (by omega) (by rw [hasD_rightB H]; exact h2)]; simp; omega
 | case3 i o h h1 h2 h3 ih => rw [comD_close h h2, if_neg h3, ← ih, comD_close (by omega) (by rw [hasD_rightB H]; exact h2), if_neg h3]; rfl
 | case4 i h h1 h2 =>
  rw [comD_else h (by simpa using h1) (by simpa using h2), comD_else (by omega) (by rw [hasD_rightB H]; simpa using h1) (by rw [hasD_rightB H]; simpa using h2)]
  simp; omega
 | case5 i o h h1 h2 h3 ih =>
  rw [comD_else h (by simpa using h1) (by simpa using h2), if_neg h3, ← ih, comD_else (by omega) (by rw [hasD_rightB H]; simpa using h1) (by rw [hasD_rightB H]; simpa using h2), if_neg h3]; rfl
 | case6 i o h => rw [comD_end (by omega), comD_end (by omega)]; rfl
theorem gapD_rightB {s t j : ByteArray} (H : SideB s t j) (i : Nat) : gapD j (s.size + 1 + i) = (s.size + 1 + (gapD t i).1, (gapD t i).2) := by
 have hsz := H.size
 induction i using gapD.induct t with
 | case1 i h h1 m hc hlt ih =>
  have h3 := comD_lt _ _ hc
  rw [gapD_com h1 hc, ← ih, gapD_com (by rw [hasD_rightB H]; exact h1) (by rw [comD_rightB H, hc]; rfl)]
 | case2 i h h1 m hc hlt => exact absurd (comD_lt _ _ hc).1 hlt
 | case3 i h h1 hc => rw [gapD_bad h1 hc, gapD_bad (by rw [hasD_rightB H]; exact h1) (by rw [comD_rightB H, hc]; rfl)]
 | case4 i h h1 h2 ih => rw [gapD_blank h h2, ← ih, gapD_blank (by omega) (by rw [H.right]; exact h2)]; rfl
 | case5 i h h1 h2 => rw [gapD_stop (s := t) (by simpa using h1) (fun _ => by simpa using h2), gapD_stop (s := j) (by rw [hasD_rightB H]; simpa using h1) (fun _ => by rw [H.right]; simpa using h2)]
 | case6 i h => rw [gapD_end (by omega), gapD_end (by omega)]
theorem whD_rightB {s t j : ByteArray} (H : SideB s t j) (p : Nat → Bool) (i : Nat) : whD j p (s.size + 1 + i) = s.size + 1 + whD t p i := by
 have hsz := H.size
 induction i using whD.induct t p with
 | case1 i h hp ih => rw [whD_step h hp, ← ih, whD_step (by omega) (by rw [H.right]; exact hp)]; rfl
 | case2 i h hp => rw [whD_stop h (by simpa using hp), whD_stop (by omega) (by rw [H.right]; simpa using hp)]
 | case3 i h => rw [whD_end (by omega), whD_end (by omega)]
theorem numD_rightB {s t j : ByteArray} (H : SideB s t j) (i : Nat) : ∀ n, numD j (s.size + 1 + i) n = ((numD t i n).1, s.size + 1 + (numD t i n).2) := by
 have hsz := H.size
 induction i using whD.induct t dig with
 | case1 i h hp ih => intro n; rw [numD_step h hp, ← ih, numD_step (by omega) (by rw [H.right]; exact hp), H.right]; rfl
 | case2 i h hp => intro n; rw [numD_stop (s := t) (fun _ => by simpa using hp), numD_stop (s := j) (fun _ => by rw [H.right]; simpa using hp)]
 | case3 i h => intro n; rw [numD_stop (s := t) (fun h1 => absurd h1 h), numD_stop (s := j) (fun h1 => by omega)]
theorem varD_rightB {s t j : ByteArray} (H : SideB s t j) (f i : Nat) : varD j (s.size + 1 + f) (s.size + 1 + i) = s.size + 1 + varD t f i := by
 have hsz := H.size
 induction i using varD.induct t f with
 | case1 i h hp ih =>
  rw [varD_step h hp, ← ih, varD_step (by omega) (by
   rw [H.right]
   have e : decide (s.size + 1 + f < s.size + 1 + i) = decide (f < i) := by rw [decide_eq_decide]; omega
   rw [e]; exact hp)]
  rfl
 | case2 i h hp =>
  rw [varD_stop (s := t) (fun _ => by simpa using hp), varD_stop (s := j) (fun _ => by
   rw [H.right]
   have e : decide (s.size + 1 + f < s.size + 1 + i) = decide (f < i) := by rw [decide_eq_decide]; omega
   rw [e]; simpa using hp)]
 | case3 i h => rw [varD_stop (s := t) (fun h1 => absurd h1 h), varD_stop (s := j) (fun h1 => by omega)]
theorem escD_rightB {s t j : ByteArray} (H : SideB s t j) (i : Nat) : escD j (s.size + 1 + i) = (escD t i).map fun r => (r.1, s.size + 1 + r.2) := by
 have hsz := H.size
 have e1 : (s.size + 1 + i < j.size) ↔ (i < t.size) := by omega
 have e2 : (s.size + 1 + i + 2 < j.size) ↔ (i + 2 < t.size) := by omega
 unfold escD
 rw [show s.size + 1 + i + 1 = s.size + 1 + (i + 1) from by omega, show s.size + 1 + i + 2 = s.size + 1 + (i + 2) from by omega, H.right, H.right, H.right, show s.size + 1 + (i + 2) = s.size + 1 + i + 2 from by omega]
 simp only [e1, e2]
 repeat' split
 all_goals first | rfl | (simp; omega)
theorem textD_rightB {s t j : ByteArray} (H : SideB s t j) (i : Nat) (l : List UInt8) : textD j (s.size + 1 + i) l = (textD t i l).map fun r => (r.1, s.size + 1 + r.2) := by
 have hsz := H.size
 induction i, l using textD.induct t with
 | case1 i l h h1 h2 => rw [textD_quote h h1, textD_quote (by omega) (by rw [H.right]; exact h1), if_pos h2, if_pos h2]; rfl
 | case2 i l h h1 h2 => rw [textD_quote h h1, textD_quote (by omega) (by rw [H.right]; exact h1), if_neg h2, if_neg h2]; rfl
 | case3 i l h h1 h2 => rw [textD_low h h2, textD_low (by omega) (by rw [H.right]; exact h2)]; rfl
 | case4 i l h h1 h2 h3 v j' he hlt ih =>
  rw [textD_esc h h3 he, ← ih, textD_esc (by omega) (by rw [H.right]; exact h3) (by rw [show s.size + 1 + i + 1 = s.size + 1 + (i + 1) from by omega, escD_rightB H, he]; rfl)]
 | case5 i l h h1 h2 h3 v j' he hlt => exact absurd (by have := escD_lt he; omega) hlt
 | case6 i l h h1 h2 h3 he =>
  rw [textD_bad h h3 he, textD_bad (by omega) (by rw [H.right]; exact h3) (by rw [show s.size + 1 + i + 1 = s.size + 1 + (i + 1) from by omega, escD_rightB H, he]; rfl)]
  rfl
 | case7 i l h h1 h2 h3 ih =>
  rw [textD_byte h h1 (by omega) h3, ← ih, textD_byte (by omega) (by rw [H.right]; exact h1) (by rw [H.right]; omega) (by rw [H.right]; exact h3), H.right]
  rfl
 | case8 i l h => rw [textD_end (by omega), textD_end (by omega)]; rfl
def mvB (d : Nat) (x : Tok) : Tok := (x.1, d + x.2.1, x.2.2.1, x.2.2.2)
theorem tokD_rightB {s t j : ByteArray} (H : SideB s t j) (i : Nat) : tokD j (s.size + 1 + i) = (tokD t i).map fun r => (mvB (s.size + 1) r.1, s.size + 1 + r.2) := by
 have hsz := H.size
 have eq : tokD.hasQ j (s.size + 1 + (i + 1)) = tokD.hasQ t (i + 1) := by unfold tokD.hasQ; rw [H.right, decide_eq_decide]; constructor <;> rintro ⟨h1, h2⟩ <;> exact ⟨by omega, h2⟩
 have ep : (s.size + 1 + i + 2 ≤ j.size ∧ (bt t i, bt t (i + 1)) ∈ pairL) ↔ (i + 2 ≤ t.size ∧ (bt t i, bt t (i + 1)) ∈ pairL) := by constructor <;> rintro ⟨h1, h2⟩ <;> exact ⟨by omega, h2⟩
 unfold tokD
 rw [show s.size + 1 + i + 1 = s.size + 1 + (i + 1) from by omega, H.right, H.right, numD_rightB H, textD_rightB H, eq, whD_rightB H, show s.size + 1 + i + 2 = s.size + 1 + (i + 2) from by omega, H.cutr, H.cutr, show s.size + 1 + (i + 2) = s.size + 1 + i + 2 from by omega]
 simp only [ep]
 split
 · split <;> rfl
 · split
   · cases textD t (i + 1) [] <;> rfl
   · split
     · have ef : (if tokD.hasQ t (i + 1) = true then s.size + 1 + i + 2 else s.size + 1 + (i + 1)) = s.size + 1 + (if tokD.hasQ t (i + 1) = true then i + 2 else i + 1) := by split <;> omega
       rw [ef]
       generalize (if tokD.hasQ t (i + 1) = true then i + 2 else i + 1) = f
       rw [varD_rightB H, H.cutr]
       have e1 : (s.size + 1 + f < s.size + 1 + varD t f f ∧ s.size + 1 + varD t f f - (s.size + 1 + f) ≤ 20) ↔ (f < varD t f f ∧ varD t f f - f ≤ 20) := by omega
       simp only [e1]
       split <;> rfl
     · split
       · have e1 : (s.size + 1 + whD t inName i - (s.size + 1 + i) ≤ 20) ↔ (whD t inName i - i ≤ 20) := by omega
         rw [H.cutr]
         simp only [e1]
         split <;> rfl
       · split
         · rfl
         · split <;> rfl
theorem toksD_rightB {s t j : ByteArray} (H : SideB s t j) (i : Nat) (l l0 : List Tok) : i ≤ t.size → ∀ {b : List Tok}, toksD t i l0 = (b, (0, 0)) → toksD j (s.size + 1 + i) (l ++ l0.map (mvB (s.size + 1))) = (l ++ b.map (mvB (s.size + 1)), (0, 0)) := by
 have hsz := H.size
 obtain ⟨m, hm⟩ : ∃ m, m = t.size - i := ⟨_, rfl⟩
 induction m using Nat.strongRecOn generalizing i l0 with
 | ind m IH =>
  intro hi b hb
  have hge := gapD_ge (s := t) i hi
  have hgr := gapD_rightB H i
  cases hg : gapD t i with
  | mk k ok =>
   rw [hg] at hge hgr
   simp only at hge hgr
   cases ok with
   | false => rw [toksD_bad hg] at hb; simp at hb
   | true =>
    by_cases hk : k = t.size
    · subst hk
      rw [toksD_end hg] at hb
      cases hb
      rw [← hsz] at hgr
      rw [toksD_end hgr, hsz]
      simp [mvB]
    · cases ht : tokD t k with
      | none => rw [toksD_none hg hk ht] at hb; simp at hb
      | some r =>
       obtain ⟨tk, z⟩ := r
       have hz := tokD_lt (by omega) ht
       have htr := tokD_rightB H k
       rw [ht] at htr
       rw [toksD_some hi hg hk ht] at hb
       rw [toksD_some (by omega) hgr (by omega) htr]
       have h := IH (t.size - z) (by omega) z _ rfl hz.2 hb
       simpa using h
theorem badD_allB {s : ByteArray} (i : Nat) : badD s i = none → ∀ k, i ≤ k → k < s.size → okB (bt s k) = true := by
 induction i using badD.induct s with
 | case1 i h hp ih =>
  intro hn k h1 h2
  rw [badD, dif_pos h, if_pos hp] at hn
  by_cases e : k = i
  · rw [e]; exact hp
  · exact ih hn k (by omega) h2
 | case2 i h hp => intro hn; rw [badD, dif_pos h, if_neg hp] at hn; cases hn
 | case3 i h => intro hn k h1 h2; omega
theorem badD_ofB {s : ByteArray} (i : Nat) : (∀ k, i ≤ k → k < s.size → okB (bt s k) = true) → badD s i = none := by
 induction i using badD.induct s with
 | case1 i h hp ih => intro hk; rw [badD, dif_pos h, if_pos hp]; exact ih fun k h1 h2 => hk k (by omega) h2
 | case2 i h hp => intro hk; exact absurd (hk i (by omega) h) hp
 | case3 i h => intro hk; rw [badD, dif_neg h]
theorem lex_sideB {s t j : ByteArray} (H : SideB s t j) (hj : j.size ≤ 4000) {a b : List Tok} (ha : lexD s = (a, (0, 0))) (hb : lexD t = (b, (0, 0))) :
 ∃ a', a = a' ++ [(0, s.size, ByteArray.empty, 0)] ∧ lexD j = (a' ++ b.map (mvB (s.size + 1)), (0, 0)) := by
 have hsz := H.size
 have hgo : ∀ {x : ByteArray} {r : List Tok}, lexD x = (r, (0, 0)) → badD x 0 = none ∧ toksD x 0 [] = (r, (0, 0)) := by
  intro x r hx
  unfold lexD at hx
  split at hx
  · simp at hx
  · cases h : badD x 0 with
    | none => rw [h] at hx; exact ⟨rfl, hx⟩
    | some i => rw [h] at hx; simp at hx
 obtain ⟨a1, a2⟩ := hgo ha
 obtain ⟨b1, b2⟩ := hgo hb
 obtain ⟨a', e1, e2⟩ := toksD_leftB H 0 [] (by omega) a2
 have e3 := toksD_rightB H 0 a' [] (by omega) b2
 refine ⟨a', e1, ?_⟩
 unfold lexD
 rw [if_neg (by omega), badD_ofB 0 (by
  intro k _ hk
  by_cases h : k < s.size
  · rw [H.left k h]; exact badD_allB 0 a1 k (by omega) h
  · by_cases h2 : k = s.size
    · rw [h2, H.mid]; rfl
    · obtain ⟨m, hm⟩ : ∃ m, k = s.size + 1 + m := ⟨k - (s.size + 1), by omega⟩
      rw [hm, H.right m]; exact badD_allB 0 b1 m (by omega) (by omega))]
 simp only
 rw [e2]
 simpa using e3
def esc (b : UInt8) : List UInt8 :=
 if b.toNat = 10 then [92, 110] else if b.toNat = 9 then [92, 116] else if b.toNat = 34 ∨ b.toNat = 92 then [92, b]
 else if b.toNat < 32 ∨ 126 < b.toNat then [92, UInt8.ofNat (48 + b.toNat / 100), UInt8.ofNat (48 + b.toNat / 10 % 10), UInt8.ofNat (48 + b.toNat % 10)] else [b]
def quoteL (l : List UInt8) : List UInt8 := 34 :: (l.flatMap esc ++ [34])
def quoteD (s : ByteArray) : ByteArray := ⟨(quoteL s.data.toList).toArray⟩
theorem btL (l : List UInt8) (k : Nat) : bt ⟨l.toArray⟩ k = (l.getD k 0).toNat := rfl
theorem bt_app (p x : List UInt8) (k : Nat) : bt ⟨(p ++ x).toArray⟩ (p.length + k) = bt ⟨x.toArray⟩ k := by
 rw [btL, btL, List.getD_eq_getElem?_getD, List.getD_eq_getElem?_getD, List.getElem?_append_right (by omega)]
 simp
theorem bt_app0 (p x : List UInt8) : bt ⟨(p ++ x).toArray⟩ p.length = bt ⟨x.toArray⟩ 0 := bt_app p x 0
theorem sizeA (l : List UInt8) : (⟨l.toArray⟩ : ByteArray).size = l.length := by simp [ByteArray.size]
theorem esc_cases (b : UInt8) : (b.toNat = 10 ∧ esc b = [92, 110]) ∨ (b.toNat = 9 ∧ esc b = [92, 116]) ∨ ((b.toNat = 34 ∨ b.toNat = 92) ∧ esc b = [92, b]) ∨
 ((b.toNat < 32 ∨ 126 < b.toNat) ∧ esc b = [92, UInt8.ofNat (48 + b.toNat / 100), UInt8.ofNat (48 + b.toNat / 10 % 10), UInt8.ofNat (48 + b.toNat % 10)] ∧ b.toNat ≠ 10 ∧ b.toNat ≠ 9) ∨
 (32 ≤ b.toNat ∧ b.toNat ≤ 126 ∧ b.toNat ≠ 34 ∧ b.toNat ≠ 92 ∧ esc b = [b]) := by
 unfold esc
 repeat' split
 all_goals simp_all
 all_goals omega
theorem esc_ok (b : UInt8) : ∀ x ∈ esc b, okB x.toNat = true := by
 have hb := UInt8.toNat_lt b
 intro x hx
 rcases esc_cases b with ⟨h, e⟩ | ⟨h, e⟩ | ⟨h, e⟩ | ⟨h, e, h2⟩ | ⟨h, h2, h3, h4, e⟩ <;> rw [e] at hx <;> simp at hx
 · rcases hx with rfl | rfl <;> decide
 · rcases hx with rfl | rfl <;> decide
 · rcases hx with rfl | rfl
   · decide
   · rcases h with h | h <;> rw [h] <;> decide
 · rcases hx with rfl | rfl | rfl | rfl
   · decide
   all_goals (simp [okB]; omega)
 · subst hx; simp [okB]; omega
theorem badD_none {s : ByteArray} (i : Nat) : (∀ k, i ≤ k → k < s.size → okB (bt s k) = true) → badD s i = none := by
 induction i using badD.induct s with
 | case1 i h hp ih => intro hk; rw [badD, dif_pos h, if_pos hp]; exact ih fun k h1 h2 => hk k (by omega) h2
 | case2 i h hp => intro hk; exact absurd (hk i (by omega) h) hp
 | case3 i h => intro hk; rw [badD, dif_neg h]
theorem quote_ok (l : List UInt8) : ∀ x ∈ quoteL l, okB x.toNat = true := by
 intro x hx
 simp only [quoteL, List.mem_cons, List.mem_append, List.mem_flatMap, List.not_mem_nil, or_false] at hx
 rcases hx with rfl | ⟨b, _, hb⟩ | rfl
 · decide
 · exact esc_ok b x hb
 · decide
theorem dig_of {n : Nat} (h : n < 10) : dig (48 + n) = true := by simp [dig]; omega
theorem textD_read (r : List UInt8) : ∀ (p l : List UInt8), textD ⟨(p ++ (r.flatMap esc ++ [34])).toArray⟩ p.length l = if (l ++ r).length ≤ 200 then some (l ++ r, (p ++ (r.flatMap esc ++ [34])).length) else none := by
 induction r with
 | nil =>
  intro p l
  have h1 : p.length < (⟨(p ++ ([].flatMap esc ++ [34])).toArray⟩ : ByteArray).size := by rw [sizeA]; simp
  rw [textD_quote h1 (by rw [bt_app0]; rfl)]
  simp
 | cons b r ih =>
  intro p l
  have hb := UInt8.toNat_lt b
  obtain ⟨q, hq⟩ : ∃ q : List UInt8, q = p ++ ((b :: r).flatMap esc ++ [34]) := ⟨_, rfl⟩
  obtain ⟨z, hz⟩ : ∃ z : List UInt8, z = r.flatMap esc ++ [34] := ⟨_, rfl⟩
  have hq2 : q = p ++ (esc b ++ z) := by rw [hq, hz]; simp
  have hz1 : 0 < z.length := by rw [hz]; simp
  have hsz : (⟨q.toArray⟩ : ByteArray).size = p.length + (esc b).length + z.length := by rw [sizeA, hq2]; simp; omega
  have hbt : ∀ k, bt ⟨q.toArray⟩ (p.length + k) = ((esc b ++ z).getD k 0).toNat := by intro k; rw [hq2, bt_app, btL]
  have hgo : textD ⟨q.toArray⟩ (p.length + (esc b).length) (l ++ [b]) = if (l ++ b :: r).length ≤ 200 then some (l ++ b :: r, q.length) else none := by
   have h := ih (p ++ esc b) (l ++ [b])
   have e : p ++ esc b ++ (r.flatMap esc ++ [34]) = q := by rw [hq]; simp
   rw [e] at h
   simpa using h
  rw [← hq]
  rw [← hgo]
  have h0 := hbt 0
  have h1 := hbt 1
  have h2 := hbt 2
  have h3 := hbt 3
  have e1 : ∀ n : Nat, p.length + 1 + n = p.length + (1 + n) := fun n => by omega
  clear hq hq2 hgo ih hbt
  rcases esc_cases b with ⟨h, e⟩ | ⟨h, e⟩ | ⟨h, e⟩ | ⟨h, e, h5, h6⟩ | ⟨h, h5, h6, h7, e⟩ <;> rw [e] at h0 h1 h2 h3 hsz ⊢ <;> simp at h0 h1 h2 h3 hsz ⊢
  · have hb2 : b = UInt8.ofNat 10 := by rw [← h]; simp
    rw [hb2]
    refine textD_esc (by omega) h0 ?_
    unfold escD
    rw [if_pos (by omega), if_pos h1]
  · have hb2 : b = UInt8.ofNat 9 := by rw [← h]; simp
    rw [hb2]
    refine textD_esc (by omega) h0 ?_
    unfold escD
    rw [if_pos (by omega), if_neg (by omega), if_pos h1]
  · have hb2 : b = UInt8.ofNat b.toNat := by simp
    rw [hb2]
    refine textD_esc (by omega) h0 ?_
    unfold escD
    rw [if_pos (by omega), if_neg (by omega), if_neg (by omega), if_pos (by omega), h1]
  · have hb2 : b = UInt8.ofNat b.toNat := by simp
    rw [hb2]
    refine textD_esc (by omega) h0 ?_
    have g1 : bt ⟨q.toArray⟩ (p.length + 1) = 48 + b.toNat / 100 := by rw [h1]; omega
    have g2 : bt ⟨q.toArray⟩ (p.length + 1 + 1) = 48 + b.toNat / 10 % 10 := by rw [h2]; omega
    have g3 : bt ⟨q.toArray⟩ (p.length + 1 + 2) = 48 + b.toNat % 10 := by rw [h3]; omega
    unfold escD
    rw [g1, g2, g3]
    rw [if_pos (by omega), if_neg (by omega), if_neg (by omega), if_neg (by omega), if_pos ⟨by omega, dig_of (by omega), dig_of (by omega), dig_of (by omega)⟩, if_pos (by omega)]
    congr 2
    omega
  · have hb2 : UInt8.ofNat b.toNat = b := by simp
    rw [textD_byte (by omega) (by omega) (by omega) (by omega), h0, hb2]
theorem quote_size (s : ByteArray) : 2 ≤ (quoteD s).size := by rw [quoteD, sizeA]; simp [quoteL]
theorem lex_quote (s : ByteArray) : lexD (quoteD s) = if 4000 < (quoteD s).size then ([], (1, 0)) else if s.size ≤ 200 then ([(2, 0, s, 0), (0, (quoteD s).size, ByteArray.empty, 0)], (0, 0)) else ([], (3, 0)) := by
 unfold lexD
 split
 · rfl
 · rw [badD_none 0 (by
    intro k _ hk
    rw [quoteD] at hk ⊢
    rw [sizeA] at hk
    rw [btL, List.getD_eq_getElem?_getD, List.getElem?_eq_getElem hk]
    exact quote_ok _ _ (List.getElem_mem hk))]
   simp only
   have hq := quote_size s
   have h0 : bt (quoteD s) 0 = 34 := rfl
   have hg : gapD (quoteD s) 0 = (0, true) := gapD_stop (by simp [hasD, h0]) (fun _ => by rw [h0]; rfl)
   have ht := textD_read s.data.toList [34] []
   have hl : s.data.toList.length = s.size := sizeL s
   have e : ([34] ++ (s.data.toList.flatMap esc ++ [34])) = quoteL s.data.toList := rfl
   rw [e] at ht
   have ht2 : textD (quoteD s) 1 [] = if s.size ≤ 200 then some (s.data.toList, (quoteD s).size) else none := by
    rw [← hl, quoteD, sizeA]; simpa using ht
   have hs : (⟨s.data.toList.toArray⟩ : ByteArray) = s := rfl
   by_cases h : s.size ≤ 200
   · rw [if_pos h] at ht2 ⊢
     have htk : tokD (quoteD s) 0 = some ((2, 0, s, 0), (quoteD s).size) := by
      unfold tokD
      rw [if_neg (by simp [dig, h0]), if_pos h0, ht2]
     rw [toksD_some (by omega) hg (by omega) htk, toksD_end (gapD_end (by omega))]
     rfl
   · rw [if_neg h] at ht2 ⊢
     have htk : tokD (quoteD s) 0 = none := by
      unfold tokD
      rw [if_neg (by simp [dig, h0]), if_pos h0, ht2]
     rw [toksD_none hg (by omega) htk]
end Go.Proofs.YthehjeeiodbkjaaGreatDoor
