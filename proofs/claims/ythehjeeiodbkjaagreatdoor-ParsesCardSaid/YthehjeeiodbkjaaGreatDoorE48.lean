/-
  Proved: the contracts of the law's read, told, one and Parses. Conditions: the tables as they stand in memory.
-/
import Derived.Test.YthehjeeiodbkjaaGreatDoorE47
import Derived.Test.YthehjeeiodbkjaaGreatDoorE18
set_option linter.unusedSimpArgs false
set_option linter.unusedVariables false
set_option maxRecDepth 100000
set_option maxHeartbeats 16000000
namespace Go.Proofs.YthehjeeiodbkjaaGreatDoor
open Go.RowKit
theorem ft_zero : Fit zeroT := fit0
theorem ft_top (P : Src) (hN : P.toks.length ≤ 100000) : ∀ q, Ft (topM q P)
 | 0 => fun i => Po.bind (ft_decs P _ (ft_rec P hN 60).2 hN 0 i) fun l j hl => Po.ret (fitr hl)
 | 1 => (ft_rec P hN 60).1 .exp
 | 2 => (ft_rec P hN 60).1 .pat
 | q + 3 => (ft_rec P hN 60).1 .typ
/-- what is told fits -/
theorem ansD_fit (s : ByteArray) (q : Nat) : Fit (ansD s (topM q)).1 := by
 unfold ansD
 by_cases hl : (lexD s).2.1 = 1 ∨ (lexD s).2.1 = 2
 · rw [if_pos hl]; exact ft_zero
 · rw [if_neg hl]
   have hok : SrcOk (srcD s) := by
    rcases lexD_cases s with ⟨h, -⟩ | ⟨-, h⟩
    · exact absurd h hl
    · exact h
   cases hx : wholeD (srcD s) (topM q (srcD s)) with
   | bad k a => exact ft_zero
   | ok n j =>
    unfold wholeD at hx
    cases hy : topM q (srcD s) 0 with
    | bad k a => rw [hy] at hx; cases hx
    | ok m i =>
     rw [hy] at hx
     dsimp only at hx
     split at hx
     · cases hx; exact ft_top _ hok.len q 0 _ _ hy
     · rw [failD_at] at hx; cases hx
theorem read0_any (s : ByteArray) (w : World) (hT : TabOk w) : Calls Tryz.prog 12 #[.int .i64 0, .string s] w (TopP (ansD s (topM 0)) w) := by
 obtain ⟨A, hA⟩ : ∃ A, A = ansD s (topM 0) := ⟨_, rfl⟩
 obtain ⟨W, hW, hbW, hsW, rn, rf⟩ := two_made w
 have HCALL : Hid (Calls Tryz.prog 11 #[.string s] W (TopP A W)) := lh (by rw [hA]; exact pParse_any s W (hT.below hbW))
 rw [← hA]
 clear hA
 obtain ⟨nb, hnb⟩ : ∃ nb, nb = w.heap.size := ⟨_, rfl⟩
 obtain ⟨fb, hfb⟩ : ∃ fb, fb = w.heap.size + 1 := ⟨_, rfl⟩
 rw [← hnb] at rn
 rw [← hfb] at rf
 have HNB := lh hnb
 have HFB := lh hfb
 have HRN := lh rn
 have HRF := lh rf
 have HBW := lh hbW
 have HSW := lh hsW
 unfold zeroRow at hW
 have HWW := lh hW
 have n1 : ¬ (nb = fb) := by omega
 have n2 : ¬ (fb = nb) := by omega
 clear hW hbW hsW rn rf hT hnb hfb
 go_enter Tryz.func12, Tryz.ntmps12
 go_upto_region 1 with fail
 rw [← HWW.out, ← HFB.out, ← HNB.out]
 clear HWW
 go_wp2_with (first | (go_at_call 11; refine HCALL.out.mono ?_; rintro e w1 ⟨ao, cap, rfl, hb, hs⟩; have HEND := lh (fun (Z : World) hZ => two_end (x := A.2.1) (y := A.2.2) HNB.out HFB.out HBW.out HSW.out HRN.out HRF.out hb hs Z hZ); have r1 := blk_below HRN.out hb (lt_of_block HRN.out); have r2 := blk_below HRF.out hb (lt_of_block HRF.out); unfold zeroRow at r1; obtain ⟨⟨c0, c1, c2, c3, c4⟩, ⟨z0, z1, z2, z3, z4⟩⟩ := five_cells r1; have u0 : w1.cell? ⟨fb, 0, none⟩ = some (.int .i64 0) := blk_cell r2 0; have u1 : w1.cell? ⟨fb, 1, none⟩ = some (.int .i64 0) := blk_cell r2 1; have q0 := blk_free r2 0; have q1 := blk_free r2 1; unfold rowOf at ⊢; clear hb hs r1 r2))
 obtain ⟨k1, k2, k3, k4⟩ := HEND.out _ rfl
 exact bodyPost_ret (res_top rfl rfl rfl k1 k2) rfl ⟨ao, cap, rfl, k3, k4⟩
theorem read1_any (s : ByteArray) (w : World) (hT : TabOk w) : Calls Tryz.prog 12 #[.int .i64 1, .string s] w (TopP (ansD s (topM 1)) w) := by
 obtain ⟨A, hA⟩ : ∃ A, A = ansD s (topM 1) := ⟨_, rfl⟩
 obtain ⟨W, hW, hbW, hsW, rn, rf⟩ := two_made w
 have HCALL : Hid (Calls Tryz.prog 7 #[.string s] W (TopP A W)) := lh (by rw [hA]; exact pParseExp_any s W (hT.below hbW))
 rw [← hA]
 clear hA
 obtain ⟨nb, hnb⟩ : ∃ nb, nb = w.heap.size := ⟨_, rfl⟩
 obtain ⟨fb, hfb⟩ : ∃ fb, fb = w.heap.size + 1 := ⟨_, rfl⟩
 rw [← hnb] at rn
 rw [← hfb] at rf
 have HNB := lh hnb
 have HFB := lh hfb
 have HRN := lh rn
 have HRF := lh rf
 have HBW := lh hbW
 have HSW := lh hsW
 unfold zeroRow at hW
 have HWW := lh hW
 have n1 : ¬ (nb = fb) := by omega
 have n2 : ¬ (fb = nb) := by omega
 clear hW hbW hsW rn rf hT hnb hfb
 go_enter Tryz.func12, Tryz.ntmps12
 go_upto_region 1 with fail
 rw [← HWW.out, ← HFB.out, ← HNB.out]
 clear HWW
 go_wp2_with (first | (go_at_call 7; refine HCALL.out.mono ?_; rintro e w1 ⟨ao, cap, rfl, hb, hs⟩; have HEND := lh (fun (Z : World) hZ => two_end (x := A.2.1) (y := A.2.2) HNB.out HFB.out HBW.out HSW.out HRN.out HRF.out hb hs Z hZ); have r1 := blk_below HRN.out hb (lt_of_block HRN.out); have r2 := blk_below HRF.out hb (lt_of_block HRF.out); unfold zeroRow at r1; obtain ⟨⟨c0, c1, c2, c3, c4⟩, ⟨z0, z1, z2, z3, z4⟩⟩ := five_cells r1; have u0 : w1.cell? ⟨fb, 0, none⟩ = some (.int .i64 0) := blk_cell r2 0; have u1 : w1.cell? ⟨fb, 1, none⟩ = some (.int .i64 0) := blk_cell r2 1; have q0 := blk_free r2 0; have q1 := blk_free r2 1; unfold rowOf at ⊢; clear hb hs r1 r2))
 obtain ⟨k1, k2, k3, k4⟩ := HEND.out _ rfl
 exact bodyPost_ret (res_top rfl rfl rfl k1 k2) rfl ⟨ao, cap, rfl, k3, k4⟩
theorem read2_any (s : ByteArray) (w : World) (hT : TabOk w) : Calls Tryz.prog 12 #[.int .i64 2, .string s] w (TopP (ansD s (topM 2)) w) := by
 obtain ⟨A, hA⟩ : ∃ A, A = ansD s (topM 2) := ⟨_, rfl⟩
 obtain ⟨W, hW, hbW, hsW, rn, rf⟩ := two_made w
 have HCALL : Hid (Calls Tryz.prog 30 #[.string s] W (TopP A W)) := lh (by rw [hA]; exact pParsePat_any s W (hT.below hbW))
 rw [← hA]
 clear hA
 obtain ⟨nb, hnb⟩ : ∃ nb, nb = w.heap.size := ⟨_, rfl⟩
 obtain ⟨fb, hfb⟩ : ∃ fb, fb = w.heap.size + 1 := ⟨_, rfl⟩
 rw [← hnb] at rn
 rw [← hfb] at rf
 have HNB := lh hnb
 have HFB := lh hfb
 have HRN := lh rn
 have HRF := lh rf
 have HBW := lh hbW
 have HSW := lh hsW
 unfold zeroRow at hW
 have HWW := lh hW
 have n1 : ¬ (nb = fb) := by omega
 have n2 : ¬ (fb = nb) := by omega
 clear hW hbW hsW rn rf hT hnb hfb
 go_enter Tryz.func12, Tryz.ntmps12
 go_upto_region 1 with fail
 rw [← HWW.out, ← HFB.out, ← HNB.out]
 clear HWW
 go_wp2_with (first | (go_at_call 30; refine HCALL.out.mono ?_; rintro e w1 ⟨ao, cap, rfl, hb, hs⟩; have HEND := lh (fun (Z : World) hZ => two_end (x := A.2.1) (y := A.2.2) HNB.out HFB.out HBW.out HSW.out HRN.out HRF.out hb hs Z hZ); have r1 := blk_below HRN.out hb (lt_of_block HRN.out); have r2 := blk_below HRF.out hb (lt_of_block HRF.out); unfold zeroRow at r1; obtain ⟨⟨c0, c1, c2, c3, c4⟩, ⟨z0, z1, z2, z3, z4⟩⟩ := five_cells r1; have u0 : w1.cell? ⟨fb, 0, none⟩ = some (.int .i64 0) := blk_cell r2 0; have u1 : w1.cell? ⟨fb, 1, none⟩ = some (.int .i64 0) := blk_cell r2 1; have q0 := blk_free r2 0; have q1 := blk_free r2 1; unfold rowOf at ⊢; clear hb hs r1 r2))
 obtain ⟨k1, k2, k3, k4⟩ := HEND.out _ rfl
 exact bodyPost_ret (res_top rfl rfl rfl k1 k2) rfl ⟨ao, cap, rfl, k3, k4⟩
theorem read3_any (s : ByteArray) (w : World) (hT : TabOk w) : Calls Tryz.prog 12 #[.int .i64 3, .string s] w (TopP (ansD s (topM 3)) w) := by
 obtain ⟨A, hA⟩ : ∃ A, A = ansD s (topM 3) := ⟨_, rfl⟩
 obtain ⟨W, hW, hbW, hsW, rn, rf⟩ := two_made w
 have HCALL : Hid (Calls Tryz.prog 31 #[.string s] W (TopP A W)) := lh (by rw [hA]; exact pParseType_any s W (hT.below hbW))
 rw [← hA]
 clear hA
 obtain ⟨nb, hnb⟩ : ∃ nb, nb = w.heap.size := ⟨_, rfl⟩
 obtain ⟨fb, hfb⟩ : ∃ fb, fb = w.heap.size + 1 := ⟨_, rfl⟩
 rw [← hnb] at rn
 rw [← hfb] at rf
 have HNB := lh hnb
 have HFB := lh hfb
 have HRN := lh rn
 have HRF := lh rf
 have HBW := lh hbW
 have HSW := lh hsW
 unfold zeroRow at hW
 have HWW := lh hW
 have n1 : ¬ (nb = fb) := by omega
 have n2 : ¬ (fb = nb) := by omega
 clear hW hbW hsW rn rf hT hnb hfb
 go_enter Tryz.func12, Tryz.ntmps12
 go_upto_region 1 with fail
 rw [← HWW.out, ← HFB.out, ← HNB.out]
 clear HWW
 go_wp2_with (first | (go_at_call 31; refine HCALL.out.mono ?_; rintro e w1 ⟨ao, cap, rfl, hb, hs⟩; have HEND := lh (fun (Z : World) hZ => two_end (x := A.2.1) (y := A.2.2) HNB.out HFB.out HBW.out HSW.out HRN.out HRF.out hb hs Z hZ); have r1 := blk_below HRN.out hb (lt_of_block HRN.out); have r2 := blk_below HRF.out hb (lt_of_block HRF.out); unfold zeroRow at r1; obtain ⟨⟨c0, c1, c2, c3, c4⟩, ⟨z0, z1, z2, z3, z4⟩⟩ := five_cells r1; have u0 : w1.cell? ⟨fb, 0, none⟩ = some (.int .i64 0) := blk_cell r2 0; have u1 : w1.cell? ⟨fb, 1, none⟩ = some (.int .i64 0) := blk_cell r2 1; have q0 := blk_free r2 0; have q1 := blk_free r2 1; unfold rowOf at ⊢; clear hb hs r1 r2))
 obtain ⟨k1, k2, k3, k4⟩ := HEND.out _ rfl
 exact bodyPost_ret (res_top rfl rfl rfl k1 k2) rfl ⟨ao, cap, rfl, k3, k4⟩
theorem told0_any (s : ByteArray) (w : World) : Calls Tryz.prog 9 #[.int .i64 0, .string s] w (TopP (ansD s (topM 0)) w) := by
 obtain ⟨A, hA⟩ : ∃ A, A = ansD s (topM 0) := ⟨_, rfl⟩
 obtain ⟨W, hW, hbW, hsW, rn, rf⟩ := two_made w
 have HCALL : Hid (Calls Tryz.prog 20 #[.string s] W (TopP A W)) := lh (by rw [hA]; exact rParse_any s W)
 rw [← hA]
 clear hA
 obtain ⟨nb, hnb⟩ : ∃ nb, nb = w.heap.size := ⟨_, rfl⟩
 obtain ⟨fb, hfb⟩ : ∃ fb, fb = w.heap.size + 1 := ⟨_, rfl⟩
 rw [← hnb] at rn
 rw [← hfb] at rf
 have HNB := lh hnb
 have HFB := lh hfb
 have HRN := lh rn
 have HRF := lh rf
 have HBW := lh hbW
 have HSW := lh hsW
 unfold zeroRow at hW
 have HWW := lh hW
 have n1 : ¬ (nb = fb) := by omega
 have n2 : ¬ (fb = nb) := by omega
 clear hW hbW hsW rn rf hnb hfb
 go_enter Tryz.func9, Tryz.ntmps9
 go_upto_region 1 with fail
 rw [← HWW.out, ← HFB.out, ← HNB.out]
 clear HWW
 go_wp2_with (first | (go_at_call 20; refine HCALL.out.mono ?_; rintro e w1 ⟨ao, cap, rfl, hb, hs⟩; have HEND := lh (fun (Z : World) hZ => two_end (x := A.2.1) (y := A.2.2) HNB.out HFB.out HBW.out HSW.out HRN.out HRF.out hb hs Z hZ); have r1 := blk_below HRN.out hb (lt_of_block HRN.out); have r2 := blk_below HRF.out hb (lt_of_block HRF.out); unfold zeroRow at r1; obtain ⟨⟨c0, c1, c2, c3, c4⟩, ⟨z0, z1, z2, z3, z4⟩⟩ := five_cells r1; have u0 : w1.cell? ⟨fb, 0, none⟩ = some (.int .i64 0) := blk_cell r2 0; have u1 : w1.cell? ⟨fb, 1, none⟩ = some (.int .i64 0) := blk_cell r2 1; have q0 := blk_free r2 0; have q1 := blk_free r2 1; unfold rowOf at ⊢; clear hb hs r1 r2))
 obtain ⟨k1, k2, k3, k4⟩ := HEND.out _ rfl
 exact bodyPost_ret (res_top rfl rfl rfl k1 k2) rfl ⟨ao, cap, rfl, k3, k4⟩
theorem told1_any (s : ByteArray) (w : World) : Calls Tryz.prog 9 #[.int .i64 1, .string s] w (TopP (ansD s (topM 1)) w) := by
 obtain ⟨A, hA⟩ : ∃ A, A = ansD s (topM 1) := ⟨_, rfl⟩
 obtain ⟨W, hW, hbW, hsW, rn, rf⟩ := two_made w
 have HCALL : Hid (Calls Tryz.prog 21 #[.string s] W (TopP A W)) := lh (by rw [hA]; exact rParseExp_any s W)
 rw [← hA]
 clear hA
 obtain ⟨nb, hnb⟩ : ∃ nb, nb = w.heap.size := ⟨_, rfl⟩
 obtain ⟨fb, hfb⟩ : ∃ fb, fb = w.heap.size + 1 := ⟨_, rfl⟩
 rw [← hnb] at rn
 rw [← hfb] at rf
 have HNB := lh hnb
 have HFB := lh hfb
 have HRN := lh rn
 have HRF := lh rf
 have HBW := lh hbW
 have HSW := lh hsW
 unfold zeroRow at hW
 have HWW := lh hW
 have n1 : ¬ (nb = fb) := by omega
 have n2 : ¬ (fb = nb) := by omega
 clear hW hbW hsW rn rf hnb hfb
 go_enter Tryz.func9, Tryz.ntmps9
 go_upto_region 1 with fail
 rw [← HWW.out, ← HFB.out, ← HNB.out]
 clear HWW
 go_wp2_with (first | (go_at_call 21; refine HCALL.out.mono ?_; rintro e w1 ⟨ao, cap, rfl, hb, hs⟩; have HEND := lh (fun (Z : World) hZ => two_end (x := A.2.1) (y := A.2.2) HNB.out HFB.out HBW.out HSW.out HRN.out HRF.out hb hs Z hZ); have r1 := blk_below HRN.out hb (lt_of_block HRN.out); have r2 := blk_below HRF.out hb (lt_of_block HRF.out); unfold zeroRow at r1; obtain ⟨⟨c0, c1, c2, c3, c4⟩, ⟨z0, z1, z2, z3, z4⟩⟩ := five_cells r1; have u0 : w1.cell? ⟨fb, 0, none⟩ = some (.int .i64 0) := blk_cell r2 0; have u1 : w1.cell? ⟨fb, 1, none⟩ = some (.int .i64 0) := blk_cell r2 1; have q0 := blk_free r2 0; have q1 := blk_free r2 1; unfold rowOf at ⊢; clear hb hs r1 r2))
 obtain ⟨k1, k2, k3, k4⟩ := HEND.out _ rfl
 exact bodyPost_ret (res_top rfl rfl rfl k1 k2) rfl ⟨ao, cap, rfl, k3, k4⟩
theorem told2_any (s : ByteArray) (w : World) : Calls Tryz.prog 9 #[.int .i64 2, .string s] w (TopP (ansD s (topM 2)) w) := by
 obtain ⟨A, hA⟩ : ∃ A, A = ansD s (topM 2) := ⟨_, rfl⟩
 obtain ⟨W, hW, hbW, hsW, rn, rf⟩ := two_made w
 have HCALL : Hid (Calls Tryz.prog 22 #[.string s] W (TopP A W)) := lh (by rw [hA]; exact rParsePat_any s W)
 rw [← hA]
 clear hA
 obtain ⟨nb, hnb⟩ : ∃ nb, nb = w.heap.size := ⟨_, rfl⟩
 obtain ⟨fb, hfb⟩ : ∃ fb, fb = w.heap.size + 1 := ⟨_, rfl⟩
 rw [← hnb] at rn
 rw [← hfb] at rf
 have HNB := lh hnb
 have HFB := lh hfb
 have HRN := lh rn
 have HRF := lh rf
 have HBW := lh hbW
 have HSW := lh hsW
 unfold zeroRow at hW
 have HWW := lh hW
 have n1 : ¬ (nb = fb) := by omega
 have n2 : ¬ (fb = nb) := by omega
 clear hW hbW hsW rn rf hnb hfb
 go_enter Tryz.func9, Tryz.ntmps9
 go_upto_region 1 with fail
 rw [← HWW.out, ← HFB.out, ← HNB.out]
 clear HWW
 go_wp2_with (first | (go_at_call 22; refine HCALL.out.mono ?_; rintro e w1 ⟨ao, cap, rfl, hb, hs⟩; have HEND := lh (fun (Z : World) hZ => two_end (x := A.2.1) (y := A.2.2) HNB.out HFB.out HBW.out HSW.out HRN.out HRF.out hb hs Z hZ); have r1 := blk_below HRN.out hb (lt_of_block HRN.out); have r2 := blk_below HRF.out hb (lt_of_block HRF.out); unfold zeroRow at r1; obtain ⟨⟨c0, c1, c2, c3, c4⟩, ⟨z0, z1, z2, z3, z4⟩⟩ := five_cells r1; have u0 : w1.cell? ⟨fb, 0, none⟩ = some (.int .i64 0) := blk_cell r2 0; have u1 : w1.cell? ⟨fb, 1, none⟩ = some (.int .i64 0) := blk_cell r2 1; have q0 := blk_free r2 0; have q1 := blk_free r2 1; unfold rowOf at ⊢; clear hb hs r1 r2))
 obtain ⟨k1, k2, k3, k4⟩ := HEND.out _ rfl
 exact bodyPost_ret (res_top rfl rfl rfl k1 k2) rfl ⟨ao, cap, rfl, k3, k4⟩
theorem told3_any (s : ByteArray) (w : World) : Calls Tryz.prog 9 #[.int .i64 3, .string s] w (TopP (ansD s (topM 3)) w) := by
 obtain ⟨A, hA⟩ : ∃ A, A = ansD s (topM 3) := ⟨_, rfl⟩
 obtain ⟨W, hW, hbW, hsW, rn, rf⟩ := two_made w
 have HCALL : Hid (Calls Tryz.prog 23 #[.string s] W (TopP A W)) := lh (by rw [hA]; exact rParseType_any s W)
 rw [← hA]
 clear hA
 obtain ⟨nb, hnb⟩ : ∃ nb, nb = w.heap.size := ⟨_, rfl⟩
 obtain ⟨fb, hfb⟩ : ∃ fb, fb = w.heap.size + 1 := ⟨_, rfl⟩
 rw [← hnb] at rn
 rw [← hfb] at rf
 have HNB := lh hnb
 have HFB := lh hfb
 have HRN := lh rn
 have HRF := lh rf
 have HBW := lh hbW
 have HSW := lh hsW
 unfold zeroRow at hW
 have HWW := lh hW
 have n1 : ¬ (nb = fb) := by omega
 have n2 : ¬ (fb = nb) := by omega
 clear hW hbW hsW rn rf hnb hfb
 go_enter Tryz.func9, Tryz.ntmps9
 go_upto_region 1 with fail
 rw [← HWW.out, ← HFB.out, ← HNB.out]
 clear HWW
 go_wp2_with (first | (go_at_call 23; refine HCALL.out.mono ?_; rintro e w1 ⟨ao, cap, rfl, hb, hs⟩; have HEND := lh (fun (Z : World) hZ => two_end (x := A.2.1) (y := A.2.2) HNB.out HFB.out HBW.out HSW.out HRN.out HRF.out hb hs Z hZ); have r1 := blk_below HRN.out hb (lt_of_block HRN.out); have r2 := blk_below HRF.out hb (lt_of_block HRF.out); unfold zeroRow at r1; obtain ⟨⟨c0, c1, c2, c3, c4⟩, ⟨z0, z1, z2, z3, z4⟩⟩ := five_cells r1; have u0 : w1.cell? ⟨fb, 0, none⟩ = some (.int .i64 0) := blk_cell r2 0; have u1 : w1.cell? ⟨fb, 1, none⟩ = some (.int .i64 0) := blk_cell r2 1; have q0 := blk_free r2 0; have q1 := blk_free r2 1; unfold rowOf at ⊢; clear hb hs r1 r2))
 obtain ⟨k1, k2, k3, k4⟩ := HEND.out _ rfl
 exact bodyPost_ret (res_top rfl rfl rfl k1 k2) rfl ⟨ao, cap, rfl, k3, k4⟩
theorem one0_any (s : ByteArray) (w : World) (hT : TabOk w) : Calls Tryz.prog 6 #[.int .i64 0, .string s] w fun e w' => e = .returned (.bool true) ∧ Below w.heap.size w w' := by
 have HFIT := lh (ansD_fit s 0)
 have HREAD : Hid (Calls Tryz.prog 12 #[.int .i64 0, .string s] w (TopP (ansD s (topM 0)) w)) := lh (read0_any s w hT)
 have HTOLD : Hid (∀ w1, Calls Tryz.prog 9 #[.int .i64 0, .string s] w1 (TopP (ansD s (topM 0)) w1)) := lh (fun w1 => told0_any s w1)
 obtain ⟨A, hA⟩ : ∃ A, A = ansD s (topM 0) := ⟨_, rfl⟩
 rw [← hA] at HFIT HREAD HTOLD
 clear hA hT
 obtain ⟨n, k, a⟩ := A
 have e1 : ((k : Int) == (k : Int)) = true := by simp
 have e2 : ((a : Int) == (a : Int)) = true := by simp
 go_enter Tryz.func6, Tryz.ntmps6
 go_upto_region 2 with (first | (go_at_call 12; refine HREAD.out.mono ?_; rintro e w1 ⟨ao, cap, rfl, hb, hs⟩; have HB1 := lh hb; have HS1 := lh hs; unfold rowOf at ⊢; clear hb hs))
 obtain ⟨V1, hV1⟩ : ∃ V1, V1 = w1.alloc (.cells (rowOf n ao cap) 26) := ⟨_, rfl⟩
 obtain ⟨V, hV⟩ : ∃ V, V = V1.alloc (.cells #[.int .i64 k, .int .i64 a] 29) := ⟨_, rfl⟩
 have b1 : Below w1.heap.size w1 V1 := by rw [hV1]; exact balloc (Below.refl _ _) _
 have b2 : Below V1.heap.size V1 V := by rw [hV]; exact balloc (Below.refl _ _) _
 have s1 : V1.heap.size = w1.heap.size + 1 := by rw [hV1, World.size_alloc]
 have s2 : V.heap.size = w1.heap.size + 2 := by rw [hV, World.size_alloc, s1]
 have r1 : V1.heap[w1.heap.size]? = some (.cells (rowOf n ao cap) 26 (0, 0)) := by rw [hV1]; exact heap_alloc_new w1 _
 have r2 : V.heap[V1.heap.size]? = some (.cells #[.int .i64 k, .int .i64 a] 29 (0, 0)) := by rw [hV]; exact heap_alloc_new V1 _
 have r3 := blk_below r1 b2 (lt_of_block r1)
 obtain ⟨nb, hnb⟩ : ∃ nb, nb = w1.heap.size := ⟨_, rfl⟩
 obtain ⟨fb, hfb⟩ : ∃ fb, fb = w1.heap.size + 1 := ⟨_, rfl⟩
 rw [← hnb] at r3
 rw [s1, ← hfb] at r2
 have HBV : Hid (Below w1.heap.size w1 V) := lh (b1.trans (b2.mono (by omega)))
 have HR3 := lh r3
 have HR2 := lh r2
 have HS2 := lh s2
 rw [hV1] at hV
 unfold rowOf at hV
 rw [← hV, ← hfb, ← hnb]
 have HNB := lh hnb
 have HFB := lh hfb
 clear hV hV1 b1 b2 s1 s2 r1 r2 r3 hnb hfb
 go_upto_region 3 with (first | (go_at_call 9; refine (HTOLD.out V).mono ?_; rintro e w2 ⟨ao2, cap2, rfl, hb, hs⟩; have HB2 := lh hb; have HS3 := lh hs; have hr3 := blk_below HR3.out hb (lt_of_block HR3.out); have hr2 := blk_below HR2.out hb (lt_of_block HR2.out); have HR3b := lh hr3; have HR2b := lh hr2; unfold rowOf at ⊢; clear hb hs hr3 hr2))
 obtain ⟨V2, hV2⟩ : ∃ V2, V2 = w2.alloc (.cells (rowOf n ao2 cap2) 26) := ⟨_, rfl⟩
 obtain ⟨X, hX⟩ : ∃ X, X = V2.alloc (.cells #[.int .i64 k, .int .i64 a] 29) := ⟨_, rfl⟩
 have b1 : Below w2.heap.size w2 V2 := by rw [hV2]; exact balloc (Below.refl _ _) _
 have b2 : Below V2.heap.size V2 X := by rw [hX]; exact balloc (Below.refl _ _) _
 have s1 : V2.heap.size = w2.heap.size + 1 := by rw [hV2, World.size_alloc]
 have s2 : X.heap.size = w2.heap.size + 2 := by rw [hX, World.size_alloc, s1]
 have r1 : V2.heap[w2.heap.size]? = some (.cells (rowOf n ao2 cap2) 26 (0, 0)) := by rw [hV2]; exact heap_alloc_new w2 _
 have r2 : X.heap[V2.heap.size]? = some (.cells #[.int .i64 k, .int .i64 a] 29 (0, 0)) := by rw [hX]; exact heap_alloc_new V2 _
 have r3 := blk_below r1 b2 (lt_of_block r1)
 obtain ⟨mb, hmb⟩ : ∃ mb, mb = w2.heap.size := ⟨_, rfl⟩
 obtain ⟨gb, hgb⟩ : ∃ gb, gb = w2.heap.size + 1 := ⟨_, rfl⟩
 rw [← hmb] at r3
 rw [s1, ← hgb] at r2
 have hbX : Below w2.heap.size w2 X := b1.trans (b2.mono (by omega))
 have t3 := blk_below HR3b.out hbX (lt_of_block HR3b.out)
 have t2 := blk_below HR2b.out hbX (lt_of_block HR2b.out)
 have HBX := lh hbX
 have HSX := lh s2
 rw [hV2] at hX
 unfold rowOf at hX
 rw [← hX, ← hgb, ← hmb]
 have HSAME : Hid (Calls Tryz.prog 14 #[.agg (rowOf n ao cap), .agg (rowOf n ao2 cap2), .bool true] X fun e w' => e = .returned (.bool (sameD true n n)) ∧ Below X.heap.size X w') := lh (lsame_any true _ n (Nat.le_refl _) n (fun b => b < w2.heap.size) ao ao2 cap cap2 X (fun b hb => Nat.lt_of_lt_of_le hb hbX.size)
  ((HS1.out.keep (w' := X) fun b hb off => (hbX.cell (p := ⟨b, off, none⟩) (Nat.lt_of_lt_of_le hb.2 (Nat.le_trans HBV.out.size HB2.out.size))).trans ((HB2.out.cell (p := ⟨b, off, none⟩) (Nat.lt_of_lt_of_le hb.2 HBV.out.size)).trans (HBV.out.cell (p := ⟨b, off, none⟩) hb.2))).mono fun b hb => Nat.lt_of_lt_of_le hb.2 (Nat.le_trans HBV.out.size HB2.out.size))
  ((HS3.out.keep (w' := X) fun b hb off => hbX.cell (p := ⟨b, off, none⟩) hb.2).mono fun b hb => hb.2) HFIT.out HFIT.out)
 rw [sameD_self] at HSAME
 unfold rowOf at HSAME t3 r3
 obtain ⟨⟨c0, c1, c2, c3, c4⟩, -⟩ := five_cells t3
 obtain ⟨⟨d0, d1, d2, d3, d4⟩, -⟩ := five_cells r3
 have HT2 := lh t2
 have HG2 := lh r2
 clear hX hV2 b1 b2 s1 s2 r1 r2 r3 hmb hgb hbX t3 t2
 go_upto_region 4 with (first | (go_at_call 14; refine HSAME.out.mono ?_; rintro e w3 ⟨rfl, hb⟩; have HB3 := lh hb; have f1 := blk_below HT2.out hb (lt_of_block HT2.out); have f2 := blk_below HG2.out hb (lt_of_block HG2.out); have u0 : w3.cell? ⟨fb, 0, none⟩ = some (.int .i64 k) := blk_cell f1 0; have u1 : w3.cell? ⟨fb, 1, none⟩ = some (.int .i64 a) := blk_cell f1 1; have v0 : w3.cell? ⟨gb, 0, none⟩ = some (.int .i64 k) := blk_cell f2 0; have v1 : w3.cell? ⟨gb, 1, none⟩ = some (.int .i64 a) := blk_cell f2 1; clear hb f1 f2))
 clear c0 c1 c2 c3 c4 d0 d1 d2 d3 d4
 go_wp2_with fail
 go_ret
 exact ⟨by first | rfl | simp, (((HB1.out.trans (HBV.out.mono HB1.out.size)).trans (HB2.out.mono (Nat.le_trans HB1.out.size HBV.out.size))).trans (HBX.out.mono (Nat.le_trans HB1.out.size (Nat.le_trans HBV.out.size HB2.out.size)))).trans (HB3.out.mono (Nat.le_trans HB1.out.size (Nat.le_trans HBV.out.size (Nat.le_trans HB2.out.size HBX.out.size))))⟩
theorem one1_any (s : ByteArray) (w : World) (hT : TabOk w) : Calls Tryz.prog 6 #[.int .i64 1, .string s] w fun e w' => e = .returned (.bool true) ∧ Below w.heap.size w w' := by
 have HFIT := lh (ansD_fit s 1)
 have HREAD : Hid (Calls Tryz.prog 12 #[.int .i64 1, .string s] w (TopP (ansD s (topM 1)) w)) := lh (read1_any s w hT)
 have HTOLD : Hid (∀ w1, Calls Tryz.prog 9 #[.int .i64 1, .string s] w1 (TopP (ansD s (topM 1)) w1)) := lh (fun w1 => told1_any s w1)
 obtain ⟨A, hA⟩ : ∃ A, A = ansD s (topM 1) := ⟨_, rfl⟩
 rw [← hA] at HFIT HREAD HTOLD
 clear hA hT
 obtain ⟨n, k, a⟩ := A
 have e1 : ((k : Int) == (k : Int)) = true := by simp
 have e2 : ((a : Int) == (a : Int)) = true := by simp
 go_enter Tryz.func6, Tryz.ntmps6
 go_upto_region 2 with (first | (go_at_call 12; refine HREAD.out.mono ?_; rintro e w1 ⟨ao, cap, rfl, hb, hs⟩; have HB1 := lh hb; have HS1 := lh hs; unfold rowOf at ⊢; clear hb hs))
 obtain ⟨V1, hV1⟩ : ∃ V1, V1 = w1.alloc (.cells (rowOf n ao cap) 26) := ⟨_, rfl⟩
 obtain ⟨V, hV⟩ : ∃ V, V = V1.alloc (.cells #[.int .i64 k, .int .i64 a] 29) := ⟨_, rfl⟩
 have b1 : Below w1.heap.size w1 V1 := by rw [hV1]; exact balloc (Below.refl _ _) _
 have b2 : Below V1.heap.size V1 V := by rw [hV]; exact balloc (Below.refl _ _) _
 have s1 : V1.heap.size = w1.heap.size + 1 := by rw [hV1, World.size_alloc]
 have s2 : V.heap.size = w1.heap.size + 2 := by rw [hV, World.size_alloc, s1]
 have r1 : V1.heap[w1.heap.size]? = some (.cells (rowOf n ao cap) 26 (0, 0)) := by rw [hV1]; exact heap_alloc_new w1 _
 have r2 : V.heap[V1.heap.size]? = some (.cells #[.int .i64 k, .int .i64 a] 29 (0, 0)) := by rw [hV]; exact heap_alloc_new V1 _
 have r3 := blk_below r1 b2 (lt_of_block r1)
 obtain ⟨nb, hnb⟩ : ∃ nb, nb = w1.heap.size := ⟨_, rfl⟩
 obtain ⟨fb, hfb⟩ : ∃ fb, fb = w1.heap.size + 1 := ⟨_, rfl⟩
 rw [← hnb] at r3
 rw [s1, ← hfb] at r2
 have HBV : Hid (Below w1.heap.size w1 V) := lh (b1.trans (b2.mono (by omega)))
 have HR3 := lh r3
 have HR2 := lh r2
 have HS2 := lh s2
 rw [hV1] at hV
 unfold rowOf at hV
 rw [← hV, ← hfb, ← hnb]
 have HNB := lh hnb
 have HFB := lh hfb
 clear hV hV1 b1 b2 s1 s2 r1 r2 r3 hnb hfb
 go_upto_region 3 with (first | (go_at_call 9; refine (HTOLD.out V).mono ?_; rintro e w2 ⟨ao2, cap2, rfl, hb, hs⟩; have HB2 := lh hb; have HS3 := lh hs; have hr3 := blk_below HR3.out hb (lt_of_block HR3.out); have hr2 := blk_below HR2.out hb (lt_of_block HR2.out); have HR3b := lh hr3; have HR2b := lh hr2; unfold rowOf at ⊢; clear hb hs hr3 hr2))
 obtain ⟨V2, hV2⟩ : ∃ V2, V2 = w2.alloc (.cells (rowOf n ao2 cap2) 26) := ⟨_, rfl⟩
 obtain ⟨X, hX⟩ : ∃ X, X = V2.alloc (.cells #[.int .i64 k, .int .i64 a] 29) := ⟨_, rfl⟩
 have b1 : Below w2.heap.size w2 V2 := by rw [hV2]; exact balloc (Below.refl _ _) _
 have b2 : Below V2.heap.size V2 X := by rw [hX]; exact balloc (Below.refl _ _) _
 have s1 : V2.heap.size = w2.heap.size + 1 := by rw [hV2, World.size_alloc]
 have s2 : X.heap.size = w2.heap.size + 2 := by rw [hX, World.size_alloc, s1]
 have r1 : V2.heap[w2.heap.size]? = some (.cells (rowOf n ao2 cap2) 26 (0, 0)) := by rw [hV2]; exact heap_alloc_new w2 _
 have r2 : X.heap[V2.heap.size]? = some (.cells #[.int .i64 k, .int .i64 a] 29 (0, 0)) := by rw [hX]; exact heap_alloc_new V2 _
 have r3 := blk_below r1 b2 (lt_of_block r1)
 obtain ⟨mb, hmb⟩ : ∃ mb, mb = w2.heap.size := ⟨_, rfl⟩
 obtain ⟨gb, hgb⟩ : ∃ gb, gb = w2.heap.size + 1 := ⟨_, rfl⟩
 rw [← hmb] at r3
 rw [s1, ← hgb] at r2
 have hbX : Below w2.heap.size w2 X := b1.trans (b2.mono (by omega))
 have t3 := blk_below HR3b.out hbX (lt_of_block HR3b.out)
 have t2 := blk_below HR2b.out hbX (lt_of_block HR2b.out)
 have HBX := lh hbX
 have HSX := lh s2
 rw [hV2] at hX
 unfold rowOf at hX
 rw [← hX, ← hgb, ← hmb]
 have HSAME : Hid (Calls Tryz.prog 14 #[.agg (rowOf n ao cap), .agg (rowOf n ao2 cap2), .bool true] X fun e w' => e = .returned (.bool (sameD true n n)) ∧ Below X.heap.size X w') := lh (lsame_any true _ n (Nat.le_refl _) n (fun b => b < w2.heap.size) ao ao2 cap cap2 X (fun b hb => Nat.lt_of_lt_of_le hb hbX.size)
  ((HS1.out.keep (w' := X) fun b hb off => (hbX.cell (p := ⟨b, off, none⟩) (Nat.lt_of_lt_of_le hb.2 (Nat.le_trans HBV.out.size HB2.out.size))).trans ((HB2.out.cell (p := ⟨b, off, none⟩) (Nat.lt_of_lt_of_le hb.2 HBV.out.size)).trans (HBV.out.cell (p := ⟨b, off, none⟩) hb.2))).mono fun b hb => Nat.lt_of_lt_of_le hb.2 (Nat.le_trans HBV.out.size HB2.out.size))
  ((HS3.out.keep (w' := X) fun b hb off => hbX.cell (p := ⟨b, off, none⟩) hb.2).mono fun b hb => hb.2) HFIT.out HFIT.out)
 rw [sameD_self] at HSAME
 unfold rowOf at HSAME t3 r3
 obtain ⟨⟨c0, c1, c2, c3, c4⟩, -⟩ := five_cells t3
 obtain ⟨⟨d0, d1, d2, d3, d4⟩, -⟩ := five_cells r3
 have HT2 := lh t2
 have HG2 := lh r2
 clear hX hV2 b1 b2 s1 s2 r1 r2 r3 hmb hgb hbX t3 t2
 go_upto_region 4 with (first | (go_at_call 14; refine HSAME.out.mono ?_; rintro e w3 ⟨rfl, hb⟩; have HB3 := lh hb; have f1 := blk_below HT2.out hb (lt_of_block HT2.out); have f2 := blk_below HG2.out hb (lt_of_block HG2.out); have u0 : w3.cell? ⟨fb, 0, none⟩ = some (.int .i64 k) := blk_cell f1 0; have u1 : w3.cell? ⟨fb, 1, none⟩ = some (.int .i64 a) := blk_cell f1 1; have v0 : w3.cell? ⟨gb, 0, none⟩ = some (.int .i64 k) := blk_cell f2 0; have v1 : w3.cell? ⟨gb, 1, none⟩ = some (.int .i64 a) := blk_cell f2 1; clear hb f1 f2))
 clear c0 c1 c2 c3 c4 d0 d1 d2 d3 d4
 go_wp2_with fail
 go_ret
 exact ⟨by first | rfl | simp, (((HB1.out.trans (HBV.out.mono HB1.out.size)).trans (HB2.out.mono (Nat.le_trans HB1.out.size HBV.out.size))).trans (HBX.out.mono (Nat.le_trans HB1.out.size (Nat.le_trans HBV.out.size HB2.out.size)))).trans (HB3.out.mono (Nat.le_trans HB1.out.size (Nat.le_trans HBV.out.size (Nat.le_trans HB2.out.size HBX.out.size))))⟩
theorem one2_any (s : ByteArray) (w : World) (hT : TabOk w) : Calls Tryz.prog 6 #[.int .i64 2, .string s] w fun e w' => e = .returned (.bool true) ∧ Below w.heap.size w w' := by
 have HFIT := lh (ansD_fit s 2)
 have HREAD : Hid (Calls Tryz.prog 12 #[.int .i64 2, .string s] w (TopP (ansD s (topM 2)) w)) := lh (read2_any s w hT)
 have HTOLD : Hid (∀ w1, Calls Tryz.prog 9 #[.int .i64 2, .string s] w1 (TopP (ansD s (topM 2)) w1)) := lh (fun w1 => told2_any s w1)
 obtain ⟨A, hA⟩ : ∃ A, A = ansD s (topM 2) := ⟨_, rfl⟩
 rw [← hA] at HFIT HREAD HTOLD
 clear hA hT
 obtain ⟨n, k, a⟩ := A
 have e1 : ((k : Int) == (k : Int)) = true := by simp
 have e2 : ((a : Int) == (a : Int)) = true := by simp
 go_enter Tryz.func6, Tryz.ntmps6
 go_upto_region 2 with (first | (go_at_call 12; refine HREAD.out.mono ?_; rintro e w1 ⟨ao, cap, rfl, hb, hs⟩; have HB1 := lh hb; have HS1 := lh hs; unfold rowOf at ⊢; clear hb hs))
 obtain ⟨V1, hV1⟩ : ∃ V1, V1 = w1.alloc (.cells (rowOf n ao cap) 26) := ⟨_, rfl⟩
 obtain ⟨V, hV⟩ : ∃ V, V = V1.alloc (.cells #[.int .i64 k, .int .i64 a] 29) := ⟨_, rfl⟩
 have b1 : Below w1.heap.size w1 V1 := by rw [hV1]; exact balloc (Below.refl _ _) _
 have b2 : Below V1.heap.size V1 V := by rw [hV]; exact balloc (Below.refl _ _) _
 have s1 : V1.heap.size = w1.heap.size + 1 := by rw [hV1, World.size_alloc]
 have s2 : V.heap.size = w1.heap.size + 2 := by rw [hV, World.size_alloc, s1]
 have r1 : V1.heap[w1.heap.size]? = some (.cells (rowOf n ao cap) 26 (0, 0)) := by rw [hV1]; exact heap_alloc_new w1 _
 have r2 : V.heap[V1.heap.size]? = some (.cells #[.int .i64 k, .int .i64 a] 29 (0, 0)) := by rw [hV]; exact heap_alloc_new V1 _
 have r3 := blk_below r1 b2 (lt_of_block r1)
 obtain ⟨nb, hnb⟩ : ∃ nb, nb = w1.heap.size := ⟨_, rfl⟩
 obtain ⟨fb, hfb⟩ : ∃ fb, fb = w1.heap.size + 1 := ⟨_, rfl⟩
 rw [← hnb] at r3
 rw [s1, ← hfb] at r2
 have HBV : Hid (Below w1.heap.size w1 V) := lh (b1.trans (b2.mono (by omega)))
 have HR3 := lh r3
 have HR2 := lh r2
 have HS2 := lh s2
 rw [hV1] at hV
 unfold rowOf at hV
 rw [← hV, ← hfb, ← hnb]
 have HNB := lh hnb
 have HFB := lh hfb
 clear hV hV1 b1 b2 s1 s2 r1 r2 r3 hnb hfb
 go_upto_region 3 with (first | (go_at_call 9; refine (HTOLD.out V).mono ?_; rintro e w2 ⟨ao2, cap2, rfl, hb, hs⟩; have HB2 := lh hb; have HS3 := lh hs; have hr3 := blk_below HR3.out hb (lt_of_block HR3.out); have hr2 := blk_below HR2.out hb (lt_of_block HR2.out); have HR3b := lh hr3; have HR2b := lh hr2; unfold rowOf at ⊢; clear hb hs hr3 hr2))
 obtain ⟨V2, hV2⟩ : ∃ V2, V2 = w2.alloc (.cells (rowOf n ao2 cap2) 26) := ⟨_, rfl⟩
 obtain ⟨X, hX⟩ : ∃ X, X = V2.alloc (.cells #[.int .i64 k, .int .i64 a] 29) := ⟨_, rfl⟩
 have b1 : Below w2.heap.size w2 V2 := by rw [hV2]; exact balloc (Below.refl _ _) _
 have b2 : Below V2.heap.size V2 X := by rw [hX]; exact balloc (Below.refl _ _) _
 have s1 : V2.heap.size = w2.heap.size + 1 := by rw [hV2, World.size_alloc]
 have s2 : X.heap.size = w2.heap.size + 2 := by rw [hX, World.size_alloc, s1]
 have r1 : V2.heap[w2.heap.size]? = some (.cells (rowOf n ao2 cap2) 26 (0, 0)) := by rw [hV2]; exact heap_alloc_new w2 _
 have r2 : X.heap[V2.heap.size]? = some (.cells #[.int .i64 k, .int .i64 a] 29 (0, 0)) := by rw [hX]; exact heap_alloc_new V2 _
 have r3 := blk_below r1 b2 (lt_of_block r1)
 obtain ⟨mb, hmb⟩ : ∃ mb, mb = w2.heap.size := ⟨_, rfl⟩
 obtain ⟨gb, hgb⟩ : ∃ gb, gb = w2.heap.size + 1 := ⟨_, rfl⟩
 rw [← hmb] at r3
 rw [s1, ← hgb] at r2
 have hbX : Below w2.heap.size w2 X := b1.trans (b2.mono (by omega))
 have t3 := blk_below HR3b.out hbX (lt_of_block HR3b.out)
 have t2 := blk_below HR2b.out hbX (lt_of_block HR2b.out)
 have HBX := lh hbX
 have HSX := lh s2
 rw [hV2] at hX
 unfold rowOf at hX
 rw [← hX, ← hgb, ← hmb]
 have HSAME : Hid (Calls Tryz.prog 14 #[.agg (rowOf n ao cap), .agg (rowOf n ao2 cap2), .bool true] X fun e w' => e = .returned (.bool (sameD true n n)) ∧ Below X.heap.size X w') := lh (lsame_any true _ n (Nat.le_refl _) n (fun b => b < w2.heap.size) ao ao2 cap cap2 X (fun b hb => Nat.lt_of_lt_of_le hb hbX.size)
  ((HS1.out.keep (w' := X) fun b hb off => (hbX.cell (p := ⟨b, off, none⟩) (Nat.lt_of_lt_of_le hb.2 (Nat.le_trans HBV.out.size HB2.out.size))).trans ((HB2.out.cell (p := ⟨b, off, none⟩) (Nat.lt_of_lt_of_le hb.2 HBV.out.size)).trans (HBV.out.cell (p := ⟨b, off, none⟩) hb.2))).mono fun b hb => Nat.lt_of_lt_of_le hb.2 (Nat.le_trans HBV.out.size HB2.out.size))
  ((HS3.out.keep (w' := X) fun b hb off => hbX.cell (p := ⟨b, off, none⟩) hb.2).mono fun b hb => hb.2) HFIT.out HFIT.out)
 rw [sameD_self] at HSAME
 unfold rowOf at HSAME t3 r3
 obtain ⟨⟨c0, c1, c2, c3, c4⟩, -⟩ := five_cells t3
 obtain ⟨⟨d0, d1, d2, d3, d4⟩, -⟩ := five_cells r3
 have HT2 := lh t2
 have HG2 := lh r2
 clear hX hV2 b1 b2 s1 s2 r1 r2 r3 hmb hgb hbX t3 t2
 go_upto_region 4 with (first | (go_at_call 14; refine HSAME.out.mono ?_; rintro e w3 ⟨rfl, hb⟩; have HB3 := lh hb; have f1 := blk_below HT2.out hb (lt_of_block HT2.out); have f2 := blk_below HG2.out hb (lt_of_block HG2.out); have u0 : w3.cell? ⟨fb, 0, none⟩ = some (.int .i64 k) := blk_cell f1 0; have u1 : w3.cell? ⟨fb, 1, none⟩ = some (.int .i64 a) := blk_cell f1 1; have v0 : w3.cell? ⟨gb, 0, none⟩ = some (.int .i64 k) := blk_cell f2 0; have v1 : w3.cell? ⟨gb, 1, none⟩ = some (.int .i64 a) := blk_cell f2 1; clear hb f1 f2))
 clear c0 c1 c2 c3 c4 d0 d1 d2 d3 d4
 go_wp2_with fail
 go_ret
 exact ⟨by first | rfl | simp, (((HB1.out.trans (HBV.out.mono HB1.out.size)).trans (HB2.out.mono (Nat.le_trans HB1.out.size HBV.out.size))).trans (HBX.out.mono (Nat.le_trans HB1.out.size (Nat.le_trans HBV.out.size HB2.out.size)))).trans (HB3.out.mono (Nat.le_trans HB1.out.size (Nat.le_trans HBV.out.size (Nat.le_trans HB2.out.size HBX.out.size))))⟩
theorem one3_any (s : ByteArray) (w : World) (hT : TabOk w) : Calls Tryz.prog 6 #[.int .i64 3, .string s] w fun e w' => e = .returned (.bool true) ∧ Below w.heap.size w w' := by
 have HFIT := lh (ansD_fit s 3)
 have HREAD : Hid (Calls Tryz.prog 12 #[.int .i64 3, .string s] w (TopP (ansD s (topM 3)) w)) := lh (read3_any s w hT)
 have HTOLD : Hid (∀ w1, Calls Tryz.prog 9 #[.int .i64 3, .string s] w1 (TopP (ansD s (topM 3)) w1)) := lh (fun w1 => told3_any s w1)
 obtain ⟨A, hA⟩ : ∃ A, A = ansD s (topM 3) := ⟨_, rfl⟩
 rw [← hA] at HFIT HREAD HTOLD
 clear hA hT
 obtain ⟨n, k, a⟩ := A
 have e1 : ((k : Int) == (k : Int)) = true := by simp
 have e2 : ((a : Int) == (a : Int)) = true := by simp
 go_enter Tryz.func6, Tryz.ntmps6
 go_upto_region 2 with (first | (go_at_call 12; refine HREAD.out.mono ?_; rintro e w1 ⟨ao, cap, rfl, hb, hs⟩; have HB1 := lh hb; have HS1 := lh hs; unfold rowOf at ⊢; clear hb hs))
 obtain ⟨V1, hV1⟩ : ∃ V1, V1 = w1.alloc (.cells (rowOf n ao cap) 26) := ⟨_, rfl⟩
 obtain ⟨V, hV⟩ : ∃ V, V = V1.alloc (.cells #[.int .i64 k, .int .i64 a] 29) := ⟨_, rfl⟩
 have b1 : Below w1.heap.size w1 V1 := by rw [hV1]; exact balloc (Below.refl _ _) _
 have b2 : Below V1.heap.size V1 V := by rw [hV]; exact balloc (Below.refl _ _) _
 have s1 : V1.heap.size = w1.heap.size + 1 := by rw [hV1, World.size_alloc]
 have s2 : V.heap.size = w1.heap.size + 2 := by rw [hV, World.size_alloc, s1]
 have r1 : V1.heap[w1.heap.size]? = some (.cells (rowOf n ao cap) 26 (0, 0)) := by rw [hV1]; exact heap_alloc_new w1 _
 have r2 : V.heap[V1.heap.size]? = some (.cells #[.int .i64 k, .int .i64 a] 29 (0, 0)) := by rw [hV]; exact heap_alloc_new V1 _
 have r3 := blk_below r1 b2 (lt_of_block r1)
 obtain ⟨nb, hnb⟩ : ∃ nb, nb = w1.heap.size := ⟨_, rfl⟩
 obtain ⟨fb, hfb⟩ : ∃ fb, fb = w1.heap.size + 1 := ⟨_, rfl⟩
 rw [← hnb] at r3
 rw [s1, ← hfb] at r2
 have HBV : Hid (Below w1.heap.size w1 V) := lh (b1.trans (b2.mono (by omega)))
 have HR3 := lh r3
 have HR2 := lh r2
 have HS2 := lh s2
 rw [hV1] at hV
 unfold rowOf at hV
 rw [← hV, ← hfb, ← hnb]
 have HNB := lh hnb
 have HFB := lh hfb
 clear hV hV1 b1 b2 s1 s2 r1 r2 r3 hnb hfb
 go_upto_region 3 with (first | (go_at_call 9; refine (HTOLD.out V).mono ?_; rintro e w2 ⟨ao2, cap2, rfl, hb, hs⟩; have HB2 := lh hb; have HS3 := lh hs; have hr3 := blk_below HR3.out hb (lt_of_block HR3.out); have hr2 := blk_below HR2.out hb (lt_of_block HR2.out); have HR3b := lh hr3; have HR2b := lh hr2; unfold rowOf at ⊢; clear hb hs hr3 hr2))
 obtain ⟨V2, hV2⟩ : ∃ V2, V2 = w2.alloc (.cells (rowOf n ao2 cap2) 26) := ⟨_, rfl⟩
 obtain ⟨X, hX⟩ : ∃ X, X = V2.alloc (.cells #[.int .i64 k, .int .i64 a] 29) := ⟨_, rfl⟩
 have b1 : Below w2.heap.size w2 V2 := by rw [hV2]; exact balloc (Below.refl _ _) _
 have b2 : Below V2.heap.size V2 X := by rw [hX]; exact balloc (Below.refl _ _) _
 have s1 : V2.heap.size = w2.heap.size + 1 := by rw [hV2, World.size_alloc]
 have s2 : X.heap.size = w2.heap.size + 2 := by rw [hX, World.size_alloc, s1]
 have r1 : V2.heap[w2.heap.size]? = some (.cells (rowOf n ao2 cap2) 26 (0, 0)) := by rw [hV2]; exact heap_alloc_new w2 _
 have r2 : X.heap[V2.heap.size]? = some (.cells #[.int .i64 k, .int .i64 a] 29 (0, 0)) := by rw [hX]; exact heap_alloc_new V2 _
 have r3 := blk_below r1 b2 (lt_of_block r1)
 obtain ⟨mb, hmb⟩ : ∃ mb, mb = w2.heap.size := ⟨_, rfl⟩
 obtain ⟨gb, hgb⟩ : ∃ gb, gb = w2.heap.size + 1 := ⟨_, rfl⟩
 rw [← hmb] at r3
 rw [s1, ← hgb] at r2
 have hbX : Below w2.heap.size w2 X := b1.trans (b2.mono (by omega))
 have t3 := blk_below HR3b.out hbX (lt_of_block HR3b.out)
 have t2 := blk_below HR2b.out hbX (lt_of_block HR2b.out)
 have HBX := lh hbX
 have HSX := lh s2
 rw [hV2] at hX
 unfold rowOf at hX
 rw [← hX, ← hgb, ← hmb]
 have HSAME : Hid (Calls Tryz.prog 14 #[.agg (rowOf n ao cap), .agg (rowOf n ao2 cap2), .bool true] X fun e w' => e = .returned (.bool (sameD true n n)) ∧ Below X.heap.size X w') := lh (lsame_any true _ n (Nat.le_refl _) n (fun b => b < w2.heap.size) ao ao2 cap cap2 X (fun b hb => Nat.lt_of_lt_of_le hb hbX.size)
  ((HS1.out.keep (w' := X) fun b hb off => (hbX.cell (p := ⟨b, off, none⟩) (Nat.lt_of_lt_of_le hb.2 (Nat.le_trans HBV.out.size HB2.out.size))).trans ((HB2.out.cell (p := ⟨b, off, none⟩) (Nat.lt_of_lt_of_le hb.2 HBV.out.size)).trans (HBV.out.cell (p := ⟨b, off, none⟩) hb.2))).mono fun b hb => Nat.lt_of_lt_of_le hb.2 (Nat.le_trans HBV.out.size HB2.out.size))
  ((HS3.out.keep (w' := X) fun b hb off => hbX.cell (p := ⟨b, off, none⟩) hb.2).mono fun b hb => hb.2) HFIT.out HFIT.out)
 rw [sameD_self] at HSAME
 unfold rowOf at HSAME t3 r3
 obtain ⟨⟨c0, c1, c2, c3, c4⟩, -⟩ := five_cells t3
 obtain ⟨⟨d0, d1, d2, d3, d4⟩, -⟩ := five_cells r3
 have HT2 := lh t2
 have HG2 := lh r2
 clear hX hV2 b1 b2 s1 s2 r1 r2 r3 hmb hgb hbX t3 t2
 go_upto_region 4 with (first | (go_at_call 14; refine HSAME.out.mono ?_; rintro e w3 ⟨rfl, hb⟩; have HB3 := lh hb; have f1 := blk_below HT2.out hb (lt_of_block HT2.out); have f2 := blk_below HG2.out hb (lt_of_block HG2.out); have u0 : w3.cell? ⟨fb, 0, none⟩ = some (.int .i64 k) := blk_cell f1 0; have u1 : w3.cell? ⟨fb, 1, none⟩ = some (.int .i64 a) := blk_cell f1 1; have v0 : w3.cell? ⟨gb, 0, none⟩ = some (.int .i64 k) := blk_cell f2 0; have v1 : w3.cell? ⟨gb, 1, none⟩ = some (.int .i64 a) := blk_cell f2 1; clear hb f1 f2))
 clear c0 c1 c2 c3 c4 d0 d1 d2 d3 d4
 go_wp2_with fail
 go_ret
 exact ⟨by first | rfl | simp, (((HB1.out.trans (HBV.out.mono HB1.out.size)).trans (HB2.out.mono (Nat.le_trans HB1.out.size HBV.out.size))).trans (HBX.out.mono (Nat.le_trans HB1.out.size (Nat.le_trans HBV.out.size HB2.out.size)))).trans (HB3.out.mono (Nat.le_trans HB1.out.size (Nat.le_trans HBV.out.size (Nat.le_trans HB2.out.size HBX.out.size))))⟩
theorem parses_any (s : ByteArray) (w : World) (hT : TabOk w) : Calls Tryz.prog 3 #[.string s] w fun e w' => e = .returned (.bool true) ∧ Below w.heap.size w w' := by
 have H0 : Hid (∀ (x : ByteArray) (w1 : World), TabOk w1 → Calls Tryz.prog 6 #[.int .i64 0, .string x] w1 fun e w' => e = .returned (.bool true) ∧ Below w1.heap.size w1 w') := lh one0_any
 have H1 : Hid (∀ (x : ByteArray) (w1 : World), TabOk w1 → Calls Tryz.prog 6 #[.int .i64 1, .string x] w1 fun e w' => e = .returned (.bool true) ∧ Below w1.heap.size w1 w') := lh one1_any
 have H2 : Hid (∀ (x : ByteArray) (w1 : World), TabOk w1 → Calls Tryz.prog 6 #[.int .i64 2, .string x] w1 fun e w' => e = .returned (.bool true) ∧ Below w1.heap.size w1 w') := lh one2_any
 have H3 : Hid (∀ (x : ByteArray) (w1 : World), TabOk w1 → Calls Tryz.prog 6 #[.int .i64 3, .string x] w1 fun e w' => e = .returned (.bool true) ∧ Below w1.heap.size w1 w') := lh one3_any
 have HT := lh hT
 clear hT
 go_enter Tryz.func3, Tryz.ntmps3
 go_upto_region 2 with (first | (go_at_call 6; refine (H0.out _ w HT.out).mono ?_; rintro e w1 ⟨rfl, hb⟩; have HBw1 := lh hb; have T1 := lh (HT.out.below hb); clear hb))
 go_upto_region 3 with (first | (go_at_call 6; refine (H0.out _ w1 T1.out).mono ?_; rintro e w2 ⟨rfl, hb⟩; have HBw2 := lh hb; have T2 := lh (T1.out.below hb); clear hb))
 go_upto_region 4 with (first | (go_at_call 6; refine (H1.out _ w2 T2.out).mono ?_; rintro e w3 ⟨rfl, hb⟩; have HBw3 := lh hb; have T3 := lh (T2.out.below hb); clear hb))
 go_upto_region 5 with (first | (go_at_call 6; refine (H2.out _ w3 T3.out).mono ?_; rintro e w4 ⟨rfl, hb⟩; have HBw4 := lh hb; have T4 := lh (T3.out.below hb); clear hb))
 go_upto_region 6 with (first | (go_at_call 6; refine (H3.out _ w4 T4.out).mono ?_; rintro e w5 ⟨rfl, hb⟩; have HBw5 := lh hb; have T5 := lh (T4.out.below hb); clear hb))
 go_wp2_with fail
 go_ret
 have a1 := HBw1.out
 have a2 := a1.trans (HBw2.out.mono a1.size)
 have a3 := a2.trans (HBw3.out.mono a2.size)
 have a4 := a3.trans (HBw4.out.mono a3.size)
 have a5 := a4.trans (HBw5.out.mono a4.size)
 exact ⟨by first | rfl | simp, a5⟩
end Go.Proofs.YthehjeeiodbkjaaGreatDoor
