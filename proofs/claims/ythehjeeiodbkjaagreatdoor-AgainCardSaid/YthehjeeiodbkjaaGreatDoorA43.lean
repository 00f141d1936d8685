/-
  Proved: the contract of the law's Again: it returns true. Conditions: the tables as they stand in memory.
-/
import Derived.Test.YthehjeeiodbkjaaGreatDoorA01
import Derived.Test.YthehjeeiodbkjaaGreatDoorA23
import Derived.Test.YthehjeeiodbkjaaGreatDoorA30
import Derived.Test.YthehjeeiodbkjaaGreatDoorA32
import Derived.Test.YthehjeeiodbkjaaGreatDoorA42
set_option linter.unusedSimpArgs false
set_option linter.unusedVariables false
set_option maxRecDepth 100000
set_option maxHeartbeats 16000000
namespace Go.Proofs.YthehjeeiodbkjaaGreatDoor
open Go.RowKit
abbrev val_x : ByteArray := ⟨#[118, 97, 108, 32, 120, 32, 61, 32, 49]⟩
theorem valx_kind : (ansD val_x (topM 0)).2.1 = 0 := by kernel_rfl
theorem valx_k : (ansD val_x (topM 0)).1.k = 0 := by kernel_rfl
theorem valx_len : (ansD val_x (topM 0)).1.args.length = 1 := by kernel_rfl
structure AW (w : World) : Prop where
 t : TabOk w
 g : Gl w
 n : 9 ≤ w.heap.size
theorem AW.below {w w' : World} (h : AW w) (hb : Below w.heap.size w w') : AW w' :=
 ⟨h.t.below hb, h.g.of (fun b hb2 => hb.block b (by have := h.n; omega)), Nat.le_trans h.n hb.size⟩
theorem pair_laid (w1 : World) (n : Ty) (ao : Option Addr) (cap k a : Nat) : ∃ V, V = (w1.alloc (.cells (rowOf n ao cap) 26)).alloc (.cells #[.int .i64 k, .int .i64 a] 29) ∧ Below w1.heap.size w1 V ∧ V.heap.size = w1.heap.size + 2 ∧ V.heap[w1.heap.size]? = some (.cells (rowOf n ao cap) 26 (0, 0)) ∧ V.heap[w1.heap.size + 1]? = some (.cells #[.int .i64 k, .int .i64 a] 29 (0, 0)) := by
 obtain ⟨V1, hV1⟩ : ∃ V1, V1 = w1.alloc (.cells (rowOf n ao cap) 26) := ⟨_, rfl⟩
 obtain ⟨V, hV⟩ : ∃ V, V = V1.alloc (.cells #[.int .i64 k, .int .i64 a] 29) := ⟨_, rfl⟩
 have b1 : Below w1.heap.size w1 V1 := by rw [hV1]; exact balloc (Below.refl _ _) _
 have b2 : Below V1.heap.size V1 V := by rw [hV]; exact balloc (Below.refl _ _) _
 have s1 : V1.heap.size = w1.heap.size + 1 := by rw [hV1, World.size_alloc]
 have s2 : V.heap.size = w1.heap.size + 2 := by rw [hV, World.size_alloc, s1]
 have r1 : V1.heap[w1.heap.size]? = some (.cells (rowOf n ao cap) 26 (0, 0)) := by rw [hV1]; exact heap_alloc_new w1 _
 have r2 : V.heap[V1.heap.size]? = some (.cells #[.int .i64 k, .int .i64 a] 29 (0, 0)) := by rw [hV]; exact heap_alloc_new V1 _
 have r3 := blk_below r1 b2 (lt_of_block r1)
 rw [s1] at r2
 exact ⟨V, by rw [hV, hV1], b1.trans (b2.mono (by omega)), s2, r3, r2⟩
theorem lex_out {s : ByteArray} {w w' : World} {e : Ending} {l : List Tok} (h : lexD s = (l, (0, 0))) (hp : LexPost s w e w') : ∃ a cap, e = .returned (.tuple #[.slice a l.length cap, .agg #[.int .i64 0, .int .i64 0]]) ∧ Below w.heap.size w w' := by
 obtain ⟨a, cap, he, -, hb⟩ := hp
 rw [h] at he
 exact ⟨a, cap, he, hb⟩
theorem again_any (s : ByteArray) (w : World) (hA : AW w) : Calls Tryz.prog 5 #[.string s] w fun e w' => e = .returned (.bool true) ∧ Below w.heap.size w w' := by
 have HA := lh hA
 have HP : Hid (Calls Tryz.prog 11 #[.string val_x] w (TopP (ansD val_x (topM 0)) w)) := lh (pParse_any val_x w hA.t)
 obtain ⟨A, hA2⟩ : ∃ A, A = ansD val_x (topM 0) := ⟨_, rfl⟩
 have k0 := valx_kind
 have k1 := valx_k
 have k2 := valx_len
 rw [← hA2] at HP k0 k1 k2
 clear hA2 hA
 obtain ⟨n, k, a⟩ := A
 simp only at k0 k1 k2
 subst k0
 go_enter Tryz.func5, Tryz.ntmps5
 go_upto_region 2 with (first | (go_at_call 11; refine HP.out.mono ?_; rintro e w1 ⟨ao, cap, rfl, hb, hs⟩; have HB1 := lh hb; unfold rowOf at ⊢; clear hb hs))
 obtain ⟨V, hV, hbV, hsV, r1, r2⟩ := pair_laid w1 n ao cap 0 a
 unfold rowOf at hV r1
 rw [k1, k2] at hV r1
 rw [show ((0 : Nat) : Int) = 0 from rfl] at hV r2
 obtain ⟨nb, hnb⟩ : ∃ nb, nb = w1.heap.size := ⟨_, rfl⟩
 obtain ⟨fb, hfb⟩ : ∃ fb, fb = w1.heap.size + 1 := ⟨_, rfl⟩
 have HBV := lh (HB1.out.trans (hbV.mono HB1.out.size))
 have c0 : V.cell? ⟨nb, 0, none⟩ = some (.int .i64 0) := by rw [hnb]; exact blk_cell r1 0
 have c4 : V.cell? ⟨nb, 4, none⟩ = some (.slice ao 1 cap) := by rw [hnb]; exact blk_cell r1 4
 have d0 : V.cell? ⟨fb, 0, none⟩ = some (.int .i64 0) := by rw [hfb]; exact blk_cell r2 0
 rw [← hV, ← hfb, ← hnb]
 have HFB := lh hfb
 clear hV hbV hsV r1 r2 hnb hfb k1 k2
 go_upto_region 4 with fail
 clear c0 c4 d0
 go_wp2_with fail
 go_loopw [5] (fun i wr => ∃ k : Nat, i = .int .i64 (k : Int) ∧ k ≤ 4 ∧ Below w.heap.size w wr) (fun i _ => 4 - (intOf i).toNat)
 case atStart => exact ⟨0, rfl, Nat.zero_le _, HBV.out⟩
 case round =>
  obtain ⟨k, rfl, hk, hbr⟩ := hrel
  obtain ⟨wo, rfl⟩ : ∃ wo : World, wo = wr := ⟨_, rfl⟩
  by_cases hlt : k < 4
  · have hd : decide ((k : Int) < 4) = true := by simp; omega
    have HBR := lh hbr
    have HAR := lh (HA.out.below hbr)
    have HREAD : Hid (Calls Tryz.prog 12 #[.int .i64 k, .string s] wo (TopP (ansD s (topM k)) wo)) := lh (readk_any k hlt s wo HAR.out.t)
    rcases ans_cases s k with ⟨e, he, z, b, hans⟩ | ⟨t, jj, hok, htop, hans⟩
    · rw [hans] at HREAD
      go_upto_region 8 with (first | (go_at_call 12; refine HREAD.out.mono ?_; rintro e1 w2 ⟨ao2, cap2, rfl, hb, hs⟩; have HB2 := lh hb; unfold rowOf at ⊢; clear hb hs))
      obtain ⟨V2, hV2, hbV2, hsV2, r1, r2⟩ := pair_laid w2 z ao2 cap2 e b
      unfold rowOf at hV2
      have d0 : V2.cell? ⟨w2.heap.size + 1, 0, none⟩ = some (.int .i64 e) := blk_cell r2 0
      have b1 : ((e : Int) != 0) = true := by simpa using he
      have HB3 := lh (HBR.out.trans (HB2.out.mono HBR.out.size) |>.trans (hbV2.mono (Nat.le_trans HBR.out.size HB2.out.size)))
      rw [← hV2]
      clear hV2 hbV2 hsV2 r1 r2 he
      go_wp2_with fail
      go_roundw
      case rel => exact ⟨k + 1, by go_num, hlt, HB3.out⟩
      case measure => simp only [intOf]; omega
    · obtain ⟨-, ws, hT, hjl⟩ := ans_read hans
      have hfit := ansD_fit s k
      rw [hans] at HREAD hfit
      have HTOP := lh hT
      have HFIT := lh hfit
      have HJL := lh hjl
      clear hT hfit hjl hans htop hok
      go_upto_region 8 with (first | (go_at_call 12; refine HREAD.out.mono ?_; rintro e1 w2 ⟨ao2, cap2, rfl, hb, hs⟩; have HB2 := lh hb; have HS2 := lh hs; unfold rowOf at ⊢; clear hb hs))
      obtain ⟨V2, hV2, hbV2, hsV2, r1, r2⟩ := pair_laid w2 t ao2 cap2 0 0
      unfold rowOf at hV2
      rw [show ((0 : Nat) : Int) = 0 from rfl] at hV2 r2
      obtain ⟨nb2, hnb2⟩ : ∃ nb2, nb2 = w2.heap.size := ⟨_, rfl⟩
      obtain ⟨fb2, hfb2⟩ : ∃ fb2, fb2 = w2.heap.size + 1 := ⟨_, rfl⟩
      rw [← hnb2] at r1
      rw [← hfb2] at r2
      have hbb := HBR.out.trans (HB2.out.mono HBR.out.size) |>.trans (hbV2.mono (Nat.le_trans HBR.out.size HB2.out.size))
      have HB3 := lh hbb
      have d0 : V2.cell? ⟨fb2, 0, none⟩ = some (.int .i64 0) := blk_cell r2 0
      have HR1 := lh r1
      have HPR := lh (print_any (top_print HTOP.out) (w := V2) (ao := ao2) (cap := cap2) (HA.out.below hbb).g (HA.out.below hbb).n ((HS2.out.keep (w' := V2) fun b hb off => hbV2.cell (p := ⟨b, off, none⟩) hb.2).mono fun b hb => Nat.lt_of_lt_of_le hb.2 hbV2.size) HJL.out)
      obtain ⟨T, hTT⟩ : ∃ T : ByteArray, T = ⟨(jb ws).toArray⟩ := ⟨_, rfl⟩
      rw [← hTT] at HPR
      have HTT := lh hTT
      clear hTT
      unfold rowOf at HPR r1
      obtain ⟨⟨c0, c1, c2, c3, c4⟩, -⟩ := five_cells r1
      rw [← hV2, ← hfb2, ← hnb2]
      clear hV2 hsV2 r1 r2 hbb hnb2 hfb2
      go_upto_region 10 with (first | (go_at_call 8; refine HPR.out.mono ?_; rintro e1 w3 ⟨rfl, hb⟩; have HB4 := lh hb; clear hb))
      have HB5 := lh (HB3.out.trans (HB4.out.mono HB3.out.size))
      by_cases hz : T.size ≤ 4000
      case neg =>
       have hz1 : decide ((4000 : Int) < (T.size : Int)) = true := by simp; omega
       have hz2 : decide (4000 < T.size) = true := by simp; omega
       have hz3 : (4000 : Int) < (T.size : Int) := by omega
       clear hz c0 c1 c2 c3 c4 d0
       go_wp2_with fail
       go_roundw
       case rel => exact ⟨k + 1, by go_num, hlt, HB5.out⟩
       case measure => simp only [intOf]; omega
      have hz1 : decide ((4000 : Int) < (T.size : Int)) = false := by simp; omega
      have hz2 : decide (4000 < T.size) = false := by simp; omega
      have HREAD2 : Hid (Calls Tryz.prog 12 #[.int .i64 k, .string T] w3 (TopP (ansD T (topM k)) w3)) := lh (readk_any k hlt T w3 (HA.out.below HB5.out).t)
      obtain ⟨toks, hlex, htl, hans2⟩ := ans_again HTOP.out (by have := hz; rw [HTT.out, sizeA] at this; exact this)
      rw [← HTT.out] at hlex hans2
      have HLEX := lh hlex
      have HZ := lh hz
      have HTL := lh htl
      clear hz c0 c1 c2 c3 c4 d0 hlex htl
      rcases hans2 with ⟨m, hm, hst, hT2⟩ | ⟨hty, z, b, hm⟩
      case inr =>
       rw [hm] at HREAD2
       go_upto_region 12 with (first | (go_at_call 12; refine HREAD2.out.mono ?_; rintro e1 w4 ⟨ao3, cap3, rfl, hb, hs⟩; have HB6 := lh hb; unfold rowOf at ⊢; clear hb hs))
       obtain ⟨V4, hV4, hbV4, hsV4, q1, q2⟩ := pair_laid w4 z ao3 cap3 5 b
       unfold rowOf at hV4
       rw [show ((5 : Nat) : Int) = 5 from rfl] at hV4 q2
       have hb45 : Below V2.heap.size V2 V4 := (HB4.out.trans (HB6.out.mono HB4.out.size)).trans (hbV4.mono (Nat.le_trans HB4.out.size HB6.out.size))
       have hb25 : Below w2.heap.size w2 V4 := hbV2.trans (hb45.mono hbV2.size)
       have r1 := blk_below HR1.out hb45 (lt_of_block HR1.out)
       have HTY := lh (typed_any _ t (Nat.le_refl _) (fun b => b < w2.heap.size) ao2 cap2 V4 (fun b hb => Nat.lt_of_lt_of_le hb hb25.size) ((HS2.out.keep (w' := V4) fun b hb off => hb25.cell (p := ⟨b, off, none⟩) hb.2).mono fun b hb => hb.2) HFIT.out)
       rw [hty] at HTY
       unfold rowOf at r1 HTY
       obtain ⟨⟨c0, c1, c2, c3, c4⟩, -⟩ := five_cells r1
       have d0 : V4.cell? ⟨w4.heap.size + 1, 0, none⟩ = some (.int .i64 5) := blk_cell q2 0
       have HB7 := lh (HB3.out.trans (hb45.mono HB3.out.size))
       rw [← hV4]
       clear hV4 hbV4 hsV4 q1 q2 hb45 hb25 r1 hm hty
       go_wp2_with (first | (go_at_call 13; refine HTY.out.mono ?_; rintro e1 w5 ⟨rfl, hb⟩; have HB8 := lh hb; clear hb))
       go_roundw
       case rel => exact ⟨k + 1, by go_num, hlt, HB7.out.trans (HB8.out.mono HB7.out.size)⟩
       case measure => simp only [intOf]; omega
      have hfit2 := ansD_fit T k
      rw [hm] at HREAD2 hfit2
      have HFIT2 := lh hfit2
      have HST := lh hst
      have HT2 := lh hT2
      clear hm hst hT2 hfit2
      go_upto_region 12 with (first | (go_at_call 12; refine HREAD2.out.mono ?_; rintro e1 w4 ⟨ao3, cap3, rfl, hb, hs⟩; have HB6 := lh hb; have HS6 := lh hs; unfold rowOf at ⊢; clear hb hs))
      obtain ⟨V4, hV4, hbV4, hsV4, q1, q2⟩ := pair_laid w4 m ao3 cap3 0 0
      unfold rowOf at hV4
      rw [show ((0 : Nat) : Int) = 0 from rfl] at hV4 q2
      have hb45 : Below V2.heap.size V2 V4 := (HB4.out.trans (HB6.out.mono HB4.out.size)).trans (hbV4.mono (Nat.le_trans HB4.out.size HB6.out.size))
      have hb25 : Below w2.heap.size w2 V4 := hbV2.trans (hb45.mono hbV2.size)
      have r1 := blk_below HR1.out hb45 (lt_of_block HR1.out)
      have hsm := lsame_any false _ t (Nat.le_refl _) m (fun b => b < w4.heap.size) ao2 ao3 cap2 cap3 V4 (fun b hb => Nat.lt_of_lt_of_le hb hbV4.size) ((HS2.out.keep (w' := V4) fun b hb off => hb25.cell (p := ⟨b, off, none⟩) hb.2).mono fun b hb => Nat.lt_of_lt_of_le hb.2 (Nat.le_trans hbV2.size (Nat.le_trans HB4.out.size HB6.out.size))) ((HS6.out.keep (w' := V4) fun b hb off => hbV4.cell (p := ⟨b, off, none⟩) hb.2).mono fun b hb => hb.2) HFIT.out HFIT2.out
      rw [strip_same HST.out] at hsm
      have HSM := lh hsm
      clear hsm
      have HQ1 := lh q1
      have HQ2 := lh q2
      unfold rowOf at r1 q1 HSM
      obtain ⟨⟨c0, c1, c2, c3, c4⟩, -⟩ := five_cells r1
      obtain ⟨⟨e0, e1, e2, e3, e4⟩, -⟩ := five_cells q1
      have d0 : V4.cell? ⟨w4.heap.size + 1, 0, none⟩ = some (.int .i64 0) := blk_cell q2 0
      have HB7 := lh (HB3.out.trans (hb45.mono HB3.out.size))
      have HBV4 := lh hbV4
      rw [← hV4]
      clear hV4 hbV4 hsV4 q1 q2 hb45 hb25 r1
      go_upto_region 14 with (first | (go_at_call 14; refine HSM.out.mono ?_; rintro e9 w5 ⟨rfl, hb⟩; have HB8 := lh hb; clear hb))
      clear c0 c1 c2 c3 c4 e0 e1 e2 e3 e4 d0
      have hb9 := HB7.out.trans (HB8.out.mono HB7.out.size)
      have HB9 := lh hb9
      have q1 := blk_below HQ1.out HB8.out (lt_of_block HQ1.out)
      have q2 := blk_below HQ2.out HB8.out (lt_of_block HQ2.out)
      have hb85 := HBV4.out.trans (HB8.out.mono HBV4.out.size)
      have HP2 := lh (print_any (top_print HT2.out) (w := w5) (ao := ao3) (cap := cap3) (HA.out.below hb9).g (HA.out.below hb9).n ((HS6.out.keep (w' := w5) fun b hb off => hb85.cell (p := ⟨b, off, none⟩) hb.2).mono fun b hb => Nat.lt_of_lt_of_le hb.2 hb85.size) HJL.out)
      rw [← HTT.out] at HP2
      unfold rowOf at q1 HP2
      obtain ⟨⟨e0, e1, e2, e3, e4⟩, -⟩ := five_cells q1
      have d0 : w5.cell? ⟨w4.heap.size + 1, 0, none⟩ = some (.int .i64 0) := blk_cell q2 0
      clear q1 q2 hb9 hb85
      go_upto_region 16 with (first | (go_at_call 8; refine HP2.out.mono ?_; rintro e8 w6 ⟨rfl, hb⟩; have HB10 := lh (HB9.out.trans (hb.mono HB9.out.size)); clear hb))
      clear e0 e1 e2 e3 e4 d0
      have ht6 := (HA.out.below HB10.out).t
      have HTOK : Hid (Calls Tryz.prog 15 #[.string T] w6 (LexPost T w6)) := lh (ptoks_any T w6 ht6.so (by have := ht6.sz; omega))
      clear ht6
      go_upto_region 17 with (first | (go_at_call 15; refine HTOK.out.mono ?_; intro e9 w7 hlp; obtain ⟨a9, c9, rfl, hb⟩ := lex_out HLEX.out hlp; have HB11 := lh (HB10.out.trans (hb.mono HB10.out.size)); clear hb hlp))
      obtain ⟨V7, hV7⟩ : ∃ V, V = w7.alloc (.cells #[.int .i64 0, .int .i64 0] 29) := ⟨_, rfl⟩
      have s0 : V7.cell? ⟨w7.heap.size, 0, none⟩ = some (.int .i64 0) := blk_cell (c := #[.int .i64 0, .int .i64 0]) (by rw [hV7]; exact heap_alloc_new w7 _) 0
      have HB12 : Hid (Below w.heap.size w V7) := lh (by rw [hV7]; exact balloc HB11.out _)
      rw [← hV7]
      clear hV7
      go_upto_region 20 with fail
      clear s0
      have hlen : T.size ≠ 0 → toks.length ≠ 1 := fun h0 h1 => h0 (by
       have h3 : ws = [] := List.eq_nil_of_length_eq_zero (by have := HTL.out; omega)
       rw [HTT.out, h3]; rfl)
      have HLEN := lh hlen
      clear hlen
      have hz := HZ.out
      go_wp2_with fail
      go_loop [14] (fun i => ∃ j : Nat, i = .int .i64 (j : Int) ∧ j ≤ T.size) (fun i => T.size - (intOf i).toNat)
      case atStart => exact ⟨0, rfl, Nat.zero_le _⟩
      case round =>
       obtain ⟨j, rfl, hj⟩ := hrel
       have hj4 : j ≤ 4000 := by omega
       by_cases hlt2 : j + 1 < T.size
       · have hd2 : decide ((j : Int) + 1 < (T.size : Int)) = true := by simp; omega
         have k0 : (0 : Int) ≤ (j : Int) := by omega
         have k1 : (j : Int) < (T.size : Int) := by omega
         have k2 : (0 : Int) ≤ (j : Int) + 1 := by omega
         have k3 : (j : Int) + 1 < (T.size : Int) := by omega
         obtain ⟨c, hcb⟩ : ∃ c, c = bt T j := ⟨_, rfl⟩
         have hck := bt_eq (by omega) hcb
         obtain ⟨d, hdb⟩ : ∃ d, d = bt T (j + 1) := ⟨_, rfl⟩
         have hdk := bt_eq hlt2 hdb
         have hl1 : ((toks.length : Int) == 1) = false := by have := HLEN.out (by omega); simp; omega
         clear hcb hdb
         by_cases hc : c = 32
         · have e1 : ((c : Int) == 32) = true := by simp [hc]
           by_cases hd3 : d = 32
           · have e2 : ((d : Int) == 32) = true := by simp [hd3]
             go_wp2_with fail
             go_round
             case rel => exact ⟨j + 1, by go_num, by omega⟩
             case measure => simp [intOf]; omega
           · have e2 : ((d : Int) == 32) = false := by simp; omega
             go_wp2_with fail
             go_round
             case rel => exact ⟨j + 1, by go_num, by omega⟩
             case measure => simp [intOf]; omega
         · have e1 : ((c : Int) == 32) = false := by simp; omega
           go_wp2_with fail
           go_round
           case rel => exact ⟨j + 1, by go_num, by omega⟩
           case measure => simp [intOf]; omega
       · have hd2 : decide ((j : Int) + 1 < (T.size : Int)) = false := by simp; omega
         go_wp2_with fail
         go_roundw
         case rel => exact ⟨k + 1, by go_num, hlt, HB12.out⟩
         case measure => simp only [intOf]; omega
  · obtain rfl : k = 4 := by omega
    have hd : decide (((4 : Nat) : Int) < 4) = false := by decide
    go_wp2_with fail
    go_ret
    exact ⟨rfl, hbr⟩
end Go.Proofs.YthehjeeiodbkjaaGreatDoor
