/-
  Proved: Proved: the tokens of two texts side by side, in plain Lean. No condition.; the contract of the program's Tokens. Conditions: the table of sorts.
-/
import Derived.Test.YthehjeeiodbkjaaGreatDoorE01
import Derived.Test.YthehjeeiodbkjaaGreatDoorE06
import Derived.Test.YthehjeeiodbkjaaGreatDoorE11
import Derived.BigRegion
set_option linter.unusedSimpArgs false
set_option linter.unusedVariables false
set_option maxRecDepth 100000
set_option maxHeartbeats 16000000
namespace Go.Proofs.YthehjeeiodbkjaaGreatDoor
open Go.RowKit
/-- two texts side by side, with a line's end between -/
structure Side (s t j : ByteArray) : Prop where
 size : j.size = s.size + 1 + t.size
 left : ∀ k, k < s.size → bt j k = bt s k
 mid : bt j s.size = 10
 right : ∀ k, bt j (s.size + 1 + k) = bt t k
 cutl : ∀ a b, b ≤ s.size → cut j a b = cut s a b
 cutr : ∀ a b, cut j (s.size + 1 + a) (s.size + 1 + b) = cut t a b
theorem badD_all {s : ByteArray} (i : Nat) : badD s i = none → ∀ k, i ≤ k → k < s.size → okB (bt s k) = true := by
 induction i using badD.induct s with
 | case1 i h hp ih =>
  intro hn k h1 h2
  rw [badD, dif_pos h, if_pos hp] at hn
  by_cases e : k = i
  · rw [e]; exact hp
  · exact ih hn k (by omega) h2
 | case2 i h hp => intro hn; rw [badD, dif_pos h, if_neg hp] at hn; cases hn
 | case3 i h => intro hn k h1 h2; omega
theorem Sorts.below {w w' : World} (h : Sorts w) (hb : Below w.heap.size w w') (h0 : 1 < w.heap.size) : Sorts w' := fun k hk => by
 have e : w'.heap[1]? = w.heap[1]? := hb.block 1 h0
 have hc := h k hk
 unfold World.cell? at hc ⊢
 simp only at hc ⊢
 rw [e]
 exact hc
theorem ok_ascii {s : ByteArray} (h : badD s 0 = none) : ∀ k, k < s.size → bt s k < 128 := by
 intro k hk
 have := (okB_cases _).1 (badD_all 0 h k (by omega) hk)
 omega
def PkRel (s : ByteArray) (w : World) (l : Value) (wr : World) : Prop :=
 ∃ (k : Nat) (ts : List Tok) (a : Option Addr) (cap : Nat), k ≤ s.size ∧ ts.length ≤ k ∧ l = .slice a ts.length cap ∧ wr.ownsRow w.heap.size 59 4 (.slice a ts.length cap) ts.length (ts.flatMap tokRow) ∧ FltB wr w.heap.size ∧ Scan wr (w.heap.size + 1) s k ∧ Below w.heap.size w wr ∧ toksD s k ts = lexD s
theorem gr_b {w w1 w2 : World} (h : Below w.heap.size w w1) (hg : w1.grownBy w2 (some (w.heap.size + 1))) : Below w.heap.size w w2 :=
 h.grown hg h.size (fun k hk => by injection hk with hk; omega)
theorem ptoks_any (s : ByteArray) (w : World) (hso : Sorts w) (h0 : 1 < w.heap.size) : Calls Tryz.prog 15 #[.string s] w (LexPost s w) := by
 have HSO := lh hso
 clear hso
 obtain ⟨W, hW⟩ : ∃ W, W = w.alloc (.cells #[.int .i64 0, .int .i64 0] 29) := ⟨_, rfl⟩
 have hfl : FltB W w.heap.size := by rw [hW]; exact heap_alloc_new w _
 have hbl : Below w.heap.size w W := by rw [hW]; exact (Below.refl _ _).alloc (Nat.le_refl _) _
 have HW := lh hW
 have HF := lh hfl
 have HB := lh hbl
 obtain ⟨i59, hi, hz0, hz1, hz2⟩ := info_parts info59
 have HI := lh hi
 have x0 : W.cell? ⟨w.heap.size, 0, none⟩ = some (.int .i64 0) := blk_cell hfl 0
 have x1 : W.cell? ⟨w.heap.size, 1, none⟩ = some (.int .i64 0) := blk_cell hfl 1
 have z0 := blk_free hfl 0
 have z1 := blk_free hfl 1
 have l0 : w.heap.size < W.heap.size := lt_of_block hfl
 clear hW hfl hbl hi
 by_cases hbig : 4000 < s.size
 · have hd : decide ((4000 : Int) < (s.size : Int)) = true := by simp; omega
   have hlx : lexD s = ([], (1, 0)) := by unfold lexD; rw [if_pos hbig]
   have HLX := lh hlx
   clear hlx
   go_enter Tryz.func15, Tryz.ntmps15
   go_upto_region 1 with fail
   rw [← HW.out]
   go_wp2_with fail
   refine bodyPost_ret (v := .tuple #[.slice none 0 0, .agg #[.int .i64 1, .int .i64 0]]) (by simp [results, Tryz.results15, go_sem, x0, x1, z0, z1, l0]) rfl ?_
   refine LexPost.mk' HLX.out rfl (World.ownsRow_nil _ _ _ _) ?_
   exact (HB.out.setCell (p := ⟨w.heap.size, 0, none⟩) (Nat.le_refl _) _).setCell (p := ⟨w.heap.size, 1, none⟩) (Nat.le_refl _) _
 · have hd : decide ((4000 : Int) < (s.size : Int)) = false := by simp; omega
   have hs : s.size ≤ 4000 := by omega
   have hlx : lexD s = match badD s 0 with | some i => ([], (2, i)) | none => toksD s 0 [] := by unfold lexD; rw [if_neg hbig]; rfl
   have HLX := lh hlx
   clear hlx
   go_enter Tryz.func15, Tryz.ntmps15
   go_upto_region 1 with fail
   rw [← HW.out]
   go_wp2_with fail
   go_loop [17] (fun i => ∃ k : Nat, k ≤ s.size ∧ i = .int .i64 k ∧ badD s k = badD s 0) (fun i => s.size - (intOf i).toNat)
   case atStart => exact ⟨0, Nat.zero_le _, rfl, rfl⟩
   case round =>
    obtain ⟨k, hk, rfl, hc⟩ := hrel
    have HC := lh hc
    clear hc hd
    by_cases hlt : k < s.size
    · have k0 : (0 : Int) ≤ (k : Int) := by omega
      have k1 : (k : Int) < (s.size : Int) := by omega
      obtain ⟨c, hcb⟩ : ∃ c, c = bt s k := ⟨_, rfl⟩
      have hck := bt_eq hlt hcb
      cases hok : okB c with
      | true =>
       have hst := badD_step hlt (by rw [← hcb]; exact hok)
       rw [HC.out] at hst
       have HST := lh hst
       have hcs := (okB_cases c).1 hok
       clear hst hcb hok x0 x1 z0 z1
       by_cases c9 : c = 9
       · have e9 : ((c : Int) != 9) = false := by simp [c9]
         clear hcs c9
         go_wp2_with fail
         go_round
         case rel => exact ⟨k + 1, by omega, by go_num, HST.out.symm⟩
         case measure => simp [intOf]; omega
       · have e9 : ((c : Int) != 9) = true := by simp; omega
         by_cases c10 : c = 10
         · have e10 : ((c : Int) != 10) = false := by simp [c10]
           clear hcs c9 c10
           go_wp2_with fail
           go_round
           case rel => exact ⟨k + 1, by omega, by go_num, HST.out.symm⟩
           case measure => simp [intOf]; omega
         · have e10 : ((c : Int) != 10) = true := by simp; omega
           have e32 : decide ((c : Int) < 32) = false := by simp; omega
           have e126 : decide ((126 : Int) < (c : Int)) = false := by simp; omega
           clear hcs c9 c10
           go_wp2_with fail
           go_round
           case rel => exact ⟨k + 1, by omega, by go_num, HST.out.symm⟩
           case measure => simp [intOf]; omega
      | false =>
       have hst := badD_here hlt (by rw [← hcb]; exact hok)
       rw [HC.out] at hst
       have hlx := HLX.out
       rw [hst] at hlx
       have HLX2 := lh hlx
       have hcs : ¬ (c = 9 ∨ c = 10 ∨ (32 ≤ c ∧ c ≤ 126)) := fun h => by rw [(okB_cases c).2 h] at hok; cases hok
       have e9 : ((c : Int) != 9) = true := by simp; omega
       have e10 : ((c : Int) != 10) = true := by simp; omega
       clear hlx hst hcb hok
       by_cases c32 : c < 32
       · have e32 : decide ((c : Int) < 32) = true := by simp; omega
         clear hcs c32
         go_wp2_with fail
         refine bodyPost_ret (v := .tuple #[.slice none 0 0, .agg #[.int .i64 2, .int .i64 k]]) (by simp [results, Tryz.results15, go_sem, x0, x1, z0, z1, l0]) rfl ?_
         refine LexPost.mk' HLX2.out rfl (World.ownsRow_nil _ _ _ _) ?_
         exact (HB.out.setCell (p := ⟨w.heap.size, 0, none⟩) (Nat.le_refl _) _).setCell (p := ⟨w.heap.size, 1, none⟩) (Nat.le_refl _) _
       · have e32 : decide ((c : Int) < 32) = false := by simp; omega
         have e126 : decide ((126 : Int) < (c : Int)) = true := by simp; omega
         clear hcs c32
         go_wp2_with fail
         refine bodyPost_ret (v := .tuple #[.slice none 0 0, .agg #[.int .i64 2, .int .i64 k]]) (by simp [results, Tryz.results15, go_sem, x0, x1, z0, z1, l0]) rfl ?_
         refine LexPost.mk' HLX2.out rfl (World.ownsRow_nil _ _ _ _) ?_
         exact (HB.out.setCell (p := ⟨w.heap.size, 0, none⟩) (Nat.le_refl _) _).setCell (p := ⟨w.heap.size, 1, none⟩) (Nat.le_refl _) _
    · have hst := badD_end (s := s) (i := k) (by omega)
      rw [HC.out] at hst
      have hst0 := hst
      have hlx := HLX.out
      rw [hst] at hlx
      have HLX2 := lh hlx
      clear hlx hst HLX
      have hasc := ok_ascii hst0
      have hf2 : FltB (W.alloc (.cells #[.string s, .int .i64 0] 56)) w.heap.size := blk_alloc HF.out _
      have hs2 : Scan (W.alloc (.cells #[.string s, .int .i64 0] 56)) (w.heap.size + 1) s 0 := by
       have h2 := heap_alloc_new W (.cells #[.string s, .int .i64 0] 56)
       have e : W.heap.size = w.heap.size + 1 := by rw [HW.out, World.size_alloc]
       rw [e] at h2
       exact h2
      have hb2 := balloc HB.out (.cells #[.string s, .int .i64 0] 56)
      have HF0 := lh hf2
      have HS0 := lh hs2
      have HB0 := lh hb2
      clear hf2 hs2 hb2 hst0 HF HB
      have hWn : W.heap.size = w.heap.size + 1 := by rw [HW.out, World.size_alloc]
      go_wp2_with fail
      clear x0 x1 z0 z1 l0
      try rw [hWn]
      go_loopw [7] (fun l wr => PkRel s w l wr) (fun _ wr => s.size - atOf wr (w.heap.size + 1))
      case atStart => exact ⟨0, [], none, 0, Nat.zero_le _, by simp, rfl, World.ownsRow_nil _ _ _ _, HF0.out, HS0.out, HB0.out, HLX2.out.symm⟩
      case round =>
       obtain ⟨k, ts, a, cap, hk, hl, rfl, hown, hfl, hsc, hbl, hc⟩ := hrel
       have HAT := lh hsc.at
       have hge := gapD_ge (s := s) k hk
       have HC := lh hc
       clear HF0 HS0 HB0 HLX2 hc
       have HO0 := lh hown
       have HF0 := lh hfl
       have HB0 := lh hbl
       have HS0 := lh hsc
       clear hown hfl hbl hsc
       go_wp2_with fail
       refine (gap_any s (w.heap.size + 1) k wr HS0.out hs hk (HSO.out.below HB0.out h0) hasc (by omega)).mono ?_
       rintro e w2 ⟨rfl, hs2, hg2⟩
       have HB := lh (gr_b HB0.out hg2)
       have HF : Hid (FltB w2 w.heap.size) := lh (blk_grown HF0.out hg2 (by intro e; injection e with e; omega))
       have HO := lh (own_keep HO0.out hg2 (fun q hq => by cases hq; exact ⟨_, _, _, HS0.out, by decide⟩))
       cases hg : gapD s k with
       | mk j ok =>
        rw [hg] at hge hs2
        simp only at hge hs2
        obtain ⟨hkj, hjs⟩ := hge
        have HS := lh hs2
        clear hs2 hg2 HF0 HO0 HB0 HS0
        have j0 : (0 : Int) ≤ (j : Int) := by omega
        have x0 : w2.cell? ⟨w.heap.size, 0, none⟩ = some (.int .i64 0) := blk_cell HF.out 0
        have x1 : w2.cell? ⟨w.heap.size, 1, none⟩ = some (.int .i64 0) := blk_cell HF.out 1
        have z0 := blk_free HF.out 0
        have z1 := blk_free HF.out 1
        have l0 : w.heap.size < w2.heap.size := lt_of_block HF.out
        obtain ⟨r0, r1, zz, l1⟩ := HS.out.facts
        cases ok with
        | false =>
         have hst := toksD_bad (l := ts) hg
         rw [HC.out] at hst
         have HST := lh hst
         clear hst hg
         have n1 : ¬ (w.heap.size = w.heap.size + 1) := by omega
         have n2 : ¬ (w.heap.size + 1 = w.heap.size) := by omega
         go_wp2_with fail
         go_region
         all_goals go_wp2_with fail
         all_goals
          refine bodyPost_ret (v := .tuple #[.slice a ts.length cap, .agg #[.int .i64 3, .int .i64 j]]) (by simp [results, Tryz.results15, go_sem, x0, x1, z0, z1, l0]) rfl ?_
          refine LexPost.mk' HST.out rfl (own_keep (own_set (own_set HO.out HF.out (by decide) _ _) (blk_set HF.out _ _) (by decide) _ _) (gr_drew _ 1 none) (fun q h => by cases h)) ?_
          exact bdrewN ((HB.out.setCell (p := ⟨w.heap.size, 0, none⟩) (Nat.le_refl _) _).setCell (p := ⟨w.heap.size, 1, none⟩) (Nat.le_refl _) _) 1
        | true =>
         have hlo : ∀ g, (Value.slice a ts.length cap).ownBlock = some g → w.heap.size ≤ g := fun g hg => (HO.out.lt g hg).1
         have hnb : (Value.slice a ts.length cap).ownBlock ≠ some w.heap.size := own_ne HF.out HO.out (by decide)
         have hns : (Value.slice a ts.length cap).ownBlock ≠ some (w.heap.size + 1) := own_ne HS.out HO.out (by decide)
         by_cases hjz : j = s.size
         · have hde : ((j : Int) == (s.size : Int)) = true := by simp; omega
           subst hjz
           have hst := toksD_end (l := ts) hg
           rw [HC.out] at hst
           have HST := lh hst
           clear hst hg x0 x1 z0 z1 l0
           have hWs : w.heap.size ≤ w2.heap.size := HB.out.size
           go_wp2_with (first | (at_builtin; go_must (refine wpList_append_own _ rfl (.tmp 59) (.tmp 65) 36 rfl w.heap.size 59 i59 (.agg #[.int .i64 0, .int .i64 0, .string ⟨#[]⟩, .int .i64 0]) 4 40 Tryz.underlying36 HI.out hz0 hz1 hz2 rfl (by decide) (.slice a ts.length cap) ts.length (ts.flatMap tokRow) rfl (HO.out.alloc _) ⟨w2.heap.size, 0, none⟩ 1 1 [.int .i64 0, .int .i64 (s.size : Nat), .string ⟨#[]⟩, .int .i64 0] rfl rfl (new_cells (c := #[.int .i64 0, .int .i64 (s.size : Nat), .string ⟨#[]⟩, .int .i64 0]) _ (by simp)) (tok_ones _ _ _ _) (by unfold maxLen; omega) (by omega) (by simp; omega) ?_)))
           intro v5 w5 hown5 hg5 hnil5
           obtain ⟨g5, cap5, hv5⟩ := own_shape hown5 hnil5
           rw [hv5] at hown5 ⊢
           clear hnil5 hv5
           have hf5 : FltB w5 w.heap.size := blk_grown (blk_alloc HF.out _) hg5 hnb
           have hb5 : Below w.heap.size w w5 := (balloc HB.out _).grown hg5 (by simp; omega) hlo
           have ho5 : w5.ownsRow w.heap.size 59 4 (.slice (some ⟨g5, 0, none⟩) (ts ++ [((0, s.size, ByteArray.empty, 0) : Tok)]).length cap5) (ts ++ [((0, s.size, ByteArray.empty, 0) : Tok)]).length ((ts ++ [((0, s.size, ByteArray.empty, 0) : Tok)]).flatMap tokRow) := by
            rw [List.length_append, List.flatMap_append]
            exact hown5
           clear HF HB HO hown5 hg5 hlo hnb hns r0 r1 zz l1
           have HF := lh hf5
           have HB := lh hb5
           have HO := lh ho5
           clear hf5 hb5 ho5
           have x0 : w5.cell? ⟨w.heap.size, 0, none⟩ = some (.int .i64 0) := blk_cell HF.out 0
           have x1 : w5.cell? ⟨w.heap.size, 1, none⟩ = some (.int .i64 0) := blk_cell HF.out 1
           have z0 := blk_free HF.out 0
           have z1 := blk_free HF.out 1
           have l0 : w.heap.size < w5.heap.size := lt_of_block HF.out
           go_wp2_with fail
           refine bodyPost_ret (v := .tuple #[.slice (some ⟨g5, 0, none⟩) (ts.length + 1) cap5, .agg #[.int .i64 0, .int .i64 0]]) (by simp [results, Tryz.results15, go_sem, x0, x1, z0, z1, l0]) rfl ?_
           refine LexPost.mk' HST.out (by rw [List.length_append]; rfl) (own_set (own_set HO.out HF.out (by decide) _ _) (blk_set HF.out _ _) (by decide) _ _) ?_
           exact (HB.out.setCell (p := ⟨w.heap.size, 0, none⟩) (Nat.le_refl _) _).setCell (p := ⟨w.heap.size, 1, none⟩) (Nat.le_refl _) _
         · have hde : ((j : Int) == (s.size : Int)) = false := by simp; omega
           have hj2 : j < s.size := by omega
           have HG := lh hg
           have HJZ := lh hjz
           clear hg hjz x0 x1 z0 z1 l0 hlo hnb hns
           go_wp2_with fail
           refine (next_any s (w.heap.size + 1) j w2 HS.out hs hj2 (HSO.out.below HB.out h0) hasc (by omega)).mono ?_
           rintro e w4 ⟨hg4, hp⟩
           have hb4 := gr_b HB.out hg4
           have hf4 : FltB w4 w.heap.size := blk_grown HF.out hg4 (by intro e; injection e with e; omega)
           have ho4 := own_keep HO.out hg4 (fun q hq => by cases hq; exact ⟨_, _, _, HS.out, by decide⟩)
           clear HF HB HO HS r0 r1 zz l1 hg4
           have HF := lh hf4
           have HB := lh hb4
           have HO := lh ho4
           clear hf4 hb4 ho4
           have x0 : w4.cell? ⟨w.heap.size, 0, none⟩ = some (.int .i64 0) := blk_cell HF.out 0
           have x1 : w4.cell? ⟨w.heap.size, 1, none⟩ = some (.int .i64 0) := blk_cell HF.out 1
           have z0 := blk_free HF.out 0
           have z1 := blk_free HF.out 1
           have l0 : w.heap.size < w4.heap.size := lt_of_block HF.out
           cases htk : tokD s j with
           | none =>
            rw [htk] at hp
            obtain ⟨tk, ta, tn, tx, rfl⟩ := hp
            have hst := toksD_none (l := ts) HG.out HJZ.out htk
            rw [HC.out] at hst
            have HST := lh hst
            clear hst htk
            go_wp2_with fail
            refine bodyPost_ret (v := .tuple #[.slice a ts.length cap, .agg #[.int .i64 3, .int .i64 j]]) (by simp [results, Tryz.results15, go_sem, x0, x1, z0, z1, l0]) rfl ?_
            refine LexPost.mk' HST.out rfl ((own_set (own_set HO.out HF.out (by decide) _ _) (blk_set HF.out _ _) (by decide) _ _).alloc _) ?_
            exact balloc ((HB.out.setCell (p := ⟨w.heap.size, 0, none⟩) (Nat.le_refl _) _).setCell (p := ⟨w.heap.size, 1, none⟩) (Nat.le_refl _) _) _
           | some r =>
            obtain ⟨⟨t1, t2, t3, t4⟩, q⟩ := r
            rw [htk] at hp
            obtain ⟨rfl, hs4⟩ := hp
            have hlt3 := tokD_lt hj2 htk
            have hst := toksD_some (l := ts) hk HG.out HJZ.out htk
            rw [HC.out] at hst
            have HST := lh hst
            have HS := lh hs4
            clear hst htk x0 x1 z0 z1 l0 hs4
            have hWs : w.heap.size ≤ w4.heap.size := HB.out.size
            unfold tokV
            dsimp only
            have hlo : ∀ g, (Value.slice a ts.length cap).ownBlock = some g → w.heap.size ≤ g := fun g hg => (HO.out.lt g hg).1
            have hnb : (Value.slice a ts.length cap).ownBlock ≠ some w.heap.size := own_ne HF.out HO.out (by decide)
            have hns : (Value.slice a ts.length cap).ownBlock ≠ some (w.heap.size + 1) := own_ne HS.out HO.out (by decide)
            go_wp2_with (first | (at_builtin; go_must (refine wpList_append_own _ rfl (.tmp 82) (.tmp 84) 36 rfl w.heap.size 59 i59 (.agg #[.int .i64 0, .int .i64 0, .string ⟨#[]⟩, .int .i64 0]) 4 40 Tryz.underlying36 HI.out hz0 hz1 hz2 rfl (by decide) (.slice a ts.length cap) ts.length (ts.flatMap tokRow) rfl ((HO.out.alloc _).alloc _) ⟨w4.heap.size + 1, 0, none⟩ 1 1 [.int .i64 t1, .int .i64 t2, .string t3, .int .i64 t4] rfl rfl (new_cells (c := #[.int .i64 t1, .int .i64 t2, .string t3, .int .i64 t4]) _ (by simp)) (tok_ones _ _ _ _) (by unfold maxLen; omega) (by omega) (by simp; omega) ?_)))
            intro v5 w5 hown5 hg5 hnil5
            obtain ⟨g5, cap5, hv5⟩ := own_shape hown5 hnil5
            rw [hv5] at hown5 ⊢
            clear hnil5 hv5
            have hf5 : FltB w5 w.heap.size := blk_grown (blk_alloc (blk_alloc HF.out _) _) hg5 hnb
            have hs5 : Scan w5 (w.heap.size + 1) s q := blk_grown (blk_alloc (blk_alloc HS.out _) _) hg5 hns
            have hb5 : Below w.heap.size w w5 := (balloc (balloc HB.out _) _).grown hg5 (by simp; omega) hlo
            have ho5 : w5.ownsRow w.heap.size 59 4 (.slice (some ⟨g5, 0, none⟩) (ts ++ [((t1, t2, t3, t4) : Tok)]).length cap5) (ts ++ [((t1, t2, t3, t4) : Tok)]).length ((ts ++ [((t1, t2, t3, t4) : Tok)]).flatMap tokRow) := by
             rw [List.length_append, List.flatMap_append]
             exact hown5
            have HF5 := lh hf5
            have HB5 := lh hb5
            have HO5 := lh ho5
            have HS5 := lh hs5
            clear hf5 hb5 ho5 hs5 hown5 hg5 hlo hnb hns HO HB HF HS
            go_wp2_with fail
            go_roundw
            case rel => exact ⟨q, ts ++ [(t1, t2, t3, t4)], _, cap5, by omega, by rw [List.length_append]; simp; omega, by rw [List.length_append]; rfl, HO5.out, HF5.out, HS5.out, HB5.out, HST.out.symm⟩
            case measure => rw [HS5.out.at, HAT.out]; omega
end Go.Proofs.YthehjeeiodbkjaaGreatDoor
