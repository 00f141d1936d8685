/-
  Proved: Proved: the contract of the reference's Tokens. No condition.. Conditions: .
-/
import Derived.Test.YthehjeeiodbkjaaGreatDoorE05
import Derived.BigRegion
set_option linter.unusedSimpArgs false
set_option linter.unusedVariables false
set_option maxRecDepth 100000
set_option maxHeartbeats 16000000
namespace Go.Proofs.YthehjeeiodbkjaaGreatDoor
open Go.RowKit
theorem info59 : (Tryz.prog.info? 59).map (fun i => (i.zero, i.size, i.bytes)) = some (some (.agg #[.int .i64 0, .int .i64 0, .string ⟨#[]⟩, .int .i64 0]), 4, 40) := by kernel_rfl
/-- a token's cells -/
def tokRow (t : Tok) : List Value := [.int .i64 t.1, .int .i64 t.2.1, .string t.2.2.1, .int .i64 t.2.2.2]
/-- what Tokens leaves -/
def LexPost (s : ByteArray) (w : World) (e : Ending) (w' : World) : Prop :=
 ∃ a cap, e = .returned (.tuple #[.slice a (lexD s).1.length cap, .agg #[.int .i64 (lexD s).2.1, .int .i64 (lexD s).2.2]]) ∧
  w'.ownsRow w.heap.size 59 4 (.slice a (lexD s).1.length cap) (lexD s).1.length ((lexD s).1.flatMap tokRow) ∧ Below w.heap.size w w'
theorem LexPost.mk' {s : ByteArray} {w w' : World} {e : Ending} {l : List Tok} {f : Nat × Nat} {a : Option Addr} {cap : Nat} (h : lexD s = (l, f)) (he : e = .returned (.tuple #[.slice a l.length cap, .agg #[.int .i64 f.1, .int .i64 f.2]]))
 (ho : w'.ownsRow w.heap.size 59 4 (.slice a l.length cap) l.length (l.flatMap tokRow)) (hb : Below w.heap.size w w') : LexPost s w e w' := by
 unfold LexPost
 rw [h]
 exact ⟨a, cap, he, ho, hb⟩
theorem tok_ones (a b d : Int) (x : ByteArray) : ∀ u ∈ ([.int .i64 a, .int .i64 b, .string x, .int .i64 d] : List Value), u.oneCell' = true := by
 intro u hu
 simp only [List.mem_cons, List.not_mem_nil, or_false] at hu
 rcases hu with rfl | rfl | rfl | rfl <;> rfl
abbrev FltB (W : World) (b : Nat) : Prop := W.heap[b]? = some (.cells #[.int .i64 0, .int .i64 0] 29 (0, 0))
theorem okB_cases (c : Nat) : okB c = true ↔ (c = 9 ∨ c = 10 ∨ (32 ≤ c ∧ c ≤ 126)) := by simp [okB]
theorem badD_step {s : ByteArray} {i : Nat} (h : i < s.size) (ho : okB (bt s i) = true) : badD s i = badD s (i + 1) := by rw [badD, dif_pos h, if_pos ho]
theorem badD_here {s : ByteArray} {i : Nat} (h : i < s.size) (ho : okB (bt s i) = false) : badD s i = some i := by rw [badD, dif_pos h, if_neg (by simp [ho])]
theorem badD_end {s : ByteArray} {i : Nat} (h : s.size ≤ i) : badD s i = none := by rw [badD, dif_neg (by omega)]
def TkRel (s : ByteArray) (w : World) (l i : Value) (wr : World) : Prop :=
 ∃ (k : Nat) (ts : List Tok) (a : Option Addr) (cap : Nat), k ≤ s.size ∧ ts.length ≤ k ∧ i = .int .i64 k ∧ l = .slice a ts.length cap ∧ wr.ownsRow w.heap.size 59 4 (.slice a ts.length cap) ts.length (ts.flatMap tokRow) ∧ FltB wr w.heap.size ∧ Below w.heap.size w wr ∧ toksD s k ts = lexD s
theorem rtoks_any (s : ByteArray) (w : World) : Calls Tryz.prog 101 #[.string s] w (LexPost s w) := by
 obtain ⟨W, hW⟩ : ∃ W, W = w.alloc (.cells #[.int .i64 0, .int .i64 0] 29) := ⟨_, rfl⟩
 have hfl : FltB W w.heap.size := by rw [hW]; exact heap_alloc_new w _
 have hbl : Below w.heap.size w W := by rw [hW]; exact (Below.refl _ _).alloc (Nat.le_refl _) _
 have HW := lh hW
 have HF := lh hfl
 have HB := lh hbl
 obtain ⟨i59, hi, hz0, hz1, hz2⟩ := info_parts info59
 have HI := lh hi
 have x0 : W.cell? ⟨w.heap.size, 0, none⟩ = some (.int .i64 0) := blk_cell hfl 0
 have x1 : W.cell? ⟨w.heap.size, 1, none⟩ = some (.int .i64 0) := blk_cell hfl 1
 have z0 := blk_free hfl 0
 have z1 := blk_free hfl 1
 have l0 : w.heap.size < W.heap.size := lt_of_block hfl
 clear hW hfl hbl hi
 by_cases hbig : 4000 < s.size
 · have hd : decide ((4000 : Int) < (s.size : Int)) = true := by simp; omega
   have hlx : lexD s = ([], (1, 0)) := by unfold lexD; rw [if_pos hbig]
   have HLX := lh hlx
   clear hlx
   go_enter Tryz.func101, Tryz.ntmps101
   go_upto_region 1 with fail
   rw [← HW.out]
   go_wp2_with fail
   refine bodyPost_ret (v := .tuple #[.slice none 0 0, .agg #[.int .i64 1, .int .i64 0]]) (by simp [results, Tryz.results101, go_sem, x0, x1, z0, z1, l0]) rfl ?_
   refine LexPost.mk' HLX.out rfl (World.ownsRow_nil _ _ _ _) ?_
   exact (HB.out.setCell (p := ⟨w.heap.size, 0, none⟩) (Nat.le_refl _) _).setCell (p := ⟨w.heap.size, 1, none⟩) (Nat.le_refl _) _
 · have hd : decide ((4000 : Int) < (s.size : Int)) = false := by simp; omega
   have hs : s.size ≤ 4000 := by omega
   have hlx : lexD s = match badD s 0 with | some i => ([], (2, i)) | none => toksD s 0 [] := by unfold lexD; rw [if_neg hbig]; rfl
   have HLX := lh hlx
   clear hlx
   go_enter Tryz.func101, Tryz.ntmps101
   go_upto_region 1 with fail
   rw [← HW.out]
   go_wp2_with fail
   go_loop [4] (fun i => ∃ k : Nat, k ≤ s.size ∧ i = .int .i64 k ∧ badD s k = badD s 0) (fun i => s.size - (intOf i).toNat)
   case atStart => exact ⟨0, Nat.zero_le _, rfl, rfl⟩
   case round =>
    obtain ⟨k, hk, rfl, hc⟩ := hrel
    have HC := lh hc
    clear hc hd
    by_cases hlt : k < s.size
    · have k0 : (0 : Int) ≤ (k : Int) := by omega
      have k1 : (k : Int) < (s.size : Int) := by omega
      obtain ⟨c, hcb⟩ : ∃ c, c = bt s k := ⟨_, rfl⟩
      have hck := bt_eq hlt hcb
      cases hok : okB c with
      | true =>
       have hst := badD_step hlt (by rw [← hcb]; exact hok)
       rw [HC.out] at hst
       have HST := lh hst
       have hcs := (okB_cases c).1 hok
       clear hst hcb hok x0 x1 z0 z1
       by_cases c9 : c = 9
       · have e9 : ((c : Int) != 9) = false := by simp [c9]
         clear hcs c9
         go_wp2_with fail
         go_round
         case rel => exact ⟨k + 1, by omega, by go_num, HST.out.symm⟩
         case measure => simp [intOf]; omega
       · have e9 : ((c : Int) != 9) = true := by simp; omega
         by_cases c10 : c = 10
         · have e10 : ((c : Int) != 10) = false := by simp [c10]
           clear hcs c9 c10
           go_wp2_with fail
           go_round
           case rel => exact ⟨k + 1, by omega, by go_num, HST.out.symm⟩
           case measure => simp [intOf]; omega
         · have e10 : ((c : Int) != 10) = true := by simp; omega
           have e32 : decide ((c : Int) < 32) = false := by simp; omega
           have e126 : decide ((126 : Int) < (c : Int)) = false := by simp; omega
           clear hcs c9 c10
           go_wp2_with fail
           go_round
           case rel => exact ⟨k + 1, by omega, by go_num, HST.out.symm⟩
           case measure => simp [intOf]; omega
      | false =>
       have hst := badD_here hlt (by rw [← hcb]; exact hok)
       rw [HC.out] at hst
       have hlx := HLX.out
       rw [hst] at hlx
       have HLX2 := lh hlx
       have hcs : ¬ (c = 9 ∨ c = 10 ∨ (32 ≤ c ∧ c ≤ 126)) := fun h => by rw [(okB_cases c).2 h] at hok; cases hok
       have e9 : ((c : Int) != 9) = true := by simp; omega
       have e10 : ((c : Int) != 10) = true := by simp; omega
       clear hlx hst hcb hok
       by_cases c32 : c < 32
       · have e32 : decide ((c : Int) < 32) = true := by simp; omega
         clear hcs c32
         go_wp2_with fail
         refine bodyPost_ret (v := .tuple #[.slice none 0 0, .agg #[.int .i64 2, .int .i64 k]]) (by simp [results, Tryz.results101, go_sem, x0, x1, z0, z1, l0]) rfl ?_
         refine LexPost.mk' HLX2.out rfl (World.ownsRow_nil _ _ _ _) ?_
         exact (HB.out.setCell (p := ⟨w.heap.size, 0, none⟩) (Nat.le_refl _) _).setCell (p := ⟨w.heap.size, 1, none⟩) (Nat.le_refl _) _
       · have e32 : decide ((c : Int) < 32) = false := by simp; omega
         have e126 : decide ((126 : Int) < (c : Int)) = true := by simp; omega
         clear hcs c32
         go_wp2_with fail
         refine bodyPost_ret (v := .tuple #[.slice none 0 0, .agg #[.int .i64 2, .int .i64 k]]) (by simp [results, Tryz.results101, go_sem, x0, x1, z0, z1, l0]) rfl ?_
         refine LexPost.mk' HLX2.out rfl (World.ownsRow_nil _ _ _ _) ?_
         exact (HB.out.setCell (p := ⟨w.heap.size, 0, none⟩) (Nat.le_refl _) _).setCell (p := ⟨w.heap.size, 1, none⟩) (Nat.le_refl _) _
    · have hst := badD_end (s := s) (i := k) (by omega)
      rw [HC.out] at hst
      have hlx := HLX.out
      rw [hst] at hlx
      have HLX2 := lh hlx
      clear hlx hst HLX
      go_wp2_with fail
      clear x0 x1 z0 z1 l0
      go_loopw [5, 6] (fun l i wr => TkRel s w l i wr) (fun _ i _ => s.size - (intOf i).toNat)
      case atStart => exact ⟨0, [], none, 0, Nat.zero_le _, by simp, rfl, rfl, World.ownsRow_nil _ _ _ _, HF.out, HB.out, HLX2.out.symm⟩
      case round =>
       obtain ⟨k, ts, a, cap, hk, hl, rfl, rfl, hown, hfl, hbl, hc⟩ := hrel
       have x0 : wr.cell? ⟨w.heap.size, 0, none⟩ = some (.int .i64 0) := blk_cell hfl 0
       have x1 : wr.cell? ⟨w.heap.size, 1, none⟩ = some (.int .i64 0) := blk_cell hfl 1
       have z0 := blk_free hfl 0
       have z1 := blk_free hfl 1
       have l0 : w.heap.size < wr.heap.size := lt_of_block hfl
       have HF2 := lh hfl
       have HB2 := lh hbl
       have HO := lh hown
       have HC := lh hc
       have hge := gapD_ge (s := s) k hk
       clear hfl hbl hown hc HF HB HLX2
       go_wp2_with fail
       refine (rgap_any s k _ hs hk).mono ?_
       rintro e w' ⟨rfl, rfl⟩
       unfold blankGap
       cases hg : gapD s k with
       | mk j ok =>
        rw [hg] at hge
        simp only at hge
        obtain ⟨hkj, hjs⟩ := hge
        have j0 : (0 : Int) ≤ (j : Int) := by omega
        cases ok with
        | false =>
         have hst := toksD_bad (l := ts) hg
         rw [HC.out] at hst
         have HST := lh hst
         clear hst hg
         go_wp2_with fail
         refine bodyPost_ret (v := .tuple #[.slice a ts.length cap, .agg #[.int .i64 3, .int .i64 j]]) (by simp [results, Tryz.results101, go_sem, x0, x1, z0, z1, l0]) rfl ?_
         refine LexPost.mk' HST.out rfl (own_set (own_set HO.out HF2.out (by decide) _ _) (blk_set HF2.out _ _) (by decide) _ _) ?_
         exact (HB2.out.setCell (p := ⟨w.heap.size, 0, none⟩) (Nat.le_refl _) _).setCell (p := ⟨w.heap.size, 1, none⟩) (Nat.le_refl _) _
        | true =>
         by_cases hjz : j = s.size
         · have hde : ((j : Int) == (s.size : Int)) = true := by simp; omega
           subst hjz
           have hst := toksD_end (l := ts) hg
           rw [HC.out] at hst
           have HST := lh hst
           clear hst hg x0 x1 z0 z1 l0
           have hlo : ∀ g, (Value.slice a ts.length cap).ownBlock = some g → w.heap.size ≤ g := fun g hg => (HO.out.lt g hg).1
           have hnb : (Value.slice a ts.length cap).ownBlock ≠ some w.heap.size := own_ne HF2.out HO.out (by decide)
           have hWs : w.heap.size ≤ wr.heap.size := HB2.out.size
           go_wp2_with (first | (at_builtin; go_must (refine wpList_append_own _ rfl (.tmp 60) (.tmp 63) 36 rfl w.heap.size 59 i59 (.agg #[.int .i64 0, .int .i64 0, .string ⟨#[]⟩, .int .i64 0]) 4 40 Tryz.underlying36 HI.out hz0 hz1 hz2 rfl (by decide) (.slice a ts.length cap) ts.length (ts.flatMap tokRow) rfl (HO.out.alloc _) ⟨wr.heap.size, 0, none⟩ 1 1 [.int .i64 0, .int .i64 (s.size : Nat), .string ⟨#[]⟩, .int .i64 0] rfl rfl (new_cells (c := #[.int .i64 0, .int .i64 (s.size : Nat), .string ⟨#[]⟩, .int .i64 0]) _ (by simp)) (tok_ones _ _ _ _) (by unfold maxLen; omega) (by omega) (by simp; omega) ?_)))
           intro v5 w5 hown5 hg5 hnil5
           obtain ⟨g5, cap5, hv5⟩ := own_shape hown5 hnil5
           rw [hv5] at hown5 ⊢
           clear hnil5 hv5
           have hf5 : FltB w5 w.heap.size := blk_grown (blk_alloc HF2.out _) hg5 hnb
           have hb5 : Below w.heap.size w w5 := (balloc HB2.out _).grown hg5 (by simp; omega) hlo
           have ho5 : w5.ownsRow w.heap.size 59 4 (.slice (some ⟨g5, 0, none⟩) (ts ++ [((0, s.size, ByteArray.empty, 0) : Tok)]).length cap5) (ts ++ [((0, s.size, ByteArray.empty, 0) : Tok)]).length ((ts ++ [((0, s.size, ByteArray.empty, 0) : Tok)]).flatMap tokRow) := by
            rw [List.length_append, List.flatMap_append]
            exact hown5
           have x0 : w5.cell? ⟨w.heap.size, 0, none⟩ = some (.int .i64 0) := blk_cell hf5 0
           have x1 : w5.cell? ⟨w.heap.size, 1, none⟩ = some (.int .i64 0) := blk_cell hf5 1
           have z0 := blk_free hf5 0
           have z1 := blk_free hf5 1
           have l0 : w.heap.size < w5.heap.size := lt_of_block hf5
           have HF5 := lh hf5
           have HB5 := lh hb5
           have HO5 := lh ho5
           clear hf5 hb5 ho5 hown5 hg5 hlo hnb HO HB2 HF2
           go_wp2_with fail
           refine bodyPost_ret (v := .tuple #[.slice (some ⟨g5, 0, none⟩) (ts.length + 1) cap5, .agg #[.int .i64 0, .int .i64 0]]) (by simp [results, Tryz.results101, go_sem, x0, x1, z0, z1, l0]) rfl ?_
           refine LexPost.mk' HST.out (by rw [List.length_append]; rfl) (own_set (own_set HO5.out HF5.out (by decide) _ _) (blk_set HF5.out _ _) (by decide) _ _) ?_
           exact (HB5.out.setCell (p := ⟨w.heap.size, 0, none⟩) (Nat.le_refl _) _).setCell (p := ⟨w.heap.size, 1, none⟩) (Nat.le_refl _) _
         · have hde : ((j : Int) == (s.size : Int)) = false := by simp; omega
           have hj2 : j < s.size := by omega
           have HG := lh hg
           have HJZ := lh hjz
           clear hg hjz x0 x1 z0 z1 l0
           go_wp2_with fail
           refine (rtok_any s j _ hs hj2).mono ?_
           intro e w4 hpost
           obtain ⟨hp, hb4⟩ := hpost
           have hf4 : FltB w4 w.heap.size := blk_below HF2.out hb4 (lt_of_block HF2.out)
           have hbl4 : Below w.heap.size w w4 := bthen HB2.out hb4
           have ho4 := own_keep HO.out (gr_below hb4 none) (fun q h => by cases h)
           have x0 : w4.cell? ⟨w.heap.size, 0, none⟩ = some (.int .i64 0) := blk_cell hf4 0
           have x1 : w4.cell? ⟨w.heap.size, 1, none⟩ = some (.int .i64 0) := blk_cell hf4 1
           have z0 := blk_free hf4 0
           have z1 := blk_free hf4 1
           have l0 : w.heap.size < w4.heap.size := lt_of_block hf4
           clear HF2 HB2 HO hb4
           have HF2 := lh hf4
           have HB2 := lh hbl4
           have HO := lh ho4
           clear hf4 hbl4 ho4
           cases htk : tokD s j with
           | none =>
            rw [htk] at hp
            obtain ⟨tk, ta, tn, tx, rfl⟩ := hp
            have hst := toksD_none (l := ts) HG.out HJZ.out htk
            rw [HC.out] at hst
            have HST := lh hst
            clear hst htk
            go_wp2_with fail
            refine bodyPost_ret (v := .tuple #[.slice a ts.length cap, .agg #[.int .i64 3, .int .i64 j]]) (by simp [results, Tryz.results101, go_sem, x0, x1, z0, z1, l0]) rfl ?_
            refine LexPost.mk' HST.out rfl ((own_set (own_set HO.out HF2.out (by decide) _ _) (blk_set HF2.out _ _) (by decide) _ _).alloc _) ?_
            exact balloc ((HB2.out.setCell (p := ⟨w.heap.size, 0, none⟩) (Nat.le_refl _) _).setCell (p := ⟨w.heap.size, 1, none⟩) (Nat.le_refl _) _) _
           | some r =>
            obtain ⟨⟨t1, t2, t3, t4⟩, q⟩ := r
            rw [htk] at hp
            subst hp
            have hlt3 := tokD_lt hj2 htk
            have hst := toksD_some (l := ts) hk HG.out HJZ.out htk
            rw [HC.out] at hst
            have HST := lh hst
            have hdq : decide ((q : Int) < 0) = false := by simp
            have q0 : (0 : Int) ≤ (q : Int) := by omega
            clear hst htk x0 x1 z0 z1 l0
            have hWs : w.heap.size ≤ w4.heap.size := HB2.out.size
            unfold tokV
            dsimp only
            have hlo : ∀ g, (Value.slice a ts.length cap).ownBlock = some g → w.heap.size ≤ g := fun g hg => (HO.out.lt g hg).1
            have hnb : (Value.slice a ts.length cap).ownBlock ≠ some w.heap.size := own_ne HF2.out HO.out (by decide)
            go_wp2_with (first | (at_builtin; go_must (refine wpList_append_own _ rfl (.tmp 78) (.tmp 80) 36 rfl w.heap.size 59 i59 (.agg #[.int .i64 0, .int .i64 0, .string ⟨#[]⟩, .int .i64 0]) 4 40 Tryz.underlying36 HI.out hz0 hz1 hz2 rfl (by decide) (.slice a ts.length cap) ts.length (ts.flatMap tokRow) rfl ((HO.out.alloc _).alloc _) ⟨w4.heap.size + 1, 0, none⟩ 1 1 [.int .i64 t1, .int .i64 t2, .string t3, .int .i64 t4] rfl rfl (new_cells (c := #[.int .i64 t1, .int .i64 t2, .string t3, .int .i64 t4]) _ (by simp)) (tok_ones _ _ _ _) (by unfold maxLen; omega) (by omega) (by simp; omega) ?_)))
            intro v5 w5 hown5 hg5 hnil5
            obtain ⟨g5, cap5, hv5⟩ := own_shape hown5 hnil5
            rw [hv5] at hown5 ⊢
            clear hnil5 hv5
            have hf5 : FltB w5 w.heap.size := blk_grown (blk_alloc (blk_alloc HF2.out _) _) hg5 hnb
            have hb5 : Below w.heap.size w w5 := (balloc (balloc HB2.out _) _).grown hg5 (by simp; omega) hlo
            have ho5 : w5.ownsRow w.heap.size 59 4 (.slice (some ⟨g5, 0, none⟩) (ts ++ [((t1, t2, t3, t4) : Tok)]).length cap5) (ts ++ [((t1, t2, t3, t4) : Tok)]).length ((ts ++ [((t1, t2, t3, t4) : Tok)]).flatMap tokRow) := by
             rw [List.length_append, List.flatMap_append]
             exact hown5
            have HF5 := lh hf5
            have HB5 := lh hb5
            have HO5 := lh ho5
            clear hf5 hb5 ho5 hown5 hg5 hlo hnb HO HB2 HF2
            go_wp2_with fail
            go_roundw
            case rel => exact ⟨q, ts ++ [(t1, t2, t3, t4)], _, cap5, by omega, by rw [List.length_append]; simp; omega, rfl, by rw [List.length_append]; rfl, HO5.out, HF5.out, HB5.out, HST.out.symm⟩
            case measure => simp [intOf]; omega
end Go.Proofs.YthehjeeiodbkjaaGreatDoor
