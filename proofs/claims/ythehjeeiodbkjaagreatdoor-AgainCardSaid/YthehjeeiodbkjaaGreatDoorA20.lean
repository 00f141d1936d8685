/-
  Proved: the contract of the scanner's next at any byte; the contract of the program's Tokens; what the program's readers answer; the case of a text whose tokens are not read. Conditions: the table of sorts, a text of at most 4000 bytes below 128; the table of sorts; the tables as they stand in memory.
-/
import Derived.Test.YthehjeeiodbkjaaGreatDoorA01
import Derived.Test.YthehjeeiodbkjaaGreatDoorA18
import Derived.Test.YthehjeeiodbkjaaGreatDoorA19
import Derived.Test.YthehjeeiodbkjaaGreatDoorA16
import Derived.Test.YthehjeeiodbkjaaGreatDoorA15
import Derived.BigRegion
set_option linter.unusedSimpArgs false
set_option linter.unusedVariables false
set_option maxRecDepth 100000
set_option maxHeartbeats 16000000
namespace Go.Proofs.YthehjeeiodbkjaaGreatDoor
open Go.RowKit
theorem pair_sign : ∀ p ∈ pairL, p.1 ∈ signL := by decide +kernel
theorem tokD_no {s : ByteArray} {i : Nat} (h1 : dig (bt s i) = false) (h2 : bt s i ≠ 34) (h3 : bt s i ≠ 39) (h4 : small (bt s i) = false) (h5 : great (bt s i) = false) (h6 : bt s i ≠ 95) (h7 : bt s i ∉ signL) : tokD s i = none := by
 unfold tokD
 rw [if_neg (by simp [h1]), if_neg h2, if_neg h3, if_neg (by simp [h4, h5, h6]), if_neg (fun h => h7 (pair_sign _ h.2)), if_neg h7]
theorem next_no0 (s : ByteArray) (b i : Nat) (w : World) (hsc : Scan w b s i) (hs : s.size ≤ 4000) (hi : i < s.size) (hso : Sorts w) (hA : ∀ k, k < s.size → bt s k < 128) (hb : 1 ≠ b) (h6 : srt (bt s i) = 0) (hT : tokD s i = none) :
 Calls Tryz.prog 33 #[pv b] w (NextPost s b i w) := by
 obtain ⟨W, hW⟩ : ∃ W, W = (w.alloc (.cells #[.int .i64 0, .int .i64 0, .string ⟨#[]⟩, .int .i64 0] 59)).alloc (.cells #[.int .i64 0, .int .i64 i, .string ⟨#[]⟩, .int .i64 0] 59) := ⟨_, rfl⟩
 have hns : NS w W b s i 0 i ⟨#[]⟩ 0 := by rw [hW]; exact NS.start hsc i
 have hbw := hsc.lt
 have qw0 : (w.alloc (.cells #[.int .i64 0, .int .i64 0, .string ⟨#[]⟩, .int .i64 0] 59)).cell? ⟨b, 0, none⟩ = some (.string s) := blk_cell (blk_alloc hsc _) 0
 have qw1 : (w.alloc (.cells #[.int .i64 0, .int .i64 0, .string ⟨#[]⟩, .int .i64 0] 59)).cell? ⟨b, 1, none⟩ = some (.int .i64 i) := blk_cell (blk_alloc hsc _) 1
 have HSO := lh hso
 have HW := lh hW
 have HV := lh hns
 obtain ⟨s0, s1, z, b0, b1, b2, b3, y0, y1, y2, y3, a0, a1, a2, a3, f0, f2, f3, l0, l1, l2⟩ := hns.facts
 have k0 : (0 : Int) ≤ (i : Int) := by omega
 have k1 : (i : Int) < (s.size : Int) := by omega
 obtain ⟨c, hcb⟩ : ∃ c, c = bt s i := ⟨_, rfl⟩
 have hck := bt_eq hi hcb
 have hc := hA i hi
 rw [← hcb] at hc
 have hsr : W.cell? ⟨1, c, none⟩ = some (.int .i64 (srt c)) := gr_cell HV.out.g hb (HSO.out c hc)
 have HCB := lh hcb
 have c0 : (0 : Int) ≤ (c : Int) := by omega
 have c1 : (c : Int) < 128 := by omega
 have hsv : srt c = 0 := by rw [hcb]; exact h6
 rw [hsv] at hsr
 have HT := lh hT
 clear hT
 clear hcb hso hW hns hsc
 go_enter Tryz.func33, Tryz.ntmps33
 go_upto_region 2 with fail
 rw [← HW.out]
 clear qw0 qw1
 go_quiet (fail)
 go_upto_region 3 with fail
 have hvX := HV.out.drewN nq
 clear HV hsr hck s0 s1 z b0 b1 b2 b3 y0 y1 y2 y3 a0 a1 a2 a3 f0 f2 f3 l0 l1 l2
 generalize W.drewN nq = W1 at hvX ⊢
 have HV := lh hvX
 obtain ⟨s0, s1, z, b0, b1, b2, b3, y0, y1, y2, y3, a0, a1, a2, a3, f0, f2, f3, l0, l1, l2⟩ := hvX.facts
 clear hvX
 go_wp2_with fail
 refine bodyPost_ret (v := .tuple #[.agg #[.int .i64 0, .int .i64 i, .string ⟨#[]⟩, .int .i64 0], .bool false]) (by simp [results, Tryz.results33, go_sem, b0, b1, b2, b3, y0, y1, y2, y3, l1]) rfl ?_
 exact NextPost.bad HT.out rfl (HV.out.fin hbw _ _ _ _).2
theorem next_no1 (s : ByteArray) (b i : Nat) (w : World) (hsc : Scan w b s i) (hs : s.size ≤ 4000) (hi : i < s.size) (hso : Sorts w) (hA : ∀ k, k < s.size → bt s k < 128) (hb : 1 ≠ b) (h6 : srt (bt s i) = 1) (hT : tokD s i = none) :
 Calls Tryz.prog 33 #[pv b] w (NextPost s b i w) := by
 obtain ⟨W, hW⟩ : ∃ W, W = (w.alloc (.cells #[.int .i64 0, .int .i64 0, .string ⟨#[]⟩, .int .i64 0] 59)).alloc (.cells #[.int .i64 0, .int .i64 i, .string ⟨#[]⟩, .int .i64 0] 59) := ⟨_, rfl⟩
 have hns : NS w W b s i 0 i ⟨#[]⟩ 0 := by rw [hW]; exact NS.start hsc i
 have hbw := hsc.lt
 have qw0 : (w.alloc (.cells #[.int .i64 0, .int .i64 0, .string ⟨#[]⟩, .int .i64 0] 59)).cell? ⟨b, 0, none⟩ = some (.string s) := blk_cell (blk_alloc hsc _) 0
 have qw1 : (w.alloc (.cells #[.int .i64 0, .int .i64 0, .string ⟨#[]⟩, .int .i64 0] 59)).cell? ⟨b, 1, none⟩ = some (.int .i64 i) := blk_cell (blk_alloc hsc _) 1
 have HSO := lh hso
 have HW := lh hW
 have HV := lh hns
 obtain ⟨s0, s1, z, b0, b1, b2, b3, y0, y1, y2, y3, a0, a1, a2, a3, f0, f2, f3, l0, l1, l2⟩ := hns.facts
 have k0 : (0 : Int) ≤ (i : Int) := by omega
 have k1 : (i : Int) < (s.size : Int) := by omega
 obtain ⟨c, hcb⟩ : ∃ c, c = bt s i := ⟨_, rfl⟩
 have hck := bt_eq hi hcb
 have hc := hA i hi
 rw [← hcb] at hc
 have hsr : W.cell? ⟨1, c, none⟩ = some (.int .i64 (srt c)) := gr_cell HV.out.g hb (HSO.out c hc)
 have HCB := lh hcb
 have c0 : (0 : Int) ≤ (c : Int) := by omega
 have c1 : (c : Int) < 128 := by omega
 have hsv : srt c = 1 := by rw [hcb]; exact h6
 rw [hsv] at hsr
 have HT := lh hT
 clear hT
 clear hcb hso hW hns hsc
 go_enter Tryz.func33, Tryz.ntmps33
 go_upto_region 2 with fail
 rw [← HW.out]
 clear qw0 qw1
 go_quiet (fail)
 go_upto_region 3 with fail
 have hvX := HV.out.drewN nq
 clear HV hsr hck s0 s1 z b0 b1 b2 b3 y0 y1 y2 y3 a0 a1 a2 a3 f0 f2 f3 l0 l1 l2
 generalize W.drewN nq = W1 at hvX ⊢
 have HV := lh hvX
 obtain ⟨s0, s1, z, b0, b1, b2, b3, y0, y1, y2, y3, a0, a1, a2, a3, f0, f2, f3, l0, l1, l2⟩ := hvX.facts
 clear hvX
 go_wp2_with fail
 refine bodyPost_ret (v := .tuple #[.agg #[.int .i64 0, .int .i64 i, .string ⟨#[]⟩, .int .i64 0], .bool false]) (by simp [results, Tryz.results33, go_sem, b0, b1, b2, b3, y0, y1, y2, y3, l1]) rfl ?_
 exact NextPost.bad HT.out rfl (HV.out.fin hbw _ _ _ _).2
theorem next_any (s : ByteArray) (b i : Nat) (w : World) (hsc : Scan w b s i) (hs : s.size ≤ 4000) (hi : i < s.size) (hso : Sorts w) (hA : ∀ k, k < s.size → bt s k < 128) (hb : 1 ≠ b) :
 Calls Tryz.prog 33 #[pv b] w (NextPost s b i w) := by
 rcases sort_cases _ (hA i hi) with ⟨h, _⟩ | ⟨h, _⟩ | ⟨h, _⟩ | ⟨_, h⟩ | ⟨h, _⟩ | ⟨_, h⟩ | ⟨h, h1, h2, h3, h4, h5, h6, h7⟩
 · exact next_digit s b i w hsc hs hi hso hA hb h
 · exact next_low s b i w hsc hs hi hso hA hb h
 · exact next_up s b i w hsc hs hi hso hA hb h
 · exact next_var s b i w hsc hs hi hso hA hb h
 · exact next_sign s b i w hsc hs hi hso hA hb h
 · exact next_text s b i w hsc hs hi hso hA hb h
 · have hT := tokD_no h1 h2 h3 h4 h5 h6 h7
   rcases h with h | h
   · exact next_no0 s b i w hsc hs hi hso hA hb h hT
   · exact next_no1 s b i w hsc hs hi hso hA hb h hT
theorem Sorts.below {w w' : World} (h : Sorts w) (hb : Below w.heap.size w w') (h0 : 1 < w.heap.size) : Sorts w' := fun k hk => by
 have e : w'.heap[1]? = w.heap[1]? := hb.block 1 h0
 have hc := h k hk
 unfold World.cell? at hc ⊢
 simp only at hc ⊢
 rw [e]
 exact hc
theorem ok_ascii {s : ByteArray} (h : badD s 0 = none) : ∀ k, k < s.size → bt s k < 128 := by
 intro k hk
 have := (okB_cases _).1 (badD_all 0 h k (by omega) hk)
 omega
def PkRel (s : ByteArray) (w : World) (l : Value) (wr : World) : Prop :=
 ∃ (k : Nat) (ts : List Tok) (a : Option Addr) (cap : Nat), k ≤ s.size ∧ ts.length ≤ k ∧ l = .slice a ts.length cap ∧ wr.ownsRow w.heap.size 59 4 (.slice a ts.length cap) ts.length (ts.flatMap tokRow) ∧ FltB wr w.heap.size ∧ Scan wr (w.heap.size + 1) s k ∧ Below w.heap.size w wr ∧ toksD s k ts = lexD s
theorem gr_b {w w1 w2 : World} (h : Below w.heap.size w w1) (hg : w1.grownBy w2 (some (w.heap.size + 1))) : Below w.heap.size w w2 :=
 h.grown hg h.size (fun k hk => by injection hk with hk; omega)
theorem ptoks_any (s : ByteArray) (w : World) (hso : Sorts w) (h0 : 1 < w.heap.size) : Calls Tryz.prog 15 #[.string s] w (LexPost s w) := by
 have HSO := lh hso
 clear hso
 obtain ⟨W, hW⟩ : ∃ W, W = w.alloc (.cells #[.int .i64 0, .int .i64 0] 29) := ⟨_, rfl⟩
 have hfl : FltB W w.heap.size := by rw [hW]; exact heap_alloc_new w _
 have hbl : Below w.heap.size w W := by rw [hW]; exact (Below.refl _ _).alloc (Nat.le_refl _) _
 have HW := lh hW
 have HF := lh hfl
 have HB := lh hbl
 obtain ⟨i59, hi, hz0, hz1, hz2⟩ := info_parts info59
 have HI := lh hi
 have x0 : W.cell? ⟨w.heap.size, 0, none⟩ = some (.int .i64 0) := blk_cell hfl 0
 have x1 : W.cell? ⟨w.heap.size, 1, none⟩ = some (.int .i64 0) := blk_cell hfl 1
 have z0 := blk_free hfl 0
 have z1 := blk_free hfl 1
 have l0 : w.heap.size < W.heap.size := lt_of_block hfl
 clear hW hfl hbl hi
 by_cases hbig : 4000 < s.size
 · have hd : decide ((4000 : Int) < (s.size : Int)) = true := by simp; omega
   have hlx : lexD s = ([], (1, 0)) := by unfold lexD; rw [if_pos hbig]
   have HLX := lh hlx
   clear hlx
   go_enter Tryz.func15, Tryz.ntmps15
   go_upto_region 1 with fail
   rw [← HW.out]
   go_wp2_with fail
   refine bodyPost_ret (v := .tuple #[.slice none 0 0, .agg #[.int .i64 1, .int .i64 0]]) (by simp [results, Tryz.results15, go_sem, x0, x1, z0, z1, l0]) rfl ?_
   refine LexPost.mk' HLX.out rfl (World.ownsRow_nil _ _ _ _) ?_
   exact (HB.out.setCell (p := ⟨w.heap.size, 0, none⟩) (Nat.le_refl _) _).setCell (p := ⟨w.heap.size, 1, none⟩) (Nat.le_refl _) _
 · have hd : decide ((4000 : Int) < (s.size : Int)) = false := by simp; omega
   have hs : s.size ≤ 4000 := by omega
   have hlx : lexD s = match badD s 0 with | some i => ([], (2, i)) | none => toksD s 0 [] := by unfold lexD; rw [if_neg hbig]; rfl
   have HLX := lh hlx
   clear hlx
   go_enter Tryz.func15, Tryz.ntmps15
   go_upto_region 1 with fail
   rw [← HW.out]
   go_wp2_with fail
   go_loop [17] (fun i => ∃ k : Nat, k ≤ s.size ∧ i = .int .i64 k ∧ badD s k = badD s 0) (fun i => s.size - (intOf i).toNat)
   case atStart => exact ⟨0, Nat.zero_le _, rfl, rfl⟩
   case round =>
    obtain ⟨k, hk, rfl, hc⟩ := hrel
    have HC := lh hc
    clear hc hd
    by_cases hlt : k < s.size
    · have k0 : (0 : Int) ≤ (k : Int) := by omega
      have k1 : (k : Int) < (s.size : Int) := by omega
      obtain ⟨c, hcb⟩ : ∃ c, c = bt s k := ⟨_, rfl⟩
      have hck := bt_eq hlt hcb
      cases hok : okB c with
      | true =>
       have hst := badD_step hlt (by rw [← hcb]; exact hok)
       rw [HC.out] at hst
       have HST := lh hst
       have hcs := (okB_cases c).1 hok
       clear hst hcb hok x0 x1 z0 z1
       by_cases c9 : c = 9
       · have e9 : ((c : Int) != 9) = false := by simp [c9]
         clear hcs c9
         go_wp2_with fail
         go_round
         case rel => exact ⟨k + 1, by omega, by go_num, HST.out.symm⟩
         case measure => simp [intOf]; omega
       · have e9 : ((c : Int) != 9) = true := by simp; omega
         by_cases c10 : c = 10
         · have e10 : ((c : Int) != 10) = false := by simp [c10]
           clear hcs c9 c10
           go_wp2_with fail
           go_round
           case rel => exact ⟨k + 1, by omega, by go_num, HST.out.symm⟩
           case measure => simp [intOf]; omega
         · have e10 : ((c : Int) != 10) = true := by simp; omega
           have e32 : decide ((c : Int) < 32) = false := by simp; omega
           have e126 : decide ((126 : Int) < (c : Int)) = false := by simp; omega
           clear hcs c9 c10
           go_wp2_with fail
           go_round
           case rel => exact ⟨k + 1, by omega, by go_num, HST.out.symm⟩
           case measure => simp [intOf]; omega
      | false =>
       have hst := badD_here hlt (by rw [← hcb]; exact hok)
       rw [HC.out] at hst
       have hlx := HLX.out
       rw [hst] at hlx
       have HLX2 := lh hlx
       have hcs : ¬ (c = 9 ∨ c = 10 ∨ (32 ≤ c ∧ c ≤ 126)) := fun h => by rw [(okB_cases c).2 h] at hok; cases hok
       have e9 : ((c : Int) != 9) = true := by simp; omega
       have e10 : ((c : Int) != 10) = true := by simp; omega
       clear hlx hst hcb hok
       by_cases c32 : c < 32
       · have e32 : decide ((c : Int) < 32) = true := by simp; omega
         clear hcs c32
         go_wp2_with fail
         refine bodyPost_ret (v := .tuple #[.slice none 0 0, .agg #[.int .i64 2, .int .i64 k]]) (by simp [results, Tryz.results15, go_sem, x0, x1, z0, z1, l0]) rfl ?_
         refine LexPost.mk' HLX2.out rfl (World.ownsRow_nil _ _ _ _) ?_
         exact (HB.out.setCell (p := ⟨w.heap.size, 0, none⟩) (Nat.le_refl _) _).setCell (p := ⟨w.heap.size, 1, none⟩) (Nat.le_refl _) _
       · have e32 : decide ((c : Int) < 32) = false := by simp; omega
         have e126 : decide ((126 : Int) < (c : Int)) = true := by simp; omega
         clear hcs c32
         go_wp2_with fail
         refine bodyPost_ret (v := .tuple #[.slice none 0 0, .agg #[.int .i64 2, .int .i64 k]]) (by simp [results, Tryz.results15, go_sem, x0, x1, z0, z1, l0]) rfl ?_
         refine LexPost.mk' HLX2.out rfl (World.ownsRow_nil _ _ _ _) ?_
         exact (HB.out.setCell (p := ⟨w.heap.size, 0, none⟩) (Nat.le_refl _) _).setCell (p := ⟨w.heap.size, 1, none⟩) (Nat.le_refl _) _
    · have hst := badD_end (s := s) (i := k) (by omega)
      rw [HC.out] at hst
      have hst0 := hst
      have hlx := HLX.out
      rw [hst] at hlx
      have HLX2 := lh hlx
      clear hlx hst HLX
      have hasc := ok_ascii hst0
      have hf2 : FltB (W.alloc (.cells #[.string s, .int .i64 0] 56)) w.heap.size := blk_alloc HF.out _
      have hs2 : Scan (W.alloc (.cells #[.string s, .int .i64 0] 56)) (w.heap.size + 1) s 0 := by
       have h2 := heap_alloc_new W (.cells #[.string s, .int .i64 0] 56)
       have e : W.heap.size = w.heap.size + 1 := by rw [HW.out, World.size_alloc]
       rw [e] at h2
       exact h2
      have hb2 := balloc HB.out (.cells #[.string s, .int .i64 0] 56)
      have HF0 := lh hf2
      have HS0 := lh hs2
      have HB0 := lh hb2
      clear hf2 hs2 hb2 hst0 HF HB
      have hWn : W.heap.size = w.heap.size + 1 := by rw [HW.out, World.size_alloc]
      go_wp2_with fail
      clear x0 x1 z0 z1 l0
      try rw [hWn]
      go_loopw [7] (fun l wr => PkRel s w l wr) (fun _ wr => s.size - atOf wr (w.heap.size + 1))
      case atStart => exact ⟨0, [], none, 0, Nat.zero_le _, by simp, rfl, World.ownsRow_nil _ _ _ _, HF0.out, HS0.out, HB0.out, HLX2.out.symm⟩
      case round =>
       obtain ⟨k, ts, a, cap, hk, hl, rfl, hown, hfl, hsc, hbl, hc⟩ := hrel
       have HAT := lh hsc.at
       have hge := gapD_ge (s := s) k hk
       have HC := lh hc
       clear HF0 HS0 HB0 HLX2 hc
       have HO0 := lh hown
       have HF0 := lh hfl
       have HB0 := lh hbl
       have HS0 := lh hsc
       clear hown hfl hbl hsc
       go_wp2_with fail
       refine (gap_any s (w.heap.size + 1) k wr HS0.out hs hk (HSO.out.below HB0.out h0) hasc (by omega)).mono ?_
       rintro e w2 ⟨rfl, hs2, hg2⟩
       have HB := lh (gr_b HB0.out hg2)
       have HF : Hid (FltB w2 w.heap.size) := lh (blk_grown HF0.out hg2 (by intro e; injection e with e; omega))
       have HO := lh (own_keep HO0.out hg2 (fun q hq => by cases hq; exact ⟨_, _, _, HS0.out, by decide⟩))
       cases hg : gapD s k with
       | mk j ok =>
        rw [hg] at hge hs2
        simp only at hge hs2
        obtain ⟨hkj, hjs⟩ := hge
        have HS := lh hs2
        clear hs2 hg2 HF0 HO0 HB0 HS0
        have j0 : (0 : Int) ≤ (j : Int) := by omega
        have x0 : w2.cell? ⟨w.heap.size, 0, none⟩ = some (.int .i64 0) := blk_cell HF.out 0
        have x1 : w2.cell? ⟨w.heap.size, 1, none⟩ = some (.int .i64 0) := blk_cell HF.out 1
        have z0 := blk_free HF.out 0
        have z1 := blk_free HF.out 1
        have l0 : w.heap.size < w2.heap.size := lt_of_block HF.out
        obtain ⟨r0, r1, zz, l1⟩ := HS.out.facts
        cases ok with
        | false =>
         have hst := toksD_bad (l := ts) hg
         rw [HC.out] at hst
         have HST := lh hst
         clear hst hg
         have n1 : ¬ (w.heap.size = w.heap.size + 1) := by omega
         have n2 : ¬ (w.heap.size + 1 = w.heap.size) := by omega
         go_wp2_with fail
         go_region
         all_goals go_wp2_with fail
         all_goals
          refine bodyPost_ret (v := .tuple #[.slice a ts.length cap, .agg #[.int .i64 3, .int .i64 j]]) (by simp [results, Tryz.results15, go_sem, x0, x1, z0, z1, l0]) rfl ?_
          refine LexPost.mk' HST.out rfl (own_keep (own_set (own_set HO.out HF.out (by decide) _ _) (blk_set HF.out _ _) (by decide) _ _) (gr_drew _ 1 none) (fun q h => by cases h)) ?_
          exact bdrewN ((HB.out.setCell (p := ⟨w.heap.size, 0, none⟩) (Nat.le_refl _) _).setCell (p := ⟨w.heap.size, 1, none⟩) (Nat.le_refl _) _) 1
        | true =>
         have hlo : ∀ g, (Value.slice a ts.length cap).ownBlock = some g → w.heap.size ≤ g := fun g hg => (HO.out.lt g hg).1
         have hnb : (Value.slice a ts.length cap).ownBlock ≠ some w.heap.size := own_ne HF.out HO.out (by decide)
         have hns : (Value.slice a ts.length cap).ownBlock ≠ some (w.heap.size + 1) := own_ne HS.out HO.out (by decide)
         by_cases hjz : j = s.size
         · have hde : ((j : Int) == (s.size : Int)) = true := by simp; omega
           subst hjz
           have hst := toksD_end (l := ts) hg
           rw [HC.out] at hst
           have HST := lh hst
           clear hst hg x0 x1 z0 z1 l0
           have hWs : w.heap.size ≤ w2.heap.size := HB.out.size
           go_wp2_with (first | (at_builtin; go_must (refine wpList_append_own _ rfl (.tmp 59) (.tmp 65) 36 rfl w.heap.size 59 i59 (.agg #[.int .i64 0, .int .i64 0, .string ⟨#[]⟩, .int .i64 0]) 4 40 Tryz.underlying36 HI.out hz0 hz1 hz2 rfl (by decide) (.slice a ts.length cap) ts.length (ts.flatMap tokRow) rfl (HO.out.alloc _) ⟨w2.heap.size, 0, none⟩ 1 1 [.int .i64 0, .int .i64 (s.size : Nat), .string ⟨#[]⟩, .int .i64 0] rfl rfl (new_cells (c := #[.int .i64 0, .int .i64 (s.size : Nat), .string ⟨#[]⟩, .int .i64 0]) _ (by simp)) (tok_ones _ _ _ _) (by unfold maxLen; omega) (by omega) (by simp; omega) ?_)))
           intro v5 w5 hown5 hg5 hnil5
           obtain ⟨g5, cap5, hv5⟩ := own_shape hown5 hnil5
           rw [hv5] at hown5 ⊢
           clear hnil5 hv5
           have hf5 : FltB w5 w.heap.size := blk_grown (blk_alloc HF.out _) hg5 hnb
           have hb5 : Below w.heap.size w w5 := (balloc HB.out _).grown hg5 (by simp; omega) hlo
           have ho5 : w5.ownsRow w.heap.size 59 4 (.slice (some ⟨g5, 0, none⟩) (ts ++ [((0, s.size, ByteArray.empty, 0) : Tok)]).length cap5) (ts ++ [((0, s.size, ByteArray.empty, 0) : Tok)]).length ((ts ++ [((0, s.size, ByteArray.empty, 0) : Tok)]).flatMap tokRow) := by
            rw [List.length_append, List.flatMap_append]
            exact hown5
           clear HF HB HO hown5 hg5 hlo hnb hns r0 r1 zz l1
           have HF := lh hf5
           have HB := lh hb5
           have HO := lh ho5
           clear hf5 hb5 ho5
           have x0 : w5.cell? ⟨w.heap.size, 0, none⟩ = some (.int .i64 0) := blk_cell HF.out 0
           have x1 : w5.cell? ⟨w.heap.size, 1, none⟩ = some (.int .i64 0) := blk_cell HF.out 1
           have z0 := blk_free HF.out 0
           have z1 := blk_free HF.out 1
           have l0 : w.heap.size < w5.heap.size := lt_of_block HF.out
           go_wp2_with fail
           refine bodyPost_ret (v := .tuple #[.slice (some ⟨g5, 0, none⟩) (ts.length + 1) cap5, .agg #[.int .i64 0, .int .i64 0]]) (by simp [results, Tryz.results15, go_sem, x0, x1, z0, z1, l0]) rfl ?_
           refine LexPost.mk' HST.out (by rw [List.length_append]; rfl) (own_set (own_set HO.out HF.out (by decide) _ _) (blk_set HF.out _ _) (by decide) _ _) ?_
           exact (HB.out.setCell (p := ⟨w.heap.size, 0, none⟩) (Nat.le_refl _) _).setCell (p := ⟨w.heap.size, 1, none⟩) (Nat.le_refl _) _
         · have hde : ((j : Int) == (s.size : Int)) = false := by simp; omega
           have hj2 : j < s.size := by omega
           have HG := lh hg
           have HJZ := lh hjz
           clear hg hjz x0 x1 z0 z1 l0 hlo hnb hns
           go_wp2_with fail
           refine (next_any s (w.heap.size + 1) j w2 HS.out hs hj2 (HSO.out.below HB.out h0) hasc (by omega)).mono ?_
           rintro e w4 ⟨hg4, hp⟩
           have hb4 := gr_b HB.out hg4
           have hf4 : FltB w4 w.heap.size := blk_grown HF.out hg4 (by intro e; injection e with e; omega)
           have ho4 := own_keep HO.out hg4 (fun q hq => by cases hq; exact ⟨_, _, _, HS.out, by decide⟩)
           clear HF HB HO HS r0 r1 zz l1 hg4
           have HF := lh hf4
           have HB := lh hb4
           have HO := lh ho4
           clear hf4 hb4 ho4
           have x0 : w4.cell? ⟨w.heap.size, 0, none⟩ = some (.int .i64 0) := blk_cell HF.out 0
           have x1 : w4.cell? ⟨w.heap.size, 1, none⟩ = some (.int .i64 0) := blk_cell HF.out 1
           have z0 := blk_free HF.out 0
           have z1 := blk_free HF.out 1
           have l0 : w.heap.size < w4.heap.size := lt_of_block HF.out
           cases htk : tokD s j with
           | none =>
            rw [htk] at hp
            obtain ⟨tk, ta, tn, tx, rfl⟩ := hp
            have hst := toksD_none (l := ts) HG.out HJZ.out htk
            rw [HC.out] at hst
            have HST := lh hst
            clear hst htk
            go_wp2_with fail
            refine bodyPost_ret (v := .tuple #[.slice a ts.length cap, .agg #[.int .i64 3, .int .i64 j]]) (by simp [results, Tryz.results15, go_sem, x0, x1, z0, z1, l0]) rfl ?_
            refine LexPost.mk' HST.out rfl ((own_set (own_set HO.out HF.out (by decide) _ _) (blk_set HF.out _ _) (by decide) _ _).alloc _) ?_
            exact balloc ((HB.out.setCell (p := ⟨w.heap.size, 0, none⟩) (Nat.le_refl _) _).setCell (p := ⟨w.heap.size, 1, none⟩) (Nat.le_refl _) _) _
           | some r =>
            obtain ⟨⟨t1, t2, t3, t4⟩, q⟩ := r
            rw [htk] at hp
            obtain ⟨rfl, hs4⟩ := hp
            have hlt3 := tokD_lt hj2 htk
            have hst := toksD_some (l := ts) hk HG.out HJZ.out htk
            rw [HC.out] at hst
            have HST := lh hst
            have HS := lh hs4
            clear hst htk x0 x1 z0 z1 l0 hs4
            have hWs : w.heap.size ≤ w4.heap.size := HB.out.size
            unfold tokV
            dsimp only
            have hlo : ∀ g, (Value.slice a ts.length cap).ownBlock = some g → w.heap.size ≤ g := fun g hg => (HO.out.lt g hg).1
            have hnb : (Value.slice a ts.length cap).ownBlock ≠ some w.heap.size := own_ne HF.out HO.out (by decide)
            have hns : (Value.slice a ts.length cap).ownBlock ≠ some (w.heap.size + 1) := own_ne HS.out HO.out (by decide)
            go_wp2_with (first | (at_builtin; go_must (refine wpList_append_own _ rfl (.tmp 82) (.tmp 84) 36 rfl w.heap.size 59 i59 (.agg #[.int .i64 0, .int .i64 0, .string ⟨#[]⟩, .int .i64 0]) 4 40 Tryz.underlying36 HI.out hz0 hz1 hz2 rfl (by decide) (.slice a ts.length cap) ts.length (ts.flatMap tokRow) rfl ((HO.out.alloc _).alloc _) ⟨w4.heap.size + 1, 0, none⟩ 1 1 [.int .i64 t1, .int .i64 t2, .string t3, .int .i64 t4] rfl rfl (new_cells (c := #[.int .i64 t1, .int .i64 t2, .string t3, .int .i64 t4]) _ (by simp)) (tok_ones _ _ _ _) (by unfold maxLen; omega) (by omega) (by simp; omega) ?_)))
            intro v5 w5 hown5 hg5 hnil5
            obtain ⟨g5, cap5, hv5⟩ := own_shape hown5 hnil5
            rw [hv5] at hown5 ⊢
            clear hnil5 hv5
            have hf5 : FltB w5 w.heap.size := blk_grown (blk_alloc (blk_alloc HF.out _) _) hg5 hnb
            have hs5 : Scan w5 (w.heap.size + 1) s q := blk_grown (blk_alloc (blk_alloc HS.out _) _) hg5 hns
            have hb5 : Below w.heap.size w w5 := (balloc (balloc HB.out _) _).grown hg5 (by simp; omega) hlo
            have ho5 : w5.ownsRow w.heap.size 59 4 (.slice (some ⟨g5, 0, none⟩) (ts ++ [((t1, t2, t3, t4) : Tok)]).length cap5) (ts ++ [((t1, t2, t3, t4) : Tok)]).length ((ts ++ [((t1, t2, t3, t4) : Tok)]).flatMap tokRow) := by
             rw [List.length_append, List.flatMap_append]
             exact hown5
            have HF5 := lh hf5
            have HB5 := lh hb5
            have HO5 := lh ho5
            have HS5 := lh hs5
            clear hf5 hb5 ho5 hs5 hown5 hg5 hlo hnb hns HO HB HF HS
            go_wp2_with fail
            go_roundw
            case rel => exact ⟨q, ts ++ [(t1, t2, t3, t4)], _, cap5, by omega, by rw [List.length_append]; simp; omega, by rw [List.length_append]; rfl, HO5.out, HF5.out, HS5.out, HB5.out, HST.out.symm⟩
            case measure => rw [HS5.out.at, HAT.out]; omega
def zeroT : Ty := .mk 0 0 ⟨#[]⟩ 0 []
def ansD (s : ByteArray) (m : Src → M Ty) : Ty × Nat × Nat :=
 if (lexD s).2.1 = 1 ∨ (lexD s).2.1 = 2 then (zeroT, (lexD s).2) else match wholeD (srcD s) (m (srcD s)) with
  | .ok n _ => (n, 0, 0)
  | .bad k a => (zeroT, k, a)
def TopP (A : Ty × Nat × Nat) (w : World) (e : Ending) (w' : World) : Prop :=
 ∃ ao cap, e = .returned (.tuple #[.agg (rowOf A.1 ao cap), .agg #[.int .i64 A.2.1, .int .i64 A.2.2]]) ∧ Below w.heap.size w w' ∧ SlD w' (fun b => w.heap.size ≤ b ∧ b < w'.heap.size) A.1.args ao cap
theorem res_top {fn : Func} {t u : Tmp} (h : fn.results = #[.cell t 26, .cell u 29]) {tmps : Array Value} {w : World} {nb fb : Nat} {p : Ty} {ao : Option Addr} {cap : Nat} {x y : Value} (ht : tmps.getD t undef = .pointer (some ⟨nb, 0, none⟩)) (hu : tmps.getD u undef = .pointer (some ⟨fb, 0, none⟩)) (hn : w.heap[nb]? = some (.cells (rowOf p ao cap) 26 (0, 0))) (hf : w.heap[fb]? = some (.cells #[x, y] 29 (0, 0))) :
 (results fn tmps).run Tryz.prog w = .ok (.tuple #[.agg (rowOf p ao cap), .agg #[x, y]]) w := by
 have ht' : tmps[t]?.getD undef = .pointer (some ⟨nb, 0, none⟩) := by simpa using ht
 have hu' : tmps[u]?.getD undef = .pointer (some ⟨fb, 0, none⟩) := by simpa using hu
 have e1 := run_loadVar_row (P := Tryz.prog) w nb 26 26 (rowOf p ao cap) (0, 0) _ hn Tryz.underlying26 rfl (by kernel_rfl)
 have e2 := run_loadVar_row (P := Tryz.prog) w fb 29 29 #[x, y] (0, 0) _ hf Tryz.underlying29 rfl (by kernel_rfl)
 simp [results, h, ht', hu', asAddr, e1, e2]
structure TabOk (w : World) : Prop where
 gl : Glob w
 so : Sorts w
 sz : 2 < w.heap.size
theorem TabOk.below {w w' : World} (h : TabOk w) (hb : Below w.heap.size w w') : TabOk w' :=
 ⟨h.gl.of (fun k => hb.cell (p := ⟨0, k, none⟩) (by have := h.sz; show 0 < _; omega)) (fun k => hb.cell (p := ⟨2, k, none⟩) (by have := h.sz; show 2 < _; omega)), h.so.below hb (by have := h.sz; omega), Nat.lt_of_lt_of_le h.sz hb.size⟩
def rdRow0 : Array Value := #[.slice none 0 0, .int .i64 0, .int .i64 0, .int .i64 0, .int .i64 0]
theorem rd_made (w : World) : ∃ W, W = ((w.alloc (.cells zeroRow 26)).alloc (.cells #[.int .i64 0, .int .i64 0] 29)).alloc (.cells rdRow0 63) ∧ Below w.heap.size w W ∧ W.heap.size = w.heap.size + 3 ∧ W.heap[w.heap.size]? = some (.cells zeroRow 26 (0, 0)) ∧ W.heap[w.heap.size + 1]? = some (.cells #[.int .i64 0, .int .i64 0] 29 (0, 0)) ∧ W.heap[w.heap.size + 1 + 1]? = some (.cells rdRow0 63 (0, 0)) := by
 obtain ⟨W1, hW1⟩ : ∃ W1, W1 = w.alloc (.cells zeroRow 26) := ⟨_, rfl⟩
 obtain ⟨W2, hW2⟩ : ∃ W2, W2 = W1.alloc (.cells #[.int .i64 0, .int .i64 0] 29) := ⟨_, rfl⟩
 obtain ⟨W, hW⟩ : ∃ W, W = W2.alloc (.cells rdRow0 63) := ⟨_, rfl⟩
 have s1 : W1.heap.size = w.heap.size + 1 := by rw [hW1, World.size_alloc]
 have s2 : W2.heap.size = w.heap.size + 1 + 1 := by rw [hW2, World.size_alloc, s1]
 have s3 : W.heap.size = w.heap.size + 3 := by rw [hW, World.size_alloc, s2]
 have hb1 : Below w.heap.size w W1 := by rw [hW1]; exact balloc (Below.refl _ _) _
 have hb2 : Below w.heap.size w W2 := by rw [hW2]; exact balloc hb1 _
 refine ⟨W, by rw [hW, hW2, hW1], by rw [hW]; exact balloc hb2 _, s3, ?_, ?_, ?_⟩
 · rw [hW]; refine blk_alloc ?_ _; rw [hW2]; refine blk_alloc ?_ _; rw [hW1]; exact heap_alloc_new w _
 · rw [hW]; refine blk_alloc ?_ _; rw [hW2, ← s1]; exact heap_alloc_new W1 _
 · rw [hW, ← s2]; exact heap_alloc_new W2 _
def bodyPostA (fn : Func) (R : Ending → World → Prop) : Exit → Act → World → Prop
 | .normal, a, W | .ret, a, W => Leaves Tryz.prog fn a.tmps R a.defers .returning W
 | _, _, _ => False
theorem bodyPostA_le (fn : Func) (R : Ending → World → Prop) : ∀ e a W, bodyPostA fn R e a W → bodyPostD Tryz.prog fn R e a W := by
 intro e a W h
 cases e with
 | normal => exact h
 | ret => exact h
 | panic chain => exact h.elim
 | exit id => exact h.elim
 | goto l => exact h.elim
 | outgrown => exact h.elim
theorem rd_cells {w : World} {b : Nat} {v0 v1 v2 v3 v4 : Value} (h : w.heap[b]? = some (.cells #[v0, v1, v2, v3, v4] 63 (0, 0))) : (w.cell? ⟨b, 0, none⟩ = some v0 ∧ w.cell? ⟨b, 1, none⟩ = some v1 ∧ w.cell? ⟨b, 2, none⟩ = some v2 ∧ w.cell? ⟨b, 3, none⟩ = some v3 ∧ w.cell? ⟨b, 4, none⟩ = some v4) ∧ (w.frozen? ⟨b, 0, none⟩ = false ∧ w.frozen? ⟨b, 1, none⟩ = false ∧ w.frozen? ⟨b, 2, none⟩ = false ∧ w.frozen? ⟨b, 3, none⟩ = false ∧ w.frozen? ⟨b, 4, none⟩ = false) :=
 ⟨⟨blk_cell h 0, blk_cell h 1, blk_cell h 2, blk_cell h 3, blk_cell h 4⟩, ⟨blk_free h 0, blk_free h 1, blk_free h 2, blk_free h 3, blk_free h 4⟩⟩
abbrev setR (W : World) (b : Nat) (v : Value) (x y : Nat) : World := ((W.setCell ⟨b, 0, none⟩ v).setCell ⟨b, 2, none⟩ (.int .i64 (x : Int))).setCell ⟨b, 3, none⟩ (.int .i64 (y : Int))
theorem setR_row {W : World} {b : Nat} {v0 v1 v2 v3 v4 : Value} (h : W.heap[b]? = some (.cells #[v0, v1, v2, v3, v4] 63 (0, 0))) (v : Value) (x y : Nat) : (setR W b v x y).heap[b]? = some (.cells #[v, v1, .int .i64 (x : Int), .int .i64 (y : Int), v4] 63 (0, 0)) := blk_set (blk_set (blk_set h 0 _) 2 _) 3 _
theorem setR_ne {W : World} {b c : Nat} {o : Option Obj} (h : W.heap[c]? = o) (hne : c ≠ b) (v : Value) (x y : Nat) : (setR W b v x y).heap[c]? = o := blk_set_ne (blk_set_ne (blk_set_ne h hne 0 _) hne 2 _) hne 3 _
theorem setR_below {N : Nat} {w W : World} {b : Nat} (h : Below N w W) (hb : N ≤ b) (v : Value) (x y : Nat) : Below N w (setR W b v x y) := ((h.setCell (p := ⟨b, 0, none⟩) hb _).setCell (p := ⟨b, 2, none⟩) hb _).setCell (p := ⟨b, 3, none⟩) hb _
theorem top_end {w X : World} {nb fb f1 f2 : Nat} {c0 c1 c2 c3 c4 r0 r1 : Value} (hb : Below w.heap.size w X) (hnb : nb = w.heap.size) (hfb : fb = w.heap.size + 1) (rn : X.heap[nb]? = some (.cells #[c0, c1, c2, c3, c4] 26 (0, 0))) (rf : X.heap[fb]? = some (.cells #[r0, r1] 29 (0, 0))) (Y : World) (hY : Y = (set2 (set5 X nb zeroT none 0) fb f1 f2).drew) :
 Y.heap[nb]? = some (.cells (rowOf zeroT none 0) 26 (0, 0)) ∧ Y.heap[fb]? = some (.cells #[.int .i64 (f1 : Int), .int .i64 (f2 : Int)] 29 (0, 0)) ∧ TopP (zeroT, f1, f2) w (.returned (.tuple #[.agg (rowOf zeroT none 0), .agg #[.int .i64 (f1 : Int), .int .i64 (f2 : Int)]])) Y := by
 obtain ⟨Z, hZ⟩ : ∃ Z, Z = set5 X nb zeroT none 0 := ⟨_, rfl⟩
 have b1 : Below w.heap.size w Z := by rw [hZ]; exact below_set5 hb (by omega)
 have b2 : Z.heap[nb]? = some (.cells (rowOf zeroT none 0) 26 (0, 0)) := by rw [hZ]; exact TB.set rn zeroT none 0
 have b3 : Z.heap[fb]? = some (.cells #[r0, r1] 29 (0, 0)) := by rw [hZ]; exact set5_ne rf (by omega)
 rw [← hZ] at hY
 clear hZ
 obtain ⟨V, hV⟩ : ∃ V, V = set2 Z fb f1 f2 := ⟨_, rfl⟩
 have d1 : Below w.heap.size w V := by rw [hV]; exact (b1.setCell (p := ⟨fb, 0, none⟩) (by show w.heap.size ≤ fb; omega) _).setCell (p := ⟨fb, 1, none⟩) (by show w.heap.size ≤ fb; omega) _
 have d2 : V.heap[nb]? = some (.cells (rowOf zeroT none 0) 26 (0, 0)) := by rw [hV]; exact blk_set_ne (blk_set_ne b2 (by omega) 0 _) (by omega) 1 _
 have d3 : V.heap[fb]? = some (.cells #[.int .i64 (f1 : Int), .int .i64 (f2 : Int)] 29 (0, 0)) := by rw [hV]; exact blk_set (blk_set b3 0 _) 1 _
 rw [← hV] at hY
 subst hY
 exact ⟨d2, d3, none, 0, rfl, d1.drew, sl_nil rfl⟩
theorem read_long (s : ByteArray) (m : Src → M Ty) (fv : Value) (w : World) (hT : TabOk w) (hl : (lexD s).2.1 = 1 ∨ (lexD s).2.1 = 2) : Calls Tryz.prog 16 #[.string s, fv] w (TopP (ansD s m) w) := by
 obtain ⟨W, hW, hbW, hsW, rn, rf, rr⟩ := rd_made w
 have hlx : ∃ f1 f2, (lexD s).2 = (f1, f2) := ⟨_, _, rfl⟩
 obtain ⟨f1, f2, hf⟩ := hlx
 have hans : ansD s m = (zeroT, f1, f2) := by unfold ansD; rw [if_pos hl, hf]
 rw [hans]
 rw [hf] at hl
 have HTK : Hid (Calls Tryz.prog 15 #[.string s] W (LexPost s W)) := lh (ptoks_any s W (hT.below hbW).so (by have := (hT.below hbW).sz; omega))
 have HF := lh hf
 obtain ⟨nb, hnb⟩ : ∃ nb, nb = w.heap.size := ⟨_, rfl⟩
 obtain ⟨fb, hfb⟩ : ∃ fb, fb = w.heap.size + 1 := ⟨_, rfl⟩
 obtain ⟨rb, hrb⟩ : ∃ rb, rb = w.heap.size + 1 + 1 := ⟨_, rfl⟩
 rw [← hnb] at rn
 rw [← hfb] at rf
 rw [← hrb] at rr
 have HNB := lh hnb
 have HFB := lh hfb
 have HRB := lh hrb
 have HRN := lh rn
 have HRF := lh rf
 have HRR := lh rr
 have HBW := lh hbW
 have HSW := lh hsW
 unfold zeroRow rdRow0 at hW
 have HWW := lh hW
 have n1 : ¬ (nb = fb) := by omega
 have n2 : ¬ (fb = nb) := by omega
 have n3 : ¬ (nb = rb) := by omega
 have n4 : ¬ (rb = nb) := by omega
 have n5 : ¬ (fb = rb) := by omega
 have n6 : ¬ (rb = fb) := by omega
 clear hW hbW hsW rn rf rr hf hans hT hnb hfb hrb
 go_enter_defers Tryz.func16, Tryz.ntmps16
 refine wp_mono (Q := bodyPostA Tryz.f16 (TopP (zeroT, f1, f2) w)) ?_ (bodyPostA_le _ _)
 go_upto_region 2 with fail
 rw [← HWW.out, ← HRB.out, ← HFB.out, ← HNB.out]
 clear HWW
 go_upto_region 3 with (first | (go_at_call 15; refine HTK.out.mono ?_; rintro e w1 ⟨a, cap, rfl, ho, hb⟩; rw [HF.out] at ⊢; have r1 := blk_below HRR.out hb (lt_of_block HRR.out); have HB1 := lh hb; have HR1 := lh r1; unfold rdRow0 at r1; obtain ⟨⟨c0, c1, c2, c3, c4⟩, ⟨z0, z1, z2, z3, z4⟩⟩ := rd_cells r1; clear ho hb r1))
 obtain ⟨X, hX⟩ : ∃ X, X = setR w1 rb (.slice a (lexD s).1.length cap) f1 f2 := ⟨_, rfl⟩
 have bX : Below w.heap.size w X := by rw [hX]; exact setR_below (HBW.out.trans (HB1.out.mono (by have := HSW.out; omega))) (by have := HRB.out; omega) _ _ _
 have rX : X.heap[rb]? = some (.cells #[.slice a (lexD s).1.length cap, .int .i64 0, .int .i64 (f1 : Int), .int .i64 (f2 : Int), .int .i64 0] 63 (0, 0)) := by rw [hX]; exact setR_row HR1.out _ _ _
 have nX : X.heap[nb]? = some (.cells zeroRow 26 (0, 0)) := by rw [hX]; exact setR_ne (blk_below HRN.out HB1.out (lt_of_block HRN.out)) n3 _ _ _
 have fX : X.heap[fb]? = some (.cells #[.int .i64 0, .int .i64 0] 29 (0, 0)) := by rw [hX]; exact setR_ne (blk_below HRF.out HB1.out (lt_of_block HRF.out)) n5 _ _ _
 unfold setR at hX
 rw [← hX]
 clear hX c0 c1 c2 c3 c4 z0 z1 z2 z3 z4
 have HEND := lh (fun (f1' f2' : Nat) (Y : World) hY => top_end (f1 := f1') (f2 := f2') bX HNB.out HFB.out nX fX Y hY)
 unfold zeroRow at nX
 obtain ⟨⟨c0, c1, c2, c3, c4⟩, ⟨z0, z1, z2, z3, z4⟩⟩ := rd_cells rX
 obtain ⟨⟨x0, x1, x2, x3, x4⟩, ⟨y0, y1, y2, y3, y4⟩⟩ := five_cells nX
 have u0 : X.cell? ⟨fb, 0, none⟩ = some (.int .i64 0) := blk_cell fX 0
 have u1 : X.cell? ⟨fb, 1, none⟩ = some (.int .i64 0) := blk_cell fX 1
 have q0 := blk_free fX 0
 have q1 := blk_free fX 1
 clear rX nX fX bX
 by_cases h1 : f1 = 1
 · have e1 : ((f1 : Int) == 1) = true := by simp [h1]
   clear h1 hl
   go_upto_region 4 with fail
   go_region
   all_goals
    go_wp2_with fail
    obtain ⟨k1, k2, k3⟩ := HEND.out f1 f2 _ rfl
    exact ⟨_, res_top rfl rfl rfl k1 k2, k3⟩
 · have e1 : ((f1 : Int) == 1) = false := by simp; omega
   have e2 : ((f1 : Int) == 2) = true := by simp; omega
   clear h1 hl
   go_upto_region 4 with fail
   go_region
   all_goals
    go_wp2_with fail
    obtain ⟨k1, k2, k3⟩ := HEND.out f1 f2 _ rfl
    exact ⟨_, res_top rfl rfl rfl k1 k2, k3⟩
end Go.Proofs.YthehjeeiodbkjaaGreatDoor
