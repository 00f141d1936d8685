/-
  Proved: the contract of the scanner's variable; what the scanner's next keeps (its two blocks of tokens, the scanner); the contract of the scanner's next at type variables and strings. Conditions: the table of sorts, a text of at most 4000 bytes below 128.
-/
import Derived.Test.YthehjeeiodbkjaaGreatDoorA01
import Derived.Test.YthehjeeiodbkjaaGreatDoorA17
import Derived.Test.YthehjeeiodbkjaaGreatDoorA16
import Derived.BigRegion
set_option linter.unusedSimpArgs false
set_option linter.unusedVariables false
set_option maxRecDepth 100000
set_option maxHeartbeats 16000000
namespace Go.Proofs.YthehjeeiodbkjaaGreatDoor
open Go.RowKit
structure VS (w W : World) (b : Nat) (s : ByteArray) (q : Nat) (k i : Int) (x : ByteArray) (n : Int) : Prop where
 sc : Scan W b s q
 g : w.grownBy W (some b)
 t : TokB W w.heap.size k i x n
 r : TokB W (w.heap.size + 1) 0 0 ⟨#[]⟩ 0
theorem VS.start {w : World} {b : Nat} {s : ByteArray} {q : Nat} (h : Scan w b s q) (k i : Int) (x : ByteArray) (n : Int) : VS w ((w.alloc (.cells #[.int .i64 k, .int .i64 i, .string x, .int .i64 n] 59)).alloc (.cells #[.int .i64 0, .int .i64 0, .string ⟨#[]⟩, .int .i64 0] 59)) b s q k i x n := by
 have h2 := heap_alloc_new (w.alloc (.cells #[.int .i64 k, .int .i64 i, .string x, .int .i64 n] 59)) (.cells #[.int .i64 0, .int .i64 0, .string ⟨#[]⟩, .int .i64 0] 59)
 rw [World.size_alloc] at h2
 exact ⟨blk_alloc (blk_alloc h _) _, gr_trans (World.grownBy_alloc w _ _) (World.grownBy_alloc _ _ _), blk_alloc (heap_alloc_new w _) _, h2⟩
theorem VS.drew {w W : World} {b : Nat} {s : ByteArray} {q : Nat} {k i n : Int} {x : ByteArray} (h : VS w W b s q k i x n) (m : Nat) : VS w (W.drewN m) b s q k i x n := ⟨h.sc.drew _, gr_trans h.g (gr_drew _ _ _), h.t, h.r⟩
theorem VS.below {w W W' : World} {b : Nat} {s : ByteArray} {q : Nat} {k i n : Int} {x : ByteArray} (h : VS w W b s q k i x n) (hb : Below W.heap.size W W') : VS w W' b s q k i x n :=
 ⟨h.sc.below hb, gr_trans h.g (gr_below hb _), blk_below h.t hb (lt_of_block h.t), blk_below h.r hb (lt_of_block h.r)⟩
theorem VS.setat {w W : World} {b : Nat} {s : ByteArray} {q : Nat} {k i n : Int} {x : ByteArray} (h : VS w W b s q k i x n) (hb : b < w.heap.size) (q' : Int) (p : Nat) (hp : q' = p) : VS w (W.setCell ⟨b, 1, none⟩ (.int .i64 q')) b s p k i x n :=
 ⟨h.sc.set _ _ hp, gr_trans h.g (gr_set _ _ _ _), blk_set_ne h.t (by omega) _ _, blk_set_ne h.r (by omega) _ _⟩
theorem VS.setk {w W : World} {b : Nat} {s : ByteArray} {q : Nat} {k i n : Int} {x : ByteArray} (h : VS w W b s q k i x n) (hb : b < w.heap.size) (k' : Int) : VS w (W.setCell ⟨w.heap.size, 0, none⟩ (.int .i64 k')) b s q k' i x n :=
 ⟨blk_set_ne h.sc (by omega) _ _, gr_far h.g _ _ _ (Nat.le_refl _), blk_set h.t 0 _, blk_set_ne h.r (by omega) _ _⟩
theorem VS.setx {w W : World} {b : Nat} {s : ByteArray} {q : Nat} {k i n : Int} {x : ByteArray} (h : VS w W b s q k i x n) (hb : b < w.heap.size) (x' : ByteArray) : VS w (W.setCell ⟨w.heap.size, 2, none⟩ (.string x')) b s q k i x' n :=
 ⟨blk_set_ne h.sc (by omega) _ _, gr_far h.g _ _ _ (Nat.le_refl _), blk_set h.t 2 _, blk_set_ne h.r (by omega) _ _⟩
structure VF (w W : World) (b : Nat) (s : ByteArray) (q : Nat) (k i : Int) (x : ByteArray) (n : Int) : Prop where
 s0 : W.cell? ⟨b, 0, none⟩ = some (.string s)
 s1 : W.cell? ⟨b, 1, none⟩ = some (.int .i64 q)
 z : W.frozen? ⟨b, 1, none⟩ = false
 a0 : W.cell? ⟨w.heap.size, 0, none⟩ = some (.int .i64 k)
 a1 : W.cell? ⟨w.heap.size, 1, none⟩ = some (.int .i64 i)
 a2 : W.cell? ⟨w.heap.size, 2, none⟩ = some (.string x)
 a3 : W.cell? ⟨w.heap.size, 3, none⟩ = some (.int .i64 n)
 f0 : W.frozen? ⟨w.heap.size, 0, none⟩ = false
 f2 : W.frozen? ⟨w.heap.size, 2, none⟩ = false
 b0 : W.cell? ⟨w.heap.size + 1, 0, none⟩ = some (.int .i64 0)
 b1 : W.cell? ⟨w.heap.size + 1, 1, none⟩ = some (.int .i64 0)
 b2 : W.cell? ⟨w.heap.size + 1, 2, none⟩ = some (.string ⟨#[]⟩)
 b3 : W.cell? ⟨w.heap.size + 1, 3, none⟩ = some (.int .i64 0)
 y0 : W.frozen? ⟨w.heap.size + 1, 0, none⟩ = false
 y1 : W.frozen? ⟨w.heap.size + 1, 1, none⟩ = false
 y2 : W.frozen? ⟨w.heap.size + 1, 2, none⟩ = false
 y3 : W.frozen? ⟨w.heap.size + 1, 3, none⟩ = false
 l0 : b < W.heap.size
 l1 : w.heap.size < W.heap.size
 l2 : w.heap.size + 1 < W.heap.size
theorem VS.facts {w W : World} {b : Nat} {s : ByteArray} {q : Nat} {k i n : Int} {x : ByteArray} (h : VS w W b s q k i x n) : VF w W b s q k i x n :=
 ⟨blk_cell h.sc 0, blk_cell h.sc 1, blk_free h.sc 1, blk_cell h.t 0, blk_cell h.t 1, blk_cell h.t 2, blk_cell h.t 3, blk_free h.t 0, blk_free h.t 2, blk_cell h.r 0, blk_cell h.r 1, blk_cell h.r 2, blk_cell h.r 3, blk_free h.r 0, blk_free h.r 1, blk_free h.r 2, blk_free h.r 3, lt_of_block h.sc, lt_of_block h.t, lt_of_block h.r⟩
theorem hasQ_at (s : ByteArray) (i : Nat) : atD s i ⟨#[39]⟩ = tokD.hasQ s i := by
 by_cases h : i < s.size
 · have e := atD_mk1 s i 39 (by omega) h
   have e2 : mk1 39 = ⟨#[39]⟩ := rfl
   rw [e2] at e
   rw [e]
   unfold tokD.hasQ
   rw [decide_eq_decide]
   omega
 · have e3 : (⟨#[39]⟩ : ByteArray).size = 1 := rfl
   unfold atD tokD.hasQ
   rw [decide_eq_decide, e3]
   constructor <;> rintro ⟨h1, _⟩ <;> omega
theorem low_sort : ∀ c, c < 128 → (srt c = 3 ↔ (small c = true ∨ c = 95)) := by decide +kernel
def VarPost (s : ByteArray) (b i : Nat) (x : ByteArray) (n : Int) (w : World) (e : Ending) (w' : World) : Prop :=
 e = .returned (.tuple #[.agg #[.int .i64 5, .int .i64 i, .string (cut s i (varD s (vfD s i) (vfD s i))), .int .i64 n], .bool (decide (vfD s i < varD s (vfD s i) (vfD s i) ∧ varD s (vfD s i) (vfD s i) - vfD s i ≤ 20))]) ∧ Scan w' b s (varD s (vfD s i) (vfD s i)) ∧ w.grownBy w' (some b)
def VE (w : World) (b : Nat) (s : ByteArray) (j : Nat) (W : World) : Prop := Scan W b s j ∧ w.grownBy W (some b)
theorem VE.drew {w W : World} {b : Nat} {s : ByteArray} {j : Nat} (h : VE w b s j W) : VE w b s j W.drew := ⟨h.1, gr_trans h.2 (gr_drew W 1 _)⟩
theorem VE.set {w W : World} {b : Nat} {s : ByteArray} {j : Nat} (h : VE w b s j W) (q o : Nat) (u : Value) (h1 : b < w.heap.size) (h2 : w.heap.size ≤ q) : VE w b s j (W.setCell ⟨q, o, none⟩ u) := ⟨blk_set_ne h.1 (by omega) _ _, gr_far h.2 _ _ _ h2⟩
abbrev S8 (b p : Nat) (j i : Int) (s : ByteArray) (W : World) : Prop :=
 W.cell? ⟨b, 0, none⟩ = some (.string s) ∧ W.cell? ⟨b, 1, none⟩ = some (.int .i64 j) ∧ W.cell? ⟨p, 1, none⟩ = some (.int .i64 i)
theorem S8.drew {b p : Nat} {j i : Int} {s : ByteArray} {W : World} (h : S8 b p j i s W) : S8 b p j i s W.drew := h
theorem S8.set {b p : Nat} {j i : Int} {s : ByteArray} {W : World} (h : S8 b p j i s W) (u : Value) (h1 : b ≠ p) : S8 b p j i s (W.setCell ⟨p, 2, none⟩ u) :=
 ⟨(World.cell?_setCell_far W _ _ u (Ne.symm h1)).trans h.1, (World.cell?_setCell_far W _ _ u (Ne.symm h1)).trans h.2.1, (World.cell?_setCell_other W ⟨p, 2, none⟩ ⟨p, 1, none⟩ u (by intro e; injection e with _ e; omega)).trans h.2.2⟩
abbrev S9 (b p : Nat) (k j i n : Int) (x : ByteArray) (W : World) : Prop :=
 W.cell? ⟨p, 0, none⟩ = some (.int .i64 k) ∧ W.cell? ⟨p, 1, none⟩ = some (.int .i64 i) ∧ W.cell? ⟨p, 2, none⟩ = some (.string x) ∧ W.cell? ⟨p, 3, none⟩ = some (.int .i64 n) ∧ W.cell? ⟨b, 1, none⟩ = some (.int .i64 j)
theorem variable_any (s : ByteArray) (b i : Nat) (k0 n : Int) (x : ByteArray) (w : World) (hsc : Scan w b s i) (hs : s.size ≤ 4000) (hi : i < s.size) (hso : Sorts w) (hA : ∀ k, k < s.size → bt s k < 128) (hb : 1 ≠ b) :
 Calls Tryz.prog 68 #[pv b, .agg #[.int .i64 k0, .int .i64 i, .string x, .int .i64 n]] w (VarPost s b i x n w) := by
 obtain ⟨W, hW⟩ : ∃ W, W = (w.alloc (.cells #[.int .i64 k0, .int .i64 i, .string x, .int .i64 n] 59)).alloc (.cells #[.int .i64 0, .int .i64 0, .string ⟨#[]⟩, .int .i64 0] 59) := ⟨_, rfl⟩
 have hvs : VS w W b s i k0 i x n := by rw [hW]; exact VS.start hsc k0 i x n
 have hbw := hsc.lt
 have HSO := lh hso
 have HW := lh hW
 have HV := lh hvs
 obtain ⟨s0, s1, z, a0, a1, a2, a3, f0, f2, b0, b1, b2, b3, y0, y1, y2, y3, l0, l1, l2⟩ := hvs.facts
 clear hso hW hvs hsc
 have hw1 : IntKind.i64.wrap ((i : Int) + 1) = i + 1 := IntWalk.i64_in _ (by omega)
 have hfv : vfD s i = if tokD.hasQ s (i + 1) then i + 2 else i + 1 := rfl
 have hf : vfD s i ≤ s.size ∧ i < vfD s i := by
  rw [hfv]
  split
  · rename_i h; simp [tokD.hasQ] at h; omega
  · omega
 have hvge := varD_ge (s := s) (vfD s i) (vfD s i)
 have hjs := hvge.2 hf.1
 unfold VarPost
 generalize vfD s i = f at *
 have HFV := lh hfv
 clear hfv
 go_enter Tryz.func68, Tryz.ntmps68
 go_upto_region 1 with fail
 rw [← HW.out]
 go_upto_region 3 with fail
 have hv2 := (HV.out.setk hbw 5).setat hbw ((i : Int) + 1) (i + 1) (by omega)
 clear HV HW s0 s1 z a0 a1 a2 a3 f0 f2 b0 b1 b2 b3 y0 y1 y2 y3 l0 l1 l2
 generalize (W.setCell ⟨w.heap.size, 0, none⟩ (.int .i64 5)).setCell ⟨b, 1, none⟩ (.int .i64 ((i : Int) + 1)) = W2 at hv2 ⊢
 have HV2 := lh hv2
 clear hv2
 go_cut [16] (fun o wx => o = .bool (tokD.hasQ s (i + 1)) ∧ VS w wx b s (i + 1) 5 i x n)
 case first =>
  go_wp2_with fail
  refine (lhas_any s ⟨#[39]⟩ b (i + 1) W2 HV2.out.sc hs (by omega) (by decide)).mono ?_
  rintro e W3 ⟨rfl, hb3⟩
  have HV := lh (HV2.out.below hb3)
  rw [hasQ_at]
  clear hb3
  go_wp2_with fail
  go_meet
  exact ⟨rfl, HV.out⟩
 case rest =>
  obtain ⟨rfl, hv3⟩ := hcut
  have HV := lh hv3
  obtain ⟨s0, s1, z, a0, a1, a2, a3, f0, f2, b0, b1, b2, b3, y0, y1, y2, y3, l0, l1, l2⟩ := hv3.facts
  clear hv3 HV2
  generalize hq : tokD.hasQ s (i + 1) = hbq at *
  have HQ := lh hq
  clear hq
  go_upto_if 16 with fail
  go_cut [] (fun wx => VS w wx b s f 5 i x n)
  case first =>
   cases hbq with
   | true =>
    have hff : f = i + 2 := by have := HFV.out; rw [if_pos rfl] at this; exact this
    have hwq : IntKind.i64.wrap (((i + 1 : Nat) : Int) + 1) = ((f : Nat) : Int) := by rw [IntWalk.i64_in _ (by omega)]; omega
    go_wp2_with fail
    go_meet
    exact HV.out.setat hbw _ _ (by first | rfl | omega)
   | false =>
    have hff : f = i + 1 := by have := HFV.out; rw [if_neg (by simp)] at this; exact this
    go_wp2_with fail
    go_meet
    rw [hff]
    exact HV.out
  case rest =>
   clear HV HFV s0 s1 z a0 a1 a2 a3 f0 f2 b0 b1 b2 b3 y0 y1 y2 y3 l0 l1 l2
   have HV := lh hcut
   obtain ⟨s0, s1, z, a0, a1, a2, a3, f0, f2, b0, b1, b2, b3, y0, y1, y2, y3, l0, l1, l2⟩ := hcut.facts
   clear hcut
   go_upto_block 0 with fail
   go_cut [] (fun wx => VS w wx b s (varD s f f) 5 i x n)
   case first =>
    go_wp2_with fail
    go_loopw [] (fun wr => ∃ k : Nat, f ≤ k ∧ k ≤ s.size ∧ VS w wr b s k 5 i x n ∧ varD s f k = varD s f f) (fun wr => s.size - atOf wr b)
    case atStart => exact ⟨f, Nat.le_refl _, hf.1, HV.out, rfl⟩
    case round =>
     clear HV s0 s1 z a0 a1 a2 a3 f0 f2 b0 b1 b2 b3 y0 y1 y2 y3 l0 l1 l2
     obtain ⟨k, hfk, hk, hvs, hc⟩ := hrel
     have HV := lh hvs
     have HC := lh hc
     have HAT := lh hvs.sc.at
     obtain ⟨s0, s1, z, a0, a1, a2, a3, f0, f2, b0, b1, b2, b3, y0, y1, y2, y3, l0, l1, l2⟩ := hvs.facts
     clear hvs hc
     by_cases hlt : k < s.size
     · have hd : decide ((k : Int) < (s.size : Int)) = true := by simp; omega
       have h0 : (0 : Int) ≤ (k : Int) := by omega
       have h1 : (k : Int) < (s.size : Int) := by omega
       obtain ⟨c, hcb⟩ : ∃ c, c = bt s k := ⟨_, rfl⟩
       have hck := bt_eq hlt hcb
       have hc := hA k hlt
       rw [← hcb] at hc
       have hsr : wr.cell? ⟨1, c, none⟩ = some (.int .i64 (srt c)) := gr_cell HV.out.g hb (HSO.out c hc)
       have hls := low_sort c hc
       have hds := dig_sort c hc
       have HCB := lh hcb
       clear hcb
       have c0 : (0 : Int) ≤ (c : Int) := by omega
       have c1 : (c : Int) < 128 := by omega
       have hwx : IntKind.i64.wrap ((k : Int) + 1) = (k : Int) + 1 := IntWalk.i64_in _ (by omega)
       cases hv : (small c || (decide (f < k) && dig c)) with
       | true =>
        have hst := varD_step (s := s) (f := f) hlt (by rw [← HCB.out]; exact hv)
        rw [HC.out] at hst
        have HST := lh hst
        have e95 : ((c : Int) != 95) = true := by
         have : c ≠ 95 := by intro h; rw [h] at hv; simp [small, dig] at hv
         simp; omega
        clear hst
        cases hsm : small c with
        | true =>
         have e3 : srt c = 3 := hls.2 (.inl hsm)
         rw [e3] at hsr
         clear hv hsm hls hds e3
         go_wp2_with fail
         go_quiet (fail)
         go_wp2_with fail
         go_roundw
         case rel => exact ⟨k + 1, by omega, by omega, (HV.out.drew _).setat hbw _ _ (by omega), HST.out.symm⟩
         case measure => rw [(((HV.out.drew nq).setat hbw ((k : Int) + 1) (k + 1) (by omega)).sc).at, HAT.out]; omega
        | false =>
         rw [hsm, Bool.false_or, Bool.and_eq_true, decide_eq_true_eq] at hv
         have e3 : ((srt c : Int) == 3) = false := by
          have h95 : c ≠ 95 := by intro h; rw [h] at hv; exact absurd hv.2 (by decide)
          have : srt c ≠ 3 := fun h => by
           rcases hls.1 h with h1 | h1
           · rw [h1] at hsm; cases hsm
           · exact h95 h1
          simp; omega
         have e2 : ((srt c : Int) == 2) = true := by have := hds.2 hv.2; simp [this]
         have hgi : (f : Int) < (k : Int) := by omega
         have egt : decide ((f : Int) < (k : Int)) = true := by simp; omega
         clear hsm hls hds hv
         generalize srt c = zc at hsr e3 e2
         go_wp2_with fail
         go_quiet (fail)
         go_wp2_with fail
         go_roundw
         case rel => exact ⟨k + 1, by omega, by omega, (HV.out.drew _).setat hbw _ _ (by omega), HST.out.symm⟩
         case measure => rw [(((HV.out.drew nq).setat hbw ((k : Int) + 1) (k + 1) (by omega)).sc).at, HAT.out]; omega
       | false =>
        have hst := varD_stop (s := s) (f := f) (i := k) (fun _ => by rw [← HCB.out]; exact hv)
        rw [HC.out] at hst
        have HST := lh hst
        clear hst
        by_cases h95 : c = 95
        · subst h95
          have e95 : (((95 : Nat) : Int) != 95) = false := by decide
          have e95b : ((95 : Int) != 95) = false := by decide
          clear hv hls hds hsr
          go_wp2_with fail
          go_quiet (fail)
          go_wp2_with fail
          go_meet
          rw [HST.out]
          exact HV.out.drew _
        · have e95 : ((c : Int) != 95) = true := by simp; omega
          rw [Bool.or_eq_false_iff] at hv
          have e3 : ((srt c : Int) == 3) = false := by
           have : srt c ≠ 3 := fun h => by
            rcases hls.1 h with h1 | h1
            · rw [h1] at hv; cases hv.1
            · exact h95 h1
           simp; omega
          by_cases hgt : f < k
          · have egt : decide ((f : Int) < (k : Int)) = true := by simp; omega
            have e2 : ((srt c : Int) == 2) = false := by
             have : srt c ≠ 2 := fun h => by have h1 := hds.1 h; rw [h1, decide_eq_true hgt] at hv; cases hv.2
             simp; omega
            clear hv hls hds h95
            generalize srt c = zc at hsr e3 e2
            go_wp2_with fail
            go_quiet (fail)
            go_wp2_with fail
            go_meet
            rw [HST.out]
            exact HV.out.drew _
          · obtain rfl : f = k := by omega
            have egt : decide ((f : Int) < (f : Int)) = false := by simp
            have egt2 : ¬ ((f : Int) < (f : Int)) := by omega
            clear hv hls hds h95
            generalize srt c = zc at hsr e3
            go_wp2_with fail
            go_quiet (fail)
            go_wp2_with fail
            go_meet
            rw [HST.out]
            exact HV.out.drew _
     · have hd : decide ((k : Int) < (s.size : Int)) = false := by simp; omega
       have hst := varD_stop (s := s) (f := f) (i := k) (fun h => absurd h hlt)
       rw [HC.out] at hst
       have HST := lh hst
       clear hst
       go_wp2_with fail
       go_quiet (fail)
       go_wp2_with fail
       go_meet
       rw [HST.out]
       exact HV.out.drew _
   case rest =>
    clear HV s0 s1 z a0 a1 a2 a3 f0 f2 b0 b1 b2 b3 y0 y1 y2 y3 l0 l1 l2
    obtain ⟨j, hj⟩ : ∃ j, j = varD s f f := ⟨_, rfl⟩
    rw [← hj] at hcut hjs hvge
    have HJ := lh hj
    clear hj
    have HV := lh hcut
    obtain ⟨s0, s1, z, a0, a1, a2, a3, f0, f2, b0, b1, b2, b3, y0, y1, y2, y3, l0, l1, l2⟩ := hcut.facts
    clear hcut
    have j0 : (0 : Int) ≤ (i : Int) := by omega
    have j1 : (i : Int) ≤ (j : Int) := by omega
    have j2 : (j : Int) ≤ (s.size : Int) := by omega
    have hS : S8 b w.heap.size j i s wc := ⟨s0, s1, a1⟩
    go_wp2_with fail
    go_region_held3 (fun w' => S8 b w.heap.size j i s w')
     (repeat (first | exact hS | apply S8.drew | (refine S8.set ?_ _ (by omega))))
     (fail)
    have hv9 : VS w (wc.setCell ⟨w.heap.size, 2, none⟩ (.string (s.extract i j))).drew b s j 5 i (s.extract i j) n := (HV.out.setx hbw _).drew 1
    clear hS HV s0 s1 z a0 a1 a2 a3 f0 f2 b0 b1 b2 b3 y0 y1 y2 y3 l0 l1 l2
    generalize (wc.setCell ⟨w.heap.size, 2, none⟩ (.string (s.extract i j))).drew = w9 at hv9 ⊢
    have HV := lh hv9
    obtain ⟨s0, s1, z, a0, a1, a2, a3, f0, f2, b0, b1, b2, b3, y0, y1, y2, y3, l0, l1, l2⟩ := hv9.facts
    clear hv9
    have hS : S9 b w.heap.size 5 j i n (s.extract i j) w9 := ⟨a0, a1, a2, a3, s1⟩
    have HVE : Hid (VE w b s j w9) := lh ⟨HV.out.sc, HV.out.g⟩
    clear HV
    have n1 : ¬ (w.heap.size + 1 = b) := by omega
    have n2 : ¬ (w.heap.size + 1 = w.heap.size) := by omega
    have n3 : ¬ (b = w.heap.size + 1) := by omega
    have n4 : ¬ (w.heap.size = w.heap.size + 1) := by omega
    by_cases hg : f < j
    · have g1 : decide ((f : Int) < (j : Int)) = true := by simp; omega
      have hwj : IntKind.i64.wrap ((j : Int) - (f : Int)) = (j : Int) - f := IntWalk.i64_in _ (by omega)
      by_cases hg2 : j - f ≤ 20
      · have g2 : decide ((j : Int) - (f : Int) ≤ 20) = true := by simp; omega
        have g3 : decide ((20 : Int) < (j : Int) - (f : Int)) = false := by simp; omega
        have HFIN : Hid (decide (f < j ∧ j - f ≤ 20) = true) := lh (by simp; omega)
        go_wp2_with fail
        go_region
        all_goals go_wp2_with fail
        all_goals
         clear s0 s1 z
         refine bodyPost_ret (v := .tuple #[.agg #[.int .i64 5, .int .i64 i, .string (s.extract i j), .int .i64 n], .bool true]) (by simp [results, Tryz.results68, go_sem, b0, b1, b2, b3, y0, y1, y2, y3, l2]) rfl ?_
         rw [← HJ.out, HFIN.out]
         refine ⟨rfl, ?_⟩
         have e1 : w.heap.size ≤ w.heap.size + 1 := by omega
         exact ((((HVE.out.set _ 0 _ hbw e1).set _ 1 _ hbw e1).set _ 2 _ hbw e1).set _ 3 _ hbw e1).drew
      · have g2 : decide ((j : Int) - (f : Int) ≤ 20) = false := by simp; omega
        have g3 : decide ((20 : Int) < (j : Int) - (f : Int)) = true := by simp; omega
        have HFIN : Hid (decide (f < j ∧ j - f ≤ 20) = false) := lh (by simp; omega)
        go_wp2_with fail
        go_region
        all_goals go_wp2_with fail
        all_goals
         clear s0 s1 z
         refine bodyPost_ret (v := .tuple #[.agg #[.int .i64 5, .int .i64 i, .string (s.extract i j), .int .i64 n], .bool false]) (by simp [results, Tryz.results68, go_sem, b0, b1, b2, b3, y0, y1, y2, y3, l2]) rfl ?_
         rw [← HJ.out, HFIN.out]
         refine ⟨rfl, ?_⟩
         have e1 : w.heap.size ≤ w.heap.size + 1 := by omega
         exact ((((HVE.out.set _ 0 _ hbw e1).set _ 1 _ hbw e1).set _ 2 _ hbw e1).set _ 3 _ hbw e1).drew
    · have g1 : decide ((f : Int) < (j : Int)) = false := by simp; omega
      have HFIN : Hid (decide (f < j ∧ j - f ≤ 20) = false) := lh (by simp; omega)
      go_wp2_with fail
      go_region
      all_goals go_wp2_with fail
      all_goals
       clear s0 s1 z
       refine bodyPost_ret (v := .tuple #[.agg #[.int .i64 5, .int .i64 i, .string (s.extract i j), .int .i64 n], .bool false]) (by simp [results, Tryz.results68, go_sem, b0, b1, b2, b3, y0, y1, y2, y3, l2]) rfl ?_
       rw [← HJ.out, HFIN.out]
       refine ⟨rfl, ?_⟩
       have e1 : w.heap.size ≤ w.heap.size + 1 := by omega
       exact ((((HVE.out.set _ 0 _ hbw e1).set _ 1 _ hbw e1).set _ 2 _ hbw e1).set _ 3 _ hbw e1).drew
structure NS (w W : World) (b : Nat) (s : ByteArray) (q : Nat) (k i : Int) (x : ByteArray) (n : Int) : Prop where
 sc : Scan W b s q
 g : w.grownBy W (some b)
 r : TokB W w.heap.size 0 0 ⟨#[]⟩ 0
 t : TokB W (w.heap.size + 1) k i x n
theorem NS.start {w : World} {b : Nat} {s : ByteArray} {q : Nat} (h : Scan w b s q) (i : Int) : NS w ((w.alloc (.cells #[.int .i64 0, .int .i64 0, .string ⟨#[]⟩, .int .i64 0] 59)).alloc (.cells #[.int .i64 0, .int .i64 i, .string ⟨#[]⟩, .int .i64 0] 59)) b s q 0 i ⟨#[]⟩ 0 := by
 have h2 := heap_alloc_new (w.alloc (.cells #[.int .i64 0, .int .i64 0, .string ⟨#[]⟩, .int .i64 0] 59)) (.cells #[.int .i64 0, .int .i64 i, .string ⟨#[]⟩, .int .i64 0] 59)
 rw [World.size_alloc] at h2
 exact ⟨blk_alloc (blk_alloc h _) _, gr_trans (World.grownBy_alloc w _ _) (World.grownBy_alloc _ _ _), blk_alloc (heap_alloc_new w _) _, h2⟩
theorem NS.drewN {w W : World} {b : Nat} {s : ByteArray} {q : Nat} {k i n : Int} {x : ByteArray} (h : NS w W b s q k i x n) (m : Nat) : NS w (W.drewN m) b s q k i x n := ⟨h.sc.drew _, gr_trans h.g (gr_drew _ _ _), h.r, h.t⟩
theorem NS.drew {w W : World} {b : Nat} {s : ByteArray} {q : Nat} {k i n : Int} {x : ByteArray} (h : NS w W b s q k i x n) : NS w W.drew b s q k i x n := h.drewN 1
theorem NS.alloc {w W : World} {b : Nat} {s : ByteArray} {q : Nat} {k i n : Int} {x : ByteArray} (h : NS w W b s q k i x n) (o : Obj) : NS w (W.alloc o) b s q k i x n :=
 ⟨blk_alloc h.sc _, gr_trans h.g (World.grownBy_alloc W _ _), blk_alloc h.r _, blk_alloc h.t _⟩
theorem NS.below {w W W' : World} {b : Nat} {s : ByteArray} {q : Nat} {k i n : Int} {x : ByteArray} (h : NS w W b s q k i x n) (hb : Below W.heap.size W W') : NS w W' b s q k i x n :=
 ⟨h.sc.below hb, gr_trans h.g (gr_below hb _), blk_below h.r hb (lt_of_block h.r), blk_below h.t hb (lt_of_block h.t)⟩
theorem NS.gr {w W W' : World} {b : Nat} {s : ByteArray} {q q' : Nat} {k i n : Int} {x : ByteArray} (h : NS w W b s q k i x n) (hb : b < w.heap.size) (hg : W.grownBy W' (some b)) (hs : Scan W' b s q') : NS w W' b s q' k i x n :=
 ⟨hs, gr_trans h.g hg, blk_grown h.r hg (by intro e; injection e with e; omega), blk_grown h.t hg (by intro e; injection e with e; omega)⟩
theorem NS.setat {w W : World} {b : Nat} {s : ByteArray} {q : Nat} {k i n : Int} {x : ByteArray} (h : NS w W b s q k i x n) (hb : b < w.heap.size) (q' : Int) (p : Nat) (hp : q' = p) : NS w (W.setCell ⟨b, 1, none⟩ (.int .i64 q')) b s p k i x n :=
 ⟨h.sc.set _ _ hp, gr_trans h.g (gr_set _ _ _ _), blk_set_ne h.r (by omega) _ _, blk_set_ne h.t (by omega) _ _⟩
theorem NS.setk {w W : World} {b : Nat} {s : ByteArray} {q : Nat} {k i n : Int} {x : ByteArray} (h : NS w W b s q k i x n) (hb : b < w.heap.size) (k' : Int) : NS w (W.setCell ⟨w.heap.size + 1, 0, none⟩ (.int .i64 k')) b s q k' i x n :=
 ⟨blk_set_ne h.sc (by omega) _ _, gr_far h.g _ _ _ (by omega), blk_set_ne h.r (by omega) _ _, blk_set h.t 0 _⟩
theorem NS.setx {w W : World} {b : Nat} {s : ByteArray} {q : Nat} {k i n : Int} {x : ByteArray} (h : NS w W b s q k i x n) (hb : b < w.heap.size) (x' : ByteArray) : NS w (W.setCell ⟨w.heap.size + 1, 2, none⟩ (.string x')) b s q k i x' n :=
 ⟨blk_set_ne h.sc (by omega) _ _, gr_far h.g _ _ _ (by omega), blk_set_ne h.r (by omega) _ _, blk_set h.t 2 _⟩
theorem NS.setn {w W : World} {b : Nat} {s : ByteArray} {q : Nat} {k i n : Int} {x : ByteArray} (h : NS w W b s q k i x n) (hb : b < w.heap.size) (n' : Int) : NS w (W.setCell ⟨w.heap.size + 1, 3, none⟩ (.int .i64 n')) b s q k i x n' :=
 ⟨blk_set_ne h.sc (by omega) _ _, gr_far h.g _ _ _ (by omega), blk_set_ne h.r (by omega) _ _, blk_set h.t 3 _⟩
structure NF (w W : World) (b : Nat) (s : ByteArray) (q : Nat) (k i : Int) (x : ByteArray) (n : Int) : Prop where
 s0 : W.cell? ⟨b, 0, none⟩ = some (.string s)
 s1 : W.cell? ⟨b, 1, none⟩ = some (.int .i64 q)
 z : W.frozen? ⟨b, 1, none⟩ = false
 b0 : W.cell? ⟨w.heap.size, 0, none⟩ = some (.int .i64 0)
 b1 : W.cell? ⟨w.heap.size, 1, none⟩ = some (.int .i64 0)
 b2 : W.cell? ⟨w.heap.size, 2, none⟩ = some (.string ⟨#[]⟩)
 b3 : W.cell? ⟨w.heap.size, 3, none⟩ = some (.int .i64 0)
 y0 : W.frozen? ⟨w.heap.size, 0, none⟩ = false
 y1 : W.frozen? ⟨w.heap.size, 1, none⟩ = false
 y2 : W.frozen? ⟨w.heap.size, 2, none⟩ = false
 y3 : W.frozen? ⟨w.heap.size, 3, none⟩ = false
 a0 : W.cell? ⟨w.heap.size + 1, 0, none⟩ = some (.int .i64 k)
 a1 : W.cell? ⟨w.heap.size + 1, 1, none⟩ = some (.int .i64 i)
 a2 : W.cell? ⟨w.heap.size + 1, 2, none⟩ = some (.string x)
 a3 : W.cell? ⟨w.heap.size + 1, 3, none⟩ = some (.int .i64 n)
 f0 : W.frozen? ⟨w.heap.size + 1, 0, none⟩ = false
 f2 : W.frozen? ⟨w.heap.size + 1, 2, none⟩ = false
 f3 : W.frozen? ⟨w.heap.size + 1, 3, none⟩ = false
 l0 : b < W.heap.size
 l1 : w.heap.size < W.heap.size
 l2 : w.heap.size + 1 < W.heap.size
theorem NS.facts {w W : World} {b : Nat} {s : ByteArray} {q : Nat} {k i n : Int} {x : ByteArray} (h : NS w W b s q k i x n) : NF w W b s q k i x n :=
 ⟨blk_cell h.sc 0, blk_cell h.sc 1, blk_free h.sc 1, blk_cell h.r 0, blk_cell h.r 1, blk_cell h.r 2, blk_cell h.r 3, blk_free h.r 0, blk_free h.r 1, blk_free h.r 2, blk_free h.r 3, blk_cell h.t 0, blk_cell h.t 1, blk_cell h.t 2, blk_cell h.t 3, blk_free h.t 0, blk_free h.t 2, blk_free h.t 3, lt_of_block h.sc, lt_of_block h.r, lt_of_block h.t⟩
theorem NS.fin {w W : World} {b : Nat} {s : ByteArray} {q : Nat} {k i n : Int} {x : ByteArray} (h : NS w W b s q k i x n) (hb : b < w.heap.size) (u0 u1 u2 u3 : Value) :
 VE w b s q ((((W.setCell ⟨w.heap.size, 0, none⟩ u0).setCell ⟨w.heap.size, 1, none⟩ u1).setCell ⟨w.heap.size, 2, none⟩ u2).setCell ⟨w.heap.size, 3, none⟩ u3) := by
 have hv : VE w b s q W := ⟨h.sc, h.g⟩
 have e := Nat.le_refl w.heap.size
 exact (((hv.set _ 0 _ hb e).set _ 1 _ hb e).set _ 2 _ hb e).set _ 3 _ hb e
def NextPost (s : ByteArray) (b i : Nat) (w : World) (e : Ending) (w' : World) : Prop :=
 w.grownBy w' (some b) ∧ match tokD s i with
  | some (t, j) => e = .returned (.tuple #[tokV t, .bool true]) ∧ Scan w' b s j
  | none => ∃ (k a n : Int) (x : ByteArray), e = .returned (.tuple #[.agg #[.int .i64 k, .int .i64 a, .string x, .int .i64 n], .bool false])
theorem NextPost.ok {s : ByteArray} {b i j : Nat} {t : Tok} {w w' : World} {e : Ending} (h : tokD s i = some (t, j)) (he : e = .returned (.tuple #[tokV t, .bool true])) (hv : VE w b s j w') : NextPost s b i w e w' := by
 refine ⟨hv.2, ?_⟩
 rw [h]
 exact ⟨he, hv.1⟩
theorem NextPost.bad {s : ByteArray} {b i : Nat} {w w' : World} {e : Ending} {k a n : Int} {x : ByteArray} (h : tokD s i = none) (he : e = .returned (.tuple #[.agg #[.int .i64 k, .int .i64 a, .string x, .int .i64 n], .bool false])) (hg : w.grownBy w' (some b)) : NextPost s b i w e w' := by
 refine ⟨hg, ?_⟩
 rw [h]
 exact ⟨k, a, n, x, he⟩
theorem sort_cases : ∀ c, c < 128 → (srt c = 2 ∧ dig c = true) ∨ (srt c = 3 ∧ (small c = true ∨ c = 95)) ∨ (srt c = 4 ∧ great c = true) ∨ (srt c = 5 ∧ c = 39) ∨ (srt c = 6 ∧ c ∈ signL) ∨ (srt c = 7 ∧ c = 34) ∨ ((srt c = 0 ∨ srt c = 1) ∧ dig c = false ∧ c ≠ 34 ∧ c ≠ 39 ∧ small c = false ∧ great c = false ∧ c ≠ 95 ∧ c ∉ signL) := by decide +kernel
theorem next_var (s : ByteArray) (b i : Nat) (w : World) (hsc : Scan w b s i) (hs : s.size ≤ 4000) (hi : i < s.size) (hso : Sorts w) (hA : ∀ k, k < s.size → bt s k < 128) (hb : 1 ≠ b) (h39 : bt s i = 39) :
 Calls Tryz.prog 33 #[pv b] w (NextPost s b i w) := by
 obtain ⟨W, hW⟩ : ∃ W, W = (w.alloc (.cells #[.int .i64 0, .int .i64 0, .string ⟨#[]⟩, .int .i64 0] 59)).alloc (.cells #[.int .i64 0, .int .i64 i, .string ⟨#[]⟩, .int .i64 0] 59) := ⟨_, rfl⟩
 have hns : NS w W b s i 0 i ⟨#[]⟩ 0 := by rw [hW]; exact NS.start hsc i
 have hbw := hsc.lt
 have qw0 : (w.alloc (.cells #[.int .i64 0, .int .i64 0, .string ⟨#[]⟩, .int .i64 0] 59)).cell? ⟨b, 0, none⟩ = some (.string s) := blk_cell (blk_alloc hsc _) 0
 have qw1 : (w.alloc (.cells #[.int .i64 0, .int .i64 0, .string ⟨#[]⟩, .int .i64 0] 59)).cell? ⟨b, 1, none⟩ = some (.int .i64 i) := blk_cell (blk_alloc hsc _) 1
 have HSO := lh hso
 have HW := lh hW
 have HV := lh hns
 obtain ⟨s0, s1, z, b0, b1, b2, b3, y0, y1, y2, y3, a0, a1, a2, a3, f0, f2, f3, l0, l1, l2⟩ := hns.facts
 have k0 : (0 : Int) ≤ (i : Int) := by omega
 have k1 : (i : Int) < (s.size : Int) := by omega
 obtain ⟨c, hcb⟩ : ∃ c, c = bt s i := ⟨_, rfl⟩
 have hck := bt_eq hi hcb
 have hc := hA i hi
 rw [← hcb] at hc
 have hsr : W.cell? ⟨1, c, none⟩ = some (.int .i64 (srt c)) := gr_cell HV.out.g hb (HSO.out c hc)
 have HCB := lh hcb
 have c0 : (0 : Int) ≤ (c : Int) := by omega
 have c1 : (c : Int) < 128 := by omega
 have hsv : srt c = 5 := by rw [hcb, h39]; rfl
 rw [hsv] at hsr
 clear hcb hso hW hns hsc
 go_enter Tryz.func33, Tryz.ntmps33
 go_upto_region 2 with fail
 rw [← HW.out]
 clear qw0 qw1
 go_quiet (fail)
 go_upto_region 19 with fail
 have hvX := HV.out.drewN nq
 clear HV hsr hck s0 s1 z b0 b1 b2 b3 y0 y1 y2 y3 a0 a1 a2 a3 f0 f2 f3 l0 l1 l2
 generalize W.drewN nq = W1 at hvX ⊢
 have HV := lh hvX
 obtain ⟨s0, s1, z, b0, b1, b2, b3, y0, y1, y2, y3, a0, a1, a2, a3, f0, f2, f3, l0, l1, l2⟩ := hvX.facts
 clear hvX
 go_wp2_with fail
 refine (variable_any s b i 0 0 ⟨#[]⟩ W1 HV.out.sc hs hi (HSO.out.gr HV.out.g hb) hA hb).mono ?_
 rintro e w2 ⟨rfl, hs2, hg2⟩
 have hT := tokD_var h39
 obtain ⟨f, hf⟩ : ∃ f, f = vfD s i := ⟨_, rfl⟩
 rw [← hf] at hs2 hT ⊢
 obtain ⟨j, hj⟩ : ∃ j, j = varD s f f := ⟨_, rfl⟩
 rw [← hj] at hs2 hT ⊢
 have HT := lh hT
 have hv2 := HV.out.gr hbw hg2 hs2
 clear HV hT hf hj hg2 hs2 s0 s1 z b0 b1 b2 b3 y0 y1 y2 y3 a0 a1 a2 a3 f0 f2 f3 l0 l1 l2
 have HV := lh hv2
 obtain ⟨s0, s1, z, b0, b1, b2, b3, y0, y1, y2, y3, a0, a1, a2, a3, f0, f2, f3, l0, l1, l2⟩ := hv2.facts
 clear hv2
 generalize hx : cut s i j = x
 go_wp2_with fail
 refine bodyPost_ret (v := .tuple #[.agg #[.int .i64 5, .int .i64 i, .string x, .int .i64 0], .bool (decide (f < j ∧ j - f ≤ 20))]) (by simp [results, Tryz.results33, go_sem, b0, b1, b2, b3, y0, y1, y2, y3, l1]) rfl ?_
 have hT := HT.out
 by_cases hg : f < j ∧ j - f ≤ 20
 · rw [if_pos hg, hx] at hT
   refine NextPost.ok hT (by rw [decide_eq_true hg]; rfl) ?_
   exact HV.out.fin hbw _ _ _ _
 · rw [if_neg hg] at hT
   exact NextPost.bad hT (by rw [decide_eq_false hg]) (HV.out.fin hbw _ _ _ _).2
theorem next_text (s : ByteArray) (b i : Nat) (w : World) (hsc : Scan w b s i) (hs : s.size ≤ 4000) (hi : i < s.size) (hso : Sorts w) (hA : ∀ k, k < s.size → bt s k < 128) (hb : 1 ≠ b) (h34 : bt s i = 34) :
 Calls Tryz.prog 33 #[pv b] w (NextPost s b i w) := by
 obtain ⟨W, hW⟩ : ∃ W, W = (w.alloc (.cells #[.int .i64 0, .int .i64 0, .string ⟨#[]⟩, .int .i64 0] 59)).alloc (.cells #[.int .i64 0, .int .i64 i, .string ⟨#[]⟩, .int .i64 0] 59) := ⟨_, rfl⟩
 have hns : NS w W b s i 0 i ⟨#[]⟩ 0 := by rw [hW]; exact NS.start hsc i
 have hbw := hsc.lt
 have qw0 : (w.alloc (.cells #[.int .i64 0, .int .i64 0, .string ⟨#[]⟩, .int .i64 0] 59)).cell? ⟨b, 0, none⟩ = some (.string s) := blk_cell (blk_alloc hsc _) 0
 have qw1 : (w.alloc (.cells #[.int .i64 0, .int .i64 0, .string ⟨#[]⟩, .int .i64 0] 59)).cell? ⟨b, 1, none⟩ = some (.int .i64 i) := blk_cell (blk_alloc hsc _) 1
 have HSO := lh hso
 have HW := lh hW
 have HV := lh hns
 obtain ⟨s0, s1, z, b0, b1, b2, b3, y0, y1, y2, y3, a0, a1, a2, a3, f0, f2, f3, l0, l1, l2⟩ := hns.facts
 have k0 : (0 : Int) ≤ (i : Int) := by omega
 have k1 : (i : Int) < (s.size : Int) := by omega
 obtain ⟨c, hcb⟩ : ∃ c, c = bt s i := ⟨_, rfl⟩
 have hck := bt_eq hi hcb
 have hc := hA i hi
 rw [← hcb] at hc
 have hsr : W.cell? ⟨1, c, none⟩ = some (.int .i64 (srt c)) := gr_cell HV.out.g hb (HSO.out c hc)
 have HCB := lh hcb
 have c0 : (0 : Int) ≤ (c : Int) := by omega
 have c1 : (c : Int) < 128 := by omega
 have hsv : srt c = 7 := by rw [hcb, h34]; rfl
 rw [hsv] at hsr
 clear hcb hso hW hns hsc
 go_enter Tryz.func33, Tryz.ntmps33
 go_upto_region 2 with fail
 rw [← HW.out]
 clear qw0 qw1
 go_quiet (fail)
 go_upto_region 21 with fail
 have hvX := HV.out.drewN nq
 clear HV hsr hck s0 s1 z b0 b1 b2 b3 y0 y1 y2 y3 a0 a1 a2 a3 f0 f2 f3 l0 l1 l2
 generalize W.drewN nq = W1 at hvX ⊢
 have HV := lh hvX
 obtain ⟨s0, s1, z, b0, b1, b2, b3, y0, y1, y2, y3, a0, a1, a2, a3, f0, f2, f3, l0, l1, l2⟩ := hvX.facts
 clear hvX
 go_wp2_with fail
 have hvX := HV.out.setk hbw 2
 clear HV s0 s1 z b0 b1 b2 b3 y0 y1 y2 y3 a0 a1 a2 a3 f0 f2 f3 l0 l1 l2
 generalize W1.setCell ⟨w.heap.size + 1, 0, none⟩ (.int .i64 2) = W2 at hvX ⊢
 have HV := lh hvX
 obtain ⟨s0, s1, z, b0, b1, b2, b3, y0, y1, y2, y3, a0, a1, a2, a3, f0, f2, f3, l0, l1, l2⟩ := hvX.facts
 clear hvX
 refine (text_any s b i W2 HV.out.sc hs hi (HSO.out.gr HV.out.g hb) hA hb).mono ?_
 rintro e w3 ⟨hg3, hm⟩
 have hT := tokD_text h34
 cases htx : textD s (i + 1) [] with
 | some r =>
  obtain ⟨r, j⟩ := r
  rw [htx] at hm hT
  obtain ⟨rfl, hs3⟩ := hm
  have HT := lh hT
  have hv3 := HV.out.gr hbw hg3 hs3
  clear HV hT hg3 hs3 htx s0 s1 z b0 b1 b2 b3 y0 y1 y2 y3 a0 a1 a2 a3 f0 f2 f3 l0 l1 l2
  have HV := lh hv3
  obtain ⟨s0, s1, z, b0, b1, b2, b3, y0, y1, y2, y3, a0, a1, a2, a3, f0, f2, f3, l0, l1, l2⟩ := hv3.facts
  clear hv3
  go_wp2_with fail
  refine bodyPost_ret (v := .tuple #[.agg #[.int .i64 2, .int .i64 i, .string ⟨r.toArray⟩, .int .i64 0], .bool true]) (by simp [results, Tryz.results33, go_sem, b0, b1, b2, b3, y0, y1, y2, y3, l1, a0, a1, a2, a3, f2, l2]) rfl ?_
  exact NextPost.ok HT.out rfl ((HV.out.setx hbw _).fin hbw _ _ _ _)
 | none =>
  rw [htx] at hm hT
  obtain ⟨x, rfl⟩ := hm
  have HT := lh hT
  have hr3 : TokB w3 w.heap.size 0 0 ⟨#[]⟩ 0 := blk_grown HV.out.r hg3 (by intro e; injection e with e; omega)
  have ht3 : TokB w3 (w.heap.size + 1) 2 i ⟨#[]⟩ 0 := blk_grown HV.out.t hg3 (by intro e; injection e with e; omega)
  have HG := lh (gr_trans HV.out.g hg3)
  clear HV hT hg3 htx s0 s1 z b0 b1 b2 b3 y0 y1 y2 y3 a0 a1 a2 a3 f0 f2 f3 l0 l1 l2
  have b0 := blk_cell hr3 0
  have b1 := blk_cell hr3 1
  have b2 := blk_cell hr3 2
  have b3 := blk_cell hr3 3
  have y0 := blk_free hr3 0
  have y1 := blk_free hr3 1
  have y2 := blk_free hr3 2
  have y3 := blk_free hr3 3
  have a0 := blk_cell ht3 0
  have a1 := blk_cell ht3 1
  have a2 := blk_cell ht3 2
  have a3 := blk_cell ht3 3
  have f2 := blk_free ht3 2
  have l1 : w.heap.size < w3.heap.size := lt_of_block hr3
  have l2 : w.heap.size + 1 < w3.heap.size := lt_of_block ht3
  clear hr3 ht3
  simp only [List.getElem?_toArray, List.getElem?_cons_zero, List.getElem?_cons_succ] at b0 b1 b2 b3 a0 a1 a2 a3
  go_wp2_with fail
  refine bodyPost_ret (v := .tuple #[.agg #[.int .i64 2, .int .i64 i, .string x, .int .i64 0], .bool false]) (by simp [results, Tryz.results33, go_sem, b0, b1, b2, b3, y0, y1, y2, y3, l1, a0, a1, a2, a3, f2, l2]) rfl ?_
  refine NextPost.bad HT.out rfl ?_
  have e := Nat.le_refl w.heap.size
  exact gr_far (gr_far (gr_far (gr_far (gr_far HG.out _ _ _ (Nat.le_succ _)) _ _ _ e) _ _ _ e) _ _ _ e) _ _ _ e
end Go.Proofs.YthehjeeiodbkjaaGreatDoor
