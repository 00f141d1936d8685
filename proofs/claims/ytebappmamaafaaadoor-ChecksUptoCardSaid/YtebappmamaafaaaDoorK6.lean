/-
  Proved: the contract of the reference's fun (one function checked). Conditions: operands that Encode lets by.
-/
import Derived.Test.YtebappmamaafaaaDoorK6L
import Derived.OwnWalk
import Derived.Deep.RegionHeld3
namespace Go.Proofs.YtebappmamaafaaaDoor
open Go.RowKit

set_option maxRecDepth 100000 in
set_option maxHeartbeats 8000000 in
theorem rfun_any (c : Cd) (f : Fn) (main : Bool) (w : World) (hc : CodeAt w w.heap.size c) (hf : f ∈ c.funs) (hok : FunsOk c) (hw : wgt c ≤ 1048576) :
    Calls Tryd.prog 22 #[c.val, fv f, .bool main] w (FunPost c f main w) := by
  have hil := ins_wgt hf hw
  have HC := Lib.hid hc
  have HOK := Lib.hid hok
  have HF := Lib.hid hf
  clear hc hok hf
  unfold Cd.val fv
  have hbc := blk_alloc (heap_alloc_new w (.cells #[.slice c.ta c.texts.length c.tc, .slice c.fa c.funs.length c.fc] 25)) (.cells #[.int .i64 f.free, .int .i64 f.slots, .slice f.ao f.ins.length f.cap] 48)
  have hbf := heap_alloc_new (w.alloc (.cells #[.slice c.ta c.texts.length c.tc, .slice c.fa c.funs.length c.fc] 25)) (.cells #[.int .i64 f.free, .int .i64 f.slots, .slice f.ao f.ins.length f.cap] 48)
  rw [World.size_alloc] at hbf
  have HBW : Hid (Below w.heap.size w ((w.alloc (.cells #[.slice c.ta c.texts.length c.tc, .slice c.fa c.funs.length c.fc] 25)).alloc (.cells #[.int .i64 f.free, .int .i64 f.slots, .slice f.ao f.ins.length f.cap] 48))) := balloc (balloc (Below.refl _ _) _) _
  obtain ⟨W, hW⟩ : ∃ W, W = (w.alloc (.cells #[.slice c.ta c.texts.length c.tc, .slice c.fa c.funs.length c.fc] 25)).alloc (.cells #[.int .i64 f.free, .int .i64 f.slots, .slice f.ao f.ins.length f.cap] 48) := ⟨_, rfl⟩
  have hWs : W.heap.size = w.heap.size + 1 + 1 := by rw [hW, World.size_alloc, World.size_alloc]
  have HWs := Lib.hid hWs
  go_enter Tryd.func22, Tryd.ntmps22
  go_wp2_with fail
  rw [← hW]
  rw [← hW] at hbc hbf HBW
  have HBC := Lib.hid hbc
  have HBF := Lib.hid hbf
  have z2 : W.cell? ⟨w.heap.size + 1, 2, none⟩ = some (.slice f.ao f.ins.length f.cap) := (fv_cell hbf).2.2
  have lz : w.heap.size + 1 < W.heap.size := by omega
  clear hbc hbf hW
  go_wp2_with fail
  clear z2 lz
  go_loopw [9] (fun i wr => ∃ k : Nat, k ≤ f.ins.length ∧ i = .int .i64 k ∧ opsGo c f main (f.ins.drop k) k = opsGo c f main f.ins 0 ∧ Below W.heap.size W wr) (fun i _ => f.ins.length - (intOf i).toNat)
  case atStart => exact ⟨0, Nat.zero_le _, rfl, by simp, Below.refl _ _⟩
  case round =>
    obtain ⟨k, hk, rfl, hgo, hbl⟩ := hrel
    have hsz := hbl.size
    obtain ⟨g0, g1⟩ := cv_cell (blk_below HBC.out hbl (by omega))
    obtain ⟨g2, g3, g4⟩ := fv_cell (blk_below HBF.out hbl (by omega))
    have HBR := Lib.hid (bthen HBW.out hbl)
    have lt0 : w.heap.size < wr.heap.size := by omega
    have lt1 : w.heap.size + 1 < wr.heap.size := by omega
    by_cases hlt : k < f.ins.length
    ·
      obtain ⟨x, hx⟩ : ∃ x, x = f.ins.getD k (0, 0, 0) := ⟨_, rfl⟩
      obtain ⟨hxm, ⟨_, _, _⟩, b, off, hbN, a0, a1, a2, hia⟩ := ins_at HC.out HF.out HBR.out hlt hx
      have hxk := (HOK.out f HF.out).2 x hxm
      have hst := opsGo_step (c := c) (f := f) (main := main) hlt
      rw [← hx] at hst
      rw [hst] at hgo
      obtain ⟨op, oa, ob⟩ := x
      obtain ⟨k1, k2, _⟩ := hxk
      simp only at a0 a1 a2
      have HGO := Lib.hid hgo
      have HBL := Lib.hid hbl
      have hoo : opOf c f main (op, oa, ob) = opB c.texts.length c.funs.length f.free f.slots f.ins.length main op oa ob := rfl
      have HOO := Lib.hid hoo
      clear hst hgo hx hxm hbl hoo
      go_wp2_with fail
      go_region_held3 (fun w' => (w'.cell? ⟨w.heap.size, 0, none⟩ = some (.slice c.ta c.texts.length c.tc) ∧ w'.cell? ⟨w.heap.size, 1, none⟩ = some (.slice c.fa c.funs.length c.fc)) ∧ (w'.cell? ⟨w.heap.size + 1, 0, none⟩ = some (.int .i64 f.free) ∧ w'.cell? ⟨w.heap.size + 1, 1, none⟩ = some (.int .i64 f.slots) ∧ w'.cell? ⟨w.heap.size + 1, 2, none⟩ = some (.slice f.ao f.ins.length f.cap)) ∧ (w'.cell? ⟨b, off + k * 3, none⟩ = some (.int .i64 op) ∧ w'.cell? ⟨b, off + k * 3 + 1, none⟩ = some (.int .i64 oa) ∧ w'.cell? ⟨b, off + k * 3 + 2, none⟩ = some (.int .i64 ob)))
        (first
          | go_keep
          | (refine ⟨⟨?_, ?_⟩, ⟨?_, ?_, ?_⟩, ⟨?_, ?_, ?_⟩⟩
             all_goals (first | assumption | (rw [hc4 _ _ (by simp; omega)]; assumption))))
        ((go_at_call 35; refine (rop_any c f main op oa ob _ k1 k2).mono ?_; rintro e w4 ⟨rfl, hb4⟩; obtain ⟨hc4, hf4⟩ := bcell hb4))
      have HB4 := Lib.hid (HBR.out.drew.trans (hb4.mono (by show w.heap.size ≤ wr.heap.size; omega)))
      have HB4' := Lib.hid (HBL.out.drew.trans (hb4.mono (by show W.heap.size ≤ wr.heap.size; omega)))
      clear hb4 hc4 hf4
      rw [← HOO.out]
      generalize hz : opOf c f main (op, oa, ob) = z at *
      by_cases h0 : z = 0
      · subst h0
        have HZ := Lib.hid hz
        clear hz
        go_wp2_with fail
        go_roundw
        case rel => exact ⟨k + 1, by omega, by go_num, by have := HGO.out; simpa using this, HB4'.out⟩
        case measure => simp [intOf]; omega
      · have hfin : funB c f main = (z, (k : Int)) := by
          have := HGO.out
          rw [if_neg h0] at this
          unfold funB
          rw [← this]
        have HFN := Lib.hid hfin
        have hz0 : (z == 0) = false := by simpa using h0
        clear hfin h0 hz
        go_wp2_with fail
        go_ret2
        exact ⟨by rw [HFN.out]; rfl, HB4.out⟩
    · obtain rfl : k = f.ins.length := by omega
      have hall := opsGo_none (c := c) (f := f) (main := main) (l := f.ins) (k := 0) (by rw [← hgo]; simp [opsGo])
      have hfb : funB c f main = flowGo c f.ins 0 K0 := by
        unfold funB
        rw [← hgo]
        simp [opsGo]
      have HALL := Lib.hid hall
      have HFB := Lib.hid hfb
      have HBL := Lib.hid hbl
      clear hall hfb hgo hbl hlt
      obtain ⟨i0, hi, hz0, hz1, hz2⟩ := info_parts info94
      go_wp2_with (first | (at_make; refine wpList_make_full _ rfl (.tmp 41) (.tmp 41) 92 rfl wr.heap.size 94 i0 _ 3 Tryd.underlying92 hi hz0 hz1 _ _ _ _ (f.ins.length + 1) rfl rfl (by omega) (by omega) (by rw [hz2]; omega) (by unfold maxLen; omega) (Nat.le_refl _) ?_))
      intro w2 hown hg
      have hlk := lk_new hown
      have hfr := hlk
      obtain ⟨cs, hcb, hcs, hcj⟩ := hfr
      have hf0 := blk_free hcb 0
      have c0 : w2.cell? ⟨wr.heap.size, 0, none⟩ = some (.bool false) := by rw [blk_cell hcb]; exact (hcj 0 (by omega)).1
      have hlt2 := hlk.lt
      obtain ⟨wo, hwo⟩ : ∃ wo : World, wo = wr := ⟨_, rfl⟩
      subst hwo
      have HLK := Lib.hid hlk.first
      have hg2 : wo.grownBy w2 (some wo.heap.size) := ⟨hg.os, hg.tape, hg.output, hg.size, fun k hk _ => hg.block k hk (by simp)⟩
      have HG2 := Lib.hid (grown_trans hg2 (grown_set w2 wo.heap.size 0 (.bool true)))
      clear hown hg hlk hcb hcs hcj hg2 hi hz0 hz1 hz2
      go_wp2_with fail
      go_loopw [12] (fun i wr => ∃ (k : Nat) (K : KK), k ≤ f.ins.length ∧ i = .int .i64 k ∧ flowGo c (f.ins.drop k) k K = funB c f main ∧ InvK k K ∧ LK wr wo.heap.size (f.ins.length + 1) K ∧ wo.grownBy wr (some wo.heap.size)) (fun i _ => f.ins.length - (intOf i).toNat)
      case atStart => exact ⟨0, K0, Nat.zero_le _, rfl, by rw [HFB.out]; simp, InvK.zero, HLK.out, HG2.out⟩
      case round =>
        obtain ⟨k, K, hk, rfl, hgo, hinv, hI, hg⟩ := hrel
        have hsz := hg.size
        have hmlt := hI.lt
        have HBC3 := Lib.hid (blk_grown (blk_below HBC.out HBL.out (by have := HWs.out; omega)) hg (by simp; omega))
        have HBF3 := Lib.hid (blk_grown (blk_below HBF.out HBL.out (by have := HWs.out; omega)) hg (by simp; omega))
        obtain ⟨r0, r1⟩ := cv_cell HBC3.out
        obtain ⟨r2, r3, r4⟩ := fv_cell HBF3.out
        have HBR3 : Hid (Below w.heap.size w wr) := HBR.out.grown hg (by omega) (fun k hk => by cases hk; omega)
        have lt3 : w.heap.size < wr.heap.size := by omega
        have lt4 : w.heap.size + 1 < wr.heap.size := by omega
        clear g0 g1 g2 g3 g4 hlt2
        by_cases hlt : k < f.ins.length
        · obtain ⟨x, hx⟩ : ∃ x, x = f.ins.getD k (0, 0, 0) := ⟨_, rfl⟩
          obtain ⟨hxm, ⟨⟨z1, z2⟩, ⟨z3, z4⟩, ⟨z5, z6⟩⟩, b, off, hbN, a0, a1, a2, hia⟩ := ins_at HC.out HF.out HBR3.out hlt hx
          have hxk := (HOK.out f HF.out).2 x hxm
          have hzx := HALL.out x hxm
          have hst := flowGo_step (c := c) hlt K
          rw [← hx] at hst
          rw [hst] at hgo
          obtain ⟨op, oa, ob⟩ := x
          have hfx := ins_facts hxk hzx HOK.out
          obtain ⟨k1, k2, _⟩ := hxk
          simp only at k1 k2 z1 z2 z3 z4 z5 z6 a0 a1 a2
          obtain ⟨is, his⟩ : ∃ is, is = (K k).isSome := ⟨_, rfl⟩
          obtain ⟨s, hs⟩ : ∃ s, s = (K k).getD (0, 0) := ⟨_, rfl⟩
          have hsb : (0 ≤ s.1 ∧ s.1 ≤ 5000) ∧ (0 ≤ s.2 ∧ s.2 ≤ (k : Int)) := by
            cases hKk : K k with
            | none => rw [hKk] at hs; subst hs; simp
            | some s2 =>
              rw [hKk] at hs
              have hs2 : s = s2 := hs
              rw [hs2]
              exact hinv k s2 hKk
          have hgo2 : (if is = true ∧ okB op (tkB (frOf c oa) op oa ob) (ptB op) s = true then (match goOn op (tkB (frOf c oa) op oa ob) (ptB op) oa s k K with
              | none => (20, (k : Int))
              | some K' => flowGo c (f.ins.drop (k + 1)) (k + 1) K') else (20, (k : Int))) = funB c f main := by
            rw [← hgo]
            cases hKk : K k with
            | none => rw [hKk] at his; subst his; simp [stepF, hKk]
            | some s2 =>
              rw [hKk] at his hs
              subst his; subst hs
              simp only [stepF, hKk, Option.getD_some, Option.isSome_some, true_and]
              split <;> rfl
          have hlc : wr.cell? ⟨wo.heap.size, k * 3, none⟩ = some (.bool is) ∧ wr.cell? ⟨wo.heap.size, k * 3 + 1, none⟩ = some (.int .i64 s.1) ∧ wr.cell? ⟨wo.heap.size, k * 3 + 2, none⟩ = some (.int .i64 s.2) := by
            obtain ⟨cs, hb, _, hj⟩ := hI
            obtain ⟨j0, j1, j2⟩ := hj k (by omega)
            rw [blk_cell hb, blk_cell hb, blk_cell hb, j0, j1, j2, his, hs]
            exact ⟨rfl, rfl, rfl⟩
          obtain ⟨l0, l1, l2⟩ := hlc
          obtain ⟨⟨i1, i2⟩, ⟨i3, i4⟩⟩ := hsb
          have HFX := Lib.hid hfx
          have HGO := Lib.hid hgo2
          have HINV := Lib.hid hinv
          have HI := Lib.hid hI
          have HG := Lib.hid hg
          clear hst hgo hx hxm hg hI hinv hfx hzx his hs hgo2
          go_wp2_with fail
          have hbx := heap_alloc_new wr (.cells #[.int .i64 op, .int .i64 oa, .int .i64 ob] 50)
          have hbs := heap_alloc_new (wr.alloc (.cells #[.int .i64 op, .int .i64 oa, .int .i64 ob] 50)) (.cells #[.bool is, .int .i64 s.1, .int .i64 s.2] 94)
          rw [World.size_alloc] at hbs
          have hbx := blk_alloc hbx (.cells #[.bool is, .int .i64 s.1, .int .i64 s.2] 94)
          have hb3 : Below wr.heap.size wr ((wr.alloc (.cells #[.int .i64 op, .int .i64 oa, .int .i64 ob] 50)).alloc (.cells #[.bool is, .int .i64 s.1, .int .i64 s.2] 94)) := balloc (balloc (Below.refl _ _) _) _
          obtain ⟨f1, f2, f3, ⟨f4, f5⟩, ⟨f6, f7⟩⟩ := HFX.out
          refine (takes_any c op oa ob _ (HC.out.later (bthen HBR3.out hb3)) k1 k2 f1).mono ?_
          rintro e w4 ⟨rfl, hb4⟩
          have hbx4 := blk_below hbx hb4 (by simp; omega)
          have hbs4 := blk_below hbs hb4 (by simp)
          have hb34 := hb3.trans (hb4.mono (by simp; omega))
          have hI4 := HI.out.carry (hb34.block _ hmlt)
          have x0 : w4.cell? ⟨wr.heap.size, 0, none⟩ = some (.int .i64 op) := blk_cell hbx4 0
          have x1 : w4.cell? ⟨wr.heap.size, 1, none⟩ = some (.int .i64 oa) := blk_cell hbx4 1
          have x2 : w4.cell? ⟨wr.heap.size, 2, none⟩ = some (.int .i64 ob) := blk_cell hbx4 2
          have s0 : w4.cell? ⟨wr.heap.size + 1, 0, none⟩ = some (.bool is) := blk_cell hbs4 0
          have s1 : w4.cell? ⟨wr.heap.size + 1, 1, none⟩ = some (.int .i64 s.1) := blk_cell hbs4 1
          have s2 : w4.cell? ⟨wr.heap.size + 1, 2, none⟩ = some (.int .i64 s.2) := blk_cell hbs4 2
          have hs4 := hb4.size
          simp only [World.size_alloc] at hs4
          have lt5 : wr.heap.size < w4.heap.size := by omega
          have lt6 : wr.heap.size + 1 < w4.heap.size := by omega
          have HX4 := Lib.hid hbx4
          have HSS4 := Lib.hid hbs4
          have HI4 := Lib.hid hI4
          have HB34 := Lib.hid hb34
          generalize htk : tkB (frOf c oa) op oa ob = tk at *
          clear hbx hbs hb3 hb4 hbx4 hbs4 hb34 hI4 htk HFX a0 a1 a2 r0 r1 r2 r3 r4 f1 f2 l0 l1 l2
          go_upto_region 16 with fail
          go_cut [16] (fun o wx => ∃ bn, o = .pointer (some ⟨bn, 0, none⟩) ∧ w4.heap.size ≤ bn ∧ wx.heap[bn]? = some (.cells #[.bool true, .int .i64 (s.1 - tk + ptB op), .int .i64 s.2] 94 (0, 0)) ∧ Below w4.heap.size w4 wx)
          case first => as_aux_lemma =>
            have hv : IntKind.i64.wrap (IntKind.i64.wrap (s.1 - tk) + ptB op) = s.1 - tk + ptB op := by
              have e1 : IntKind.i64.wrap (s.1 - tk) = s.1 - tk := IntWalk.i64_in _ (by omega)
              rw [e1]
              exact IntWalk.i64_in _ (by omega)
            have HV := Lib.hid hv
            clear hv
            clear HB34 HI4 HSS4 HX4 HINV HGO HI HG HBC3 HBF3 HBR3 HLK HG2 HOK HC HF HWs HBC HBF HBW HBR HALL HFB HBL hWs i1 i2 i3 i4 f4 f5 z1 z2 z3 z4 z5 z6 f3
            have hS0 : S16 wr.heap.size (wr.heap.size + 1) op oa ob is s w4 := ⟨⟨x0, x1, x2⟩, ⟨s0, s1, s2⟩⟩
            clear x0 x1 x2 s0 s1 s2
            go_region_held3 (fun w' => S16 wr.heap.size (wr.heap.size + 1) op oa ob is s w')
              (repeat (first | exact hS0 | apply S16.drew | apply S16.alloc | (refine S16.set ?_ _ _ _ (by simp; omega) (by simp; omega))))
              ((go_at_call 37; refine (puts_exact op oa ob _ k1 k2).mono ?_; rintro e w5 ⟨rfl, rfl⟩))
            all_goals go_wp2_with fail
            all_goals go_meet
            · refine ⟨w4.heap.size + 1, rfl, by omega, ?_, (balloc (balloc (Below.refl _ _) _) _).drew⟩
              rw [HV.out]
              have hnew := heap_alloc_new (w4.alloc (.cells #[.int .i64 op, .int .i64 oa, .int .i64 ob] 50)) (.cells #[.bool true, .int .i64 (s.1 - tk + ptB op), .int .i64 s.2] 94)
              rw [World.size_alloc] at hnew
              exact hnew
            · refine ⟨w4.heap.size, rfl, Nat.le_refl _, ?_, (balloc (balloc (Below.refl _ _) _) _).drew⟩
              rw [HV.out]
              exact blk_alloc (heap_alloc_new w4 _) _
          case rest =>
            obtain ⟨bn, rfl, hbn, hnb, hb4x⟩ := hcut
            obtain ⟨wq, hwq⟩ : ∃ wq : World, wq = wc := ⟨_, rfl⟩
            subst hwq
            obtain ⟨e0, he0⟩ : ∃ e0, e0 = (if op = 17 ∨ op = 16 then decide (s.1 = tk ∧ s.2 = 0) else true) := ⟨_, rfl⟩
            have HE0 := Lib.hid he0
            clear he0 x0 x1 x2 s0 s1 s2
            have hs5 := hb4x.size
            have hbnl := lt_of_block hnb
            have hx5 := blk_below HX4.out hb4x lt5
            have hss5 := blk_below HSS4.out hb4x lt6
            have x0 : wq.cell? ⟨wr.heap.size, 0, none⟩ = some (.int .i64 op) := blk_cell hx5 0
            have s0 : wq.cell? ⟨wr.heap.size + 1, 0, none⟩ = some (.bool is) := blk_cell hss5 0
            have s1 : wq.cell? ⟨wr.heap.size + 1, 1, none⟩ = some (.int .i64 s.1) := blk_cell hss5 1
            have s2 : wq.cell? ⟨wr.heap.size + 1, 2, none⟩ = some (.int .i64 s.2) := blk_cell hss5 2
            have n0 : wq.cell? ⟨bn, 0, none⟩ = some (.bool true) := blk_cell hnb 0
            have n1 : wq.cell? ⟨bn, 1, none⟩ = some (.int .i64 (s.1 - tk + ptB op)) := blk_cell hnb 1
            have n2 : wq.cell? ⟨bn, 2, none⟩ = some (.int .i64 s.2) := blk_cell hnb 2
            have fz2 : wq.frozen? ⟨bn, 2, none⟩ = false := blk_free hnb 2
            have lt7 : wr.heap.size < wq.heap.size := by omega
            have lt8 : wr.heap.size + 1 < wq.heap.size := by omega
            have HB4X := Lib.hid hb4x
            have HNB := Lib.hid hnb
            have HX5 := Lib.hid hx5
            have HSS5 := Lib.hid hss5
            clear hb4x hnb hx5 hss5 HX4 HSS4
            generalize hpt : ptB op = pt at *
            clear hpt
            have HSR0 : ∀ v : Int, Hid (Sr wo (wq.alloc (.cells #[.bool true, .int .i64 v, .int .i64 s.2] 94)) wo.heap.size (f.ins.length + 1) wr.heap.size (wr.heap.size + 1) bn wq.heap.size K op oa ob is s (s.1 - tk + pt, s.2) (v, s.2)) := by
              intro v
              have hball : Below wr.heap.size wr wq := HB34.out.trans (HB4X.out.mono (by omega))
              have hba := hball.alloc (by omega) (.cells #[.bool true, .int .i64 v, .int .i64 s.2] 94)
              exact ⟨HI.out.carry (hba.block _ hmlt), grown_trans HG.out ⟨hba.os, hba.tape, hba.output, hba.size, fun k hk _ => hba.block k hk⟩, blk_alloc HX5.out _, blk_alloc HSS5.out _, blk_alloc HNB.out _, heap_alloc_new wq _, ⟨by omega, by omega, by omega, by omega, by omega⟩⟩
            have HSR := Lib.hid HSR0
            have HSN0 : ∀ (v : Int) (jx : Int × Int), Sr wo ((wq.setCell ⟨bn, 2, none⟩ (.int .i64 v)).alloc (.cells #[.bool true, .int .i64 jx.1, .int .i64 jx.2] 94)) wo.heap.size (f.ins.length + 1) wr.heap.size (wr.heap.size + 1) bn wq.heap.size K op oa ob is s (s.1 - tk + pt, v) jx := by
              intro v jx
              have hball : Below wr.heap.size wr wq := HB34.out.trans (HB4X.out.mono (by omega))
              exact Sr.make ((HI.out.carry (hball.block _ hmlt)).carry (Below.heap_setCell _ _ _ _ (by simp; omega))) (grown_far (grown_trans HG.out ⟨hball.os, hball.tape, hball.output, hball.size, fun k hk _ => hball.block k hk⟩) _ _ _ (by omega)) (blk_set_ne HX5.out (by omega) _ _) (blk_set_ne HSS5.out (by omega) _ _) (blk_set HNB.out _ _) (by simp [World.setCell]) ⟨by omega, by omega, by omega, by omega, by omega⟩
            have HSN := Lib.hid HSN0
            clear HSR0 HSN0
            go_upto_region 18 with fail
            go_cut [18] (fun o wx => o = .bool (is && decide (tk ≤ s.1)) ∧ wx = wq.alloc (.cells #[.bool true, .int .i64 (s.1 - tk + pt), .int .i64 s.2] 94))
            case first => as_aux_lemma =>
              cases is
              · go_wp2_with fail
                go_meet
                exact ⟨rfl, rfl⟩
              · by_cases hts : tk ≤ s.1
                · have hd : decide (tk ≤ s.1) = true := by simpa using hts
                  go_wp2_with fail
                  go_meet
                  exact ⟨by simp [hd], rfl⟩
                · have hd : decide (tk ≤ s.1) = false := by simpa using hts
                  go_wp2_with fail
                  go_meet
                  exact ⟨by simp [hd], rfl⟩
            case rest =>
              obtain ⟨rfl, rfl⟩ := hcut
              generalize he1 : (is && decide (tk ≤ s.1)) = e1 at *
              have HE1 := Lib.hid he1
              clear he1
              go_upto_block 4 with fail
              go_cut [18] (fun o wx => o = .bool (e1 && e0) ∧ Sr wo wx wo.heap.size (f.ins.length + 1) wr.heap.size (wr.heap.size + 1) bn wq.heap.size K op oa ob is s (nextB op tk pt s) (jumpS op tk pt s))
              case first => as_aux_lemma =>
                by_cases h20 : op = 20
                · subst h20
                  have he : e0 = true := by rw [HE0.out]; rfl
                  have HE := Lib.hid he
                  clear he
                  go_wp2_with fail
                  go_meet
                  exact ⟨congrArg Value.bool (by rw [HE.out, Bool.and_true]), HSN.out _ (s.1 - tk + pt + 1, s.2)⟩
                · by_cases h21 : op = 21
                  · subst h21
                    have he : e0 = true := by rw [HE0.out]; rfl
                    have HE := Lib.hid he
                    clear he
                    go_wp2_with fail
                    go_meet
                    exact ⟨congrArg Value.bool (by rw [HE.out, Bool.and_true]), HSN.out _ (s.1 - tk + pt, s.2)⟩
                  · have hnx : nextB op tk pt s = (s.1 - tk + pt, s.2) := by simp [nextB, h20, h21]
                    have hjx : jumpS op tk pt s = (s.1 - tk + pt, s.2) := by simp [jumpS, h20]
                    have b20 : (op == 20) = false := by simpa using h20
                    have b21 : (op == 21) = false := by simpa using h21
                    have HNX := Lib.hid hnx
                    have HJX := Lib.hid hjx
                    clear h20 h21 hnx hjx
                    by_cases h17 : op = 17 ∨ op = 16
                    · have he : e0 = decide (s.1 = tk ∧ s.2 = 0) := by rw [HE0.out, if_pos h17]
                      have HE := Lib.hid he
                      clear he
                      have hdd : ((s.1 == tk) = true ∧ (s.2 == 0) = true ∧ decide (s.1 = tk ∧ s.2 = 0) = true) ∨ ((s.1 == tk) = true ∧ (s.2 == 0) = false ∧ decide (s.1 = tk ∧ s.2 = 0) = false) ∨ ((s.1 == tk) = false ∧ decide (s.1 = tk ∧ s.2 = 0) = false) := by
                        by_cases q1 : s.1 = tk
                        · by_cases q2 : s.2 = 0
                          · simp [q1, q2]
                          · simp [q1, q2]
                        · simp [q1]
                      cases e1
                      · rcases h17 with h17 | h17
                        all_goals
                          subst h17
                          clear hdd
                          go_wp2_with fail
                          go_meet
                          exact ⟨rfl, by rw [HNX.out, HJX.out]; exact HSR.out _⟩
                      · rcases hdd with ⟨q1, q2, q3⟩ | ⟨q1, q2, q3⟩ | ⟨q1, q3⟩
                        all_goals
                          have HQ3 := Lib.hid q3
                          clear q3
                          rcases h17 with h17 | h17
                          all_goals
                            subst h17
                            go_wp2_with fail
                            go_meet
                            exact ⟨congrArg Value.bool (by rw [HE.out, HQ3.out]; rfl), by rw [HNX.out, HJX.out]; exact HSR.out _⟩
                    · have he : e0 = true := by rw [HE0.out, if_neg h17]
                      have b17 : (op == 17) = false := by simp; omega
                      have b16 : (op == 16) = false := by simp; omega
                      have HE := Lib.hid he
                      clear he h17
                      go_wp2_with fail
                      go_meet
                      exact ⟨congrArg Value.bool (by rw [HE.out, Bool.and_true]), by rw [HNX.out, HJX.out]; exact HSR.out _⟩
              case rest =>
                obtain ⟨rfl, hsr⟩ := hcut
                have HS := Lib.hid hsr
                clear hsr fz2 n0 n1 n2 x0 s0 s1 s2 lt7 lt8 hbnl
                have hokk : (is && okB op tk pt s) = (e1 && e0 && decide (0 ≤ (nextB op tk pt s).2 ∧ (nextB op tk pt s).1 ≤ 5000 ∧ (jumpS op tk pt s).1 ≤ 5000)) := by
                  have : okB op tk pt s = (e0 && decide (tk ≤ s.1 ∧ 0 ≤ (nextB op tk pt s).2 ∧ (nextB op tk pt s).1 ≤ 5000 ∧ (jumpS op tk pt s).1 ≤ 5000)) := by rw [HE0.out]; rfl
                  rw [this, ← HE1.out]
                  cases is <;> cases e0 <;> simp
                have hnv : (nextB op tk pt s).1 = s.1 - tk + pt ∧ (nextB op tk pt s).2 ≤ s.2 + 1 := ⟨rfl, by unfold nextB; simp only; split <;> (try split) <;> omega⟩
                have hjv : s.1 - tk + pt ≤ (jumpS op tk pt s).1 ∧ (jumpS op tk pt s).2 = s.2 := ⟨by unfold jumpS; simp only; split <;> omega, rfl⟩
                have htks : e1 = true → tk ≤ s.1 := by rw [← HE1.out]; cases is <;> simp
                have hgo : (if (is && okB op tk pt s) = true then (match goOn op tk pt oa s k K with
                  | none => (20, (k : Int))
                  | some K' => flowGo c (f.ins.drop (k + 1)) (k + 1) K') else (20, (k : Int))) = funB c f main := by
                  rw [← HGO.out]
                  simp only [Bool.and_eq_true]
                unfold goOn at hgo
                generalize hnx : nextB op tk pt s = nx at *
                generalize hjx : jumpS op tk pt s = jx at *
                generalize hok2 : (is && okB op tk pt s) = okk at *
                have HOKK := Lib.hid hokk
                have HNV := Lib.hid (And.intro hnv hjv)
                have HTKS := Lib.hid htks
                have HGO3 := Lib.hid hgo
                clear hnx hjx hok2 hokk hnv hjv htks hgo HE0 HE1 HGO
                obtain ⟨⟨c0, c1, c2⟩, ⟨c3, c4, c5⟩, ⟨c6, c7, c8⟩, ⟨c9, c10, c11⟩, ⟨l1, l2, l3, l4, l5⟩⟩ := HS.out.cells
                go_upto_region 28 with fail
                go_cut [18] (fun o wx => o = .bool okk ∧ wx = wc)
                case first => as_aux_lemma =>
                  generalize hee : (e1 && e0) = ee at *
                  have HEE := Lib.hid hee
                  clear hee
                  cases ee
                  · go_wp2_with fail
                    go_meet
                    exact ⟨congrArg Value.bool (by rw [HOKK.out]; rfl), rfl⟩
                  · by_cases p1 : 0 ≤ nx.2
                    · by_cases p2 : nx.1 ≤ 5000
                      · by_cases p3 : jx.1 ≤ 5000
                        · go_wp2_with fail
                          go_meet
                          exact ⟨congrArg Value.bool (by rw [HOKK.out]; simp [p1, p2, p3]), rfl⟩
                        · go_wp2_with fail
                          go_meet
                          exact ⟨congrArg Value.bool (by rw [HOKK.out]; simp; omega), rfl⟩
                      · go_wp2_with fail
                        go_meet
                        exact ⟨congrArg Value.bool (by rw [HOKK.out]; simp; omega), rfl⟩
                    · go_wp2_with fail
                      go_meet
                      exact ⟨congrArg Value.bool (by rw [HOKK.out]; simp; omega), rfl⟩
                case rest =>
                  obtain ⟨rfl, rfl⟩ := hcut
                  cases okk with
                  | false =>
                    have hfin : funB c f main = (20, (k : Int)) := by
                      have := HGO3.out
                      simp at this
                      exact this.symm
                    have HFN := Lib.hid hfin
                    clear hfin
                    go_wp2_with fail
                    go_ret2
                    exact ⟨by rw [HFN.out]; rfl, HS.out.ends HBR.out (by omega) (by omega)⟩
                  | true =>
                    have hy := HOKK.out
                    simp at hy
                    obtain ⟨⟨v1, v2⟩, ⟨v3, v4⟩⟩ := HNV.out
                    obtain ⟨⟨y0, y9⟩, y1, y2, y3⟩ := hy
                    have y4 := HTKS.out y0
                    have HNB2 : Hid ((0 ≤ nx.1 ∧ nx.1 ≤ 5000) ∧ (0 ≤ nx.2 ∧ nx.2 ≤ ((k + 1 : Nat) : Int))) := ⟨⟨by omega, y2⟩, ⟨y1, by omega⟩⟩
                    have HJB : Hid ((0 ≤ jx.1 ∧ jx.1 ≤ 5000) ∧ (0 ≤ jx.2 ∧ jx.2 ≤ ((k + 1 : Nat) : Int))) := ⟨⟨by omega, y3⟩, ⟨by omega, by omega⟩⟩
                    clear y0 y1 y2 y3 y4 y9 v1 v2 v3 v4
                    have hgo := HGO3.out
                    simp only [if_true] at hgo
                    obtain ⟨jb, hjb⟩ : ∃ jb, jb = jumpB op := ⟨_, rfl⟩
                    obtain ⟨gb, hgb⟩ : ∃ gb, gb = goB op := ⟨_, rfl⟩
                    rw [← hjb, ← hgb] at hgo
                    have HJB2 := Lib.hid hjb
                    have HGB2 := Lib.hid hgb
                    have HGO4 := Lib.hid hgo
                    clear hjb hgb hgo
                    go_upto_region 29 with fail
                    go_cut [146] (fun o wx => o = .bool jb ∧ wx = wc)
                    case first => as_aux_lemma =>
                      by_cases h18 : op = 18
                      · subst h18
                        go_wp2_with fail
                        go_meet
                        exact ⟨congrArg Value.bool (by rw [HJB2.out]; rfl), rfl⟩
                      · by_cases h19 : op = 19
                        · subst h19
                          go_wp2_with fail
                          go_meet
                          exact ⟨congrArg Value.bool (by rw [HJB2.out]; rfl), rfl⟩
                        · have b18 : (op == 18) = false := by simpa using h18
                          have b19 : (op == 19) = false := by simpa using h19
                          clear h18 h19
                          go_wp2_with fail
                          go_meet
                          exact ⟨congrArg Value.bool (by rw [HJB2.out]; simp [jumpB, b18, b19]), rfl⟩
                    case rest =>
                      obtain ⟨rfl, rfl⟩ := hcut
                      obtain ⟨K1o, hK1o⟩ : ∃ K1o, K1o = (if jb = true then toldK K oa.toNat jx k else some K) := ⟨_, rfl⟩
                      have hgo := HGO4.out
                      rw [← hK1o] at hgo
                      have HGO5 := Lib.hid hgo
                      have HK1O := Lib.hid hK1o
                      clear hgo hK1o
                      go_upto_if 146 with fail
                      go_cut [18] (fun o wx => o = .bool K1o.isSome ∧ ∃ K1, Sr wo wx wo.heap.size (f.ins.length + 1) wr.heap.size (wr.heap.size + 1) bn wq.heap.size K1 op oa ob is s nx jx ∧ ∀ KK, K1o = some KK → K1 = KK)
                      case first => as_aux_lemma =>
                        cases jb with
                        | false =>
                          have HK := HK1O.out
                          simp only [Bool.false_eq_true, if_false] at HK
                          have HK2 := Lib.hid HK
                          clear HK
                          go_wp2_with fail
                          go_meet
                          exact ⟨congrArg Value.bool (by rw [HK2.out]; rfl), K, HS.out, fun KK h => by rw [HK2.out] at h; exact Option.some.inj h⟩
                        | true =>
                          have HK := HK1O.out
                          simp only [if_true] at HK
                          have hoa : 0 ≤ oa ∧ oa < f.ins.length := f3 (by have := HJB2.out; unfold jumpB at this; simp at this; omega)
                          obtain ⟨pa, hpa⟩ : ∃ pa : Nat, oa = pa := ⟨oa.toNat, by omega⟩
                          have hpa2 : pa < f.ins.length := by omega
                          clear hoa f3
                          subst hpa
                          simp only [Int.toNat_natCast] at HK
                          have HK2 := Lib.hid HK
                          clear HK
                          go_wp2_with fail
                          refine (rtold_any wo.heap.size (f.ins.length + 1) (f.ins.length + 1) pa k jx K _ HS.out.lk (by omega) (by omega) (by omega)).mono ?_
                          rintro e w8 ⟨rfl, ⟨K', hl8, hK8⟩, hg8⟩
                          rw [← HK2.out]
                          have HS8 := Lib.hid (HS.out.grown hl8 hg8)
                          have HK8 := Lib.hid hK8
                          clear hl8 hK8 hg8 c0 c1 c2 c3 c4 c5 c6 c7 c8 c9 c10 c11 l1 l2 l3 l4 l5
                          go_wp2_with fail
                          go_meet
                          exact ⟨rfl, K', HS8.out, fun KK h => HK8.out KK (by rw [← HK2.out]; exact h)⟩
                      case rest =>
                        obtain ⟨rfl, K1, hs1, hk1⟩ := hcut
                        have HS1 := Lib.hid hs1
                        have HK1 := Lib.hid hk1
                        clear hs1 hk1 c0 c1 c2 c3 c4 c5 c6 c7 c8 c9 c10 c11 l1 l2 l3 l4 l5
                        obtain ⟨⟨c0, c1, c2⟩, ⟨c3, c4, c5⟩, ⟨c6, c7, c8⟩, ⟨c9, c10, c11⟩, ⟨l1, l2, l3, l4, l5⟩⟩ := HS1.out.cells
                        have hgo := HGO5.out
                        cases K1o with
                        | none =>
                          have hfin : funB c f main = (20, (k : Int)) := hgo.symm
                          have HFN := Lib.hid hfin
                          clear hfin hgo
                          go_wp2_with fail
                          go_ret2
                          exact ⟨by rw [HFN.out]; rfl, HS1.out.ends HBR.out (by omega) (by omega)⟩
                        | some K1p =>
                          obtain rfl : K1 = K1p := HK1.out _ rfl
                          have hinv1 : InvK (k + 1) K1 := by
                            have h := HK1O.out
                            cases jb with
                            | false => simp at h; rw [h]; exact HINV.out.mono
                            | true => simp at h; exact HINV.out.mono.told HJB.out h.symm
                          have HINV1 := Lib.hid hinv1
                          simp only at hgo
                          have HGO6 := Lib.hid hgo
                          clear hgo hinv1
                          go_upto_region 31 with fail
                          go_cut [173] (fun o wx => o = .bool gb ∧ wx = wc)
                          case first => as_aux_lemma =>
                            by_cases h18 : op = 18
                            · subst h18
                              go_wp2_with fail
                              go_meet
                              exact ⟨congrArg Value.bool (by rw [HGB2.out]; rfl), rfl⟩
                            · by_cases h17 : op = 17
                              · subst h17
                                go_wp2_with fail
                                go_meet
                                exact ⟨congrArg Value.bool (by rw [HGB2.out]; rfl), rfl⟩
                              · by_cases h16 : op = 16
                                · subst h16
                                  go_wp2_with fail
                                  go_meet
                                  exact ⟨congrArg Value.bool (by rw [HGB2.out]; rfl), rfl⟩
                                · have b18 : (op == 18) = false := by simpa using h18
                                  have b17 : (op == 17) = false := by simpa using h17
                                  have b16 : (op == 16) = false := by simpa using h16
                                  have n18 : (op != 18) = true := by simpa using h18
                                  have n17 : (op != 17) = true := by simpa using h17
                                  have n16 : (op != 16) = true := by simpa using h16
                                  clear h18 h17 h16
                                  go_wp2_with fail
                                  go_meet
                                  exact ⟨congrArg Value.bool (by rw [HGB2.out]; simp [goB, b18, b17, b16, bne]), rfl⟩
                          case rest =>
                            obtain ⟨rfl, rfl⟩ := hcut
                            have hgo := HGO6.out
                            cases gb with
                            | false =>
                              simp at hgo
                              have HGO7 := Lib.hid hgo
                              clear hgo
                              go_wp2_with fail
                              go_roundw
                              case rel => exact ⟨k + 1, K1, by omega, by go_num, HGO7.out, HINV1.out, HS1.out.lk, HS1.out.gr⟩
                              case measure => simp [intOf]; omega
                            | true =>
                              simp only [if_true] at hgo
                              have HGO7 := Lib.hid hgo
                              clear hgo
                              go_wp2_with fail
                              refine (rtold_any wo.heap.size (f.ins.length + 1) (f.ins.length + 1) (k + 1) k nx K1 _ HS1.out.lk (by omega) (by omega) (by omega)).mono ?_
                              rintro e w8 ⟨rfl, ⟨K', hl8, hK8⟩, hg8⟩
                              have HS8 := Lib.hid (HS1.out.grown hl8 hg8)
                              have HK8 := Lib.hid hK8
                              clear hl8 hK8 hg8 c0 c1 c2 c3 c4 c5 c6 c7 c8 c9 c10 c11 l1 l2 l3 l4 l5
                              cases htd : toldK K1 (k + 1) nx k with
                              | none =>
                                have hgo := HGO7.out
                                rw [htd] at hgo
                                have HGO8 := Lib.hid hgo
                                clear hgo htd
                                go_wp2_with fail
                                go_ret2
                                exact ⟨by rw [← HGO8.out]; rfl, HS8.out.ends HBR.out (by omega) (by omega)⟩
                              | some K2 =>
                                obtain rfl : K' = K2 := HK8.out _ htd
                                have hgo := HGO7.out
                                rw [htd] at hgo
                                have HGO8 := Lib.hid hgo
                                have HTD := Lib.hid htd
                                clear hgo htd
                                go_wp2_with fail
                                go_roundw
                                case rel => exact ⟨k + 1, K', by omega, by go_num, HGO8.out, HINV1.out.told HNB2.out HTD.out, HS8.out.lk, HS8.out.gr⟩
                                case measure => simp [intOf]; omega
        · obtain rfl : k = f.ins.length := by omega
          have hgo2 : (if (K f.ins.length).isSome = true then (20, (f.ins.length : Int)) else (0, 0)) = funB c f main := by rw [← hgo]; simp [flowGo]
          have HGO := Lib.hid hgo2
          have hlc : wr.cell? ⟨wo.heap.size, f.ins.length * 3, none⟩ = some (.bool (K f.ins.length).isSome) := by
            obtain ⟨cs, hb, _, hj⟩ := hI
            rw [blk_cell hb]
            exact (hj f.ins.length (by omega)).1
          clear hgo hgo2 hinv hg hI hlt
          cases hKk : K f.ins.length with
          | none =>
            rw [hKk] at hlc
            have hl2 : wr.cell? ⟨wo.heap.size, f.ins.length * 3, none⟩ = some (.bool false) := hlc
            have hfin : funB c f main = (0, 0) := by
              have := HGO.out
              rw [hKk] at this
              exact this.symm
            have HFN := Lib.hid hfin
            clear hfin hKk hlc
            go_wp2_with fail
            go_ret2
            exact ⟨by rw [HFN.out]; rfl, HBR3.out⟩
          | some s =>
            rw [hKk] at hlc
            have hl2 : wr.cell? ⟨wo.heap.size, f.ins.length * 3, none⟩ = some (.bool true) := hlc
            have hfin : funB c f main = (20, (f.ins.length : Int)) := by
              have := HGO.out
              rw [hKk] at this
              exact this.symm
            have HFN := Lib.hid hfin
            clear hfin hKk hlc
            go_wp2_with fail
            go_ret2
            exact ⟨by rw [HFN.out]; rfl, HBR3.out⟩

end Go.Proofs.YtebappmamaafaaaDoor
