/-
  Proved: the contract of the program's fun (one function checked). Conditions: operands that Encode lets by.
-/
import Derived.Test.YtebappmamaafaaaDoorK5L
namespace Go.Proofs.YtebappmamaafaaaDoor
open Go.RowKit

set_option maxRecDepth 100000 in
set_option maxHeartbeats 8000000 in
theorem pfun_any (c : Cd) (f : Fn) (main : Bool) (w : World) (hc : CodeAt w w.heap.size c) (hS : SignsAt w) (hf : f ∈ c.funs) (hok : FunsOk c) (hw : wgt c ≤ 1048576) :
    Calls Tryd.prog 21 #[c.val, fv f, .bool main] w (FunPost c f main w) := by
  have hil := ins_wgt hf hw
  have HC := Lib.hid hc
  have HS := Lib.hid hS
  have HOK := Lib.hid hok
  have HF := Lib.hid hf
  clear hc hS hok hf
  unfold Cd.val fv
  have hbc := blk_alloc (heap_alloc_new w (.cells #[.slice c.ta c.texts.length c.tc, .slice c.fa c.funs.length c.fc] 25)) (.cells #[.int .i64 f.free, .int .i64 f.slots, .slice f.ao f.ins.length f.cap] 48)
  have hbf := heap_alloc_new (w.alloc (.cells #[.slice c.ta c.texts.length c.tc, .slice c.fa c.funs.length c.fc] 25)) (.cells #[.int .i64 f.free, .int .i64 f.slots, .slice f.ao f.ins.length f.cap] 48)
  rw [World.size_alloc] at hbf
  have HBW : Hid (Below w.heap.size w ((w.alloc (.cells #[.slice c.ta c.texts.length c.tc, .slice c.fa c.funs.length c.fc] 25)).alloc (.cells #[.int .i64 f.free, .int .i64 f.slots, .slice f.ao f.ins.length f.cap] 48))) := balloc (balloc (Below.refl _ _) _) _
  obtain ⟨W, hW⟩ : ∃ W, W = (w.alloc (.cells #[.slice c.ta c.texts.length c.tc, .slice c.fa c.funs.length c.fc] 25)).alloc (.cells #[.int .i64 f.free, .int .i64 f.slots, .slice f.ao f.ins.length f.cap] 48) := ⟨_, rfl⟩
  have hWs : W.heap.size = w.heap.size + 1 + 1 := by rw [hW, World.size_alloc, World.size_alloc]
  have HWs := Lib.hid hWs
  go_enter Tryd.func21, Tryd.ntmps21
  go_wp2_with fail
  rw [← hW]
  rw [← hW] at hbc hbf HBW
  have HBC := Lib.hid hbc
  have HBF := Lib.hid hbf
  clear hbc hbf hW
  go_wp2_with fail
  go_loopw [25] (fun i wr => ∃ k : Nat, k ≤ f.ins.length ∧ i = .int .i64 k ∧ opsGo c f main (f.ins.drop k) k = opsGo c f main f.ins 0 ∧ Below W.heap.size W wr) (fun i _ => f.ins.length - (intOf i).toNat)
  case atStart => exact ⟨0, Nat.zero_le _, rfl, by simp, Below.refl _ _⟩
  case round =>
    obtain ⟨k, hk, rfl, hgo, hbl⟩ := hrel
    have hsz := hbl.size
    obtain ⟨g0, g1⟩ := cv_cell (blk_below HBC.out hbl (by omega))
    obtain ⟨g2, g3, g4⟩ := fv_cell (blk_below HBF.out hbl (by omega))
    have HBR := Lib.hid (bthen HBW.out hbl)
    have lt0 : w.heap.size < wr.heap.size := by omega
    have lt1 : w.heap.size + 1 < wr.heap.size := by omega
    by_cases hlt : k < f.ins.length
    · obtain ⟨x, hx⟩ : ∃ x, x = f.ins.getD k (0, 0, 0) := ⟨_, rfl⟩
      obtain ⟨hxm, ⟨_, _, _⟩, b, off, hbN, a0, a1, a2, hia⟩ := ins_at HC.out HF.out HBR.out hlt hx
      have hxk := (HOK.out f HF.out).2 x hxm
      have hst := opsGo_step (c := c) (f := f) (main := main) hlt
      rw [← hx] at hst
      rw [hst] at hgo
      obtain ⟨op, oa, ob⟩ := x
      obtain ⟨k1, k2, _⟩ := hxk
      have HGO := Lib.hid hgo
      have HBL := Lib.hid hbl
      have hoo : opOf c f main (op, oa, ob) = opB c.texts.length c.funs.length f.free f.slots f.ins.length main op oa ob := rfl
      have HOO := Lib.hid hoo
      clear hst hgo hx hxm hbl hoo
      go_wp2_with fail
      refine (pop_any c f main op oa ob _ k1 k2).mono ?_
      rintro e w4 ⟨rfl, hb4⟩
      have HB4 := Lib.hid (bthen HBR.out (bthen (balloc (Below.refl _ _) _) hb4))
      have HB4' := Lib.hid (bthen HBL.out (bthen (balloc (Below.refl _ _) _) hb4))
      clear hb4
      rw [← HOO.out]
      generalize hz : opOf c f main (op, oa, ob) = z at *
      by_cases h0 : z = 0
      · subst h0
        have HZ := Lib.hid hz
        clear hz
        go_wp2_with fail
        go_roundw
        case rel => exact ⟨k + 1, by omega, by go_num, by have := HGO.out; simpa using this, HB4'.out⟩
        case measure => simp [intOf]; omega
      · have hfin : funB c f main = (z, (k : Int)) := by
          have := HGO.out
          rw [if_neg h0] at this
          unfold funB
          rw [← this]
        have HFN := Lib.hid hfin
        have hz0 : (z == 0) = false := by simpa using h0
        clear hfin h0 hz
        go_wp2_with fail
        go_ret2
        exact ⟨by rw [HFN.out]; rfl, HB4.out⟩
    · obtain rfl : k = f.ins.length := by omega
      have hall := opsGo_none (c := c) (f := f) (main := main) (l := f.ins) (k := 0) (by rw [← hgo]; simp [opsGo])
      have hfb : funB c f main = flowGo c f.ins 0 K0 := by
        unfold funB
        rw [← hgo]
        simp [opsGo]
      have HALL := Lib.hid hall
      have HFB := Lib.hid hfb
      have HBL := Lib.hid hbl
      clear hall hfb hgo hbl hlt
      have hmm := @run_makeMap Tryd.prog
      go_wp2_with (with_reducible refine wpList_insert_im _ rfl (.tmp 40) (.const (.int .i64 0)) (.tmp 41) 86 rfl Tryd.underlying86 Tryd.underlying3 wr.heap.size (fun _ => none) 0 (.agg #[.int .i64 0, .int .i64 0]) rfl rfl rfl im_new rfl ?_)
      intro w2 hI hg hs2
      rw [encK_zero] at hI
      obtain ⟨wo, hwo⟩ : ∃ wo : World, wo = wr := ⟨_, rfl⟩
      subst hwo
      have hg2 := grown_trans (World.grownBy_alloc wo (.map #[] 0) (some wo.heap.size)) hg
      have HG2 := Lib.hid hg2
      have HI2 := Lib.hid hI
      have HS2 := Lib.hid hs2
      have lt2 : wo.heap.size < w2.heap.size := by omega
      clear hI hg hs2 hg2 hmm
      have q0 : w2.cell? ⟨w.heap.size + 1, 2, none⟩ = some (.slice f.ao f.ins.length f.cap) := (HG2.out.cell_far ⟨w.heap.size + 1, 2, none⟩ lt1 (by simp; omega)).trans g4
      go_wp2_with fail
      go_loopw [46] (fun i wr => ∃ (k : Nat) (K : KK), k ≤ f.ins.length ∧ i = .int .i64 k ∧ flowGo c (f.ins.drop k) k K = funB c f main ∧ InvK k K ∧ IMapAt wr wo.heap.size (encK K) ∧ wo.grownBy wr (some wo.heap.size)) (fun i _ => f.ins.length - (intOf i).toNat)
      case atStart => exact ⟨0, K0, Nat.zero_le _, rfl, by rw [HFB.out]; simp, InvK.zero, HI2.out, HG2.out⟩
      case round =>
        obtain ⟨k, K, hk, rfl, hgo, hinv, hI, hg⟩ := hrel
        have hsz := hg.size
        have hmlt := hI.lt
        have HBC3 := Lib.hid (blk_grown (blk_below HBC.out HBL.out (by have := HWs.out; omega)) hg (by simp; omega))
        have HBF3 := Lib.hid (blk_grown (blk_below HBF.out HBL.out (by have := HWs.out; omega)) hg (by simp; omega))
        obtain ⟨r0, r1⟩ := cv_cell HBC3.out
        obtain ⟨r2, r3, r4⟩ := fv_cell HBF3.out
        have HBR3 : Hid (Below w.heap.size w wr) := HBR.out.grown hg (by omega) (fun k hk => by cases hk; omega)
        have lt3 : w.heap.size < wr.heap.size := by omega
        have lt4 : w.heap.size + 1 < wr.heap.size := by omega
        clear g0 g1 g2 g3 g4 q0 lt2
        by_cases hlt : k < f.ins.length
        · obtain ⟨x, hx⟩ : ∃ x, x = f.ins.getD k (0, 0, 0) := ⟨_, rfl⟩
          obtain ⟨hxm, ⟨⟨z1, z2⟩, ⟨z3, z4⟩, ⟨z5, z6⟩⟩, b, off, hbN, a0, a1, a2, hia⟩ := ins_at HC.out HF.out HBR3.out hlt hx
          have hxk := (HOK.out f HF.out).2 x hxm
          have hzx := HALL.out x hxm
          have hst := flowGo_step (c := c) hlt K
          rw [← hx] at hst
          rw [hst] at hgo
          obtain ⟨op, oa, ob⟩ := x
          have hfx := ins_facts hxk hzx HOK.out
          obtain ⟨k1, k2, _⟩ := hxk
          simp only at k1 k2 z1 z2 z3 z4 z5 z6 a0 a1 a2
          have HFX := Lib.hid hfx
          have HGO := Lib.hid hgo
          have HINV := Lib.hid hinv
          have HI := Lib.hid hI
          have HG := Lib.hid hg
          clear hst hgo hx hxm hg hI hinv hfx hzx
          have hI1 := HI.out.carry (Below.heap_alloc wr (.cells #[.int .i64 op, .int .i64 oa, .int .i64 ob] 50) wo.heap.size hmlt)
          have HI1 := Lib.hid hI1
          clear hI1
          have hkn := encK_nat K k
          cases hKk : K k with
          | none =>
            rw [hKk] at hkn
            have hn2 : encK K (k : Int) = none := hkn
            clear hkn
            have hfin : funB c f main = (20, (k : Int)) := by
              have := HGO.out
              simp only [stepF, hKk] at this
              exact this.symm
            have HFN := Lib.hid hfin
            clear hfin hKk
            go_wp2_with (first
              | (at_lookup; go_must (refine wpList_lookup_im _ rfl (.tmp 52) (.tmp 53) 86 true rfl Tryd.underlying86 Tryd.underlying3 (zero85 _) wo.heap.size (encK K) k rfl rfl HI1.out ?_)))
            go_ret2
            exact ⟨by rw [HFN.out]; rfl, balloc (balloc HBR3.out _) _⟩
          | some s =>
            rw [hKk] at hkn
            have hn2 : encK K (k : Int) = some (.agg #[.int .i64 s.1, .int .i64 s.2]) := hkn
            clear hkn
            have HKk := Lib.hid hKk
            clear hKk
            go_wp2_with (first
              | (at_lookup; go_must (refine wpList_lookup_im _ rfl (.tmp 52) (.tmp 53) 86 true rfl Tryd.underlying86 Tryd.underlying3 (zero85 _) wo.heap.size (encK K) k rfl rfl HI1.out ?_)))
            have hbx := heap_alloc_new wr (.cells #[.int .i64 op, .int .i64 oa, .int .i64 ob] 50)
            have hbs := heap_alloc_new (wr.alloc (.cells #[.int .i64 op, .int .i64 oa, .int .i64 ob] 50)) (.cells #[.int .i64 s.1, .int .i64 s.2] 85)
            rw [World.size_alloc] at hbs
            have hbx := blk_alloc hbx (.cells #[.int .i64 s.1, .int .i64 s.2] 85)
            have hb3 : Below wr.heap.size wr ((wr.alloc (.cells #[.int .i64 op, .int .i64 oa, .int .i64 ob] 50)).alloc (.cells #[.int .i64 s.1, .int .i64 s.2] 85)) := balloc (balloc (Below.refl _ _) _) _
            obtain ⟨f1, f2, f3, ⟨f4, f5⟩, ⟨f6, f7⟩⟩ := HFX.out
            refine (moves_any c op oa ob _ (HC.out.later (bthen HBR3.out hb3)) (HS.out.below (bthen HBR3.out hb3)) k1 k2 f1 f2).mono ?_
            rintro e w4 ⟨rfl, hb4⟩
            have hbx4 := blk_below hbx hb4 (by simp; omega)
            have hbs4 := blk_below hbs hb4 (by simp)
            have hb34 := hb3.trans (hb4.mono (by simp; omega))
            have hI4 := HI.out.carry (hb34.block _ hmlt)
            have x0 : w4.cell? ⟨wr.heap.size, 0, none⟩ = some (.int .i64 op) := blk_cell hbx4 0
            have x1 : w4.cell? ⟨wr.heap.size, 1, none⟩ = some (.int .i64 oa) := blk_cell hbx4 1
            have x2 : w4.cell? ⟨wr.heap.size, 2, none⟩ = some (.int .i64 ob) := blk_cell hbx4 2
            have s0 : w4.cell? ⟨wr.heap.size + 1, 0, none⟩ = some (.int .i64 s.1) := blk_cell hbs4 0
            have s1 : w4.cell? ⟨wr.heap.size + 1, 1, none⟩ = some (.int .i64 s.2) := blk_cell hbs4 1
            have hs4 := hb4.size
            simp only [World.size_alloc] at hs4
            have lt5 : wr.heap.size < w4.heap.size := by omega
            have lt6 : wr.heap.size + 1 < w4.heap.size := by omega
            have HX4 := Lib.hid hbx4
            have HI4 := Lib.hid hI4
            have HB34 := Lib.hid hb34
            have hgo := HGO.out
            simp only [stepF, HKk.out] at hgo
            have HGO2 := Lib.hid hgo
            have hinv := HINV.out k s HKk.out
            obtain ⟨⟨i1, i2⟩, ⟨i3, i4⟩⟩ := hinv
            generalize htk : tkB (frOf c oa) op oa ob = tk at *
            generalize hpt : ptB op = pt at *
            clear hbx hbs hb3 hb4 hbx4 hbs4 hb34 hI4 hgo htk hpt HFX HGO HKk hn2 a0 a1 a2 r0 r1 r2 r3 r4 f1 f2
            obtain ⟨e0, he0⟩ : ∃ e0, e0 = (if op = 17 ∨ op = 16 then decide (s.1 = tk ∧ s.2 = 0) else true) := ⟨_, rfl⟩
            have HE0 := Lib.hid he0
            clear he0
            go_upto_block 4 with fail
            go_cut [15] (fun o wx => o = .bool e0 ∧ wx = (w4.alloc (.cells #[.int .i64 (nextB op tk pt s).1, .int .i64 (nextB op tk pt s).2] 85)).alloc (.cells #[.int .i64 (jumpS op tk pt s).1, .int .i64 (jumpS op tk pt s).2] 85))
            case first =>
              by_cases h20 : op = 20
              · subst h20
                go_wp2_with fail
                go_meet
                exact ⟨congrArg Value.bool (by rw [HE0.out]; rfl), rfl⟩
              · by_cases h21 : op = 21
                · subst h21
                  go_wp2_with fail
                  go_meet
                  exact ⟨congrArg Value.bool (by rw [HE0.out]; rfl), rfl⟩
                · have hnx : nextB op tk pt s = (s.1 - tk + pt, s.2) := by simp [nextB, h20, h21]
                  have hjx : jumpS op tk pt s = (s.1 - tk + pt, s.2) := by simp [jumpS, h20]
                  have b20 : (op == 20) = false := by simpa using h20
                  have b21 : (op == 21) = false := by simpa using h21
                  have HNX := Lib.hid hnx
                  have HJX := Lib.hid hjx
                  clear h20 h21 hnx hjx
                  by_cases h17 : op = 17 ∨ op = 16
                  · have he : e0 = decide (s.1 = tk ∧ s.2 = 0) := by rw [HE0.out, if_pos h17]
                    have HE := Lib.hid he
                    clear he
                    have hdd : ((s.1 == tk) = true ∧ (s.2 == 0) = true ∧ decide (s.1 = tk ∧ s.2 = 0) = true) ∨ ((s.1 == tk) = true ∧ (s.2 == 0) = false ∧ decide (s.1 = tk ∧ s.2 = 0) = false) ∨ ((s.1 == tk) = false ∧ decide (s.1 = tk ∧ s.2 = 0) = false) := by
                      by_cases q1 : s.1 = tk
                      · by_cases q2 : s.2 = 0
                        · simp [q1, q2]
                        · simp [q1, q2]
                      · simp [q1]
                    rcases hdd with ⟨q1, q2, q3⟩ | ⟨q1, q2, q3⟩ | ⟨q1, q3⟩
                    all_goals
                      have HQ3 := Lib.hid q3
                      clear q3
                      rcases h17 with h17 | h17
                      all_goals
                        subst h17
                        go_wp2_with fail
                        go_meet
                        exact ⟨congrArg Value.bool (by rw [HE.out, HQ3.out]), by rw [HNX.out, HJX.out]⟩
                  · have he : e0 = true := by rw [HE0.out, if_neg h17]
                    have b17 : (op == 17) = false := by simp; omega
                    have b16 : (op == 16) = false := by simp; omega
                    have HE := Lib.hid he
                    clear he h17
                    go_wp2_with fail
                    go_meet
                    exact ⟨congrArg Value.bool (by rw [HE.out]), by rw [HNX.out, HJX.out]⟩
            case rest =>
              obtain ⟨rfl, rfl⟩ := hcut
              have hok2 : okB op tk pt s = (e0 && decide (tk ≤ s.1 ∧ 0 ≤ (nextB op tk pt s).2 ∧ (nextB op tk pt s).1 ≤ 5000 ∧ (jumpS op tk pt s).1 ≤ 5000)) := by rw [HE0.out]; rfl
              have hnv : (nextB op tk pt s).1 = s.1 - tk + pt ∧ (nextB op tk pt s).2 ≤ s.2 + 1 := ⟨rfl, by unfold nextB; simp only; split <;> (try split) <;> omega⟩
              have hjv : s.1 - tk + pt ≤ (jumpS op tk pt s).1 ∧ (jumpS op tk pt s).2 = s.2 := ⟨by unfold jumpS; simp only; split <;> omega, rfl⟩
              have hgo := HGO2.out
              unfold goOn at hgo
              obtain ⟨hnv1, hnv2⟩ := hnv
              obtain ⟨hjv1, hjv2⟩ := hjv
              have HST : Hid (St wo ((w4.alloc (.cells #[.int .i64 (nextB op tk pt s).1, .int .i64 (nextB op tk pt s).2] 85)).alloc (.cells #[.int .i64 (jumpS op tk pt s).1, .int .i64 (jumpS op tk pt s).2] 85)) wo.heap.size wr.heap.size w4.heap.size (w4.heap.size + 1) K op oa ob (nextB op tk pt s) (jumpS op tk pt s)) := by
                have hj0 := heap_alloc_new (w4.alloc (.cells #[.int .i64 (nextB op tk pt s).1, .int .i64 (nextB op tk pt s).2] 85)) (.cells #[.int .i64 (jumpS op tk pt s).1, .int .i64 (jumpS op tk pt s).2] 85)
                rw [World.size_alloc] at hj0
                have hbb : Below w4.heap.size w4 ((w4.alloc (.cells #[.int .i64 (nextB op tk pt s).1, .int .i64 (nextB op tk pt s).2] 85)).alloc (.cells #[.int .i64 (jumpS op tk pt s).1, .int .i64 (jumpS op tk pt s).2] 85)) := balloc (balloc (Below.refl _ _) _) _
                have hball := bthen HB34.out hbb
                exact ⟨HI4.out.carry (hbb.block _ HI4.out.lt), grown_trans HG.out ⟨hball.os, hball.tape, hball.output, hball.size, fun k hk _ => hball.block k hk⟩, blk_below HX4.out hbb lt5, blk_alloc (heap_alloc_new w4 _) _, hj0, by omega, by omega, by omega⟩
              generalize hnx : nextB op tk pt s = nx at *
              generalize hjx : jumpS op tk pt s = jx at *
              generalize hokk : okB op tk pt s = okk at *
              have HOKK := Lib.hid hok2
              have HNV := Lib.hid (And.intro (And.intro hnv1 hnv2) (And.intro hjv1 hjv2))
              clear hnv1 hnv2 hjv1 hjv2
              have HGO3 := Lib.hid hgo
              have hx0 := HST.out.cells
              obtain ⟨⟨c0, c1, c2⟩, ⟨c3, c4⟩, ⟨c5, c6⟩, ⟨l1, l2, l3, l4⟩⟩ := hx0
              clear hnx hjx hokk hok2 hgo HGO2 HE0 x0 x1 x2 HX4 HI4
              go_upto_region 27 with fail
              go_cut [15] (fun o wx => o = .bool okk ∧ wx = ((w4.alloc (.cells #[.int .i64 nx.1, .int .i64 nx.2] 85)).alloc (.cells #[.int .i64 jx.1, .int .i64 jx.2] 85)))
              case first =>
                cases e0
                · go_wp2_with fail
                  go_meet
                  exact ⟨congrArg Value.bool (by rw [HOKK.out]; rfl), rfl⟩
                · go_wp2_with fail
                  all_goals go_meet
                  all_goals refine ⟨congrArg Value.bool ?_, rfl⟩
                  all_goals rw [HOKK.out]
                  all_goals simp
                  all_goals first | omega | (rename_i p1 p2 p3; simp [p1, p2, p3])
              case rest =>
                obtain ⟨rfl, rfl⟩ := hcut
                cases okk with
                | false =>
                  have hfin : funB c f main = (20, (k : Int)) := by
                    have := HGO3.out
                    simp at this
                    exact this.symm
                  have HFN := Lib.hid hfin
                  clear hfin
                  go_wp2_with fail
                  go_ret2
                  exact ⟨by rw [HFN.out]; rfl, HST.out.ends HBR.out (by omega) (by omega)⟩
                | true =>
                  have hy := HOKK.out
                  simp at hy
                  obtain ⟨⟨v1, v2⟩, ⟨v3, v4⟩⟩ := HNV.out
                  obtain ⟨y0, y1, y2, y3, y4⟩ := hy
                  have HNB : Hid ((0 ≤ nx.1 ∧ nx.1 ≤ 5000) ∧ (0 ≤ nx.2 ∧ nx.2 ≤ ((k + 1 : Nat) : Int))) := ⟨⟨by omega, y3⟩, ⟨y2, by omega⟩⟩
                  have HJB : Hid ((0 ≤ jx.1 ∧ jx.1 ≤ 5000) ∧ (0 ≤ jx.2 ∧ jx.2 ≤ ((k + 1 : Nat) : Int))) := ⟨⟨by omega, y4⟩, ⟨by omega, by omega⟩⟩
                  clear y0 y1 y2 y3 y4 v1 v2 v3 v4
                  have hgo := HGO3.out
                  simp only [if_true] at hgo
                  cases hjmp : jumpB op with
                  | true =>
                    simp only [hjmp, if_true] at hgo
                    have HJM := Lib.hid hjmp
                    have HGO4 := Lib.hid hgo
                    have hoa : 0 ≤ oa ∧ oa < f.ins.length := f3 (by have := hjmp; unfold jumpB at this; simp at this; omega)
                    obtain ⟨pa, hpa⟩ : ∃ pa : Nat, oa = pa := ⟨oa.toNat, by omega⟩
                    have hpa2 : pa < f.ins.length := by omega
                    clear hjmp hgo hoa
                    subst hpa
                    go_wp2_with fail
                    refine (jumps_any op pa ob _).mono ?_
                    rintro e w5 ⟨rfl, hb5⟩
                    have HS5 := Lib.hid (HST.out.below hb5)
                    rw [HJM.out]
                    clear hb5 c0 c1 c2 c3 c4 c5 c6 l1 l2 l3 l4
                    obtain ⟨⟨c0, c1, c2⟩, ⟨c3, c4⟩, ⟨c5, c6⟩, ⟨l1, l2, l3, l4⟩⟩ := HS5.out.cells
                    go_wp2_with fail
                    refine (told_any wo.heap.size pa k jx K _ HS5.out.im (by omega) (by omega)).mono ?_
                    rintro e w8 ⟨rfl, hI8, hg8⟩
                    have HS8 := Lib.hid (HS5.out.grown hI8 hg8)
                    clear hI8 hg8 c0 c1 c2 c3 c4 c5 c6 l1 l2 l3 l4
                    have hgo := HGO4.out
                    simp only [Int.toNat_natCast] at hgo
                    cases htj : toldK K pa jx k with
                    | none =>
                      rw [htj] at hgo
                      have HGO6 := Lib.hid hgo
                      clear hgo htj
                      go_wp2_with fail
                      go_ret2
                      exact ⟨by rw [← HGO6.out]; rfl, HS8.out.ends HBR.out (by omega) (by omega)⟩
                    | some K2 =>
                      rw [htj] at hgo
                      have HGO4b := Lib.hid hgo
                      have HINV2 := Lib.hid (HINV.out.mono.told HJB.out htj)
                      have HS5b : Hid (St wo w8 wo.heap.size wr.heap.size w4.heap.size (w4.heap.size + 1) K2 op pa ob nx jx) := by
                        have := HS8.out; rw [htj] at this; exact this
                      clear hgo htj
                      obtain ⟨⟨c0, c1, c2⟩, ⟨c3, c4⟩, ⟨c5, c6⟩, ⟨l1, l2, l3, l4⟩⟩ := HS5b.out.cells
                      go_wp2_with fail
                      refine (goes_any op pa ob _).mono ?_
                      rintro e w6 ⟨rfl, hb6⟩
                      have HS6 := Lib.hid (HS5b.out.below hb6)
                      clear hb6 c0 c1 c2 c3 c4 c5 c6 l1 l2 l3 l4
                      obtain ⟨⟨c0, c1, c2⟩, ⟨c3, c4⟩, ⟨c5, c6⟩, ⟨l1, l2, l3, l4⟩⟩ := HS6.out.cells
                      have hgo := HGO4b.out
                      cases hgb : goB op with
                      | false =>
                        simp [hgb] at hgo
                        have HGO5 := Lib.hid hgo
                        clear hgb hgo
                        go_wp2_with fail
                        go_roundw
                        case rel => exact ⟨k + 1, K2, by omega, by go_num, HGO5.out, HINV2.out, HS6.out.im, HS6.out.gr⟩
                        case measure => simp [intOf]; omega
                      | true =>
                        simp [hgb] at hgo
                        have HGO5 := Lib.hid hgo
                        clear hgb hgo
                        go_wp2_with fail
                        refine (told_any wo.heap.size (k + 1) k nx K2 _ HS6.out.im (by omega) (by omega)).mono ?_
                        rintro e w7 ⟨rfl, hI7, hg7⟩
                        have HS7 := Lib.hid (HS6.out.grown hI7 hg7)
                        clear hI7 hg7 c0 c1 c2 c3 c4 c5 c6 l1 l2 l3 l4
                        cases htd : toldK K2 (k + 1) nx k with
                        | none =>
                          have hgo := HGO5.out
                          rw [htd] at hgo
                          have HGO6 := Lib.hid hgo
                          clear hgo htd
                          go_wp2_with fail
                          go_ret2
                          exact ⟨by rw [← HGO6.out]; rfl, HS7.out.ends HBR.out (by omega) (by omega)⟩
                        | some K1 =>
                          have hgo := HGO5.out
                          rw [htd] at hgo
                          have HGO6 := Lib.hid hgo
                          have HTD := Lib.hid htd
                          have HS7' : Hid (St wo w7 wo.heap.size wr.heap.size w4.heap.size (w4.heap.size + 1) K1 op pa ob nx jx) := by
                            have := HS7.out; rw [htd] at this; exact this
                          clear hgo htd
                          go_wp2_with fail
                          go_roundw
                          case rel => exact ⟨k + 1, K1, by omega, by go_num, HGO6.out, HINV2.out.told HNB.out HTD.out, HS7'.out.im, HS7'.out.gr⟩
                          case measure => simp [intOf]; omega
                  | false =>
                    simp only [hjmp] at hgo
                    have HJM := Lib.hid hjmp
                    have HGO4 := Lib.hid hgo
                    clear hjmp hgo
                    go_wp2_with fail
                    refine (jumps_any op oa ob _).mono ?_
                    rintro e w5 ⟨rfl, hb5⟩
                    have HS5 := Lib.hid (HST.out.below hb5)
                    rw [HJM.out]
                    clear hb5 c0 c1 c2 c3 c4 c5 c6 l1 l2 l3 l4
                    obtain ⟨⟨c0, c1, c2⟩, ⟨c3, c4⟩, ⟨c5, c6⟩, ⟨l1, l2, l3, l4⟩⟩ := HS5.out.cells
                    go_wp2_with fail
                    refine (goes_any op oa ob _).mono ?_
                    rintro e w6 ⟨rfl, hb6⟩
                    have HS6 := Lib.hid (HS5.out.below hb6)
                    clear hb6 c0 c1 c2 c3 c4 c5 c6 l1 l2 l3 l4
                    obtain ⟨⟨c0, c1, c2⟩, ⟨c3, c4⟩, ⟨c5, c6⟩, ⟨l1, l2, l3, l4⟩⟩ := HS6.out.cells
                    have hgo := HGO4.out
                    cases hgb : goB op with
                    | false =>
                      simp [hgb] at hgo
                      have HGO5 := Lib.hid hgo
                      clear hgb hgo
                      go_wp2_with fail
                      go_roundw
                      case rel => exact ⟨k + 1, K, by omega, by go_num, HGO5.out, HINV.out.mono, HS6.out.im, HS6.out.gr⟩
                      case measure => simp [intOf]; omega
                    | true =>
                      simp [hgb] at hgo
                      have HGO5 := Lib.hid hgo
                      clear hgb hgo
                      go_wp2_with fail
                      refine (told_any wo.heap.size (k + 1) k nx K _ HS6.out.im (by omega) (by omega)).mono ?_
                      rintro e w7 ⟨rfl, hI7, hg7⟩
                      have HS7 := Lib.hid (HS6.out.grown hI7 hg7)
                      clear hI7 hg7 c0 c1 c2 c3 c4 c5 c6 l1 l2 l3 l4
                      cases htd : toldK K (k + 1) nx k with
                      | none =>
                        have hgo := HGO5.out
                        rw [htd] at hgo
                        have HGO6 := Lib.hid hgo
                        clear hgo htd
                        go_wp2_with fail
                        go_ret2
                        exact ⟨by rw [← HGO6.out]; rfl, HS7.out.ends HBR.out (by omega) (by omega)⟩
                      | some K1 =>
                        have hgo := HGO5.out
                        rw [htd] at hgo
                        have HGO6 := Lib.hid hgo
                        have HTD := Lib.hid htd
                        have HS7' : Hid (St wo w7 wo.heap.size wr.heap.size w4.heap.size (w4.heap.size + 1) K1 op oa ob nx jx) := by
                          have := HS7.out; rw [htd] at this; exact this
                        clear hgo htd
                        go_wp2_with fail
                        go_roundw
                        case rel => exact ⟨k + 1, K1, by omega, by go_num, HGO6.out, HINV.out.mono.told HNB.out HTD.out, HS7'.out.im, HS7'.out.gr⟩
                        case measure => simp [intOf]; omega
        · obtain rfl : k = f.ins.length := by omega
          have hgo2 : (if (K f.ins.length).isSome = true then (20, (f.ins.length : Int)) else (0, 0)) = funB c f main := by rw [← hgo]; simp [flowGo]
          have HGO := Lib.hid hgo2
          have HI := Lib.hid hI
          clear hgo hgo2 hinv hg hI hlt
          have hkn := encK_nat K f.ins.length
          cases hKk : K f.ins.length with
          | none =>
            rw [hKk] at hkn
            have hn2 : encK K (f.ins.length : Int) = none := hkn
            clear hkn
            have hfin : funB c f main = (0, 0) := by
              have := HGO.out
              rw [hKk] at this
              exact this.symm
            have HFN := Lib.hid hfin
            clear hfin hKk
            go_wp2_with (first
              | (at_lookup; go_must (refine wpList_lookup_im _ rfl (.tmp 159) (.tmp 162) 86 true rfl Tryd.underlying86 Tryd.underlying3 (zero85 _) wo.heap.size (encK K) f.ins.length rfl rfl HI.out ?_)))
            go_ret2
            exact ⟨by rw [HFN.out]; rfl, balloc HBR3.out _⟩
          | some s =>
            rw [hKk] at hkn
            have hn2 : encK K (f.ins.length : Int) = some (.agg #[.int .i64 s.1, .int .i64 s.2]) := hkn
            clear hkn
            have hfin : funB c f main = (20, (f.ins.length : Int)) := by
              have := HGO.out
              rw [hKk] at this
              exact this.symm
            have HFN := Lib.hid hfin
            clear hfin hKk
            go_wp2_with (first
              | (at_lookup; go_must (refine wpList_lookup_im _ rfl (.tmp 159) (.tmp 162) 86 true rfl Tryd.underlying86 Tryd.underlying3 (zero85 _) wo.heap.size (encK K) f.ins.length rfl rfl HI.out ?_))
              | go_quiet (fail))
            go_ret2
            exact ⟨by rw [HFN.out]; rfl, below_drewN (balloc HBR3.out _) _⟩

end Go.Proofs.YtebappmamaafaaaDoor
