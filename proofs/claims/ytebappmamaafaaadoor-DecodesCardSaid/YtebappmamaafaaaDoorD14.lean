/-
  Proved: the contract of the reference's Decode. No condition.
-/
import Derived.Test.YtebappmamaafaaaDoorD14L
import Derived.BigRegion
set_option linter.unusedSimpArgs false
set_option linter.unusedVariables false
namespace Go.Proofs.YtebappmamaafaaaDoor
open Go.RowKit

set_option maxRecDepth 100000 in
set_option maxHeartbeats 80000000 in
theorem rdec_any (s : ByteArray) (w : World) :
    Calls Tryd.prog 14 #[.string s] w (DecPost s w) := by
  obtain ⟨W, hW⟩ : ∃ W, W = (((w.alloc (.cells #[.slice none 0 0, .slice none 0 0] 25)).alloc (.cells #[.int .i64 0, .int .i64 0] 34)).alloc (.cells #[.slice none 0 0, .slice none 0 0] 25)).alloc (.cells #[.string s, .int .i64 0, .int .i64 0, .int .i64 0] 74) := ⟨_, rfl⟩
  have hrw : RW w W s (.slice none 0 0) (.slice none 0 0) 0 (0, 0) := by
    have e2 := heap_alloc_new (w.alloc (.cells #[.slice none 0 0, .slice none 0 0] 25)) (.cells #[.int .i64 0, .int .i64 0] 34)
    have e3 := heap_alloc_new ((w.alloc (.cells #[.slice none 0 0, .slice none 0 0] 25)).alloc (.cells #[.int .i64 0, .int .i64 0] 34)) (.cells #[.slice none 0 0, .slice none 0 0] 25)
    have e4 := heap_alloc_new (((w.alloc (.cells #[.slice none 0 0, .slice none 0 0] 25)).alloc (.cells #[.int .i64 0, .int .i64 0] 34)).alloc (.cells #[.slice none 0 0, .slice none 0 0] 25)) (.cells #[.string s, .int .i64 0, .int .i64 0, .int .i64 0] 74)
    rw [World.size_alloc] at e2
    rw [World.size_alloc, World.size_alloc] at e3
    rw [World.size_alloc, World.size_alloc, World.size_alloc] at e4
    rw [hW]
    exact ⟨blk_alloc (blk_alloc (blk_alloc (heap_alloc_new w _) _) _) _, blk_alloc (blk_alloc e2 _) _, blk_alloc e3 _, e4, balloc (balloc (balloc (balloc (Below.refl _ _) _) _) _) _⟩
  have HW := Lib.hid hW
  have HRW := Lib.hid hrw
  clear hW hrw
  by_cases hbig : 4000000 < s.size
  · have hres : codeD s = .inl (1, 0) := by unfold codeD; rw [if_pos hbig]
    have hfin : decC s = ([], []) ∧ decF s = (1, 0) := by unfold decC decF; rw [hres]; exact ⟨rfl, rfl⟩
    have HFIN := Lib.hid hfin
    have hd : decide ((4000000 : Int) < (s.size : Int)) = true := by simp; omega
    clear hres hbig hfin
    go_enter Tryd.func14, Tryd.ntmps14
    go_wp2_with fail
    refine bodyPost_ret (v := .tuple #[noCd.val, .agg #[.int .i64 1, .int .i64 0]]) (by simp [results, Tryd.results14, go_sem, *]; rfl) rfl ?_
    refine ⟨noCd, by rw [HFIN.out.1]; rfl, by rw [HFIN.out.2], noCd_own _ _, ?_⟩
    repeat (first | exact Below.refl _ _ | refine balloc ?_ _ | refine Below.setCell ?_ (by simp) _)
  · have hd : decide ((4000000 : Int) < (s.size : Int)) = false := by simp; omega
    have hs4 : s.size ≤ 4000000 := by omega
    go_enter Tryd.func14, Tryd.ntmps14
    go_upto_block 0 with fail
    rw [← HW.out]
    clear hd
    go_cut [] (fun wx => HEnd s w wx)
    case first =>
      as_aux_lemma =>
        go_wp2_with fail
        go_loopw [7] (fun i wr => HRel s w i wr) (fun i _ => 3 - (intOf i).toNat)
        case atStart => exact ⟨0, (0, 0), rfl, by omega, HRW.out, .inl ⟨rfl, by omega, rfl⟩⟩
        case round =>
          obtain ⟨k, g, rfl, hk, hrw, hgo⟩ := hrel
          have c2 : wr.cell? ⟨w.heap.size + 1 + 1 + 1, 2, none⟩ = some (.int .i64 g.1) := blk_cell hrw.d 2
          have hpl : w.heap.size + 1 + 1 + 1 < wr.heap.size := lt_of_block hrw.d
          have HRW2 := Lib.hid hrw
          clear hrw
          rcases hgo with ⟨rfl, hks, hgo⟩ | ⟨hg, hres⟩
          · by_cases hk3 : k < 3
            · have hstp := headD_step s headB k hk3
              rw [hgo] at hstp
              have HGO := Lib.hid hstp
              clear hgo hstp
              by_cases hke : k = s.size
              · have d1 : decide (s.size ≤ k) = true := by simp; omega
                have hres : headD s headB 0 = some (16, (k : Int)) := by have := HGO.out; rwa [if_pos hke] at this
                have HRES := Lib.hid hres
                clear hke hres
                go_wp2_with fail
                refine (rfail_any _ s 0 (0, 0) 16 k _ HRW2.out.d).mono ?_
                rintro e w4 ⟨rfl, hst⟩
                have HRW4 := Lib.hid (HRW2.out.step hst)
                clear hst
                go_wp2_with fail
                go_roundw
                case rel => exact ⟨k + 1, _, by go_num, by omega, HRW4.out, .inr ⟨by simp [fst0], by rw [HRES.out]; simp [fst0]⟩⟩
                case measure => simp [intOf]; omega
              · have d1 : decide (s.size ≤ k) = false := by simp; omega
                have k1 : (0 : Int) ≤ (k : Int) := by omega
                have k2 : (k : Int) < (s.size : Int) := by omega
                have k3 : (k : Int) < 3 := by omega
                have k4 : k < s.size := by omega
                go_wp2_with fail
                go_quiet (fail)
                have k5 : k < (ByteArray.mk #[77, 76, 49]).size := hk3
                obtain ⟨bb, hbb⟩ : ∃ bb, bb = (((s[k]'k4).toNat : Int) != (((ByteArray.mk #[77, 76, 49])[k]'k5).toNat : Int)) := ⟨_, rfl⟩
                rw [← hbb]
                have hbc : bb = !(decide (s.data.toList.getD k 0 = headB.getD k 0)) := by rw [hbb]; exact byte_ne s k k4 hk3
                have HBC := Lib.hid hbc
                have hgo := HGO.out
                rw [if_neg hke] at hgo
                have HGO2 := Lib.hid hgo
                have hrw := HRW2.out.drewN nq
                clear hbb hbc hgo hke c2
                generalize wr.drewN nq = wn at hrw ⊢
                have HRW3 := Lib.hid hrw
                clear hrw
                cases bb with
                | true =>
                  have hne : ¬ s.data.toList.getD k 0 = headB.getD k 0 := by have := HBC.out; simpa using this
                  have hres : headD s headB 0 = some (15, (k : Int)) := by have h1 := HGO2.out; rwa [if_neg hne] at h1
                  have HRES := Lib.hid hres
                  clear hres hne
                  go_wp2_with fail
                  refine (rfail_any _ s 0 (0, 0) 15 k _ HRW3.out.d).mono ?_
                  rintro e w4 ⟨rfl, hst⟩
                  have HRW4 := Lib.hid (HRW3.out.step hst)
                  clear hst
                  go_wp2_with fail
                  go_roundw
                  case rel => exact ⟨k + 1, _, by go_num, by omega, HRW4.out, .inr ⟨by simp [fst0], by rw [HRES.out]; simp [fst0]⟩⟩
                  case measure => simp [intOf]; omega
                | false =>
                  have heq : s.data.toList.getD k 0 = headB.getD k 0 := by have := HBC.out; simpa using this
                  have hgo := HGO2.out
                  rw [if_pos heq] at hgo
                  have HGO3 := Lib.hid hgo
                  clear hgo heq
                  go_wp2_with fail
                  go_roundw
                  case rel => exact ⟨k + 1, (0, 0), by go_num, by omega, HRW3.out, .inl ⟨rfl, by omega, HGO3.out.symm⟩⟩
                  case measure => simp [intOf]; omega
            · obtain rfl : k = 3 := by omega
              have hhd : headD s headB 0 = none := by rw [← hgo]; rfl
              have HHD := Lib.hid hhd
              clear hgo hhd
              go_wp2_with fail
              go_meet
              exact ⟨(0, 0), HRW2.out, .inl ⟨rfl, hks, HHD.out⟩⟩
          · have gb : (g.1 == 0) = false := by simpa using hg
            have HRES := Lib.hid hres
            have HG := Lib.hid hg
            clear hres hg
            by_cases hk3 : k < 3
            all_goals
              go_wp2_with fail
              go_meet
              exact ⟨g, HRW2.out, .inr ⟨HG.out, HRES.out⟩⟩
    case rest =>
      obtain ⟨g, hrw, hgo⟩ := hcut
      obtain ⟨wh, hwh⟩ : ∃ wh : World, wh = wc := ⟨_, rfl⟩
      subst hwh
      have c1 : wh.cell? ⟨w.heap.size + 1 + 1 + 1, 1, none⟩ = some (.int .i64 (0 : Nat)) := blk_cell hrw.d 1
      have z1 := blk_free hrw.d 1
      have hpl : w.heap.size + 1 + 1 + 1 < wh.heap.size := lt_of_block hrw.d
      have hrw3 : RW w (wh.setCell ⟨w.heap.size + 1 + 1 + 1, 1, none⟩ (.int .i64 3)) s (.slice none 0 0) (.slice none 0 0) 3 g :=
        ⟨blk_set_ne hrw.r (by omega) _ _, blk_set_ne hrw.q (by omega) _ _, blk_set_ne hrw.c (by omega) _ _, blk_set hrw.d 1 _, hrw.b.setCell (p := ⟨w.heap.size + 1 + 1 + 1, 1, none⟩) (by simp; omega) _⟩
      have HRW3 := Lib.hid hrw3
      have HGO := Lib.hid hgo
      clear hrw hrw3 hgo
      go_upto_region 14 with fail
      go_cut [8] (fun o wx => N1 s w o wx)
      case first =>
        rcases HGO.out with ⟨rfl, hks, hhd⟩ | ⟨hg, hhd⟩
        · have HHD := Lib.hid hhd
          clear hhd c1 z1
          go_wp2_with fail
          refine (rnum_any _ s 3 2 (0, 0) _ HRW3.out.d hks (by omega) (by omega)).mono ?_
          intro e w4 hpost
          unfold RNumPost at hpost
          rw [if_pos rfl] at hpost
          cases hn : numB s 3 2 with
          | none =>
            rw [hn] at hpost
            obtain ⟨rfl, hst⟩ := hpost
            have hres : codeD s = .inl (endF s) := by
              unfold codeD
              rw [if_neg hbig, HHD.out]
              simp only
              rw [hn]
            have HRES := Lib.hid hres
            have HRW4 := Lib.hid (HRW3.out.step hst)
            clear hst hn hres
            go_wp2_with fail
            go_meet
            exact ⟨0, endF s, 3, rfl, by omega, HRW4.out, .inr ⟨by simp [endF], rfl, HRES.out⟩⟩
          | some n =>
            rw [hn] at hpost
            obtain ⟨rfl, hst⟩ := hpost
            obtain ⟨hv, hle⟩ := numB_lt hn
            have hv2 : n < 65536 := hv
            have hres : codeD s = afterN s n := by
              unfold codeD afterN
              rw [if_neg hbig, HHD.out]
              simp only
              rw [hn]
              rfl
            have HRES := Lib.hid hres
            have HRW4 := Lib.hid (HRW3.out.step hst)
            clear hst hn hres hv
            go_wp2_with fail
            go_meet
            exact ⟨n, (0, 0), 5, rfl, hv2, HRW4.out, .inl ⟨rfl, rfl, hle, HRES.out⟩⟩
        · have hres : codeD s = .inl g := by
            unfold codeD
            rw [if_neg hbig, hhd]
          have HRES := Lib.hid hres
          have HG := Lib.hid hg
          clear hres hg hhd c1 z1
          go_wp2_with fail
          refine (rnum_bad _ s 3 2 g _ HRW3.out.d HG.out).mono ?_
          rintro e w4 ⟨rfl, hst⟩
          have HRW4 := Lib.hid (HRW3.out.step hst)
          clear hst
          go_wp2_with fail
          go_meet
          exact ⟨0, g, 3, rfl, by omega, HRW4.out, .inr ⟨HG.out, rfl, HRES.out⟩⟩
      case rest =>
        obtain ⟨n, g, a, rfl, hn, hrw, hgo⟩ := hcut
        have HRWN := Lib.hid hrw
        have HGON := Lib.hid hgo
        obtain ⟨i9, hi, hz0, hz1, hz2⟩ := info_parts info9
        have HI := Lib.hid hi
        clear hrw hgo c1 z1 hi
        go_upto_block 3 with fail
        go_cut [] (fun wx => TEnd s w wx)
        case first =>
          have hown0 : wc.ownsRow w.heap.size 9 1 (.slice none 0 0) ([] : List ByteArray).length (([] : List ByteArray).map Value.string) := ⟨rfl, .inl ⟨rfl, rfl⟩⟩
          have HOWN0 := Lib.hid hown0
          clear hown0
          go_wp2_with fail
          go_loopw [9] (fun i wr => TRel s w n i wr) (fun i _ => n - (intOf i).toNat)
          case atStart =>
            refine ⟨[], none, 0, a, 0, g, rfl, Nat.zero_le _, HRWN.out, HOWN0.out, ?_⟩
            rcases HGON.out with ⟨rfl, rfl, h5, hc⟩ | ⟨hg, rfl, hc⟩
            · exact .inl ⟨rfl, h5, rfl, rfl, hc⟩
            · exact .inr ⟨hg, hc⟩
          case round =>
            obtain ⟨ts, ao, cap, a', j, g', rfl, hj, hrw, hown, hgo⟩ := hrel
            have c2 : wr.cell? ⟨w.heap.size + 1 + 1 + 1, 2, none⟩ = some (.int .i64 g'.1) := blk_cell hrw.d 2
            have c1 : wr.cell? ⟨w.heap.size + 1 + 1 + 1, 1, none⟩ = some (.int .i64 a') := blk_cell hrw.d 1
            have hpw : w.heap.size + 1 + 1 + 1 < wr.heap.size := lt_of_block hrw.d
            have HRW5 := Lib.hid hrw
            have HOWN5 := Lib.hid hown
            clear hrw hown
            rcases hgo with ⟨rfl, ha', rfl, hgo, hcn⟩ | ⟨hg, hres⟩
            · by_cases hjn : ts.length < n
              · have hstp := textsD_step s (n - (ts.length + 1)) ts a'
                rw [show n - (ts.length + 1) + 1 = n - ts.length from by omega, hgo] at hstp
                have HGO5 := Lib.hid hstp
                have hcd : ∀ f, textsD s n [] 5 = .inl f → codeD s = .inl f := by
                  intro f hf
                  rw [hcn, afterN_eq, hf]
                have HCD := Lib.hid hcd
                have HCN := Lib.hid hcn
                clear hgo hstp hcd hcn
                go_wp2_with fail
                refine (rnum_any _ s a' 1 (0, 0) _ HRW5.out.d ha' (by omega) (by omega)).mono ?_
                intro e w6 hpost
                unfold RNumPost at hpost
                rw [if_pos rfl] at hpost
                cases hk : numB s a' 1 with
                | none =>
                  rw [hk] at hpost
                  obtain ⟨rfl, hst⟩ := hpost
                  have hres : codeD s = .inl (endF s) := HCD.out _ (by rw [HGO5.out, hk])
                  have HRES := Lib.hid hres
                  have HRW6 := Lib.hid (HRW5.out.step hst)
                  have HOWN6 := Lib.hid (RS.own HOWN5.out HRW5.out.d hst (by decide))
                  have d2 : w6.cell? ⟨w.heap.size + 1 + 1 + 1, 2, none⟩ = some (.int .i64 16) := blk_cell hst.rd 2
                  clear hst hk hres c1 c2
                  go_wp2_with fail
                  go_roundw
                  case rel => exact ⟨ts, ao, cap, a', ts.length + 1, endF s, by go_num, by omega, HRW6.out, HOWN6.out, .inr ⟨by simp [endF], HRES.out⟩⟩
                  case measure => simp [intOf]; omega
                | some k =>
                  rw [hk] at hpost
                  obtain ⟨rfl, hst⟩ := hpost
                  obtain ⟨hkv, hkl⟩ := numB_lt hk
                  have hkv2 : k < 256 := hkv
                  have hgo := HGO5.out
                  rw [hk] at hgo
                  simp only at hgo
                  have HGO6 := Lib.hid hgo
                  have HRW6 := Lib.hid (HRW5.out.step hst)
                  have HOWN6 := Lib.hid (RS.own HOWN5.out HRW5.out.d hst (by decide))
                  have d2 : w6.cell? ⟨w.heap.size + 1 + 1 + 1, 2, none⟩ = some (.int .i64 0) := blk_cell hst.rd 2
                  have d1 : w6.cell? ⟨w.heap.size + 1 + 1 + 1, 1, none⟩ = some (.int .i64 ((a' : Int) + 1)) := by have := blk_cell hst.rd 1; push_cast at this; exact this
                  clear hst hk hgo c1 c2 hkv
                  by_cases h200 : 200 < k
                  · have hres : codeD s = .inl (17, (a' : Int)) := HCD.out _ (by rw [HGO6.out, if_pos h200])
                    have HRES := Lib.hid hres
                    have hd : decide ((200 : Int) < (k : Int)) = true := by simp; omega
                    clear hres h200
                    go_wp2_with fail
                    refine (rfail_any _ s (a' + 1) (0, 0) 17 a' _ HRW6.out.d).mono ?_
                    rintro e w7 ⟨rfl, hst⟩
                    have HRW7 := Lib.hid (HRW6.out.step hst)
                    have HOWN7 := Lib.hid (RS.own HOWN6.out HRW6.out.d hst (by decide))
                    clear hst
                    go_wp2_with fail
                    go_roundw
                    case rel => exact ⟨ts, ao, cap, a' + 1, ts.length + 1, _, by go_num, by omega, HRW7.out, HOWN7.out, .inr ⟨by simp [fst0], by rw [HRES.out]; simp [fst0]⟩⟩
                    case measure => simp [intOf]; omega
                  · have hd : decide ((200 : Int) < (k : Int)) = false := by simp; omega
                    have hgo := HGO6.out
                    rw [if_neg h200] at hgo
                    have HGO7 := Lib.hid hgo
                    clear hgo h200
                    by_cases hle : a' + 1 + k ≤ s.size
                    · have hd2 : decide ((s.size : Int) - ((a' : Int) + 1) < (k : Int)) = false := by simp; omega
                      have hgo := HGO7.out
                      rw [if_pos hle] at hgo
                      have HGO8 := Lib.hid hgo
                      have q0 : w6.cell? ⟨w.heap.size + 1 + 1, 0, none⟩ = some (.slice ao ts.length cap) := blk_cell HRW6.out.c 0
                      have y0 := blk_free HRW6.out.c 0
                      have lp6 : w.heap.size + 1 + 1 + 1 < w6.heap.size := lt_of_block HRW6.out.d
                      have lc6 : w.heap.size + 1 + 1 < w6.heap.size := by omega
                      have hw2 : IntKind.i64.wrap ((a' : Int) + 1 + k) = a' + 1 + k := IntWalk.i64_in _ (by omega)
                      have k0 : (0 : Int) ≤ (a' : Int) + 1 := by omega
                      have k1 : (a' : Int) + 1 ≤ (a' : Int) + 1 + k := by omega
                      have k2 : (a' : Int) + 1 + k ≤ (s.size : Int) := by omega
                      clear hgo
                      go_upto_region 20 with fail
                      go_cut [] (fun wx => TApp s w ts (cutB s (a' + 1) k) (a' + 1) wx)
                      case first =>
                        have hcx := cut_extract s (a' + 1) k hle
                        have HCX := Lib.hid hcx
                        clear d2 hcx
                        go_region_law ((refine step_append_lies _ (by rfl) _ _ _ (by rfl) w.heap.size 9 i9 _ 1 16 Tryd.underlying22 HI.out hz0 hz1 hz2 rfl (by omega) (.slice ao ts.length cap) ts.length (ts.map Value.string) (by rfl) ((HOWN6.out.alloc _).drew) ⟨w6.heap.size, 0, none⟩ 1 1 [.string (s.extract (a' + 1) (a' + 1 + k))] (by rfl) (by rfl) (new_cells_d (c := #[.string (s.extract (a' + 1) (a' + 1 + k))]) _ (by simp)) (by simp [Value.oneCell']) (by omega) (by unfold maxLen; omega) (by omega) (by simp; omega) (w6.heap.size + 1) (by simp) ?_; intro gg cap7 w7 hown7 hg7 hat hlt7; have hS7 : T20 (w.heap.size + 1 + 1) (w.heap.size + 1 + 1 + 1) (.slice ao ts.length cap) ((a' : Int) + 1) w7 := t20_grown (HOWN6.out) HRW6.out hg7; obtain ⟨s70, s71, s72⟩ := hS7))
                        all_goals
                          have HT7 := Lib.hid (t20_blocks HOWN6.out HRW6.out hg7)
                          have HO7 := Lib.hid hown7
                          clear hg7 hown7
                          go_wp2_with fail
                          go_meet
                          refine ⟨some ⟨gg, 0, none⟩, cap7, HT7.out.setc _, ?_⟩
                          have h7 := own_set HO7.out HT7.out.c (by decide) 0 (.slice (some ⟨gg, 0, none⟩) (ts.length + 1) cap7)
                          rw [HCX.out] at h7
                          exact h7
                      case rest =>
                        obtain ⟨ao7, cap7, hrw7, hown7⟩ := hcut
                        have e1 : wc.cell? ⟨w.heap.size + 1 + 1 + 1, 1, none⟩ = some (.int .i64 ((a' : Int) + 1)) := by have := blk_cell hrw7.d 1; push_cast at this; exact this
                        have v1 := blk_free hrw7.d 1
                        have lp7 : w.heap.size + 1 + 1 + 1 < wc.heap.size := lt_of_block hrw7.d
                        have HRW7 := Lib.hid hrw7
                        have HOWN7 := Lib.hid hown7
                        have hl : (ts ++ [(⟨(cutB s (a' + 1) k).toArray⟩ : ByteArray)]).length = ts.length + 1 := by simp
                        have hfm : (ts ++ [(⟨(cutB s (a' + 1) k).toArray⟩ : ByteArray)]).map Value.string = ts.map Value.string ++ [.string ⟨(cutB s (a' + 1) k).toArray⟩] := by simp
                        have HLL := Lib.hid hl
                        have HFM := Lib.hid hfm
                        clear hrw7 hown7 q0 y0 d1 d2 hl hfm hw2
                        go_wp2_with fail
                        go_roundw
                        case rel =>
                          refine ⟨ts ++ [(⟨(cutB s (a' + 1) k).toArray⟩ : ByteArray)], ao7, cap7, a' + 1 + k, ts.length + 1, (0, 0), by go_num, by omega, ?_, ?_, .inl ⟨rfl, hle, HLL.out, HGO8.out.symm, HCN.out⟩⟩
                          · rw [HLL.out]
                            have h8 := HRW7.out.seta (a' := a' + 1 + k)
                            push_cast at h8
                            exact h8
                          · rw [HLL.out, HFM.out]
                            exact own_set HOWN7.out HRW7.out.d (by decide) _ _
                        case measure => simp [intOf]; omega
                    · have hd2 : decide ((s.size : Int) - ((a' : Int) + 1) < (k : Int)) = true := by simp; omega
                      have hres : codeD s = .inl (endF s) := HCD.out _ (by rw [HGO7.out, if_neg hle])
                      have HRES := Lib.hid hres
                      clear hres hle
                      go_wp2_with fail
                      refine (rfail_any _ s (a' + 1) (0, 0) 16 s.size _ HRW6.out.d).mono ?_
                      rintro e w7 ⟨rfl, hst⟩
                      have HRW7 := Lib.hid (HRW6.out.step hst)
                      have HOWN7 := Lib.hid (RS.own HOWN6.out HRW6.out.d hst (by decide))
                      clear hst
                      go_wp2_with fail
                      go_roundw
                      case rel => exact ⟨ts, ao, cap, a' + 1, ts.length + 1, _, by go_num, by omega, HRW7.out, HOWN7.out, .inr ⟨by simp [fst0], by rw [HRES.out]; simp [fst0, endF]⟩⟩
                      case measure => simp [intOf]; omega
              · obtain rfl : n = ts.length := by omega
                have hT : textsD s ts.length [] 5 = .inr (ts, a') := by rw [← hgo]; simp [textsD]
                have hres : codeD s = afterT s ts a' := by rw [hcn, afterN_eq, hT]
                have HRES := Lib.hid hres
                clear hgo hT hcn hres
                go_wp2_with fail
                go_meet
                exact ⟨ts, ao, cap, a', (0, 0), HRW5.out, HOWN5.out, .inl ⟨rfl, ha', HRES.out⟩⟩
            · have gb : (g'.1 == 0) = false := by simpa using hg
              have HRES := Lib.hid hres
              have HG := Lib.hid hg
              clear hres hg
              by_cases hjn : j < n
              all_goals
                go_wp2_with fail
                go_meet
                exact ⟨ts, ao, cap, a', g', HRW5.out, HOWN5.out, .inr ⟨HG.out, HRES.out⟩⟩
        case rest =>
          obtain ⟨ts, ao, cap, a4, g4, hrw, hown, hgo⟩ := hcut
          obtain ⟨wt, hwt⟩ : ∃ wt : World, wt = wc := ⟨_, rfl⟩
          subst hwt
          have HRWT := Lib.hid hrw
          have HOWNT := Lib.hid hown
          have HGOT := Lib.hid hgo
          clear hrw hown hgo
          go_upto_region 27 with fail
          go_cut [8] (fun o wx => N2 s w ts ao cap o wx)
          case first =>
            as_aux_lemma =>
              go_wp2_with fail
              rcases HGOT.out with ⟨e4, ha4, hc4⟩ | ⟨hg4, hc4⟩
              · refine (rnum_u _ s a4 g4 _ HRWT.out.d ha4 (by omega)).mono ?_
                rintro e w5 ⟨v, a5, g5, hn, rfl, hst, ha5, hv⟩
                have HNA := Lib.hid (num_after s ts a4 v a5 g4 g5 hn (.inl ⟨e4, ha4, hc4⟩))
                have HRW5 := Lib.hid (HRWT.out.step hst)
                have HOWN5 := Lib.hid (RS.own HOWNT.out HRWT.out.d hst (by decide))
                clear hn hst e4 hc4
                go_wp2_with fail
                go_meet
                refine ⟨v, a5, g5, rfl, hv, HRW5.out, HOWN5.out, ?_⟩
                rcases HNA.out with ⟨h1, h2⟩ | h1
                · exact .inl ⟨h1, ha5, h2⟩
                · exact .inr h1
              · have HG4 := Lib.hid hg4
                have HC4 := Lib.hid hc4
                clear hg4 hc4
                refine (rnum_bad _ s a4 2 g4 _ HRWT.out.d HG4.out).mono ?_
                rintro e w5 ⟨rfl, hst⟩
                have HRW5 := Lib.hid (HRWT.out.step hst)
                have HOWN5 := Lib.hid (RS.own HOWNT.out HRWT.out.d hst (by decide))
                clear hst
                go_wp2_with fail
                go_meet
                exact ⟨0, a4, g4, rfl, by omega, HRW5.out, HOWN5.out, .inr ⟨HG4.out, rfl, HC4.out⟩⟩
          case rest =>
            obtain ⟨m, a0, g0, rfl, hm, hrw, hown, hgo⟩ := hcut
            have HRWM := Lib.hid hrw
            have HOWNM := Lib.hid hown
            have HGOM := Lib.hid hgo
            clear hrw hown hgo HGOT HOWNT HRWT
            go_upto_block 6 with fail
            go_cut [] (fun wx => FuEnd s w ts ao cap wx)
            case first =>
              as_aux_lemma =>
                go_wp2_with fail
                go_loopw [12] (fun i wr => FuRel s w ts ao cap m a0 i wr) (fun i _ => m - (intOf i).toNat)
                case atStart =>
                  refine ⟨[], none, 0, 0, a0, 0, g0, rfl, Nat.zero_le _, HRWM.out, HOWNM.out, ?_⟩
                  rcases HGOM.out with ⟨h1, h2, h3⟩ | ⟨h1, h2, h3⟩
                  · exact .inl ⟨h1, h2, rfl, rfl, ⟨⟨rfl, .inl ⟨rfl, rfl⟩⟩, fun f hf => by cases hf⟩, rfl, h3⟩
                  · exact .inr ⟨h1, h3⟩
                case round =>
                  obtain ⟨fs, ao2, cap2, n2, a, j, g, rfl, hj, hrw, hown, hgo⟩ := hrel
                  have c2 : wr.cell? ⟨w.heap.size + 1 + 1 + 1, 2, none⟩ = some (.int .i64 g.1) := blk_cell hrw.d 2
                  have hpw : w.heap.size + 1 + 1 + 1 < wr.heap.size := lt_of_block hrw.d
                  have HRW5 := Lib.hid hrw
                  have HOWN5 := Lib.hid hown
                  clear hrw hown
                  rcases hgo with ⟨rfl, ha, rfl, rfl, hfo, hgo, hcm⟩ | ⟨hg, hres⟩
                  · by_cases hjm : fs.length < m
                    · have HFO := Lib.hid hfo
                      have HGO := Lib.hid hgo
                      have HCM := Lib.hid hcm
                      clear hfo hgo hcm
                      go_upto_region 31 with fail
                      go_cut [13] (fun o13 wx => FM0 s wr (w.heap.size + 1 + 1 + 1) a o13 wx)
                      case first =>
                        clear c2
                        go_wp2_with fail
                        refine (rnum_u _ s a (0, 0) _ HRW5.out.d ha (by omega)).mono ?_
                        rintro e w6 ⟨v1, a1, g1, hn1, rfl, hst1, ha1, hv1⟩
                        have HN1 := Lib.hid hn1
                        have HST1 := Lib.hid hst1
                        clear hn1 hst1
                        go_wp2_with fail
                        refine (rnum_u _ s a1 g1 _ HST1.out.rd ha1 (by omega)).mono ?_
                        rintro e w7 ⟨v2, a2, g2, hn2, rfl, hst2, ha2, hv2⟩
                        have HN2 := Lib.hid hn2
                        have HST2 := Lib.hid (HST1.out.trans hst2)
                        have hs7 := HST2.out.gr.size
                        clear hn2 hst2
                        go_wp2_with fail
                        go_meet
                        exact ⟨w7.heap.size, v1, a1, v2, a2, g1, g2, rfl, hs7, ha2, heap_alloc_new w7 _, HST2.out.alloc _, HN1.out, HN2.out⟩
                      case rest =>
                        obtain ⟨bf, v1, a1, v2, a2, g1, g2, rfl, hbf, ha2, h48, hst, hn1, hn2⟩ := hcut
                        have H48 := Lib.hid h48
                        have HST := Lib.hid hst
                        have HN1 := Lib.hid hn1
                        have HN2 := Lib.hid hn2
                        clear h48 hst hn1 hn2 c2
                        go_upto_region 32 with fail
                        go_cut [14] (fun o14 wx => FM1 s wr (w.heap.size + 1 + 1 + 1) a bf o14 wx)
                        case first =>
                          go_wp2_with fail
                          refine (rnum_u _ s a2 g2 _ HST.out.rd ha2 (by omega)).mono ?_
                          rintro e w7 ⟨v3, a3, g3, hn3, rfl, hst3, ha3, hv3⟩
                          have hlaw := num3_law s a v1 a1 v2 a2 v3 a3 g1 g2 g3 HN1.out HN2.out hn3
                          have HLAW := Lib.hid hlaw
                          have HST3 := Lib.hid (HST.out.trans hst3)
                          have HX := Lib.hid (blk_grown H48.out hst3.gr (by simp; omega))
                          clear hlaw hn3 hst3
                          go_wp2_with fail
                          go_meet
                          exact ⟨v1, v2, v3, a3, g3, rfl, hv3, ha3, HX.out, HST3.out, HLAW.out⟩
                        case rest =>
                          obtain ⟨u, v, n, a3, g3, rfl, hn, ha3, h48, hst, hlaw⟩ := hcut
                          have H483 := Lib.hid h48
                          have HST3 := Lib.hid hst
                          have HLAW := Lib.hid hlaw
                          clear h48 hst hlaw HN1 HN2 H48 HST
                          go_upto_block 8 with fail
                          go_cut [] (fun wx => FM2 s wr (w.heap.size + 1 + 1 + 1) a bf u v wx)
                          case first =>
                            obtain ⟨wj, hwj⟩ : ∃ wj : World, wj = wr := ⟨_, rfl⟩
                            subst hwj
                            obtain ⟨i50, hi, hy0, hy1, hy2⟩ := info_parts info50
                            have HI5 := Lib.hid hi
                            clear hi
                            go_wp2_with fail
                            go_loopw [15] (fun i wx => InRel s wj (w.heap.size + 1 + 1 + 1) a bf u v n a3 i wx) (fun i _ => n - (intOf i).toNat)
                            case atStart =>
                              refine ⟨[], none, 0, a3, g3, rfl, Nat.zero_le _, ha3, H483.out, ⟨rfl, .inl ⟨rfl, rfl⟩⟩, HST3.out, ?_⟩
                              rcases HLAW.out with ⟨h1, h2⟩ | ⟨h1, h2, h3⟩
                              · exact .inl ⟨h1, rfl, h2⟩
                              · exact .inr ⟨h1, h3⟩
                            case round =>
                              obtain ⟨wi, hwi⟩ : ∃ wi : World, wi = wr := ⟨_, rfl⟩
                              subst hwi
                              obtain ⟨l, aoi, capi, a4, g4, rfl, hl, ha4, h48, hown, hst, hgo⟩ := hrel
                              have c2 : wi.cell? ⟨w.heap.size + 1 + 1 + 1, 2, none⟩ = some (.int .i64 g4.1) := blk_cell hst.rd 2
                              have hpi : w.heap.size + 1 + 1 + 1 < wi.heap.size := lt_of_block hst.rd
                              have hbi : bf < wi.heap.size := lt_of_block h48
                              have H484 := Lib.hid h48
                              have HOWN4 := Lib.hid hown
                              have HST4 := Lib.hid hst
                              clear h48 hown hst
                              rcases hgo with ⟨rfl, hgo, hfd⟩ | ⟨hg, hres⟩
                              · by_cases hln : l.length < n
                                · have hstp := inssD_step s (n - (l.length + 1)) l a4
                                  rw [show n - (l.length + 1) + 1 = n - l.length from by omega, hgo] at hstp
                                  have HSTP := Lib.hid hstp
                                  have HFD := Lib.hid hfd
                                  clear hstp hgo hfd
                                  go_wp2_with fail
                                  refine (rinsD_any _ s a4 _ HST4.out.rd ha4 (by omega)).mono ?_
                                  intro e w6 hpost
                                  unfold RInsPost at hpost
                                  have hun : ∃ (y : Ic) (a5 : Nat) (g5 : Int × Int), e = .returned (xval y) ∧ RS wi w6 (w.heap.size + 1 + 1 + 1) s a5 g5 ∧ a5 ≤ s.size ∧ ((g5 = (0, 0) ∧ inssD s (n - (l.length + 1)) (l ++ [y]) a5 = inssD s n [] a3) ∨ (g5.1 ≠ 0 ∧ funD s a = .inl g5)) := by
                                    cases hn : insD s a4 with
                                    | inl f =>
                                      rw [hn] at hpost
                                      obtain ⟨y, a5, rfl, hst, ha5⟩ := hpost
                                      refine ⟨y, a5, f, rfl, hst, ha5, .inr ⟨insD_f hn, ?_⟩⟩
                                      have h1 := HSTP.out
                                      rw [hn] at h1
                                      rw [HFD.out]
                                      unfold afterH
                                      rw [h1]
                                    | inr r =>
                                      obtain ⟨y, a5⟩ := r
                                      rw [hn] at hpost
                                      obtain ⟨rfl, hst, ha5⟩ := hpost
                                      refine ⟨y, a5, (0, 0), rfl, hst, ha5, .inl ⟨rfl, ?_⟩⟩
                                      have h1 := HSTP.out
                                      rw [hn] at h1
                                      exact h1.symm
                                  obtain ⟨y, a5, g5, rfl, hst6, ha5, hlaw⟩ := hun
                                  have HLAW5 := Lib.hid hlaw
                                  have HST5 := Lib.hid (HST4.out.trans hst6)
                                  have hx := blk_grown H484.out hst6.gr (by simp; omega)
                                  have HX6 := Lib.hid hx
                                  have HOWN6 := Lib.hid (RS.own HOWN4.out HST4.out.rd hst6 (by decide))
                                  have x2 : w6.cell? ⟨bf, 2, none⟩ = some (.slice aoi l.length capi) := blk_cell hx 2
                                  have y2 := blk_free hx 2
                                  have hb6 : bf < w6.heap.size := lt_of_block hx
                                  have hs6 := HST5.out.gr.size
                                  clear hpost hlaw hst6 hx c2
                                  unfold xval
                                  go_wp2_with (first | (at_builtin; go_must (refine wpList_append_own _ rfl (.tmp 171) (.tmp 173) 46 rfl wj.heap.size 50 i50 (.agg #[.int .i64 0, .int .i64 0, .int .i64 0]) 3 24 Tryd.underlying46 HI5.out hy0 hy1 hy2 rfl (by decide) (.slice aoi l.length capi) l.length (l.flatMap insRow) rfl ((HOWN6.out.alloc _).alloc _) ⟨w6.heap.size + 1, 0, Option.none⟩ 1 1 (insRow y) rfl rfl (new_ins y _ (by simp)) (ins_ones y) (by unfold maxLen; omega) (by omega) (by simp; omega) ?_)))
                                  intro v' w7 hown7 hg7 hnil
                                  obtain ⟨g', cap', hv'⟩ := own_shape hown7 hnil
                                  rw [hv'] at hown7 ⊢
                                  clear hnil hv'
                                  have hne := own_ne HX6.out HOWN6.out (by decide)
                                  have hnp := own_ne HST5.out.rd HOWN6.out (by decide)
                                  have h7 := blk_grown (blk_alloc (blk_alloc HX6.out _) _) hg7 hne
                                  have hst7 : RS wj w7 (w.heap.size + 1 + 1 + 1) s a5 g5 := ⟨blk_grown (blk_alloc (blk_alloc HST5.out.rd _) _) hg7 hnp, gr_own ((HST5.out.alloc _).alloc _).gr hg7 (fun g hg => (HOWN6.out.lt g hg).1)⟩
                                  have x27 : w7.cell? ⟨bf, 2, none⟩ = some (.slice aoi l.length capi) := blk_cell h7 2
                                  have y27 := blk_free h7 2
                                  have HX7 := Lib.hid h7
                                  have HST7 := Lib.hid hst7
                                  have HOWN7 := Lib.hid hown7
                                  have hll : (l ++ [y]).length = l.length + 1 := by simp
                                  have hfm : (l ++ [y]).flatMap insRow = l.flatMap insRow ++ insRow y := by simp
                                  have HLL := Lib.hid hll
                                  have HFM := Lib.hid hfm
                                  clear hne hnp h7 hst7 hown7 hg7 hll hfm x2 y2
                                  go_wp2_with fail
                                  go_roundw
                                  case rel =>
                                    refine ⟨l ++ [y], some ⟨g', 0, none⟩, cap', a5, g5, ?_, ?_, ha5, ?_, ?_, ?_, ?_⟩
                                    · rw [HLL.out]; go_num
                                    · rw [HLL.out]; omega
                                    · rw [HLL.out]; exact blk_set HX7.out 2 _
                                    · rw [HLL.out, HFM.out]; exact own_set HOWN7.out HX7.out (by decide) _ _
                                    · exact HST7.out.set _ _ _ hpw (by omega)
                                    · rw [HLL.out]
                                      rcases HLAW5.out with ⟨h1, h2⟩ | h1
                                      · exact .inl ⟨h1, h2, HFD.out⟩
                                      · exact .inr h1
                                  case measure => simp [intOf]; omega
                                · obtain rfl : n = l.length := by omega
                                  have hres : funD s a = .inr (((u : Int), (v : Int), l), a4) := by
                                    rw [hfd]
                                    unfold afterH
                                    rw [← hgo]
                                    simp [inssD]
                                  have HRES := Lib.hid hres
                                  clear hgo hfd hres
                                  go_wp2_with fail
                                  go_meet
                                  exact ⟨l, aoi, capi, a4, (0, 0), hn, ha4, H484.out, HOWN4.out, HST4.out, .inl ⟨rfl, HRES.out⟩⟩
                              · have gb : (g4.1 == 0) = false := by simpa using hg
                                have HRES := Lib.hid hres
                                have HG := Lib.hid hg
                                have hl6 : l.length < 65536 := by omega
                                clear hres hg
                                by_cases hln : l.length < n
                                all_goals
                                  go_wp2_with fail
                                  go_meet
                                  exact ⟨l, aoi, capi, a4, g4, hl6, ha4, H484.out, HOWN4.out, HST4.out, .inr ⟨HG.out, HRES.out⟩⟩
                          case rest =>
                            obtain ⟨l, aoi, capi, a5, g5, hl6, ha5, h48, hown50, hst, hgo5⟩ := hcut
                            obtain ⟨i48, hi, hx0, hx1, hx2⟩ := info_parts info48
                            have HI48 := Lib.hid hi
                            obtain ⟨wf, hwf⟩ : ∃ wf : World, wf = wc := ⟨_, rfl⟩
                            subst hwf
                            have hrw6 := HRW5.out.step hst
                            have HOWN6 := Lib.hid (RS.own HOWN5.out HRW5.out.d hst (by decide))
                            have HFO6 := Lib.hid (fsOwn_keep HFO.out HRW5.out.d hst)
                            have HNEW6 := Lib.hid (own_base hown50 HRW5.out.b.size)
                            have f0 : wf.cell? ⟨bf, 0, none⟩ = some (.int .i64 u) := blk_cell h48 0
                            have f1 : wf.cell? ⟨bf, 1, none⟩ = some (.int .i64 v) := blk_cell h48 1
                            have f2 : wf.cell? ⟨bf, 2, none⟩ = some (.slice aoi l.length capi) := blk_cell h48 2
                            have x1 : wf.cell? ⟨w.heap.size + 1 + 1, 1, none⟩ = some (.slice ao2 fs.length cap2) := blk_cell hrw6.c 1
                            have z1 := blk_free hrw6.c 1
                            have l7 : bf < wf.heap.size := lt_of_block h48
                            have l8 : w.heap.size + 1 + 1 < wf.heap.size := lt_of_block hrw6.c
                            have HRW6 := Lib.hid hrw6
                            have HGO5 := Lib.hid hgo5
                            clear hi hrw6 hown50 hst hgo5 h48
                            go_wp2_with (first | (at_builtin; go_must (refine wpList_append_own _ rfl (.tmp 177) (.tmp 179) 23 rfl w.heap.size 48 i48 (.agg #[.int .i64 0, .int .i64 0, .slice Option.none 0 0]) 3 40 Tryd.underlying23 HI48.out hx0 hx1 hx2 rfl (by decide) (.slice ao2 fs.length cap2) fs.length (fs.flatMap fnRow) rfl (HFO6.out.1.alloc _) ⟨wf.heap.size, 0, Option.none⟩ 1 1 [.int .i64 u, .int .i64 v, .slice aoi l.length capi] rfl rfl (new_cells _ (by simp)) (by intro u hu; simp at hu; rcases hu with rfl | rfl | rfl <;> rfl) (by unfold maxLen; omega) (by omega) (by simp; omega) ?_)))
                            intro v' w8 hown8 hg8 hnil
                            obtain ⟨g', cap', hv'⟩ := own_shape hown8 hnil
                            rw [hv'] at hown8 ⊢
                            clear hnil hv'
                            have hrw8 := HRW6.out.app HFO6.out.1 (by decide) (by decide) (by decide) hg8
                            have hrow48 : ∀ q, Value.ownBlock (.slice ao2 fs.length cap2) = some q → ∃ c t fz, (wf.alloc (.cells #[.int .i64 u, .int .i64 v, .slice aoi l.length capi] 48)).heap[q]? = some (.cells c t fz) ∧ t = 48 := fun q hq => by obtain ⟨c, fz, h⟩ := own_row (HFO6.out.1.alloc _) q hq; exact ⟨c, _, fz, h, rfl⟩
                            have HOWN8 := Lib.hid (own_keep (HOWN6.out.alloc _) hg8 (fun q hq => by obtain ⟨c, t, f, h, rfl⟩ := hrow48 q hq; exact ⟨_, _, _, h, by decide⟩))
                            have hins8 : ∀ g ∈ fs, w8.ownsRow w.heap.size 50 3 (.slice g.ao g.ins.length g.cap) g.ins.length (g.ins.flatMap insRow) := fun g hg => own_keep ((HFO6.out.2 g hg).alloc _) hg8 (fun q hq => by obtain ⟨c, t, f, h, rfl⟩ := hrow48 q hq; exact ⟨_, _, _, h, by decide⟩)
                            have HINS8 := Lib.hid hins8
                            have HNEW8 := Lib.hid (own_keep (HNEW6.out.alloc _) hg8 (fun q hq => by obtain ⟨c, t, f, h, rfl⟩ := hrow48 q hq; exact ⟨_, _, _, h, by decide⟩))
                            have x8 : w8.cell? ⟨w.heap.size + 1 + 1, 1, none⟩ = some (.slice ao2 fs.length cap2) := blk_cell hrw8.c 1
                            have z8 := blk_free hrw8.c 1
                            have l9 : w.heap.size + 1 + 1 < w8.heap.size := lt_of_block hrw8.c
                            have HRW8 := Lib.hid hrw8
                            have HOWNF8 := Lib.hid hown8
                            obtain ⟨fn, hfn⟩ : ∃ fn : Fn, fn = ⟨u, v, aoi, capi, l⟩ := ⟨_, rfl⟩
                            have HFN := Lib.hid hfn
                            have hl : (fs ++ [fn]).length = fs.length + 1 := by simp
                            have HLL := Lib.hid hl
                            clear hrw8 hrow48 hins8 hown8 hg8 hl hfn x1 z1 f0 f1 f2
                            go_wp2_with fail
                            go_roundw
                            case rel =>
                              refine ⟨fs ++ [fn], some ⟨g', 0, none⟩, cap', fs.length + 1, a5, fs.length + 1, g5, by go_num, by omega, HRW8.out.setf _, own_set HOWN8.out HRW8.out.c (by decide) _ _, ?_⟩
                              rcases HGO5.out with ⟨h1, h2⟩ | h2
                              · refine .inl ⟨h1, ha5, HLL.out.symm, HLL.out, ⟨?_, ?_⟩, ?_, HCM.out⟩
                                · have h3 := own_set HOWNF8.out HRW8.out.c (by decide) 1 (.slice (some ⟨g', 0, none⟩) (fs.length + 1) cap')
                                  rw [HLL.out, List.flatMap_append]
                                  have h4 : [fn].flatMap fnRow = [.int .i64 u, .int .i64 v, .slice aoi l.length capi] := by rw [HFN.out]; rfl
                                  rw [h4]
                                  exact h3
                                · intro f hf
                                  rcases List.mem_append.1 hf with hf | hf
                                  · exact own_set (HINS8.out f hf) HRW8.out.c (by decide) _ _
                                  · simp only [List.mem_singleton] at hf
                                    subst hf
                                    rw [HFN.out]
                                    exact own_set HNEW8.out HRW8.out.c (by decide) _ _
                                · have h3 := funsD_step s (m - (fs.length + 1)) (fs.map fct) a
                                  rw [show m - (fs.length + 1) + 1 = m - fs.length from by omega, HGO.out, h2] at h3
                                  simp only at h3
                                  rw [h3, HFN.out]
                                  simp [fct]
                              · refine .inr ⟨h2.1, ?_⟩
                                have h3 := funsD_step s (m - (fs.length + 1)) (fs.map fct) a
                                rw [show m - (fs.length + 1) + 1 = m - fs.length from by omega, HGO.out, h2.2] at h3
                                simp only at h3
                                rw [HCM.out]
                                unfold afterM
                                rw [h3]
                            case measure => simp [intOf]; omega
                    · obtain rfl : m = fs.length := by omega
                      have h1 : funsD s fs.length [] a0 = .inr (fs.map fct, a) := by rw [← hgo]; simp [funsD]
                      have hwf : ∀ f ∈ fs, wfF (fct f) := fun f hf => funsD_wf _ _ _ _ _ _ h1 (fun x hx => by cases hx) _ (List.mem_map_of_mem hf)
                      have hres : codeD s = if a < s.size then .inl (16, (a : Int)) else .inr (ts, fs.map fct) := by rw [hcm]; unfold afterM; rw [h1]
                      have HFO := Lib.hid hfo
                      have HWF := Lib.hid hwf
                      have HRES := Lib.hid hres
                      clear h1 hwf hres hgo hcm hfo
                      go_wp2_with fail
                      go_meet
                      exact ⟨fs, ao2, cap2, fs.length, a, (0, 0), HRW5.out, HOWN5.out, .inl ⟨rfl, ha, rfl, HFO.out, HWF.out, HRES.out⟩⟩
                  · have gb : (g.1 == 0) = false := by simpa using hg
                    have HRES := Lib.hid hres
                    have HG := Lib.hid hg
                    clear hres hg
                    by_cases hjm : j < m
                    all_goals
                      go_wp2_with fail
                      go_meet
                      exact ⟨fs, ao2, cap2, n2, a, g, HRW5.out, HOWN5.out, .inr ⟨HG.out, HRES.out⟩⟩
            case rest =>
              obtain ⟨fs, ao2, cap2, n2, a, g, hrw, hown, hgo⟩ := hcut
              obtain ⟨we, hwe⟩ : ∃ we : World, we = wc := ⟨_, rfl⟩
              subst hwe
              have c2 : we.cell? ⟨w.heap.size + 1 + 1 + 1, 2, none⟩ = some (.int .i64 g.1) := blk_cell hrw.d 2
              have c1 : we.cell? ⟨w.heap.size + 1 + 1 + 1, 1, none⟩ = some (.int .i64 a) := blk_cell hrw.d 1
              have hpw : w.heap.size + 1 + 1 + 1 < we.heap.size := lt_of_block hrw.d
              have HRWE := Lib.hid hrw
              have HOWNE := Lib.hid hown
              clear hrw hown HRWM HOWNM HGOM
              rcases hgo with ⟨rfl, ha, rfl, hfo, hwf, hres⟩ | ⟨hg, hres⟩
              · by_cases has : a < s.size
                · skip
                  rw [if_pos has] at hres
                  have hd : decide ((a : Int) < (s.size : Int)) = true := by simp; omega
                  have hd2 : decide (a < s.size) = true := by simpa using has
                  have HRES0 := Lib.hid hres
                  clear hres hfo hwf has
                  go_wp2_with fail
                  refine (rfail_any _ s a (0, 0) 16 a _ HRWE.out.d).mono ?_
                  rintro e w7 ⟨rfl, hst⟩
                  obtain ⟨g6, hg6⟩ : ∃ g6 : Int × Int, g6 = fst0 (0, 0) (16, (a : Int)) := ⟨_, rfl⟩
                  have HRW7 := Lib.hid (HRWE.out.step hst)
                  rw [← hg6] at HRW7
                  have hg7 : g6.1 ≠ 0 := by rw [hg6]; simp [fst0]
                  have hr7 : codeD s = .inl g6 := by rw [HRES0.out, hg6]; simp [fst0]
                  have HG6 := Lib.hid hg7
                  have HRES := Lib.hid hr7
                  clear hst hg6 hg7 hr7 HRES0 HRWE HOWNE c1 c2 hpw hd hd2
                  have c2 : w7.cell? ⟨w.heap.size + 1 + 1 + 1, 2, none⟩ = some (.int .i64 g6.1) := blk_cell HRW7.out.d 2
                  have c3 : w7.cell? ⟨w.heap.size + 1 + 1 + 1, 3, none⟩ = some (.int .i64 g6.2) := blk_cell HRW7.out.d 3
                  have hpw : w.heap.size + 1 + 1 + 1 < w7.heap.size := lt_of_block HRW7.out.d
                  have z0 := blk_free HRW7.out.r 0
                  have z1 := blk_free HRW7.out.r 1
                  have u0 := blk_free HRW7.out.q 0
                  have u1 := blk_free HRW7.out.q 1
                  have x0 : w7.cell? ⟨w.heap.size, 0, none⟩ = some (.slice none 0 0) := blk_cell HRW7.out.r 0
                  have x1 : w7.cell? ⟨w.heap.size, 1, none⟩ = some (.slice none 0 0) := blk_cell HRW7.out.r 1
                  have y0 : w7.cell? ⟨w.heap.size + 1, 0, none⟩ = some (.int .i64 0) := blk_cell HRW7.out.q 0
                  have y1 : w7.cell? ⟨w.heap.size + 1, 1, none⟩ = some (.int .i64 0) := blk_cell HRW7.out.q 1
                  have gb : (g6.1 != 0) = true := by simpa using HG6.out
                  have gb2 : (g6.1 == 0) = false := by simpa using HG6.out
                  have hfin : decC s = ([], []) ∧ decF s = g6 := by unfold decC decF; rw [HRES.out]; exact ⟨rfl, rfl⟩
                  have HFIN := Lib.hid hfin
                  have hS : S42 (w.heap.size + 1 + 1 + 1) g6 w7 := ⟨c2, c3⟩
                  clear hfin
                  go_wp2_with fail
                  have nn : w.heap.size < w.heap.size + 1 + 1 + 1 := by omega
                  have n1 : ¬ (w.heap.size = w.heap.size + 1 + 1 + 1) := by omega
                  have n2 : ¬ (w.heap.size + 1 = w.heap.size + 1 + 1 + 1) := by omega
                  have n3 : ¬ (w.heap.size + 1 = w.heap.size) := by omega
                  have n4 : ¬ (w.heap.size = w.heap.size + 1) := by omega
                  go_region
                  all_goals go_wp2_with fail
                  all_goals
                    refine bodyPost_ret (v := .tuple #[noCd.val, .agg #[.int .i64 g6.1, .int .i64 g6.2]]) (by simp [results, Tryd.results14, go_sem, z0, z1, u0, u1, x0, x1, y0, y1, n3, n4]; rfl) rfl ?_
                    refine ⟨noCd, by rw [HFIN.out.1]; rfl, by rw [HFIN.out.2], noCd_own _ _, ?_⟩
                    repeat (first | exact HRW7.out.b | apply Below.drew | refine Below.setCell ?_ (by simp) _)
                · skip
                  rw [if_neg has] at hres
                  have hd : decide ((a : Int) < (s.size : Int)) = false := by simp; omega
                  have hd2 : decide (a < s.size) = false := by simpa using has
                  obtain ⟨c, hc⟩ : ∃ c : Cd, c = ⟨ao, cap, ao2, cap2, ts, fs⟩ := ⟨_, rfl⟩
                  have hco : CodeOwn we w.heap.size c := by rw [hc]; exact ⟨HOWNE.out, hfo.1, hfo.2, hwf⟩
                  have hfin : decC s = c.ct ∧ decF s = (0, 0) := by unfold decC decF; rw [hres, hc]; exact ⟨rfl, rfl⟩
                  have hval : c.val = .agg #[.slice ao ts.length cap, .slice ao2 fs.length cap2] := by rw [hc]; rfl
                  have HVAL := Lib.hid hval
                  have HFIN := Lib.hid hfin
                  have HCO := Lib.hid hco
                  have HRW7 := HRWE
                  have z0 := blk_free HRW7.out.r 0
                  have z1 := blk_free HRW7.out.r 1
                  have u0 := blk_free HRW7.out.q 0
                  have u1 := blk_free HRW7.out.q 1
                  have x0 : we.cell? ⟨w.heap.size, 0, none⟩ = some (.slice none 0 0) := blk_cell HRW7.out.r 0
                  have x1 : we.cell? ⟨w.heap.size, 1, none⟩ = some (.slice none 0 0) := blk_cell HRW7.out.r 1
                  have y0 : we.cell? ⟨w.heap.size + 1, 0, none⟩ = some (.int .i64 0) := blk_cell HRW7.out.q 0
                  have y1 : we.cell? ⟨w.heap.size + 1, 1, none⟩ = some (.int .i64 0) := blk_cell HRW7.out.q 1
                  have v0 : we.cell? ⟨w.heap.size + 1 + 1, 0, none⟩ = some (.slice ao ts.length cap) := blk_cell HRW7.out.c 0
                  have v1 : we.cell? ⟨w.heap.size + 1 + 1, 1, none⟩ = some (.slice ao2 fs.length cap2) := blk_cell HRW7.out.c 1
                  clear hfin hco hres hfo hwf has hc hval HRWE HOWNE
                  go_wp2_with fail
                  refine bodyPost_ret (v := .tuple #[.agg #[.slice ao ts.length cap, .slice ao2 fs.length cap2], .agg #[.int .i64 0, .int .i64 0]]) (by simp [results, Tryd.results14, go_sem, z0, z1, u0, u1, x0, x1, y0, y1, v0, v1]) rfl ?_
                  refine ⟨c, by rw [HFIN.out.1], by rw [HFIN.out.2, HVAL.out], ?_, ?_⟩
                  · have e1 := fun {e sz n : Nat} {v : Value} {xs : List Value} (h : we.ownsRow w.heap.size e sz v n xs) (h1 : e ≠ 25) (h2 : e ≠ 34) (a b c d : Value) => own_set (own_set (own_set (own_set h HRW7.out.r (fun e => h1 e.symm) 0 a) (blk_set HRW7.out.r _ _) (fun e => h1 e.symm) 1 b) (blk_set_ne (blk_set_ne HRW7.out.q (by omega) _ _) (by omega) _ _) (fun e => h2 e.symm) 0 c) (blk_set (blk_set_ne (blk_set_ne HRW7.out.q (by omega) _ _) (by omega) _ _) _ _) (fun e => h2 e.symm) 1 d
                    exact ⟨e1 HCO.out.1 (by decide) (by decide) _ _ _ _, e1 HCO.out.2.1 (by decide) (by decide) _ _ _ _, fun f hf => e1 (HCO.out.2.2.1 f hf) (by decide) (by decide) _ _ _ _, HCO.out.2.2.2⟩
                  · exact (((HRW7.out.b.setCell (p := ⟨w.heap.size, 0, none⟩) (Nat.le_refl _) _).setCell (p := ⟨w.heap.size, 1, none⟩) (Nat.le_refl _) _).setCell (p := ⟨w.heap.size + 1, 0, none⟩) (by simp) _).setCell (p := ⟨w.heap.size + 1, 1, none⟩) (by simp) _
              · skip
                obtain ⟨w7, hw7⟩ : ∃ w7 : World, w7 = we := ⟨_, rfl⟩
                subst hw7
                obtain ⟨g6, hg6⟩ : ∃ g6 : Int × Int, g6 = g := ⟨_, rfl⟩
                subst hg6
                have HRW7 := HRWE
                have HG6 := Lib.hid hg
                have HRES := Lib.hid hres
                clear hg hres HRWE HOWNE c1 c2 hpw
                have c2 : w7.cell? ⟨w.heap.size + 1 + 1 + 1, 2, none⟩ = some (.int .i64 g6.1) := blk_cell HRW7.out.d 2
                have c3 : w7.cell? ⟨w.heap.size + 1 + 1 + 1, 3, none⟩ = some (.int .i64 g6.2) := blk_cell HRW7.out.d 3
                have hpw : w.heap.size + 1 + 1 + 1 < w7.heap.size := lt_of_block HRW7.out.d
                have z0 := blk_free HRW7.out.r 0
                have z1 := blk_free HRW7.out.r 1
                have u0 := blk_free HRW7.out.q 0
                have u1 := blk_free HRW7.out.q 1
                have x0 : w7.cell? ⟨w.heap.size, 0, none⟩ = some (.slice none 0 0) := blk_cell HRW7.out.r 0
                have x1 : w7.cell? ⟨w.heap.size, 1, none⟩ = some (.slice none 0 0) := blk_cell HRW7.out.r 1
                have y0 : w7.cell? ⟨w.heap.size + 1, 0, none⟩ = some (.int .i64 0) := blk_cell HRW7.out.q 0
                have y1 : w7.cell? ⟨w.heap.size + 1, 1, none⟩ = some (.int .i64 0) := blk_cell HRW7.out.q 1
                have gb : (g6.1 != 0) = true := by simpa using HG6.out
                have gb2 : (g6.1 == 0) = false := by simpa using HG6.out
                have hfin : decC s = ([], []) ∧ decF s = g6 := by unfold decC decF; rw [HRES.out]; exact ⟨rfl, rfl⟩
                have HFIN := Lib.hid hfin
                have hS : S42 (w.heap.size + 1 + 1 + 1) g6 w7 := ⟨c2, c3⟩
                clear hfin
                go_wp2_with fail
                have nn : w.heap.size < w.heap.size + 1 + 1 + 1 := by omega
                have n1 : ¬ (w.heap.size = w.heap.size + 1 + 1 + 1) := by omega
                have n2 : ¬ (w.heap.size + 1 = w.heap.size + 1 + 1 + 1) := by omega
                have n3 : ¬ (w.heap.size + 1 = w.heap.size) := by omega
                have n4 : ¬ (w.heap.size = w.heap.size + 1) := by omega
                go_region
                all_goals go_wp2_with fail
                all_goals
                  refine bodyPost_ret (v := .tuple #[noCd.val, .agg #[.int .i64 g6.1, .int .i64 g6.2]]) (by simp [results, Tryd.results14, go_sem, z0, z1, u0, u1, x0, x1, y0, y1, n3, n4]; rfl) rfl ?_
                  refine ⟨noCd, by rw [HFIN.out.1]; rfl, by rw [HFIN.out.2], noCd_own _ _, ?_⟩
                  repeat (first | exact HRW7.out.b | apply Below.drew | refine Below.setCell ?_ (by simp) _)

end Go.Proofs.YtebappmamaafaaaDoor
