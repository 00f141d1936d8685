/-
  Proved: the contract of the reference's Useful. Condition: what fits a machine.
-/
import Derived.Test.YtcieoelogocjkaaS1
set_option linter.unusedSimpArgs false
set_option linter.unusedVariables false
namespace Go.Proofs.Ytcieoelogocjkaa
open Go.RowKit

def ChkAt (n : Nat) (rx : List (List Pt)) (k left : Nat) : Prop := chk n rx 0 150 = chk n (rx.drop k) k left ∧ left ≤ 150
set_option maxRecDepth 100000 in
set_option maxHeartbeats 8000000 in
theorem rUseful_any (rows : List (List Pt)) (q : List Pt) (ao aq : Option Addr) (cap cq : Nat) (w : World) (hmat : MatV w w.heap.size rows ao cap) (hsl : SlV w w.heap.size q aq cq) (hF : FitsR rows) (hFq : FitsL q) (hR : rows.length ≤ 5864062014634) (hL : LenOk rows) (hq : q.length ≤ 2000000000000) :
    Calls Try.prog 12 #[.slice ao rows.length cap, .slice aq q.length cq] w fun e w' => e = .returned (.tuple #[.bool (answer rows q).1, .agg #[.int .i64 (answer rows q).2.1, .int .i64 (answer rows q).2.2]]) ∧ Below w.heap.size w w' := by
  obtain ⟨n, hn⟩ : ∃ n, n = q.length := ⟨_, rfl⟩
  obtain ⟨len, hlen⟩ : ∃ len, len = rows.length := ⟨_, rfl⟩
  obtain ⟨rx, hrx⟩ : ∃ rx, rx = rows ++ [q] := ⟨_, rfl⟩
  have hrxl : rx.length = len + 1 := by rw [hrx, hlen]; simp
  have hFx : FitsR rx := by
    rw [hrx]
    intro r hr
    rcases List.mem_append.1 hr with hr | hr
    · exact hF r hr
    · simp only [List.mem_singleton] at hr; subst hr; exact hFq
  have hLx : LenOk rx := by
    rw [hrx]
    intro r hr
    rcases List.mem_append.1 hr with hr | hr
    · exact hL r hr
    · simp only [List.mem_singleton] at hr; subst hr; exact hq
  rw [← hn, ← hlen]
  rw [← hlen] at hR
  rw [← hn] at hq
  obtain ⟨ans, hans⟩ : ∃ ans, ans = answer rows q := ⟨_, rfl⟩
  rw [← hans]
  obtain ⟨W, hW⟩ : ∃ W, W = w.alloc (.cells #[.int .i64 0, .int .i64 0] 31) := ⟨_, rfl⟩
  have hB : Below w.heap.size w W := by rw [hW]; exact balloc (Below.refl _ _) _
  have hflt : W.heap[w.heap.size]? = some (.cells #[.int .i64 0, .int .i64 0] 31 (0, 0)) := by rw [hW]; exact heap_alloc_new w _
  have lW : w.heap.size < W.heap.size := lt_of_block hflt
  have HB := Lib.hid hB
  have HFLT := Lib.hid hflt
  have HW := Lib.hid hW
  have HMAT := Lib.hid hmat
  have HSL := Lib.hid hsl
  have HF := Lib.hid hF
  have HFQ := Lib.hid hFq
  have HFX := Lib.hid hFx
  have HLX := Lib.hid hLx
  have HN := Lib.hid hn
  have HLEN := Lib.hid hlen
  have HRX := Lib.hid hrx
  have HRXL := Lib.hid hrxl
  have HANS := Lib.hid hans
  clear hB hflt hW hmat hsl hF hFq hFx hLx hn hlen hrx hrxl hans hL
  go_enter Try.func12, Try.ntmps12
  go_upto_region 1 with fail
  rw [show w.alloc (.cells #[.int .i64 0, .int .i64 0] 31) = W from HW.out.symm]
  go_wp2_with fail
  go_loopw [6, 7] (fun v i wr => ∃ k left : Nat, k ≤ len + 1 ∧ i = .int .i64 k ∧ v = .int .i64 left ∧ ChkAt n rx k left ∧ Below W.heap.size W wr) (fun _ i _ => len + 1 - (intOf i).toNat)
  case atStart => exact ⟨0, 150, Nat.zero_le _, rfl, rfl, ⟨rfl, Nat.le_refl _⟩, Below.refl _ _⟩
  case round =>
    obtain ⟨k, left, hk, rfl, rfl, hck, hbo⟩ := hrel
    obtain ⟨wo, hwo⟩ : ∃ wo : World, wo = wr := ⟨_, rfl⟩
    subst hwo
    have HCHK := Lib.hid hck
    have HBO := Lib.hid hbo
    have hso := hbo.size
    have hB0 : Below w.heap.size w wo := HB.out.trans (hbo.mono (Nat.le_of_lt lW))
    have HB0 := Lib.hid hB0
    have hle : left ≤ 150 := hck.2
    clear hck hbo hB0
    by_cases hlt : k ≤ len
    · have hd : decide ((k : Int) ≤ (len : Int)) = true := by simp; omega
      have hkr : k < rx.length := by rw [HRXL.out]; omega
      obtain ⟨r, hr⟩ : ∃ r, r = rx[k] := ⟨_, rfl⟩
      have hFr : FitsL r := by rw [hr]; exact fitsR_get HFX.out hkr
      have hmb : r.length ≤ 2000000000000 := HLX.out r (by rw [hr]; exact List.getElem_mem hkr)
      have hck := chk_take (n := n) hkr left
      rw [← hr, ← HCHK.out.1] at hck
      obtain ⟨m, hm⟩ : ∃ m, m = r.length := ⟨_, rfl⟩
      obtain ⟨ar, cr, hsr, hc1, hc2⟩ : ∃ ar cr, SlD wo (fun b => b < w.heap.size) r ar cr ∧ (k < len → ∃ b off, ao = some ⟨b, off, none⟩ ∧ wo.cell? ⟨b, off + k, none⟩ = some (.slice ar m cr)) ∧ (¬ k < len → ar = aq ∧ cr = cq ∧ m = n) := by
        by_cases hkl : k < len
        · have hkR : k < rows.length := by rw [← HLEN.out]; exact hkl
          obtain ⟨b, off, a, c, ha, hb, hcell, hsl⟩ := (MatV.keep HMAT.out HB0.out).get hkR
          have hrr : r = rows[k] := by simp only [hr, HRX.out]; rw [List.getElem_append_left hkR]
          rw [← hrr] at hcell hsl
          exact ⟨a, c, hsl, fun _ => ⟨b, off, ha, by rw [hm]; rwa [Nat.mul_one] at hcell⟩, fun h => absurd hkl h⟩
        · have hrr : r = q := by
            have hke : k = rows.length := by rw [← HLEN.out]; omega
            simp only [hr, HRX.out, hke]
            rw [List.getElem_append_right (Nat.le_refl _)]
            simp
          exact ⟨aq, cq, by rw [hrr]; exact SlV.keep HSL.out HB0.out, fun h => absurd h hkl, fun _ => ⟨rfl, rfl, by rw [hm, hrr, HN.out]⟩⟩
      obtain ⟨l0, hl0⟩ : ∃ l0 : Int, l0 = if r.length = n then (left : Int) else -1 := ⟨_, rfl⟩
      have hstep := ref_step (n := n) r left
      rw [← hl0] at hstep
      rw [← hm] at hmb
      have hl0b : -1 ≤ l0 ∧ l0 ≤ 150 := by
        rw [hl0]
        split
        · omega
        · omega
      have HFR := Lib.hid hFr
      have HCK := Lib.hid hck
      have HSR := Lib.hid hsr
      have HC1 := Lib.hid hc1
      have HC2 := Lib.hid hc2
      have HM := Lib.hid hm
      have HL0 := Lib.hid hl0
      have HSTEP := Lib.hid hstep
      clear hr hFr hck hsr hc1 hc2 hm hl0 hstep hkr
      go_upto_if 20 with fail
      generalize hkb : decide (k < len) = kb
      have HKB := Lib.hid hkb
      clear hkb
      go_cut [8] from 21 to 24 (fun v wx => v = .slice ar m cr ∧ wx = wo)
      case first =>
        by_cases hkl : k < len
        · have hdk : kb = true := by rw [← HKB.out]; simp [hkl]
          subst hdk
          obtain ⟨b, off, ha, hcell⟩ := HC1.out hkl
          have hix : ∀ w' : World, (Instr.indexAt 22 (.slice ao len cap) (.int .i64 k)).run Try.prog w' = .ok (.pointer (some ⟨b, off + k, none⟩)) w' := by intro w'; have h := index_at Try.underlying22 size23 ha len cap k hkl w'; rwa [Nat.mul_one] at h
          clear ha
          go_wp2_with fail
          go_meet
          exact ⟨rfl, rfl⟩
        · have hdk : kb = false := by rw [← HKB.out]; simp [hkl]
          subst hdk
          obtain ⟨h1, h2, h3⟩ := HC2.out hkl
          have H1 := Lib.hid h1
          have H2 := Lib.hid h2
          have H3 := Lib.hid h3
          clear h1 h2 h3
          go_wp2_with fail
          go_meet
          exact ⟨by rw [H1.out, H2.out, H3.out], rfl⟩
      case rest =>
      obtain ⟨rfl, hwc⟩ := hcut
      obtain ⟨w1, hw1⟩ : ∃ w1 : World, w1 = wc := ⟨_, rfl⟩
      subst hw1
      subst hwc
      go_upto_if 29 with fail
      generalize hmb : ((m : Int) != (n : Int)) = mb
      have HMB := Lib.hid hmb
      clear hmb
      go_cut [6] from 30 to 29 (fun v wx => v = .int .i64 l0 ∧ wx = w1)
      case first =>
        by_cases hmn : r.length = n
        · have hdk : mb = false := by rw [← HMB.out, HM.out, hmn]; simp
          have H0 : Hid (l0 = left) := Lib.hid (by rw [HL0.out, if_pos hmn])
          subst hdk
          clear hmn
          go_wp2_with fail
          go_meet
          exact ⟨by rw [H0.out], rfl⟩
        · have hdk : mb = true := by rw [← HMB.out, HM.out]; simp; omega
          have H0 : Hid (l0 = -1) := Lib.hid (by rw [HL0.out, if_neg hmn])
          subst hdk
          clear hmn
          go_wp2_with fail
          go_meet
          exact ⟨by rw [H0.out], rfl⟩
      case rest =>
      obtain ⟨rfl, hwc⟩ := hcut
      obtain ⟨w2, hw2⟩ : ∃ w2 : World, w2 = wc := ⟨_, rfl⟩
      subst hw2
      subst hwc
      go_wp2_with fail
      go_loopw [6, 9] (fun v i wi => ∃ (j : Nat) (l' : Int), j ≤ m ∧ v = .int .i64 l' ∧ i = .int .i64 j ∧ refL r l0 = refL (r.drop j) l' ∧ -1 ≤ l' ∧ l' ≤ 150 ∧ Below w2.heap.size w2 wi) (fun _ i _ => m - (intOf i).toNat)
      case atStart => exact ⟨0, l0, Nat.zero_le _, rfl, rfl, rfl, hl0b.1, hl0b.2, Below.refl _ _⟩
      case round =>
        obtain ⟨j, l', hj, rfl, rfl, hpe, hl1, hl2, hbi⟩ := hrel
        have HPE := Lib.hid hpe
        have HBI := Lib.hid hbi
        have hsi := hbi.size
        clear hpe hbi
        have hsb := HB0.out.size
        have fin : refL r l0 = l' → l' < 0 → ans = (false, 21, (k : Int)) := by
          intro h1 h2
          have hck := HCK.out
          have hst := HSTEP.out
          rw [if_neg (by
            intro ht
            have := hst.1 ht
            omega)] at hck
          rw [HANS.out]
          unfold answer
          rw [← HN.out, ← HRX.out, hck]
        have FIN := Lib.hid fin
        clear fin
        by_cases hl0' : 0 ≤ l'
        · have hd2 : decide ((0 : Int) ≤ l') = true := by simp; omega
          by_cases hjl : j < m
          · have hdj : decide ((j : Int) < (m : Int)) = true := by simp; omega
            have hjk : j < r.length := by rw [← HM.out]; exact hjl
            obtain ⟨x, hx⟩ : ∃ x, x = r[j] := ⟨_, rfl⟩
            have hdrop : r.drop j = x :: r.drop (j + 1) := by rw [hx]; exact List.drop_eq_getElem_cons hjk
            have hpe := HPE.out
            rw [hdrop, refL, if_pos hl0'] at hpe
            obtain ⟨g, off, row, ha, hDg, hrow, hpv⟩ := (HSR.out.keep fun d hd' off => below_cells HBI.out d (by omega) off).2.get (k := j) hjk
            obtain ⟨aq', cq', rfl, hkq⟩ := hpv.row
            rw [← hx] at hrow hkq
            have hix : ∀ w' : World, (Instr.indexAt 23 (.slice ar m cr) (.int .i64 j)).run Try.prog w' = .ok (.pointer (some ⟨g, off + j * 6, none⟩)) w' := fun w' => index_at Try.underlying23 size26 ha m cr j hjl w'
            rw [Nat.zero_add] at hrow
            obtain ⟨p0, hp0⟩ : ∃ p0, p0 = off + j * 6 := ⟨_, rfl⟩
            rw [← hp0] at hix hrow
            have x0 : wr.cell? ⟨g, p0, none⟩ = some (.int .i64 x.k) := hrow 0 (by omega)
            have x1 : wr.cell? ⟨g, p0 + 1, none⟩ = some (.int .i64 x.n) := hrow 1 (by omega)
            have x2 : wr.cell? ⟨g, p0 + 2, none⟩ = some (.int .i64 x.o) := hrow 2 (by omega)
            have x3 : wr.cell? ⟨g, p0 + 3, none⟩ = some (.int .i64 x.a) := hrow 3 (by omega)
            have x4 : wr.cell? ⟨g, p0 + 4, none⟩ = some (.string x.s) := hrow 4 (by omega)
            have x5 : wr.cell? ⟨g, p0 + 5, none⟩ = some (.slice aq' x.kids.length cq') := hrow 5 (by omega)
            have hfx : Fits x := fitsL_get HFR.out (by rw [hx]; exact List.getElem_mem hjk)
            have hle2 := refP_le x l' hl0'
            have HPE2 := Lib.hid hpe
            have HKQ := Lib.hid hkq
            have HFIX := Lib.hid hfx
            have HL0' := Lib.hid hl0'
            clear ha hrow hpv hkq hx hp0 hdrop hpe hDg hjk hfx hl0'
            go_wp2_with fail
            refine (rproper_any (parts x) x (Nat.le_refl _) (fun b => b < w.heap.size) aq' cq' l' wr (fun d hd' => by omega) HKQ.out HL0'.out hl2 HFIX.out).mono ?_
            rintro e w3 ⟨rfl, hb3⟩
            obtain ⟨l2, hl2'⟩ : ∃ l2, l2 = refP x l' := ⟨_, rfl⟩
            rw [← hl2'] at hle2 ⊢
            have hpe3 := HPE2.out
            rw [← hl2'] at hpe3
            have HPE3 := Lib.hid hpe3
            have HB3 := Lib.hid (HBI.out.trans (hb3.mono hsi))
            clear hb3 hl2' hpe3 x0 x1 x2 x3 x4 x5 hix
            go_wp2_with fail
            go_roundw
            case rel => exact ⟨j + 1, l2, hjl, rfl, by go_num, HPE3.out, hle2.2, by omega, HB3.out⟩
            case measure => simp [intOf]; omega
          · have hdj : decide ((j : Int) < (m : Int)) = false := by simp; omega
            have hjc : j = r.length := by rw [← HM.out]; omega
            have hfin := HPE.out
            rw [hjc, List.drop_length, refL] at hfin
            have hst := HSTEP.out
            obtain ⟨hb1, hb2⟩ : (propL r (decide (r.length = n)) left).1 = true ∧ ((propL r (decide (r.length = n)) left).2 : Int) = l' := by
              cases hp : (propL r (decide (r.length = n)) left).1 with
              | true => exact ⟨rfl, by have := hst.1 hp; omega⟩
              | false => have := hst.2 hp; omega
            have hck := HCK.out
            rw [if_pos hb1] at hck
            have hple := propL_le r (decide (r.length = n)) left
            obtain ⟨ln, hln⟩ : ∃ ln, ln = (propL r (decide (r.length = n)) left).2 := ⟨_, rfl⟩
            rw [← hln] at hck hb2 hple
            have HB2 := Lib.hid hb2
            have HCK2 := Lib.hid hck
            have hd3 : decide (l' < 0) = false := by simp; omega
            have hln9 : ln ≤ 150 := by omega
            clear hjc hfin hst hb1 hck hln hb2
            go_wp2_with fail
            go_roundw
            case rel => exact ⟨k + 1, ln, by omega, by go_num, by rw [HB2.out], ⟨HCK2.out, hln9⟩, HBO.out.trans (HBI.out.mono hso)⟩
            case measure => simp [intOf]; omega
        · have hd2 : decide ((0 : Int) ≤ l') = false := by simp; omega
          have hfin := HPE.out
          rw [refL_neg _ l' (by omega)] at hfin
          have hans := FIN.out hfin (by omega)
          have hfl : wr.heap[w.heap.size]? = some (.cells #[.int .i64 0, .int .i64 0] 31 (0, 0)) := blk_below (blk_below HFLT.out HBO.out lW) HBI.out (by omega)
          have c0 : wr.cell? ⟨w.heap.size, 0, none⟩ = some (.int .i64 0) := blk_cell hfl 0
          have c1 : wr.cell? ⟨w.heap.size, 1, none⟩ = some (.int .i64 0) := blk_cell hfl 1
          have f0 := blk_free hfl 0
          have f1 := blk_free hfl 1
          have lf := lt_of_block hfl
          have hd3 : decide (l' < 0) = true := by simp; omega
          have HANS2 := Lib.hid hans
          have HFL := Lib.hid hfl
          have HBF := Lib.hid (HB0.out.trans (HBI.out.mono hsb))
          clear hfin hans hfl
          by_cases hjl : j < m
          all_goals
            go_wp2_with fail
            have hblk : ((wr.setCell ⟨w.heap.size, 0, none⟩ (.int .i64 21)).setCell ⟨w.heap.size, 1, none⟩ (.int .i64 k)).heap[w.heap.size]? = some (.cells #[.int .i64 21, .int .i64 k] 31 (0, 0)) := blk_set (blk_set HFL.out 0 _) 1 _
            refine bodyPost_ret (res_two Try.results12 rfl rfl hblk) rfl ?_
            rw [HANS2.out]
            exact ⟨rfl, (HBF.out.setCell (p := ⟨w.heap.size, 0, none⟩) (Nat.le_refl _) _).setCell (p := ⟨w.heap.size, 1, none⟩) (Nat.le_refl _) _⟩
    · have hd : decide ((k : Int) ≤ (len : Int)) = false := by simp; omega
      have hke : k = rx.length := by rw [HRXL.out]; omega
      have hck := HCHK.out.1
      rw [hke, List.drop_length, chk, HRX.out, HN.out] at hck
      obtain ⟨hE, hP, hM, hR6⟩ := chk_small hck
      have hans : ans = (usefulD (meas rows q + 1) rows q, 0, 0) := by
        rw [HANS.out]
        unfold answer
        rw [hck]
      have hsb := HB0.out.size
      have HE := Lib.hid hE
      have HP := Lib.hid hP
      have HM := Lib.hid hM
      have HR6 := Lib.hid hR6
      have HANS2 := Lib.hid hans
      have HMATF := Lib.hid (HMAT.out.on HB0.out)
      have HSLF := Lib.hid (SlV.on HSL.out HB0.out)
      clear hke hck hE hP hM hR6 hans
      go_wp2_with fail
      rw [HLEN.out, HN.out]
      refine (ruseful_any (meas rows q + 1) rows q (Nat.lt_succ_self _) ao aq cap cq wo HE.out HP.out HF.out HFQ.out HR6.out HM.out HMATF.out HSLF.out).mono ?_
      rintro e w8 ⟨rfl, hb8⟩
      have hfl8 : w8.heap[w.heap.size]? = some (.cells #[.int .i64 0, .int .i64 0] 31 (0, 0)) := blk_below (blk_below HFLT.out HBO.out lW) hb8 (by omega)
      have c0 : w8.cell? ⟨w.heap.size, 0, none⟩ = some (.int .i64 0) := blk_cell hfl8 0
      have c1 : w8.cell? ⟨w.heap.size, 1, none⟩ = some (.int .i64 0) := blk_cell hfl8 1
      have f0 := blk_free hfl8 0
      have f1 := blk_free hfl8 1
      have lf := lt_of_block hfl8
      have HFL8 := Lib.hid hfl8
      have HB8 := Lib.hid (HB0.out.trans (hb8.mono hsb))
      obtain ⟨bo, hbo⟩ : ∃ bo, bo = usefulD (meas rows q + 1) rows q := ⟨_, rfl⟩
      rw [← hbo]
      have hans := HANS2.out
      rw [← hbo] at hans
      have HANS3 := Lib.hid hans
      clear hb8 hfl8 hbo hans
      go_wp2_with fail
      have hblk : ((w8.setCell ⟨w.heap.size, 0, none⟩ (.int .i64 0)).setCell ⟨w.heap.size, 1, none⟩ (.int .i64 0)).heap[w.heap.size]? = some (.cells #[.int .i64 0, .int .i64 0] 31 (0, 0)) := blk_set (blk_set HFL8.out 0 _) 1 _
      refine bodyPost_ret (res_two Try.results12 rfl rfl hblk) rfl ?_
      rw [HANS3.out]
      exact ⟨rfl, (HB8.out.setCell (p := ⟨w.heap.size, 0, none⟩) (Nat.le_refl _) _).setCell (p := ⟨w.heap.size, 1, none⟩) (Nat.le_refl _) _⟩
end Go.Proofs.Ytcieoelogocjkaa
