/-
  Proved: the contract of the law's fitted: what it makes of whatever pattern is typed. Condition: what fits a machine.
-/
import Derived.Test.YtcieoelogocjkaaZ5
import Derived.Deep.QuietTactic
import Derived.BigQuiet
set_option linter.unusedSimpArgs false
set_option linter.unusedVariables false
namespace Go.Proofs.Ytcieoelogocjkaa
open Go.RowKit Srt

theorem FitPost.mono {s : Srt} {value : Bool} {B B' : Nat} {w w' : World} {e : Ending} (h : FitPost s value B w e w') (hB : B ≤ B') : FitPost s value B' w e w' := by
  obtain ⟨t, a, c, h1, h2, h3, h4⟩ := h
  exact ⟨t, a, c, h1, h2, ⟨h3.ty, h3.noa, h3.val, h3.fits, Nat.le_trans h3.size hB⟩, h4⟩
theorem two_le_bd (p : Pt) (s : Srt) : 2 ≤ bd p s := by
  unfold bd
  have h1 := sm_le s
  by_cases hk : p.kids = []
  · rw [if_pos hk]; exact h1.1
  · rw [if_neg hk]
    have hl : 0 < p.kids.length := List.length_pos_iff.2 hk
    have h2 := kids_parts p
    have : 2 ≤ parts p := by
      have := parts_in (kidD_mem hl)
      have := parts_pos (kidD p 0)
      omega
    omega
/-- the world behind a new pattern of one kid -/
theorem lone_fin {s : Srt} {value : Bool} {B lo : Nat} {w w6 wF : World} {t x : Pt} {ax : Option Addr} {cx : Nat} (hz : PB w6 (w.heap.size + 1) anyP none 0) (ht : t.kids = [x]) (hset : wF = (set6 w6 (w.heap.size + 1) t (some ⟨w6.heap.size, 0, none⟩) 1).alloc (.cells (rowOf x ax cx) 26))
    (hk : SlD w6 (NewD lo w6) x.kids ax cx) (hlo : w.heap.size + 1 < lo) (hlo6 : lo ≤ w6.heap.size) (hB : Below w.heap.size w w6) (hg : Good s value B t) :
    PB wF (w.heap.size + 1) t (some ⟨w6.heap.size, 0, none⟩) 1 ∧ FitPost s value B w (.returned (.agg (rowOf t (some ⟨w6.heap.size, 0, none⟩) 1))) wF := by
  have hblk : PB wF (w.heap.size + 1) t (some ⟨w6.heap.size, 0, none⟩) 1 := by
    rw [hset]
    have h : PB (set6 w6 (w.heap.size + 1) t (some ⟨w6.heap.size, 0, none⟩) 1) (w.heap.size + 1) t (some ⟨w6.heap.size, 0, none⟩) 1 := PB.set hz
    exact blk_alloc h _
  have hnew : wF.heap[w6.heap.size]? = some (.cells (rowOf x ax cx) 26 (0, 0)) := by
    rw [hset]
    have h := heap_alloc_new (set6 w6 (w.heap.size + 1) t (some ⟨w6.heap.size, 0, none⟩) 1) (.cells (rowOf x ax cx) 26)
    rwa [size_set6] at h
  have hsF : w6.heap.size < wF.heap.size := lt_of_block hnew
  have hbF : Below w.heap.size w6 wF := by
    rw [hset]
    exact (below_set6 (q := t) (aq := some ⟨w6.heap.size, 0, none⟩) (cq := 1) (Below.refl w.heap.size w6) (by omega)).alloc (by rw [size_set6]; omega) _
  have hcellF : ∀ b, NewD lo w6 b → ∀ off, wF.cell? ⟨b, off, none⟩ = w6.cell? ⟨b, off, none⟩ := by
    intro b hb off
    rw [hset, ← cell_set6 (w := w6) (q := t) (aq := some ⟨w6.heap.size, 0, none⟩) (cq := 1) (show b ≠ w.heap.size + 1 by have h1 : lo ≤ b := hb.1; omega) off]
    exact below_cells ((Below.refl _ _).alloc (Nat.le_refl _) _) b (by rw [size_set6]; exact hb.2) off
  refine ⟨hblk, t, _, _, rfl, ?_, hg, hB.trans hbF⟩
  rw [ht]
  refine sl_lone hnew ⟨by omega, hsF⟩ ((hk.keep hcellF).mono fun b hb => ⟨by have h1 : lo ≤ b := hb.1; omega, by have h1 : b < w6.heap.size := hb.2; omega⟩)
theorem below_dN {N : Nat} {w w1 : World} (h : Below N w w1) (n : Nat) : Below N w (w1.drewN n) := ⟨h.os, h.tape, h.output, h.size, h.block⟩
theorem sI_three {s : Srt} (h : sI s = 3) : s = s3 := by revert h; cases s <;> simp [sI]
/-- a leaf constructor that gets its one kid -/
theorem con_new {wA wB : World} {b8 lo : Nat} {n o : Int} {x : Pt} {ax : Option Addr} {cx : Nat} (h8 : PB wA b8 (conP n o) none 0) (hx : SlD wA (NewD lo wA) x.kids ax cx) (hlo : b8 < lo) (hlo2 : lo ≤ wA.heap.size)
    (hwB : wB = (wA.setCell ⟨b8, 5, none⟩ (.slice (some ⟨wA.heap.size, 0, none⟩) 1 1)).alloc (.cells (rowOf x ax cx) 26)) :
    PB wB b8 (.mk 6 n o 0 ⟨#[]⟩ [x]) (some ⟨wA.heap.size, 0, none⟩) 1 ∧ SlD wB (NewD lo wB) [x] (some ⟨wA.heap.size, 0, none⟩) 1 ∧ Below b8 wA wB := by
  have hsz : (wA.setCell ⟨b8, 5, none⟩ (.slice (some ⟨wA.heap.size, 0, none⟩) 1 1)).heap.size = wA.heap.size := by simp [World.setCell]
  have hnew : wB.heap[wA.heap.size]? = some (.cells (rowOf x ax cx) 26 (0, 0)) := by
    rw [hwB]
    have h := heap_alloc_new (wA.setCell ⟨b8, 5, none⟩ (.slice (some ⟨wA.heap.size, 0, none⟩) 1 1)) (.cells (rowOf x ax cx) 26)
    rwa [hsz] at h
  have hsB := lt_of_block hnew
  have hcell : ∀ b, NewD lo wA b → ∀ off, wB.cell? ⟨b, off, none⟩ = wA.cell? ⟨b, off, none⟩ := by
    intro b hb off
    have h1 : lo ≤ b := hb.1
    have h2 : b < wA.heap.size := hb.2
    rw [hwB]
    unfold World.cell?
    rw [Below.heap_alloc _ _ _ (by rw [hsz]; exact h2), Below.heap_setCell _ _ _ _ (show b ≠ b8 by omega)]
  refine ⟨?_, ?_, ?_⟩
  · rw [hwB]; exact blk_alloc (blk_set h8 5 _) _
  · exact sl_lone hnew ⟨hlo2, hsB⟩ ((hx.keep hcell).mono fun b hb => ⟨hb.1, by have h2 : b < wA.heap.size := hb.2; omega⟩)
  · rw [hwB]
    exact ((Below.refl b8 wA).setCell (p := ⟨b8, 5, none⟩) (Nat.le_refl b8) _).alloc (by rw [hsz]; omega) _
/-- a kid's contract -/
theorem kid_fit {p : Pt} {value : Bool} {f : Nat} (hfp : Fits p) (i : Nat) (s' : Srt) (hs' : s' ≠ s6)
    (ih : ∀ (p' : Pt) (s' : Srt), s' ≠ s6 → Fits p' → 8 * parts p' + rk s' ≤ f → parts p' ≤ 1048576 → FitCB p' s' value (bd p' s'))
    (hvar : value = false → ∀ s', FitCB anyP s' false 1) (hsz : parts p ≤ 1048576)
    (hm : 8 * parts p ≤ f + 4) (hany : value = true → ¬ i < p.kids.length → 8 + rk s' ≤ f) : FitCB (kidD p i) s' value (kb p i s' value) := by
  unfold kb
  by_cases hi : i < p.kids.length
  · rw [if_pos hi]
    have hmem := kidD_mem hi
    have hp := parts_in hmem
    have hr : rk s' ≤ 3 := by cases s' <;> simp [rk]
    exact (ih _ s' hs' (fitsL_get hfp.kids hmem) (by omega) (by omega)).mono (bd_le _ _)
  · rw [if_neg hi, kidD_any hi]
    cases value with
    | true =>
      have := ih anyP s' hs' fits_any (by unfold anyP; rw [parts, partsL]; have := hany rfl hi; omega) (by unfold anyP; rw [parts, partsL]; omega)
      exact this
    | false => exact hvar rfl s'
set_option maxRecDepth 100000 in
set_option maxHeartbeats 8000000 in
theorem fitted_f (f : Nat) (value : Bool) (ih : ∀ (p' : Pt) (s' : Srt), s' ≠ s6 → Fits p' → 8 * parts p' + rk s' ≤ f → parts p' ≤ 1048576 → FitCB p' s' value (bd p' s'))
    (hvar : value = false → ∀ s', FitCB anyP s' false 1) (p : Pt) (s : Srt) (hs6 : s ≠ s6) (hfp : Fits p) (hm : 8 * parts p + rk s ≤ f + 1) (hsz : parts p ≤ 1048576) (hB : ∀ (B : Nat), True) : FitCB p s value (bd p s) := by
  intro ao cap w hv
  obtain ⟨W, hW⟩ : ∃ W, W = (w.alloc (.cells (rowOf p ao cap) 26)).alloc (.cells #[.int .i64 0, .int .i64 0, .int .i64 0, .int .i64 0, .string ⟨#[]⟩, .slice none 0 0] 26) := ⟨_, rfl⟩
  have e1 := heap_alloc_new w (.cells (rowOf p ao cap) 26)
  have e2 := heap_alloc_new (w.alloc (.cells (rowOf p ao cap) 26)) (.cells #[.int .i64 0, .int .i64 0, .int .i64 0, .int .i64 0, .string ⟨#[]⟩, .slice none 0 0] 26)
  rw [World.size_alloc] at e2
  have h1 : PB W w.heap.size p ao cap := by rw [hW]; exact blk_alloc e1 _
  have h2 : PB W (w.heap.size + 1) anyP none 0 := by rw [hW]; exact e2
  have h3 : Below w.heap.size w W := by rw [hW]; exact balloc (balloc (Below.refl _ _) _) _
  have l2 : w.heap.size + 1 < W.heap.size := lt_of_block h2
  have hvW : SlV W W.heap.size p.kids ao cap := SlV.on hv h3
  have c0 : W.cell? ⟨w.heap.size, 0, none⟩ = some (.int .i64 p.k) := blk_cell h1 0
  have c1 : W.cell? ⟨w.heap.size, 1, none⟩ = some (.int .i64 p.n) := blk_cell h1 1
  have c2 : W.cell? ⟨w.heap.size, 2, none⟩ = some (.int .i64 p.o) := blk_cell h1 2
  have c3 : W.cell? ⟨w.heap.size, 3, none⟩ = some (.int .i64 p.a) := blk_cell h1 3
  have c4 : W.cell? ⟨w.heap.size, 4, none⟩ = some (.string p.s) := blk_cell h1 4
  have c5 : W.cell? ⟨w.heap.size, 5, none⟩ = some (.slice ao p.kids.length cap) := blk_cell h1 5
  have z0 : W.cell? ⟨w.heap.size + 1, 0, none⟩ = some (.int .i64 0) := blk_cell h2 0
  have z1 : W.cell? ⟨w.heap.size + 1, 1, none⟩ = some (.int .i64 0) := blk_cell h2 1
  have z2 : W.cell? ⟨w.heap.size + 1, 2, none⟩ = some (.int .i64 0) := blk_cell h2 2
  have z3 : W.cell? ⟨w.heap.size + 1, 3, none⟩ = some (.int .i64 0) := blk_cell h2 3
  have z4 : W.cell? ⟨w.heap.size + 1, 4, none⟩ = some (.string ⟨#[]⟩) := blk_cell h2 4
  have z5 : W.cell? ⟨w.heap.size + 1, 5, none⟩ = some (.slice none 0 0) := blk_cell h2 5
  have f0 := blk_free h2 0
  have f1 := blk_free h2 1
  have f2 := blk_free h2 2
  have f3 := blk_free h2 3
  have f4 := blk_free h2 4
  have f5 := blk_free h2 5
  have hkid := fun (i : Nat) (s' : Srt) (hs' : s' ≠ s6) (hany : value = true → ¬ i < p.kids.length → 8 + rk s' ≤ f) => kid_fit hfp i s' hs' ih hvar hsz (by omega) hany
  have hkl : p.kids.length ≤ 1048576 := by have := kids_parts p; omega
  obtain ⟨i0, hi0⟩ : ∃ i0, i0 = sI s := ⟨_, rfl⟩
  obtain ⟨tA, htA⟩ : ∃ tA, tA = decide (value = false ∧ pickD p.k 4 = 0) := ⟨_, rfl⟩
  obtain ⟨tB, htB⟩ : ∃ tB, tB = decide (value = false ∧ pickD p.k 9 = 1) := ⟨_, rfl⟩
  obtain ⟨hI1, hI2, hI3, hI4, hI5⟩ := hfp.ints
  obtain ⟨hk64, hn64⟩ : I64 p.k ∧ I64 p.n := ⟨hI1, hI2⟩
  have HK64 := Lib.hid hk64
  have HN64 := Lib.hid hn64
  have HKID := Lib.hid hkid
  have HIH := Lib.hid ih
  have HVAR := Lib.hid hvar
  have HFP := Lib.hid hfp
  have HMM := Lib.hid hm
  have HSZ := Lib.hid hsz
  have HV := Lib.hid hv
  have HVW := Lib.hid hvW
  have HW := Lib.hid hW
  have H1 := Lib.hid h1
  have H2 := Lib.hid h2
  have H3 := Lib.hid h3
  have HI0 := Lib.hid hi0
  have HTA := Lib.hid htA
  have HTB := Lib.hid htB
  have HS6 := Lib.hid hs6
  rw [← hi0]
  have lw : w.heap.size < W.heap.size := by omega
  have hne : w.heap.size ≠ w.heap.size + 1 := by omega
  clear ih hvar hfp hm hsz hv hvW hW h1 h2 h3 e1 e2 hi0 htA htB hkid hI1 hI2 hI3 hI4 hI5 hk64 hn64 hs6 hB
  unfold rowOf
  go_enter Try.func9, Try.ntmps9
  go_upto_region 1 with fail
  rw [show (w.alloc (.cells #[.int .i64 p.k, .int .i64 p.n, .int .i64 p.o, .int .i64 p.a, .string p.s, .slice ao p.kids.length cap] 26)).alloc (.cells #[.int .i64 0, .int .i64 0, .int .i64 0, .int .i64 0, .string ⟨#[]⟩, .slice none 0 0] 26) = W from HW.out.symm]
  go_cut [17] from 10 to 16 (fun v wx => v = .bool tA ∧ wx = W)
  case first =>
    cases value with
    | true =>
      go_wp2_with fail
      go_meet
      exact ⟨by rw [HTA.out]; simp, rfl⟩
    | false =>
      go_wp2_with fail
      refine Calls.mono (pick_any p.k 4 W HK64.out.1 HK64.out.2 (by omega) (by omega)) ?_
      rintro e w' ⟨rfl, rfl⟩
      generalize hpk : pickD p.k 4 = pk
      have HPK := Lib.hid hpk
      clear hpk
      go_wp2_with fail
      go_meet
      exact ⟨by rw [HTA.out, HPK.out]; simp [beqII], rfl⟩
  case rest =>
  obtain ⟨rfl, hwc⟩ := hcut
  subst hwc
  cases tA with
  | true =>
    obtain ⟨hvf, _⟩ := of_decide_eq_true HTA.out.symm
    subst hvf
    go_wp2_with fail
    have hfin := fit_fin (w := w) (lo := wc.heap.size) (t := .mk 1 p.n 0 0 ⟨#[]⟩ []) (a := none) (c := 0) H2.out (by exact ⟨Nat.le_refl _, by unfold Pt.kids KidsV; trivial⟩) l2 H3.out (good_var s HN64.out)
    refine bodyPost_ret (v := .agg (rowOf (.mk 1 p.n 0 0 ⟨#[]⟩ []) none 0)) (res_pat (fn := Try.f9) (t := 6) Try.results9 rfl hfin.1) rfl ?_
    exact hfin.2.mono (Nat.le_trans (by omega) (two_le_bd p s))
  | false =>
    go_upto_region 3 with fail
    go_cut [28] from 21 to 27 (fun v wx => v = .bool tB ∧ wx = wc)
    case first =>
      cases value with
      | true =>
        go_wp2_with fail
        go_meet
        exact ⟨by rw [HTB.out]; simp, rfl⟩
      | false =>
        go_wp2_with fail
        refine Calls.mono (pick_any p.k 9 wc HK64.out.1 HK64.out.2 (by omega) (by omega)) ?_
        rintro e w' ⟨rfl, rfl⟩
        generalize hpk : pickD p.k 9 = pk
        have HPK := Lib.hid hpk
        clear hpk
        go_wp2_with fail
        go_meet
        exact ⟨by rw [HTB.out, HPK.out]; simp [beqII], rfl⟩
    case rest =>
    obtain ⟨rfl, hwc⟩ := hcut
    obtain ⟨w1, hw1⟩ : ∃ w1 : World, w1 = wc := ⟨_, rfl⟩
    subst hw1
    subst hwc
    cases tB with
    | true =>
      obtain ⟨hvf, _⟩ := of_decide_eq_true HTB.out.symm
      subst hvf
      have hS : SF w.heap.size p ao cap w1 := SF.of H1.out
      have HK0 : Hid (FitCB (kidD p 0) s false (kb p 0 s false)) := Lib.hid (HKID.out 0 s HS6.out (fun h => by cases h))
      have tok0 : True := trivial
      go_upto_region 4 with fail
      clear z0 z1 z2 z3 z4 z5 f0 f1 f2 f3 f4 f5 c0 c1 c2 c3 c4 c5
      go_region_held3 (fun w' => SF w.heap.size p ao cap w')
        (repeat (first | with_reducible exact hS | with_reducible exact hS5 | with_reducible exact hS6 | with_reducible apply SF.drew | (with_reducible refine SF.set ?_ _ _ _ hne) | (with_reducible refine SF.alloc ?_ _)))
        (first
         | (go_at_call 15; have _t := tok0; refine Calls.mono (kid0_any p ao cap _ (by first | with_reducible exact HVW.out | exact slv_drew HVW.out) hkl) ?_; rintro e w5 ⟨a5, c5, rfl, hs5, hb5⟩; clear tok0; have hb5W : Below w1.heap.size w1 w5 := (by first | with_reducible exact hb5 | exact (Below.refl _ _).drew.trans hb5); have hz5 := hb5W.size; have hS5 := hS.below hb5W lw; have HS5 := Lib.hid hs5; have HB5 := Lib.hid hb5W; clear hs5 hb5W hb5)
         | (go_at_call 9; rw [HI0.out]; refine Calls.mono (HK0.out a5 c5 _ (by first | with_reducible exact HS5.out | exact slv_drew HS5.out)) ?_; rintro e w6 ⟨x, ax, cx, rfl, hsx, hgx, hb6⟩; rw [← HI0.out]; unfold rowOf; have hb6W : Below w5.heap.size w5 w6 := (by first | with_reducible exact hb6 | exact (Below.refl _ _).drew.trans hb6); have hz6 := hb6W.size; have hS6 := hS5.below hb6W (by omega); have HSX := Lib.hid (SlD.mono hsx (D' := NewD w1.heap.size w6) (fun b hb => ⟨by have h1 : w5.heap.size ≤ b := hb.1; omega, hb.2⟩)); have HGX := Lib.hid hgx; have HB6 := Lib.hid (HB5.out.trans (hb6W.mono hz5)); have hz := blk_below H2.out HB6.out l2; have y0 : w6.cell? ⟨w.heap.size + 1, 0, none⟩ = some (.int .i64 0) := blk_cell hz 0; have y1 : w6.cell? ⟨w.heap.size + 1, 1, none⟩ = some (.int .i64 0) := blk_cell hz 1; have y2 : w6.cell? ⟨w.heap.size + 1, 2, none⟩ = some (.int .i64 0) := blk_cell hz 2; have y3 : w6.cell? ⟨w.heap.size + 1, 3, none⟩ = some (.int .i64 0) := blk_cell hz 3; have y4 : w6.cell? ⟨w.heap.size + 1, 4, none⟩ = some (.string ⟨#[]⟩) := blk_cell hz 4; have y5 : w6.cell? ⟨w.heap.size + 1, 5, none⟩ = some (.slice none 0 0) := blk_cell hz 5; have g0 := blk_free hz 0; have g1 := blk_free hz 1; have g2 := blk_free hz 2; have g3 := blk_free hz 3; have g4 := blk_free hz 4; have g5 := blk_free hz 5; have lz := lt_of_block hz; have HZ := Lib.hid hz; clear hsx hgx hb6 hb6W hz))
      clear y0 y1 y2 y3 y4 y5 g0 g1 g2 g3 g4 g5 hS hS5 hS6
      obtain ⟨wF, hwF⟩ : ∃ wF, wF = ((((((w6.setCell ⟨w.heap.size + 1, 0, none⟩ (.int .i64 2)).setCell ⟨w.heap.size + 1, 1, none⟩ (.int .i64 p.n)).setCell ⟨w.heap.size + 1, 2, none⟩ (.int .i64 0)).setCell ⟨w.heap.size + 1, 3, none⟩ (.int .i64 0)).setCell ⟨w.heap.size + 1, 4, none⟩ (.string ⟨#[]⟩)).setCell ⟨w.heap.size + 1, 5, none⟩ (.slice (some ⟨w6.heap.size, 0, none⟩) 1 1)).alloc (.cells #[.int .i64 x.k, .int .i64 x.n, .int .i64 x.o, .int .i64 x.a, .string x.s, .slice ax x.kids.length cx] 26) := ⟨_, rfl⟩
      rw [← hwF]
      have hfin := lone_fin (w := w) (t := .mk 2 p.n 0 0 ⟨#[]⟩ [x]) HZ.out rfl hwF HSX.out l2 (by omega) (H3.out.trans (HB6.out.mono (Nat.le_of_lt lw))) (good_as HN64.out HGX.out)
      have HFIN := Lib.hid hfin
      clear hfin hwF
      go_wp2_with fail
      refine bodyPost_ret (v := .agg (rowOf (.mk 2 p.n 0 0 ⟨#[]⟩ [x]) (some ⟨w6.heap.size, 0, none⟩) 1)) (res_pat (fn := Try.f9) (t := 6) Try.results9 rfl HFIN.out.1) rfl ?_
      exact HFIN.out.2.mono (one_bd (fun h => by cases h))
    | false =>
      have hi := HI0.out
      by_cases e0 : s = s0
      · subst e0
        have hi2 : i0 = 0 := hi
        clear hi
        subst hi2
        go_wp2_with fail
        refine Calls.mono (pick_any p.n 3 _ HN64.out.1 HN64.out.2 (by omega) (by omega)) ?_
        rintro e w' ⟨rfl, rfl⟩
        have hr3 := pickD_range p.n 3 (by omega)
        generalize pickD p.n 3 = n3 at hr3 ⊢
        have HR3 := Lib.hid hr3
        clear hr3
        go_wp2_with fail
        have hfin := fit_fin (w := w) (lo := w'.heap.size) (t := .mk 3 n3 0 0 ⟨#[]⟩ []) (a := none) (c := 0) H2.out (by exact ⟨Nat.le_refl _, by unfold Pt.kids KidsV; trivial⟩) l2 H3.out (good_int value HR3.out.1 HR3.out.2)
        refine bodyPost_ret (v := .agg (rowOf (.mk 3 n3 0 0 ⟨#[]⟩ []) none 0)) (res_pat (fn := Try.f9) (t := 6) Try.results9 rfl hfin.1) rfl ?_
        exact hfin.2.mono (Nat.le_trans (by omega) (two_le_bd p s0))
      · by_cases e4 : s = s4
        · subst e4
          have hi2 : i0 = 4 := hi
          clear hi
          subst hi2
          have hpp := parts_pos p
          have hf9 : 9 ≤ f := by have := HMM.out; simp only [rk] at this; omega
          have HK0 : Hid (FitCB (kidD p 0) s1 value (kb p 0 s1 value)) := Lib.hid (HKID.out 0 s1 (fun h => by cases h) (fun _ _ => by simp only [rk]; omega))
          have HK1 : Hid (FitCB (kidD p 1) s2 value (kb p 1 s2 value)) := Lib.hid (HKID.out 1 s2 (fun h => by cases h) (fun _ _ => by simp only [rk]; omega))
          go_wp2_with fail
          refine Calls.mono (pair_any p s1 s2 value _ _ HK0.out HK1.out ao cap _ HVW.out hkl) ?_
          rintro e w6 ⟨x, y, ad, rfl, hxy, hgx, hgy, hb6⟩
          unfold rowOf
          have hz6 := hb6.size
          have hz := blk_below H2.out hb6 l2
          clear z0 z1 z2 z3 z4 z5 f0 f1 f2 f3 f4 f5 c0 c1 c2 c3 c4 c5
          have y0 : w6.cell? ⟨w.heap.size + 1, 0, none⟩ = some (.int .i64 0) := blk_cell hz 0
          have y1 : w6.cell? ⟨w.heap.size + 1, 1, none⟩ = some (.int .i64 0) := blk_cell hz 1
          have y2 : w6.cell? ⟨w.heap.size + 1, 2, none⟩ = some (.int .i64 0) := blk_cell hz 2
          have y3 : w6.cell? ⟨w.heap.size + 1, 3, none⟩ = some (.int .i64 0) := blk_cell hz 3
          have y4 : w6.cell? ⟨w.heap.size + 1, 4, none⟩ = some (.string ⟨#[]⟩) := blk_cell hz 4
          have y5 : w6.cell? ⟨w.heap.size + 1, 5, none⟩ = some (.slice none 0 0) := blk_cell hz 5
          have g0 := blk_free hz 0
          have g1 := blk_free hz 1
          have g2 := blk_free hz 2
          have g3 := blk_free hz 3
          have g4 := blk_free hz 4
          have g5 := blk_free hz 5
          have hfin := fit_fin (w := w) (lo := w1.heap.size) (t := tupP x y) hz hxy l2 (H3.out.trans (hb6.mono (Nat.le_of_lt lw))) (good_tup (s := s4) rfl hgx hgy)
          have HFIN := Lib.hid hfin
          clear hz hxy hgx hgy hb6 hfin
          go_wp2_with fail
          refine bodyPost_ret (v := .agg (rowOf (tupP x y) ad 2)) (res_pat (fn := Try.f9) (t := 6) Try.results9 rfl HFIN.out.1) rfl ?_
          exact HFIN.out.2.mono (two_bd 1 (by omega) (fun _ _ => by simp only [sm]; omega) (fun _ _ => by simp only [sm]; omega))
        · have hof : 0 < ofS s := by
            have := HS6.out
            cases s <;> simp_all [ofS]
          have b0 : (i0 == 0) = false := by rw [hi]; cases s <;> simp_all [sI]
          have b4 : (i0 == 4) = false := by rw [hi]; cases s <;> simp_all [sI]
          have hoD : ofD i0 = ofS s := by rw [hi]; exact (con_part (n := 0) hof (by omega) (by omega)).1
          have hob : ofS s ≤ 10 := by cases s <;> simp [ofS]
          have HOF := Lib.hid hof
          have HOD := Lib.hid hoD
          have HOB := Lib.hid hob
          obtain ⟨n0, hn0⟩ : ∃ n0, n0 = pickD p.n (ofS s) := ⟨_, rfl⟩
          have hnr : 0 ≤ n0 ∧ n0 < ofS s := by rw [hn0]; exact pickD_range p.n (ofS s) hof
          have HN0 := Lib.hid hn0
          have HNR := Lib.hid hnr
          clear hi hof hoD hob hn0 hnr e0 e4
          go_upto_region 10 with fail
          go_quiet (first | (go_at_call 17; refine Calls.quiet_of_same (of_any i0 _)) | (go_at_call 7; rw [HOD.out]; refine Calls.quiet_of_same (v := .int .i64 n0) (by rw [HN0.out]; exact pick_any p.n (ofS s) _ HN64.out.1 HN64.out.2 HOF.out (by have := HOB.out; omega))))
          obtain ⟨w2, hw2⟩ : ∃ w2, w2 = w1.drewN nq := ⟨_, rfl⟩
          rw [← hw2]
          have h21 : PB w2 w.heap.size p ao cap := by rw [hw2]; exact H1.out
          have h22 : PB w2 (w.heap.size + 1) anyP none 0 := by rw [hw2]; exact H2.out
          have hb2 : Below w.heap.size w w2 := by rw [hw2]; exact below_dN H3.out nq
          have hb12 : Below w1.heap.size w1 w2 := by rw [hw2]; exact below_dN (Below.refl _ _) nq
          have hv2 : SlV w2 w2.heap.size p.kids ao cap := by rw [hw2]; exact SlD.keep (w' := w1.drewN nq) HVW.out (fun _ _ _ => rfl)
          have l22 : w.heap.size + 1 < w2.heap.size := lt_of_block h22
          clear z0 z1 z2 z3 z4 z5 f0 f1 f2 f3 f4 f5 c0 c1 c2 c3 c4 c5 hw2
          go_wp2_with fail
          refine Calls.mono (of_any i0 _) ?_
          rintro e w3 ⟨rfl, hw3⟩
          rw [hw3]
          clear hw3 w3
          rw [HOD.out]
          go_wp2_with fail
          refine Calls.mono (con_any n0 (ofS s) _) ?_
          rintro e w4 ⟨rfl, hb4⟩
          have hz4 := hb4.size
          have h41 : PB w4 w.heap.size p ao cap := blk_below h21 hb4 (by omega)
          have h42 : PB w4 (w.heap.size + 1) anyP none 0 := blk_below h22 hb4 l22
          have e8 := heap_alloc_new w4 (.cells (rowOf (conP n0 (ofS s)) none 0) 26)
          unfold rowOf
          go_upto_region 12 with fail
          obtain ⟨w5, hw5⟩ : ∃ w5, w5 = w4.alloc (.cells (rowOf (conP n0 (ofS s)) none 0) 26) := ⟨_, rfl⟩
          rw [show w4.alloc (.cells #[.int .i64 (conP n0 (ofS s)).k, .int .i64 (conP n0 (ofS s)).n, .int .i64 (conP n0 (ofS s)).o, .int .i64 (conP n0 (ofS s)).a, .string (conP n0 (ofS s)).s, .slice none (conP n0 (ofS s)).kids.length 0] 26) = w5 from hw5.symm]
          have h51 : PB w5 w.heap.size p ao cap := by rw [hw5]; exact blk_alloc h41 _
          have h52 : PB w5 (w.heap.size + 1) anyP none 0 := by rw [hw5]; exact blk_alloc h42 _
          have h58 : PB w5 w4.heap.size (conP n0 (ofS s)) none 0 := by rw [hw5]; exact e8
          have hb5 : Below w2.heap.size w2 w5 := by rw [hw5]; exact hb4.alloc hz4 _
          generalize w4.heap.size = b8 at h58 hz4 ⊢
          have l58 : b8 < w5.heap.size := lt_of_block h58
          have hv5 : SlV w5 w5.heap.size p.kids ao cap := SlV.on hv2 hb5
          have hbw5 : Below w.heap.size w w5 := hb2.trans (hb5.mono (by omega))
          have H51 := Lib.hid h51
          have H52 := Lib.hid h52
          have H58 := Lib.hid h58
          have HV5 := Lib.hid hv5
          have HBW5 := Lib.hid hbw5
          have l81 : w.heap.size + 1 < b8 := by omega
          have c0 : w5.cell? ⟨w.heap.size, 0, none⟩ = some (.int .i64 p.k) := blk_cell h51 0
          have c1 : w5.cell? ⟨w.heap.size, 1, none⟩ = some (.int .i64 p.n) := blk_cell h51 1
          have c2 : w5.cell? ⟨w.heap.size, 2, none⟩ = some (.int .i64 p.o) := blk_cell h51 2
          have c3 : w5.cell? ⟨w.heap.size, 3, none⟩ = some (.int .i64 p.a) := blk_cell h51 3
          have c4 : w5.cell? ⟨w.heap.size, 4, none⟩ = some (.string p.s) := blk_cell h51 4
          have c5 : w5.cell? ⟨w.heap.size, 5, none⟩ = some (.slice ao p.kids.length cap) := blk_cell h51 5
          have z0 : w5.cell? ⟨w.heap.size + 1, 0, none⟩ = some (.int .i64 0) := blk_cell h52 0
          have z1 : w5.cell? ⟨w.heap.size + 1, 1, none⟩ = some (.int .i64 0) := blk_cell h52 1
          have z2 : w5.cell? ⟨w.heap.size + 1, 2, none⟩ = some (.int .i64 0) := blk_cell h52 2
          have z3 : w5.cell? ⟨w.heap.size + 1, 3, none⟩ = some (.int .i64 0) := blk_cell h52 3
          have z4 : w5.cell? ⟨w.heap.size + 1, 4, none⟩ = some (.string ⟨#[]⟩) := blk_cell h52 4
          have z5 : w5.cell? ⟨w.heap.size + 1, 5, none⟩ = some (.slice none 0 0) := blk_cell h52 5
          have x0 : w5.cell? ⟨b8, 0, none⟩ = some (.int .i64 6) := blk_cell h58 0
          have x1 : w5.cell? ⟨b8, 1, none⟩ = some (.int .i64 n0) := blk_cell h58 1
          have x2 : w5.cell? ⟨b8, 2, none⟩ = some (.int .i64 (ofS s)) := blk_cell h58 2
          have x3 : w5.cell? ⟨b8, 3, none⟩ = some (.int .i64 0) := blk_cell h58 3
          have x4 : w5.cell? ⟨b8, 4, none⟩ = some (.string ⟨#[]⟩) := blk_cell h58 4
          have x5 : w5.cell? ⟨b8, 5, none⟩ = some (.slice none 0 0) := blk_cell h58 5
          have f0 := blk_free h52 0
          have f1 := blk_free h52 1
          have f2 := blk_free h52 2
          have f3 := blk_free h52 3
          have f4 := blk_free h52 4
          have f5 := blk_free h52 5
          have v5 := blk_free h58 5
          obtain ⟨tC, htC⟩ : ∃ tC, tC = decide (value = true ∧ p.kids.length = 0 ∧ i0 = 3) := ⟨_, rfl⟩
          have HTC := Lib.hid htC
          clear htC h51 h52 h58 hv5 hbw5 hw5 hb5 e8 h41 h42 hb4 h21 h22 hb2 hb12 hv2
          go_cut [69] from 59 to 68 (fun v wx => v = .bool tC ∧ wx = w5)
          case first =>
            cases value with
            | false =>
              go_wp2_with fail
              go_meet
              exact ⟨by rw [HTC.out]; simp, rfl⟩
            | true =>
              by_cases hk : p.kids.length = 0
              · have bk : ((p.kids.length : Int) == 0) = true := by simp [hk]
                have HK := Lib.hid hk
                clear hk
                go_wp2_with fail
                go_meet
                exact ⟨by rw [HTC.out]; simp [beqII, HK.out], rfl⟩
              · have bk : ((p.kids.length : Int) == 0) = false := by simpa using hk
                go_wp2_with fail
                go_meet
                exact ⟨by rw [HTC.out]; simp [beqII, hk], rfl⟩
          case rest =>
          obtain ⟨rfl, hwc⟩ := hcut
          obtain ⟨w6, hw6⟩ : ∃ w6 : World, w6 = wc := ⟨_, rfl⟩
          subst hw6
          subst hwc
          cases tC with
          | true =>
            obtain ⟨hvt, hkl0, hi3⟩ := of_decide_eq_true HTC.out.symm
            have hs3 : s = s3 := sI_three (by rw [← hi3]; exact HI0.out.symm)
            subst hs3
            clear hkl0 hi3 hvt
            go_wp2_with fail
            refine Calls.mono (con_any 0 2 _) ?_
            rintro e w7 ⟨rfl, hb7⟩
            have hz7 := hb7.size
            have hz := blk_below H52.out hb7 (by omega)
            clear z0 z1 z2 z3 z4 z5 f0 f1 f2 f3 f4 f5 c0 c1 c2 c3 c4 c5 x0 x1 x2 x3 x4 x5 v5
            have y0 : w7.cell? ⟨w.heap.size + 1, 0, none⟩ = some (.int .i64 0) := blk_cell hz 0
            have y1 : w7.cell? ⟨w.heap.size + 1, 1, none⟩ = some (.int .i64 0) := blk_cell hz 1
            have y2 : w7.cell? ⟨w.heap.size + 1, 2, none⟩ = some (.int .i64 0) := blk_cell hz 2
            have y3 : w7.cell? ⟨w.heap.size + 1, 3, none⟩ = some (.int .i64 0) := blk_cell hz 3
            have y4 : w7.cell? ⟨w.heap.size + 1, 4, none⟩ = some (.string ⟨#[]⟩) := blk_cell hz 4
            have y5 : w7.cell? ⟨w.heap.size + 1, 5, none⟩ = some (.slice none 0 0) := blk_cell hz 5
            have g0 := blk_free hz 0
            have g1 := blk_free hz 1
            have g2 := blk_free hz 2
            have g3 := blk_free hz 3
            have g4 := blk_free hz 4
            have g5 := blk_free hz 5
            have hfin := fit_fin (w := w) (lo := b8) (t := conP 0 2) (a := none) (c := 0) hz (by exact ⟨Nat.le_refl _, by unfold conP Pt.kids KidsV; trivial⟩) l81 (HBW5.out.trans (hb7.mono (by omega))) (good_leaf (s := s3) (n := 0) value (by omega) (by simp [ofS]) (by simp [ofS]) rfl)
            have HFIN := Lib.hid hfin
            clear hz hb7 hfin
            unfold rowOf
            go_wp2_with fail
            refine bodyPost_ret (v := .agg (rowOf (conP 0 2) none 0)) (res_pat (fn := Try.f9) (t := 6) Try.results9 rfl HFIN.out.1) rfl ?_
            exact HFIN.out.2.mono (Nat.le_trans (by omega) (two_le_bd p s3))
          | false =>
            go_upto_region 14 with fail
            go_wp2_with fail
            refine Calls.mono (parts_any i0 n0 _) ?_
            rintro e w7 ⟨rfl, hw7⟩
            rw [hw7]
            clear hw7 w7
            obtain ⟨kk, hkk⟩ : ∃ kk, kk = partsD i0 n0 := ⟨_, rfl⟩
            rw [← hkk]
            have hcp := (con_part (n := n0) HOF.out HNR.out.1 HNR.out.2).2
            rw [← HI0.out, ← hkk] at hcp
            rcases hcp with ⟨hk1, hcon⟩ | ⟨hk2, hss, hn1⟩ | ⟨s', hk3, hcon, hs0, hs'6, hrk, hsm⟩
            · subst hk1
              have HCON := Lib.hid hcon
              clear hcon hkk
              go_wp2_with fail
              have hfin := fit_fin (w := w) (lo := b8) (t := conP n0 (ofS s)) (a := none) (c := 0) H52.out (by exact ⟨Nat.le_refl _, by unfold conP Pt.kids KidsV; trivial⟩) l81 HBW5.out (good_leaf (s := s) value HNR.out.1 HNR.out.2 HOB.out HCON.out)
              refine bodyPost_ret (v := .agg (rowOf (conP n0 (ofS s)) none 0)) (res_pat (fn := Try.f9) (t := 6) Try.results9 rfl hfin.1) rfl ?_
              exact hfin.2.mono (Nat.le_trans (by omega) (two_le_bd p s))
            · subst hk2
              have HSS := Lib.hid hss
              have HN1 := Lib.hid hn1
              have hvk : value = true → p.kids.length ≠ 0 := by
                intro h1 h2
                have h3 := HTC.out
                rw [eq_comm, decide_eq_false_iff_not] at h3
                exact h3 ⟨h1, h2, by rw [HI0.out, HSS.out]; rfl⟩
              have hf7 : 7 ≤ f ∧ (value = true → 15 ≤ f) := by
                have h1 := HMM.out
                have h2 := parts_pos p
                refine ⟨by omega, fun hv => ?_⟩
                have h3 := hvk hv
                have h4 := kids_parts p
                have h5 : 2 ≤ parts p := by
                  have := parts_in (kidD_mem (p := p) (i := 0) (by omega))
                  have := parts_pos (kidD p 0)
                  omega
                omega
              have HVK := Lib.hid hvk
              have HK0 : Hid (FitCB (kidD p 0) s1 value (kb p 0 s1 value)) := Lib.hid (HKID.out 0 s1 (fun h => by cases h) (fun hv _ => by have := hf7.2 hv; simp only [rk]; omega))
              have HK1 : Hid (FitCB (kidD p 1) s3 value (kb p 1 s3 value)) := Lib.hid (HKID.out 1 s3 (fun h => by cases h) (fun hv _ => by have := hf7.2 hv; simp only [rk]; omega))
              clear hss hn1 hkk hvk hf7
              go_wp2_with fail
              refine Calls.mono (pair_any p s1 s3 value _ _ HK0.out HK1.out ao cap _ HV5.out hkl) ?_
              rintro e w9 ⟨x, y, ad, rfl, hsx, hgx, hgy, hb9⟩
              have HGY := Lib.hid hgy
              clear hgy
              unfold rowOf
              have hz6 := hb9.size
              have hz := blk_below H52.out hb9 (by omega)
              have hx8 := blk_below H58.out hb9 l58
              clear z0 z1 z2 z3 z4 z5 f0 f1 f2 f3 f4 f5 c0 c1 c2 c3 c4 c5 x0 x1 x2 x3 x4 x5 v5
              have y5 : w9.cell? ⟨b8, 5, none⟩ = some (.slice none 0 0) := blk_cell hx8 5
              have u5 := blk_free hx8 5
              have lb8 : b8 < w9.heap.size := by omega
              have HX8 := Lib.hid hx8
              have HZ := Lib.hid hz
              have HB9 := Lib.hid hb9
              have HSX := Lib.hid hsx
              have HGX := Lib.hid hgx
              clear hx8 hz hb9 hsx hgx
              go_upto_region 17 with fail
              clear y5 u5
              obtain ⟨wB, hwB⟩ : ∃ wB, wB = (w9.setCell ⟨b8, 5, none⟩ (.slice (some ⟨w9.heap.size, 0, none⟩) 1 1)).alloc (.cells (rowOf (tupP x y) ad 2) 26) := ⟨_, rfl⟩
              have hwB2 := hwB
              unfold rowOf at hwB2
              rw [← hwB2]
              clear hwB2
              obtain ⟨k1, k2, k3⟩ := con_new HX8.out HSX.out l58 hz6 hwB
              have hz := blk_below HZ.out k3 l81
              have y0 : wB.cell? ⟨w.heap.size + 1, 0, none⟩ = some (.int .i64 0) := blk_cell hz 0
              have y1 : wB.cell? ⟨w.heap.size + 1, 1, none⟩ = some (.int .i64 0) := blk_cell hz 1
              have y2 : wB.cell? ⟨w.heap.size + 1, 2, none⟩ = some (.int .i64 0) := blk_cell hz 2
              have y3 : wB.cell? ⟨w.heap.size + 1, 3, none⟩ = some (.int .i64 0) := blk_cell hz 3
              have y4 : wB.cell? ⟨w.heap.size + 1, 4, none⟩ = some (.string ⟨#[]⟩) := blk_cell hz 4
              have y5 : wB.cell? ⟨w.heap.size + 1, 5, none⟩ = some (.slice none 0 0) := blk_cell hz 5
              have x0 : wB.cell? ⟨b8, 0, none⟩ = some (.int .i64 6) := blk_cell k1 0
              have x1 : wB.cell? ⟨b8, 1, none⟩ = some (.int .i64 n0) := blk_cell k1 1
              have x2 : wB.cell? ⟨b8, 2, none⟩ = some (.int .i64 (ofS s)) := blk_cell k1 2
              have x3 : wB.cell? ⟨b8, 3, none⟩ = some (.int .i64 0) := blk_cell k1 3
              have x4 : wB.cell? ⟨b8, 4, none⟩ = some (.string ⟨#[]⟩) := blk_cell k1 4
              have x5 : wB.cell? ⟨b8, 5, none⟩ = some (.slice (some ⟨w9.heap.size, 0, none⟩) 1 1) := blk_cell k1 5
              have g0 := blk_free hz 0
              have g1 := blk_free hz 1
              have g2 := blk_free hz 2
              have g3 := blk_free hz 3
              have g4 := blk_free hz 4
              have g5 := blk_free hz 5
              have hfin := fit_fin (s := s) (w := w) (lo := w6.heap.size) (t := .mk 6 n0 (ofS s) 0 ⟨#[]⟩ [(tupP x y)]) hz k2 (by omega) (HBW5.out.trans ((HB9.out.mono (by omega)).trans (k3.mono (by omega)))) (by rw [HSS.out, HN1.out]; exact good_con1 (s := s3) (s' := s6) (n := 1) (by omega) (by simp [ofS]) (by simp [ofS]) rfl (good_tup (s := s6) rfl HGX.out HGY.out))
              have HFIN := Lib.hid hfin
              clear hz k1 k2 k3 hwB hfin
              go_wp2_with fail
              refine bodyPost_ret (v := .agg (rowOf (.mk 6 n0 (ofS s) 0 ⟨#[]⟩ [(tupP x y)]) (some ⟨w9.heap.size, 0, none⟩) 1)) (res_pat (fn := Try.f9) (t := 6) Try.results9 rfl HFIN.out.1) rfl ?_
              exact HFIN.out.2.mono (by rw [HSS.out]; exact two_bd 2 (by omega) (fun _ _ => by simp only [sm]; omega) (fun h hv => absurd (by rw [h]; rfl) (HVK.out hv)))
            · have HCON := Lib.hid hcon
              have HK3 := Lib.hid hk3
              have HSM := Lib.hid hsm
              have hkk0 : 0 ≤ kk := by rw [hk3]; exact hs0
              have bk2 : (kk == -2) = false := by simp; omega
              have hd0 : decide (0 ≤ kk) = true := by simp; omega
              have HK0 : Hid (FitCB (kidD p 0) s' value (kb p 0 s' value)) := Lib.hid (HKID.out 0 s' hs'6 (fun _ _ => by have h1 := HMM.out; have h2 := parts_pos p; omega))
              clear hcon hkk hk3 hsm hkk0 hs0 hs'6 hrk
              go_upto_region 18 with fail
              go_wp2_with fail
              refine Calls.mono (kid0_any p ao cap _ HV5.out hkl) ?_
              rintro e w8 ⟨a8, c8, rfl, hs8, hb8⟩
              have hz8 := hb8.size
              have HS8 := Lib.hid hs8
              have HB8 := Lib.hid hb8
              clear hs8 hb8 z0 z1 z2 z3 z4 z5 f0 f1 f2 f3 f4 f5 c0 c1 c2 c3 c4 c5 x0 x1 x2 x3 x4 x5 v5
              go_wp2_with fail
              rw [HK3.out]
              refine Calls.mono (HK0.out a8 c8 _ HS8.out) ?_
              rw [← HK3.out]
              rintro e w9 ⟨x, ax, cx, rfl, hsx0, hgx, hb90⟩
              have hsx := SlD.mono hsx0 (D' := NewD w6.heap.size w9) (fun b hb => ⟨by have h1 : w8.heap.size ≤ b := hb.1; omega, hb.2⟩)
              have hb9 := HB8.out.trans (hb90.mono hz8)
              clear hsx0 hb90
              unfold rowOf
              have hz6 := hb9.size
              have hz := blk_below H52.out hb9 (by omega)
              have hx8 := blk_below H58.out hb9 l58
              skip
              have y5 : w9.cell? ⟨b8, 5, none⟩ = some (.slice none 0 0) := blk_cell hx8 5
              have u5 := blk_free hx8 5
              have lb8 : b8 < w9.heap.size := by omega
              have HX8 := Lib.hid hx8
              have HZ := Lib.hid hz
              have HB9 := Lib.hid hb9
              have HSX := Lib.hid hsx
              have HGX := Lib.hid hgx
              clear hx8 hz hb9 hsx hgx
              go_upto_region 19 with fail
              clear y5 u5
              obtain ⟨wB, hwB⟩ : ∃ wB, wB = (w9.setCell ⟨b8, 5, none⟩ (.slice (some ⟨w9.heap.size, 0, none⟩) 1 1)).alloc (.cells (rowOf x ax cx) 26) := ⟨_, rfl⟩
              have hwB2 := hwB
              unfold rowOf at hwB2
              rw [← hwB2]
              clear hwB2
              obtain ⟨k1, k2, k3⟩ := con_new HX8.out HSX.out l58 hz6 hwB
              have hz := blk_below HZ.out k3 l81
              have y0 : wB.cell? ⟨w.heap.size + 1, 0, none⟩ = some (.int .i64 0) := blk_cell hz 0
              have y1 : wB.cell? ⟨w.heap.size + 1, 1, none⟩ = some (.int .i64 0) := blk_cell hz 1
              have y2 : wB.cell? ⟨w.heap.size + 1, 2, none⟩ = some (.int .i64 0) := blk_cell hz 2
              have y3 : wB.cell? ⟨w.heap.size + 1, 3, none⟩ = some (.int .i64 0) := blk_cell hz 3
              have y4 : wB.cell? ⟨w.heap.size + 1, 4, none⟩ = some (.string ⟨#[]⟩) := blk_cell hz 4
              have y5 : wB.cell? ⟨w.heap.size + 1, 5, none⟩ = some (.slice none 0 0) := blk_cell hz 5
              have x0 : wB.cell? ⟨b8, 0, none⟩ = some (.int .i64 6) := blk_cell k1 0
              have x1 : wB.cell? ⟨b8, 1, none⟩ = some (.int .i64 n0) := blk_cell k1 1
              have x2 : wB.cell? ⟨b8, 2, none⟩ = some (.int .i64 (ofS s)) := blk_cell k1 2
              have x3 : wB.cell? ⟨b8, 3, none⟩ = some (.int .i64 0) := blk_cell k1 3
              have x4 : wB.cell? ⟨b8, 4, none⟩ = some (.string ⟨#[]⟩) := blk_cell k1 4
              have x5 : wB.cell? ⟨b8, 5, none⟩ = some (.slice (some ⟨w9.heap.size, 0, none⟩) 1 1) := blk_cell k1 5
              have g0 := blk_free hz 0
              have g1 := blk_free hz 1
              have g2 := blk_free hz 2
              have g3 := blk_free hz 3
              have g4 := blk_free hz 4
              have g5 := blk_free hz 5
              have hfin := fit_fin (w := w) (lo := w6.heap.size) (t := .mk 6 n0 (ofS s) 0 ⟨#[]⟩ [x]) hz k2 (by omega) (HBW5.out.trans ((HB9.out.mono (by omega)).trans (k3.mono (by omega)))) (good_con1 HNR.out.1 HNR.out.2 HOB.out HCON.out HGX.out)
              have HFIN := Lib.hid hfin
              clear hz k1 k2 k3 hwB hfin
              go_wp2_with fail
              refine bodyPost_ret (v := .agg (rowOf (.mk 6 n0 (ofS s) 0 ⟨#[]⟩ [x]) (some ⟨w9.heap.size, 0, none⟩) 1)) (res_pat (fn := Try.f9) (t := 6) Try.results9 rfl HFIN.out.1) rfl ?_
              exact HFIN.out.2.mono (one_bd (fun _ => HSM.out))

end Go.Proofs.Ytcieoelogocjkaa
