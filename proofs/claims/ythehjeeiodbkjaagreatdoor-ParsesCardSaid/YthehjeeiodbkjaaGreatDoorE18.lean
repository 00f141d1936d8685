/-
  Proved: the contract of the law's Same. Conditions: both trees fit, as trees that are read do.
-/
import Derived.Test.YthehjeeiodbkjaaGreatDoorE14
import Derived.Test.YthehjeeiodbkjaaGreatDoorE16
import Derived.Test.YthehjeeiodbkjaaGreatDoorE15
import Derived.StillTailTactics
set_option linter.unusedSimpArgs false
set_option linter.unusedVariables false
set_option maxRecDepth 100000
set_option maxHeartbeats 16000000
namespace Go.Proofs.YthehjeeiodbkjaaGreatDoor
open Go.RowKit
/-- are two trees alike on top? -/
def headS (pl : Bool) (t u : Ty) : Bool := decide (t.k = u.k ∧ t.s.toList = u.s.toList ∧ t.q = u.q ∧ t.args.length = u.args.length ∧ (pl = true → t.n = u.n))
mutual
def sameD (pl : Bool) : Ty → Ty → Bool
 | .mk k n s q args, .mk k' n' s' q' args' => headS pl (.mk k n s q args) (.mk k' n' s' q' args') && sameL pl args args'
def sameL (pl : Bool) : List Ty → List Ty → Bool
 | [], _ => true
 | _ :: _, [] => true
 | p :: ps, r :: rs => sameD pl p r && sameL pl ps rs
end
mutual
theorem sameD_self (pl : Bool) : ∀ t : Ty, sameD pl t t = true
 | .mk k n s q args => by rw [sameD, sameL_self pl args, Bool.and_true]; unfold headS; simp
theorem sameL_self (pl : Bool) : ∀ l : List Ty, sameL pl l l = true
 | [] => by rw [sameL]
 | p :: ps => by rw [sameL, sameD_self pl p, sameL_self pl ps]; rfl
end
theorem sameL_take (pl : Bool) : ∀ {l r : List Ty} {j : Nat} (h : j < l.length) (h' : j < r.length), sameL pl (l.take (j + 1)) (r.take (j + 1)) = (sameL pl (l.take j) (r.take j) && sameD pl l[j] r[j])
 | p :: ps, r :: rs, 0, _, _ => by simp [sameL]
 | p :: ps, r :: rs, j + 1, h, h' => by
  rw [List.take_succ_cons, List.take_succ_cons, List.take_succ_cons, List.take_succ_cons, sameL, sameL, sameL_take pl (by simpa using h) (by simpa using h'), Bool.and_assoc]
  rfl
theorem sameL_cut (pl : Bool) : ∀ (l r : List Ty) (j : Nat) (h : j < l.length) (h' : j < r.length), sameD pl l[j] r[j] = false → sameL pl l r = false
 | p :: ps, r :: rs, 0, _, _, e => by rw [sameL]; simp only [List.getElem_cons_zero] at e; rw [e]; rfl
 | p :: ps, r :: rs, j + 1, h, h', e => by
  rw [sameL, sameL_cut pl ps rs j (by simpa using h) (by simpa using h') (by simpa using e), Bool.and_false]
theorem sameD_args (pl : Bool) (t u : Ty) : sameD pl t u = (headS pl t u && sameL pl t.args u.args) := by cases t; cases u; rw [sameD]; rfl
theorem lsame_any (pl : Bool) : ∀ (f : Nat) (t : Ty), parts t ≤ f → ∀ (u : Ty) (D : Nat → Prop) (ao aq : Option Addr) (cap cq : Nat) (w : World), (∀ b, D b → b < w.heap.size) → SlD w D t.args ao cap → SlD w D u.args aq cq → Fit t → Fit u →
 Calls Tryz.prog 14 #[.agg (rowOf t ao cap), .agg (rowOf u aq cq), .bool pl] w fun e w' => e = .returned (.bool (sameD pl t u)) ∧ Below w.heap.size w w' := by
 intro f
 induction f with
 | zero => intro t ht; have := parts_pos t; omega
 | succ f IH =>
  intro t ht u D ao aq cap cq w hD hv hv2 hfit hfit2
  obtain ⟨c, hc⟩ : ∃ c, c = t.args.length := ⟨_, rfl⟩
  obtain ⟨c', hc'⟩ : ∃ c', c' = u.args.length := ⟨_, rfl⟩
  obtain ⟨W0, hW0⟩ : ∃ W0, W0 = w.alloc (.cells (rowOf t ao cap) 26) := ⟨_, rfl⟩
  obtain ⟨hbW0, hlW0, hrow0⟩ := box_at hW0
  obtain ⟨W, hW⟩ : ∃ W, W = W0.alloc (.cells (rowOf u aq cq) 26) := ⟨_, rfl⟩
  obtain ⟨hbW1, hlW1, hrow2⟩ := box_at hW
  have hs0 : W0.heap.size = w.heap.size + 1 := by rw [hW0]; simp
  have hbW := hbW0.trans (hbW1.mono hbW0.size)
  have hrow := blk_below hrow0 hbW1 hlW0
  rw [hs0] at hrow2
  have hl1 : w.heap.size < W.heap.size := lt_of_block hrow
  have hl2 : w.heap.size + 1 < W.heap.size := lt_of_block hrow2
  rw [hW0] at hW
  have hcl : c ≤ 1000000 := by rw [hc]; exact hfit.args.1
  have hcl2 : c' ≤ 1000000 := by rw [hc']; exact hfit2.args.1
  obtain ⟨ans, hans⟩ : ∃ ans, ans = sameD pl t u := ⟨_, rfl⟩
  rw [← hans]
  have hans2 := hans
  rw [sameD_args] at hans2
  have HANS : Hid (ans = (headS pl t u && sameL pl t.args u.args)) := lh hans2
  have HH : Hid (headS pl t u = decide (t.k = u.k ∧ t.s.toList = u.s.toList ∧ t.q = u.q ∧ c = c' ∧ (pl = true → t.n = u.n))) := lh (by rw [hc, hc']; rfl)
  unfold rowOf at hW hrow hrow2
  unfold rowOf
  rw [← hc] at hW hrow
  rw [← hc'] at hW hrow2
  rw [← hc, ← hc']
  have HC := lh hc
  have HC' := lh hc'
  have HT := lh ht
  have HFIT := lh hfit
  have HFIT2 := lh hfit2
  have HIH := lh IH
  have HD := lh hD
  have HV := lh hv
  have HV2 := lh hv2
  have HBW := lh hbW
  have HROW := lh hrow
  have HROW2 := lh hrow2
  have c0 : W.cell? ⟨w.heap.size, 0, none⟩ = some (.int .i64 t.k) := blk_cell hrow 0
  have c1 : W.cell? ⟨w.heap.size, 1, none⟩ = some (.int .i64 t.n) := blk_cell hrow 1
  have c2 : W.cell? ⟨w.heap.size, 2, none⟩ = some (.string t.s) := blk_cell hrow 2
  have c3 : W.cell? ⟨w.heap.size, 3, none⟩ = some (.int .i64 t.q) := blk_cell hrow 3
  have c4 : W.cell? ⟨w.heap.size, 4, none⟩ = some (.slice ao c cap) := blk_cell hrow 4
  have d0 : W.cell? ⟨w.heap.size + 1, 0, none⟩ = some (.int .i64 u.k) := blk_cell hrow2 0
  have d1 : W.cell? ⟨w.heap.size + 1, 1, none⟩ = some (.int .i64 u.n) := blk_cell hrow2 1
  have d2 : W.cell? ⟨w.heap.size + 1, 2, none⟩ = some (.string u.s) := blk_cell hrow2 2
  have d3 : W.cell? ⟨w.heap.size + 1, 3, none⟩ = some (.int .i64 u.q) := blk_cell hrow2 3
  have d4 : W.cell? ⟨w.heap.size + 1, 4, none⟩ = some (.slice aq c' cq) := blk_cell hrow2 4
  clear IH hD hv hv2 hc hc' ht hfit hfit2 hbW hrow hrow2 hbW0 hbW1 hW0 hrow0 hs0 hlW0 hlW1 hans hans2
  go_enter Tryz.func14, Tryz.ntmps14
  go_upto_region 1 with fail
  rw [← hW]
  have HWW := lh hW
  clear hW
  generalize Value.agg #[.int .i64 t.k, .int .i64 t.n, .string t.s, .int .i64 t.q, .slice ao c cap] = v0
  generalize Value.agg #[.int .i64 u.k, .int .i64 u.n, .string u.s, .int .i64 u.q, .slice aq c' cq] = v1
  by_cases h1 : t.k = u.k
  case neg =>
   have b1 : (t.k != u.k) = true := by simpa using h1
   have H1 := lh h1
   clear h1
   go_wp2_with fail
   go_ret
   exact ⟨by rw [HANS.out, HH.out]; simp [H1.out], HBW.out⟩
  have b1 : (t.k != u.k) = false := by simpa using h1
  have H1 := lh h1
  clear h1
  by_cases h2 : t.s.toList = u.s.toList
  case neg =>
   have H2 := lh h2
   go_wp2_with fail
   go_ret
   exact ⟨by rw [HANS.out, HH.out]; simp [H2.out], HBW.out⟩
  have H2 := lh h2
  by_cases h5 : t.q = u.q
  case neg =>
   have b5 : (t.q != u.q) = true := by simpa using h5
   have H5 := lh h5
   clear h5
   go_wp2_with fail
   go_ret
   exact ⟨by rw [HANS.out, HH.out]; simp [H5.out], HBW.out⟩
  have b5 : (t.q != u.q) = false := by simpa using h5
  have H5 := lh h5
  clear h5
  by_cases h4 : c = c'
  case neg =>
   have b4 : ((c : Int) != (c' : Int)) = true := by simp; omega
   have H4 := lh h4
   clear h4
   go_wp2_with fail
   go_ret
   exact ⟨by rw [HANS.out, HH.out]; simp [H4.out], HBW.out⟩
  subst h4
  have blen : ((c : Int) != (c : Int)) = false := by simp
  have HPL : Hid (headS pl t u = decide (pl = true → t.n = u.n)) := lh (by rw [HH.out]; simp [H1.out, H2.out, H5.out])
  cases hpl : pl with
  | false =>
   subst hpl
   have HH2 : Hid (ans = sameL false t.args u.args) := lh (by rw [HANS.out, HPL.out]; simp)
   go_upto_region 3 with fail
   clear h2 b1 b5 blen c0 c1 c2 c3 d0 d1 d2 d3
   go_wp2_with fail
   go_loopw [7] (fun i wr => ∃ j : Nat, i = .int .i64 (j : Int) ∧ j ≤ c ∧ sameL false (t.args.take j) (u.args.take j) = true ∧ Below W.heap.size W wr) (fun i _ => c - (intOf i).toNat)
   case atStart => exact ⟨0, rfl, Nat.zero_le _, by simp [sameL], Below.refl _ _⟩
   case round =>
    obtain ⟨j, rfl, hj, hal, hbr⟩ := hrel
    obtain ⟨wo, rfl⟩ : ∃ wo : World, wo = wr := ⟨_, rfl⟩
    have hrow := blk_below HROW.out hbr hl1
    have hrow2 := blk_below HROW2.out hbr hl2
    have c4 : wo.cell? ⟨w.heap.size, 4, none⟩ = some (.slice ao c cap) := blk_cell hrow 4
    have d4 : wo.cell? ⟨w.heap.size + 1, 4, none⟩ = some (.slice aq c cq) := blk_cell hrow2 4
    have HBR := lh hbr
    have HAL := lh hal
    clear hbr hrow hrow2 hal
    by_cases hlt : j < c
    · have hd : decide ((j : Int) < (c : Int)) = true := by simp; omega
      have hjk : j < t.args.length := by rw [← HC.out]; exact hlt
      have hjk2 : j < u.args.length := by rw [← HC'.out]; exact hlt
      have hbo : Below w.heap.size w wo := HBW.out.trans (HBR.out.mono (Nat.le_of_lt hl1))
      have hvr : SlD wo D t.args ao cap := HV.out.keep fun b hb off => below_cells hbo b (HD.out b hb) off
      have hvr2 : SlD wo D u.args aq cq := HV2.out.keep fun b hb off => below_cells hbo b (HD.out b hb) off
      obtain ⟨b, p, ap, cp, hDb, hix, x0, x1, x2, x3, x4, hs⟩ := arg_cells hvr hjk
      obtain ⟨b', p', ap', cp', hDb', hix', y0, y1, y2, y3, y4, hs'⟩ := arg_cells hvr2 hjk2
      rw [← HC.out] at hix
      rw [← HC'.out] at hix'
      obtain ⟨a, ha⟩ : ∃ a, a = t.args[j] := ⟨_, rfl⟩
      obtain ⟨a', ha'⟩ : ∃ a', a' = u.args[j] := ⟨_, rfl⟩
      rw [← ha] at x0 x1 x2 x3 x4 hs
      rw [← ha'] at y0 y1 y2 y3 y4 hs'
      have hmem : a ∈ t.args := by rw [ha]; exact List.getElem_mem _
      have hmem' : a' ∈ u.args := by rw [ha']; exact List.getElem_mem _
      have hcall := HIH.out a (by have h1 := HT.out; rw [parts_args] at h1; have := parts_mem hmem; omega) a' D ap ap' cp cp' wo.drew (fun b hb => Nat.lt_of_lt_of_le (HD.out b hb) hbo.size) (hs.keep fun _ _ _ => rfl) (hs'.keep fun _ _ _ => rfl) (HFIT.out.args.2.get hmem) (HFIT2.out.args.2.get hmem')
      obtain ⟨res, hres⟩ : ∃ res, res = sameD false a a' := ⟨_, rfl⟩
      rw [← hres] at hcall
      unfold rowOf at hcall
      have HCALL := lh hcall
      have HA := lh ha
      have HA' := lh ha'
      have HRES := lh hres
      have z4 : wo.drew.cell? ⟨w.heap.size, 4, none⟩ = some (.slice ao c cap) := c4
      have v4 : wo.drew.cell? ⟨w.heap.size + 1, 4, none⟩ = some (.slice aq c cq) := d4
      have X0 : wo.drew.cell? ⟨b, p, none⟩ = some (.int .i64 a.k) := x0
      have X1 : wo.drew.cell? ⟨b, p + 1, none⟩ = some (.int .i64 a.n) := x1
      have X2 : wo.drew.cell? ⟨b, p + 2, none⟩ = some (.string a.s) := x2
      have X3 : wo.drew.cell? ⟨b, p + 3, none⟩ = some (.int .i64 a.q) := x3
      have X4 : wo.drew.cell? ⟨b, p + 4, none⟩ = some (.slice ap a.args.length cp) := x4
      have Y0 : wo.drew.cell? ⟨b', p', none⟩ = some (.int .i64 a'.k) := y0
      have Y1 : wo.drew.cell? ⟨b', p' + 1, none⟩ = some (.int .i64 a'.n) := y1
      have Y2 : wo.drew.cell? ⟨b', p' + 2, none⟩ = some (.string a'.s) := y2
      have Y3 : wo.drew.cell? ⟨b', p' + 3, none⟩ = some (.int .i64 a'.q) := y3
      have Y4 : wo.drew.cell? ⟨b', p' + 4, none⟩ = some (.slice ap' a'.args.length cp') := y4
      clear hcall hvr hvr2 hs hs' ha ha' hmem hmem' hbo hres x0 x1 x2 x3 x4 y0 y1 y2 y3 y4
      go_upto_region 6 with fail
      refine wp_region_still_tail 11 (by kernel_rfl) (by kernel_rfl) ?_
      simp only [List.take_succ_cons, List.take_zero, List.drop_succ_cons, List.drop_zero]
      change wpStill _ _ wo.drew _ _ _
      iterate 11 still_step
      refine wpStill_nil ?_
      change wpList _ _ _ _ _ wo.drew
      clear X0 X1 X2 X3 X4 Y0 Y1 Y2 Y3 Y4 z4 v4 c4 d4
      cases hr : res with
      | true =>
       subst hr
       go_wp2_with (first | (go_at_call 14; refine HCALL.out.mono ?_; rintro e w7 ⟨rfl, hb7⟩))
       go_roundw
       case rel =>
        refine ⟨j + 1, by go_num, hlt, ?_, HBR.out.drew.trans (hb7.mono HBR.out.size)⟩
        rw [sameL_take false hjk hjk2, HAL.out, ← HA.out, ← HA'.out, ← HRES.out]; rfl
       case measure => simp only [intOf]; omega
      | false =>
       subst hr
       go_wp2_with (first | (go_at_call 14; refine HCALL.out.mono ?_; rintro e w7 ⟨rfl, hb7⟩))
       go_ret
       refine ⟨?_, HBW.out.trans ((HBR.out.drew.trans (hb7.mono HBR.out.size)).mono (Nat.le_of_lt hl1))⟩
       have e : ans = false := by
        rw [HH2.out]
        exact sameL_cut false _ _ j hjk hjk2 (by rw [← HA.out, ← HA'.out]; exact HRES.out.symm)
       exact congrArg (fun b : Bool => Ending.returned (.bool b)) e.symm
    · obtain rfl : j = c := by omega
      have hd : decide ((j : Int) < (j : Int)) = false := by simp
      go_wp2_with fail
      go_ret
      refine ⟨?_, HBW.out.trans (HBR.out.mono (Nat.le_of_lt hl1))⟩
      have h1 := HAL.out
      rw [show t.args.take j = t.args from by rw [HC.out, List.take_length], show u.args.take j = u.args from by rw [HC'.out, List.take_length], ← HH2.out] at h1
      exact congrArg (fun b : Bool => Ending.returned (.bool b)) h1.symm
  | true =>
   subst hpl
   by_cases h3 : t.n = u.n
   case neg =>
    have b3 : (t.n != u.n) = true := by simpa using h3
    have H3 := lh h3
    clear h3
    go_wp2_with fail
    go_ret
    exact ⟨by rw [HANS.out, HPL.out]; simp [H3.out], HBW.out⟩
   have b3 : (t.n != u.n) = false := by simpa using h3
   have H3 := lh h3
   clear h3
   have HH2 : Hid (ans = sameL true t.args u.args) := lh (by rw [HANS.out, HPL.out]; simp [H3.out])
   go_upto_region 3 with fail
   clear h2 b1 b5 blen b3 c0 c1 c2 c3 d0 d1 d2 d3
   go_wp2_with fail
   go_loopw [7] (fun i wr => ∃ j : Nat, i = .int .i64 (j : Int) ∧ j ≤ c ∧ sameL true (t.args.take j) (u.args.take j) = true ∧ Below W.heap.size W wr) (fun i _ => c - (intOf i).toNat)
   case atStart => exact ⟨0, rfl, Nat.zero_le _, by simp [sameL], Below.refl _ _⟩
   case round =>
    obtain ⟨j, rfl, hj, hal, hbr⟩ := hrel
    obtain ⟨wo, rfl⟩ : ∃ wo : World, wo = wr := ⟨_, rfl⟩
    have hrow := blk_below HROW.out hbr hl1
    have hrow2 := blk_below HROW2.out hbr hl2
    have c4 : wo.cell? ⟨w.heap.size, 4, none⟩ = some (.slice ao c cap) := blk_cell hrow 4
    have d4 : wo.cell? ⟨w.heap.size + 1, 4, none⟩ = some (.slice aq c cq) := blk_cell hrow2 4
    have HBR := lh hbr
    have HAL := lh hal
    clear hbr hrow hrow2 hal
    by_cases hlt : j < c
    · have hd : decide ((j : Int) < (c : Int)) = true := by simp; omega
      have hjk : j < t.args.length := by rw [← HC.out]; exact hlt
      have hjk2 : j < u.args.length := by rw [← HC'.out]; exact hlt
      have hbo : Below w.heap.size w wo := HBW.out.trans (HBR.out.mono (Nat.le_of_lt hl1))
      have hvr : SlD wo D t.args ao cap := HV.out.keep fun b hb off => below_cells hbo b (HD.out b hb) off
      have hvr2 : SlD wo D u.args aq cq := HV2.out.keep fun b hb off => below_cells hbo b (HD.out b hb) off
      obtain ⟨b, p, ap, cp, hDb, hix, x0, x1, x2, x3, x4, hs⟩ := arg_cells hvr hjk
      obtain ⟨b', p', ap', cp', hDb', hix', y0, y1, y2, y3, y4, hs'⟩ := arg_cells hvr2 hjk2
      rw [← HC.out] at hix
      rw [← HC'.out] at hix'
      obtain ⟨a, ha⟩ : ∃ a, a = t.args[j] := ⟨_, rfl⟩
      obtain ⟨a', ha'⟩ : ∃ a', a' = u.args[j] := ⟨_, rfl⟩
      rw [← ha] at x0 x1 x2 x3 x4 hs
      rw [← ha'] at y0 y1 y2 y3 y4 hs'
      have hmem : a ∈ t.args := by rw [ha]; exact List.getElem_mem _
      have hmem' : a' ∈ u.args := by rw [ha']; exact List.getElem_mem _
      have hcall := HIH.out a (by have h1 := HT.out; rw [parts_args] at h1; have := parts_mem hmem; omega) a' D ap ap' cp cp' wo.drew (fun b hb => Nat.lt_of_lt_of_le (HD.out b hb) hbo.size) (hs.keep fun _ _ _ => rfl) (hs'.keep fun _ _ _ => rfl) (HFIT.out.args.2.get hmem) (HFIT2.out.args.2.get hmem')
      obtain ⟨res, hres⟩ : ∃ res, res = sameD true a a' := ⟨_, rfl⟩
      rw [← hres] at hcall
      unfold rowOf at hcall
      have HCALL := lh hcall
      have HA := lh ha
      have HA' := lh ha'
      have HRES := lh hres
      have z4 : wo.drew.cell? ⟨w.heap.size, 4, none⟩ = some (.slice ao c cap) := c4
      have v4 : wo.drew.cell? ⟨w.heap.size + 1, 4, none⟩ = some (.slice aq c cq) := d4
      have X0 : wo.drew.cell? ⟨b, p, none⟩ = some (.int .i64 a.k) := x0
      have X1 : wo.drew.cell? ⟨b, p + 1, none⟩ = some (.int .i64 a.n) := x1
      have X2 : wo.drew.cell? ⟨b, p + 2, none⟩ = some (.string a.s) := x2
      have X3 : wo.drew.cell? ⟨b, p + 3, none⟩ = some (.int .i64 a.q) := x3
      have X4 : wo.drew.cell? ⟨b, p + 4, none⟩ = some (.slice ap a.args.length cp) := x4
      have Y0 : wo.drew.cell? ⟨b', p', none⟩ = some (.int .i64 a'.k) := y0
      have Y1 : wo.drew.cell? ⟨b', p' + 1, none⟩ = some (.int .i64 a'.n) := y1
      have Y2 : wo.drew.cell? ⟨b', p' + 2, none⟩ = some (.string a'.s) := y2
      have Y3 : wo.drew.cell? ⟨b', p' + 3, none⟩ = some (.int .i64 a'.q) := y3
      have Y4 : wo.drew.cell? ⟨b', p' + 4, none⟩ = some (.slice ap' a'.args.length cp') := y4
      clear hcall hvr hvr2 hs hs' ha ha' hmem hmem' hbo hres x0 x1 x2 x3 x4 y0 y1 y2 y3 y4
      go_upto_region 6 with fail
      refine wp_region_still_tail 11 (by kernel_rfl) (by kernel_rfl) ?_
      simp only [List.take_succ_cons, List.take_zero, List.drop_succ_cons, List.drop_zero]
      change wpStill _ _ wo.drew _ _ _
      iterate 11 still_step
      refine wpStill_nil ?_
      change wpList _ _ _ _ _ wo.drew
      clear X0 X1 X2 X3 X4 Y0 Y1 Y2 Y3 Y4 z4 v4 c4 d4
      cases hr : res with
      | true =>
       subst hr
       go_wp2_with (first | (go_at_call 14; refine HCALL.out.mono ?_; rintro e w7 ⟨rfl, hb7⟩))
       go_roundw
       case rel =>
        refine ⟨j + 1, by go_num, hlt, ?_, HBR.out.drew.trans (hb7.mono HBR.out.size)⟩
        rw [sameL_take true hjk hjk2, HAL.out, ← HA.out, ← HA'.out, ← HRES.out]; rfl
       case measure => simp only [intOf]; omega
      | false =>
       subst hr
       go_wp2_with (first | (go_at_call 14; refine HCALL.out.mono ?_; rintro e w7 ⟨rfl, hb7⟩))
       go_ret
       refine ⟨?_, HBW.out.trans ((HBR.out.drew.trans (hb7.mono HBR.out.size)).mono (Nat.le_of_lt hl1))⟩
       have e : ans = false := by
        rw [HH2.out]
        exact sameL_cut true _ _ j hjk hjk2 (by rw [← HA.out, ← HA'.out]; exact HRES.out.symm)
       exact congrArg (fun b : Bool => Ending.returned (.bool b)) e.symm
    · obtain rfl : j = c := by omega
      have hd : decide ((j : Int) < (j : Int)) = false := by simp
      go_wp2_with fail
      go_ret
      refine ⟨?_, HBW.out.trans (HBR.out.mono (Nat.le_of_lt hl1))⟩
      have h1 := HAL.out
      rw [show t.args.take j = t.args from by rw [HC.out, List.take_length], show u.args.take j = u.args from by rw [HC'.out, List.take_length], ← HH2.out] at h1
      exact congrArg (fun b : Bool => Ending.returned (.bool b)) h1.symm
end Go.Proofs.YthehjeeiodbkjaaGreatDoor
