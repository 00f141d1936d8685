/-
  Proved: the contract of the reference's Match. Condition: none but that both types fit a machine.
-/
import Derived.Test.YtdeomphilggokaaC2
set_option linter.unusedSimpArgs false
set_option linter.unusedVariables false
namespace Go.Proofs.Ytdeomphilggokaa
open Go.RowKit

/-- the binds of these numbers, in their order -/
def outD (ns : List Int) (L : List (Int × Ty)) : List (Int × Ty) := ns.flatMap fun n => L.filter fun x => decide (x.1 = n)
def rMatchD (g t : Ty) : List (Int × Ty) × Bool :=
  if ProperD g = true ∧ ProperD t = true ∧ (matchD [] g t).2 = true then (outD (risingD (varsD [] g)) (matchD [] g t).1, true) else ([], false)
theorem outD_take {ns : List Int} {i : Nat} (h : i < ns.length) (L : List (Int × Ty)) : outD (ns.take (i + 1)) L = outD (ns.take i) L ++ L.filter fun x => decide (x.1 = ns[i]) := by
  unfold outD
  rw [List.take_succ_eq_append_getElem h, List.flatMap_append]
  simp
theorem filter_take {L : List (Int × Ty)} {k : Nat} (h : k < L.length) (p : Int × Ty → Bool) : (L.take (k + 1)).filter p = (L.take k).filter p ++ if p L[k] = true then [L[k]] else [] := by
  rw [List.take_succ_eq_append_getElem h, List.filter_append]
  by_cases e : p L[k] = true
  · simp [e]
  · simp [e]
theorem OwnI.getm {B : Nat} {w : World} {v : Value} {xs : List Int} (h : OwnI B w v xs) {m : Nat} (hm : m = xs.length) : ∃ ao cap, v = .slice ao m cap ∧ ∀ i (_ : i < m) (h' : i < xs.length), ∃ g, ao = some ⟨g, 0, none⟩ ∧ g < w.heap.size ∧ w.cell? ⟨g, i, none⟩ = some (.int .i64 xs[i]) := by
  subst hm
  obtain ⟨ao, cap, e, h2⟩ := h.get
  exact ⟨ao, cap, e, fun i hi _ => by obtain ⟨g, h3, _, h4⟩ := h2 i hi; exact ⟨g, h3, World.block_lt_of_cell? w _ h4, h4⟩⟩
theorem OwnB.below {B : Nat} {w w' : World} {D : Nat → Prop} {v : Value} {bs : List Bd} (h : OwnB B w D v bs) (hb : Below w.heap.size w w') (hD : ∀ b, D b → b < w.heap.size) : OwnB B w' D v bs := h.keep hb hD
/-- what Match leaves -/
structure MatchPost (D : Nat → Prop) (L : List (Int × Ty)) (ok : Bool) (w : World) (e : Ending) (w' : World) : Prop where
  out : ∃ v bs, e = .returned (.tuple #[v, .bool ok]) ∧ bs.map Bd.pair = L ∧ OwnB 0 w' D v bs ∧ (∀ b ∈ bs, Fits b.t) ∧ Below w.heap.size w w'
set_option maxRecDepth 100000 in
set_option maxHeartbeats 8000000 in
theorem rMatch_any (g t : Ty) (D : Nat → Prop) (ag at' : Option Addr) (cg ct : Nat) (w : World) (hD : ∀ b, D b → b < w.heap.size) (hvg : SlD w D g.args ag cg) (hvt : SlD w D t.args at' ct) (hfg : Fits g) (hft : Fits t) :
    Calls Try.prog 15 #[.agg (rowOf g ag cg), .agg (rowOf t at' ct)] w (MatchPost D (rMatchD g t).1 (rMatchD g t).2 w) := by
  obtain ⟨c, hc⟩ : ∃ c, c = g.args.length := ⟨_, rfl⟩
  obtain ⟨c', hc'⟩ : ∃ c', c' = t.args.length := ⟨_, rfl⟩
  obtain ⟨W0, hW0⟩ : ∃ W0, W0 = w.alloc (.cells (rowOf g ag cg) 33) := ⟨_, rfl⟩
  obtain ⟨hbW0, hlW0, hrow0⟩ := box_at hW0
  obtain ⟨W, hW⟩ : ∃ W, W = W0.alloc (.cells (rowOf t at' ct) 33) := ⟨_, rfl⟩
  obtain ⟨hbW1, hlW1, hrow2⟩ := box_at hW
  have hs0 : W0.heap.size = w.heap.size + 1 := by rw [hW0]; simp
  have hbW := hbW0.trans (hbW1.mono hbW0.size)
  have hrow := blk_below hrow0 hbW1 hlW0
  rw [hs0] at hrow2
  have hl1 : w.heap.size < W.heap.size := lt_of_block hrow
  have hl2 : w.heap.size + 1 < W.heap.size := lt_of_block hrow2
  rw [hW0] at hW
  have keepG : ∀ V : World, Below w.heap.size w V → (∀ b, D b → b < V.heap.size) ∧ SlD V D g.args ag cg ∧ SlD V D t.args at' ct := fun V hV =>
    ⟨fun b hb => Nat.lt_of_lt_of_le (hD b hb) hV.size, hvg.keep fun b hb off => below_cells hV b (hD b hb) off, hvt.keep fun b hb off => below_cells hV b (hD b hb) off⟩
  have P1 : Hid (∀ V : World, Below w.heap.size w V → Calls Try.prog 11 #[.agg (rowOf g ag cg)] V fun e w' => e = .returned (.bool (ProperD g)) ∧ Below V.heap.size V w') := Lib.hid (fun V hV => rproper_any g D ag cg V (keepG V hV).1 (keepG V hV).2.1 hfg)
  have P2 : Hid (∀ V : World, Below w.heap.size w V → Calls Try.prog 11 #[.agg (rowOf t at' ct)] V fun e w' => e = .returned (.bool (ProperD t)) ∧ Below V.heap.size V w') := Lib.hid (fun V hV => rproper_any t D at' ct V (keepG V hV).1 (keepG V hV).2.2 hft)
  have PM : Hid (ProperD g = true → ProperD t = true → ∀ V : World, Below w.heap.size w V → Calls Try.prog 41 #[.slice none 0 0, .agg (rowOf g ag cg), .agg (rowOf t at' ct)] V fun e w' => ∃ v' bs' ok, e = .returned (.tuple #[v', .bool ok]) ∧ matchD [] g t = (bs'.map Bd.pair, ok) ∧ bs'.length ≤ 400 ∧ OwnB 0 w' D v' bs' ∧ (∀ b ∈ bs', Fits b.t) ∧ Below V.heap.size V w') := Lib.hid (fun hg ht V hV => by
    have hpg : parts g ≤ 400 := by unfold ProperD at hg; rw [Bool.and_eq_true, decide_eq_true_eq] at hg; exact hg.1
    have hst : shapedD t = true := by unfold ProperD at ht; rw [Bool.and_eq_true] at ht; exact ht.2
    refine (rmatch_any (parts g) g (Nat.le_refl _) t D ag at' cg ct (.slice none 0 0) [] V (fun b hb => ⟨(keepG V hV).1 b hb, by simp [Value.ownBlock]⟩) (keepG V hV).2.1 (keepG V hV).2.2 (OwnB.nil _ _ _) (fun b hb => by cases hb) hfg hft hst (by simp; omega)).mono ?_
    rintro e w' ⟨v', bs', ok, he, hm, hl, hgb⟩
    refine ⟨v', bs', ok, he, hm, by simp at hl; omega, hgb.own, hgb.fit, ?_⟩
    exact ⟨hgb.gr.os, hgb.gr.tape, hgb.gr.output, hgb.gr.size, fun k hk => hgb.gr.block k hk (by simp [Value.ownBlock])⟩)
  have PV : Hid (ProperD g = true → ∀ V : World, Below w.heap.size w V → Calls Try.prog 22 #[.slice none 0 0, .agg (rowOf g ag cg)] V fun e w' => ∃ v', e = .returned v' ∧ OwnI 0 w' v' (varsD [] g) ∧ Below V.heap.size V w') := Lib.hid (fun hg V hV => by
    have hpg : parts g ≤ 400 := by unfold ProperD at hg; rw [Bool.and_eq_true, decide_eq_true_eq] at hg; exact hg.1
    refine (vars_any (parts g) g (Nat.le_refl _) D ag cg (.slice none 0 0) [] V (fun b hb => ⟨(keepG V hV).1 b hb, by simp [Value.ownBlock]⟩) (keepG V hV).2.1 (World.ownsRow_nil _ _ _ _) hfg (by simp; omega)).mono ?_
    rintro e w' ⟨v', he, hgi⟩
    exact ⟨v', he, hgi.own, ⟨hgi.gr.os, hgi.gr.tape, hgi.gr.output, hgi.gr.size, fun k hk => hgi.gr.block k hk (by simp [Value.ownBlock])⟩⟩)
  have PL : Hid (ProperD g = true → (varsD [] g).length ≤ 400) := Lib.hid (fun hg => by
    have hpg : parts g ≤ 400 := by unfold ProperD at hg; rw [Bool.and_eq_true, decide_eq_true_eq] at hg; exact hg.1
    have := varsD_len g []
    simp at this
    omega)
  obtain ⟨pg, hpg⟩ : ∃ pg, pg = ProperD g := ⟨_, rfl⟩
  obtain ⟨pt, hpt⟩ : ∃ pt, pt = ProperD t := ⟨_, rfl⟩
  have HRM : Hid (rMatchD g t = if pg = true ∧ pt = true ∧ (matchD [] g t).2 = true then (outD (risingD (varsD [] g)) (matchD [] g t).1, true) else ([], false)) := Lib.hid (by rw [hpg, hpt]; rfl)
  rw [← hpg] at P1 PM PV PL
  rw [← hpt] at P2 PM
  obtain ⟨ans, hans⟩ : ∃ ans, ans = rMatchD g t := ⟨_, rfl⟩
  rw [← hans] at HRM
  rw [← hans]
  unfold rowOf at hW hrow hrow2 P1 P2 PM PV
  unfold rowOf
  rw [← hc] at hW hrow P1 PM PV
  rw [← hc'] at hW hrow2 P2 PM
  rw [← hc, ← hc']
  have BOX : Hid (∀ V : World, Below W.heap.size W V → (V.cell? ⟨w.heap.size, 0, none⟩ = some (.int .i64 g.k) ∧ V.cell? ⟨w.heap.size, 1, none⟩ = some (.int .i64 g.n) ∧ V.cell? ⟨w.heap.size, 2, none⟩ = some (.string g.s) ∧ V.cell? ⟨w.heap.size, 3, none⟩ = some (.int .i64 g.q) ∧ V.cell? ⟨w.heap.size, 4, none⟩ = some (.slice ag c cg)) ∧
      (V.cell? ⟨w.heap.size + 1, 0, none⟩ = some (.int .i64 t.k) ∧ V.cell? ⟨w.heap.size + 1, 1, none⟩ = some (.int .i64 t.n) ∧ V.cell? ⟨w.heap.size + 1, 2, none⟩ = some (.string t.s) ∧ V.cell? ⟨w.heap.size + 1, 3, none⟩ = some (.int .i64 t.q) ∧ V.cell? ⟨w.heap.size + 1, 4, none⟩ = some (.slice at' c' ct))) := Lib.hid (fun V hV => by
    have r1 := blk_below hrow hV hl1
    have r2 := blk_below hrow2 hV hl2
    exact ⟨⟨blk_cell r1 0, blk_cell r1 1, blk_cell r1 2, blk_cell r1 3, blk_cell r1 4⟩, ⟨blk_cell r2 0, blk_cell r2 1, blk_cell r2 2, blk_cell r2 3, blk_cell r2 4⟩⟩)
  have HBW := Lib.hid hbW
  have HD := Lib.hid hD
  obtain ⟨⟨c0, c1, c2, c3, c4⟩, _⟩ := BOX.out W (Below.refl _ _)
  clear hc hc' hpg hpt hans hW0 hrow0 hbW0 hbW1 hs0 hlW0 hlW1 hrow hrow2 keepG hvg hvt hfg hft hbW hD
  go_enter Try.func15, Try.ntmps15
  go_upto_region 1 with fail
  rw [← hW]
  have HWW := Lib.hid hW
  clear hW
  have Q1 := Lib.hid (P1.out W HBW.out)
  go_upto_region 2 with (first | (go_at_call 11; refine Q1.out.mono ?_; rintro e w1 ⟨rfl, hb1⟩; have HB1 := Lib.hid hb1; clear hb1))
  clear c0 c1 c2 c3 c4
  obtain ⟨⟨c0, c1, c2, c3, c4⟩, ⟨d0, d1, d2, d3, d4⟩⟩ := BOX.out w1 HB1.out
  have Q2 := Lib.hid (P2.out w1 (HBW.out.trans (HB1.out.mono HBW.out.size)))
  go_upto_region 3 with (first | (go_at_call 11; refine Q2.out.mono ?_; rintro e w2 ⟨rfl, hb2⟩; have HB2 := Lib.hid (HB1.out.trans (hb2.mono HB1.out.size)); clear hb2))
  clear c0 c1 c2 c3 c4 d0 d1 d2 d3 d4
  have hbw2 := HBW.out.trans (HB2.out.mono HBW.out.size)
  have HBW2 := Lib.hid hbw2
  clear hbw2
  cases pg with
  | false =>
    go_wp2_with fail
    go_ret2
    exact ⟨_, [], by rw [HRM.out]; simp, by rw [HRM.out]; simp, OwnB.nil _ _ _, fun b hb => by (cases hb), HBW2.out⟩
  | true =>
    cases pt with
    | false =>
      go_wp2_with fail
      go_ret2
      exact ⟨_, [], by rw [HRM.out]; simp, by rw [HRM.out]; simp, OwnB.nil _ _ _, fun b hb => by (cases hb), HBW2.out⟩
    | true =>
      obtain ⟨⟨c0, c1, c2, c3, c4⟩, ⟨d0, d1, d2, d3, d4⟩⟩ := BOX.out w2 HB2.out
      have Q3 := Lib.hid (PM.out (by simp) (by simp) w2 HBW2.out)
      go_upto_region 6 with (first | (go_at_call 41; refine Q3.out.mono ?_; rintro e w3 ⟨vl, bl, ok, rfl, hm3, hl3, ho3, hf3, hb3⟩; have HM3 := Lib.hid hm3; have HO3 := Lib.hid ho3; have HF3 := Lib.hid hf3; have HB3 := Lib.hid (HB2.out.trans (hb3.mono HB2.out.size)); clear hm3 ho3 hf3 hb3))
      clear c0 c1 c2 c3 c4 d0 d1 d2 d3 d4
      have HBW3 := Lib.hid (HBW.out.trans (HB3.out.mono HBW.out.size))
      cases ok with
      | false =>
        go_wp2_with fail
        go_ret2
        exact ⟨_, [], by rw [HRM.out]; simp [HM3.out], by rw [HRM.out]; simp [HM3.out], OwnB.nil _ _ _, fun b hb => by (cases hb), HBW3.out⟩
      | true =>
        obtain ⟨⟨c0, c1, c2, c3, c4⟩, _⟩ := BOX.out w3 HB3.out
        have Q4 := Lib.hid (PV.out (by simp) w3 HBW3.out)
        have hL4 := PL.out (by simp)
        obtain ⟨xs, hxs⟩ : ∃ xs, xs = varsD [] g := ⟨_, rfl⟩
        rw [← hxs] at hL4 Q4
        have HXS := Lib.hid hxs
        clear hxs
        go_upto_region 9 with (first
          | (go_at_call 22; refine Q4.out.mono ?_; rintro e w4 ⟨v4, rfl, ho4, hb4⟩; have HO4 := Lib.hid ho4; have HB4 := Lib.hid (HB3.out.trans (hb4.mono HB3.out.size)); have HB34 := Lib.hid hb4; clear ho4 hb4)
          | (go_at_call 42; refine (rising_any v4 xs w4 HO4.out (by omega)).mono ?_; rintro e w5 ⟨v5, rfl, ho5, hb5⟩; have HO5 := Lib.hid ho5; have HB5 := Lib.hid (HB4.out.trans (hb5.mono HB4.out.size)); have HB35 := Lib.hid (HB34.out.trans (hb5.mono HB34.out.size)); clear ho5 hb5))
        clear c0 c1 c2 c3 c4
        obtain ⟨ns, hns⟩ : ∃ ns, ns = risingD xs := ⟨_, rfl⟩
        rw [← hns] at HO5
        have hnn : ns.length ≤ 400 := by rw [hns, rising_len]; exact hL4
        have HNS := Lib.hid hns
        obtain ⟨U, hU⟩ : ∃ U : World, U = w5 := ⟨_, rfl⟩
        subst hU
        have HBWU := Lib.hid (HBW.out.trans (HB5.out.mono HBW.out.size))
        have hDU : ∀ b, D b → b < U.heap.size := fun b hb => Nat.lt_of_lt_of_le (HD.out b hb) HBWU.out.size
        have hOL : OwnB 0 U D vl bl := HO3.out.keep HB35.out (fun b hb => Nat.lt_of_lt_of_le (HD.out b hb) HBW3.out.size)
        obtain ⟨nl, hnl⟩ : ∃ nl, nl = bl.length := ⟨_, rfl⟩
        obtain ⟨nn, hnn2⟩ : ∃ nn, nn = ns.length := ⟨_, rfl⟩
        obtain ⟨la, lc, hvl, hlget⟩ := hOL.getm hnl
        obtain ⟨na, nc, hv5, hnget⟩ := HO5.out.getm hnn2
        subst hvl hv5
        have hnl9 : nl ≤ 400 := by rw [hnl]; exact hl3
        have hnn9 : nn ≤ 400 := by rw [hnn2]; exact hnn
        obtain ⟨L, hLL⟩ : ∃ L, L = bl.map Bd.pair := ⟨_, rfl⟩
        have HL := Lib.hid hLL
        have HANS : Hid (ans = (outD ns L, true)) := Lib.hid (by rw [HRM.out, if_pos (by simp [HM3.out]), HM3.out, ← hLL, hns, HXS.out])
        have HNL := Lib.hid hnl
        have HNN := Lib.hid hnn2
        have HLG := Lib.hid hlget
        have HNG := Lib.hid hnget
        have HDU := Lib.hid hDU
        have HOL := Lib.hid hOL
        obtain ⟨i35, hi, hz0, hz1, hz2⟩ := info_parts info35
        have HI := Lib.hid hi
        clear hDU hOL hnl hnn2 hlget hnget hLL hi hnn hl3 hL4 hns
        go_wp2_with fail
        go_loopw [11, 12, 13] (fun o i _ wr => ∃ (j : Nat) (bo : List Bd), i = .int .i64 (j : Int) ∧ j ≤ nn ∧ OwnB U.heap.size wr D o bo ∧ bo.map Bd.pair = outD (ns.take j) L ∧ bo.length ≤ j * 400 ∧ (∀ b ∈ bo, Fits b.t) ∧ Below U.heap.size U wr) (fun _ i _ _ => nn - (intOf i).toNat)
        case atStart => exact ⟨0, [], rfl, Nat.zero_le _, OwnB.nil _ _ _, by simp [outD], by simp, fun b hb => by (cases hb), Below.refl _ _⟩
        case round =>
          obtain ⟨j, bo, rfl, hj, hoo, hpair, hlen, hfit, hbr⟩ := hrel
          obtain ⟨wo, rfl⟩ : ∃ wo : World, wo = wr := ⟨_, rfl⟩
          obtain ⟨mo, hmo⟩ : ∃ mo, mo = bo.length := ⟨_, rfl⟩
          obtain ⟨oa, oc, hvo, _⟩ := hoo.getm hmo
          subst hvo
          have HOO := Lib.hid hoo
          have HPAIR := Lib.hid hpair
          have HLEN := Lib.hid hlen
          have HFIT := Lib.hid hfit
          have HBR := Lib.hid hbr
          have HMO := Lib.hid hmo
          clear hoo hpair hlen hfit hbr hmo
          by_cases hlt : j < nn
          · have hd : decide ((j : Int) < (nn : Int)) = true := by simp; omega
            have hjn : j < ns.length := by rw [← HNN.out]; exact hlt
            obtain ⟨gn, hna, hgn, hny⟩ := HNG.out j hlt hjn
            obtain ⟨y, hy⟩ : ∃ y, y = ns[j] := ⟨_, rfl⟩
            rw [← hy] at hny
            have hixn := index_at Try.underlying47 size3 hna nn nc j hlt
            rw [Nat.zero_add, Nat.mul_one] at hixn
            have HY := Lib.hid hy
            have HNY := Lib.hid hny
            clear hna hny hy
            go_wp2_with fail
            go_loopw [11, 13] (fun o k wr => ∃ (q : Nat) (bo' : List Bd), k = .int .i64 (q : Int) ∧ q ≤ nl ∧ OwnB U.heap.size wr D o bo' ∧ bo'.map Bd.pair = outD (ns.take j) L ++ (L.take q).filter (fun x => decide (x.1 = y)) ∧ bo'.length ≤ j * 400 + q ∧ (∀ b ∈ bo', Fits b.t) ∧ Below U.heap.size U wr) (fun _ k _ => nl - (intOf k).toNat)
            case atStart => exact ⟨0, bo, rfl, Nat.zero_le _, by have h := HOO.out; rw [HMO.out] at h ⊢; exact h, by rw [HPAIR.out]; simp, by have := HLEN.out; omega, HFIT.out, HBR.out⟩
            case round =>
              obtain ⟨q, bo', rfl, hq, hoo, hpair, hlen, hfit, hbr⟩ := hrel
              obtain ⟨w6, rfl⟩ : ∃ w6 : World, w6 = wr := ⟨_, rfl⟩
              obtain ⟨m6, hm6⟩ : ∃ m6, m6 = bo'.length := ⟨_, rfl⟩
              obtain ⟨oa6, oc6, hvo, _⟩ := hoo.getm hm6
              subst hvo
              have hcy : w6.cell? ⟨gn, j, none⟩ = some (.int .i64 y) := (hbr.cell (p := ⟨gn, j, none⟩) hgn).trans HNY.out
              have HOO6 := Lib.hid hoo
              have HPAIR6 := Lib.hid hpair
              have HLEN6 := Lib.hid hlen
              have HFIT6 := Lib.hid hfit
              have HBR6 := Lib.hid hbr
              have HM6 := Lib.hid hm6
              have hm69 : m6 ≤ 200000 := by
                have : j * 400 ≤ 400 * 400 := Nat.mul_le_mul_right _ (by omega)
                omega
              have hU6 : U.heap.size ≤ w6.heap.size := hbr.size
              clear hoo hpair hlen hfit hbr hm6
              by_cases hqn : q < nl
              · have hd2 : decide ((q : Int) < (nl : Int)) = true := by simp; omega
                have hqb : q < bl.length := by rw [← HNL.out]; exact hqn
                obtain ⟨gb, _, hgb, hix, hcells⟩ := HLG.out q hqn hqb
                obtain ⟨bd, hbd⟩ : ∃ bd, bd = bl[q] := ⟨_, rfl⟩
                rw [← hbd] at hcells
                have xx : ∀ (z : Nat) (v : Value), z < 6 → bd.cells[z]? = some v → w6.cell? ⟨gb, q * 6 + z, none⟩ = some v := fun z v hz e => (HBR6.out.cell (p := ⟨gb, q * 6 + z, none⟩) hgb).trans ((hcells z hz).trans e)
                have x0 : w6.cell? ⟨gb, q * 6, none⟩ = some (.int .i64 bd.n) := xx 0 _ (by omega) rfl
                have x1 : w6.cell? ⟨gb, q * 6 + 1, none⟩ = some (.int .i64 bd.t.k) := xx 1 _ (by omega) rfl
                have x2 : w6.cell? ⟨gb, q * 6 + 2, none⟩ = some (.int .i64 bd.t.n) := xx 2 _ (by omega) rfl
                have x3 : w6.cell? ⟨gb, q * 6 + 3, none⟩ = some (.string bd.t.s) := xx 3 _ (by omega) rfl
                have x4 : w6.cell? ⟨gb, q * 6 + 4, none⟩ = some (.int .i64 bd.t.q) := xx 4 _ (by omega) rfl
                have x5 : w6.cell? ⟨gb, q * 6 + 5, none⟩ = some (.slice bd.ao bd.t.args.length bd.cap) := xx 5 _ (by omega) rfl
                have HBD := Lib.hid hbd
                have hLq : q < L.length := by rw [HL.out, List.length_map]; exact hqb
                have HLQ : Hid (L[q] = bd.pair) := Lib.hid (by rw [hbd]; simp [HL.out])
                have hfb : Fits bd.t := HF3.out bd (by rw [hbd]; exact List.getElem_mem _)
                have hsb : SlD U D bd.t.args bd.ao bd.cap := HOL.out.sl bd (by rw [hbd]; exact List.getElem_mem _)
                have HFBD := Lib.hid hfb
                have HSB := Lib.hid hsb
                clear hcells hbd xx hfb hsb
                by_cases hen : bd.n = y
                · have e2 : (bd.n == y) = true := by simp [hen]
                  have HEN := Lib.hid hen
                  clear hen
                  go_upto_region 16 with fail
                  go_quiet (fail)
                  obtain ⟨V, hV⟩ : ∃ V : World, V = w6.drewN nq := ⟨_, rfl⟩
                  have hbV : Below w6.heap.size w6 V := by rw [hV]; exact below_drewN (Below.refl _ _) _
                  have ecell : ∀ p : Addr, V.cell? p = w6.cell? p := fun p => by rw [hV]; rfl
                  rw [← hV]
                  rw [← ecell] at x0 x1 x2 x3 x4 x5
                  have hoV := HOO6.out.keep hbV (fun b hb => Nat.lt_of_lt_of_le (HDU.out b hb) hU6)
                  have hoA : (V.alloc (.cells #[.int .i64 bd.n, .int .i64 bd.t.k, .int .i64 bd.t.n, .string bd.t.s, .int .i64 bd.t.q, .slice bd.ao bd.t.args.length bd.cap] 35)).ownsRow U.heap.size 35 6 (.slice oa6 m6 oc6) m6 (bcells bo') := by
                    have h := hoV.own.alloc (.cells #[.int .i64 bd.n, .int .i64 bd.t.k, .int .i64 bd.t.n, .string bd.t.s, .int .i64 bd.t.q, .slice bd.ao bd.t.args.length bd.cap] 35)
                    rw [← HM6.out] at h
                    exact h
                  have HOA := Lib.hid hoA
                  have hlow : ∀ g, (Value.slice oa6 m6 oc6).ownBlock = some g → U.heap.size ≤ g := fun g e => (hoV.own.lt g e).1
                  have HLOW := Lib.hid hlow
                  have HBVU := Lib.hid (HBR6.out.trans (hbV.mono hU6))
                  have hUV : U.heap.size ≤ V.heap.size := Nat.le_trans hU6 hbV.size
                  have hUA : U.heap.size ≤ (V.alloc (.cells #[.int .i64 bd.n, .int .i64 bd.t.k, .int .i64 bd.t.n, .string bd.t.s, .int .i64 bd.t.q, .slice bd.ao bd.t.args.length bd.cap] 35)).heap.size := Nat.le_trans hUV (by simp)
                  have hone : ∀ u ∈ ([.int .i64 bd.n, .int .i64 bd.t.k, .int .i64 bd.t.n, .string bd.t.s, .int .i64 bd.t.q, .slice bd.ao bd.t.args.length bd.cap] : List Value), u.oneCell' = true := bd_one bd
                  clear hV hbV ecell hoV hoA hlow
                  go_wp2_with (first | (at_builtin; go_must (refine wpList_append3 rfl (.tmp 57) (.tmp 62) 25 25 rfl U.heap.size 35 35 i35 _ 6 72 Try.underlying25 Try.underlying25 HI.out hz0 hz1 hz2 rfl (by decide) (.slice oa6 m6 oc6) m6 (bcells bo') rfl HOA.out (some ⟨V.heap.size, 0, none⟩) 1 1 [.int .i64 bd.n, .int .i64 bd.t.k, .int .i64 bd.t.n, .string bd.t.s, .int .i64 bd.t.q, .slice bd.ao bd.t.args.length bd.cap] rfl rfl (fun _ => ⟨_, rfl, new_cells (c := #[.int .i64 bd.n, .int .i64 bd.t.k, .int .i64 bd.t.n, .string bd.t.s, .int .i64 bd.t.q, .slice bd.ao bd.t.args.length bd.cap]) _ (by simp)⟩) hone (by unfold maxLen; omega) (by omega) hUA ?_)))
                  intro v9 w9 hown9 hgr9 hat9
                  have hb9 : Below U.heap.size U w9 := (HBVU.out.alloc hUV _).grown hgr9 hUA (fun g e => HLOW.out g e)
                  have ho9 : OwnB U.heap.size w9 D v9 (bo' ++ [bd]) := by
                    refine ⟨?_, fun b hb => ?_⟩
                    · rw [List.length_append, bcells_append, ← HM6.out, bcells, bcells, List.append_nil]
                      exact hown9
                    · rcases List.mem_append.1 hb with hb | hb
                      · exact (HOO6.out.sl b hb).keep fun d hd off => by rw [below_cells hb9 d (HDU.out d hd) off, below_cells HBR6.out d (HDU.out d hd) off]
                      · rw [List.mem_singleton] at hb
                        rw [hb]
                        exact HSB.out.keep fun d hd off => below_cells hb9 d (HDU.out d hd) off
                  have HO9 := Lib.hid ho9
                  have HB9 := Lib.hid hb9
                  clear hown9 hgr9 hat9 ho9 hb9
                  go_wp2_with fail
                  go_roundw
                  case rel =>
                    refine ⟨q + 1, bo' ++ [bd], by go_num, hqn, HO9.out, ?_, by rw [List.length_append]; have := HLEN6.out; simp; omega, fun b hb => ?_, HB9.out⟩
                    · rw [List.map_append, HPAIR6.out, filter_take hLq, HLQ.out, List.append_assoc]
                      rw [if_pos (by show decide (bd.n = y) = true; simpa using HEN.out)]
                      rfl
                    · rcases List.mem_append.1 hb with hb | hb
                      · exact HFIT6.out b hb
                      · rw [List.mem_singleton] at hb; rw [hb]; exact HFBD.out
                  case measure => simp only [intOf]; omega
                · have e2 : (bd.n == y) = false := by simp [hen]
                  have HEN := Lib.hid hen
                  clear hen
                  go_upto_region 16 with fail
                  go_quiet (fail)
                  go_wp2_with fail
                  go_roundw
                  case rel =>
                    refine ⟨q + 1, bo', by go_num, hqn, HOO6.out.keep (below_drewN (Below.refl _ _) _) (fun b hb => Nat.lt_of_lt_of_le (HDU.out b hb) hU6), ?_, by have := HLEN6.out; omega, HFIT6.out, HBR6.out.trans ((below_drewN (Below.refl _ _) _).mono hU6)⟩
                    rw [HPAIR6.out, filter_take hLq, HLQ.out, if_neg (by show ¬ decide (bd.n = y) = true; simpa using HEN.out), List.append_nil]
                  case measure => simp only [intOf]; omega
              · obtain rfl : q = nl := by omega
                have hd2 : decide ((q : Int) < (q : Int)) = false := by simp
                clear hcy
                go_wp2_with fail
                go_roundw
                case rel =>
                  refine ⟨j + 1, bo', by go_num, hlt, by have h := HOO6.out; exact h, ?_, by have := HLEN6.out; omega, HFIT6.out, HBR6.out⟩
                  rw [HPAIR6.out, outD_take hjn, ← HY.out, show L.take q = L from by rw [HNL.out, ← List.length_map (f := Bd.pair), ← HL.out, List.take_length]]
                case measure => simp only [intOf]; omega
          · obtain rfl : j = nn := by omega
            have hd : decide ((j : Int) < (j : Int)) = false := by simp
            go_wp2_with fail
            go_ret2
            refine ⟨_, bo, by rw [HANS.out]; rfl, ?_, ⟨own_base HOO.out.own (Nat.zero_le _), HOO.out.sl⟩, HFIT.out, HBWU.out.trans (HBR.out.mono HBWU.out.size)⟩
            rw [HPAIR.out, HANS.out, show ns.take j = ns from by rw [HNN.out, List.take_length]]
end Go.Proofs.Ytdeomphilggokaa
