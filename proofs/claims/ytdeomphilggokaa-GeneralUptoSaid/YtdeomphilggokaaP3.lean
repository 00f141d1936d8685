/-
  Proved: the contract of the program's within. Condition: what is known is in order.
-/
import Derived.Test.YtdeomphilggokaaP2
set_option linter.unusedSimpArgs false
set_option linter.unusedVariables false
namespace Go.Proofs.Ytdeomphilggokaa
open Go.RowKit

/-- a store of what stands there changes nothing -/
theorem set_same {w : World} {b i : Nat} {c : Array Value} {t : TypeId} {f : Nat × Nat} {v : Value} (h : w.heap[b]? = some (.cells c t f)) (hi : c[i]? = some v) : Below w.heap.size w (w.setCell ⟨b, i, none⟩ v) := by
  refine ⟨rfl, rfl, rfl, by simp [World.setCell], fun k hk => ?_⟩
  by_cases e : k = b
  · subst e
    rw [blk_set h]
    have hc : c.setIfInBounds i v = c := by
      refine Array.ext (by simp) fun j h1 h2 => ?_
      rw [Array.getElem_setIfInBounds]
      split
      · rename_i e
        subst e
        rw [Array.getElem?_eq_getElem h2] at hi
        exact (Option.some.inj hi).symm
      · rfl
    rw [hc, h]
  · exact Below.heap_setCell _ _ _ _ e
set_option maxRecDepth 100000 in
set_option maxHeartbeats 8000000 in
theorem pwithin_any (B : Nat) (ub m : Nat) (V : List Int) (pl : Int → Nat) (D : Nat → Prop) (st : St) (n : Int) : ∀ (f : Nat) (t : Ty), parts (exT st.b t) ≤ f → Wf V st.e t → ∀ (ao : Option Addr) (cap : Nat) (w : World), PK B ub m V pl D st w → SlD w D t.args ao cap →
    Calls Try.prog 66 #[.pointer (some ⟨ub, 0, none⟩), .int .i64 n, .agg (rowOf t ao cap), .int .i64 0] w fun e w' => e = .returned (.bool (decide (n ∈ occD (exT st.b t)))) ∧ Below w.heap.size w w' := by
  intro f
  induction f with
  | zero => intro t ht; have := parts_pos (exT st.b t); omega
  | succ f IH =>
    intro t ht hw ao cap w hk hv
    have HT := Lib.hid ht
    clear ht
    obtain ⟨W, hW⟩ : ∃ W, W = w.alloc (.cells (rowOf t ao cap) 33) := ⟨_, rfl⟩
    obtain ⟨hbW, hlW, hrow⟩ := box_at hW
    have hTO := top_ok hk.ok hw
    have HTOP : Hid (Calls Try.prog 52 #[.pointer (some ⟨ub, 0, none⟩), .agg (rowOf t ao cap)] W (TopP W D (topT st.e st.b t))) := Lib.hid (pseen_any B ub m V pl D st t hw ao cap W (hk.keep hbW) (hv.keep fun b hb off => below_cells hbW b (hk.d b hb) off))
    obtain ⟨u, hu⟩ : ∃ u, u = topT st.e st.b t := ⟨_, rfl⟩
    rw [← hu] at hTO HTOP
    have HTO := Lib.hid hTO
    have HK := Lib.hid hk
    have HIH := Lib.hid IH
    have HBW := Lib.hid hbW
    have HROW := Lib.hid hrow
    have hcl : u.args.length ≤ 3000000000000 := hTO.wf.fits.len
    obtain ⟨ans, hans⟩ : ∃ ans, ans = decide (n ∈ occD (exT st.b t)) := ⟨_, rfl⟩
    rw [← hans]
    have HA0 : Hid (u.k = 0 → ans = decide (u.n = n)) := Lib.hid (fun h0 => by
      obtain ⟨_, _, h3⟩ := top_free hTO h0
      rw [hans, h3]
      simp [bareT, occD, eq_comm])
    have HA1 : Hid (u.k ≠ 0 → ans = decide (n ∈ occL (u.args.map (exT st.b)))) := Lib.hid (fun h0 => by rw [hans, top_kid hTO h0, occD, if_neg h0])
    have HPT : Hid (u.k ≠ 0 → parts (exT st.b t) = 1 + partsL (u.args.map (exT st.b))) := Lib.hid (fun h0 => by rw [top_kid hTO h0, parts])
    clear hans
    unfold rowOf at hW HTOP ⊢
    have c0 : W.cell? ⟨w.heap.size, 0, none⟩ = some (.int .i64 t.k) := blk_cell hrow 0
    have c1 : W.cell? ⟨w.heap.size, 1, none⟩ = some (.int .i64 t.n) := blk_cell hrow 1
    have c2 : W.cell? ⟨w.heap.size, 2, none⟩ = some (.string t.s) := blk_cell hrow 2
    have c3 : W.cell? ⟨w.heap.size, 3, none⟩ = some (.int .i64 t.q) := blk_cell hrow 3
    have c4 : W.cell? ⟨w.heap.size, 4, none⟩ = some (.slice ao t.args.length cap) := blk_cell hrow 4
    have HWW := Lib.hid hW
    clear IH hTO hk hu hW hbW hrow hv hw
    go_enter Try.func66, Try.ntmps66
    go_upto_region 1 with fail
    rw [← HWW.out]
    clear HWW
    generalize Value.agg #[.int .i64 t.k, .int .i64 t.n, .string t.s, .int .i64 t.q, .slice ao t.args.length cap] = v0
    go_upto_region 2 with (first | (go_at_call 52; refine HTOP.out.mono ?_; rintro e w1 h1; obtain ⟨ap, cp, rfl, hs1, hb1⟩ := h1.out; have HS1 := Lib.hid hs1; have HB1 := Lib.hid hb1; have hrow1 := blk_below HROW.out hb1 hlW; have HROW1 := Lib.hid hrow1; unfold rowOf at hrow1 ⊢; obtain ⟨⟨k0, k1, k2, k3, k4⟩, ⟨y0, y1, y2, y3, y4⟩⟩ := five_cells hrow1; clear h1 hs1 hb1 hrow1))
    obtain ⟨Y, hY⟩ : ∃ Y, Y = set5 w1 w.heap.size u ap cp := ⟨_, rfl⟩
    have HY := Lib.hid hY
    unfold set5 at hY
    rw [← hY]
    have HBY : Hid (Below w.heap.size w Y) := Lib.hid (by rw [HY.out]; exact below_set5 (bthen HBW.out HB1.out) (Nat.le_refl _))
    have HTY : Hid (TB Y w.heap.size u ap cp) := Lib.hid (by rw [HY.out]; exact TB.set HROW1.out u ap cp)
    have HSY : Hid (SlD Y D u.args ap cp) := Lib.hid (by rw [HY.out]; exact HS1.out.keep fun b hb off => below_cells (below_set5 (q := u) (aq := ap) (cq := cp) (Below.refl w.heap.size w1) (Nat.le_refl _)) b (HK.out.d b hb) off)
    have hpY : w.heap.size < Y.heap.size := lt_of_block HTY.out
    clear c0 c1 c2 c3 c4 k0 k1 k2 k3 k4 y0 y1 y2 y3 y4 hY HY HROW1 HROW HTOP HB1 HS1 HBW hlW
    clear w1 W
    have hTYc := HTY.out
    unfold rowOf at hTYc
    obtain ⟨⟨c0, c1, c2, c3, c4⟩, -⟩ := five_cells hTYc
    clear hTYc
    obtain ⟨c, hc⟩ : ∃ c, c = u.args.length := ⟨_, rfl⟩
    rw [← hc] at c4 hcl
    have HC := Lib.hid hc
    clear hc
    by_cases hk0 : u.k = 0
    · have e0 : (u.k == 0) = true := by simp [hk0]
      have HE := Lib.hid (HA0.out hk0)
      have hkY := HK.out.keep HBY.out
      have hnV : u.n ∈ V := HTO.out.wf.vs u.n (by rw [occ_args, if_pos hk0]; simp)
      have HOF := Lib.hid (of_hit B ub m V pl D st Y hkY.r hnV)
      obtain ⟨x, hvx, _⟩ := hkY.r.at' hnV
      have HVX := Lib.hid hvx
      unfold vcells at hvx
      obtain ⟨⟨q0, q1, q2, q3, q4, q5, q6, q7⟩, qf⟩ := eight_cells hvx
      have qf7 := qf 7
      have hne : ¬ pl u.n = w.heap.size := fun e => by
        rw [e] at hvx
        have h := hvx.symm.trans (show Y.heap[w.heap.size]? = _ from HTY.out)
        cases h
      have hne' : ¬ w.heap.size = pl u.n := fun e => hne e.symm
      clear hk0 hkY hnV hvx qf
      go_wp2_with (first | (go_at_call 27; refine HOF.out.mono ?_; rintro e w7 ⟨rfl, rfl⟩))
      go_ret
      refine ⟨congrArg (fun b : Bool => Ending.returned (.bool b)) (by rw [HE.out]; rfl), bthen HBY.out ?_⟩
      exact set_same HVX.out rfl
    · have e0 : (u.k == 0) = false := by simp [hk0]
      have HE := Lib.hid (HA1.out hk0)
      have HPE := Lib.hid (HPT.out hk0)
      have HK0 := Lib.hid hk0
      clear hk0 HA0 HA1 HPT
      go_wp2_with fail
      go_loopw [11, 38] (fun _ i wr => ∃ j : Nat, i = .int .i64 (j : Int) ∧ j ≤ c ∧ n ∉ occL ((u.args.map (exT st.b)).take j) ∧ Below Y.heap.size Y wr) (fun _ i _ => c - (intOf i).toNat)
      case atStart => exact ⟨0, rfl, Nat.zero_le _, by simp [occL], Below.refl _ _⟩
      case round =>
        obtain ⟨j, rfl, hj, hno, hbr⟩ := hrel
        obtain ⟨wo, rfl⟩ : ∃ wo : World, wo = wr := ⟨_, rfl⟩
        have HBR := Lib.hid hbr
        have HNO := Lib.hid hno
        clear hbr hno c0 c1 c2 c3 c4
        by_cases hlt : j < c
        · have hd : decide ((j : Int) < (c : Int)) = true := by simp; omega
          have hjk : j < u.args.length := by rw [← HC.out]; exact hlt
          have hbo : Below w.heap.size w wo := bthen' HBY.out HBR.out HBY.out.size
          have hvr : SlD wo D u.args ap cp := HSY.out.keep fun b hb off => below_cells HBR.out b (Nat.lt_of_lt_of_le (HK.out.d b hb) HBY.out.size) off
          obtain ⟨b, p, aq, cq, hDb, hix, x0, x1, x2, x3, x4, hs⟩ := arg_cells hvr hjk
          rw [← HC.out] at hix
          obtain ⟨x, hx⟩ : ∃ x, x = u.args[j] := ⟨_, rfl⟩
          rw [← hx] at x0 x1 x2 x3 x4 hs
          have hmem : x ∈ u.args := by rw [hx]; exact List.getElem_mem _
          obtain ⟨Z, hZ⟩ : ∃ Z, Z = wo.alloc (.cells (rowOf x aq cq) 33) := ⟨_, rfl⟩
          obtain ⟨hbZ, hlZ, hrZ⟩ := box_at hZ
          have hkZ := (HK.out.keep hbo).keep hbZ
          have hcall := HIH.out x (by have h1 := HT.out; have h2 := HPE.out; have := parts_mem (List.mem_map_of_mem (f := exT st.b) hmem); omega) (HTO.out.wf.kid HK0.out hmem) aq cq Z hkZ (hs.keep fun b hb off => below_cells hbZ b ((HK.out.keep hbo).d b hb) off)
          have HM : Hid ((u.args.map (exT st.b))[j]? = some (exT st.b x)) := Lib.hid (by rw [List.getElem?_map, List.getElem?_eq_getElem hjk, hx]; rfl)
          obtain ⟨r, hr⟩ : ∃ r, r = decide (n ∈ occD (exT st.b x)) := ⟨_, rfl⟩
          rw [← hr] at hcall
          unfold rowOf at hcall hZ hrZ
          obtain ⟨⟨k0, k1, k2, k3, k4⟩, -⟩ := five_cells hrZ
          have HCALL := Lib.hid hcall
          have HR := Lib.hid hr
          have HBZ := Lib.hid (bthen HBR.out hbZ)
          have HZZ := Lib.hid hZ
          clear hcall hvr hs hx hr hmem hbo hbZ hrZ hZ hkZ hDb
          cases r with
          | true =>
            go_upto_region 9 with fail
            rw [← HZZ.out]
            go_wp2_with (first | (go_at_call 66; refine HCALL.out.mono ?_; rintro e w7 ⟨rfl, hb7⟩))
            go_ret
            refine ⟨?_, bthen' HBY.out (bthen HBZ.out hb7) HBY.out.size⟩
            have h1 := of_decide_eq_true HR.out.symm
            have e : ans = true := by
              rw [HE.out, decide_eq_true_eq]
              exact occL_mem (List.mem_of_getElem? HM.out) h1
            exact congrArg (fun b : Bool => Ending.returned (.bool b)) e.symm
          | false =>
            go_upto_region 9 with fail
            rw [← HZZ.out]
            go_wp2_with (first | (go_at_call 66; refine HCALL.out.mono ?_; rintro e w7 ⟨rfl, hb7⟩))
            go_roundw
            case rel => exact ⟨j + 1, by go_num, hlt, occL_take_no HM.out HNO.out (of_decide_eq_false HR.out.symm), bthen HBZ.out hb7⟩
            case measure => simp only [intOf]; omega
        · obtain rfl : j = c := by omega
          have hd : decide ((j : Int) < (j : Int)) = false := by simp
          go_wp2_with fail
          go_ret
          refine ⟨?_, bthen' HBY.out HBR.out HBY.out.size⟩
          have h1 := HNO.out
          rw [HC.out, List.take_of_length_le (by simp)] at h1
          have e : ans = false := by rw [HE.out]; simpa using h1
          exact congrArg (fun b : Bool => Ending.returned (.bool b)) e.symm
end Go.Proofs.Ytdeomphilggokaa
