/-
  Proved: the contracts of the reference's Great and in. Condition: what is known is in order.
-/
import Derived.Test.YtdeomphilggokaaU1
set_option linter.unusedSimpArgs false
set_option linter.unusedVariables false
namespace Go.Proofs.Ytdeomphilggokaa
open Go.RowKit

/-- all that the reference's walks ask for -/
structure RK (B : Nat) (sb mb me : Nat) (V : List Int) (D : Nat → Prop) (st : St) (w : World) : Prop where
  r : RU B w sb mb me V D st
  dB : ∀ b, D b → b < B
  lo : B ≤ w.heap.size
  ok : StOk V st
theorem RK.d {B : Nat} {sb mb me : Nat} {V : List Int} {D : Nat → Prop} {st : St} {w : World} (h : RK B sb mb me V D st w) : ∀ b, D b → b < w.heap.size := fun b hb => Nat.lt_of_lt_of_le (h.dB b hb) h.lo
theorem RK.keep {B : Nat} {sb mb me : Nat} {V : List Int} {D : Nat → Prop} {st : St} {w w' : World} (h : RK B sb mb me V D st w) (hb : Below w.heap.size w w') : RK B sb mb me V D st w' :=
  ⟨h.r.keep hb h.d, h.dB, Nat.le_trans h.lo hb.size, h.ok⟩
theorem ty_row {u u' : Ty} {ao : Option Addr} {cap : Nat} : rowOf u ao cap = #[.int .i64 u.k, .int .i64 u.n, .string u.s, .int .i64 u.q, .slice ao u.args.length cap] := rfl
/-- an argument of a type on top, replaced -/
theorem top_kid {V : List Int} {s : St} {t u : Ty} (h : TopOk V s t u) (hk : u.k ≠ 0) : exT s.b t = .mk u.k u.n u.s u.q (u.args.map (exT s.b)) := by
  rcases h.cases with ⟨h1, _⟩ | ⟨_, h2⟩
  · exact absurd h1 hk
  · exact h2
theorem top_free {V : List Int} {s : St} {t u : Ty} (h : TopOk V s t u) (hk : u.k = 0) : s.b u.n = none ∧ u = varT s.e u.n ∧ exT s.b t = bareT u.n := by
  rcases h.cases with ⟨_, h1, h2, h3⟩ | ⟨h1, _⟩
  · exact ⟨h1, h2, h3⟩
  · exact absurd hk h1
set_option maxRecDepth 100000 in
set_option maxHeartbeats 8000000 in
theorem rgreat_any (B : Nat) (sb mb me : Nat) (V : List Int) (D : Nat → Prop) (st : St) : ∀ (f : Nat) (t : Ty), parts (exT st.b t) ≤ f → Wf V st.e t → ∀ (ao : Option Addr) (cap most : Nat) (w : World), RK B sb mb me V D st w → SlD w D t.args ao cap → most ≤ 400 →
    Calls Try.prog 50 #[.pointer (some ⟨sb, 0, none⟩), .agg (rowOf t ao cap), .int .i64 (most : Int)] w fun e w' => e = .returned (.int .i64 ((min (parts (exT st.b t)) (most + 1) : Nat) : Int)) ∧ Below w.heap.size w w' := by
  intro f
  induction f with
  | zero => intro t ht; have := parts_pos (exT st.b t); omega
  | succ f IH =>
    intro t ht hw ao cap most w hk hv hmost
    have HT := Lib.hid ht
    clear ht
    obtain ⟨W, hW⟩ : ∃ W, W = w.alloc (.cells (rowOf t ao cap) 33) := ⟨_, rfl⟩
    obtain ⟨hbW, hlW, hrow⟩ := box_at hW
    have hTO := top_ok hk.ok hw
    have HTOP : Hid (Calls Try.prog 64 #[.pointer (some ⟨sb, 0, none⟩), .agg (rowOf t ao cap)] W (TopP W D (topT st.e st.b t))) := Lib.hid (rtop_any B sb mb me V D st hk.ok t hw ao cap W (hk.keep hbW).d (hk.keep hbW).r (hv.keep fun b hb off => below_cells hbW b (hk.d b hb) off))
    obtain ⟨u, hu⟩ : ∃ u, u = topT st.e st.b t := ⟨_, rfl⟩
    rw [← hu] at hTO HTOP
    have HTO := Lib.hid hTO
    have HK := Lib.hid hk
    have HIH := Lib.hid IH
    have HBW := Lib.hid hbW
    have HROW := Lib.hid hrow
    have hcl : u.args.length ≤ 3000000000000 := hTO.wf.fits.len
    have HPT : Hid (parts (exT st.b t) = 1 + partsL (u.args.map (exT st.b))) := Lib.hid (by
      by_cases hk0 : u.k = 0
      · obtain ⟨_, h2, h3⟩ := top_free hTO hk0
        rw [h3, show u.args = [] from by rw [h2]; rfl]
        simp [bareT, parts, partsL]
      · rw [top_kid hTO hk0, parts])
    obtain ⟨P, hP⟩ : ∃ P, P = parts (exT st.b t) := ⟨_, rfl⟩
    rw [← hP] at HPT HT ⊢
    clear hP
    unfold rowOf at hW HTOP ⊢
    have c0 : W.cell? ⟨w.heap.size, 0, none⟩ = some (.int .i64 t.k) := blk_cell hrow 0
    have c1 : W.cell? ⟨w.heap.size, 1, none⟩ = some (.int .i64 t.n) := blk_cell hrow 1
    have c2 : W.cell? ⟨w.heap.size, 2, none⟩ = some (.string t.s) := blk_cell hrow 2
    have c3 : W.cell? ⟨w.heap.size, 3, none⟩ = some (.int .i64 t.q) := blk_cell hrow 3
    have c4 : W.cell? ⟨w.heap.size, 4, none⟩ = some (.slice ao t.args.length cap) := blk_cell hrow 4
    have HWW := Lib.hid hW
    clear IH hTO hk hu hW hbW hrow hv hw
    go_enter Try.func50, Try.ntmps50
    go_upto_region 1 with fail
    rw [← HWW.out]
    clear HWW
    generalize Value.agg #[.int .i64 t.k, .int .i64 t.n, .string t.s, .int .i64 t.q, .slice ao t.args.length cap] = v0
    go_upto_region 2 with (first | (go_at_call 64; refine HTOP.out.mono ?_; rintro e w1 h1; obtain ⟨ap, cp, rfl, hs1, hb1⟩ := h1.out; have HS1 := Lib.hid hs1; have HB1 := Lib.hid hb1; have hrow1 := blk_below HROW.out hb1 hlW; have HROW1 := Lib.hid hrow1; unfold rowOf at hrow1 ⊢; obtain ⟨⟨k0, k1, k2, k3, k4⟩, ⟨y0, y1, y2, y3, y4⟩⟩ := five_cells hrow1; clear h1 hs1 hb1 hrow1))
    obtain ⟨Y, hY⟩ : ∃ Y, Y = set5 w1 w.heap.size u ap cp := ⟨_, rfl⟩
    have HY := Lib.hid hY
    unfold set5 at hY
    rw [← hY]
    have HBY : Hid (Below w.heap.size w Y) := Lib.hid (by rw [HY.out]; exact below_set5 (bthen HBW.out HB1.out) (Nat.le_refl _))
    have HTY : Hid (TB Y w.heap.size u ap cp) := Lib.hid (by rw [HY.out]; exact TB.set HROW1.out u ap cp)
    have HSY : Hid (SlD Y D u.args ap cp) := Lib.hid (by rw [HY.out]; exact HS1.out.keep fun b hb off => below_cells (below_set5 (q := u) (aq := ap) (cq := cp) (Below.refl w.heap.size w1) (Nat.le_refl _)) b (HK.out.d b hb) off)
    have hpY : w.heap.size < Y.heap.size := lt_of_block HTY.out
    clear c0 c1 c2 c3 c4 k0 k1 k2 k3 k4 y0 y1 y2 y3 y4 hY HY HROW1 HROW HTOP HB1 HS1 HBW hlW
    clear w1 W
    have hTYc := HTY.out
    unfold rowOf at hTYc
    obtain ⟨⟨c0, c1, c2, c3, c4⟩, _⟩ := five_cells hTYc
    clear hTYc
    obtain ⟨c, hc⟩ : ∃ c, c = u.args.length := ⟨_, rfl⟩
    rw [← hc] at c4 hcl
    have HC := Lib.hid hc
    clear hc
    go_wp2_with fail
    go_loopw [7, 8] (fun v i wr => ∃ (j nn : Nat), v = .int .i64 (nn : Int) ∧ i = .int .i64 (j : Int) ∧ j ≤ c ∧ nn = min (1 + partsL ((u.args.map (exT st.b)).take j)) (most + 1) ∧ Below Y.heap.size Y wr) (fun _ i _ => c - (intOf i).toNat)
    case atStart => exact ⟨0, 1, rfl, rfl, Nat.zero_le _, by simp [partsL], Below.refl _ _⟩
    case round =>
      obtain ⟨j, nn, rfl, rfl, hj, hnn, hbr⟩ := hrel
      obtain ⟨wo, rfl⟩ : ∃ wo : World, wo = wr := ⟨_, rfl⟩
      have hrow2 := blk_below HTY.out hbr hpY
      have d4 : wo.cell? ⟨w.heap.size, 4, none⟩ = some (.slice ap c cp) := by rw [HC.out]; exact blk_cell hrow2 4
      have HBR := Lib.hid hbr
      have HNN := Lib.hid hnn
      clear hbr hrow2 hnn c0 c1 c2 c3 c4
      by_cases hlt : j < c
      · have hd : decide ((j : Int) < (c : Int)) = true := by simp; omega
        by_cases hle : nn ≤ most
        · have hd2 : decide ((nn : Int) ≤ (most : Int)) = true := by simp; omega
          have hjk : j < u.args.length := by rw [← HC.out]; exact hlt
          have hbo : Below w.heap.size w wo := bthen' HBY.out HBR.out HBY.out.size
          have hvr : SlD wo D u.args ap cp := HSY.out.keep fun b hb off => below_cells HBR.out b (Nat.lt_of_lt_of_le (HK.out.d b hb) HBY.out.size) off
          obtain ⟨b, p, aq, cq, hDb, hix, x0, x1, x2, x3, x4, hs⟩ := arg_cells hvr hjk
          rw [← HC.out] at hix
          obtain ⟨x, hx⟩ : ∃ x, x = u.args[j] := ⟨_, rfl⟩
          rw [← hx] at x0 x1 x2 x3 x4 hs
          obtain ⟨m2, hm2⟩ : ∃ m2, m2 = most - nn := ⟨_, rfl⟩
          have hsub : (most : Int) - (nn : Int) = (m2 : Int) := by omega
          have hmem : x ∈ u.args := by rw [hx]; exact List.getElem_mem _
          have hk0 : u.k ≠ 0 := fun h => by
            obtain ⟨_, h2, _⟩ := top_free HTO.out h
            rw [h2] at hmem
            cases hmem
          have hcall := HIH.out x (by have h1 := HT.out; have h2 := HPT.out; have := parts_mem (List.mem_map_of_mem (f := exT st.b) hmem); omega) (HTO.out.wf.kid hk0 hmem) aq cq m2 wo (HK.out.keep hbo) hs (by omega)
          obtain ⟨r, hr⟩ : ∃ r, r = min (parts (exT st.b x)) (m2 + 1) := ⟨_, rfl⟩
          rw [← hr] at hcall
          unfold rowOf at hcall
          have HCALL := Lib.hid hcall
          have HU := Lib.hid hx
          have HM := Lib.hid hm2
          have HR := Lib.hid hr
          have hr9 : r ≤ 401 := by rw [hr]; exact Nat.le_trans (Nat.min_le_right _ _) (by omega)
          have hnn9 : nn ≤ 400 := by omega
          clear hcall hvr hs hx hm2 hr hmem hbo hk0
          go_wp2_with (first | (go_at_call 50; refine HCALL.out.mono ?_; rintro e w7 ⟨rfl, hb7⟩))
          go_roundw
          case rel =>
            refine ⟨j + 1, nn + r, by go_num, by go_num, hlt, ?_, HBR.out.trans (hb7.mono HBR.out.size)⟩
            have h1 := HNN.out
            have h2 := HR.out
            have h3 := HM.out
            rw [partsL_take (by simpa using hjk), List.getElem_map, ← HU.out]
            generalize partsL (List.take j (List.map (exT st.b) u.args)) = A at *
            generalize parts (exT st.b x) = C at *
            omega
          case measure => simp only [intOf]; omega
        · have hd2 : decide ((nn : Int) ≤ (most : Int)) = false := by simp; omega
          go_wp2_with fail
          go_ret
          refine ⟨?_, bthen' HBY.out HBR.out HBY.out.size⟩
          have h1 := HNN.out
          have h2 := HPT.out
          have h3 := partsL_take_le (u.args.map (exT st.b)) j
          have e : nn = min P (most + 1) := by
            generalize partsL (List.take j (List.map (exT st.b) u.args)) = A at *
            generalize partsL (List.map (exT st.b) u.args) = C at *
            omega
          exact congrArg (fun n : Nat => Ending.returned (.int .i64 (n : Int))) e
      · obtain rfl : j = c := by omega
        have hd : decide ((j : Int) < (j : Int)) = false := by simp
        go_wp2_with fail
        go_ret
        refine ⟨?_, bthen' HBY.out HBR.out HBY.out.size⟩
        have h1 := HNN.out
        have h2 := HPT.out
        rw [HC.out, List.take_of_length_le (by simp)] at h1
        have e : nn = min P (most + 1) := by
          generalize partsL (List.map (exT st.b) u.args) = C at *
          omega
        exact congrArg (fun n : Nat => Ending.returned (.int .i64 (n : Int))) e
theorem occL_take_no {n : Int} {l : List Ty} {j : Nat} {x : Ty} (hx : l[j]? = some x) (h1 : n ∉ occL (l.take j)) (h2 : n ∉ occD x) : n ∉ occL (l.take (j + 1)) := by
  obtain ⟨hl, rfl⟩ := List.getElem?_eq_some_iff.1 hx
  rw [occL_take hl, List.mem_append, not_or]
  exact ⟨h1, h2⟩
set_option maxRecDepth 100000 in
set_option maxHeartbeats 8000000 in
theorem rin_any (B : Nat) (sb mb me : Nat) (V : List Int) (D : Nat → Prop) (st : St) (n : Int) : ∀ (f : Nat) (t : Ty), parts (exT st.b t) ≤ f → Wf V st.e t → ∀ (ao : Option Addr) (cap : Nat) (w : World), RK B sb mb me V D st w → SlD w D t.args ao cap →
    Calls Try.prog 89 #[.pointer (some ⟨sb, 0, none⟩), .int .i64 n, .agg (rowOf t ao cap)] w fun e w' => e = .returned (.bool (decide (n ∈ occD (exT st.b t)))) ∧ Below w.heap.size w w' := by
  intro f
  induction f with
  | zero => intro t ht; have := parts_pos (exT st.b t); omega
  | succ f IH =>
    intro t ht hw ao cap w hk hv
    have HT := Lib.hid ht
    clear ht
    obtain ⟨W, hW⟩ : ∃ W, W = w.alloc (.cells (rowOf t ao cap) 33) := ⟨_, rfl⟩
    obtain ⟨hbW, hlW, hrow⟩ := box_at hW
    have hTO := top_ok hk.ok hw
    have HTOP : Hid (Calls Try.prog 64 #[.pointer (some ⟨sb, 0, none⟩), .agg (rowOf t ao cap)] W (TopP W D (topT st.e st.b t))) := Lib.hid (rtop_any B sb mb me V D st hk.ok t hw ao cap W (hk.keep hbW).d (hk.keep hbW).r (hv.keep fun b hb off => below_cells hbW b (hk.d b hb) off))
    obtain ⟨u, hu⟩ : ∃ u, u = topT st.e st.b t := ⟨_, rfl⟩
    rw [← hu] at hTO HTOP
    have HTO := Lib.hid hTO
    have HK := Lib.hid hk
    have HIH := Lib.hid IH
    have HBW := Lib.hid hbW
    have HROW := Lib.hid hrow
    have hcl : u.args.length ≤ 3000000000000 := hTO.wf.fits.len
    obtain ⟨ans, hans⟩ : ∃ ans, ans = decide (n ∈ occD (exT st.b t)) := ⟨_, rfl⟩
    rw [← hans]
    have HA0 : Hid (u.k = 0 → ans = decide (u.n = n)) := Lib.hid (fun h0 => by
      obtain ⟨_, _, h3⟩ := top_free hTO h0
      rw [hans, h3]
      simp [bareT, occD, eq_comm])
    have HA1 : Hid (u.k ≠ 0 → ans = decide (n ∈ occL (u.args.map (exT st.b)))) := Lib.hid (fun h0 => by rw [hans, top_kid hTO h0, occD, if_neg h0])
    have HPT : Hid (u.k ≠ 0 → parts (exT st.b t) = 1 + partsL (u.args.map (exT st.b))) := Lib.hid (fun h0 => by rw [top_kid hTO h0, parts])
    clear hans
    unfold rowOf at hW HTOP ⊢
    have c0 : W.cell? ⟨w.heap.size, 0, none⟩ = some (.int .i64 t.k) := blk_cell hrow 0
    have c1 : W.cell? ⟨w.heap.size, 1, none⟩ = some (.int .i64 t.n) := blk_cell hrow 1
    have c2 : W.cell? ⟨w.heap.size, 2, none⟩ = some (.string t.s) := blk_cell hrow 2
    have c3 : W.cell? ⟨w.heap.size, 3, none⟩ = some (.int .i64 t.q) := blk_cell hrow 3
    have c4 : W.cell? ⟨w.heap.size, 4, none⟩ = some (.slice ao t.args.length cap) := blk_cell hrow 4
    have HWW := Lib.hid hW
    clear IH hTO hk hu hW hbW hrow hv hw
    go_enter Try.func89, Try.ntmps89
    go_upto_region 1 with fail
    rw [← HWW.out]
    clear HWW
    generalize Value.agg #[.int .i64 t.k, .int .i64 t.n, .string t.s, .int .i64 t.q, .slice ao t.args.length cap] = v0
    go_upto_region 2 with (first | (go_at_call 64; refine HTOP.out.mono ?_; rintro e w1 h1; obtain ⟨ap, cp, rfl, hs1, hb1⟩ := h1.out; have HS1 := Lib.hid hs1; have HB1 := Lib.hid hb1; have hrow1 := blk_below HROW.out hb1 hlW; have HROW1 := Lib.hid hrow1; unfold rowOf at hrow1 ⊢; obtain ⟨⟨k0, k1, k2, k3, k4⟩, ⟨y0, y1, y2, y3, y4⟩⟩ := five_cells hrow1; clear h1 hs1 hb1 hrow1))
    obtain ⟨Y, hY⟩ : ∃ Y, Y = set5 w1 w.heap.size u ap cp := ⟨_, rfl⟩
    have HY := Lib.hid hY
    unfold set5 at hY
    rw [← hY]
    have HBY : Hid (Below w.heap.size w Y) := Lib.hid (by rw [HY.out]; exact below_set5 (bthen HBW.out HB1.out) (Nat.le_refl _))
    have HTY : Hid (TB Y w.heap.size u ap cp) := Lib.hid (by rw [HY.out]; exact TB.set HROW1.out u ap cp)
    have HSY : Hid (SlD Y D u.args ap cp) := Lib.hid (by rw [HY.out]; exact HS1.out.keep fun b hb off => below_cells (below_set5 (q := u) (aq := ap) (cq := cp) (Below.refl w.heap.size w1) (Nat.le_refl _)) b (HK.out.d b hb) off)
    have hpY : w.heap.size < Y.heap.size := lt_of_block HTY.out
    clear c0 c1 c2 c3 c4 k0 k1 k2 k3 k4 y0 y1 y2 y3 y4 hY HY HROW1 HROW HTOP HB1 HS1 HBW hlW
    clear w1 W
    have hTYc := HTY.out
    unfold rowOf at hTYc
    obtain ⟨⟨c0, c1, c2, c3, c4⟩, _⟩ := five_cells hTYc
    clear hTYc
    obtain ⟨c, hc⟩ : ∃ c, c = u.args.length := ⟨_, rfl⟩
    rw [← hc] at c4 hcl
    have HC := Lib.hid hc
    clear hc
    by_cases hk0 : u.k = 0
    · have e0 : (u.k == 0) = true := by simp [hk0]
      have HE := Lib.hid (HA0.out hk0)
      clear hk0
      go_wp2_with fail
      go_ret
      exact ⟨congrArg (fun b : Bool => Ending.returned (.bool b)) (by rw [HE.out]; rfl), HBY.out⟩
    · have e0 : (u.k == 0) = false := by simp [hk0]
      have HE := Lib.hid (HA1.out hk0)
      have HPE := Lib.hid (HPT.out hk0)
      have HK0 := Lib.hid hk0
      clear hk0 HA0 HA1 HPT
      go_wp2_with fail
      go_loopw [7, 8] (fun i _ wr => ∃ j : Nat, i = .int .i64 (j : Int) ∧ j ≤ c ∧ n ∉ occL ((u.args.map (exT st.b)).take j) ∧ Below Y.heap.size Y wr) (fun i _ _ => c - (intOf i).toNat)
      case atStart => exact ⟨0, rfl, Nat.zero_le _, by simp [occL], Below.refl _ _⟩
      case round =>
        obtain ⟨j, rfl, hj, hno, hbr⟩ := hrel
        obtain ⟨wo, rfl⟩ : ∃ wo : World, wo = wr := ⟨_, rfl⟩
        have hrow2 := blk_below HTY.out hbr hpY
        have d4 : wo.cell? ⟨w.heap.size, 4, none⟩ = some (.slice ap c cp) := by rw [HC.out]; exact blk_cell hrow2 4
        have HBR := Lib.hid hbr
        have HNO := Lib.hid hno
        clear hbr hrow2 hno c0 c1 c2 c3 c4
        by_cases hlt : j < c
        · have hd : decide ((j : Int) < (c : Int)) = true := by simp; omega
          have hjk : j < u.args.length := by rw [← HC.out]; exact hlt
          have hbo : Below w.heap.size w wo := bthen' HBY.out HBR.out HBY.out.size
          have hvr : SlD wo D u.args ap cp := HSY.out.keep fun b hb off => below_cells HBR.out b (Nat.lt_of_lt_of_le (HK.out.d b hb) HBY.out.size) off
          obtain ⟨b, p, aq, cq, hDb, hix, x0, x1, x2, x3, x4, hs⟩ := arg_cells hvr hjk
          rw [← HC.out] at hix
          obtain ⟨x, hx⟩ : ∃ x, x = u.args[j] := ⟨_, rfl⟩
          rw [← hx] at x0 x1 x2 x3 x4 hs
          have hmem : x ∈ u.args := by rw [hx]; exact List.getElem_mem _
          have hcall := HIH.out x (by have h1 := HT.out; have h2 := HPE.out; have := parts_mem (List.mem_map_of_mem (f := exT st.b) hmem); omega) (HTO.out.wf.kid HK0.out hmem) aq cq wo (HK.out.keep hbo) hs
          have HM : Hid ((u.args.map (exT st.b))[j]? = some (exT st.b x)) := Lib.hid (by rw [List.getElem?_map, List.getElem?_eq_getElem hjk, hx]; rfl)
          obtain ⟨r, hr⟩ : ∃ r, r = decide (n ∈ occD (exT st.b x)) := ⟨_, rfl⟩
          rw [← hr] at hcall
          unfold rowOf at hcall
          have HCALL := Lib.hid hcall
          have HR := Lib.hid hr
          clear hcall hvr hs hx hr hmem hbo
          cases r with
          | true =>
            go_wp2_with (first | (go_at_call 89; refine HCALL.out.mono ?_; rintro e w7 ⟨rfl, hb7⟩))
            go_ret
            refine ⟨?_, bthen' HBY.out (bthen HBR.out hb7) HBY.out.size⟩
            have h1 := of_decide_eq_true HR.out.symm
            have e : ans = true := by
              rw [HE.out, decide_eq_true_eq]
              exact occL_mem (List.mem_of_getElem? HM.out) h1
            exact congrArg (fun b : Bool => Ending.returned (.bool b)) e.symm
          | false =>
            go_wp2_with (first | (go_at_call 89; refine HCALL.out.mono ?_; rintro e w7 ⟨rfl, hb7⟩))
            go_roundw
            case rel => exact ⟨j + 1, by go_num, hlt, occL_take_no HM.out HNO.out (of_decide_eq_false HR.out.symm), bthen HBR.out hb7⟩
            case measure => simp only [intOf]; omega
        · obtain rfl : j = c := by omega
          have hd : decide ((j : Int) < (j : Int)) = false := by simp
          go_wp2_with fail
          go_ret
          refine ⟨?_, bthen' HBY.out HBR.out HBY.out.size⟩
          have h1 := HNO.out
          rw [HC.out, List.take_of_length_le (by simp)] at h1
          have e : ans = false := by rw [HE.out]; simpa using h1
          exact congrArg (fun b : Bool => Ending.returned (.bool b)) e.symm
end Go.Proofs.Ytdeomphilggokaa
