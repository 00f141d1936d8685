/-
  Proved: the contract of the program's compared. Condition: what is known is in order.
-/
import Derived.Test.YtdeomphilggokaaP3
set_option linter.unusedSimpArgs false
set_option linter.unusedVariables false
namespace Go.Proofs.Ytdeomphilggokaa
open Go.RowKit

/-- all cells but those of variables stand as they stood -/
def BoxP (w w' : World) : Prop := ∀ (b : Nat) (c : Array Value) (t : TypeId) (f : Nat × Nat), t ≠ 58 → w.heap[b]? = some (.cells c t f) → w'.heap[b]? = some (.cells c t f)
theorem BoxP.refl (w : World) : BoxP w w := fun _ _ _ _ _ h => h
theorem BoxP.trans {w w1 w2 : World} (h : BoxP w w1) (h2 : BoxP w1 w2) : BoxP w w2 := fun b c t f ht hb => h2 b c t f ht (h b c t f ht hb)
theorem BoxP.of_below {w w' : World} (h : Below w.heap.size w w') : BoxP w w' := fun b c t f _ hb => blk_below hb h (lt_of_block hb)
theorem boxP_set {w : World} {p i : Nat} {c : Array Value} {f : Nat × Nat} (h : w.heap[p]? = some (.cells c 58 f)) (v : Value) : BoxP w (w.setCell ⟨p, i, none⟩ v) := fun b c' t f' ht hb => by
  have hne : b ≠ p := fun e => by
    rw [e, h] at hb
    cases hb
    exact ht rfl
  exact blk_set_ne hb hne i v
/-- a variable's cells turned -/
theorem PU.turn {B : Nat} {w w' : World} {ub m : Nat} {V : List Int} {pl : Int → Nat} {D : Nat → Prop} {st st' : St} (h : PU B w ub m V pl D st) {n : Int} (hn : n ∈ V) (hg : w.grownBy w' (some (pl n))) (hD : ∀ b, D b → b < B) (hB : B ≤ w.heap.size) (hvar : VarC w' D (pl n) (st'.b n) (st'.e n)) (hoth : ∀ k ∈ V, k ≠ n → st'.b k = st.b k ∧ st'.e k = st.e k) (hout : True) : PU B w' ub m V pl D st' := by
  obtain ⟨x, hx, _⟩ := h.var n hn
  have key : ∀ (b : Nat) (o : Obj), w.heap[b]? = some o → b ≠ pl n → w'.heap[b]? = w.heap[b]? := fun b o hb hne => hg.block b (lt_of_block hb) (fun e => hne (Option.some.inj e))
  have hbel : ∀ b, D b → ∀ off, w'.cell? ⟨b, off, none⟩ = w.cell? ⟨b, off, none⟩ := fun b hb off => World.cell?_of_block (hg.block b (Nat.lt_of_lt_of_le (hD b hb) hB) (fun e => by
    have h1 : b = pl n := Option.some.inj e
    have h2 := h.low.2.2 n hn
    have := hD b hb
    omega))
  obtain ⟨es, clock, hmm⟩ := h.mp.f.isMap
  refine ⟨(key _ _ h.u (fun e => by have := h.u; rw [e, hx] at this; cases this)).trans h.u, h.mp.of_same (key _ _ hmm (fun e => by rw [e, hx] at hmm; cases hmm)), fun k hk => ?_, h.inj, h.low, h.vs, h.i64⟩
  by_cases e : k = n
  · rw [e]; exact hvar
  · obtain ⟨h1, h2⟩ := hoth k hk e
    rw [h1, h2]
    obtain ⟨y, hy, hy2⟩ := h.var k hk
    exact (h.var k hk).keep (key _ _ hy (fun e2 => e (h.inj k hk n hn e2))) hbel
/-- a variable is marked -/
theorem PU.mark {B : Nat} {w : World} {ub m : Nat} {V : List Int} {pl : Int → Nat} {D : Nat → Prop} {b : Bnd} {e : Int → Bool} (h : PU B w ub m V pl D ⟨b, e⟩) (hD : ∀ b, D b → b < B) (hB : B ≤ w.heap.size) {n : Int} (hn : n ∈ V) : PU B (w.setCell ⟨pl n, 6, none⟩ (.bool true)) ub m V pl D ⟨b, markE e [n]⟩ := by
  obtain ⟨x, hx, hy⟩ := h.at' hn
  refine h.turn hn (gr_set w (pl n) 6 (.bool true)) hD hB ⟨x, ?_, fun y hy' => ⟨(hy y hy').1, (hy y hy').2.keep fun d hd off => ?_⟩⟩ (fun k _ hk => ⟨rfl, ?_⟩) trivial
  · have h1 := blk_set hx 6 (.bool true)
    rw [h1]
    show some (Obj.cells _ 58) = some (Obj.cells (vcells x (b n).isSome (markE e [n] n)) 58)
    have e1 : markE e [n] n = true := by simp [markE]
    rw [e1]
    rfl
  · refine World.cell?_of_block (Below.heap_setCell _ _ _ _ (fun e => ?_))
    have h2 := h.low.2.2 n hn
    have h3 : d = pl n := e
    have := hD d hd
    omega
  · show markE e [n] k = e k
    simp [markE, hk]
/-- what compared leaves -/
structure CmpP (B ub m : Nat) (V : List Int) (pl : Int → Nat) (D : Nat → Prop) (b : Bnd) (e : Int → Bool) (T : Ty) (w : World) (en : Ending) (w' : World) : Prop where
  val : en = .returned (.bool (cmpT T))
  r : cmpT T = true → PU B w' ub m V pl D ⟨b, markE e (cvT T)⟩
  bel : Below B w w'
  box : BoxP w w'
set_option maxRecDepth 100000 in
set_option maxHeartbeats 8000000 in
theorem pcmp_any (B : Nat) (ub m : Nat) (V : List Int) (pl : Int → Nat) (D : Nat → Prop) (b : Bnd) : ∀ (f : Nat) (t : Ty) (e : Int → Bool), parts (exT b t) ≤ f → Wf V e t → ∀ (ao : Option Addr) (cap : Nat) (w : World), PK B ub m V pl D ⟨b, e⟩ w → SlD w D t.args ao cap →
    Calls Try.prog 67 #[.pointer (some ⟨ub, 0, none⟩), .agg (rowOf t ao cap)] w (CmpP B ub m V pl D b e (exT b t) w) := by
  intro f
  induction f with
  | zero => intro t e ht; have := parts_pos (exT b t); omega
  | succ f IH =>
    intro t e ht hw ao cap w hk hv
    have HT := Lib.hid ht
    clear ht
    obtain ⟨W, hW⟩ : ∃ W, W = w.alloc (.cells (rowOf t ao cap) 33) := ⟨_, rfl⟩
    obtain ⟨hbW, hlW, hrow⟩ := box_at hW
    have hTO := top_ok hk.ok hw
    have HTOP : Hid (Calls Try.prog 52 #[.pointer (some ⟨ub, 0, none⟩), .agg (rowOf t ao cap)] W (TopP W D (topT e b t))) := Lib.hid (pseen_any B ub m V pl D ⟨b, e⟩ t hw ao cap W (hk.keep hbW) (hv.keep fun b hb off => below_cells hbW b (hk.d b hb) off))
    obtain ⟨u, hu⟩ : ∃ u, u = topT e b t := ⟨_, rfl⟩
    rw [← hu] at hTO HTOP
    have HTO := Lib.hid hTO
    have HK := Lib.hid hk
    have HIH := Lib.hid IH
    have HBW := Lib.hid hbW
    have HROW := Lib.hid hrow
    have hcl : u.args.length ≤ 3000000000000 := hTO.wf.fits.len
    obtain ⟨T, hTe⟩ : ∃ T, T = exT b t := ⟨_, rfl⟩
    have hTc : exT (St.mk b e).b t = T := hTe.symm
    rw [← hTe] at HT ⊢
    have HA0 : Hid (u.k = 0 → cmpT T = true ∧ cvT T = [u.n] ∧ u.n ∈ V) := Lib.hid (fun h0 => by
      obtain ⟨_, _, h3⟩ := top_free hTO h0
      rw [hTc] at h3
      rw [h3]
      exact ⟨by simp [bareT, cmpT], by simp [bareT, cvT], hTO.wf.vs u.n (by rw [occ_args, if_pos h0]; simp)⟩)
    have HA1 : Hid (u.k ≠ 0 → T = .mk u.k u.n u.s u.q (u.args.map (exT b))) := Lib.hid (fun h0 => by rw [← hTc]; exact top_kid hTO h0)
    clear hTe hTc
    unfold rowOf at hW HTOP ⊢
    have c0 : W.cell? ⟨w.heap.size, 0, none⟩ = some (.int .i64 t.k) := blk_cell hrow 0
    have c1 : W.cell? ⟨w.heap.size, 1, none⟩ = some (.int .i64 t.n) := blk_cell hrow 1
    have c2 : W.cell? ⟨w.heap.size, 2, none⟩ = some (.string t.s) := blk_cell hrow 2
    have c3 : W.cell? ⟨w.heap.size, 3, none⟩ = some (.int .i64 t.q) := blk_cell hrow 3
    have c4 : W.cell? ⟨w.heap.size, 4, none⟩ = some (.slice ao t.args.length cap) := blk_cell hrow 4
    have HWW := Lib.hid hW
    clear IH hTO hk hu hW hbW hrow hv hw
    go_enter Try.func67, Try.ntmps67
    go_upto_region 1 with fail
    rw [← HWW.out]
    clear HWW
    generalize Value.agg #[.int .i64 t.k, .int .i64 t.n, .string t.s, .int .i64 t.q, .slice ao t.args.length cap] = v0
    go_upto_region 2 with (first | (go_at_call 52; refine HTOP.out.mono ?_; rintro e w1 h1; obtain ⟨ap, cp, rfl, hs1, hb1⟩ := h1.out; have HS1 := Lib.hid hs1; have HB1 := Lib.hid hb1; have hrow1 := blk_below HROW.out hb1 hlW; have HROW1 := Lib.hid hrow1; unfold rowOf at hrow1 ⊢; obtain ⟨⟨k0, k1, k2, k3, k4⟩, ⟨y0, y1, y2, y3, y4⟩⟩ := five_cells hrow1; clear h1 hs1 hb1 hrow1))
    obtain ⟨Y, hY⟩ : ∃ Y, Y = set5 w1 w.heap.size u ap cp := ⟨_, rfl⟩
    have HY := Lib.hid hY
    unfold set5 at hY
    rw [← hY]
    have HBY : Hid (Below w.heap.size w Y) := Lib.hid (by rw [HY.out]; exact below_set5 (bthen HBW.out HB1.out) (Nat.le_refl _))
    have HTY : Hid (TB Y w.heap.size u ap cp) := Lib.hid (by rw [HY.out]; exact TB.set HROW1.out u ap cp)
    have HSY : Hid (SlD Y D u.args ap cp) := Lib.hid (by rw [HY.out]; exact HS1.out.keep fun b hb off => below_cells (below_set5 (q := u) (aq := ap) (cq := cp) (Below.refl w.heap.size w1) (Nat.le_refl _)) b (HK.out.d b hb) off)
    have hpY : w.heap.size < Y.heap.size := lt_of_block HTY.out
    clear c0 c1 c2 c3 c4 k0 k1 k2 k3 k4 y0 y1 y2 y3 y4 hY HY HROW1 HROW HTOP HB1 HS1 HBW hlW
    clear w1 W
    have hTYc := HTY.out
    unfold rowOf at hTYc
    obtain ⟨⟨c0, c1, c2, c3, c4⟩, -⟩ := five_cells hTYc
    clear hTYc
    obtain ⟨c, hc⟩ : ∃ c, c = u.args.length := ⟨_, rfl⟩
    rw [← hc] at c4 hcl
    have HC := Lib.hid hc
    clear hc
    have HBYB : Hid (Below B w Y) := Lib.hid (HBY.out.mono HK.out.lo)
    have HBXY : Hid (BoxP w Y) := Lib.hid (BoxP.of_below HBY.out)
    by_cases hk0 : u.k = 0
    · have e0 : (u.k == 0) = true := by simp [hk0]
      obtain ⟨g1, g2, g3⟩ := HA0.out hk0
      have HG := Lib.hid (And.intro g1 g2)
      have hrk := HK.out.keep HBY.out
      have HOF := Lib.hid (of_hit B ub m V pl D ⟨b, e⟩ Y hrk.r g3)
      obtain ⟨x, hvx, _⟩ := hrk.r.at' g3
      have HVX := Lib.hid hvx
      have HMK := Lib.hid (hrk.r.mark hrk.dB hrk.lo g3)
      have HLOW := Lib.hid (hrk.r.low.2.2 u.n g3)
      unfold vcells at hvx
      obtain ⟨⟨q0, q1, q2, q3, q4, q5, q6, q7⟩, qf⟩ := eight_cells hvx
      have qf6 := qf 6
      clear hk0 g1 g2 g3 hrk hvx qf
      go_wp2_with (first | (go_at_call 27; refine HOF.out.mono ?_; rintro en w7 ⟨rfl, rfl⟩))
      go_ret
      exact ⟨congrArg (fun b : Bool => Ending.returned (.bool b)) HG.out.1.symm, (fun _ => by rw [HG.out.2]; exact HMK.out), HBYB.out.trans ((Below.refl B _).setCell (p := ⟨pl u.n, 6, none⟩) HLOW.out _), HBXY.out.trans (boxP_set HVX.out _)⟩
    · have e0 : (u.k == 0) = false := by simp [hk0]
      have HTE := Lib.hid (HA1.out hk0)
      have HK0 := Lib.hid hk0
      have HPE : Hid (parts T = 1 + partsL (u.args.map (exT b))) := Lib.hid (by rw [HTE.out, parts])
      clear HA0 HA1
      by_cases hk3 : u.k = 3
      · have e3 : (u.k == 3) = true := by simp [hk3]
        have HF : Hid (cmpT T = false) := Lib.hid (by rw [HTE.out, cmpT, if_neg hk0, if_pos (.inl hk3)])
        clear hk0 hk3
        go_wp2_with fail
        go_ret
        exact ⟨congrArg (fun b : Bool => Ending.returned (.bool b)) HF.out.symm, (fun h => by rw [HF.out] at h; cases h), HBYB.out, HBXY.out⟩
      · have e3 : (u.k == 3) = false := by simp [hk3]
        by_cases hk1 : u.k = 1
        · have e1 : (u.k == 1) = true := by simp [hk1]
          by_cases hq0 : u.q = 0
          · have f0 : (u.q == 0) = true := by simp [hq0]
            have HF : Hid (cmpT T = false) := Lib.hid (by rw [HTE.out, cmpT, if_neg hk0, if_pos (.inr ⟨hk1, hq0⟩)])
            clear hk0 hk3 hk1 hq0
            go_wp2_with fail
            go_ret
            exact ⟨congrArg (fun b : Bool => Ending.returned (.bool b)) HF.out.symm, (fun h => by rw [HF.out] at h; cases h), HBYB.out, HBXY.out⟩
          · have f0 : (u.q == 0) = false := by simp [hq0]
            by_cases hq2 : u.q = 2
            · have f2 : (u.q == 2) = true := by simp [hq2]
              have HF : Hid (cmpT T = true ∧ cvT T = []) := Lib.hid ⟨by rw [HTE.out, cmpT, if_neg hk0, if_neg (by rintro (h | h); exact hk3 h; exact hq0 h.2), if_pos ⟨hk1, hq2⟩], by rw [HTE.out, cvT, if_neg hk0, if_pos ⟨hk1, hq2⟩]⟩
              clear hk0 hk3 hk1 hq0 hq2
              go_wp2_with fail
              go_ret
              exact ⟨congrArg (fun b : Bool => Ending.returned (.bool b)) HF.out.1.symm, (fun _ => by rw [HF.out.2, markE_nil]; exact (HK.out.keep HBY.out).r), HBYB.out, HBXY.out⟩
            · have f2 : (u.q == 2) = false := by simp [hq2]
              have HE : Hid (cmpT T = cmpL (u.args.map (exT b))) := Lib.hid (by rw [HTE.out, cmpT, if_neg hk0, if_neg (by rintro (h | h); exact hk3 h; exact hq0 h.2), if_neg (fun h => hq2 h.2)])
              have HCV : Hid (cvT T = cvL (u.args.map (exT b))) := Lib.hid (by rw [HTE.out, cvT, if_neg hk0, if_neg (fun h => hq2 h.2)])
              clear hk0 hk3 hk1 hq0 hq2
              go_wp2_with fail
              go_loopw [6, 44] (fun _ i wr => ∃ j : Nat, i = .int .i64 (j : Int) ∧ j ≤ c ∧ cmpL ((u.args.map (exT b)).take j) = true ∧ PU B wr ub m V pl D ⟨b, markE e (cvL ((u.args.map (exT b)).take j))⟩ ∧ Below B Y wr ∧ BoxP Y wr) (fun _ i _ => c - (intOf i).toNat)
              case atStart => exact ⟨0, rfl, Nat.zero_le _, by simp [cmpL], by rw [List.take_zero, cvL, markE_nil]; exact (HK.out.keep HBY.out).r, Below.refl _ _, BoxP.refl _⟩
              case round =>
                obtain ⟨j, rfl, hj, hok, hru, hbr, hbx⟩ := hrel
                obtain ⟨wo, rfl⟩ : ∃ wo : World, wo = wr := ⟨_, rfl⟩
                have HBR := Lib.hid hbr
                have HBX := Lib.hid hbx
                have HOKJ := Lib.hid hok
                have HRUJ := Lib.hid hru
                clear hbr hok hru hbx c0 c1 c2 c3 c4
                by_cases hlt : j < c
                · have hd : decide ((j : Int) < (c : Int)) = true := by simp; omega
                  have hjk : j < u.args.length := by rw [← HC.out]; exact hlt
                  have hvr : SlD wo D u.args ap cp := HSY.out.keep (cells_D HK.out.dB HBR.out)
                  obtain ⟨bb, p, aq, cq, hDb, hix, x0, x1, x2, x3, x4, hs⟩ := arg_cells hvr hjk
                  rw [← HC.out] at hix
                  obtain ⟨x, hx⟩ : ∃ x, x = u.args[j] := ⟨_, rfl⟩
                  rw [← hx] at x0 x1 x2 x3 x4 hs
                  have hmem : x ∈ u.args := by rw [hx]; exact List.getElem_mem _
                  have hrk : PK B ub m V pl D ⟨b, markE e (cvL ((u.args.map (exT b)).take j))⟩ wo := ⟨HRUJ.out, HK.out.dB, Nat.le_trans (Nat.le_trans HK.out.lo HBY.out.size) HBR.out.size, HK.out.ok.mark _⟩
                  obtain ⟨Z, hZ⟩ : ∃ Z, Z = wo.alloc (.cells (rowOf x aq cq) 33) := ⟨_, rfl⟩
                  obtain ⟨hbZ, hlZ, hrZ⟩ := box_at hZ
                  have hcall := HIH.out x (markE e (cvL ((u.args.map (exT b)).take j))) (by have h1 := HT.out; have h2 := HPE.out; have := parts_mem (List.mem_map_of_mem (f := exT b) hmem); omega) ((HTO.out.wf.kid HK0.out hmem).more fun m hm => markE_of _ hm) aq cq Z (hrk.keep hbZ) (hs.keep fun b hb off => below_cells hbZ b (hrk.d b hb) off)
                  have HM : Hid ((u.args.map (exT b))[j]? = some (exT b x)) := Lib.hid (by rw [List.getElem?_map, List.getElem?_eq_getElem hjk, hx]; rfl)
                  obtain ⟨X, hX⟩ : ∃ X, X = exT b x := ⟨_, rfl⟩
                  rw [← hX] at hcall HM
                  unfold rowOf at hcall hZ hrZ
                  obtain ⟨⟨k0, k1, k2, k3, k4⟩, -⟩ := five_cells hrZ
                  have HCALL := Lib.hid hcall
                  have HBZ := Lib.hid (HBR.out.trans (hbZ.mono hrk.lo))
                  have HXZ := Lib.hid (HBX.out.trans (BoxP.of_below hbZ))
                  have HZZ := Lib.hid hZ
                  clear hcall hvr hs hx hmem hrk hX hDb hbZ hrZ hZ
                  cases hr : cmpT X with
                  | true =>
                    have HR := Lib.hid hr
                    go_upto_region 13 with fail
                    rw [← HZZ.out]
                    go_wp2_with (first | (go_at_call 67; refine HCALL.out.mono ?_; rintro en w7 h7; obtain rfl : en = .returned (.bool true) := (by rw [h7.val, HR.out]); have H7 := Lib.hid h7; clear h7))
                    go_roundw
                    case rel =>
                      refine ⟨j + 1, by go_num, hlt, by rw [cmpL_take HM.out, HOKJ.out, HR.out]; rfl, ?_, HBZ.out.trans H7.out.bel, HXZ.out.trans H7.out.box⟩
                      have h := H7.out.r HR.out
                      rw [markE_two, ← cvL_take HM.out] at h
                      exact h
                    case measure => simp only [intOf]; omega
                  | false =>
                    have HR := Lib.hid hr
                    go_upto_region 13 with fail
                    rw [← HZZ.out]
                    go_wp2_with (first | (go_at_call 67; refine HCALL.out.mono ?_; rintro en w7 h7; obtain rfl : en = .returned (.bool false) := (by rw [h7.val, HR.out]); have H7 := Lib.hid h7; clear h7))
                    go_ret
                    have e1 : cmpT T = false := by
                      rw [HE.out]
                      exact cmpL_cut (j + 1) (by rw [cmpL_take HM.out, HOKJ.out, HR.out]; rfl)
                    exact ⟨congrArg (fun b : Bool => Ending.returned (.bool b)) e1.symm, (fun h => by rw [e1] at h; cases h), HBYB.out.trans (HBZ.out.trans H7.out.bel), HBXY.out.trans (HXZ.out.trans H7.out.box)⟩
                · obtain rfl : j = c := by omega
                  have hd : decide ((j : Int) < (j : Int)) = false := by simp
                  go_wp2_with fail
                  go_ret
                  have h1 := HOKJ.out
                  have h2 := HRUJ.out
                  rw [HC.out, List.take_of_length_le (by simp)] at h1 h2
                  have e1 : cmpT T = true := by rw [HE.out]; exact h1
                  refine ⟨congrArg (fun b : Bool => Ending.returned (.bool b)) e1.symm, fun _ => ?_, HBYB.out.trans HBR.out, HBXY.out.trans HBX.out⟩
                  rw [HCV.out]; exact h2
        · have e1 : (u.k == 1) = false := by simp [hk1]
          have HE : Hid (cmpT T = cmpL (u.args.map (exT b))) := Lib.hid (by rw [HTE.out, cmpT, if_neg hk0, if_neg (by rintro (h | h); exact hk3 h; exact hk1 h.1), if_neg (fun h => hk1 h.1)])
          have HCV : Hid (cvT T = cvL (u.args.map (exT b))) := Lib.hid (by rw [HTE.out, cvT, if_neg hk0, if_neg (fun h => hk1 h.1)])
          clear hk0 hk3 hk1
          go_wp2_with fail
          go_loopw [6, 44] (fun _ i wr => ∃ j : Nat, i = .int .i64 (j : Int) ∧ j ≤ c ∧ cmpL ((u.args.map (exT b)).take j) = true ∧ PU B wr ub m V pl D ⟨b, markE e (cvL ((u.args.map (exT b)).take j))⟩ ∧ Below B Y wr ∧ BoxP Y wr) (fun _ i _ => c - (intOf i).toNat)
          case atStart => exact ⟨0, rfl, Nat.zero_le _, by simp [cmpL], by rw [List.take_zero, cvL, markE_nil]; exact (HK.out.keep HBY.out).r, Below.refl _ _, BoxP.refl _⟩
          case round =>
            obtain ⟨j, rfl, hj, hok, hru, hbr, hbx⟩ := hrel
            obtain ⟨wo, rfl⟩ : ∃ wo : World, wo = wr := ⟨_, rfl⟩
            have HBR := Lib.hid hbr
            have HBX := Lib.hid hbx
            have HOKJ := Lib.hid hok
            have HRUJ := Lib.hid hru
            clear hbr hok hru hbx c0 c1 c2 c3 c4
            by_cases hlt : j < c
            · have hd : decide ((j : Int) < (c : Int)) = true := by simp; omega
              have hjk : j < u.args.length := by rw [← HC.out]; exact hlt
              have hvr : SlD wo D u.args ap cp := HSY.out.keep (cells_D HK.out.dB HBR.out)
              obtain ⟨bb, p, aq, cq, hDb, hix, x0, x1, x2, x3, x4, hs⟩ := arg_cells hvr hjk
              rw [← HC.out] at hix
              obtain ⟨x, hx⟩ : ∃ x, x = u.args[j] := ⟨_, rfl⟩
              rw [← hx] at x0 x1 x2 x3 x4 hs
              have hmem : x ∈ u.args := by rw [hx]; exact List.getElem_mem _
              have hrk : PK B ub m V pl D ⟨b, markE e (cvL ((u.args.map (exT b)).take j))⟩ wo := ⟨HRUJ.out, HK.out.dB, Nat.le_trans (Nat.le_trans HK.out.lo HBY.out.size) HBR.out.size, HK.out.ok.mark _⟩
              obtain ⟨Z, hZ⟩ : ∃ Z, Z = wo.alloc (.cells (rowOf x aq cq) 33) := ⟨_, rfl⟩
              obtain ⟨hbZ, hlZ, hrZ⟩ := box_at hZ
              have hcall := HIH.out x (markE e (cvL ((u.args.map (exT b)).take j))) (by have h1 := HT.out; have h2 := HPE.out; have := parts_mem (List.mem_map_of_mem (f := exT b) hmem); omega) ((HTO.out.wf.kid HK0.out hmem).more fun m hm => markE_of _ hm) aq cq Z (hrk.keep hbZ) (hs.keep fun b hb off => below_cells hbZ b (hrk.d b hb) off)
              have HM : Hid ((u.args.map (exT b))[j]? = some (exT b x)) := Lib.hid (by rw [List.getElem?_map, List.getElem?_eq_getElem hjk, hx]; rfl)
              obtain ⟨X, hX⟩ : ∃ X, X = exT b x := ⟨_, rfl⟩
              rw [← hX] at hcall HM
              unfold rowOf at hcall hZ hrZ
              obtain ⟨⟨k0, k1, k2, k3, k4⟩, -⟩ := five_cells hrZ
              have HCALL := Lib.hid hcall
              have HBZ := Lib.hid (HBR.out.trans (hbZ.mono hrk.lo))
              have HXZ := Lib.hid (HBX.out.trans (BoxP.of_below hbZ))
              have HZZ := Lib.hid hZ
              clear hcall hvr hs hx hmem hrk hX hDb hbZ hrZ hZ
              cases hr : cmpT X with
              | true =>
                have HR := Lib.hid hr
                go_upto_region 13 with fail
                rw [← HZZ.out]
                go_wp2_with (first | (go_at_call 67; refine HCALL.out.mono ?_; rintro en w7 h7; obtain rfl : en = .returned (.bool true) := (by rw [h7.val, HR.out]); have H7 := Lib.hid h7; clear h7))
                go_roundw
                case rel =>
                  refine ⟨j + 1, by go_num, hlt, by rw [cmpL_take HM.out, HOKJ.out, HR.out]; rfl, ?_, HBZ.out.trans H7.out.bel, HXZ.out.trans H7.out.box⟩
                  have h := H7.out.r HR.out
                  rw [markE_two, ← cvL_take HM.out] at h
                  exact h
                case measure => simp only [intOf]; omega
              | false =>
                have HR := Lib.hid hr
                go_upto_region 13 with fail
                rw [← HZZ.out]
                go_wp2_with (first | (go_at_call 67; refine HCALL.out.mono ?_; rintro en w7 h7; obtain rfl : en = .returned (.bool false) := (by rw [h7.val, HR.out]); have H7 := Lib.hid h7; clear h7))
                go_ret
                have e1 : cmpT T = false := by
                  rw [HE.out]
                  exact cmpL_cut (j + 1) (by rw [cmpL_take HM.out, HOKJ.out, HR.out]; rfl)
                exact ⟨congrArg (fun b : Bool => Ending.returned (.bool b)) e1.symm, (fun h => by rw [e1] at h; cases h), HBYB.out.trans (HBZ.out.trans H7.out.bel), HBXY.out.trans (HXZ.out.trans H7.out.box)⟩
            · obtain rfl : j = c := by omega
              have hd : decide ((j : Int) < (j : Int)) = false := by simp
              go_wp2_with fail
              go_ret
              have h1 := HOKJ.out
              have h2 := HRUJ.out
              rw [HC.out, List.take_of_length_le (by simp)] at h1 h2
              have e1 : cmpT T = true := by rw [HE.out]; exact h1
              refine ⟨congrArg (fun b : Bool => Ending.returned (.bool b)) e1.symm, fun _ => ?_, HBYB.out.trans HBR.out, HBXY.out.trans HBX.out⟩
              rw [HCV.out]; exact h2
end Go.Proofs.Ytdeomphilggokaa
