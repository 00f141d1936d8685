/-
  Proved: the contract of the reference's compare. Condition: what is known is in order.
-/
import Derived.Test.YtdeomphilggokaaU2
set_option linter.unusedSimpArgs false
set_option linter.unusedVariables false
namespace Go.Proofs.Ytdeomphilggokaa
open Go.RowKit

/-- all cells stand as they stood -/
def Boxes (w w' : World) : Prop := ∀ (b : Nat) (c : Array Value) (t : TypeId) (f : Nat × Nat), w.heap[b]? = some (.cells c t f) → w'.heap[b]? = some (.cells c t f)
theorem Boxes.refl (w : World) : Boxes w w := fun _ _ _ _ h => h
theorem Boxes.trans {w w1 w2 : World} (h : Boxes w w1) (h2 : Boxes w1 w2) : Boxes w w2 := fun b c t f hb => h2 b c t f (h b c t f hb)
theorem Boxes.of_below {w w' : World} (h : Below w.heap.size w w') : Boxes w w' := fun b c t f hb => blk_below hb h (lt_of_block hb)
theorem markE_of {e : Int → Bool} (l : List Int) {n : Int} (h : e n = true) : markE e l n = true := by unfold markE; rw [h]; rfl
theorem StOk.mark {V : List Int} {b : Bnd} {e : Int → Bool} (h : StOk V ⟨b, e⟩) (l : List Int) : StOk V ⟨b, markE e l⟩ :=
  ⟨h.total, fun n x hx => ⟨(h.wf n x hx).1, (h.wf n x hx).2.more fun m hm => markE_of _ hm⟩⟩
theorem cells_D {B : Nat} {w w' : World} {D : Nat → Prop} (hD : ∀ b, D b → b < B) (h : Below B w w') : ∀ b, D b → ∀ off, w'.cell? ⟨b, off, none⟩ = w.cell? ⟨b, off, none⟩ := fun b hb off => h.cell (p := ⟨b, off, none⟩) (hD b hb)
/-- a variable is marked -/
theorem RU.mark {B : Nat} {w : World} {sb mb me : Nat} {V : List Int} {D : Nat → Prop} {b : Bnd} {e : Int → Bool} (h : RU B w sb mb me V D ⟨b, e⟩) (hD : ∀ b, D b → b < B) (hB : B ≤ w.heap.size) {n : Int} (hn : n ∈ V) :
    ∃ w', (Instr.mapUpdate 77 (.map (some me)) (.int .i64 n) (.int .i64 1)).run Try.prog w = .ok () w' ∧ RU B w' sb mb me V D ⟨b, markE e [n]⟩ ∧ Below B w w' ∧ Boxes w w' ∧ w.heap.size ≤ w'.heap.size := by
  obtain ⟨ke, g1, g2, g3, g4⟩ := h.eq
  obtain ⟨ks, bt, h1, h2, h3, h4, h5⟩ := h.by'
  have hlen : ke.length < maxLen := by
    have := nodup_len ke V g2 g3
    have h9 := h.vs
    unfold maxLen
    omega
  have hi := h.i64 n hn
  have key : ∃ w' ke', (Instr.mapUpdate 77 (.map (some me)) (.int .i64 n) (.int .i64 1)).run Try.prog w = .ok () w' ∧ MapX w' me ke' (fun j => if j = n then some (.int .i64 1) else if e j = true then some (.int .i64 1) else none) ∧ w.grownBy w' (some me) ∧ ke'.Nodup ∧ (∀ k ∈ ke', k ∈ V) ∧ ∀ k, k = n ∨ k ∈ ke → k ∈ ke' := by
    by_cases hk : n ∈ ke
    · obtain ⟨w', hrun, hm, hg⟩ := g1.again Try.underlying77 hlen hi hk (.int .i64 1)
      exact ⟨w', ke, hrun, hm, hg, g2, g3, fun k hk' => by rcases hk' with rfl | hk'; exact hk; exact hk'⟩
    · obtain ⟨w', hrun, hm, hg⟩ := g1.new Try.underlying77 hlen hi hk (.int .i64 1)
      refine ⟨w', ke ++ [n], hrun, hm, hg, ?_, fun k hk' => ?_, fun k hk' => ?_⟩
      · rw [List.nodup_append]
        refine ⟨g2, by simp, fun a ha b hb => ?_⟩
        rw [List.mem_singleton] at hb
        rw [hb]
        exact fun e => hk (e ▸ ha)
      · rcases List.mem_append.1 hk' with hk' | hk'
        · exact g3 k hk'
        · rw [List.mem_singleton] at hk'; rw [hk']; exact hn
      · rcases hk' with rfl | hk'
        · simp
        · simp [hk']
  obtain ⟨w', ke', hrun, hm, hg, hnd, hkv, hin⟩ := key
  have hbel : Below B w w' := grown_below hg hB h.low.2.2.1
  have hbox : Boxes w w' := fun bb c t f hb => by
    have hne : bb ≠ me := fun e => by
      obtain ⟨es, clock, hm⟩ := g1.f.isMap
      rw [e, hm] at hb
      cases hb
    exact (hg.block bb (lt_of_block hb) (fun e => hne (Option.some.inj e))).trans hb
  refine ⟨w', hrun, ⟨hbox _ _ _ _ h.s, ⟨ks, bt, h1.of_same (hg.block mb h1.lt (fun e => h.low.2.2.2 (Option.some.inj e))), h2, h3, h4, fun k => ⟨(h5 k).1, fun x hx => ((h5 k).2 x hx).keep (cells_D hD hbel)⟩⟩, ⟨ke', hm.congr fun k hk => ?_, hnd, hkv, fun k hk => ?_⟩, h.low, h.vs, h.i64⟩, hbel, hbox, hg.size⟩
  · by_cases e1 : k = n
    · subst e1; simp [markE]
    · simp [markE, e1]
  · simp [markE] at hk
    rcases hk with hk | hk
    · exact hin k (.inr (g4 k hk))
    · exact hin k (.inl hk)
/-- what compare leaves -/
structure CmpR (B sb mb me : Nat) (V : List Int) (D : Nat → Prop) (b : Bnd) (e : Int → Bool) (T : Ty) (w : World) (en : Ending) (w' : World) : Prop where
  val : en = .returned (.bool (cmpT T))
  r : cmpT T = true → RU B w' sb mb me V D ⟨b, markE e (cvT T)⟩
  bel : Below B w w'
  box : Boxes w w'
set_option maxRecDepth 100000 in
set_option maxHeartbeats 8000000 in
theorem rcmp_any (B : Nat) (sb mb me : Nat) (V : List Int) (D : Nat → Prop) (b : Bnd) : ∀ (f : Nat) (t : Ty) (e : Int → Bool), parts (exT b t) ≤ f → Wf V e t → ∀ (ao : Option Addr) (cap : Nat) (w : World), RK B sb mb me V D ⟨b, e⟩ w → SlD w D t.args ao cap →
    Calls Try.prog 90 #[.pointer (some ⟨sb, 0, none⟩), .agg (rowOf t ao cap)] w (CmpR B sb mb me V D b e (exT b t) w) := by
  intro f
  induction f with
  | zero => intro t e ht; have := parts_pos (exT b t); omega
  | succ f IH =>
    intro t e ht hw ao cap w hk hv
    have HT := Lib.hid ht
    clear ht
    obtain ⟨W, hW⟩ : ∃ W, W = w.alloc (.cells (rowOf t ao cap) 33) := ⟨_, rfl⟩
    obtain ⟨hbW, hlW, hrow⟩ := box_at hW
    have hTO := top_ok hk.ok hw
    have HTOP : Hid (Calls Try.prog 64 #[.pointer (some ⟨sb, 0, none⟩), .agg (rowOf t ao cap)] W (TopP W D (topT e b t))) := Lib.hid (rtop_any B sb mb me V D ⟨b, e⟩ hk.ok t hw ao cap W (hk.keep hbW).d (hk.keep hbW).r (hv.keep fun b hb off => below_cells hbW b (hk.d b hb) off))
    obtain ⟨u, hu⟩ : ∃ u, u = topT e b t := ⟨_, rfl⟩
    rw [← hu] at hTO HTOP
    have HTO := Lib.hid hTO
    have HK := Lib.hid hk
    have HIH := Lib.hid IH
    have HBW := Lib.hid hbW
    have HROW := Lib.hid hrow
    have hcl : u.args.length ≤ 3000000000000 := hTO.wf.fits.len
    obtain ⟨T, hTe⟩ : ∃ T, T = exT b t := ⟨_, rfl⟩
    have hTc : exT (St.mk b e).b t = T := hTe.symm
    rw [← hTe] at HT ⊢
    have HA0 : Hid (u.k = 0 → cmpT T = true ∧ cvT T = [u.n] ∧ u.n ∈ V) := Lib.hid (fun h0 => by
      obtain ⟨_, _, h3⟩ := top_free hTO h0
      rw [hTc] at h3
      rw [h3]
      exact ⟨by simp [bareT, cmpT], by simp [bareT, cvT], hTO.wf.vs u.n (by rw [occ_args, if_pos h0]; simp)⟩)
    have HA1 : Hid (u.k ≠ 0 → T = .mk u.k u.n u.s u.q (u.args.map (exT b))) := Lib.hid (fun h0 => by rw [← hTc]; exact top_kid hTO h0)
    clear hTe hTc
    unfold rowOf at hW HTOP ⊢
    have c0 : W.cell? ⟨w.heap.size, 0, none⟩ = some (.int .i64 t.k) := blk_cell hrow 0
    have c1 : W.cell? ⟨w.heap.size, 1, none⟩ = some (.int .i64 t.n) := blk_cell hrow 1
    have c2 : W.cell? ⟨w.heap.size, 2, none⟩ = some (.string t.s) := blk_cell hrow 2
    have c3 : W.cell? ⟨w.heap.size, 3, none⟩ = some (.int .i64 t.q) := blk_cell hrow 3
    have c4 : W.cell? ⟨w.heap.size, 4, none⟩ = some (.slice ao t.args.length cap) := blk_cell hrow 4
    have HWW := Lib.hid hW
    clear IH hTO hk hu hW hbW hrow hv hw
    go_enter Try.func90, Try.ntmps90
    go_upto_region 1 with fail
    rw [← HWW.out]
    clear HWW
    generalize Value.agg #[.int .i64 t.k, .int .i64 t.n, .string t.s, .int .i64 t.q, .slice ao t.args.length cap] = v0
    go_upto_region 2 with (first | (go_at_call 64; refine HTOP.out.mono ?_; rintro e w1 h1; obtain ⟨ap, cp, rfl, hs1, hb1⟩ := h1.out; have HS1 := Lib.hid hs1; have HB1 := Lib.hid hb1; have hrow1 := blk_below HROW.out hb1 hlW; have HROW1 := Lib.hid hrow1; unfold rowOf at hrow1 ⊢; obtain ⟨⟨k0, k1, k2, k3, k4⟩, ⟨y0, y1, y2, y3, y4⟩⟩ := five_cells hrow1; clear h1 hs1 hb1 hrow1))
    obtain ⟨Y, hY⟩ : ∃ Y, Y = set5 w1 w.heap.size u ap cp := ⟨_, rfl⟩
    have HY := Lib.hid hY
    unfold set5 at hY
    rw [← hY]
    have HBY : Hid (Below w.heap.size w Y) := Lib.hid (by rw [HY.out]; exact below_set5 (bthen HBW.out HB1.out) (Nat.le_refl _))
    have HTY : Hid (TB Y w.heap.size u ap cp) := Lib.hid (by rw [HY.out]; exact TB.set HROW1.out u ap cp)
    have HSY : Hid (SlD Y D u.args ap cp) := Lib.hid (by rw [HY.out]; exact HS1.out.keep fun b hb off => below_cells (below_set5 (q := u) (aq := ap) (cq := cp) (Below.refl w.heap.size w1) (Nat.le_refl _)) b (HK.out.d b hb) off)
    have hpY : w.heap.size < Y.heap.size := lt_of_block HTY.out
    clear c0 c1 c2 c3 c4 k0 k1 k2 k3 k4 y0 y1 y2 y3 y4 hY HY HROW1 HROW HTOP HB1 HS1 HBW hlW
    clear w1 W
    have hTYc := HTY.out
    unfold rowOf at hTYc
    obtain ⟨⟨c0, c1, c2, c3, c4⟩, _⟩ := five_cells hTYc
    clear hTYc
    obtain ⟨c, hc⟩ : ∃ c, c = u.args.length := ⟨_, rfl⟩
    rw [← hc] at c4 hcl
    have HC := Lib.hid hc
    clear hc
    have HBYB : Hid (Below B w Y) := Lib.hid (HBY.out.mono HK.out.lo)
    have HBXY : Hid (Boxes w Y) := Lib.hid (Boxes.of_below HBY.out)
    by_cases hk0 : u.k = 0
    · have e0 : (u.k == 0) = true := by simp [hk0]
      obtain ⟨g1, g2, g3⟩ := HA0.out hk0
      have HG := Lib.hid (And.intro g1 g2)
      have hrk := HK.out.keep HBY.out
      have s1 : Y.cell? ⟨sb, 1, none⟩ = some (.map (some me)) := blk_cell hrk.r.s 1
      have s1' : Y.drew.cell? ⟨sb, 1, none⟩ = some (.map (some me)) := s1
      obtain ⟨w9, hrun, hru9, hb9, hx9, hs9⟩ := (hrk.keep (Below.refl Y.heap.size Y).drew).r.mark hrk.dB hrk.lo g3
      have HRU9 := Lib.hid hru9
      have HB9 := Lib.hid (HBYB.out.trans ((Below.refl B Y).drew.trans hb9))
      have HX9 := Lib.hid (HBXY.out.trans (show Boxes Y w9 from hx9))
      clear hk0 g1 g2 g3 hrk hru9 hb9 hx9 hs9
      go_upto_region 3 with fail
      go_region
      all_goals
        go_wp2_with fail
        go_ret
        exact ⟨congrArg (fun b : Bool => Ending.returned (.bool b)) HG.out.1.symm, (fun _ => by rw [HG.out.2]; exact HRU9.out), HB9.out, HX9.out⟩
    · have e0 : (u.k == 0) = false := by simp [hk0]
      have HTE := Lib.hid (HA1.out hk0)
      have HK0 := Lib.hid hk0
      have HPE : Hid (parts T = 1 + partsL (u.args.map (exT b))) := Lib.hid (by rw [HTE.out, parts])
      clear HA0 HA1
      by_cases hk3 : u.k = 3
      · have e3 : (u.k == 3) = true := by simp [hk3]
        have HF : Hid (cmpT T = false) := Lib.hid (by rw [HTE.out, cmpT, if_neg hk0, if_pos (.inl hk3)])
        clear hk0 hk3
        go_wp2_with fail
        go_ret
        exact ⟨congrArg (fun b : Bool => Ending.returned (.bool b)) HF.out.symm, (fun h => by rw [HF.out] at h; cases h), HBYB.out, HBXY.out⟩
      · have e3 : (u.k == 3) = false := by simp [hk3]
        by_cases hk1 : u.k = 1
        · have e1 : (u.k == 1) = true := by simp [hk1]
          by_cases hq0 : u.q = 0
          · have f0 : (u.q == 0) = true := by simp [hq0]
            have HF : Hid (cmpT T = false) := Lib.hid (by rw [HTE.out, cmpT, if_neg hk0, if_pos (.inr ⟨hk1, hq0⟩)])
            clear hk0 hk3 hk1 hq0
            go_wp2_with fail
            go_ret
            exact ⟨congrArg (fun b : Bool => Ending.returned (.bool b)) HF.out.symm, (fun h => by rw [HF.out] at h; cases h), HBYB.out, HBXY.out⟩
          · have f0 : (u.q == 0) = false := by simp [hq0]
            by_cases hq2 : u.q = 2
            · have f2 : (u.q == 2) = true := by simp [hq2]
              have HF : Hid (cmpT T = true ∧ cvT T = []) := Lib.hid ⟨by rw [HTE.out, cmpT, if_neg hk0, if_neg (by rintro (h | h); exact hk3 h; exact hq0 h.2), if_pos ⟨hk1, hq2⟩], by rw [HTE.out, cvT, if_neg hk0, if_pos ⟨hk1, hq2⟩]⟩
              clear hk0 hk3 hk1 hq0 hq2
              go_wp2_with fail
              go_ret
              exact ⟨congrArg (fun b : Bool => Ending.returned (.bool b)) HF.out.1.symm, (fun _ => by rw [HF.out.2, markE_nil]; exact (HK.out.keep HBY.out).r), HBYB.out, HBXY.out⟩
            · have f2 : (u.q == 2) = false := by simp [hq2]
              have HE : Hid (cmpT T = cmpL (u.args.map (exT b))) := Lib.hid (by rw [HTE.out, cmpT, if_neg hk0, if_neg (by rintro (h | h); exact hk3 h; exact hq0 h.2), if_neg (fun h => hq2 h.2)])
              have HCV : Hid (cvT T = cvL (u.args.map (exT b))) := Lib.hid (by rw [HTE.out, cvT, if_neg hk0, if_neg (fun h => hq2 h.2)])
              clear hk0 hk3 hk1 hq0 hq2
              go_wp2_with fail
              go_loopw [5, 6] (fun i _ wr => ∃ j : Nat, i = .int .i64 (j : Int) ∧ j ≤ c ∧ cmpL ((u.args.map (exT b)).take j) = true ∧ RU B wr sb mb me V D ⟨b, markE e (cvL ((u.args.map (exT b)).take j))⟩ ∧ Below B Y wr ∧ Boxes Y wr) (fun i _ _ => c - (intOf i).toNat)
              case atStart => exact ⟨0, rfl, Nat.zero_le _, by simp [cmpL], by rw [List.take_zero, cvL, markE_nil]; exact (HK.out.keep HBY.out).r, Below.refl _ _, Boxes.refl _⟩
              case round =>
                obtain ⟨j, rfl, hj, hok, hru, hbr, hbx⟩ := hrel
                obtain ⟨wo, rfl⟩ : ∃ wo : World, wo = wr := ⟨_, rfl⟩
                have hrow2 := hbx _ _ _ _ HTY.out
                have d4 : wo.cell? ⟨w.heap.size, 4, none⟩ = some (.slice ap c cp) := by rw [HC.out]; exact blk_cell hrow2 4
                have HBR := Lib.hid hbr
                have HBX := Lib.hid hbx
                have HOKJ := Lib.hid hok
                have HRUJ := Lib.hid hru
                clear hbr hrow2 hok hru hbx c0 c1 c2 c3 c4
                by_cases hlt : j < c
                · have hd : decide ((j : Int) < (c : Int)) = true := by simp; omega
                  have hjk : j < u.args.length := by rw [← HC.out]; exact hlt
                  have hvr : SlD wo D u.args ap cp := HSY.out.keep (cells_D HK.out.dB HBR.out)
                  obtain ⟨bb, p, aq, cq, hDb, hix, x0, x1, x2, x3, x4, hs⟩ := arg_cells hvr hjk
                  rw [← HC.out] at hix
                  obtain ⟨x, hx⟩ : ∃ x, x = u.args[j] := ⟨_, rfl⟩
                  rw [← hx] at x0 x1 x2 x3 x4 hs
                  have hmem : x ∈ u.args := by rw [hx]; exact List.getElem_mem _
                  have hrk : RK B sb mb me V D ⟨b, markE e (cvL ((u.args.map (exT b)).take j))⟩ wo := ⟨HRUJ.out, HK.out.dB, Nat.le_trans (Nat.le_trans HK.out.lo HBY.out.size) HBR.out.size, HK.out.ok.mark _⟩
                  have hcall := HIH.out x (markE e (cvL ((u.args.map (exT b)).take j))) (by have h1 := HT.out; have h2 := HPE.out; have := parts_mem (List.mem_map_of_mem (f := exT b) hmem); omega) ((HTO.out.wf.kid HK0.out hmem).more fun m hm => markE_of _ hm) aq cq wo hrk hs
                  have HM : Hid ((u.args.map (exT b))[j]? = some (exT b x)) := Lib.hid (by rw [List.getElem?_map, List.getElem?_eq_getElem hjk, hx]; rfl)
                  obtain ⟨X, hX⟩ : ∃ X, X = exT b x := ⟨_, rfl⟩
                  rw [← hX] at hcall HM
                  unfold rowOf at hcall
                  have HCALL := Lib.hid hcall
                  clear hcall hvr hs hx hmem hrk hX hDb
                  cases hr : cmpT X with
                  | true =>
                    have HR := Lib.hid hr
                    go_wp2_with (first | (go_at_call 90; refine HCALL.out.mono ?_; rintro en w7 h7; obtain rfl : en = .returned (.bool true) := (by rw [h7.val, HR.out]); have H7 := Lib.hid h7; clear h7))
                    go_roundw
                    case rel =>
                      refine ⟨j + 1, by go_num, hlt, by rw [cmpL_take HM.out, HOKJ.out, HR.out]; rfl, ?_, HBR.out.trans H7.out.bel, HBX.out.trans H7.out.box⟩
                      have h := H7.out.r HR.out
                      rw [markE_two, ← cvL_take HM.out] at h
                      exact h
                    case measure => simp only [intOf]; omega
                  | false =>
                    have HR := Lib.hid hr
                    go_wp2_with (first | (go_at_call 90; refine HCALL.out.mono ?_; rintro en w7 h7; obtain rfl : en = .returned (.bool false) := (by rw [h7.val, HR.out]); have H7 := Lib.hid h7; clear h7))
                    go_ret
                    have e1 : cmpT T = false := by
                      rw [HE.out]
                      exact cmpL_cut (j + 1) (by rw [cmpL_take HM.out, HOKJ.out, HR.out]; rfl)
                    exact ⟨congrArg (fun b : Bool => Ending.returned (.bool b)) e1.symm, (fun h => by rw [e1] at h; cases h), HBYB.out.trans (HBR.out.trans H7.out.bel), HBXY.out.trans (HBX.out.trans H7.out.box)⟩
                · obtain rfl : j = c := by omega
                  have hd : decide ((j : Int) < (j : Int)) = false := by simp
                  go_wp2_with fail
                  go_ret
                  have h1 := HOKJ.out
                  have h2 := HRUJ.out
                  rw [HC.out, List.take_of_length_le (by simp)] at h1 h2
                  have e1 : cmpT T = true := by rw [HE.out]; exact h1
                  refine ⟨congrArg (fun b : Bool => Ending.returned (.bool b)) e1.symm, fun _ => ?_, HBYB.out.trans HBR.out, HBXY.out.trans HBX.out⟩
                  rw [HCV.out]; exact h2
        · have e1 : (u.k == 1) = false := by simp [hk1]
          have HE : Hid (cmpT T = cmpL (u.args.map (exT b))) := Lib.hid (by rw [HTE.out, cmpT, if_neg hk0, if_neg (by rintro (h | h); exact hk3 h; exact hk1 h.1), if_neg (fun h => hk1 h.1)])
          have HCV : Hid (cvT T = cvL (u.args.map (exT b))) := Lib.hid (by rw [HTE.out, cvT, if_neg hk0, if_neg (fun h => hk1 h.1)])
          clear hk0 hk3 hk1
          go_wp2_with fail
          go_loopw [5, 6] (fun i _ wr => ∃ j : Nat, i = .int .i64 (j : Int) ∧ j ≤ c ∧ cmpL ((u.args.map (exT b)).take j) = true ∧ RU B wr sb mb me V D ⟨b, markE e (cvL ((u.args.map (exT b)).take j))⟩ ∧ Below B Y wr ∧ Boxes Y wr) (fun i _ _ => c - (intOf i).toNat)
          case atStart => exact ⟨0, rfl, Nat.zero_le _, by simp [cmpL], by rw [List.take_zero, cvL, markE_nil]; exact (HK.out.keep HBY.out).r, Below.refl _ _, Boxes.refl _⟩
          case round =>
            obtain ⟨j, rfl, hj, hok, hru, hbr, hbx⟩ := hrel
            obtain ⟨wo, rfl⟩ : ∃ wo : World, wo = wr := ⟨_, rfl⟩
            have hrow2 := hbx _ _ _ _ HTY.out
            have d4 : wo.cell? ⟨w.heap.size, 4, none⟩ = some (.slice ap c cp) := by rw [HC.out]; exact blk_cell hrow2 4
            have HBR := Lib.hid hbr
            have HBX := Lib.hid hbx
            have HOKJ := Lib.hid hok
            have HRUJ := Lib.hid hru
            clear hbr hrow2 hok hru hbx c0 c1 c2 c3 c4
            by_cases hlt : j < c
            · have hd : decide ((j : Int) < (c : Int)) = true := by simp; omega
              have hjk : j < u.args.length := by rw [← HC.out]; exact hlt
              have hvr : SlD wo D u.args ap cp := HSY.out.keep (cells_D HK.out.dB HBR.out)
              obtain ⟨bb, p, aq, cq, hDb, hix, x0, x1, x2, x3, x4, hs⟩ := arg_cells hvr hjk
              rw [← HC.out] at hix
              obtain ⟨x, hx⟩ : ∃ x, x = u.args[j] := ⟨_, rfl⟩
              rw [← hx] at x0 x1 x2 x3 x4 hs
              have hmem : x ∈ u.args := by rw [hx]; exact List.getElem_mem _
              have hrk : RK B sb mb me V D ⟨b, markE e (cvL ((u.args.map (exT b)).take j))⟩ wo := ⟨HRUJ.out, HK.out.dB, Nat.le_trans (Nat.le_trans HK.out.lo HBY.out.size) HBR.out.size, HK.out.ok.mark _⟩
              have hcall := HIH.out x (markE e (cvL ((u.args.map (exT b)).take j))) (by have h1 := HT.out; have h2 := HPE.out; have := parts_mem (List.mem_map_of_mem (f := exT b) hmem); omega) ((HTO.out.wf.kid HK0.out hmem).more fun m hm => markE_of _ hm) aq cq wo hrk hs
              have HM : Hid ((u.args.map (exT b))[j]? = some (exT b x)) := Lib.hid (by rw [List.getElem?_map, List.getElem?_eq_getElem hjk, hx]; rfl)
              obtain ⟨X, hX⟩ : ∃ X, X = exT b x := ⟨_, rfl⟩
              rw [← hX] at hcall HM
              unfold rowOf at hcall
              have HCALL := Lib.hid hcall
              clear hcall hvr hs hx hmem hrk hX hDb
              cases hr : cmpT X with
              | true =>
                have HR := Lib.hid hr
                go_wp2_with (first | (go_at_call 90; refine HCALL.out.mono ?_; rintro en w7 h7; obtain rfl : en = .returned (.bool true) := (by rw [h7.val, HR.out]); have H7 := Lib.hid h7; clear h7))
                go_roundw
                case rel =>
                  refine ⟨j + 1, by go_num, hlt, by rw [cmpL_take HM.out, HOKJ.out, HR.out]; rfl, ?_, HBR.out.trans H7.out.bel, HBX.out.trans H7.out.box⟩
                  have h := H7.out.r HR.out
                  rw [markE_two, ← cvL_take HM.out] at h
                  exact h
                case measure => simp only [intOf]; omega
              | false =>
                have HR := Lib.hid hr
                go_wp2_with (first | (go_at_call 90; refine HCALL.out.mono ?_; rintro en w7 h7; obtain rfl : en = .returned (.bool false) := (by rw [h7.val, HR.out]); have H7 := Lib.hid h7; clear h7))
                go_ret
                have e1 : cmpT T = false := by
                  rw [HE.out]
                  exact cmpL_cut (j + 1) (by rw [cmpL_take HM.out, HOKJ.out, HR.out]; rfl)
                exact ⟨congrArg (fun b : Bool => Ending.returned (.bool b)) e1.symm, (fun h => by rw [e1] at h; cases h), HBYB.out.trans (HBR.out.trans H7.out.bel), HBXY.out.trans (HBX.out.trans H7.out.box)⟩
            · obtain rfl : j = c := by omega
              have hd : decide ((j : Int) < (j : Int)) = false := by simp
              go_wp2_with fail
              go_ret
              have h1 := HOKJ.out
              have h2 := HRUJ.out
              rw [HC.out, List.take_of_length_le (by simp)] at h1 h2
              have e1 : cmpT T = true := by rw [HE.out]; exact h1
              refine ⟨congrArg (fun b : Bool => Ending.returned (.bool b)) e1.symm, fun _ => ?_, HBYB.out.trans HBR.out, HBXY.out.trans HBX.out⟩
              rw [HCV.out]; exact h2
end Go.Proofs.Ytdeomphilggokaa
