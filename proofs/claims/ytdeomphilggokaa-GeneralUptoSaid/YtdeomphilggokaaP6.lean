/-
  Proved: the contract of the program's Same. Condition: what is known is in order.
-/
import Derived.Test.YtdeomphilggokaaP5
set_option linter.unusedSimpArgs false
set_option linter.unusedVariables false
namespace Go.Proofs.Ytdeomphilggokaa
open Go.RowKit

theorem two_tops {w w3 w4 : World} {D : Nat → Prop} {u v : Ty} {ap aq : Option Addr} {cp cq : Nat} {a0 a1 a2 a3 a4 b0 b1 b2 b3 b4 : Value} (hD : ∀ b, D b → b < w.heap.size) (ha : w4.heap[w.heap.size]? = some (.cells #[a0, a1, a2, a3, a4] 33 (0, 0))) (hb : w4.heap[w.heap.size + 1]? = some (.cells #[b0, b1, b2, b3, b4] 33 (0, 0)))
    (hu : SlD w3 D u.args ap cp) (hv : SlD w4 D v.args aq cq) (h3 : Below w.heap.size w w3) (h34 : Below w3.heap.size w3 w4) (h4 : Below w.heap.size w w4) :
    ∃ ap' cp' aq' cq', TB (set5 (set5 w4 w.heap.size u ap cp) (w.heap.size + 1) v aq cq) w.heap.size u ap' cp' ∧ TB (set5 (set5 w4 w.heap.size u ap cp) (w.heap.size + 1) v aq cq) (w.heap.size + 1) v aq' cq' ∧ SlD (set5 (set5 w4 w.heap.size u ap cp) (w.heap.size + 1) v aq cq) D u.args ap' cp' ∧ SlD (set5 (set5 w4 w.heap.size u ap cp) (w.heap.size + 1) v aq cq) D v.args aq' cq' ∧ Below w.heap.size w (set5 (set5 w4 w.heap.size u ap cp) (w.heap.size + 1) v aq cq) := by
  have h9 : Below w.heap.size w4 (set5 (set5 w4 w.heap.size u ap cp) (w.heap.size + 1) v aq cq) := below_set5 (below_set5 (Below.refl _ _) (Nat.le_refl _)) (Nat.le_succ _)
  refine ⟨ap, cp, aq, cq, set5_ne (TB.set ha u ap cp) (Nat.succ_ne_self _).symm, TB.set (set5_ne hb (Nat.succ_ne_self _)) v aq cq, (hu.keep fun b hb off => below_cells h34 b (Nat.lt_of_lt_of_le (hD b hb) h3.size) off).keep fun b hb off => below_cells h9 b (hD b hb) off, hv.keep fun b hb off => below_cells h9 b (hD b hb) off, h4.trans h9⟩
set_option maxRecDepth 100000 in
set_option maxHeartbeats 16000000 in
theorem psame_any (B : Nat) (ub mq : Nat) (V : List Int) (pl : Int → Nat) (D : Nat → Prop) : ∀ (f : Nat) (a b : Ty) (st : St) (r : St × Int), sameT f st a b = some r → Wf V st.e a → Wf V st.e b → ∀ (aa ab : Option Addr) (ca cb : Nat) (w : World), PK B ub mq V pl D st w → SlD w D a.args aa ca → SlD w D b.args ab cb →
    Calls Try.prog 28 #[.pointer (some ⟨ub, 0, none⟩), .agg (rowOf a aa ca), .agg (rowOf b ab cb)] w (BindP B ub mq V pl D r w) := by
  intro f
  induction f with
  | zero => intro a b st r h; rw [sameT] at h; cases h
  | succ f IH =>
    intro a b st r hr hwa hwb aa ab ca cb w hk hva hvb
    obtain ⟨W0, hW0⟩ : ∃ W0, W0 = w.alloc (.cells (rowOf a aa ca) 33) := ⟨_, rfl⟩
    obtain ⟨hbW0, hlW0, hrow0⟩ := box_at hW0
    obtain ⟨W, hW⟩ : ∃ W, W = W0.alloc (.cells (rowOf b ab cb) 33) := ⟨_, rfl⟩
    obtain ⟨hbW1, hlW1, hrow2⟩ := box_at hW
    have hs0 : W0.heap.size = w.heap.size + 1 := by rw [hW0]; simp
    have hbW := hbW0.trans (hbW1.mono hbW0.size)
    have hrow := blk_below hrow0 hbW1 hlW0
    rw [hs0] at hrow2
    have hl1 : w.heap.size < W.heap.size := lt_of_block hrow
    have hl2 : w.heap.size + 1 < W.heap.size := lt_of_block hrow2
    rw [hW0] at hW
    have hKV : ∀ X : World, Below w.heap.size w X → PK B ub mq V pl D st X ∧ SlD X D a.args aa ca ∧ SlD X D b.args ab cb := fun X hX => ⟨hk.keep hX, hva.keep fun c hc off => below_cells hX c (hk.d c hc) off, hvb.keep fun c hc off => below_cells hX c (hk.d c hc) off⟩
    have hTa := top_ok hk.ok hwa
    have hTb := top_ok hk.ok hwb
    obtain ⟨g1, hg1⟩ : ∃ g1, g1 = decide (400 < parts (exT st.b a)) := ⟨_, rfl⟩
    obtain ⟨g2, hg2⟩ : ∃ g2, g2 = decide (400 < parts (exT st.b b)) := ⟨_, rfl⟩
    have HG1 : Hid (∀ X : World, Below w.heap.size w X → Calls Try.prog 30 #[.pointer (some ⟨ub, 0, none⟩), .agg (rowOf a aa ca)] X fun e w' => e = .returned (.bool g1) ∧ Below X.heap.size X w') := Lib.hid (fun X hX => by rw [hg1]; exact pGreat_any B ub mq V pl D st a hwa aa ca X (hKV X hX).1 (hKV X hX).2.1)
    have HG2 : Hid (∀ X : World, Below w.heap.size w X → Calls Try.prog 30 #[.pointer (some ⟨ub, 0, none⟩), .agg (rowOf b ab cb)] X fun e w' => e = .returned (.bool g2) ∧ Below X.heap.size X w') := Lib.hid (fun X hX => by rw [hg2]; exact pGreat_any B ub mq V pl D st b hwb ab cb X (hKV X hX).1 (hKV X hX).2.2)
    have HT1 : Hid (∀ X : World, Below w.heap.size w X → Calls Try.prog 52 #[.pointer (some ⟨ub, 0, none⟩), .agg (rowOf a aa ca)] X (TopP X D (topT st.e st.b a))) := Lib.hid (fun X hX => pseen_any B ub mq V pl D st a hwa aa ca X (hKV X hX).1 (hKV X hX).2.1)
    have HT2 : Hid (∀ X : World, Below w.heap.size w X → Calls Try.prog 52 #[.pointer (some ⟨ub, 0, none⟩), .agg (rowOf b ab cb)] X (TopP X D (topT st.e st.b b))) := Lib.hid (fun X hX => pseen_any B ub mq V pl D st b hwb ab cb X (hKV X hX).1 (hKV X hX).2.2)
    rw [sameT] at hr
    have hr0 : 400 < parts (exT st.b a) ↔ g1 = true := by rw [hg1, decide_eq_true_eq]
    have hr1 : 400 < parts (exT st.b b) ↔ g2 = true := by rw [hg2, decide_eq_true_eq]
    simp only [hr0, hr1] at hr
    obtain ⟨u, hu⟩ : ∃ u, u = topT st.e st.b a := ⟨_, rfl⟩
    obtain ⟨v, hv⟩ : ∃ v, v = topT st.e st.b b := ⟨_, rfl⟩
    rw [← hu] at hTa HT1 hr
    rw [← hv] at hTb HT2 hr
    have HR := Lib.hid hr
    have HTA := Lib.hid hTa
    have HTB := Lib.hid hTb
    have HK := Lib.hid hk
    have HIH := Lib.hid IH
    have HBW := Lib.hid hbW
    have hlu : u.args.length ≤ 3000000000000 := hTa.wf.fits.len
    have hlv : v.args.length ≤ 3000000000000 := hTb.wf.fits.len
    obtain ⟨m, hm⟩ : ∃ m, m = a.args.length := ⟨_, rfl⟩
    obtain ⟨m', hm'⟩ : ∃ m', m' = b.args.length := ⟨_, rfl⟩
    unfold rowOf at hW hrow hrow2 HG1 HG2 HT1 HT2 ⊢
    rw [← hm] at hW hrow HG1 HT1 ⊢
    rw [← hm'] at hW hrow2 HG2 HT2 ⊢
    have HROW := Lib.hid hrow
    have HROW2 := Lib.hid hrow2
    have c0 : W.cell? ⟨w.heap.size, 0, none⟩ = some (.int .i64 a.k) := blk_cell hrow 0
    have c1 : W.cell? ⟨w.heap.size, 1, none⟩ = some (.int .i64 a.n) := blk_cell hrow 1
    have c2 : W.cell? ⟨w.heap.size, 2, none⟩ = some (.string a.s) := blk_cell hrow 2
    have c3 : W.cell? ⟨w.heap.size, 3, none⟩ = some (.int .i64 a.q) := blk_cell hrow 3
    have c4 : W.cell? ⟨w.heap.size, 4, none⟩ = some (.slice aa m ca) := blk_cell hrow 4
    have HWW := Lib.hid hW
    clear IH hTa hTb hk hu hv hr hW hbW hrow hrow2 hva hvb hwa hwb hKV hbW0 hbW1 hW0 hrow0 hs0 hlW0 hlW1 hr0 hr1 hg1 hg2 hm hm'
    go_enter Try.func28, Try.ntmps28
    go_upto_region 1 with fail
    rw [← HWW.out]
    clear HWW
    generalize Value.agg #[.int .i64 a.k, .int .i64 a.n, .string a.s, .int .i64 a.q, .slice aa m ca] = v0
    generalize Value.agg #[.int .i64 b.k, .int .i64 b.n, .string b.s, .int .i64 b.q, .slice ab m' cb] = v1
    cases g1 with
    | true =>
      have HE : Hid (r = (st, 12)) := Lib.hid (by have h := HR.out; rw [if_pos (.inl rfl)] at h; exact (Option.some.inj h).symm)
      go_wp2_with (first | (go_at_call 30; refine (HG1.out W HBW.out).mono ?_; rintro e w1 ⟨rfl, hb1⟩; have HB1 := Lib.hid (bthen HBW.out hb1); clear hb1))
      go_ret
      rw [HE.out]
      exact ⟨rfl, (fun h => by cases h), HB1.out.mono HK.out.lo, BoxP.of_below HB1.out⟩
    | false =>
    cases g2 with
    | true =>
      have HE : Hid (r = (st, 12)) := Lib.hid (by have h := HR.out; rw [if_pos (.inr rfl)] at h; exact (Option.some.inj h).symm)
      go_wp2_with (first
        | (go_at_call 30; refine (HG2.out w1 HB1.out).mono ?_; rintro e w2 ⟨rfl, hb2⟩; have HB2 := Lib.hid (bthen HB1.out hb2); clear hb2)
        | (go_at_call 30; refine (HG1.out W HBW.out).mono ?_; rintro e w1 ⟨rfl, hb1⟩; have HB1 := Lib.hid (bthen HBW.out hb1); obtain ⟨⟨d0, d1, d2, d3, d4⟩, -⟩ := five_cells (blk_below HROW2.out hb1 hl2); clear hb1))
      go_ret
      rw [HE.out]
      exact ⟨rfl, (fun h => by cases h), HB2.out.mono HK.out.lo, BoxP.of_below HB2.out⟩
    | false =>
    have HR2 : Hid (some r = if u.k = 0 ∧ v.k = 0 ∧ u.n = v.n then some (st, 0) else if u.k = 0 then some (bindD st u.n v) else if v.k = 0 then some (bindD st v.n u) else if headA u v = true then seqD (sameT f) st u.args v.args else some (st, 9)) := Lib.hid (by
      have h := HR.out
      rw [if_neg (by simp)] at h
      exact h.symm)
    clear HR
    go_upto_region 3 with (first
      | (go_at_call 30; refine (HG2.out w1 HB1.out).mono ?_; rintro e w2 ⟨rfl, hb2⟩; have HB2 := Lib.hid (bthen HB1.out hb2); have HR12 := Lib.hid (blk_below HR11.out hb2 (lt_of_block HR11.out)); have HR22 := Lib.hid (blk_below HR21.out hb2 (lt_of_block HR21.out)); clear hb2)
      | (go_at_call 30; refine (HG1.out W HBW.out).mono ?_; rintro e w1 ⟨rfl, hb1⟩; have HB1 := Lib.hid (bthen HBW.out hb1); have HR11 := Lib.hid (blk_below HROW.out hb1 hl1); have HR21 := Lib.hid (blk_below HROW2.out hb1 hl2); obtain ⟨⟨d0, d1, d2, d3, d4⟩, -⟩ := five_cells HR21.out; clear hb1))
    clear c0 c1 c2 c3 c4 d0 d1 d2 d3 d4 HG1 HG2
    have hr12 := HR12.out
    have hr22 := HR22.out
    obtain ⟨⟨c0, c1, c2, c3, c4⟩, -⟩ := five_cells hr12
    obtain ⟨⟨d0, d1, d2, d3, d4⟩, -⟩ := five_cells hr22
    clear hr12 hr22
    have HBD2 : Hid (Below w.heap.size w w2.drew) := Lib.hid HB2.out.drew
    go_cut [] from 17 to 22 (fun wx => ∃ ap cp aq cq, TB wx w.heap.size u ap cp ∧ TB wx (w.heap.size + 1) v aq cq ∧ SlD wx D u.args ap cp ∧ SlD wx D v.args aq cq ∧ Below w.heap.size w wx)
    case first =>
      go_region_law (first
        | (go_simp; go_at_call 52; refine (HT2.out w3 HB3.out).mono ?_; rintro e w4 h4; obtain ⟨aq, cq, rfl, hs4, hb4⟩ := h4.out; have HS4 := Lib.hid hs4; have HB34 := Lib.hid hb4; have HB4 := Lib.hid (HB3.out.trans (hb4.mono HB3.out.size)); have hr14 := blk_below HR13.out hb4 (lt_of_block HR13.out); have hr24 := blk_below HR23.out hb4 (lt_of_block HR23.out); have HR14 := Lib.hid hr14; have HR24 := Lib.hid hr24; unfold rowOf at ⊢; obtain ⟨⟨k0, k1, k2, k3, k4⟩, ⟨y0, y1, y2, y3, y4⟩⟩ := five_cells hr14; obtain ⟨⟨o0, o1, o2, o3, o4⟩, ⟨p0, p1, p2, p3, p4⟩⟩ := five_cells hr24; clear h4 hs4 hb4 hr14 hr24)
        | (go_simp; go_at_call 52; refine (HT1.out w2.drew HBD2.out).mono ?_; rintro e w3 h3; obtain ⟨ap, cp, rfl, hs3, hb3⟩ := h3.out; have HS3 := Lib.hid hs3; have HB3 := Lib.hid (HBD2.out.trans (hb3.mono HBD2.out.size)); have hr13 := blk_below (show w2.drew.heap[w.heap.size]? = _ from HR12.out) hb3 (lt_of_block HR12.out); have hr23 := blk_below (show w2.drew.heap[w.heap.size + 1]? = _ from HR22.out) hb3 (lt_of_block HR22.out); have HR13 := Lib.hid hr13; have HR23 := Lib.hid hr23; unfold rowOf at ⊢; obtain ⟨⟨l0, l1, l2, l3, l4⟩, -⟩ := five_cells hr23; clear h3 hs3 hb3 hr13 hr23))
      all_goals
        go_wp2_with fail
        go_meet
        exact two_tops (fun b hb => HK.out.d b hb) HR14.out HR24.out HS3.out HS4.out HB3.out HB34.out HB4.out
    case rest =>
    obtain ⟨ap, cp, aq, cq, htu, htv, hsu, hsv, hbw9⟩ := hcut
    obtain ⟨Y, rfl⟩ : ∃ Y : World, Y = wc := ⟨_, rfl⟩
    have HBY : Hid (Below w.heap.size w Y) := Lib.hid hbw9
    have HTV : Hid (TB Y (w.heap.size + 1) v aq cq) := Lib.hid htv
    have HTU : Hid (TB Y w.heap.size u ap cp) := Lib.hid htu
    have HSV : Hid (SlD Y D v.args aq cq) := Lib.hid hsv
    have HSU : Hid (SlD Y D u.args ap cp) := Lib.hid hsu
    have hpY : w.heap.size < Y.heap.size := lt_of_block HTU.out
    have hpY2 : w.heap.size + 1 < Y.heap.size := lt_of_block HTV.out
    clear htu htv hsu hsv hbw9 c0 c1 c2 c3 c4 d0 d1 d2 d3 d4 HT1 HT2 HR12 HR22 HBD2 HB1 HB2 HROW HROW2 HR11 HR21 HBW hl1 hl2
    have hTYc := HTU.out
    have hTYd := HTV.out
    unfold rowOf at hTYc hTYd
    obtain ⟨⟨c0, c1, c2, c3, c4⟩, -⟩ := five_cells hTYc
    obtain ⟨⟨d0, d1, d2, d3, d4⟩, -⟩ := five_cells hTYd
    clear hTYc hTYd
    have HKY := Lib.hid (HK.out.keep HBY.out)
    have HBYB : Hid (Below B w Y) := Lib.hid (HBY.out.mono HK.out.lo)
    have HBXY : Hid (BoxP w Y) := Lib.hid (BoxP.of_below HBY.out)
    by_cases hku : u.k = 0
    · have e0 : (u.k == 0) = true := by simp [hku]
      by_cases hkv : v.k = 0
      · have e0' : (v.k == 0) = true := by simp [hkv]
        by_cases hnn : u.n = v.n
        · have en : (u.n == v.n) = true := by simp [hnn]
          have HE : Hid (r = (st, 0)) := Lib.hid (by have h := HR2.out; rw [if_pos ⟨hku, hkv, hnn⟩] at h; exact Option.some.inj h)
          clear hku hkv hnn
          go_wp2_with fail
          go_ret
          rw [HE.out]
          exact ⟨rfl, (fun _ => HKY.out.r), HBYB.out, HBXY.out⟩
        · have en : (u.n == v.n) = false := by simp [hnn]
          have HE : Hid (r = bindD st u.n v) := Lib.hid (by have h := HR2.out; rw [if_neg (fun h => hnn h.2.2), if_pos hku] at h; exact Option.some.inj h)
          have HCB := Lib.hid (pbind_any B ub mq V pl D st u.n (HTA.out.wf.vs u.n (by rw [occ_args, if_pos hku]; simp)) v HTB.out.wf aq cq Y HKY.out HSV.out)
          unfold rowOf at HCB
          rw [← HE.out] at HCB
          clear hku hkv
          go_wp2_with (first | (go_at_call 53; refine HCB.out.mono ?_; rintro e w5 h5; obtain rfl := h5.val; have H5 := Lib.hid h5; clear h5))
          go_ret
          exact ⟨rfl, H5.out.r, HBYB.out.trans H5.out.bel, HBXY.out.trans H5.out.box⟩
      · have e0' : (v.k == 0) = false := by simp [hkv]
        have HE : Hid (r = bindD st u.n v) := Lib.hid (by have h := HR2.out; rw [if_neg (fun h => hkv h.2.1), if_pos hku] at h; exact Option.some.inj h)
        have HCB := Lib.hid (pbind_any B ub mq V pl D st u.n (HTA.out.wf.vs u.n (by rw [occ_args, if_pos hku]; simp)) v HTB.out.wf aq cq Y HKY.out HSV.out)
        unfold rowOf at HCB
        rw [← HE.out] at HCB
        clear hku hkv
        go_wp2_with (first | (go_at_call 53; refine HCB.out.mono ?_; rintro e w5 h5; obtain rfl := h5.val; have H5 := Lib.hid h5; clear h5))
        go_ret
        exact ⟨rfl, H5.out.r, HBYB.out.trans H5.out.bel, HBXY.out.trans H5.out.box⟩
    · have e0 : (u.k == 0) = false := by simp [hku]
      by_cases hkv : v.k = 0
      · have e0' : (v.k == 0) = true := by simp [hkv]
        have HE : Hid (r = bindD st v.n u) := Lib.hid (by have h := HR2.out; rw [if_neg (fun h => hku h.1), if_neg hku, if_pos hkv] at h; exact Option.some.inj h)
        have HCB := Lib.hid (pbind_any B ub mq V pl D st v.n (HTB.out.wf.vs v.n (by rw [occ_args, if_pos hkv]; simp)) u HTA.out.wf ap cp Y HKY.out HSU.out)
        unfold rowOf at HCB
        rw [← HE.out] at HCB
        clear hku hkv
        go_wp2_with (first | (go_at_call 53; refine HCB.out.mono ?_; rintro e w5 h5; obtain rfl := h5.val; have H5 := Lib.hid h5; clear h5))
        go_ret
        exact ⟨rfl, H5.out.r, HBYB.out.trans H5.out.bel, HBXY.out.trans H5.out.box⟩
      · have e0' : (v.k == 0) = false := by simp [hkv]
        have HR3 : Hid (some r = if headA u v = true then seqD (sameT f) st u.args v.args else some (st, 9)) := Lib.hid (by have h := HR2.out; rw [if_neg (fun h => hku h.1), if_neg hku, if_neg hkv] at h; exact h)
        have HKU := Lib.hid hku
        have HKV := Lib.hid hkv
        clear hku hkv HR2
        obtain ⟨c, hc⟩ : ∃ c, c = u.args.length := ⟨_, rfl⟩
        obtain ⟨c', hc'⟩ : ∃ c', c' = v.args.length := ⟨_, rfl⟩
        rw [← hc] at c4 hlu
        rw [← hc'] at d4 hlv
        have HC := Lib.hid hc
        have HC' := Lib.hid hc'
        have HH : Hid (headA u v = decide (u.k = v.k ∧ u.s.toList = v.s.toList ∧ u.n = v.n ∧ c = c')) := Lib.hid (by rw [hc, hc']; rfl)
        clear hc hc'
        have FAIL : Hid (headA u v = false → BindP B ub mq V pl D r w (.returned (.int .i64 9)) Y) := Lib.hid (fun h => by
          have h1 := HR3.out
          rw [if_neg (by rw [h]; simp)] at h1
          rw [Option.some.inj h1]
          exact ⟨rfl, (fun h => by cases h), HBYB.out, HBXY.out⟩)
        by_cases h1 : u.k = v.k
        case neg =>
          have b1 : (u.k != v.k) = true := by simpa using h1
          have H1 := Lib.hid h1
          clear h1
          go_wp2_with fail
          go_ret
          exact FAIL.out (by rw [HH.out]; simp [H1.out])
        have b1 : (u.k != v.k) = false := by simpa using h1
        have H1 := Lib.hid h1
        clear h1
        by_cases h2 : u.s.toList = v.s.toList
        case neg =>
          have bs1 : (u.s.toList == v.s.toList) = false := by simpa using h2
          have bs2 : (u.s.toList != v.s.toList) = true := by simpa using h2
          have H2 := Lib.hid h2
          go_wp2_with fail
          go_ret
          exact FAIL.out (by rw [HH.out]; simp [H2.out])
        have H2 := Lib.hid h2
        by_cases h3 : u.n = v.n
        case neg =>
          have b3 : (u.n != v.n) = true := by simpa using h3
          have H3 := Lib.hid h3
          clear h3
          go_wp2_with fail
          go_ret
          exact FAIL.out (by rw [HH.out]; simp [H3.out])
        have b3 : (u.n != v.n) = false := by simpa using h3
        have H3 := Lib.hid h3
        clear h3
        by_cases h4 : c = c'
        case neg =>
          have b4 : ((c : Int) != (c' : Int)) = true := by simp; omega
          have H4 := Lib.hid h4
          clear h4
          go_wp2_with fail
          go_ret
          exact FAIL.out (by rw [HH.out]; simp [H4.out])
        subst h4
        have HSQ : Hid (seqD (sameT f) st (u.args.drop 0) (v.args.drop 0) = some r) := Lib.hid (by
          have h1 := HR3.out
          rw [if_pos (by rw [HH.out]; simp [H1.out, H2.out, H3.out])] at h1
          exact h1.symm)
        go_upto_region 15 with fail
        clear h2 b1 b3 c0 c1 c2 c3 d0 d1 d2 d3 HR3 HH FAIL H1 H2 H3
        go_wp2_with fail
        go_loopw [7, 8, 83] (fun _ _ i wr => ∃ (j : Nat) (sj : St), i = .int .i64 (j : Int) ∧ j ≤ c ∧ seqD (sameT f) sj (u.args.drop j) (v.args.drop j) = some r ∧ Grown V st sj ∧ PU B wr ub mq V pl D sj ∧ Below B Y wr ∧ BoxP Y wr) (fun _ _ i _ => c - (intOf i).toNat)
        case atStart => exact ⟨0, st, rfl, Nat.zero_le _, HSQ.out, Grown.refl HK.out.ok, HKY.out.r, Below.refl _ _, BoxP.refl _⟩
        case round =>
          obtain ⟨j, sj, rfl, hj, hsq, hgr, hru, hbr, hbx⟩ := hrel
          obtain ⟨wo, rfl⟩ : ∃ wo : World, wo = wr := ⟨_, rfl⟩
          have r4 : wo.cell? ⟨w.heap.size, 4, none⟩ = some (.slice ap c cp) := by rw [HC.out]; exact blk_cell (hbx _ _ _ _ (by decide) HTU.out) 4
          have s4 : wo.cell? ⟨w.heap.size + 1, 4, none⟩ = some (.slice aq c cq) := by rw [HC'.out]; exact blk_cell (hbx _ _ _ _ (by decide) HTV.out) 4
          have HBR := Lib.hid hbr
          have HBX := Lib.hid hbx
          have HSQJ := Lib.hid hsq
          have HGR := Lib.hid hgr
          have HRUJ := Lib.hid hru
          clear hsq hgr hru hbr hbx c4 d4
          by_cases hlt : j < c
          · have hd : decide ((j : Int) < (c : Int)) = true := by simp; omega
            have hju : j < u.args.length := by rw [← HC.out]; exact hlt
            have hjv : j < v.args.length := by rw [← HC'.out]; exact hlt
            have hvu : SlD wo D u.args ap cp := HSU.out.keep (cells_D HK.out.dB HBR.out)
            have hvv : SlD wo D v.args aq cq := HSV.out.keep (cells_D HK.out.dB HBR.out)
            obtain ⟨bb, p, ax, cx, hDb, hix, x0, x1, x2, x3, x4, hsx⟩ := arg_cells hvu hju
            obtain ⟨bb', p', ay, cy, hDb', hix', y0, y1, y2, y3, y4, hsy⟩ := arg_cells hvv hjv
            rw [← HC.out] at hix
            rw [← HC'.out] at hix'
            obtain ⟨x, hx⟩ : ∃ x, x = u.args[j] := ⟨_, rfl⟩
            obtain ⟨y, hy⟩ : ∃ y, y = v.args[j] := ⟨_, rfl⟩
            rw [← hx] at x0 x1 x2 x3 x4 hsx
            rw [← hy] at y0 y1 y2 y3 y4 hsy
            obtain ⟨s', e', hsame, hor⟩ := seq_step (by rw [List.getElem?_eq_getElem hju, hx] : u.args[j]? = some x) (by rw [List.getElem?_eq_getElem hjv, hy] : v.args[j]? = some y) HSQJ.out
            have hwx : Wf V sj.e x := (HTA.out.wf.kid HKU.out (by rw [hx]; exact List.getElem_mem _)).more HGR.out.e
            have hwy : Wf V sj.e y := (HTB.out.wf.kid HKV.out (by rw [hy]; exact List.getElem_mem _)).more HGR.out.e
            have hrk : PK B ub mq V pl D sj wo := ⟨HRUJ.out, HK.out.dB, Nat.le_trans HKY.out.lo HBR.out.size, HGR.out.ok⟩
            have hdr : Below wo.heap.size wo wo.drew := (Below.refl _ _).drew
            have hcall := HIH.out x y sj (s', e') hsame hwx hwy ax ay cx cy wo.drew (hrk.keep hdr) (hsx.keep fun b hb off => below_cells hdr b (hrk.d b hb) off) (hsy.keep fun b hb off => below_cells hdr b (hrk.d b hb) off)
            unfold rowOf at hcall
            have HCALL := Lib.hid hcall
            have HOR := Lib.hid hor
            have HGS : Hid (e' = 0 → Grown V st s') := Lib.hid (fun h => HGR.out.trans ((same_grown f sj x y hrk.ok hwx hwy s' e' hsame).2 h))
            have KEEP : Hid (∀ X : World, Below B wo.drew X → BoxP wo.drew X → (X.cell? ⟨w.heap.size, 4, none⟩ = some (.slice ap c cp) ∧ X.cell? ⟨w.heap.size + 1, 4, none⟩ = some (.slice aq c cq))) := Lib.hid (fun X _ hX => ⟨by rw [HC.out]; exact blk_cell (hX _ _ _ _ (by decide) (HBX.out _ _ _ _ (by decide) HTU.out)) 4, by rw [HC'.out]; exact blk_cell (hX _ _ _ _ (by decide) (HBX.out _ _ _ _ (by decide) HTV.out)) 4⟩)
            have START := Lib.hid (show wo.drew.cell? ⟨w.heap.size, 4, none⟩ = some (.slice ap c cp) ∧ wo.drew.cell? ⟨w.heap.size + 1, 4, none⟩ = some (.slice aq c cq) ∧ (wo.drew.cell? ⟨bb, p, none⟩ = some (.int .i64 x.k) ∧ wo.drew.cell? ⟨bb, p + 1, none⟩ = some (.int .i64 x.n) ∧ wo.drew.cell? ⟨bb, p + 2, none⟩ = some (.string x.s) ∧ wo.drew.cell? ⟨bb, p + 3, none⟩ = some (.int .i64 x.q) ∧ wo.drew.cell? ⟨bb, p + 4, none⟩ = some (.slice ax x.args.length cx)) ∧ (wo.drew.cell? ⟨bb', p', none⟩ = some (.int .i64 y.k) ∧ wo.drew.cell? ⟨bb', p' + 1, none⟩ = some (.int .i64 y.n) ∧ wo.drew.cell? ⟨bb', p' + 2, none⟩ = some (.string y.s) ∧ wo.drew.cell? ⟨bb', p' + 3, none⟩ = some (.int .i64 y.q) ∧ wo.drew.cell? ⟨bb', p' + 4, none⟩ = some (.slice ay y.args.length cy)) from ⟨r4, s4, ⟨x0, x1, x2, x3, x4⟩, ⟨y0, y1, y2, y3, y4⟩⟩)
            have KEEP2 : Hid (∀ X : World, Below B wo.drew X → BoxP wo.drew X → X.cell? ⟨w.heap.size, 4, none⟩ = some (.slice ap c cp) ∧ X.cell? ⟨w.heap.size + 1, 4, none⟩ = some (.slice aq c cq) ∧ (X.cell? ⟨bb, p, none⟩ = some (.int .i64 x.k) ∧ X.cell? ⟨bb, p + 1, none⟩ = some (.int .i64 x.n) ∧ X.cell? ⟨bb, p + 2, none⟩ = some (.string x.s) ∧ X.cell? ⟨bb, p + 3, none⟩ = some (.int .i64 x.q) ∧ X.cell? ⟨bb, p + 4, none⟩ = some (.slice ax x.args.length cx)) ∧ (X.cell? ⟨bb', p', none⟩ = some (.int .i64 y.k) ∧ X.cell? ⟨bb', p' + 1, none⟩ = some (.int .i64 y.n) ∧ X.cell? ⟨bb', p' + 2, none⟩ = some (.string y.s) ∧ X.cell? ⟨bb', p' + 3, none⟩ = some (.int .i64 y.q) ∧ X.cell? ⟨bb', p' + 4, none⟩ = some (.slice ay y.args.length cy))) := Lib.hid (fun X hb hX => by
              obtain ⟨q1, q2⟩ := KEEP.out X hb hX
              have q : ∀ (bk : Nat) (o : Nat) (z : Value), D bk → wo.cell? ⟨bk, o, none⟩ = some z → X.cell? ⟨bk, o, none⟩ = some z := fun bk o z hz e => (cells_D HK.out.dB hb bk hz o).trans e
              exact ⟨q1, q2, ⟨q _ _ _ hDb x0, q _ _ _ hDb x1, q _ _ _ hDb x2, q _ _ _ hDb x3, q _ _ _ hDb x4⟩, ⟨q _ _ _ hDb' y0, q _ _ _ hDb' y1, q _ _ _ hDb' y2, q _ _ _ hDb' y3, q _ _ _ hDb' y4⟩⟩)
            clear hcall hvu hvv hsx hsy hx hy hwx hwy hrk hdr hDb hDb' hsame hor x0 x1 x2 x3 x4 y0 y1 y2 y3 y4
            go_upto_region 18 with fail
            clear r4 s4
            go_cut [8] from 86 to 97 (fun s wx => s = .int .i64 e' ∧ BindP B ub mq V pl D (s', e') wo.drew (.returned (.int .i64 e')) wx)
            case first =>
              go_region_held3 (fun X => X.cell? ⟨w.heap.size, 4, none⟩ = some (.slice ap c cp) ∧ X.cell? ⟨w.heap.size + 1, 4, none⟩ = some (.slice aq c cq) ∧ (X.cell? ⟨bb, p, none⟩ = some (.int .i64 x.k) ∧ X.cell? ⟨bb, p + 1, none⟩ = some (.int .i64 x.n) ∧ X.cell? ⟨bb, p + 2, none⟩ = some (.string x.s) ∧ X.cell? ⟨bb, p + 3, none⟩ = some (.int .i64 x.q) ∧ X.cell? ⟨bb, p + 4, none⟩ = some (.slice ax x.args.length cx)) ∧ (X.cell? ⟨bb', p', none⟩ = some (.int .i64 y.k) ∧ X.cell? ⟨bb', p' + 1, none⟩ = some (.int .i64 y.n) ∧ X.cell? ⟨bb', p' + 2, none⟩ = some (.string y.s) ∧ X.cell? ⟨bb', p' + 3, none⟩ = some (.int .i64 y.q) ∧ X.cell? ⟨bb', p' + 4, none⟩ = some (.slice ay y.args.length cy)))
                (first | exact d9 | exact START.out)
                (first | (go_at_call 28; refine HCALL.out.mono ?_; rintro e w7 h7; obtain rfl := h7.val; have d9 := KEEP2.out w7 h7.bel h7.box; have H7 := Lib.hid h7; clear h7))
              go_wp2_with fail
              go_meet
              exact ⟨rfl, H7.out⟩
            case rest =>
            obtain ⟨rfl, h7⟩ := hcut
            obtain ⟨w7, rfl⟩ : ∃ w7 : World, w7 = wc := ⟨_, rfl⟩
            have H7 := Lib.hid h7
            clear h7 KEEP KEEP2 START HCALL
            by_cases he : e' = 0
            · have eb : (e' != 0) = false := by simp [he]
              have HE := Lib.hid he
              clear he
              go_wp2_with fail
              go_roundw
              case rel =>
                have h0 : seqD (sameT f) s' (u.args.drop (j + 1)) (v.args.drop (j + 1)) = some r := by
                  rcases HOR.out with ⟨_, h⟩ | ⟨h, _⟩
                  · exact h
                  · exact absurd HE.out h
                exact ⟨j + 1, s', by go_num, hlt, h0, HGS.out HE.out, H7.out.r HE.out, HBR.out.trans ((Below.refl B wo).drew.trans H7.out.bel), HBX.out.trans (show BoxP wo w7 from H7.out.box)⟩
              case measure => simp only [intOf]; omega
            · have eb : (e' != 0) = true := by simp [he]
              have HE := Lib.hid he
              clear he
              go_wp2_with fail
              go_ret
              have h0 : r = (s', e') := by
                rcases HOR.out with ⟨h, _⟩ | ⟨_, h⟩
                · exact absurd h HE.out
                · exact h
              rw [h0]
              exact ⟨rfl, (fun h => absurd h HE.out), HBYB.out.trans (HBR.out.trans ((Below.refl B wo).drew.trans H7.out.bel)), HBXY.out.trans (HBX.out.trans (show BoxP wo w7 from H7.out.box))⟩
          · obtain rfl : j = c := by omega
            have hd : decide ((j : Int) < (j : Int)) = false := by simp
            go_wp2_with fail
            go_ret
            have h := HSQJ.out
            rw [HC.out, List.drop_length, seqD] at h
            rw [← Option.some.inj h]
            exact ⟨rfl, (fun _ => HRUJ.out), HBYB.out.trans HBR.out, HBXY.out.trans HBX.out⟩
end Go.Proofs.Ytdeomphilggokaa
