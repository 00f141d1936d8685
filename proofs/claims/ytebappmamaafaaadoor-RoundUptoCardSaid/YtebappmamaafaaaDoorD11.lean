/-
  Proved: the walk of the law Round. Conditions: a code of weight at most 2^20, a text of at most 2^20 bytes; the tables.
-/
import Derived.Test.YtebappmamaafaaaDoorD10
namespace Go.Proofs.YtebappmamaafaaaDoor
open Go.RowKit

theorem small_dec (ta fa ia : Nat) : codeD ⟨#[77, 76, 49, 0, 1, 2, 104, 105, 0, 1, 0, 0, 0, 1, 0, 2, 0, 255, 255, 255, 254, 17]⟩ = .inr (smallCd ta fa ia).ct := by
  have := penc_dec (c := smallCd ta fa ia) (by rw [small_enc])
  rwa [small_enc] at this
theorem dec_inr {s : ByteArray} {c : Cc} (h : codeD s = .inr c) : decC s = c ∧ decF s = (0, 0) := by unfold decC decF; rw [h]; exact ⟨rfl, rfl⟩
/-- two cells of a block -/
abbrev SR (b : Nat) (t f : Value) (W : World) : Prop := W.cell? ⟨b, 0, none⟩ = some t ∧ W.cell? ⟨b, 1, none⟩ = some f
theorem SR.drew {b : Nat} {t f : Value} {W : World} (h : SR b t f W) : SR b t f W.drew := h
theorem SR.below {b : Nat} {t f : Value} {W W' : World} (h : SR b t f W) (hb : Below W.heap.size W W') (hl : b < W.heap.size) : SR b t f W' :=
  ⟨(hb.cell (p := ⟨b, 0, none⟩) hl).trans h.1, (hb.cell (p := ⟨b, 1, none⟩) hl).trans h.2⟩
/-- what stays known of the law's variables -/
structure RV (w W : World) (bx b7 b8 : Nat) (c : Cd) : Prop where
  b : Below w.heap.size w W
  x : W.heap[bx]? = some (.cells #[.slice c.ta c.texts.length c.tc, .slice c.fa c.funs.length c.fc] 25 (0, 0))
  c7 : ∃ t f, W.heap[b7]? = some (.cells #[t, f] 25 (0, 0))
  c8 : ∃ t f, W.heap[b8]? = some (.cells #[t, f] 34 (0, 0))
  ord : w.heap.size ≤ bx ∧ bx < b7 ∧ b7 < b8
theorem RV.below {w W W' : World} {bx b7 b8 : Nat} {c : Cd} (h : RV w W bx b7 b8 c) (hb : Below W.heap.size W W') : RV w W' bx b7 b8 c := by
  obtain ⟨t, f, h7⟩ := h.c7
  obtain ⟨t', f', h8⟩ := h.c8
  exact ⟨h.b.trans (hb.mono h.b.size), blk_below h.x hb (lt_of_block h.x), ⟨t, f, blk_below h7 hb (lt_of_block h7)⟩, ⟨t', f', blk_below h8 hb (lt_of_block h8)⟩, h.ord⟩
theorem RV.set {w W : World} {bx b7 b8 : Nat} {c : Cd} (h : RV w W bx b7 b8 c) (t f k a : Value) :
    RV w ((((W.setCell ⟨b7, 0, none⟩ t).setCell ⟨b7, 1, none⟩ f).setCell ⟨b8, 0, none⟩ k).setCell ⟨b8, 1, none⟩ a) bx b7 b8 c ∧
    ((((W.setCell ⟨b7, 0, none⟩ t).setCell ⟨b7, 1, none⟩ f).setCell ⟨b8, 0, none⟩ k).setCell ⟨b8, 1, none⟩ a).heap[b7]? = some (.cells #[t, f] 25 (0, 0)) ∧
    ((((W.setCell ⟨b7, 0, none⟩ t).setCell ⟨b7, 1, none⟩ f).setCell ⟨b8, 0, none⟩ k).setCell ⟨b8, 1, none⟩ a).heap[b8]? = some (.cells #[k, a] 34 (0, 0)) := by
  obtain ⟨t0, f0, h7⟩ := h.c7
  obtain ⟨t1, f1, h8⟩ := h.c8
  obtain ⟨o1, o2, o3⟩ := h.ord
  have g7 : ((((W.setCell ⟨b7, 0, none⟩ t).setCell ⟨b7, 1, none⟩ f).setCell ⟨b8, 0, none⟩ k).setCell ⟨b8, 1, none⟩ a).heap[b7]? = some (.cells #[t, f] 25 (0, 0)) :=
    blk_set_ne (blk_set_ne (blk_set (blk_set h7 0 t) 1 f) (by omega) _ _) (by omega) _ _
  have g8 : ((((W.setCell ⟨b7, 0, none⟩ t).setCell ⟨b7, 1, none⟩ f).setCell ⟨b8, 0, none⟩ k).setCell ⟨b8, 1, none⟩ a).heap[b8]? = some (.cells #[k, a] 34 (0, 0)) :=
    blk_set (blk_set (blk_set_ne (blk_set_ne h8 (by omega) _ _) (by omega) _ _) 0 k) 1 a
  refine ⟨⟨?_, ?_, ⟨_, _, g7⟩, ⟨_, _, g8⟩, h.ord⟩, g7, g8⟩
  · exact (((h.b.setCell (p := ⟨b7, 0, none⟩) (by simp; omega) _).setCell (p := ⟨b7, 1, none⟩) (by simp; omega) _).setCell (p := ⟨b8, 0, none⟩) (by simp; omega) _).setCell (p := ⟨b8, 1, none⟩) (by simp; omega) _
  · exact blk_set_ne (blk_set_ne (blk_set_ne (blk_set_ne h.x (by omega) _ _) (by omega) _ _) (by omega) _ _) (by omega) _ _

set_option maxRecDepth 100000 in
set_option maxHeartbeats 8000000 in
theorem round_any (c : Cd) (s : ByteArray) (w : World) (hF : Forms w) (hE : ErrT w) (hc : CodeAt w w.heap.size c) (hw : wgt c ≤ 1048576) (hs : s.size ≤ 1048576) :
    Calls Tryd.prog 6 #[c.val, .string s] w fun e w' => e = .returned (.bool true) ∧ Below w.heap.size w w' := by
  have h1 : 1 < w.heap.size := World.block_lt_of_cell? w _ hE
  have HF := Lib.hid hF
  have HE := Lib.hid hE
  have HC := Lib.hid hc
  have HWG := Lib.hid hw
  obtain ⟨q, z, hp⟩ : ∃ q z, penc c = (q, z) := ⟨_, _, rfl⟩
  have HP := Lib.hid hp
  have hbx := heap_alloc_new w (.cells #[.slice c.ta c.texts.length c.tc, .slice c.fa c.funs.length c.fc] 25)
  have HBX := Lib.hid hbx
  clear hF hE hc hbx hw hp
  unfold Cd.val
  go_enter Tryd.func6, Tryd.ntmps6
  go_wp2_with fail
  refine (small_any _).mono ?_
  rintro e w1 ⟨ta, fa, ia, rfl, hcs, hb1⟩
  have hb1' : Below w.heap.size w w1 := bthen (balloc (Below.refl _ _) _) hb1
  have hs1 := hb1.size
  rw [World.size_alloc] at hs1
  have HX1 := Lib.hid (blk_below HBX.out hb1 (by simp))
  have HB1 := Lib.hid hb1'
  clear hb1 hb1'
  go_wp2_with fail
  refine (penc_small ta fa ia w1 (HF.out.later (by omega) HB1.out) (by omega) hcs).mono ?_
  rintro e w2 ⟨rfl, hb2⟩
  have hs2 := hb2.size
  have HX2 := Lib.hid (blk_below HX1.out hb2 (by omega))
  have HB2 := Lib.hid (bthen HB1.out hb2)
  clear hb2 hcs
  go_wp2_with fail
  refine (pdec_any _ w2 (HF.out.later (by omega) HB2.out) (HE.out.below HB2.out) (by decide)).mono ?_
  rintro e w3 ⟨d, hdct, he, hcd, hb3⟩
  rw [(dec_inr (small_dec ta fa ia)).2] at he
  rw [(dec_inr (small_dec ta fa ia)).1] at hdct
  subst he
  have hs3 := hb3.size
  obtain ⟨w4, hw4⟩ : ∃ w4, w4 = (w3.alloc (.cells #[.slice d.ta d.texts.length d.tc, .slice d.fa d.funs.length d.fc] 25)).alloc (.cells #[.int .i64 0, .int .i64 0] 34) := ⟨_, rfl⟩
  have hb4 : Below w3.heap.size w3 w4 := by rw [hw4]; exact balloc (balloc (Below.refl _ _) _) _
  have hs4 : w4.heap.size = w3.heap.size + 1 + 1 := by rw [hw4, World.size_alloc, World.size_alloc]
  have h74 : w4.heap[w3.heap.size]? = some (.cells #[.slice d.ta d.texts.length d.tc, .slice d.fa d.funs.length d.fc] 25 (0, 0)) := by rw [hw4]; exact blk_alloc (heap_alloc_new w3 _) _
  have h84 : w4.heap[w3.heap.size + 1]? = some (.cells #[.int .i64 0, .int .i64 0] 34 (0, 0)) := by
    rw [hw4]
    have := heap_alloc_new (w3.alloc (.cells #[.slice d.ta d.texts.length d.tc, .slice d.fa d.funs.length d.fc] 25)) (.cells #[.int .i64 0, .int .i64 0] 34)
    rw [World.size_alloc] at this
    exact this
  have HRV4 : Hid (RV w w4 w.heap.size w3.heap.size (w3.heap.size + 1) c) := ⟨(HB2.out.trans (hb3.mono (by omega))).trans (hb4.mono (by omega)), blk_below (blk_below HX2.out hb3 (by omega)) hb4 (by omega), ⟨_, _, h74⟩, ⟨_, _, h84⟩, by omega, by omega, by omega⟩
  have HCD4 := Lib.hid (hcd.at_.later hb4)
  have HDCT := Lib.hid hdct
  have HW4 := Lib.hid hw4
  have HS4 := Lib.hid hs4
  have H84 := Lib.hid h84
  have hS : SR w3.heap.size (.slice d.ta d.texts.length d.tc) (.slice d.fa d.funs.length d.fc) w4 := ⟨blk_cell h74 0, blk_cell h74 1⟩
  have l4 : w3.heap.size < w4.heap.size := by omega
  have hwd : wgt d ≤ 1048576 := by rw [wgt_ct (d := smallCd ta fa ia) hdct]; exact small_wgt _ _ _
  have HWD := Lib.hid hwd
  clear hb3 hdct hcd hw4 hb4 hs4 h74 h84 hwd
  unfold Cd.val
  go_upto_region 3 with fail
  rw [← HW4.out]
  go_region_held3 (fun w' => SR w3.heap.size (.slice d.ta d.texts.length d.tc) (.slice d.fa d.funs.length d.fc) w')
    (repeat (first | exact hS | exact hS5 | exact hS6 | apply SR.drew))
    (first
      | (go_at_call 8; refine (small_any _).mono ?_; rintro e w5 ⟨ta2, fa2, ia2, rfl, hcs2, hb5⟩; have hS5 := (SR.drew hS).below hb5 l4; have hsz5 := hb5.size)
      | (go_at_call 15; refine (same_any d (smallCd ta2 fa2 ia2) _ ((HCD4.out.later (Below.refl _ _).drew).later hb5) hcs2 (same_ct HDCT.out) (wgt_lens HWD.out)).mono ?_; rintro e w6 ⟨rfl, hb6⟩; have hS6 := hS5.below hb6 (Nat.lt_of_lt_of_le l4 hsz5)))
  have hb46 : Below w4.heap.size w4 w6 := ((Below.refl w4.heap.size w4).drew.trans hb5).trans (hb6.mono hsz5)
  have HRV6 := Lib.hid (HRV4.out.below hb46)
  have h86 := blk_below H84.out hb46 (lt_of_block H84.out)
  have e0 : w6.cell? ⟨w3.heap.size + 1, 0, none⟩ = some (.int .i64 0) := blk_cell h86 0
  have x0 : w6.cell? ⟨w.heap.size, 0, none⟩ = some (.slice c.ta c.texts.length c.tc) := blk_cell HRV6.out.x 0
  have x1 : w6.cell? ⟨w.heap.size, 1, none⟩ = some (.slice c.fa c.funs.length c.fc) := blk_cell HRV6.out.x 1
  clear hS hS5 hS6 hb5 hb6 hsz5 hb46 h86 hcs2
  go_wp2_with fail
  refine (penc_any c w6 (HF.out.later (by omega) HRV6.out.b) (by have := HRV6.out.b.size; omega) (HC.out.later HRV6.out.b) HWG.out).mono ?_
  rintro e w7 ⟨he, hb7⟩
  rw [HP.out] at he
  subst he
  have HRV7 := Lib.hid (HRV6.out.below hb7)
  clear hb7 e0 x0 x1
  go_upto_if 40 with fail
  go_cut [] (fun wx => RV w wx w.heap.size w3.heap.size (w3.heap.size + 1) c)
  case first =>
    by_cases hz : z = 0
    · subst hz
      have hdq : codeD ⟨q.toArray⟩ = .inr c.ct := by
        have := penc_dec (c := c) (by rw [HP.out])
        rwa [HP.out] at this
      have hqs := (code_dec hdq).2.2
      have HDQ := Lib.hid hdq
      clear hdq
      go_wp2_with fail
      refine (pdec_any ⟨q.toArray⟩ w7 (HF.out.later (by omega) HRV7.out.b) (HE.out.below HRV7.out.b) (by omega)).mono ?_
      rintro e w8 ⟨d2, hd2, he, hcd2, hb8⟩
      rw [(dec_inr HDQ.out).2] at he
      rw [(dec_inr HDQ.out).1] at hd2
      subst he
      have hrv8 := HRV7.out.below hb8
      obtain ⟨hrv9, h79, h89⟩ := hrv8.set (.slice d2.ta d2.texts.length d2.tc) (.slice d2.fa d2.funs.length d2.fc) (.int .i64 0) (.int .i64 0)
      have hs7 := HRV7.out.b.size
      obtain ⟨t7, f7, g7⟩ := HRV7.out.c7
      obtain ⟨t8, f8, g8⟩ := HRV7.out.c8
      have l7 := lt_of_block g7
      have l8 := lt_of_block g8
      have hcd9 : CodeOwn ((((w8.setCell ⟨w3.heap.size, 0, none⟩ (.slice d2.ta d2.texts.length d2.tc)).setCell ⟨w3.heap.size, 1, none⟩ (.slice d2.fa d2.funs.length d2.fc)).setCell ⟨w3.heap.size + 1, 0, none⟩ (.int .i64 0)).setCell ⟨w3.heap.size + 1, 1, none⟩ (.int .i64 0)) w7.heap.size d2 :=
        (((hcd2.set (by omega) _ _).set (by omega) _ _).set (by omega) _ _).set (by omega) _ _
      obtain ⟨w9, hw9⟩ : ∃ w9, w9 = ((((w8.setCell ⟨w3.heap.size, 0, none⟩ (.slice d2.ta d2.texts.length d2.tc)).setCell ⟨w3.heap.size, 1, none⟩ (.slice d2.fa d2.funs.length d2.fc)).setCell ⟨w3.heap.size + 1, 0, none⟩ (.int .i64 0)).setCell ⟨w3.heap.size + 1, 1, none⟩ (.int .i64 0)) := ⟨_, rfl⟩
      rw [← hw9] at hrv9 h79 h89 hcd9
      have k7 := blk_below g7 hb8 l7
      have k8 := blk_below g8 hb8 l8
      have a0 : w8.cell? ⟨w3.heap.size, 0, none⟩ = some t7 := blk_cell k7 0
      have a1 : w8.cell? ⟨w3.heap.size, 1, none⟩ = some f7 := blk_cell k7 1
      have b0 : w8.cell? ⟨w3.heap.size + 1, 0, none⟩ = some t8 := blk_cell k8 0
      have b1 : w8.cell? ⟨w3.heap.size + 1, 1, none⟩ = some f8 := blk_cell k8 1
      have z0 := blk_free k7 0
      have z1 := blk_free k7 1
      have z2 := blk_free k8 0
      have z3 := blk_free k8 1
      have HRV9 := Lib.hid hrv9
      have H79 := Lib.hid h79
      have H89 := Lib.hid h89
      have HCD9 := Lib.hid hcd9.at_
      have HD2 := Lib.hid hd2
      have HW9 := Lib.hid hw9
      clear hrv8 hrv9 h79 h89 hcd9 hw9 hcd2 hd2 hb8 g7 g8 k7 k8
      unfold Cd.val
      go_upto_region 9 with fail
      rw [← HW9.out]
      clear a0 a1 b0 b1 z0 z1 z2 z3
      have a0 : w9.cell? ⟨w3.heap.size, 0, none⟩ = some (.slice d2.ta d2.texts.length d2.tc) := blk_cell H79.out 0
      have a1 : w9.cell? ⟨w3.heap.size, 1, none⟩ = some (.slice d2.fa d2.funs.length d2.fc) := blk_cell H79.out 1
      have x0 : w9.cell? ⟨w.heap.size, 0, none⟩ = some (.slice c.ta c.texts.length c.tc) := blk_cell HRV9.out.x 0
      have x1 : w9.cell? ⟨w.heap.size, 1, none⟩ = some (.slice c.fa c.funs.length c.fc) := blk_cell HRV9.out.x 1
      go_wp2_with fail
      refine (same_any c d2 w9 (HC.out.later HRV9.out.b) HCD9.out (same_ct HD2.out.symm) (wgt_lens HWG.out)).mono ?_
      rintro e w10 ⟨rfl, hb10⟩
      have h810 := blk_below H89.out hb10 (lt_of_block H89.out)
      have b0 : w10.cell? ⟨w3.heap.size + 1, 0, none⟩ = some (.int .i64 0) := blk_cell h810 0
      have HRV10 := Lib.hid (HRV9.out.below hb10)
      clear hb10 h810 a0 a1 x0 x1
      go_wp2_with fail
      go_meet
      exact HRV10.out
    · have bz : (z == 0) = false := by simpa using hz
      clear hz
      go_wp2_with fail
      go_meet
      exact HRV7.out
  case rest =>
    have HRV := Lib.hid hcut
    have hs7 := hcut.b.size
    clear hcut
    obtain ⟨wq, hwq⟩ : ∃ wq : World, wq = wc := ⟨_, rfl⟩
    subst hwq
    go_wp2_with fail
    refine (pdec_any s wq (HF.out.later (by omega) HRV.out.b) (HE.out.below HRV.out.b) (by omega)).mono ?_
    rintro e w8 ⟨d2, hd2, rfl, hcd2, hb8⟩
    obtain ⟨f, hf⟩ : ∃ f, f = decF s := ⟨_, rfl⟩
    rw [← hf]
    have hrv8 := HRV.out.below hb8
    obtain ⟨hrv9, h79, h89⟩ := hrv8.set (.slice d2.ta d2.texts.length d2.tc) (.slice d2.fa d2.funs.length d2.fc) (.int .i64 f.1) (.int .i64 f.2)
    obtain ⟨t7, f7, g7⟩ := HRV.out.c7
    obtain ⟨t8, f8, g8⟩ := HRV.out.c8
    have l7 := lt_of_block g7
    have l8 := lt_of_block g8
    have hcd9 : CodeOwn ((((w8.setCell ⟨w3.heap.size, 0, none⟩ (.slice d2.ta d2.texts.length d2.tc)).setCell ⟨w3.heap.size, 1, none⟩ (.slice d2.fa d2.funs.length d2.fc)).setCell ⟨w3.heap.size + 1, 0, none⟩ (.int .i64 f.1)).setCell ⟨w3.heap.size + 1, 1, none⟩ (.int .i64 f.2)) wq.heap.size d2 :=
      (((hcd2.set (by omega) _ _).set (by omega) _ _).set (by omega) _ _).set (by omega) _ _
    obtain ⟨w9, hw9⟩ : ∃ w9, w9 = ((((w8.setCell ⟨w3.heap.size, 0, none⟩ (.slice d2.ta d2.texts.length d2.tc)).setCell ⟨w3.heap.size, 1, none⟩ (.slice d2.fa d2.funs.length d2.fc)).setCell ⟨w3.heap.size + 1, 0, none⟩ (.int .i64 f.1)).setCell ⟨w3.heap.size + 1, 1, none⟩ (.int .i64 f.2)) := ⟨_, rfl⟩
    rw [← hw9] at hrv9 h79 h89 hcd9
    have k7 := blk_below g7 hb8 l7
    have k8 := blk_below g8 hb8 l8
    have a0 : w8.cell? ⟨w3.heap.size, 0, none⟩ = some t7 := blk_cell k7 0
    have a1 : w8.cell? ⟨w3.heap.size, 1, none⟩ = some f7 := blk_cell k7 1
    have b0 : w8.cell? ⟨w3.heap.size + 1, 0, none⟩ = some t8 := blk_cell k8 0
    have b1 : w8.cell? ⟨w3.heap.size + 1, 1, none⟩ = some f8 := blk_cell k8 1
    have z0 := blk_free k7 0
    have z1 := blk_free k7 1
    have z2 := blk_free k8 0
    have z3 := blk_free k8 1
    have HRV9 := Lib.hid hrv9
    have H79 := Lib.hid h79
    have H89 := Lib.hid h89
    have HCD9 := Lib.hid hcd9.at_
    have HD2 := Lib.hid hd2
    have HW9 := Lib.hid hw9
    have HFF := Lib.hid hf
    clear hrv8 hrv9 h79 h89 hcd9 hw9 hcd2 hd2 hb8 g7 g8 k7 k8 hf
    unfold Cd.val
    go_upto_region 13 with fail
    rw [← HW9.out]
    clear a0 a1 b0 b1 z0 z1 z2 z3
    have a0 : w9.cell? ⟨w3.heap.size, 0, none⟩ = some (.slice d2.ta d2.texts.length d2.tc) := blk_cell H79.out 0
    have a1 : w9.cell? ⟨w3.heap.size, 1, none⟩ = some (.slice d2.fa d2.funs.length d2.fc) := blk_cell H79.out 1
    have b0 : w9.cell? ⟨w3.heap.size + 1, 0, none⟩ = some (.int .i64 f.1) := blk_cell H89.out 0
    cases hn : codeD s with
    | inl g =>
      have hk := codeD_kind hn
      have hfg : f = g := by rw [HFF.out]; unfold decF; rw [hn]
      subst hfg
      have bk : (f.1 == 0) = false := by simpa using hk
      clear hk hn
      go_wp2_with fail
      go_ret
      exact ⟨rfl, HRV9.out.b⟩
    | inr ct =>
      have hd := dec_inr hn
      have hfg : f = (0, 0) := by rw [HFF.out]; exact hd.2
      subst hfg
      have hct : d2.ct = ct := by rw [HD2.out]; exact hd.1
      have hpe : penc d2 = (s.data.toList, 0) := dec_penc (by rw [hct]; exact hn)
      have hcc := code_dec hn
      have hwd2 : wgt d2 ≤ 1048576 := by
        have h1 := wgt_cb d2 (by rw [hct]; exact hcc.1)
        rw [hct, hcc.2.1, sizeL] at h1
        omega
      have HPE := Lib.hid hpe
      have HWD2 := Lib.hid hwd2
      clear hn hd hct hpe hcc hwd2
      go_wp2_with fail
      refine (penc_any d2 w9 (HF.out.later (by omega) HRV9.out.b) (by have := HRV9.out.b.size; omega) HCD9.out HWD2.out).mono ?_
      rintro e w10 ⟨he, hb10⟩
      rw [HPE.out] at he
      simp only at he
      rw [ba_eq] at he
      subst he
      have HRV10 := Lib.hid (HRV9.out.below hb10)
      clear hb10
      go_wp2_with fail
      all_goals
        go_ret
        exact ⟨by simp, HRV10.out.b⟩

end Go.Proofs.YtebappmamaafaaaDoor
