/-
  Proved: the contract of the program's bind. Condition: what is known is in order.
-/
import Derived.Test.YtdeomphilggokaaP4
set_option linter.unusedSimpArgs false
set_option linter.unusedVariables false
namespace Go.Proofs.Ytdeomphilggokaa
open Go.RowKit

/-- six stores into a variable -/
abbrev set6 (W : World) (p : Nat) (t : Ty) (ao : Option Addr) (cap : Nat) : World :=
  (((((W.setCell ⟨p, 0, none⟩ (.bool true)).setCell ⟨p, 1, none⟩ (.int .i64 t.k)).setCell ⟨p, 2, none⟩ (.int .i64 t.n)).setCell ⟨p, 3, none⟩ (.string t.s)).setCell ⟨p, 4, none⟩ (.int .i64 t.q)).setCell ⟨p, 5, none⟩ (.slice ao t.args.length cap)
theorem below_set6 {N : Nat} {w W : World} {p : Nat} {t : Ty} {ao : Option Addr} {cap : Nat} (h : Below N w W) (hb : N ≤ p) : Below N w (set6 W p t ao cap) :=
  (((((h.setCell (p := ⟨p, 0, none⟩) hb _).setCell (p := ⟨p, 1, none⟩) hb _).setCell (p := ⟨p, 2, none⟩) hb _).setCell (p := ⟨p, 3, none⟩) hb _).setCell (p := ⟨p, 4, none⟩) hb _).setCell (p := ⟨p, 5, none⟩) hb _
theorem set6_gr (W : World) (p : Nat) (t : Ty) (ao : Option Addr) (cap : Nat) : W.grownBy (set6 W p t ao cap) (some p) :=
  gr_trans (gr_trans (gr_trans (gr_trans (gr_trans (gr_set W p 0 _) (gr_set _ p 1 _)) (gr_set _ p 2 _)) (gr_set _ p 3 _)) (gr_set _ p 4 _)) (gr_set _ p 5 _)
theorem set6_row {W : World} {p : Nat} {x : Bt} {bd eb : Bool} (h : W.heap[p]? = some (.cells (vcells x bd eb) 58 (0, 0))) (t : Ty) (ao : Option Addr) (cap : Nat) : (set6 W p t ao cap).heap[p]? = some (.cells (vcells ⟨t, ao, cap⟩ true eb) 58 (0, 0)) :=
  blk_set (blk_set (blk_set (blk_set (blk_set (blk_set h 0 _) 1 _) 2 _) 3 _) 4 _) 5 _
/-- a variable stands for a type -/
theorem PU.put {B : Nat} {w : World} {ub m : Nat} {V : List Int} {pl : Int → Nat} {D : Nat → Prop} {st : St} (h : PU B w ub m V pl D st) (hD : ∀ b, D b → b < B) (hB : B ≤ w.heap.size) {n : Int} (hn : n ∈ V) {t : Ty} {ao : Option Addr} {cap : Nat} (ht : SlD w D t.args ao cap) : PU B (set6 w (pl n) t ao cap) ub m V pl D ⟨upd st.b n t, st.e⟩ := by
  obtain ⟨x, hx, hy⟩ := h.at' hn
  have hb := upd_same st.b n t
  refine h.turn hn (set6_gr w (pl n) t ao cap) hD hB ⟨⟨t, ao, cap⟩, ?_, fun y hy' => ?_⟩ (fun k _ hk => ⟨upd_other t hk, rfl⟩) trivial
  · show (set6 w (pl n) t ao cap).heap[pl n]? = some (Obj.cells (vcells ⟨t, ao, cap⟩ (upd st.b n t n).isSome (st.e n)) 58)
    rw [hb]
    exact set6_row hx t ao cap
  · have hy2 : upd st.b n t n = some y := hy'
    rw [hb] at hy2
    cases hy2
    exact ⟨rfl, ht.keep (cells_D hD (below_set6 (Below.refl B w) (h.low.2.2 n hn)))⟩
theorem boxP_gr {w w' : World} {p : Nat} {c : Array Value} {f : Nat × Nat} (h : w.heap[p]? = some (.cells c 58 f)) (hg : w.grownBy w' (some p)) : BoxP w w' := fun b c' t f' ht hb => by
  have hne : b ≠ p := fun e => by
    rw [e, h] at hb
    cases hb
    exact ht rfl
  exact (hg.block b (lt_of_block hb) (fun e => hne (Option.some.inj e))).trans hb
/-- what bind and Same leave -/
structure BindP (B ub m : Nat) (V : List Int) (pl : Int → Nat) (D : Nat → Prop) (r : St × Int) (w : World) (en : Ending) (w' : World) : Prop where
  val : en = .returned (.int .i64 r.2)
  r : r.2 = 0 → PU B w' ub m V pl D r.1
  bel : Below B w w'
  box : BoxP w w'
set_option maxRecDepth 100000 in
set_option maxHeartbeats 8000000 in
theorem pbind_any (B : Nat) (ub m : Nat) (V : List Int) (pl : Int → Nat) (D : Nat → Prop) (st : St) (n : Int) (hn : n ∈ V) (t : Ty) (hw : Wf V st.e t) (ao : Option Addr) (cap : Nat) (w : World) (hk : PK B ub m V pl D st w) (hv : SlD w D t.args ao cap) :
    Calls Try.prog 53 #[.pointer (some ⟨ub, 0, none⟩), .int .i64 n, .agg (rowOf t ao cap)] w (BindP B ub m V pl D (bindD st n t) w) := by
  obtain ⟨W, hW⟩ : ∃ W, W = w.alloc (.cells (rowOf t ao cap) 33) := ⟨_, rfl⟩
  obtain ⟨hbW, hlW, hrow⟩ := box_at hW
  have hkW := hk.keep hbW
  have hvW := hv.keep fun b hb off => below_cells hbW b (hk.d b hb) off
  obtain ⟨i, hi⟩ : ∃ i, i = decide (n ∈ occD (exT st.b t)) := ⟨_, rfl⟩
  have hdr : Below W.heap.size W W.drew := (Below.refl _ _).drew
  have HIN := Lib.hid (pwithin_any B ub m V pl D st n (parts (exT st.b t)) t (Nat.le_refl _) hw ao cap W.drew (hkW.keep hdr) (hvW.keep fun b hb off => below_cells hdr b (hkW.d b hb) off))
  rw [← hi] at HIN
  have HCM : Hid (∀ X : World, Below W.heap.size W X → Calls Try.prog 67 #[.pointer (some ⟨ub, 0, none⟩), .agg (rowOf t ao cap)] X (CmpP B ub m V pl D st.b st.e (exT st.b t) X)) := Lib.hid (fun X hX => pcmp_any B ub m V pl D st.b (parts (exT st.b t)) t st.e (Nat.le_refl _) hw ao cap X (hkW.keep hX) (hvW.keep fun b hb off => below_cells hX b (hkW.d b hb) off))
  obtain ⟨T, hT⟩ : ∃ T, T = exT st.b t := ⟨_, rfl⟩
  have HB : Hid (bindD st n t = if i = true then (st, 10) else if st.e n = true ∧ cmpT T = false then (st, 11) else (⟨upd st.b n t, if st.e n = true then markE st.e (cvT T) else st.e⟩, 0)) := Lib.hid (by rw [bindD, hi, hT]; simp only [decide_eq_true_eq])
  rw [← hT] at HCM
  obtain ⟨ans, hans⟩ : ∃ ans, ans = bindD st n t := ⟨_, rfl⟩
  rw [← hans] at HB ⊢
  have HOF := Lib.hid (of_hit B ub m V pl D st W hkW.r hn)
  obtain ⟨x, hvx, -⟩ := hkW.r.at' hn
  have HVX := Lib.hid hvx
  have HLOW := Lib.hid (hkW.r.low.2.2 n hn)
  have hne : ¬ w.heap.size = pl n := fun e => by
    rw [← e] at hvx
    have h := hvx.symm.trans (show W.heap[w.heap.size]? = _ from hrow)
    cases h
  have hne' : ¬ pl n = w.heap.size := fun e => hne e.symm
  have HK := Lib.hid hk
  have HKW := Lib.hid hkW
  have HVW := Lib.hid hvW
  have HN := Lib.hid hn
  obtain ⟨c, hc⟩ : ∃ c, c = t.args.length := ⟨_, rfl⟩
  unfold rowOf at hW hrow HIN HCM ⊢
  rw [← hc] at hW hrow HIN HCM ⊢
  have HC := Lib.hid hc
  obtain ⟨en, hen⟩ : ∃ en, en = st.e n := ⟨_, rfl⟩
  rw [← hen] at HB hvx
  obtain ⟨⟨c0, c1, c2, c3, c4⟩, -⟩ := five_cells hrow
  have HROW5 := Lib.hid hrow
  have HROW6 := Lib.hid hvx
  unfold vcells at hvx
  obtain ⟨⟨q0, q1, q2, q3, q4, q5, q6, q7⟩, -⟩ := eight_cells hvx
  have HBA : Hid (∀ X : World, BoxP W X → BoxP w X) := Lib.hid (fun X h => (BoxP.of_below hbW).trans h)
  have HBB : Hid (∀ X : World, Below B W X → Below B w X) := Lib.hid (fun X h => (hbW.mono hk.lo).trans h)
  have KEEP : Hid (∀ X : World, Below W.heap.size W X → (X.cell? ⟨w.heap.size, 0, none⟩ = some (.int .i64 t.k) ∧ X.cell? ⟨w.heap.size, 1, none⟩ = some (.int .i64 t.n) ∧ X.cell? ⟨w.heap.size, 2, none⟩ = some (.string t.s) ∧ X.cell? ⟨w.heap.size, 3, none⟩ = some (.int .i64 t.q) ∧ X.cell? ⟨w.heap.size, 4, none⟩ = some (.slice ao c cap)) ∧ X.cell? ⟨pl n, 7, none⟩ = some (.int .i64 0) ∧ X.cell? ⟨pl n, 6, none⟩ = some (.bool en)) := Lib.hid (fun X hX =>
    have r1 := blk_below hrow hX (lt_of_block hrow)
    have r2 := blk_below hvx hX (lt_of_block hvx)
    ⟨⟨blk_cell r1 0, blk_cell r1 1, blk_cell r1 2, blk_cell r1 3, blk_cell r1 4⟩, blk_cell r2 7, blk_cell r2 6⟩)
  have START := Lib.hid (KEEP.out W.drew hdr)
  have START9 := Lib.hid (And.intro START.out.1 START.out.2.1)
  have HDR := Lib.hid hdr
  have HENE := Lib.hid hen
  have HWW := Lib.hid hW
  clear hW hk hkW hvW hbW hrow hn hw hc hT hans hi hv hvx hdr hen
  go_enter Try.func53, Try.ntmps53
  go_upto_region 1 with fail
  rw [← HWW.out]
  clear HWW
  generalize Value.agg #[.int .i64 t.k, .int .i64 t.n, .string t.s, .int .i64 t.q, .slice ao c cap] = v0
  go_upto_region 2 with (first | (go_at_call 27; refine HOF.out.mono ?_; rintro e w7 ⟨rfl, rfl⟩))
  clear c0 c1 c2 c3 c4 q0 q1 q2 q3 q4 q5 q6 q7
  go_region_held3 (fun X => (X.cell? ⟨w.heap.size, 0, none⟩ = some (.int .i64 t.k) ∧ X.cell? ⟨w.heap.size, 1, none⟩ = some (.int .i64 t.n) ∧ X.cell? ⟨w.heap.size, 2, none⟩ = some (.string t.s) ∧ X.cell? ⟨w.heap.size, 3, none⟩ = some (.int .i64 t.q) ∧ X.cell? ⟨w.heap.size, 4, none⟩ = some (.slice ao c cap)) ∧ X.cell? ⟨pl n, 7, none⟩ = some (.int .i64 0))
    (first | exact d9 | exact START9.out)
    (first | (go_at_call 66; refine HIN.out.mono ?_; rintro e w1 ⟨rfl, hb1⟩; have HB1 := Lib.hid (HDR.out.trans (hb1.mono HDR.out.size)); have d9 := (And.intro (KEEP.out w1 HB1.out).1 (KEEP.out w1 HB1.out).2.1); clear hb1))
  obtain ⟨⟨c0, c1, c2, c3, c4⟩, q7⟩ := d9
  have q6 := (KEEP.out w1 HB1.out).2.2
  have HK1 := Lib.hid (HKW.out.keep HB1.out)
  have HBX1 : Hid (BoxP w w1 ∧ Below B w w1) := Lib.hid ⟨HBA.out _ (BoxP.of_below HB1.out), HBB.out _ (HB1.out.mono HKW.out.lo)⟩
  have HR1 := Lib.hid (blk_below HROW5.out HB1.out (lt_of_block HROW5.out))
  have HV1 := Lib.hid (HVW.out.keep fun b hb off => below_cells HB1.out b (HKW.out.d b hb) off)
  cases i with
  | true =>
    go_wp2_with fail
    go_ret
    have e : ans = (st, 10) := by rw [HB.out]; simp
    rw [e]
    exact ⟨rfl, (fun h => by cases h), HBX1.out.2, HBX1.out.1⟩
  | false =>
    by_cases hent : en = true
    case neg =>
      have henf : en = false := by cases en; rfl; exact absurd rfl hent
      have HENF := Lib.hid henf
      have q6f : w1.cell? ⟨pl n, 6, none⟩ = some (.bool false) := by rw [q6, henf]
      clear hent henf q6
      have hvx := blk_below HROW6.out HB1.out (lt_of_block HROW6.out)
      have HVX1 := Lib.hid hvx
      unfold vcells at hvx
      obtain ⟨⟨p0, p1, p2, p3, p4, p5, -, -⟩, pf⟩ := eight_cells hvx
      have f0 := pf 0
      have f1 := pf 1
      have f2 := pf 2
      have f3 := pf 3
      have f4 := pf 4
      have f5 := pf 5
      have hput0 := HK1.out.r.put HK1.out.dB HK1.out.lo HN.out (t := t) (ao := ao) (cap := cap) HV1.out
      have hdr6 : Below (set6 w1 (pl n) t ao cap).heap.size (set6 w1 (pl n) t ao cap) (set6 w1 (pl n) t ao cap).drew := (Below.refl _ _).drew
      have HPUT := Lib.hid (hput0.keep hdr6 (fun b hb => Nat.lt_of_lt_of_le (HK1.out.dB b hb) (Nat.le_trans HK1.out.lo (set6_gr w1 (pl n) t ao cap).size)))
      have FIN : Hid (∀ X : World, X = (set6 w1 (pl n) t ao cap).drew → BindP B ub m V pl D ans w (.returned (.int .i64 0)) X) := Lib.hid (fun X hX => by
        rw [hX]
        have e : ans = (⟨upd st.b n t, st.e⟩, 0) := by rw [HB.out, HENF.out, if_neg (by simp), if_neg (by simp), if_neg (by simp)]
        rw [e]
        exact ⟨rfl, (fun _ => HPUT.out), HBX1.out.2.trans (below_set6 (Below.refl B w1) HLOW.out).drew, HBX1.out.1.trans ((boxP_gr HVX1.out (set6_gr w1 (pl n) t ao cap)).trans (BoxP.of_below hdr6))⟩)
      have HCL := Lib.hid (by rw [HC.out] : (Value.slice ao c cap) = .slice ao t.args.length cap)
      clear hvx pf HPUT hput0 hdr6
      go_upto_region 6 with fail
      go_region
      all_goals
        go_wp2_with fail
        go_ret
        rw [HC.out]
        exact FIN.out _ rfl
    case pos =>
      have HENT := Lib.hid hent
      have q6t : w1.cell? ⟨pl n, 6, none⟩ = some (.bool true) := by rw [q6, hent]
      clear hent q6
      cases hct : cmpT T with
      | false =>
        have HCT := Lib.hid hct
        go_wp2_with (first | (go_at_call 67; refine (HCM.out w1 HB1.out).mono ?_; rintro e w2 h2; obtain rfl : e = .returned (.bool false) := (by rw [h2.val, HCT.out]); have H2 := Lib.hid h2; clear h2))
        go_ret
        have e : ans = (st, 11) := by rw [HB.out, HCT.out, HENT.out]; simp
        rw [e]
        exact ⟨rfl, (fun h => by cases h), HBX1.out.2.trans H2.out.bel, HBX1.out.1.trans H2.out.box⟩
      | true =>
        have HCT := Lib.hid hct
        go_upto_region 6 with (first | (go_at_call 67; refine (HCM.out w1 HB1.out).mono ?_; rintro e w2 h2; obtain rfl : e = .returned (.bool true) := (by rw [h2.val, HCT.out]); have H2 := Lib.hid h2; clear h2))
        have hru2 := H2.out.r HCT.out
        have hr2 := H2.out.box _ _ _ _ (by decide) HR1.out
        have hB2 : B ≤ w2.heap.size := Nat.le_trans HK1.out.lo H2.out.bel.size
        have hdr : Below w2.heap.size w2 w2.drew := (Below.refl _ _).drew
        obtain ⟨x2, hvx, -⟩ := hru2.at' HN.out
        have HVX2 := Lib.hid hvx
        unfold vcells at hvx
        obtain ⟨⟨p0, p1, p2, p3, p4, p5, -, -⟩, pf⟩ := eight_cells hvx
        have f0 := pf 0
        have f1 := pf 1
        have f2 := pf 2
        have f3 := pf 3
        have f4 := pf 4
        have f5 := pf 5
        have hput0 := hru2.put HK.out.dB hB2 HN.out (t := t) (ao := ao) (cap := cap) (HV1.out.keep (cells_D HK.out.dB H2.out.bel))
        have hdr6 : Below (set6 w2 (pl n) t ao cap).heap.size (set6 w2 (pl n) t ao cap) (set6 w2 (pl n) t ao cap).drew := (Below.refl _ _).drew
        have HPUT := Lib.hid (hput0.keep hdr6 (fun b hb => Nat.lt_of_lt_of_le (HK.out.dB b hb) (Nat.le_trans hB2 (set6_gr w2 (pl n) t ao cap).size)))
        have FIN : Hid (∀ X : World, X = (set6 w2 (pl n) t ao cap).drew → BindP B ub m V pl D ans w (.returned (.int .i64 0)) X) := Lib.hid (fun X hX => by
          rw [hX]
          have e : ans = (⟨upd st.b n t, markE st.e (cvT T)⟩, 0) := by rw [HB.out, HENT.out, if_neg (by simp), if_neg (by rw [HCT.out]; simp), if_pos rfl]
          rw [e]
          exact ⟨rfl, (fun _ => HPUT.out), HBX1.out.2.trans (H2.out.bel.trans (below_set6 (Below.refl B w2) HLOW.out).drew), HBX1.out.1.trans (H2.out.box.trans ((boxP_gr HVX2.out (set6_gr w2 (pl n) t ao cap)).trans (BoxP.of_below hdr6)))⟩)
        have HCL := Lib.hid (by rw [HC.out] : (Value.slice ao c cap) = .slice ao t.args.length cap)
        clear c0 c1 c2 c3 c4 q6t q7 hvx pf HPUT hru2 hdr hput0 hdr6
        obtain ⟨⟨c0, c1, c2, c3, c4⟩, -⟩ := five_cells hr2
        clear hr2
        go_region
        all_goals
          go_wp2_with fail
          go_ret
          rw [HC.out]
          exact FIN.out _ rfl
end Go.Proofs.Ytdeomphilggokaa
