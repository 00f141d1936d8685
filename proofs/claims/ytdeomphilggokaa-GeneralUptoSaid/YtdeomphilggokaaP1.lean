/-
  Proved: the contracts of the program's of (a variable that is known) and seen. Condition: what is known is in order.
-/
import Derived.Test.YtdeomphilggokaaU8
set_option linter.unusedSimpArgs false
set_option linter.unusedVariables false
namespace Go.Proofs.Ytdeomphilggokaa
open Go.RowKit

theorem zero82 (w : World) : (zeroValue 55).run Try.prog w = .ok (.pointer none) w := by kernel_rfl
set_option maxRecDepth 100000 in
set_option maxHeartbeats 4000000 in
theorem of_hit (B : Nat) (ub m : Nat) (V : List Int) (pl : Int → Nat) (D : Nat → Prop) (st : St) (w : World) (h : PU B w ub m V pl D st) {k : Int} (hk : k ∈ V) :
    Calls Try.prog 27 #[.pointer (some ⟨ub, 0, none⟩), .int .i64 k] w fun e w' => e = .returned (.pointer (some ⟨pl k, 0, none⟩)) ∧ w' = w := by
  have hl := (h.mp.f.look Try.underlying82 (zero82 w) (h.i64 k hk)).1
  rw [ptrF, if_pos hk] at hl
  simp only [Option.getD_some] at hl
  have c0 : w.cell? ⟨ub, 0, none⟩ = some (.map (some m)) := blk_cell h.u 0
  clear h hk
  go_enter Try.func27, Try.ntmps27
  go_wp2_with fail
  go_ret
  exact ⟨rfl, rfl⟩
/-- all that the program's walks ask for -/
structure PK (B : Nat) (ub m : Nat) (V : List Int) (pl : Int → Nat) (D : Nat → Prop) (st : St) (w : World) : Prop where
  r : PU B w ub m V pl D st
  dB : ∀ b, D b → b < B
  lo : B ≤ w.heap.size
  ok : StOk V st
theorem PK.d {B : Nat} {ub m : Nat} {V : List Int} {pl : Int → Nat} {D : Nat → Prop} {st : St} {w : World} (h : PK B ub m V pl D st w) : ∀ b, D b → b < w.heap.size := fun b hb => Nat.lt_of_lt_of_le (h.dB b hb) h.lo
theorem PK.keep {B : Nat} {ub m : Nat} {V : List Int} {pl : Int → Nat} {D : Nat → Prop} {st : St} {w w' : World} (h : PK B ub m V pl D st w) (hb : Below w.heap.size w w') : PK B ub m V pl D st w' :=
  ⟨h.r.keep hb h.d, h.dB, Nat.le_trans h.lo hb.size, h.ok⟩
/-- a variable's eight cells, for a walk -/
theorem eight_cells {w : World} {b : Nat} {v0 v1 v2 v3 v4 v5 v6 v7 : Value} (h : w.heap[b]? = some (.cells #[v0, v1, v2, v3, v4, v5, v6, v7] 58 (0, 0))) : (w.cell? ⟨b, 0, none⟩ = some v0 ∧ w.cell? ⟨b, 1, none⟩ = some v1 ∧ w.cell? ⟨b, 2, none⟩ = some v2 ∧ w.cell? ⟨b, 3, none⟩ = some v3 ∧ w.cell? ⟨b, 4, none⟩ = some v4 ∧ w.cell? ⟨b, 5, none⟩ = some v5 ∧ w.cell? ⟨b, 6, none⟩ = some v6 ∧ w.cell? ⟨b, 7, none⟩ = some v7) ∧ (∀ i, w.frozen? ⟨b, i, none⟩ = false) :=
  ⟨⟨blk_cell h 0, blk_cell h 1, blk_cell h 2, blk_cell h 3, blk_cell h 4, blk_cell h 5, blk_cell h 6, blk_cell h 7⟩, fun i => blk_free h i⟩
theorem var_row {V : List Int} {e : Int → Bool} {t : Ty} (hw : Wf V e t) (hk : t.k = 0) (ao : Option Addr) (cap : Nat) : rowOf (varT e t.n) ao cap = (rowOf t ao cap).setIfInBounds 3 (.int .i64 (if e t.n = true then 1 else 0)) := by
  have ea : t.args = [] := var_bare hw.sh hk
  have es := name_bare hw.sh hk
  unfold rowOf varT
  rw [ea, es, hk]
  rfl
/-- a variable that is not compared says so -/
theorem var_row0 {V : List Int} {e : Int → Bool} {t : Ty} (hw : Wf V e t) (hk : t.k = 0) (he : e t.n = false) (ao : Option Addr) (cap : Nat) : rowOf (varT e t.n) ao cap = rowOf t ao cap := by
  have hq : t.q = 0 := by
    have hsh := hw.sh
    rw [shaped_args] at hsh
    simp only [Bool.and_eq_true] at hsh
    have h1 := hsh.1
    unfold okT at h1
    rw [if_pos hk] at h1
    rcases (of_decide_eq_true h1).2.2 with h | h
    · exact h
    · have := hw.qs t.n (by rw [qo_args, if_pos hk, if_pos h]; simp)
      rw [he] at this
      cases this
  have ea : t.args = [] := var_bare hw.sh hk
  have es := name_bare hw.sh hk
  unfold rowOf varT
  rw [ea, es, hk, hq, he]
  rfl
set_option maxRecDepth 100000 in
set_option maxHeartbeats 8000000 in
theorem pseen_any (B : Nat) (ub m : Nat) (V : List Int) (pl : Int → Nat) (D : Nat → Prop) (st : St) (t : Ty) (hw : Wf V st.e t) (ao : Option Addr) (cap : Nat) (w : World) (hk0 : PK B ub m V pl D st w) (hv : SlD w D t.args ao cap) :
    Calls Try.prog 52 #[.pointer (some ⟨ub, 0, none⟩), .agg (rowOf t ao cap)] w (TopP w D (topT st.e st.b t)) := by
  have hok := hk0.ok
  have hD := hk0.d
  have hR := hk0.r
  obtain ⟨T, f, hT⟩ := hok.total t
  obtain ⟨U, hU⟩ : ∃ U, U = topT st.e st.b t := ⟨_, rfl⟩
  have hU2 : top st.e st.b f t = U := by rw [hU, topT_eq st.e hT]
  rw [← hU]
  obtain ⟨X, hX⟩ : ∃ X, X = (w.alloc (.cells (rowOf t ao cap) 33)).alloc (.cells zeroRow 33) := ⟨_, rfl⟩
  obtain ⟨hbX, hszX, hr0, hr1⟩ := two_boxes hX
  have HREL := Lib.hid (And.intro hT (And.intro hU2 (And.intro hw (And.intro hr0 (And.intro hr1 (And.intro (hv.keep fun b hb off => below_cells hbX b (hD b hb) off) hbX))))))
  have HR := Lib.hid hR
  have HOK := Lib.hid hok
  have HD := Lib.hid hD
  unfold rowOf zeroRow at hX
  have HX := Lib.hid hX
  have HZ := Lib.hid (by rw [hszX]; omega : w.heap.size + 1 < X.heap.size)
  clear hX hT hU hU2 hw hr0 hr1 hv hbX hszX hR hok hD hk0
  unfold rowOf
  go_enter Try.func52, Try.ntmps52
  go_wp2_with fail
  rw [← HX.out]
  generalize Value.agg #[.int .i64 t.k, .int .i64 t.n, .string t.s, .int .i64 t.q, .slice ao t.args.length cap] = v0
  go_loopg [5] f (fun k x wr => ∃ t' ao' cap', expand st.b k t' = some T ∧ top st.e st.b k t' = U ∧ Wf V st.e t' ∧ wr.heap[w.heap.size]? = some (.cells (rowOf t' ao' cap') 33 (0, 0)) ∧ wr.heap[w.heap.size + 1]? = some (.cells zeroRow 33 (0, 0)) ∧ SlD wr D t'.args ao' cap' ∧ Below w.heap.size w wr)
  case atStart =>
    obtain ⟨h1, h2, h3, h4, h5, h6, h7⟩ := HREL.out
    exact ⟨t, ao, cap, h1, h2, h3, h4, h5, h6, h7⟩
  case round =>
    obtain ⟨t', ao', cap', hT', hU', hw', hb0, hb1, hv', hbel⟩ := hrel
    obtain ⟨g, rfl⟩ : ∃ g, gk = g + 1 := by
      cases gk with
      | zero => simp [expand] at hT'
      | succ g => exact ⟨g, rfl⟩
    obtain ⟨wo, rfl⟩ : ∃ wo : World, wo = wr := ⟨_, rfl⟩
    have HB0 := Lib.hid hb0
    have HB1 := Lib.hid hb1
    have HV := Lib.hid hv'
    have HBEL := Lib.hid hbel
    have HRO := Lib.hid (HR.out.keep hbel HD.out)
    have HW := Lib.hid hw'
    have HT := Lib.hid hT'
    have HU := Lib.hid hU'
    have hb1c := hb1
    unfold rowOf at hb0
    unfold zeroRow at hb1c
    obtain ⟨⟨c0, c1, c2, c3, c4⟩, ⟨y0, y1, y2, y3, y4⟩⟩ := five_cells hb0
    obtain ⟨⟨d0, d1, d2, d3, d4⟩, ⟨z0, z1, z2, z3, z4⟩⟩ := five_cells hb1c
    by_cases hk : t'.k = 0
    · have e0 : (t'.k == 0) = true := by simp [hk]
      have hnV : t'.n ∈ V := hw'.vs t'.n (by rw [occ_args, if_pos hk]; simp)
      have HOF := Lib.hid (of_hit B ub m V pl D st wo HRO.out hnV)
      obtain ⟨x, hvx, hvy⟩ := HRO.out.at' hnV
      have HVY := Lib.hid hvy
      have hlowp : w.heap.size ≠ pl t'.n := fun e => by rw [e, hvx] at hb0; cases hb0
      have hlowp' : w.heap.size + 1 ≠ pl t'.n := fun e => by rw [e, hvx] at hb1; cases hb1
      have n1 : ¬ w.heap.size = pl t'.n := hlowp
      have n2 : ¬ pl t'.n = w.heap.size := fun e => hlowp e.symm
      have HK := Lib.hid hk
      unfold vcells at hvx
      obtain ⟨⟨q0, q1, q2, q3, q4, q5, q6, q7⟩, -⟩ := eight_cells hvx
      clear hb0 hb1 hb1c hv' hbel hw' hT' hU' hk hvx hvy hlowp hlowp' hnV
      cases hbn : st.b t'.n with
      | none =>
        rw [hbn] at q0
        have HBN := Lib.hid hbn
        have HUE : Hid (U = varT st.e t'.n) := Lib.hid (by
          have h2 := HU.out
          rw [top, if_pos HK.out, HBN.out] at h2
          exact h2.symm)
        cases hen : st.e t'.n with
        | false =>
          rw [hen] at q6
          have HRF : Hid (rowOf U ao' cap' = #[.int .i64 t'.k, .int .i64 t'.n, .string t'.s, .int .i64 t'.q, .slice ao' t'.args.length cap']) := Lib.hid (by rw [HUE.out, var_row0 HW.out HK.out hen]; rfl)
          have HUA : Hid (U.args = []) := Lib.hid (by rw [HUE.out]; rfl)
          clear hbn hen
          go_wp2_with (first | (go_at_call 27; refine HOF.out.mono ?_; rintro e w7 ⟨rfl, rfl⟩))
          have hTB : TB (set5 w7 (w.heap.size + 1) t' ao' cap') (w.heap.size + 1) t' ao' cap' := TB.set HB1.out t' ao' cap'
          have hfin : TopP w D U (.returned (.agg (rowOf t' ao' cap'))) (set5 w7 (w.heap.size + 1) t' ao' cap') :=
            ⟨ao', cap', by rw [HRF.out]; rfl, sl_nil HUA.out, below_set5 HBEL.out (Nat.le_succ _)⟩
          exact bodyPost_ret (v := .agg (rowOf t' ao' cap')) (res_ty rfl rfl hTB) rfl hfin
        | true =>
          rw [hen] at q6
          have HRF : Hid (rowOf U ao' cap' = #[.int .i64 t'.k, .int .i64 t'.n, .string t'.s, .int .i64 1, .slice ao' t'.args.length cap']) := Lib.hid (by rw [HUE.out, var_row HW.out HK.out, hen]; rfl)
          have HUA : Hid (U.args = []) := Lib.hid (by rw [HUE.out]; rfl)
          have HU0 : Hid (U.k = t'.k ∧ U.n = t'.n ∧ U.s = t'.s ∧ U.q = 1 ∧ U.args.length = t'.args.length) := Lib.hid (by
            rw [HUE.out]
            have ea : t'.args = [] := var_bare HW.out.sh HK.out
            have es := name_bare HW.out.sh HK.out
            exact ⟨HK.out.symm, rfl, es.symm, by show (if st.e t'.n = true then (1 : Int) else 0) = 1; rw [hen]; rfl, by rw [ea]; rfl⟩)
          clear hbn hen
          go_wp2_with (first | (go_at_call 27; refine HOF.out.mono ?_; rintro e w7 ⟨rfl, rfl⟩))
          have hb8 : Below w.heap.size w (w7.setCell ⟨w.heap.size, 3, none⟩ (.int .i64 1)) := HBEL.out.setCell (p := ⟨w.heap.size, 3, none⟩) (Nat.le_refl _) _
          have hR8 : (w7.setCell ⟨w.heap.size, 3, none⟩ (.int .i64 1)).heap[w.heap.size + 1]? = some (.cells zeroRow 33 (0, 0)) := blk_set_ne HB1.out (Nat.succ_ne_self _) 3 _
          have hTB : TB (set5 (w7.setCell ⟨w.heap.size, 3, none⟩ (.int .i64 1)) (w.heap.size + 1) U ao' cap') (w.heap.size + 1) U ao' cap' := TB.set hR8 U ao' cap'
          have hfin : TopP w D U (.returned (.agg (rowOf U ao' cap'))) (set5 (w7.setCell ⟨w.heap.size, 3, none⟩ (.int .i64 1)) (w.heap.size + 1) U ao' cap') :=
            ⟨ao', cap', rfl, sl_nil HUA.out, below_set5 hb8 (Nat.le_succ _)⟩
          obtain ⟨e1, e2, e3, e4, e5⟩ := HU0.out
          rw [← e1, ← e2, ← e3, ← e5]
          rw [show (Value.int .i64 1) = Value.int .i64 U.q from by rw [e4]] at hTB hfin ⊢
          exact bodyPost_ret (v := .agg (rowOf U ao' cap')) (res_ty rfl rfl hTB) rfl hfin
      | some y =>
        rw [hbn] at q0
        have HBN := Lib.hid hbn
        obtain ⟨hyx, hvx⟩ := HVY.out y hbn
        subst hyx
        have HVX := Lib.hid hvx
        clear hbn hvx
        go_wp2_with (first | (go_at_call 27; refine HOF.out.mono ?_; rintro e w7 ⟨rfl, rfl⟩))
        go_roundg g
        case measure => exact Nat.lt_succ_self _
        case rel =>
          have hb9 : Below w.heap.size w7 (set5 w7 w.heap.size x.t x.ao x.cap) := below_set5 (Below.refl _ _) (Nat.le_refl _)
          refine ⟨x.t, x.ao, x.cap, ?_, ?_, (HOK.out.wf _ _ HBN.out).2, TB.set HB0.out x.t x.ao x.cap, set5_ne HB1.out (Nat.succ_ne_self _), HVX.out.keep fun b hb off => below_cells hb9 b (HD.out b hb) off, HBEL.out.trans hb9⟩
          · have h1 := HT.out
            rw [expand_bound HK.out HBN.out] at h1
            exact h1
          · have h1 := HU.out
            rw [top, if_pos HK.out, HBN.out] at h1
            exact h1
    · have e0 : (t'.k == 0) = false := by simp [hk]
      have hUe : U = t' := by
        have := HU.out
        rw [top, if_neg hk] at this
        exact this.symm
      have HUE := Lib.hid hUe
      clear hb0 hb1 hb1c hv' hbel hw' hT' hU' hk hUe
      go_wp2_with fail
      have hTB : TB (set5 wo (w.heap.size + 1) t' ao' cap') (w.heap.size + 1) t' ao' cap' := TB.set HB1.out t' ao' cap'
      have hfin : TopP w D U (.returned (.agg (rowOf t' ao' cap'))) (set5 wo (w.heap.size + 1) t' ao' cap') := by
        rw [HUE.out]
        exact ⟨ao', cap', rfl, HV.out.keep fun b hb off => below_cells (below_set5 (q := t') (aq := ao') (cq := cap') (Below.refl w.heap.size wo) (Nat.le_succ _)) b (HD.out b hb) off, below_set5 HBEL.out (Nat.le_succ _)⟩
      exact bodyPost_ret (v := .agg (rowOf t' ao' cap')) (res_ty rfl rfl hTB) rfl hfin
end Go.Proofs.Ytdeomphilggokaa
