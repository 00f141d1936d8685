/-
  Proved: the contract of walk with the function that Solve hands to it. Condition: a type that may be.
-/
import Derived.Test.YtdeomphilggokaaP8
set_option linter.unusedSimpArgs false
set_option linter.unusedVariables false
namespace Go.Proofs.Ytdeomphilggokaa
open Go.RowKit

abbrev gatherF (c4 c5 : Nat) : Value := .func (.func 26) #[] #[.pointer (some ⟨c4, 0, none⟩), .pointer (some ⟨c5, 0, none⟩)]
theorem var_q {t : Ty} (hsh : shapedD t = true) (hk : t.k = 0) : t.q = 0 ∨ t.q = 1 := by
  rw [shaped_args] at hsh
  simp only [Bool.and_eq_true] at hsh
  have h1 := hsh.1
  unfold okT at h1
  rw [if_pos hk] at h1
  exact (of_decide_eq_true h1).2.2
set_option maxRecDepth 100000 in
set_option maxHeartbeats 4000000 in
theorem walkS_any : ∀ (f : Nat) (t : Ty), parts t ≤ f → ∀ (B : Nat) (D : Nat → Prop) (ao : Option Addr) (cap k4 k5 ub m : Nat) (V : List Int) (e : Int → Bool) (oc : List Int) (w : World), (∀ b, D b → b < B) → B ≤ w.heap.size → SlD w D t.args ao cap → Fits t → shapedD t = true → ColSt B w k4 k5 ub m V D e oc → oc.length + parts t ≤ 1000000 → V.length + parts t ≤ 1000000 →
    Calls Try.prog 25 #[.agg (rowOf t ao cap), gatherF k4 k5] w (ColP B k4 k5 ub m (varsD V t) D (markE e (qoD t)) (oc ++ occD t) w) := by
  intro f
  induction f with
  | zero => intro t ht; have := parts_pos t; omega
  | succ f IH =>
    intro t ht B D ao cap k4 k5 ub m V e oc w hD hB hv hfit hsh hst hlen hlenV
    obtain ⟨c, hc⟩ : ∃ c, c = t.args.length := ⟨_, rfl⟩
    obtain ⟨W, hW⟩ : ∃ W, W = w.alloc (.cells (rowOf t ao cap) 33) := ⟨_, rfl⟩
    obtain ⟨hbW, hlW, hrow⟩ := box_at hW
    have hcl : c ≤ 3000000000000 := by rw [hc]; exact hfit.len
    have hBW : B ≤ W.heap.size := Nat.le_trans hB (Nat.le_of_lt hlW)
    have hSW := hst.keep hbW hD
    have hbx0 : BoxS w W := BoxS.of_below hbW
    have HVIS := Lib.hid (fun (hk : t.k = 0) => visitS_any B k4 k5 ub m V D e oc t ao cap hfit.n W hSW hD (by omega) (by omega) (var_q hsh hk))
    obtain ⟨oc2, hoc2⟩ : ∃ oc2, oc2 = oc ++ occD t := ⟨_, rfl⟩
    rw [← hoc2]
    rw [occ_args] at hoc2
    obtain ⟨V2, hV2⟩ : ∃ V2, V2 = varsD V t := ⟨_, rfl⟩
    obtain ⟨q2, hq2⟩ : ∃ q2, q2 = qoD t := ⟨_, rfl⟩
    rw [← hV2, ← hq2]
    rw [vars_args] at hV2
    rw [qo_args] at hq2
    have HV2 := Lib.hid hV2
    have HQ2 := Lib.hid hq2
    have HLENV := Lib.hid hlenV
    clear hV2 hq2
    unfold rowOf at hW hrow HVIS
    unfold rowOf
    rw [← hc] at hW hrow HVIS
    rw [← hc]
    have HC := Lib.hid hc
    have HT := Lib.hid ht
    have HFIT := Lib.hid hfit
    have HIH := Lib.hid IH
    have HD := Lib.hid hD
    have HV := Lib.hid hv
    have HBW := Lib.hid (hbW.mono hB)
    have HROW := Lib.hid hrow
    have HSH := Lib.hid hsh
    have HSW := Lib.hid hSW
    have HOC := Lib.hid hoc2
    have HLEN := Lib.hid hlen
    have HBX := Lib.hid hbx0
    have c0 : W.cell? ⟨w.heap.size, 0, none⟩ = some (.int .i64 t.k) := blk_cell hrow 0
    have c1 : W.cell? ⟨w.heap.size, 1, none⟩ = some (.int .i64 t.n) := blk_cell hrow 1
    have c2 : W.cell? ⟨w.heap.size, 2, none⟩ = some (.string t.s) := blk_cell hrow 2
    have c3 : W.cell? ⟨w.heap.size, 3, none⟩ = some (.int .i64 t.q) := blk_cell hrow 3
    have c4 : W.cell? ⟨w.heap.size, 4, none⟩ = some (.slice ao c cap) := blk_cell hrow 4
    clear IH hD hv hc ht hfit hbW hrow hsh hSW hst hoc2 hlen hbx0 hlenV
    go_enter Try.func25, Try.ntmps25
    go_upto_region 1 with fail
    rw [← hW]
    have HWW := Lib.hid hW
    clear hW
    generalize Value.agg #[.int .i64 t.k, .int .i64 t.n, .string t.s, .int .i64 t.q, .slice ao c cap] = v0
    by_cases hk : t.k = 0
    · have e0 : (t.k == 0) = true := by simp [hk]
      have hc0 : c = 0 := by rw [HC.out, var_bare HSH.out hk]; rfl
      have HO2 : Hid (oc2 = oc ++ [t.n] ∧ V2 = addV V t.n ∧ q2 = if t.q = 1 then [t.n] else []) := Lib.hid ⟨by rw [HOC.out, if_pos hk], by rw [HV2.out, if_pos hk], by rw [HQ2.out, if_pos hk]⟩
      have HVIS2 := Lib.hid (HVIS.out hk)
      rw [← HO2.out.2.2, ← HO2.out.2.1, ← HO2.out.1] at HVIS2
      clear HVIS
      clear hk
      subst hc0
      go_upto_region 3 with (first | (go_at_call 26; refine HVIS2.out.mono ?_; rintro en w7 ⟨rfl, hst7, hb7, hbx7⟩; have d4 : w7.cell? ⟨w.heap.size, 4, none⟩ = some (.slice ao 0 cap) := blk_cell (hbx7 _ _ _ _ (by decide) (by decide) (by decide) HROW.out) 4; have HST7 := Lib.hid hst7; have HB7 := Lib.hid hb7; have HBX7 := Lib.hid hbx7; clear hst7 hb7 hbx7))
      have FIN : ColP B k4 k5 ub m V2 D (markE e q2) oc2 w (.returned (.tuple #[])) w7 :=
        ⟨rfl, HST7.out, HBW.out.trans HB7.out, HBX.out.trans HBX7.out⟩
      have HFIN := Lib.hid FIN
      clear FIN
      go_wp2_with fail
      go_loopw [5, 15] (fun _ i wr => i = .int .i64 0 ∧ wr = w7) (fun _ _ _ => 0)
      case atStart => exact ⟨rfl, rfl⟩
      case round =>
        obtain ⟨rfl, hw⟩ := hrel
        subst hw
        go_wp2_with fail
        go_end0
        exact HFIN.out
    · have e0 : (t.k == 0) = false := by simp [hk]
      have HO2 : Hid (oc2 = oc ++ occL t.args ∧ V2 = varsL V t.args ∧ q2 = qoL t.args) := Lib.hid ⟨by rw [HOC.out, if_neg hk], by rw [HV2.out, if_neg hk], by rw [HQ2.out, if_neg hk]⟩
      clear hk
      go_wp2_with fail
      go_loopw [5, 15] (fun _ i wr => ∃ j : Nat, i = .int .i64 (j : Int) ∧ j ≤ c ∧ ColSt B wr k4 k5 ub m (varsL V (t.args.take j)) D (markE e (qoL (t.args.take j))) (oc ++ occL (t.args.take j)) ∧ Below B W wr ∧ BoxS W wr) (fun _ i _ => c - (intOf i).toNat)
      case atStart => exact ⟨0, rfl, Nat.zero_le _, by simp only [List.take_zero, occL, List.append_nil, varsL, qoL, markE_nil]; exact HSW.out, Below.refl _ _, BoxS.refl _⟩
      case round =>
        obtain ⟨j, rfl, hj, hso, hbo, hbx⟩ := hrel
        obtain ⟨wo, rfl⟩ : ∃ wo : World, wo = wr := ⟨_, rfl⟩
        have HSO := Lib.hid hso
        have HBO := Lib.hid hbo
        have HBXO := Lib.hid hbx
        have hBo : B ≤ wo.heap.size := hso.lo
        have hbw : Below B w wo := HBW.out.trans hbo
        clear hso hbo hbx
        by_cases hlt : j < c
        · have hd : decide ((j : Int) < (c : Int)) = true := by simp; omega
          have hjk : j < t.args.length := by rw [← HC.out]; exact hlt
          have hvr : SlD wo D t.args ao cap := HV.out.keep fun b hb off => below_cells hbw b (HD.out b hb) off
          obtain ⟨b, p, ap, cp, hDb, hix, x0, x1, x2, x3, x4, hs⟩ := arg_cells hvr hjk
          rw [← HC.out] at hix
          obtain ⟨u, hu⟩ : ∃ u, u = t.args[j] := ⟨_, rfl⟩
          rw [← hu] at x0 x1 x2 x3 x4 hs
          have hmem : u ∈ t.args := by rw [hu]; exact List.getElem_mem _
          obtain ⟨Z, hV⟩ : ∃ Z, Z = wo.alloc (.cells (rowOf u ap cp) 33) := ⟨_, rfl⟩
          obtain ⟨hbV, hlV, hrV⟩ := box_at hV
          have hSV := HSO.out.keep hbV HD.out
          have hshu : shapedD u = true := by
            have h := HSH.out
            rw [shaped_args, Bool.and_eq_true] at h
            exact shapedL_get h.2 hmem
          have hcall := HIH.out u (by have h1 := HT.out; rw [parts_args] at h1; have := parts_mem hmem; omega) B D ap cp k4 k5 ub m _ _ _ Z HD.out (Nat.le_trans hBo (Nat.le_of_lt hlV)) (hs.keep fun b hb off => below_cells hbV b (Nat.lt_of_lt_of_le (HD.out b hb) hBo) off) (HFIT.out.args.get hmem) hshu hSV (by
            have h1 := HLEN.out
            rw [parts_args] at h1
            have h2 := partsL_take hjk
            have h3 := partsL_take_le t.args (j + 1)
            have h4 := occL_len (t.args.take j)
            rw [← hu] at h2
            rw [List.length_append]
            omega) (by
            have h1 := HLENV.out
            rw [parts_args] at h1
            have h2 := partsL_take hjk
            have h3 := partsL_take_le t.args (j + 1)
            have h4 := varsL_len (t.args.take j) V
            rw [← hu] at h2
            omega)
          unfold rowOf at hcall hV hrV
          have HCALL := Lib.hid hcall
          have HU := Lib.hid hu
          have v0' : Z.cell? ⟨wo.heap.size, 0, none⟩ = some (.int .i64 u.k) := blk_cell hrV 0
          have v1' : Z.cell? ⟨wo.heap.size, 1, none⟩ = some (.int .i64 u.n) := blk_cell hrV 1
          have v2' : Z.cell? ⟨wo.heap.size, 2, none⟩ = some (.string u.s) := blk_cell hrV 2
          have v3' : Z.cell? ⟨wo.heap.size, 3, none⟩ = some (.int .i64 u.q) := blk_cell hrV 3
          have v4' : Z.cell? ⟨wo.heap.size, 4, none⟩ = some (.slice ap u.args.length cp) := blk_cell hrV 4
          have HBV := Lib.hid (hbV.mono hBo)
          have HBXV : Hid (BoxS wo Z) := Lib.hid (BoxS.of_below hbV)
          have HVV := Lib.hid hV
          clear hcall hvr hs hu hmem hbV hrV hSV hshu hbw hV hDb
          go_upto_region 6 with fail
          rw [← HVV.out]
          go_wp2_with (first | (go_at_call 25; refine HCALL.out.mono ?_; rintro en w7 ⟨rfl, hst7, hb7, hbx7⟩; have HST7 := Lib.hid hst7; have HB7 := Lib.hid hb7; have HBX7 := Lib.hid hbx7; clear hst7 hb7 hbx7))
          go_roundw
          case rel =>
            refine ⟨j + 1, by go_num, hlt, ?_, (HBO.out.trans HBV.out).trans HB7.out, HBXO.out.trans (HBXV.out.trans HBX7.out)⟩
            rw [occL_take hjk, ← HU.out, ← List.append_assoc, varsL_take hjk, ← HU.out, qoL_take (by rw [List.getElem?_eq_getElem hjk, ← HU.out] : t.args[j]? = some u), ← markE_two]
            exact HST7.out
          case measure => simp only [intOf]; omega
        · obtain rfl : j = c := by omega
          have hd : decide ((j : Int) < (j : Int)) = false := by simp
          clear hbw
          go_wp2_with fail
          go_end0
          have h1 := HSO.out
          rw [HC.out, List.take_length, ← HO2.out.1, ← HO2.out.2.1, ← HO2.out.2.2] at h1
          exact ⟨rfl, h1, HBW.out.trans HBO.out, HBX.out.trans HBXO.out⟩
end Go.Proofs.Ytdeomphilggokaa
