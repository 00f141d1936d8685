/-
  Proved: the contract of walk with the function of Variables; the contract of Variables. Condition: types that may be.
-/
import Derived.Test.YtdeomphilggokaaB2
set_option linter.unusedSimpArgs false
set_option linter.unusedVariables false
namespace Go.Proofs.Ytdeomphilggokaa
open Go.RowKit

mutual
/-- the variables of a type, as often as they stand -/
def occD : Ty → List Int
  | .mk k n _ _ args => if k = 0 then [n] else occL args
def occL : List Ty → List Int
  | [] => []
  | p :: ps => occD p ++ occL ps
end
theorem occL_append : ∀ (l r : List Ty), occL (l ++ r) = occL l ++ occL r
  | [], r => by simp [occL]
  | p :: ps, r => by rw [List.cons_append, occL, occL, occL_append ps r, List.append_assoc]
theorem occL_take {l : List Ty} {j : Nat} (h : j < l.length) : occL (l.take (j + 1)) = occL (l.take j) ++ occD l[j] := by
  rw [List.take_succ_eq_append_getElem h, occL_append, occL, occL, List.append_nil]
theorem occ_args (t : Ty) : occD t = if t.k = 0 then [t.n] else occL t.args := by cases t; rw [occD]; rfl
mutual
theorem occD_len : ∀ (t : Ty), (occD t).length ≤ parts t
  | .mk k n s q args => by
    rw [occD, parts]
    split
    · simp
    · have := occL_len args; omega
theorem occL_len : ∀ (l : List Ty), (occL l).length ≤ partsL l
  | [] => by simp [occL, partsL]
  | p :: ps => by
    rw [occL, partsL, List.length_append]
    have h1 := occD_len p
    have h2 := occL_len ps
    omega
end
mutual
theorem vars_occ : ∀ (t : Ty) (xs : List Int), varsD xs t = (occD t).foldl addV xs
  | .mk k n s q args, xs => by
    rw [varsD, occD]
    split
    · rfl
    · exact varsL_occ args xs
theorem varsL_occ : ∀ (l : List Ty) (xs : List Int), varsL xs l = (occL l).foldl addV xs
  | [], xs => by rw [varsL, occL]; rfl
  | p :: ps, xs => by rw [varsL, occL, List.foldl_append, vars_occ p xs, varsL_occ ps]
end
theorem var_bare {t : Ty} (h : shapedD t = true) (hk : t.k = 0) : t.args = [] := by
  rw [shaped_args, Bool.and_eq_true] at h
  have h1 := h.1
  unfold okT at h1
  rw [if_pos hk, decide_eq_true_eq] at h1
  exact List.length_eq_zero_iff.1 h1.1
theorem Fits.n {t : Ty} (h : Fits t) : I64 t.n := by cases t; unfold Fits at h; exact h.1.2.1
abbrev visitF (m4 l3 : Nat) : Value := .func (.func 45) #[] #[.pointer (some ⟨m4, 0, none⟩), .pointer (some ⟨l3, 0, none⟩)]
set_option maxRecDepth 100000 in
set_option maxHeartbeats 4000000 in
theorem walkV_any : ∀ (f : Nat) (t : Ty), parts t ≤ f → ∀ (B : Nat) (D : Nat → Prop) (ao : Option Addr) (cap m4 mm l3 : Nat) (oc : List Int) (w : World), (∀ b, D b → b < B) → B ≤ w.heap.size → SlD w D t.args ao cap → Fits t → shapedD t = true → VarSt B w m4 mm l3 oc → oc.length + parts t ≤ 1000000 →
    Calls Try.prog 25 #[.agg (rowOf t ao cap), visitF m4 l3] w (VarPost B w m4 mm l3 (oc ++ occD t)) := by
  intro f
  induction f with
  | zero => intro t ht; have := parts_pos t; omega
  | succ f IH =>
    intro t ht B D ao cap m4 mm l3 oc w hD hB hv hfit hsh hst hlen
    obtain ⟨c, hc⟩ : ∃ c, c = t.args.length := ⟨_, rfl⟩
    obtain ⟨W, hW⟩ : ∃ W, W = w.alloc (.cells (rowOf t ao cap) 33) := ⟨_, rfl⟩
    obtain ⟨hbW, hlW, hrow⟩ := box_at hW
    have hcl : c ≤ 3000000000000 := by rw [hc]; exact hfit.len
    have hBW : B ≤ W.heap.size := Nat.le_trans hB (Nat.le_of_lt hlW)
    have hSW := hst.keep hbW
    have hbx0 : ∀ (b : Nat) (c : Array Value) (f : Nat × Nat), w.heap[b]? = some (.cells c 33 f) → W.heap[b]? = some (.cells c 33 f) := fun b c f h => blk_below h hbW (lt_of_block h)
    have HVIS := Lib.hid (visit_any B W m4 mm l3 oc hSW t ao cap hfit.n (by omega) hBW)
    obtain ⟨oc2, hoc2⟩ : ∃ oc2, oc2 = oc ++ occD t := ⟨_, rfl⟩
    rw [← hoc2]
    rw [occ_args] at hoc2
    unfold rowOf at hW hrow HVIS
    unfold rowOf
    rw [← hc] at hW hrow HVIS
    rw [← hc]
    have HC := Lib.hid hc
    have HT := Lib.hid ht
    have HFIT := Lib.hid hfit
    have HIH := Lib.hid IH
    have HD := Lib.hid hD
    have HV := Lib.hid hv
    have HBW := Lib.hid (hbW.mono hB)
    have HROW := Lib.hid hrow
    have HSH := Lib.hid hsh
    have HSW := Lib.hid hSW
    have HOC := Lib.hid hoc2
    have HLEN := Lib.hid hlen
    have HBX := Lib.hid hbx0
    have c0 : W.cell? ⟨w.heap.size, 0, none⟩ = some (.int .i64 t.k) := blk_cell hrow 0
    have c1 : W.cell? ⟨w.heap.size, 1, none⟩ = some (.int .i64 t.n) := blk_cell hrow 1
    have c2 : W.cell? ⟨w.heap.size, 2, none⟩ = some (.string t.s) := blk_cell hrow 2
    have c3 : W.cell? ⟨w.heap.size, 3, none⟩ = some (.int .i64 t.q) := blk_cell hrow 3
    have c4 : W.cell? ⟨w.heap.size, 4, none⟩ = some (.slice ao c cap) := blk_cell hrow 4
    clear IH hD hv hc ht hfit hbW hrow hsh hSW hst hoc2 hlen hbx0
    go_enter Try.func25, Try.ntmps25
    go_upto_region 1 with fail
    rw [← hW]
    have HWW := Lib.hid hW
    clear hW
    generalize Value.agg #[.int .i64 t.k, .int .i64 t.n, .string t.s, .int .i64 t.q, .slice ao c cap] = v0
    by_cases hk : t.k = 0
    · have e0 : (t.k == 0) = true := by simp [hk]
      have hc0 : c = 0 := by rw [HC.out, var_bare HSH.out hk]; rfl
      have HO2 : Hid (oc2 = oc ++ [t.n]) := Lib.hid (by rw [HOC.out, if_pos hk])
      clear hk
      subst hc0
      go_upto_region 3 with (first | (go_at_call 45; refine HVIS.out.mono ?_; rintro e w7 ⟨rfl, hst7, hb7, hbx7⟩; have d4 : w7.cell? ⟨w.heap.size, 4, none⟩ = some (.slice ao 0 cap) := blk_cell (hbx7 _ _ _ HROW.out) 4; have HST7 := Lib.hid hst7; have HB7 := Lib.hid hb7; have HBX7 := Lib.hid hbx7; clear hst7 hb7 hbx7))
      have FIN : VarPost B w m4 mm l3 oc2 (.returned (.tuple #[])) w7 := by
        rw [HO2.out]
        exact ⟨rfl, HST7.out, HBW.out.trans HB7.out, fun b c f h => HBX7.out b c f (HBX.out b c f h)⟩
      have HFIN := Lib.hid FIN
      clear FIN
      go_wp2_with fail
      go_loopw [5, 15] (fun _ i wr => i = .int .i64 0 ∧ wr = w7) (fun _ _ _ => 0)
      case atStart => exact ⟨rfl, rfl⟩
      case round =>
        obtain ⟨rfl, hw⟩ := hrel
        subst hw
        go_wp2_with fail
        go_end0
        exact HFIN.out
    · have e0 : (t.k == 0) = false := by simp [hk]
      have HO2 : Hid (oc2 = oc ++ occL t.args) := Lib.hid (by rw [HOC.out, if_neg hk])
      clear hk
      go_wp2_with fail
      go_loopw [5, 15] (fun _ i wr => ∃ j : Nat, i = .int .i64 (j : Int) ∧ j ≤ c ∧ VarSt B wr m4 mm l3 (oc ++ occL (t.args.take j)) ∧ Below B W wr ∧ ∀ (b : Nat) (c : Array Value) (f : Nat × Nat), W.heap[b]? = some (.cells c 33 f) → wr.heap[b]? = some (.cells c 33 f)) (fun _ i _ => c - (intOf i).toNat)
      case atStart => exact ⟨0, rfl, Nat.zero_le _, by simp only [List.take_zero, occL, List.append_nil]; exact HSW.out, Below.refl _ _, fun _ _ _ h => h⟩
      case round =>
        obtain ⟨j, rfl, hj, hso, hbo, hbx⟩ := hrel
        obtain ⟨wo, rfl⟩ : ∃ wo : World, wo = wr := ⟨_, rfl⟩
        have HSO := Lib.hid hso
        have HBO := Lib.hid hbo
        have HBXO := Lib.hid hbx
        have hBo : B ≤ wo.heap.size := Nat.le_trans hso.b1 (Nat.le_of_lt (lt_of_block hso.m))
        have hbw : Below B w wo := HBW.out.trans hbo
        clear hso hbo hbx
        by_cases hlt : j < c
        · have hd : decide ((j : Int) < (c : Int)) = true := by simp; omega
          have hjk : j < t.args.length := by rw [← HC.out]; exact hlt
          have hvr : SlD wo D t.args ao cap := HV.out.keep fun b hb off => below_cells hbw b (HD.out b hb) off
          obtain ⟨b, p, ap, cp, hDb, hix, x0, x1, x2, x3, x4, hs⟩ := arg_cells hvr hjk
          rw [← HC.out] at hix
          obtain ⟨u, hu⟩ : ∃ u, u = t.args[j] := ⟨_, rfl⟩
          rw [← hu] at x0 x1 x2 x3 x4 hs
          have hmem : u ∈ t.args := by rw [hu]; exact List.getElem_mem _
          obtain ⟨V, hV⟩ : ∃ V, V = wo.alloc (.cells (rowOf u ap cp) 33) := ⟨_, rfl⟩
          obtain ⟨hbV, hlV, hrV⟩ := box_at hV
          have hSV := HSO.out.keep hbV
          have hshu : shapedD u = true := by
            have h := HSH.out
            rw [shaped_args, Bool.and_eq_true] at h
            exact shapedL_get h.2 hmem
          have hcall := HIH.out u (by have h1 := HT.out; rw [parts_args] at h1; have := parts_mem hmem; omega) B D ap cp m4 mm l3 _ V HD.out (Nat.le_trans hBo (Nat.le_of_lt hlV)) (hs.keep fun b hb off => below_cells hbV b (Nat.lt_of_lt_of_le (HD.out b hb) hBo) off) (HFIT.out.args.get hmem) hshu hSV (by
            have h1 := HLEN.out
            rw [parts_args] at h1
            have h2 := partsL_take hjk
            have h3 := partsL_take_le t.args (j + 1)
            have h4 := occL_len (t.args.take j)
            rw [← hu] at h2
            rw [List.length_append]
            omega)
          unfold rowOf at hcall hV hrV
          have HCALL := Lib.hid hcall
          have HU := Lib.hid hu
          have v0' : V.cell? ⟨wo.heap.size, 0, none⟩ = some (.int .i64 u.k) := blk_cell hrV 0
          have v1' : V.cell? ⟨wo.heap.size, 1, none⟩ = some (.int .i64 u.n) := blk_cell hrV 1
          have v2' : V.cell? ⟨wo.heap.size, 2, none⟩ = some (.string u.s) := blk_cell hrV 2
          have v3' : V.cell? ⟨wo.heap.size, 3, none⟩ = some (.int .i64 u.q) := blk_cell hrV 3
          have v4' : V.cell? ⟨wo.heap.size, 4, none⟩ = some (.slice ap u.args.length cp) := blk_cell hrV 4
          have HBV := Lib.hid (hbV.mono hBo)
          have HBXV : Hid (∀ (b : Nat) (c : Array Value) (f : Nat × Nat), wo.heap[b]? = some (.cells c 33 f) → V.heap[b]? = some (.cells c 33 f)) := Lib.hid (fun b c f h => blk_below h hbV (lt_of_block h))
          have HVV := Lib.hid hV
          clear hcall hvr hs hu hmem hbV hrV hSV hshu hbw hV
          go_upto_region 6 with fail
          rw [← HVV.out]
          go_wp2_with (first | (go_at_call 25; refine HCALL.out.mono ?_; rintro e w7 ⟨rfl, hst7, hb7, hbx7⟩; have HST7 := Lib.hid hst7; have HB7 := Lib.hid hb7; have HBX7 := Lib.hid hbx7; clear hst7 hb7 hbx7))
          go_roundw
          case rel =>
            refine ⟨j + 1, by go_num, hlt, ?_, (HBO.out.trans HBV.out).trans HB7.out, fun b c f h => HBX7.out b c f (HBXV.out b c f (HBXO.out b c f h))⟩
            rw [occL_take hjk, ← HU.out, ← List.append_assoc]
            exact HST7.out
          case measure => simp only [intOf]; omega
        · obtain rfl : j = c := by omega
          have hd : decide ((j : Int) < (j : Int)) = false := by simp
          clear hbw
          go_wp2_with fail
          go_end0
          have h1 := HSO.out
          rw [HC.out, List.take_length, ← HO2.out] at h1
          exact ⟨rfl, h1, HBW.out.trans HBO.out, fun b c f h => HBXO.out b c f (HBX.out b c f h)⟩
end Go.Proofs.Ytdeomphilggokaa
