/-
  Proved: the contract of the reference's shaped. Condition: none but that the type fits a machine.
-/
import Derived.Test.YtdeomphilggokaaA1
set_option linter.unusedSimpArgs false
set_option linter.unusedVariables false
namespace Go.Proofs.Ytdeomphilggokaa
open Go.RowKit

theorem shapedL_append : ∀ (l r : List Ty), shapedL (l ++ r) = (shapedL l && shapedL r)
  | [], r => by simp [shapedL]
  | p :: ps, r => by rw [List.cons_append, shapedL, shapedL, shapedL_append ps r, Bool.and_assoc]
theorem shapedL_take {l : List Ty} {j : Nat} (h : j < l.length) : shapedL (l.take (j + 1)) = (shapedL (l.take j) && shapedD l[j]) := by
  rw [List.take_succ_eq_append_getElem h, shapedL_append, shapedL, shapedL, Bool.and_true]
theorem shapedL_cut {l : List Ty} (j : Nat) (h : shapedL (l.take j) = false) : shapedL l = false := by
  have e := shapedL_append (l.take j) (l.drop j)
  rw [List.take_append_drop, h] at e
  simpa using e
theorem shaped_args (t : Ty) : shapedD t = (okT t && shapedL t.args) := by cases t; rw [shapedD]; rfl
theorem beq_dec (a b : Int) : (a == b) = decide (a = b) := by rw [Bool.eq_iff_iff]; simp
set_option maxRecDepth 100000 in
set_option maxHeartbeats 4000000 in
theorem shaped_any : ∀ (f : Nat) (t : Ty), parts t ≤ f → ∀ (D : Nat → Prop) (ao : Option Addr) (cap : Nat) (w : World), (∀ b, D b → b < w.heap.size) → SlD w D t.args ao cap → Fits t →
    Calls Try.prog 33 #[.agg (rowOf t ao cap)] w fun e w' => e = .returned (.bool (shapedD t)) ∧ Below w.heap.size w w' := by
  intro f
  induction f with
  | zero => intro t ht; have := parts_pos t; omega
  | succ f IH =>
    intro t ht D ao cap w hD hv hfit
    obtain ⟨c, hc⟩ : ∃ c, c = t.args.length := ⟨_, rfl⟩
    obtain ⟨W, hW⟩ : ∃ W, W = w.alloc (.cells (rowOf t ao cap) 33) := ⟨_, rfl⟩
    obtain ⟨hbW, hlW, hrow⟩ := box_at hW
    have hcl : c ≤ 3000000000000 := by rw [hc]; exact hfit.len
    have HOK : Hid (okT t = if t.k = 0 then decide (c = 0 ∧ t.s.toList = [] ∧ (t.q = 0 ∨ t.q = 1)) else if t.k = 1 then decide (0 ≤ t.q ∧ t.q ≤ 2) else if t.k = 2 then decide (2 ≤ c ∧ t.s.toList = [] ∧ t.n = 0 ∧ t.q = 0) else if t.k = 3 then decide (c = 2 ∧ t.s.toList = [] ∧ t.n = 0 ∧ t.q = 0) else false) := Lib.hid (by rw [hc]; rfl)
    unfold rowOf at hW hrow
    unfold rowOf
    rw [← hc] at hW hrow
    rw [← hc]
    have HC := Lib.hid hc
    have HT := Lib.hid ht
    have HFIT := Lib.hid hfit
    have HIH := Lib.hid IH
    have HD := Lib.hid hD
    have HV := Lib.hid hv
    have HBW := Lib.hid hbW
    have HROW := Lib.hid hrow
    have c0 : W.cell? ⟨w.heap.size, 0, none⟩ = some (.int .i64 t.k) := blk_cell hrow 0
    have c1 : W.cell? ⟨w.heap.size, 1, none⟩ = some (.int .i64 t.n) := blk_cell hrow 1
    have c2 : W.cell? ⟨w.heap.size, 2, none⟩ = some (.string t.s) := blk_cell hrow 2
    have c3 : W.cell? ⟨w.heap.size, 3, none⟩ = some (.int .i64 t.q) := blk_cell hrow 3
    have c4 : W.cell? ⟨w.heap.size, 4, none⟩ = some (.slice ao c cap) := blk_cell hrow 4
    clear IH hD hv hc ht hfit hbW hrow
    go_enter Try.func33, Try.ntmps33
    go_upto_region 1 with fail
    rw [← hW]
    have HWW := Lib.hid hW
    clear hW
    generalize Value.agg #[.int .i64 t.k, .int .i64 t.n, .string t.s, .int .i64 t.q, .slice ao c cap] = v0
    go_upto_region 2 with fail
    obtain ⟨pl, hpl⟩ : ∃ pl, pl = decide (t.s.toList = [] ∧ t.n = 0 ∧ t.q = 0) := ⟨_, rfl⟩
    have HPL := Lib.hid hpl
    clear hpl
    go_cut [4] from 10 to 22 (fun v wx => v = .bool pl ∧ wx = W)
    case first =>
      go_wp2_with fail
      all_goals go_meet
      · rename_i h1 h2
        exact ⟨by rw [HPL.out]; simp [h1, h2, beq_dec], rfl⟩
      · rename_i h1 h2
        exact ⟨by rw [HPL.out]; simp [h1, h2], rfl⟩
      · rename_i h1
        exact ⟨by rw [HPL.out]; simp [h1], rfl⟩
    case rest =>
      obtain ⟨rfl, rfl⟩ := hcut
      obtain ⟨W, hWc⟩ : ∃ W : World, W = wc := ⟨_, rfl⟩
      subst hWc
      go_upto_block 0 with fail
      obtain ⟨ok, hok⟩ : ∃ ok, ok = okT t := ⟨_, rfl⟩
      have HO := Lib.hid hok
      clear hok
      go_cut [5] (fun v wx => v = .bool ok ∧ wx = W)
      case first =>
        by_cases hk0 : t.k = 0
        · have he : okT t = decide (c = 0 ∧ t.s.toList = [] ∧ (t.q = 0 ∨ t.q = 1)) := by rw [HOK.out, if_pos hk0]
          have e0 : (t.k == 0) = true := by simp [hk0]
          have HE := Lib.hid he
          clear hk0 he
          by_cases h1 : c = 0
          · have d1 : (((c : Int) == 0) : Bool) = true := by simp; omega
            have H1 := Lib.hid h1
            clear h1
            by_cases h2 : t.s.toList = []
            · have d2 : t.s.toList.isEmpty = true := by rw [h2]; rfl
              have H2 := Lib.hid h2
              clear h2
              by_cases h3 : 0 ≤ t.q
              · have d3 : decide ((0 : Int) ≤ t.q) = true := by simp; omega
                have H3 := Lib.hid h3
                clear h3
                go_wp2_with fail
                go_meet
                refine ⟨?_, rfl⟩
                rw [HO.out, HE.out, Value.bool.injEq, Bool.eq_iff_iff]; have := H3.out; simp [H1.out, H2.out]; omega
              · have d3 : decide ((0 : Int) ≤ t.q) = false := by simp; omega
                have H3 := Lib.hid h3
                clear h3
                go_wp2_with fail
                go_meet
                refine ⟨?_, rfl⟩
                rw [HO.out, HE.out, Value.bool.injEq, Bool.eq_iff_iff]; have := H3.out; simp; omega
            · have d2 : t.s.toList.isEmpty = false := by simpa using h2
              have H2 := Lib.hid h2
              clear h2
              go_wp2_with fail
              go_meet
              refine ⟨?_, rfl⟩
              rw [HO.out, HE.out]; simp [H2.out]
          · have d1 : (((c : Int) == 0) : Bool) = false := by simp; omega
            have H1 := Lib.hid h1
            clear h1
            go_wp2_with fail
            go_meet
            refine ⟨?_, rfl⟩
            rw [HO.out, HE.out]; simp [H1.out]
        by_cases hk1 : t.k = 1
        · have he : okT t = decide (0 ≤ t.q ∧ t.q ≤ 2) := by rw [HOK.out, if_neg hk0, if_pos hk1]
          have e0 : (t.k == 0) = false := by simp [hk0]
          have e1 : (t.k == 1) = true := by simp [hk1]
          have HE := Lib.hid he
          clear hk0 hk1 he
          by_cases h3 : 0 ≤ t.q
          · have d3 : decide ((0 : Int) ≤ t.q) = true := by simp; omega
            have H3 := Lib.hid h3
            clear h3
            go_wp2_with fail
            go_meet
            refine ⟨?_, rfl⟩
            rw [HO.out, HE.out]; simp [H3.out]
          · have d3 : decide ((0 : Int) ≤ t.q) = false := by simp; omega
            have H3 := Lib.hid h3
            clear h3
            go_wp2_with fail
            go_meet
            refine ⟨?_, rfl⟩
            rw [HO.out, HE.out]; have := H3.out; simp; omega
        by_cases hk2 : t.k = 2
        · have he : okT t = decide (2 ≤ c ∧ t.s.toList = [] ∧ t.n = 0 ∧ t.q = 0) := by rw [HOK.out, if_neg hk0, if_neg hk1, if_pos hk2]
          have e0 : (t.k == 0) = false := by simp [hk0]
          have e1 : (t.k == 1) = false := by simp [hk1]
          have e2 : (t.k == 2) = true := by simp [hk2]
          have HE := Lib.hid he
          clear hk0 hk1 hk2 he
          by_cases h3 : 2 ≤ c
          · have d3 : decide ((2 : Int) ≤ (c : Int)) = true := by simp; omega
            have H3 := Lib.hid h3
            clear h3
            go_wp2_with fail
            go_meet
            refine ⟨?_, rfl⟩
            rw [HO.out, HE.out, HPL.out]; simp [H3.out]
          · have d3 : decide ((2 : Int) ≤ (c : Int)) = false := by simp; omega
            have H3 := Lib.hid h3
            clear h3
            go_wp2_with fail
            go_meet
            refine ⟨?_, rfl⟩
            rw [HO.out, HE.out]; simp [H3.out]
        by_cases hk3 : t.k = 3
        · have he : okT t = decide (c = 2 ∧ t.s.toList = [] ∧ t.n = 0 ∧ t.q = 0) := by rw [HOK.out, if_neg hk0, if_neg hk1, if_neg hk2, if_pos hk3]
          have e0 : (t.k == 0) = false := by simp [hk0]
          have e1 : (t.k == 1) = false := by simp [hk1]
          have e2 : (t.k == 2) = false := by simp [hk2]
          have e3 : (t.k == 3) = true := by simp [hk3]
          have HE := Lib.hid he
          clear hk0 hk1 hk2 hk3 he
          by_cases h3 : c = 2
          · have d3 : (((c : Int) == 2) : Bool) = true := by simp; omega
            have H3 := Lib.hid h3
            clear h3
            go_wp2_with fail
            go_meet
            refine ⟨?_, rfl⟩
            rw [HO.out, HE.out, HPL.out]; simp [H3.out]
          · have d3 : (((c : Int) == 2) : Bool) = false := by simp; omega
            have H3 := Lib.hid h3
            clear h3
            go_wp2_with fail
            go_meet
            refine ⟨?_, rfl⟩
            rw [HO.out, HE.out]; simp [H3.out]
        have he : okT t = false := by rw [HOK.out, if_neg hk0, if_neg hk1, if_neg hk2, if_neg hk3]
        have HE := Lib.hid he
        have d0 : (t.k == 0) = false := by simp [hk0]
        have d1 : (t.k == 1) = false := by simp [hk1]
        have d2 : (t.k == 2) = false := by simp [hk2]
        have d3 : (t.k == 3) = false := by simp [hk3]
        clear hk0 hk1 hk2 hk3 he
        go_wp2_with fail
        go_meet
        refine ⟨?_, rfl⟩
        rw [HO.out, HE.out]
      case rest =>
        obtain ⟨rfl, rfl⟩ := hcut
        obtain ⟨W, hWc⟩ : ∃ W : World, W = wc := ⟨_, rfl⟩
        subst hWc
        clear c0 c1 c2 c3 c4
        go_wp2_with fail
        go_loopw [5, 6] (fun v i wr => ∃ (j : Nat) (b : Bool), v = .bool b ∧ i = .int .i64 (j : Int) ∧ j ≤ c ∧ b = (okT t && shapedL (t.args.take j)) ∧ Below W.heap.size W wr) (fun _ i _ => c - (intOf i).toNat)
        case atStart => exact ⟨0, ok, rfl, rfl, Nat.zero_le _, by rw [HO.out]; simp [shapedL], Below.refl _ _⟩
        case round =>
          obtain ⟨j, b, rfl, rfl, hj, hnn, hbr⟩ := hrel
          obtain ⟨wo, rfl⟩ : ∃ wo : World, wo = wr := ⟨_, rfl⟩
          have hrow2 := blk_below HROW.out hbr hlW
          have c4 : wo.cell? ⟨w.heap.size, 4, none⟩ = some (.slice ao c cap) := blk_cell hrow2 4
          have HBR := Lib.hid hbr
          have HNN := Lib.hid hnn
          clear hbr hrow2 hnn
          by_cases hlt : j < c
          · have hd : decide ((j : Int) < (c : Int)) = true := by simp; omega
            cases b with
            | true =>
              have hjk : j < t.args.length := by rw [← HC.out]; exact hlt
              have hbo : Below w.heap.size w wo := HBW.out.trans (HBR.out.mono (Nat.le_of_lt hlW))
              have hvr : SlD wo D t.args ao cap := HV.out.keep fun b hb off => below_cells hbo b (HD.out b hb) off
              obtain ⟨b, p, ap, cp, hDb, hix, x0, x1, x2, x3, x4, hs⟩ := arg_cells hvr hjk
              rw [← HC.out] at hix
              obtain ⟨u, hu⟩ : ∃ u, u = t.args[j] := ⟨_, rfl⟩
              rw [← hu] at x0 x1 x2 x3 x4 hs
              have hmem : u ∈ t.args := by rw [hu]; exact List.getElem_mem _
              have hcall := HIH.out u (by have h1 := HT.out; rw [parts_args] at h1; have := parts_mem hmem; omega) D ap cp wo (fun b hb => Nat.lt_of_lt_of_le (HD.out b hb) hbo.size) hs (HFIT.out.args.get hmem)
              unfold rowOf at hcall
              have HCALL := Lib.hid hcall
              have HU := Lib.hid hu
              clear hcall hvr hs hu hmem hbo
              go_wp2_with (first | (go_at_call 33; refine HCALL.out.mono ?_; rintro e w7 ⟨rfl, hb7⟩))
              go_roundw
              case rel =>
                refine ⟨j + 1, shapedD u, by go_num, by go_num, hlt, ?_, HBR.out.trans (hb7.mono HBR.out.size)⟩
                have h1 := HNN.out
                rw [shapedL_take hjk, ← HU.out, ← Bool.and_assoc, ← h1, Bool.true_and]
              case measure => simp only [intOf]; omega
            | false =>
              go_wp2_with fail
              go_ret
              refine ⟨?_, HBW.out.trans (HBR.out.mono (Nat.le_of_lt hlW))⟩
              have h1 := HNN.out
              have e : shapedD t = false := by
                rw [shaped_args]
                cases ho : okT t with
                | false => rfl
                | true =>
                  rw [ho, Bool.true_and] at h1
                  rw [shapedL_cut j h1.symm]; rfl
              exact congrArg (fun b : Bool => Ending.returned (.bool b)) e.symm
          · obtain rfl : j = c := by omega
            have hd : decide ((j : Int) < (j : Int)) = false := by simp
            go_wp2_with fail
            go_ret
            refine ⟨?_, HBW.out.trans (HBR.out.mono (Nat.le_of_lt hlW))⟩
            have h1 := HNN.out
            rw [HC.out, List.take_length, ← shaped_args] at h1
            exact congrArg (fun b : Bool => Ending.returned (.bool b)) h1
end Go.Proofs.Ytdeomphilggokaa
