/-
  Proved: the contracts of the reference's NewSub and Marked. Condition: a type that may be.
-/
import Derived.Test.YtdeomphilggokaaU6
set_option linter.unusedSimpArgs false
set_option linter.unusedVariables false
namespace Go.Proofs.Ytdeomphilggokaa
open Go.RowKit

theorem qoL_take {l : List Ty} {j : Nat} {u : Ty} (h : l[j]? = some u) : qoL (l.take (j + 1)) = qoL (l.take j) ++ qoD u := by
  obtain ⟨hl, rfl⟩ := List.getElem?_eq_some_iff.1 h
  rw [List.take_succ_eq_append_getElem hl, qoL_append, qoL, qoL, List.append_nil]
/-- what Marked leaves -/
structure MarkR (B sb mb me : Nat) (V : List Int) (D : Nat → Prop) (b : Bnd) (e : Int → Bool) (w : World) (en : Ending) (w' : World) : Prop where
  val : en = .returned (.tuple #[])
  r : RU B w' sb mb me V D ⟨b, e⟩
  bel : Below B w w'
  box : Boxes w w'
set_option maxRecDepth 100000 in
set_option maxHeartbeats 8000000 in
theorem rmark_any (B sb mb me : Nat) (V : List Int) (D : Nat → Prop) (b : Bnd) : ∀ (f : Nat) (t : Ty) (e : Int → Bool), parts t ≤ f → shapedD t = true → Fits t → (∀ n ∈ qoD t, n ∈ V) → ∀ (ao : Option Addr) (cap : Nat) (w : World), (∀ b, D b → b < B) → B ≤ w.heap.size → RU B w sb mb me V D ⟨b, e⟩ → SlD w D t.args ao cap →
    Calls Try.prog 48 #[.pointer (some ⟨sb, 0, none⟩), .agg (rowOf t ao cap)] w (MarkR B sb mb me V D b (markE e (qoD t)) w) := by
  intro f
  induction f with
  | zero => intro t e ht; have := parts_pos t; omega
  | succ f IH =>
    intro t e ht hsh hfit hq ao cap w hD hB hR hv
    obtain ⟨W, hW⟩ : ∃ W, W = w.alloc (.cells (rowOf t ao cap) 33) := ⟨_, rfl⟩
    obtain ⟨hbW, hlW, hrow⟩ := box_at hW
    have hDw : ∀ b, D b → b < w.heap.size := fun b hb => Nat.lt_of_lt_of_le (hD b hb) hB
    have hRW := hR.keep hbW hDw
    have hvW := hv.keep fun b hb off => below_cells hbW b (hDw b hb) off
    have hBW : B ≤ W.heap.size := Nat.le_trans hB hbW.size
    have HBA : Hid (Boxes w W ∧ Below B w W) := Lib.hid ⟨Boxes.of_below hbW, hbW.mono hB⟩
    obtain ⟨qs, hqs⟩ : ∃ qs, qs = qoD t := ⟨_, rfl⟩
    rw [← hqs] at hq ⊢
    rw [qo_args] at hqs
    obtain ⟨c, hc⟩ : ∃ c, c = t.args.length := ⟨_, rfl⟩
    have hcl : c ≤ 3000000000000 := by rw [hc]; exact hfit.len
    have HKID : Hid (t.k ≠ 0 → ∀ u ∈ t.args, parts u ≤ f ∧ shapedD u = true ∧ Fits u ∧ ∀ n ∈ qoD u, n ∈ V) := Lib.hid (fun h0 u hu => ⟨by have := parts_kid hu; omega, shaped_mem hsh hu, hfit.args.get hu, fun n hn => hq n (by rw [hqs, if_neg h0]; exact qoL_mem hu hn)⟩)
    have HBARE : Hid (t.k = 0 → c = 0) := Lib.hid (fun h0 => by rw [hc, var_bare hsh h0]; rfl)
    unfold rowOf at hW hrow ⊢
    rw [← hc] at hW hrow ⊢
    have HQ := Lib.hid hq
    have HQS := Lib.hid hqs
    have HC := Lib.hid hc
    have HIH := Lib.hid IH
    have HD := Lib.hid hD
    have HRW := Lib.hid hRW
    have HVW := Lib.hid hvW
    have HROW := Lib.hid hrow
    obtain ⟨⟨c0, c1, c2, c3, c4⟩, -⟩ := five_cells hrow
    have s1 : W.cell? ⟨sb, 1, none⟩ = some (.map (some me)) := blk_cell hRW.s 1
    have HWW := Lib.hid hW
    clear IH ht hsh hfit hq hqs hD hB hR hv hW hbW hrow hDw hRW hvW hc
    go_enter Try.func48, Try.ntmps48
    go_upto_region 1 with fail
    rw [← HWW.out]
    clear HWW
    generalize Value.agg #[.int .i64 t.k, .int .i64 t.n, .string t.s, .int .i64 t.q, .slice ao c cap] = v0
    have LOOP0 : ∀ X : World, True := fun _ => trivial
    clear LOOP0
    by_cases hk : t.k = 0
    · have e0 : (t.k == 0) = true := by simp [hk]
      have hc0 : c = 0 := HBARE.out hk
      have HQE : Hid (qs = if t.q = 1 then [t.n] else []) := Lib.hid (by rw [HQS.out, if_pos hk])
      clear hk
      subst hc0
      by_cases hq1 : t.q = 1
      · have e1 : (t.q == 1) = true := by simp [hq1]
        have HQ1 : Hid (qs = [t.n]) := Lib.hid (by rw [HQE.out, if_pos hq1])
        obtain ⟨w9, hrun, hru9, hb9, hx9, hs9⟩ := (HRW.out.keep (Below.refl W.heap.size W).drew (fun b hb => Nat.lt_of_lt_of_le (HD.out b hb) hBW)).mark HD.out hBW (HQ.out t.n (by rw [HQ1.out]; simp))
        have s1' : W.drew.cell? ⟨sb, 1, none⟩ = some (.map (some me)) := s1
        have HRU9 := Lib.hid hru9
        have HB9 := Lib.hid (HBA.out.2.trans ((Below.refl B W).drew.trans hb9))
        have HX9 := Lib.hid (HBA.out.1.trans (show Boxes W w9 from hx9))
        have r4 : w9.cell? ⟨w.heap.size, 4, none⟩ = some (.slice ao 0 cap) := blk_cell (hx9 _ _ _ _ HROW.out) 4
        clear hq1 hru9 hb9 hx9 hs9
        go_upto_region 2 with fail
        go_cut [] from 13 to 18 (fun wx => wx = w9)
        case first =>
          go_region
          all_goals (go_wp2_with fail; go_meet; rfl)
        case rest =>
        obtain ⟨X, rfl⟩ : ∃ X : World, X = wc := ⟨_, rfl⟩
        subst hcut
        clear c0 c1 c2 c3 c4 s1 s1' hrun
        go_wp2_with fail
        go_loopw [4] (fun i wr => i = .int .i64 0 ∧ wr = X) (fun _ _ => 0)
        case atStart => exact ⟨rfl, rfl⟩
        case round =>
          obtain ⟨rfl, hw⟩ := hrel
          subst hw
          go_wp2_with fail
          go_end0
          rw [HQ1.out]
          exact ⟨rfl, HRU9.out, HB9.out, HX9.out⟩
      · have e1 : (t.q == 1) = false := by simp [hq1]
        have HQ1 : Hid (qs = []) := Lib.hid (by rw [HQE.out, if_neg hq1])
        clear hq1
        go_wp2_with fail
        go_loopw [4] (fun i wr => i = .int .i64 0 ∧ wr = W) (fun _ _ => 0)
        case atStart => exact ⟨rfl, rfl⟩
        case round =>
          obtain ⟨rfl, hw⟩ := hrel
          subst hw
          go_wp2_with fail
          go_end0
          rw [HQ1.out, markE_nil]
          exact ⟨rfl, HRW.out, HBA.out.2, HBA.out.1⟩
    · have e0 : (t.k == 0) = false := by simp [hk]
      have HQE : Hid (qs = qoL t.args) := Lib.hid (by rw [HQS.out, if_neg hk])
      have HK := Lib.hid hk
      clear hk
      go_wp2_with fail
      go_loopw [4] (fun i wr => ∃ j : Nat, i = .int .i64 (j : Int) ∧ j ≤ c ∧ RU B wr sb mb me V D ⟨b, markE e (qoL (t.args.take j))⟩ ∧ Below B W wr ∧ Boxes W wr) (fun i _ => c - (intOf i).toNat)
      case atStart => exact ⟨0, rfl, Nat.zero_le _, by rw [List.take_zero, qoL, markE_nil]; exact HRW.out, Below.refl _ _, Boxes.refl _⟩
      case round =>
        obtain ⟨j, rfl, hj, hru, hbr, hbx⟩ := hrel
        obtain ⟨wo, rfl⟩ : ∃ wo : World, wo = wr := ⟨_, rfl⟩
        have r4 : wo.cell? ⟨w.heap.size, 4, none⟩ = some (.slice ao c cap) := blk_cell (hbx _ _ _ _ HROW.out) 4
        have HBR := Lib.hid hbr
        have HBX := Lib.hid hbx
        have HRU := Lib.hid hru
        clear hbr hbx hru c0 c1 c2 c3 c4 s1
        by_cases hlt : j < c
        · have hd : decide ((j : Int) < (c : Int)) = true := by simp; omega
          have hjk : j < t.args.length := by rw [← HC.out]; exact hlt
          have hvr : SlD wo D t.args ao cap := HVW.out.keep (cells_D HD.out HBR.out)
          obtain ⟨bb, p, ap, cp, hDb, hix, x0, x1, x2, x3, x4, hs⟩ := arg_cells hvr hjk
          rw [← HC.out] at hix
          obtain ⟨u, hu⟩ : ∃ u, u = t.args[j] := ⟨_, rfl⟩
          rw [← hu] at x0 x1 x2 x3 x4 hs
          have hmem : u ∈ t.args := by rw [hu]; exact List.getElem_mem _
          obtain ⟨k1, k2, k3, k4⟩ := HKID.out HK.out u hmem
          have hcall := HIH.out u (markE e (qoL (t.args.take j))) k1 k2 k3 k4 ap cp wo HD.out (Nat.le_trans hBW HBR.out.size) HRU.out hs
          rw [markE_two, ← qoL_take (by rw [List.getElem?_eq_getElem hjk, hu])] at hcall
          unfold rowOf at hcall
          have HCALL := Lib.hid hcall
          clear hcall hvr hs hu hmem k1 k2 k3 k4 hDb
          go_wp2_with (first | (go_at_call 48; refine HCALL.out.mono ?_; rintro en w7 h7; obtain rfl := h7.val; have H7 := Lib.hid h7; clear h7))
          go_roundw
          case rel => exact ⟨j + 1, by go_num, hlt, H7.out.r, HBR.out.trans H7.out.bel, HBX.out.trans H7.out.box⟩
          case measure => simp only [intOf]; omega
        · obtain rfl : j = c := by omega
          have hd : decide ((j : Int) < (j : Int)) = false := by simp
          go_wp2_with fail
          go_end0
          have h1 := HRU.out
          rw [HC.out, List.take_length, ← HQE.out] at h1
          exact ⟨rfl, h1, HBA.out.2.trans HBR.out, HBA.out.1.trans HBX.out⟩
/-- what NewSub leaves -/
structure NewSubR (w : World) (V : List Int) (D : Nat → Prop) (en : Ending) (w' : World) : Prop where
  out : ∃ sb mb me, en = .returned (.pointer (some ⟨sb, 0, none⟩)) ∧ RU w.heap.size w' sb mb me V D ⟨fun _ => none, fun _ => false⟩ ∧ Below w.heap.size w w'
set_option maxRecDepth 100000 in
set_option maxHeartbeats 8000000 in
theorem newsub_any (V : List Int) (D : Nat → Prop) (hV : V.length ≤ 1000000000000) (hi : ∀ k ∈ V, I64 k) (w : World) : Calls Try.prog 47 #[] w (NewSubR w V D) := by
  have hmm := @run_makeMap Try.prog
  go_enter Try.func47, Try.ntmps47
  go_wp2_with fail
  go_ret
  obtain ⟨w1, h1⟩ : ∃ w1, w1 = w.alloc (.map #[] 0) := ⟨_, rfl⟩
  obtain ⟨w2, h2⟩ : ∃ w2, w2 = w1.alloc (.map #[] 0) := ⟨_, rfl⟩
  have s1 : w1.heap.size = w.heap.size + 1 := by rw [h1, World.size_alloc]
  have s2 : w2.heap.size = w.heap.size + 1 + 1 := by rw [h2, World.size_alloc, s1]
  have m1 : MapX w1 w.heap.size [] (fun _ => none) := by rw [h1]; exact MapX.made w
  have m2 : MapX w2 (w.heap.size + 1) [] (fun _ => none) := by rw [h2, ← s1]; exact MapX.made w1
  have hb : Below w.heap.size w w2 := by rw [h2, h1]; exact balloc (balloc (Below.refl _ _) _) _
  rw [← h1, ← h2]
  refine ⟨w.heap.size + 1 + 1, w.heap.size, w.heap.size + 1, rfl, ⟨?_, ⟨[], fun _ => none, ?_, by simp, fun k h => (by cases h), fun k h => absurd rfl h, fun k => ⟨rfl, fun x h => by cases h⟩⟩, ⟨[], ?_, by simp, fun k h => (by cases h), fun k h => by cases h⟩, ⟨by omega, by omega, by omega, by omega⟩, hV, hi⟩, balloc hb _⟩
  · rw [← s2]; exact heap_alloc_new w2 _
  · have h3 := (m1.of_same (w' := w2) (by rw [h2]; exact Below.heap_alloc _ _ _ (by omega)))
    exact (h3.of_same (Below.heap_alloc _ _ _ (by omega))).congr fun k _ => rfl
  · exact (m2.of_same (Below.heap_alloc _ _ _ (by omega))).congr fun k _ => by simp
end Go.Proofs.Ytdeomphilggokaa
