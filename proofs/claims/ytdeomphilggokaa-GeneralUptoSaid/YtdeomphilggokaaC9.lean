/-
  Proved: the contract of the law's sameBinds where both lists say the same. Condition: at most 1000000 binds.
-/
import Derived.Test.YtdeomphilggokaaC8
set_option linter.unusedSimpArgs false
set_option linter.unusedVariables false
namespace Go.Proofs.Ytdeomphilggokaa
open Go.RowKit

mutual
theorem sameD_refl : ∀ (t : Ty), sameD t t = true
  | .mk k n s q args => by rw [sameD, sameL_refl args, Bool.and_true]; simp [headS]
theorem sameL_refl : ∀ (l : List Ty), sameL l l = true
  | [] => by rw [sameL]
  | p :: ps => by rw [sameL, sameD_refl p, sameL_refl ps]; rfl
end
set_option maxRecDepth 100000 in
set_option maxHeartbeats 4000000 in
theorem sameBinds_any (D : Nat → Prop) (v1 v2 : Value) (b1 b2 : List Bd) (w : World) (h1 : OwnB 0 w D v1 b1) (h2 : OwnB 0 w D v2 b2) (hD : ∀ b, D b → b < w.heap.size) (hp : b1.map Bd.pair = b2.map Bd.pair) (hl : b1.length ≤ 1000000) (hf1 : ∀ b ∈ b1, Fits b.t) (hf2 : ∀ b ∈ b2, Fits b.t) :
    Calls Try.prog 16 #[v1, v2] w fun e w' => e = .returned (.bool true) ∧ Below w.heap.size w w' := by
  have hlen : b1.length = b2.length := by have := congrArg List.length hp; simpa using this
  obtain ⟨n, hn⟩ : ∃ n, n = b1.length := ⟨_, rfl⟩
  obtain ⟨a1, c1, e1, g1⟩ := h1.getm hn
  obtain ⟨a2, c2, e2, g2⟩ := h2.getm (hn.trans hlen)
  subst e1 e2
  have hn9 : n ≤ 1000000 := by rw [hn]; exact hl
  have HN1 := Lib.hid hn
  have HN2 := Lib.hid (hn.trans hlen)
  have HG1 := Lib.hid g1
  have HG2 := Lib.hid g2
  have HP := Lib.hid hp
  have HD := Lib.hid hD
  have HF1 := Lib.hid hf1
  have HF2 := Lib.hid hf2
  have H1 := Lib.hid h1
  have H2 := Lib.hid h2
  clear hlen hn g1 g2 hp hl hD hf1 hf2 h1 h2
  go_enter Try.func16, Try.ntmps16
  go_wp2_with fail
  go_loopw [5, 6] (fun i _ wr => ∃ j : Nat, i = .int .i64 (j : Int) ∧ j ≤ n ∧ Below w.heap.size w wr) (fun i _ _ => n - (intOf i).toNat)
  case atStart => exact ⟨0, rfl, Nat.zero_le _, Below.refl _ _⟩
  case round =>
    obtain ⟨j, rfl, hj, hb⟩ := hrel
    obtain ⟨wo, rfl⟩ : ∃ wo : World, wo = wr := ⟨_, rfl⟩
    have HB := Lib.hid hb
    have hsz := hb.size
    clear hb
    by_cases hlt : j < n
    · have hd : decide ((j : Int) < (n : Int)) = true := by simp; omega
      have hj1 : j < b1.length := by rw [← HN1.out]; exact hlt
      have hj2 : j < b2.length := by rw [← HN2.out]; exact hlt
      obtain ⟨x1, _, hx1, ix1, cx1⟩ := HG1.out j hlt hj1
      obtain ⟨x2, _, hx2, ix2, cx2⟩ := HG2.out j hlt hj2
      obtain ⟨d1, hd1⟩ : ∃ d, d = b1[j] := ⟨_, rfl⟩
      obtain ⟨d2, hd2⟩ : ∃ d, d = b2[j] := ⟨_, rfl⟩
      rw [← hd1] at cx1
      rw [← hd2] at cx2
      have hpp : d1.pair = d2.pair := by
        have h := congrArg (fun l => l[j]?) HP.out
        simpa [hj1, hj2, ← hd1, ← hd2] using h
      have hnn : d1.n = d2.n := congrArg Prod.fst hpp
      have htt : d1.t = d2.t := congrArg Prod.snd hpp
      have hm1 : d1 ∈ b1 := by rw [hd1]; exact List.getElem_mem _
      have hm2 : d2 ∈ b2 := by rw [hd2]; exact List.getElem_mem _
      have y : ∀ (V : World), Below w.heap.size w V → ∀ (x : Nat) (d : Bd), x < w.heap.size → (∀ z, z < 6 → w.cell? ⟨x, j * 6 + z, none⟩ = d.cells[z]?) → V.cell? ⟨x, j * 6, none⟩ = some (.int .i64 d.n) ∧ V.cell? ⟨x, j * 6 + 1, none⟩ = some (.int .i64 d.t.k) ∧ V.cell? ⟨x, j * 6 + 2, none⟩ = some (.int .i64 d.t.n) ∧ V.cell? ⟨x, j * 6 + 3, none⟩ = some (.string d.t.s) ∧ V.cell? ⟨x, j * 6 + 4, none⟩ = some (.int .i64 d.t.q) ∧ V.cell? ⟨x, j * 6 + 5, none⟩ = some (.slice d.ao d.t.args.length d.cap) := fun V hV x d hx h =>
        have q : ∀ (z : Nat) (v : Value), z < 6 → d.cells[z]? = some v → V.cell? ⟨x, j * 6 + z, none⟩ = some v := fun z v hz e => (hV.cell (p := ⟨x, j * 6 + z, none⟩) hx).trans ((h z hz).trans e)
        ⟨q 0 _ (by omega) rfl, q 1 _ (by omega) rfl, q 2 _ (by omega) rfl, q 3 _ (by omega) rfl, q 4 _ (by omega) rfl, q 5 _ (by omega) rfl⟩
      have hbd : Below w.heap.size w wo.drew := HB.out.drew
      obtain ⟨_, X1, X2, X3, X4, X5⟩ := y wo.drew hbd x1 d1 hx1 cx1
      obtain ⟨_, Y1, Y2, Y3, Y4, Y5⟩ := y wo.drew hbd x2 d2 hx2 cx2
      have hcall := lsame_any (parts d1.t) d1.t (Nat.le_refl _) d2.t D d1.ao d2.ao d1.cap d2.cap wo.drew (fun b hb => Nat.lt_of_lt_of_le (HD.out b hb) hsz) ((H1.out.sl d1 hm1).keep fun b hb off => below_cells hbd b (HD.out b hb) off) ((H2.out.sl d2 hm2).keep fun b hb off => below_cells hbd b (HD.out b hb) off) (HF1.out d1 hm1) (HF2.out d2 hm2)
      rw [show sameD d1.t d2.t = true from by rw [htt]; exact sameD_refl _] at hcall
      unfold rowOf at hcall
      have HCALL := Lib.hid hcall
      have KY : Hid (∀ V : World, Below w.heap.size w V → V.cell? ⟨x1, j * 6, none⟩ = some (.int .i64 d1.n) ∧ V.cell? ⟨x2, j * 6, none⟩ = some (.int .i64 d2.n)) := Lib.hid (fun V hV => ⟨(y V hV x1 d1 hx1 cx1).1, (y V hV x2 d2 hx2 cx2).1⟩)
      have hne : (d1.n != d2.n) = false := by simp [hnn]
      clear hcall cx1 cx2 hd1 hd2 hpp hnn htt hm1 hm2 y hbd
      go_upto_region 6 with fail
      refine wp_region_still_tail 10 (by kernel_rfl) (by kernel_rfl) ?_
      simp only [List.take_succ_cons, List.take_zero, List.drop_succ_cons, List.drop_zero]
      change wpStill _ _ wo.drew _ _ _
      iterate 10 still_step
      refine wpStill_nil ?_
      change wpList _ _ _ _ _ wo.drew
      clear X1 X2 X3 X4 X5 Y1 Y2 Y3 Y4 Y5
      go_upto_region 7 with (first | (go_at_call 43; refine HCALL.out.mono ?_; rintro e w7 ⟨rfl, hb7⟩; obtain ⟨k1, k2⟩ := KY.out w7 (HB.out.drew.trans (hb7.mono hsz)); have HB7 := Lib.hid (HB.out.drew.trans (hb7.mono hsz)); clear hb7))
      go_quiet (fail)
      go_wp2_with fail
      go_roundw
      case rel => exact ⟨j + 1, by go_num, hlt, HB7.out.trans ((below_drewN (Below.refl _ _) _).mono HB7.out.size)⟩
      case measure => simp only [intOf]; omega
    · obtain rfl : j = n := by omega
      have hd : decide ((j : Int) < (j : Int)) = false := by simp
      go_wp2_with fail
      go_ret
      exact ⟨rfl, HB.out⟩
end Go.Proofs.Ytdeomphilggokaa
