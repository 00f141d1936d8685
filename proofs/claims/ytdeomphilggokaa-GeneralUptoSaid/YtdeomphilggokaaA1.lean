/-
  Proved: the contract of the reference's Parts. Condition: at most 400 parts are counted.
-/
import Derived.Test.YtdeomphilggokaaV
import Derived.Deep.DeepCutAuto
import Derived.Deep.CutBlock
import Derived.StillTailTactics
import Derived.Deep.RegionHeld3
set_option linter.unusedSimpArgs false
set_option linter.unusedVariables false
namespace Go.Proofs.Ytdeomphilggokaa
open Go.RowKit

theorem partsL_append : ∀ (l r : List Ty), partsL (l ++ r) = partsL l + partsL r
  | [], r => by simp [partsL]
  | p :: ps, r => by rw [List.cons_append, partsL, partsL, partsL_append ps r]; omega
theorem partsL_take {l : List Ty} {j : Nat} (h : j < l.length) : partsL (l.take (j + 1)) = partsL (l.take j) + parts l[j] := by
  rw [List.take_succ_eq_append_getElem h, partsL_append, partsL, partsL]; omega
theorem partsL_take_le (l : List Ty) (j : Nat) : partsL (l.take j) ≤ partsL l := by
  have h := partsL_append (l.take j) (l.drop j)
  rw [List.take_append_drop] at h
  omega
/-- a type in a box of its own -/
theorem box_at {w W : World} {t : Ty} {ao : Option Addr} {cap : Nat} (hW : W = w.alloc (.cells (rowOf t ao cap) 33)) : Below w.heap.size w W ∧ w.heap.size < W.heap.size ∧ W.heap[w.heap.size]? = some (.cells (rowOf t ao cap) 33 (0, 0)) := by
  rw [hW]
  exact ⟨balloc (Below.refl _ _) _, by simp, heap_alloc_new w _⟩
set_option maxRecDepth 100000 in
set_option maxHeartbeats 4000000 in
theorem parts_any : ∀ (f : Nat) (t : Ty), parts t ≤ f → ∀ (D : Nat → Prop) (ao : Option Addr) (cap most : Nat) (w : World), (∀ b, D b → b < w.heap.size) → SlD w D t.args ao cap → most ≤ 400 → Fits t →
    Calls Try.prog 32 #[.agg (rowOf t ao cap), .int .i64 (most : Int)] w fun e w' => e = .returned (.int .i64 ((min (parts t) (most + 1) : Nat) : Int)) ∧ Below w.heap.size w w' := by
  intro f
  induction f with
  | zero => intro t ht; have := parts_pos t; omega
  | succ f IH =>
    intro t ht D ao cap most w hD hv hmost hfit
    obtain ⟨c, hc⟩ : ∃ c, c = t.args.length := ⟨_, rfl⟩
    obtain ⟨W, hW⟩ : ∃ W, W = w.alloc (.cells (rowOf t ao cap) 33) := ⟨_, rfl⟩
    obtain ⟨hbW, hlW, hrow⟩ := box_at hW
    unfold rowOf at hW hrow
    unfold rowOf
    rw [← hc] at hW hrow
    rw [← hc]
    have hcl : c ≤ 3000000000000 := by rw [hc]; exact hfit.len
    have HC := Lib.hid hc
    have HT := Lib.hid ht
    have HFIT := Lib.hid hfit
    have HIH := Lib.hid IH
    have HD := Lib.hid hD
    have HV := Lib.hid hv
    have HBW := Lib.hid hbW
    have HROW := Lib.hid hrow
    clear IH hD hv hc ht hfit hbW hrow
    go_enter Try.func32, Try.ntmps32
    go_upto_region 1 with fail
    rw [← hW]
    have HWW := Lib.hid hW
    clear hW
    go_wp2_with fail
    go_loopw [5, 6] (fun v i wr => ∃ (j nn : Nat), v = .int .i64 (nn : Int) ∧ i = .int .i64 (j : Int) ∧ j ≤ c ∧ nn = min (1 + partsL (t.args.take j)) (most + 1) ∧ Below W.heap.size W wr) (fun _ i _ => c - (intOf i).toNat)
    case atStart => exact ⟨0, 1, rfl, rfl, Nat.zero_le _, by simp [partsL], Below.refl _ _⟩
    case round =>
      obtain ⟨j, nn, rfl, rfl, hj, hnn, hbr⟩ := hrel
      obtain ⟨wo, rfl⟩ : ∃ wo : World, wo = wr := ⟨_, rfl⟩
      have hrow2 := blk_below HROW.out hbr hlW
      have c4 : wo.cell? ⟨w.heap.size, 4, none⟩ = some (.slice ao c cap) := blk_cell hrow2 4
      have HBR := Lib.hid hbr
      have HNN := Lib.hid hnn
      clear hbr hrow2 hnn
      by_cases hlt : j < c
      · have hd : decide ((j : Int) < (c : Int)) = true := by simp; omega
        by_cases hle : nn ≤ most
        · have hd2 : decide ((nn : Int) ≤ (most : Int)) = true := by simp; omega
          have hjk : j < t.args.length := by rw [← HC.out]; exact hlt
          have hbo : Below w.heap.size w wo := HBW.out.trans (HBR.out.mono (Nat.le_of_lt hlW))
          have hvr : SlD wo D t.args ao cap := HV.out.keep fun b hb off => below_cells hbo b (HD.out b hb) off
          obtain ⟨b, p, ap, cp, hDb, hix, x0, x1, x2, x3, x4, hs⟩ := arg_cells hvr hjk
          rw [← HC.out] at hix
          obtain ⟨u, hu⟩ : ∃ u, u = t.args[j] := ⟨_, rfl⟩
          rw [← hu] at x0 x1 x2 x3 x4 hs
          obtain ⟨m2, hm2⟩ : ∃ m2, m2 = most - nn := ⟨_, rfl⟩
          have hsub : (most : Int) - (nn : Int) = (m2 : Int) := by omega
          have hmem : u ∈ t.args := by rw [hu]; exact List.getElem_mem _
          have hcall := HIH.out u (by have h1 := HT.out; rw [parts_args] at h1; have := parts_mem hmem; omega) D ap cp m2 wo (fun b hb => Nat.lt_of_lt_of_le (HD.out b hb) hbo.size) hs (by omega) (HFIT.out.args.get hmem)
          obtain ⟨r, hr⟩ : ∃ r, r = min (parts u) (m2 + 1) := ⟨_, rfl⟩
          rw [← hr] at hcall
          unfold rowOf at hcall
          have HCALL := Lib.hid hcall
          have HU := Lib.hid hu
          have HM := Lib.hid hm2
          have HR := Lib.hid hr
          have hr9 : r ≤ 401 := by omega
          have hnn9 : nn ≤ 400 := by omega
          clear hcall hvr hs hu hm2 hr hmem hbo
          go_wp2_with (first | (go_at_call 32; refine HCALL.out.mono ?_; rintro e w7 ⟨rfl, hb7⟩))
          go_roundw
          case rel =>
            refine ⟨j + 1, nn + r, by go_num, by go_num, hlt, ?_, HBR.out.trans (hb7.mono HBR.out.size)⟩
            have h1 := HNN.out
            have h2 := HR.out
            have h3 := HM.out
            rw [partsL_take hjk, ← HU.out]
            omega
          case measure => simp only [intOf]; omega
        · have hd2 : decide ((nn : Int) ≤ (most : Int)) = false := by simp; omega
          go_wp2_with fail
          go_ret
          refine ⟨?_, HBW.out.trans (HBR.out.mono (Nat.le_of_lt hlW))⟩
          have h1 := HNN.out
          have h2 := parts_args t
          have h3 := partsL_take_le t.args j
          have e : nn = min (parts t) (most + 1) := by omega
          exact congrArg (fun n : Nat => Ending.returned (.int .i64 (n : Int))) e
      · obtain rfl : j = c := by omega
        have hd : decide ((j : Int) < (j : Int)) = false := by simp
        go_wp2_with fail
        go_ret
        refine ⟨?_, HBW.out.trans (HBR.out.mono (Nat.le_of_lt hlW))⟩
        have h1 := HNN.out
        have h2 := parts_args t
        rw [HC.out, List.take_length] at h1
        have e : nn = min (parts t) (most + 1) := by omega
        exact congrArg (fun n : Nat => Ending.returned (.int .i64 (n : Int))) e
end Go.Proofs.Ytdeomphilggokaa
