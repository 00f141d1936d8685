/-
  Proved: the contracts of both Propers. Condition: none but that the type fits a machine.
-/
import Derived.Test.YtdeomphilggokaaA3
set_option linter.unusedSimpArgs false
set_option linter.unusedVariables false
namespace Go.Proofs.Ytdeomphilggokaa
open Go.RowKit

theorem grown_below {w w' : World} {b : Nat} (h : w.grownBy w' (some b)) {N : Nat} (hN : N ≤ w.heap.size) (hb : N ≤ b) : Below N w w' :=
  ⟨h.os, h.tape, h.output, h.size, fun k hk => h.block k (by omega) (fun e => by have := Option.some.inj e; omega)⟩
set_option maxRecDepth 100000 in
set_option maxHeartbeats 4000000 in
theorem rproper_any (t : Ty) (D : Nat → Prop) (ao : Option Addr) (cap : Nat) (w : World) (hD : ∀ b, D b → b < w.heap.size) (hv : SlD w D t.args ao cap) (hfit : Fits t) :
    Calls Try.prog 11 #[.agg (rowOf t ao cap)] w fun e w' => e = .returned (.bool (ProperD t)) ∧ Below w.heap.size w w' := by
  obtain ⟨c, hc⟩ : ∃ c, c = t.args.length := ⟨_, rfl⟩
  obtain ⟨W, hW⟩ : ∃ W, W = w.alloc (.cells (rowOf t ao cap) 33) := ⟨_, rfl⟩
  obtain ⟨hbW, hlW, hrow⟩ := box_at hW
  have HC32 := Lib.hid (parts_any (parts t) t (Nat.le_refl _) D ao cap 400 W (fun b hb => Nat.lt_of_lt_of_le (hD b hb) hbW.size) (hv.keep fun b hb off => below_cells hbW b (hD b hb) off) (Nat.le_refl _) hfit)
  have HC33 : Hid (∀ V : World, Below W.heap.size W V → Calls Try.prog 33 #[.agg (rowOf t ao cap)] V fun e w' => e = .returned (.bool (shapedD t)) ∧ Below V.heap.size V w') := Lib.hid (fun V hV => by
    have hbV := hbW.trans (hV.mono hbW.size)
    exact shaped_any (parts t) t (Nat.le_refl _) D ao cap V (fun b hb => Nat.lt_of_lt_of_le (hD b hb) hbV.size) (hv.keep fun b hb off => below_cells hbV b (hD b hb) off) hfit)
  unfold rowOf at hW hrow HC32 HC33
  unfold rowOf
  rw [← hc] at hW hrow HC32 HC33
  rw [← hc]
  have c0 : W.cell? ⟨w.heap.size, 0, none⟩ = some (.int .i64 t.k) := blk_cell hrow 0
  have c1 : W.cell? ⟨w.heap.size, 1, none⟩ = some (.int .i64 t.n) := blk_cell hrow 1
  have c2 : W.cell? ⟨w.heap.size, 2, none⟩ = some (.string t.s) := blk_cell hrow 2
  have c3 : W.cell? ⟨w.heap.size, 3, none⟩ = some (.int .i64 t.q) := blk_cell hrow 3
  have c4 : W.cell? ⟨w.heap.size, 4, none⟩ = some (.slice ao c cap) := blk_cell hrow 4
  have HROW := Lib.hid hrow
  have HBW := Lib.hid hbW
  have HPD : Hid (ProperD t = (decide (parts t ≤ 400) && shapedD t)) := Lib.hid rfl
  clear hD hv hc hfit hbW hrow
  go_enter Try.func11, Try.ntmps11
  go_upto_region 1 with fail
  rw [← hW]
  have HWW := Lib.hid hW
  clear hW
  by_cases hp : parts t ≤ 400
  · have hm : min (parts t) (400 + 1) = parts t := by omega
    obtain ⟨pn, hpn⟩ : ∃ pn, pn = parts t := ⟨_, rfl⟩
    rw [hm, ← hpn] at HC32
    have hp' : pn ≤ 400 := by omega
    have hd : decide ((pn : Int) ≤ 400) = true := by simp; omega
    have HPN := Lib.hid hpn
    clear hm hpn hp
    have k0 : ∀ w7, Below W.heap.size W w7 → ∀ (o : Nat) (v : Value), W.cell? ⟨w.heap.size, o, none⟩ = some v → w7.cell? ⟨w.heap.size, o, none⟩ = some v := fun w7 h o v e => (h.cell (p := ⟨w.heap.size, o, none⟩) hlW).trans e
    have K0 := Lib.hid k0
    clear k0
    go_wp2_with (first
      | (go_at_call 32; refine HC32.out.mono ?_; rintro e w7 ⟨rfl, hb7⟩; have e0 := K0.out w7 hb7 _ _ c0; have e1 := K0.out w7 hb7 _ _ c1; have e2 := K0.out w7 hb7 _ _ c2; have e3 := K0.out w7 hb7 _ _ c3; have e4 := K0.out w7 hb7 _ _ c4; have HB7 := Lib.hid hb7; clear hb7)
      | (go_at_call 33; refine (HC33.out w7 HB7.out).mono ?_; rintro e w8 ⟨rfl, hb8⟩))
    go_ret
    refine ⟨?_, HBW.out.trans ((HB7.out.trans (hb8.mono HB7.out.size)).mono (Nat.le_of_lt hlW))⟩
    rw [HPD.out, ← HPN.out]
    simp [hp']
  · have hm : min (parts t) (400 + 1) = 401 := by omega
    rw [hm] at HC32
    have HP := Lib.hid hp
    clear hm hp
    go_wp2_with (first | (go_at_call 32; refine HC32.out.mono ?_; rintro e w7 ⟨rfl, hb7⟩))
    go_ret
    refine ⟨?_, HBW.out.trans (hb7.mono (Nat.le_of_lt hlW))⟩
    rw [HPD.out]
    simp [HP.out]
set_option maxRecDepth 100000 in
set_option maxHeartbeats 4000000 in
theorem pproper_any (t : Ty) (D : Nat → Prop) (ao : Option Addr) (cap : Nat) (w : World) (hD : ∀ b, D b → b < w.heap.size) (hv : SlD w D t.args ao cap) (hfit : Fits t) :
    Calls Try.prog 13 #[.agg (rowOf t ao cap)] w fun e w' => e = .returned (.bool (ProperD t)) ∧ Below w.heap.size w w' := by
  obtain ⟨c, hc⟩ : ∃ c, c = t.args.length := ⟨_, rfl⟩
  obtain ⟨W, hW⟩ : ∃ W, W = w.alloc (.cells (rowOf t ao cap) 33) := ⟨_, rfl⟩
  obtain ⟨hbW, hlW, hrow⟩ := box_at hW
  obtain ⟨X, hX⟩ : ∃ X, X = W.alloc (.cells #[.int .i64 400] 3) := ⟨_, rfl⟩
  have hbX : Below w.heap.size w X := by rw [hX]; exact hbW.alloc hbW.size _
  have hxb : X.heap[W.heap.size]? = some (.cells #[.int .i64 ((400 : Nat) : Int)] 3 (0, 0)) := by rw [hX]; exact heap_alloc_new W _
  have hxr : X.heap[w.heap.size]? = some (.cells (rowOf t ao cap) 33 (0, 0)) := by rw [hX]; exact blk_alloc hrow _
  have HC := Lib.hid (proper_any (parts t) t (Nat.le_refl _) D ao cap W.heap.size 400 X (fun d hd => ⟨Nat.lt_of_lt_of_le (hD d hd) hbX.size, by have := hD d hd; omega⟩) (hv.keep fun b hb off => below_cells hbX b (hD b hb) off) hxb (Nat.le_refl _) hfit)
  unfold rowOf at hW hxr HC
  unfold rowOf
  rw [← hc] at hW hxr HC
  rw [← hc]
  have c0 : X.cell? ⟨w.heap.size, 0, none⟩ = some (.int .i64 t.k) := blk_cell hxr 0
  have c1 : X.cell? ⟨w.heap.size, 1, none⟩ = some (.int .i64 t.n) := blk_cell hxr 1
  have c2 : X.cell? ⟨w.heap.size, 2, none⟩ = some (.string t.s) := blk_cell hxr 2
  have c3 : X.cell? ⟨w.heap.size, 3, none⟩ = some (.int .i64 t.q) := blk_cell hxr 3
  have c4 : X.cell? ⟨w.heap.size, 4, none⟩ = some (.slice ao c cap) := blk_cell hxr 4
  have HBX := Lib.hid hbX
  have hsz : w.heap.size ≤ W.heap.size := Nat.le_of_lt hlW
  have hszx : w.heap.size ≤ X.heap.size := hbX.size
  have HPD : Hid (ProperD t = (decide (parts t ≤ 400) && shapedD t)) := Lib.hid rfl
  have HXX := Lib.hid hX
  clear hD hv hc hfit hbW hrow hbX hxb hxr hX
  go_enter Try.func13, Try.ntmps13
  go_upto_region 1 with fail
  rw [← hW]
  have HWW := Lib.hid hW
  clear hW
  go_upto_region 2 with fail
  rw [← HXX.out]
  go_wp2_with (first | (go_at_call 37; refine HC.out.mono ?_; rintro e w7 ⟨r7, L7, rfl, hif7, hL7, hb7, hg7⟩; have HIF7 := Lib.hid hif7; have HG7 := Lib.hid hg7; clear hif7 hL7 hb7 hg7))
  go_ret
  refine ⟨?_, HBX.out.trans (grown_below HG7.out hszx hsz)⟩
  have e : r7 = ProperD t := by
    rw [HPD.out, Bool.eq_iff_iff, HIF7.out, Bool.and_eq_true, decide_eq_true_eq]
  exact congrArg (fun b : Bool => Ending.returned (.bool b)) e
end Go.Proofs.Ytdeomphilggokaa
