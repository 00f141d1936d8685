/-
  Proved: the walk of the law Encodes. Conditions: the code's weight at most 2^20.
-/
import Derived.Test.YtebappmamaafaaaDoorE6
set_option linter.unusedSimpArgs false
set_option linter.unusedVariables false
namespace Go.Proofs.YtebappmamaafaaaDoor
open Go.RowKit

/-- the document's example -/
def smallFn : Nat → Fn := fun b => ⟨0, 1, some ⟨b, 0, none⟩, 2, [(0, -2, 0), (17, 0, 0)]⟩
def smallCd (ta fa ia : Nat) : Cd := ⟨some ⟨ta, 0, none⟩, 1, some ⟨fa, 0, none⟩, 1, [⟨#[104, 105]⟩], [smallFn ia]⟩

theorem RowsAt.mono {w : World} {N N' : Nat} {ao : Option Addr} {sz : Nat} {rows : List (List Value)} (h : RowsAt w N ao sz rows) (hN : N ≤ N') : RowsAt w N' ao sz rows := by
  intro i hi
  obtain ⟨b, off, e, hlt, hc⟩ := h i hi
  exact ⟨b, off, e, by omega, hc⟩
theorem CodeAt.mono {w : World} {N N' : Nat} {c : Cd} (h : CodeAt w N c) (hN : N ≤ N') : CodeAt w N' c :=
  ⟨h.texts.mono hN, h.funs.mono hN, fun f hf => (h.ins f hf).mono hN, h.wf, h.tcap, h.fcap⟩
theorem CodeAt.later {w w' : World} {c : Cd} (h : CodeAt w w.heap.size c) (hb : Below w.heap.size w w') : CodeAt w' w'.heap.size c := (h.below hb).mono hb.size
theorem Forms.later {w w' : World} (h : Forms w) (h0 : 0 < w.heap.size) (hb : Below w.heap.size w w') : Forms w' := h.below hb h0

theorem small_code {w : World} {ta fa ia : Nat} (h1 : w.heap[ta]? = some (.cells #[.string ⟨#[104, 105]⟩] 9 (0, 0))) (h2 : w.heap[ia]? = some (.cells #[.int .i64 0, .int .i64 (-2), .int .i64 0, .int .i64 17, .int .i64 0, .int .i64 0] 50 (0, 0)))
    (h3 : w.heap[fa]? = some (.cells #[.int .i64 0, .int .i64 1, .slice (some ⟨ia, 0, none⟩) 2 2] 48 (0, 0))) : CodeAt w w.heap.size (smallCd ta fa ia) := by
  refine ⟨?_, ?_, ?_, ?_, Nat.le_refl _, Nat.le_refl _⟩
  · intro i hi
    obtain rfl : i = 0 := by simp [smallCd] at hi; omega
    refine ⟨ta, 0, rfl, lt_of_block h1, fun j hj => ?_⟩
    obtain rfl : j = 0 := by omega
    rw [blk_cell h1]; rfl
  · intro i hi
    obtain rfl : i = 0 := by simp [smallCd] at hi; omega
    refine ⟨fa, 0, rfl, lt_of_block h3, fun j hj => ?_⟩
    rw [blk_cell h3]
    rcases (by omega : j = 0 ∨ j = 1 ∨ j = 2) with h | h | h <;> subst h <;> rfl
  · intro f hf
    obtain rfl : f = smallFn ia := by simpa [smallCd] using hf
    intro i hi
    refine ⟨ia, 0, rfl, lt_of_block h2, fun j hj => ?_⟩
    rw [blk_cell h2]
    have hi2 : i < 2 := by simpa [smallFn] using hi
    rcases (by omega : i = 0 ∨ i = 1) with h | h <;> subst h <;> rcases (by omega : j = 0 ∨ j = 1 ∨ j = 2) with h | h | h <;> subst h <;> rfl
  · intro f hf
    obtain rfl : f = smallFn ia := by simpa [smallCd] using hf
    simp [smallFn, in64]
theorem small_enc (ta fa ia : Nat) : penc (smallCd ta fa ia) = ([77, 76, 49, 0, 1, 2, 104, 105, 0, 1, 0, 0, 0, 1, 0, 2, 0, 255, 255, 255, 254, 17], 0) := by kernel_rfl
theorem small_wgt (ta fa ia : Nat) : wgt (smallCd ta fa ia) ≤ 1048576 := by
  have : wgt (smallCd ta fa ia) = 6 := rfl
  omega

def SmallPost (w : World) (e : Ending) (w' : World) : Prop := ∃ ta fa ia, e = .returned (smallCd ta fa ia).val ∧ CodeAt w' w'.heap.size (smallCd ta fa ia) ∧ Below w.heap.size w w'
theorem small_any (w : World) : Calls Tryd.prog 8 #[] w (SmallPost w) := by
  go_enter Tryd.func8, Tryd.ntmps8
  go_wp2
  refine bodyPost_ret (v := (smallCd (w.heap.size + 1) (w.heap.size + 1 + 1 + 1) (w.heap.size + 1 + 1)).val) (by simp [results, Tryd.results8, go_sem]; rfl) rfl ⟨w.heap.size + 1, w.heap.size + 1 + 1 + 1, w.heap.size + 1 + 1, rfl, small_code ?_ ?_ ?_, ?_⟩
  · refine blk_alloc (blk_alloc ?_ _) _
    have := heap_alloc_new (w.alloc (.cells #[.slice (some ⟨w.heap.size + 1, 0, none⟩) 1 1, .slice (some ⟨w.heap.size + 1 + 1 + 1, 0, none⟩) 1 1] 25)) (.cells #[.string ⟨#[104, 105]⟩] 9)
    rwa [World.size_alloc] at this
  · refine blk_alloc ?_ _
    have := heap_alloc_new ((w.alloc (.cells #[.slice (some ⟨w.heap.size + 1, 0, none⟩) 1 1, .slice (some ⟨w.heap.size + 1 + 1 + 1, 0, none⟩) 1 1] 25)).alloc (.cells #[.string ⟨#[104, 105]⟩] 9)) (.cells #[.int .i64 0, .int .i64 (-2), .int .i64 0, .int .i64 17, .int .i64 0, .int .i64 0] 50)
    rwa [World.size_alloc, World.size_alloc] at this
  · have := heap_alloc_new (((w.alloc (.cells #[.slice (some ⟨w.heap.size + 1, 0, none⟩) 1 1, .slice (some ⟨w.heap.size + 1 + 1 + 1, 0, none⟩) 1 1] 25)).alloc (.cells #[.string ⟨#[104, 105]⟩] 9)).alloc (.cells #[.int .i64 0, .int .i64 (-2), .int .i64 0, .int .i64 17, .int .i64 0, .int .i64 0] 50)) (.cells #[.int .i64 0, .int .i64 1, .slice (some ⟨w.heap.size + 1 + 1, 0, none⟩) 2 2] 48)
    rwa [World.size_alloc, World.size_alloc, World.size_alloc] at this
  · exact balloc (balloc (balloc (balloc (Below.refl _ _) _) _) _) _

theorem penc_small (ta fa ia : Nat) (w : World) (hF : Forms w) (h0 : 0 < w.heap.size) (hc : CodeAt w w.heap.size (smallCd ta fa ia)) :
    Calls Tryd.prog 7 #[(smallCd ta fa ia).val] w fun e w' => e = .returned (.tuple #[.string ⟨#[77, 76, 49, 0, 1, 2, 104, 105, 0, 1, 0, 0, 0, 1, 0, 2, 0, 255, 255, 255, 254, 17]⟩, .int .i64 0]) ∧ Below w.heap.size w w' :=
  (penc_any _ w hF h0 hc (small_wgt ta fa ia)).mono fun e w' ⟨he, hb⟩ => ⟨by rw [he, small_enc], hb⟩

set_option maxHeartbeats 1000000 in
theorem encodes_any (c : Cd) (w : World) (hF : Forms w) (h0 : 0 < w.heap.size) (hc : CodeAt w w.heap.size c) (hw : wgt c ≤ 1048576) :
    Calls Tryd.prog 3 #[c.val] w fun e w' => e = .returned (.bool true) ∧ Below w.heap.size w w' := by
  have HF := Lib.hid hF
  have HC := Lib.hid hc
  have hbx := heap_alloc_new w (.cells #[.slice c.ta c.texts.length c.tc, .slice c.fa c.funs.length c.fc] 25)
  have HBX := Lib.hid hbx
  have hpr : (∃ q z, penc c = (q, z) ∧ renc c = (q, z)) := ⟨_, _, rfl, (enc_same c).symm⟩
  obtain ⟨q, z, hp, hr⟩ := hpr
  have HP := Lib.hid hp
  have HR := Lib.hid hr
  clear hF hc hbx hp hr
  unfold Cd.val
  go_enter Tryd.func3, Tryd.ntmps3
  go_wp2_with fail
  refine (small_any _).mono ?_
  rintro e w1 ⟨ta, fa, ia, rfl, hcs, hb1⟩
  have hb1' : Below w.heap.size w w1 := bthen (balloc (Below.refl _ _) _) hb1
  have hs1 := hb1.size
  rw [World.size_alloc] at hs1
  have HX1 := Lib.hid (blk_below HBX.out hb1 (by simp))
  have HB1 := Lib.hid hb1'
  clear hb1 hb1'
  go_wp2_with fail
  refine (penc_small ta fa ia w1 (HF.out.later h0 HB1.out) (by omega) hcs).mono ?_
  rintro e w2 ⟨rfl, hb2⟩
  have hx2 := blk_below HX1.out hb2 (by omega)
  have a0 : w2.cell? ⟨w.heap.size, 0, none⟩ = some (.slice c.ta c.texts.length c.tc) := blk_cell hx2 0
  have a1 : w2.cell? ⟨w.heap.size, 1, none⟩ = some (.slice c.fa c.funs.length c.fc) := blk_cell hx2 1
  have HX2 := Lib.hid hx2
  have hs2 := hb2.size
  have HB2 := Lib.hid (bthen HB1.out hb2)
  clear hb2 hx2 hcs
  go_wp2_with fail
  refine (penc_any c w2 (HF.out.later h0 HB2.out) (by omega) (HC.out.later HB2.out) hw).mono ?_
  rintro e w3 ⟨he, hb3⟩
  rw [HP.out] at he
  subst he
  have hx3 := blk_below HX2.out hb3 (by omega)
  have b0 : w3.cell? ⟨w.heap.size, 0, none⟩ = some (.slice c.ta c.texts.length c.tc) := blk_cell hx3 0
  have b1 : w3.cell? ⟨w.heap.size, 1, none⟩ = some (.slice c.fa c.funs.length c.fc) := blk_cell hx3 1
  have hs3 := hb3.size
  have HB3 := Lib.hid (bthen HB2.out hb3)
  clear hb3 hx3 a0 a1
  go_wp2_with fail
  refine (renc_any c w3 (by omega) (HC.out.later HB3.out) hw).mono ?_
  rintro e w4 ⟨he, hb4⟩
  rw [HR.out] at he
  subst he
  have HB4 := Lib.hid (bthen HB3.out hb4)
  clear hb4
  go_wp2_with fail
  all_goals
    go_ret
    exact ⟨by simp, HB4.out⟩

end Go.Proofs.YtebappmamaafaaaDoor
