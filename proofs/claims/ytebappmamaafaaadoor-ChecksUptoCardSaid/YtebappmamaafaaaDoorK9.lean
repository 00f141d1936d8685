/-
  Proved: the walk of the law Checks. Conditions: the code's weight at most 2^20; the table of signs.
-/
import Derived.Test.YtebappmamaafaaaDoorK8
namespace Go.Proofs.YtebappmamaafaaaDoor
open Go.RowKit

theorem fitsB_iff {n : Int} (h : fitsB n = true) : 0 ≤ n ∧ n ≤ 65535 := by
  unfold fitsB at h
  simpa using h
theorem form_i {op : Int} (h : formB op = ([105], true)) : op = 0 ∨ op = 9 := by
  unfold formB at h
  by_cases h1 : op = 0 ∨ op = 9
  · exact h1
  · rw [if_neg h1] at h
    split at h
    · cases h
    · split at h
      · cases h
      · split at h <;> cases h
theorem insOk_of {op a b : Int} (h : (rinsB op a b).2 = true) : InsOk (op, a, b) := by
  by_cases ho : op < 0 ∨ 26 ≤ op
  · rw [rinsB, form_out ho] at h
    simp [stepR] at h
  · refine ⟨by simp only; omega, by simp only; omega, ?_⟩
    simp only
    intro h0 h9
    unfold rinsB at h
    rcases formB_cases op with hf | hf | hf | hf | hf
    · have := form_i hf; omega
    · rw [hf] at h
      simp only [stepR] at h
      cases hg : fitsB a
      · simp [hg] at h
      · have := fitsB_iff hg
        simp [hg] at h
        omega
    · rw [hf] at h
      simp only [stepR] at h
      cases hg : fitsB a
      · simp [hg] at h
      · have := fitsB_iff hg
        simp [hg] at h
        have := fitsB_iff h
        omega
    · rw [hf] at h
      simp only [stepR] at h
      cases hg : (a == 0)
      · simp [hg] at h
      · simp [hg] at h
        simp at hg
        omega
    · rw [hf] at h
      simp [stepR] at h
theorem rinss_all {l : List (Int × Int × Int)} {k : Nat} (h : (rinss l k).2 = true) : ∀ i, i < k → InsOk (l.getD i (0, 0, 0)) := by
  induction k with
  | zero => intro i hi; omega
  | succ k ih =>
    simp only [rinss, Bool.and_eq_true] at h
    intro i hi
    by_cases he : i = k
    · subst he; exact insOk_of h.2
    · exact ih h.1 i (by omega)
theorem rfuns_all {l : List Fn} {k : Nat} (h : (rfuns l k).2 = true) : ∀ i, i < k → (rfun (l.getD i nofn)).2 = true := by
  induction k with
  | zero => intro i hi; omega
  | succ k ih =>
    simp only [rfuns, Bool.and_eq_true] at h
    intro i hi
    by_cases he : i = k
    · subst he; exact h.2
    · exact ih h.1 i (by omega)
theorem funsOk_of {c : Cd} (h : (renc c).2 = 0) : FunsOk c := by
  have hb : (rbytes c).2 = true := by
    unfold renc at h
    cases hg : (rbytes c).2
    · rw [hg] at h; simp at h
    · rfl
  simp only [rbytes, Bool.and_eq_true] at hb
  intro f hf
  obtain ⟨i, hi, rfl⟩ := List.getElem_of_mem hf
  have hr := rfuns_all hb.2 i hi
  have e : c.funs.getD i nofn = c.funs[i] := by rw [List.getD_eq_getElem?_getD, List.getElem?_eq_getElem hi]; rfl
  rw [e] at hr
  simp only [rfun, Bool.and_eq_true] at hr
  refine ⟨fitsB_iff hr.1.1.1, fun x hx => ?_⟩
  obtain ⟨j, hj, rfl⟩ := List.getElem_of_mem hx
  have := rinss_all hr.2 j hj
  have e2 : c.funs[i].ins.getD j (0, 0, 0) = c.funs[i].ins[j] := by rw [List.getD_eq_getElem?_getD, List.getElem?_eq_getElem hj]; rfl
  rwa [e2] at this

theorem small_funs (ta fa ia : Nat) : FunsOk (smallCd ta fa ia) := by
  intro f hf
  obtain rfl : f = smallFn ia := by simpa [smallCd] using hf
  refine ⟨by simp [smallFn], fun x hx => ?_⟩
  simp [smallFn] at hx
  rcases hx with rfl | rfl <;> simp [InsOk]
theorem small_chk (ta fa ia : Nat) : chkB (smallCd ta fa ia) = (0, 0) := by kernel_rfl
theorem pchk_small (ta fa ia : Nat) (w : World) (hS : SignsAt w) (hc : CodeAt w w.heap.size (smallCd ta fa ia)) :
    Calls Tryd.prog 10 #[(smallCd ta fa ia).val] w fun e w' => e = .returned (.agg #[.int .i64 0, .int .i64 0]) ∧ Below w.heap.size w w' :=
  (pchk_any _ w hc hS (small_funs _ _ _) (small_wgt ta fa ia)).mono fun e w' ⟨he, hb⟩ => ⟨by rw [he, small_chk], hb⟩
theorem proper_any (c : Cd) (w : World) (h0 : 0 < w.heap.size) (hc : CodeAt w w.heap.size c) (hw : wgt c ≤ 1048576) :
    Calls Tryd.prog 11 #[c.val] w fun e w' => e = .returned (.bool ((renc c).2 == 0)) ∧ Below w.heap.size w w' := by
  have HC := Lib.hid hc
  obtain ⟨z, hz⟩ : ∃ z, z = (renc c).2 := ⟨_, rfl⟩
  have HZ := Lib.hid hz
  clear hc hz
  unfold Cd.val
  go_enter Tryd.func11, Tryd.ntmps11
  go_wp2_with fail
  refine (renc_any c _ (by simp) (HC.out.later (balloc (Below.refl _ _) _)) hw).mono ?_
  rintro e w1 ⟨rfl, hb1⟩
  rw [← HZ.out]
  generalize (renc c).1 = q at *
  go_wp2_with fail
  go_ret
  exact ⟨by rw [← HZ.out]; rfl, bthen (balloc (Below.refl _ _) _) hb1⟩

/-- what the loads of region 8 read -/
abbrev S4 (bx b : Nat) (c : Cd) (r : Int × Int) (W : World) : Prop :=
  (W.cell? ⟨bx, 0, none⟩ = some (.slice c.ta c.texts.length c.tc) ∧ W.cell? ⟨bx, 1, none⟩ = some (.slice c.fa c.funs.length c.fc)) ∧
  (W.cell? ⟨b, 0, none⟩ = some (.int .i64 r.1) ∧ W.cell? ⟨b, 1, none⟩ = some (.int .i64 r.2))
theorem S4.drew {bx b : Nat} {c : Cd} {r : Int × Int} {W : World} (h : S4 bx b c r W) : S4 bx b c r W.drew := h
theorem S4.below {bx b : Nat} {c : Cd} {r : Int × Int} {W W' : World} (h : S4 bx b c r W) (hb : Below W.heap.size W W') (h1 : bx < W.heap.size) (h2 : b < W.heap.size) : S4 bx b c r W' :=
  ⟨⟨(hb.cell (p := ⟨bx, 0, none⟩) h1).trans h.1.1, (hb.cell (p := ⟨bx, 1, none⟩) h1).trans h.1.2⟩, ⟨(hb.cell (p := ⟨b, 0, none⟩) h2).trans h.2.1, (hb.cell (p := ⟨b, 1, none⟩) h2).trans h.2.2⟩⟩

set_option maxHeartbeats 2000000 in
theorem checks_any (c : Cd) (w : World) (hS : SignsAt w) (hc : CodeAt w w.heap.size c) (hw : wgt c ≤ 1048576) :
    Calls Tryd.prog 4 #[c.val] w fun e w' => e = .returned (.bool true) ∧ Below w.heap.size w w' := by
  have HS := Lib.hid hS
  have HC := Lib.hid hc
  have hbx := heap_alloc_new w (.cells #[.slice c.ta c.texts.length c.tc, .slice c.fa c.funs.length c.fc] 25)
  have HBX := Lib.hid hbx
  clear hS hc hbx
  unfold Cd.val
  go_enter Tryd.func4, Tryd.ntmps4
  go_wp2_with fail
  refine (small_any _).mono ?_
  rintro e w1 ⟨ta, fa, ia, rfl, hcs, hb1⟩
  have hb1' : Below w.heap.size w w1 := bthen (balloc (Below.refl _ _) _) hb1
  have hs1 := hb1.size
  rw [World.size_alloc] at hs1
  have HX1 := Lib.hid (blk_below HBX.out hb1 (by simp))
  have HB1 := Lib.hid hb1'
  clear hb1 hb1'
  go_wp2_with fail
  refine (pchk_small ta fa ia w1 (HS.out.below HB1.out) hcs).mono ?_
  rintro e w2 ⟨rfl, hb2⟩
  have hx2 := blk_below HX1.out hb2 (by omega)
  have a0 : w2.cell? ⟨w.heap.size, 0, none⟩ = some (.slice c.ta c.texts.length c.tc) := blk_cell hx2 0
  have a1 : w2.cell? ⟨w.heap.size, 1, none⟩ = some (.slice c.fa c.funs.length c.fc) := blk_cell hx2 1
  have hs2 := hb2.size
  have lt2 : w.heap.size < w2.heap.size := by omega
  have HX2 := Lib.hid (blk_alloc hx2 (.cells #[.int .i64 0, .int .i64 0] 34))
  have hr2 := heap_alloc_new w2 (.cells #[.int .i64 0, .int .i64 0] 34)
  have HR2 := Lib.hid hr2
  have HB2 := Lib.hid (bthen HB1.out (balloc hb2 (.cells #[.int .i64 0, .int .i64 0] 34)))
  clear hb2 hx2 hcs hr2
  go_wp2_with fail
  refine (proper_any c _ (by simp) (HC.out.later HB2.out) hw).mono ?_
  rintro e w3 ⟨rfl, hb3⟩
  have hb3' := hb3
  have hx3 := blk_below HX2.out hb3 (by simp; omega)
  have hr3 := blk_below HR2.out hb3 (by simp)
  have b0 : w3.cell? ⟨w.heap.size, 0, none⟩ = some (.slice c.ta c.texts.length c.tc) := blk_cell hx3 0
  have b1 : w3.cell? ⟨w.heap.size, 1, none⟩ = some (.slice c.fa c.funs.length c.fc) := blk_cell hx3 1
  have c0 : w3.cell? ⟨w2.heap.size, 0, none⟩ = some (.int .i64 0) := blk_cell hr3 0
  have c1 : w3.cell? ⟨w2.heap.size, 1, none⟩ = some (.int .i64 0) := blk_cell hr3 1
  have hs3 := hb3.size
  rw [World.size_alloc] at hs3
  have lt3 : w.heap.size < w3.heap.size := by omega
  have lt4 : w2.heap.size < w3.heap.size := by omega
  have HB3 := Lib.hid (bthen HB2.out hb3)
  have HX3 := Lib.hid hx3
  have HR3 := Lib.hid hr3
  cases hp : ((renc c).2 == 0) with
  | false =>
    clear hb3 hx3 hr3 a0 a1 hb3' hp
    go_wp2_with fail
    go_ret
    exact ⟨rfl, HB3.out⟩
  | true =>
    have hfo : FunsOk c := funsOk_of (by simpa using hp)
    have HFO := Lib.hid hfo
    clear hb3 hx3 hr3 a0 a1 hb3' hfo hp
    go_wp2_with fail
    refine (pchk_any c w3 (HC.out.later HB3.out) (HS.out.below HB3.out) HFO.out hw).mono ?_
    rintro e w4 ⟨rfl, hb4⟩
    have hx4 := blk_below HX3.out hb4 (by omega)
    have hr4 := blk_below HR3.out hb4 (by omega)
    have d0 : w4.cell? ⟨w.heap.size, 0, none⟩ = some (.slice c.ta c.texts.length c.tc) := blk_cell hx4 0
    have d1 : w4.cell? ⟨w.heap.size, 1, none⟩ = some (.slice c.fa c.funs.length c.fc) := blk_cell hx4 1
    have e0 : w4.cell? ⟨w2.heap.size, 0, none⟩ = some (.int .i64 0) := blk_cell hr4 0
    have e1 : w4.cell? ⟨w2.heap.size, 1, none⟩ = some (.int .i64 0) := blk_cell hr4 1
    have f0 : w4.frozen? ⟨w2.heap.size, 0, none⟩ = false := blk_free hr4 0
    have f1 : w4.frozen? ⟨w2.heap.size, 1, none⟩ = false := blk_free hr4 1
    have hs4 := hb4.size
    have HB4 := Lib.hid (bthen HB3.out hb4)
    have lt5 : w.heap.size < w4.heap.size := by omega
    have lt6 : w2.heap.size < w4.heap.size := by omega
    have HX4 := Lib.hid hx4
    have HR4 := Lib.hid hr4
    obtain ⟨cr, hcr⟩ : ∃ cr, cr = chkB c := ⟨_, rfl⟩
    have HCR := Lib.hid hcr
    rw [← hcr]
    clear hb4 hx4 hr4 b0 b1 c0 c1 hcr
    obtain ⟨wz, hwz⟩ : ∃ wz : World, wz = ((w4.setCell ⟨w2.heap.size, 0, none⟩ (.int .i64 cr.1)).setCell ⟨w2.heap.size, 1, none⟩ (.int .i64 cr.2)) := ⟨_, rfl⟩
    have hbz : Below w.heap.size w wz := by rw [hwz]; exact (HB4.out.setCell (by simp; omega) _).setCell (by simp; omega) _
    have hS0 : S4 w.heap.size w2.heap.size c cr wz := by
      have hx5 := blk_set_ne (blk_set_ne HX4.out (by omega : w.heap.size ≠ w2.heap.size) 0 (.int .i64 cr.1)) (by omega : w.heap.size ≠ w2.heap.size) 1 (.int .i64 cr.2)
      have hr5 := blk_set (blk_set HR4.out 0 (.int .i64 cr.1)) 1 (.int .i64 cr.2)
      rw [← hwz] at hx5 hr5
      exact ⟨⟨blk_cell hx5 0, blk_cell hx5 1⟩, ⟨blk_cell hr5 0, blk_cell hr5 1⟩⟩
    have hsz : wz.heap.size = w4.heap.size := by rw [hwz]; simp [World.setCell]
    have HWZ := Lib.hid hwz
    have HBZ := Lib.hid hbz
    have HSZ := Lib.hid hsz
    clear hwz hbz hsz
    go_wp2_with fail
    rw [← HWZ.out]
    have lt7 : w.heap.size < wz.heap.size := by have := HSZ.out; omega
    have lt8 : w2.heap.size < wz.heap.size := by have := HSZ.out; omega
    clear d0 d1 e0 e1 f0 f1
    go_region_held3 (fun w' => S4 w.heap.size w2.heap.size c cr w')
      (repeat (first | exact hS0 | exact hS12 | apply S4.drew))
      ((go_at_call 12; refine (rchk_any c _ (HC.out.later (HBZ.out.drew)) HFO.out hw).mono ?_; rintro e w5 ⟨rfl, hb5⟩; rw [← HCR.out]; have hS12 := (S4.drew hS0).below hb5 lt7 lt8))
    go_wp2_with fail
    all_goals
      go_ret
      exact ⟨by simp, bthen HBZ.out.drew hb5⟩

end Go.Proofs.YtebappmamaafaaaDoor
