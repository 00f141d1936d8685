/-
  Proved: the contract of the document's Bind; the contract of the document's between; the contract of the document's pair; how rows of signs and operands are read, in plain Lean; the sign that binds to the right, in plain Lean; what pair leaves, among what stands. Conditions: the reader as it stands in memory; what it reads within.
-/
import Derived.Test.YthehjeeiodbkjaaGreatDoorE25
import Derived.Test.YthehjeeiodbkjaaGreatDoorE21
set_option linter.unusedSimpArgs false
set_option linter.unusedVariables false
set_option maxRecDepth 100000
set_option maxHeartbeats 16000000
namespace Go.Proofs.YthehjeeiodbkjaaGreatDoor
open Go.RowKit
/-- how tightly a sign binds -/
def bindD (x : ByteArray) : Nat :=
 if x = s_asg then 1 else if x = w_orelse then 2 else if x = w_andalso then 3 else if x = s_eq then 4 else if x = s_ne then 4 else if x = s_lt then 4 else if x = s_le then 4 else if x = s_gt then 4 else if x = s_ge then 4 else if x = s_cons then 5 else if x = s_pl then 6 else if x = s_mi then 6 else if x = s_ca then 6 else if x = s_st then 7 else if x = s_sl then 7 else if x = s_pc then 7 else 0
theorem rbind_any (x : ByteArray) (w : World) : Calls Tryz.prog 112 #[.string x] w fun e w' => e = .returned (.int .i64 (bindD x : Int)) ∧ w' = w := by
 obtain ⟨v, hv⟩ : ∃ v, v = bindD x := ⟨_, rfl⟩
 rw [← hv]
 have HV := lh hv
 clear hv
 go_enter Tryz.func112, Tryz.ntmps112
 by_cases h0 : x.toList = [58, 61]
 · have e0 : (x.toList == [58, 61]) = true := by simp [h0]
   have H0 : Hid (x = s_asg) := lh (ba_eq.1 (h0.trans (by rw [ByteArray.toList_eq])))
   have HE : Hid (v = 1) := lh (by rw [HV.out]; unfold bindD; rw [if_pos H0.out])
   go_wp2_with fail
   go_ret
   exact ⟨by rw [HE.out]; first | rfl | simp, rfl⟩
 have e0 : (x.toList == [58, 61]) = false := by simp [h0]
 have H0 : Hid (¬ x = s_asg) := lh (fun e => h0 (by rw [e, ByteArray.toList_eq]))
 by_cases h1 : x.toList = [111, 114, 101, 108, 115, 101]
 · have e1 : (x.toList == [111, 114, 101, 108, 115, 101]) = true := by simp [h1]
   have H1 : Hid (x = w_orelse) := lh (ba_eq.1 (h1.trans (by rw [ByteArray.toList_eq])))
   have HE : Hid (v = 2) := lh (by rw [HV.out]; unfold bindD; rw [if_neg (H0.out), if_pos H1.out])
   go_wp2_with fail
   go_ret
   exact ⟨by rw [HE.out]; first | rfl | simp, rfl⟩
 have e1 : (x.toList == [111, 114, 101, 108, 115, 101]) = false := by simp [h1]
 have H1 : Hid (¬ x = w_orelse) := lh (fun e => h1 (by rw [e, ByteArray.toList_eq]))
 by_cases h2 : x.toList = [97, 110, 100, 97, 108, 115, 111]
 · have e2 : (x.toList == [97, 110, 100, 97, 108, 115, 111]) = true := by simp [h2]
   have H2 : Hid (x = w_andalso) := lh (ba_eq.1 (h2.trans (by rw [ByteArray.toList_eq])))
   have HE : Hid (v = 3) := lh (by rw [HV.out]; unfold bindD; rw [if_neg (H0.out), if_neg (H1.out), if_pos H2.out])
   go_wp2_with fail
   go_ret
   exact ⟨by rw [HE.out]; first | rfl | simp, rfl⟩
 have e2 : (x.toList == [97, 110, 100, 97, 108, 115, 111]) = false := by simp [h2]
 have H2 : Hid (¬ x = w_andalso) := lh (fun e => h2 (by rw [e, ByteArray.toList_eq]))
 by_cases h3 : x.toList = [61]
 · have e3 : (x.toList == [61]) = true := by simp [h3]
   have H3 : Hid (x = s_eq) := lh (ba_eq.1 (h3.trans (by rw [ByteArray.toList_eq])))
   have HE : Hid (v = 4) := lh (by rw [HV.out]; unfold bindD; rw [if_neg (H0.out), if_neg (H1.out), if_neg (H2.out), if_pos H3.out])
   go_wp2_with fail
   go_ret
   exact ⟨by rw [HE.out]; first | rfl | simp, rfl⟩
 have e3 : (x.toList == [61]) = false := by simp [h3]
 have H3 : Hid (¬ x = s_eq) := lh (fun e => h3 (by rw [e, ByteArray.toList_eq]))
 by_cases h4 : x.toList = [60, 62]
 · have e4 : (x.toList == [60, 62]) = true := by simp [h4]
   have H4 : Hid (x = s_ne) := lh (ba_eq.1 (h4.trans (by rw [ByteArray.toList_eq])))
   have HE : Hid (v = 4) := lh (by rw [HV.out]; unfold bindD; rw [if_neg (H0.out), if_neg (H1.out), if_neg (H2.out), if_neg (H3.out), if_pos H4.out])
   go_wp2_with fail
   go_ret
   exact ⟨by rw [HE.out]; first | rfl | simp, rfl⟩
 have e4 : (x.toList == [60, 62]) = false := by simp [h4]
 have H4 : Hid (¬ x = s_ne) := lh (fun e => h4 (by rw [e, ByteArray.toList_eq]))
 by_cases h5 : x.toList = [60]
 · have e5 : (x.toList == [60]) = true := by simp [h5]
   have H5 : Hid (x = s_lt) := lh (ba_eq.1 (h5.trans (by rw [ByteArray.toList_eq])))
   have HE : Hid (v = 4) := lh (by rw [HV.out]; unfold bindD; rw [if_neg (H0.out), if_neg (H1.out), if_neg (H2.out), if_neg (H3.out), if_neg (H4.out), if_pos H5.out])
   go_wp2_with fail
   go_ret
   exact ⟨by rw [HE.out]; first | rfl | simp, rfl⟩
 have e5 : (x.toList == [60]) = false := by simp [h5]
 have H5 : Hid (¬ x = s_lt) := lh (fun e => h5 (by rw [e, ByteArray.toList_eq]))
 by_cases h6 : x.toList = [60, 61]
 · have e6 : (x.toList == [60, 61]) = true := by simp [h6]
   have H6 : Hid (x = s_le) := lh (ba_eq.1 (h6.trans (by rw [ByteArray.toList_eq])))
   have HE : Hid (v = 4) := lh (by rw [HV.out]; unfold bindD; rw [if_neg (H0.out), if_neg (H1.out), if_neg (H2.out), if_neg (H3.out), if_neg (H4.out), if_neg (H5.out), if_pos H6.out])
   go_wp2_with fail
   go_ret
   exact ⟨by rw [HE.out]; first | rfl | simp, rfl⟩
 have e6 : (x.toList == [60, 61]) = false := by simp [h6]
 have H6 : Hid (¬ x = s_le) := lh (fun e => h6 (by rw [e, ByteArray.toList_eq]))
 by_cases h7 : x.toList = [62]
 · have e7 : (x.toList == [62]) = true := by simp [h7]
   have H7 : Hid (x = s_gt) := lh (ba_eq.1 (h7.trans (by rw [ByteArray.toList_eq])))
   have HE : Hid (v = 4) := lh (by rw [HV.out]; unfold bindD; rw [if_neg (H0.out), if_neg (H1.out), if_neg (H2.out), if_neg (H3.out), if_neg (H4.out), if_neg (H5.out), if_neg (H6.out), if_pos H7.out])
   go_wp2_with fail
   go_ret
   exact ⟨by rw [HE.out]; first | rfl | simp, rfl⟩
 have e7 : (x.toList == [62]) = false := by simp [h7]
 have H7 : Hid (¬ x = s_gt) := lh (fun e => h7 (by rw [e, ByteArray.toList_eq]))
 by_cases h8 : x.toList = [62, 61]
 · have e8 : (x.toList == [62, 61]) = true := by simp [h8]
   have H8 : Hid (x = s_ge) := lh (ba_eq.1 (h8.trans (by rw [ByteArray.toList_eq])))
   have HE : Hid (v = 4) := lh (by rw [HV.out]; unfold bindD; rw [if_neg (H0.out), if_neg (H1.out), if_neg (H2.out), if_neg (H3.out), if_neg (H4.out), if_neg (H5.out), if_neg (H6.out), if_neg (H7.out), if_pos H8.out])
   go_wp2_with fail
   go_ret
   exact ⟨by rw [HE.out]; first | rfl | simp, rfl⟩
 have e8 : (x.toList == [62, 61]) = false := by simp [h8]
 have H8 : Hid (¬ x = s_ge) := lh (fun e => h8 (by rw [e, ByteArray.toList_eq]))
 by_cases h9 : x.toList = [58, 58]
 · have e9 : (x.toList == [58, 58]) = true := by simp [h9]
   have H9 : Hid (x = s_cons) := lh (ba_eq.1 (h9.trans (by rw [ByteArray.toList_eq])))
   have HE : Hid (v = 5) := lh (by rw [HV.out]; unfold bindD; rw [if_neg (H0.out), if_neg (H1.out), if_neg (H2.out), if_neg (H3.out), if_neg (H4.out), if_neg (H5.out), if_neg (H6.out), if_neg (H7.out), if_neg (H8.out), if_pos H9.out])
   go_wp2_with fail
   go_ret
   exact ⟨by rw [HE.out]; first | rfl | simp, rfl⟩
 have e9 : (x.toList == [58, 58]) = false := by simp [h9]
 have H9 : Hid (¬ x = s_cons) := lh (fun e => h9 (by rw [e, ByteArray.toList_eq]))
 by_cases h10 : x.toList = [43]
 · have e10 : (x.toList == [43]) = true := by simp [h10]
   have H10 : Hid (x = s_pl) := lh (ba_eq.1 (h10.trans (by rw [ByteArray.toList_eq])))
   have HE : Hid (v = 6) := lh (by rw [HV.out]; unfold bindD; rw [if_neg (H0.out), if_neg (H1.out), if_neg (H2.out), if_neg (H3.out), if_neg (H4.out), if_neg (H5.out), if_neg (H6.out), if_neg (H7.out), if_neg (H8.out), if_neg (H9.out), if_pos H10.out])
   go_wp2_with fail
   go_ret
   exact ⟨by rw [HE.out]; first | rfl | simp, rfl⟩
 have e10 : (x.toList == [43]) = false := by simp [h10]
 have H10 : Hid (¬ x = s_pl) := lh (fun e => h10 (by rw [e, ByteArray.toList_eq]))
 by_cases h11 : x.toList = [45]
 · have e11 : (x.toList == [45]) = true := by simp [h11]
   have H11 : Hid (x = s_mi) := lh (ba_eq.1 (h11.trans (by rw [ByteArray.toList_eq])))
   have HE : Hid (v = 6) := lh (by rw [HV.out]; unfold bindD; rw [if_neg (H0.out), if_neg (H1.out), if_neg (H2.out), if_neg (H3.out), if_neg (H4.out), if_neg (H5.out), if_neg (H6.out), if_neg (H7.out), if_neg (H8.out), if_neg (H9.out), if_neg (H10.out), if_pos H11.out])
   go_wp2_with fail
   go_ret
   exact ⟨by rw [HE.out]; first | rfl | simp, rfl⟩
 have e11 : (x.toList == [45]) = false := by simp [h11]
 have H11 : Hid (¬ x = s_mi) := lh (fun e => h11 (by rw [e, ByteArray.toList_eq]))
 by_cases h12 : x.toList = [94]
 · have e12 : (x.toList == [94]) = true := by simp [h12]
   have H12 : Hid (x = s_ca) := lh (ba_eq.1 (h12.trans (by rw [ByteArray.toList_eq])))
   have HE : Hid (v = 6) := lh (by rw [HV.out]; unfold bindD; rw [if_neg (H0.out), if_neg (H1.out), if_neg (H2.out), if_neg (H3.out), if_neg (H4.out), if_neg (H5.out), if_neg (H6.out), if_neg (H7.out), if_neg (H8.out), if_neg (H9.out), if_neg (H10.out), if_neg (H11.out), if_pos H12.out])
   go_wp2_with fail
   go_ret
   exact ⟨by rw [HE.out]; first | rfl | simp, rfl⟩
 have e12 : (x.toList == [94]) = false := by simp [h12]
 have H12 : Hid (¬ x = s_ca) := lh (fun e => h12 (by rw [e, ByteArray.toList_eq]))
 by_cases h13 : x.toList = [42]
 · have e13 : (x.toList == [42]) = true := by simp [h13]
   have H13 : Hid (x = s_st) := lh (ba_eq.1 (h13.trans (by rw [ByteArray.toList_eq])))
   have HE : Hid (v = 7) := lh (by rw [HV.out]; unfold bindD; rw [if_neg (H0.out), if_neg (H1.out), if_neg (H2.out), if_neg (H3.out), if_neg (H4.out), if_neg (H5.out), if_neg (H6.out), if_neg (H7.out), if_neg (H8.out), if_neg (H9.out), if_neg (H10.out), if_neg (H11.out), if_neg (H12.out), if_pos H13.out])
   go_wp2_with fail
   go_ret
   exact ⟨by rw [HE.out]; first | rfl | simp, rfl⟩
 have e13 : (x.toList == [42]) = false := by simp [h13]
 have H13 : Hid (¬ x = s_st) := lh (fun e => h13 (by rw [e, ByteArray.toList_eq]))
 by_cases h14 : x.toList = [47]
 · have e14 : (x.toList == [47]) = true := by simp [h14]
   have H14 : Hid (x = s_sl) := lh (ba_eq.1 (h14.trans (by rw [ByteArray.toList_eq])))
   have HE : Hid (v = 7) := lh (by rw [HV.out]; unfold bindD; rw [if_neg (H0.out), if_neg (H1.out), if_neg (H2.out), if_neg (H3.out), if_neg (H4.out), if_neg (H5.out), if_neg (H6.out), if_neg (H7.out), if_neg (H8.out), if_neg (H9.out), if_neg (H10.out), if_neg (H11.out), if_neg (H12.out), if_neg (H13.out), if_pos H14.out])
   go_wp2_with fail
   go_ret
   exact ⟨by rw [HE.out]; first | rfl | simp, rfl⟩
 have e14 : (x.toList == [47]) = false := by simp [h14]
 have H14 : Hid (¬ x = s_sl) := lh (fun e => h14 (by rw [e, ByteArray.toList_eq]))
 by_cases h15 : x.toList = [37]
 · have e15 : (x.toList == [37]) = true := by simp [h15]
   have H15 : Hid (x = s_pc) := lh (ba_eq.1 (h15.trans (by rw [ByteArray.toList_eq])))
   have HE : Hid (v = 7) := lh (by rw [HV.out]; unfold bindD; rw [if_neg (H0.out), if_neg (H1.out), if_neg (H2.out), if_neg (H3.out), if_neg (H4.out), if_neg (H5.out), if_neg (H6.out), if_neg (H7.out), if_neg (H8.out), if_neg (H9.out), if_neg (H10.out), if_neg (H11.out), if_neg (H12.out), if_neg (H13.out), if_neg (H14.out), if_pos H15.out])
   go_wp2_with fail
   go_ret
   exact ⟨by rw [HE.out]; first | rfl | simp, rfl⟩
 have e15 : (x.toList == [37]) = false := by simp [h15]
 have H15 : Hid (¬ x = s_pc) := lh (fun e => h15 (by rw [e, ByteArray.toList_eq]))
 have HE : Hid (v = 0) := lh (by rw [HV.out]; unfold bindD; rw [if_neg (H0.out), if_neg (H1.out), if_neg (H2.out), if_neg (H3.out), if_neg (H4.out), if_neg (H5.out), if_neg (H6.out), if_neg (H7.out), if_neg (H8.out), if_neg (H9.out), if_neg (H10.out), if_neg (H11.out), if_neg (H12.out), if_neg (H13.out), if_neg (H14.out), if_neg (H15.out)])
 go_wp2_with fail
 go_ret
 exact ⟨by rw [HE.out]; first | rfl | simp, rfl⟩
/-- a sign of this level comes next -/
def betb (P : Src) (k : Nat) (s : RS) : Bool := oneb P (lvL (8 - k)) s
theorem bind_lv {x : ByteArray} {k : Nat} (hk : 1 ≤ k ∧ k ≤ 7) : ((lvL (8 - k)).any fun s => decide (x = s)) = decide (bindD x = k) := by
 obtain rfl | rfl | rfl | rfl | rfl | rfl | rfl : k = 1 ∨ k = 2 ∨ k = 3 ∨ k = 4 ∨ k = 5 ∨ k = 6 ∨ k = 7 := by omega
 all_goals
  unfold bindD
  by_cases h0 : x = s_asg
  · subst h0; decide
  by_cases h1 : x = w_orelse
  · subst h1; decide
  by_cases h2 : x = w_andalso
  · subst h2; decide
  by_cases h3 : x = s_eq
  · subst h3; decide
  by_cases h4 : x = s_ne
  · subst h4; decide
  by_cases h5 : x = s_lt
  · subst h5; decide
  by_cases h6 : x = s_le
  · subst h6; decide
  by_cases h7 : x = s_gt
  · subst h7; decide
  by_cases h8 : x = s_ge
  · subst h8; decide
  by_cases h9 : x = s_cons
  · subst h9; decide
  by_cases h10 : x = s_pl
  · subst h10; decide
  by_cases h11 : x = s_mi
  · subst h11; decide
  by_cases h12 : x = s_ca
  · subst h12; decide
  by_cases h13 : x = s_st
  · subst h13; decide
  by_cases h14 : x = s_sl
  · subst h14; decide
  by_cases h15 : x = s_pc
  · subst h15; decide
  rw [if_neg h0, if_neg h1, if_neg h2, if_neg h3, if_neg h4, if_neg h5, if_neg h6, if_neg h7, if_neg h8, if_neg h9, if_neg h10, if_neg h11, if_neg h12, if_neg h13, if_neg h14, if_neg h15]
  simp [lvL, *]
theorem rbetween_any (E : Env) (w : World) (s : RS) (d k : Nat) (hk : 1 ≤ k ∧ k ≤ 7) (h : Rr E w s d) : Calls Tryz.prog 186 #[pr E, .int .i64 (k : Int)] w fun e w' => e = .returned (.string (if betb E.P k s = true then E.P.T s.i else ⟨#[]⟩)) ∧ Rr E w' (if betb E.P k s = true then stp s else s) d ∧ w.grownBy w' (some E.rb) := by
 have HNOW := lh (rnow_any E w s d h)
 have H := lh h
 have hi9 : s.i ≤ 100000 := Nat.le_trans h.le h.ok.len
 have HBI : Hid (∀ w1, Calls Tryz.prog 112 #[.string (E.P.T s.i)] w1 fun e w' => e = .returned (.int .i64 (bindD (E.P.T s.i) : Int)) ∧ w' = w1) := lh (fun w1 => rbind_any _ w1)
 obtain ⟨q, hq⟩ : ∃ q, q = bindD (E.P.T s.i) := ⟨_, rfl⟩
 rw [← hq] at HBI
 obtain ⟨b, hb⟩ : ∃ b, b = betb E.P k s := ⟨_, rfl⟩
 rw [← hb]
 obtain ⟨rv, hrv⟩ : ∃ rv : ByteArray, rv = if b = true then E.P.T s.i else ⟨#[]⟩ := ⟨_, rfl⟩
 obtain ⟨rs, hrs⟩ : ∃ rs : RS, rs = if b = true then stp s else s := ⟨_, rfl⟩
 rw [← hrv, ← hrs]
 have HRV := lh hrv
 have HRS := lh hrs
 clear hrv hrs
 have HB : Hid (b = (decide (s.k = 0) && (decide (E.P.K s.i = 6 ∨ E.P.K s.i = 7) && decide (q = k)))) := lh (by rw [hb, hq, ← bind_lv hk]; rfl)
 unfold tkVal at HNOW
 unfold pr at HNOW ⊢
 clear h hb hq hk
 go_enter Tryz.func186, Tryz.ntmps186
 go_upto_region 2 with (first | (go_at_call 102; refine HNOW.out.mono ?_; rintro e w1 ⟨rfl, hb1⟩; have HB1 := lh hb1; clear hb1))
 obtain ⟨W, hW⟩ : ∃ W, W = w1.alloc (.cells #[.int .i64 (E.P.K s.i), .int .i64 (E.P.A s.i : Int), .string (E.P.T s.i), .int .i64 (E.P.N s.i : Int)] 59) := ⟨_, rfl⟩
 obtain ⟨hbW, hrW⟩ := tok_box hW HB1.out
 rw [← hW]
 obtain ⟨c0, c1, c2, c3⟩ := tok_cells hrW
 have hR := H.out.keep hbW
 obtain ⟨⟨r0, r1, r2, r3, r4, r5, r6⟩, ⟨z1, z4, z5, z6⟩⟩ := hR.cells
 replace r3 : W.cell? ⟨E.rb, 2 + 1, none⟩ = some (.int .i64 (E.P.fa : Int)) := r3
 have z5b : W.frozen? ⟨E.rb, 4 + 1, none⟩ = false := z5
 have r5b : W.cell? ⟨E.rb, 4 + 1, none⟩ = some (.int .i64 (s.a : Int)) := r5
 have HR := lh hR
 have HBW := lh hbW
 have n1 : ¬ (w1.heap.size = E.rb) := by have := H.out.ltr; have := HB1.out.size; omega
 have n2 : ¬ (E.rb = w1.heap.size) := fun e => n1 e.symm
 clear hW hbW hrW hR
 by_cases hs : s.k = 0
 · have e1 : ((s.k : Int) != 0) = false := by simp [hs]
   have HS := lh hs
   clear hs
   by_cases h6 : E.P.K s.i = 6
   · have e6 : (E.P.K s.i != 6) = false := by simp [h6]
     have HK : Hid (E.P.K s.i = 6 ∨ E.P.K s.i = 7) := lh (.inl h6)
     clear h6
     by_cases hq : q = k
     · have e9 : ((q : Int) != (k : Int)) = false := by simp [hq]
       have HQ := lh hq
       have HE : Hid (b = true) := lh (by rw [HB.out]; simp [HS.out, HK.out, hq])
       clear hq
       go_wp2_with (first | (go_at_call 112; refine (HBI.out _).mono ?_; rintro e w2 ⟨rfl, rfl⟩))
       go_ret
       have hst := HR.out.step1 (by have := HK.out; omega)
       exact ⟨by rw [HRV.out, HE.out, if_pos rfl]; rfl, by rw [HRS.out, HE.out, if_pos rfl]; exact hst, gr_trans (gr_below HBW.out _) (gr_set _ _ _ _)⟩
     · have e9 : ((q : Int) != (k : Int)) = true := by simp; omega
       have HE : Hid (b = false) := lh (by rw [HB.out]; simp [hq])
       clear hq
       go_wp2_with (first | (go_at_call 112; refine (HBI.out _).mono ?_; rintro e w2 ⟨rfl, rfl⟩))
       go_ret
       exact ⟨by rw [HRV.out, HE.out, if_neg Bool.false_ne_true]; rfl, by rw [HRS.out, HE.out, if_neg Bool.false_ne_true]; exact HR.out, gr_below HBW.out _⟩
   · have e6 : (E.P.K s.i != 6) = true := by simp [h6]
     by_cases h7 : E.P.K s.i = 7
     · have e7 : (E.P.K s.i != 7) = false := by simp [h7]
       have HK : Hid (E.P.K s.i = 6 ∨ E.P.K s.i = 7) := lh (.inr h7)
       clear h6 h7
       by_cases hq : q = k
       · have e9 : ((q : Int) != (k : Int)) = false := by simp [hq]
         have HQ := lh hq
         have HE : Hid (b = true) := lh (by rw [HB.out]; simp [HS.out, HK.out, hq])
         clear hq
         go_wp2_with (first | (go_at_call 112; refine (HBI.out _).mono ?_; rintro e w2 ⟨rfl, rfl⟩))
         go_ret
         have hst := HR.out.step1 (by have := HK.out; omega)
         exact ⟨by rw [HRV.out, HE.out, if_pos rfl]; rfl, by rw [HRS.out, HE.out, if_pos rfl]; exact hst, gr_trans (gr_below HBW.out _) (gr_set _ _ _ _)⟩
       · have e9 : ((q : Int) != (k : Int)) = true := by simp; omega
         have HE : Hid (b = false) := lh (by rw [HB.out]; simp [hq])
         clear hq
         go_wp2_with (first | (go_at_call 112; refine (HBI.out _).mono ?_; rintro e w2 ⟨rfl, rfl⟩))
         go_ret
         exact ⟨by rw [HRV.out, HE.out, if_neg Bool.false_ne_true]; rfl, by rw [HRS.out, HE.out, if_neg Bool.false_ne_true]; exact HR.out, gr_below HBW.out _⟩
     · have e7 : (E.P.K s.i != 7) = true := by simp [h7]
       have HE : Hid (b = false) := lh (by rw [HB.out]; simp [h6, h7])
       clear h6 h7
       go_wp2_with fail
       go_ret
       exact ⟨by rw [HRV.out, HE.out, if_neg Bool.false_ne_true]; rfl, by rw [HRS.out, HE.out, if_neg Bool.false_ne_true]; exact HR.out, gr_below HBW.out _⟩
 · have e1 : ((s.k : Int) != 0) = true := by simp [hs]
   have HE : Hid (b = false) := lh (by rw [HB.out]; simp [hs])
   clear hs
   go_wp2_with fail
   go_ret
   exact ⟨by rw [HRV.out, HE.out, if_neg Bool.false_ne_true]; rfl, by rw [HRS.out, HE.out, if_neg Bool.false_ne_true]; exact HR.out, gr_below HBW.out _⟩
theorem rpair_any (s : ByteArray) (a b : Ty) (ao bo : Option Addr) (ca cb : Nat) (w : World) : Calls Tryz.prog 187 #[.string s, .agg (rowOf a ao ca), .agg (rowOf b bo cb)] w (JoinP w s a b ao bo ca cb) := by
 obtain ⟨W1, hW1⟩ : ∃ W1, W1 = w.alloc (.cells (rowOf a ao ca) 26) := ⟨_, rfl⟩
 obtain ⟨W2, hW2⟩ : ∃ W2, W2 = W1.alloc (.cells (rowOf b bo cb) 26) := ⟨_, rfl⟩
 obtain ⟨W, hW⟩ : ∃ W, W = W2.alloc (.cells zeroRow 26) := ⟨_, rfl⟩
 have s1 : W1.heap.size = w.heap.size + 1 := by rw [hW1, World.size_alloc]
 have s2 : W2.heap.size = w.heap.size + 1 + 1 := by rw [hW2, World.size_alloc, s1]
 have s3 : W.heap.size = w.heap.size + 3 := by rw [hW, World.size_alloc, s2]
 have hb1 : Below w.heap.size w W1 := by rw [hW1]; exact balloc (Below.refl _ _) _
 have hb2 : Below w.heap.size w W2 := by rw [hW2]; exact balloc hb1 _
 have hb : Below w.heap.size w W := by rw [hW]; exact balloc hb2 _
 have r0 : W.heap[w.heap.size]? = some (.cells (rowOf a ao ca) 26 (0, 0)) := by rw [hW]; refine blk_alloc ?_ _; rw [hW2]; refine blk_alloc ?_ _; rw [hW1]; exact heap_alloc_new w _
 have r1 : W.heap[w.heap.size + 1]? = some (.cells (rowOf b bo cb) 26 (0, 0)) := by rw [hW]; refine blk_alloc ?_ _; rw [hW2, ← s1]; exact heap_alloc_new W1 _
 have r2 : W.heap[w.heap.size + 1 + 1]? = some (.cells zeroRow 26 (0, 0)) := by rw [hW, ← s2]; exact heap_alloc_new W2 _
 obtain ⟨rb, hrb⟩ : ∃ rb, rb = w.heap.size + 1 + 1 := ⟨_, rfl⟩
 obtain ⟨pb, hpb⟩ : ∃ pb, pb = w.heap.size + 1 := ⟨_, rfl⟩
 rw [← hpb] at r1
 rw [← hrb] at r2
 have HPB := lh hpb
 have HRB := lh hrb
 have HBW := lh hb
 have HR2 := lh r2
 have HS := lh s3
 have HNODE : Hid (∀ (k a : Int) (ao : Option Addr) (n cap : Nat) (w1 : World), Calls Tryz.prog 54 #[.int .i64 k, .int .i64 a, .slice ao n cap] w1 fun e w' => e = .returned (.agg #[.int .i64 k, .int .i64 a, .string ⟨#[]⟩, .int .i64 0, .slice ao n cap]) ∧ Below w1.heap.size w1 w') := lh rnode_any
 have hWW : W = ((w.alloc (.cells (rowOf a ao ca) 26)).alloc (.cells (rowOf b bo cb) 26)).alloc (.cells zeroRow 26) := by rw [hW, hW2, hW1]
 unfold rowOf at r0 r1
 obtain ⟨⟨c0, c1, c2, c3, c4⟩, -⟩ := five_cells r0
 obtain ⟨⟨d0, d1, d2, d3, d4⟩, -⟩ := five_cells r1
 unfold zeroRow rowOf at hWW
 have HWW := lh hWW
 unfold rowOf
 have n1 : ¬ (w.heap.size = W.heap.size) := by omega
 have n2 : ¬ (pb = W.heap.size) := by omega
 clear hpb hrb hW hW1 hW2 hb1 hb2 hb s1 s2 s3 r0 r1 r2 hWW
 go_enter Tryz.func187, Tryz.ntmps187
 go_upto_region 1 with fail
 rw [← HWW.out, ← HRB.out, ← HPB.out]
 clear HWW
 obtain ⟨A, hA⟩ : ∃ A, A = W.alloc (.cells (twoRow a b ao bo ca cb) 26) := ⟨_, rfl⟩
 have rA : A.heap[W.heap.size]? = some (.cells (twoRow a b ao bo ca cb) 26 (0, 0)) := by rw [hA]; exact heap_alloc_new W _
 have bA : Below W.heap.size W A := by rw [hA]; exact balloc (Below.refl _ _) _
 have HRA := lh rA
 have HBA := lh bA
 unfold twoRow at hA
 have HA := lh hA
 clear hA rA bA
 go_upto_region 2 with (first | (go_at_call 54; rw [← HA.out]; refine (HNODE.out _ _ _ _ _ A).mono ?_; rintro e w2 ⟨rfl, hb2⟩; have HB2 := lh hb2; clear hb2))
 obtain ⟨V, hV⟩ : ∃ V, V = w2.alloc (.cells #[.int .i64 18, .int .i64 a.n, .string ⟨#[]⟩, .int .i64 0, .slice (some ⟨W.heap.size, 0, none⟩) 2 2] 26) := ⟨_, rfl⟩
 have hsz : W.heap.size < A.heap.size := lt_of_block HRA.out
 have hsz2 := HB2.out.size
 have hbV : Below w2.heap.size w2 V := by rw [hV]; exact balloc (Below.refl _ _) _
 have bV : Below w.heap.size w V := ((HBW.out.trans (HBA.out.mono HBW.out.size)).trans (HB2.out.mono (by have := HS.out; have := HRB.out; omega))).trans (hbV.mono (by have := HS.out; have := HRB.out; omega))
 have rg : V.heap[W.heap.size]? = some (.cells (twoRow a b ao bo ca cb) 26 (0, 0)) := blk_below (blk_below HRA.out HB2.out hsz) hbV (by omega)
 have rr : V.heap[rb]? = some (.cells zeroRow 26 (0, 0)) := blk_below (blk_below (blk_below HR2.out HBA.out (by have := HS.out; have := HRB.out; omega)) HB2.out (by have := HS.out; have := HRB.out; omega)) hbV (by have := HS.out; have := HRB.out; omega)
 have rn : V.heap[w2.heap.size]? = some (.cells #[.int .i64 18, .int .i64 a.n, .string ⟨#[]⟩, .int .i64 0, .slice (some ⟨W.heap.size, 0, none⟩) 2 2] 26 (0, 0)) := by rw [hV]; exact heap_alloc_new w2 _
 obtain ⟨nb, hnb⟩ : ∃ nb, nb = w2.heap.size := ⟨_, rfl⟩
 have m1 : ¬ (nb = rb) := by have := HS.out; have := HRB.out; omega
 have m2 : ¬ (rb = nb) := by have := HS.out; have := HRB.out; omega
 have m3 : nb ≠ W.heap.size := by omega
 have M3 := lh m3
 have HNB : Hid (w.heap.size ≤ nb) := lh (by have := HS.out; have := HRB.out; omega)
 rw [← hV]
 rw [← hnb] at rn ⊢
 have HBV := lh bV
 have HRG := lh rg
 have HRR := lh rr
 have hrr := rr
 unfold zeroRow at hrr
 obtain ⟨⟨e0, e1, e2, e3, e4⟩, ⟨z0, z1, z2, z3, z4⟩⟩ := five_cells rn
 obtain ⟨⟨x0, x1, x2, x3, x4⟩, ⟨y0, y1, y2, y3, y4⟩⟩ := five_cells hrr
 clear hV hbV bV rg rr rn hnb hsz hsz2 hrr m3 c0 c1 c2 c3 c4 d0 d1 d2 d3 d4 n1 n2
 have FIN : ∀ (k : Int) (u : ByteArray) (U : World), joinD s a b = .mk k a.n u 0 [a, b] → Below w.heap.size w U → U.heap[rb]? = some (.cells zeroRow 26 (0, 0)) → U.heap[W.heap.size]? = some (.cells (twoRow a b ao bo ca cb) 26 (0, 0)) → TB (set5 U (rb) (.mk k a.n u 0 [a, b]) (some ⟨W.heap.size, 0, none⟩) 2) (rb) (.mk k a.n u 0 [a, b]) (some ⟨W.heap.size, 0, none⟩) 2 ∧ JoinP w s a b ao bo ca cb (.returned (.agg (rowOf (.mk k a.n u 0 [a, b]) (some ⟨W.heap.size, 0, none⟩) 2))) (set5 U (rb) (.mk k a.n u 0 [a, b]) (some ⟨W.heap.size, 0, none⟩) 2) := by
  intro k u U hj hU h0 hg
  unfold zeroRow at h0
  have hs := HS.out
  have hrb := HRB.out
  refine ⟨TB.set h0 _ _ _, W.heap.size, by omega, by rw [hj], below_set5 hU (by omega), set5_ne hg (by omega)⟩
 have ONE : ∀ (U : World) (q : Nat) (x : Value), Below w.heap.size w U ∧ U.heap[rb]? = some (.cells zeroRow 26 (0, 0)) ∧ U.heap[W.heap.size]? = some (.cells (twoRow a b ao bo ca cb) 26 (0, 0)) → Below w.heap.size w (U.setCell ⟨nb, q, none⟩ x) ∧ (U.setCell ⟨nb, q, none⟩ x).heap[rb]? = some (.cells zeroRow 26 (0, 0)) ∧ (U.setCell ⟨nb, q, none⟩ x).heap[W.heap.size]? = some (.cells (twoRow a b ao bo ca cb) 26 (0, 0)) := fun U q x h => ⟨h.1.setCell (p := ⟨nb, q, none⟩) HNB.out x, blk_set_ne h.2.1 m2 q x, blk_set_ne h.2.2 (fun e => M3.out e.symm) q x⟩
 have HV0 := ONE V 2 (.string s) ⟨HBV.out, HRR.out, HRG.out⟩
 have HV2 := fun (k : Int) => ONE _ 2 (.string ⟨#[]⟩) (ONE _ 0 (.int .i64 k) HV0)
 have HFIN := lh FIN
 have HW0 := lh HV0
 have HW2 := lh HV2
 clear FIN ONE HV0 HV2
 by_cases ha : s = w_andalso
 · have e5 : (s.toList == [97, 110, 100, 97, 108, 115, 111]) = true := by rw [← tl_andalso, str_eqB]; exact decide_eq_true ha
   have e6 : s.toList = [97, 110, 100, 97, 108, 115, 111] := by rw [← tl_andalso]; exact ba_eq.2 ha
   have e7 : (s.toList == [111, 114, 101, 108, 115, 101]) = false := by rw [e6]; decide
   obtain ⟨f1, f2⟩ := HFIN.out 16 ⟨#[]⟩ _ (by rw [ha]; rfl) (HW2.out 16).1 (HW2.out 16).2.1 (HW2.out 16).2.2
   have H1 := lh f1
   have H2 := lh f2
   clear f1 f2 ha
   go_wp2_with fail
   exact bodyPost_ret (res_ty rfl rfl H1.out) rfl H2.out
 · have e5 : (s.toList == [97, 110, 100, 97, 108, 115, 111]) = false := by rw [← tl_andalso, str_eqB]; exact decide_eq_false ha
   by_cases ho : s = w_orelse
   · have e7 : (s.toList == [111, 114, 101, 108, 115, 101]) = true := by rw [← tl_orelse, str_eqB]; exact decide_eq_true ho
     have e6 : s.toList = [111, 114, 101, 108, 115, 101] := by rw [← tl_orelse]; exact ba_eq.2 ho
     obtain ⟨f1, f2⟩ := HFIN.out 17 ⟨#[]⟩ _ (by rw [ho]; rfl) (HW2.out 17).1 (HW2.out 17).2.1 (HW2.out 17).2.2
     have H1 := lh f1
     have H2 := lh f2
     clear f1 f2 ha ho
     go_wp2_with fail
     exact bodyPost_ret (res_ty rfl rfl H1.out) rfl H2.out
   · have e7 : (s.toList == [111, 114, 101, 108, 115, 101]) = false := by rw [← tl_orelse, str_eqB]; exact decide_eq_false ho
     obtain ⟨f1, f2⟩ := HFIN.out 18 s _ (by unfold joinD; rw [if_neg ha, if_neg ho]) HW0.out.1 HW0.out.2.1 HW0.out.2.2
     have H1 := lh f1
     have H2 := lh f2
     clear f1 f2 ha ho
     go_wp2_with fail
     exact bodyPost_ret (res_ty rfl rfl H1.out) rfl H2.out
theorem rcolL_at (P : Src) (k : Nat) (item : M Ty) (f : Nat) (acc : List (ByteArray × Ty)) (i : Nat) : colL P k item (f + 1) acc i = if (acc.length = 0 ∨ neverB k = false) ∧ oneD P (lvL k) i = true then (item >>= fun x => colL P k item f (acc ++ [(P.T i, x)])) (i + 1) else .ok acc i := rfl
theorem oneD_lt9 {P : Src} {l : List ByteArray} {i : Nat} (h : oneD P l i = true) : i < P.toks.length := K_lt (by
 unfold oneD at h
 simp only [Bool.and_eq_true, decide_eq_true_eq] at h
 omega)
/-- a level that goes on: what stood ahead stays ahead; the fuel is enough -/
theorem colL_acc (P : Src) {k : Nat} (hk : neverB k = false) (item : M Ty) (hst : ∀ i x j, item i = .ok x j → i + 1 ≤ j) : ∀ (f f2 : Nat) (acc : List (ByteArray × Ty)) (i : Nat), P.toks.length ≤ i + f → P.toks.length ≤ i + f2 → colL P k item f acc i = (colL P k item f2 [] >>= fun l => (ret (acc ++ l) : M _)) i
 | f, f2, acc, i, h1, h2 => by
  by_cases hc : oneD P (lvL k) i = true
  · have hlt := oneD_lt9 hc
    obtain ⟨f, rfl⟩ : ∃ f', f = f' + 1 := ⟨f - 1, by omega⟩
    obtain ⟨f2, rfl⟩ : ∃ f', f2 = f' + 1 := ⟨f2 - 1, by omega⟩
    show _ = bnd (colL P k item (f2 + 1) []) _ i
    unfold bnd
    rw [rcolL_at, rcolL_at, if_pos ⟨.inr hk, hc⟩, if_pos ⟨.inr hk, hc⟩]
    cases hx : item (i + 1) with
    | bad a b => rw [bind_bad hx, bind_bad hx]
    | ok x j =>
     rw [bind_ok hx, bind_ok hx]
     have hj := hst _ _ _ hx
     rw [colL_acc P hk item hst f P.toks.length (acc ++ [(P.T i, x)]) j (by omega) (by omega), colL_acc P hk item hst f2 P.toks.length ([] ++ [(P.T i, x)]) j (by omega) (by omega)]
     have e9 : ∀ acc' : List (ByteArray × Ty), (colL P k item P.toks.length [] >>= fun l => (ret (acc' ++ l) : M _)) j = match colL P k item P.toks.length [] j with | Res.bad a b => Res.bad a b | Res.ok l m => Res.ok (acc' ++ l) m := fun acc' => by
      show bnd (colL P k item P.toks.length []) _ j = _
      unfold bnd
      cases colL P k item P.toks.length [] j <;> rfl
     rw [e9, e9]
     cases colL P k item P.toks.length [] j with
     | bad a b => rfl
     | ok l m =>
      show Res.ok _ m = Res.ok _ m
      simp
  · have e : ∀ f acc, colL P k item f acc i = .ok acc i := fun f acc => by
     cases f with
     | zero => rfl
     | succ f => rw [rcolL_at, if_neg (fun h => hc h.2)]
    show _ = bnd (colL P k item f2 []) _ i
    unfold bnd
    rw [e, e]
    show Res.ok acc i = Res.ok (acc ++ []) i
    rw [List.append_nil]
termination_by f f2 acc i => P.toks.length - i
theorem bet3_step {P : Src} {R : Rec} (hst : ∀ i x j, betB P R 2 i = .ok x j → i + 1 ≤ j) {a : Ty} {s : RS} {T : Res Ty} (hT : T = rn (colL P 3 (betB P R 2) (P.toks.length + 1) [] >>= fun l => (ret (foldR a l) : M Ty)) s) (hs : s.k = 0) (h : oneD P (lvL 3) s.i = true) : T = rn (betB P R 3 >>= fun b => (ret (joinD (P.T s.i) a b) : M Ty)) (stp s) := by
 rw [rn_good hs] at hT
 rw [rn_good (s := stp s) hs, hT]
 show bnd (colL P 3 (betB P R 2) (P.toks.length + 1) []) _ s.i = bnd (betB P R 3) _ (s.i + 1)
 have hb : betB P R 3 (s.i + 1) = bnd (betB P R 2) (fun x => colL P 3 (betB P R 2) (P.toks.length + 1) [] >>= fun l => (ret (foldR x l) : M Ty)) (s.i + 1) := rfl
 unfold bnd
 rw [hb, rcolL_at, if_pos ⟨.inl rfl, h⟩]
 unfold bnd
 cases hx : betB P R 2 (s.i + 1) with
 | bad k c => rw [bind_bad hx]
 | ok x j =>
  rw [bind_ok hx]
  have hj := hst _ _ _ hx
  rw [colL_acc P (k := 3) rfl (betB P R 2) hst P.toks.length (P.toks.length + 1) ([] ++ [(P.T s.i, x)]) j (by omega) (by omega)]
  have e9 : ∀ (β : Type) (F : List (ByteArray × Ty) → β), (colL P 3 (betB P R 2) (P.toks.length + 1) [] >>= fun l => (ret (F l) : M β)) j = match colL P 3 (betB P R 2) (P.toks.length + 1) [] j with | Res.bad k c => Res.bad k c | Res.ok l m => Res.ok (F l) m := fun β F => by
   show bnd (colL P 3 (betB P R 2) (P.toks.length + 1) []) _ j = _
   unfold bnd
   cases colL P 3 (betB P R 2) (P.toks.length + 1) [] j <;> rfl
  rw [e9 _ (fun l => [] ++ [(P.T s.i, x)] ++ l)]
  dsimp only
  rw [e9 _ (fun l => foldR x l)]
  cases colL P 3 (betB P R 2) (P.toks.length + 1) [] j <;> rfl
theorem col_head {P : Src} {j : Nat} {item : M Ty} {f : Nat} {acc : List (ByteArray × Ty)} {a : Ty} {T : Res Ty} {s : RS} (hT : T = rn (colL P j item f acc >>= fun l => (ret (foldLd a l) : M Ty)) s) (hf : s.k = 0 → P.toks.length < s.i + f) (hle : s.i ≤ P.toks.length) (ha : acc.length = 0 ∨ neverB j = false) : ∃ f', T = (if oneb P (lvL j) s = true then rn (item >>= fun x => colL P j item f' (acc ++ [(P.T s.i, x)]) >>= fun l => (ret (foldLd a l) : M Ty)) (stp s) else rn (ret (foldLd a acc) : M Ty) s) ∧ (s.k = 0 → P.toks.length ≤ s.i + f') := by
 by_cases hs : s.k = 0
 · have h1 := hf hs
   obtain ⟨f, rfl⟩ : ∃ f', f = f' + 1 := ⟨f - 1, by omega⟩
   refine ⟨f, ?_, fun _ => by omega⟩
   have e : oneb P (lvL j) s = oneD P (lvL j) s.i := by unfold oneb; rw [decide_eq_true hs, Bool.true_and]
   rw [e, hT, rn_good hs]
   show bnd (colL P j item (f + 1) acc) _ s.i = _
   unfold bnd
   rw [rcolL_at]
   by_cases h : oneD P (lvL j) s.i = true
   · rw [if_pos ⟨ha, h⟩, if_pos h, rn_good (s := stp s) hs]
     exact congrFun (bind_assoc' item (fun x => colL P j item f (acc ++ [(P.T s.i, x)])) (fun l => (ret (foldLd a l) : M Ty))) (s.i + 1)
   · rw [if_neg (fun h9 => h h9.2), if_neg h, rn_good hs]
 · refine ⟨0, ?_, fun h => absurd h hs⟩
   have e : oneb P (lvL j) s = false := by unfold oneb; rw [decide_eq_false hs, Bool.false_and]
   rw [e, if_neg Bool.false_ne_true, hT, rn_lost hs, rn_lost hs]
theorem Kd.pair {w wk : World} {X : Nat → Prop} {x y : Ty} {ao bo : Option Addr} {c d q : Nat} (hr : wk.heap[q]? = some (.cells (twoRow x y ao bo c d) 26 (0, 0))) (hq : Nw w wk X q) (h1 : Kd w wk X x.args ao c) (h2 : Kd w wk X y.args bo d) : Kd w wk X [x, y] (some ⟨q, 0, none⟩) 2 := by
 refine ⟨Nat.le_refl _, ArgsV.of fun k hk => ?_⟩
 have hk2 : k = 0 ∨ k = 1 := by simp at hk; omega
 rcases hk2 with rfl | rfl
 · exact ⟨_, 0, (rowOf x ao c).toList, rfl, hq, fun j hj => by
    rw [blk_cell hr, show 0 + (0 + 0) * 5 + j = j from by omega]
    obtain rfl | rfl | rfl | rfl | rfl : j = 0 ∨ j = 1 ∨ j = 2 ∨ j = 3 ∨ j = 4 := by omega
    all_goals rfl, TyV.mk' h1⟩
 · exact ⟨_, 0, (rowOf y bo d).toList, rfl, hq, fun j hj => by
    rw [blk_cell hr, show 0 + (0 + 1) * 5 + j = j + 5 from by omega]
    obtain rfl | rfl | rfl | rfl | rfl : j = 0 ∨ j = 1 ∨ j = 2 ∨ j = 3 ∨ j = 4 := by omega
    all_goals rfl, TyV.mk' h2⟩
theorem rjoinD_args (s : ByteArray) (a b : Ty) : (joinD s a b).args = [a, b] := by
 unfold joinD
 split
 · rfl
 · split <;> rfl
theorem join_kd {w w1 w2 : World} {X : Nat → Prop} {rb g : Nat} {s : ByteArray} {a b : Ty} {ao bo : Option Addr} {ca cb : Nat} (hb : Below w1.heap.size w1 w2) (hg : w1.heap.size ≤ g) (hr : w2.heap[g]? = some (.cells (twoRow a b ao bo ca cb) 26 (0, 0))) (hl : w.heap.size < w1.heap.size) (hx : ∀ q, X q → q < w1.heap.size) (hrb : rb < w.heap.size) (h1 : Kd w w1 X a.args ao ca) (h2 : Kd w w1 X b.args bo cb) : Kd w w2 X (joinD s a b).args (some ⟨g, 0, none⟩) 2 := by
 rw [rjoinD_args]
 exact Kd.pair hr ⟨by omega, lt_of_block hr, fun h => by have := hx g h; omega⟩ (h1.gr (gr_below hb (some rb)) hrb) (h2.gr (gr_below hb (some rb)) hrb)
end Go.Proofs.YthehjeeiodbkjaaGreatDoor
