/-
  Proved: the contracts of the document's one, starts, enters, leaves, Node, begun, begins; the contract of the document's path; Proved: what stands while the document's reader reads on. No condition.. Conditions: the reader as it stands in memory; what the reader reads within.
-/
import Derived.Test.YthehjeeiodbkjaaGreatDoorE24
import Derived.Test.YthehjeeiodbkjaaGreatDoorE03
set_option linter.unusedSimpArgs false
set_option linter.unusedVariables false
set_option maxRecDepth 100000
set_option maxHeartbeats 16000000
namespace Go.Proofs.YthehjeeiodbkjaaGreatDoor
open Go.RowKit
theorem among_one (P : Src) (l : List ByteArray) (i : Nat) : oneD P l i = (decide (P.K i = 6 ∨ P.K i = 7) && amongD l (P.T i)) := by
 unfold oneD amongD
 congr 2
 funext x
 exact decide_eq_decide.2 eq_comm
theorem rone_any (E : Env) (w : World) (s : RS) (d : Nat) (l : List ByteArray) (q n : Nat) (hnl : n = l.length) (h : Rr E w s d) (hq : StrsAt w q l) (hqs : q < w.heap.size) (hn : l.length ≤ 4000) : Calls Tryz.prog 104 #[pr E, .slice (some ⟨q, 0, none⟩) n n] w fun e w' => e = .returned (.bool (oneb E.P l s)) ∧ Below w.heap.size w w' := by
 subst hnl
 have HNOW := lh (rnow_any E w s d h)
 have H := lh h
 have HAM : Hid (∀ w1, Below w.heap.size w w1 → Calls Tryz.prog 143 #[.slice (some ⟨q, 0, none⟩) l.length l.length, .string (E.P.T s.i)] w1 fun e w' => e = .returned (.bool (amongD l (E.P.T s.i))) ∧ w1 = w') := lh (fun w1 hb => among_any l q (E.P.T s.i) w1 (fun k hk => (hb.cell (p := ⟨q, k, none⟩) hqs).trans (hq k hk)) hn)
 obtain ⟨b, hb⟩ : ∃ b, b = oneb E.P l s := ⟨_, rfl⟩
 rw [← hb]
 have HB := lh hb
 obtain ⟨am, ham⟩ : ∃ am, am = amongD l (E.P.T s.i) := ⟨_, rfl⟩
 rw [← ham] at HAM
 have HAMD := lh ham
 unfold tkVal at HNOW
 unfold pr at HNOW ⊢
 clear h hb hq hqs ham
 go_enter Tryz.func104, Tryz.ntmps104
 go_upto_region 2 with (first | (go_at_call 102; refine HNOW.out.mono ?_; rintro e w1 ⟨rfl, hb1⟩; have HB1 := lh hb1; clear hb1))
 obtain ⟨W, hW⟩ : ∃ W, W = w1.alloc (.cells #[.int .i64 (E.P.K s.i), .int .i64 (E.P.A s.i : Int), .string (E.P.T s.i), .int .i64 (E.P.N s.i : Int)] 59) := ⟨_, rfl⟩
 obtain ⟨hbW, hrW⟩ := tok_box hW HB1.out
 rw [← hW]
 obtain ⟨c0, c1, c2, c3⟩ := tok_cells hrW
 have hR := H.out.keep hbW
 obtain ⟨⟨r0, r1, r2, r3, r4, r5, r6⟩, ⟨z1, z4, z5, z6⟩⟩ := hR.cells
 replace r3 : W.cell? ⟨E.rb, 2 + 1, none⟩ = some (.int .i64 (E.P.fa : Int)) := r3
 have z5b : W.frozen? ⟨E.rb, 4 + 1, none⟩ = false := z5
 have r5b : W.cell? ⟨E.rb, 4 + 1, none⟩ = some (.int .i64 (s.a : Int)) := r5
 have HR := lh hR
 have HBW := lh hbW
 have HRW := lh hrW
 have n1 : ¬ (w1.heap.size = E.rb) := by have := H.out.ltr; have := HB1.out.size; omega
 have n2 : ¬ (E.rb = w1.heap.size) := fun e => n1 e.symm
 clear hW hbW hrW hR
 have HAW := lh (HAM.out W HBW.out)
 go_upto_region 3 with (first | (go_at_call 143; refine HAW.out.mono ?_; rintro e w2 ⟨rfl, rfl⟩))
 have hdef : b = (decide (s.k = 0) && (decide (E.P.K s.i = 6 ∨ E.P.K s.i = 7) && am)) := by rw [HB.out, HAMD.out]; unfold oneb; rw [among_one]
 have HDEF := lh hdef
 clear hdef
 by_cases hs : s.k = 0
 · have e1 : ((s.k : Int) == 0) = true := by simp [hs]
   have HS := lh hs
   clear hs
   by_cases h6 : E.P.K s.i = 6
   · have e6 : (E.P.K s.i == 6) = true := by simp [h6]
     have HE : Hid (b = am) := lh (by rw [HDEF.out]; simp [h6, HS.out])
     clear h6
     cases am with
     | true =>
      go_wp2_with fail
      go_ret
      exact ⟨by rw [HE.out]; first | rfl | simp, HBW.out⟩
     | false =>
      go_wp2_with fail
      go_ret
      exact ⟨by rw [HE.out]; first | rfl | simp, HBW.out⟩
   · have e6 : (E.P.K s.i == 6) = false := by simp [h6]
     by_cases h7 : E.P.K s.i = 7
     · have e7 : (E.P.K s.i == 7) = true := by simp [h7]
       have HE : Hid (b = am) := lh (by rw [HDEF.out]; simp [h7, HS.out])
       clear h6 h7
       cases am with
       | true =>
        go_wp2_with fail
        go_ret
        exact ⟨by rw [HE.out]; first | rfl | simp, HBW.out⟩
       | false =>
        go_wp2_with fail
        go_ret
        exact ⟨by rw [HE.out]; first | rfl | simp, HBW.out⟩
     · have e7 : (E.P.K s.i == 7) = false := by simp [h7]
       have HE : Hid (b = false) := lh (by rw [HDEF.out]; simp [h6, h7])
       clear h6 h7
       go_wp2_with fail
       go_ret
       exact ⟨by rw [HE.out]; first | rfl | simp, HBW.out⟩
 · have e1 : ((s.k : Int) == 0) = false := by simp [hs]
   have HE : Hid (b = false) := lh (by rw [HDEF.out]; simp [hs])
   clear hs
   go_wp2_with fail
   go_ret
   exact ⟨by rw [HE.out]; first | rfl | simp, HBW.out⟩
/-- one, of a list just made -/
theorem rone_new (E : Env) (w w1 : World) (s : RS) (d : Nat) (l : List ByteArray) (c : Array Value) (n : Nat) (hc : c = (l.map Value.string).toArray) (hn : n = l.length) (h4 : l.length ≤ 4000) (h : Rr E w s d) (hw : w1 = w.alloc (.cells c 9)) : Calls Tryz.prog 104 #[pr E, .slice (some ⟨w.heap.size, 0, none⟩) n n] w1 fun e w' => e = .returned (.bool (oneb E.P l s)) ∧ Below w.heap.size w w' := by
 have hb : Below w.heap.size w w1 := by rw [hw]; exact balloc (Below.refl _ _) _
 have hs : w.heap.size < w1.heap.size := by rw [hw, World.size_alloc]; omega
 exact (rone_any E w1 s d l w.heap.size n hn (h.keep hb) (by rw [hw]; exact strs_new w l c 9 hc) hs h4).mono fun e w' h1 => ⟨h1.1, hb.trans (h1.2.mono (Nat.le_of_lt hs))⟩
theorem rstarts_any (k : Nat) (hk : k < 3) (w : World) : Calls Tryz.prog 105 #[.int .i64 (k : Int)] w fun e w' => e = .returned (.slice (some ⟨w.heap.size, 0, none⟩) (startsL k).length (startsL k).length) ∧ w' = w.alloc (.cells ((startsL k).map Value.string).toArray 9) := by
 obtain rfl | rfl | rfl : k = 0 ∨ k = 1 ∨ k = 2 := by omega
 · go_enter Tryz.func105, Tryz.ntmps105
   go_wp2_with fail
   go_ret
   exact ⟨rfl, rfl⟩
 · go_enter Tryz.func105, Tryz.ntmps105
   go_wp2_with fail
   go_ret
   exact ⟨rfl, rfl⟩
 · go_enter Tryz.func105, Tryz.ntmps105
   go_wp2_with fail
   go_ret
   exact ⟨rfl, rfl⟩
/-- is the next one of those that begin declarations? -/
theorem rone_starts (E : Env) (w : World) (s : RS) (d k : Nat) (h : Rr E w s d) : Calls Tryz.prog 104 #[pr E, .slice (some ⟨w.heap.size, 0, none⟩) (startsL k).length (startsL k).length] (w.alloc (.cells ((startsL k).map Value.string).toArray 9)) fun e w' => e = .returned (.bool (oneb E.P (startsL k) s)) ∧ Below w.heap.size w w' :=
 rone_new E w _ s d (startsL k) _ _ rfl rfl (by unfold startsL; split; · decide
                                                · split <;> decide) h rfl
/-- what enters leaves -/
def entS (P : Src) (d : Nat) (s : RS) : RS := if 60 ≤ d then noS P 5 s else s
theorem renters_any (E : Env) (w : World) (s : RS) (d : Nat) (hd : d ≤ 60) (h : Rr E w s d) : Calls Tryz.prog 106 #[pr E] w fun e w' => e = .returned (.bool (decide ((entS E.P d s).k = 0))) ∧ Rr E w' (entS E.P d s) (d + 1) ∧ w.grownBy w' (some E.rb) := by
 have H := lh h
 have HNO : Hid (Calls Tryz.prog 103 #[pr E, .int .i64 5] w fun en w' => (∃ v, en = .returned v) ∧ Rr E w' (noS E.P 5 s) d ∧ w.grownBy w' (some E.rb)) := lh (rno_any E w s d 5 h)
 obtain ⟨⟨r0, r1, r2, r3, r4, r5, r6⟩, ⟨z1, z4, z5, z6⟩⟩ := h.cells
 have HNB := lh (h.no_bad (e := 5) (by decide))
 obtain ⟨s2, hs2⟩ : ∃ s2, s2 = noS E.P 5 s := ⟨_, rfl⟩
 rw [← hs2] at HNO HNB
 have HS2 := lh hs2
 obtain ⟨t, ht⟩ : ∃ t, t = entS E.P d s := ⟨_, rfl⟩
 rw [← ht]
 have HT : Hid (t = if 60 ≤ d then s2 else s) := lh (by rw [ht, hs2]; rfl)
 unfold pr at HNO ⊢
 clear h hs2 ht
 go_enter Tryz.func106, Tryz.ntmps106
 by_cases hd6 : 60 ≤ d
 · have e1 : decide ((d : Int) ≥ 60) = true := by simp; omega
   have e2 : (60 : Int) ≤ (d : Int) := by omega
   have HT2 : Hid (t = s2) := lh (HT.out.trans (if_pos hd6))
   clear r0 r1 r2 r3 r4 r5 z1 z4 z5 z6
   go_upto_region 3 with (first | (go_at_call 103; refine HNO.out.mono ?_; rintro e w1 ⟨⟨v, rfl⟩, hr1, hg1⟩; have HR1 := lh hr1; have HG1 := lh hg1; obtain ⟨⟨r0, r1, r2, r3, r4, r5, r6⟩, ⟨z1, z4, z5, z6⟩⟩ := hr1.cells; clear hr1 hg1))
   have e3 : ((s2.k : Int) == 0) = false := by have := HNB.out; simp; omega
   go_wp2_with fail
   go_ret
   refine ⟨?_, ?_, gr_trans HG1.out (gr_set _ _ _ _)⟩
   · rw [HT2.out, decide_eq_false HNB.out]
     first | rfl | simp
   · rw [HT2.out]
     have := HR1.out.setd (d' := d + 1) (by omega)
     simpa using this
 · have e1 : decide ((d : Int) ≥ 60) = false := by simp; omega
   have e2 : ¬ (60 : Int) ≤ (d : Int) := by omega
   have HT2 : Hid (t = s) := lh (HT.out.trans (if_neg hd6))
   by_cases hs : s.k = 0
   · have e3 : ((s.k : Int) == 0) = true := by simp [hs]
     have HS := lh hs
     clear hs
     go_wp2_with fail
     go_ret
     refine ⟨?_, ?_, gr_set _ _ _ _⟩
     · rw [HT2.out, decide_eq_true HS.out]
       first | rfl | simp
     · rw [HT2.out]
       have := H.out.setd (d' := d + 1) (by omega)
       simpa using this
   · have e3 : ((s.k : Int) == 0) = false := by simp [hs]
     have HS := lh hs
     clear hs
     go_wp2_with fail
     go_ret
     refine ⟨?_, ?_, gr_set _ _ _ _⟩
     · rw [HT2.out, decide_eq_false HS.out]
       first | rfl | simp
     · rw [HT2.out]
       have := H.out.setd (d' := d + 1) (by omega)
       simpa using this
theorem rleaves_any (E : Env) (w : World) (s : RS) (d : Nat) (h : Rr E w s (d + 1)) : Calls Tryz.prog 108 #[pr E] w fun e w' => (∃ v, e = .returned v) ∧ Rr E w' s d ∧ w.grownBy w' (some E.rb) := by
 have H := lh h
 have hd := h.d61
 obtain ⟨⟨r0, r1, r2, r3, r4, r5, r6⟩, ⟨z1, z4, z5, z6⟩⟩ := h.cells
 unfold pr
 clear h
 go_enter Tryz.func108, Tryz.ntmps108
 go_wp2_with fail
 first | go_end0 | refine bodyPost_ret (results_none rfl _ _ _) rfl ?_
 refine ⟨⟨_, rfl⟩, ?_, gr_set _ _ _ _⟩
 have h1 := H.out.setd (d' := d) (by omega)
 have e : (((d + 1 : Nat) : Int) - 1) = (d : Int) := by omega
 first | (simpa using h1) | (rw [← e] at h1; simpa using h1)
theorem rnode_any (k a : Int) (ao : Option Addr) (n cap : Nat) (w : World) : Calls Tryz.prog 54 #[.int .i64 k, .int .i64 a, .slice ao n cap] w fun e w' => e = .returned (.agg #[.int .i64 k, .int .i64 a, .string ⟨#[]⟩, .int .i64 0, .slice ao n cap]) ∧ Below w.heap.size w w' := by
 obtain ⟨W, hW⟩ : ∃ W, W = w.alloc (.cells zeroRow 26) := ⟨_, rfl⟩
 have hbW : Below w.heap.size w W := by rw [hW]; exact balloc (Below.refl _ _) _
 have hrW : W.heap[w.heap.size]? = some (.cells zeroRow 26 (0, 0)) := by rw [hW]; exact heap_alloc_new w _
 have HBW := lh hbW
 have HRW := lh hrW
 unfold zeroRow at hW hrW
 obtain ⟨⟨c0, c1, c2, c3, c4⟩, ⟨z0, z1, z2, z3, z4⟩⟩ := five_cells hrW
 clear hbW hrW
 go_enter Tryz.func54, Tryz.ntmps54
 go_upto_region 1 with fail
 rw [← hW]
 clear hW
 go_wp2_with fail
 have hr := HRW.out
 unfold zeroRow at hr
 refine bodyPost_ret (v := .agg #[.int .i64 k, .int .i64 a, .string ⟨#[]⟩, .int .i64 0, .slice ao n cap]) (results_cell_row rfl _ _ w.heap.size 26 _ (0, 0) _ rfl (blk_set (blk_set (blk_set (blk_set (blk_set hr 0 (.int .i64 k)) 1 (.int .i64 a)) 2 (.string ⟨#[]⟩)) 3 (.int .i64 0)) 4 (.slice ao n cap)) Tryz.underlying26 rfl (by kernel_rfl)) rfl ⟨rfl, ?_⟩
 exact ((((HBW.out.setCell (p := ⟨w.heap.size, 0, none⟩) (Nat.le_refl _) _).setCell (p := ⟨w.heap.size, 1, none⟩) (Nat.le_refl _) _).setCell (p := ⟨w.heap.size, 2, none⟩) (Nat.le_refl _) _).setCell (p := ⟨w.heap.size, 3, none⟩) (Nat.le_refl _) _).setCell (p := ⟨w.heap.size, 4, none⟩) (Nat.le_refl _) _
theorem rbegun_any (E : Env) (w : World) (s : RS) (d : Nat) (h : Rr E w s d) : Calls Tryz.prog 180 #[pr E] w fun e w' => e = .returned (.bool (decide (s.k = 0) && begunB E.P s.i)) ∧ Below w.heap.size w w' := by
 have HNOW := lh (rnow_any E w s d h)
 have H := lh h
 have HONE : Hid (∀ w1, Rr E w1 s d → Calls Tryz.prog 104 #[pr E, .slice (some ⟨w1.heap.size, 0, none⟩) 6 6] (w1.alloc (.cells #[.string ⟨#[40]⟩, .string ⟨#[91]⟩, .string ⟨#[126]⟩, .string ⟨#[95]⟩, .string ⟨#[116, 114, 117, 101]⟩, .string ⟨#[102, 97, 108, 115, 101]⟩] 9)) fun e w' => e = .returned (.bool (oneb E.P [s_lp, s_lb, s_ti, s_us, w_true, w_false] s)) ∧ Below w1.heap.size w1 w') := lh (fun w1 h1 => rone_new E w1 _ s d [s_lp, s_lb, s_ti, s_us, w_true, w_false] _ 6 rfl rfl (by decide) h1 rfl)
 obtain ⟨b, hb⟩ : ∃ b, b = (decide (s.k = 0) && begunB E.P s.i) := ⟨_, rfl⟩
 rw [← hb]
 obtain ⟨c, hc⟩ : ∃ c, c = oneb E.P [s_lp, s_lb, s_ti, s_us, w_true, w_false] s := ⟨_, rfl⟩
 rw [← hc] at HONE
 have HB : Hid (b = (decide (s.k = 0) && (decide (1 ≤ E.P.K s.i ∧ E.P.K s.i ≤ 4) || c))) := lh (by rw [hb, hc]; unfold begunB oneb; cases decide (s.k = 0) <;> rfl)
 unfold tkVal at HNOW
 unfold pr at HNOW HONE ⊢
 clear h hb hc
 go_enter Tryz.func180, Tryz.ntmps180
 go_upto_region 2 with (first | (go_at_call 102; refine HNOW.out.mono ?_; rintro e w1 ⟨rfl, hb1⟩; have HB1 := lh hb1; clear hb1))
 obtain ⟨W, hW⟩ : ∃ W, W = w1.alloc (.cells #[.int .i64 (E.P.K s.i), .int .i64 (E.P.A s.i : Int), .string (E.P.T s.i), .int .i64 (E.P.N s.i : Int)] 59) := ⟨_, rfl⟩
 obtain ⟨hbW, hrW⟩ := tok_box hW HB1.out
 rw [← hW]
 obtain ⟨c0, c1, c2, c3⟩ := tok_cells hrW
 have hR := H.out.keep hbW
 obtain ⟨⟨r0, r1, r2, r3, r4, r5, r6⟩, ⟨z1, z4, z5, z6⟩⟩ := hR.cells
 replace r3 : W.cell? ⟨E.rb, 2 + 1, none⟩ = some (.int .i64 (E.P.fa : Int)) := r3
 have z5b : W.frozen? ⟨E.rb, 4 + 1, none⟩ = false := z5
 have r5b : W.cell? ⟨E.rb, 4 + 1, none⟩ = some (.int .i64 (s.a : Int)) := r5
 have HR := lh hR
 have HBW := lh hbW
 have HRW := lh hrW
 have n1 : ¬ (w1.heap.size = E.rb) := by have := H.out.ltr; have := HB1.out.size; omega
 have n2 : ¬ (E.rb = w1.heap.size) := fun e => n1 e.symm
 clear hW hbW hrW hR
 have HOW := lh (HONE.out W HR.out)
 clear r0 r1 r2 r3 r4 r5 r6 z1 z4 z5 z6 r5b z5b c0 c1 c2 c3
 go_upto_region 3 with (first | (go_at_call 104; refine HOW.out.mono ?_; rintro e w2 ⟨rfl, hb2⟩; have HB2 := lh hb2; obtain ⟨⟨r0, r1, r2, r3, r4, r5, r6⟩, -⟩ := (HR.out.keep hb2).cells; clear hb2))
 have HBV := lh (HBW.out.trans (HB2.out.mono HBW.out.size))
 have c0 : w2.cell? ⟨w1.heap.size, 0, none⟩ = some (.int .i64 (E.P.K s.i)) := (HB2.out.cell (p := ⟨w1.heap.size, 0, none⟩) (lt_of_block HRW.out)).trans (blk_cell HRW.out 0)
 by_cases hs : s.k = 0
 · have e1 : ((s.k : Int) == 0) = true := by simp [hs]
   have HB3 : Hid (b = (decide (1 ≤ E.P.K s.i ∧ E.P.K s.i ≤ 4) || c)) := lh (by rw [HB.out, decide_eq_true hs, Bool.true_and])
   clear hs
   by_cases h1 : 1 ≤ E.P.K s.i
   · have e2 : decide (E.P.K s.i ≥ 1) = true := by simp; omega
     by_cases h4 : E.P.K s.i ≤ 4
     · have e3 : decide (E.P.K s.i ≤ 4) = true := by simp; omega
       have HE : Hid (b = true) := lh (by rw [HB3.out, decide_eq_true ⟨h1, h4⟩, Bool.true_or])
       go_wp2_with fail
       go_ret
       exact ⟨by rw [HE.out]; first | rfl | simp, HBV.out⟩
     · have e3 : decide (E.P.K s.i ≤ 4) = false := by simp; omega
       have HE : Hid (b = c) := lh (by rw [HB3.out, decide_eq_false (by omega), Bool.false_or])
       go_wp2_with fail
       go_ret
       exact ⟨by rw [HE.out]; first | rfl | simp, HBV.out⟩
   · have e2 : decide (E.P.K s.i ≥ 1) = false := by simp; omega
     have HE : Hid (b = c) := lh (by rw [HB3.out, decide_eq_false (by omega), Bool.false_or])
     go_wp2_with fail
     go_ret
     exact ⟨by rw [HE.out]; first | rfl | simp, HBV.out⟩
 · have e1 : ((s.k : Int) == 0) = false := by simp [hs]
   have HE : Hid (b = false) := lh (by rw [HB.out]; simp [hs])
   clear hs
   go_wp2_with fail
   go_ret
   exact ⟨by rw [HE.out]; first | rfl | simp, HBV.out⟩
theorem rbegins_any (E : Env) (w : World) (s : RS) (d : Nat) (h : Rr E w s d) : Calls Tryz.prog 201 #[pr E] w fun e w' => e = .returned (.bool (decide (s.k = 0) && beginsB E.P s.i)) ∧ Below w.heap.size w w' := by
 have HNOW := lh (rnow_any E w s d h)
 have H := lh h
 have HONE : Hid (∀ w1, Rr E w1 s d → Calls Tryz.prog 104 #[pr E, .slice (some ⟨w1.heap.size, 0, none⟩) 9 9] (w1.alloc (.cells #[.string ⟨#[40]⟩, .string ⟨#[91]⟩, .string ⟨#[126]⟩, .string ⟨#[33]⟩, .string ⟨#[108, 101, 116]⟩, .string ⟨#[99, 97, 115, 101]⟩, .string ⟨#[116, 114, 121]⟩, .string ⟨#[116, 114, 117, 101]⟩, .string ⟨#[102, 97, 108, 115, 101]⟩] 9)) fun e w' => e = .returned (.bool (oneb E.P [s_lp, s_lb, s_ti, s_ex, w_let, w_case, w_try, w_true, w_false] s)) ∧ Below w1.heap.size w1 w') := lh (fun w1 h1 => rone_new E w1 _ s d [s_lp, s_lb, s_ti, s_ex, w_let, w_case, w_try, w_true, w_false] _ 9 rfl rfl (by decide) h1 rfl)
 obtain ⟨b, hb⟩ : ∃ b, b = (decide (s.k = 0) && beginsB E.P s.i) := ⟨_, rfl⟩
 rw [← hb]
 obtain ⟨c, hc⟩ : ∃ c, c = oneb E.P [s_lp, s_lb, s_ti, s_ex, w_let, w_case, w_try, w_true, w_false] s := ⟨_, rfl⟩
 rw [← hc] at HONE
 have HB : Hid (b = (decide (s.k = 0) && (decide (1 ≤ E.P.K s.i ∧ E.P.K s.i ≤ 4) || c))) := lh (by rw [hb, hc]; unfold beginsB oneb; cases decide (s.k = 0) <;> rfl)
 unfold tkVal at HNOW
 unfold pr at HNOW HONE ⊢
 clear h hb hc
 go_enter Tryz.func201, Tryz.ntmps201
 go_upto_region 2 with (first | (go_at_call 102; refine HNOW.out.mono ?_; rintro e w1 ⟨rfl, hb1⟩; have HB1 := lh hb1; clear hb1))
 obtain ⟨W, hW⟩ : ∃ W, W = w1.alloc (.cells #[.int .i64 (E.P.K s.i), .int .i64 (E.P.A s.i : Int), .string (E.P.T s.i), .int .i64 (E.P.N s.i : Int)] 59) := ⟨_, rfl⟩
 obtain ⟨hbW, hrW⟩ := tok_box hW HB1.out
 rw [← hW]
 obtain ⟨c0, c1, c2, c3⟩ := tok_cells hrW
 have hR := H.out.keep hbW
 obtain ⟨⟨r0, r1, r2, r3, r4, r5, r6⟩, ⟨z1, z4, z5, z6⟩⟩ := hR.cells
 replace r3 : W.cell? ⟨E.rb, 2 + 1, none⟩ = some (.int .i64 (E.P.fa : Int)) := r3
 have z5b : W.frozen? ⟨E.rb, 4 + 1, none⟩ = false := z5
 have r5b : W.cell? ⟨E.rb, 4 + 1, none⟩ = some (.int .i64 (s.a : Int)) := r5
 have HR := lh hR
 have HBW := lh hbW
 have HRW := lh hrW
 have n1 : ¬ (w1.heap.size = E.rb) := by have := H.out.ltr; have := HB1.out.size; omega
 have n2 : ¬ (E.rb = w1.heap.size) := fun e => n1 e.symm
 clear hW hbW hrW hR
 have HOW := lh (HONE.out W HR.out)
 clear r0 r1 r2 r3 r4 r5 r6 z1 z4 z5 z6 r5b z5b c0 c1 c2 c3
 go_upto_region 3 with (first | (go_at_call 104; refine HOW.out.mono ?_; rintro e w2 ⟨rfl, hb2⟩; have HB2 := lh hb2; obtain ⟨⟨r0, r1, r2, r3, r4, r5, r6⟩, -⟩ := (HR.out.keep hb2).cells; clear hb2))
 have HBV := lh (HBW.out.trans (HB2.out.mono HBW.out.size))
 have c0 : w2.cell? ⟨w1.heap.size, 0, none⟩ = some (.int .i64 (E.P.K s.i)) := (HB2.out.cell (p := ⟨w1.heap.size, 0, none⟩) (lt_of_block HRW.out)).trans (blk_cell HRW.out 0)
 by_cases hs : s.k = 0
 · have e1 : ((s.k : Int) == 0) = true := by simp [hs]
   have HB3 : Hid (b = (decide (1 ≤ E.P.K s.i ∧ E.P.K s.i ≤ 4) || c)) := lh (by rw [HB.out, decide_eq_true hs, Bool.true_and])
   clear hs
   by_cases h1 : 1 ≤ E.P.K s.i
   · have e2 : decide (E.P.K s.i ≥ 1) = true := by simp; omega
     by_cases h4 : E.P.K s.i ≤ 4
     · have e3 : decide (E.P.K s.i ≤ 4) = true := by simp; omega
       have HE : Hid (b = true) := lh (by rw [HB3.out, decide_eq_true ⟨h1, h4⟩, Bool.true_or])
       go_wp2_with fail
       go_ret
       exact ⟨by rw [HE.out]; first | rfl | simp, HBV.out⟩
     · have e3 : decide (E.P.K s.i ≤ 4) = false := by simp; omega
       have HE : Hid (b = c) := lh (by rw [HB3.out, decide_eq_false (by omega), Bool.false_or])
       go_wp2_with fail
       go_ret
       exact ⟨by rw [HE.out]; first | rfl | simp, HBV.out⟩
   · have e2 : decide (E.P.K s.i ≥ 1) = false := by simp; omega
     have HE : Hid (b = c) := lh (by rw [HB3.out, decide_eq_false (by omega), Bool.false_or])
     go_wp2_with fail
     go_ret
     exact ⟨by rw [HE.out]; first | rfl | simp, HBV.out⟩
 · have e1 : ((s.k : Int) == 0) = false := by simp [hs]
   have HE : Hid (b = false) := lh (by rw [HB.out]; simp [hs])
   clear hs
   go_wp2_with fail
   go_ret
   exact ⟨by rw [HE.out]; first | rfl | simp, HBV.out⟩
theorem Rr.step1 {E : Env} {w : World} {s : RS} {d : Nat} (h : Rr E w s d) (hk : 1 ≤ E.P.K s.i) : Rr E (w.setCell ⟨E.rb, 1, none⟩ (.int .i64 ((s.i : Int) + 1))) (stp s) d := h.step hk
theorem Rr.pos {E : Env} {w : World} {s : RS} {d : Nat} (h : Rr E w s d) : posOf w E.rb = s.i := by
 unfold posOf
 rw [h.cells.1.2.1]
 rfl
theorem Rr.tsize {E : Env} {w : World} {s : RS} {d : Nat} (h : Rr E w s d) (j : Nat) : (E.P.T j).size ≤ 4000 := by
 by_cases hj : j < E.P.toks.length
 · rw [(Src.at' hj).2.2.1]
   exact (h.ok.tok _ (List.getElem_mem hj)).2.2.2
 · rw [(Src.out' hj).2.2.1]
   decide
theorem rn_path {P : Src} {last f : Nat} {x : ByteArray} {s : RS} {T : Res (ByteArray × Nat)} (h : T = rn (pathL P last (f + 1) x) s) (hs : s.k = 0) : T = if P.K s.i = 3 ∧ last ≠ 4 then .ok (x ++ P.T s.i, 3) (s.i + 1) else if P.K s.i ≠ 4 then failD P 4 s.i else if isD P s_dot (s.i + 1) = true then pathL P last f (x ++ P.T s.i ++ s_dot) (s.i + 2) else if last = 3 then failD P 4 (s.i + 1) else .ok (x ++ P.T s.i, 4) (s.i + 1) := h.trans (rn_good hs)
theorem rpath_any (E : Env) (w : World) (s : RS) (d last : Nat) (h : Rr E w s d) (hl : last ≤ 10) : Calls Tryz.prog 152 #[pr E, .int .i64 (last : Int)] w (RPost E d w (rn (pathD E.P last) s) fun x v _ => v = .tuple #[.string x.1, .int .i64 (x.2 : Int)]) := by
 obtain ⟨T, hT⟩ : ∃ T, T = rn (pathD E.P last) s := ⟨_, rfl⟩
 rw [← hT]
 unfold pathD at hT
 have HT := lh hT
 have H := lh h
 have hN := h.ok.len
 have hi9 := h.le
 have HNOW : Hid (∀ w1 s, Rr E w1 s d → Calls Tryz.prog 102 #[pr E] w1 fun e w' => e = .returned (tkVal E.P s.i) ∧ Below w1.heap.size w1 w') := lh (fun w1 j h1 => rnow_any E w1 j d h1)
 have HNO : Hid (∀ w1 s, Rr E w1 s d → Calls Tryz.prog 103 #[pr E, .int .i64 4] w1 fun en w' => (∃ v, en = .returned v) ∧ Rr E w' (noS E.P 4 s) d ∧ w1.grownBy w' (some E.rb)) := lh (fun w1 j h1 => rno_any E w1 j d 4 h1)
 have HEAT : Hid (∀ w1 s, Rr E w1 s d → Calls Tryz.prog 153 #[pr E, .string ⟨#[46]⟩] w1 fun e w' => e = .returned (.bool (eatb E.P s_dot s)) ∧ Rr E w' (if eatb E.P s_dot s = true then stp s else s) d ∧ w1.grownBy w' (some E.rb)) := lh (fun w1 j h1 => reat_any E w1 j d s_dot h1)
 unfold tkVal at HNOW
 unfold pr at HNOW HNO HEAT ⊢
 obtain ⟨N, hNN⟩ : ∃ N, N = E.P.toks.length := ⟨_, rfl⟩
 rw [← hNN] at HT hN hi9
 have HNN := lh hNN
 clear h hT hNN
 go_enter Tryz.func152, Tryz.ntmps152
 go_wp2_with fail
 go_loopw [6] (fun v wr => ∃ (x : ByteArray) (s : RS) (f : Nat), v = .string x ∧ T = rn (pathL E.P last f x) s ∧ N < s.i + f ∧ x.size ≤ 5000 * s.i ∧ Rr E wr s d ∧ w.grownBy wr (some E.rb)) (fun _ wr => N - posOf wr E.rb)
 case atStart => exact ⟨⟨#[]⟩, s, N + 1, rfl, HT.out, by omega, by show 0 ≤ _; omega, H.out, World.grownBy.refl _ _⟩
 case round =>
  clear hi9
  obtain ⟨x, t, f, rfl, hT, hf, hx, hr, hg⟩ := hrel
  obtain ⟨wo, rfl⟩ : ∃ wo : World, wo = wr := ⟨_, rfl⟩
  have hjN : t.i ≤ N := by rw [HNN.out]; exact hr.le
  obtain ⟨f, rfl⟩ : ∃ f', f = f' + 1 := ⟨f - 1, by omega⟩
  clear HT H
  obtain ⟨s0, hs0⟩ : ∃ s0, s0 = s := ⟨_, rfl⟩
  clear hs0 s0
  have HR := lh hr
  have HG := lh hg
  have HTJ := lh hT
  have hts := hr.tsize t.i
  obtain ⟨⟨r0, r1, r2, r3, r4, r5, r6⟩, ⟨z1, z4, z5, z6⟩⟩ := hr.cells
  clear hr hg hT
  by_cases hs : t.k = 0
  case neg =>
   have e1 : ((t.k : Int) == 0) = false := by simp [hs]
   have HS := lh hs
   clear hs
   go_wp2_with fail
   go_ret2
   exact RPost.ok HG.out (x := (⟨#[]⟩, 0)) (rl_lost HTJ.out HS.out) rfl HR.out
  have e1 : ((t.k : Int) == 0) = true := by simp [hs]
  have HS := lh hs
  have HTK := lh (rn_path HTJ.out hs)
  clear hs
  go_upto_region 4 with (first | (go_at_call 102; refine (HNOW.out wo t HR.out).mono ?_; rintro e w1 ⟨rfl, hb1⟩; have HB1 := lh hb1; clear hb1))
  clear r0 r1 r2 r3 r4 r5 r6 z1 z4 z5 z6
  obtain ⟨W, hW⟩ : ∃ W, W = w1.alloc (.cells #[.int .i64 (E.P.K t.i), .int .i64 (E.P.A t.i : Int), .string (E.P.T t.i), .int .i64 (E.P.N t.i : Int)] 59) := ⟨_, rfl⟩
  obtain ⟨hbW, hrW⟩ := tok_box hW HB1.out
  rw [← hW]
  obtain ⟨c0, c1, c2, c3⟩ := tok_cells hrW
  have hR := HR.out.keep hbW
  obtain ⟨⟨r0, r1, r2, r3, r4, r5, r6⟩, ⟨z1, z4, z5, z6⟩⟩ := hR.cells
  have HRW := lh hR
  have HBW := lh hbW
  have HGW := lh (gr_trans HG.out (gr_below hbW _))
  have HWR := lh hrW
  have n1 : ¬ (w1.heap.size = E.rb) := by have := HR.out.ltr; have := HB1.out.size; omega
  have n2 : ¬ (E.rb = w1.heap.size) := fun e => n1 e.symm
  have q1 : ∀ w' : World, (Op.stringOp .add x (E.P.T t.i)).run Tryz.prog w' = .ok (.string (x ++ E.P.T t.i)) w' := fun w' => run_string_add_sum w' _ _ (by omega)
  clear hW hbW hrW hR
  have step : ∀ V, V = W.setCell ⟨E.rb, 1, none⟩ (.int .i64 ((t.i : Int) + 1)) → 1 ≤ E.P.K t.i → Rr E V (stp t) d ∧ V.heap[w1.heap.size]? = some (.cells #[.int .i64 (E.P.K t.i), .int .i64 (E.P.A t.i : Int), .string (E.P.T t.i), .int .i64 (E.P.N t.i : Int)] 59 (0, 0)) ∧ w.grownBy V (some E.rb) := by
   intro V hV hk
   refine ⟨by rw [hV]; exact HRW.out.step1 hk, by rw [hV]; exact blk_set_ne HWR.out n1 1 _, gr_trans HGW.out (by rw [hV]; exact gr_set _ _ _ _)⟩
  have HSTEP := lh step
  clear step
  by_cases h3 : E.P.K t.i = 3 ∧ last ≠ 4
  · have e1 : (E.P.K t.i == 3) = true := by simp [h3.1]
    have e2 : ((last : Int) != 4) = true := by have := h3.2; simp; omega
    have H3 := lh h3
    clear h3
    go_upto_region 6 with fail
    obtain ⟨V, hV⟩ : ∃ V, V = W.setCell ⟨E.rb, 1, none⟩ (.int .i64 ((t.i : Int) + 1)) := ⟨_, rfl⟩
    rw [← hV]
    obtain ⟨hRV, hrV, hgV⟩ := HSTEP.out V hV (by rw [H3.out.1]; decide)
    have HRV := lh hRV
    have HGV := lh hgV
    clear c0 c1 c2 c3 r0 r1 r2 r3 r4 r5 r6 z1 z4 z5 z6
    obtain ⟨c0, c1, c2, c3⟩ := tok_cells hrV
    clear hV hrV hRV hgV
    go_wp2_with fail
    go_ret2
    have ht := HTK.out
    rw [if_pos H3.out] at ht
    exact RPost.ok HGV.out (x := (x ++ E.P.T t.i, 3)) (s := stp t) ⟨fun _ => ht, fun h => absurd HS.out h⟩ rfl HRV.out
  · by_cases h4 : E.P.K t.i = 4
    · have e4 : (E.P.K t.i != 4) = false := by simp [h4]
      have e3 : (E.P.K t.i == 3) = false := by simp [h4]
      have H3 := lh h3
      have H4 := lh h4
      have q2 : ∀ w' : World, (Op.stringOp .add (x ++ E.P.T t.i) ⟨#[46]⟩).run Tryz.prog w' = .ok (.string (x ++ E.P.T t.i ++ s_dot)) w' := fun w' => run_string_add_sum w' _ _ (by rw [ByteArray.size_append]; show x.size + (E.P.T t.i).size + 1 ≤ _; omega)
      clear h3 h4
      go_upto_region 11 with fail
      obtain ⟨V, hV⟩ : ∃ V, V = W.setCell ⟨E.rb, 1, none⟩ (.int .i64 ((t.i : Int) + 1)) := ⟨_, rfl⟩
      rw [← hV]
      obtain ⟨hRV, hrV, hgV⟩ := HSTEP.out V hV (by rw [H4.out]; decide)
      have HRV := lh hRV
      have HGV := lh hgV
      clear c0 c1 c2 c3 r0 r1 r2 r3 r4 r5 r6 z1 z4 z5 z6
      obtain ⟨c0, c1, c2, c3⟩ := tok_cells hrV
      clear hV hrV hRV hgV
      have HIJ := lh (HEAT.out V (stp t) HRV.out)
      have hbq : eatb E.P s_dot (stp t) = isD E.P s_dot (t.i + 1) := by unfold eatb; rw [decide_eq_true (show (stp t).k = 0 from HS.out), Bool.true_and]; rfl
      rw [hbq] at HIJ
      obtain ⟨b, hb⟩ : ∃ b, b = isD E.P s_dot (t.i + 1) := ⟨_, rfl⟩
      rw [← hb] at HIJ
      have HB := lh hb
      clear hb hbq
      cases b with
      | true =>
       have hl2 : t.i + 2 ≤ N := by rw [HNN.out]; exact isD_lt HB.out.symm
       go_upto_region 14 with (first | (go_at_call 153; refine HIJ.out.mono ?_; rintro e w2 ⟨rfl, hr2, hg2⟩; have HR2 : Hid (Rr E w2 (stp (stp t)) d) := lh (by simpa using hr2); have HG2 := lh hg2; clear hr2 hg2))
       clear c0 c1 c2 c3
       go_wp2_with fail
       go_roundw
       case rel =>
        have ht := HTK.out
        rw [if_neg H3.out, if_neg (by rw [H4.out]; decide), if_pos (by rw [← HB.out])] at ht
        refine ⟨x ++ E.P.T t.i ++ s_dot, stp (stp t), f, rfl, ht.trans (rn_good (s := stp (stp t)) HS.out).symm, by show N < t.i + 1 + 1 + f; omega, ?_, HR2.out, gr_trans HGV.out HG2.out⟩
        rw [ByteArray.size_append, ByteArray.size_append]
        show x.size + (E.P.T t.i).size + 1 ≤ 5000 * (t.i + 1 + 1)
        omega
       case measure =>
        rw [HR.out.pos, HR2.out.pos]
        show N - (t.i + 1 + 1) < N - t.i
        omega
      | false =>
       have HRV2 := HRV
       by_cases h5 : last = 3
       · have e5 : ((last : Int) == 3) = true := by simp; omega
         have H5 := lh h5
         clear h5
         go_wp2_with (first | (go_at_call 153; refine HIJ.out.mono ?_; rintro e w2 ⟨rfl, hr2, hg2⟩; have HR2 : Hid (Rr E w2 (stp t) d) := lh (by simpa using hr2); have HG2 := lh hg2; clear hr2 hg2) | (go_at_call 103; refine (HNO.out w2 (stp t) HR2.out).mono ?_; rintro e w3 ⟨⟨v, rfl⟩, hr3, hg3⟩; have HR3 := lh hr3; have HG3 := lh hg3; clear hr3 hg3))
         go_ret2
         have ht := HTK.out
         rw [if_neg H3.out, if_neg (by rw [H4.out]; decide), if_neg (by rw [← HB.out]; decide), if_pos H5.out] at ht
         refine RPost.ok (gr_trans HGV.out (gr_trans HG2.out HG3.out)) (x := (x ++ E.P.T t.i, 4)) (s := noS E.P 4 (stp t)) ?_ rfl HR3.out
         exact rl_tail (ht.trans (rn_good (s := stp t) HS.out).symm) (HR2.out.no_rl (by decide) _)
       · have e5 : ((last : Int) == 3) = false := by simp; omega
         have H5 := lh h5
         clear h5
         go_wp2_with (first | (go_at_call 153; refine HIJ.out.mono ?_; rintro e w2 ⟨rfl, hr2, hg2⟩; have HR2 : Hid (Rr E w2 (stp t) d) := lh (by simpa using hr2); have HG2 := lh hg2; clear hr2 hg2))
         go_ret2
         have ht := HTK.out
         rw [if_neg H3.out, if_neg (by rw [H4.out]; decide), if_neg (by rw [← HB.out]; decide), if_neg H5.out] at ht
         exact RPost.ok (gr_trans HGV.out HG2.out) (x := (x ++ E.P.T t.i, 4)) (s := stp t) ⟨fun _ => ht, fun h => absurd HS.out h⟩ rfl HR2.out
    · have e4 : (E.P.K t.i != 4) = true := by simp [h4]
      have H3 := lh h3
      have H4 := lh h4
      have HNA := lh (HNO.out W t HRW.out)
      have hend : ∀ w2, Rr E w2 (noS E.P 4 t) d → W.grownBy w2 (some E.rb) → RPost E d w T (fun x v _ => v = .tuple #[.string x.1, .int .i64 (x.2 : Int)]) (.returned (.tuple #[.string ⟨#[]⟩, .int .i64 0])) w2 := by
       intro w2 hr2 hg2
       have ht := HTK.out
       rw [if_neg H3.out, if_pos H4.out] at ht
       refine RPost.ok (gr_trans HGW.out hg2) (x := (⟨#[]⟩, 0)) (s := noS E.P 4 t) ?_ rfl hr2
       exact rl_tail (ht.trans (rn_good HS.out).symm) (HRW.out.no_rl (by decide) _)
      have HEND := lh hend
      clear hend
      by_cases h33 : E.P.K t.i = 3
      · have e3 : (E.P.K t.i == 3) = true := by simp [h33]
        have e5 : ((last : Int) != 4) = false := by
         by_cases hl4 : last = 4
         · simp; omega
         · exact absurd ⟨h33, hl4⟩ h3
        clear h3 h4 h33
        go_wp2_with (first | (go_at_call 103; refine HNA.out.mono ?_; rintro e w2 ⟨⟨v, rfl⟩, hr2, hg2⟩; have HR2 := lh hr2; have HG2 := lh hg2; clear hr2 hg2))
        go_ret2
        exact HEND.out w2 HR2.out HG2.out
      · have e3 : (E.P.K t.i == 3) = false := by simp [h33]
        clear h3 h4 h33
        go_wp2_with (first | (go_at_call 103; refine HNA.out.mono ?_; rintro e w2 ⟨⟨v, rfl⟩, hr2, hg2⟩; have HR2 := lh hr2; have HG2 := lh hg2; clear hr2 hg2))
        go_ret2
        exact HEND.out w2 HR2.out HG2.out
/-- the call's own: the reader, the result's variable -/
structure Fr (E : Env) (w : World) (d : Nat) (wk : World) (s : RS) : Prop where
 R : Rr E wk s d
 G : w.grownBy wk (some E.rb)
 r0 : wk.heap[w.heap.size]? = some (.cells zeroRow 26 (0, 0))
 rb : E.rb < w.heap.size
theorem Fr.lt {E : Env} {w wk : World} {d : Nat} {s : RS} (h : Fr E w d wk s) : w.heap.size < wk.heap.size := lt_of_block h.r0
theorem Fr.start {E : Env} {w W : World} {d : Nat} {s : RS} (h : Rr E w s d) (hW : W = w.alloc (.cells zeroRow 26)) : Fr E w d W s := by
 have hb : Below w.heap.size w W := by rw [hW]; exact balloc (Below.refl _ _) _
 exact ⟨h.keep hb, gr_below hb _, by rw [hW]; exact heap_alloc_new w _, h.ltr⟩
theorem Fr.fin {E : Env} {w wk : World} {d : Nat} {s : RS} {X : Nat → Prop} {x : Ty} {ao : Option Addr} {cap : Nat} (f : Fr E w d wk s) (hB : E.B ≤ w.heap.size) (K : Kd w wk X x.args ao cap) : TB (set5 wk w.heap.size x ao cap) w.heap.size x ao cap ∧ w.grownBy (set5 wk w.heap.size x ao cap) (some E.rb) ∧ Rr E (set5 wk w.heap.size x ao cap) s d ∧ NdQ w x (.agg (rowOf x ao cap)) (set5 wk w.heap.size x ao cap) := by
 have h0 := f.r0
 unfold zeroRow at h0
 have hb : Below w.heap.size wk (set5 wk w.heap.size x ao cap) := below_set5 (Below.refl _ _) (Nat.le_refl _)
 refine ⟨TB.set h0 x ao cap, ?_, f.R.keepB hb hB, ⟨ao, cap, rfl, ?_⟩⟩
 · refine gr_on f.G ⟨hb.os, hb.tape, hb.output, hb.size, fun k hk hne => ?_⟩ (r' := some w.heap.size) (.inr fun g hg => by have := Option.some.inj hg; omega)
   exact set5_ne rfl (fun e => hne (by rw [e]))
 · refine (SlD.keep K fun b hb2 off => World.cell?_of_block (a := ⟨b, off, none⟩) (set5_ne rfl (by have := hb2.1; show b ≠ w.heap.size; omega))).mono fun b hb2 => ⟨Nat.le_of_lt hb2.1, Nat.lt_of_lt_of_le hb2.2.1 hb.size⟩
theorem Fr.grd {E : Env} {w w1 w2 : World} {d d' : Nat} {s s' : RS} (h : Fr E w d w1 s) (hg : w1.grownBy w2 (some E.rb)) (hr : Rr E w2 s' d') : Fr E w d' w2 s' := ⟨hr, gr_trans h.G hg, gr_row hg h.r0 (by have := h.rb; omega), h.rb⟩
theorem Fr.set {E : Env} {w w1 : World} {d nb t : Nat} {s : RS} {row : Array Value} (f : Fr E w d w1 s) (h : Vb w nb t row w1) (hB : E.B ≤ w.heap.size) (k : Nat) (v : Value) : Fr E w d (w1.setCell ⟨nb, k, none⟩ v) s := by
 have hl := h.lt
 have hb : Below w.heap.size w1 (w1.setCell ⟨nb, k, none⟩ v) := (Below.refl w.heap.size w1).setCell (p := ⟨nb, k, none⟩) (Nat.le_of_lt hl) _
 refine ⟨f.R.keepB hb hB, gr_on f.G (gr_set w1 nb k v) (.inr fun g hg => ?_), blk_set_ne f.r0 (by omega) k v, f.rb⟩
 have := Option.some.inj hg
 omega
theorem Fr.own {E : Env} {w A w9 : World} {d : Nat} {s : RS} {X : Nat → Prop} {r : Option Nat} (f : Fr E w d A s) (hB : E.B ≤ w.heap.size) (hg : AppG w A w9 X r) : Fr E w d w9 s := by
 have hlt := f.lt
 have hb := hg.below (Nat.le_of_lt hlt)
 refine ⟨f.R.keepB hb hB, gr_on f.G hg.g (.inr fun g e => Nat.le_of_lt (hg.new g e).1), ?_, f.rb⟩
 rw [hg.g.block w.heap.size hlt (fun e => by have := (hg.new _ e.symm).1; omega)]
 exact f.r0
theorem Fr.step {E : Env} {w wk : World} {d : Nat} {s : RS} (f : Fr E w d wk s) (hk : 1 ≤ E.P.K s.i) : Fr E w d (wk.setCell ⟨E.rb, 1, none⟩ (.int .i64 ((s.i : Int) + 1))) (stp s) := ⟨f.R.step1 hk, gr_on f.G (gr_set wk E.rb 1 _) (.inl rfl), blk_set_ne f.r0 (by have := f.rb; omega) 1 _, f.rb⟩
/-- the call's own: the reader -/
structure Fs (E : Env) (v w : World) (d : Nat) (wk : World) (s : RS) : Prop where
 R : Rr E wk s d
 G : v.grownBy wk (some E.rb)
 lt : w.heap.size < wk.heap.size
 rb : E.rb < w.heap.size
 vw : v.heap.size = w.heap.size + 1
/-- a world of one block less -/
def less (v : World) : World := { v with heap := v.heap.pop }
theorem less_size {v : World} (h : 0 < v.heap.size) : v.heap.size = (less v).heap.size + 1 := by
 show v.heap.size = v.heap.pop.size + 1
 rw [Array.size_pop]
 omega
theorem Fs.start {E : Env} {v : World} {d : Nat} {s : RS} (h : Rr E v s d) (hB : E.B < v.heap.size) : ∃ w, Fs E v w d v s ∧ E.B ≤ w.heap.size := by
 have h1 := less_size (v := v) (by omega)
 have h2 := h.low.1
 exact ⟨less v, ⟨h, World.grownBy.refl _ _, by omega, by omega, h1⟩, by omega⟩
theorem Fs.grd {E : Env} {v w w1 w2 : World} {d d' : Nat} {s s' : RS} (h : Fs E v w d w1 s) (hg : w1.grownBy w2 (some E.rb)) (hr : Rr E w2 s' d') : Fs E v w d' w2 s' := ⟨hr, gr_trans h.G hg, Nat.lt_of_lt_of_le h.lt hg.size, h.rb, h.vw⟩
theorem Fs.set {E : Env} {v w w1 : World} {d nb t : Nat} {s : RS} {row : Array Value} (f : Fs E v w d w1 s) (h : Vb w nb t row w1) (hB : E.B ≤ w.heap.size) (k : Nat) (x : Value) : Fs E v w d (w1.setCell ⟨nb, k, none⟩ x) s := by
 have hl := h.lt
 have hb : Below w.heap.size w1 (w1.setCell ⟨nb, k, none⟩ x) := (Below.refl w.heap.size w1).setCell (p := ⟨nb, k, none⟩) (Nat.le_of_lt hl) _
 refine ⟨f.R.keepB hb hB, gr_on f.G (gr_set w1 nb k x) (.inr fun g hg => ?_), by rw [World.size_setCell]; exact f.lt, f.rb, f.vw⟩
 have := Option.some.inj hg
 have := f.vw
 omega
theorem Fs.own {E : Env} {v w A w9 : World} {d : Nat} {s : RS} {X : Nat → Prop} {r : Option Nat} (f : Fs E v w d A s) (hB : E.B ≤ w.heap.size) (hg : AppG w A w9 X r) : Fs E v w d w9 s := by
 have hlt := f.lt
 have hb := hg.below (Nat.le_of_lt hlt)
 refine ⟨f.R.keepB hb hB, gr_on f.G hg.g (.inr fun g e => by have := (hg.new g e).1; have := f.vw; omega), Nat.lt_of_lt_of_le hlt hg.g.size, f.rb, f.vw⟩
/-- what the four things that go within are known to do, with so many levels left -/
structure RAll (E : Env) (g : Nat) : Prop where
 g60 : g ≤ 60
 exp : ∀ w s, Rr E w s (60 - g) → Calls Tryz.prog 56 #[pr E] w (RPost E (60 - g) w (rn (readS E.P g .exp) s) (NdQ w))
 pat : ∀ w s, Rr E w s (60 - g) → Calls Tryz.prog 57 #[pr E] w (RPost E (60 - g) w (rn (readS E.P g .pat) s) (NdQ w))
 typ : ∀ w s, Rr E w s (60 - g) → Calls Tryz.prog 58 #[pr E] w (RPost E (60 - g) w (rn (readS E.P g .typ) s) (NdQ w))
 sig : ∀ w s, Rr E w s (60 - g) → Calls Tryz.prog 151 #[pr E] w (RPost E (60 - g) w (rn (readS E.P g .sig) s) (NdQ w))
 dec : ∀ g', g = g' + 1 → ∀ w s, Rr E w s (60 - g') → s.k = 0 → oneD E.P (startsL 0) s.i = true → Calls Tryz.prog 107 #[pr E] w (RPost E (60 - g') w (rn (decB E.P (recS E.P g')) s) (NdQ w))
 deep : ∀ g', g = g' + 1 → ∀ w s, Rr E w s (60 - g') → Calls Tryz.prog 56 #[pr E] w (RPost E (60 - g') w (rn (readS E.P g' .exp) s) (NdQ w))
/-- how many rounds are left -/
def leftOf (N : Nat) (w : World) (b : Nat) : Nat := match w.cell? ⟨b, 4, none⟩ with
 | some (.int _ x) => if x = 0 then N - posOf w b + 1 else 0
 | _ => 0
theorem Rr.left {E : Env} {w : World} {s : RS} {d : Nat} (h : Rr E w s d) (N : Nat) : leftOf N w E.rb = if s.k = 0 then N - s.i + 1 else 0 := by
 unfold leftOf
 rw [h.cells.1.2.2.2.2.1, h.pos]
 by_cases hs : s.k = 0
 · rw [if_pos hs, hs]; rfl
 · rw [if_neg hs]
   exact if_neg (by omega)
theorem Ow.q {v w wk : World} {X : Nat → Prop} {x : Value} {l : List Ty} (h : Ow w wk X x l) (hv : v.heap.size = w.heap.size + 1) : OwQ v l x wk := by
 obtain ⟨bs, D, h1, h2, h3, h4⟩ := h
 exact ⟨bs, D, h1, ⟨by rw [hv]; exact h2.own, h2.sl⟩, fun b hb => ⟨by have := (h3 b hb).1.1; omega, (h3 b hb).1.2.1, (h3 b hb).2⟩⟩
/-- such a row, not too long -/
def OwB (w : World) (l : List Ty) (v : Value) (w' : World) : Prop := OwQ w l v w' ∧ l.length ≤ 200000
theorem bind_assoc' {α β γ : Type} (m : M α) (f : α → M β) (k : β → M γ) : ((m >>= f) >>= k) = m >>= fun x => f x >>= k := by
 funext i
 show bnd (bnd m f) k i = bnd m (fun x => bnd (f x) k) i
 unfold bnd
 cases m i <;> rfl
theorem bind_ret' {α : Type} (m : M α) : (m >>= fun x => (ret x : M α)) = m := by
 funext i
 show bnd m ret i = m i
 unfold bnd
 cases m i <;> rfl
/-- at the head of a loop over things with a sign between: b says whether one more comes -/
structure SepAt {β : Type} (P : Src) (item : M Ty) (sg : ByteArray) (K : List Ty → M β) (T : Res β) (l : List Ty) (b : Bool) (s : RS) (f : Nat) : Prop where
 eq : T = if b = true then rn (item >>= fun x => sepL P item sg f (l ++ [x]) >>= K) s else rn (K l) s
 go : b = true → s.k = 0
 fl : s.k = 0 → P.toks.length ≤ s.i + f ∧ l.length ≤ s.i
theorem sep_head {β : Type} {P : Src} {item : M Ty} {sg : ByteArray} {K : List Ty → M β} {T : Res β} {l : List Ty} {s : RS} {f : Nat} (hT : T = rn (sepL P item sg f l >>= K) s) (hf : s.k = 0 → P.toks.length < s.i + f) (hle : s.i ≤ P.toks.length) (hl : s.k = 0 → l.length ≤ s.i) : ∃ f', SepAt P item sg K T l (eatb P sg s) (if eatb P sg s = true then stp s else s) f' := by
 by_cases hs : s.k = 0
 · have h1 := hf hs
   have h2 := hl hs
   obtain ⟨f, rfl⟩ : ∃ f', f = f' + 1 := ⟨f - 1, by omega⟩
   have e : eatb P sg s = isD P sg s.i := by unfold eatb; rw [decide_eq_true hs, Bool.true_and]
   rw [rn_good hs] at hT
   by_cases h : isD P sg s.i = true
   · rw [e, h, if_pos rfl]
     refine ⟨f, ?_, fun _ => hs, fun _ => ⟨by show _ ≤ s.i + 1 + f; omega, by show _ ≤ s.i + 1; omega⟩⟩
     rw [if_pos rfl, rn_good (s := stp s) hs, hT]
     show bnd (sepL P item sg (f + 1) l) K s.i = bnd item _ (s.i + 1)
     unfold bnd
     rw [sepL_at, if_pos h]
     exact congrFun (bind_assoc' item (fun x => sepL P item sg f (l ++ [x])) K) (s.i + 1)
   · have h9 : isD P sg s.i = false := by simpa using h
     rw [e, h9, if_neg Bool.false_ne_true]
     refine ⟨f, ?_, fun h => absurd h Bool.false_ne_true, fun _ => ⟨by omega, by omega⟩⟩
     rw [if_neg Bool.false_ne_true, rn_good hs, hT]
     show bnd (sepL P item sg (f + 1) l) K s.i = _
     unfold bnd
     rw [sepL_at, if_neg h]
 · have e : eatb P sg s = false := by unfold eatb; rw [decide_eq_false hs, Bool.false_and]
   rw [e, if_neg Bool.false_ne_true]
   refine ⟨0, ?_, fun h => absurd h Bool.false_ne_true, fun h => absurd h hs⟩
   rw [if_neg Bool.false_ne_true, hT, rn_lost hs, rn_lost hs]
theorem SepAt.item {β : Type} {P : Src} {item : M Ty} {sg : ByteArray} {K : List Ty → M β} {T : Res β} {l : List Ty} {s s1 : RS} {f : Nat} {x : Ty} (h : SepAt P item sg K T l true s f) (hr : Rl (rn item s) x s1) (hst : ∀ i x j, item i = .ok x j → i + 1 ≤ j) : T = rn (sepL P item sg f (l ++ [x]) >>= K) s1 ∧ (s1.k = 0 → P.toks.length < s1.i + f) ∧ (s1.k = 0 → (l ++ [x]).length ≤ s1.i) ∧ (s1.k = 0 → s.i + 1 ≤ s1.i) := by
 have hs := h.go rfl
 have h1 : s1.k = 0 → s.i + 1 ≤ s1.i := fun h0 => hst _ _ _ ((rn_good hs).symm.trans (hr.1 h0))
 have h2 := h.fl hs
 refine ⟨(h.eq.trans (if_pos rfl)).trans (rn_bind hr), fun h0 => by have := h1 h0; omega, fun h0 => by have := h1 h0; rw [List.length_append]; simp; omega, h1⟩
theorem SepAt.done {β : Type} {P : Src} {item : M Ty} {sg : ByteArray} {K : List Ty → M β} {T : Res β} {l : List Ty} {s : RS} {f : Nat} (h : SepAt P item sg K T l false s f) : T = rn (K l) s := h.eq.trans (if_neg Bool.false_ne_true)
/-- its first thing -/
theorem row_first {β : Type} {P : Src} {item : M Ty} {sg : ByteArray} {K : List Ty → M β} {T : Res β} {s s1 : RS} {x : Ty} (hT : T = rn (rowD P item sg >>= K) s) (hr : Rl (rn item s) x s1) (hst : ∀ i x j, item i = .ok x j → i + 1 ≤ j) : T = rn (sepL P item sg (P.toks.length + 1) [x] >>= K) s1 ∧ (s1.k = 0 → P.toks.length < s1.i + (P.toks.length + 1)) ∧ (s1.k = 0 → [x].length ≤ s1.i) := by
 have e : (rowD P item sg >>= K) = item >>= fun x => sepL P item sg (P.toks.length + 1) [x] >>= K := bind_assoc' item _ K
 rw [e] at hT
 refine ⟨hT.trans (rn_bind hr), fun _ => by omega, fun h0 => ?_⟩
 by_cases hs : s.k = 0
 · have := hst _ _ _ ((rn_good hs).symm.trans (hr.1 h0))
   simp
   omega
 · rw [rn_lost hs] at hr
   have := hr.1 h0
   cases this
/-- at the head of a loop over things as long as one begins -/
structure ManyAt {β : Type} (P : Src) (c : Nat → Bool) (item : M Ty) (K : List Ty → M β) (T : Res β) (l : List Ty) (b : Bool) (s : RS) (f : Nat) : Prop where
 eq : T = if b = true then rn (item >>= fun x => manyL c item f (l ++ [x]) >>= K) s else rn (K l) s
 go : b = true → s.k = 0 ∧ c s.i = true
 fl : s.k = 0 → P.toks.length ≤ s.i + f ∧ l.length ≤ s.i + 1
theorem many_head {β : Type} {P : Src} {c : Nat → Bool} {item : M Ty} {K : List Ty → M β} {T : Res β} {l : List Ty} {s : RS} {f : Nat} (hT : T = rn (manyL c item f l >>= K) s) (hf : s.k = 0 → P.toks.length < s.i + f) (hle : s.i ≤ P.toks.length) (hl : s.k = 0 → l.length ≤ s.i + 1) : ∃ f', ManyAt P c item K T l (decide (s.k = 0) && c s.i) s f' := by
 by_cases hs : s.k = 0
 · have h1 := hf hs
   have h2 := hl hs
   obtain ⟨f, rfl⟩ : ∃ f', f = f' + 1 := ⟨f - 1, by omega⟩
   rw [decide_eq_true hs, Bool.true_and]
   rw [rn_good hs] at hT
   refine ⟨f, ?_, fun h => ⟨hs, h⟩, fun _ => ⟨by omega, by omega⟩⟩
   have e : (manyL c item (f + 1) l) s.i = if c s.i = true then (item >>= fun x => manyL c item f (l ++ [x])) s.i else .ok l s.i := rfl
   by_cases h : c s.i = true
   · rw [if_pos h, rn_good hs, hT]
     show bnd (manyL c item (f + 1) l) K s.i = bnd item _ s.i
     unfold bnd
     rw [e, if_pos h]
     exact congrFun (bind_assoc' item (fun x => manyL c item f (l ++ [x])) K) s.i
   · rw [if_neg h, rn_good hs, hT]
     show bnd (manyL c item (f + 1) l) K s.i = _
     unfold bnd
     rw [e, if_neg h]
 · rw [decide_eq_false hs, Bool.false_and]
   refine ⟨0, ?_, fun h => absurd h Bool.false_ne_true, fun h => absurd h hs⟩
   rw [if_neg Bool.false_ne_true, hT, rn_lost hs, rn_lost hs]
theorem ManyAt.item {β : Type} {P : Src} {c : Nat → Bool} {item : M Ty} {K : List Ty → M β} {T : Res β} {l : List Ty} {s s1 : RS} {f : Nat} {x : Ty} (h : ManyAt P c item K T l true s f) (hr : Rl (rn item s) x s1) (hst : ∀ i x j, item i = .ok x j → i + 1 ≤ j) : T = rn (manyL c item f (l ++ [x]) >>= K) s1 ∧ (s1.k = 0 → P.toks.length < s1.i + f) ∧ (s1.k = 0 → (l ++ [x]).length ≤ s1.i + 1) ∧ (s1.k = 0 → s.i + 1 ≤ s1.i) := by
 have hs := (h.go rfl).1
 have h1 : s1.k = 0 → s.i + 1 ≤ s1.i := fun h0 => hst _ _ _ ((rn_good hs).symm.trans (hr.1 h0))
 have h2 := h.fl hs
 refine ⟨(h.eq.trans (if_pos rfl)).trans (rn_bind hr), fun h0 => by have := h1 h0; omega, fun h0 => by have := h1 h0; rw [List.length_append]; simp; omega, h1⟩
theorem ManyAt.done {β : Type} {P : Src} {c : Nat → Bool} {item : M Ty} {K : List Ty → M β} {T : Res β} {l : List Ty} {s : RS} {f : Nat} (h : ManyAt P c item K T l false s f) : T = rn (K l) s := h.eq.trans (if_neg Bool.false_ne_true)
theorem item_st {E : Env} {g : Nat} (nt : NT) : ∀ i x j, readS E.P g nt i = .ok x j → i + 1 ≤ j := (st_rec E.P g).1 nt
/-- the rounds left grow less -/
theorem left_less {E : Env} {w w' : World} {s s1 s' : RS} {d d' : Nat} (h : Rr E w s d) (h' : Rr E w' s' d') (hs : s.k = 0) (h1 : s'.k = 0 → s1.k = 0 ∧ s1.i ≤ s'.i) (h2 : s1.k = 0 → s.i + 1 ≤ s1.i) : leftOf E.P.toks.length w' E.rb < leftOf E.P.toks.length w E.rb := by
 rw [h.left, h'.left, if_pos hs]
 by_cases h0 : s'.k = 0
 · rw [if_pos h0]
   have h3 := h1 h0
   have h4 := h2 h3.1
   have h5 := h'.le
   omega
 · rw [if_neg h0]
   omega
theorem eat_after {P : Src} {sg : ByteArray} {s : RS} : ((if eatb P sg s = true then stp s else s).k = 0 → s.k = 0 ∧ s.i ≤ (if eatb P sg s = true then stp s else s).i) := by
 intro h
 by_cases hb : eatb P sg s = true
 · rw [if_pos hb] at h ⊢
   exact ⟨h, Nat.le_succ _⟩
 · rw [if_neg hb] at h ⊢
   exact ⟨h, Nat.le_refl _⟩
end Go.Proofs.YthehjeeiodbkjaaGreatDoor
