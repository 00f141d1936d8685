/-
  Proved: the contracts of the document's no, is, eat, must, get; the contracts of the document's one, starts, enters, leaves, Node, begun, begins; the contract of the document's path; what stands while the document's reader reads on; the contract of the document's Bind; steps of a walk through the reference's printer; its binds, shown and Print. Conditions: the reader as it stands in memory; what the reader reads within; the reader as it stands in memory; what it reads within; the tree in memory; words that are not empty.
-/
import Derived.Test.YthehjeeiodbkjaaGreatDoorP01
import Derived.Test.YthehjeeiodbkjaaGreatDoorP06
import Derived.Test.YthehjeeiodbkjaaGreatDoorP03
import Derived.Test.YthehjeeiodbkjaaGreatDoorP05
set_option linter.unusedSimpArgs false
set_option linter.unusedVariables false
set_option linter.unusedSectionVars false
set_option maxRecDepth 100000
set_option maxHeartbeats 16000000
namespace Go.Proofs.YthehjeeiodbkjaaGreatDoor
open Go.RowKit
theorem Rr.setf {E : Env} {w : World} {s : RS} {d : Nat} (h : Rr E w s d) (x y : Nat) : Rr E ((w.setCell ⟨E.rb, 4, none⟩ (.int .i64 (x : Int))).setCell ⟨E.rb, 5, none⟩ (.int .i64 (y : Int))) ⟨s.i, x, y⟩ d :=
 h.put (jy (jy h.row 4 _) 5 _) (fun b hb => (set_other _ _ _ _ b hb).trans (set_other _ _ _ _ b hb)) ((set_size _ _ _ _).trans (set_size _ _ _ _)) h.le h.go h.d61
theorem gr_set2 (W : World) (q k l : Nat) (x y : Value) : W.grownBy ((W.setCell ⟨q, k, none⟩ x).setCell ⟨q, l, none⟩ y) (some q) := jr (jX W q k x) (jX _ q l y)
theorem rno_any (E : Env) (w : World) (s : RS) (d e : Nat) (h : Rr E w s d) : Calls Tryz.prog 103 #[pr E, .int .i64 (e : Int)] w fun en w' => (∃ v, en = .returned v) ∧ Rr E w' (noS E.P e s) d ∧ w.grownBy w' (some E.rb) := by
 have HNOW := lh (qh E w s d h);have H := lh h;unfold qb at HNOW;unfold pr at HNOW ⊢;clear h;go_enter Tryz.func103, Tryz.ntmps103
 go_upto_region 1 with (first | (go_at_call 102; refine HNOW.out.mono ?_; rintro e w1 ⟨rfl, hb1⟩; have HB1 := lh hb1; clear hb1))
 obtain ⟨W, hW⟩ : ∃ W, W = w1.alloc (.cells #[.int .i64 (E.P.K s.i), .int .i64 (E.P.A s.i : Int), .string (E.P.T s.i), .int .i64 (E.P.N s.i : Int)] 59) := ⟨_, rfl⟩
 obtain ⟨hbW, hrW⟩ := qs hW HB1.out;rw [← hW];obtain ⟨c0, c1, c2, c3⟩ := jU hrW;have hR := H.out.keep hbW;obtain ⟨⟨r0, r1, r2, r3, r4, r5, r6⟩, ⟨z1, z4, z5, z6⟩⟩ := hR.cells;replace r3 : W.cell? ⟨E.rb, 2 + 1, none⟩ = some (.int .i64 (E.P.fa : Int)) := r3;have z5b : W.frozen? ⟨E.rb, 4 + 1, none⟩ = false := z5;have r5b : W.cell? ⟨E.rb, 4 + 1, none⟩ = some (.int .i64 (s.a : Int)) := r5;have HR := lh hR;have HBW := lh hbW;have n1 : ¬ (w1.heap.size = E.rb) := by have := H.out.ltr; have := HB1.out.size; omega
 have n2 : ¬ (E.rb = w1.heap.size) := fun e => n1 e.symm
 clear hW hbW hrW hR
 by_cases hs : s.k = 0
 · have e1 : ((s.k : Int) != 0) = false := (by simp [hs]);have en : noS E.P e s = ⟨s.i, vR E.P e s.i, failA E.P s.i⟩ := if_pos hs;have EN := lh en;clear hs en
   by_cases hk : E.P.K s.i = -1
   · have e2 : decide (E.P.K s.i < 0) = true := (by rw [hk]; decide);have e3 : E.P.K s.i < 0 := (by rw [hk]; decide);have ek : Hid (vR E.P e s.i = E.P.fk ∧ failA E.P s.i = E.P.fa) := lh (by unfold vR failA; rw [if_pos hk, if_pos hk]; exact ⟨rfl, rfl⟩);clear hk;go_wp2_with fail
     first | go_end0 | refine bodyPost_ret (results_none rfl _ _ _) rfl ?_
     refine ⟨⟨_, rfl⟩, ?_, jr (ji HBW.out _) (jr (gr_set2 _ _ _ _ _ _) (gr_set2 _ _ _ _ _ _))⟩;rw [EN.out, ek.out.1, ek.out.2];exact (HR.out.setf _ _).setf _ _
   · have h0 : 0 ≤ E.P.K s.i := (K_neg (P := E.P) (i := s.i)).resolve_left hk;have e2 : decide (E.P.K s.i < 0) = false := (by simp; omega);have e3 : ¬ (E.P.K s.i < 0) := (by omega);have ek : Hid (vR E.P e s.i = e ∧ failA E.P s.i = E.P.A s.i) := lh (by unfold vR failA; rw [if_neg hk, if_neg hk]; exact ⟨rfl, rfl⟩);clear hk h0;go_wp2_with fail
     first | go_end0 | refine bodyPost_ret (results_none rfl _ _ _) rfl ?_
     refine ⟨⟨_, rfl⟩, ?_, jr (ji HBW.out _) (gr_set2 _ _ _ _ _ _)⟩;rw [EN.out, ek.out.1, ek.out.2];exact HR.out.setf _ _
 · have e1 : ((s.k : Int) != 0) = true := (by simp [hs]);have en : noS E.P e s = s := if_neg hs;have EN := lh en;clear hs en;go_wp2_with fail
   first | go_end0 | refine bodyPost_ret (results_none rfl _ _ _) rfl ?_
   refine ⟨⟨_, rfl⟩, ?_, ji HBW.out _⟩;rw [EN.out];exact HR.out
theorem ris_any (E : Env) (w : World) (s : RS) (d : Nat) (sg : ByteArray) (h : Rr E w s d) : Calls Tryz.prog 182 #[pr E, .string sg] w fun e w' => e = .returned (.bool (ka E.P sg s)) ∧ Below w.heap.size w w' := by
 have HNOW := lh (qh E w s d h);have H := lh h;obtain ⟨b, hb⟩ : ∃ b, b = ka E.P sg s := ⟨_, rfl⟩
 rw [← hb];have HB := lh hb;unfold qb at HNOW;unfold pr at HNOW ⊢;clear h hb;go_enter Tryz.func182, Tryz.ntmps182
 go_upto_region 2 with (first | (go_at_call 102; refine HNOW.out.mono ?_; rintro e w1 ⟨rfl, hb1⟩; have HB1 := lh hb1; clear hb1))
 obtain ⟨W, hW⟩ : ∃ W, W = w1.alloc (.cells #[.int .i64 (E.P.K s.i), .int .i64 (E.P.A s.i : Int), .string (E.P.T s.i), .int .i64 (E.P.N s.i : Int)] 59) := ⟨_, rfl⟩
 obtain ⟨hbW, hrW⟩ := qs hW HB1.out;rw [← hW];obtain ⟨c0, c1, c2, c3⟩ := jU hrW;have hR := H.out.keep hbW;obtain ⟨⟨r0, r1, r2, r3, r4, r5, r6⟩, ⟨z1, z4, z5, z6⟩⟩ := hR.cells;replace r3 : W.cell? ⟨E.rb, 2 + 1, none⟩ = some (.int .i64 (E.P.fa : Int)) := r3;have z5b : W.frozen? ⟨E.rb, 4 + 1, none⟩ = false := z5;have r5b : W.cell? ⟨E.rb, 4 + 1, none⟩ = some (.int .i64 (s.a : Int)) := r5;have HR := lh hR;have HBW := lh hbW;have n1 : ¬ (w1.heap.size = E.rb) := by have := H.out.ltr; have := HB1.out.size; omega
 have n2 : ¬ (E.rb = w1.heap.size) := fun e => n1 e.symm
 clear hW hbW hrW hR
 by_cases hs : s.k = 0
 · have e1 : ((s.k : Int) == 0) = true := (by simp [hs]);have HS := lh hs;clear hs
   by_cases hT : (E.P.T s.i).toList = sg.toList
   · have HT : Hid (E.P.T s.i = sg) := lh (ba_eq.1 hT)
     by_cases h6 : E.P.K s.i = 6
     · have e6 : (E.P.K s.i == 6) = true := (by simp [h6]);have HK := lh h6;clear h6;go_wp2_with fail
       go_ret
       exact ⟨by rw [HB.out]; simp [ka, isD, HK.out, HT.out, HS.out], HBW.out⟩
     · have e6 : (E.P.K s.i == 6) = false := (by simp [h6]);have HK := lh h6;clear h6
       by_cases h7 : E.P.K s.i = 7
       · have e7 : (E.P.K s.i == 7) = true := (by simp [h7]);have HK7 := lh h7;clear h7;go_wp2_with fail
         go_ret
         exact ⟨by rw [HB.out]; simp [ka, isD, HK7.out, HT.out, HS.out], HBW.out⟩
       · have e7 : (E.P.K s.i == 7) = false := (by simp [h7]);have HK7 := lh h7;clear h7;go_wp2_with fail
         go_ret
         exact ⟨by rw [HB.out]; simp [ka, isD, HK.out, HK7.out], HBW.out⟩
   · have HT : Hid (¬ E.P.T s.i = sg) := lh (fun e => hT (ba_eq.2 e));have hb9 : b = false := (by rw [HB.out]; simp [ka, isD, HT.out]);have HB9 := lh hb9;clear hb9
     by_cases h6 : E.P.K s.i = 6
     · have e6 : (E.P.K s.i == 6) = true := (by simp [h6]);clear h6;go_wp2_with fail
       go_ret
       exact ⟨by rw [HB9.out]; first | rfl | simp [hT], HBW.out⟩
     · have e6 : (E.P.K s.i == 6) = false := (by simp [h6]);clear h6
       by_cases h7 : E.P.K s.i = 7
       · have e7 : (E.P.K s.i == 7) = true := (by simp [h7]);clear h7;go_wp2_with fail
         go_ret
         exact ⟨by rw [HB9.out]; first | rfl | simp [hT], HBW.out⟩
       · have e7 : (E.P.K s.i == 7) = false := (by simp [h7]);clear h7;go_wp2_with fail
         go_ret
         exact ⟨by rw [HB9.out]; first | rfl | simp [hT], HBW.out⟩
 · have e1 : ((s.k : Int) == 0) = false := (by simp [hs]);have HB9 : Hid (b = false) := lh (by rw [HB.out]; simp [ka, hs]);clear hs;go_wp2_with fail
   go_ret
   exact ⟨by rw [HB9.out]; first | rfl | simp, HBW.out⟩
theorem eat_K {P : Src} {sg : ByteArray} {i : Nat} (h : isD P sg i = true) : 1 ≤ P.K i := by have := (isD_at h).1; omega
theorem reat_any (E : Env) (w : World) (s : RS) (d : Nat) (sg : ByteArray) (h : Rr E w s d) : Calls Tryz.prog 153 #[pr E, .string sg] w fun e w' => e = .returned (.bool (ka E.P sg s)) ∧ Rr E w' (if ka E.P sg s = true then stp s else s) d ∧ w.grownBy w' (some E.rb) := by
 have HIS := lh (ris_any E w s d sg h);have H := lh h;have hi9 : s.i ≤ 100000 := Nat.le_trans h.le h.ok.len;have HLT := lh (fun hb => eat_K (eatb_good (P := E.P) (sg := sg) (s := s) hb).2);obtain ⟨b, hb⟩ : ∃ b, b = ka E.P sg s := ⟨_, rfl⟩
 rw [← hb] at HIS HLT ⊢;unfold pr at HIS ⊢;clear h hb;go_enter Tryz.func153, Tryz.ntmps153
 cases b with
 | true =>
  have HLT2 := lh (HLT.out rfl);go_upto_region 2 with (first | (go_at_call 182; refine HIS.out.mono ?_; rintro e w1 ⟨rfl, hb1⟩; have HB1 := lh hb1; obtain ⟨⟨r0, r1, r2, r3, r4, r5, r6⟩, ⟨z1, z4, z5, z6⟩⟩ := (H.out.keep hb1).cells; clear hb1))
  go_wp2_with fail
  go_ret
  have hr := (H.out.keep HB1.out).step HLT2.out;exact ⟨rfl, by simpa [stp] using hr, jr (ji HB1.out _) (jX _ _ _ _)⟩
 | false =>
  go_wp2_with (first | (go_at_call 182; refine HIS.out.mono ?_; rintro e w1 ⟨rfl, hb1⟩; have HB1 := lh hb1; clear hb1))
  go_ret
  exact ⟨rfl, by simpa using H.out.keep HB1.out, ji HB1.out _⟩
theorem rn_must {P : Src} {sg : ByteArray} {s : RS} : rn (jm P sg) s = if ka P sg s = true then rn (ret () : M Unit) (stp s) else rn (jE P 4 : M Unit) s := rn_eat (A := (ret () : M Unit)) (B := (jE P 4 : M Unit))
theorem rmust_any (E : Env) (w : World) (s : RS) (d : Nat) (sg : ByteArray) (h : Rr E w s d) : Calls Tryz.prog 144 #[pr E, .string sg] w (RPost E d w (rn (jm E.P sg) s) fun _ _ _ => True) := by
 have HE := lh (reat_any E w s d sg h);obtain ⟨T, hT⟩ : ∃ T, T = rn (jm E.P sg) s := ⟨_, rfl⟩
 rw [← hT];rw [rn_must] at hT;have HNO : Hid (∀ w1, Rr E w1 s d → Calls Tryz.prog 103 #[pr E, .int .i64 4] w1 fun en w' => (∃ v, en = .returned v) ∧ Rr E w' (noS E.P 4 s) d ∧ w1.grownBy w' (some E.rb)) := lh (fun w1 h1 => rno_any E w1 s d 4 h1);obtain ⟨b, hb⟩ : ∃ b, b = ka E.P sg s := ⟨_, rfl⟩
 rw [← hb] at HE hT;have HT := lh hT;unfold pr at HE HNO ⊢;clear h hT hb;go_enter Tryz.func144, Tryz.ntmps144
 cases b with
 | true =>
  go_wp2_with (first | (go_at_call 153; refine HE.out.mono ?_; rintro e w1 ⟨rfl, hr1, hg1⟩; have HR1 := lh hr1; have HG1 := lh hg1; clear hr1 hg1))
  have hr : Rr E w1 (stp s) d := by simpa using HR1.out
  have ht : T = rn (ret () : M Unit) (stp s) := by simpa using HT.out
  first | go_end0 | refine bodyPost_ret (results_none rfl _ _ _) rfl ?_
  exact RPost.ok HG1.out (rn_pure ht) trivial hr
 | false =>
  go_wp2_with (first | (go_at_call 153; refine HE.out.mono ?_; rintro e w1 ⟨rfl, hr1, hg1⟩; have HR1 : Hid (Rr E w1 s d) := lh (by simpa using hr1); have HG1 := lh hg1; clear hr1 hg1) | (go_at_call 103; refine (HNO.out w1 HR1.out).mono ?_; rintro e w2 ⟨⟨v, rfl⟩, hr2, hg2⟩; have HR2 := lh hr2; have HG2 := lh hg2; clear hr2 hg2))
  have ht : T = rn (jE E.P 4 : M Unit) s := by simpa using HT.out
  first | go_end0 | refine bodyPost_ret (results_none rfl _ _ _) rfl ?_
  exact RPost.ok (x := ()) (jr HG1.out HG2.out) (by rw [ht]; exact HR1.out.no_rl (by decide) _) trivial HR2.out
theorem rget_any (E : Env) (w : World) (s : RS) (d k : Nat) (hk1 : 1 ≤ k) (h : Rr E w s d) : Calls Tryz.prog 150 #[pr E, .int .i64 (k : Int)] w (RPost E d w (rn (jI E.P k) s) fun x v _ => v = .string x) := by
 have HNOW := lh (qh E w s d h);have H := lh h;have hi9 : s.i ≤ 100000 := Nat.le_trans h.le h.ok.len;obtain ⟨T, hT⟩ : ∃ T, T = rn (jI E.P k) s := ⟨_, rfl⟩
 rw [← hT];have HT := lh hT;have HNO : Hid (∀ w1, Rr E w1 s d → Calls Tryz.prog 103 #[pr E, .int .i64 4] w1 fun en w' => (∃ v, en = .returned v) ∧ Rr E w' (noS E.P 4 s) d ∧ w1.grownBy w' (some E.rb)) := lh (fun w1 h1 => rno_any E w1 s d 4 h1);have HK1 := lh hk1;unfold qb at HNOW;unfold pr at HNOW HNO ⊢;clear h hT hk1;go_enter Tryz.func150, Tryz.ntmps150
 go_upto_region 2 with (first | (go_at_call 102; refine HNOW.out.mono ?_; rintro e w1 ⟨rfl, hb1⟩; have HB1 := lh hb1; clear hb1))
 obtain ⟨W, hW⟩ : ∃ W, W = w1.alloc (.cells #[.int .i64 (E.P.K s.i), .int .i64 (E.P.A s.i : Int), .string (E.P.T s.i), .int .i64 (E.P.N s.i : Int)] 59) := ⟨_, rfl⟩
 obtain ⟨hbW, hrW⟩ := qs hW HB1.out;rw [← hW];obtain ⟨c0, c1, c2, c3⟩ := jU hrW;have hR := H.out.keep hbW;obtain ⟨⟨r0, r1, r2, r3, r4, r5, r6⟩, ⟨z1, z4, z5, z6⟩⟩ := hR.cells;replace r3 : W.cell? ⟨E.rb, 2 + 1, none⟩ = some (.int .i64 (E.P.fa : Int)) := r3;have z5b : W.frozen? ⟨E.rb, 4 + 1, none⟩ = false := z5;have r5b : W.cell? ⟨E.rb, 4 + 1, none⟩ = some (.int .i64 (s.a : Int)) := r5;have HR := lh hR;have HBW := lh hbW;have n1 : ¬ (w1.heap.size = E.rb) := by have := H.out.ltr; have := HB1.out.size; omega
 have n2 : ¬ (E.rb = w1.heap.size) := fun e => n1 e.symm
 clear hW hbW hrW hR;have HNA := lh (HNO.out W HR.out)
 by_cases hs : s.k = 0
 · have e1 : ((s.k : Int) != 0) = false := (by simp [hs]);have HS := lh hs;clear hs
   by_cases hk : E.P.K s.i = k
   · have e2 : (E.P.K s.i != (k : Int)) = false := (by simp [hk]);have HK := lh hk;clear hk;go_wp2_with fail
     go_ret
     have hst := HR.out.step (by rw [HK.out]; have := HK1.out; omega);refine RPost.ok (jr (ji HBW.out _) (jX _ _ _ _)) (x := E.P.T s.i) (s := stp s) ⟨fun _ => ?_, fun h => absurd HS.out h⟩ rfl (by simpa [stp] using hst);rw [HT.out, je HS.out];unfold jI;rw [if_pos HK.out];rfl
   · have e2 : (E.P.K s.i != (k : Int)) = true := (by simp [hk]);have HK := lh hk;clear hk;go_wp2_with (first | (go_at_call 103; refine HNA.out.mono ?_; rintro e w2 ⟨⟨v, rfl⟩, hr2, hg2⟩; have HR2 := lh hr2; have HG2 := lh hg2; clear hr2 hg2))
     go_ret
     refine RPost.ok (jr (ji HBW.out _) HG2.out) (x := ⟨#[]⟩) (s := noS E.P 4 s) ?_ rfl HR2.out;have h1 := HR.out.no_rl (e := 4) (by decide) (⟨#[]⟩ : ByteArray)
     have e9 : rn (jI E.P k) s = rn (jE E.P 4 : M ByteArray) s := by
      rw [je HS.out, je HS.out];unfold jI;rw [if_neg HK.out]
     rw [HT.out, e9];exact h1
 · have e1 : ((s.k : Int) != 0) = true := (by simp [hs]);have HS := lh hs;clear hs;go_wp2_with (first | (go_at_call 103; refine HNA.out.mono ?_; rintro e w2 ⟨⟨v, rfl⟩, hr2, hg2⟩; have HR2 := lh hr2; have HG2 := lh hg2; clear hr2 hg2))
   go_ret
   have e9 : noS E.P 4 s = s := if_neg HS.out;have hr2 := HR2.out;rw [e9] at hr2;exact RPost.ok (jr (ji HBW.out _) HG2.out) (x := ⟨#[]⟩) (rl_lost HT.out HS.out) rfl hr2
theorem among_one (P : Src) (l : List ByteArray) (i : Nat) : jK P l i = (decide (P.K i = 6 ∨ P.K i = 7) && ve l (P.T i)) := by
 unfold jK ve
 congr 2
 funext x
 exact decide_eq_decide.2 eq_comm
theorem rone_any (E : Env) (w : World) (s : RS) (d : Nat) (l : List ByteArray) (q n : Nat) (hnl : n = l.length) (h : Rr E w s d) (hq : StrsAt w q l) (hqs : q < w.heap.size) (hn : l.length ≤ 4000) : Calls Tryz.prog 104 #[pr E, .slice (some ⟨q, 0, none⟩) n n] w fun e w' => e = .returned (.bool (kJ E.P l s)) ∧ Below w.heap.size w w' := by
 subst hnl;have HNOW := lh (qh E w s d h);have H := lh h;have HAM : Hid (∀ w1, Below w.heap.size w w1 → Calls Tryz.prog 143 #[.slice (some ⟨q, 0, none⟩) l.length l.length, .string (E.P.T s.i)] w1 fun e w' => e = .returned (.bool (ve l (E.P.T s.i))) ∧ w1 = w') := lh (fun w1 hb => among_any l q (E.P.T s.i) w1 (fun k hk => (hb.cell (p := ⟨q, k, none⟩) hqs).trans (hq k hk)) hn);obtain ⟨b, hb⟩ : ∃ b, b = kJ E.P l s := ⟨_, rfl⟩
 rw [← hb];have HB := lh hb;obtain ⟨am, ham⟩ : ∃ am, am = ve l (E.P.T s.i) := ⟨_, rfl⟩
 rw [← ham] at HAM;have HAMD := lh ham;unfold qb at HNOW;unfold pr at HNOW ⊢;clear h hb hq hqs ham;go_enter Tryz.func104, Tryz.ntmps104
 go_upto_region 2 with (first | (go_at_call 102; refine HNOW.out.mono ?_; rintro e w1 ⟨rfl, hb1⟩; have HB1 := lh hb1; clear hb1))
 obtain ⟨W, hW⟩ : ∃ W, W = w1.alloc (.cells #[.int .i64 (E.P.K s.i), .int .i64 (E.P.A s.i : Int), .string (E.P.T s.i), .int .i64 (E.P.N s.i : Int)] 59) := ⟨_, rfl⟩
 obtain ⟨hbW, hrW⟩ := qs hW HB1.out;rw [← hW];obtain ⟨c0, c1, c2, c3⟩ := jU hrW;have hR := H.out.keep hbW;obtain ⟨⟨r0, r1, r2, r3, r4, r5, r6⟩, ⟨z1, z4, z5, z6⟩⟩ := hR.cells;replace r3 : W.cell? ⟨E.rb, 2 + 1, none⟩ = some (.int .i64 (E.P.fa : Int)) := r3;have z5b : W.frozen? ⟨E.rb, 4 + 1, none⟩ = false := z5;have r5b : W.cell? ⟨E.rb, 4 + 1, none⟩ = some (.int .i64 (s.a : Int)) := r5;have HR := lh hR;have HBW := lh hbW;have HRW := lh hrW;have n1 : ¬ (w1.heap.size = E.rb) := by have := H.out.ltr; have := HB1.out.size; omega
 have n2 : ¬ (E.rb = w1.heap.size) := fun e => n1 e.symm
 clear hW hbW hrW hR;have HAW := lh (HAM.out W HBW.out);go_upto_region 3 with (first | (go_at_call 143; refine HAW.out.mono ?_; rintro e w2 ⟨rfl, rfl⟩))
 have hdef : b = (decide (s.k = 0) && (decide (E.P.K s.i = 6 ∨ E.P.K s.i = 7) && am)) := by rw [HB.out, HAMD.out]; unfold kJ; rw [among_one]
 have HDEF := lh hdef;clear hdef
 by_cases hs : s.k = 0
 · have e1 : ((s.k : Int) == 0) = true := (by simp [hs]);have HS := lh hs;clear hs
   by_cases h6 : E.P.K s.i = 6
   · have e6 : (E.P.K s.i == 6) = true := (by simp [h6]);have HE : Hid (b = am) := lh (by rw [HDEF.out]; simp [h6, HS.out]);clear h6
     cases am with
     | true =>
      go_wp2_with fail
      go_ret
      exact ⟨by rw [HE.out]; first | rfl | simp, HBW.out⟩
     | false =>
      go_wp2_with fail
      go_ret
      exact ⟨by rw [HE.out]; first | rfl | simp, HBW.out⟩
   · have e6 : (E.P.K s.i == 6) = false := by simp [h6]
     by_cases h7 : E.P.K s.i = 7
     · have e7 : (E.P.K s.i == 7) = true := (by simp [h7]);have HE : Hid (b = am) := lh (by rw [HDEF.out]; simp [h7, HS.out]);clear h6 h7
       cases am with
       | true =>
        go_wp2_with fail
        go_ret
        exact ⟨by rw [HE.out]; first | rfl | simp, HBW.out⟩
       | false =>
        go_wp2_with fail
        go_ret
        exact ⟨by rw [HE.out]; first | rfl | simp, HBW.out⟩
     · have e7 : (E.P.K s.i == 7) = false := (by simp [h7]);have HE : Hid (b = false) := lh (by rw [HDEF.out]; simp [h6, h7]);clear h6 h7;go_wp2_with fail
       go_ret
       exact ⟨by rw [HE.out]; first | rfl | simp, HBW.out⟩
 · have e1 : ((s.k : Int) == 0) = false := (by simp [hs]);have HE : Hid (b = false) := lh (by rw [HDEF.out]; simp [hs]);clear hs;go_wp2_with fail
   go_ret
   exact ⟨by rw [HE.out]; first | rfl | simp, HBW.out⟩
theorem vq (E : Env) (w w1 : World) (s : RS) (d : Nat) (l : List ByteArray) (c : Array Value) (n : Nat) (hc : c = (l.map Value.string).toArray) (hn : n = l.length) (h4 : l.length ≤ 4000) (h : Rr E w s d) (hw : w1 = w.alloc (.cells c 9)) : Calls Tryz.prog 104 #[pr E, .slice (some ⟨w.heap.size, 0, none⟩) n n] w1 fun e w' => e = .returned (.bool (kJ E.P l s)) ∧ Below w.heap.size w w' := by
 have hb : Below w.heap.size w w1 := by rw [hw]; exact jk (Below.refl _ _) _
 have hs : w.heap.size < w1.heap.size := by rw [hw, World.size_alloc]; omega
 exact (rone_any E w1 s d l w.heap.size n hn (h.keep hb) (by rw [hw]; exact strs_new w l c 9 hc) hs h4).mono fun e w' h1 => ⟨h1.1, hb.trans (h1.2.mono (Nat.le_of_lt hs))⟩
theorem rstarts_any (k : Nat) (hk : k < 3) (w : World) : Calls Tryz.prog 105 #[.int .i64 (k : Int)] w fun e w' => e = .returned (.slice (some ⟨w.heap.size, 0, none⟩) (jv k).length (jv k).length) ∧ w' = w.alloc (.cells ((jv k).map Value.string).toArray 9) := by
 obtain rfl | rfl | rfl : k = 0 ∨ k = 1 ∨ k = 2 := by omega
 · go_enter Tryz.func105, Tryz.ntmps105
   go_wp2_with fail
   go_ret
   exact ⟨rfl, rfl⟩
 · go_enter Tryz.func105, Tryz.ntmps105
   go_wp2_with fail
   go_ret
   exact ⟨rfl, rfl⟩
 · go_enter Tryz.func105, Tryz.ntmps105
   go_wp2_with fail
   go_ret
   exact ⟨rfl, rfl⟩
theorem rone_starts (E : Env) (w : World) (s : RS) (d k : Nat) (h : Rr E w s d) : Calls Tryz.prog 104 #[pr E, .slice (some ⟨w.heap.size, 0, none⟩) (jv k).length (jv k).length] (w.alloc (.cells ((jv k).map Value.string).toArray 9)) fun e w' => e = .returned (.bool (kJ E.P (jv k) s)) ∧ Below w.heap.size w w' :=
 vq E w _ s d (jv k) _ _ rfl rfl (by unfold jv; split; (· decide); (· split <;> decide)) h rfl
def entS (P : Src) (d : Nat) (s : RS) : RS := if 60 ≤ d then noS P 5 s else s
theorem qW (E : Env) (w : World) (s : RS) (d : Nat) (hd : d ≤ 60) (h : Rr E w s d) : Calls Tryz.prog 106 #[pr E] w fun e w' => e = .returned (.bool (decide ((entS E.P d s).k = 0))) ∧ Rr E w' (entS E.P d s) (d + 1) ∧ w.grownBy w' (some E.rb) := by
 have H := lh h;have HNO : Hid (Calls Tryz.prog 103 #[pr E, .int .i64 5] w fun en w' => (∃ v, en = .returned v) ∧ Rr E w' (noS E.P 5 s) d ∧ w.grownBy w' (some E.rb)) := lh (rno_any E w s d 5 h);obtain ⟨⟨r0, r1, r2, r3, r4, r5, r6⟩, ⟨z1, z4, z5, z6⟩⟩ := h.cells;have HNB := lh (h.no_bad (e := 5) (by decide));obtain ⟨s2, hs2⟩ : ∃ s2, s2 = noS E.P 5 s := ⟨_, rfl⟩
 rw [← hs2] at HNO HNB;have HS2 := lh hs2;obtain ⟨t, ht⟩ : ∃ t, t = entS E.P d s := ⟨_, rfl⟩
 rw [← ht];have HT : Hid (t = if 60 ≤ d then s2 else s) := lh (by rw [ht, hs2]; rfl);unfold pr at HNO ⊢;clear h hs2 ht;go_enter Tryz.func106, Tryz.ntmps106
 by_cases hd6 : 60 ≤ d
 · have e1 : decide ((d : Int) ≥ 60) = true := (by simp; omega);have e2 : (60 : Int) ≤ (d : Int) := (by omega);have HT2 : Hid (t = s2) := lh (HT.out.trans (if_pos hd6));clear r0 r1 r2 r3 r4 r5 z1 z4 z5 z6;go_upto_region 3 with (first | (go_at_call 103; refine HNO.out.mono ?_; rintro e w1 ⟨⟨v, rfl⟩, hr1, hg1⟩; have HR1 := lh hr1; have HG1 := lh hg1; obtain ⟨⟨r0, r1, r2, r3, r4, r5, r6⟩, ⟨z1, z4, z5, z6⟩⟩ := hr1.cells; clear hr1 hg1))
   have e3 : ((s2.k : Int) == 0) = false := (by have := HNB.out; simp; omega);go_wp2_with fail
   go_ret
   refine ⟨?_, ?_, jr HG1.out (jX _ _ _ _)⟩
   · rw [HT2.out, decide_eq_false HNB.out]
     first | rfl | simp
   · rw [HT2.out];have := HR1.out.setd (d' := d + 1) (by omega)
     simpa using this
 · have e1 : decide ((d : Int) ≥ 60) = false := (by simp; omega);have e2 : ¬ (60 : Int) ≤ (d : Int) := (by omega);have HT2 : Hid (t = s) := lh (HT.out.trans (if_neg hd6))
   by_cases hs : s.k = 0
   · have e3 : ((s.k : Int) == 0) = true := (by simp [hs]);have HS := lh hs;clear hs;go_wp2_with fail
     go_ret
     refine ⟨?_, ?_, jX _ _ _ _⟩
     · rw [HT2.out, decide_eq_true HS.out]
       first | rfl | simp
     · rw [HT2.out];have := H.out.setd (d' := d + 1) (by omega)
       simpa using this
   · have e3 : ((s.k : Int) == 0) = false := (by simp [hs]);have HS := lh hs;clear hs;go_wp2_with fail
     go_ret
     refine ⟨?_, ?_, jX _ _ _ _⟩
     · rw [HT2.out, decide_eq_false HS.out]
       first | rfl | simp
     · rw [HT2.out];have := H.out.setd (d' := d + 1) (by omega)
       simpa using this
theorem rleaves_any (E : Env) (w : World) (s : RS) (d : Nat) (h : Rr E w s (d + 1)) : Calls Tryz.prog 108 #[pr E] w fun e w' => (∃ v, e = .returned v) ∧ Rr E w' s d ∧ w.grownBy w' (some E.rb) := by
 have H := lh h;have hd := h.d61;obtain ⟨⟨r0, r1, r2, r3, r4, r5, r6⟩, ⟨z1, z4, z5, z6⟩⟩ := h.cells;unfold pr;clear h;go_enter Tryz.func108, Tryz.ntmps108
 go_wp2_with fail
 first | go_end0 | refine bodyPost_ret (results_none rfl _ _ _) rfl ?_
 refine ⟨⟨_, rfl⟩, ?_, jX _ _ _ _⟩;have h1 := H.out.setd (d' := d) (by omega);have e : (((d + 1 : Nat) : Int) - 1) = (d : Int) := by omega
 first | (simpa using h1) | (rw [← e] at h1; simpa using h1)
theorem rnode_any (k a : Int) (ao : Option Addr) (n cap : Nat) (w : World) : Calls Tryz.prog 54 #[.int .i64 k, .int .i64 a, .slice ao n cap] w fun e w' => e = .returned (.agg #[.int .i64 k, .int .i64 a, .string ⟨#[]⟩, .int .i64 0, .slice ao n cap]) ∧ Below w.heap.size w w' := by
 obtain ⟨W, hW⟩ : ∃ W, W = w.alloc (.cells ju 26) := ⟨_, rfl⟩
 have hbW : Below w.heap.size w W := by rw [hW]; exact jk (Below.refl _ _) _
 have hrW : W.heap[w.heap.size]? = some (.cells ju 26 (0, 0)) := by rw [hW]; exact heap_alloc_new w _
 have HBW := lh hbW;have HRW := lh hrW;unfold ju at hW hrW;obtain ⟨⟨c0, c1, c2, c3, c4⟩, ⟨z0, z1, z2, z3, z4⟩⟩ := jC hrW;clear hbW hrW;go_enter Tryz.func54, Tryz.ntmps54
 go_upto_region 1 with fail
 rw [← hW];clear hW;go_wp2_with fail
 have hr := HRW.out;unfold ju at hr;refine bodyPost_ret (v := .agg #[.int .i64 k, .int .i64 a, .string ⟨#[]⟩, .int .i64 0, .slice ao n cap]) (results_cell_row rfl _ _ w.heap.size 26 _ (0, 0) _ rfl (jy (jy (jy (jy (jy hr 0 (.int .i64 k)) 1 (.int .i64 a)) 2 (.string ⟨#[]⟩)) 3 (.int .i64 0)) 4 (.slice ao n cap)) Tryz.underlying26 rfl (by kernel_rfl)) rfl ⟨rfl, ?_⟩;exact ((((HBW.out.setCell (p := ⟨w.heap.size, 0, none⟩) (Nat.le_refl _) _).setCell (p := ⟨w.heap.size, 1, none⟩) (Nat.le_refl _) _).setCell (p := ⟨w.heap.size, 2, none⟩) (Nat.le_refl _) _).setCell (p := ⟨w.heap.size, 3, none⟩) (Nat.le_refl _) _).setCell (p := ⟨w.heap.size, 4, none⟩) (Nat.le_refl _) _
theorem rbegun_any (E : Env) (w : World) (s : RS) (d : Nat) (h : Rr E w s d) : Calls Tryz.prog 180 #[pr E] w fun e w' => e = .returned (.bool (decide (s.k = 0) && qx E.P s.i)) ∧ Below w.heap.size w w' := by
 have HNOW := lh (qh E w s d h);have H := lh h;have HONE : Hid (∀ w1, Rr E w1 s d → Calls Tryz.prog 104 #[pr E, .slice (some ⟨w1.heap.size, 0, none⟩) 6 6] (w1.alloc (.cells #[.string ⟨#[40]⟩, .string ⟨#[91]⟩, .string ⟨#[126]⟩, .string ⟨#[95]⟩, .string ⟨#[116, 114, 117, 101]⟩, .string ⟨#[102, 97, 108, 115, 101]⟩] 9)) fun e w' => e = .returned (.bool (kJ E.P [s_lp, s_lb, s_ti, s_us, w_true, w_false] s)) ∧ Below w1.heap.size w1 w') := lh (fun w1 h1 => vq E w1 _ s d [s_lp, s_lb, s_ti, s_us, w_true, w_false] _ 6 rfl rfl (by decide) h1 rfl);obtain ⟨b, hb⟩ : ∃ b, b = (decide (s.k = 0) && qx E.P s.i) := ⟨_, rfl⟩
 rw [← hb];obtain ⟨c, hc⟩ : ∃ c, c = kJ E.P [s_lp, s_lb, s_ti, s_us, w_true, w_false] s := ⟨_, rfl⟩
 rw [← hc] at HONE;have HB : Hid (b = (decide (s.k = 0) && (decide (1 ≤ E.P.K s.i ∧ E.P.K s.i ≤ 4) || c))) := lh (by rw [hb, hc]; unfold qx kJ; cases decide (s.k = 0) <;> rfl);unfold qb at HNOW;unfold pr at HNOW HONE ⊢;clear h hb hc;go_enter Tryz.func180, Tryz.ntmps180
 go_upto_region 2 with (first | (go_at_call 102; refine HNOW.out.mono ?_; rintro e w1 ⟨rfl, hb1⟩; have HB1 := lh hb1; clear hb1))
 obtain ⟨W, hW⟩ : ∃ W, W = w1.alloc (.cells #[.int .i64 (E.P.K s.i), .int .i64 (E.P.A s.i : Int), .string (E.P.T s.i), .int .i64 (E.P.N s.i : Int)] 59) := ⟨_, rfl⟩
 obtain ⟨hbW, hrW⟩ := qs hW HB1.out;rw [← hW];obtain ⟨c0, c1, c2, c3⟩ := jU hrW;have hR := H.out.keep hbW;obtain ⟨⟨r0, r1, r2, r3, r4, r5, r6⟩, ⟨z1, z4, z5, z6⟩⟩ := hR.cells;replace r3 : W.cell? ⟨E.rb, 2 + 1, none⟩ = some (.int .i64 (E.P.fa : Int)) := r3;have z5b : W.frozen? ⟨E.rb, 4 + 1, none⟩ = false := z5;have r5b : W.cell? ⟨E.rb, 4 + 1, none⟩ = some (.int .i64 (s.a : Int)) := r5;have HR := lh hR;have HBW := lh hbW;have HRW := lh hrW;have n1 : ¬ (w1.heap.size = E.rb) := by have := H.out.ltr; have := HB1.out.size; omega
 have n2 : ¬ (E.rb = w1.heap.size) := fun e => n1 e.symm
 clear hW hbW hrW hR;have HOW := lh (HONE.out W HR.out);clear r0 r1 r2 r3 r4 r5 r6 z1 z4 z5 z6 r5b z5b c0 c1 c2 c3;go_upto_region 3 with (first | (go_at_call 104; refine HOW.out.mono ?_; rintro e w2 ⟨rfl, hb2⟩; have HB2 := lh hb2; obtain ⟨⟨r0, r1, r2, r3, r4, r5, r6⟩, -⟩ := (HR.out.keep hb2).cells; clear hb2))
 have HBV := lh (HBW.out.trans (HB2.out.mono HBW.out.size));have c0 : w2.cell? ⟨w1.heap.size, 0, none⟩ = some (.int .i64 (E.P.K s.i)) := (HB2.out.cell (p := ⟨w1.heap.size, 0, none⟩) (lt_of_block HRW.out)).trans (ja HRW.out 0)
 by_cases hs : s.k = 0
 · have e1 : ((s.k : Int) == 0) = true := (by simp [hs]);have HB3 : Hid (b = (decide (1 ≤ E.P.K s.i ∧ E.P.K s.i ≤ 4) || c)) := lh (by rw [HB.out, decide_eq_true hs, Bool.true_and]);clear hs
   by_cases h1 : 1 ≤ E.P.K s.i
   · have e2 : decide (E.P.K s.i ≥ 1) = true := by simp; omega
     by_cases h4 : E.P.K s.i ≤ 4
     · have e3 : decide (E.P.K s.i ≤ 4) = true := (by simp; omega);have HE : Hid (b = true) := lh (by rw [HB3.out, decide_eq_true ⟨h1, h4⟩, Bool.true_or]);go_wp2_with fail
       go_ret
       exact ⟨by rw [HE.out]; first | rfl | simp, HBV.out⟩
     · have e3 : decide (E.P.K s.i ≤ 4) = false := (by simp; omega);have HE : Hid (b = c) := lh (by rw [HB3.out, decide_eq_false (by omega), Bool.false_or]);go_wp2_with fail
       go_ret
       exact ⟨by rw [HE.out]; first | rfl | simp, HBV.out⟩
   · have e2 : decide (E.P.K s.i ≥ 1) = false := (by simp; omega);have HE : Hid (b = c) := lh (by rw [HB3.out, decide_eq_false (by omega), Bool.false_or]);go_wp2_with fail
     go_ret
     exact ⟨by rw [HE.out]; first | rfl | simp, HBV.out⟩
 · have e1 : ((s.k : Int) == 0) = false := (by simp [hs]);have HE : Hid (b = false) := lh (by rw [HB.out]; simp [hs]);clear hs;go_wp2_with fail
   go_ret
   exact ⟨by rw [HE.out]; first | rfl | simp, HBV.out⟩
theorem rbegins_any (E : Env) (w : World) (s : RS) (d : Nat) (h : Rr E w s d) : Calls Tryz.prog 201 #[pr E] w fun e w' => e = .returned (.bool (decide (s.k = 0) && kh E.P s.i)) ∧ Below w.heap.size w w' := by
 have HNOW := lh (qh E w s d h);have H := lh h;have HONE : Hid (∀ w1, Rr E w1 s d → Calls Tryz.prog 104 #[pr E, .slice (some ⟨w1.heap.size, 0, none⟩) 9 9] (w1.alloc (.cells #[.string ⟨#[40]⟩, .string ⟨#[91]⟩, .string ⟨#[126]⟩, .string ⟨#[33]⟩, .string ⟨#[108, 101, 116]⟩, .string ⟨#[99, 97, 115, 101]⟩, .string ⟨#[116, 114, 121]⟩, .string ⟨#[116, 114, 117, 101]⟩, .string ⟨#[102, 97, 108, 115, 101]⟩] 9)) fun e w' => e = .returned (.bool (kJ E.P [s_lp, s_lb, s_ti, s_ex, w_let, w_case, w_try, w_true, w_false] s)) ∧ Below w1.heap.size w1 w') := lh (fun w1 h1 => vq E w1 _ s d [s_lp, s_lb, s_ti, s_ex, w_let, w_case, w_try, w_true, w_false] _ 9 rfl rfl (by decide) h1 rfl);obtain ⟨b, hb⟩ : ∃ b, b = (decide (s.k = 0) && kh E.P s.i) := ⟨_, rfl⟩
 rw [← hb];obtain ⟨c, hc⟩ : ∃ c, c = kJ E.P [s_lp, s_lb, s_ti, s_ex, w_let, w_case, w_try, w_true, w_false] s := ⟨_, rfl⟩
 rw [← hc] at HONE;have HB : Hid (b = (decide (s.k = 0) && (decide (1 ≤ E.P.K s.i ∧ E.P.K s.i ≤ 4) || c))) := lh (by rw [hb, hc]; unfold kh kJ; cases decide (s.k = 0) <;> rfl);unfold qb at HNOW;unfold pr at HNOW HONE ⊢;clear h hb hc;go_enter Tryz.func201, Tryz.ntmps201
 go_upto_region 2 with (first | (go_at_call 102; refine HNOW.out.mono ?_; rintro e w1 ⟨rfl, hb1⟩; have HB1 := lh hb1; clear hb1))
 obtain ⟨W, hW⟩ : ∃ W, W = w1.alloc (.cells #[.int .i64 (E.P.K s.i), .int .i64 (E.P.A s.i : Int), .string (E.P.T s.i), .int .i64 (E.P.N s.i : Int)] 59) := ⟨_, rfl⟩
 obtain ⟨hbW, hrW⟩ := qs hW HB1.out;rw [← hW];obtain ⟨c0, c1, c2, c3⟩ := jU hrW;have hR := H.out.keep hbW;obtain ⟨⟨r0, r1, r2, r3, r4, r5, r6⟩, ⟨z1, z4, z5, z6⟩⟩ := hR.cells;replace r3 : W.cell? ⟨E.rb, 2 + 1, none⟩ = some (.int .i64 (E.P.fa : Int)) := r3;have z5b : W.frozen? ⟨E.rb, 4 + 1, none⟩ = false := z5;have r5b : W.cell? ⟨E.rb, 4 + 1, none⟩ = some (.int .i64 (s.a : Int)) := r5;have HR := lh hR;have HBW := lh hbW;have HRW := lh hrW;have n1 : ¬ (w1.heap.size = E.rb) := by have := H.out.ltr; have := HB1.out.size; omega
 have n2 : ¬ (E.rb = w1.heap.size) := fun e => n1 e.symm
 clear hW hbW hrW hR;have HOW := lh (HONE.out W HR.out);clear r0 r1 r2 r3 r4 r5 r6 z1 z4 z5 z6 r5b z5b c0 c1 c2 c3;go_upto_region 3 with (first | (go_at_call 104; refine HOW.out.mono ?_; rintro e w2 ⟨rfl, hb2⟩; have HB2 := lh hb2; obtain ⟨⟨r0, r1, r2, r3, r4, r5, r6⟩, -⟩ := (HR.out.keep hb2).cells; clear hb2))
 have HBV := lh (HBW.out.trans (HB2.out.mono HBW.out.size));have c0 : w2.cell? ⟨w1.heap.size, 0, none⟩ = some (.int .i64 (E.P.K s.i)) := (HB2.out.cell (p := ⟨w1.heap.size, 0, none⟩) (lt_of_block HRW.out)).trans (ja HRW.out 0)
 by_cases hs : s.k = 0
 · have e1 : ((s.k : Int) == 0) = true := (by simp [hs]);have HB3 : Hid (b = (decide (1 ≤ E.P.K s.i ∧ E.P.K s.i ≤ 4) || c)) := lh (by rw [HB.out, decide_eq_true hs, Bool.true_and]);clear hs
   by_cases h1 : 1 ≤ E.P.K s.i
   · have e2 : decide (E.P.K s.i ≥ 1) = true := by simp; omega
     by_cases h4 : E.P.K s.i ≤ 4
     · have e3 : decide (E.P.K s.i ≤ 4) = true := (by simp; omega);have HE : Hid (b = true) := lh (by rw [HB3.out, decide_eq_true ⟨h1, h4⟩, Bool.true_or]);go_wp2_with fail
       go_ret
       exact ⟨by rw [HE.out]; first | rfl | simp, HBV.out⟩
     · have e3 : decide (E.P.K s.i ≤ 4) = false := (by simp; omega);have HE : Hid (b = c) := lh (by rw [HB3.out, decide_eq_false (by omega), Bool.false_or]);go_wp2_with fail
       go_ret
       exact ⟨by rw [HE.out]; first | rfl | simp, HBV.out⟩
   · have e2 : decide (E.P.K s.i ≥ 1) = false := (by simp; omega);have HE : Hid (b = c) := lh (by rw [HB3.out, decide_eq_false (by omega), Bool.false_or]);go_wp2_with fail
     go_ret
     exact ⟨by rw [HE.out]; first | rfl | simp, HBV.out⟩
 · have e1 : ((s.k : Int) == 0) = false := (by simp [hs]);have HE : Hid (b = false) := lh (by rw [HB.out]; simp [hs]);clear hs;go_wp2_with fail
   go_ret
   exact ⟨by rw [HE.out]; first | rfl | simp, HBV.out⟩
theorem Rr.step1 {E : Env} {w : World} {s : RS} {d : Nat} (h : Rr E w s d) (hk : 1 ≤ E.P.K s.i) : Rr E (w.setCell ⟨E.rb, 1, none⟩ (.int .i64 ((s.i : Int) + 1))) (stp s) d := h.step hk
theorem Rr.pos {E : Env} {w : World} {s : RS} {d : Nat} (h : Rr E w s d) : posOf w E.rb = s.i := by
 unfold posOf;rw [h.cells.1.2.1];rfl
theorem Rr.tsize {E : Env} {w : World} {s : RS} {d : Nat} (h : Rr E w s d) (j : Nat) : (E.P.T j).size ≤ 4000 := by
 by_cases hj : j < E.P.toks.length
 · rw [(Src.at' hj).2.2.1];exact (h.ok.tok _ (List.getElem_mem hj)).2.2.2
 · rw [(Src.out' hj).2.2.1];decide
theorem rn_path {P : Src} {last f : Nat} {x : ByteArray} {s : RS} {T : Res (ByteArray × Nat)} (h : T = rn (yg P last (f + 1) x) s) (hs : s.k = 0) : T = if P.K s.i = 3 ∧ last ≠ 4 then .ok (x ++ P.T s.i, 3) (s.i + 1) else if P.K s.i ≠ 4 then jE P 4 s.i else if isD P s_dot (s.i + 1) = true then yg P last f (x ++ P.T s.i ++ s_dot) (s.i + 2) else if last = 3 then jE P 4 (s.i + 1) else .ok (x ++ P.T s.i, 4) (s.i + 1) := h.trans (je hs)
theorem rpath_any (E : Env) (w : World) (s : RS) (d last : Nat) (h : Rr E w s d) (hl : last ≤ 10) : Calls Tryz.prog 152 #[pr E, .int .i64 (last : Int)] w (RPost E d w (rn (ki E.P last) s) fun x v _ => v = .tuple #[.string x.1, .int .i64 (x.2 : Int)]) := by
 obtain ⟨T, hT⟩ : ∃ T, T = rn (ki E.P last) s := ⟨_, rfl⟩
 rw [← hT];unfold ki at hT;have HT := lh hT;have H := lh h;have hN := h.ok.len;have hi9 := h.le;have HNOW : Hid (∀ w1 s, Rr E w1 s d → Calls Tryz.prog 102 #[pr E] w1 fun e w' => e = .returned (qb E.P s.i) ∧ Below w1.heap.size w1 w') := lh (fun w1 j h1 => qh E w1 j d h1);have HNO : Hid (∀ w1 s, Rr E w1 s d → Calls Tryz.prog 103 #[pr E, .int .i64 4] w1 fun en w' => (∃ v, en = .returned v) ∧ Rr E w' (noS E.P 4 s) d ∧ w1.grownBy w' (some E.rb)) := lh (fun w1 j h1 => rno_any E w1 j d 4 h1);have HEAT : Hid (∀ w1 s, Rr E w1 s d → Calls Tryz.prog 153 #[pr E, .string ⟨#[46]⟩] w1 fun e w' => e = .returned (.bool (ka E.P s_dot s)) ∧ Rr E w' (if ka E.P s_dot s = true then stp s else s) d ∧ w1.grownBy w' (some E.rb)) := lh (fun w1 j h1 => reat_any E w1 j d s_dot h1);unfold qb at HNOW;unfold pr at HNOW HNO HEAT ⊢;obtain ⟨N, hNN⟩ : ∃ N, N = E.P.toks.length := ⟨_, rfl⟩
 rw [← hNN] at HT hN hi9;have HNN := lh hNN;clear h hT hNN;go_enter Tryz.func152, Tryz.ntmps152
 go_wp2_with fail
 go_loopw [6] (fun v wr => ∃ (x : ByteArray) (s : RS) (f : Nat), v = .string x ∧ T = rn (yg E.P last f x) s ∧ N < s.i + f ∧ x.size ≤ 5000 * s.i ∧ Rr E wr s d ∧ w.grownBy wr (some E.rb)) (fun _ wr => N - posOf wr E.rb)
 case atStart => exact ⟨⟨#[]⟩, s, N + 1, rfl, HT.out, by omega, by show 0 ≤ _; omega, H.out, World.grownBy.refl _ _⟩
 case round =>
  clear hi9;obtain ⟨x, t, f, rfl, hT, hf, hx, hr, hg⟩ := hrel;obtain ⟨wo, rfl⟩ : ∃ wo : World, wo = wr := ⟨_, rfl⟩
  have hjN : t.i ≤ N := by rw [HNN.out]; exact hr.le
  obtain ⟨f, rfl⟩ : ∃ f', f = f' + 1 := ⟨f - 1, by omega⟩
  clear HT H;obtain ⟨s0, hs0⟩ : ∃ s0, s0 = s := ⟨_, rfl⟩
  clear hs0 s0;have HR := lh hr;have HG := lh hg;have HTJ := lh hT;have hts := hr.tsize t.i;obtain ⟨⟨r0, r1, r2, r3, r4, r5, r6⟩, ⟨z1, z4, z5, z6⟩⟩ := hr.cells;clear hr hg hT
  by_cases hs : t.k = 0
  case neg =>
   have e1 : ((t.k : Int) == 0) = false := (by simp [hs]);have HS := lh hs;clear hs;go_wp2_with fail
   go_ret2
   exact RPost.ok HG.out (x := (⟨#[]⟩, 0)) (rl_lost HTJ.out HS.out) rfl HR.out
  have e1 : ((t.k : Int) == 0) = true := by simp [hs]
  have HS := lh hs;have HTK := lh (rn_path HTJ.out hs);clear hs;go_upto_region 4 with (first | (go_at_call 102; refine (HNOW.out wo t HR.out).mono ?_; rintro e w1 ⟨rfl, hb1⟩; have HB1 := lh hb1; clear hb1))
  clear r0 r1 r2 r3 r4 r5 r6 z1 z4 z5 z6;obtain ⟨W, hW⟩ : ∃ W, W = w1.alloc (.cells #[.int .i64 (E.P.K t.i), .int .i64 (E.P.A t.i : Int), .string (E.P.T t.i), .int .i64 (E.P.N t.i : Int)] 59) := ⟨_, rfl⟩
  obtain ⟨hbW, hrW⟩ := qs hW HB1.out;rw [← hW];obtain ⟨c0, c1, c2, c3⟩ := jU hrW;have hR := HR.out.keep hbW;obtain ⟨⟨r0, r1, r2, r3, r4, r5, r6⟩, ⟨z1, z4, z5, z6⟩⟩ := hR.cells;have HRW := lh hR;have HBW := lh hbW;have HGW := lh (jr HG.out (ji hbW _));have HWR := lh hrW;have n1 : ¬ (w1.heap.size = E.rb) := by have := HR.out.ltr; have := HB1.out.size; omega
  have n2 : ¬ (E.rb = w1.heap.size) := fun e => n1 e.symm
  have q1 : ∀ w' : World, (Op.stringOp .add x (E.P.T t.i)).run Tryz.prog w' = .ok (.string (x ++ E.P.T t.i)) w' := fun w' => run_string_add_sum w' _ _ (by omega)
  clear hW hbW hrW hR
  have step : ∀ V, V = W.setCell ⟨E.rb, 1, none⟩ (.int .i64 ((t.i : Int) + 1)) → 1 ≤ E.P.K t.i → Rr E V (stp t) d ∧ V.heap[w1.heap.size]? = some (.cells #[.int .i64 (E.P.K t.i), .int .i64 (E.P.A t.i : Int), .string (E.P.T t.i), .int .i64 (E.P.N t.i : Int)] 59 (0, 0)) ∧ w.grownBy V (some E.rb) := by
   intro V hV hk;refine ⟨by rw [hV]; exact HRW.out.step1 hk, by rw [hV]; exact jg HWR.out n1 1 _, jr HGW.out (by rw [hV]; exact jX _ _ _ _)⟩
  have HSTEP := lh step;clear step
  by_cases h3 : E.P.K t.i = 3 ∧ last ≠ 4
  · have e1 : (E.P.K t.i == 3) = true := (by simp [h3.1]);have e2 : ((last : Int) != 4) = true := (by have := h3.2; simp; omega);have H3 := lh h3;clear h3;go_upto_region 6 with fail
    obtain ⟨V, hV⟩ : ∃ V, V = W.setCell ⟨E.rb, 1, none⟩ (.int .i64 ((t.i : Int) + 1)) := ⟨_, rfl⟩
    rw [← hV];obtain ⟨hRV, hrV, hgV⟩ := HSTEP.out V hV (by rw [H3.out.1]; decide);have HRV := lh hRV;have HGV := lh hgV;clear c0 c1 c2 c3 r0 r1 r2 r3 r4 r5 r6 z1 z4 z5 z6;obtain ⟨c0, c1, c2, c3⟩ := jU hrV;clear hV hrV hRV hgV;go_wp2_with fail
    go_ret2
    have ht := HTK.out;rw [if_pos H3.out] at ht;exact RPost.ok HGV.out (x := (x ++ E.P.T t.i, 3)) (s := stp t) ⟨fun _ => ht, fun h => absurd HS.out h⟩ rfl HRV.out
  · by_cases h4 : E.P.K t.i = 4
    · have e4 : (E.P.K t.i != 4) = false := (by simp [h4]);have e3 : (E.P.K t.i == 3) = false := (by simp [h4]);have H3 := lh h3;have H4 := lh h4;have q2 : ∀ w' : World, (Op.stringOp .add (x ++ E.P.T t.i) ⟨#[46]⟩).run Tryz.prog w' = .ok (.string (x ++ E.P.T t.i ++ s_dot)) w' := fun w' => run_string_add_sum w' _ _ (by rw [ByteArray.size_append]; show x.size + (E.P.T t.i).size + 1 ≤ _; omega)
      clear h3 h4;go_upto_region 11 with fail
      obtain ⟨V, hV⟩ : ∃ V, V = W.setCell ⟨E.rb, 1, none⟩ (.int .i64 ((t.i : Int) + 1)) := ⟨_, rfl⟩
      rw [← hV];obtain ⟨hRV, hrV, hgV⟩ := HSTEP.out V hV (by rw [H4.out]; decide);have HRV := lh hRV;have HGV := lh hgV;clear c0 c1 c2 c3 r0 r1 r2 r3 r4 r5 r6 z1 z4 z5 z6;obtain ⟨c0, c1, c2, c3⟩ := jU hrV;clear hV hrV hRV hgV;have HIJ := lh (HEAT.out V (stp t) HRV.out);have hbq : ka E.P s_dot (stp t) = isD E.P s_dot (t.i + 1) := (by unfold ka; rw [decide_eq_true (show (stp t).k = 0 from HS.out), Bool.true_and]; rfl);rw [hbq] at HIJ;obtain ⟨b, hb⟩ : ∃ b, b = isD E.P s_dot (t.i + 1) := ⟨_, rfl⟩
      rw [← hb] at HIJ;have HB := lh hb;clear hb hbq
      cases b with
      | true =>
       have hl2 : t.i + 2 ≤ N := (by rw [HNN.out]; exact isD_lt HB.out.symm);go_upto_region 14 with (first | (go_at_call 153; refine HIJ.out.mono ?_; rintro e w2 ⟨rfl, hr2, hg2⟩; have HR2 : Hid (Rr E w2 (stp (stp t)) d) := lh (by simpa using hr2); have HG2 := lh hg2; clear hr2 hg2))
       clear c0 c1 c2 c3;go_wp2_with fail
       go_roundw
       case rel =>
        have ht := HTK.out;rw [if_neg H3.out, if_neg (by rw [H4.out]; decide), if_pos (by rw [← HB.out])] at ht;refine ⟨x ++ E.P.T t.i ++ s_dot, stp (stp t), f, rfl, ht.trans (je (s := stp (stp t)) HS.out).symm, by show N < t.i + 1 + 1 + f; omega, ?_, HR2.out, jr HGV.out HG2.out⟩;rw [ByteArray.size_append, ByteArray.size_append]
        show x.size + (E.P.T t.i).size + 1 ≤ 5000 * (t.i + 1 + 1)
        omega
       case measure =>
        rw [HR.out.pos, HR2.out.pos]
        show N - (t.i + 1 + 1) < N - t.i
        omega
      | false =>
       have HRV2 := HRV
       by_cases h5 : last = 3
       · have e5 : ((last : Int) == 3) = true := (by simp; omega);have H5 := lh h5;clear h5;go_wp2_with (first | (go_at_call 153; refine HIJ.out.mono ?_; rintro e w2 ⟨rfl, hr2, hg2⟩; have HR2 : Hid (Rr E w2 (stp t) d) := lh (by simpa using hr2); have HG2 := lh hg2; clear hr2 hg2) | (go_at_call 103; refine (HNO.out w2 (stp t) HR2.out).mono ?_; rintro e w3 ⟨⟨v, rfl⟩, hr3, hg3⟩; have HR3 := lh hr3; have HG3 := lh hg3; clear hr3 hg3))
         go_ret2
         have ht := HTK.out;rw [if_neg H3.out, if_neg (by rw [H4.out]; decide), if_neg (by rw [← HB.out]; decide), if_pos H5.out] at ht;refine RPost.ok (jr HGV.out (jr HG2.out HG3.out)) (x := (x ++ E.P.T t.i, 4)) (s := noS E.P 4 (stp t)) ?_ rfl HR3.out;exact rl_tail (ht.trans (je (s := stp t) HS.out).symm) (HR2.out.no_rl (by decide) _)
       · have e5 : ((last : Int) == 3) = false := (by simp; omega);have H5 := lh h5;clear h5;go_wp2_with (first | (go_at_call 153; refine HIJ.out.mono ?_; rintro e w2 ⟨rfl, hr2, hg2⟩; have HR2 : Hid (Rr E w2 (stp t) d) := lh (by simpa using hr2); have HG2 := lh hg2; clear hr2 hg2))
         go_ret2
         have ht := HTK.out;rw [if_neg H3.out, if_neg (by rw [H4.out]; decide), if_neg (by rw [← HB.out]; decide), if_neg H5.out] at ht;exact RPost.ok (jr HGV.out HG2.out) (x := (x ++ E.P.T t.i, 4)) (s := stp t) ⟨fun _ => ht, fun h => absurd HS.out h⟩ rfl HR2.out
    · have e4 : (E.P.K t.i != 4) = true := (by simp [h4]);have H3 := lh h3;have H4 := lh h4;have HNA := lh (HNO.out W t HRW.out)
      have hend : ∀ w2, Rr E w2 (noS E.P 4 t) d → W.grownBy w2 (some E.rb) → RPost E d w T (fun x v _ => v = .tuple #[.string x.1, .int .i64 (x.2 : Int)]) (.returned (.tuple #[.string ⟨#[]⟩, .int .i64 0])) w2 := by
       intro w2 hr2 hg2;have ht := HTK.out;rw [if_neg H3.out, if_pos H4.out] at ht;refine RPost.ok (jr HGW.out hg2) (x := (⟨#[]⟩, 0)) (s := noS E.P 4 t) ?_ rfl hr2;exact rl_tail (ht.trans (je HS.out).symm) (HRW.out.no_rl (by decide) _)
      have HEND := lh hend;clear hend
      by_cases h33 : E.P.K t.i = 3
      · have e3 : (E.P.K t.i == 3) = true := by simp [h33]
        have e5 : ((last : Int) != 4) = false := by
         by_cases hl4 : last = 4
         · simp; omega
         · exact absurd ⟨h33, hl4⟩ h3
        clear h3 h4 h33;go_wp2_with (first | (go_at_call 103; refine HNA.out.mono ?_; rintro e w2 ⟨⟨v, rfl⟩, hr2, hg2⟩; have HR2 := lh hr2; have HG2 := lh hg2; clear hr2 hg2))
        go_ret2
        exact HEND.out w2 HR2.out HG2.out
      · have e3 : (E.P.K t.i == 3) = false := (by simp [h33]);clear h3 h4 h33;go_wp2_with (first | (go_at_call 103; refine HNA.out.mono ?_; rintro e w2 ⟨⟨v, rfl⟩, hr2, hg2⟩; have HR2 := lh hr2; have HG2 := lh hg2; clear hr2 hg2))
        go_ret2
        exact HEND.out w2 HR2.out HG2.out
structure Fr (E : Env) (w : World) (d : Nat) (wk : World) (s : RS) : Prop where
 R : Rr E wk s d
 G : w.grownBy wk (some E.rb)
 r0 : wk.heap[w.heap.size]? = some (.cells ju 26 (0, 0))
 rb : E.rb < w.heap.size
theorem Fr.lt {E : Env} {w wk : World} {d : Nat} {s : RS} (h : Fr E w d wk s) : w.heap.size < wk.heap.size := lt_of_block h.r0
theorem Fr.start {E : Env} {w W : World} {d : Nat} {s : RS} (h : Rr E w s d) (hW : W = w.alloc (.cells ju 26)) : Fr E w d W s := by
 have hb : Below w.heap.size w W := by rw [hW]; exact jk (Below.refl _ _) _
 exact ⟨h.keep hb, ji hb _, by rw [hW]; exact heap_alloc_new w _, h.ltr⟩
theorem Fr.fin {E : Env} {w wk : World} {d : Nat} {s : RS} {X : Nat → Prop} {x : Ty} {ao : Option Addr} {cap : Nat} (f : Fr E w d wk s) (hB : E.B ≤ w.heap.size) (K : Kd w wk X x.args ao cap) : TB (kN wk w.heap.size x ao cap) w.heap.size x ao cap ∧ w.grownBy (kN wk w.heap.size x ao cap) (some E.rb) ∧ Rr E (kN wk w.heap.size x ao cap) s d ∧ NdQ w x (.agg (jh x ao cap)) (kN wk w.heap.size x ao cap) := by
 have h0 := f.r0;unfold ju at h0;have hb : Below w.heap.size wk (kN wk w.heap.size x ao cap) := kR (Below.refl _ _) (Nat.le_refl _);refine ⟨TB.set h0 x ao cap, ?_, f.R.keepB hb hB, ⟨ao, cap, rfl, ?_⟩⟩
 · refine yh f.G ⟨hb.os, hb.tape, hb.output, hb.size, fun k hk hne => ?_⟩ (r' := some w.heap.size) (.inr fun g hg => by have := Option.some.inj hg; omega);exact qi rfl (fun e => hne (by rw [e]))
 · refine (SlD.keep K fun b hb2 off => World.cell?_of_block (a := ⟨b, off, none⟩) (qi rfl (by have := hb2.1; show b ≠ w.heap.size; omega))).mono fun b hb2 => ⟨Nat.le_of_lt hb2.1, Nat.lt_of_lt_of_le hb2.2.1 hb.size⟩
theorem Fr.grd {E : Env} {w w1 w2 : World} {d d' : Nat} {s s' : RS} (h : Fr E w d w1 s) (hg : w1.grownBy w2 (some E.rb)) (hr : Rr E w2 s' d') : Fr E w d' w2 s' := ⟨hr, jr h.G hg, kM hg h.r0 (by have := h.rb; omega), h.rb⟩
theorem Fr.set {E : Env} {w w1 : World} {d nb t : Nat} {s : RS} {row : Array Value} (f : Fr E w d w1 s) (h : Vb w nb t row w1) (hB : E.B ≤ w.heap.size) (k : Nat) (v : Value) : Fr E w d (w1.setCell ⟨nb, k, none⟩ v) s := by
 have hl := h.lt;have hb : Below w.heap.size w1 (w1.setCell ⟨nb, k, none⟩ v) := (Below.refl w.heap.size w1).setCell (p := ⟨nb, k, none⟩) (Nat.le_of_lt hl) _;refine ⟨f.R.keepB hb hB, yh f.G (jX w1 nb k v) (.inr fun g hg => ?_), jg f.r0 (by omega) k v, f.rb⟩;have := Option.some.inj hg;omega
theorem Fr.own {E : Env} {w A w9 : World} {d : Nat} {s : RS} {X : Nat → Prop} {r : Option Nat} (f : Fr E w d A s) (hB : E.B ≤ w.heap.size) (hg : AppG w A w9 X r) : Fr E w d w9 s := by
 have hlt := f.lt;have hb := hg.below (Nat.le_of_lt hlt);refine ⟨f.R.keepB hb hB, yh f.G hg.g (.inr fun g e => Nat.le_of_lt (hg.new g e).1), ?_, f.rb⟩;rw [hg.g.block w.heap.size hlt (fun e => by have := (hg.new _ e.symm).1; omega)];exact f.r0
theorem Fr.step {E : Env} {w wk : World} {d : Nat} {s : RS} (f : Fr E w d wk s) (hk : 1 ≤ E.P.K s.i) : Fr E w d (wk.setCell ⟨E.rb, 1, none⟩ (.int .i64 ((s.i : Int) + 1))) (stp s) := ⟨f.R.step1 hk, yh f.G (jX wk E.rb 1 _) (.inl rfl), jg f.r0 (by have := f.rb; omega) 1 _, f.rb⟩
structure Fs (E : Env) (v w : World) (d : Nat) (wk : World) (s : RS) : Prop where
 R : Rr E wk s d
 G : v.grownBy wk (some E.rb)
 lt : w.heap.size < wk.heap.size
 rb : E.rb < w.heap.size
 vw : v.heap.size = w.heap.size + 1
def less (v : World) : World := { v with heap := v.heap.pop }
theorem less_size {v : World} (h : 0 < v.heap.size) : v.heap.size = (less v).heap.size + 1 := by
 show v.heap.size = v.heap.pop.size + 1
 rw [Array.size_pop];omega
theorem Fs.start {E : Env} {v : World} {d : Nat} {s : RS} (h : Rr E v s d) (hB : E.B < v.heap.size) : ∃ w, Fs E v w d v s ∧ E.B ≤ w.heap.size := by
 have h1 := less_size (v := v) (by omega);have h2 := h.low.1;exact ⟨less v, ⟨h, World.grownBy.refl _ _, by omega, by omega, h1⟩, by omega⟩
theorem Fs.grd {E : Env} {v w w1 w2 : World} {d d' : Nat} {s s' : RS} (h : Fs E v w d w1 s) (hg : w1.grownBy w2 (some E.rb)) (hr : Rr E w2 s' d') : Fs E v w d' w2 s' := ⟨hr, jr h.G hg, Nat.lt_of_lt_of_le h.lt hg.size, h.rb, h.vw⟩
theorem Fs.set {E : Env} {v w w1 : World} {d nb t : Nat} {s : RS} {row : Array Value} (f : Fs E v w d w1 s) (h : Vb w nb t row w1) (hB : E.B ≤ w.heap.size) (k : Nat) (x : Value) : Fs E v w d (w1.setCell ⟨nb, k, none⟩ x) s := by
 have hl := h.lt;have hb : Below w.heap.size w1 (w1.setCell ⟨nb, k, none⟩ x) := (Below.refl w.heap.size w1).setCell (p := ⟨nb, k, none⟩) (Nat.le_of_lt hl) _;refine ⟨f.R.keepB hb hB, yh f.G (jX w1 nb k x) (.inr fun g hg => ?_), by rw [World.size_setCell]; exact f.lt, f.rb, f.vw⟩;have := Option.some.inj hg;have := f.vw;omega
theorem Fs.own {E : Env} {v w A w9 : World} {d : Nat} {s : RS} {X : Nat → Prop} {r : Option Nat} (f : Fs E v w d A s) (hB : E.B ≤ w.heap.size) (hg : AppG w A w9 X r) : Fs E v w d w9 s := by
 have hlt := f.lt;have hb := hg.below (Nat.le_of_lt hlt);refine ⟨f.R.keepB hb hB, yh f.G hg.g (.inr fun g e => by have := (hg.new g e).1; have := f.vw; omega), Nat.lt_of_lt_of_le hlt hg.g.size, f.rb, f.vw⟩
structure RAll (E : Env) (g : Nat) : Prop where
 g60 : g ≤ 60
 exp : ∀ w s, Rr E w s (60 - g) → Calls Tryz.prog 56 #[pr E] w (RPost E (60 - g) w (rn (jt E.P g .exp) s) (NdQ w))
 pat : ∀ w s, Rr E w s (60 - g) → Calls Tryz.prog 57 #[pr E] w (RPost E (60 - g) w (rn (jt E.P g .pat) s) (NdQ w))
 typ : ∀ w s, Rr E w s (60 - g) → Calls Tryz.prog 58 #[pr E] w (RPost E (60 - g) w (rn (jt E.P g .typ) s) (NdQ w))
 sig : ∀ w s, Rr E w s (60 - g) → Calls Tryz.prog 151 #[pr E] w (RPost E (60 - g) w (rn (jt E.P g .sig) s) (NdQ w))
 dec : ∀ g', g = g' + 1 → ∀ w s, Rr E w s (60 - g') → s.k = 0 → jK E.P (jv 0) s.i = true → Calls Tryz.prog 107 #[pr E] w (RPost E (60 - g') w (rn (qZ E.P (jf E.P g')) s) (NdQ w))
 deep : ∀ g', g = g' + 1 → ∀ w s, Rr E w s (60 - g') → Calls Tryz.prog 56 #[pr E] w (RPost E (60 - g') w (rn (jt E.P g' .exp) s) (NdQ w))
def jY (N : Nat) (w : World) (b : Nat) : Nat := match w.cell? ⟨b, 4, none⟩ with
 | some (.int _ x) => if x = 0 then N - posOf w b + 1 else 0
 | _ => 0
theorem Rr.left {E : Env} {w : World} {s : RS} {d : Nat} (h : Rr E w s d) (N : Nat) : jY N w E.rb = if s.k = 0 then N - s.i + 1 else 0 := by
 unfold jY;rw [h.cells.1.2.2.2.2.1, h.pos]
 by_cases hs : s.k = 0
 · rw [if_pos hs, hs]; rfl
 · rw [if_neg hs];exact if_neg (by omega)
theorem Ow.q {v w wk : World} {X : Nat → Prop} {x : Value} {l : List Ty} (h : Ow w wk X x l) (hv : v.heap.size = w.heap.size + 1) : OwQ v l x wk := by
 obtain ⟨bs, D, h1, h2, h3, h4⟩ := h;exact ⟨bs, D, h1, ⟨by rw [hv]; exact h2.own, h2.sl⟩, fun b hb => ⟨by have := (h3 b hb).1.1; omega, (h3 b hb).1.2.1, (h3 b hb).2⟩⟩
def OwB (w : World) (l : List Ty) (v : Value) (w' : World) : Prop := OwQ w l v w' ∧ l.length ≤ 200000
theorem kV {α β γ : Type} (m : M α) (f : α → M β) (k : β → M γ) : ((m >>= f) >>= k) = m >>= fun x => f x >>= k := by
 funext i
 show bnd (bnd m f) k i = bnd m (fun x => bnd (f x) k) i
 unfold bnd
 cases m i <;> rfl
theorem vS {α : Type} (m : M α) : (m >>= fun x => (ret x : M α)) = m := by
 funext i
 show bnd m ret i = m i
 unfold bnd
 cases m i <;> rfl
structure SepAt {β : Type} (P : Src) (item : M Ty) (sg : ByteArray) (K : List Ty → M β) (T : Res β) (l : List Ty) (b : Bool) (s : RS) (f : Nat) : Prop where
 eq : T = if b = true then rn (item >>= fun x => ku P item sg f (l ++ [x]) >>= K) s else rn (K l) s
 go : b = true → s.k = 0
 fl : s.k = 0 → P.toks.length ≤ s.i + f ∧ l.length ≤ s.i
theorem sep_head {β : Type} {P : Src} {item : M Ty} {sg : ByteArray} {K : List Ty → M β} {T : Res β} {l : List Ty} {s : RS} {f : Nat} (hT : T = rn (ku P item sg f l >>= K) s) (hf : s.k = 0 → P.toks.length < s.i + f) (hle : s.i ≤ P.toks.length) (hl : s.k = 0 → l.length ≤ s.i) : ∃ f', SepAt P item sg K T l (ka P sg s) (if ka P sg s = true then stp s else s) f' := by
 by_cases hs : s.k = 0
 · have h1 := hf hs;have h2 := hl hs;obtain ⟨f, rfl⟩ : ∃ f', f = f' + 1 := ⟨f - 1, by omega⟩
   have e : ka P sg s = isD P sg s.i := (by unfold ka; rw [decide_eq_true hs, Bool.true_and]);rw [je hs] at hT
   by_cases h : isD P sg s.i = true
   · rw [e, h, if_pos rfl];refine ⟨f, ?_, fun _ => hs, fun _ => ⟨by show _ ≤ s.i + 1 + f; omega, by show _ ≤ s.i + 1; omega⟩⟩;rw [if_pos rfl, je (s := stp s) hs, hT]
     show bnd (ku P item sg (f + 1) l) K s.i = bnd item _ (s.i + 1)
     unfold bnd;rw [vY, if_pos h];exact congrFun (kV item (fun x => ku P item sg f (l ++ [x])) K) (s.i + 1)
   · have h9 : isD P sg s.i = false := by simpa using h
     rw [e, h9, if_neg Bool.false_ne_true];refine ⟨f, ?_, fun h => absurd h Bool.false_ne_true, fun _ => ⟨by omega, by omega⟩⟩;rw [if_neg Bool.false_ne_true, je hs, hT]
     show bnd (ku P item sg (f + 1) l) K s.i = _
     unfold bnd;rw [vY, if_neg h]
 · have e : ka P sg s = false := (by unfold ka; rw [decide_eq_false hs, Bool.false_and]);rw [e, if_neg Bool.false_ne_true];refine ⟨0, ?_, fun h => absurd h Bool.false_ne_true, fun h => absurd h hs⟩;rw [if_neg Bool.false_ne_true, hT, jq hs, jq hs]
theorem SepAt.item {β : Type} {P : Src} {item : M Ty} {sg : ByteArray} {K : List Ty → M β} {T : Res β} {l : List Ty} {s s1 : RS} {f : Nat} {x : Ty} (h : SepAt P item sg K T l true s f) (hr : Rl (rn item s) x s1) (hst : ∀ i x j, item i = .ok x j → i + 1 ≤ j) : T = rn (ku P item sg f (l ++ [x]) >>= K) s1 ∧ (s1.k = 0 → P.toks.length < s1.i + f) ∧ (s1.k = 0 → (l ++ [x]).length ≤ s1.i) ∧ (s1.k = 0 → s.i + 1 ≤ s1.i) := by
 have hs := h.go rfl;have h1 : s1.k = 0 → s.i + 1 ≤ s1.i := fun h0 => hst _ _ _ ((je hs).symm.trans (hr.1 h0))
 have h2 := h.fl hs;refine ⟨(h.eq.trans (if_pos rfl)).trans (vi hr), fun h0 => by have := h1 h0; omega, fun h0 => by have := h1 h0; rw [List.length_append]; simp; omega, h1⟩
theorem SepAt.done {β : Type} {P : Src} {item : M Ty} {sg : ByteArray} {K : List Ty → M β} {T : Res β} {l : List Ty} {s : RS} {f : Nat} (h : SepAt P item sg K T l false s f) : T = rn (K l) s := h.eq.trans (if_neg Bool.false_ne_true)
theorem row_first {β : Type} {P : Src} {item : M Ty} {sg : ByteArray} {K : List Ty → M β} {T : Res β} {s s1 : RS} {x : Ty} (hT : T = rn (jZ P item sg >>= K) s) (hr : Rl (rn item s) x s1) (hst : ∀ i x j, item i = .ok x j → i + 1 ≤ j) : T = rn (ku P item sg (P.toks.length + 1) [x] >>= K) s1 ∧ (s1.k = 0 → P.toks.length < s1.i + (P.toks.length + 1)) ∧ (s1.k = 0 → [x].length ≤ s1.i) := by
 have e : (jZ P item sg >>= K) = item >>= fun x => ku P item sg (P.toks.length + 1) [x] >>= K := kV item _ K;rw [e] at hT;refine ⟨hT.trans (vi hr), fun _ => by omega, fun h0 => ?_⟩
 by_cases hs : s.k = 0
 · have := hst _ _ _ ((je hs).symm.trans (hr.1 h0));simp
   omega
 · rw [jq hs] at hr;have := hr.1 h0
   cases this
structure ManyAt {β : Type} (P : Src) (c : Nat → Bool) (item : M Ty) (K : List Ty → M β) (T : Res β) (l : List Ty) (b : Bool) (s : RS) (f : Nat) : Prop where
 eq : T = if b = true then rn (item >>= fun x => qg c item f (l ++ [x]) >>= K) s else rn (K l) s
 go : b = true → s.k = 0 ∧ c s.i = true
 fl : s.k = 0 → P.toks.length ≤ s.i + f ∧ l.length ≤ s.i + 1
theorem vP {β : Type} {P : Src} {c : Nat → Bool} {item : M Ty} {K : List Ty → M β} {T : Res β} {l : List Ty} {s : RS} {f : Nat} (hT : T = rn (qg c item f l >>= K) s) (hf : s.k = 0 → P.toks.length < s.i + f) (hle : s.i ≤ P.toks.length) (hl : s.k = 0 → l.length ≤ s.i + 1) : ∃ f', ManyAt P c item K T l (decide (s.k = 0) && c s.i) s f' := by
 by_cases hs : s.k = 0
 · have h1 := hf hs;have h2 := hl hs;obtain ⟨f, rfl⟩ : ∃ f', f = f' + 1 := ⟨f - 1, by omega⟩
   rw [decide_eq_true hs, Bool.true_and];rw [je hs] at hT;refine ⟨f, ?_, fun h => ⟨hs, h⟩, fun _ => ⟨by omega, by omega⟩⟩;have e : (qg c item (f + 1) l) s.i = if c s.i = true then (item >>= fun x => qg c item f (l ++ [x])) s.i else .ok l s.i := rfl
   by_cases h : c s.i = true
   · rw [if_pos h, je hs, hT]
     show bnd (qg c item (f + 1) l) K s.i = bnd item _ s.i
     unfold bnd;rw [e, if_pos h];exact congrFun (kV item (fun x => qg c item f (l ++ [x])) K) s.i
   · rw [if_neg h, je hs, hT]
     show bnd (qg c item (f + 1) l) K s.i = _
     unfold bnd;rw [e, if_neg h]
 · rw [decide_eq_false hs, Bool.false_and];refine ⟨0, ?_, fun h => absurd h Bool.false_ne_true, fun h => absurd h hs⟩;rw [if_neg Bool.false_ne_true, hT, jq hs, jq hs]
theorem ManyAt.item {β : Type} {P : Src} {c : Nat → Bool} {item : M Ty} {K : List Ty → M β} {T : Res β} {l : List Ty} {s s1 : RS} {f : Nat} {x : Ty} (h : ManyAt P c item K T l true s f) (hr : Rl (rn item s) x s1) (hst : ∀ i x j, item i = .ok x j → i + 1 ≤ j) : T = rn (qg c item f (l ++ [x]) >>= K) s1 ∧ (s1.k = 0 → P.toks.length < s1.i + f) ∧ (s1.k = 0 → (l ++ [x]).length ≤ s1.i + 1) ∧ (s1.k = 0 → s.i + 1 ≤ s1.i) := by
 have hs := (h.go rfl).1;have h1 : s1.k = 0 → s.i + 1 ≤ s1.i := fun h0 => hst _ _ _ ((je hs).symm.trans (hr.1 h0))
 have h2 := h.fl hs;refine ⟨(h.eq.trans (if_pos rfl)).trans (vi hr), fun h0 => by have := h1 h0; omega, fun h0 => by have := h1 h0; rw [List.length_append]; simp; omega, h1⟩
theorem ManyAt.done {β : Type} {P : Src} {c : Nat → Bool} {item : M Ty} {K : List Ty → M β} {T : Res β} {l : List Ty} {s : RS} {f : Nat} (h : ManyAt P c item K T l false s f) : T = rn (K l) s := h.eq.trans (if_neg Bool.false_ne_true)
theorem item_st {E : Env} {g : Nat} (nt : NT) : ∀ i x j, jt E.P g nt i = .ok x j → i + 1 ≤ j := (kD E.P g).1 nt
theorem jP {E : Env} {w w' : World} {s s1 s' : RS} {d d' : Nat} (h : Rr E w s d) (h' : Rr E w' s' d') (hs : s.k = 0) (h1 : s'.k = 0 → s1.k = 0 ∧ s1.i ≤ s'.i) (h2 : s1.k = 0 → s.i + 1 ≤ s1.i) : jY E.P.toks.length w' E.rb < jY E.P.toks.length w E.rb := by
 rw [h.left, h'.left, if_pos hs]
 by_cases h0 : s'.k = 0
 · rw [if_pos h0];have h3 := h1 h0;have h4 := h2 h3.1;have h5 := h'.le;omega
 · rw [if_neg h0];omega
theorem jQ {P : Src} {sg : ByteArray} {s : RS} : ((if ka P sg s = true then stp s else s).k = 0 → s.k = 0 ∧ s.i ≤ (if ka P sg s = true then stp s else s).i) := by
 intro h
 by_cases hb : ka P sg s = true
 · rw [if_pos hb] at h ⊢;exact ⟨h, Nat.le_succ _⟩
 · rw [if_neg hb] at h ⊢;exact ⟨h, Nat.le_refl _⟩
def kF (x : ByteArray) : Nat :=
 if x = s_asg then 1 else if x = w_orelse then 2 else if x = w_andalso then 3 else if x = s_eq then 4 else if x = s_ne then 4 else if x = s_lt then 4 else if x = s_le then 4 else if x = s_gt then 4 else if x = s_ge then 4 else if x = s_cons then 5 else if x = s_pl then 6 else if x = s_mi then 6 else if x = s_ca then 6 else if x = s_st then 7 else if x = s_sl then 7 else if x = s_pc then 7 else 0
theorem rbind_any (x : ByteArray) (w : World) : Calls Tryz.prog 112 #[.string x] w fun e w' => e = .returned (.int .i64 (kF x : Int)) ∧ w' = w := by
 obtain ⟨v, hv⟩ : ∃ v, v = kF x := ⟨_, rfl⟩
 rw [← hv];have HV := lh hv;clear hv;go_enter Tryz.func112, Tryz.ntmps112
 by_cases h0 : x.toList = [58, 61]
 · have e0 : (x.toList == [58, 61]) = true := (by simp [h0]);have H0 : Hid (x = s_asg) := lh (ba_eq.1 (h0.trans (by rw [ByteArray.toList_eq])));have HE : Hid (v = 1) := lh (by rw [HV.out]; unfold kF; rw [if_pos H0.out]);go_wp2_with fail
   go_ret
   exact ⟨by rw [HE.out]; first | rfl | simp, rfl⟩
 have e0 : (x.toList == [58, 61]) = false := by simp [h0]
 have H0 : Hid (¬ x = s_asg) := lh (fun e => h0 (by rw [e, ByteArray.toList_eq]))
 by_cases h1 : x.toList = [111, 114, 101, 108, 115, 101]
 · have e1 : (x.toList == [111, 114, 101, 108, 115, 101]) = true := (by simp [h1]);have H1 : Hid (x = w_orelse) := lh (ba_eq.1 (h1.trans (by rw [ByteArray.toList_eq])));have HE : Hid (v = 2) := lh (by rw [HV.out]; unfold kF; rw [if_neg (H0.out), if_pos H1.out]);go_wp2_with fail
   go_ret
   exact ⟨by rw [HE.out]; first | rfl | simp, rfl⟩
 have e1 : (x.toList == [111, 114, 101, 108, 115, 101]) = false := by simp [h1]
 have H1 : Hid (¬ x = w_orelse) := lh (fun e => h1 (by rw [e, ByteArray.toList_eq]))
 by_cases h2 : x.toList = [97, 110, 100, 97, 108, 115, 111]
 · have e2 : (x.toList == [97, 110, 100, 97, 108, 115, 111]) = true := (by simp [h2]);have H2 : Hid (x = w_andalso) := lh (ba_eq.1 (h2.trans (by rw [ByteArray.toList_eq])));have HE : Hid (v = 3) := lh (by rw [HV.out]; unfold kF; rw [if_neg (H0.out), if_neg (H1.out), if_pos H2.out]);go_wp2_with fail
   go_ret
   exact ⟨by rw [HE.out]; first | rfl | simp, rfl⟩
 have e2 : (x.toList == [97, 110, 100, 97, 108, 115, 111]) = false := by simp [h2]
 have H2 : Hid (¬ x = w_andalso) := lh (fun e => h2 (by rw [e, ByteArray.toList_eq]))
 by_cases h3 : x.toList = [61]
 · have e3 : (x.toList == [61]) = true := (by simp [h3]);have H3 : Hid (x = s_eq) := lh (ba_eq.1 (h3.trans (by rw [ByteArray.toList_eq])));have HE : Hid (v = 4) := lh (by rw [HV.out]; unfold kF; rw [if_neg (H0.out), if_neg (H1.out), if_neg (H2.out), if_pos H3.out]);go_wp2_with fail
   go_ret
   exact ⟨by rw [HE.out]; first | rfl | simp, rfl⟩
 have e3 : (x.toList == [61]) = false := by simp [h3]
 have H3 : Hid (¬ x = s_eq) := lh (fun e => h3 (by rw [e, ByteArray.toList_eq]))
 by_cases h4 : x.toList = [60, 62]
 · have e4 : (x.toList == [60, 62]) = true := (by simp [h4]);have H4 : Hid (x = s_ne) := lh (ba_eq.1 (h4.trans (by rw [ByteArray.toList_eq])));have HE : Hid (v = 4) := lh (by rw [HV.out]; unfold kF; rw [if_neg (H0.out), if_neg (H1.out), if_neg (H2.out), if_neg (H3.out), if_pos H4.out]);go_wp2_with fail
   go_ret
   exact ⟨by rw [HE.out]; first | rfl | simp, rfl⟩
 have e4 : (x.toList == [60, 62]) = false := by simp [h4]
 have H4 : Hid (¬ x = s_ne) := lh (fun e => h4 (by rw [e, ByteArray.toList_eq]))
 by_cases h5 : x.toList = [60]
 · have e5 : (x.toList == [60]) = true := (by simp [h5]);have H5 : Hid (x = s_lt) := lh (ba_eq.1 (h5.trans (by rw [ByteArray.toList_eq])));have HE : Hid (v = 4) := lh (by rw [HV.out]; unfold kF; rw [if_neg (H0.out), if_neg (H1.out), if_neg (H2.out), if_neg (H3.out), if_neg (H4.out), if_pos H5.out]);go_wp2_with fail
   go_ret
   exact ⟨by rw [HE.out]; first | rfl | simp, rfl⟩
 have e5 : (x.toList == [60]) = false := by simp [h5]
 have H5 : Hid (¬ x = s_lt) := lh (fun e => h5 (by rw [e, ByteArray.toList_eq]))
 by_cases h6 : x.toList = [60, 61]
 · have e6 : (x.toList == [60, 61]) = true := (by simp [h6]);have H6 : Hid (x = s_le) := lh (ba_eq.1 (h6.trans (by rw [ByteArray.toList_eq])));have HE : Hid (v = 4) := lh (by rw [HV.out]; unfold kF; rw [if_neg (H0.out), if_neg (H1.out), if_neg (H2.out), if_neg (H3.out), if_neg (H4.out), if_neg (H5.out), if_pos H6.out]);go_wp2_with fail
   go_ret
   exact ⟨by rw [HE.out]; first | rfl | simp, rfl⟩
 have e6 : (x.toList == [60, 61]) = false := by simp [h6]
 have H6 : Hid (¬ x = s_le) := lh (fun e => h6 (by rw [e, ByteArray.toList_eq]))
 by_cases h7 : x.toList = [62]
 · have e7 : (x.toList == [62]) = true := (by simp [h7]);have H7 : Hid (x = s_gt) := lh (ba_eq.1 (h7.trans (by rw [ByteArray.toList_eq])));have HE : Hid (v = 4) := lh (by rw [HV.out]; unfold kF; rw [if_neg (H0.out), if_neg (H1.out), if_neg (H2.out), if_neg (H3.out), if_neg (H4.out), if_neg (H5.out), if_neg (H6.out), if_pos H7.out]);go_wp2_with fail
   go_ret
   exact ⟨by rw [HE.out]; first | rfl | simp, rfl⟩
 have e7 : (x.toList == [62]) = false := by simp [h7]
 have H7 : Hid (¬ x = s_gt) := lh (fun e => h7 (by rw [e, ByteArray.toList_eq]))
 by_cases h8 : x.toList = [62, 61]
 · have e8 : (x.toList == [62, 61]) = true := (by simp [h8]);have H8 : Hid (x = s_ge) := lh (ba_eq.1 (h8.trans (by rw [ByteArray.toList_eq])));have HE : Hid (v = 4) := lh (by rw [HV.out]; unfold kF; rw [if_neg (H0.out), if_neg (H1.out), if_neg (H2.out), if_neg (H3.out), if_neg (H4.out), if_neg (H5.out), if_neg (H6.out), if_neg (H7.out), if_pos H8.out]);go_wp2_with fail
   go_ret
   exact ⟨by rw [HE.out]; first | rfl | simp, rfl⟩
 have e8 : (x.toList == [62, 61]) = false := by simp [h8]
 have H8 : Hid (¬ x = s_ge) := lh (fun e => h8 (by rw [e, ByteArray.toList_eq]))
 by_cases h9 : x.toList = [58, 58]
 · have e9 : (x.toList == [58, 58]) = true := (by simp [h9]);have H9 : Hid (x = s_cons) := lh (ba_eq.1 (h9.trans (by rw [ByteArray.toList_eq])));have HE : Hid (v = 5) := lh (by rw [HV.out]; unfold kF; rw [if_neg (H0.out), if_neg (H1.out), if_neg (H2.out), if_neg (H3.out), if_neg (H4.out), if_neg (H5.out), if_neg (H6.out), if_neg (H7.out), if_neg (H8.out), if_pos H9.out]);go_wp2_with fail
   go_ret
   exact ⟨by rw [HE.out]; first | rfl | simp, rfl⟩
 have e9 : (x.toList == [58, 58]) = false := by simp [h9]
 have H9 : Hid (¬ x = s_cons) := lh (fun e => h9 (by rw [e, ByteArray.toList_eq]))
 by_cases h10 : x.toList = [43]
 · have e10 : (x.toList == [43]) = true := (by simp [h10]);have H10 : Hid (x = s_pl) := lh (ba_eq.1 (h10.trans (by rw [ByteArray.toList_eq])));have HE : Hid (v = 6) := lh (by rw [HV.out]; unfold kF; rw [if_neg (H0.out), if_neg (H1.out), if_neg (H2.out), if_neg (H3.out), if_neg (H4.out), if_neg (H5.out), if_neg (H6.out), if_neg (H7.out), if_neg (H8.out), if_neg (H9.out), if_pos H10.out]);go_wp2_with fail
   go_ret
   exact ⟨by rw [HE.out]; first | rfl | simp, rfl⟩
 have e10 : (x.toList == [43]) = false := by simp [h10]
 have H10 : Hid (¬ x = s_pl) := lh (fun e => h10 (by rw [e, ByteArray.toList_eq]))
 by_cases h11 : x.toList = [45]
 · have e11 : (x.toList == [45]) = true := (by simp [h11]);have H11 : Hid (x = s_mi) := lh (ba_eq.1 (h11.trans (by rw [ByteArray.toList_eq])));have HE : Hid (v = 6) := lh (by rw [HV.out]; unfold kF; rw [if_neg (H0.out), if_neg (H1.out), if_neg (H2.out), if_neg (H3.out), if_neg (H4.out), if_neg (H5.out), if_neg (H6.out), if_neg (H7.out), if_neg (H8.out), if_neg (H9.out), if_neg (H10.out), if_pos H11.out]);go_wp2_with fail
   go_ret
   exact ⟨by rw [HE.out]; first | rfl | simp, rfl⟩
 have e11 : (x.toList == [45]) = false := by simp [h11]
 have H11 : Hid (¬ x = s_mi) := lh (fun e => h11 (by rw [e, ByteArray.toList_eq]))
 by_cases h12 : x.toList = [94]
 · have e12 : (x.toList == [94]) = true := (by simp [h12]);have H12 : Hid (x = s_ca) := lh (ba_eq.1 (h12.trans (by rw [ByteArray.toList_eq])));have HE : Hid (v = 6) := lh (by rw [HV.out]; unfold kF; rw [if_neg (H0.out), if_neg (H1.out), if_neg (H2.out), if_neg (H3.out), if_neg (H4.out), if_neg (H5.out), if_neg (H6.out), if_neg (H7.out), if_neg (H8.out), if_neg (H9.out), if_neg (H10.out), if_neg (H11.out), if_pos H12.out]);go_wp2_with fail
   go_ret
   exact ⟨by rw [HE.out]; first | rfl | simp, rfl⟩
 have e12 : (x.toList == [94]) = false := by simp [h12]
 have H12 : Hid (¬ x = s_ca) := lh (fun e => h12 (by rw [e, ByteArray.toList_eq]))
 by_cases h13 : x.toList = [42]
 · have e13 : (x.toList == [42]) = true := (by simp [h13]);have H13 : Hid (x = s_st) := lh (ba_eq.1 (h13.trans (by rw [ByteArray.toList_eq])));have HE : Hid (v = 7) := lh (by rw [HV.out]; unfold kF; rw [if_neg (H0.out), if_neg (H1.out), if_neg (H2.out), if_neg (H3.out), if_neg (H4.out), if_neg (H5.out), if_neg (H6.out), if_neg (H7.out), if_neg (H8.out), if_neg (H9.out), if_neg (H10.out), if_neg (H11.out), if_neg (H12.out), if_pos H13.out]);go_wp2_with fail
   go_ret
   exact ⟨by rw [HE.out]; first | rfl | simp, rfl⟩
 have e13 : (x.toList == [42]) = false := by simp [h13]
 have H13 : Hid (¬ x = s_st) := lh (fun e => h13 (by rw [e, ByteArray.toList_eq]))
 by_cases h14 : x.toList = [47]
 · have e14 : (x.toList == [47]) = true := (by simp [h14]);have H14 : Hid (x = s_sl) := lh (ba_eq.1 (h14.trans (by rw [ByteArray.toList_eq])));have HE : Hid (v = 7) := lh (by rw [HV.out]; unfold kF; rw [if_neg (H0.out), if_neg (H1.out), if_neg (H2.out), if_neg (H3.out), if_neg (H4.out), if_neg (H5.out), if_neg (H6.out), if_neg (H7.out), if_neg (H8.out), if_neg (H9.out), if_neg (H10.out), if_neg (H11.out), if_neg (H12.out), if_neg (H13.out), if_pos H14.out]);go_wp2_with fail
   go_ret
   exact ⟨by rw [HE.out]; first | rfl | simp, rfl⟩
 have e14 : (x.toList == [47]) = false := by simp [h14]
 have H14 : Hid (¬ x = s_sl) := lh (fun e => h14 (by rw [e, ByteArray.toList_eq]))
 by_cases h15 : x.toList = [37]
 · have e15 : (x.toList == [37]) = true := (by simp [h15]);have H15 : Hid (x = s_pc) := lh (ba_eq.1 (h15.trans (by rw [ByteArray.toList_eq])));have HE : Hid (v = 7) := lh (by rw [HV.out]; unfold kF; rw [if_neg (H0.out), if_neg (H1.out), if_neg (H2.out), if_neg (H3.out), if_neg (H4.out), if_neg (H5.out), if_neg (H6.out), if_neg (H7.out), if_neg (H8.out), if_neg (H9.out), if_neg (H10.out), if_neg (H11.out), if_neg (H12.out), if_neg (H13.out), if_neg (H14.out), if_pos H15.out]);go_wp2_with fail
   go_ret
   exact ⟨by rw [HE.out]; first | rfl | simp, rfl⟩
 have e15 : (x.toList == [37]) = false := by simp [h15]
 have H15 : Hid (¬ x = s_pc) := lh (fun e => h15 (by rw [e, ByteArray.toList_eq]));have HE : Hid (v = 0) := lh (by rw [HV.out]; unfold kF; rw [if_neg (H0.out), if_neg (H1.out), if_neg (H2.out), if_neg (H3.out), if_neg (H4.out), if_neg (H5.out), if_neg (H6.out), if_neg (H7.out), if_neg (H8.out), if_neg (H9.out), if_neg (H10.out), if_neg (H11.out), if_neg (H12.out), if_neg (H13.out), if_neg (H14.out), if_neg (H15.out)]);go_wp2_with fail
 go_ret
 exact ⟨by rw [HE.out]; first | rfl | simp, rfl⟩
abbrev ar (v : Value) : Option Value → Array Value
 | none => #[v]
 | some x => #[v, x]
structure CR (f : Nat) (x : Option Value) (n : Ty) (ws : List ByteArray) : Prop where
 call : Wz ws → ∀ {W : World} {ao : Option Addr} {cap : Nat}, SlD W (fun b => b < W.heap.size) n.args ao cap → Calls Tryz.prog f (ar (.agg (jh n ao cap)) x) W fun e w' => e = .returned (.string (tx ws)) ∧ Below W.heap.size W w'
structure Rg (w0 W : World) (bs : List Bx) : Prop where
 b : Below w0.heap.size w0 W
 x : ∀ y ∈ bs, W.heap[y.1]? = some (.cells y.2.1 y.2.2 (0, 0))
section
variable {w0 W W' : World} {bs : List Bx} {ws ts : List ByteArray}
theorem Rg.below (h : Rg w0 W bs) (hb : Below W.heap.size W W') : Rg w0 W' bs := ⟨h.b.trans (hb.mono h.b.size), fun y hy => jo (h.x y hy) hb (lt_of_block (h.x y hy))⟩
theorem Rg.drew (h : Rg w0 W bs) : Rg w0 W.drew bs := h.below (bdrewN (Below.refl _ _) 1)
theorem Rg.box (h : Rg w0 W bs) {c : Array Value} {t : TypeId} (e : W' = W.alloc (.cells c t)) : Rg w0 W' ((W.heap.size, c, t) :: bs) := by
 have hb : Below W.heap.size W W' := by rw [e]; exact jk (Below.refl _ _) _
 refine ⟨(h.below hb).b, fun y hy => ?_⟩;rcases List.mem_cons.1 hy with rfl | hy
 · rw [e]; exact heap_alloc_new W _
 · exact (h.below hb).x y hy
theorem Rg.sl (h : Rg w0 W bs) {K : List Ty} {ao : Option Addr} {cap : Nat} (hs : SlD w0 (fun b => b < w0.heap.size) K ao cap) : SlD W (fun b => b < W.heap.size) K ao cap :=
 (hs.keep fun b hb off => below_cells h.b b hb off).mono fun b hb => Nat.lt_of_lt_of_le hb h.b.size
theorem Rg.kid (h : Rg w0 W bs) {K : List Ty} {ao : Option Addr} {cap : Nat} (hS : SlD w0 (fun b => b < w0.heap.size) K ao cap) (j : Nat) (x : Ty) (hx : K[j]? = some x) (c : Nat) (hc : c = K.length) (i : Int) (hi : i = (j : Int)) : ∃ b p ap cp, Hid (SlD w0 (fun b => b < w0.heap.size) x.args ap cp) ∧ (∀ w' : World, (Instr.indexAt 24 (.slice ao c cap) (.int .i64 i)).run Tryz.prog w' = .ok (.pointer (some ⟨b, p, none⟩)) w') ∧
 Hid (∀ u bs, Rg w0 u bs → u.cell? ⟨b, p, none⟩ = some (.int .i64 x.k) ∧ u.cell? ⟨b, p + 1, none⟩ = some (.int .i64 x.n) ∧ u.cell? ⟨b, p + 2, none⟩ = some (.string x.s) ∧ u.cell? ⟨b, p + 3, none⟩ = some (.int .i64 x.q) ∧ u.cell? ⟨b, p + 4, none⟩ = some (.slice ap x.args.length cp)) := by
 obtain ⟨hj, rfl⟩ := List.getElem?_eq_some_iff.1 hx;subst hc hi;obtain ⟨b, p, ap, cp, hD, hix, x0, x1, x2, x3, x4, hs⟩ := arg_cells hS hj;refine ⟨b, p, ap, cp, lh hs, hix, lh fun u bs hu => ?_⟩;have hc := below_cells hu.b b hD;rw [hc, hc, hc, hc, hc];exact ⟨x0, x1, x2, x3, x4⟩
theorem Rg.call {f : Nat} {x : Option Value} {n : Ty} (h : Hid (Rg w0 W bs)) (HW : Hid (Wz ts)) (hc : CR f x n ws) {ao : Option Addr} {cap : Nat} (hs : SlD w0 (fun b => b < w0.heap.size) n.args ao cap) {R : Ending → World → Prop} (k : ∀ u, Hid (Rg w0 u bs) → R (.returned (.string (tx ws))) u)
 (hp : Pt ws ts := by exact ⟨(by intro w hw; (try simp only [qz, rnd_f] at hw ⊢); grind), (by (try simp only [jl, jL, qz, rnd_f, sz_lit, List.length_cons, List.length_nil]) <;> omega)⟩) : Calls Tryz.prog f (ar (.agg (jh n ao cap)) x) W R :=
 (hc.call (HW.out.pt hp) (h.out.sl hs)).mono (by rintro e u ⟨rfl, hb⟩; exact k u (lh (h.out.below hb)))
end
theorem jN (w0 : World) (k a : Int) (s : ByteArray) (q : Int) (x : Value) : ∃ V, V = w0.alloc (.cells #[.int .i64 k, .int .i64 a, .string s, .int .i64 q, x] 26) ∧ Hid (Rg w0 V [(w0.heap.size, #[.int .i64 k, .int .i64 a, .string s, .int .i64 q, x], 26)]) ∧
 Hid (∀ u, Rg w0 u [(w0.heap.size, #[.int .i64 k, .int .i64 a, .string s, .int .i64 q, x], 26)] → u.cell? ⟨w0.heap.size, 0, none⟩ = some (.int .i64 k) ∧ u.cell? ⟨w0.heap.size, 1, none⟩ = some (.int .i64 a) ∧ u.cell? ⟨w0.heap.size, 2, none⟩ = some (.string s) ∧ u.cell? ⟨w0.heap.size, 3, none⟩ = some (.int .i64 q) ∧ u.cell? ⟨w0.heap.size, 4, none⟩ = some x) :=
 ⟨_, rfl, lh ((⟨Below.refl _ _, fun y hy => by cases hy⟩ : Rg w0 w0 []).box rfl), lh fun u h => jM (h.x _ i0)⟩
def km (k : Int) (s : ByteArray) (c : Nat) : Nat :=
 if k = 7 ∨ k = 9 ∨ k = 13 ∨ k = 27 ∨ k = 33 then 0 else if k = 17 then 2 else if k = 16 then 3 else if k = 18 then (if c = 1 then 9 else kF s) else if k = 8 then 8 else if k = 24 then (if 0 < c then 1 else 10) else if k = 32 then 1 else 10
theorem wbinds_any (k a : Int) (s : ByteArray) (q : Int) (ao : Option Addr) (c cap : Nat) (w : World) : Calls Tryz.prog 59 #[.agg #[.int .i64 k, .int .i64 a, .string s, .int .i64 q, .slice ao c cap]] w fun e w' => e = .returned (.int .i64 (km k s c)) ∧ Below w.heap.size w w' := by
 obtain ⟨V, hV, G, HF⟩ := jN w k a s q (.slice ao c cap);have c5 := HF.out _ G.out;go_enter Tryz.func59, Tryz.ntmps59
 go_upto_region 1 with fail
 rw [← hV];clear hV
 by_cases h7 : k = 7
 · subst h7;go_wp2_with fail
   go_ret
   exact ⟨by simp [km], G.out.b⟩
 have e7 : (k == 7) = false := by simpa using h7
 by_cases h9 : k = 9
 · subst h9;go_wp2_with fail
   go_ret
   exact ⟨by simp [km], G.out.b⟩
 have e9 : (k == 9) = false := by simpa using h9
 by_cases h13 : k = 13
 · subst h13;go_wp2_with fail
   go_ret
   exact ⟨by simp [km], G.out.b⟩
 have e13 : (k == 13) = false := by simpa using h13
 by_cases h27 : k = 27
 · subst h27;go_wp2_with fail
   go_ret
   exact ⟨by simp [km], G.out.b⟩
 have e27 : (k == 27) = false := by simpa using h27
 by_cases h33 : k = 33
 · subst h33;go_wp2_with fail
   go_ret
   exact ⟨by simp [km], G.out.b⟩
 have e33 : (k == 33) = false := by simpa using h33
 by_cases h17 : k = 17
 · subst h17;go_wp2_with fail
   go_ret
   exact ⟨by simp [km], G.out.b⟩
 have e17 : (k == 17) = false := by simpa using h17
 by_cases h16 : k = 16
 · subst h16;go_wp2_with fail
   go_ret
   exact ⟨by simp [km], G.out.b⟩
 have e16 : (k == 16) = false := by simpa using h16
 by_cases h18 : k = 18
 · subst h18
   by_cases h1 : c = 1
   · subst h1;go_wp2_with fail
     go_ret
     exact ⟨by simp [km], G.out.b⟩
   · have e1 : ((c : Int) == 1) = false := (by simp; omega);have HB : Hid (∀ u, Calls Tryz.prog 112 #[.string s] u fun e w' => e = .returned (.int .i64 (kF s : Int)) ∧ w' = u) := lh (fun u => rbind_any _ u);go_wp2_with (go_at_call 112; refine (HB.out _).mono ?_; rintro e u ⟨rfl, rfl⟩)
     go_ret
     exact ⟨by simp [km, h1], G.out.b⟩
 have e18 : (k == 18) = false := by simpa using h18
 by_cases h8 : k = 8
 · subst h8;go_wp2_with fail
   go_ret
   exact ⟨by simp [km], G.out.b⟩
 have e8 : (k == 8) = false := by simpa using h8
 by_cases h24 : k = 24
 · subst h24
   by_cases h0 : 0 < c
   · have e1 : decide ((0 : Int) < (c : Int)) = true := (by simp; omega);have e2 : decide (0 < c) = true := (by simp; omega);go_wp2_with fail
     go_ret
     exact ⟨by simp [km, h0], G.out.b⟩
   · have e1 : decide ((0 : Int) < (c : Int)) = false := (by simp; omega);have e2 : decide (0 < c) = false := (by simp; omega);go_wp2_with fail
     go_ret
     exact ⟨by simp [km, h0], G.out.b⟩
 have e24 : (k == 24) = false := by simpa using h24
 by_cases h32 : k = 32
 · subst h32;go_wp2_with fail
   go_ret
   exact ⟨by simp [km], G.out.b⟩
 have e32 : (k == 32) = false := by simpa using h32
 go_wp2_with fail
 go_ret
 exact ⟨by simp [km, h7, h9, h13, h27, h33, h17, h16, h18, h8, h24, h32], G.out.b⟩
theorem pt_refl (ws : List ByteArray) : Pt ws ws := ⟨fun _ h => h, Nat.le_refl _⟩
theorem pt_rnd (b : Bool) (ws : List ByteArray) : Pt ws (rnd b ws) := by
 cases b with
 | false => exact pt_refl _
 | true => exact ⟨fun w h => by simp [qz, h], by simp only [qz, jl, jL]; omega⟩
theorem wshown {n : Ty} {ws : List ByteArray} {k l : Int} (hb : (km n.k n.s n.args.length : Int) = k) (h : CR 60 (some (.int .i64 k)) n ws) : CR 26 (some (.int .i64 l)) n (rnd (decide (k < l)) ws) := by
 refine ⟨fun hw {W ao cap} hs => ?_⟩;obtain ⟨V, hV, G, HF⟩ := jN W n.k n.n n.s n.q (.slice ao n.args.length cap);have H5 : Hid (∀ u, Calls Tryz.prog 59 #[.agg #[.int .i64 n.k, .int .i64 n.n, .string n.s, .int .i64 n.q, .slice ao n.args.length cap]] u fun e w' => e = .returned (.int .i64 k) ∧ Below u.heap.size u w') := lh (fun u => by have := wbinds_any n.k n.n n.s n.q ao n.args.length cap u; rw [hb] at this; exact this);have H1 := lh h;have HS := lh hs;have HW := lh hw;have c := HF.out _ G.out;clear h hs hw hb
 show Calls Tryz.prog 26 #[.agg #[.int .i64 n.k, .int .i64 n.n, .string n.s, .int .i64 n.q, .slice ao n.args.length cap], .int .i64 l] W _
 go_enter Tryz.func26, Tryz.ntmps26
 go_upto_region 1 with fail
 rw [← hV];clear hV;go_upto_region 2 with (go_at_call 59; refine (H5.out _).mono ?_; rintro e u ⟨rfl, hb⟩; replace G := lh (G.out.below hb); clear hb)
 have c := HF.out _ G.out;go_upto_region 3 with (go_at_call 60; refine Rg.call G HW H1.out HS.out ?_ (pt_rnd _ _); intro u2 G)
 go_wp2_with (go_at_call 61; refine vH HW ?_ (pt_refl _))
 go_ret
 exact ⟨rfl, G.out.b⟩
def qe (ss : List ByteArray) : List (List ByteArray) → List ByteArray
 | [] => []
 | [x] => x
 | x :: y :: r => x ++ (ss ++ qe ss (y :: r))
theorem sepT_one (s : ByteArray) : ∀ l, qe [s] l = qG s l
 | [] => rfl
 | [x] => rfl
 | x :: y :: r => by rw [qe, qG, sepT_one s (y :: r)]; rfl
theorem sepT_nil : ∀ l, qe [] l = l.flatten
 | [] => rfl
 | [x] => by simp [qe]
 | x :: y :: r => by rw [qe, sepT_nil (y :: r)]; simp
theorem sepT_app (ss : List ByteArray) : ∀ (l : List (List ByteArray)) (x : List ByteArray) (r : List (List ByteArray)), l ≠ [] → qe ss (l ++ x :: r) = qe ss l ++ (ss ++ qe ss (x :: r))
 | [], _, _, h => absurd rfl h
 | [y], x, r, _ => rfl
 | y :: z :: l, x, r, _ => by
  have h := sepT_app ss (z :: l) x r (by simp)
  show y ++ (ss ++ qe ss ((z :: l) ++ x :: r)) = (y ++ (ss ++ qe ss (z :: l))) ++ _
  rw [h]; simp
theorem sepT_step (ss : List ByteArray) {l : List (List ByteArray)} {i : Nat} (hi : i < l.length) : qe ss (l.take (i + 1)) = (if i = 0 then [] else qe ss (l.take i) ++ ss) ++ l[i] := by
 rw [List.take_succ_eq_append_getElem hi]
 by_cases h : i = 0
 · subst h; simp [qe]
 · rw [if_neg h, sepT_app ss _ _ _ (by intro e; have h2 := congrArg List.length e; rw [List.length_take, List.length_nil] at h2; omega)];simp [qe]
theorem sepT_pt (ss : List ByteArray) (l : List (List ByteArray)) (i : Nat) : Pt (qe ss (l.take i)) (qe ss l) := by
 obtain ⟨t, ht⟩ : ∃ t, qe ss l = qe ss (l.take i) ++ t := by
  by_cases h : l.take i = []
  · exact ⟨qe ss l, by rw [h]; rfl⟩
  · cases hd : l.drop i with
    | nil =>
     have h2 := List.take_append_drop i l;rw [hd, List.append_nil] at h2;exact ⟨[], by rw [h2]; simp⟩
    | cons x r =>
     have h2 := List.take_append_drop i l;rw [hd] at h2;have h3 := sepT_app ss (l.take i) x r h;rw [h2] at h3;exact ⟨_, h3⟩
 rw [ht];exact ⟨fun w hw => List.mem_append_left _ hw, by rw [jL]; omega⟩
theorem wmany_any {K : List Ty} {wss : List (List ByteArray)} {ss : List ByteArray} (hl : wss.length = K.length) (h : ∀ i (hi : i < K.length) (hi2 : i < wss.length), CR 10 none K[i] wss[i]) (hw : Wz (qe ss wss)) (hss : Wz ss) (hn : K.length ≤ 4000000001) {W : World} {ao : Option Addr} {c cap : Nat} (hc : c = K.length) (hS : SlD W (fun b => b < W.heap.size) K ao cap) :
 Calls Tryz.prog 24 #[.slice ao c cap, .string (tx ss)] W fun e w' => e = .returned (.string (tx (qe ss wss))) ∧ Below W.heap.size W w' := by
 have HL := lh hl;have H1 := lh h;have HW := lh hw;have HSS := lh hss;have HC := lh hc;have HS := lh hS;have hb : c ≤ 4000000001 := by rw [hc]; exact hn
 clear hl h hw hss hc hS hn;go_enter Tryz.func24, Tryz.ntmps24
 go_wp2_with fail
 go_loopw [5, 6] (fun v i wr => ∃ k : Nat, k ≤ c ∧ i = .int .i64 k ∧ v = .string (tx (qe ss (wss.take k))) ∧ Rg W wr []) (fun _ i _ => c - (intOf i).toNat)
 case atStart => exact ⟨0, Nat.zero_le _, rfl, rfl, Below.refl _ _, fun y hy => by cases hy⟩
 case round =>
  obtain ⟨k, hk, rfl, rfl, hg⟩ := hrel;have G := lh hg;clear hg
  by_cases hlt : k < c
  · have hd : decide ((k : Int) < (c : Int)) = true := (by simp; omega);have hlk : k < K.length := (by rw [← HC.out]; exact hlt);have hlw : k < wss.length := (by rw [HL.out]; exact hlk);obtain ⟨b, p, ap, cp, HS1, hix, HX⟩ := G.out.kid HS.out k K[k] (List.getElem?_eq_getElem hlk) c HC.out k rfl;have HST := lh (sepT_step ss hlw);have HK := lh (H1.out k hlk hlw);have HWT := lh (HW.out.pt (sepT_pt ss wss (k + 1)));have HT0 : Hid (k = 0 → qe ss (wss.take k) = []) := lh (fun e => by subst e; rfl);generalize qe ss (wss.take k) = S0 at *
    generalize wss[k] = ws at *
    generalize K[k] = n at *
    by_cases h0 : 0 < k
    · have e1 : decide ((0 : Int) < (k : Int)) = true := (by simp; omega);have e2 : decide (0 < k) = true := (by simp; omega);have hs1 : Hid (qe ss (wss.take (k + 1)) = S0 ++ ss ++ ws) := lh (by have := HST.out; rw [if_neg (by omega)] at this; exact this);have hw1 : Hid (Wz (S0 ++ ss ++ ws)) := lh (by have := HWT.out; rw [hs1.out] at this; exact this);clear HST HWT HT0;have x := HX.out _ _ G.out;go_upto_region 7 with (go_at_call 25; refine kl hw1 ?_)
      go_upto_region 8 with (go_at_call 10; refine Rg.call G hw1 HK.out HS1.out ?_; intro u G)
      go_wp2_with (go_at_call 25; refine kl hw1 ?_)
      go_roundw
      case rel => exact ⟨k + 1, by omega, by go_num, by rw [hs1.out, List.append_assoc], G.out⟩
      case measure => simp [intOf]; omega
    · have e1 : decide ((0 : Int) < (k : Int)) = false := (by simp; omega);have e2 : decide (0 < k) = false := (by simp; omega);have h9 : S0 = [] := HT0.out (by omega);subst h9;have hs1 : Hid (qe ss (wss.take (k + 1)) = ws) := lh (by have := HST.out; rw [if_pos (by omega)] at this; exact this);have hw1 : Hid (Wz ws) := lh (by have := HWT.out; rw [hs1.out] at this; exact this);clear HST HWT HT0;have x := HX.out _ _ G.out;go_upto_region 8 with (go_at_call 10; refine Rg.call G hw1 HK.out HS1.out ?_; intro u G)
      go_wp2_with (go_at_call 25; refine kl hw1 ?_)
      go_roundw
      case rel => exact ⟨k + 1, by omega, by go_num, by rw [hs1.out], G.out⟩
      case measure => simp [intOf]; omega
  · have hd : decide ((k : Int) < (c : Int)) = false := (by simp; omega);go_wp2_with fail
    go_ret
    exact ⟨by rw [List.take_of_length_le (by rw [HL.out, ← HC.out]; omega)]; rfl, G.out.b⟩
end Go.Proofs.YthehjeeiodbkjaaGreatDoor
