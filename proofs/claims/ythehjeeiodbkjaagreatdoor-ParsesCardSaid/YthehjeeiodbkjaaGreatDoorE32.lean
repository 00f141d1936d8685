/-
  Proved: the contract of the document's atom; the contract of the document's prefix; the contract of the document's apply. Conditions: the reader as it stands in memory; what it reads within.
-/
import Derived.Test.YthehjeeiodbkjaaGreatDoorE31
import Derived.Test.YthehjeeiodbkjaaGreatDoorE29
set_option linter.unusedSimpArgs false
set_option linter.unusedVariables false
set_option maxRecDepth 100000
set_option maxHeartbeats 16000000
namespace Go.Proofs.YthehjeeiodbkjaaGreatDoor
open Go.RowKit
theorem atom_1 {P : Src} {R : Rec} {i : Nat} (h : P.K i = 1) : atomB P R i = .ok (.mk 1 (P.A i) ⟨#[]⟩ (P.N i) []) (i + 1) := by
 unfold atomB
 rw [if_pos h]
theorem atom_2 {P : Src} {R : Rec} {i : Nat} (h : P.K i = 2) : atomB P R i = .ok (.mk 2 (P.A i) (P.T i) 0 []) (i + 1) := by
 unfold atomB
 rw [if_neg (by rw [h]; decide), if_pos h]
theorem atom_3 {P : Src} {R : Rec} {i : Nat} (h : P.K i = 3 ∨ P.K i = 4) : atomB P R i = (pathD P 0 >>= fun p => (ret (.mk (if p.2 = 3 then 3 else 4) (P.A i) p.1 0 []) : M Ty)) i := by
 unfold atomB
 rw [if_neg (by omega), if_neg (by omega), if_pos h]
theorem atom_w {P : Src} {R : Rec} {i : Nat} (hk : P.K i = 6 ∨ P.K i = 7) (h : P.T i = w_true ∨ P.T i = w_false) : atomB P R i = .ok (.mk 4 (P.A i) (P.T i) 0 []) (i + 1) := by
 unfold atomB
 have h9 : isD P w_true i = true ∨ isD P w_false i = true := by rw [isD_w hk, isD_w hk]; rcases h with h | h <;> rw [h] <;> decide
 rw [if_neg (by omega), if_neg (by omega), if_neg (by omega), if_pos h9]
theorem atom_no {P : Src} {R : Rec} {i : Nat} (h1 : P.K i ≠ 1) (h2 : P.K i ≠ 2) (h3 : ¬ (P.K i = 3 ∨ P.K i = 4)) (h : oneD P [w_true, w_false, s_lp, s_lb, w_let, w_case, w_try] i = false) : atomB P R i = failD P 4 i := by
 have hn : ∀ x ∈ [w_true, w_false, s_lp, s_lb, w_let, w_case, w_try], ¬ isD P x i = true := fun x hx h9 => by
  unfold isD at h9
  unfold oneD at h
  rw [Bool.and_eq_true] at h9
  rw [h9.1, Bool.true_and] at h
  exact List.any_eq_false.1 h x hx h9.2
 unfold atomB
 rw [if_neg h1, if_neg h2, if_neg h3, if_neg (fun h => h.elim (hn _ (by simp)) (hn _ (by simp))), if_neg (hn _ (by simp)), if_neg (hn _ (by simp)), if_neg (hn _ (by simp)), if_neg (hn _ (by simp)), if_neg (hn _ (by simp))]
theorem atom_one {P : Src} {i : Nat} (h : oneD P [w_true, w_false, s_lp, s_lb, w_let, w_case, w_try] i = true) : (P.K i = 6 ∨ P.K i = 7) ∧ (P.T i = s_lp ∨ P.T i = s_lb ∨ P.T i = w_let ∨ P.T i = w_case ∨ P.T i = w_try ∨ P.T i = w_true ∨ P.T i = w_false) := by
 unfold oneD at h
 simp only [Bool.and_eq_true, decide_eq_true_eq, List.any_cons, List.any_nil, Bool.or_eq_true, Bool.or_false] at h
 refine ⟨h.1, ?_⟩
 rcases h.2 with h | h | h | h | h | h | h <;> simp [h]
theorem pathL_two (P : Src) (last : Nat) : ∀ (f : Nat) (s : ByteArray) (i : Nat) {p : ByteArray × Nat} {j : Nat}, pathL P last f s i = .ok p j → p.2 = 3 ∨ p.2 = 4
 | 0, s, i, p, j, h => by
  have h2 : (failD P 4 i : Res (ByteArray × Nat)) = .ok p j := h
  rw [failD_at] at h2; cases h2
 | f + 1, s, i, p, j, h => by
  unfold pathL at h
  split at h
  · cases h; exact .inl rfl
  · split at h
    · rw [failD_at] at h; cases h
    · split at h
      · exact pathL_two P last f _ _ h
      · split at h
        · rw [failD_at] at h; cases h
        · cases h; exact .inr rfl
theorem path_two {P : Src} {s s1 : RS} {p : ByteArray × Nat} (h : Rl (rn (pathD P 0) s) p s1) (h1 : s1.k = 0) : p.2 = 3 ∨ p.2 = 4 := by
 by_cases hs : s.k = 0
 · exact pathL_two P 0 _ _ _ ((rn_good hs).symm.trans (h.1 h1))
 · have h2 := h.1 h1
   rw [rn_lost hs] at h2
   cases h2
theorem atom_s_lp {P : Src} {R : Rec} {i : Nat} (hk : P.K i = 6 ∨ P.K i = 7) (h : P.T i = s_lp) : atomB P R i = roundB P R (P.A i) (i + 1) := by
 unfold atomB
 rw [if_neg (by omega), if_neg (by omega), if_neg (by omega), if_neg (by rw [isD_w hk, isD_w hk, h]; decide), if_pos (by rw [isD_w hk, h]; decide)]
theorem atom_s_lb {P : Src} {R : Rec} {i : Nat} (hk : P.K i = 6 ∨ P.K i = 7) (h : P.T i = s_lb) : atomB P R i = (eatD P s_rb >>= fun e => if e = true then (pure (.mk 6 (P.A i) ⟨#[]⟩ 0 []) : M Ty) else rowD P (R.go .exp) s_com >>= fun l => mustD P s_rb >>= fun _ => (pure (.mk 6 (P.A i) ⟨#[]⟩ 0 l) : M Ty)) (i + 1) := by
 unfold atomB
 rw [if_neg (by omega), if_neg (by omega), if_neg (by omega), if_neg (by rw [isD_w hk, isD_w hk, h]; decide), if_neg (by rw [isD_w hk, h]; decide), if_pos (by rw [isD_w hk, h]; decide)]
theorem atom_w_let {P : Src} {R : Rec} {i : Nat} (hk : P.K i = 6 ∨ P.K i = 7) (h : P.T i = w_let) : atomB P R i = (decsB P R 2 >>= fun l => mustD P w_in >>= fun _ => R.go .exp >>= fun e => mustD P w_end >>= fun _ => (pure (.mk 14 (P.A i) ⟨#[]⟩ l.length (l ++ [e])) : M Ty)) (i + 1) := by
 unfold atomB
 rw [if_neg (by omega), if_neg (by omega), if_neg (by omega), if_neg (by rw [isD_w hk, isD_w hk, h]; decide), if_neg (by rw [isD_w hk, h]; decide), if_neg (by rw [isD_w hk, h]; decide), if_pos (by rw [isD_w hk, h]; decide)]
theorem atom_w_case {P : Src} {R : Rec} {i : Nat} (hk : P.K i = 6 ∨ P.K i = 7) (h : P.T i = w_case) : atomB P R i = rulesB P R 10 (P.A i) w_of (i + 1) := by
 unfold atomB
 rw [if_neg (by omega), if_neg (by omega), if_neg (by omega), if_neg (by rw [isD_w hk, isD_w hk, h]; decide), if_neg (by rw [isD_w hk, h]; decide), if_neg (by rw [isD_w hk, h]; decide), if_neg (by rw [isD_w hk, h]; decide), if_pos (by rw [isD_w hk, h]; decide)]
theorem atom_w_try {P : Src} {R : Rec} {i : Nat} (hk : P.K i = 6 ∨ P.K i = 7) (h : P.T i = w_try) : atomB P R i = rulesB P R 11 (P.A i) w_with (i + 1) := by
 unfold atomB
 rw [if_neg (by omega), if_neg (by omega), if_neg (by omega), if_neg (by rw [isD_w hk, isD_w hk, h]; decide), if_neg (by rw [isD_w hk, h]; decide), if_neg (by rw [isD_w hk, h]; decide), if_neg (by rw [isD_w hk, h]; decide), if_neg (by rw [isD_w hk, h]; decide), if_pos (by rw [isD_w hk, h]; decide)]
theorem catom_any : CtN 212 fun E g => atomB E.P (recS E.P g) := by
 intro E g RA w s h
 refine Br.go (m := atomB E.P (recS E.P g)) h RA ?_
 intro d T W R hW B Q hlr hN
 have HROWC := at_r R.hd (fun w s => cexps_any E g RA w s s_com)
 have HDECS := at_r R.hd (fun w s h hw => cdecs_any E g RA w s 2 (by decide) h hw)
 have HRO := lh (fun aa w s h => cround_any E g RA w s aa h)
 have HRU := lh (fun kk aa wd w s h => crules_any E g RA w s kk aa wd h)
 rw [← R.hd] at HRO HRU
 clear h RA
 unfold pr at HROWC HDECS HRO HRU ⊢
 go_enter Tryz.func212, Tryz.ntmps212
 obtain ⟨Q9, p9⟩ := Po9.ex Tryz.f212 E d w T (NdQ w)
 rw [p9.eq]
 go_upto_region 1 with fail
 clear hW
 go_upto_region 2 with (go_at_call 102; refine B.now ?_; clear B; intro u1 B; have f2 := tk_fields E.P s.i)
 clear f2
 generalize hb : u1.heap.size = b4
 generalize h : u1.alloc _ = V3
 replace B := B.boxt h hb
 clear h hb
 have c5 := B.S.ct B.F.rb
 go_upto_region 3 with fail
 clear c5
 generalize hb : V3.heap.size = b7
 generalize h : V3.alloc _ = V6
 replace B := B.box h hb
 clear h hb
 go_upto_region 4 with (go_at_call 104; refine B.ask (rone_new E V6 _ s d [w_true, w_false, s_lp, s_lb, w_let, w_case, w_try] _ 7 rfl rfl (by decide) B.F.R rfl) ?_; clear B; intro u8 B)
 generalize hb : oneb E.P [w_true, w_false, s_lp, s_lb, w_let, w_case, w_try] s = b
 have Hb := lh hb
 clear hb
 by_cases hs : s.k = 0
 · have e0 : ((s.k : Int) != 0) = false := by simp [hs]
   have HS := lh hs
   clear hs
   have c9 := B.mv1.S.ct B.F.rb; have c10 := B.F.R.cells
   by_cases h1 : E.P.K s.i = 1
   · have e1 : (E.P.K s.i == 1) = true := by simp [h1]
     have H1 := lh h1
     clear h1
     replace Q : Qr T ((pure (.mk 1 (E.P.A s.i) ⟨#[]⟩ (E.P.N s.i) []) : M Ty)) (stp s) := ⟨by rw [Q.eq, rn_good HS.out, rn_good (s := (stp s)) HS.out]; exact atom_1 H1.out⟩
     have c11 := B.F.R.cells
     have c12 : s.i ≤ 100000 := Nat.le_trans B.F.R.le hN
     go_upto_region 8 with fail
     clear c9 c10 c11 c12
     generalize h : u8.setCell _ _ = X13
     replace B := B.step (by rw [H1.out]; decide) h
     clear h
     have c14 := B.S.cs B.F.rb; have c15 := B.mv1.S.ct B.F.rb
     go_upto_region 9 with fail
     clear c14 c15
     generalize h : X13.setCell _ _ = X16
     replace B := B.s0 h
     clear h
     have c17 := B.S.cs B.F.rb; have c18 := B.mv1.S.ct B.F.rb
     go_upto_region 10 with fail
     clear c17 c18
     generalize h : X16.setCell _ _ = X19
     replace B := B.s3 h
     clear h
     have c20 := B.S.cs B.F.rb; have c21 := B.cr
     go_wp2_with fail
     exact Br.fin (.mk 1 (E.P.A s.i) ⟨#[]⟩ (E.P.N s.i) []) B.nilk p9 Q.pr rfl rfl
   · have e1 : (E.P.K s.i == 1) = false := by simp [h1]
     have H1 := lh h1
     clear h1
     by_cases h2 : E.P.K s.i = 2
     · have e2 : (E.P.K s.i == 2) = true := by simp [h2]
       have H2 := lh h2
       clear h2
       replace Q : Qr T ((pure (.mk 2 (E.P.A s.i) (E.P.T s.i) 0 []) : M Ty)) (stp s) := ⟨by rw [Q.eq, rn_good HS.out, rn_good (s := (stp s)) HS.out]; exact atom_2 H2.out⟩
       have c22 := B.F.R.cells
       have c23 : s.i ≤ 100000 := Nat.le_trans B.F.R.le hN
       go_upto_region 13 with fail
       clear c9 c10 c22 c23
       generalize h : u8.setCell _ _ = X24
       replace B := B.step (by rw [H2.out]; decide) h
       clear h
       have c25 := B.S.cs B.F.rb; have c26 := B.mv1.S.ct B.F.rb
       go_upto_region 14 with fail
       clear c25 c26
       generalize h : X24.setCell _ _ = X27
       replace B := B.s0 h
       clear h
       have c28 := B.S.cs B.F.rb; have c29 := B.mv1.S.ct B.F.rb
       go_upto_region 15 with fail
       clear c28 c29
       generalize h : X27.setCell _ _ = X30
       replace B := B.s2 h
       clear h
       have c31 := B.S.cs B.F.rb; have c32 := B.cr
       go_wp2_with fail
       exact Br.fin (.mk 2 (E.P.A s.i) (E.P.T s.i) 0 []) B.nilk p9 Q.pr rfl rfl
     · have e2 : (E.P.K s.i == 2) = false := by simp [h2]
       have H2 := lh h2
       clear h2
       by_cases h3 : E.P.K s.i = 3
       · have e3 : (E.P.K s.i == 3) = true := by simp [h3]
         have H3 := lh h3
         clear h3
         replace Q : Qr T ((pathD E.P 0 >>= fun p => (ret (.mk (if p.2 = 3 then 3 else 4) (E.P.A s.i) p.1 0 []) : M Ty))) s := ⟨by rw [Q.eq, rn_good HS.out, rn_good (s := s) HS.out]; exact atom_3 (.inl H3.out)⟩
         go_upto_region 17 with fail
         go_upto_region 19 with (go_at_call 152; refine B.pth Q (hpath0 E d) ?_; clear B Q; intro u33 p s34 hl B Q; have LNp := lh ((fun (h9 : Rl (rn (pathD E.P 0) s) _ _) h0 => path_two h9 h0) hl); clear hl; have c35 := B.S.cs B.F.rb)
         clear c9 c10 c35
         generalize h : u33.setCell _ _ = X36
         replace B := B.s2 h
         clear h
         have c37 := B.S.cs B.F.rb; have c38 := B.mv1.S.ct B.F.rb
         go_upto_region 20 with fail
         clear c37 c38
         generalize h : X36.setCell _ _ = X39
         replace B := B.s0 h
         clear h
         by_cases h2 : p.2 = 4
         · have e24 : ((p.2 : Int) == 4) = true := by simp [h2]
           have HP2 := lh h2
           clear h2
           replace Q : Qr T (pure (.mk 4 (E.P.A s.i) p.1 0 []) : M Ty) s34 := ⟨by rw [Q.eq, HP2.out]; rfl⟩
           have c40 := B.S.cs B.F.rb; have c41 := B.mv1.S.ct B.F.rb
           go_upto_region 22 with fail
           clear c40 c41
           generalize h : X39.setCell _ _ = X42
           replace B := B.s0 h
           clear h
           have c43 := B.S.cs B.F.rb; have c44 := B.cr
           go_wp2_with fail
           exact Br.fin (.mk 4 (E.P.A s.i) p.1 0 []) B.nilk p9 Q.pr rfl rfl
         · have e24 : ((p.2 : Int) == 4) = false := by simp; omega
           have HP2 := lh h2
           clear h2
           replace Q : Qr T (pure (.mk 3 (E.P.A s.i) p.1 0 []) : M Ty) s34 := ⟨by
                         rw [Q.eq]
                         by_cases h0 : s34.k = 0
                         · rw [if_pos ((LNp.out h0).resolve_right HP2.out)]; rfl
                         · rw [rn_lost h0, rn_lost h0]⟩
           go_upto_region 22 with fail
           have c45 := B.S.cs B.F.rb; have c46 := B.cr
           go_wp2_with fail
           exact Br.fin (.mk 3 (E.P.A s.i) p.1 0 []) B.nilk p9 Q.pr rfl rfl
       · have e3 : (E.P.K s.i == 3) = false := by simp [h3]
         have H3 := lh h3
         clear h3
         by_cases h4 : E.P.K s.i = 4
         · have e4 : (E.P.K s.i == 4) = true := by simp [h4]
           have H4 := lh h4
           clear h4
           replace Q : Qr T ((pathD E.P 0 >>= fun p => (ret (.mk (if p.2 = 3 then 3 else 4) (E.P.A s.i) p.1 0 []) : M Ty))) s := ⟨by rw [Q.eq, rn_good HS.out, rn_good (s := s) HS.out]; exact atom_3 (.inr H4.out)⟩
           go_upto_region 17 with fail
           go_upto_region 19 with (go_at_call 152; refine B.pth Q (hpath0 E d) ?_; clear B Q; intro u47 p s48 hl B Q; have LNp := lh ((fun (h9 : Rl (rn (pathD E.P 0) s) _ _) h0 => path_two h9 h0) hl); clear hl; have c49 := B.S.cs B.F.rb)
           clear c9 c10 c49
           generalize h : u47.setCell _ _ = X50
           replace B := B.s2 h
           clear h
           have c51 := B.S.cs B.F.rb; have c52 := B.mv1.S.ct B.F.rb
           go_upto_region 20 with fail
           clear c51 c52
           generalize h : X50.setCell _ _ = X53
           replace B := B.s0 h
           clear h
           by_cases h2 : p.2 = 4
           · have e24 : ((p.2 : Int) == 4) = true := by simp [h2]
             have HP2 := lh h2
             clear h2
             replace Q : Qr T (pure (.mk 4 (E.P.A s.i) p.1 0 []) : M Ty) s48 := ⟨by rw [Q.eq, HP2.out]; rfl⟩
             have c54 := B.S.cs B.F.rb; have c55 := B.mv1.S.ct B.F.rb
             go_upto_region 22 with fail
             clear c54 c55
             generalize h : X53.setCell _ _ = X56
             replace B := B.s0 h
             clear h
             have c57 := B.S.cs B.F.rb; have c58 := B.cr
             go_wp2_with fail
             exact Br.fin (.mk 4 (E.P.A s.i) p.1 0 []) B.nilk p9 Q.pr rfl rfl
           · have e24 : ((p.2 : Int) == 4) = false := by simp; omega
             have HP2 := lh h2
             clear h2
             replace Q : Qr T (pure (.mk 3 (E.P.A s.i) p.1 0 []) : M Ty) s48 := ⟨by
                             rw [Q.eq]
                             by_cases h0 : s48.k = 0
                             · rw [if_pos ((LNp.out h0).resolve_right HP2.out)]; rfl
                             · rw [rn_lost h0, rn_lost h0]⟩
             go_upto_region 22 with fail
             have c59 := B.S.cs B.F.rb; have c60 := B.cr
             go_wp2_with fail
             exact Br.fin (.mk 3 (E.P.A s.i) p.1 0 []) B.nilk p9 Q.pr rfl rfl
         · have e4 : (E.P.K s.i == 4) = false := by simp [h4]
           have H4 := lh h4
           clear h4
           cases b with
           | false =>
            have HN9 : Hid (oneD E.P [w_true, w_false, s_lp, s_lb, w_let, w_case, w_try] s.i = false) := lh (by have h := Hb.out; unfold oneb at h; rw [decide_eq_true HS.out, Bool.true_and] at h; exact h)
            replace Q : Qr T ((failD E.P 4 : M Ty)) s := ⟨by rw [Q.eq, rn_good HS.out, rn_good (s := s) HS.out]; exact atom_no H1.out H2.out (fun h => h.elim H3.out H4.out) HN9.out⟩
            go_upto_region 24 with fail
            clear c9 c10
            go_upto_region 25 with (go_at_call 103; have OR := lh B.F.R; refine B.no ?_; clear B; intro u61 v B)
            have c62 := B.S.cs B.F.rb; have c63 := B.cr
            go_wp2_with fail
            exact Br.fin (.mk 0 (E.P.A s.i) ⟨#[]⟩ 0 []) B.nilk p9 (Q.tl (OR.out.no_rl (by decide) _)) rfl rfl
           | true =>
            have HON := lh (atom_one (oneb_good Hb.out).2)
            have HK := lh HON.out.1
            have HK1 : Hid (1 ≤ E.P.K s.i) := lh (by have := HON.out.1; omega)
            rcases HON.out.2 with hx | hx | hx | hx | hx | hx
            · skip
              have HTX := lh hx
              clear hx
              replace Q : Qr T (roundB E.P (recS E.P g) (E.P.A s.i)) (stp s) := ⟨by rw [Q.eq, rn_good HS.out, rn_good (s := (stp s)) HS.out]; exact atom_s_lp HK.out HTX.out⟩
              have xs_lp : ((E.P.T s.i).toList == [40]) = true := by rw [HTX.out, ByteArray.toList_eq]; decide
              have ys_lp : (E.P.T s.i).toList = [40] := by rw [HTX.out, ByteArray.toList_eq]
              have c64 := B.F.R.cells
              have c65 : s.i ≤ 100000 := Nat.le_trans B.F.R.le hN
              go_upto_region 27 with fail
              clear c9 c10 c64 c65
              generalize h : u8.setCell _ _ = X66
              replace B := B.step (HK1.out) h
              clear h
              have c67 := B.mv1.S.ct B.F.rb
              go_upto_region 29 with fail
              go_wp2_with (go_at_call 219; refine B.ndt Q (lh (HRO.out (E.P.A s.i))) ?_; clear B Q; intro u68 q aoq capq s69 B Q; have c70 := B.cr)
              exact Br.fin (q) B p9 Q rfl rfl
            · skip
              have HTX := lh hx
              clear hx
              replace Q : Qr T ((eatD E.P s_rb >>= fun e => if e = true then (pure (.mk 6 (E.P.A s.i) ⟨#[]⟩ 0 []) : M Ty) else rowD E.P (readS E.P g .exp) s_com >>= fun l => mustD E.P s_rb >>= fun _ => (pure (.mk 6 (E.P.A s.i) ⟨#[]⟩ 0 l) : M Ty))) (stp s) := ⟨by rw [Q.eq, rn_good HS.out, rn_good (s := (stp s)) HS.out]; exact atom_s_lb HK.out HTX.out⟩
              have xs_lp : ((E.P.T s.i).toList == [40]) = false := by rw [HTX.out, ByteArray.toList_eq]; decide
              have xs_lb : ((E.P.T s.i).toList == [91]) = true := by rw [HTX.out, ByteArray.toList_eq]; decide
              have ys_lb : (E.P.T s.i).toList = [91] := by rw [HTX.out, ByteArray.toList_eq]
              have c71 := B.F.R.cells
              have c72 : s.i ≤ 100000 := Nat.le_trans B.F.R.le hN
              go_upto_region 27 with fail
              clear c9 c10 c71 c72
              generalize h : u8.setCell _ _ = X73
              replace B := B.step (HK1.out) h
              clear h
              have c74 := B.mv1.S.ct B.F.rb
              go_upto_region 31 with fail
              clear c74
              have c75 := B.S.cs B.F.rb; have c76 := B.mv1.S.ct B.F.rb
              go_upto_region 32 with fail
              clear c75 c76
              generalize h : X73.setCell _ _ = X77
              replace B := B.s0 h
              clear h
              obtain ⟨b78, P⟩ := B.eatd (sg := s_rb) Q
              clear B Q
              cases b78 with
              | true =>
               go_upto_region 36 with (go_at_call 153; refine P.t ?_; clear P; intro u79 B Q _)
               have c80 := B.S.cs B.F.rb; have c81 := B.cr
               go_wp2_with fail
               exact Br.fin (.mk 6 (E.P.A s.i) ⟨#[]⟩ 0 []) B.nilk p9 Q.pr rfl rfl
              | false =>
               go_upto_region 34 with (go_at_call 153; refine P.f ?_; clear P; intro u82 B Q)
               go_upto_region 35 with (go_at_call 220; refine B.rw Q HROWC ?_; clear B Q; intro u83 l aol capl s84 LNl B Q; have c85 := B.mv1.S.cs B.F.rb)
               clear c85
               generalize h : u83.setCell _ _ = X86
               replace B := B.mv1.s4 h
               clear h
               go_upto_region 36 with (go_at_call 144; refine B.un Q (hmust E d s_rb) ?_; clear B Q; intro u87 _ _ s88 B Q)
               have c89 := B.S.cs B.F.rb; have c90 := B.cr
               go_wp2_with fail
               exact Br.fin (.mk 6 (E.P.A s.i) ⟨#[]⟩ 0 l) B.mv1.ko p9 Q.pr rfl rfl
            · skip
              have HTX := lh hx
              clear hx
              replace Q : Qr T ((decsB E.P (recS E.P g) 2 >>= fun l => mustD E.P w_in >>= fun _ => readS E.P g .exp >>= fun e => mustD E.P w_end >>= fun _ => (pure (.mk 14 (E.P.A s.i) ⟨#[]⟩ l.length (l ++ [e])) : M Ty))) (stp s) := ⟨by rw [Q.eq, rn_good HS.out, rn_good (s := (stp s)) HS.out]; exact atom_w_let HK.out HTX.out⟩
              have xs_lp : ((E.P.T s.i).toList == [40]) = false := by rw [HTX.out, ByteArray.toList_eq]; decide
              have xs_lb : ((E.P.T s.i).toList == [91]) = false := by rw [HTX.out, ByteArray.toList_eq]; decide
              have xw_let : ((E.P.T s.i).toList == [108, 101, 116]) = true := by rw [HTX.out, ByteArray.toList_eq]; decide
              have yw_let : (E.P.T s.i).toList = [108, 101, 116] := by rw [HTX.out, ByteArray.toList_eq]
              have c91 := B.F.R.cells
              have c92 : s.i ≤ 100000 := Nat.le_trans B.F.R.le hN
              go_upto_region 27 with fail
              clear c9 c10 c91 c92
              generalize h : u8.setCell _ _ = X93
              replace B := B.step (HK1.out) h
              clear h
              have c94 := B.mv1.S.ct B.F.rb
              go_upto_region 38 with fail
              clear c94
              have c95 := B.S.cs B.F.rb; have c96 := B.mv1.S.ct B.F.rb
              go_upto_region 39 with fail
              clear c95 c96
              generalize h : X93.setCell _ _ = X97
              replace B := B.s0 h
              clear h
              go_upto_region 40 with (go_at_call 55; refine B.rw Q HDECS ?_; clear B Q; intro u98 l aol capl s99 LNl B Q; have c100 := B.mv1.S.cs B.F.rb)
              clear c100
              generalize h : u98.setCell _ _ = X101
              replace B := B.mv1.s4 h
              clear h
              have c102 := B.S.cs B.F.rb
              go_upto_region 41 with fail
              clear c102
              generalize h : X101.setCell _ _ = X103
              replace B := B.s3 h
              clear h
              go_upto_region 42 with (go_at_call 144; refine B.un Q (hmust E d w_in) ?_; clear B Q; intro u104 _ _ s105 B Q)
              go_upto_region 43 with (go_at_call 56; refine B.nd Q R.exp ?_; clear B Q; intro u106 q aoq capq s107 _ B Q)
              generalize hb : u106.heap.size = b109
              generalize h : u106.alloc _ = V108
              replace B := B.box h hb
              clear h hb
              have c110 := B.mv2.S.cs B.F.rb; have c111 := B.S.cs B.F.rb
              go_upto_region 44 with (at_builtin; generalize h : V108.alloc _ = V112; replace B := B.mv1.mk1 rfl h; clear h; go_must (refine B.mv3.app rfl _ _ rfl rfl rfl (by have h1 := LNl.out; show _ + 1 ≤ _; omega) ?_); clear B; intro aoL capL L u113 ELL B; have c114 := B.mv2.S.cs B.F.rb)
              clear c110 c111 c114
              generalize h : u113.setCell _ _ = X115
              replace B := B.mv2.s4 h
              clear h
              go_upto_region 45 with (go_at_call 144; refine B.un Q (hmust E d w_end) ?_; clear B Q; intro u116 _ _ s117 B Q)
              have c118 := B.S.cs B.F.rb; have c119 := B.cr
              go_wp2_with fail
              exact Br.fin (.mk 14 (E.P.A s.i) ⟨#[]⟩ l.length L) B.mv1.ko p9 (by rw [ELL.out]; exact Q.pr) rfl rfl
            · skip
              have HTX := lh hx
              clear hx
              replace Q : Qr T (rulesB E.P (recS E.P g) 10 (E.P.A s.i) w_of) (stp s) := ⟨by rw [Q.eq, rn_good HS.out, rn_good (s := (stp s)) HS.out]; exact atom_w_case HK.out HTX.out⟩
              have xs_lp : ((E.P.T s.i).toList == [40]) = false := by rw [HTX.out, ByteArray.toList_eq]; decide
              have xs_lb : ((E.P.T s.i).toList == [91]) = false := by rw [HTX.out, ByteArray.toList_eq]; decide
              have xw_let : ((E.P.T s.i).toList == [108, 101, 116]) = false := by rw [HTX.out, ByteArray.toList_eq]; decide
              have xw_case : ((E.P.T s.i).toList == [99, 97, 115, 101]) = true := by rw [HTX.out, ByteArray.toList_eq]; decide
              have yw_case : (E.P.T s.i).toList = [99, 97, 115, 101] := by rw [HTX.out, ByteArray.toList_eq]
              have c120 := B.F.R.cells
              have c121 : s.i ≤ 100000 := Nat.le_trans B.F.R.le hN
              go_upto_region 27 with fail
              clear c9 c10 c120 c121
              generalize h : u8.setCell _ _ = X122
              replace B := B.step (HK1.out) h
              clear h
              have c123 := B.mv1.S.ct B.F.rb
              go_upto_region 47 with fail
              go_wp2_with (go_at_call 221; refine B.ndt Q (lh (HRU.out 10 (E.P.A s.i) w_of)) ?_; clear B Q; intro u124 q aoq capq s125 B Q; have c126 := B.cr)
              exact Br.fin (q) B p9 Q rfl rfl
            · skip
              have HTX := lh hx
              clear hx
              replace Q : Qr T (rulesB E.P (recS E.P g) 11 (E.P.A s.i) w_with) (stp s) := ⟨by rw [Q.eq, rn_good HS.out, rn_good (s := (stp s)) HS.out]; exact atom_w_try HK.out HTX.out⟩
              have xs_lp : ((E.P.T s.i).toList == [40]) = false := by rw [HTX.out, ByteArray.toList_eq]; decide
              have xs_lb : ((E.P.T s.i).toList == [91]) = false := by rw [HTX.out, ByteArray.toList_eq]; decide
              have xw_let : ((E.P.T s.i).toList == [108, 101, 116]) = false := by rw [HTX.out, ByteArray.toList_eq]; decide
              have xw_case : ((E.P.T s.i).toList == [99, 97, 115, 101]) = false := by rw [HTX.out, ByteArray.toList_eq]; decide
              have xw_try : ((E.P.T s.i).toList == [116, 114, 121]) = true := by rw [HTX.out, ByteArray.toList_eq]; decide
              have yw_try : (E.P.T s.i).toList = [116, 114, 121] := by rw [HTX.out, ByteArray.toList_eq]
              have c127 := B.F.R.cells
              have c128 : s.i ≤ 100000 := Nat.le_trans B.F.R.le hN
              go_upto_region 27 with fail
              clear c9 c10 c127 c128
              generalize h : u8.setCell _ _ = X129
              replace B := B.step (HK1.out) h
              clear h
              have c130 := B.mv1.S.ct B.F.rb
              go_upto_region 49 with fail
              go_wp2_with (go_at_call 221; refine B.ndt Q (lh (HRU.out 11 (E.P.A s.i) w_with)) ?_; clear B Q; intro u131 q aoq capq s132 B Q; have c133 := B.cr)
              exact Br.fin (q) B p9 Q rfl rfl
            · skip
              have HTX := lh hx
              clear hx
              replace Q : Qr T ((pure (.mk 4 (E.P.A s.i) (E.P.T s.i) 0 []) : M Ty)) (stp s) := ⟨by rw [Q.eq, rn_good HS.out, rn_good (s := (stp s)) HS.out]; exact atom_w HK.out HTX.out⟩
              have xs_lp : ((E.P.T s.i).toList == [40]) = false := by rcases HTX.out with h | h <;> rw [h, ByteArray.toList_eq] <;> decide
              have xs_lb : ((E.P.T s.i).toList == [91]) = false := by rcases HTX.out with h | h <;> rw [h, ByteArray.toList_eq] <;> decide
              have xw_let : ((E.P.T s.i).toList == [108, 101, 116]) = false := by rcases HTX.out with h | h <;> rw [h, ByteArray.toList_eq] <;> decide
              have xw_case : ((E.P.T s.i).toList == [99, 97, 115, 101]) = false := by rcases HTX.out with h | h <;> rw [h, ByteArray.toList_eq] <;> decide
              have xw_try : ((E.P.T s.i).toList == [116, 114, 121]) = false := by rcases HTX.out with h | h <;> rw [h, ByteArray.toList_eq] <;> decide
              have c134 := B.F.R.cells
              have c135 : s.i ≤ 100000 := Nat.le_trans B.F.R.le hN
              go_upto_region 27 with fail
              clear c9 c10 c134 c135
              generalize h : u8.setCell _ _ = X136
              replace B := B.step (HK1.out) h
              clear h
              have c137 := B.mv1.S.ct B.F.rb
              go_upto_region 50 with fail
              clear c137
              have c138 := B.S.cs B.F.rb; have c139 := B.mv1.S.ct B.F.rb
              go_upto_region 51 with fail
              clear c138 c139
              generalize h : X136.setCell _ _ = X140
              replace B := B.s0 h
              clear h
              have c141 := B.S.cs B.F.rb; have c142 := B.mv1.S.ct B.F.rb
              go_upto_region 52 with fail
              clear c141 c142
              generalize h : X140.setCell _ _ = X143
              replace B := B.s2 h
              clear h
              have c144 := B.S.cs B.F.rb; have c145 := B.cr
              go_wp2_with fail
              exact Br.fin (.mk 4 (E.P.A s.i) (E.P.T s.i) 0 []) B.nilk p9 Q.pr rfl rfl
 · have e0 : ((s.k : Int) != 0) = true := by simp [hs]
   have HS := lh hs
   clear hs
   have c146 := B.F.R.cells
   go_upto_region 5 with fail
   clear c146
   have c147 := B.S.cs B.F.rb; have c148 := B.cr
   go_wp2_with fail
   exact Br.fin (.mk 0 (E.P.A s.i) ⟨#[]⟩ 0 []) B.nilk p9 (Q.lost HS.out) rfl rfl
theorem one_two {P : Src} {i : Nat} : oneD P [s_ti, s_ex] i = true ↔ (isD P s_ti i = true ∨ isD P s_ex i = true) := by
 unfold oneD isD
 simp
 constructor
 · rintro ⟨h1, h2 | h2⟩
   · exact .inl ⟨h1, h2⟩
   · exact .inr ⟨h1, h2⟩
 · rintro (⟨h1, h2⟩ | ⟨h1, h2⟩)
   · exact ⟨h1, .inl h2⟩
   · exact ⟨h1, .inr h2⟩
theorem one_K {P : Src} {l : List ByteArray} {i : Nat} (h : oneD P l i = true) : 1 ≤ P.K i := by
 unfold oneD at h
 simp at h
 omega
theorem cprefix_step (E : Env) (g : Nat) (RA : RAll E g) (w : World) (s : RS) (f : Nat) (hf : s.k = 0 → E.P.toks.length < s.i + f) (IH : ∀ f', f = f' + 1 → ∀ w1 s1, Rr E w1 s1 (60 - g) → (s1.k = 0 → E.P.toks.length < s1.i + f') → Calls Tryz.prog 200 #[pr E] w1 (RPost E (60 - g) w1 (rn (prefixL E.P (recS E.P g) f') s1) (NdQ w1))) (h : Rr E w s (60 - g)) : Calls Tryz.prog 200 #[pr E] w (RPost E (60 - g) w (rn (prefixL E.P (recS E.P g) f) s) (NdQ w)) := by
 refine Br.go (m := prefixL E.P (recS E.P g) f) h RA ?_
 intro d T W R hW B Q hlr hN
 have HF := lh hf
 have HIH := lh IH
 have HATOM := at_d R.hd (catom_any E g RA)
 rw [← R.hd] at HIH
 clear h RA IH hf
 unfold pr at HIH HATOM ⊢
 go_enter Tryz.func200, Tryz.ntmps200
 obtain ⟨Q9, p9⟩ := Po9.ex Tryz.f200 E d w T (NdQ w)
 rw [p9.eq]
 go_upto_region 1 with fail
 clear hW
 go_upto_region 2 with (go_at_call 102; refine B.now ?_; clear B; intro u1 B; have f2 := tk_fields E.P s.i)
 clear f2
 generalize hb : u1.heap.size = b4
 generalize h : u1.alloc _ = V3
 replace B := B.boxt h hb
 clear h hb
 go_upto_region 3 with (go_at_call 104; refine B.ask (rone_new E V3 _ s d [s_ti, s_ex] _ 2 rfl rfl (by decide) B.F.R rfl) ?_; clear B; intro u5 B)
 generalize hb : oneb E.P [s_ti, s_ex] s = b
 have Hb := lh hb
 clear hb
 cases b with
 | true =>
  have HGD : Hid (s.k = 0) := lh (oneb_good Hb.out).1
  have HSG : Hid (isD E.P s_ti s.i = true ∨ isD E.P s_ex s.i = true) := lh (one_two.1 (oneb_good Hb.out).2)
  have HLE := lh B.F.R.le
  obtain ⟨f', hf'⟩ : ∃ f', f = f' + 1 := ⟨f - 1, by have := HF.out HGD.out; have := HLE.out; omega⟩
  have HFF := lh hf'
  clear hf'
  replace Q : Qr T (prefixL E.P (recS E.P g) f' >>= fun n => (pure (.mk 18 (E.P.A s.i) (E.P.T s.i) 0 [n]) : M Ty)) (stp s) := ⟨by rw [Q.eq, HFF.out, rn_good HGD.out, rn_good (s := stp s) HGD.out]; exact if_pos HSG.out⟩
  have HPR := lh (fun w1 h1 => HIH.out f' HFF.out w1 (stp s) h1 (fun h0 => by have := HF.out HGD.out; have := HFF.out; show _ < s.i + 1 + f'; omega))
  have c6 := B.F.R.cells
  have c7 : s.i ≤ 100000 := Nat.le_trans B.F.R.le hN
  go_upto_region 5 with fail
  clear c6 c7
  generalize h : u5.setCell _ _ = X8
  replace B := B.step (one_K (oneb_good Hb.out).2) h
  clear h
  go_upto_region 6 with (go_at_call 200; refine B.ndc (HPR.out _ B.F.R) ?_; clear B; intro u9 n aon capn s10 hl B; replace Q := Q.rd hl; clear hl)
  generalize hb : u9.heap.size = b12
  generalize h : u9.alloc _ = V11
  replace B := B.box h hb
  clear h hb
  have c13 := B.mv2.S.ct B.F.rb; have c14 := B.S.cs B.F.rb
  go_upto_region 7 with (go_at_call 54; generalize h : V11.alloc _ = V15; replace B := B.mv1.mk1 rfl h; clear h; refine B.node ?_; clear B; intro u16 B)
  clear c13 c14
  generalize hb : u16.heap.size = b18
  generalize h : u16.alloc _ = V17
  replace B := B.box h hb
  clear h hb
  have c19 := B.mv3.S.ct B.F.rb; have c20 := B.S.cs B.F.rb
  go_upto_region 8 with fail
  clear c19 c20
  generalize h : V17.setCell _ _ = X21
  replace B := B.s2 h
  clear h
  have c22 := B.S.cs B.F.rb; have c23 := B.cr
  go_wp2_with fail
  exact Br.fin (.mk 18 (E.P.A s.i) (E.P.T s.i) 0 [n]) B.mv1.ko p9 Q.pr rfl rfl
 | false =>
  replace Q : Qr T (atomB E.P (recS E.P g)) s := ⟨by
   rw [Q.eq]
   by_cases hs : s.k = 0
   · obtain ⟨f', hf'⟩ : ∃ f', f = f' + 1 := ⟨f - 1, by have := HF.out hs; have := B.F.R.le; omega⟩
     have h2 : ¬ (isD E.P s_ti s.i = true ∨ isD E.P s_ex s.i = true) := fun h => by
      have h3 := Hb.out
      unfold oneb at h3
      rw [decide_eq_true hs, Bool.true_and, one_two.2 h] at h3
      cases h3
     rw [hf', rn_good hs, rn_good hs]
     exact if_neg h2
   · rw [rn_lost hs, rn_lost hs]⟩
  go_wp2_with (go_at_call 212; refine B.ndt Q HATOM ?_; clear B Q; intro u24 n aon capn s25 B Q; have c26 := B.cr)
  exact Br.fin (n) B p9 Q rfl rfl
theorem cprefix_f (E : Env) (g : Nat) (RA : RAll E g) : ∀ (f : Nat) (w : World) (s : RS), Rr E w s (60 - g) → (s.k = 0 → E.P.toks.length < s.i + f) → Calls Tryz.prog 200 #[pr E] w (RPost E (60 - g) w (rn (prefixL E.P (recS E.P g) f) s) (NdQ w))
 | 0, w, s, h, hf => cprefix_step E g RA w s 0 hf (fun f' e => by omega) h
 | f + 1, w, s, h, hf => cprefix_step E g RA w s (f + 1) hf (fun f' e w1 s1 h1 h2 => by
  obtain rfl : f = f' := by omega
  exact cprefix_f E g RA f w1 s1 h1 h2) h
theorem cprefix_any : CtN 200 fun E g => prefixB E.P (recS E.P g) := fun E g RA w s h => cprefix_f E g RA _ w s h (fun _ => by omega)
theorem app_head {P : Src} {R : Rec} {f : Nat} {m : Ty} {T : Res Ty} {s : RS} (hT : T = rn (applyL P R f m) s) (hf : s.k = 0 → P.toks.length < s.i + f) (hle : s.i ≤ P.toks.length) : ∃ f', T = (if (decide (s.k = 0) && beginsB P s.i) = true then rn (prefixB P R >>= fun x => applyL P R f' (.mk 8 m.n ⟨#[]⟩ 0 [m, x])) s else rn (pure m : M Ty) s) ∧ (s.k = 0 → P.toks.length ≤ s.i + f') := by
 by_cases hs : s.k = 0
 · have h1 := hf hs
   obtain ⟨f, rfl⟩ : ∃ f', f = f' + 1 := ⟨f - 1, by omega⟩
   refine ⟨f, ?_, fun _ => by omega⟩
   rw [decide_eq_true hs, Bool.true_and, hT, rn_good hs, rn_good hs, rn_good hs]
   rfl
 · refine ⟨0, ?_, fun h => absurd h hs⟩
   rw [decide_eq_false hs, Bool.false_and, if_neg Bool.false_ne_true, hT, rn_lost hs, rn_lost hs]
theorem capply_any : CtN 185 fun E g => applyB E.P (recS E.P g) := by
 intro E g RA w s h
 refine Br.go (m := prefixB E.P (recS E.P g) >>= fun n => applyL E.P (recS E.P g) (E.P.toks.length + 1) n) h RA ?_
 intro d T W R hW B Q hlr hN
 have HPRE := at_d R.hd (cprefix_any E g RA)
 have HST := lh (st_prefix E.P _ (st_rec E.P g).2)
 clear h RA
 unfold pr at HPRE ⊢
 go_enter Tryz.func185, Tryz.ntmps185
 obtain ⟨Q9, p9⟩ := Po9.ex Tryz.f185 E d w T (NdQ w)
 rw [p9.eq]
 go_upto_region 1 with fail
 clear hW
 go_upto_region 2 with (go_at_call 200; refine B.nd Q HPRE ?_; clear B Q; intro u1 n aon capn s2 _ B Q)
 generalize hb : u1.heap.size = b4
 generalize h : u1.alloc _ = V3
 replace B := B.box h hb
 clear h hb
 have HFU : Hid (s2.k = 0 → E.P.toks.length < s2.i + (E.P.toks.length + 1)) := lh (fun _ => by omega)
 obtain ⟨f2, q1, q2⟩ := app_head Q.eq HFU.out B.F.R.le
 have HQ1 := lh q1
 have HQ2 := lh q2
 clear q1 q2 Q HFU
 go_upto_region 3 with (go_at_call 201; refine B.ask ((hbegins E d).out _ _ B.F.R) ?_; clear B; intro u5 B)
 go_loopw [4] (fun va wr => ∃ (n : Ty) (ao : Option Addr) (cap : Nat) (b : Bool) (t : RS) (f : Nat), va = .bool b ∧ (T = if b = true then rn (prefixB E.P (recS E.P g) >>= fun x => applyL E.P (recS E.P g) f (.mk 8 n.n ⟨#[]⟩ 0 [n, x])) t else rn (pure n : M Ty) t) ∧ (b = true → t.k = 0) ∧ (t.k = 0 → E.P.toks.length ≤ t.i + f) ∧ Br E w d wr t [.kd n.args ao cap, .nv b4 (.int .i64 n.k) (.int .i64 n.n) (.string n.s) (.int .i64 n.q) (.slice ao n.args.length cap)]) (fun va wr => leftOf E.P.toks.length wr E.rb)
 case atStart => exact ⟨n, aon, capn, _, _, f2, rfl, HQ1.out, fun h => by simp at h; exact h.1, HQ2.out, B.mv1⟩
 case round =>
  clear HQ1 HQ2 B
  obtain ⟨m, ao, cap, b, t, f, rfl, hT, hgo, hf, B⟩ := hrel
  have HTL := lh hT
  have HGL := lh hgo
  have HFL := lh hf
  clear hT hgo hf
  cases b with
  | false =>
   have Q : Qr T (pure m : M Ty) t := ⟨HTL.out.trans (if_neg Bool.false_ne_true)⟩
   have c6 := B.mv1.S.cs B.F.rb; have c7 := B.cr
   go_wp2_with fail
   exact Br.fin (m) B p9 Q.pr rfl rfl
  | true =>
   have HGO := lh (HGL.out rfl)
   have R0 := lh B.F.R
   have Q : Qr T (prefixB E.P (recS E.P g) >>= fun x => applyL E.P (recS E.P g) f (.mk 8 m.n ⟨#[]⟩ 0 [m, x])) t := ⟨HTL.out.trans (if_pos rfl)⟩
   go_upto_region 5 with (go_at_call 200; refine B.nd Q HPRE ?_; clear B Q; intro u8 b aob capb s9 hl B Q; have HRL := lh hl; clear hl)
   have HS1 : Hid (s9.k = 0 → t.i + 1 ≤ s9.i) := lh (fun h0 => HST.out _ _ _ ((rn_good HGO.out).symm.trans (HRL.out.1 h0)))
   generalize hb : u8.heap.size = b11
   generalize h : u8.alloc _ = V10
   replace B := B.box h hb
   clear h hb
   have c12 := B.mv3.S.cs B.F.rb; have c13 := B.S.cs B.F.rb
   go_upto_region 6 with (go_at_call 54; generalize h : V10.alloc _ = V14; replace B := B.mv1.mv2.mk2 rfl h; clear h; refine B.node ?_; clear B; intro u15 B; have c16 := B.mv2.S.cs B.F.rb)
   clear c12 c13 c16
   generalize h : ((((u15.setCell _ _).setCell _ _).setCell _ _).setCell _ _).setCell _ _ = X17
   replace B := B.mv2.sn h
   clear h
   have HFU : Hid (s9.k = 0 → E.P.toks.length < s9.i + f) := lh (fun h0 => by have h1 := HS1.out h0; have h2 := HFL.out HGO.out; omega)
   obtain ⟨f2, q1, q2⟩ := app_head Q.eq HFU.out B.F.R.le
   have HQ1 := lh q1
   have HQ2 := lh q2
   clear q1 q2 Q HFU
   go_wp2_with (go_at_call 201; refine B.ask ((hbegins E d).out _ _ B.F.R) ?_; clear B; intro u18 B)
   go_roundw
   case rel => exact ⟨.mk 8 m.n ⟨#[]⟩ 0 [m, b], (some ⟨V10.heap.size, 0, none⟩), 2, _, _, f2, rfl, HQ1.out, fun h => by simp at h; exact h.1, HQ2.out, B.mv2.dr.mv1.ko⟩
   case measure => exact left_less R0.out B.F.R HGO.out (fun h0 => ⟨h0, Nat.le_refl _⟩) HS1.out
end Go.Proofs.YthehjeeiodbkjaaGreatDoor
