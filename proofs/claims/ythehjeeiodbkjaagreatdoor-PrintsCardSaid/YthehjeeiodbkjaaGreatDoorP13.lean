/-
  Proved: the contract of the document's atom; the contract of the document's prefix; the contract of the document's apply; the contract of the document's between; the contract of joined; the contract of the document's pair; how rows of signs and operands are read, in plain Lean; the sign that binds to the right, in plain Lean; what pair leaves, among what stands. Conditions: the reader as it stands in memory; what it reads within.
-/
import Derived.Test.YthehjeeiodbkjaaGreatDoorP01
import Derived.Test.YthehjeeiodbkjaaGreatDoorP12
import Derived.Test.YthehjeeiodbkjaaGreatDoorP07
import Derived.Test.YthehjeeiodbkjaaGreatDoorP06
set_option linter.unusedSimpArgs false
set_option linter.unusedVariables false
set_option maxRecDepth 100000
set_option maxHeartbeats 16000000
namespace Go.Proofs.YthehjeeiodbkjaaGreatDoor
open Go.RowKit
theorem atom_1 {P : Src} {R : Rec} {i : Nat} (h : P.K i = 1) : kp P R i = .ok (.mk 1 (P.A i) ⟨#[]⟩ (P.N i) []) (i + 1) := by
 unfold kp;rw [if_pos h]
theorem atom_2 {P : Src} {R : Rec} {i : Nat} (h : P.K i = 2) : kp P R i = .ok (.mk 2 (P.A i) (P.T i) 0 []) (i + 1) := by
 unfold kp;rw [if_neg (by rw [h]; decide), if_pos h]
theorem atom_3 {P : Src} {R : Rec} {i : Nat} (h : P.K i = 3 ∨ P.K i = 4) : kp P R i = (ki P 0 >>= fun p => (ret (.mk (if p.2 = 3 then 3 else 4) (P.A i) p.1 0 []) : M Ty)) i := by
 unfold kp;rw [if_neg (by omega), if_neg (by omega), if_pos h]
theorem atom_w {P : Src} {R : Rec} {i : Nat} (hk : P.K i = 6 ∨ P.K i = 7) (h : P.T i = w_true ∨ P.T i = w_false) : kp P R i = .ok (.mk 4 (P.A i) (P.T i) 0 []) (i + 1) := by
 unfold kp;have h9 : isD P w_true i = true ∨ isD P w_false i = true := by rw [jG hk, jG hk]; rcases h with h | h <;> rw [h] <;> decide
 rw [if_neg (by omega), if_neg (by omega), if_neg (by omega), if_pos h9]
theorem atom_no {P : Src} {R : Rec} {i : Nat} (h1 : P.K i ≠ 1) (h2 : P.K i ≠ 2) (h3 : ¬ (P.K i = 3 ∨ P.K i = 4)) (h : jK P [w_true, w_false, s_lp, s_lb, w_let, w_case, w_try] i = false) : kp P R i = jE P 4 i := by
 have hn : ∀ x ∈ [w_true, w_false, s_lp, s_lb, w_let, w_case, w_try], ¬ isD P x i = true := fun x hx h9 => by
  unfold isD at h9;unfold jK at h;rw [Bool.and_eq_true] at h9;rw [h9.1, Bool.true_and] at h;exact List.any_eq_false.1 h x hx h9.2
 unfold kp;rw [if_neg h1, if_neg h2, if_neg h3, if_neg (fun h => h.elim (hn _ (by simp)) (hn _ (by simp))), if_neg (hn _ (by simp)), if_neg (hn _ (by simp)), if_neg (hn _ (by simp)), if_neg (hn _ (by simp)), if_neg (hn _ (by simp))]
theorem atom_one {P : Src} {i : Nat} (h : jK P [w_true, w_false, s_lp, s_lb, w_let, w_case, w_try] i = true) : (P.K i = 6 ∨ P.K i = 7) ∧ (P.T i = s_lp ∨ P.T i = s_lb ∨ P.T i = w_let ∨ P.T i = w_case ∨ P.T i = w_try ∨ P.T i = w_true ∨ P.T i = w_false) := by
 unfold jK at h;simp only [Bool.and_eq_true, decide_eq_true_eq, List.any_cons, List.any_nil, Bool.or_eq_true, Bool.or_false] at h;refine ⟨h.1, ?_⟩;rcases h.2 with h | h | h | h | h | h | h <;> simp [h]
theorem pathL_two (P : Src) (last : Nat) : ∀ (f : Nat) (s : ByteArray) (i : Nat) {p : ByteArray × Nat} {j : Nat}, yg P last f s i = .ok p j → p.2 = 3 ∨ p.2 = 4
 | 0, s, i, p, j, h => by
  have h2 : (jE P 4 i : Res (ByteArray × Nat)) = .ok p j := h
  rw [vT] at h2; cases h2
 | f + 1, s, i, p, j, h => by
  unfold yg at h
  split at h
  · cases h; exact .inl rfl
  · split at h
    · rw [vT] at h; cases h
    · split at h
      · exact pathL_two P last f _ _ h
      · split at h
        · rw [vT] at h; cases h
        · cases h; exact .inr rfl
theorem path_two {P : Src} {s s1 : RS} {p : ByteArray × Nat} (h : Rl (rn (ki P 0) s) p s1) (h1 : s1.k = 0) : p.2 = 3 ∨ p.2 = 4 := by
 by_cases hs : s.k = 0
 · exact pathL_two P 0 _ _ _ ((je hs).symm.trans (h.1 h1))
 · have h2 := h.1 h1;rw [jq hs] at h2
   cases h2
theorem atom_s_lp {P : Src} {R : Rec} {i : Nat} (hk : P.K i = 6 ∨ P.K i = 7) (h : P.T i = s_lp) : kp P R i = vX P R (P.A i) (i + 1) := by
 unfold kp;rw [if_neg (by omega), if_neg (by omega), if_neg (by omega), if_neg (by rw [jG hk, jG hk, h]; decide), if_pos (by rw [jG hk, h]; decide)]
theorem atom_s_lb {P : Src} {R : Rec} {i : Nat} (hk : P.K i = 6 ∨ P.K i = 7) (h : P.T i = s_lb) : kp P R i = (kn P s_rb >>= fun e => if e = true then (pure (.mk 6 (P.A i) ⟨#[]⟩ 0 []) : M Ty) else jZ P (R.go .exp) s_com >>= fun l => jm P s_rb >>= fun _ => (pure (.mk 6 (P.A i) ⟨#[]⟩ 0 l) : M Ty)) (i + 1) := by
 unfold kp;rw [if_neg (by omega), if_neg (by omega), if_neg (by omega), if_neg (by rw [jG hk, jG hk, h]; decide), if_neg (by rw [jG hk, h]; decide), if_pos (by rw [jG hk, h]; decide)]
theorem atom_w_let {P : Src} {R : Rec} {i : Nat} (hk : P.K i = 6 ∨ P.K i = 7) (h : P.T i = w_let) : kp P R i = (qm P R 2 >>= fun l => jm P w_in >>= fun _ => R.go .exp >>= fun e => jm P w_end >>= fun _ => (pure (.mk 14 (P.A i) ⟨#[]⟩ l.length (l ++ [e])) : M Ty)) (i + 1) := by
 unfold kp;rw [if_neg (by omega), if_neg (by omega), if_neg (by omega), if_neg (by rw [jG hk, jG hk, h]; decide), if_neg (by rw [jG hk, h]; decide), if_neg (by rw [jG hk, h]; decide), if_pos (by rw [jG hk, h]; decide)]
theorem atom_w_case {P : Src} {R : Rec} {i : Nat} (hk : P.K i = 6 ∨ P.K i = 7) (h : P.T i = w_case) : kp P R i = vc P R 10 (P.A i) w_of (i + 1) := by
 unfold kp;rw [if_neg (by omega), if_neg (by omega), if_neg (by omega), if_neg (by rw [jG hk, jG hk, h]; decide), if_neg (by rw [jG hk, h]; decide), if_neg (by rw [jG hk, h]; decide), if_neg (by rw [jG hk, h]; decide), if_pos (by rw [jG hk, h]; decide)]
theorem atom_w_try {P : Src} {R : Rec} {i : Nat} (hk : P.K i = 6 ∨ P.K i = 7) (h : P.T i = w_try) : kp P R i = vc P R 11 (P.A i) w_with (i + 1) := by
 unfold kp;rw [if_neg (by omega), if_neg (by omega), if_neg (by omega), if_neg (by rw [jG hk, jG hk, h]; decide), if_neg (by rw [jG hk, h]; decide), if_neg (by rw [jG hk, h]; decide), if_neg (by rw [jG hk, h]; decide), if_neg (by rw [jG hk, h]; decide), if_pos (by rw [jG hk, h]; decide)]
theorem catom_any : CtN 212 fun E g => kp E.P (jf E.P g) := by
 intro E g RA w s h;refine Br.go (m := kp E.P (jf E.P g)) h RA ?_;intro d T W R hW B Q hlr hN;have HROWC := at_r R.hd (fun w s => cexps_any E g RA w s s_com);have HDECS := at_r R.hd (fun w s h hw => cdecs_any E g RA w s 2 (by decide) h hw);have HRO := lh (fun aa w s h => cround_any E g RA w s aa h);have HRU := lh (fun kk aa wd w s h => crules_any E g RA w s kk aa wd h);rw [← R.hd] at HRO HRU;clear h RA;unfold pr at HROWC HDECS HRO HRU ⊢;go_enter Tryz.func212, Tryz.ntmps212
 obtain ⟨Q9, p9⟩ := Po9.ex Tryz.f212 E d w T (NdQ w);rw [p9.eq];go_upto_region 1 with fail
 clear hW;go_upto_region 2 with (go_at_call 102; refine B.now ?_; clear B; intro u1 B; have f2 := jA E.P s.i)
 clear f2;generalize hb : u1.heap.size = b4;generalize h : u1.alloc _ = V3;replace B := B.boxt h hb;clear h hb;have c5 := B.S.ct B.F.rb;go_upto_region 3 with fail
 clear c5;generalize hb : V3.heap.size = b7;generalize h : V3.alloc _ = V6;replace B := B.box h hb;clear h hb;go_upto_region 4 with (go_at_call 104; refine B.ask (vq E V6 _ s d [w_true, w_false, s_lp, s_lb, w_let, w_case, w_try] _ 7 rfl rfl (by decide) B.F.R rfl) ?_; clear B; intro u8 B)
 generalize hb : kJ E.P [w_true, w_false, s_lp, s_lb, w_let, w_case, w_try] s = b;have Hb := lh hb;clear hb
 by_cases hs : s.k = 0
 · have e0 : ((s.k : Int) != 0) = false := (by simp [hs]);have HS := lh hs;clear hs;have c9 := B.mv1.S.ct B.F.rb; have c10 := B.F.R.cells
   by_cases h1 : E.P.K s.i = 1
   · have e1 : (E.P.K s.i == 1) = true := (by simp [h1]);have H1 := lh h1;clear h1;replace Q : Qr T ((pure (.mk 1 (E.P.A s.i) ⟨#[]⟩ (E.P.N s.i) []) : M Ty)) (stp s) := ⟨by rw [Q.eq, je HS.out, je (s := (stp s)) HS.out]; exact atom_1 H1.out⟩;have c11 := B.F.R.cells;have c12 : s.i ≤ 100000 := Nat.le_trans B.F.R.le hN;go_upto_region 8 with fail
     clear c9 c10 c11 c12;generalize h : u8.setCell _ _ = X13;replace B := B.step (by rw [H1.out]; decide) h;clear h;have c14 := B.S.cs B.F.rb; have c15 := B.mv1.S.ct B.F.rb;go_upto_region 9 with fail
     clear c14 c15;generalize h : X13.setCell _ _ = X16;replace B := B.s0 h;clear h;have c17 := B.S.cs B.F.rb; have c18 := B.mv1.S.ct B.F.rb;go_upto_region 10 with fail
     clear c17 c18;generalize h : X16.setCell _ _ = X19;replace B := B.s3 h;clear h;have c20 := B.S.cs B.F.rb; have c21 := B.cr;go_wp2_with fail
     exact Br.fin (.mk 1 (E.P.A s.i) ⟨#[]⟩ (E.P.N s.i) []) B.nilk p9 Q.pr rfl rfl
   · have e1 : (E.P.K s.i == 1) = false := (by simp [h1]);have H1 := lh h1;clear h1
     by_cases h2 : E.P.K s.i = 2
     · have e2 : (E.P.K s.i == 2) = true := (by simp [h2]);have H2 := lh h2;clear h2;replace Q : Qr T ((pure (.mk 2 (E.P.A s.i) (E.P.T s.i) 0 []) : M Ty)) (stp s) := ⟨by rw [Q.eq, je HS.out, je (s := (stp s)) HS.out]; exact atom_2 H2.out⟩;have c22 := B.F.R.cells;have c23 : s.i ≤ 100000 := Nat.le_trans B.F.R.le hN;go_upto_region 13 with fail
       clear c9 c10 c22 c23;generalize h : u8.setCell _ _ = X24;replace B := B.step (by rw [H2.out]; decide) h;clear h;have c25 := B.S.cs B.F.rb; have c26 := B.mv1.S.ct B.F.rb;go_upto_region 14 with fail
       clear c25 c26;generalize h : X24.setCell _ _ = X27;replace B := B.s0 h;clear h;have c28 := B.S.cs B.F.rb; have c29 := B.mv1.S.ct B.F.rb;go_upto_region 15 with fail
       clear c28 c29;generalize h : X27.setCell _ _ = X30;replace B := B.s2 h;clear h;have c31 := B.S.cs B.F.rb; have c32 := B.cr;go_wp2_with fail
       exact Br.fin (.mk 2 (E.P.A s.i) (E.P.T s.i) 0 []) B.nilk p9 Q.pr rfl rfl
     · have e2 : (E.P.K s.i == 2) = false := (by simp [h2]);have H2 := lh h2;clear h2
       by_cases h3 : E.P.K s.i = 3
       · have e3 : (E.P.K s.i == 3) = true := (by simp [h3]);have H3 := lh h3;clear h3;replace Q : Qr T ((ki E.P 0 >>= fun p => (ret (.mk (if p.2 = 3 then 3 else 4) (E.P.A s.i) p.1 0 []) : M Ty))) s := ⟨by rw [Q.eq, je HS.out, je (s := s) HS.out]; exact atom_3 (.inl H3.out)⟩;go_upto_region 17 with fail
         go_upto_region 19 with (go_at_call 152; refine B.pth Q (hpath0 E d) ?_; clear B Q; intro u33 p s34 hl B Q; have LNp := lh ((fun (h9 : Rl (rn (ki E.P 0) s) _ _) h0 => path_two h9 h0) hl); clear hl; have c35 := B.S.cs B.F.rb)
         clear c9 c10 c35;generalize h : u33.setCell _ _ = X36;replace B := B.s2 h;clear h;have c37 := B.S.cs B.F.rb; have c38 := B.mv1.S.ct B.F.rb;go_upto_region 20 with fail
         clear c37 c38;generalize h : X36.setCell _ _ = X39;replace B := B.s0 h;clear h
         by_cases h2 : p.2 = 4
         · have e24 : ((p.2 : Int) == 4) = true := (by simp [h2]);have HP2 := lh h2;clear h2;replace Q : Qr T (pure (.mk 4 (E.P.A s.i) p.1 0 []) : M Ty) s34 := ⟨by rw [Q.eq, HP2.out]; rfl⟩;have c40 := B.S.cs B.F.rb; have c41 := B.mv1.S.ct B.F.rb;go_upto_region 22 with fail
           clear c40 c41;generalize h : X39.setCell _ _ = X42;replace B := B.s0 h;clear h;have c43 := B.S.cs B.F.rb; have c44 := B.cr;go_wp2_with fail
           exact Br.fin (.mk 4 (E.P.A s.i) p.1 0 []) B.nilk p9 Q.pr rfl rfl
         · have e24 : ((p.2 : Int) == 4) = false := (by simp; omega);have HP2 := lh h2;clear h2
           replace Q : Qr T (pure (.mk 3 (E.P.A s.i) p.1 0 []) : M Ty) s34 := ⟨by
                         rw [Q.eq]
                         by_cases h0 : s34.k = 0
                         · rw [if_pos ((LNp.out h0).resolve_right HP2.out)]; rfl
                         · rw [jq h0, jq h0]⟩
           go_upto_region 22 with fail
           have c45 := B.S.cs B.F.rb; have c46 := B.cr;go_wp2_with fail
           exact Br.fin (.mk 3 (E.P.A s.i) p.1 0 []) B.nilk p9 Q.pr rfl rfl
       · have e3 : (E.P.K s.i == 3) = false := (by simp [h3]);have H3 := lh h3;clear h3
         by_cases h4 : E.P.K s.i = 4
         · have e4 : (E.P.K s.i == 4) = true := (by simp [h4]);have H4 := lh h4;clear h4;replace Q : Qr T ((ki E.P 0 >>= fun p => (ret (.mk (if p.2 = 3 then 3 else 4) (E.P.A s.i) p.1 0 []) : M Ty))) s := ⟨by rw [Q.eq, je HS.out, je (s := s) HS.out]; exact atom_3 (.inr H4.out)⟩;go_upto_region 17 with fail
           go_upto_region 19 with (go_at_call 152; refine B.pth Q (hpath0 E d) ?_; clear B Q; intro u47 p s48 hl B Q; have LNp := lh ((fun (h9 : Rl (rn (ki E.P 0) s) _ _) h0 => path_two h9 h0) hl); clear hl; have c49 := B.S.cs B.F.rb)
           clear c9 c10 c49;generalize h : u47.setCell _ _ = X50;replace B := B.s2 h;clear h;have c51 := B.S.cs B.F.rb; have c52 := B.mv1.S.ct B.F.rb;go_upto_region 20 with fail
           clear c51 c52;generalize h : X50.setCell _ _ = X53;replace B := B.s0 h;clear h
           by_cases h2 : p.2 = 4
           · have e24 : ((p.2 : Int) == 4) = true := (by simp [h2]);have HP2 := lh h2;clear h2;replace Q : Qr T (pure (.mk 4 (E.P.A s.i) p.1 0 []) : M Ty) s48 := ⟨by rw [Q.eq, HP2.out]; rfl⟩;have c54 := B.S.cs B.F.rb; have c55 := B.mv1.S.ct B.F.rb;go_upto_region 22 with fail
             clear c54 c55;generalize h : X53.setCell _ _ = X56;replace B := B.s0 h;clear h;have c57 := B.S.cs B.F.rb; have c58 := B.cr;go_wp2_with fail
             exact Br.fin (.mk 4 (E.P.A s.i) p.1 0 []) B.nilk p9 Q.pr rfl rfl
           · have e24 : ((p.2 : Int) == 4) = false := (by simp; omega);have HP2 := lh h2;clear h2
             replace Q : Qr T (pure (.mk 3 (E.P.A s.i) p.1 0 []) : M Ty) s48 := ⟨by
                             rw [Q.eq]
                             by_cases h0 : s48.k = 0
                             · rw [if_pos ((LNp.out h0).resolve_right HP2.out)]; rfl
                             · rw [jq h0, jq h0]⟩
             go_upto_region 22 with fail
             have c59 := B.S.cs B.F.rb; have c60 := B.cr;go_wp2_with fail
             exact Br.fin (.mk 3 (E.P.A s.i) p.1 0 []) B.nilk p9 Q.pr rfl rfl
         · have e4 : (E.P.K s.i == 4) = false := (by simp [h4]);have H4 := lh h4;clear h4
           cases b with
           | false =>
            have HN9 : Hid (jK E.P [w_true, w_false, s_lp, s_lb, w_let, w_case, w_try] s.i = false) := lh (by have h := Hb.out; unfold kJ at h; rw [decide_eq_true HS.out, Bool.true_and] at h; exact h);replace Q : Qr T ((jE E.P 4 : M Ty)) s := ⟨by rw [Q.eq, je HS.out, je (s := s) HS.out]; exact atom_no H1.out H2.out (fun h => h.elim H3.out H4.out) HN9.out⟩;go_upto_region 24 with fail
            clear c9 c10;go_upto_region 25 with (go_at_call 103; have OR := lh B.F.R; refine B.no ?_; clear B; intro u61 v B)
            have c62 := B.S.cs B.F.rb; have c63 := B.cr;go_wp2_with fail
            exact Br.fin (.mk 0 (E.P.A s.i) ⟨#[]⟩ 0 []) B.nilk p9 (Q.tl (OR.out.no_rl (by decide) _)) rfl rfl
           | true =>
            have HON := lh (atom_one (kZ Hb.out).2);have HK := lh HON.out.1;have HK1 : Hid (1 ≤ E.P.K s.i) := lh (by have := HON.out.1; omega);rcases HON.out.2 with hx | hx | hx | hx | hx | hx
            · skip
              have HTX := lh hx;clear hx;replace Q : Qr T (vX E.P (jf E.P g) (E.P.A s.i)) (stp s) := ⟨by rw [Q.eq, je HS.out, je (s := (stp s)) HS.out]; exact atom_s_lp HK.out HTX.out⟩;have xs_lp : ((E.P.T s.i).toList == [40]) = true := (by rw [HTX.out, ByteArray.toList_eq]; decide);have ys_lp : (E.P.T s.i).toList = [40] := (by rw [HTX.out, ByteArray.toList_eq]);have c64 := B.F.R.cells;have c65 : s.i ≤ 100000 := Nat.le_trans B.F.R.le hN;go_upto_region 27 with fail
              clear c9 c10 c64 c65;generalize h : u8.setCell _ _ = X66;replace B := B.step (HK1.out) h;clear h;have c67 := B.mv1.S.ct B.F.rb;go_upto_region 29 with fail
              go_wp2_with (go_at_call 219; refine B.ndt Q (lh (HRO.out (E.P.A s.i))) ?_; clear B Q; intro u68 q aoq capq s69 B Q; have c70 := B.cr)
              exact Br.fin (q) B p9 Q rfl rfl
            · skip
              have HTX := lh hx;clear hx;replace Q : Qr T ((kn E.P s_rb >>= fun e => if e = true then (pure (.mk 6 (E.P.A s.i) ⟨#[]⟩ 0 []) : M Ty) else jZ E.P (jt E.P g .exp) s_com >>= fun l => jm E.P s_rb >>= fun _ => (pure (.mk 6 (E.P.A s.i) ⟨#[]⟩ 0 l) : M Ty))) (stp s) := ⟨by rw [Q.eq, je HS.out, je (s := (stp s)) HS.out]; exact atom_s_lb HK.out HTX.out⟩;have xs_lp : ((E.P.T s.i).toList == [40]) = false := (by rw [HTX.out, ByteArray.toList_eq]; decide);have xs_lb : ((E.P.T s.i).toList == [91]) = true := (by rw [HTX.out, ByteArray.toList_eq]; decide);have ys_lb : (E.P.T s.i).toList = [91] := (by rw [HTX.out, ByteArray.toList_eq]);have c71 := B.F.R.cells;have c72 : s.i ≤ 100000 := Nat.le_trans B.F.R.le hN;go_upto_region 27 with fail
              clear c9 c10 c71 c72;generalize h : u8.setCell _ _ = X73;replace B := B.step (HK1.out) h;clear h;have c74 := B.mv1.S.ct B.F.rb;go_upto_region 31 with fail
              clear c74;have c75 := B.S.cs B.F.rb; have c76 := B.mv1.S.ct B.F.rb;go_upto_region 32 with fail
              clear c75 c76;generalize h : X73.setCell _ _ = X77;replace B := B.s0 h;clear h;obtain ⟨b78, P⟩ := B.eatd (sg := s_rb) Q;clear B Q
              cases b78 with
              | true =>
               go_upto_region 36 with (go_at_call 153; refine P.t ?_; clear P; intro u79 B Q _)
               have c80 := B.S.cs B.F.rb; have c81 := B.cr;go_wp2_with fail
               exact Br.fin (.mk 6 (E.P.A s.i) ⟨#[]⟩ 0 []) B.nilk p9 Q.pr rfl rfl
              | false =>
               go_upto_region 34 with (go_at_call 153; refine P.f ?_; clear P; intro u82 B Q)
               go_upto_region 35 with (go_at_call 220; refine B.rw Q HROWC ?_; clear B Q; intro u83 l aol capl s84 LNl B Q; have c85 := B.mv1.S.cs B.F.rb)
               clear c85;generalize h : u83.setCell _ _ = X86;replace B := B.mv1.s4 h;clear h;go_upto_region 36 with (go_at_call 144; refine B.un Q (kg E d s_rb) ?_; clear B Q; intro u87 _ _ s88 B Q)
               have c89 := B.S.cs B.F.rb; have c90 := B.cr;go_wp2_with fail
               exact Br.fin (.mk 6 (E.P.A s.i) ⟨#[]⟩ 0 l) B.mv1.ko p9 Q.pr rfl rfl
            · skip
              have HTX := lh hx;clear hx;replace Q : Qr T ((qm E.P (jf E.P g) 2 >>= fun l => jm E.P w_in >>= fun _ => jt E.P g .exp >>= fun e => jm E.P w_end >>= fun _ => (pure (.mk 14 (E.P.A s.i) ⟨#[]⟩ l.length (l ++ [e])) : M Ty))) (stp s) := ⟨by rw [Q.eq, je HS.out, je (s := (stp s)) HS.out]; exact atom_w_let HK.out HTX.out⟩;have xs_lp : ((E.P.T s.i).toList == [40]) = false := (by rw [HTX.out, ByteArray.toList_eq]; decide);have xs_lb : ((E.P.T s.i).toList == [91]) = false := (by rw [HTX.out, ByteArray.toList_eq]; decide);have xw_let : ((E.P.T s.i).toList == [108, 101, 116]) = true := (by rw [HTX.out, ByteArray.toList_eq]; decide);have yw_let : (E.P.T s.i).toList = [108, 101, 116] := (by rw [HTX.out, ByteArray.toList_eq]);have c91 := B.F.R.cells;have c92 : s.i ≤ 100000 := Nat.le_trans B.F.R.le hN;go_upto_region 27 with fail
              clear c9 c10 c91 c92;generalize h : u8.setCell _ _ = X93;replace B := B.step (HK1.out) h;clear h;have c94 := B.mv1.S.ct B.F.rb;go_upto_region 38 with fail
              clear c94;have c95 := B.S.cs B.F.rb; have c96 := B.mv1.S.ct B.F.rb;go_upto_region 39 with fail
              clear c95 c96;generalize h : X93.setCell _ _ = X97;replace B := B.s0 h;clear h;go_upto_region 40 with (go_at_call 55; refine B.rw Q HDECS ?_; clear B Q; intro u98 l aol capl s99 LNl B Q; have c100 := B.mv1.S.cs B.F.rb)
              clear c100;generalize h : u98.setCell _ _ = X101;replace B := B.mv1.s4 h;clear h;have c102 := B.S.cs B.F.rb;go_upto_region 41 with fail
              clear c102;generalize h : X101.setCell _ _ = X103;replace B := B.s3 h;clear h;go_upto_region 42 with (go_at_call 144; refine B.un Q (kg E d w_in) ?_; clear B Q; intro u104 _ _ s105 B Q)
              go_upto_region 43 with (go_at_call 56; refine B.nd Q R.exp ?_; clear B Q; intro u106 q aoq capq s107 _ B Q)
              generalize hb : u106.heap.size = b109;generalize h : u106.alloc _ = V108;replace B := B.box h hb;clear h hb;have c110 := B.mv2.S.cs B.F.rb; have c111 := B.S.cs B.F.rb;go_upto_region 44 with (at_builtin; generalize h : V108.alloc _ = V112; replace B := B.mv1.mk1 rfl h; clear h; go_must (refine B.mv3.app rfl _ _ rfl rfl rfl (by have h1 := LNl.out; show _ + 1 ≤ _; omega) ?_); clear B; intro aoL capL L u113 ELL B; have c114 := B.mv2.S.cs B.F.rb)
              clear c110 c111 c114;generalize h : u113.setCell _ _ = X115;replace B := B.mv2.s4 h;clear h;go_upto_region 45 with (go_at_call 144; refine B.un Q (kg E d w_end) ?_; clear B Q; intro u116 _ _ s117 B Q)
              have c118 := B.S.cs B.F.rb; have c119 := B.cr;go_wp2_with fail
              exact Br.fin (.mk 14 (E.P.A s.i) ⟨#[]⟩ l.length L) B.mv1.ko p9 (by rw [ELL.out]; exact Q.pr) rfl rfl
            · skip
              have HTX := lh hx;clear hx;replace Q : Qr T (vc E.P (jf E.P g) 10 (E.P.A s.i) w_of) (stp s) := ⟨by rw [Q.eq, je HS.out, je (s := (stp s)) HS.out]; exact atom_w_case HK.out HTX.out⟩;have xs_lp : ((E.P.T s.i).toList == [40]) = false := (by rw [HTX.out, ByteArray.toList_eq]; decide);have xs_lb : ((E.P.T s.i).toList == [91]) = false := (by rw [HTX.out, ByteArray.toList_eq]; decide);have xw_let : ((E.P.T s.i).toList == [108, 101, 116]) = false := (by rw [HTX.out, ByteArray.toList_eq]; decide);have xw_case : ((E.P.T s.i).toList == [99, 97, 115, 101]) = true := (by rw [HTX.out, ByteArray.toList_eq]; decide);have yw_case : (E.P.T s.i).toList = [99, 97, 115, 101] := (by rw [HTX.out, ByteArray.toList_eq]);have c120 := B.F.R.cells;have c121 : s.i ≤ 100000 := Nat.le_trans B.F.R.le hN;go_upto_region 27 with fail
              clear c9 c10 c120 c121;generalize h : u8.setCell _ _ = X122;replace B := B.step (HK1.out) h;clear h;have c123 := B.mv1.S.ct B.F.rb;go_upto_region 47 with fail
              go_wp2_with (go_at_call 221; refine B.ndt Q (lh (HRU.out 10 (E.P.A s.i) w_of)) ?_; clear B Q; intro u124 q aoq capq s125 B Q; have c126 := B.cr)
              exact Br.fin (q) B p9 Q rfl rfl
            · skip
              have HTX := lh hx;clear hx;replace Q : Qr T (vc E.P (jf E.P g) 11 (E.P.A s.i) w_with) (stp s) := ⟨by rw [Q.eq, je HS.out, je (s := (stp s)) HS.out]; exact atom_w_try HK.out HTX.out⟩;have xs_lp : ((E.P.T s.i).toList == [40]) = false := (by rw [HTX.out, ByteArray.toList_eq]; decide);have xs_lb : ((E.P.T s.i).toList == [91]) = false := (by rw [HTX.out, ByteArray.toList_eq]; decide);have xw_let : ((E.P.T s.i).toList == [108, 101, 116]) = false := (by rw [HTX.out, ByteArray.toList_eq]; decide);have xw_case : ((E.P.T s.i).toList == [99, 97, 115, 101]) = false := (by rw [HTX.out, ByteArray.toList_eq]; decide);have xw_try : ((E.P.T s.i).toList == [116, 114, 121]) = true := (by rw [HTX.out, ByteArray.toList_eq]; decide);have yw_try : (E.P.T s.i).toList = [116, 114, 121] := (by rw [HTX.out, ByteArray.toList_eq]);have c127 := B.F.R.cells;have c128 : s.i ≤ 100000 := Nat.le_trans B.F.R.le hN;go_upto_region 27 with fail
              clear c9 c10 c127 c128;generalize h : u8.setCell _ _ = X129;replace B := B.step (HK1.out) h;clear h;have c130 := B.mv1.S.ct B.F.rb;go_upto_region 49 with fail
              go_wp2_with (go_at_call 221; refine B.ndt Q (lh (HRU.out 11 (E.P.A s.i) w_with)) ?_; clear B Q; intro u131 q aoq capq s132 B Q; have c133 := B.cr)
              exact Br.fin (q) B p9 Q rfl rfl
            · skip
              have HTX := lh hx;clear hx;replace Q : Qr T ((pure (.mk 4 (E.P.A s.i) (E.P.T s.i) 0 []) : M Ty)) (stp s) := ⟨by rw [Q.eq, je HS.out, je (s := (stp s)) HS.out]; exact atom_w HK.out HTX.out⟩;have xs_lp : ((E.P.T s.i).toList == [40]) = false := by rcases HTX.out with h | h <;> rw [h, ByteArray.toList_eq] <;> decide
              have xs_lb : ((E.P.T s.i).toList == [91]) = false := by rcases HTX.out with h | h <;> rw [h, ByteArray.toList_eq] <;> decide
              have xw_let : ((E.P.T s.i).toList == [108, 101, 116]) = false := by rcases HTX.out with h | h <;> rw [h, ByteArray.toList_eq] <;> decide
              have xw_case : ((E.P.T s.i).toList == [99, 97, 115, 101]) = false := by rcases HTX.out with h | h <;> rw [h, ByteArray.toList_eq] <;> decide
              have xw_try : ((E.P.T s.i).toList == [116, 114, 121]) = false := by rcases HTX.out with h | h <;> rw [h, ByteArray.toList_eq] <;> decide
              have c134 := B.F.R.cells;have c135 : s.i ≤ 100000 := Nat.le_trans B.F.R.le hN;go_upto_region 27 with fail
              clear c9 c10 c134 c135;generalize h : u8.setCell _ _ = X136;replace B := B.step (HK1.out) h;clear h;have c137 := B.mv1.S.ct B.F.rb;go_upto_region 50 with fail
              clear c137;have c138 := B.S.cs B.F.rb; have c139 := B.mv1.S.ct B.F.rb;go_upto_region 51 with fail
              clear c138 c139;generalize h : X136.setCell _ _ = X140;replace B := B.s0 h;clear h;have c141 := B.S.cs B.F.rb; have c142 := B.mv1.S.ct B.F.rb;go_upto_region 52 with fail
              clear c141 c142;generalize h : X140.setCell _ _ = X143;replace B := B.s2 h;clear h;have c144 := B.S.cs B.F.rb; have c145 := B.cr;go_wp2_with fail
              exact Br.fin (.mk 4 (E.P.A s.i) (E.P.T s.i) 0 []) B.nilk p9 Q.pr rfl rfl
 · have e0 : ((s.k : Int) != 0) = true := (by simp [hs]);have HS := lh hs;clear hs;have c146 := B.F.R.cells;go_upto_region 5 with fail
   clear c146;have c147 := B.S.cs B.F.rb; have c148 := B.cr;go_wp2_with fail
   exact Br.fin (.mk 0 (E.P.A s.i) ⟨#[]⟩ 0 []) B.nilk p9 (Q.lost HS.out) rfl rfl
theorem one_two {P : Src} {i : Nat} : jK P [s_ti, s_ex] i = true ↔ (isD P s_ti i = true ∨ isD P s_ex i = true) := by
 unfold jK isD;simp
 constructor
 · rintro ⟨h1, h2 | h2⟩
   · exact .inl ⟨h1, h2⟩
   · exact .inr ⟨h1, h2⟩
 · rintro (⟨h1, h2⟩ | ⟨h1, h2⟩)
   · exact ⟨h1, .inl h2⟩
   · exact ⟨h1, .inr h2⟩
theorem one_K {P : Src} {l : List ByteArray} {i : Nat} (h : jK P l i = true) : 1 ≤ P.K i := by
 unfold jK at h;simp at h
 omega
theorem cprefix_step (E : Env) (g : Nat) (RA : RAll E g) (w : World) (s : RS) (f : Nat) (hf : s.k = 0 → E.P.toks.length < s.i + f) (IH : ∀ f', f = f' + 1 → ∀ w1 s1, Rr E w1 s1 (60 - g) → (s1.k = 0 → E.P.toks.length < s1.i + f') → Calls Tryz.prog 200 #[pr E] w1 (RPost E (60 - g) w1 (rn (qk E.P (jf E.P g) f') s1) (NdQ w1))) (h : Rr E w s (60 - g)) : Calls Tryz.prog 200 #[pr E] w (RPost E (60 - g) w (rn (qk E.P (jf E.P g) f) s) (NdQ w)) := by
 refine Br.go (m := qk E.P (jf E.P g) f) h RA ?_;intro d T W R hW B Q hlr hN;have HF := lh hf;have HIH := lh IH;have HATOM := vg R.hd (catom_any E g RA);rw [← R.hd] at HIH;clear h RA IH hf;unfold pr at HIH HATOM ⊢;go_enter Tryz.func200, Tryz.ntmps200
 obtain ⟨Q9, p9⟩ := Po9.ex Tryz.f200 E d w T (NdQ w);rw [p9.eq];go_upto_region 1 with fail
 clear hW;go_upto_region 2 with (go_at_call 102; refine B.now ?_; clear B; intro u1 B; have f2 := jA E.P s.i)
 clear f2;generalize hb : u1.heap.size = b4;generalize h : u1.alloc _ = V3;replace B := B.boxt h hb;clear h hb;go_upto_region 3 with (go_at_call 104; refine B.ask (vq E V3 _ s d [s_ti, s_ex] _ 2 rfl rfl (by decide) B.F.R rfl) ?_; clear B; intro u5 B)
 generalize hb : kJ E.P [s_ti, s_ex] s = b;have Hb := lh hb;clear hb
 cases b with
 | true =>
  have HGD : Hid (s.k = 0) := lh (kZ Hb.out).1;have HSG : Hid (isD E.P s_ti s.i = true ∨ isD E.P s_ex s.i = true) := lh (one_two.1 (kZ Hb.out).2);have HLE := lh B.F.R.le;obtain ⟨f', hf'⟩ : ∃ f', f = f' + 1 := ⟨f - 1, by have := HF.out HGD.out; have := HLE.out; omega⟩
  have HFF := lh hf';clear hf';replace Q : Qr T (qk E.P (jf E.P g) f' >>= fun n => (pure (.mk 18 (E.P.A s.i) (E.P.T s.i) 0 [n]) : M Ty)) (stp s) := ⟨by rw [Q.eq, HFF.out, je HGD.out, je (s := stp s) HGD.out]; exact if_pos HSG.out⟩;have HPR := lh (fun w1 h1 => HIH.out f' HFF.out w1 (stp s) h1 (fun h0 => by have := HF.out HGD.out; have := HFF.out; show _ < s.i + 1 + f'; omega));have c6 := B.F.R.cells;have c7 : s.i ≤ 100000 := Nat.le_trans B.F.R.le hN;go_upto_region 5 with fail
  clear c6 c7;generalize h : u5.setCell _ _ = X8;replace B := B.step (one_K (kZ Hb.out).2) h;clear h;go_upto_region 6 with (go_at_call 200; refine B.ndc (HPR.out _ B.F.R) ?_; clear B; intro u9 n aon capn s10 hl B; replace Q := Q.rd hl; clear hl)
  generalize hb : u9.heap.size = b12;generalize h : u9.alloc _ = V11;replace B := B.box h hb;clear h hb;have c13 := B.mv2.S.ct B.F.rb; have c14 := B.S.cs B.F.rb;go_upto_region 7 with (go_at_call 54; generalize h : V11.alloc _ = V15; replace B := B.mv1.mk1 rfl h; clear h; refine B.node ?_; clear B; intro u16 B)
  clear c13 c14;generalize hb : u16.heap.size = b18;generalize h : u16.alloc _ = V17;replace B := B.box h hb;clear h hb;have c19 := B.mv3.S.ct B.F.rb; have c20 := B.S.cs B.F.rb;go_upto_region 8 with fail
  clear c19 c20;generalize h : V17.setCell _ _ = X21;replace B := B.s2 h;clear h;have c22 := B.S.cs B.F.rb; have c23 := B.cr;go_wp2_with fail
  exact Br.fin (.mk 18 (E.P.A s.i) (E.P.T s.i) 0 [n]) B.mv1.ko p9 Q.pr rfl rfl
 | false =>
  replace Q : Qr T (kp E.P (jf E.P g)) s := ⟨by
   rw [Q.eq]
   by_cases hs : s.k = 0
   · obtain ⟨f', hf'⟩ : ∃ f', f = f' + 1 := ⟨f - 1, by have := HF.out hs; have := B.F.R.le; omega⟩
     have h2 : ¬ (isD E.P s_ti s.i = true ∨ isD E.P s_ex s.i = true) := fun h => by
      have h3 := Hb.out;unfold kJ at h3;rw [decide_eq_true hs, Bool.true_and, one_two.2 h] at h3
      cases h3
     rw [hf', je hs, je hs];exact if_neg h2
   · rw [jq hs, jq hs]⟩
  go_wp2_with (go_at_call 212; refine B.ndt Q HATOM ?_; clear B Q; intro u24 n aon capn s25 B Q; have c26 := B.cr)
  exact Br.fin (n) B p9 Q rfl rfl
theorem cprefix_f (E : Env) (g : Nat) (RA : RAll E g) : ∀ (f : Nat) (w : World) (s : RS), Rr E w s (60 - g) → (s.k = 0 → E.P.toks.length < s.i + f) → Calls Tryz.prog 200 #[pr E] w (RPost E (60 - g) w (rn (qk E.P (jf E.P g) f) s) (NdQ w))
 | 0, w, s, h, hf => cprefix_step E g RA w s 0 hf (fun f' e => by omega) h
 | f + 1, w, s, h, hf => cprefix_step E g RA w s (f + 1) hf (fun f' e w1 s1 h1 h2 => by
  obtain rfl : f = f' := by omega
  exact cprefix_f E g RA f w1 s1 h1 h2) h
theorem cprefix_any : CtN 200 fun E g => qj E.P (jf E.P g) := fun E g RA w s h => cprefix_f E g RA _ w s h (fun _ => by omega)
theorem app_head {P : Src} {R : Rec} {f : Nat} {m : Ty} {T : Res Ty} {s : RS} (hT : T = rn (qr P R f m) s) (hf : s.k = 0 → P.toks.length < s.i + f) (hle : s.i ≤ P.toks.length) : ∃ f', T = (if (decide (s.k = 0) && kh P s.i) = true then rn (qj P R >>= fun x => qr P R f' (.mk 8 m.n ⟨#[]⟩ 0 [m, x])) s else rn (pure m : M Ty) s) ∧ (s.k = 0 → P.toks.length ≤ s.i + f') := by
 by_cases hs : s.k = 0
 · have h1 := hf hs;obtain ⟨f, rfl⟩ : ∃ f', f = f' + 1 := ⟨f - 1, by omega⟩
   refine ⟨f, ?_, fun _ => by omega⟩;rw [decide_eq_true hs, Bool.true_and, hT, je hs, je hs, je hs];rfl
 · refine ⟨0, ?_, fun h => absurd h hs⟩;rw [decide_eq_false hs, Bool.false_and, if_neg Bool.false_ne_true, hT, jq hs, jq hs]
theorem capply_any : CtN 185 fun E g => applyB E.P (jf E.P g) := by
 intro E g RA w s h;refine Br.go (m := qj E.P (jf E.P g) >>= fun n => qr E.P (jf E.P g) (E.P.toks.length + 1) n) h RA ?_;intro d T W R hW B Q hlr hN;have HPRE := vg R.hd (cprefix_any E g RA);have HST := lh (st_prefix E.P _ (kD E.P g).2);clear h RA;unfold pr at HPRE ⊢;go_enter Tryz.func185, Tryz.ntmps185
 obtain ⟨Q9, p9⟩ := Po9.ex Tryz.f185 E d w T (NdQ w);rw [p9.eq];go_upto_region 1 with fail
 clear hW;go_upto_region 2 with (go_at_call 200; refine B.nd Q HPRE ?_; clear B Q; intro u1 n aon capn s2 _ B Q)
 generalize hb : u1.heap.size = b4;generalize h : u1.alloc _ = V3;replace B := B.box h hb;clear h hb;have HFU : Hid (s2.k = 0 → E.P.toks.length < s2.i + (E.P.toks.length + 1)) := lh (fun _ => by omega);obtain ⟨f2, q1, q2⟩ := app_head Q.eq HFU.out B.F.R.le;have HQ1 := lh q1;have HQ2 := lh q2;clear q1 q2 Q HFU;go_upto_region 3 with (go_at_call 201; refine B.ask ((hbegins E d).out _ _ B.F.R) ?_; clear B; intro u5 B)
 go_loopw [4] (fun va wr => ∃ (n : Ty) (ao : Option Addr) (cap : Nat) (b : Bool) (t : RS) (f : Nat), va = .bool b ∧ (T = if b = true then rn (qj E.P (jf E.P g) >>= fun x => qr E.P (jf E.P g) f (.mk 8 n.n ⟨#[]⟩ 0 [n, x])) t else rn (pure n : M Ty) t) ∧ (b = true → t.k = 0) ∧ (t.k = 0 → E.P.toks.length ≤ t.i + f) ∧ Br E w d wr t [.kd n.args ao cap, .nv b4 (.int .i64 n.k) (.int .i64 n.n) (.string n.s) (.int .i64 n.q) (.slice ao n.args.length cap)]) (fun va wr => jY E.P.toks.length wr E.rb)
 case atStart => exact ⟨n, aon, capn, _, _, f2, rfl, HQ1.out, fun h => by simp at h; exact h.1, HQ2.out, B.mv1⟩
 case round =>
  clear HQ1 HQ2 B;obtain ⟨m, ao, cap, b, t, f, rfl, hT, hgo, hf, B⟩ := hrel;have HTL := lh hT;have HGL := lh hgo;have HFL := lh hf;clear hT hgo hf
  cases b with
  | false =>
   have Q : Qr T (pure m : M Ty) t := ⟨HTL.out.trans (if_neg Bool.false_ne_true)⟩;have c6 := B.mv1.S.cs B.F.rb; have c7 := B.cr;go_wp2_with fail
   exact Br.fin (m) B p9 Q.pr rfl rfl
  | true =>
   have HGO := lh (HGL.out rfl);have R0 := lh B.F.R;have Q : Qr T (qj E.P (jf E.P g) >>= fun x => qr E.P (jf E.P g) f (.mk 8 m.n ⟨#[]⟩ 0 [m, x])) t := ⟨HTL.out.trans (if_pos rfl)⟩;go_upto_region 5 with (go_at_call 200; refine B.nd Q HPRE ?_; clear B Q; intro u8 b aob capb s9 hl B Q; have HRL := lh hl; clear hl)
   have HS1 : Hid (s9.k = 0 → t.i + 1 ≤ s9.i) := lh (fun h0 => HST.out _ _ _ ((je HGO.out).symm.trans (HRL.out.1 h0)));generalize hb : u8.heap.size = b11;generalize h : u8.alloc _ = V10;replace B := B.box h hb;clear h hb;have c12 := B.mv3.S.cs B.F.rb; have c13 := B.S.cs B.F.rb;go_upto_region 6 with (go_at_call 54; generalize h : V10.alloc _ = V14; replace B := B.mv1.mv2.mk2 rfl h; clear h; refine B.node ?_; clear B; intro u15 B; have c16 := B.mv2.S.cs B.F.rb)
   clear c12 c13 c16;generalize h : ((((u15.setCell _ _).setCell _ _).setCell _ _).setCell _ _).setCell _ _ = X17;replace B := B.mv2.sn h;clear h;have HFU : Hid (s9.k = 0 → E.P.toks.length < s9.i + f) := lh (fun h0 => by have h1 := HS1.out h0; have h2 := HFL.out HGO.out; omega);obtain ⟨f2, q1, q2⟩ := app_head Q.eq HFU.out B.F.R.le;have HQ1 := lh q1;have HQ2 := lh q2;clear q1 q2 Q HFU;go_wp2_with (go_at_call 201; refine B.ask ((hbegins E d).out _ _ B.F.R) ?_; clear B; intro u18 B)
   go_roundw
   case rel => exact ⟨.mk 8 m.n ⟨#[]⟩ 0 [m, b], (some ⟨V10.heap.size, 0, none⟩), 2, _, _, f2, rfl, HQ1.out, fun h => by simp at h; exact h.1, HQ2.out, B.mv2.dr.mv1.ko⟩
   case measure => exact jP R0.out B.F.R HGO.out (fun h0 => ⟨h0, Nat.le_refl _⟩) HS1.out
def betb (P : Src) (k : Nat) (s : RS) : Bool := kJ P (lvL (8 - k)) s
theorem bind_lv {x : ByteArray} {k : Nat} (hk : 1 ≤ k ∧ k ≤ 7) : ((lvL (8 - k)).any fun s => decide (x = s)) = decide (kF x = k) := by
 obtain rfl | rfl | rfl | rfl | rfl | rfl | rfl : k = 1 ∨ k = 2 ∨ k = 3 ∨ k = 4 ∨ k = 5 ∨ k = 6 ∨ k = 7 := by omega
 all_goals
  unfold kF
  by_cases h0 : x = s_asg
  · subst h0; decide
  by_cases h1 : x = w_orelse
  · subst h1; decide
  by_cases h2 : x = w_andalso
  · subst h2; decide
  by_cases h3 : x = s_eq
  · subst h3; decide
  by_cases h4 : x = s_ne
  · subst h4; decide
  by_cases h5 : x = s_lt
  · subst h5; decide
  by_cases h6 : x = s_le
  · subst h6; decide
  by_cases h7 : x = s_gt
  · subst h7; decide
  by_cases h8 : x = s_ge
  · subst h8; decide
  by_cases h9 : x = s_cons
  · subst h9; decide
  by_cases h10 : x = s_pl
  · subst h10; decide
  by_cases h11 : x = s_mi
  · subst h11; decide
  by_cases h12 : x = s_ca
  · subst h12; decide
  by_cases h13 : x = s_st
  · subst h13; decide
  by_cases h14 : x = s_sl
  · subst h14; decide
  by_cases h15 : x = s_pc
  · subst h15; decide
  rw [if_neg h0, if_neg h1, if_neg h2, if_neg h3, if_neg h4, if_neg h5, if_neg h6, if_neg h7, if_neg h8, if_neg h9, if_neg h10, if_neg h11, if_neg h12, if_neg h13, if_neg h14, if_neg h15];simp [lvL, *]
theorem rbetween_any (E : Env) (w : World) (s : RS) (d k : Nat) (hk : 1 ≤ k ∧ k ≤ 7) (h : Rr E w s d) : Calls Tryz.prog 186 #[pr E, .int .i64 (k : Int)] w fun e w' => e = .returned (.string (if betb E.P k s = true then E.P.T s.i else ⟨#[]⟩)) ∧ Rr E w' (if betb E.P k s = true then stp s else s) d ∧ w.grownBy w' (some E.rb) := by
 have HNOW := lh (qh E w s d h);have H := lh h;have hi9 : s.i ≤ 100000 := Nat.le_trans h.le h.ok.len;have HBI : Hid (∀ w1, Calls Tryz.prog 112 #[.string (E.P.T s.i)] w1 fun e w' => e = .returned (.int .i64 (kF (E.P.T s.i) : Int)) ∧ w' = w1) := lh (fun w1 => rbind_any _ w1);obtain ⟨q, hq⟩ : ∃ q, q = kF (E.P.T s.i) := ⟨_, rfl⟩
 rw [← hq] at HBI;obtain ⟨b, hb⟩ : ∃ b, b = betb E.P k s := ⟨_, rfl⟩
 rw [← hb];obtain ⟨rv, hrv⟩ : ∃ rv : ByteArray, rv = if b = true then E.P.T s.i else ⟨#[]⟩ := ⟨_, rfl⟩
 obtain ⟨rs, hrs⟩ : ∃ rs : RS, rs = if b = true then stp s else s := ⟨_, rfl⟩
 rw [← hrv, ← hrs];have HRV := lh hrv;have HRS := lh hrs;clear hrv hrs;have HB : Hid (b = (decide (s.k = 0) && (decide (E.P.K s.i = 6 ∨ E.P.K s.i = 7) && decide (q = k)))) := lh (by rw [hb, hq, ← bind_lv hk]; rfl);unfold qb at HNOW;unfold pr at HNOW ⊢;clear h hb hq hk;go_enter Tryz.func186, Tryz.ntmps186
 go_upto_region 2 with (first | (go_at_call 102; refine HNOW.out.mono ?_; rintro e w1 ⟨rfl, hb1⟩; have HB1 := lh hb1; clear hb1))
 obtain ⟨W, hW⟩ : ∃ W, W = w1.alloc (.cells #[.int .i64 (E.P.K s.i), .int .i64 (E.P.A s.i : Int), .string (E.P.T s.i), .int .i64 (E.P.N s.i : Int)] 59) := ⟨_, rfl⟩
 obtain ⟨hbW, hrW⟩ := qs hW HB1.out;rw [← hW];obtain ⟨c0, c1, c2, c3⟩ := jU hrW;have hR := H.out.keep hbW;obtain ⟨⟨r0, r1, r2, r3, r4, r5, r6⟩, ⟨z1, z4, z5, z6⟩⟩ := hR.cells;replace r3 : W.cell? ⟨E.rb, 2 + 1, none⟩ = some (.int .i64 (E.P.fa : Int)) := r3;have z5b : W.frozen? ⟨E.rb, 4 + 1, none⟩ = false := z5;have r5b : W.cell? ⟨E.rb, 4 + 1, none⟩ = some (.int .i64 (s.a : Int)) := r5;have HR := lh hR;have HBW := lh hbW;have n1 : ¬ (w1.heap.size = E.rb) := by have := H.out.ltr; have := HB1.out.size; omega
 have n2 : ¬ (E.rb = w1.heap.size) := fun e => n1 e.symm
 clear hW hbW hrW hR
 by_cases hs : s.k = 0
 · have e1 : ((s.k : Int) != 0) = false := (by simp [hs]);have HS := lh hs;clear hs
   by_cases h6 : E.P.K s.i = 6
   · have e6 : (E.P.K s.i != 6) = false := (by simp [h6]);have HK : Hid (E.P.K s.i = 6 ∨ E.P.K s.i = 7) := lh (.inl h6);clear h6
     by_cases hq : q = k
     · have e9 : ((q : Int) != (k : Int)) = false := (by simp [hq]);have HQ := lh hq;have HE : Hid (b = true) := lh (by rw [HB.out]; simp [HS.out, HK.out, hq]);clear hq;go_wp2_with (first | (go_at_call 112; refine (HBI.out _).mono ?_; rintro e w2 ⟨rfl, rfl⟩))
       go_ret
       have hst := HR.out.step1 (by have := HK.out; omega);exact ⟨by rw [HRV.out, HE.out, if_pos rfl]; rfl, by rw [HRS.out, HE.out, if_pos rfl]; exact hst, jr (ji HBW.out _) (jX _ _ _ _)⟩
     · have e9 : ((q : Int) != (k : Int)) = true := (by simp; omega);have HE : Hid (b = false) := lh (by rw [HB.out]; simp [hq]);clear hq;go_wp2_with (first | (go_at_call 112; refine (HBI.out _).mono ?_; rintro e w2 ⟨rfl, rfl⟩))
       go_ret
       exact ⟨by rw [HRV.out, HE.out, if_neg Bool.false_ne_true]; rfl, by rw [HRS.out, HE.out, if_neg Bool.false_ne_true]; exact HR.out, ji HBW.out _⟩
   · have e6 : (E.P.K s.i != 6) = true := by simp [h6]
     by_cases h7 : E.P.K s.i = 7
     · have e7 : (E.P.K s.i != 7) = false := (by simp [h7]);have HK : Hid (E.P.K s.i = 6 ∨ E.P.K s.i = 7) := lh (.inr h7);clear h6 h7
       by_cases hq : q = k
       · have e9 : ((q : Int) != (k : Int)) = false := (by simp [hq]);have HQ := lh hq;have HE : Hid (b = true) := lh (by rw [HB.out]; simp [HS.out, HK.out, hq]);clear hq;go_wp2_with (first | (go_at_call 112; refine (HBI.out _).mono ?_; rintro e w2 ⟨rfl, rfl⟩))
         go_ret
         have hst := HR.out.step1 (by have := HK.out; omega);exact ⟨by rw [HRV.out, HE.out, if_pos rfl]; rfl, by rw [HRS.out, HE.out, if_pos rfl]; exact hst, jr (ji HBW.out _) (jX _ _ _ _)⟩
       · have e9 : ((q : Int) != (k : Int)) = true := (by simp; omega);have HE : Hid (b = false) := lh (by rw [HB.out]; simp [hq]);clear hq;go_wp2_with (first | (go_at_call 112; refine (HBI.out _).mono ?_; rintro e w2 ⟨rfl, rfl⟩))
         go_ret
         exact ⟨by rw [HRV.out, HE.out, if_neg Bool.false_ne_true]; rfl, by rw [HRS.out, HE.out, if_neg Bool.false_ne_true]; exact HR.out, ji HBW.out _⟩
     · have e7 : (E.P.K s.i != 7) = true := (by simp [h7]);have HE : Hid (b = false) := lh (by rw [HB.out]; simp [h6, h7]);clear h6 h7;go_wp2_with fail
       go_ret
       exact ⟨by rw [HRV.out, HE.out, if_neg Bool.false_ne_true]; rfl, by rw [HRS.out, HE.out, if_neg Bool.false_ne_true]; exact HR.out, ji HBW.out _⟩
 · have e1 : ((s.k : Int) != 0) = true := (by simp [hs]);have HE : Hid (b = false) := lh (by rw [HB.out]; simp [hs]);clear hs;go_wp2_with fail
   go_ret
   exact ⟨by rw [HRV.out, HE.out, if_neg Bool.false_ne_true]; rfl, by rw [HRS.out, HE.out, if_neg Bool.false_ne_true]; exact HR.out, ji HBW.out _⟩
theorem qH : w_andalso.toList = [97, 110, 100, 97, 108, 115, 111] := by rw [ByteArray.toList_eq]
theorem vk : w_orelse.toList = [111, 114, 101, 108, 115, 101] := by rw [ByteArray.toList_eq]
def qv (a b : Ty) (ao bo : Option Addr) (ca cb : Nat) : Array Value := #[.int .i64 a.k, .int .i64 a.n, .string a.s, .int .i64 a.q, .slice ao a.args.length ca, .int .i64 b.k, .int .i64 b.n, .string b.s, .int .i64 b.q, .slice bo b.args.length cb]
def JoinP (w : World) (s : ByteArray) (a b : Ty) (ao bo : Option Addr) (ca cb : Nat) (e : Ending) (w' : World) : Prop :=
 ∃ g, w.heap.size ≤ g ∧ e = .returned (.agg (jh (kG s a b) (some ⟨g, 0, none⟩) 2)) ∧ Below w.heap.size w w' ∧ w'.heap[g]? = some (.cells (qv a b ao bo ca cb) 26 (0, 0))
theorem joined_any (s : ByteArray) (a b : Ty) (ao bo : Option Addr) (ca cb : Nat) (w : World) : Calls Tryz.prog 80 #[.string s, .agg (jh a ao ca), .agg (jh b bo cb)] w (JoinP w s a b ao bo ca cb) := by
 obtain ⟨W1, hW1⟩ : ∃ W1, W1 = w.alloc (.cells (jh a ao ca) 26) := ⟨_, rfl⟩
 obtain ⟨W2, hW2⟩ : ∃ W2, W2 = W1.alloc (.cells (jh b bo cb) 26) := ⟨_, rfl⟩
 obtain ⟨W, hW⟩ : ∃ W, W = W2.alloc (.cells ju 26) := ⟨_, rfl⟩
 have s1 : W1.heap.size = w.heap.size + 1 := by rw [hW1, World.size_alloc]
 have s2 : W2.heap.size = w.heap.size + 1 + 1 := by rw [hW2, World.size_alloc, s1]
 have s3 : W.heap.size = w.heap.size + 3 := by rw [hW, World.size_alloc, s2]
 have hb1 : Below w.heap.size w W1 := by rw [hW1]; exact jk (Below.refl _ _) _
 have hb2 : Below w.heap.size w W2 := by rw [hW2]; exact jk hb1 _
 have hb : Below w.heap.size w W := by rw [hW]; exact jk hb2 _
 have r0 : W.heap[w.heap.size]? = some (.cells (jh a ao ca) 26 (0, 0)) := by rw [hW]; refine js ?_ _; rw [hW2]; refine js ?_ _; rw [hW1]; exact heap_alloc_new w _
 have r1 : W.heap[w.heap.size + 1]? = some (.cells (jh b bo cb) 26 (0, 0)) := by rw [hW]; refine js ?_ _; rw [hW2, ← s1]; exact heap_alloc_new W1 _
 have r2 : W.heap[w.heap.size + 1 + 1]? = some (.cells ju 26 (0, 0)) := by rw [hW, ← s2]; exact heap_alloc_new W2 _
 obtain ⟨rb, hrb⟩ : ∃ rb, rb = w.heap.size + 1 + 1 := ⟨_, rfl⟩
 obtain ⟨pb, hpb⟩ : ∃ pb, pb = w.heap.size + 1 := ⟨_, rfl⟩
 rw [← hpb] at r1;rw [← hrb] at r2;have HPB := lh hpb;have HRB := lh hrb;have HBW := lh hb;have HR2 := lh r2;have HS := lh s3;have HNODE : Hid (∀ (k a : Int) (ao : Option Addr) (n cap : Nat) (w1 : World), Calls Tryz.prog 28 #[.int .i64 k, .int .i64 a, .slice ao n cap] w1 fun e w' => e = .returned (.agg #[.int .i64 k, .int .i64 a, .string ⟨#[]⟩, .int .i64 0, .slice ao n cap]) ∧ Below w1.heap.size w1 w') := lh node_any;have hWW : W = ((w.alloc (.cells (jh a ao ca) 26)).alloc (.cells (jh b bo cb) 26)).alloc (.cells ju 26) := by rw [hW, hW2, hW1]
 unfold jh at r0 r1;obtain ⟨⟨c0, c1, c2, c3, c4⟩, -⟩ := jC r0;obtain ⟨⟨d0, d1, d2, d3, d4⟩, -⟩ := jC r1;unfold ju jh at hWW;have HWW := lh hWW;unfold jh;have n1 : ¬ (w.heap.size = W.heap.size) := by omega
 have n2 : ¬ (pb = W.heap.size) := by omega
 clear hpb hrb hW hW1 hW2 hb1 hb2 hb s1 s2 s3 r0 r1 r2 hWW;go_enter Tryz.func80, Tryz.ntmps80
 go_upto_region 1 with fail
 rw [← HWW.out, ← HRB.out, ← HPB.out];clear HWW;obtain ⟨A, hA⟩ : ∃ A, A = W.alloc (.cells (qv a b ao bo ca cb) 26) := ⟨_, rfl⟩
 have rA : A.heap[W.heap.size]? = some (.cells (qv a b ao bo ca cb) 26 (0, 0)) := by rw [hA]; exact heap_alloc_new W _
 have bA : Below W.heap.size W A := by rw [hA]; exact jk (Below.refl _ _) _
 have HRA := lh rA;have HBA := lh bA;unfold qv at hA;have HA := lh hA;clear hA rA bA;go_upto_region 2 with (first | (go_at_call 28; rw [← HA.out]; refine (HNODE.out _ _ _ _ _ A).mono ?_; rintro e w2 ⟨rfl, hb2⟩; have HB2 := lh hb2; clear hb2))
 obtain ⟨V, hV⟩ : ∃ V, V = w2.alloc (.cells #[.int .i64 18, .int .i64 a.n, .string ⟨#[]⟩, .int .i64 0, .slice (some ⟨W.heap.size, 0, none⟩) 2 2] 26) := ⟨_, rfl⟩
 have hsz : W.heap.size < A.heap.size := lt_of_block HRA.out;have hsz2 := HB2.out.size;have hbV : Below w2.heap.size w2 V := by rw [hV]; exact jk (Below.refl _ _) _
 have bV : Below w.heap.size w V := ((HBW.out.trans (HBA.out.mono HBW.out.size)).trans (HB2.out.mono (by have := HS.out; have := HRB.out; omega))).trans (hbV.mono (by have := HS.out; have := HRB.out; omega));have rg : V.heap[W.heap.size]? = some (.cells (qv a b ao bo ca cb) 26 (0, 0)) := jo (jo HRA.out HB2.out hsz) hbV (by omega);have rr : V.heap[rb]? = some (.cells ju 26 (0, 0)) := jo (jo (jo HR2.out HBA.out (by have := HS.out; have := HRB.out; omega)) HB2.out (by have := HS.out; have := HRB.out; omega)) hbV (by have := HS.out; have := HRB.out; omega);have rn : V.heap[w2.heap.size]? = some (.cells #[.int .i64 18, .int .i64 a.n, .string ⟨#[]⟩, .int .i64 0, .slice (some ⟨W.heap.size, 0, none⟩) 2 2] 26 (0, 0)) := by rw [hV]; exact heap_alloc_new w2 _
 obtain ⟨nb, hnb⟩ : ∃ nb, nb = w2.heap.size := ⟨_, rfl⟩
 have m1 : ¬ (nb = rb) := by have := HS.out; have := HRB.out; omega
 have m2 : ¬ (rb = nb) := by have := HS.out; have := HRB.out; omega
 have m3 : nb ≠ W.heap.size := by omega
 have M3 := lh m3;have HNB : Hid (w.heap.size ≤ nb) := lh (by have := HS.out; have := HRB.out; omega);rw [← hV];rw [← hnb] at rn ⊢;have HBV := lh bV;have HRG := lh rg;have HRR := lh rr;have hrr := rr;unfold ju at hrr;obtain ⟨⟨e0, e1, e2, e3, e4⟩, ⟨z0, z1, z2, z3, z4⟩⟩ := jC rn;obtain ⟨⟨x0, x1, x2, x3, x4⟩, ⟨y0, y1, y2, y3, y4⟩⟩ := jC hrr;clear hV hbV bV rg rr rn hnb hsz hsz2 hrr m3 c0 c1 c2 c3 c4 d0 d1 d2 d3 d4 n1 n2
 have FIN : ∀ (k : Int) (u : ByteArray) (q : Nat) (x : Value), kG s a b = .mk k a.n u 0 [a, b] → TB (kN (V.setCell ⟨nb, q, none⟩ x) (rb) (.mk k a.n u 0 [a, b]) (some ⟨W.heap.size, 0, none⟩) 2) (rb) (.mk k a.n u 0 [a, b]) (some ⟨W.heap.size, 0, none⟩) 2 ∧ JoinP w s a b ao bo ca cb (.returned (.agg (jh (.mk k a.n u 0 [a, b]) (some ⟨W.heap.size, 0, none⟩) 2))) (kN (V.setCell ⟨nb, q, none⟩ x) (rb) (.mk k a.n u 0 [a, b]) (some ⟨W.heap.size, 0, none⟩) 2) := by
  intro k u q x hj;have h0 := HRR.out;unfold ju at h0;have hs := HS.out;have hrb := HRB.out;refine ⟨TB.set (jg h0 m2 q x) _ _ _, W.heap.size, by omega, by rw [hj], kR (HBV.out.setCell (p := ⟨nb, q, none⟩) HNB.out x) (by omega), qi (jg HRG.out (fun e => M3.out e.symm) q x) (by omega)⟩
 have HFIN := lh FIN;clear FIN
 by_cases ha : s = w_andalso
 · have e5 : (s.toList == [97, 110, 100, 97, 108, 115, 111]) = true := (by rw [← qH, qK]; exact decide_eq_true ha);have e6 : s.toList = [97, 110, 100, 97, 108, 115, 111] := (by rw [← qH]; exact ba_eq.2 ha);obtain ⟨f1, f2⟩ := HFIN.out 16 ⟨#[]⟩ 0 (.int .i64 16) (by rw [ha]; rfl);have H1 := lh f1;have H2 := lh f2;clear f1 f2 ha;go_wp2_with fail
   exact bodyPost_ret (vo rfl rfl H1.out) rfl H2.out
 · have e5 : (s.toList == [97, 110, 100, 97, 108, 115, 111]) = false := by rw [← qH, qK]; exact decide_eq_false ha
   by_cases ho : s = w_orelse
   · have e7 : (s.toList == [111, 114, 101, 108, 115, 101]) = true := (by rw [← vk, qK]; exact decide_eq_true ho);have e6 : s.toList = [111, 114, 101, 108, 115, 101] := (by rw [← vk]; exact ba_eq.2 ho);obtain ⟨f1, f2⟩ := HFIN.out 17 ⟨#[]⟩ 0 (.int .i64 17) (by rw [ho]; rfl);have H1 := lh f1;have H2 := lh f2;clear f1 f2 ha ho;go_wp2_with fail
     exact bodyPost_ret (vo rfl rfl H1.out) rfl H2.out
   · have e7 : (s.toList == [111, 114, 101, 108, 115, 101]) = false := (by rw [← vk, qK]; exact decide_eq_false ho);obtain ⟨f1, f2⟩ := HFIN.out 18 s 2 (.string s) (by unfold kG; rw [if_neg ha, if_neg ho]);have H1 := lh f1;have H2 := lh f2;clear f1 f2 ha ho;go_wp2_with fail
     exact bodyPost_ret (vo rfl rfl H1.out) rfl H2.out
theorem rpair_any (s : ByteArray) (a b : Ty) (ao bo : Option Addr) (ca cb : Nat) (w : World) : Calls Tryz.prog 187 #[.string s, .agg (jh a ao ca), .agg (jh b bo cb)] w (JoinP w s a b ao bo ca cb) := by
 obtain ⟨W1, hW1⟩ : ∃ W1, W1 = w.alloc (.cells (jh a ao ca) 26) := ⟨_, rfl⟩
 obtain ⟨W2, hW2⟩ : ∃ W2, W2 = W1.alloc (.cells (jh b bo cb) 26) := ⟨_, rfl⟩
 obtain ⟨W, hW⟩ : ∃ W, W = W2.alloc (.cells ju 26) := ⟨_, rfl⟩
 have s1 : W1.heap.size = w.heap.size + 1 := by rw [hW1, World.size_alloc]
 have s2 : W2.heap.size = w.heap.size + 1 + 1 := by rw [hW2, World.size_alloc, s1]
 have s3 : W.heap.size = w.heap.size + 3 := by rw [hW, World.size_alloc, s2]
 have hb1 : Below w.heap.size w W1 := by rw [hW1]; exact jk (Below.refl _ _) _
 have hb2 : Below w.heap.size w W2 := by rw [hW2]; exact jk hb1 _
 have hb : Below w.heap.size w W := by rw [hW]; exact jk hb2 _
 have r0 : W.heap[w.heap.size]? = some (.cells (jh a ao ca) 26 (0, 0)) := by rw [hW]; refine js ?_ _; rw [hW2]; refine js ?_ _; rw [hW1]; exact heap_alloc_new w _
 have r1 : W.heap[w.heap.size + 1]? = some (.cells (jh b bo cb) 26 (0, 0)) := by rw [hW]; refine js ?_ _; rw [hW2, ← s1]; exact heap_alloc_new W1 _
 have r2 : W.heap[w.heap.size + 1 + 1]? = some (.cells ju 26 (0, 0)) := by rw [hW, ← s2]; exact heap_alloc_new W2 _
 obtain ⟨rb, hrb⟩ : ∃ rb, rb = w.heap.size + 1 + 1 := ⟨_, rfl⟩
 obtain ⟨pb, hpb⟩ : ∃ pb, pb = w.heap.size + 1 := ⟨_, rfl⟩
 rw [← hpb] at r1;rw [← hrb] at r2;have HPB := lh hpb;have HRB := lh hrb;have HBW := lh hb;have HR2 := lh r2;have HS := lh s3;have HNODE : Hid (∀ (k a : Int) (ao : Option Addr) (n cap : Nat) (w1 : World), Calls Tryz.prog 54 #[.int .i64 k, .int .i64 a, .slice ao n cap] w1 fun e w' => e = .returned (.agg #[.int .i64 k, .int .i64 a, .string ⟨#[]⟩, .int .i64 0, .slice ao n cap]) ∧ Below w1.heap.size w1 w') := lh rnode_any;have hWW : W = ((w.alloc (.cells (jh a ao ca) 26)).alloc (.cells (jh b bo cb) 26)).alloc (.cells ju 26) := by rw [hW, hW2, hW1]
 unfold jh at r0 r1;obtain ⟨⟨c0, c1, c2, c3, c4⟩, -⟩ := jC r0;obtain ⟨⟨d0, d1, d2, d3, d4⟩, -⟩ := jC r1;unfold ju jh at hWW;have HWW := lh hWW;unfold jh;have n1 : ¬ (w.heap.size = W.heap.size) := by omega
 have n2 : ¬ (pb = W.heap.size) := by omega
 clear hpb hrb hW hW1 hW2 hb1 hb2 hb s1 s2 s3 r0 r1 r2 hWW;go_enter Tryz.func187, Tryz.ntmps187
 go_upto_region 1 with fail
 rw [← HWW.out, ← HRB.out, ← HPB.out];clear HWW;obtain ⟨A, hA⟩ : ∃ A, A = W.alloc (.cells (qv a b ao bo ca cb) 26) := ⟨_, rfl⟩
 have rA : A.heap[W.heap.size]? = some (.cells (qv a b ao bo ca cb) 26 (0, 0)) := by rw [hA]; exact heap_alloc_new W _
 have bA : Below W.heap.size W A := by rw [hA]; exact jk (Below.refl _ _) _
 have HRA := lh rA;have HBA := lh bA;unfold qv at hA;have HA := lh hA;clear hA rA bA;go_upto_region 2 with (first | (go_at_call 54; rw [← HA.out]; refine (HNODE.out _ _ _ _ _ A).mono ?_; rintro e w2 ⟨rfl, hb2⟩; have HB2 := lh hb2; clear hb2))
 obtain ⟨V, hV⟩ : ∃ V, V = w2.alloc (.cells #[.int .i64 18, .int .i64 a.n, .string ⟨#[]⟩, .int .i64 0, .slice (some ⟨W.heap.size, 0, none⟩) 2 2] 26) := ⟨_, rfl⟩
 have hsz : W.heap.size < A.heap.size := lt_of_block HRA.out;have hsz2 := HB2.out.size;have hbV : Below w2.heap.size w2 V := by rw [hV]; exact jk (Below.refl _ _) _
 have bV : Below w.heap.size w V := ((HBW.out.trans (HBA.out.mono HBW.out.size)).trans (HB2.out.mono (by have := HS.out; have := HRB.out; omega))).trans (hbV.mono (by have := HS.out; have := HRB.out; omega));have rg : V.heap[W.heap.size]? = some (.cells (qv a b ao bo ca cb) 26 (0, 0)) := jo (jo HRA.out HB2.out hsz) hbV (by omega);have rr : V.heap[rb]? = some (.cells ju 26 (0, 0)) := jo (jo (jo HR2.out HBA.out (by have := HS.out; have := HRB.out; omega)) HB2.out (by have := HS.out; have := HRB.out; omega)) hbV (by have := HS.out; have := HRB.out; omega);have rn : V.heap[w2.heap.size]? = some (.cells #[.int .i64 18, .int .i64 a.n, .string ⟨#[]⟩, .int .i64 0, .slice (some ⟨W.heap.size, 0, none⟩) 2 2] 26 (0, 0)) := by rw [hV]; exact heap_alloc_new w2 _
 obtain ⟨nb, hnb⟩ : ∃ nb, nb = w2.heap.size := ⟨_, rfl⟩
 have m1 : ¬ (nb = rb) := by have := HS.out; have := HRB.out; omega
 have m2 : ¬ (rb = nb) := by have := HS.out; have := HRB.out; omega
 have m3 : nb ≠ W.heap.size := by omega
 have M3 := lh m3;have HNB : Hid (w.heap.size ≤ nb) := lh (by have := HS.out; have := HRB.out; omega);rw [← hV];rw [← hnb] at rn ⊢;have HBV := lh bV;have HRG := lh rg;have HRR := lh rr;have hrr := rr;unfold ju at hrr;obtain ⟨⟨e0, e1, e2, e3, e4⟩, ⟨z0, z1, z2, z3, z4⟩⟩ := jC rn;obtain ⟨⟨x0, x1, x2, x3, x4⟩, ⟨y0, y1, y2, y3, y4⟩⟩ := jC hrr;clear hV hbV bV rg rr rn hnb hsz hsz2 hrr m3 c0 c1 c2 c3 c4 d0 d1 d2 d3 d4 n1 n2
 have FIN : ∀ (k : Int) (u : ByteArray) (U : World), kG s a b = .mk k a.n u 0 [a, b] → Below w.heap.size w U → U.heap[rb]? = some (.cells ju 26 (0, 0)) → U.heap[W.heap.size]? = some (.cells (qv a b ao bo ca cb) 26 (0, 0)) → TB (kN U (rb) (.mk k a.n u 0 [a, b]) (some ⟨W.heap.size, 0, none⟩) 2) (rb) (.mk k a.n u 0 [a, b]) (some ⟨W.heap.size, 0, none⟩) 2 ∧ JoinP w s a b ao bo ca cb (.returned (.agg (jh (.mk k a.n u 0 [a, b]) (some ⟨W.heap.size, 0, none⟩) 2))) (kN U (rb) (.mk k a.n u 0 [a, b]) (some ⟨W.heap.size, 0, none⟩) 2) := by
  intro k u U hj hU h0 hg;unfold ju at h0;have hs := HS.out;have hrb := HRB.out;refine ⟨TB.set h0 _ _ _, W.heap.size, by omega, by rw [hj], kR hU (by omega), qi hg (by omega)⟩
 have ONE : ∀ (U : World) (q : Nat) (x : Value), Below w.heap.size w U ∧ U.heap[rb]? = some (.cells ju 26 (0, 0)) ∧ U.heap[W.heap.size]? = some (.cells (qv a b ao bo ca cb) 26 (0, 0)) → Below w.heap.size w (U.setCell ⟨nb, q, none⟩ x) ∧ (U.setCell ⟨nb, q, none⟩ x).heap[rb]? = some (.cells ju 26 (0, 0)) ∧ (U.setCell ⟨nb, q, none⟩ x).heap[W.heap.size]? = some (.cells (qv a b ao bo ca cb) 26 (0, 0)) := fun U q x h => ⟨h.1.setCell (p := ⟨nb, q, none⟩) HNB.out x, jg h.2.1 m2 q x, jg h.2.2 (fun e => M3.out e.symm) q x⟩
 have HV0 := ONE V 2 (.string s) ⟨HBV.out, HRR.out, HRG.out⟩;have HV2 := fun (k : Int) => ONE _ 2 (.string ⟨#[]⟩) (ONE _ 0 (.int .i64 k) HV0)
 have HFIN := lh FIN;have HW0 := lh HV0;have HW2 := lh HV2;clear FIN ONE HV0 HV2
 by_cases ha : s = w_andalso
 · have e5 : (s.toList == [97, 110, 100, 97, 108, 115, 111]) = true := (by rw [← qH, qK]; exact decide_eq_true ha);have e6 : s.toList = [97, 110, 100, 97, 108, 115, 111] := (by rw [← qH]; exact ba_eq.2 ha);have e7 : (s.toList == [111, 114, 101, 108, 115, 101]) = false := (by rw [e6]; decide);obtain ⟨f1, f2⟩ := HFIN.out 16 ⟨#[]⟩ _ (by rw [ha]; rfl) (HW2.out 16).1 (HW2.out 16).2.1 (HW2.out 16).2.2;have H1 := lh f1;have H2 := lh f2;clear f1 f2 ha;go_wp2_with fail
   exact bodyPost_ret (vo rfl rfl H1.out) rfl H2.out
 · have e5 : (s.toList == [97, 110, 100, 97, 108, 115, 111]) = false := by rw [← qH, qK]; exact decide_eq_false ha
   by_cases ho : s = w_orelse
   · have e7 : (s.toList == [111, 114, 101, 108, 115, 101]) = true := (by rw [← vk, qK]; exact decide_eq_true ho);have e6 : s.toList = [111, 114, 101, 108, 115, 101] := (by rw [← vk]; exact ba_eq.2 ho);obtain ⟨f1, f2⟩ := HFIN.out 17 ⟨#[]⟩ _ (by rw [ho]; rfl) (HW2.out 17).1 (HW2.out 17).2.1 (HW2.out 17).2.2;have H1 := lh f1;have H2 := lh f2;clear f1 f2 ha ho;go_wp2_with fail
     exact bodyPost_ret (vo rfl rfl H1.out) rfl H2.out
   · have e7 : (s.toList == [111, 114, 101, 108, 115, 101]) = false := (by rw [← vk, qK]; exact decide_eq_false ho);obtain ⟨f1, f2⟩ := HFIN.out 18 s _ (by unfold kG; rw [if_neg ha, if_neg ho]) HW0.out.1 HW0.out.2.1 HW0.out.2.2;have H1 := lh f1;have H2 := lh f2;clear f1 f2 ha ho;go_wp2_with fail
     exact bodyPost_ret (vo rfl rfl H1.out) rfl H2.out
theorem vp (P : Src) (k : Nat) (item : M Ty) (f : Nat) (acc : List (ByteArray × Ty)) (i : Nat) : jW P k item (f + 1) acc i = if (acc.length = 0 ∨ qd k = false) ∧ jK P (lvL k) i = true then (item >>= fun x => jW P k item f (acc ++ [(P.T i, x)])) (i + 1) else .ok acc i := rfl
theorem oneD_lt9 {P : Src} {l : List ByteArray} {i : Nat} (h : jK P l i = true) : i < P.toks.length := K_lt (by
 unfold jK at h
 simp only [Bool.and_eq_true, decide_eq_true_eq] at h
 omega)
theorem colL_acc (P : Src) {k : Nat} (hk : qd k = false) (item : M Ty) (hst : ∀ i x j, item i = .ok x j → i + 1 ≤ j) : ∀ (f f2 : Nat) (acc : List (ByteArray × Ty)) (i : Nat), P.toks.length ≤ i + f → P.toks.length ≤ i + f2 → jW P k item f acc i = (jW P k item f2 [] >>= fun l => (ret (acc ++ l) : M _)) i
 | f, f2, acc, i, h1, h2 => by
  by_cases hc : jK P (lvL k) i = true
  · have hlt := oneD_lt9 hc
    obtain ⟨f, rfl⟩ : ∃ f', f = f' + 1 := ⟨f - 1, by omega⟩
    obtain ⟨f2, rfl⟩ : ∃ f', f2 = f' + 1 := ⟨f2 - 1, by omega⟩
    show _ = bnd (jW P k item (f2 + 1) []) _ i
    unfold bnd
    rw [vp, vp, if_pos ⟨.inr hk, hc⟩, if_pos ⟨.inr hk, hc⟩]
    cases hx : item (i + 1) with
    | bad a b => rw [ke hx, ke hx]
    | ok x j =>
     rw [kq hx, kq hx]
     have hj := hst _ _ _ hx
     rw [colL_acc P hk item hst f P.toks.length (acc ++ [(P.T i, x)]) j (by omega) (by omega), colL_acc P hk item hst f2 P.toks.length ([] ++ [(P.T i, x)]) j (by omega) (by omega)]
     have e9 : ∀ acc' : List (ByteArray × Ty), (jW P k item P.toks.length [] >>= fun l => (ret (acc' ++ l) : M _)) j = match jW P k item P.toks.length [] j with | Res.bad a b => Res.bad a b | Res.ok l m => Res.ok (acc' ++ l) m := fun acc' => by
      show bnd (jW P k item P.toks.length []) _ j = _
      unfold bnd
      cases jW P k item P.toks.length [] j <;> rfl
     rw [e9, e9]
     cases jW P k item P.toks.length [] j with
     | bad a b => rfl
     | ok l m =>
      show Res.ok _ m = Res.ok _ m
      simp
  · have e : ∀ f acc, jW P k item f acc i = .ok acc i := fun f acc => by
     cases f with
     | zero => rfl
     | succ f => rw [vp, if_neg (fun h => hc h.2)]
    show _ = bnd (jW P k item f2 []) _ i
    unfold bnd
    rw [e, e]
    show Res.ok acc i = Res.ok (acc ++ []) i
    rw [List.append_nil]
termination_by f f2 acc i => P.toks.length - i
theorem bet3_step {P : Src} {R : Rec} (hst : ∀ i x j, jF P R 2 i = .ok x j → i + 1 ≤ j) {a : Ty} {s : RS} {T : Res Ty} (hT : T = rn (jW P 3 (jF P R 2) (P.toks.length + 1) [] >>= fun l => (ret (vn a l) : M Ty)) s) (hs : s.k = 0) (h : jK P (lvL 3) s.i = true) : T = rn (jF P R 3 >>= fun b => (ret (kG (P.T s.i) a b) : M Ty)) (stp s) := by
 rw [je hs] at hT;rw [je (s := stp s) hs, hT]
 show bnd (jW P 3 (jF P R 2) (P.toks.length + 1) []) _ s.i = bnd (jF P R 3) _ (s.i + 1)
 have hb : jF P R 3 (s.i + 1) = bnd (jF P R 2) (fun x => jW P 3 (jF P R 2) (P.toks.length + 1) [] >>= fun l => (ret (vn x l) : M Ty)) (s.i + 1) := rfl;unfold bnd;rw [hb, vp, if_pos ⟨.inl rfl, h⟩];unfold bnd
 cases hx : jF P R 2 (s.i + 1) with
 | bad k c => rw [ke hx]
 | ok x j =>
  rw [kq hx];have hj := hst _ _ _ hx;rw [colL_acc P (k := 3) rfl (jF P R 2) hst P.toks.length (P.toks.length + 1) ([] ++ [(P.T s.i, x)]) j (by omega) (by omega)]
  have e9 : ∀ (β : Type) (F : List (ByteArray × Ty) → β), (jW P 3 (jF P R 2) (P.toks.length + 1) [] >>= fun l => (ret (F l) : M β)) j = match jW P 3 (jF P R 2) (P.toks.length + 1) [] j with | Res.bad k c => Res.bad k c | Res.ok l m => Res.ok (F l) m := fun β F => by
   show bnd (jW P 3 (jF P R 2) (P.toks.length + 1) []) _ j = _
   unfold bnd
   cases jW P 3 (jF P R 2) (P.toks.length + 1) [] j <;> rfl
  rw [e9 _ (fun l => [] ++ [(P.T s.i, x)] ++ l)];dsimp only
  rw [e9 _ (fun l => vn x l)]
  cases jW P 3 (jF P R 2) (P.toks.length + 1) [] j <;> rfl
theorem col_head {P : Src} {j : Nat} {item : M Ty} {f : Nat} {acc : List (ByteArray × Ty)} {a : Ty} {T : Res Ty} {s : RS} (hT : T = rn (jW P j item f acc >>= fun l => (ret (jJ a l) : M Ty)) s) (hf : s.k = 0 → P.toks.length < s.i + f) (hle : s.i ≤ P.toks.length) (ha : acc.length = 0 ∨ qd j = false) : ∃ f', T = (if kJ P (lvL j) s = true then rn (item >>= fun x => jW P j item f' (acc ++ [(P.T s.i, x)]) >>= fun l => (ret (jJ a l) : M Ty)) (stp s) else rn (ret (jJ a acc) : M Ty) s) ∧ (s.k = 0 → P.toks.length ≤ s.i + f') := by
 by_cases hs : s.k = 0
 · have h1 := hf hs;obtain ⟨f, rfl⟩ : ∃ f', f = f' + 1 := ⟨f - 1, by omega⟩
   refine ⟨f, ?_, fun _ => by omega⟩;have e : kJ P (lvL j) s = jK P (lvL j) s.i := (by unfold kJ; rw [decide_eq_true hs, Bool.true_and]);rw [e, hT, je hs]
   show bnd (jW P j item (f + 1) acc) _ s.i = _
   unfold bnd;rw [vp]
   by_cases h : jK P (lvL j) s.i = true
   · rw [if_pos ⟨ha, h⟩, if_pos h, je (s := stp s) hs];exact congrFun (kV item (fun x => jW P j item f (acc ++ [(P.T s.i, x)])) (fun l => (ret (jJ a l) : M Ty))) (s.i + 1)
   · rw [if_neg (fun h9 => h h9.2), if_neg h, je hs]
 · refine ⟨0, ?_, fun h => absurd h hs⟩;have e : kJ P (lvL j) s = false := (by unfold kJ; rw [decide_eq_false hs, Bool.false_and]);rw [e, if_neg Bool.false_ne_true, hT, jq hs, jq hs]
theorem Kd.pair {w wk : World} {X : Nat → Prop} {x y : Ty} {ao bo : Option Addr} {c d q : Nat} (hr : wk.heap[q]? = some (.cells (qv x y ao bo c d) 26 (0, 0))) (hq : Nw w wk X q) (h1 : Kd w wk X x.args ao c) (h2 : Kd w wk X y.args bo d) : Kd w wk X [x, y] (some ⟨q, 0, none⟩) 2 := by
 refine ⟨Nat.le_refl _, ArgsV.of fun k hk => ?_⟩;have hk2 : k = 0 ∨ k = 1 := by simp at hk; omega
 rcases hk2 with rfl | rfl
 · exact ⟨_, 0, (jh x ao c).toList, rfl, hq, fun j hj => by
    rw [ja hr, show 0 + (0 + 0) * 5 + j = j from by omega];obtain rfl | rfl | rfl | rfl | rfl : j = 0 ∨ j = 1 ∨ j = 2 ∨ j = 3 ∨ j = 4 := by omega
    all_goals rfl, TyV.mk' h1⟩
 · exact ⟨_, 0, (jh y bo d).toList, rfl, hq, fun j hj => by
    rw [ja hr, show 0 + (0 + 1) * 5 + j = j + 5 from by omega];obtain rfl | rfl | rfl | rfl | rfl : j = 0 ∨ j = 1 ∨ j = 2 ∨ j = 3 ∨ j = 4 := by omega
    all_goals rfl, TyV.mk' h2⟩
theorem rjoinD_args (s : ByteArray) (a b : Ty) : (kG s a b).args = [a, b] := by
 unfold kG;split
 · rfl
 · split <;> rfl
theorem join_kd {w w1 w2 : World} {X : Nat → Prop} {rb g : Nat} {s : ByteArray} {a b : Ty} {ao bo : Option Addr} {ca cb : Nat} (hb : Below w1.heap.size w1 w2) (hg : w1.heap.size ≤ g) (hr : w2.heap[g]? = some (.cells (qv a b ao bo ca cb) 26 (0, 0))) (hl : w.heap.size < w1.heap.size) (hx : ∀ q, X q → q < w1.heap.size) (hrb : rb < w.heap.size) (h1 : Kd w w1 X a.args ao ca) (h2 : Kd w w1 X b.args bo cb) : Kd w w2 X (kG s a b).args (some ⟨g, 0, none⟩) 2 := by
 rw [rjoinD_args];exact Kd.pair hr ⟨by omega, lt_of_block hr, fun h => by have := hx g h; omega⟩ (h1.gr (ji hb (some rb)) hrb) (h2.gr (ji hb (some rb)) hrb)
end Go.Proofs.YthehjeeiodbkjaaGreatDoor
