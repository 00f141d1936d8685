/-
  Proved: the contract of the document's named; the contract of the document's rules; the contracts of the document's exps and pats; the contract of the document's roundPat; the contract of the document's apat; the contract of the document's round; the contract of the reader's decs; the contract of the document's decs. Conditions: the reader as it stands in memory; what it reads within; the reader as it stands in memory; what the reader reads within.
-/
import Derived.Test.YthehjeeiodbkjaaGreatDoorP01
import Derived.Test.YthehjeeiodbkjaaGreatDoorP11
import Derived.Test.YthehjeeiodbkjaaGreatDoorP06
set_option linter.unusedSimpArgs false
set_option linter.unusedVariables false
set_option maxRecDepth 100000
set_option maxHeartbeats 16000000
namespace Go.Proofs.YthehjeeiodbkjaaGreatDoor
open Go.RowKit
theorem rl_step {α : Type} {m : M α} {s s1 : RS} {x : α} (hst : ∀ i x j, m i = .ok x j → i + 1 ≤ j) (hs : s.k = 0) (h : Rl (rn m s) x s1) : s1.k = 0 → s.i + 1 ≤ s1.i := fun h0 => hst _ _ _ ((je hs).symm.trans (h.1 h0))
theorem rappL_at (P : Src) (a f : Nat) (l : List Ty) (i : Nat) : kX P a (f + 1) l i = if l.length ≠ 1 ∨ P.K i = 3 ∨ P.K i = 4 then (ki P 3 >>= fun p => kX P a f [.mk 31 a p.1 0 l]) i else .ok (l.headD default) i := rfl
theorem named_eq (E : Env) (g : Nat) (s : RS) : rn (kK E.P (jf E.P g)) s = rn (fun i => if isD E.P s_lp i = true then (jZ E.P (jt E.P g .typ) s_com >>= (fun l : List Ty => jm E.P s_rp >>= fun _ => kX E.P (E.P.A s.i) (E.P.toks.length + 1) l)) (i + 1) else (fun i => if E.P.K i = 5 then kX E.P (E.P.A s.i) (E.P.toks.length + 1) [.mk 30 (E.P.A s.i) (E.P.T s.i) 0 []] (i + 1) else kX E.P (E.P.A s.i) (E.P.toks.length + 1) [] i : M Ty) i) s := by
 by_cases hs : s.k = 0
 · rw [je hs, je hs];unfold kK
   by_cases h5 : E.P.K s.i = 5
   · have h9 : ¬ isD E.P s_lp s.i = true := fun h => by have := (isD_at h).1; omega
     rw [if_pos h5, if_neg h9];exact (if_pos h5).symm
   · rw [if_neg h5]
     by_cases h : isD E.P s_lp s.i = true
     · rw [if_pos h, if_pos h]; rfl
     · rw [if_neg h, if_neg h];exact (if_neg h5).symm
 · rw [jq hs, jq hs]
theorem cnamed_any : CtN 157 fun E g => kK E.P (jf E.P g) := by
 intro E g RA w s h;have HSP : Hid (∀ i x j, ki E.P 3 i = .ok x j → i + 1 ≤ j) := lh (st_path E.P 3);have HST : Hid (∀ i x j, jt E.P g .typ i = .ok x j → i + 1 ≤ j) := lh (item_st _);rw [show rn (kK E.P (jf E.P g)) s = rn ((fun i => if isD E.P s_lp i = true then (jZ E.P (jt E.P g .typ) s_com >>= (fun l : List Ty => jm E.P s_rp >>= fun _ => kX E.P (E.P.A s.i) (E.P.toks.length + 1) l)) (i + 1) else (fun i => if E.P.K i = 5 then kX E.P (E.P.A s.i) (E.P.toks.length + 1) [.mk 30 (E.P.A s.i) (E.P.T s.i) 0 []] (i + 1) else kX E.P (E.P.A s.i) (E.P.toks.length + 1) [] i : M Ty) i)) s from named_eq E g s];refine Br.go (m := (fun i => if isD E.P s_lp i = true then (jZ E.P (jt E.P g .typ) s_com >>= (fun l : List Ty => jm E.P s_rp >>= fun _ => kX E.P (E.P.A s.i) (E.P.toks.length + 1) l)) (i + 1) else (fun i => if E.P.K i = 5 then kX E.P (E.P.A s.i) (E.P.toks.length + 1) [.mk 30 (E.P.A s.i) (E.P.T s.i) 0 []] (i + 1) else kX E.P (E.P.A s.i) (E.P.toks.length + 1) [] i : M Ty) i)) h RA ?_;intro d T W R hW B Q hlr hN;clear h RA;unfold pr;go_enter Tryz.func157, Tryz.ntmps157
 obtain ⟨Q9, p9⟩ := Po9.ex Tryz.f157 E d w T (NdQ w);rw [p9.eq];go_upto_region 1 with fail
 clear hW;go_upto_region 2 with (go_at_call 102; refine B.now ?_; clear B; intro u1 B; have f2 := jA E.P s.i)
 clear f2;generalize hb : u1.heap.size = b4;generalize h : u1.alloc _ = V3;replace B := B.boxt h hb;clear h hb;obtain ⟨N, hNN⟩ : ∃ N, N = E.P.toks.length := ⟨_, rfl⟩
 have HNN := lh hNN;rw [← hNN] at hN;clear hNN;go_upto_region 3 with fail
 obtain ⟨b5, P⟩ := B.eat (sg := s_lp) Q;clear B Q
 cases b5 with
 | true =>
  go_upto_block 0 with (go_at_call 153; refine P.t ?_; clear P; intro u6 B Q _)
  go_cut [4] from 5 to 62 (fun v wx => ∃ (l : List Ty) (u : RS) (ao : Option Addr) (cap : Nat), v = .slice ao l.length cap ∧ Qr T (kX E.P (E.P.A s.i) (E.P.toks.length + 1) l) u ∧ l.length ≤ 300000 ∧ Br E w d wx u [.kd l ao cap, .tv b4 (.int .i64 (E.P.K s.i)) (.int .i64 (E.P.A s.i : Int)) (.string (E.P.T s.i)) (.int .i64 (E.P.N s.i : Int))])
  case first =>
   go_upto_region 5 with fail
   go_upto_region 6 with (go_at_call 58; refine B.ndx R.typ ?_; clear B; intro u7 a aoa capa s8 hl B; have HLa := lh hl; clear hl)
   generalize hb : u7.heap.size = b10;generalize h : u7.alloc _ = V9;replace B := B.box h hb;clear h hb;replace B := B.nilo;have c11 := B.mv1.S.cs B.F.rb;go_upto_region 7 with (at_builtin; generalize h : V9.alloc _ = V12; replace B := B.mv2.mk1 rfl h; clear h; go_must (refine B.mv1.app rfl _ _ rfl rfl rfl (by simp) ?_); clear B; intro aoL capL L u13 ELL B)
   clear c11;obtain ⟨f0, H⟩ := vV Q HLa.out HST.out B.F.R.le;replace B := B.mv1.dr;go_upto_region 8 with (go_at_call 153; refine B.eatg s_com ?_; clear B; intro u14 B)
   go_loopw [4, 7] (fun va vb wr => ∃ (l : List Ty) (ao : Option Addr) (cap : Nat) (b : Bool) (t : RS) (f : Nat), va = .slice ao l.length cap ∧ vb = .bool b ∧ SepAt E.P (jt E.P g .typ) s_com (fun l : List Ty => jm E.P s_rp >>= fun _ => kX E.P (E.P.A s.i) (E.P.toks.length + 1) l) T l b t f ∧ Br E w d wr t [.ow (.slice ao l.length cap) l, .tv b4 (.int .i64 (E.P.K s.i)) (.int .i64 (E.P.A s.i : Int)) (.string (E.P.T s.i)) (.int .i64 (E.P.N s.i : Int))] ∧ l.length ≤ 200000) (fun _ _ wr => jY E.P.toks.length wr E.rb)
   case atStart => exact ⟨L, _, _, _, _, f0, rfl, rfl, by rw [ELL.out]; exact H, B, by rw [ELL.out]; simp⟩
   case round =>
    clear H B Q;obtain ⟨l, ao, cap, b, t, f, rfl, rfl, H, B, hln⟩ := hrel
    cases b with
    | false =>
     have Q := H.end;go_wp2_with (go_at_call 144; refine B.un Q (kg E d s_rp) ?_; clear B Q; intro u15 _ _ s16 B Q)
     go_meet
     exact ⟨l, _, ao, cap, rfl, Q, Nat.le_trans hln (by decide), B.ko⟩
    | true =>
     have R0 := lh B.F.R;have HG := lh (show t.k = 0 ∧ l.length ≤ 100000 from H.le R0.out);go_upto_region 10 with (go_at_call 58; refine B.ndx R.typ ?_; clear B; intro u17 e aoe cape s18 hl B; have HLe := lh hl; clear hl)
     generalize hb : u17.heap.size = b20;generalize h : u17.alloc _ = V19;replace B := B.box h hb;clear h hb;have c21 := B.S.cs B.F.rb;go_upto_region 11 with (at_builtin; generalize h : V19.alloc _ = V22; replace B := B.mv1.mk1 rfl h; clear h; go_must (refine B.mv2.app rfl _ _ rfl rfl rfl (by have := HG.out.2; simp; omega) ?_); clear B; intro aoL2 capL2 L2 u23 ELL2 B)
     clear c21;obtain ⟨⟨f2, H2⟩, h4⟩ := H.next HLe.out HST.out B.F.R.le;rw [← ELL2.out] at H2;have R4 := lh h4;clear H h4;replace B := B.mv1.dr;go_wp2_with (go_at_call 153; refine B.eatg s_com ?_; clear B; intro u24 B)
     go_roundw
     case rel => exact ⟨L2, _, _, _, _, f2, rfl, rfl, H2, B, by have := HG.out.2; rw [ELL2.out, List.length_append]; simp; omega⟩
     case measure => exact jP R0.out B.F.R HG.out.1 jQ R4.out
  case rest =>
  obtain ⟨l, u, ao, cap, rfl, Q, hl, B⟩ := hcut;go_wp2_with fail
  go_loopw [4] (fun v wr => ∃ (l : List Ty) (u : RS) (f : Nat) (ao : Option Addr) (cap : Nat), v = .slice ao l.length cap ∧ Qr T (kX E.P (E.P.A s.i) f l) u ∧ (u.k = 0 → N < u.i + f) ∧ l.length ≤ 300000 ∧ Br E w d wr u [.kd l ao cap, .tv b4 (.int .i64 (E.P.K s.i)) (.int .i64 (E.P.A s.i : Int)) (.string (E.P.T s.i)) (.int .i64 (E.P.N s.i : Int))]) (fun _ wr => jY E.P.toks.length wr E.rb)
  case atStart => exact ⟨l, u, E.P.toks.length + 1, ao, cap, rfl, Q, fun _ => by rw [HNN.out]; omega, hl, B⟩
  case round =>
   clear Q B hl;obtain ⟨l, u, f, ao, cap, rfl, Q, hf, hl, B⟩ := hrel;have HLL := lh hl;have HFL := lh hf;have R0 := lh B.F.R;clear hl hf;obtain ⟨q, hq⟩ : ∃ q, q = (decide (u.k = 0) && decide (l.length ≠ 1 ∨ E.P.K u.i = 3 ∨ E.P.K u.i = 4)) := ⟨_, rfl⟩
   have HQC := lh hq;clear hq;go_upto_region 16 with fail
   go_cut [84] from 62 to 96 (fun v wx => v = .bool q ∧ Br E w d wx u [.kd l ao cap, .tv b4 (.int .i64 (E.P.K s.i)) (.int .i64 (E.P.A s.i : Int)) (.string (E.P.T s.i)) (.int .i64 (E.P.N s.i : Int))])
   case first =>
    have cd := B.F.R.cells
    by_cases hs : u.k = 0
    · have ehs : ((u.k : Int) == 0) = true := (by simp [hs]);have Hhs := lh hs;clear hs
      by_cases h1 : l.length = 1
      · have e1 : ((l.length : Int) != 1) = false := (by simp; omega);have H1 := lh h1;clear h1
        by_cases h3 : E.P.K u.i = 3
        · have eh3 : (E.P.K u.i == 3) = true := (by simp [h3]);have Hh3 := lh h3;clear h3;go_wp2_with (go_at_call 102; refine B.now ?_; clear B; intro u25 B; have f26 := jA E.P u.i)
          go_meet
          exact ⟨by rw [HQC.out]; simp [Hh3.out, Hhs.out], B⟩
        · have eh3 : (E.P.K u.i == 3) = false := (by simp [h3]);have Hh3 := lh h3;clear h3
          by_cases h4 : E.P.K u.i = 4
          · have eh4 : (E.P.K u.i == 4) = true := (by simp [h4]);have Hh4 := lh h4;clear h4;go_wp2_with (first | (go_at_call 102; refine B.now ?_; clear B; intro u29 B; have f30 := jA E.P u.i) | (go_at_call 102; refine B.now ?_; clear B; intro u27 B; have f28 := jA E.P u.i))
            go_meet
            exact ⟨by rw [HQC.out]; simp [Hh4.out, Hhs.out], B⟩
          · have eh4 : (E.P.K u.i == 4) = false := (by simp [h4]);have Hh4 := lh h4;clear h4;go_wp2_with (first | (go_at_call 102; refine B.now ?_; clear B; intro u33 B; have f34 := jA E.P u.i) | (go_at_call 102; refine B.now ?_; clear B; intro u31 B; have f32 := jA E.P u.i))
            go_meet
            exact ⟨by rw [HQC.out]; simp [H1.out, Hh3.out, Hh4.out], B⟩
      · have e1 : ((l.length : Int) != 1) = true := (by simp; omega);have H1 := lh h1;clear h1;go_wp2_with fail
        go_meet
        exact ⟨by rw [HQC.out]; simp [H1.out, Hhs.out], B⟩
    · have ehs : ((u.k : Int) == 0) = false := (by simp [hs]);have Hhs := lh hs;clear hs;go_wp2_with fail
      go_meet
      exact ⟨by rw [HQC.out]; simp [Hhs.out], B⟩
   case rest =>
   replace B := hcut.2;obtain ⟨rfl, -⟩ := hcut
   cases q with
   | true =>
    have hq := HQC.out.symm;simp only [Bool.and_eq_true, decide_eq_true_eq] at hq;obtain ⟨hs, hc⟩ := hq;obtain ⟨f, rfl⟩ : ∃ f', f = f' + 1 := ⟨f - 1, by have h1 := HFL.out hs; have h2 := B.F.R.le; rw [← HNN.out] at h2; omega⟩
    replace Q : Qr T (ki E.P 3 >>= fun p => kX E.P (E.P.A s.i) f [.mk 31 (E.P.A s.i) p.1 0 l]) u := ⟨by rw [Q.eq, je hs, je hs, rappL_at, if_pos hc]⟩;have HGO := lh hs;clear hs hc;have c35 := B.mv1.S.ct B.F.rb;go_upto_region 18 with (go_at_call 54; refine B.node ?_; clear B; intro u36 B)
    clear c35;generalize hb : u36.heap.size = b38;generalize h : u36.alloc _ = V37;replace B := B.box h hb;clear h hb;go_upto_region 19 with (go_at_call 152; refine B.pth Q (hpath3 E d) ?_; clear B Q; intro u39 p s40 hl B Q; have LNp := lh (rl_step HSP.out HGO.out hl); clear hl; have c41 := B.S.cs B.F.rb)
    clear c41;generalize hz : u39.heap.size = z42;generalize h : u39.setCell _ _ = X43;replace B := B.s2 h;replace hz := qQ h hz;clear h;have c44 := B.S.cs B.F.rb;go_wp2_with fail
    clear c44;replace B := B.dr;generalize h : X43.alloc _ = V45;replace B := B.mkl hz h;clear h;clear hz;go_roundw
    case rel => exact ⟨[.mk 31 (E.P.A s.i) p.1 0 l], s40, f, _, 1, rfl, Q, fun h0 => by have h1 := LNp.out h0; have h2 := HFL.out HGO.out; omega, by simp, B.ko⟩
    case measure => exact jP R0.out B.F.R HGO.out (fun h0 => ⟨h0, Nat.le_refl _⟩) LNp.out
   | false =>
    have HR1 : Hid (u.k = 0 → l.length = 1 ∧ T = .ok (l.headD default) u.i) := lh (fun hs => by
     have hq := HQC.out.symm;rw [decide_eq_true hs, Bool.true_and] at hq;have hc := of_decide_eq_false hq;obtain ⟨f, rfl⟩ : ∃ f', f = f' + 1 := ⟨f - 1, by have h1 := HFL.out hs; have h2 := B.F.R.le; rw [← HNN.out] at h2; omega⟩
     refine ⟨Decidable.byContradiction fun h => hc (.inl h), ?_⟩
     rw [Q.eq, je hs, rappL_at, if_neg hc])
    have HR2 : Hid (u.k ≠ 0 → T = .bad u.k u.a) := lh (fun hs => by rw [Q.eq, jq hs]);clear Q
    by_cases hl1 : l.length = 1
    · have e1 : ((l.length : Int) != 1) = false := (by simp; omega);obtain ⟨x, rfl⟩ : ∃ x, l = [x] := List.length_eq_one_iff.1 hl1
      have HR3 : Hid (Rl T x u) := lh ⟨fun hs => (HR1.out hs).2, HR2.out⟩;obtain ⟨b9, p9_, a9, c9, t1, cx, B⟩ := B.arg;have hl9 : ((([x] : List Ty).length : Nat) : Int) = 1 := rfl;clear hl1;have c46 := B.cr;go_wp2_with fail
      exact Br.fin (x) B p9 HR3.out rfl rfl
    · have e1 : ((l.length : Int) != 1) = true := (by simp; omega);have HR3 : Hid (Rl T (Ty.mk 0 0 ⟨#[]⟩ 0 []) u) := lh ⟨fun hs => absurd (HR1.out hs).1 hl1, HR2.out⟩;clear hl1;have c47 := B.cr;go_wp2_with fail
      exact Br.fin (.mk 0 0 ⟨#[]⟩ 0 []) B.nilk p9 HR3.out rfl rfl
 | false =>
  go_upto_block 0 with (go_at_call 153; refine P.f ?_; clear P; intro u48 B Q)
  go_cut [4] from 5 to 62 (fun v wx => ∃ (l : List Ty) (u : RS) (ao : Option Addr) (cap : Nat), v = .slice ao l.length cap ∧ Qr T (kX E.P (E.P.A s.i) (E.P.toks.length + 1) l) u ∧ l.length ≤ 300000 ∧ Br E w d wx u [.kd l ao cap, .tv b4 (.int .i64 (E.P.K s.i)) (.int .i64 (E.P.A s.i : Int)) (.string (E.P.T s.i)) (.int .i64 (E.P.N s.i : Int))])
  case first =>
   have c49 := B.S.ct B.F.rb; have c50 := B.F.R.cells
   by_cases h5 : E.P.K s.i = 5
   · have e5 : (E.P.K s.i == 5) = true := (by simp [h5]);have H5 := lh h5;clear h5
     by_cases hs : s.k = 0
     · have e0 : ((s.k : Int) == 0) = true := (by simp [hs]);replace Q : Qr T (kX E.P (E.P.A s.i) (E.P.toks.length + 1) [.mk 30 (E.P.A s.i) (E.P.T s.i) 0 []]) (stp s) := ⟨by rw [Q.eq, je hs, je (s := stp s) hs]; exact if_pos H5.out⟩;clear hs;go_upto_region 14 with fail
       have bi9 : s.i ≤ 100000 := Nat.le_trans B.F.R.le (by rw [← HNN.out]; exact hN);go_upto_region 15 with fail
       clear c49 c50 bi9;generalize h : u48.setCell _ _ = X51;replace B := B.step (by rw [H5.out]; decide) h;clear h;replace B := B.nilo;have c52 := B.mv1.S.ct B.F.rb;go_wp2_with (at_builtin; generalize h : X51.alloc _ = V53; replace B := B.nilk.mkl rfl h; clear h; go_must (refine B.mv1.app rfl _ _ rfl rfl rfl (by simp) ?_); clear B; intro aoL capL L u54 ELL B)
       go_meet
       exact ⟨L, _, aoL, capL, rfl, by rw [ELL.out]; exact Q, by rw [ELL.out]; simp, B.ko⟩
     · have e0 : ((s.k : Int) == 0) = false := (by simp [hs]);replace Q : Qr T (kX E.P (E.P.A s.i) (E.P.toks.length + 1) []) s := ⟨by rw [Q.eq, jq hs, jq hs]⟩;clear hs;go_wp2_with fail
       go_meet
       exact ⟨[], _, none, 0, rfl, Q, by simp, B.nilk⟩
   · have e5 : (E.P.K s.i == 5) = false := by simp [h5]
     replace Q : Qr T (kX E.P (E.P.A s.i) (E.P.toks.length + 1) []) s := ⟨by
      rw [Q.eq]
      by_cases hs : s.k = 0
      · rw [je hs, je hs]; exact if_neg h5
      · rw [jq hs, jq hs]⟩
     clear h5;go_wp2_with fail
     go_meet
     exact ⟨[], _, none, 0, rfl, Q, by simp, B.nilk⟩
  case rest =>
  obtain ⟨l, u, ao, cap, rfl, Q, hl, B⟩ := hcut;go_wp2_with fail
  go_loopw [4] (fun v wr => ∃ (l : List Ty) (u : RS) (f : Nat) (ao : Option Addr) (cap : Nat), v = .slice ao l.length cap ∧ Qr T (kX E.P (E.P.A s.i) f l) u ∧ (u.k = 0 → N < u.i + f) ∧ l.length ≤ 300000 ∧ Br E w d wr u [.kd l ao cap, .tv b4 (.int .i64 (E.P.K s.i)) (.int .i64 (E.P.A s.i : Int)) (.string (E.P.T s.i)) (.int .i64 (E.P.N s.i : Int))]) (fun _ wr => jY E.P.toks.length wr E.rb)
  case atStart => exact ⟨l, u, E.P.toks.length + 1, ao, cap, rfl, Q, fun _ => by rw [HNN.out]; omega, hl, B⟩
  case round =>
   clear Q B hl;obtain ⟨l, u, f, ao, cap, rfl, Q, hf, hl, B⟩ := hrel;have HLL := lh hl;have HFL := lh hf;have R0 := lh B.F.R;clear hl hf;obtain ⟨q, hq⟩ : ∃ q, q = (decide (u.k = 0) && decide (l.length ≠ 1 ∨ E.P.K u.i = 3 ∨ E.P.K u.i = 4)) := ⟨_, rfl⟩
   have HQC := lh hq;clear hq;go_upto_region 16 with fail
   go_cut [84] from 62 to 96 (fun v wx => v = .bool q ∧ Br E w d wx u [.kd l ao cap, .tv b4 (.int .i64 (E.P.K s.i)) (.int .i64 (E.P.A s.i : Int)) (.string (E.P.T s.i)) (.int .i64 (E.P.N s.i : Int))])
   case first =>
    have cd := B.F.R.cells
    by_cases hs : u.k = 0
    · have ehs : ((u.k : Int) == 0) = true := (by simp [hs]);have Hhs := lh hs;clear hs
      by_cases h1 : l.length = 1
      · have e1 : ((l.length : Int) != 1) = false := (by simp; omega);have H1 := lh h1;clear h1
        by_cases h3 : E.P.K u.i = 3
        · have eh3 : (E.P.K u.i == 3) = true := (by simp [h3]);have Hh3 := lh h3;clear h3;go_wp2_with (go_at_call 102; refine B.now ?_; clear B; intro u55 B; have f56 := jA E.P u.i)
          go_meet
          exact ⟨by rw [HQC.out]; simp [Hh3.out, Hhs.out], B⟩
        · have eh3 : (E.P.K u.i == 3) = false := (by simp [h3]);have Hh3 := lh h3;clear h3
          by_cases h4 : E.P.K u.i = 4
          · have eh4 : (E.P.K u.i == 4) = true := (by simp [h4]);have Hh4 := lh h4;clear h4;go_wp2_with (first | (go_at_call 102; refine B.now ?_; clear B; intro u59 B; have f60 := jA E.P u.i) | (go_at_call 102; refine B.now ?_; clear B; intro u57 B; have f58 := jA E.P u.i))
            go_meet
            exact ⟨by rw [HQC.out]; simp [Hh4.out, Hhs.out], B⟩
          · have eh4 : (E.P.K u.i == 4) = false := (by simp [h4]);have Hh4 := lh h4;clear h4;go_wp2_with (first | (go_at_call 102; refine B.now ?_; clear B; intro u63 B; have f64 := jA E.P u.i) | (go_at_call 102; refine B.now ?_; clear B; intro u61 B; have f62 := jA E.P u.i))
            go_meet
            exact ⟨by rw [HQC.out]; simp [H1.out, Hh3.out, Hh4.out], B⟩
      · have e1 : ((l.length : Int) != 1) = true := (by simp; omega);have H1 := lh h1;clear h1;go_wp2_with fail
        go_meet
        exact ⟨by rw [HQC.out]; simp [H1.out, Hhs.out], B⟩
    · have ehs : ((u.k : Int) == 0) = false := (by simp [hs]);have Hhs := lh hs;clear hs;go_wp2_with fail
      go_meet
      exact ⟨by rw [HQC.out]; simp [Hhs.out], B⟩
   case rest =>
   replace B := hcut.2;obtain ⟨rfl, -⟩ := hcut
   cases q with
   | true =>
    have hq := HQC.out.symm;simp only [Bool.and_eq_true, decide_eq_true_eq] at hq;obtain ⟨hs, hc⟩ := hq;obtain ⟨f, rfl⟩ : ∃ f', f = f' + 1 := ⟨f - 1, by have h1 := HFL.out hs; have h2 := B.F.R.le; rw [← HNN.out] at h2; omega⟩
    replace Q : Qr T (ki E.P 3 >>= fun p => kX E.P (E.P.A s.i) f [.mk 31 (E.P.A s.i) p.1 0 l]) u := ⟨by rw [Q.eq, je hs, je hs, rappL_at, if_pos hc]⟩;have HGO := lh hs;clear hs hc;have c65 := B.mv1.S.ct B.F.rb;go_upto_region 18 with (go_at_call 54; refine B.node ?_; clear B; intro u66 B)
    clear c65;generalize hb : u66.heap.size = b68;generalize h : u66.alloc _ = V67;replace B := B.box h hb;clear h hb;go_upto_region 19 with (go_at_call 152; refine B.pth Q (hpath3 E d) ?_; clear B Q; intro u69 p s70 hl B Q; have LNp := lh (rl_step HSP.out HGO.out hl); clear hl; have c71 := B.S.cs B.F.rb)
    clear c71;generalize hz : u69.heap.size = z72;generalize h : u69.setCell _ _ = X73;replace B := B.s2 h;replace hz := qQ h hz;clear h;have c74 := B.S.cs B.F.rb;go_wp2_with fail
    clear c74;replace B := B.dr;generalize h : X73.alloc _ = V75;replace B := B.mkl hz h;clear h;clear hz;go_roundw
    case rel => exact ⟨[.mk 31 (E.P.A s.i) p.1 0 l], s70, f, _, 1, rfl, Q, fun h0 => by have h1 := LNp.out h0; have h2 := HFL.out HGO.out; omega, by simp, B.ko⟩
    case measure => exact jP R0.out B.F.R HGO.out (fun h0 => ⟨h0, Nat.le_refl _⟩) LNp.out
   | false =>
    have HR1 : Hid (u.k = 0 → l.length = 1 ∧ T = .ok (l.headD default) u.i) := lh (fun hs => by
     have hq := HQC.out.symm;rw [decide_eq_true hs, Bool.true_and] at hq;have hc := of_decide_eq_false hq;obtain ⟨f, rfl⟩ : ∃ f', f = f' + 1 := ⟨f - 1, by have h1 := HFL.out hs; have h2 := B.F.R.le; rw [← HNN.out] at h2; omega⟩
     refine ⟨Decidable.byContradiction fun h => hc (.inl h), ?_⟩
     rw [Q.eq, je hs, rappL_at, if_neg hc])
    have HR2 : Hid (u.k ≠ 0 → T = .bad u.k u.a) := lh (fun hs => by rw [Q.eq, jq hs]);clear Q
    by_cases hl1 : l.length = 1
    · have e1 : ((l.length : Int) != 1) = false := (by simp; omega);obtain ⟨x, rfl⟩ : ∃ x, l = [x] := List.length_eq_one_iff.1 hl1
      have HR3 : Hid (Rl T x u) := lh ⟨fun hs => (HR1.out hs).2, HR2.out⟩;obtain ⟨b9, p9_, a9, c9, t1, cx, B⟩ := B.arg;have hl9 : ((([x] : List Ty).length : Nat) : Int) = 1 := rfl;clear hl1;have c76 := B.cr;go_wp2_with fail
      exact Br.fin (x) B p9 HR3.out rfl rfl
    · have e1 : ((l.length : Int) != 1) = true := (by simp; omega);have HR3 : Hid (Rl T (Ty.mk 0 0 ⟨#[]⟩ 0 []) u) := lh ⟨fun hs => absurd (HR1.out hs).1 hl1, HR2.out⟩;clear hl1;have c77 := B.cr;go_wp2_with fail
      exact Br.fin (.mk 0 0 ⟨#[]⟩ 0 []) B.nilk p9 HR3.out rfl rfl
structure SepW {β : Type} (P : Src) (item : M Ty) (sg : ByteArray) (K : List Ty → M β) (T : Res β) (l : List Ty) (b : Bool) (s : RS) (f : Nat) : Prop where
 eq : T = if b = true then rn (item >>= fun x => ku P item sg f (l ++ [x]) >>= K) s else rn (K l) s
 fl : s.k = 0 → P.toks.length ≤ s.i + f ∧ l.length ≤ s.i
theorem SepAt.w {β : Type} {P : Src} {item : M Ty} {sg : ByteArray} {K : List Ty → M β} {T : Res β} {l : List Ty} {b : Bool} {s : RS} {f : Nat} (h : SepAt P item sg K T l b s f) : SepW P item sg K T l b s f := ⟨h.eq, h.fl⟩
theorem sepw_start {β : Type} {P : Src} {item : M Ty} {sg : ByteArray} {K : List Ty → M β} {T : Res β} {s : RS} (hT : T = rn (jZ P item sg >>= K) s) : SepW P item sg K T [] true s (P.toks.length + 1) :=
 ⟨by rw [if_pos rfl, hT]; exact congrArg (fun m => rn m s) (kV item _ K), fun _ => ⟨by omega, Nat.zero_le _⟩⟩
theorem ql {m : M Ty} {x : Ty} {s s1 : RS} (h : Rl (rn m s) x s1) (h1 : s1.k = 0) : s.k = 0 := by
 by_cases hs : s.k = 0
 · exact hs
 · rw [jq hs] at h;have := h.1 h1
   cases this
theorem SepW.item {β : Type} {P : Src} {item : M Ty} {sg : ByteArray} {K : List Ty → M β} {T : Res β} {l : List Ty} {s s1 : RS} {f : Nat} {x : Ty} (h : SepW P item sg K T l true s f) (hr : Rl (rn item s) x s1) (hst : ∀ i x j, item i = .ok x j → i + 1 ≤ j) : T = rn (ku P item sg f (l ++ [x]) >>= K) s1 ∧ (s1.k = 0 → P.toks.length < s1.i + f) ∧ (s1.k = 0 → (l ++ [x]).length ≤ s1.i) ∧ (s1.k = 0 → s.i + 1 ≤ s1.i) := by
 have h1 : s1.k = 0 → s.i + 1 ≤ s1.i := fun h0 => hst _ _ _ ((je (ql hr h0)).symm.trans (hr.1 h0))
 refine ⟨(h.eq.trans (if_pos rfl)).trans (vi hr), fun h0 => by have := h1 h0; have := h.fl (ql hr h0); omega, fun h0 => by have := h1 h0; have := h.fl (ql hr h0); rw [List.length_append]; simp; omega, h1⟩
theorem SepW.done {β : Type} {P : Src} {item : M Ty} {sg : ByteArray} {K : List Ty → M β} {T : Res β} {l : List Ty} {s : RS} {f : Nat} (h : SepW P item sg K T l false s f) : T = rn (K l) s := h.eq.trans (if_neg Bool.false_ne_true)
def boolW : Value → Nat
 | .bool true => 1
 | _ => 0
theorem qE {E : Env} {w w' : World} {s s1 s' : RS} {d d' : Nat} {b : Bool} (h : Rr E w s d) (h' : Rr E w' s' d') (hb : b = true → s'.k = 0) (h0 : s'.k = 0 → s.k = 0) (h1 : s'.k = 0 → s1.k = 0 ∧ s1.i ≤ s'.i) (h2 : s1.k = 0 → s.i + 1 ≤ s1.i) : jY E.P.toks.length w' E.rb + boolW (.bool b) < jY E.P.toks.length w E.rb + boolW (.bool true) := by
 rw [h.left, h'.left]
 by_cases hs : s'.k = 0
 · rw [if_pos hs, if_pos (h0 hs)];have h3 := h1 hs;have h4 := h2 h3.1;have h5 := h'.le;have h6 : boolW (.bool b) ≤ 1 := (by cases b <;> decide);have h7 : boolW (.bool true) = 1 := rfl;omega
 · rw [if_neg hs]
   cases b with
   | true => exact absurd (hb rfl) hs
   | false =>
    have h6 : boolW (.bool false) = 0 := rfl;have h7 : boolW (.bool true) = 1 := rfl;omega
theorem SepW.next {β : Type} {P : Src} {item : M Ty} {sg : ByteArray} {K : List Ty → M β} {T : Res β} {l : List Ty} {s s1 : RS} {f : Nat} {x : Ty} (h : SepW P item sg K T l true s f) (hr : Rl (rn item s) x s1) (hst : ∀ i x j, item i = .ok x j → i + 1 ≤ j) (hle : s1.i ≤ P.toks.length) : (∃ f, SepAt P item sg K T (l ++ [x]) (ka P sg s1) (if ka P sg s1 = true then stp s1 else s1) f) ∧ (s1.k = 0 → s.i + 1 ≤ s1.i) := by
 obtain ⟨r1, r2, r3, r4⟩ := h.item hr hst;exact ⟨sep_head r1 r2 hle r3, r4⟩
theorem crules_any (E : Env) (g : Nat) (RA : RAll E g) (w : World) (s : RS) (kk : Int) (aa : Nat) (wd : ByteArray) (h : Rr E w s (60 - g)) : Calls Tryz.prog 221 #[pr E, .int .i64 kk, .int .i64 (aa : Int), .string wd] w (RPost E (60 - g) w (rn (vc E.P (jf E.P g) kk aa wd) s) (NdQ w)) := by
 have HST : Hid (∀ i x j, ruleB E.P (jf E.P g) i = .ok x j → i + 1 ≤ j) := lh (fun i x j e => st_rule E.P _ (kD E.P g).2 i x j e);refine Br.go (m := jt E.P g .exp >>= fun e => jm E.P wd >>= fun _ => jZ E.P (ruleB E.P (jf E.P g)) s_bar >>= (fun l : List Ty => jm E.P w_end >>= fun _ => (pure (.mk kk aa ⟨#[]⟩ 0 (e :: l)) : M Ty))) h RA ?_;intro d T W R hW B Q hlr hN;clear h RA;unfold pr;go_enter Tryz.func221, Tryz.ntmps221
 obtain ⟨Q9, p9⟩ := Po9.ex Tryz.f221 E d w T (NdQ w);rw [p9.eq];go_upto_region 1 with fail
 clear hW;go_upto_region 2 with (go_at_call 56; refine B.nd Q R.exp ?_; clear B Q; intro u1 e aoe cape s2 _ B Q)
 generalize hb : u1.heap.size = b4;generalize h : u1.alloc _ = V3;replace B := B.box h hb;clear h hb;have c5 := B.S.cs B.F.rb;go_upto_region 3 with fail
 clear c5;generalize h : V3.alloc _ = V6;replace B := B.mv1.mk1 rfl h;clear h;go_upto_region 4 with (go_at_call 144; refine B.un Q (kg E d wd) ?_; clear B Q; intro u7 _ _ s8 B Q)
 have H := sepw_start Q.eq;go_upto_region 5 with fail
 go_loopw [10, 11] (fun va vb wr => ∃ (l q : List Ty) (ao : Option Addr) (cap : Nat) (b : Bool) (t : RS) (f : Nat), q = e :: l ∧ va = .slice ao q.length cap ∧ vb = .bool b ∧ SepW E.P (ruleB E.P (jf E.P g)) s_bar (fun l : List Ty => jm E.P w_end >>= fun _ => (pure (.mk kk aa ⟨#[]⟩ 0 (e :: l)) : M Ty)) T l b t f ∧ Br E w d wr t [.ow (.slice ao q.length cap) q] ∧ (b = true → q.length ≤ 200000)) (fun _ vb wr => jY E.P.toks.length wr E.rb + boolW vb)
 case atStart => exact ⟨[], [e], _, 1, _, _, _, rfl, rfl, rfl, H, B.mv1.dr, fun _ => by simp⟩
 case round =>
  clear H B Q;obtain ⟨l, q, ao, cap, b, t, f, hq, rfl, rfl, H, B, hLN⟩ := hrel;have HQL := lh hq;have HLN := lh hLN;clear hq hLN
  cases b with
  | false =>
   have Q : Qr T ((fun l : List Ty => jm E.P w_end >>= fun _ => (pure (.mk kk aa ⟨#[]⟩ 0 (e :: l)) : M Ty)) l) t := ⟨H.done⟩;go_upto_region 12 with (go_at_call 144; refine B.un Q (kg E d w_end) ?_; clear B Q; intro u9 _ _ s10 B Q)
   go_wp2_with (go_at_call 54; refine B.node ?_; clear B; intro u11 B; have c12 := B.cr)
   exact Br.fin (.mk kk aa ⟨#[]⟩ 0 q) B.ko p9 (by rw [HQL.out]; exact Q.pr) rfl rfl
  | true =>
   have R0 := lh B.F.R;replace HLN := lh (HLN.out rfl);obtain ⟨T2, hT2⟩ : ∃ T2, T2 = rn (ruleB E.P (jf E.P g)) t := ⟨_, rfl⟩
   have HT2 := lh hT2;have Q : Qr T2 (jt E.P g .pat >>= fun p => jm E.P s_arr >>= fun _ => jt E.P g .exp >>= fun b => (pure (.mk 12 p.n ⟨#[]⟩ 0 [p, b]) : M Ty)) t := ⟨hT2⟩;clear hT2;go_upto_region 7 with (go_at_call 57; refine B.nd Q R.pat ?_; clear B Q; intro u13 p aop capp s14 _ B Q)
   generalize hb : u13.heap.size = b16;generalize h : u13.alloc _ = V15;replace B := B.box h hb;clear h hb;go_upto_region 8 with (go_at_call 144; refine B.un Q (kg E d s_arr) ?_; clear B Q; intro u17 _ _ s18 B Q)
   go_upto_region 9 with (go_at_call 56; refine B.nd Q R.exp ?_; clear B Q; intro u19 b aob capb s20 _ B Q)
   generalize hb : u19.heap.size = b22;generalize h : u19.alloc _ = V21;replace B := B.box h hb;clear h hb;have c23 := B.mv2.S.cs B.F.rb; have c24 := B.S.cs B.F.rb;go_upto_region 10 with (first | (at_builtin; generalize h : u26.alloc _ = V27; replace B := B.ko.mkl rfl h; clear h; go_must (refine B.mv3.app rfl _ _ rfl rfl rfl (by have := HLN.out; simp; omega) ?_); clear B; intro aoL capL L u28 ELL B) | (go_at_call 54; generalize h : V21.alloc _ = V25; replace B := B.mv1.mv3.mk2 rfl h; clear h; refine B.node ?_; clear B; intro u26 B))
   clear c23 c24;have HON : Hid (Rl (rn (ruleB E.P (jf E.P g)) t) (.mk 12 p.n ⟨#[]⟩ 0 [p, b]) s20) := lh (by rw [← HT2.out]; exact Q.pr);obtain ⟨⟨f2, H2⟩, h4⟩ := H.next HON.out HST.out B.F.R.le;have R4 := lh h4;clear H h4;have HEQ : Hid (L = e :: (l ++ [.mk 12 p.n ⟨#[]⟩ 0 [p, b]])) := lh (by rw [ELL.out, HQL.out]; rfl);replace B := B.mv1.dr;replace B := B.mv1.dr;go_wp2_with (go_at_call 153; refine B.eatg s_bar ?_; clear B; intro u29 B)
   go_roundw
   case rel => exact ⟨_, L, _, _, _, _, f2, HEQ.out, rfl, rfl, H2.w, B, fun hb => by have h1 := (H2.fl (H2.go hb)).2; have h2 := B.F.R.le; rw [HEQ.out, List.length_cons]; omega⟩
   case measure => exact qE R0.out B.F.R H2.go (fun h0 => ql HON.out (jQ h0).1) jQ R4.out
theorem cexps_any (E : Env) (g : Nat) (RA : RAll E g) (w0 : World) (s : RS) (sg : ByteArray) (h : Rr E w0 s (60 - g)) (hw : E.B < w0.heap.size) : Calls Tryz.prog 220 #[pr E, .string sg] w0 (RPost E (60 - g) w0 (rn (jZ E.P (jt E.P g .exp) sg) s) (OwB w0)) := by
 have HST : Hid (∀ i x j, jt E.P g .exp i = .ok x j → i + 1 ≤ j) := lh (item_st _);rw [show rn (jZ E.P (jt E.P g .exp) sg) s = rn (jZ E.P (jt E.P g .exp) sg >>= fun l => (ret l : M (List Ty))) s from congrArg (fun m => rn m s) (vS _).symm];refine Bs.go (m := jZ E.P (jt E.P g .exp) sg >>= fun l => (ret l : M (List Ty))) h hw RA ?_;intro d T w R B Q hlr hN;clear h RA;unfold pr;go_enter Tryz.func220, Tryz.ntmps220
 obtain ⟨Q9, p9⟩ := Ps9.ex Tryz.f220 E d w0 T;rw [p9.eq];go_upto_region 2 with (go_at_call 56; refine B.ndx R.exp ?_; clear B; intro u1 x aox capx s2 hl B; have HLx := lh hl; clear hl)
 generalize h : u1.alloc _ = V3;replace B := B.mk1 rfl h;clear h;obtain ⟨f0, H⟩ := vV Q HLx.out HST.out B.F.R.le;go_upto_region 3 with (go_at_call 153; refine B.eatg sg ?_; clear B; intro u4 B)
 go_loopw [5, 6] (fun va vb wr => ∃ (l : List Ty) (ao : Option Addr) (cap : Nat) (b : Bool) (t : RS) (f : Nat), va = .slice ao l.length cap ∧ vb = .bool b ∧ SepAt E.P (jt E.P g .exp) sg (fun l => (ret l : M (List Ty))) T l b t f ∧ Bs E w0 w d wr t [.ow (.slice ao l.length cap) l] ∧ l.length ≤ 200000) (fun _ _ wr => jY E.P.toks.length wr E.rb)
 case atStart => exact ⟨[x], _, 1, _, _, f0, rfl, rfl, H, B, by simp⟩
 case round =>
  clear B H Q;obtain ⟨l, ao, cap, b, t, f, rfl, rfl, H, B, hln⟩ := hrel
  cases b with
  | false =>
   have Q := H.end;go_wp2_with fail
   rw [← p9.eq];go_ret
   exact B.fin Q.pr hln
  | true =>
   have R0 := lh B.F.R;have HG := lh (H.le R0.out);go_upto_region 5 with (go_at_call 56; refine B.ndx R.exp ?_; clear B; intro u5 e aoe cape s6 hl B; have HLe := lh hl; clear hl)
   generalize hb : u5.heap.size = b8;generalize h : u5.alloc _ = V7;replace B := B.box h hb;clear h hb;have c9 := B.S.cs B.F.rb;go_upto_region 6 with (at_builtin; generalize h : V7.alloc _ = V10; replace B := B.mv1.mk1 rfl h; clear h; go_must (refine B.mv2.app rfl _ _ rfl rfl rfl (by have := HG.out.2; simp; omega) ?_); clear B; intro aoL capL L u11 ELL B)
   clear c9;obtain ⟨⟨f2, H2⟩, h4⟩ := H.next HLe.out HST.out B.F.R.le;rw [← ELL.out] at H2;have R4 := lh h4;clear H h4;go_wp2_with (go_at_call 153; refine B.eatg sg ?_; clear B; intro u12 B)
   go_roundw
   case rel => exact ⟨L, _, _, _, _, f2, rfl, rfl, H2, B.mv1.dr, by have := HG.out.2; rw [ELL.out, List.length_append]; simp; omega⟩
   case measure => exact jP R0.out B.F.R HG.out.1 jQ R4.out
theorem cpats_any (E : Env) (g : Nat) (RA : RAll E g) (w0 : World) (s : RS) (h : Rr E w0 s (60 - g)) (hw : E.B < w0.heap.size) : Calls Tryz.prog 183 #[pr E] w0 (RPost E (60 - g) w0 (rn (jZ E.P (jt E.P g .pat) s_com) s) (OwB w0)) := by
 have HST : Hid (∀ i x j, jt E.P g .pat i = .ok x j → i + 1 ≤ j) := lh (item_st _);rw [show rn (jZ E.P (jt E.P g .pat) s_com) s = rn (jZ E.P (jt E.P g .pat) s_com >>= fun l => (ret l : M (List Ty))) s from congrArg (fun m => rn m s) (vS _).symm];refine Bs.go (m := jZ E.P (jt E.P g .pat) s_com >>= fun l => (ret l : M (List Ty))) h hw RA ?_;intro d T w R B Q hlr hN;clear h RA;unfold pr;go_enter Tryz.func183, Tryz.ntmps183
 obtain ⟨Q9, p9⟩ := Ps9.ex Tryz.f183 E d w0 T;rw [p9.eq];go_upto_region 2 with (go_at_call 57; refine B.ndx R.pat ?_; clear B; intro u1 x aox capx s2 hl B; have HLx := lh hl; clear hl)
 generalize h : u1.alloc _ = V3;replace B := B.mk1 rfl h;clear h;obtain ⟨f0, H⟩ := vV Q HLx.out HST.out B.F.R.le;go_upto_region 3 with (go_at_call 153; refine B.eatg s_com ?_; clear B; intro u4 B)
 go_loopw [3, 4] (fun va vb wr => ∃ (l : List Ty) (ao : Option Addr) (cap : Nat) (b : Bool) (t : RS) (f : Nat), va = .slice ao l.length cap ∧ vb = .bool b ∧ SepAt E.P (jt E.P g .pat) s_com (fun l => (ret l : M (List Ty))) T l b t f ∧ Bs E w0 w d wr t [.ow (.slice ao l.length cap) l] ∧ l.length ≤ 200000) (fun _ _ wr => jY E.P.toks.length wr E.rb)
 case atStart => exact ⟨[x], _, 1, _, _, f0, rfl, rfl, H, B, by simp⟩
 case round =>
  clear B H Q;obtain ⟨l, ao, cap, b, t, f, rfl, rfl, H, B, hln⟩ := hrel
  cases b with
  | false =>
   have Q := H.end;go_wp2_with fail
   rw [← p9.eq];go_ret
   exact B.fin Q.pr hln
  | true =>
   have R0 := lh B.F.R;have HG := lh (H.le R0.out);go_upto_region 5 with (go_at_call 57; refine B.ndx R.pat ?_; clear B; intro u5 e aoe cape s6 hl B; have HLe := lh hl; clear hl)
   generalize hb : u5.heap.size = b8;generalize h : u5.alloc _ = V7;replace B := B.box h hb;clear h hb;have c9 := B.S.cs B.F.rb;go_upto_region 6 with (at_builtin; generalize h : V7.alloc _ = V10; replace B := B.mv1.mk1 rfl h; clear h; go_must (refine B.mv2.app rfl _ _ rfl rfl rfl (by have := HG.out.2; simp; omega) ?_); clear B; intro aoL capL L u11 ELL B)
   clear c9;obtain ⟨⟨f2, H2⟩, h4⟩ := H.next HLe.out HST.out B.F.R.le;rw [← ELL.out] at H2;have R4 := lh h4;clear H h4;go_wp2_with (go_at_call 153; refine B.eatg s_com ?_; clear B; intro u12 B)
   go_roundw
   case rel => exact ⟨L, _, _, _, _, f2, rfl, rfl, H2, B.mv1.dr, by have := HG.out.2; rw [ELL.out, List.length_append]; simp; omega⟩
   case measure => exact jP R0.out B.F.R HG.out.1 jQ R4.out
theorem Rr.step2 {E : Env} {w : World} {s : RS} {d : Nat} (h : Rr E w s d) (h1 : s.i + 2 ≤ E.P.toks.length) (h2 : E.P.fk = 0 → s.i + 2 < E.P.toks.length) : Rr E (w.setCell ⟨E.rb, 1, none⟩ (.int .i64 ((s.i : Int) + 2))) (stp (stp s)) d := by
 have e : ((s.i : Int) + 2) = (((stp (stp s)).i : Nat) : Int) := by show _ = ((s.i + 1 + 1 : Nat) : Int); omega
 rw [e];exact h.put (jy h.row 1 _) (set_other _ _ _ _) (set_size _ _ _ _) h1 h2 h.d61
theorem Fr.step2 {E : Env} {w wk : World} {d : Nat} {s : RS} (f : Fr E w d wk s) (h1 : s.i + 2 ≤ E.P.toks.length) (h2 : E.P.fk = 0 → s.i + 2 < E.P.toks.length) : Fr E w d (wk.setCell ⟨E.rb, 1, none⟩ (.int .i64 ((s.i : Int) + 2))) (stp (stp s)) := ⟨f.R.step2 h1 h2, yh f.G (jX wk E.rb 1 _) (.inl rfl), jg f.r0 (by have := f.rb; omega) 1 _, f.rb⟩
theorem as_room {P : Src} (h : SrcOk P) {i : Nat} (h6 : P.K (i + 1) = 6) : i + 2 ≤ P.toks.length ∧ (P.fk = 0 → i + 2 < P.toks.length) := step_ok h (i := i + 1) (by rw [h6]; decide)
theorem Bd.step2 {E : Env} {w w1 V : World} {d : Nat} {s : RS} {ls : List At} (b : Br E w d w1 s ls) (hm : s.i + 2 ≤ E.P.toks.length ∧ (E.P.fk = 0 → s.i + 2 < E.P.toks.length)) (h : w1.setCell ⟨E.rb, 1, none⟩ (.int .i64 ((s.i : Int) + 2)) = V) : Br E w d V (stp (stp s)) ls := by subst h; exact ⟨b.F.step2 hm.1 hm.2, b.S.ss (Nat.le_of_lt b.F.rb) rfl, b.B, b.fm⟩
theorem croundPat_any (E : Env) (g : Nat) (RA : RAll E g) (w : World) (s : RS) (aa : Nat) (h : Rr E w s (60 - g)) : Calls Tryz.prog 184 #[pr E, .int .i64 (aa : Int)] w (RPost E (60 - g) w (rn (qa E.P (jf E.P g) aa) s) (NdQ w)) := by
 refine Br.go (m := (fun i => if isD E.P s_rp i = true then (pure (.mk 25 aa ⟨#[]⟩ 0 []) : M Ty) (i + 1) else (fun i => if E.P.K i = 3 ∧ E.P.K (i + 1) = 6 ∧ E.P.T (i + 1) = w_as then (jt E.P g .pat >>= fun p => jm E.P s_rp >>= fun _ => (pure (.mk 28 aa (E.P.T i) 0 [p]) : M Ty)) (i + 2) else (jt E.P g .pat >>= fun p => kn E.P s_com >>= fun c => if c = true then (jZ E.P (jt E.P g .pat) s_com >>= fun l => jm E.P s_rp >>= fun _ => (pure (.mk 25 aa ⟨#[]⟩ 0 (p :: l)) : M Ty)) else (kn E.P s_col >>= fun h => if h = true then (jt E.P g .typ >>= fun t => jm E.P s_rp >>= fun _ => (pure (.mk 29 aa ⟨#[]⟩ 0 [p, t]) : M Ty)) else (jm E.P s_rp >>= fun _ => (pure p : M Ty)))) i : M Ty) i)) h RA ?_;intro d T W R hW B Q hlr hN;have HROWC := at_r R.hd (cpats_any E g RA);clear h RA;unfold pr at HROWC ⊢;go_enter Tryz.func184, Tryz.ntmps184
 obtain ⟨Q9, p9⟩ := Po9.ex Tryz.f184 E d w T (NdQ w);rw [p9.eq];go_upto_region 1 with fail
 clear hW;obtain ⟨b1, P⟩ := B.eat (sg := s_rp) Q;clear B Q
 cases b1 with
 | true =>
  go_wp2_with (first | (go_at_call 54; refine B.node ?_; clear B; intro u3 B; have c4 := B.cr) | (go_at_call 153; refine P.t ?_; clear P; intro u2 B Q _))
  exact Br.fin (.mk 25 aa ⟨#[]⟩ 0 []) B.nilk p9 Q.pr rfl rfl
 | false =>
  go_upto_region 5 with (first | (go_at_call 102; refine B.now ?_; clear B; intro u6 B; have f7 := jA E.P s.i) | (go_at_call 153; refine P.f ?_; clear P; intro u5 B Q))
  clear f7;generalize hb : u6.heap.size = b9;generalize h : u6.alloc _ = V8;replace B := B.boxt h hb;clear h hb;have c10 := B.S.ct B.F.rb; have c11 := B.F.R.cells;obtain ⟨q, hq⟩ : ∃ q, q = decide (E.P.K s.i = 3 ∧ E.P.K (s.i + 1) = 6 ∧ E.P.T (s.i + 1) = w_as) := ⟨_, rfl⟩
  have HQC := lh hq;clear hq;go_cut [7] from 22 to 68 (fun v wx => v = .bool q ∧ Br E w d wx s [.tv b9 (.int .i64 (E.P.K s.i)) (.int .i64 (E.P.A s.i : Int)) (.string (E.P.T s.i)) (.int .i64 (E.P.N s.i : Int))])
  case first =>
   have R0 := lh B.F.R;have hi9 : s.i ≤ 100000 := Nat.le_trans B.F.R.le hN;clear hN;generalize hn : E.P.toks.length = n at *
   have HNN := lh hn;clear hn
   by_cases h3 : E.P.K s.i = 3
   · have eh3 : (E.P.K s.i == 3) = true := (by simp [h3]);have Hh3 := lh h3;clear h3
     by_cases hi : s.i + 1 < n
     · have hd : ((s.i : Int) + 1 < (n : Int)) := (by omega);obtain ⟨b, p, hne, hbl, hix, x0, x1, x2, x3⟩ := R0.out.tok (k := s.i + 1) (by rw [HNN.out]; exact hi);rw [HNN.out] at hix;have hix1 : ∀ w' : World, (Instr.indexAt 36 (.slice E.lo n E.cap) (.int .i64 ((s.i : Int) + 1))).run Tryz.prog w' = .ok (.pointer (some ⟨b, p, none⟩)) w' := hix;clear hix hi hne hbl
       by_cases h6 : E.P.K (s.i + 1) = 6
       · have eh6 : (E.P.K (s.i + 1) == 6) = true := (by simp [h6]);have Hh6 := lh h6;clear h6;have es : ((E.P.T (s.i + 1)).toList == w_as.toList) = decide (E.P.T (s.i + 1) = w_as) := qK _ _
         cases hs : decide (E.P.T (s.i + 1) = w_as) with
         | true =>
          rw [hs] at es;have hs9 : Hid (E.P.T (s.i + 1) = w_as) := lh (of_decide_eq_true hs);have hsl : (E.P.T (s.i + 1)).toList = w_as.toList := ba_eq.2 hs9.out;clear hs es;go_quiet (fail)
          go_wp2_with fail
          go_meet
          exact ⟨by rw [HQC.out]; simp [Hh3.out, Hh6.out, hs9.out], B.be (below_drewN (Below.refl _ _) _)⟩
         | false =>
          rw [hs] at es;have hs9 : Hid (¬ E.P.T (s.i + 1) = w_as) := lh (of_decide_eq_false hs);clear hs;go_quiet (fail)
          go_wp2_with fail
          go_meet
          exact ⟨by rw [HQC.out]; rw [decide_eq_false (fun h => hs9.out h.2.2)]; first | rfl | (simpa using es), B.be (below_drewN (Below.refl _ _) _)⟩
       · have eh6 : (E.P.K (s.i + 1) == 6) = false := (by simp [h6]);have Hh6 := lh h6;clear h6;go_quiet (fail)
         go_wp2_with fail
         go_meet
         exact ⟨by rw [HQC.out]; simp [Hh6.out], B.be (below_drewN (Below.refl _ _) _)⟩
     · have hd : decide ((s.i : Int) + 1 < (n : Int)) = false := (by simp; omega);have hd2 : ¬ ((s.i : Int) + 1 < (n : Int)) := (by omega);have hk : Hid (E.P.K (s.i + 1) = -1) := lh (Src.out' (by rw [HNN.out]; exact hi)).1;clear hi;go_quiet (fail)
       go_wp2_with fail
       go_meet
       exact ⟨by rw [HQC.out]; simp [hk.out], B.be (below_drewN (Below.refl _ _) _)⟩
   · have eh3 : (E.P.K s.i == 3) = false := (by simp [h3]);have Hh3 := lh h3;clear h3;go_quiet (fail)
     go_wp2_with fail
     go_meet
     exact ⟨by rw [HQC.out]; simp [Hh3.out], B.be (below_drewN (Below.refl _ _) _)⟩
  case rest =>
  clear c10 c11;replace B := hcut.2;obtain ⟨rfl, -⟩ := hcut
  replace Q : Hid (T = if q = true then rn ((jt E.P g .pat >>= fun p => jm E.P s_rp >>= fun _ => (pure (.mk 28 aa (E.P.T s.i) 0 [p]) : M Ty))) (stp (stp s)) else rn ((jt E.P g .pat >>= fun p => kn E.P s_com >>= fun c => if c = true then (jZ E.P (jt E.P g .pat) s_com >>= fun l => jm E.P s_rp >>= fun _ => (pure (.mk 25 aa ⟨#[]⟩ 0 (p :: l)) : M Ty)) else (kn E.P s_col >>= fun h => if h = true then (jt E.P g .typ >>= fun t => jm E.P s_rp >>= fun _ => (pure (.mk 29 aa ⟨#[]⟩ 0 [p, t]) : M Ty)) else (jm E.P s_rp >>= fun _ => (pure p : M Ty))))) s) := lh (by
   rw [Q.eq]
   by_cases hs : s.k = 0
   · rw [je hs, je hs, je (s := stp (stp s)) hs];have hq := HQC.out
     cases q with
     | true => rw [if_pos rfl]; exact if_pos (of_decide_eq_true hq.symm)
     | false => rw [if_neg Bool.false_ne_true]; exact if_neg (of_decide_eq_false hq.symm)
   · rw [jq hs, jq hs, jq (s := stp (stp s)) hs]
     cases q <;> rfl)
  cases q with
  | true =>
   replace Q : Qr T ((jt E.P g .pat >>= fun p => jm E.P s_rp >>= fun _ => (pure (.mk 28 aa (E.P.T s.i) 0 [p]) : M Ty))) (stp (stp s)) := ⟨Q.out.trans (if_pos rfl)⟩;have HRM := lh (as_room B.F.R.ok (of_decide_eq_true HQC.out.symm).2.1);go_upto_region 7 with fail
   have c12 := B.F.R.cells;have bi : s.i ≤ 100000 := Nat.le_trans B.F.R.le hN;go_upto_region 8 with fail
   clear c12 bi;generalize h : wc.setCell _ _ = X13;replace B := B.step2 HRM.out h;clear h;go_upto_region 9 with (go_at_call 57; refine B.nd Q R.pat ?_; clear B Q; intro u14 p aop capp s15 _ B Q)
   generalize hb : u14.heap.size = b17;generalize h : u14.alloc _ = V16;replace B := B.box h hb;clear h hb;have c18 := B.S.cs B.F.rb;go_upto_region 10 with (go_at_call 54; generalize h : V16.alloc _ = V19; replace B := B.mv1.mk1 rfl h; clear h; refine B.node ?_; clear B; intro u20 B)
   clear c18;generalize hb : u20.heap.size = b22;generalize h : u20.alloc _ = V21;replace B := B.box h hb;clear h hb;have c23 := B.mv3.S.ct B.F.rb; have c24 := B.S.cs B.F.rb;go_upto_region 11 with fail
   clear c23 c24;generalize h : V21.setCell _ _ = X25;replace B := B.s2 h;clear h;go_upto_region 12 with (go_at_call 144; refine B.un Q (kg E d s_rp) ?_; clear B Q; intro u26 _ _ s27 B Q)
   have c28 := B.S.cs B.F.rb; have c29 := B.cr;go_wp2_with fail
   exact Br.fin (.mk 28 aa (E.P.T s.i) 0 [p]) B.mv1.ko p9 Q.pr rfl rfl
  | false =>
   replace Q : Qr T ((jt E.P g .pat >>= fun p => kn E.P s_com >>= fun c => if c = true then (jZ E.P (jt E.P g .pat) s_com >>= fun l => jm E.P s_rp >>= fun _ => (pure (.mk 25 aa ⟨#[]⟩ 0 (p :: l)) : M Ty)) else (kn E.P s_col >>= fun h => if h = true then (jt E.P g .typ >>= fun t => jm E.P s_rp >>= fun _ => (pure (.mk 29 aa ⟨#[]⟩ 0 [p, t]) : M Ty)) else (jm E.P s_rp >>= fun _ => (pure p : M Ty))))) s := ⟨Q.out.trans (if_neg Bool.false_ne_true)⟩;go_upto_region 13 with fail
   go_upto_region 14 with (go_at_call 57; refine B.nd Q R.pat ?_; clear B Q; intro u30 p aop capp s31 _ B Q)
   generalize hb : u30.heap.size = b33;generalize h : u30.alloc _ = V32;replace B := B.box h hb;clear h hb;obtain ⟨b34, P⟩ := B.eatd (sg := s_com) Q;clear B Q
   cases b34 with
   | true =>
    go_upto_region 19 with (go_at_call 153; refine P.t ?_; clear P; intro u35 B Q _)
    go_upto_region 20 with (go_at_call 183; refine B.rw Q HROWC ?_; clear B Q; intro u36 l aol capl s37 LNl B Q)
    have c38 := B.mv1.S.cs B.F.rb;go_upto_region 21 with (first | (go_at_call 54; refine B.node ?_; clear B; intro u41 B; have c42 := B.mv1.S.cs B.F.rb) | (at_builtin; generalize h : u36.alloc _ = V39; replace B := B.mv2.mk1 rfl h; clear h; go_must (refine B.mv1.mv1.app rfl _ _ rfl rfl rfl (by have h1 := LNl.out; show 1 + _ ≤ _; omega) ?_); clear B; intro aoL capL L u40 ELL B))
    clear c38 c42;generalize h : ((((u41.setCell _ _).setCell _ _).setCell _ _).setCell _ _).setCell _ _ = X43;replace B := B.mv1.sn h;clear h;go_upto_region 25 with (go_at_call 144; refine B.un Q (kg E d s_rp) ?_; clear B Q; intro u44 _ _ s45 B Q)
    have c46 := B.S.cs B.F.rb; have c47 := B.cr;go_wp2_with fail
    exact Br.fin (.mk 25 aa ⟨#[]⟩ 0 L) B.mv1.ko p9 (by rw [ELL.out]; exact Q.pr) rfl rfl
   | false =>
    go_upto_region 17 with (go_at_call 153; refine P.f ?_; clear P; intro u48 B Q)
    obtain ⟨b49, P⟩ := B.eatd (sg := s_col) Q;clear B Q
    cases b49 with
    | true =>
     go_upto_region 22 with (go_at_call 153; refine P.t ?_; clear P; intro u50 B Q _)
     go_upto_region 23 with (go_at_call 58; refine B.nd Q R.typ ?_; clear B Q; intro u51 t aot capt s52 _ B Q)
     generalize hb : u51.heap.size = b54;generalize h : u51.alloc _ = V53;replace B := B.box h hb;clear h hb;have c55 := B.mv2.S.cs B.F.rb; have c56 := B.S.cs B.F.rb;go_upto_region 24 with (go_at_call 54; generalize h : V53.alloc _ = V57; replace B := B.mv1.mv3.mk2 rfl h; clear h; refine B.node ?_; clear B; intro u58 B; have c59 := B.mv2.S.cs B.F.rb)
     clear c55 c56 c59;generalize h : ((((u58.setCell _ _).setCell _ _).setCell _ _).setCell _ _).setCell _ _ = X60;replace B := B.mv2.sn h;clear h;go_upto_region 25 with (go_at_call 144; refine B.un Q (kg E d s_rp) ?_; clear B Q; intro u61 _ _ s62 B Q)
     have c63 := B.S.cs B.F.rb; have c64 := B.cr;go_wp2_with fail
     exact Br.fin (.mk 29 aa ⟨#[]⟩ 0 [p, t]) B.mv1.ko p9 Q.pr rfl rfl
    | false =>
     go_upto_region 25 with (first | (go_at_call 144; refine B.un Q (kg E d s_rp) ?_; clear B Q; intro u66 _ _ s67 B Q) | (go_at_call 153; refine P.f ?_; clear P; intro u65 B Q))
     have c68 := B.S.cs B.F.rb; have c69 := B.cr;go_wp2_with fail
     exact Br.fin (p) B.mv1 p9 Q.pr rfl rfl
theorem jG {P : Src} {i : Nat} (hk : P.K i = 6 ∨ P.K i = 7) (x : ByteArray) : isD P x i = decide (P.T i = x) := by
 unfold isD;rw [decide_eq_true hk, Bool.true_and]
theorem isD_k {P : Src} {s : ByteArray} {i : Nat} {k : Int} (h : P.K i = k) (h6 : k ≠ 6) (h7 : k ≠ 7) : ¬ isD P s i = true := by
 unfold isD;rw [h];simp [h6, h7]
theorem num_le {P : Src} (h : SrcOk P) (j : Nat) : P.N j ≤ 1000000000 := by
 by_cases hj : j < P.toks.length
 · rw [(Src.at' hj).2.2.2]; exact (h.tok _ (List.getElem_mem hj)).2.2.1
 · rw [(Src.out' hj).2.2.2]; omega
theorem apat_1 {P : Src} {R : Rec} {i : Nat} (h : P.K i = 1) : jR P R i = .ok (.mk 22 (P.A i) ⟨#[]⟩ (P.N i) []) (i + 1) := by
 unfold jR;rw [if_neg (isD_k h (by decide) (by decide)), if_neg (by rw [h]; decide), if_pos h]
theorem apat_2 {P : Src} {R : Rec} {i : Nat} (h : P.K i = 2) : jR P R i = .ok (.mk 23 (P.A i) (P.T i) 0 []) (i + 1) := by
 unfold jR;rw [if_neg (isD_k h (by decide) (by decide)), if_neg (by rw [h]; decide), if_neg (by rw [h]; decide), if_neg (isD_k h (by decide) (by decide)), if_pos h]
theorem apat_3 {P : Src} {R : Rec} {i : Nat} (h : P.K i = 3) : jR P R i = .ok (.mk 21 (P.A i) (P.T i) 0 []) (i + 1) := by
 unfold jR;rw [if_neg (isD_k h (by decide) (by decide)), if_pos h]
theorem apat_4 {P : Src} {R : Rec} {i : Nat} (h : P.K i = 4) : jR P R i = (ki P 4 >>= fun p => (ret (.mk 24 (P.A i) p.1 0 []) : M Ty)) i := by
 unfold jR;rw [if_neg (isD_k h (by decide) (by decide)), if_neg (by rw [h]; decide), if_neg (by rw [h]; decide), if_neg (isD_k h (by decide) (by decide)), if_neg (by rw [h]; decide), if_pos h]
theorem apat_us {P : Src} {R : Rec} {i : Nat} (hk : P.K i = 6 ∨ P.K i = 7) (h : P.T i = s_us) : jR P R i = .ok (.mk 20 (P.A i) ⟨#[]⟩ 0 []) (i + 1) := by
 unfold jR;rw [if_pos (by rw [jG hk, h]; decide)]
theorem apat_ti {P : Src} {R : Rec} {i : Nat} (hk : P.K i = 6 ∨ P.K i = 7) (h : P.T i = s_ti) : jR P R i = if P.K (i + 1) = 1 then .ok (.mk 22 (P.A i) ⟨#[]⟩ (-(P.N (i + 1) : Int)) []) (i + 2) else jE P 4 (i + 1) := by
 unfold jR;rw [if_neg (by rw [jG hk, h]; decide), if_neg (by omega), if_neg (by omega), if_pos (by rw [jG hk, h]; decide)]
theorem apat_w {P : Src} {R : Rec} {i : Nat} (hk : P.K i = 6 ∨ P.K i = 7) (h : P.T i = w_true ∨ P.T i = w_false) : jR P R i = .ok (.mk 24 (P.A i) (P.T i) 0 []) (i + 1) := by
 unfold jR;have h9 : isD P w_true i = true ∨ isD P w_false i = true := by rw [jG hk, jG hk]; rcases h with h | h <;> rw [h] <;> decide
 rw [if_neg (by rw [jG hk]; rcases h with h | h <;> rw [h] <;> decide), if_neg (by omega), if_neg (by omega), if_neg (by rw [jG hk]; rcases h with h | h <;> rw [h] <;> decide), if_neg (by omega), if_neg (by omega), if_pos h9]
theorem apat_lb {P : Src} {R : Rec} {i : Nat} (hk : P.K i = 6 ∨ P.K i = 7) (h : P.T i = s_lb) : jR P R i = (kn P s_rb >>= fun e => if e = true then (pure (.mk 26 (P.A i) ⟨#[]⟩ 0 []) : M Ty) else jZ P (R.go .pat) s_com >>= fun l => jm P s_rb >>= fun _ => (pure (.mk 26 (P.A i) ⟨#[]⟩ 0 l) : M Ty)) (i + 1) := by
 unfold jR;rw [if_neg (by rw [jG hk, h]; decide), if_neg (by omega), if_neg (by omega), if_neg (by rw [jG hk, h]; decide), if_neg (by omega), if_neg (by omega), if_neg (by rw [jG hk, jG hk, h]; decide), if_pos (by rw [jG hk, h]; decide)]
theorem apat_lp {P : Src} {R : Rec} {i : Nat} (hk : P.K i = 6 ∨ P.K i = 7) (h : P.T i = s_lp) : jR P R i = qa P R (P.A i) (i + 1) := by
 unfold jR;rw [if_neg (by rw [jG hk, h]; decide), if_neg (by omega), if_neg (by omega), if_neg (by rw [jG hk, h]; decide), if_neg (by omega), if_neg (by omega), if_neg (by rw [jG hk, jG hk, h]; decide), if_neg (by rw [jG hk, h]; decide), if_pos (by rw [jG hk, h]; decide)]
theorem apat_no {P : Src} {R : Rec} {i : Nat} (h1 : P.K i ≠ 1) (h2 : P.K i ≠ 2) (h3 : P.K i ≠ 3) (h4 : P.K i ≠ 4) (h : jK P [w_true, w_false, s_lp, s_lb, s_ti, s_us] i = false) : jR P R i = jE P 4 i := by
 have hn : ∀ x ∈ [w_true, w_false, s_lp, s_lb, s_ti, s_us], ¬ isD P x i = true := fun x hx h9 => by
  unfold isD at h9;unfold jK at h;rw [Bool.and_eq_true] at h9;rw [h9.1, Bool.true_and] at h;have h8 := List.any_eq_false.1 h x hx;exact h8 h9.2
 unfold jR;rw [if_neg (hn _ (by simp)), if_neg h3, if_neg h1, if_neg (hn _ (by simp)), if_neg h2, if_neg h4, if_neg (fun h => h.elim (hn _ (by simp)) (hn _ (by simp))), if_neg (hn _ (by simp)), if_neg (hn _ (by simp))]
theorem apat_one {P : Src} {i : Nat} (h : jK P [w_true, w_false, s_lp, s_lb, s_ti, s_us] i = true) : (P.K i = 6 ∨ P.K i = 7) ∧ (P.T i = s_us ∨ P.T i = s_ti ∨ P.T i = s_lb ∨ P.T i = s_lp ∨ P.T i = w_true ∨ P.T i = w_false) := by
 unfold jK at h;simp only [Bool.and_eq_true, decide_eq_true_eq, List.any_cons, List.any_nil, Bool.or_eq_true, Bool.or_false] at h;refine ⟨h.1, ?_⟩;rcases h.2 with h | h | h | h | h | h <;> simp [h]
theorem capat_any : CtN 154 fun E g => jR E.P (jf E.P g) := by
 intro E g RA w s h;refine Br.go (m := jR E.P (jf E.P g)) h RA ?_;intro d T W R hW B Q hlr hN;have HROWC := at_r R.hd (cpats_any E g RA);have HRP := lh (fun aa w s h => croundPat_any E g RA w s aa h);rw [← R.hd] at HRP;clear h RA;unfold pr at HROWC HRP ⊢;go_enter Tryz.func154, Tryz.ntmps154
 obtain ⟨Q9, p9⟩ := Po9.ex Tryz.f154 E d w T (NdQ w);rw [p9.eq];go_upto_region 1 with fail
 clear hW;go_upto_region 2 with (go_at_call 102; refine B.now ?_; clear B; intro u1 B; have f2 := jA E.P s.i)
 clear f2;generalize hb : u1.heap.size = b4;generalize h : u1.alloc _ = V3;replace B := B.boxt h hb;clear h hb;have c5 := B.S.ct B.F.rb;go_upto_region 3 with fail
 clear c5;generalize hb : V3.heap.size = b7;generalize h : V3.alloc _ = V6;replace B := B.box h hb;clear h hb;go_upto_region 4 with (go_at_call 104; refine B.ask (vq E V6 _ s d [w_true, w_false, s_lp, s_lb, s_ti, s_us] _ 6 rfl rfl (by decide) B.F.R rfl) ?_; clear B; intro u8 B)
 generalize hb : kJ E.P [w_true, w_false, s_lp, s_lb, s_ti, s_us] s = b;have Hb := lh hb;clear hb
 by_cases hs : s.k = 0
 · have e0 : ((s.k : Int) != 0) = false := (by simp [hs]);have HS := lh hs;clear hs;have c9 := B.mv1.S.ct B.F.rb; have c10 := B.F.R.cells
   by_cases h1 : E.P.K s.i = 1
   · have e1 : (E.P.K s.i == 1) = true := (by simp [h1]);have H1 := lh h1;clear h1;replace Q : Qr T ((pure (.mk 22 (E.P.A s.i) ⟨#[]⟩ (E.P.N s.i) []) : M Ty)) (stp s) := ⟨by rw [Q.eq, je HS.out, je (s := (stp s)) HS.out]; exact apat_1 H1.out⟩;have c11 := B.F.R.cells;have c12 : s.i ≤ 100000 := Nat.le_trans B.F.R.le hN;go_upto_region 8 with fail
     clear c9 c10 c11 c12;generalize h : u8.setCell _ _ = X13;replace B := B.step (by rw [H1.out]; decide) h;clear h;have c14 := B.S.cs B.F.rb; have c15 := B.mv1.S.ct B.F.rb;go_upto_region 9 with fail
     clear c14 c15;generalize h : X13.setCell _ _ = X16;replace B := B.s0 h;clear h;have c17 := B.S.cs B.F.rb; have c18 := B.mv1.S.ct B.F.rb;go_upto_region 10 with fail
     clear c17 c18;generalize h : X16.setCell _ _ = X19;replace B := B.s3 h;clear h;have c20 := B.S.cs B.F.rb; have c21 := B.cr;go_wp2_with fail
     exact Br.fin (.mk 22 (E.P.A s.i) ⟨#[]⟩ (E.P.N s.i) []) B.nilk p9 Q.pr rfl rfl
   · have e1 : (E.P.K s.i == 1) = false := (by simp [h1]);have H1 := lh h1;clear h1
     by_cases h2 : E.P.K s.i = 2
     · have e2 : (E.P.K s.i == 2) = true := (by simp [h2]);have H2 := lh h2;clear h2;replace Q : Qr T ((pure (.mk 23 (E.P.A s.i) (E.P.T s.i) 0 []) : M Ty)) (stp s) := ⟨by rw [Q.eq, je HS.out, je (s := (stp s)) HS.out]; exact apat_2 H2.out⟩;have c22 := B.F.R.cells;have c23 : s.i ≤ 100000 := Nat.le_trans B.F.R.le hN;go_upto_region 13 with fail
       clear c9 c10 c22 c23;generalize h : u8.setCell _ _ = X24;replace B := B.step (by rw [H2.out]; decide) h;clear h;have c25 := B.S.cs B.F.rb; have c26 := B.mv1.S.ct B.F.rb;go_upto_region 14 with fail
       clear c25 c26;generalize h : X24.setCell _ _ = X27;replace B := B.s0 h;clear h;have c28 := B.S.cs B.F.rb; have c29 := B.mv1.S.ct B.F.rb;go_upto_region 15 with fail
       clear c28 c29;generalize h : X27.setCell _ _ = X30;replace B := B.s2 h;clear h;have c31 := B.S.cs B.F.rb; have c32 := B.cr;go_wp2_with fail
       exact Br.fin (.mk 23 (E.P.A s.i) (E.P.T s.i) 0 []) B.nilk p9 Q.pr rfl rfl
     · have e2 : (E.P.K s.i == 2) = false := (by simp [h2]);have H2 := lh h2;clear h2
       by_cases h3 : E.P.K s.i = 3
       · have e3 : (E.P.K s.i == 3) = true := (by simp [h3]);have H3 := lh h3;clear h3;replace Q : Qr T ((pure (.mk 21 (E.P.A s.i) (E.P.T s.i) 0 []) : M Ty)) (stp s) := ⟨by rw [Q.eq, je HS.out, je (s := (stp s)) HS.out]; exact apat_3 H3.out⟩;have c33 := B.F.R.cells;have c34 : s.i ≤ 100000 := Nat.le_trans B.F.R.le hN;go_upto_region 18 with fail
         clear c9 c10 c33 c34;generalize h : u8.setCell _ _ = X35;replace B := B.step (by rw [H3.out]; decide) h;clear h;have c36 := B.S.cs B.F.rb; have c37 := B.mv1.S.ct B.F.rb;go_upto_region 19 with fail
         clear c36 c37;generalize h : X35.setCell _ _ = X38;replace B := B.s0 h;clear h;have c39 := B.S.cs B.F.rb; have c40 := B.mv1.S.ct B.F.rb;go_upto_region 20 with fail
         clear c39 c40;generalize h : X38.setCell _ _ = X41;replace B := B.s2 h;clear h;have c42 := B.S.cs B.F.rb; have c43 := B.cr;go_wp2_with fail
         exact Br.fin (.mk 21 (E.P.A s.i) (E.P.T s.i) 0 []) B.nilk p9 Q.pr rfl rfl
       · have e3 : (E.P.K s.i == 3) = false := (by simp [h3]);have H3 := lh h3;clear h3
         by_cases h4 : E.P.K s.i = 4
         · have e4 : (E.P.K s.i == 4) = true := (by simp [h4]);have H4 := lh h4;clear h4;replace Q : Qr T ((ki E.P 4 >>= fun p => (ret (.mk 24 (E.P.A s.i) p.1 0 []) : M Ty))) s := ⟨by rw [Q.eq, je HS.out, je (s := s) HS.out]; exact apat_4 H4.out⟩;have c44 := B.S.cs B.F.rb; have c45 := B.mv1.S.ct B.F.rb;go_upto_region 23 with fail
           clear c9 c10 c44 c45;generalize h : u8.setCell _ _ = X46;replace B := B.s0 h;clear h;go_upto_region 24 with (go_at_call 152; refine B.pth Q (hpath4 E d) ?_; clear B Q; intro u47 p s48 _ B Q; have c49 := B.S.cs B.F.rb)
           clear c49;generalize h : u47.setCell _ _ = X50;replace B := B.s2 h;clear h;have c51 := B.S.cs B.F.rb; have c52 := B.cr;go_wp2_with fail
           exact Br.fin (.mk 24 (E.P.A s.i) p.1 0 []) B.nilk p9 Q.pr rfl rfl
         · have e4 : (E.P.K s.i == 4) = false := (by simp [h4]);have H4 := lh h4;clear h4
           cases b with
           | false =>
            have HN9 : Hid (jK E.P [w_true, w_false, s_lp, s_lb, s_ti, s_us] s.i = false) := lh (by have h := Hb.out; unfold kJ at h; rw [decide_eq_true HS.out, Bool.true_and] at h; exact h);replace Q : Qr T ((jE E.P 4 : M Ty)) s := ⟨by rw [Q.eq, je HS.out, je (s := s) HS.out]; exact apat_no H1.out H2.out H3.out H4.out HN9.out⟩;go_upto_region 26 with fail
            clear c9 c10;go_upto_region 27 with (go_at_call 103; have OR := lh B.F.R; refine B.no ?_; clear B; intro u53 v B)
            have c54 := B.S.cs B.F.rb; have c55 := B.cr;go_wp2_with fail
            exact Br.fin (.mk 0 (E.P.A s.i) ⟨#[]⟩ 0 []) B.nilk p9 (Q.tl (OR.out.no_rl (by decide) _)) rfl rfl
           | true =>
            have HON := lh (apat_one (kZ Hb.out).2);have HK := lh HON.out.1;have HK1 : Hid (1 ≤ E.P.K s.i) := lh (by have := HON.out.1; omega);rcases HON.out.2 with hx | hx | hx | hx | hx
            · skip
              have HTX := lh hx;clear hx;replace Q : Qr T ((pure (.mk 20 (E.P.A s.i) ⟨#[]⟩ 0 []) : M Ty)) (stp s) := ⟨by rw [Q.eq, je HS.out, je (s := (stp s)) HS.out]; exact apat_us HK.out HTX.out⟩;have xs_us : ((E.P.T s.i).toList == [95]) = true := (by rw [HTX.out, ByteArray.toList_eq]; decide);have ys_us : (E.P.T s.i).toList = [95] := (by rw [HTX.out, ByteArray.toList_eq]);have c56 := B.F.R.cells;have c57 : s.i ≤ 100000 := Nat.le_trans B.F.R.le hN;go_upto_region 29 with fail
              clear c9 c10 c56 c57;generalize h : u8.setCell _ _ = X58;replace B := B.step (HK1.out) h;clear h;have c59 := B.mv1.S.ct B.F.rb;go_upto_region 33 with fail
              clear c59;have c60 := B.S.cs B.F.rb; have c61 := B.mv1.S.ct B.F.rb;go_upto_region 46 with fail
              clear c60 c61;generalize h : X58.setCell _ _ = X62;replace B := B.s0 h;clear h;have c63 := B.S.cs B.F.rb; have c64 := B.cr;go_wp2_with fail
              exact Br.fin (.mk 20 (E.P.A s.i) ⟨#[]⟩ 0 []) B.nilk p9 Q.pr rfl rfl
            · skip
              have HTX := lh hx;clear hx;replace Q : Qr T ((jI E.P 1 >>= fun _ => (pure (.mk 22 (E.P.A s.i) ⟨#[]⟩ (-(E.P.N (stp s).i : Int)) []) : M Ty))) (stp s) := ⟨by rw [Q.eq, je HS.out, je (s := (stp s)) HS.out]; exact (apat_ti HK.out HTX.out).trans (kind_if E.P 1 (fun _ => (pure (.mk 22 (E.P.A s.i) ⟨#[]⟩ (-(E.P.N (stp s).i : Int)) []) : M Ty)) (stp s).i).symm⟩;have xs_us : ((E.P.T s.i).toList == [95]) = false := (by rw [HTX.out, ByteArray.toList_eq]; decide);have xs_ti : ((E.P.T s.i).toList == [126]) = true := (by rw [HTX.out, ByteArray.toList_eq]; decide);have ys_ti : (E.P.T s.i).toList = [126] := (by rw [HTX.out, ByteArray.toList_eq]);have c65 := B.F.R.cells;have c66 : s.i ≤ 100000 := Nat.le_trans B.F.R.le hN;go_upto_region 29 with fail
              clear c9 c10 c65 c66;generalize h : u8.setCell _ _ = X67;replace B := B.step (HK1.out) h;clear h;have c68 := B.mv1.S.ct B.F.rb;go_upto_region 35 with fail
              clear c68;have c69 := B.S.cs B.F.rb; have c70 := B.mv1.S.ct B.F.rb;go_upto_region 36 with fail
              clear c69 c70;generalize h : X67.setCell _ _ = X71;replace B := B.s0 h;clear h;have hN9 := num_le B.F.R.ok (stp s).i;go_upto_region 37 with (go_at_call 102; refine B.now ?_; clear B; intro u72 B; have f73 := jA E.P (stp s).i; have c74 := B.S.cs B.F.rb)
              clear f73 c74;generalize h : u72.setCell _ _ = X75;replace B := B.s3 h;clear h;go_upto_region 46 with (go_at_call 150; refine B.str Q (hget1 E d) ?_; clear B Q; intro u76 sn s77 B Q)
              have c78 := B.S.cs B.F.rb; have c79 := B.cr;go_wp2_with fail
              exact Br.fin (.mk 22 (E.P.A s.i) ⟨#[]⟩ (-(E.P.N (stp s).i : Int)) []) B.nilk p9 Q.pr rfl rfl
            · skip
              have HTX := lh hx;clear hx;replace Q : Qr T (kn E.P s_rb >>= fun e => if e = true then (pure (.mk 26 (E.P.A s.i) ⟨#[]⟩ 0 []) : M Ty) else (jZ E.P (jt E.P g .pat) s_com >>= fun l => jm E.P s_rb >>= fun _ => (pure (.mk 26 (E.P.A s.i) ⟨#[]⟩ 0 l) : M Ty))) (stp s) := ⟨by rw [Q.eq, je HS.out, je (s := (stp s)) HS.out]; exact apat_lb HK.out HTX.out⟩;have xs_us : ((E.P.T s.i).toList == [95]) = false := (by rw [HTX.out, ByteArray.toList_eq]; decide);have xs_ti : ((E.P.T s.i).toList == [126]) = false := (by rw [HTX.out, ByteArray.toList_eq]; decide);have xs_lb : ((E.P.T s.i).toList == [91]) = true := (by rw [HTX.out, ByteArray.toList_eq]; decide);have ys_lb : (E.P.T s.i).toList = [91] := (by rw [HTX.out, ByteArray.toList_eq]);have c80 := B.F.R.cells;have c81 : s.i ≤ 100000 := Nat.le_trans B.F.R.le hN;go_upto_region 29 with fail
              clear c9 c10 c80 c81;generalize h : u8.setCell _ _ = X82;replace B := B.step (HK1.out) h;clear h;have c83 := B.mv1.S.ct B.F.rb;go_upto_region 39 with fail
              clear c83;have c84 := B.S.cs B.F.rb; have c85 := B.mv1.S.ct B.F.rb;go_upto_region 40 with fail
              clear c84 c85;generalize h : X82.setCell _ _ = X86;replace B := B.s0 h;clear h;obtain ⟨b87, P⟩ := B.eatd (sg := s_rb) Q;clear B Q
              cases b87 with
              | true =>
               go_upto_region 46 with (go_at_call 153; refine P.t ?_; clear P; intro u88 B Q _)
               have c89 := B.S.cs B.F.rb; have c90 := B.cr;go_wp2_with fail
               exact Br.fin (.mk 26 (E.P.A s.i) ⟨#[]⟩ 0 []) B.nilk p9 Q.pr rfl rfl
              | false =>
               go_upto_region 42 with (go_at_call 153; refine P.f ?_; clear P; intro u91 B Q)
               go_upto_region 43 with (go_at_call 183; refine B.rw Q HROWC ?_; clear B Q; intro u92 l aol capl s93 LNl B Q; have c94 := B.mv1.S.cs B.F.rb)
               clear c94;generalize h : u92.setCell _ _ = X95;replace B := B.mv1.s4 h;clear h;go_upto_region 46 with (go_at_call 144; refine B.un Q (kg E d s_rb) ?_; clear B Q; intro u96 _ _ s97 B Q)
               have c98 := B.S.cs B.F.rb; have c99 := B.cr;go_wp2_with fail
               exact Br.fin (.mk 26 (E.P.A s.i) ⟨#[]⟩ 0 l) B.mv1.ko p9 Q.pr rfl rfl
            · skip
              have HTX := lh hx;clear hx;replace Q : Qr T (qa E.P (jf E.P g) (E.P.A s.i)) (stp s) := ⟨by rw [Q.eq, je HS.out, je (s := (stp s)) HS.out]; exact apat_lp HK.out HTX.out⟩;have xs_us : ((E.P.T s.i).toList == [95]) = false := (by rw [HTX.out, ByteArray.toList_eq]; decide);have xs_ti : ((E.P.T s.i).toList == [126]) = false := (by rw [HTX.out, ByteArray.toList_eq]; decide);have xs_lb : ((E.P.T s.i).toList == [91]) = false := (by rw [HTX.out, ByteArray.toList_eq]; decide);have xs_lp : ((E.P.T s.i).toList == [40]) = true := (by rw [HTX.out, ByteArray.toList_eq]; decide);have ys_lp : (E.P.T s.i).toList = [40] := (by rw [HTX.out, ByteArray.toList_eq]);have c100 := B.F.R.cells;have c101 : s.i ≤ 100000 := Nat.le_trans B.F.R.le hN;go_upto_region 29 with fail
              clear c9 c10 c100 c101;generalize h : u8.setCell _ _ = X102;replace B := B.step (HK1.out) h;clear h;have c103 := B.mv1.S.ct B.F.rb;go_upto_region 45 with fail
              go_wp2_with (go_at_call 184; refine B.ndt Q (lh (HRP.out (E.P.A s.i))) ?_; clear B Q; intro u104 p aop capp s105 B Q; have c106 := B.cr)
              exact Br.fin (p) B p9 Q rfl rfl
            · skip
              have HTX := lh hx;clear hx;replace Q : Qr T ((pure (.mk 24 (E.P.A s.i) (E.P.T s.i) 0 []) : M Ty)) (stp s) := ⟨by rw [Q.eq, je HS.out, je (s := (stp s)) HS.out]; exact apat_w HK.out HTX.out⟩;have xs_us : ((E.P.T s.i).toList == [95]) = false := by rcases HTX.out with h | h <;> rw [h, ByteArray.toList_eq] <;> decide
              have xs_ti : ((E.P.T s.i).toList == [126]) = false := by rcases HTX.out with h | h <;> rw [h, ByteArray.toList_eq] <;> decide
              have xs_lb : ((E.P.T s.i).toList == [91]) = false := by rcases HTX.out with h | h <;> rw [h, ByteArray.toList_eq] <;> decide
              have xs_lp : ((E.P.T s.i).toList == [40]) = false := by rcases HTX.out with h | h <;> rw [h, ByteArray.toList_eq] <;> decide
              have c107 := B.F.R.cells;have c108 : s.i ≤ 100000 := Nat.le_trans B.F.R.le hN;go_upto_region 29 with fail
              clear c9 c10 c107 c108;generalize h : u8.setCell _ _ = X109;replace B := B.step (HK1.out) h;clear h;have c110 := B.mv1.S.ct B.F.rb;go_upto_region 30 with fail
              clear c110;have c111 := B.S.cs B.F.rb; have c112 := B.mv1.S.ct B.F.rb;go_upto_region 31 with fail
              clear c111 c112;generalize h : X109.setCell _ _ = X113;replace B := B.s0 h;clear h;have c114 := B.S.cs B.F.rb; have c115 := B.mv1.S.ct B.F.rb;go_upto_region 46 with fail
              clear c114 c115;generalize h : X113.setCell _ _ = X116;replace B := B.s2 h;clear h;have c117 := B.S.cs B.F.rb; have c118 := B.cr;go_wp2_with fail
              exact Br.fin (.mk 24 (E.P.A s.i) (E.P.T s.i) 0 []) B.nilk p9 Q.pr rfl rfl
 · have e0 : ((s.k : Int) != 0) = true := (by simp [hs]);have HS := lh hs;clear hs;have c119 := B.F.R.cells;go_upto_region 5 with fail
   clear c119;have c120 := B.S.cs B.F.rb; have c121 := B.cr;go_wp2_with fail
   exact Br.fin (.mk 0 (E.P.A s.i) ⟨#[]⟩ 0 []) B.nilk p9 (Q.lost HS.out) rfl rfl
theorem cround_any (E : Env) (g : Nat) (RA : RAll E g) (w : World) (s : RS) (aa : Nat) (h : Rr E w s (60 - g)) : Calls Tryz.prog 219 #[pr E, .int .i64 (aa : Int)] w (RPost E (60 - g) w (rn (vX E.P (jf E.P g) aa) s) (NdQ w)) := by
 refine Br.go (m := (fun i => if isD E.P s_rp i = true then (pure (.mk 5 aa ⟨#[]⟩ 0 []) : M Ty) (i + 1) else (jt E.P g .exp >>= fun n => kn E.P s_com >>= fun c => if c = true then (jZ E.P (jt E.P g .exp) s_com >>= fun l => jm E.P s_rp >>= fun _ => (pure (.mk 5 aa ⟨#[]⟩ 0 (n :: l)) : M Ty)) else (kn E.P s_sem >>= fun h => if h = true then (jZ E.P (jt E.P g .exp) s_sem >>= fun l => jm E.P s_rp >>= fun _ => (pure (.mk 15 aa ⟨#[]⟩ 0 (n :: l)) : M Ty)) else (kn E.P s_col >>= fun h => if h = true then (jt E.P g .typ >>= fun t => jm E.P s_rp >>= fun _ => (pure (.mk 19 aa ⟨#[]⟩ 0 [n, t]) : M Ty)) else (jm E.P s_rp >>= fun _ => (pure n : M Ty))))) i)) h RA ?_;intro d T W R hW B Q hlr hN;have HROWC := at_r R.hd (fun w s => cexps_any E g RA w s s_com);have HROWS := at_r R.hd (fun w s => cexps_any E g RA w s s_sem);clear h RA;unfold pr at HROWC HROWS ⊢;go_enter Tryz.func219, Tryz.ntmps219
 obtain ⟨Q9, p9⟩ := Po9.ex Tryz.f219 E d w T (NdQ w);rw [p9.eq];go_upto_region 1 with fail
 clear hW;obtain ⟨b1, P⟩ := B.eat (sg := s_rp) Q;clear B Q
 cases b1 with
 | true =>
  go_wp2_with (first | (go_at_call 54; refine B.node ?_; clear B; intro u3 B; have c4 := B.cr) | (go_at_call 153; refine P.t ?_; clear P; intro u2 B Q _))
  exact Br.fin (.mk 5 aa ⟨#[]⟩ 0 []) B.nilk p9 Q.pr rfl rfl
 | false =>
  go_upto_region 4 with (go_at_call 153; refine P.f ?_; clear P; intro u5 B Q)
  go_upto_region 5 with (go_at_call 56; refine B.nd Q R.exp ?_; clear B Q; intro u6 n aon capn s7 _ B Q)
  generalize hb : u6.heap.size = b9;generalize h : u6.alloc _ = V8;replace B := B.box h hb;clear h hb;obtain ⟨b10, P⟩ := B.eatd (sg := s_com) Q;clear B Q
  cases b10 with
  | true =>
   go_upto_region 13 with (go_at_call 153; refine P.t ?_; clear P; intro u11 B Q _)
   go_upto_region 14 with (go_at_call 220; refine B.rw Q HROWC ?_; clear B Q; intro u12 l aol capl s13 LNl B Q)
   have c14 := B.mv1.S.cs B.F.rb;go_upto_region 15 with (first | (go_at_call 54; refine B.node ?_; clear B; intro u17 B; have c18 := B.mv1.S.cs B.F.rb) | (at_builtin; generalize h : u12.alloc _ = V15; replace B := B.mv2.mk1 rfl h; clear h; go_must (refine B.mv1.mv1.app rfl _ _ rfl rfl rfl (by have h1 := LNl.out; show 1 + _ ≤ _; omega) ?_); clear B; intro aoL capL L u16 ELL B))
   clear c14 c18;generalize h : ((((u17.setCell _ _).setCell _ _).setCell _ _).setCell _ _).setCell _ _ = X19;replace B := B.mv1.sn h;clear h;go_upto_region 22 with (go_at_call 144; refine B.un Q (kg E d s_rp) ?_; clear B Q; intro u20 _ _ s21 B Q)
   have c22 := B.S.cs B.F.rb; have c23 := B.cr;go_wp2_with fail
   exact Br.fin (.mk 5 aa ⟨#[]⟩ 0 L) B.mv1.ko p9 (by rw [ELL.out]; exact Q.pr) rfl rfl
  | false =>
   go_upto_region 9 with (go_at_call 153; refine P.f ?_; clear P; intro u24 B Q)
   obtain ⟨b25, P⟩ := B.eatd (sg := s_sem) Q;clear B Q
   cases b25 with
   | true =>
    go_upto_region 16 with (go_at_call 153; refine P.t ?_; clear P; intro u26 B Q _)
    go_upto_region 17 with (go_at_call 220; refine B.rw Q HROWS ?_; clear B Q; intro u27 l aol capl s28 LNl B Q)
    have c29 := B.mv1.S.cs B.F.rb;go_upto_region 21 with (first | (go_at_call 54; refine B.node ?_; clear B; intro u32 B; have c33 := B.mv1.S.cs B.F.rb) | (at_builtin; generalize h : u27.alloc _ = V30; replace B := B.mv2.mk1 rfl h; clear h; go_must (refine B.mv1.mv1.app rfl _ _ rfl rfl rfl (by have h1 := LNl.out; show 1 + _ ≤ _; omega) ?_); clear B; intro aoL capL L u31 ELL B))
    clear c29 c33;generalize h : ((((u32.setCell _ _).setCell _ _).setCell _ _).setCell _ _).setCell _ _ = X34;replace B := B.mv1.sn h;clear h;go_upto_region 22 with (go_at_call 144; refine B.un Q (kg E d s_rp) ?_; clear B Q; intro u35 _ _ s36 B Q)
    have c37 := B.S.cs B.F.rb; have c38 := B.cr;go_wp2_with fail
    exact Br.fin (.mk 15 aa ⟨#[]⟩ 0 L) B.mv1.ko p9 (by rw [ELL.out]; exact Q.pr) rfl rfl
   | false =>
    go_upto_region 11 with (go_at_call 153; refine P.f ?_; clear P; intro u39 B Q)
    obtain ⟨b40, P⟩ := B.eatd (sg := s_col) Q;clear B Q
    cases b40 with
    | true =>
     go_upto_region 19 with (go_at_call 153; refine P.t ?_; clear P; intro u41 B Q _)
     go_upto_region 20 with (go_at_call 58; refine B.nd Q R.typ ?_; clear B Q; intro u42 t aot capt s43 _ B Q)
     generalize hb : u42.heap.size = b45;generalize h : u42.alloc _ = V44;replace B := B.box h hb;clear h hb;have c46 := B.mv2.S.cs B.F.rb; have c47 := B.S.cs B.F.rb;go_upto_region 21 with (go_at_call 54; generalize h : V44.alloc _ = V48; replace B := B.mv1.mv3.mk2 rfl h; clear h; refine B.node ?_; clear B; intro u49 B; have c50 := B.mv2.S.cs B.F.rb)
     clear c46 c47 c50;generalize h : ((((u49.setCell _ _).setCell _ _).setCell _ _).setCell _ _).setCell _ _ = X51;replace B := B.mv2.sn h;clear h;go_upto_region 22 with (go_at_call 144; refine B.un Q (kg E d s_rp) ?_; clear B Q; intro u52 _ _ s53 B Q)
     have c54 := B.S.cs B.F.rb; have c55 := B.cr;go_wp2_with fail
     exact Br.fin (.mk 19 aa ⟨#[]⟩ 0 [n, t]) B.mv1.ko p9 Q.pr rfl rfl
    | false =>
     go_upto_region 22 with (first | (go_at_call 144; refine B.un Q (kg E d s_rp) ?_; clear B Q; intro u57 _ _ s58 B Q) | (go_at_call 153; refine P.f ?_; clear P; intro u56 B Q))
     have c59 := B.S.cs B.F.rb; have c60 := B.cr;go_wp2_with fail
     exact Br.fin (n) B.mv1 p9 Q.pr rfl rfl
theorem starts_mem {k : Nat} (hk : k < 3) : ∀ s ∈ jv k, s ∈ jv 0 := by
 obtain rfl | rfl | rfl : k = 0 ∨ k = 1 ∨ k = 2 := by omega
 · exact fun s h => h
 · intro s h;simp only [jv] at h ⊢;simp at h ⊢
   rcases h with h | h | h | h | h | h | h <;> simp [h]
 · intro s h;simp only [jv] at h ⊢;simp at h ⊢
   rcases h with h | h | h | h <;> simp [h]
theorem starts_sub {P : Src} {k i : Nat} (hk : k < 3) (h : jK P (jv k) i = true) : jK P (jv 0) i = true := by
 unfold jK at h ⊢;rw [Bool.and_eq_true] at h ⊢;refine ⟨h.1, ?_⟩;have h2 := h.2;rw [List.any_eq_true] at h2 ⊢;obtain ⟨s, hs, he⟩ := h2;exact ⟨s, starts_mem hk s hs, he⟩
def zeroTy : Ty := .mk 0 0 ⟨#[]⟩ 0 []
theorem many_lost {β : Type} {P : Src} {c : Nat → Bool} {item : M Ty} {K : List Ty → M β} {T : Res β} {l : List Ty} {m : M β} {s : RS} (h : T = rn m s) (hs : s.k ≠ 0) : ManyAt P c item K T l false s 0 :=
 ⟨by rw [if_neg Bool.false_ne_true, h, jq hs, jq hs], fun e => absurd e Bool.false_ne_true, fun e => absurd e hs⟩
theorem ManyAt.next {β : Type} {P : Src} {c : Nat → Bool} {item : M Ty} {K : List Ty → M β} {T : Res β} {l : List Ty} {s s1 : RS} {f : Nat} {x : Ty} (h : ManyAt P c item K T l true s f) (hr : Rl (rn item s) x s1) (hst : ∀ i x j, item i = .ok x j → i + 1 ≤ j) (hle : s1.i ≤ P.toks.length) : (∃ f, ManyAt P c item K T (l ++ [x]) (decide (s1.k = 0) && c s1.i) s1 f) ∧ (s1.k = 0 → s.i + 1 ≤ s1.i) := by
 obtain ⟨r1, r2, r3, r4⟩ := h.item hr hst;exact ⟨vP r1 r2 hle r3, r4⟩
theorem ManyAt.le {β : Type} {P : Src} {c : Nat → Bool} {item : M Ty} {K : List Ty → M β} {T : Res β} {l : List Ty} {s : RS} {f : Nat} {E : Env} {w : World} {d : Nat} (h : ManyAt P c item K T l true s f) (hr : Rr E w s d) : s.k = 0 ∧ l.length ≤ 100001 := by
 have h0 := (h.go rfl).1;have h1 := (h.fl h0).2;have h2 := hr.le;have h3 := hr.ok.len;exact ⟨h0, by omega⟩
theorem dec_call (E : Env) (g k : Nat) (RA : RAll E g) (hk : k < 3) (d : Nat) (hd : d = 60 - g) (hg : d < 60) (w : World) (s : RS) (h : Rr E w s (d + 1)) (hs : s.k = 0) (ho : jK E.P (jv k) s.i = true) : Calls Tryz.prog 107 #[.pointer (some ⟨E.rb, 0, none⟩)] w (RPost E (d + 1) w (rn (jt E.P g .dec) s) (NdQ w)) := by
 have h60 := RA.g60;subst hd;obtain ⟨g', rfl⟩ : ∃ g', g = g' + 1 := ⟨g - 1, by omega⟩
 have e : 60 - (g' + 1) + 1 = 60 - g' := by omega
 rw [e] at h ⊢;rw [kA];exact RA.dec g' rfl w s h hs (starts_sub hk ho)
theorem cdecs_any (E : Env) (g : Nat) (RA : RAll E g) (w0 : World) (s : RS) (k : Nat) (hk : k < 3) (h : Rr E w0 s (60 - g)) (hw : E.B < w0.heap.size) : Calls Tryz.prog 55 #[pr E, .int .i64 (k : Int)] w0 (RPost E (60 - g) w0 (rn (qm E.P (jf E.P g) k) s) (OwB w0)) := by
 have HST : Hid (∀ i x j, jt E.P g .dec i = .ok x j → i + 1 ≤ j) := lh (item_st _);rw [show rn (qm E.P (jf E.P g) k) s = rn (qg (jK E.P (jv k)) (jt E.P g .dec) (E.P.toks.length + 1) [] >>= fun l => (ret l : M (List Ty))) s from congrArg (fun m => rn m s) (vS (qm E.P (jf E.P g) k)).symm];refine Bs.go (m := qg (jK E.P (jv k)) (jt E.P g .dec) (E.P.toks.length + 1) [] >>= fun l => (ret l : M (List Ty))) h hw RA ?_;intro d T w R B Q hlr hN;have hd60 := show d ≤ 60 by have := R.hd; omega
 have HSTA := lh (fun w1 : World => rstarts_any k hk w1);have HONE := lh (fun w1 s h1 => rone_starts E w1 s d k h1);have HDEC := lh (fun w1 s h1 hl => dec_call E g k RA hk d R.hd hl w1 s h1);have HITF := lh (show ¬ d < 60 → jt E.P g .dec = jE E.P 5 from by intro hl; have h60 := RA.g60; have hd := R.hd; have e0 : g = 0 := (by omega); rw [e0]; rfl);clear h RA hk hw;generalize jt E.P g .dec = item at *
 unfold pr at HONE ⊢;generalize (jv k).length = L at *
 generalize ((jv k).map Value.string).toArray = CC at *
 go_enter Tryz.func55, Tryz.ntmps55
 obtain ⟨Q9, p9⟩ := Ps9.ex Tryz.f55 E d w0 T;rw [p9.eq];go_upto_region 3 with (first | (go_at_call 104; refine B.ask (HONE.out _ _ B.F.R) ?_; clear B; intro u1 B) | (go_at_call 105; refine (HSTA.out w0).mono ?_; rintro e wq ⟨rfl, rfl⟩))
 obtain ⟨f0, H⟩ := vP Q.eq (fun _ => by omega) B.F.R.le (fun _ => Nat.zero_le _);go_loopw [5, 6] (fun va vb wr => ∃ (l : List Ty) (ao : Option Addr) (cap : Nat) (b : Bool) (t : RS) (f : Nat), va = .slice ao l.length cap ∧ vb = .bool b ∧ ManyAt E.P (jK E.P (jv k)) item (fun l => (ret l : M (List Ty))) T l b t f ∧ Bs E w0 w d wr t [.ow (.slice ao l.length cap) l] ∧ l.length ≤ 200000) (fun _ _ wr => jY E.P.toks.length wr E.rb)
 case atStart => exact ⟨[], none, 0, _, _, f0, rfl, rfl, H, B.nilo, by simp⟩
 case round =>
  clear B H Q;obtain ⟨l, ao, cap, b, t, f, rfl, rfl, H, B, hln⟩ := hrel
  cases b with
  | false =>
   have Q : Qr T (ret l : M (List Ty)) t := ⟨H.done⟩;go_wp2_with fail
   rw [← p9.eq];go_ret
   exact B.fin Q.pr hln
  | true =>
   have R0 := lh B.F.R;have HG := lh (H.le R0.out);have HO := lh (H.go rfl).2
   by_cases h60 : d < 60
   · have H60 := lh h60;clear h60;go_upto_region 6 with (go_at_call 106; refine B.ent HG.out.1 H60.out ?_; clear B; intro u2 B)
     go_upto_region 7 with (go_at_call 107; refine B.ndc (HDEC.out _ _ B.F.R H60.out HG.out.1 HO.out) ?_; clear B; intro u3 e aoe cape s1 hl B; have HLe := lh hl; clear hl)
     generalize hb : u3.heap.size = b5;generalize h : u3.alloc _ = V4;replace B := B.box h hb;clear h hb;have c6 := B.S.cs B.F.rb;go_upto_region 8 with (at_builtin; generalize h : V4.alloc _ = V7; replace B := B.mv1.mk1 rfl h; clear h; go_must (refine B.mv2.app rfl _ _ rfl rfl rfl (by have := HG.out.2; simp; omega) ?_); clear B; intro aoL2 capL2 L2 u8 ELL2 B)
     clear c6;obtain ⟨⟨f2, H2⟩, h4⟩ := H.next HLe.out HST.out B.F.R.le;rw [← ELL2.out] at H2;have R4 := lh h4;clear H h4;go_upto_region 9 with (go_at_call 108; refine B.lea ?_; clear B; intro u9 _ B)
     go_wp2_with (first | (go_at_call 104; refine B.ask (HONE.out _ _ B.F.R) ?_; clear B; intro u10 B) | (go_at_call 105; refine (HSTA.out u9).mono ?_; rintro e wq ⟨rfl, rfl⟩))
     go_roundw
     case rel => exact ⟨L2, _, _, _, _, f2, rfl, rfl, H2, B.mv1.dr, by have := HG.out.2; rw [ELL2.out, List.length_append]; simp; omega⟩
     case measure => exact jP R0.out B.F.R HG.out.1 (fun h0 => ⟨h0, Nat.le_refl _⟩) R4.out
   · have H60 := lh h60;clear h60;go_upto_region 8 with (go_at_call 106; refine B.eno hd60 H60.out ?_; clear B; intro u11 B)
     have NB : Hid ((noS E.P 5 t).k ≠ 0) := lh (R0.out.no_bad (by decide))
     have H2 : ManyAt E.P (jK E.P (jv k)) item (fun l => (ret l : M (List Ty))) T l (kJ E.P (jv k) (noS E.P 5 t)) (noS E.P 5 t) 0 := by
      have e1 : kJ E.P (jv k) (noS E.P 5 t) = false := (by unfold kJ; rw [decide_eq_false NB.out, Bool.false_and]);have h1 := R0.out.no_rl (e := 5) (by decide) zeroTy;rw [← HITF.out H60.out] at h1;rw [e1];exact many_lost (H.item h1 HST.out).1 NB.out
     clear H;go_upto_region 9 with (go_at_call 108; refine B.lea ?_; clear B; intro u12 _ B)
     go_wp2_with (first | (go_at_call 104; refine B.ask (HONE.out _ _ B.F.R) ?_; clear B; intro u13 B) | (go_at_call 105; refine (HSTA.out u12).mono ?_; rintro e wq ⟨rfl, rfl⟩))
     go_roundw
     case rel => exact ⟨l, ao, cap, _, _, 0, rfl, rfl, H2, B, hln⟩
     case measure => exact jP R0.out B.F.R HG.out.1 (fun h0 => absurd h0 NB.out) (s1 := ⟨0, 1, 0⟩) (fun h0 => absurd h0 (by decide))
end Go.Proofs.YthehjeeiodbkjaaGreatDoor
