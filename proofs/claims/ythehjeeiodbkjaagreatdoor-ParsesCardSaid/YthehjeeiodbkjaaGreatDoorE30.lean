/-
  Proved: the contract of the document's named; the contract of the document's arrow. Conditions: the reader as it stands in memory; what it reads within.
-/
import Derived.Test.YthehjeeiodbkjaaGreatDoorE26
set_option linter.unusedSimpArgs false
set_option linter.unusedVariables false
set_option maxRecDepth 100000
set_option maxHeartbeats 16000000
namespace Go.Proofs.YthehjeeiodbkjaaGreatDoor
open Go.RowKit
theorem rl_step {α : Type} {m : M α} {s s1 : RS} {x : α} (hst : ∀ i x j, m i = .ok x j → i + 1 ≤ j) (hs : s.k = 0) (h : Rl (rn m s) x s1) : s1.k = 0 → s.i + 1 ≤ s1.i := fun h0 => hst _ _ _ ((rn_good hs).symm.trans (h.1 h0))
theorem rappL_at (P : Src) (a f : Nat) (l : List Ty) (i : Nat) : appL P a (f + 1) l i = if l.length ≠ 1 ∨ P.K i = 3 ∨ P.K i = 4 then (pathD P 3 >>= fun p => appL P a f [.mk 31 a p.1 0 l]) i else .ok (l.headD default) i := rfl
theorem named_eq (E : Env) (g : Nat) (s : RS) : rn (appliedB E.P (recS E.P g)) s = rn (fun i => if isD E.P s_lp i = true then (rowD E.P (readS E.P g .typ) s_com >>= (fun l : List Ty => mustD E.P s_rp >>= fun _ => appL E.P (E.P.A s.i) (E.P.toks.length + 1) l)) (i + 1) else (fun i => if E.P.K i = 5 then appL E.P (E.P.A s.i) (E.P.toks.length + 1) [.mk 30 (E.P.A s.i) (E.P.T s.i) 0 []] (i + 1) else appL E.P (E.P.A s.i) (E.P.toks.length + 1) [] i : M Ty) i) s := by
 by_cases hs : s.k = 0
 · rw [rn_good hs, rn_good hs]
   unfold appliedB
   by_cases h5 : E.P.K s.i = 5
   · have h9 : ¬ isD E.P s_lp s.i = true := fun h => by have := (isD_at h).1; omega
     rw [if_pos h5, if_neg h9]
     exact (if_pos h5).symm
   · rw [if_neg h5]
     by_cases h : isD E.P s_lp s.i = true
     · rw [if_pos h, if_pos h]; rfl
     · rw [if_neg h, if_neg h]
       exact (if_neg h5).symm
 · rw [rn_lost hs, rn_lost hs]
theorem cnamed_any : CtN 157 fun E g => appliedB E.P (recS E.P g) := by
 intro E g RA w s h
 have HSP : Hid (∀ i x j, pathD E.P 3 i = .ok x j → i + 1 ≤ j) := lh (st_path E.P 3)
 have HST : Hid (∀ i x j, readS E.P g .typ i = .ok x j → i + 1 ≤ j) := lh (item_st _)
 rw [show rn (appliedB E.P (recS E.P g)) s = rn ((fun i => if isD E.P s_lp i = true then (rowD E.P (readS E.P g .typ) s_com >>= (fun l : List Ty => mustD E.P s_rp >>= fun _ => appL E.P (E.P.A s.i) (E.P.toks.length + 1) l)) (i + 1) else (fun i => if E.P.K i = 5 then appL E.P (E.P.A s.i) (E.P.toks.length + 1) [.mk 30 (E.P.A s.i) (E.P.T s.i) 0 []] (i + 1) else appL E.P (E.P.A s.i) (E.P.toks.length + 1) [] i : M Ty) i)) s from named_eq E g s]
 refine Br.go (m := (fun i => if isD E.P s_lp i = true then (rowD E.P (readS E.P g .typ) s_com >>= (fun l : List Ty => mustD E.P s_rp >>= fun _ => appL E.P (E.P.A s.i) (E.P.toks.length + 1) l)) (i + 1) else (fun i => if E.P.K i = 5 then appL E.P (E.P.A s.i) (E.P.toks.length + 1) [.mk 30 (E.P.A s.i) (E.P.T s.i) 0 []] (i + 1) else appL E.P (E.P.A s.i) (E.P.toks.length + 1) [] i : M Ty) i)) h RA ?_
 intro d T W R hW B Q hlr hN
 clear h RA
 unfold pr
 go_enter Tryz.func157, Tryz.ntmps157
 obtain ⟨Q9, p9⟩ := Po9.ex Tryz.f157 E d w T (NdQ w)
 rw [p9.eq]
 go_upto_region 1 with fail
 clear hW
 go_upto_region 2 with (go_at_call 102; refine B.now ?_; clear B; intro u1 B; have f2 := tk_fields E.P s.i)
 clear f2
 generalize hb : u1.heap.size = b4
 generalize h : u1.alloc _ = V3
 replace B := B.boxt h hb
 clear h hb
 obtain ⟨N, hNN⟩ : ∃ N, N = E.P.toks.length := ⟨_, rfl⟩
 have HNN := lh hNN
 rw [← hNN] at hN
 clear hNN
 go_upto_region 3 with fail
 obtain ⟨b5, P⟩ := B.eat (sg := s_lp) Q
 clear B Q
 cases b5 with
 | true =>
  go_upto_block 0 with (go_at_call 153; refine P.t ?_; clear P; intro u6 B Q _)
  go_cut [4] from 5 to 62 (fun v wx => ∃ (l : List Ty) (u : RS) (ao : Option Addr) (cap : Nat), v = .slice ao l.length cap ∧ Qr T (appL E.P (E.P.A s.i) (E.P.toks.length + 1) l) u ∧ l.length ≤ 300000 ∧ Br E w d wx u [.kd l ao cap, .tv b4 (.int .i64 (E.P.K s.i)) (.int .i64 (E.P.A s.i : Int)) (.string (E.P.T s.i)) (.int .i64 (E.P.N s.i : Int))])
  case first =>
   go_upto_region 5 with fail
   go_upto_region 6 with (go_at_call 58; refine B.ndx R.typ ?_; clear B; intro u7 a aoa capa s8 hl B; have HLa := lh hl; clear hl)
   generalize hb : u7.heap.size = b10
   generalize h : u7.alloc _ = V9
   replace B := B.box h hb
   clear h hb
   replace B := B.nilo
   have c11 := B.mv1.S.cs B.F.rb
   go_upto_region 7 with (at_builtin; generalize h : V9.alloc _ = V12; replace B := B.mv2.mk1 rfl h; clear h; go_must (refine B.mv1.app rfl _ _ rfl rfl rfl (by simp) ?_); clear B; intro aoL capL L u13 ELL B)
   clear c11
   obtain ⟨f0, H⟩ := sep_first Q HLa.out HST.out B.F.R.le
   replace B := B.mv1.dr
   go_upto_region 8 with (go_at_call 153; refine B.eatg s_com ?_; clear B; intro u14 B)
   go_loopw [4, 7] (fun va vb wr => ∃ (l : List Ty) (ao : Option Addr) (cap : Nat) (b : Bool) (t : RS) (f : Nat), va = .slice ao l.length cap ∧ vb = .bool b ∧ SepAt E.P (readS E.P g .typ) s_com (fun l : List Ty => mustD E.P s_rp >>= fun _ => appL E.P (E.P.A s.i) (E.P.toks.length + 1) l) T l b t f ∧ Br E w d wr t [.ow (.slice ao l.length cap) l, .tv b4 (.int .i64 (E.P.K s.i)) (.int .i64 (E.P.A s.i : Int)) (.string (E.P.T s.i)) (.int .i64 (E.P.N s.i : Int))] ∧ l.length ≤ 200000) (fun _ _ wr => leftOf E.P.toks.length wr E.rb)
   case atStart => exact ⟨L, _, _, _, _, f0, rfl, rfl, by rw [ELL.out]; exact H, B, by rw [ELL.out]; simp⟩
   case round =>
    clear H B Q
    obtain ⟨l, ao, cap, b, t, f, rfl, rfl, H, B, hln⟩ := hrel
    cases b with
    | false =>
     have Q := H.end
     go_wp2_with (go_at_call 144; refine B.un Q (hmust E d s_rp) ?_; clear B Q; intro u15 _ _ s16 B Q)
     go_meet
     exact ⟨l, _, ao, cap, rfl, Q, Nat.le_trans hln (by decide), B.ko⟩
    | true =>
     have R0 := lh B.F.R
     have HG := lh (show t.k = 0 ∧ l.length ≤ 100000 from H.le R0.out)
     go_upto_region 10 with (go_at_call 58; refine B.ndx R.typ ?_; clear B; intro u17 e aoe cape s18 hl B; have HLe := lh hl; clear hl)
     generalize hb : u17.heap.size = b20
     generalize h : u17.alloc _ = V19
     replace B := B.box h hb
     clear h hb
     have c21 := B.S.cs B.F.rb
     go_upto_region 11 with (at_builtin; generalize h : V19.alloc _ = V22; replace B := B.mv1.mk1 rfl h; clear h; go_must (refine B.mv2.app rfl _ _ rfl rfl rfl (by have := HG.out.2; simp; omega) ?_); clear B; intro aoL2 capL2 L2 u23 ELL2 B)
     clear c21
     obtain ⟨⟨f2, H2⟩, h4⟩ := H.next HLe.out HST.out B.F.R.le
     rw [← ELL2.out] at H2
     have R4 := lh h4
     clear H h4
     replace B := B.mv1.dr
     go_wp2_with (go_at_call 153; refine B.eatg s_com ?_; clear B; intro u24 B)
     go_roundw
     case rel => exact ⟨L2, _, _, _, _, f2, rfl, rfl, H2, B, by have := HG.out.2; rw [ELL2.out, List.length_append]; simp; omega⟩
     case measure => exact left_less R0.out B.F.R HG.out.1 eat_after R4.out
  case rest =>
  obtain ⟨l, u, ao, cap, rfl, Q, hl, B⟩ := hcut
  go_wp2_with fail
  go_loopw [4] (fun v wr => ∃ (l : List Ty) (u : RS) (f : Nat) (ao : Option Addr) (cap : Nat), v = .slice ao l.length cap ∧ Qr T (appL E.P (E.P.A s.i) f l) u ∧ (u.k = 0 → N < u.i + f) ∧ l.length ≤ 300000 ∧ Br E w d wr u [.kd l ao cap, .tv b4 (.int .i64 (E.P.K s.i)) (.int .i64 (E.P.A s.i : Int)) (.string (E.P.T s.i)) (.int .i64 (E.P.N s.i : Int))]) (fun _ wr => leftOf E.P.toks.length wr E.rb)
  case atStart => exact ⟨l, u, E.P.toks.length + 1, ao, cap, rfl, Q, fun _ => by rw [HNN.out]; omega, hl, B⟩
  case round =>
   clear Q B hl
   obtain ⟨l, u, f, ao, cap, rfl, Q, hf, hl, B⟩ := hrel
   have HLL := lh hl
   have HFL := lh hf
   have R0 := lh B.F.R
   clear hl hf
   obtain ⟨q, hq⟩ : ∃ q, q = (decide (u.k = 0) && decide (l.length ≠ 1 ∨ E.P.K u.i = 3 ∨ E.P.K u.i = 4)) := ⟨_, rfl⟩
   have HQC := lh hq
   clear hq
   go_upto_region 16 with fail
   go_cut [84] from 62 to 96 (fun v wx => v = .bool q ∧ Br E w d wx u [.kd l ao cap, .tv b4 (.int .i64 (E.P.K s.i)) (.int .i64 (E.P.A s.i : Int)) (.string (E.P.T s.i)) (.int .i64 (E.P.N s.i : Int))])
   case first =>
    have cd := B.F.R.cells
    by_cases hs : u.k = 0
    · have ehs : ((u.k : Int) == 0) = true := by simp [hs]
      have Hhs := lh hs
      clear hs
      by_cases h1 : l.length = 1
      · have e1 : ((l.length : Int) != 1) = false := by simp; omega
        have H1 := lh h1
        clear h1
        by_cases h3 : E.P.K u.i = 3
        · have eh3 : (E.P.K u.i == 3) = true := by simp [h3]
          have Hh3 := lh h3
          clear h3
          go_wp2_with (go_at_call 102; refine B.now ?_; clear B; intro u25 B; have f26 := tk_fields E.P u.i)
          go_meet
          exact ⟨by rw [HQC.out]; simp [Hh3.out, Hhs.out], B⟩
        · have eh3 : (E.P.K u.i == 3) = false := by simp [h3]
          have Hh3 := lh h3
          clear h3
          by_cases h4 : E.P.K u.i = 4
          · have eh4 : (E.P.K u.i == 4) = true := by simp [h4]
            have Hh4 := lh h4
            clear h4
            go_wp2_with (first | (go_at_call 102; refine B.now ?_; clear B; intro u29 B; have f30 := tk_fields E.P u.i) | (go_at_call 102; refine B.now ?_; clear B; intro u27 B; have f28 := tk_fields E.P u.i))
            go_meet
            exact ⟨by rw [HQC.out]; simp [Hh4.out, Hhs.out], B⟩
          · have eh4 : (E.P.K u.i == 4) = false := by simp [h4]
            have Hh4 := lh h4
            clear h4
            go_wp2_with (first | (go_at_call 102; refine B.now ?_; clear B; intro u33 B; have f34 := tk_fields E.P u.i) | (go_at_call 102; refine B.now ?_; clear B; intro u31 B; have f32 := tk_fields E.P u.i))
            go_meet
            exact ⟨by rw [HQC.out]; simp [H1.out, Hh3.out, Hh4.out], B⟩
      · have e1 : ((l.length : Int) != 1) = true := by simp; omega
        have H1 := lh h1
        clear h1
        go_wp2_with fail
        go_meet
        exact ⟨by rw [HQC.out]; simp [H1.out, Hhs.out], B⟩
    · have ehs : ((u.k : Int) == 0) = false := by simp [hs]
      have Hhs := lh hs
      clear hs
      go_wp2_with fail
      go_meet
      exact ⟨by rw [HQC.out]; simp [Hhs.out], B⟩
   case rest =>
   replace B := hcut.2
   obtain ⟨rfl, -⟩ := hcut
   cases q with
   | true =>
    have hq := HQC.out.symm
    simp only [Bool.and_eq_true, decide_eq_true_eq] at hq
    obtain ⟨hs, hc⟩ := hq
    obtain ⟨f, rfl⟩ : ∃ f', f = f' + 1 := ⟨f - 1, by have h1 := HFL.out hs; have h2 := B.F.R.le; rw [← HNN.out] at h2; omega⟩
    replace Q : Qr T (pathD E.P 3 >>= fun p => appL E.P (E.P.A s.i) f [.mk 31 (E.P.A s.i) p.1 0 l]) u := ⟨by rw [Q.eq, rn_good hs, rn_good hs, rappL_at, if_pos hc]⟩
    have HGO := lh hs
    clear hs hc
    have c35 := B.mv1.S.ct B.F.rb
    go_upto_region 18 with (go_at_call 54; refine B.node ?_; clear B; intro u36 B)
    clear c35
    generalize hb : u36.heap.size = b38
    generalize h : u36.alloc _ = V37
    replace B := B.box h hb
    clear h hb
    go_upto_region 19 with (go_at_call 152; refine B.pth Q (hpath3 E d) ?_; clear B Q; intro u39 p s40 hl B Q; have LNp := lh (rl_step HSP.out HGO.out hl); clear hl; have c41 := B.S.cs B.F.rb)
    clear c41
    generalize hz : u39.heap.size = z42
    generalize h : u39.setCell _ _ = X43
    replace B := B.s2 h
    replace hz := size_set h hz
    clear h
    have c44 := B.S.cs B.F.rb
    go_wp2_with fail
    clear c44
    replace B := B.dr
    generalize h : X43.alloc _ = V45
    replace B := B.mkl hz h
    clear h
    clear hz
    go_roundw
    case rel => exact ⟨[.mk 31 (E.P.A s.i) p.1 0 l], s40, f, _, 1, rfl, Q, fun h0 => by have h1 := LNp.out h0; have h2 := HFL.out HGO.out; omega, by simp, B.ko⟩
    case measure => exact left_less R0.out B.F.R HGO.out (fun h0 => ⟨h0, Nat.le_refl _⟩) LNp.out
   | false =>
    have HR1 : Hid (u.k = 0 → l.length = 1 ∧ T = .ok (l.headD default) u.i) := lh (fun hs => by
     have hq := HQC.out.symm
     rw [decide_eq_true hs, Bool.true_and] at hq
     have hc := of_decide_eq_false hq
     obtain ⟨f, rfl⟩ : ∃ f', f = f' + 1 := ⟨f - 1, by have h1 := HFL.out hs; have h2 := B.F.R.le; rw [← HNN.out] at h2; omega⟩
     refine ⟨Decidable.byContradiction fun h => hc (.inl h), ?_⟩
     rw [Q.eq, rn_good hs, rappL_at, if_neg hc])
    have HR2 : Hid (u.k ≠ 0 → T = .bad u.k u.a) := lh (fun hs => by rw [Q.eq, rn_lost hs])
    clear Q
    by_cases hl1 : l.length = 1
    · have e1 : ((l.length : Int) != 1) = false := by simp; omega
      obtain ⟨x, rfl⟩ : ∃ x, l = [x] := List.length_eq_one_iff.1 hl1
      have HR3 : Hid (Rl T x u) := lh ⟨fun hs => (HR1.out hs).2, HR2.out⟩
      obtain ⟨b9, p9_, a9, c9, t1, cx, B⟩ := B.arg
      have hl9 : ((([x] : List Ty).length : Nat) : Int) = 1 := rfl
      clear hl1
      have c46 := B.cr
      go_wp2_with fail
      exact Br.fin (x) B p9 HR3.out rfl rfl
    · have e1 : ((l.length : Int) != 1) = true := by simp; omega
      have HR3 : Hid (Rl T (Ty.mk 0 0 ⟨#[]⟩ 0 []) u) := lh ⟨fun hs => absurd (HR1.out hs).1 hl1, HR2.out⟩
      clear hl1
      have c47 := B.cr
      go_wp2_with fail
      exact Br.fin (.mk 0 0 ⟨#[]⟩ 0 []) B.nilk p9 HR3.out rfl rfl
 | false =>
  go_upto_block 0 with (go_at_call 153; refine P.f ?_; clear P; intro u48 B Q)
  go_cut [4] from 5 to 62 (fun v wx => ∃ (l : List Ty) (u : RS) (ao : Option Addr) (cap : Nat), v = .slice ao l.length cap ∧ Qr T (appL E.P (E.P.A s.i) (E.P.toks.length + 1) l) u ∧ l.length ≤ 300000 ∧ Br E w d wx u [.kd l ao cap, .tv b4 (.int .i64 (E.P.K s.i)) (.int .i64 (E.P.A s.i : Int)) (.string (E.P.T s.i)) (.int .i64 (E.P.N s.i : Int))])
  case first =>
   have c49 := B.S.ct B.F.rb; have c50 := B.F.R.cells
   by_cases h5 : E.P.K s.i = 5
   · have e5 : (E.P.K s.i == 5) = true := by simp [h5]
     have H5 := lh h5
     clear h5
     by_cases hs : s.k = 0
     · have e0 : ((s.k : Int) == 0) = true := by simp [hs]
       replace Q : Qr T (appL E.P (E.P.A s.i) (E.P.toks.length + 1) [.mk 30 (E.P.A s.i) (E.P.T s.i) 0 []]) (stp s) := ⟨by rw [Q.eq, rn_good hs, rn_good (s := stp s) hs]; exact if_pos H5.out⟩
       clear hs
       go_upto_region 14 with fail
       have bi9 : s.i ≤ 100000 := Nat.le_trans B.F.R.le (by rw [← HNN.out]; exact hN)
       go_upto_region 15 with fail
       clear c49 c50 bi9
       generalize h : u48.setCell _ _ = X51
       replace B := B.step (by rw [H5.out]; decide) h
       clear h
       replace B := B.nilo
       have c52 := B.mv1.S.ct B.F.rb
       go_wp2_with (at_builtin; generalize h : X51.alloc _ = V53; replace B := B.nilk.mkl rfl h; clear h; go_must (refine B.mv1.app rfl _ _ rfl rfl rfl (by simp) ?_); clear B; intro aoL capL L u54 ELL B)
       go_meet
       exact ⟨L, _, aoL, capL, rfl, by rw [ELL.out]; exact Q, by rw [ELL.out]; simp, B.ko⟩
     · have e0 : ((s.k : Int) == 0) = false := by simp [hs]
       replace Q : Qr T (appL E.P (E.P.A s.i) (E.P.toks.length + 1) []) s := ⟨by rw [Q.eq, rn_lost hs, rn_lost hs]⟩
       clear hs
       go_wp2_with fail
       go_meet
       exact ⟨[], _, none, 0, rfl, Q, by simp, B.nilk⟩
   · have e5 : (E.P.K s.i == 5) = false := by simp [h5]
     replace Q : Qr T (appL E.P (E.P.A s.i) (E.P.toks.length + 1) []) s := ⟨by
      rw [Q.eq]
      by_cases hs : s.k = 0
      · rw [rn_good hs, rn_good hs]; exact if_neg h5
      · rw [rn_lost hs, rn_lost hs]⟩
     clear h5
     go_wp2_with fail
     go_meet
     exact ⟨[], _, none, 0, rfl, Q, by simp, B.nilk⟩
  case rest =>
  obtain ⟨l, u, ao, cap, rfl, Q, hl, B⟩ := hcut
  go_wp2_with fail
  go_loopw [4] (fun v wr => ∃ (l : List Ty) (u : RS) (f : Nat) (ao : Option Addr) (cap : Nat), v = .slice ao l.length cap ∧ Qr T (appL E.P (E.P.A s.i) f l) u ∧ (u.k = 0 → N < u.i + f) ∧ l.length ≤ 300000 ∧ Br E w d wr u [.kd l ao cap, .tv b4 (.int .i64 (E.P.K s.i)) (.int .i64 (E.P.A s.i : Int)) (.string (E.P.T s.i)) (.int .i64 (E.P.N s.i : Int))]) (fun _ wr => leftOf E.P.toks.length wr E.rb)
  case atStart => exact ⟨l, u, E.P.toks.length + 1, ao, cap, rfl, Q, fun _ => by rw [HNN.out]; omega, hl, B⟩
  case round =>
   clear Q B hl
   obtain ⟨l, u, f, ao, cap, rfl, Q, hf, hl, B⟩ := hrel
   have HLL := lh hl
   have HFL := lh hf
   have R0 := lh B.F.R
   clear hl hf
   obtain ⟨q, hq⟩ : ∃ q, q = (decide (u.k = 0) && decide (l.length ≠ 1 ∨ E.P.K u.i = 3 ∨ E.P.K u.i = 4)) := ⟨_, rfl⟩
   have HQC := lh hq
   clear hq
   go_upto_region 16 with fail
   go_cut [84] from 62 to 96 (fun v wx => v = .bool q ∧ Br E w d wx u [.kd l ao cap, .tv b4 (.int .i64 (E.P.K s.i)) (.int .i64 (E.P.A s.i : Int)) (.string (E.P.T s.i)) (.int .i64 (E.P.N s.i : Int))])
   case first =>
    have cd := B.F.R.cells
    by_cases hs : u.k = 0
    · have ehs : ((u.k : Int) == 0) = true := by simp [hs]
      have Hhs := lh hs
      clear hs
      by_cases h1 : l.length = 1
      · have e1 : ((l.length : Int) != 1) = false := by simp; omega
        have H1 := lh h1
        clear h1
        by_cases h3 : E.P.K u.i = 3
        · have eh3 : (E.P.K u.i == 3) = true := by simp [h3]
          have Hh3 := lh h3
          clear h3
          go_wp2_with (go_at_call 102; refine B.now ?_; clear B; intro u55 B; have f56 := tk_fields E.P u.i)
          go_meet
          exact ⟨by rw [HQC.out]; simp [Hh3.out, Hhs.out], B⟩
        · have eh3 : (E.P.K u.i == 3) = false := by simp [h3]
          have Hh3 := lh h3
          clear h3
          by_cases h4 : E.P.K u.i = 4
          · have eh4 : (E.P.K u.i == 4) = true := by simp [h4]
            have Hh4 := lh h4
            clear h4
            go_wp2_with (first | (go_at_call 102; refine B.now ?_; clear B; intro u59 B; have f60 := tk_fields E.P u.i) | (go_at_call 102; refine B.now ?_; clear B; intro u57 B; have f58 := tk_fields E.P u.i))
            go_meet
            exact ⟨by rw [HQC.out]; simp [Hh4.out, Hhs.out], B⟩
          · have eh4 : (E.P.K u.i == 4) = false := by simp [h4]
            have Hh4 := lh h4
            clear h4
            go_wp2_with (first | (go_at_call 102; refine B.now ?_; clear B; intro u63 B; have f64 := tk_fields E.P u.i) | (go_at_call 102; refine B.now ?_; clear B; intro u61 B; have f62 := tk_fields E.P u.i))
            go_meet
            exact ⟨by rw [HQC.out]; simp [H1.out, Hh3.out, Hh4.out], B⟩
      · have e1 : ((l.length : Int) != 1) = true := by simp; omega
        have H1 := lh h1
        clear h1
        go_wp2_with fail
        go_meet
        exact ⟨by rw [HQC.out]; simp [H1.out, Hhs.out], B⟩
    · have ehs : ((u.k : Int) == 0) = false := by simp [hs]
      have Hhs := lh hs
      clear hs
      go_wp2_with fail
      go_meet
      exact ⟨by rw [HQC.out]; simp [Hhs.out], B⟩
   case rest =>
   replace B := hcut.2
   obtain ⟨rfl, -⟩ := hcut
   cases q with
   | true =>
    have hq := HQC.out.symm
    simp only [Bool.and_eq_true, decide_eq_true_eq] at hq
    obtain ⟨hs, hc⟩ := hq
    obtain ⟨f, rfl⟩ : ∃ f', f = f' + 1 := ⟨f - 1, by have h1 := HFL.out hs; have h2 := B.F.R.le; rw [← HNN.out] at h2; omega⟩
    replace Q : Qr T (pathD E.P 3 >>= fun p => appL E.P (E.P.A s.i) f [.mk 31 (E.P.A s.i) p.1 0 l]) u := ⟨by rw [Q.eq, rn_good hs, rn_good hs, rappL_at, if_pos hc]⟩
    have HGO := lh hs
    clear hs hc
    have c65 := B.mv1.S.ct B.F.rb
    go_upto_region 18 with (go_at_call 54; refine B.node ?_; clear B; intro u66 B)
    clear c65
    generalize hb : u66.heap.size = b68
    generalize h : u66.alloc _ = V67
    replace B := B.box h hb
    clear h hb
    go_upto_region 19 with (go_at_call 152; refine B.pth Q (hpath3 E d) ?_; clear B Q; intro u69 p s70 hl B Q; have LNp := lh (rl_step HSP.out HGO.out hl); clear hl; have c71 := B.S.cs B.F.rb)
    clear c71
    generalize hz : u69.heap.size = z72
    generalize h : u69.setCell _ _ = X73
    replace B := B.s2 h
    replace hz := size_set h hz
    clear h
    have c74 := B.S.cs B.F.rb
    go_wp2_with fail
    clear c74
    replace B := B.dr
    generalize h : X73.alloc _ = V75
    replace B := B.mkl hz h
    clear h
    clear hz
    go_roundw
    case rel => exact ⟨[.mk 31 (E.P.A s.i) p.1 0 l], s70, f, _, 1, rfl, Q, fun h0 => by have h1 := LNp.out h0; have h2 := HFL.out HGO.out; omega, by simp, B.ko⟩
    case measure => exact left_less R0.out B.F.R HGO.out (fun h0 => ⟨h0, Nat.le_refl _⟩) LNp.out
   | false =>
    have HR1 : Hid (u.k = 0 → l.length = 1 ∧ T = .ok (l.headD default) u.i) := lh (fun hs => by
     have hq := HQC.out.symm
     rw [decide_eq_true hs, Bool.true_and] at hq
     have hc := of_decide_eq_false hq
     obtain ⟨f, rfl⟩ : ∃ f', f = f' + 1 := ⟨f - 1, by have h1 := HFL.out hs; have h2 := B.F.R.le; rw [← HNN.out] at h2; omega⟩
     refine ⟨Decidable.byContradiction fun h => hc (.inl h), ?_⟩
     rw [Q.eq, rn_good hs, rappL_at, if_neg hc])
    have HR2 : Hid (u.k ≠ 0 → T = .bad u.k u.a) := lh (fun hs => by rw [Q.eq, rn_lost hs])
    clear Q
    by_cases hl1 : l.length = 1
    · have e1 : ((l.length : Int) != 1) = false := by simp; omega
      obtain ⟨x, rfl⟩ : ∃ x, l = [x] := List.length_eq_one_iff.1 hl1
      have HR3 : Hid (Rl T x u) := lh ⟨fun hs => (HR1.out hs).2, HR2.out⟩
      obtain ⟨b9, p9_, a9, c9, t1, cx, B⟩ := B.arg
      have hl9 : ((([x] : List Ty).length : Nat) : Int) = 1 := rfl
      clear hl1
      have c76 := B.cr
      go_wp2_with fail
      exact Br.fin (x) B p9 HR3.out rfl rfl
    · have e1 : ((l.length : Int) != 1) = true := by simp; omega
      have HR3 : Hid (Rl T (Ty.mk 0 0 ⟨#[]⟩ 0 []) u) := lh ⟨fun hs => absurd (HR1.out hs).1 hl1, HR2.out⟩
      clear hl1
      have c77 := B.cr
      go_wp2_with fail
      exact Br.fin (.mk 0 0 ⟨#[]⟩ 0 []) B.nilk p9 HR3.out rfl rfl
theorem carrow_any : CtN 111 fun E g => arrowB E.P (recS E.P g) := by
 intro E g RA w s h
 have HST : Hid (∀ i x j, appliedB E.P (recS E.P g) i = .ok x j → i + 1 ≤ j) := lh (fun i x j e => st_applied E.P _ (st_rec E.P g).2 i x j e)
 refine Br.go (m := rowD E.P (appliedB E.P (recS E.P g)) s_st >>= (fun l : List Ty => eatD E.P s_to >>= fun t => if t = true then (readS E.P g .typ >>= fun r => (pure (.mk 33 (if l.length > 1 then .mk 32 (l.headD default).n ⟨#[]⟩ 0 l else l.headD default : Ty).n ⟨#[]⟩ 0 [(if l.length > 1 then .mk 32 (l.headD default).n ⟨#[]⟩ 0 l else l.headD default : Ty), r]) : M Ty)) else (pure (if l.length > 1 then .mk 32 (l.headD default).n ⟨#[]⟩ 0 l else l.headD default : Ty) : M Ty))) h RA ?_
 intro d T W R hW B Q hlr hN
 have HNAMED := at_d R.hd (cnamed_any E g RA)
 clear h RA
 unfold pr at HNAMED ⊢
 go_enter Tryz.func111, Tryz.ntmps111
 obtain ⟨Q9, p9⟩ := Po9.ex Tryz.f111 E d w T (NdQ w)
 rw [p9.eq]
 go_upto_region 1 with fail
 clear hW
 go_upto_region 2 with (go_at_call 157; refine B.ndx HNAMED ?_; clear B; intro u1 n aon capn s2 hl B; have HLn := lh hl; clear hl)
 generalize hb : u1.heap.size = b4
 generalize h : u1.alloc _ = V3
 replace B := B.box h hb
 clear h hb
 have c5 := B.S.cs B.F.rb
 go_upto_region 3 with fail
 clear c5
 generalize h : V3.alloc _ = V6
 replace B := B.mv1.kd2.mk1 rfl h
 clear h
 obtain ⟨f0, H⟩ := sep_first Q HLn.out HST.out B.F.R.le
 go_upto_region 4 with (go_at_call 153; refine B.eatg s_st ?_; clear B; intro u7 B)
 go_loopw [4, 5] (fun va vb wr => ∃ (l : List Ty) (ao : Option Addr) (cap : Nat) (b : Bool) (t : RS) (f : Nat), va = .slice ao l.length cap ∧ vb = .bool b ∧ SepAt E.P (appliedB E.P (recS E.P g)) s_st (fun l : List Ty => eatD E.P s_to >>= fun t => if t = true then (readS E.P g .typ >>= fun r => (pure (.mk 33 (if l.length > 1 then .mk 32 (l.headD default).n ⟨#[]⟩ 0 l else l.headD default : Ty).n ⟨#[]⟩ 0 [(if l.length > 1 then .mk 32 (l.headD default).n ⟨#[]⟩ 0 l else l.headD default : Ty), r]) : M Ty)) else (pure (if l.length > 1 then .mk 32 (l.headD default).n ⟨#[]⟩ 0 l else l.headD default : Ty) : M Ty)) T l b t f ∧ Br E w d wr t [.ow (.slice ao l.length cap) l, .nv b4 (.int .i64 n.k) (.int .i64 n.n) (.string n.s) (.int .i64 n.q) (.slice aon n.args.length capn)] ∧ (l.length = 1 → Br E w d wr t [.kd n.args aon capn, .nv b4 (.int .i64 n.k) (.int .i64 n.n) (.string n.s) (.int .i64 n.q) (.slice aon n.args.length capn)]) ∧ l.headD default = n ∧ 1 ≤ l.length ∧ l.length ≤ 200000) (fun _ _ wr => leftOf E.P.toks.length wr E.rb)
 case atStart => exact ⟨[n], _, 1, _, _, f0, rfl, rfl, H, B.mv1.dr, fun _ => B.dr, rfl, by simp, by simp⟩
 case round =>
  clear B H Q
  obtain ⟨l, ao, cap, b, t, f, rfl, rfl, H, B, hb1, hhd, hl1, hln⟩ := hrel
  have B1 := lh hb1
  have HHD := lh hhd
  clear hb1 hhd
  cases b with
  | false =>
   obtain ⟨m, hm⟩ : ∃ m : Ty, m = (if l.length > 1 then .mk 32 (l.headD default).n ⟨#[]⟩ 0 l else l.headD default : Ty) := ⟨_, rfl⟩
   have Q : Qr T (eatD E.P s_to >>= fun t => if t = true then (readS E.P g .typ >>= fun r => (pure (.mk 33 m.n ⟨#[]⟩ 0 [m, r]) : M Ty)) else (pure m : M Ty)) t := ⟨H.done.trans (by rw [hm])⟩
   clear H
   by_cases hl : l.length > 1
   · have e1 : decide ((l.length : Int) > 1) = true := by simp; omega
     have e2 : (1 : Int) < (l.length : Int) := by omega
     replace hm : m = .mk 32 n.n ⟨#[]⟩ 0 l := by rw [hm, if_pos hl, HHD.out]
     have HM := lh hm
     clear hl hm
     go_upto_region 9 with fail
     have c8 := B.mv1.S.cs B.F.rb
     go_upto_region 10 with (go_at_call 54; refine B.node ?_; clear B; intro u9 B; have c10 := B.mv1.S.cs B.F.rb)
     clear c8 c10
     generalize h : ((((u9.setCell _ _).setCell _ _).setCell _ _).setCell _ _).setCell _ _ = X11
     replace B := B.mv1.sn h
     clear h
     replace B : Br E w d X11 t [.nv b4 (.int .i64 m.k) (.int .i64 m.n) (.string m.s) (.int .i64 m.q) (.slice ao m.args.length cap), .kd m.args ao cap] := by rw [HM.out]; exact B.mv1.ko.mv1
     obtain ⟨b12, P⟩ := B.eatd (sg := s_to) Q
     clear B Q
     cases b12 with
     | true =>
      go_upto_region 12 with (go_at_call 153; refine P.t ?_; clear P; intro u13 B Q _)
      go_upto_region 13 with (go_at_call 58; refine B.nd Q R.typ ?_; clear B Q; intro u14 r aor capr s15 _ B Q)
      generalize hb : u14.heap.size = b17
      generalize h : u14.alloc _ = V16
      replace B := B.box h hb
      clear h hb
      have c18 := B.mv2.S.cs B.F.rb; have c19 := B.S.cs B.F.rb
      go_upto_region 14 with (go_at_call 54; generalize h : V16.alloc _ = V20; replace B := B.mv1.mv3.mk2 rfl h; clear h; refine B.node ?_; clear B; intro u21 B; have c22 := B.mv2.S.cs B.F.rb)
      clear c18 c19 c22
      generalize h : ((((u21.setCell _ _).setCell _ _).setCell _ _).setCell _ _).setCell _ _ = X23
      replace B := B.mv2.sn h
      clear h
      have c24 := B.S.cs B.F.rb; have c25 := B.cr
      go_wp2_with fail
      exact Br.fin (.mk 33 m.n ⟨#[]⟩ 0 [m, r]) B.mv1.ko p9 Q.pr rfl rfl
     | false =>
      go_upto_region 14 with (go_at_call 153; refine P.f ?_; clear P; intro u26 B Q)
      have c27 := B.S.cs B.F.rb; have c28 := B.cr
      go_wp2_with fail
      exact Br.fin (m) B.mv1 p9 Q.pr rfl rfl
   · have e1 : decide ((l.length : Int) > 1) = false := by simp; omega
     have e2 : ¬ ((1 : Int) < (l.length : Int)) := by omega
     replace hm : m = n := by rw [hm, if_neg hl, HHD.out]
     have B := B1.out (by omega)
     have HM := lh hm
     clear hl B1 hm
     go_upto_region 10 with fail
     replace B : Br E w d wr t [.nv b4 (.int .i64 m.k) (.int .i64 m.n) (.string m.s) (.int .i64 m.q) (.slice aon m.args.length capn), .kd m.args aon capn] := by rw [HM.out]; exact B.mv1
     obtain ⟨b29, P⟩ := B.eatd (sg := s_to) Q
     clear B Q
     cases b29 with
     | true =>
      go_upto_region 12 with (go_at_call 153; refine P.t ?_; clear P; intro u30 B Q _)
      go_upto_region 13 with (go_at_call 58; refine B.nd Q R.typ ?_; clear B Q; intro u31 r aor capr s32 _ B Q)
      generalize hb : u31.heap.size = b34
      generalize h : u31.alloc _ = V33
      replace B := B.box h hb
      clear h hb
      have c35 := B.mv2.S.cs B.F.rb; have c36 := B.S.cs B.F.rb
      go_upto_region 14 with (go_at_call 54; generalize h : V33.alloc _ = V37; replace B := B.mv1.mv3.mk2 rfl h; clear h; refine B.node ?_; clear B; intro u38 B; have c39 := B.mv2.S.cs B.F.rb)
      clear c35 c36 c39
      generalize h : ((((u38.setCell _ _).setCell _ _).setCell _ _).setCell _ _).setCell _ _ = X40
      replace B := B.mv2.sn h
      clear h
      have c41 := B.S.cs B.F.rb; have c42 := B.cr
      go_wp2_with fail
      exact Br.fin (.mk 33 m.n ⟨#[]⟩ 0 [m, r]) B.mv1.ko p9 Q.pr rfl rfl
     | false =>
      go_upto_region 14 with (go_at_call 153; refine P.f ?_; clear P; intro u43 B Q)
      have c44 := B.S.cs B.F.rb; have c45 := B.cr
      go_wp2_with fail
      exact Br.fin (m) B.mv1 p9 Q.pr rfl rfl
  | true =>
   have R0 := lh B.F.R
   have HG := lh (H.le R0.out)
   go_upto_region 6 with (go_at_call 157; refine B.ndx HNAMED ?_; clear B; intro u46 e aoe cape s47 hl B; have HLe := lh hl; clear hl)
   generalize hb : u46.heap.size = b49
   generalize h : u46.alloc _ = V48
   replace B := B.box h hb
   clear h hb
   have c50 := B.S.cs B.F.rb
   go_upto_region 7 with (at_builtin; generalize h : V48.alloc _ = V51; replace B := B.mv1.mk1 rfl h; clear h; go_must (refine B.mv2.app rfl _ _ rfl rfl rfl (by have := HG.out.2; simp; omega) ?_); clear B; intro aoL capL L u52 ELL B)
   clear c50
   obtain ⟨⟨f2, H2⟩, h4⟩ := H.next HLe.out HST.out B.F.R.le
   rw [← ELL.out] at H2
   have R4 := lh h4
   clear H h4
   replace B := B.mv1.dr
   go_wp2_with (go_at_call 153; refine B.eatg s_st ?_; clear B; intro u53 B)
   go_roundw
   have hL : L.length = l.length + 1 := by rw [ELL.out, List.length_append]; rfl
   case rel => exact ⟨L, _, _, _, _, f2, rfl, rfl, H2, B, fun h1 => by omega, by have h2 := HHD.out; rw [ELL.out]; cases l with | nil => cases hl1 | cons x xs => exact h2, by omega, by have := HG.out.2; omega⟩
   case measure => exact left_less R0.out B.F.R HG.out.1 eat_after R4.out
end Go.Proofs.YthehjeeiodbkjaaGreatDoor
