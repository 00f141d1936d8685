/-
  Proved: the contract of the document's fbinds; the contract of the document's dec. Conditions: the reader as it stands in memory; what it reads within.
-/
import Derived.Test.YthehjeeiodbkjaaGreatDoorE29
import Derived.Test.YthehjeeiodbkjaaGreatDoorE31
import Derived.Test.YthehjeeiodbkjaaGreatDoorE33
set_option linter.unusedSimpArgs false
set_option linter.unusedVariables false
set_option maxRecDepth 100000
set_option maxHeartbeats 16000000
namespace Go.Proofs.YthehjeeiodbkjaaGreatDoor
open Go.RowKit
theorem cdeep_call (E : Env) (g : Nat) (RA : RAll E g) (hg : 60 - g < 60) (w : World) (s : RS) (h : Rr E w s (60 - g + 1)) : Calls Tryz.prog 56 #[pr E] w (RPost E (60 - g + 1) w (rn (recS E.P g).deep s) (NdQ w)) := by
 have h60 := RA.g60
 obtain ⟨g', rfl⟩ : ∃ g', g = g' + 1 := ⟨g - 1, by omega⟩
 have e : 60 - (g' + 1) + 1 = 60 - g' := by omega
 rw [e] at h ⊢
 exact RA.deep g' rfl w s h
theorem cfbinds_any (E : Env) (g : Nat) (RA : RAll E g) (w0 : World) (s : RS) (h : Rr E w0 s (60 - g)) (hw : E.B < w0.heap.size) : Calls Tryz.prog 145 #[pr E] w0 (RPost E (60 - g) w0 (rn (rowD E.P (fbindB E.P (recS E.P g)) w_and) s) (OwB w0)) := by
 rw [show rn (rowD E.P (fbindB E.P (recS E.P g)) w_and) s = rn (rowD E.P (fbindB E.P (recS E.P g)) w_and >>= (fun l : List Ty => (ret l : M (List Ty)))) s from congrArg (fun m => rn m s) (bind_ret' (rowD E.P (fbindB E.P (recS E.P g)) w_and)).symm]
 refine Bs.go (m := rowD E.P (fbindB E.P (recS E.P g)) w_and >>= (fun l : List Ty => (ret l : M (List Ty)))) h hw RA ?_
 intro d T w R B Q hlr hN
 have hd60 := show d ≤ 60 by have := R.hd; omega
 have HDEEP := lh (show d < 60 → ∀ w1 s, Rr E w1 s (d + 1) → Calls Tryz.prog 56 #[pr E] w1 (RPost E (d + 1) w1 (rn ((recS E.P g)).deep s) (NdQ w1)) from by rw [R.hd]; exact fun hl => cdeep_call E g RA hl)
 have HITF := lh (show ¬ d < 60 → ((recS E.P g)).deep = failD E.P 5 from by intro hl; have h60 := RA.g60; have hd := R.hd; have e0 : g = 0 := (by omega); rw [e0]; rfl)
 have HST := lh (show ∀ i x j, fbindB E.P (recS E.P g) i = .ok x j → i + 1 ≤ j from fun i x j e => st_fbind E.P _ (st_rec E.P g).2 i x j e)
 have HSA := lh (show ∀ i x j, apatB E.P (recS E.P g) i = .ok x j → i + 1 ≤ j from fun i x j e => st_apat E.P _ (st_rec E.P g).2 i x j e)
 have HAPAT := at_d R.hd (capat_any E g RA)
 clear h RA hw
 unfold pr at HDEEP HAPAT ⊢
 go_enter Tryz.func145, Tryz.ntmps145
 obtain ⟨Q9, p9⟩ := Ps9.ex Tryz.f145 E d w0 T
 rw [p9.eq]
 have H := sepw_start Q.eq
 go_upto_region 3 with fail
 go_loopw [3, 4] (fun va vb wr => ∃ (l : List Ty) (ao : Option Addr) (cap : Nat) (b : Bool) (t : RS) (f : Nat), va = .slice ao l.length cap ∧ vb = .bool b ∧ SepW E.P (fbindB E.P (recS E.P g)) w_and (fun l : List Ty => (ret l : M (List Ty))) T l b t f ∧ Bs E w0 w d wr t [.ow (.slice ao l.length cap) l] ∧ (b = true → l.length ≤ 100001) ∧ l.length ≤ 200000) (fun _ vb wr => leftOf E.P.toks.length wr E.rb + boolW vb)
 case atStart => exact ⟨[], none, 0, _, _, _, rfl, rfl, H, B.nilo, fun _ => Nat.zero_le _, Nat.zero_le _⟩
 case round =>
  clear H B Q
  obtain ⟨l, ao, cap, b, t, f, rfl, rfl, h, B, hLN, hln⟩ := hrel
  have HO := lh h
  have HLN := lh hLN
  have HLM := lh hln
  clear h hLN hln
  cases b with
  | false =>
   have Q : Qr T (ret l : M (List Ty)) t := ⟨HO.out.done⟩
   go_wp2_with fail
   rw [← p9.eq]
   go_ret
   exact B.fin Q.pr HLM.out
  | true =>
   have R0 := lh B.F.R
   have HLE : Hid (l.length ≤ 100001) := lh (HLN.out rfl)
   go_upto_region 4 with fail
   obtain ⟨T2, hT2⟩ : ∃ T2, T2 = rn (fbindB E.P (recS E.P g)) t := ⟨_, rfl⟩
   have HT2 := lh hT2
   have Q : Qr T2 (kindD E.P 3 >>= fun nm => apatB E.P (recS E.P g) >>= fun p => manyL (begunB E.P) (apatB E.P (recS E.P g)) (E.P.toks.length + 1) [p] >>= (fun m : List Ty => eatD E.P s_col >>= fun c => if c = true then (readS E.P g .typ >>= fun ty => mustD E.P s_eq >>= fun _ => ((recS E.P g)).deep >>= fun ex => (pure (.mk 36 (E.P.A t.i) nm 0 (m ++ [.mk 19 ex.n ⟨#[]⟩ 0 [ex, ty]])) : M Ty)) else (mustD E.P s_eq >>= fun _ => readS E.P g .exp >>= fun ex => (pure (.mk 36 (E.P.A t.i) nm 0 (m ++ [ex])) : M Ty)))) t := ⟨hT2.trans (by by_cases hs : t.k = 0; exact (by rw [rn_good hs, rn_good hs]; rfl); rw [rn_lost hs, rn_lost hs])⟩
   clear hT2
   go_upto_region 5 with (go_at_call 102; refine B.now ?_; clear B; intro u1 B; have f2 := tk_fields E.P t.i)
   clear f2
   generalize hb : u1.heap.size = b4
   generalize h : u1.alloc _ = V3
   replace B := B.box h hb
   clear h hb
   go_upto_region 6 with (go_at_call 150; refine B.str Q (hget3 E d) ?_; clear B Q; intro u5 nm s6 B Q; have c7 := B.S.cs B.F.rb)
   clear c7
   generalize h : u5.setCell _ _ = X8
   replace B := B.s2 h
   clear h
   go_upto_region 7 with (go_at_call 154; refine B.nd Q HAPAT ?_; clear B Q; intro u9 p aop capp s10 _ B Q)
   generalize hb : u9.heap.size = b12
   generalize h : u9.alloc _ = V11
   replace B := B.box h hb
   clear h hb
   replace B := B.nilo
   have c13 := B.mv3.S.cs B.F.rb; have c14 := B.mv1.S.cs B.F.rb
   go_upto_region 8 with (at_builtin; generalize h : V11.alloc _ = V15; replace B := B.mv2.mk1 rfl h; clear h; go_must (refine B.mv1.app rfl _ _ rfl rfl rfl (by simp) ?_); clear B; intro aoL capL L u16 ELL B; have c17 := B.mv2.S.cs B.F.rb)
   clear c13 c14 c17
   generalize h : u16.setCell _ _ = X18
   replace B := B.mv2.s4 h
   clear h
   obtain ⟨f0, H⟩ := many_head (l := [p]) Q.eq (fun _ => by omega) B.F.R.le (fun _ => by show 1 ≤ _; omega)
   go_upto_region 9 with (go_at_call 180; refine B.ask ((hbegun E d).out _ _ B.F.R) ?_; clear B; intro u19 B)
   go_loopw [7] (fun va wr => ∃ (m : List Ty) (ao2 : Option Addr) (cap2 : Nat) (b : Bool) (t2 : RS) (f2 : Nat) (c0 : Ty) (ac : Option Addr) (cc : Nat), va = .bool b ∧ ManyAt E.P (begunB E.P) (apatB E.P (recS E.P g)) (fun m : List Ty => eatD E.P s_col >>= fun c => if c = true then (readS E.P g .typ >>= fun ty => mustD E.P s_eq >>= fun _ => ((recS E.P g)).deep >>= fun ex => (pure (.mk 36 (E.P.A t.i) nm 0 (m ++ [.mk 19 ex.n ⟨#[]⟩ 0 [ex, ty]])) : M Ty)) else (mustD E.P s_eq >>= fun _ => readS E.P g .exp >>= fun ex => (pure (.mk 36 (E.P.A t.i) nm 0 (m ++ [ex])) : M Ty))) T2 m b t2 f2 ∧ Bs E w0 w d wr t2 [.ow (.slice ao2 m.length cap2) m, .nv b4 (.int .i64 36) (.int .i64 (E.P.A t.i : Int)) (.string nm) (.int .i64 0) (.slice ao2 m.length cap2), .nv b12 (.int .i64 c0.k) (.int .i64 c0.n) (.string c0.s) (.int .i64 c0.q) (.slice ac c0.args.length cc), .ow (.slice ao l.length cap) l] ∧ m.length ≤ 200000) (fun va wr => leftOf E.P.toks.length wr E.rb)
   case atStart => exact ⟨L, aoL, capL, _, _, f0, p, aop, capp, rfl, by rw [ELL.out]; exact H, B.mv3.mv3.mv2.mv3, by rw [ELL.out]; simp⟩
   case round =>
    clear H Q B
    obtain ⟨m, ao2, cap2, b, t2, f2, c0, ac, cc, rfl, H, B, hml⟩ := hrel
    have HML := lh hml
    have HI := lh H
    clear hml H
    cases b with
    | true =>
     have R1 := lh B.F.R
     have HG := lh (HI.out.le R1.out)
     go_upto_region 11 with (go_at_call 154; refine B.ndx HAPAT ?_; clear B; intro u20 c2 aoc2 capc2 s21 hl B; have HLc2 := lh hl; clear hl; have c22 := B.mv3.S.cs B.F.rb)
     clear c22
     generalize h : ((((u20.setCell _ _).setCell _ _).setCell _ _).setCell _ _).setCell _ _ = X23
     replace B := B.mv3.sn h
     clear h
     have c24 := B.mv3.S.cs B.F.rb; have c25 := B.S.cs B.F.rb
     go_upto_region 12 with (at_builtin; generalize h : X23.alloc _ = V26; replace B := B.mv1.mk1 rfl h; clear h; go_must (refine B.mv2.app rfl _ _ rfl rfl rfl (by have h1 := HML.out; show _ + 1 ≤ _; omega) ?_); clear B; intro aoL2 capL2 L2 u27 ELL2 B; have c28 := B.mv2.S.cs B.F.rb)
     clear c24 c25 c28
     generalize h : u27.setCell _ _ = X29
     replace B := B.mv2.s4 h
     clear h
     obtain ⟨⟨f3, H⟩, h4⟩ := HI.out.next HLc2.out HSA.out B.F.R.le
     rw [← ELL2.out] at H
     have H2 := lh H
     have R4 := lh h4
     clear H h4
     go_wp2_with (go_at_call 180; refine B.ask ((hbegun E d).out _ _ B.F.R) ?_; clear B; intro u30 B)
     go_roundw
     case rel => exact ⟨L2, aoL2, capL2, _, _, f3, c2, aoc2, capc2, rfl, H2.out, B.mv3.mv3.mv2.mv3, by have h1 := HG.out.2; have h3 : L2.length = m.length + 1 := (by rw [ELL2.out, List.length_append]; rfl); omega⟩
     case measure => exact left_less R1.out B.F.R HG.out.1 (fun h0 => ⟨h0, Nat.le_refl _⟩) R4.out
    | false =>
     have Q : Qr T2 (eatD E.P s_col >>= fun c => if c = true then (readS E.P g .typ >>= fun ty => mustD E.P s_eq >>= fun _ => ((recS E.P g)).deep >>= fun ex => (pure (.mk 36 (E.P.A t.i) nm 0 (m ++ [.mk 19 ex.n ⟨#[]⟩ 0 [ex, ty]])) : M Ty)) else (mustD E.P s_eq >>= fun _ => readS E.P g .exp >>= fun ex => (pure (.mk 36 (E.P.A t.i) nm 0 (m ++ [ex])) : M Ty))) t2 := ⟨HI.out.done⟩
     go_upto_region 13 with fail
     replace B := B.mv2.dr
     obtain ⟨b31, P⟩ := B.eatd (sg := s_col) Q
     clear B Q
     cases b31 with
     | true =>
      go_upto_region 14 with (go_at_call 153; refine P.t ?_; clear P; intro u32 B Q _)
      go_upto_region 16 with fail
      generalize hb : u32.heap.size = b34
      generalize h : u32.alloc _ = V33
      replace B := B.box h hb
      clear h hb
      go_upto_region 17 with (go_at_call 58; refine B.nd Q R.typ ?_; clear B Q; intro u35 ty aoty capty s36 _ B Q; have c37 := B.mv1.S.cs B.F.rb)
      clear c37
      generalize h : ((((u35.setCell _ _).setCell _ _).setCell _ _).setCell _ _).setCell _ _ = X38
      replace B := B.mv1.sn h
      clear h
      go_upto_region 18 with (go_at_call 144; refine B.un Q (hmust E d s_eq) ?_; clear B Q; intro u39 _ _ s40 B Q)
      go_upto_region 20 with fail
      generalize hb : u39.heap.size = b42
      generalize h : u39.alloc _ = V41
      replace B := B.box h hb
      clear h hb
      by_cases h60 : d < 60
      · have H60 := lh h60
        clear h60
        by_cases hs : s40.k = 0
        · have HS1 := lh hs
          clear hs
          go_upto_region 22 with (go_at_call 106; refine B.ent HS1.out H60.out ?_; clear B; intro u43 B)
          go_upto_region 23 with (go_at_call 56; refine B.nd Q (lh (HDEEP.out H60.out)) ?_; clear B Q; intro u44 ex aoex capex s45 _ B Q; have c46 := B.mv1.S.cs B.F.rb)
          clear c46
          generalize h : ((((u44.setCell _ _).setCell _ _).setCell _ _).setCell _ _).setCell _ _ = X47
          replace B := B.mv1.sn h
          clear h
          go_upto_region 25 with (go_at_call 108; refine B.lea ?_; clear B; intro u48 _ B)
          go_upto_region 26 with fail
          have c49 := B.S.cs B.F.rb; have c50 := B.mv2.S.cs B.F.rb
          go_upto_region 27 with (go_at_call 54; generalize h : u48.alloc _ = V51; replace B := B.mv3.mv2.mk2 rfl h; clear h; refine B.node ?_; clear B; intro u52 B; have c53 := B.mv1.S.cs B.F.rb)
          clear c49 c50 c53
          generalize h : ((((u52.setCell _ _).setCell _ _).setCell _ _).setCell _ _).setCell _ _ = X54
          replace B := B.mv1.sn h
          clear h
          have c55 := B.mv4.S.cs B.F.rb; have c56 := B.S.cs B.F.rb
          go_upto_region 28 with (at_builtin; generalize h : X54.alloc _ = V57; replace B := B.mv1.ko.mkl rfl h; clear h; go_must (refine B.mv3.app rfl _ _ rfl rfl rfl (by have h1 := HML.out; show _ + 1 ≤ _; omega) ?_); clear B; intro aoL3 capL3 L3 u58 ELL3 B; have c59 := B.mv3.S.cs B.F.rb)
          clear c55 c56 c59
          generalize h : u58.setCell _ _ = X60
          replace B := B.mv3.s4 h
          clear h
          have HON : Hid (Rl (rn (fbindB E.P (recS E.P g)) t) (.mk 36 (E.P.A t.i) nm 0 L3) s45) := lh (by rw [← HT2.out, ELL3.out]; exact Q.pr)
          have c61 := B.S.cs B.F.rb
          go_upto_region 29 with (at_builtin; generalize h : X60.alloc _ = V62; replace B := B.mv1.ko.mkl rfl h; clear h; go_must (refine B.mv4.app rfl _ _ rfl rfl rfl (by have h1 := HLE.out; show _ + 1 ≤ _; omega) ?_); clear B; intro aoL4 capL4 L4 u63 ELL4 B)
          clear c61
          obtain ⟨⟨f4, H⟩, h4⟩ := HO.out.next HON.out HST.out B.F.R.le
          rw [← ELL4.out] at H
          have H2 := lh H
          have R4 := lh h4
          clear H h4
          go_wp2_with (go_at_call 153; refine B.eatg w_and ?_; clear B; intro u64 B)
          go_roundw
          case rel => exact ⟨L4, aoL4, capL4, _, _, f4, rfl, rfl, H2.out.w, B.mv1.dr.mv1.dr.mv1.dr, fun hb => by have h1 := (H2.out.fl (H2.out.go hb)).2; have h2 := B.F.R.le; omega, by have h1 := HLE.out; have h3 : L4.length = l.length + 1 := (by rw [ELL4.out, List.length_append]; rfl); omega⟩
          case measure => exact leftw_less R0.out B.F.R H2.out.go (fun h0 => rl_back HON.out (eat_after h0).1) eat_after R4.out
        · have HS1 := lh hs
          clear hs
          go_upto_region 23 with (go_at_call 106; refine B.enb HS1.out H60.out ?_; clear B; intro u65 B)
          go_upto_region 25 with (go_at_call 108; refine B.lea ?_; clear B; intro u66 _ B)
          obtain ⟨ex, HNex⟩ : ∃ ex : Ty, Hid (ex = zeroTy) := ⟨_, lh rfl⟩
          replace B : Bs E w0 w d u66 s40 [.kd ex.args none 0, .nv b42 (.int .i64 ex.k) (.int .i64 ex.n) (.string ex.s) (.int .i64 ex.q) (.slice none ex.args.length 0), .nv b34 (.int .i64 ty.k) (.int .i64 ty.n) (.string ty.s) (.int .i64 ty.q) (.slice aoty ty.args.length capty), .kd ty.args aoty capty, .ow (.slice ao2 m.length cap2) m, .nv b4 (.int .i64 36) (.int .i64 (E.P.A t.i : Int)) (.string nm) (.int .i64 0) (.slice ao2 m.length cap2), .ow (.slice ao l.length cap) l] := by rw [HNex.out]; exact B.nilk
          replace Q : Qr T2 (pure (.mk 36 (E.P.A t.i) nm 0 (m ++ [.mk 19 ex.n ⟨#[]⟩ 0 [ex, ty]])) : M Ty) s40 := ⟨by rw [Q.eq, rn_lost HS1.out, rn_lost HS1.out]⟩
          go_upto_region 26 with fail
          have c67 := B.mv1.S.cs B.F.rb; have c68 := B.mv2.S.cs B.F.rb
          go_upto_region 27 with (go_at_call 54; generalize h : u66.alloc _ = V69; replace B := B.mv3.mv1.mk2 rfl h; clear h; refine B.node ?_; clear B; intro u70 B; have c71 := B.mv1.S.cs B.F.rb)
          clear c67 c68 c71
          generalize h : ((((u70.setCell _ _).setCell _ _).setCell _ _).setCell _ _).setCell _ _ = X72
          replace B := B.mv1.sn h
          clear h
          have c73 := B.mv4.S.cs B.F.rb; have c74 := B.S.cs B.F.rb
          go_upto_region 28 with (at_builtin; generalize h : X72.alloc _ = V75; replace B := B.mv1.ko.mkl rfl h; clear h; go_must (refine B.mv3.app rfl _ _ rfl rfl rfl (by have h1 := HML.out; show _ + 1 ≤ _; omega) ?_); clear B; intro aoL3 capL3 L3 u76 ELL3 B; have c77 := B.mv3.S.cs B.F.rb)
          clear c73 c74 c77
          generalize h : u76.setCell _ _ = X78
          replace B := B.mv3.s4 h
          clear h
          have HON : Hid (Rl (rn (fbindB E.P (recS E.P g)) t) (.mk 36 (E.P.A t.i) nm 0 L3) s40) := lh (by rw [← HT2.out, ELL3.out]; exact Q.pr)
          have c79 := B.S.cs B.F.rb
          go_upto_region 29 with (at_builtin; generalize h : X78.alloc _ = V80; replace B := B.mv1.ko.mkl rfl h; clear h; go_must (refine B.mv4.app rfl _ _ rfl rfl rfl (by have h1 := HLE.out; show _ + 1 ≤ _; omega) ?_); clear B; intro aoL4 capL4 L4 u81 ELL4 B)
          clear c79
          obtain ⟨⟨f4, H⟩, h4⟩ := HO.out.next HON.out HST.out B.F.R.le
          rw [← ELL4.out] at H
          have H2 := lh H
          have R4 := lh h4
          clear H h4
          go_wp2_with (go_at_call 153; refine B.eatg w_and ?_; clear B; intro u82 B)
          go_roundw
          case rel => exact ⟨L4, aoL4, capL4, _, _, f4, rfl, rfl, H2.out.w, B.mv1.dr.mv1.dr.mv1.dr, fun hb => by have h1 := (H2.out.fl (H2.out.go hb)).2; have h2 := B.F.R.le; omega, by have h1 := HLE.out; have h3 : L4.length = l.length + 1 := (by rw [ELL4.out, List.length_append]; rfl); omega⟩
          case measure => exact leftw_less R0.out B.F.R H2.out.go (fun h0 => rl_back HON.out (eat_after h0).1) eat_after R4.out
      · have H60 := lh h60
        clear h60
        replace Q := Q.rd (by rw [HITF.out H60.out]; exact B.F.R.no_rl (e := 5) (by decide) zeroTy)
        go_upto_region 23 with (go_at_call 106; refine B.eno hd60 H60.out ?_; clear B; intro u83 B)
        go_upto_region 25 with (go_at_call 108; refine B.lea ?_; clear B; intro u84 _ B)
        obtain ⟨ex, HNex⟩ : ∃ ex : Ty, Hid (ex = zeroTy) := ⟨_, lh rfl⟩
        replace B : Bs E w0 w d u84 (noS E.P 5 s40) [.kd ex.args none 0, .nv b42 (.int .i64 ex.k) (.int .i64 ex.n) (.string ex.s) (.int .i64 ex.q) (.slice none ex.args.length 0), .nv b34 (.int .i64 ty.k) (.int .i64 ty.n) (.string ty.s) (.int .i64 ty.q) (.slice aoty ty.args.length capty), .kd ty.args aoty capty, .ow (.slice ao2 m.length cap2) m, .nv b4 (.int .i64 36) (.int .i64 (E.P.A t.i : Int)) (.string nm) (.int .i64 0) (.slice ao2 m.length cap2), .ow (.slice ao l.length cap) l] := by rw [HNex.out]; exact B.nilk
        replace Q : Qr T2 (pure (.mk 36 (E.P.A t.i) nm 0 (m ++ [.mk 19 ex.n ⟨#[]⟩ 0 [ex, ty]])) : M Ty) (noS E.P 5 s40) := by rw [HNex.out]; exact Q
        go_upto_region 26 with fail
        have c85 := B.mv1.S.cs B.F.rb; have c86 := B.mv2.S.cs B.F.rb
        go_upto_region 27 with (go_at_call 54; generalize h : u84.alloc _ = V87; replace B := B.mv3.mv1.mk2 rfl h; clear h; refine B.node ?_; clear B; intro u88 B; have c89 := B.mv1.S.cs B.F.rb)
        clear c85 c86 c89
        generalize h : ((((u88.setCell _ _).setCell _ _).setCell _ _).setCell _ _).setCell _ _ = X90
        replace B := B.mv1.sn h
        clear h
        have c91 := B.mv4.S.cs B.F.rb; have c92 := B.S.cs B.F.rb
        go_upto_region 28 with (at_builtin; generalize h : X90.alloc _ = V93; replace B := B.mv1.ko.mkl rfl h; clear h; go_must (refine B.mv3.app rfl _ _ rfl rfl rfl (by have h1 := HML.out; show _ + 1 ≤ _; omega) ?_); clear B; intro aoL3 capL3 L3 u94 ELL3 B; have c95 := B.mv3.S.cs B.F.rb)
        clear c91 c92 c95
        generalize h : u94.setCell _ _ = X96
        replace B := B.mv3.s4 h
        clear h
        have HON : Hid (Rl (rn (fbindB E.P (recS E.P g)) t) (.mk 36 (E.P.A t.i) nm 0 L3) (noS E.P 5 s40)) := lh (by rw [← HT2.out, ELL3.out]; exact Q.pr)
        have c97 := B.S.cs B.F.rb
        go_upto_region 29 with (at_builtin; generalize h : X96.alloc _ = V98; replace B := B.mv1.ko.mkl rfl h; clear h; go_must (refine B.mv4.app rfl _ _ rfl rfl rfl (by have h1 := HLE.out; show _ + 1 ≤ _; omega) ?_); clear B; intro aoL4 capL4 L4 u99 ELL4 B)
        clear c97
        obtain ⟨⟨f4, H⟩, h4⟩ := HO.out.next HON.out HST.out B.F.R.le
        rw [← ELL4.out] at H
        have H2 := lh H
        have R4 := lh h4
        clear H h4
        go_wp2_with (go_at_call 153; refine B.eatg w_and ?_; clear B; intro u100 B)
        go_roundw
        case rel => exact ⟨L4, aoL4, capL4, _, _, f4, rfl, rfl, H2.out.w, B.mv1.dr.mv1.dr.mv1.dr, fun hb => by have h1 := (H2.out.fl (H2.out.go hb)).2; have h2 := B.F.R.le; omega, by have h1 := HLE.out; have h3 : L4.length = l.length + 1 := (by rw [ELL4.out, List.length_append]; rfl); omega⟩
        case measure => exact leftw_less R0.out B.F.R H2.out.go (fun h0 => rl_back HON.out (eat_after h0).1) eat_after R4.out
     | false =>
      go_upto_region 14 with (go_at_call 153; refine P.f ?_; clear P; intro u101 B Q)
      go_upto_region 17 with fail
      generalize hb : u101.heap.size = b103
      generalize h : u101.alloc _ = V102
      replace B := B.box h hb
      clear h hb
      go_upto_region 18 with (go_at_call 144; refine B.un Q (hmust E d s_eq) ?_; clear B Q; intro u104 _ _ s105 B Q)
      go_upto_region 24 with fail
      generalize hb : u104.heap.size = b107
      generalize h : u104.alloc _ = V106
      replace B := B.box h hb
      clear h hb
      go_upto_region 25 with (go_at_call 56; refine B.nd Q R.exp ?_; clear B Q; intro u108 ex aoex capex s109 _ B Q; have c110 := B.mv1.S.cs B.F.rb)
      clear c110
      generalize h : ((((u108.setCell _ _).setCell _ _).setCell _ _).setCell _ _).setCell _ _ = X111
      replace B := B.mv1.sn h
      clear h
      go_upto_region 27 with fail
      have c112 := B.mv4.S.cs B.F.rb; have c113 := B.S.cs B.F.rb
      go_upto_region 28 with (at_builtin; generalize h : X111.alloc _ = V114; replace B := B.mv1.mk1 rfl h; clear h; go_must (refine B.mv3.app rfl _ _ rfl rfl rfl (by have h1 := HML.out; show _ + 1 ≤ _; omega) ?_); clear B; intro aoL3 capL3 L3 u115 ELL3 B; have c116 := B.mv3.S.cs B.F.rb)
      clear c112 c113 c116
      generalize h : u115.setCell _ _ = X117
      replace B := B.mv3.s4 h
      clear h
      have HON : Hid (Rl (rn (fbindB E.P (recS E.P g)) t) (.mk 36 (E.P.A t.i) nm 0 L3) s109) := lh (by rw [← HT2.out, ELL3.out]; exact Q.pr)
      have c118 := B.S.cs B.F.rb
      go_upto_region 29 with (at_builtin; generalize h : X117.alloc _ = V119; replace B := B.mv1.ko.mkl rfl h; clear h; go_must (refine B.mv4.app rfl _ _ rfl rfl rfl (by have h1 := HLE.out; show _ + 1 ≤ _; omega) ?_); clear B; intro aoL4 capL4 L4 u120 ELL4 B)
      clear c118
      obtain ⟨⟨f4, H⟩, h4⟩ := HO.out.next HON.out HST.out B.F.R.le
      rw [← ELL4.out] at H
      have H2 := lh H
      have R4 := lh h4
      clear H h4
      go_wp2_with (go_at_call 153; refine B.eatg w_and ?_; clear B; intro u121 B)
      go_roundw
      case rel => exact ⟨L4, aoL4, capL4, _, _, f4, rfl, rfl, H2.out.w, B.mv1.dr.mv1.dr.mv1.dr, fun hb => by have h1 := (H2.out.fl (H2.out.go hb)).2; have h2 := B.F.R.le; omega, by have h1 := HLE.out; have h3 : L4.length = l.length + 1 := (by rw [ELL4.out, List.length_append]; rfl); omega⟩
      case measure => exact leftw_less R0.out B.F.R H2.out.go (fun h0 => rl_back HON.out (eat_after h0).1) eat_after R4.out
theorem dec_one {P : Src} {i : Nat} (h : oneD P (startsL 0) i = true) : (P.K i = 6 ∨ P.K i = 7) ∧ (P.T i = w_val ∨ P.T i = w_fun ∨ P.T i = w_type ∨ P.T i = w_data ∨ P.T i = w_exception ∨ P.T i = w_structure ∨ P.T i = w_signature ∨ P.T i = w_open) := by
 have h : oneD P [w_val, w_fun, w_type, w_data, w_exception, w_structure, w_open, w_signature] i = true := h
 unfold oneD at h
 simp only [Bool.and_eq_true, decide_eq_true_eq, List.any_cons, List.any_nil, Bool.or_eq_true, Bool.or_false] at h
 refine ⟨h.1, ?_⟩
 rcases h.2 with h | h | h | h | h | h | h | h <;> simp [h]
theorem dec_val {P : Src} {R : Rec} {i : Nat} (h : P.T i = w_val) : decB P R i = (R.go .pat >>= fun p => mustD P s_eq >>= fun _ => R.go .exp >>= fun e => (pure (.mk 34 (P.A i) ⟨#[]⟩ 0 [p, e]) : M Ty)) (i + 1) := by
 unfold decB
 rw [if_pos h]
theorem dec_fun {P : Src} {R : Rec} {i : Nat} (h : P.T i = w_fun) : decB P R i = (rowD P (fbindB P R) w_and >>= fun l => (pure (.mk 35 (P.A i) ⟨#[]⟩ 0 l) : M Ty)) (i + 1) := by
 unfold decB
 rw [if_neg (by rw [h]; decide), if_pos h]
theorem dec_type {P : Src} {R : Rec} {i : Nat} (h : P.T i = w_type) : decB P R i = (headB P 37 (P.A i) >>= fun h => mustD P s_eq >>= fun _ => R.go .typ >>= fun t => (pure (.mk h.k h.n h.s h.q (h.args ++ [t])) : M Ty)) (i + 1) := by
 unfold decB
 rw [if_neg (by rw [h]; decide), if_neg (by rw [h]; decide), if_pos h]
theorem dec_data {P : Src} {R : Rec} {i : Nat} (h : P.T i = w_data) : decB P R i = dataB P R (P.A i) (i + 1) := by
 unfold decB
 rw [if_neg (by rw [h]; decide), if_neg (by rw [h]; decide), if_neg (by rw [h]; decide), if_pos h]
theorem dec_exception {P : Src} {R : Rec} {i : Nat} (h : P.T i = w_exception) : decB P R i = (conB P R >>= fun c => (pure (.mk 41 (P.A i) c.s c.q c.args) : M Ty)) (i + 1) := by
 unfold decB
 rw [if_neg (by rw [h]; decide), if_neg (by rw [h]; decide), if_neg (by rw [h]; decide), if_neg (by rw [h]; decide), if_pos h]
theorem dec_structure {P : Src} {R : Rec} {i : Nat} (h : P.T i = w_structure) : decB P R i = structureB P R (P.A i) (i + 1) := by
 unfold decB
 rw [if_neg (by rw [h]; decide), if_neg (by rw [h]; decide), if_neg (by rw [h]; decide), if_neg (by rw [h]; decide), if_neg (by rw [h]; decide), if_pos h]
theorem dec_signature {P : Src} {R : Rec} {i : Nat} (h : P.T i = w_signature) : decB P R i = (kindD P 4 >>= fun x => mustD P s_eq >>= fun _ => R.go .sig >>= fun q => (pure (.mk 43 (P.A i) x 0 [q]) : M Ty)) (i + 1) := by
 unfold decB
 rw [if_neg (by rw [h]; decide), if_neg (by rw [h]; decide), if_neg (by rw [h]; decide), if_neg (by rw [h]; decide), if_neg (by rw [h]; decide), if_neg (by rw [h]; decide), if_pos h]
theorem dec_open {P : Src} {R : Rec} {i : Nat} (h : P.T i = w_open) : decB P R i = (pathD P 4 >>= fun p => (pure (.mk 44 (P.A i) p.1 0 []) : M Ty)) (i + 1) := by
 unfold decB
 rw [if_neg (by rw [h]; decide), if_neg (by rw [h]; decide), if_neg (by rw [h]; decide), if_neg (by rw [h]; decide), if_neg (by rw [h]; decide), if_neg (by rw [h]; decide), if_neg (by rw [h]; decide)]
theorem cdec_any (E : Env) (g : Nat) (RA : RAll E g) (w : World) (s : RS) (hs : s.k = 0) (ho : oneD E.P (startsL 0) s.i = true) (h : Rr E w s (60 - g)) : Calls Tryz.prog 107 #[pr E] w (RPost E (60 - g) w (rn (decB E.P (recS E.P g)) s) (NdQ w)) := by
 refine Br.go (m := decB E.P (recS E.P g)) h RA ?_
 intro d T W R hW B Q hlr hN
 have HS := lh hs
 have HON := lh (dec_one ho)
 have HK1 := (lh (by have := HON.out.1; omega) : Hid (1 ≤ E.P.K s.i))
 have HFB := at_r R.hd (cfbinds_any E g RA)
 have HCON := at_d R.hd (ccon_any E g RA)
 have HHEAD := lh (fun kk aa w s h => chead_any E g RA w s kk aa h)
 have HDATA := lh (fun aa w s h => cdata_any E g RA w s aa h)
 have HSTRU := lh (fun aa w s h => cstructure_any E g RA w s aa h)
 rw [← R.hd] at HHEAD HDATA HSTRU
 clear h RA hs ho
 unfold pr at HFB HCON HHEAD HDATA HSTRU ⊢
 go_enter Tryz.func107, Tryz.ntmps107
 obtain ⟨Q9, p9⟩ := Po9.ex Tryz.f107 E d w T (NdQ w)
 rw [p9.eq]
 go_upto_region 1 with fail
 clear hW
 go_upto_region 2 with (go_at_call 102; refine B.now ?_; clear B; intro u1 B; have f2 := tk_fields E.P s.i)
 clear f2
 generalize hb : u1.heap.size = b4
 generalize h : u1.alloc _ = V3
 replace B := B.boxt h hb
 clear h hb
 have c5 := B.F.R.cells
 have c6 : s.i ≤ 100000 := Nat.le_trans B.F.R.le hN
 go_upto_region 3 with fail
 clear c5 c6
 generalize h : V3.setCell _ _ = X7
 replace B := B.step (HK1.out) h
 clear h
 have c8 := B.S.ct B.F.rb
 go_upto_region 4 with fail
 clear c8
 generalize hb : X7.heap.size = b10
 generalize h : X7.alloc _ = V9
 replace B := B.box h hb
 clear h hb
 rcases HON.out.2 with hx | hx | hx | hx | hx | hx | hx | hx
 · skip
   have HTX := lh hx
   clear hx
   replace Q : Qr T ((readS E.P g .pat >>= fun p => mustD E.P s_eq >>= fun _ => readS E.P g .exp >>= fun e => (pure (.mk 34 (E.P.A s.i) ⟨#[]⟩ 0 [p, e]) : M Ty))) (stp s) := ⟨by rw [Q.eq, rn_good HS.out, rn_good (s := stp s) HS.out]; exact dec_val HTX.out⟩
   have xw_val : ((E.P.T s.i).toList == [118, 97, 108]) = true := by rw [HTX.out, ByteArray.toList_eq]; decide
   have yw_val : (E.P.T s.i).toList = [118, 97, 108] := by rw [HTX.out, ByteArray.toList_eq]
   have c11 := B.mv1.S.ct B.F.rb
   go_upto_region 8 with fail
   clear c11
   have c12 := B.S.cs B.F.rb; have c13 := B.mv1.S.ct B.F.rb
   go_upto_region 9 with fail
   clear c12 c13
   generalize h : V9.setCell _ _ = X14
   replace B := B.s0 h
   clear h
   go_upto_region 10 with (go_at_call 57; refine B.nd Q R.pat ?_; clear B Q; intro u15 p aop capp s16 _ B Q)
   generalize hb : u15.heap.size = b18
   generalize h : u15.alloc _ = V17
   replace B := B.box h hb
   clear h hb
   go_upto_region 11 with (go_at_call 144; refine B.un Q (hmust E d s_eq) ?_; clear B Q; intro u19 _ _ s20 B Q)
   go_upto_region 12 with (go_at_call 56; refine B.nd Q R.exp ?_; clear B Q; intro u21 e aoe cape s22 _ B Q)
   generalize hb : u21.heap.size = b24
   generalize h : u21.alloc _ = V23
   replace B := B.box h hb
   clear h hb
   have c25 := B.mv4.S.cs B.F.rb; have c26 := B.mv2.S.cs B.F.rb; have c27 := B.S.cs B.F.rb
   go_upto_region 35 with fail
   clear c25 c26 c27
   generalize hz : V23.heap.size = z28
   generalize h : V23.setCell _ _ = X29
   replace B := B.mv4.s4 h
   replace hz := size_set h hz
   clear h
   generalize h : X29.alloc _ = V30
   replace B := B.mv2.mv4.mk2 hz h
   clear h
   clear hz
   have c31 := B.mv1.S.cs B.F.rb; have c32 := B.cr
   go_wp2_with fail
   exact Br.fin (.mk 34 (E.P.A s.i) ⟨#[]⟩ 0 [p, e]) B.ko p9 Q.pr rfl rfl
 · skip
   have HTX := lh hx
   clear hx
   replace Q : Qr T ((rowD E.P (fbindB E.P (recS E.P g)) w_and >>= fun l => (pure (.mk 35 (E.P.A s.i) ⟨#[]⟩ 0 l) : M Ty))) (stp s) := ⟨by rw [Q.eq, rn_good HS.out, rn_good (s := stp s) HS.out]; exact dec_fun HTX.out⟩
   have xw_val : ((E.P.T s.i).toList == [118, 97, 108]) = false := by rw [HTX.out, ByteArray.toList_eq]; decide
   have xw_fun : ((E.P.T s.i).toList == [102, 117, 110]) = true := by rw [HTX.out, ByteArray.toList_eq]; decide
   have yw_fun : (E.P.T s.i).toList = [102, 117, 110] := by rw [HTX.out, ByteArray.toList_eq]
   have c33 := B.mv1.S.ct B.F.rb
   go_upto_region 14 with fail
   clear c33
   have c34 := B.S.cs B.F.rb; have c35 := B.mv1.S.ct B.F.rb
   go_upto_region 15 with fail
   clear c34 c35
   generalize h : V9.setCell _ _ = X36
   replace B := B.s0 h
   clear h
   go_upto_region 35 with (go_at_call 145; refine B.rw Q HFB ?_; clear B Q; intro u37 l aol capl s38 LNl B Q; have c39 := B.mv1.S.cs B.F.rb)
   clear c39
   generalize h : u37.setCell _ _ = X40
   replace B := B.mv1.s4 h
   clear h
   have c41 := B.S.cs B.F.rb; have c42 := B.cr
   go_wp2_with fail
   exact Br.fin (.mk 35 (E.P.A s.i) ⟨#[]⟩ 0 l) B.mv1.ko p9 Q.pr rfl rfl
 · skip
   have HTX := lh hx
   clear hx
   replace Q : Qr T ((headB E.P 37 (E.P.A s.i) >>= fun h => mustD E.P s_eq >>= fun _ => readS E.P g .typ >>= fun t => (pure (.mk h.k h.n h.s h.q (h.args ++ [t])) : M Ty))) (stp s) := ⟨by rw [Q.eq, rn_good HS.out, rn_good (s := stp s) HS.out]; exact dec_type HTX.out⟩
   have xw_val : ((E.P.T s.i).toList == [118, 97, 108]) = false := by rw [HTX.out, ByteArray.toList_eq]; decide
   have xw_fun : ((E.P.T s.i).toList == [102, 117, 110]) = false := by rw [HTX.out, ByteArray.toList_eq]; decide
   have xw_type : ((E.P.T s.i).toList == [116, 121, 112, 101]) = true := by rw [HTX.out, ByteArray.toList_eq]; decide
   have yw_type : (E.P.T s.i).toList = [116, 121, 112, 101] := by rw [HTX.out, ByteArray.toList_eq]
   have c43 := B.mv1.S.ct B.F.rb
   go_upto_region 17 with fail
   go_upto_region 18 with (go_at_call 146; refine B.nb Q (lh (HHEAD.out 37 (E.P.A s.i))) ?_; clear B Q; intro u44 h aoh caph s45 LNh _ B Q; have c46 := B.mv1.S.cs B.F.rb)
   clear c43 c46
   generalize h : ((((u44.setCell _ _).setCell _ _).setCell _ _).setCell _ _).setCell _ _ = X47
   replace B := B.mv1.sn h
   clear h
   go_upto_region 19 with (go_at_call 144; refine B.un Q (hmust E d s_eq) ?_; clear B Q; intro u48 _ _ s49 B Q)
   go_upto_region 20 with (go_at_call 58; refine B.nd Q R.typ ?_; clear B Q; intro u50 q aoq capq s51 _ B Q)
   generalize hb : u50.heap.size = b53
   generalize h : u50.alloc _ = V52
   replace B := B.box h hb
   clear h hb
   have c54 := B.mv2.S.cs B.F.rb; have c55 := B.S.cs B.F.rb
   go_upto_region 35 with (at_builtin; generalize h : V52.alloc _ = V56; replace B := B.mv1.mk1 rfl h; clear h; go_must (refine B.mv3.app rfl _ _ rfl rfl rfl (by have h1 := LNh.out; show _ + 1 ≤ _; omega) ?_); clear B; intro aoL capL L u57 ELL B; have c58 := B.mv2.S.cs B.F.rb)
   clear c54 c55 c58
   generalize h : u57.setCell _ _ = X59
   replace B := B.mv2.s4 h
   clear h
   have c60 := B.S.cs B.F.rb; have c61 := B.cr
   go_wp2_with fail
   exact Br.fin (.mk h.k h.n h.s h.q L) B.mv1.ko p9 (by rw [ELL.out]; exact Q.pr) rfl rfl
 · skip
   have HTX := lh hx
   clear hx
   replace Q : Qr T (dataB E.P (recS E.P g) (E.P.A s.i)) (stp s) := ⟨by rw [Q.eq, rn_good HS.out, rn_good (s := stp s) HS.out]; exact dec_data HTX.out⟩
   have xw_val : ((E.P.T s.i).toList == [118, 97, 108]) = false := by rw [HTX.out, ByteArray.toList_eq]; decide
   have xw_fun : ((E.P.T s.i).toList == [102, 117, 110]) = false := by rw [HTX.out, ByteArray.toList_eq]; decide
   have xw_type : ((E.P.T s.i).toList == [116, 121, 112, 101]) = false := by rw [HTX.out, ByteArray.toList_eq]; decide
   have xw_data : ((E.P.T s.i).toList == [100, 97, 116, 97]) = true := by rw [HTX.out, ByteArray.toList_eq]; decide
   have yw_data : (E.P.T s.i).toList = [100, 97, 116, 97] := by rw [HTX.out, ByteArray.toList_eq]
   have c62 := B.mv1.S.ct B.F.rb
   go_upto_region 22 with fail
   go_wp2_with (go_at_call 147; refine B.ndt Q (lh (HDATA.out (E.P.A s.i))) ?_; clear B Q; intro u63 q aoq capq s64 B Q; have c65 := B.cr)
   exact Br.fin (q) B p9 Q rfl rfl
 · skip
   have HTX := lh hx
   clear hx
   replace Q : Qr T ((conB E.P (recS E.P g) >>= fun c => (pure (.mk 41 (E.P.A s.i) c.s c.q c.args) : M Ty))) (stp s) := ⟨by rw [Q.eq, rn_good HS.out, rn_good (s := stp s) HS.out]; exact dec_exception HTX.out⟩
   have xw_val : ((E.P.T s.i).toList == [118, 97, 108]) = false := by rw [HTX.out, ByteArray.toList_eq]; decide
   have xw_fun : ((E.P.T s.i).toList == [102, 117, 110]) = false := by rw [HTX.out, ByteArray.toList_eq]; decide
   have xw_type : ((E.P.T s.i).toList == [116, 121, 112, 101]) = false := by rw [HTX.out, ByteArray.toList_eq]; decide
   have xw_data : ((E.P.T s.i).toList == [100, 97, 116, 97]) = false := by rw [HTX.out, ByteArray.toList_eq]; decide
   have xw_exception : ((E.P.T s.i).toList == [101, 120, 99, 101, 112, 116, 105, 111, 110]) = true := by rw [HTX.out, ByteArray.toList_eq]; decide
   have yw_exception : (E.P.T s.i).toList = [101, 120, 99, 101, 112, 116, 105, 111, 110] := by rw [HTX.out, ByteArray.toList_eq]
   have c66 := B.mv1.S.ct B.F.rb
   go_upto_region 24 with fail
   go_upto_region 25 with (go_at_call 148; refine B.nd Q HCON ?_; clear B Q; intro u67 c aoc capc s68 _ B Q; have c69 := B.mv1.S.cs B.F.rb)
   clear c66 c69
   generalize h : ((((u67.setCell _ _).setCell _ _).setCell _ _).setCell _ _).setCell _ _ = X70
   replace B := B.mv1.sn h
   clear h
   have c71 := B.S.cs B.F.rb; have c72 := B.mv2.S.ct B.F.rb
   go_upto_region 26 with fail
   clear c71 c72
   generalize h : X70.setCell _ _ = X73
   replace B := B.s0 h
   clear h
   have c74 := B.S.cs B.F.rb; have c75 := B.mv2.S.ct B.F.rb
   go_upto_region 35 with fail
   clear c74 c75
   generalize h : X73.setCell _ _ = X76
   replace B := B.s1 h
   clear h
   have c77 := B.S.cs B.F.rb; have c78 := B.cr
   go_wp2_with fail
   exact Br.fin (.mk 41 (E.P.A s.i) c.s c.q c.args) B.mv1 p9 Q.pr rfl rfl
 · skip
   have HTX := lh hx
   clear hx
   replace Q : Qr T (structureB E.P (recS E.P g) (E.P.A s.i)) (stp s) := ⟨by rw [Q.eq, rn_good HS.out, rn_good (s := stp s) HS.out]; exact dec_structure HTX.out⟩
   have xw_val : ((E.P.T s.i).toList == [118, 97, 108]) = false := by rw [HTX.out, ByteArray.toList_eq]; decide
   have xw_fun : ((E.P.T s.i).toList == [102, 117, 110]) = false := by rw [HTX.out, ByteArray.toList_eq]; decide
   have xw_type : ((E.P.T s.i).toList == [116, 121, 112, 101]) = false := by rw [HTX.out, ByteArray.toList_eq]; decide
   have xw_data : ((E.P.T s.i).toList == [100, 97, 116, 97]) = false := by rw [HTX.out, ByteArray.toList_eq]; decide
   have xw_exception : ((E.P.T s.i).toList == [101, 120, 99, 101, 112, 116, 105, 111, 110]) = false := by rw [HTX.out, ByteArray.toList_eq]; decide
   have xw_structure : ((E.P.T s.i).toList == [115, 116, 114, 117, 99, 116, 117, 114, 101]) = true := by rw [HTX.out, ByteArray.toList_eq]; decide
   have yw_structure : (E.P.T s.i).toList = [115, 116, 114, 117, 99, 116, 117, 114, 101] := by rw [HTX.out, ByteArray.toList_eq]
   have c79 := B.mv1.S.ct B.F.rb
   go_upto_region 28 with fail
   go_wp2_with (go_at_call 149; refine B.ndt Q (lh (HSTRU.out (E.P.A s.i))) ?_; clear B Q; intro u80 q aoq capq s81 B Q; have c82 := B.cr)
   exact Br.fin (q) B p9 Q rfl rfl
 · skip
   have HTX := lh hx
   clear hx
   replace Q : Qr T ((kindD E.P 4 >>= fun x => mustD E.P s_eq >>= fun _ => readS E.P g .sig >>= fun q => (pure (.mk 43 (E.P.A s.i) x 0 [q]) : M Ty))) (stp s) := ⟨by rw [Q.eq, rn_good HS.out, rn_good (s := stp s) HS.out]; exact dec_signature HTX.out⟩
   have xw_val : ((E.P.T s.i).toList == [118, 97, 108]) = false := by rw [HTX.out, ByteArray.toList_eq]; decide
   have xw_fun : ((E.P.T s.i).toList == [102, 117, 110]) = false := by rw [HTX.out, ByteArray.toList_eq]; decide
   have xw_type : ((E.P.T s.i).toList == [116, 121, 112, 101]) = false := by rw [HTX.out, ByteArray.toList_eq]; decide
   have xw_data : ((E.P.T s.i).toList == [100, 97, 116, 97]) = false := by rw [HTX.out, ByteArray.toList_eq]; decide
   have xw_exception : ((E.P.T s.i).toList == [101, 120, 99, 101, 112, 116, 105, 111, 110]) = false := by rw [HTX.out, ByteArray.toList_eq]; decide
   have xw_structure : ((E.P.T s.i).toList == [115, 116, 114, 117, 99, 116, 117, 114, 101]) = false := by rw [HTX.out, ByteArray.toList_eq]; decide
   have xw_signature : ((E.P.T s.i).toList == [115, 105, 103, 110, 97, 116, 117, 114, 101]) = true := by rw [HTX.out, ByteArray.toList_eq]; decide
   have yw_signature : (E.P.T s.i).toList = [115, 105, 103, 110, 97, 116, 117, 114, 101] := by rw [HTX.out, ByteArray.toList_eq]
   have c83 := B.mv1.S.ct B.F.rb
   go_upto_region 30 with fail
   clear c83
   have c84 := B.S.cs B.F.rb; have c85 := B.mv1.S.ct B.F.rb
   go_upto_region 31 with fail
   clear c84 c85
   generalize h : V9.setCell _ _ = X86
   replace B := B.s0 h
   clear h
   go_upto_region 32 with (go_at_call 150; refine B.str Q (hget4 E d) ?_; clear B Q; intro u87 x s88 B Q; have c89 := B.S.cs B.F.rb)
   clear c89
   generalize h : u87.setCell _ _ = X90
   replace B := B.s2 h
   clear h
   go_upto_region 33 with (go_at_call 144; refine B.un Q (hmust E d s_eq) ?_; clear B Q; intro u91 _ _ s92 B Q)
   go_upto_region 34 with (go_at_call 151; refine B.nd Q R.sig ?_; clear B Q; intro u93 q aoq capq s94 _ B Q)
   generalize hb : u93.heap.size = b96
   generalize h : u93.alloc _ = V95
   replace B := B.box h hb
   clear h hb
   have c97 := B.mv2.S.cs B.F.rb; have c98 := B.S.cs B.F.rb
   go_upto_region 35 with fail
   clear c97 c98
   generalize hz : V95.heap.size = z99
   generalize h : V95.setCell _ _ = X100
   replace B := B.mv2.s4 h
   replace hz := size_set h hz
   clear h
   generalize h : X100.alloc _ = V101
   replace B := B.mv2.mk1 hz h
   clear h
   clear hz
   have c102 := B.mv1.S.cs B.F.rb; have c103 := B.cr
   go_wp2_with fail
   exact Br.fin (.mk 43 (E.P.A s.i) x 0 [q]) B.ko p9 Q.pr rfl rfl
 · skip
   have HTX := lh hx
   clear hx
   replace Q : Qr T ((pathD E.P 4 >>= fun p => (pure (.mk 44 (E.P.A s.i) p.1 0 []) : M Ty))) (stp s) := ⟨by rw [Q.eq, rn_good HS.out, rn_good (s := stp s) HS.out]; exact dec_open HTX.out⟩
   have xw_val : ((E.P.T s.i).toList == [118, 97, 108]) = false := by rw [HTX.out, ByteArray.toList_eq]; decide
   have xw_fun : ((E.P.T s.i).toList == [102, 117, 110]) = false := by rw [HTX.out, ByteArray.toList_eq]; decide
   have xw_type : ((E.P.T s.i).toList == [116, 121, 112, 101]) = false := by rw [HTX.out, ByteArray.toList_eq]; decide
   have xw_data : ((E.P.T s.i).toList == [100, 97, 116, 97]) = false := by rw [HTX.out, ByteArray.toList_eq]; decide
   have xw_exception : ((E.P.T s.i).toList == [101, 120, 99, 101, 112, 116, 105, 111, 110]) = false := by rw [HTX.out, ByteArray.toList_eq]; decide
   have xw_structure : ((E.P.T s.i).toList == [115, 116, 114, 117, 99, 116, 117, 114, 101]) = false := by rw [HTX.out, ByteArray.toList_eq]; decide
   have xw_signature : ((E.P.T s.i).toList == [115, 105, 103, 110, 97, 116, 117, 114, 101]) = false := by rw [HTX.out, ByteArray.toList_eq]; decide
   have c104 := B.mv1.S.ct B.F.rb
   go_upto_region 5 with fail
   clear c104
   have c105 := B.S.cs B.F.rb; have c106 := B.mv1.S.ct B.F.rb
   go_upto_region 6 with fail
   clear c105 c106
   generalize h : V9.setCell _ _ = X107
   replace B := B.s0 h
   clear h
   go_upto_region 35 with (go_at_call 152; refine B.pth Q (hpath4 E d) ?_; clear B Q; intro u108 p s109 _ B Q; have c110 := B.S.cs B.F.rb)
   clear c110
   generalize h : u108.setCell _ _ = X111
   replace B := B.s2 h
   clear h
   have c112 := B.S.cs B.F.rb; have c113 := B.cr
   go_wp2_with fail
   exact Br.fin (.mk 44 (E.P.A s.i) p.1 0 []) B.nilk p9 Q.pr rfl rfl
end Go.Proofs.YthehjeeiodbkjaaGreatDoor
