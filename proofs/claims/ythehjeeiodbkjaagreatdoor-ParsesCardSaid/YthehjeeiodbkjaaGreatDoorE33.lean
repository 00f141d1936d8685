/-
  Proved: the contract of the document's data; the contract of the document's spec; the contract of the document's sigs. Conditions: the reader as it stands in memory; what it reads within.
-/
import Derived.Test.YthehjeeiodbkjaaGreatDoorE29
import Derived.Test.YthehjeeiodbkjaaGreatDoorE30
import Derived.Test.YthehjeeiodbkjaaGreatDoorE31
set_option linter.unusedSimpArgs false
set_option linter.unusedVariables false
set_option maxRecDepth 100000
set_option maxHeartbeats 16000000
namespace Go.Proofs.YthehjeeiodbkjaaGreatDoor
open Go.RowKit
theorem cdata_any (E : Env) (g : Nat) (RA : RAll E g) (w : World) (s : RS) (aa : Nat) (h : Rr E w s (60 - g)) : Calls Tryz.prog 147 #[pr E, .int .i64 (aa : Int)] w (RPost E (60 - g) w (rn (dataB E.P (recS E.P g) aa) s) (NdQ w)) := by
 refine Br.go (m := rowD E.P (dbindB E.P (recS E.P g)) w_and >>= (fun l : List Ty => (pure (.mk 38 aa ⟨#[]⟩ 0 l) : M Ty))) h RA ?_
 intro d T W R hW B Q hlr hN
 have HHEAD := lh (fun kk aa w s h => chead_any E g RA w s kk aa h)
 have HCON := at_d R.hd (ccon_any E g RA)
 have HST := lh (show ∀ i x j, dbindB E.P (recS E.P g) i = .ok x j → i + 1 ≤ j from fun i x j e => st_dbind E.P _ (st_rec E.P g).2 i x j e)
 have HSC := lh (show ∀ i x j, conB E.P (recS E.P g) i = .ok x j → i + 1 ≤ j from fun i x j e => st_con E.P _ (st_rec E.P g).2 i x j e)
 rw [← R.hd] at HHEAD
 clear h RA
 unfold pr at HHEAD HCON ⊢
 go_enter Tryz.func147, Tryz.ntmps147
 obtain ⟨Q9, p9⟩ := Po9.ex Tryz.f147 E d w T (NdQ w)
 rw [p9.eq]
 go_upto_region 1 with fail
 clear hW
 go_upto_region 2 with fail
 generalize hb : W.heap.size = b2
 generalize h : W.alloc _ = V1
 replace B := B.box h hb
 clear h hb
 have H := sepw_start Q.eq
 go_upto_region 3 with fail
 go_loopw [6] (fun va wr => ∃ (l : List Ty) (ao : Option Addr) (cap : Nat) (b : Bool) (t : RS) (f : Nat), va = .bool b ∧ SepW E.P (dbindB E.P (recS E.P g)) w_and (fun l : List Ty => (pure (.mk 38 aa ⟨#[]⟩ 0 l) : M Ty)) T l b t f ∧ Br E w d wr t [.nv b2 (.int .i64 38) (.int .i64 (aa : Int)) (.string ⟨#[]⟩) (.int .i64 0) (.slice ao l.length cap), .ow (.slice ao l.length cap) l] ∧ (b = true → l.length ≤ 200000)) (fun va wr => leftOf E.P.toks.length wr E.rb + boolW va)
 case atStart => exact ⟨[], none, 0, _, _, _, rfl, H, B.nilo.mv1, fun _ => Nat.zero_le _⟩
 case round =>
  clear H B Q
  obtain ⟨l, ao, cap, b, t, f, rfl, H, B, hln⟩ := hrel
  have HLN := lh hln
  clear hln
  cases b with
  | false =>
   have Q : Qr T ((fun l : List Ty => (pure (.mk 38 aa ⟨#[]⟩ 0 l) : M Ty)) l) t := ⟨H.done⟩
   go_upto_region 15 with fail
   have c3 := B.S.cs B.F.rb; have c4 := B.cr
   go_wp2_with fail
   exact Br.fin (.mk 38 aa ⟨#[]⟩ 0 l) B.mv1.ko p9 Q.pr rfl rfl
  | true =>
   have R0 := lh B.F.R
   have HO := lh H
   clear H
   have HLE : Hid (l.length ≤ 200000) := lh (HLN.out rfl)
   go_upto_region 4 with fail
   obtain ⟨T2, hT2⟩ : ∃ T2, T2 = rn (dbindB E.P (recS E.P g)) t := ⟨_, rfl⟩
   have HT2 := lh hT2
   have Q : Qr T2 (headB E.P 39 (E.P.A t.i) >>= fun h => mustD E.P s_eq >>= fun _ => rowD E.P (conB E.P (recS E.P g)) s_bar >>= (fun m : List Ty => (pure (.mk h.k h.n h.s h.q (h.args ++ m)) : M Ty))) t := ⟨hT2⟩
   clear hT2
   go_upto_region 5 with (first | (go_at_call 146; refine B.nb Q (lh (HHEAD.out 39 (E.P.A t.i))) ?_; clear B Q; intro u7 h aoh caph s8 LNh _ B Q) | (go_at_call 102; refine B.now ?_; clear B; intro u5 B; have f6 := tk_fields E.P t.i))
   clear f6
   generalize hb : u7.heap.size = b10
   generalize h : u7.alloc _ = V9
   replace B := B.box h hb
   clear h hb
   go_upto_region 6 with (go_at_call 144; refine B.un Q (hmust E d s_eq) ?_; clear B Q; intro u11 _ _ s12 B Q)
   go_upto_region 7 with (go_at_call 148; refine B.ndx HCON ?_; clear B; intro u13 c aoc capc s14 hl B; have HLc := lh hl; clear hl)
   generalize hb : u13.heap.size = b16
   generalize h : u13.alloc _ = V15
   replace B := B.box h hb
   clear h hb
   have c17 := B.mv2.S.cs B.F.rb; have c18 := B.S.cs B.F.rb
   go_upto_region 8 with (at_builtin; generalize h : V15.alloc _ = V19; replace B := B.mv1.mk1 rfl h; clear h; go_must (refine B.mv3.app rfl _ _ rfl rfl rfl (by have h1 := LNh.out; show _ + 1 ≤ _; omega) ?_); clear B; intro aoL capL L u20 ELL B; have c21 := B.mv2.S.cs B.F.rb)
   clear c17 c18 c21
   generalize h : u20.setCell _ _ = X22
   replace B := B.mv2.s4 h
   clear h
   obtain ⟨f0, H⟩ := sep_first Q HLc.out HSC.out B.F.R.le
   go_upto_region 9 with (go_at_call 153; refine B.eatg s_bar ?_; clear B; intro u23 B)
   go_loopw [9] (fun va wr => ∃ (m q : List Ty) (ao2 : Option Addr) (cap2 : Nat) (b : Bool) (t2 : RS) (f2 : Nat) (c0 : Ty) (ac : Option Addr) (cc : Nat), va = .bool b ∧ q = h.args ++ m ∧ SepAt E.P (conB E.P (recS E.P g)) s_bar (fun m : List Ty => (pure (.mk h.k h.n h.s h.q (h.args ++ m)) : M Ty)) T2 m b t2 f2 ∧ Br E w d wr t2 [.ow (.slice ao2 q.length cap2) q, .nv b10 (.int .i64 h.k) (.int .i64 h.n) (.string h.s) (.int .i64 h.q) (.slice ao2 q.length cap2), .nv b16 (.int .i64 c0.k) (.int .i64 c0.n) (.string c0.s) (.int .i64 c0.q) (.slice ac c0.args.length cc), .nv b2 (.int .i64 38) (.int .i64 (aa : Int)) (.string ⟨#[]⟩) (.int .i64 0) (.slice ao l.length cap), .ow (.slice ao l.length cap) l]) (fun va wr => leftOf E.P.toks.length wr E.rb)
   case atStart => exact ⟨[c], L, aoL, capL, _, _, f0, c, aoc, capc, rfl, ELL.out, H, B.mv4.mv4.mv4.mv3.mv4⟩
   case round =>
    clear H Q B HLc
    obtain ⟨m, q, ao2, cap2, b, t2, f2, c0, ac, cc, rfl, hq, H, B⟩ := hrel
    have HQ := lh hq
    clear hq
    cases b with
    | true =>
     have R1 := lh B.F.R
     have HG := lh (H.le R1.out)
     have HLQ : Hid (q.length ≤ 400000) := lh (by have h1 := HG.out.2; have h2 := LNh.out; rw [HQ.out, List.length_append]; omega)
     have HI := lh H
     clear H
     go_upto_region 11 with (go_at_call 148; refine B.ndx HCON ?_; clear B; intro u24 c2 aoc2 capc2 s25 hl B; have HLc2 := lh hl; clear hl; have c26 := B.mv3.S.cs B.F.rb)
     clear c26
     generalize h : ((((u24.setCell _ _).setCell _ _).setCell _ _).setCell _ _).setCell _ _ = X27
     replace B := B.mv3.sn h
     clear h
     have c28 := B.mv3.S.cs B.F.rb; have c29 := B.S.cs B.F.rb
     go_upto_region 12 with (at_builtin; generalize h : X27.alloc _ = V30; replace B := B.mv1.mk1 rfl h; clear h; go_must (refine B.mv2.app rfl _ _ rfl rfl rfl (by have h1 := HLQ.out; show _ + 1 ≤ _; omega) ?_); clear B; intro aoL2 capL2 L2 u31 ELL2 B; have c32 := B.mv2.S.cs B.F.rb)
     clear c28 c29 c32
     generalize h : u31.setCell _ _ = X33
     replace B := B.mv2.s4 h
     clear h
     obtain ⟨⟨f3, H⟩, h4⟩ := HI.out.next HLc2.out HSC.out B.F.R.le
     have R4 := lh h4
     clear h4
     go_wp2_with (go_at_call 153; refine B.eatg s_bar ?_; clear B; intro u34 B)
     go_roundw
     case rel => exact ⟨m ++ [c2], L2, aoL2, capL2, _, _, f3, c2, aoc2, capc2, rfl, by rw [ELL2.out, HQ.out, List.append_assoc], H, B.mv4.mv4.mv4.mv3.mv4⟩
     case measure => exact left_less R1.out B.F.R HG.out.1 eat_after R4.out
    | false =>
     have HON : Hid (Rl (rn (dbindB E.P (recS E.P g)) t) (.mk h.k h.n h.s h.q q) t2) := lh (by rw [← HT2.out, HQ.out]; exact H.end.pr)
     clear H
     go_upto_region 13 with fail
     replace B := B.mv2.dr
     have c35 := B.mv1.S.cs B.F.rb; have c36 := B.mv2.S.cs B.F.rb
     go_upto_region 14 with (at_builtin; generalize h : wr.alloc _ = V37; replace B := B.ko.mkl rfl h; clear h; go_must (refine B.mv3.app rfl _ _ rfl rfl rfl (by have h1 := HLE.out; show _ + 1 ≤ _; omega) ?_); clear B; intro aoL3 capL3 L3 u38 ELL3 B; have c39 := B.mv2.S.cs B.F.rb)
     clear c35 c36 c39
     generalize h : u38.setCell _ _ = X40
     replace B := B.mv2.s4 h
     clear h
     obtain ⟨⟨f4, H⟩, h4⟩ := HO.out.next HON.out HST.out B.F.R.le
     rw [← ELL3.out] at H
     have R4 := lh h4
     clear h4
     have H2 := lh H
     clear H
     go_wp2_with (go_at_call 153; refine B.eatg w_and ?_; clear B; intro u41 B)
     go_roundw
     case rel => exact ⟨L3, aoL3, capL3, _, _, f4, rfl, H2.out.w, B.mv2.dr.mv1.mv1, fun hb => by have h1 := (H2.out.fl (H2.out.go hb)).2; have h2 := B.F.R.le; omega⟩
     case measure => exact leftw_less R0.out B.F.R H2.out.go (fun h0 => rl_back HON.out (eat_after h0).1) eat_after R4.out
theorem spec_no {P : Src} {R : Rec} {i : Nat} (h : oneD P [w_val, w_type, w_data, w_exception, w_structure] i = false) : specB P R i = failD P 4 i := by
 have hn : ∀ x ∈ [w_val, w_type, w_data, w_exception, w_structure], ¬ isD P x i = true := fun x hx h9 => by
  unfold isD at h9
  unfold oneD at h
  rw [Bool.and_eq_true] at h9
  rw [h9.1, Bool.true_and] at h
  exact List.any_eq_false.1 h x hx h9.2
 unfold specB
 rw [if_neg (hn _ (by simp)), if_neg (hn _ (by simp)), if_neg (hn _ (by simp)), if_neg (hn _ (by simp)), if_neg (hn _ (by simp))]
theorem spec_one {P : Src} {i : Nat} (h : oneD P [w_val, w_type, w_data, w_exception, w_structure] i = true) : (P.K i = 6 ∨ P.K i = 7) ∧ (P.T i = w_val ∨ P.T i = w_type ∨ P.T i = w_data ∨ P.T i = w_exception ∨ P.T i = w_structure) := by
 unfold oneD at h
 simp only [Bool.and_eq_true, decide_eq_true_eq, List.any_cons, List.any_nil, Bool.or_eq_true, Bool.or_false] at h
 refine ⟨h.1, ?_⟩
 rcases h.2 with h | h | h | h | h <;> simp [h]
theorem spec_val {P : Src} {R : Rec} {i : Nat} (hk : P.K i = 6 ∨ P.K i = 7) (h : P.T i = w_val) : specB P R i = (kindD P 3 >>= fun x => mustD P s_col >>= fun _ => R.go .typ >>= fun t => (pure (.mk 49 (P.A i) x 0 [t]) : M Ty)) (i + 1) := by
 unfold specB
 rw [if_pos (by rw [isD_w hk, h]; decide)]
theorem spec_type {P : Src} {R : Rec} {i : Nat} (hk : P.K i = 6 ∨ P.K i = 7) (h : P.T i = w_type) : specB P R i = (headB P 50 (P.A i) >>= fun h => eatD P s_eq >>= fun e => if e = true then (R.go .typ >>= fun t => (pure (.mk h.k h.n h.s h.q (h.args ++ [t])) : M Ty)) else (pure h : M Ty)) (i + 1) := by
 unfold specB
 rw [if_neg (by rw [isD_w hk, h]; decide), if_pos (by rw [isD_w hk, h]; decide)]
theorem spec_data {P : Src} {R : Rec} {i : Nat} (hk : P.K i = 6 ∨ P.K i = 7) (h : P.T i = w_data) : specB P R i = dataB P R (P.A i) (i + 1) := by
 unfold specB
 rw [if_neg (by rw [isD_w hk, h]; decide), if_neg (by rw [isD_w hk, h]; decide), if_pos (by rw [isD_w hk, h]; decide)]
theorem spec_exception {P : Src} {R : Rec} {i : Nat} (hk : P.K i = 6 ∨ P.K i = 7) (h : P.T i = w_exception) : specB P R i = (conB P R >>= fun c => (pure (.mk 41 (P.A i) c.s c.q c.args) : M Ty)) (i + 1) := by
 unfold specB
 rw [if_neg (by rw [isD_w hk, h]; decide), if_neg (by rw [isD_w hk, h]; decide), if_neg (by rw [isD_w hk, h]; decide), if_pos (by rw [isD_w hk, h]; decide)]
theorem spec_structure {P : Src} {R : Rec} {i : Nat} (hk : P.K i = 6 ∨ P.K i = 7) (h : P.T i = w_structure) : specB P R i = (kindD P 4 >>= fun x => mustD P s_col >>= fun _ => R.go .sig >>= fun t => (pure (.mk 51 (P.A i) x 0 [t]) : M Ty)) (i + 1) := by
 unfold specB
 rw [if_neg (by rw [isD_w hk, h]; decide), if_neg (by rw [isD_w hk, h]; decide), if_neg (by rw [isD_w hk, h]; decide), if_neg (by rw [isD_w hk, h]; decide), if_pos (by rw [isD_w hk, h]; decide)]
theorem cspec_any : CtN 199 fun E g => specB E.P (recS E.P g) := by
 intro E g RA w s h
 refine Br.go (m := specB E.P (recS E.P g)) h RA ?_
 intro d T W R hW B Q hlr hN
 have HCON := at_d R.hd (ccon_any E g RA)
 have HHEAD := lh (fun kk aa w s h => chead_any E g RA w s kk aa h)
 have HDATA := lh (fun aa w s h => cdata_any E g RA w s aa h)
 rw [← R.hd] at HHEAD HDATA
 clear h RA
 unfold pr at HCON HHEAD HDATA ⊢
 go_enter Tryz.func199, Tryz.ntmps199
 obtain ⟨Q9, p9⟩ := Po9.ex Tryz.f199 E d w T (NdQ w)
 rw [p9.eq]
 go_upto_region 1 with fail
 clear hW
 go_upto_region 2 with (go_at_call 102; refine B.now ?_; clear B; intro u1 B; have f2 := tk_fields E.P s.i)
 clear f2
 generalize hb : u1.heap.size = b4
 generalize h : u1.alloc _ = V3
 replace B := B.boxt h hb
 clear h hb
 have c5 := B.S.ct B.F.rb
 go_upto_region 3 with fail
 clear c5
 generalize hb : V3.heap.size = b7
 generalize h : V3.alloc _ = V6
 replace B := B.box h hb
 clear h hb
 go_upto_region 4 with (go_at_call 104; refine B.ask (rone_new E V6 _ s d [w_val, w_type, w_data, w_exception, w_structure] _ 5 rfl rfl (by decide) B.F.R rfl) ?_; clear B; intro u8 B)
 generalize hb : oneb E.P [w_val, w_type, w_data, w_exception, w_structure] s = b
 have Hb := lh hb
 clear hb
 cases b with
 | false =>
  replace Q : Qr T (failD E.P 4 : M Ty) s := ⟨by
   rw [Q.eq]
   by_cases hs : s.k = 0
   · have h := Hb.out
     unfold oneb at h
     rw [decide_eq_true hs, Bool.true_and] at h
     rw [rn_good hs, rn_good hs]; exact spec_no h
   · rw [rn_lost hs, rn_lost hs]⟩
  go_upto_region 5 with fail
  go_upto_region 6 with (go_at_call 103; have OR := lh B.F.R; refine B.no ?_; clear B; intro u9 v B)
  have c10 := B.S.cs B.F.rb; have c11 := B.cr
  go_wp2_with fail
  exact Br.fin (.mk 0 (E.P.A s.i) ⟨#[]⟩ 0 []) B.nilk p9 (Q.tl (OR.out.no_rl (by decide) _)) rfl rfl
 | true =>
  have HS : Hid (s.k = 0) := lh (oneb_good Hb.out).1
  have HON := lh (spec_one (oneb_good Hb.out).2)
  have HK := lh HON.out.1
  have HK1 : Hid (1 ≤ E.P.K s.i) := lh (by have := HON.out.1; omega)
  rcases HON.out.2 with hx | hx | hx | hx | hx
  · skip
    have HTX := lh hx
    clear hx
    replace Q : Qr T ((kindD E.P 3 >>= fun x => mustD E.P s_col >>= fun _ => readS E.P g .typ >>= fun t => (pure (.mk 49 (E.P.A s.i) x 0 [t]) : M Ty))) (stp s) := ⟨by rw [Q.eq, rn_good HS.out, rn_good (s := stp s) HS.out]; exact spec_val HK.out HTX.out⟩
    have xw_val : ((E.P.T s.i).toList == [118, 97, 108]) = true := by rw [HTX.out, ByteArray.toList_eq]; decide
    have yw_val : (E.P.T s.i).toList = [118, 97, 108] := by rw [HTX.out, ByteArray.toList_eq]
    have c12 := B.F.R.cells
    have c13 : s.i ≤ 100000 := Nat.le_trans B.F.R.le hN
    go_upto_region 8 with fail
    clear c12 c13
    generalize h : u8.setCell _ _ = X14
    replace B := B.step (HK1.out) h
    clear h
    have c15 := B.mv1.S.ct B.F.rb
    go_upto_region 15 with fail
    clear c15
    have c16 := B.S.cs B.F.rb; have c17 := B.mv1.S.ct B.F.rb
    go_upto_region 16 with fail
    clear c16 c17
    generalize h : X14.setCell _ _ = X18
    replace B := B.s0 h
    clear h
    go_upto_region 17 with (go_at_call 150; refine B.str Q (hget3 E d) ?_; clear B Q; intro u19 x s20 B Q; have c21 := B.S.cs B.F.rb)
    clear c21
    generalize h : u19.setCell _ _ = X22
    replace B := B.s2 h
    clear h
    go_upto_region 18 with (go_at_call 144; refine B.un Q (hmust E d s_col) ?_; clear B Q; intro u23 _ _ s24 B Q)
    go_upto_region 19 with (go_at_call 58; refine B.nd Q R.typ ?_; clear B Q; intro u25 q aoq capq s26 _ B Q)
    generalize hb : u25.heap.size = b28
    generalize h : u25.alloc _ = V27
    replace B := B.box h hb
    clear h hb
    have c29 := B.mv2.S.cs B.F.rb; have c30 := B.S.cs B.F.rb
    go_upto_region 32 with fail
    clear c29 c30
    generalize hz : V27.heap.size = z31
    generalize h : V27.setCell _ _ = X32
    replace B := B.mv2.s4 h
    replace hz := size_set h hz
    clear h
    generalize h : X32.alloc _ = V33
    replace B := B.mv2.mk1 hz h
    clear h
    clear hz
    have c34 := B.mv1.S.cs B.F.rb; have c35 := B.cr
    go_wp2_with fail
    exact Br.fin (.mk 49 (E.P.A s.i) x 0 [q]) B.ko p9 Q.pr rfl rfl
  · skip
    have HTX := lh hx
    clear hx
    replace Q : Qr T ((headB E.P 50 (E.P.A s.i) >>= fun h => eatD E.P s_eq >>= fun e => if e = true then (readS E.P g .typ >>= fun t => (pure (.mk h.k h.n h.s h.q (h.args ++ [t])) : M Ty)) else (pure h : M Ty))) (stp s) := ⟨by rw [Q.eq, rn_good HS.out, rn_good (s := stp s) HS.out]; exact spec_type HK.out HTX.out⟩
    have xw_val : ((E.P.T s.i).toList == [118, 97, 108]) = false := by rw [HTX.out, ByteArray.toList_eq]; decide
    have xw_type : ((E.P.T s.i).toList == [116, 121, 112, 101]) = true := by rw [HTX.out, ByteArray.toList_eq]; decide
    have yw_type : (E.P.T s.i).toList = [116, 121, 112, 101] := by rw [HTX.out, ByteArray.toList_eq]
    have c36 := B.F.R.cells
    have c37 : s.i ≤ 100000 := Nat.le_trans B.F.R.le hN
    go_upto_region 8 with fail
    clear c36 c37
    generalize h : u8.setCell _ _ = X38
    replace B := B.step (HK1.out) h
    clear h
    have c39 := B.mv1.S.ct B.F.rb
    go_upto_region 21 with fail
    go_upto_region 22 with (go_at_call 146; refine B.nb Q (lh (HHEAD.out 50 (E.P.A s.i))) ?_; clear B Q; intro u40 h aoh caph s41 LNh _ B Q; have c42 := B.mv1.S.cs B.F.rb)
    clear c39 c42
    generalize h : ((((u40.setCell _ _).setCell _ _).setCell _ _).setCell _ _).setCell _ _ = X43
    replace B := B.mv1.sn h
    clear h
    obtain ⟨b44, P⟩ := B.eatd (sg := s_eq) Q
    clear B Q
    cases b44 with
    | true =>
     go_upto_region 24 with (go_at_call 153; refine P.t ?_; clear P; intro u45 B Q _)
     go_upto_region 25 with (go_at_call 58; refine B.nd Q R.typ ?_; clear B Q; intro u46 q aoq capq s47 _ B Q)
     generalize hb : u46.heap.size = b49
     generalize h : u46.alloc _ = V48
     replace B := B.box h hb
     clear h hb
     have c50 := B.mv2.S.cs B.F.rb; have c51 := B.S.cs B.F.rb
     go_upto_region 32 with (at_builtin; generalize h : V48.alloc _ = V52; replace B := B.mv1.mk1 rfl h; clear h; go_must (refine B.mv3.app rfl _ _ rfl rfl rfl (by have h1 := LNh.out; show _ + 1 ≤ _; omega) ?_); clear B; intro aoL capL L u53 ELL B; have c54 := B.mv2.S.cs B.F.rb)
     clear c50 c51 c54
     generalize h : u53.setCell _ _ = X55
     replace B := B.mv2.s4 h
     clear h
     have c56 := B.S.cs B.F.rb; have c57 := B.cr
     go_wp2_with fail
     exact Br.fin (.mk h.k h.n h.s h.q L) B.mv1.ko p9 (by rw [ELL.out]; exact Q.pr) rfl rfl
    | false =>
     go_upto_region 32 with (go_at_call 153; refine P.f ?_; clear P; intro u58 B Q)
     have c59 := B.S.cs B.F.rb; have c60 := B.cr
     go_wp2_with fail
     exact Br.fin (h) B.mv1.ko p9 Q.pr rfl rfl
  · skip
    have HTX := lh hx
    clear hx
    replace Q : Qr T (dataB E.P (recS E.P g) (E.P.A s.i)) (stp s) := ⟨by rw [Q.eq, rn_good HS.out, rn_good (s := stp s) HS.out]; exact spec_data HK.out HTX.out⟩
    have xw_val : ((E.P.T s.i).toList == [118, 97, 108]) = false := by rw [HTX.out, ByteArray.toList_eq]; decide
    have xw_type : ((E.P.T s.i).toList == [116, 121, 112, 101]) = false := by rw [HTX.out, ByteArray.toList_eq]; decide
    have xw_data : ((E.P.T s.i).toList == [100, 97, 116, 97]) = true := by rw [HTX.out, ByteArray.toList_eq]; decide
    have yw_data : (E.P.T s.i).toList = [100, 97, 116, 97] := by rw [HTX.out, ByteArray.toList_eq]
    have c61 := B.F.R.cells
    have c62 : s.i ≤ 100000 := Nat.le_trans B.F.R.le hN
    go_upto_region 8 with fail
    clear c61 c62
    generalize h : u8.setCell _ _ = X63
    replace B := B.step (HK1.out) h
    clear h
    have c64 := B.mv1.S.ct B.F.rb
    go_upto_region 27 with fail
    go_wp2_with (go_at_call 147; refine B.ndt Q (lh (HDATA.out (E.P.A s.i))) ?_; clear B Q; intro u65 q aoq capq s66 B Q; have c67 := B.cr)
    exact Br.fin (q) B p9 Q rfl rfl
  · skip
    have HTX := lh hx
    clear hx
    replace Q : Qr T ((conB E.P (recS E.P g) >>= fun c => (pure (.mk 41 (E.P.A s.i) c.s c.q c.args) : M Ty))) (stp s) := ⟨by rw [Q.eq, rn_good HS.out, rn_good (s := stp s) HS.out]; exact spec_exception HK.out HTX.out⟩
    have xw_val : ((E.P.T s.i).toList == [118, 97, 108]) = false := by rw [HTX.out, ByteArray.toList_eq]; decide
    have xw_type : ((E.P.T s.i).toList == [116, 121, 112, 101]) = false := by rw [HTX.out, ByteArray.toList_eq]; decide
    have xw_data : ((E.P.T s.i).toList == [100, 97, 116, 97]) = false := by rw [HTX.out, ByteArray.toList_eq]; decide
    have xw_exception : ((E.P.T s.i).toList == [101, 120, 99, 101, 112, 116, 105, 111, 110]) = true := by rw [HTX.out, ByteArray.toList_eq]; decide
    have yw_exception : (E.P.T s.i).toList = [101, 120, 99, 101, 112, 116, 105, 111, 110] := by rw [HTX.out, ByteArray.toList_eq]
    have c68 := B.F.R.cells
    have c69 : s.i ≤ 100000 := Nat.le_trans B.F.R.le hN
    go_upto_region 8 with fail
    clear c68 c69
    generalize h : u8.setCell _ _ = X70
    replace B := B.step (HK1.out) h
    clear h
    have c71 := B.mv1.S.ct B.F.rb
    go_upto_region 29 with fail
    go_upto_region 30 with (go_at_call 148; refine B.nd Q HCON ?_; clear B Q; intro u72 c aoc capc s73 _ B Q; have c74 := B.mv1.S.cs B.F.rb)
    clear c71 c74
    generalize h : ((((u72.setCell _ _).setCell _ _).setCell _ _).setCell _ _).setCell _ _ = X75
    replace B := B.mv1.sn h
    clear h
    have c76 := B.S.cs B.F.rb; have c77 := B.mv2.S.ct B.F.rb
    go_upto_region 31 with fail
    clear c76 c77
    generalize h : X75.setCell _ _ = X78
    replace B := B.s0 h
    clear h
    have c79 := B.S.cs B.F.rb; have c80 := B.mv2.S.ct B.F.rb
    go_upto_region 32 with fail
    clear c79 c80
    generalize h : X78.setCell _ _ = X81
    replace B := B.s1 h
    clear h
    have c82 := B.S.cs B.F.rb; have c83 := B.cr
    go_wp2_with fail
    exact Br.fin (.mk 41 (E.P.A s.i) c.s c.q c.args) B.mv1 p9 Q.pr rfl rfl
  · skip
    have HTX := lh hx
    clear hx
    replace Q : Qr T ((kindD E.P 4 >>= fun x => mustD E.P s_col >>= fun _ => readS E.P g .sig >>= fun t => (pure (.mk 51 (E.P.A s.i) x 0 [t]) : M Ty))) (stp s) := ⟨by rw [Q.eq, rn_good HS.out, rn_good (s := stp s) HS.out]; exact spec_structure HK.out HTX.out⟩
    have xw_val : ((E.P.T s.i).toList == [118, 97, 108]) = false := by rw [HTX.out, ByteArray.toList_eq]; decide
    have xw_type : ((E.P.T s.i).toList == [116, 121, 112, 101]) = false := by rw [HTX.out, ByteArray.toList_eq]; decide
    have xw_data : ((E.P.T s.i).toList == [100, 97, 116, 97]) = false := by rw [HTX.out, ByteArray.toList_eq]; decide
    have xw_exception : ((E.P.T s.i).toList == [101, 120, 99, 101, 112, 116, 105, 111, 110]) = false := by rw [HTX.out, ByteArray.toList_eq]; decide
    have c84 := B.F.R.cells
    have c85 : s.i ≤ 100000 := Nat.le_trans B.F.R.le hN
    go_upto_region 8 with fail
    clear c84 c85
    generalize h : u8.setCell _ _ = X86
    replace B := B.step (HK1.out) h
    clear h
    have c87 := B.mv1.S.ct B.F.rb
    go_upto_region 9 with fail
    clear c87
    have c88 := B.S.cs B.F.rb; have c89 := B.mv1.S.ct B.F.rb
    go_upto_region 10 with fail
    clear c88 c89
    generalize h : X86.setCell _ _ = X90
    replace B := B.s0 h
    clear h
    go_upto_region 11 with (go_at_call 150; refine B.str Q (hget4 E d) ?_; clear B Q; intro u91 x s92 B Q; have c93 := B.S.cs B.F.rb)
    clear c93
    generalize h : u91.setCell _ _ = X94
    replace B := B.s2 h
    clear h
    go_upto_region 12 with (go_at_call 144; refine B.un Q (hmust E d s_col) ?_; clear B Q; intro u95 _ _ s96 B Q)
    go_upto_region 13 with (go_at_call 151; refine B.nd Q R.sig ?_; clear B Q; intro u97 q aoq capq s98 _ B Q)
    generalize hb : u97.heap.size = b100
    generalize h : u97.alloc _ = V99
    replace B := B.box h hb
    clear h hb
    have c101 := B.mv2.S.cs B.F.rb; have c102 := B.S.cs B.F.rb
    go_upto_region 32 with fail
    clear c101 c102
    generalize hz : V99.heap.size = z103
    generalize h : V99.setCell _ _ = X104
    replace B := B.mv2.s4 h
    replace hz := size_set h hz
    clear h
    generalize h : X104.alloc _ = V105
    replace B := B.mv2.mk1 hz h
    clear h
    clear hz
    have c106 := B.mv1.S.cs B.F.rb; have c107 := B.cr
    go_wp2_with fail
    exact Br.fin (.mk 51 (E.P.A s.i) x 0 [q]) B.ko p9 Q.pr rfl rfl
theorem specs_head {β : Type} {P : Src} {R : Rec} {K : List Ty → M β} {T : Res β} {l : List Ty} {s : RS} {f : Nat} (hT : T = rn (specsL P R f l >>= K) s) (hf : s.k = 0 → P.toks.length < s.i + f) (hle : s.i ≤ P.toks.length) (hl : s.k = 0 → l.length ≤ s.i) : ∃ f', T = (if eatb P w_end s = true then rn (K l) (stp s) else rn (specB P R >>= fun x => specsL P R f' (l ++ [x]) >>= K) s) ∧ (s.k = 0 → P.toks.length ≤ s.i + f') := by
 by_cases hs : s.k = 0
 · have h1 := hf hs
   obtain ⟨f, rfl⟩ : ∃ f', f = f' + 1 := ⟨f - 1, by omega⟩
   refine ⟨f, ?_, fun _ => by omega⟩
   have e : eatb P w_end s = isD P w_end s.i := by unfold eatb; rw [decide_eq_true hs, Bool.true_and]
   have e1 : specsL P R (f + 1) l s.i = if isD P w_end s.i = true then .ok l (s.i + 1) else (specB P R >>= fun x => specsL P R f (l ++ [x])) s.i := rfl
   rw [e, hT, rn_good hs]
   show bnd (specsL P R (f + 1) l) K s.i = _
   unfold bnd
   rw [e1]
   by_cases h : isD P w_end s.i = true
   · rw [if_pos h, if_pos h, rn_good (s := stp s) hs]; rfl
   · rw [if_neg h, if_neg h, rn_good hs]
     exact congrFun (bind_assoc' (specB P R) (fun x => specsL P R f (l ++ [x])) K) s.i
 · refine ⟨0, ?_, fun h => absurd h hs⟩
   have e : eatb P w_end s = false := by unfold eatb; rw [decide_eq_false hs, Bool.false_and]
   rw [e, if_neg Bool.false_ne_true, hT, rn_lost hs, rn_lost hs]
/-- specifications: where their loop stands -/
structure SpecAt {β : Type} (P : Src) (R : Rec) (K : List Ty → M β) (T : Res β) (l : List Ty) (b : Bool) (t : RS) (f : Nat) : Prop where
 eq : T = if b = true then rn (K l) t else rn (specB P R >>= fun x => specsL P R f (l ++ [x]) >>= K) t
 fl : t.k = 0 → b = false → P.toks.length ≤ t.i + f ∧ l.length ≤ t.i
theorem SpecAt.of {β : Type} {P : Src} {R : Rec} {K : List Ty → M β} {T : Res β} {l : List Ty} {s : RS} {f : Nat} (hT : T = rn (specsL P R f l >>= K) s) (hf : s.k = 0 → P.toks.length < s.i + f) (hle : s.i ≤ P.toks.length) (hl : s.k = 0 → l.length ≤ s.i) : ∃ f, SpecAt P R K T l (eatb P w_end s) (if eatb P w_end s = true then stp s else s) f := by
 obtain ⟨f1, q1, q2⟩ := specs_head hT hf hle hl
 refine ⟨f1, ?_, fun h0 hb => ?_⟩
 · rw [q1]
   cases eatb P w_end s <;> rfl
 · rw [hb, if_neg Bool.false_ne_true] at h0 ⊢
   exact ⟨q2 h0, hl h0⟩
theorem SpecAt.next {β : Type} {P : Src} {R : Rec} {K : List Ty → M β} {T : Res β} {l : List Ty} {s s1 : RS} {f : Nat} {x : Ty} (h : SpecAt P R K T l false s f) (hs : s.k = 0) (hr : Rl (rn (specB P R) s) x s1) (hst : ∀ i x j, specB P R i = .ok x j → i + 1 ≤ j) (hle : s1.i ≤ P.toks.length) : (∃ f, SpecAt P R K T (l ++ [x]) (eatb P w_end s1) (if eatb P w_end s1 = true then stp s1 else s1) f) ∧ (s1.k = 0 → s.i + 1 ≤ s1.i) := by
 have h1 := rl_step hst hs hr
 have h2 := h.fl hs rfl
 exact ⟨SpecAt.of ((h.eq.trans (if_neg Bool.false_ne_true)).trans (rn_bind hr)) (fun h0 => by have := h1 h0; omega) hle (fun h0 => by have := h1 h0; rw [List.length_append]; simp; omega), h1⟩
theorem csigs_any : CtN 181 fun E g => sigsB E.P (recS E.P g) := by
 intro E g RA w s h
 rw [show rn (sigsB E.P (recS E.P g)) s = rn ((fun i => if isD E.P w_sig i = true then (specsL E.P (recS E.P g) (E.P.toks.length + 1) [] >>= (fun l : List Ty => (pure (.mk 47 (E.P.A s.i) ⟨#[]⟩ 0 l) : M Ty))) (i + 1) else (kindD E.P 4 >>= fun x => (pure (.mk 48 (E.P.A s.i) x 0 []) : M Ty)) i)) s from by by_cases hs : s.k = 0; exact (by rw [rn_good hs, rn_good hs]; rfl); rw [rn_lost hs, rn_lost hs]]
 refine Br.go (m := (fun i => if isD E.P w_sig i = true then (specsL E.P (recS E.P g) (E.P.toks.length + 1) [] >>= (fun l : List Ty => (pure (.mk 47 (E.P.A s.i) ⟨#[]⟩ 0 l) : M Ty))) (i + 1) else (kindD E.P 4 >>= fun x => (pure (.mk 48 (E.P.A s.i) x 0 []) : M Ty)) i)) h RA ?_
 intro d T W R hW B Q hlr hN
 have HSPEC := at_d R.hd (cspec_any E g RA)
 have HST := lh (show ∀ i x j, specB E.P (recS E.P g) i = .ok x j → i + 1 ≤ j from fun i x j e => st_spec E.P _ (st_rec E.P g).2 i x j e)
 clear h RA
 unfold pr at HSPEC ⊢
 go_enter Tryz.func181, Tryz.ntmps181
 obtain ⟨Q9, p9⟩ := Po9.ex Tryz.f181 E d w T (NdQ w)
 rw [p9.eq]
 go_upto_region 1 with fail
 clear hW
 go_upto_region 2 with (go_at_call 102; refine B.now ?_; clear B; intro u1 B; have f2 := tk_fields E.P s.i)
 clear f2
 generalize hb : u1.heap.size = b4
 generalize h : u1.alloc _ = V3
 replace B := B.box h hb
 clear h hb
 obtain ⟨b5, P⟩ := B.eat (sg := w_sig) Q
 clear B Q
 cases b5 with
 | true =>
  go_upto_region 7 with (go_at_call 153; refine P.t ?_; clear P; intro u6 B Q _)
  obtain ⟨f0, H⟩ := SpecAt.of Q.eq (fun _ => by omega) B.F.R.le (fun _ => Nat.zero_le _)
  go_upto_region 8 with (go_at_call 153; refine B.eatg w_end ?_; clear B; intro u7 B)
  go_loopw [5] (fun va wr => ∃ (l : List Ty) (ao : Option Addr) (cap : Nat) (b : Bool) (t : RS) (f : Nat), va = .bool b ∧ SpecAt E.P (recS E.P g) (fun l : List Ty => (pure (.mk 47 (E.P.A s.i) ⟨#[]⟩ 0 l) : M Ty)) T l b t f ∧ Br E w d wr t [.nv b4 (.int .i64 47) (.int .i64 (E.P.A s.i : Int)) (.string ⟨#[]⟩) (.int .i64 0) (.slice ao l.length cap), .ow (.slice ao l.length cap) l]) (fun va wr => leftOf E.P.toks.length wr E.rb)
  case atStart => exact ⟨[], none, 0, _, _, f0, rfl, H, B.nilo.mv1⟩
  case round =>
   clear H B Q
   obtain ⟨l, ao, cap, b, t, f, rfl, h, B⟩ := hrel
   have H := lh h
   clear h
   cases b with
   | true =>
    have Q : Qr T ((fun l : List Ty => (pure (.mk 47 (E.P.A s.i) ⟨#[]⟩ 0 l) : M Ty)) l) t := ⟨H.out.eq.trans (if_pos rfl)⟩
    go_upto_region 12 with fail
    have c8 := B.S.cs B.F.rb; have c9 := B.cr
    go_wp2_with fail
    exact Br.fin (.mk 47 (E.P.A s.i) ⟨#[]⟩ 0 l) B.mv1.ko p9 Q.pr rfl rfl
   | false =>
    by_cases hs : t.k = 0
    · have e1 : ((t.k : Int) == 0) = true := by simp [hs]
      have HS := lh hs
      clear hs
      have R0 := lh B.F.R
      have HLN : Hid (l.length ≤ 100001) := lh (by have h1 := (H.out.fl HS.out rfl).2; have h2 := R0.out.le; omega)
      have c10 := B.F.R.cells
      go_upto_region 9 with fail
      clear c10
      go_upto_region 10 with (go_at_call 199; refine B.ndx HSPEC ?_; clear B; intro u11 q aoq capq s12 hl B; have HLq := lh hl; clear hl)
      generalize hb : u11.heap.size = b14
      generalize h : u11.alloc _ = V13
      replace B := B.box h hb
      clear h hb
      have c15 := B.mv2.S.cs B.F.rb; have c16 := B.S.cs B.F.rb
      go_upto_region 11 with (at_builtin; generalize h : V13.alloc _ = V17; replace B := B.mv1.mk1 rfl h; clear h; go_must (refine B.mv3.app rfl _ _ rfl rfl rfl (by have h1 := HLN.out; show _ + 1 ≤ _; omega) ?_); clear B; intro aoL capL L u18 ELL B; have c19 := B.mv2.S.cs B.F.rb)
      clear c15 c16 c19
      generalize h : u18.setCell _ _ = X20
      replace B := B.mv2.s4 h
      clear h
      obtain ⟨⟨f1, h⟩, h4⟩ := H.out.next HS.out HLq.out HST.out B.F.R.le
      rw [← ELL.out] at h
      have H2 := lh h
      have R4 := lh h4
      clear h h4
      go_wp2_with (go_at_call 153; refine B.eatg w_end ?_; clear B; intro u21 B)
      go_roundw
      case rel => exact ⟨L, aoL, capL, _, _, f1, rfl, H2.out, B.mv2.dr.mv1.mv1⟩
      case measure => exact left_less R0.out B.F.R HS.out eat_after R4.out
    · have e1 : ((t.k : Int) == 0) = false := by simp [hs]
      have HS := lh hs
      clear hs
      have Q : Qr T ((fun l : List Ty => (pure (.mk 47 (E.P.A s.i) ⟨#[]⟩ 0 l) : M Ty)) l) t := ⟨(H.out.eq.trans (if_neg Bool.false_ne_true)).trans (by rw [rn_lost HS.out, rn_lost HS.out])⟩
      have c22 := B.F.R.cells
      go_upto_region 12 with fail
      clear c22
      have c23 := B.S.cs B.F.rb; have c24 := B.cr
      go_wp2_with fail
      exact Br.fin (.mk 47 (E.P.A s.i) ⟨#[]⟩ 0 l) B.mv1.ko p9 Q.pr rfl rfl
 | false =>
  go_upto_region 4 with (go_at_call 153; refine P.f ?_; clear P; intro u25 B Q)
  have c26 := B.S.cs B.F.rb
  go_upto_region 5 with fail
  clear c26
  generalize h : u25.setCell _ _ = X27
  replace B := B.s0 h
  clear h
  go_upto_region 6 with (go_at_call 150; refine B.str Q (hget4 E d) ?_; clear B Q; intro u28 x s29 B Q; have c30 := B.S.cs B.F.rb)
  clear c30
  generalize h : u28.setCell _ _ = X31
  replace B := B.s2 h
  clear h
  have c32 := B.S.cs B.F.rb; have c33 := B.cr
  go_wp2_with fail
  exact Br.fin (.mk 48 (E.P.A s.i) x 0 []) B.nilk p9 Q.pr rfl rfl
end Go.Proofs.YthehjeeiodbkjaaGreatDoor
