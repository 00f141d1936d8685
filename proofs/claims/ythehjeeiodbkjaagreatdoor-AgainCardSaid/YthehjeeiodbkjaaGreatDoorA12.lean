/-
  Proved: the contracts of the reader's body, structure, spec and apply; the contract of joined; steps of a walk over rows of plain cells of the call's own; the contract of the reader's prefix; the contract of the reader's apply. Conditions: the reader as it stands in memory; what the reader reads within.
-/
import Derived.Test.YthehjeeiodbkjaaGreatDoorA01
import Derived.Test.YthehjeeiodbkjaaGreatDoorA11
import Derived.Test.YthehjeeiodbkjaaGreatDoorA04
import Derived.Test.YthehjeeiodbkjaaGreatDoorA08
set_option linter.unusedSimpArgs false
set_option linter.unusedVariables false
set_option linter.unusedSectionVars false
set_option maxRecDepth 100000
set_option maxHeartbeats 16000000
namespace Go.Proofs.YthehjeeiodbkjaaGreatDoor
open Go.RowKit
theorem pbody_any : CpN 163 fun E g => bodyB E.P (recS E.P g) := by
 intro E g PA w i h
 refine Bp.go (m := fun q => if isD E.P w_struct q = true then (decsB E.P (recS E.P g) 1 >>= fun l => mustD E.P w_end >>= fun _ => (pure (.mk 45 (E.P.A i) ⟨#[]⟩ 0 l) : M Ty)) (q + 1) else (pathD E.P 4 >>= fun p => (ret (.mk 46 (E.P.A i) p.1 0 []) : M Ty)) q) h PA ?_
 intro d T W R hW B Q hlr hN
 have HDECS := at_p R.hd (fun w j h => decs_any E g PA w j 1 (by decide) h)
 clear h PA
 unfold pr at HDECS ⊢
 go_enter Tryz.func163, Tryz.ntmps163
 obtain ⟨R9, B9, p9, hq⟩ := Pn9.ex Tryz.f163 E d w T (NdQ w)
 refine wp_mono (Q := PQ R9 B9) ?_ hq
 clear hq
 go_upto_region 1 with fail
 clear hW
 go_upto_region 2 with (first | (go_at_call 28; refine B.pnode ?_; clear B; intro u3 B) | (go_at_call 35; refine B.pnow ?_; clear B; intro u1 B; have f2 := tk_fields E.P i))
 clear f2
 generalize hb : u3.heap.size = b5
 generalize h : u3.alloc _ = V4
 replace B := B.box h hb
 clear h hb
 obtain ⟨b6, P⟩ := B.peat (sg := w_struct) Q
 clear B Q
 cases b6 with
 | true =>
  go_upto_region 3 with (go_at_call 38; refine P.t ?_; clear P; intro u7 B Q _)
  go_upto_region 4 with (go_at_call 29; refine B.prw Q HDECS p9.bad ?_; clear B Q; intro u8 l aol capl j9 _ B Q; have c10 := B.mv1.S.cs B.F.rb)
  clear c10
  generalize h : u8.setCell _ _ = X11
  replace B := B.mv1.s4 h
  clear h
  go_upto_region 5 with (go_at_call 40; refine B.pun Q (kmust E d w_end) p9.bad ?_; clear B Q; intro u12 _ _ j13 B Q)
  have c14 := B.S.cs B.F.rb; have c15 := B.cp
  go_wp2_with fail
  exact Bp.fin (.mk 45 (E.P.A i) ⟨#[]⟩ 0 l) B.mv1.ko p9 Q.pr rfl rfl
 | false =>
  go_upto_region 6 with (go_at_call 38; refine P.f ?_; clear P; intro u16 B Q _)
  have c17 := B.S.cs B.F.rb
  go_upto_region 7 with fail
  clear c17
  generalize h : u16.setCell _ _ = X18
  replace B := B.s0 h
  clear h
  go_upto_region 8 with (go_at_call 75; refine B.ppth Q (kpath4 E d) p9.bad ?_; clear B Q; intro u19 p j20 _ B Q; have c21 := B.S.cs B.F.rb)
  clear c21
  generalize h : u19.setCell _ _ = X22
  replace B := B.s2 h
  clear h
  have c23 := B.S.cs B.F.rb; have c24 := B.cp
  go_wp2_with fail
  exact Bp.fin (.mk 46 (E.P.A i) p.1 0 []) B.nilk p9 Q.pr rfl rfl
theorem pstructure_any (E : Env) (g : Nat) (PA : PAll E g) (w : World) (i : Nat) (aa : Nat) (h : Rd E w i (60 - g)) : Calls Tryz.prog 124 #[pr E, .int .i64 (aa : Int)] w (PPost E (60 - g) w ((structureB E.P (recS E.P g) aa) i) (NdQ w)) := by
 refine Bp.go (m := kindD E.P 4 >>= fun s => annB E.P (recS E.P g) >>= fun gg => mustD E.P s_eq >>= fun _ => bodyB E.P (recS E.P g) >>= fun b => (pure (.mk 42 aa s gg.1 (gg.2 ++ [b])) : M Ty)) h PA ?_
 intro d T W R hW B Q hlr hN
 have HBODY := at_p R.hd (fun w j h => pbody_any E g PA w j h)
 clear h PA
 unfold pr at HBODY ⊢
 go_enter Tryz.func124, Tryz.ntmps124
 obtain ⟨R9, B9, p9, hq⟩ := Pn9.ex Tryz.f124 E d w T (NdQ w)
 refine wp_mono (Q := PQ R9 B9) ?_ hq
 clear hq
 go_upto_region 1 with fail
 clear hW
 go_upto_region 2 with (go_at_call 28; refine B.pnode ?_; clear B; intro u1 B)
 generalize hb : u1.heap.size = b3
 generalize h : u1.alloc _ = V2
 replace B := B.box h hb
 clear h hb
 go_upto_region 3 with (go_at_call 74; refine B.pstr Q (kkind4 E d) p9.bad ?_; clear B Q; intro u4 s j5 _ B Q; have c6 := B.S.cs B.F.rb)
 clear c6
 generalize h : u4.setCell _ _ = X7
 replace B := B.s2 h
 clear h
 replace Q := Q.to (m' := fun i => if isD E.P s_col i = true then (readS E.P g .sig >>= fun gg => (mustD E.P s_eq >>= fun _ => bodyB E.P (recS E.P g) >>= fun b => (pure (.mk 42 aa s 1 ([gg] ++ [b])) : M Ty))) (i + 1) else (fun i => if isD E.P s_opq i = true then (readS E.P g .sig >>= fun gg => (mustD E.P s_eq >>= fun _ => bodyB E.P (recS E.P g) >>= fun b => (pure (.mk 42 aa s 2 ([gg] ++ [b])) : M Ty))) (i + 1) else (mustD E.P s_eq >>= fun _ => bodyB E.P (recS E.P g) >>= fun b => (pure (.mk 42 aa s 0 ([] ++ [b])) : M Ty)) i) i) (rann_if _ _ _)
 obtain ⟨b8, P⟩ := B.peat (sg := s_col) Q
 clear B Q
 cases b8 with
 | true =>
  go_upto_region 4 with (go_at_call 38; refine P.t ?_; clear P; intro u9 B Q _; have c10 := B.S.cs B.F.rb)
  go_upto_region 7 with fail
  clear c10
  generalize h : u9.setCell _ _ = X11
  replace B := B.s3 h
  clear h
  have c12 := B.S.cs B.F.rb
  go_upto_region 8 with fail
  clear c12
  go_upto_region 9 with (go_at_call 125; refine B.pnd Q R.sig p9.bad ?_; clear B Q; intro u13 gg aogg capgg j14 _ B Q; have c15 := B.mv1.S.cs B.F.rb)
  clear c15
  generalize hz : u13.heap.size = z16
  generalize h : u13.setCell _ _ = X17
  replace B := B.mv1.s4 h
  replace hz := size_set h hz
  clear h
  generalize h : X17.alloc _ = V18
  replace B := B.mv1.mk1 hz h
  clear h
  clear hz
  go_upto_region 10 with (go_at_call 40; refine B.pun Q (kmust E d s_eq) p9.bad ?_; clear B Q; intro u19 _ _ j20 B Q)
  have c21 := B.mv1.S.cs B.F.rb
  replace B := B.drew
  go_region_law (first | (have hq9 := LXb; clear hq9; generalize h : u22.alloc _ = V25; replace B := B.mk1 rfl h; clear h; refine B.mv1.appO (by rfl) _ _ (by rfl) (by rfl) (by rfl) (by simp) ?_; clear B; intro aoL capL L u26 ELL B; have c27 := B.mv1.S.cs B.F.rb; have c28 := B.cp) | (go_simp; (go_at_call 163; refine B.pnd Q HBODY p9.bad ?_; clear B Q; intro u22 b aob capb j23 hx B Q; have LXb := lh hx; clear hx; have c24 := B.mv2.S.cs B.F.rb)))
  all_goals
   generalize h : u26.setCell _ _ = X29
   replace B := B.mv1.s4 h
   clear h
   have c30 := B.S.cs B.F.rb; have c31 := B.cp
   go_wp2_with fail
   exact Bp.fin (.mk 42 aa s 1 L) B.mv1.ko p9 (by rw [ELL.out]; exact Q.pr) rfl rfl
 | false =>
  go_upto_region 5 with (go_at_call 38; refine P.f ?_; clear P; intro u32 B Q _)
  obtain ⟨b33, P⟩ := B.peat (sg := s_opq) Q
  clear B Q
  cases b33 with
  | true =>
   go_upto_region 6 with (go_at_call 38; refine P.t ?_; clear P; intro u34 B Q _; have c35 := B.S.cs B.F.rb)
   go_upto_region 7 with fail
   clear c35
   generalize h : u34.setCell _ _ = X36
   replace B := B.s3 h
   clear h
   have c37 := B.S.cs B.F.rb
   go_upto_region 8 with fail
   clear c37
   go_upto_region 9 with (go_at_call 125; refine B.pnd Q R.sig p9.bad ?_; clear B Q; intro u38 gg aogg capgg j39 _ B Q; have c40 := B.mv1.S.cs B.F.rb)
   clear c40
   generalize hz : u38.heap.size = z41
   generalize h : u38.setCell _ _ = X42
   replace B := B.mv1.s4 h
   replace hz := size_set h hz
   clear h
   generalize h : X42.alloc _ = V43
   replace B := B.mv1.mk1 hz h
   clear h
   clear hz
   go_upto_region 10 with (go_at_call 40; refine B.pun Q (kmust E d s_eq) p9.bad ?_; clear B Q; intro u44 _ _ j45 B Q)
   have c46 := B.mv1.S.cs B.F.rb
   replace B := B.drew
   go_region_law (first | (have hq9 := LXb; clear hq9; generalize h : u47.alloc _ = V50; replace B := B.mk1 rfl h; clear h; refine B.mv1.appO (by rfl) _ _ (by rfl) (by rfl) (by rfl) (by simp) ?_; clear B; intro aoL capL L u51 ELL B; have c52 := B.mv1.S.cs B.F.rb; have c53 := B.cp) | (go_simp; (go_at_call 163; refine B.pnd Q HBODY p9.bad ?_; clear B Q; intro u47 b aob capb j48 hx B Q; have LXb := lh hx; clear hx; have c49 := B.mv2.S.cs B.F.rb)))
   all_goals
    generalize h : u51.setCell _ _ = X54
    replace B := B.mv1.s4 h
    clear h
    have c55 := B.S.cs B.F.rb; have c56 := B.cp
    go_wp2_with fail
    exact Bp.fin (.mk 42 aa s 2 L) B.mv1.ko p9 (by rw [ELL.out]; exact Q.pr) rfl rfl
  | false =>
   go_upto_region 9 with (go_at_call 38; refine P.f ?_; clear P; intro u57 B Q _; have c58 := B.S.cs B.F.rb)
   clear c58
   replace B := B.nilo
   go_upto_region 10 with (go_at_call 40; refine B.pun Q (kmust E d s_eq) p9.bad ?_; clear B Q; intro u59 _ _ j60 B Q)
   have c61 := B.mv1.S.cs B.F.rb
   replace B := B.drew
   go_region_law (first | (have hq9 := LXb; clear hq9; generalize h : u62.alloc _ = V65; replace B := B.mk1 rfl h; clear h; refine B.mv1.appO (by rfl) _ _ (by rfl) (by rfl) (by rfl) (by simp) ?_; clear B; intro aoL capL L u66 ELL B; have c67 := B.mv1.S.cs B.F.rb; have c68 := B.cp) | (go_simp; (go_at_call 163; refine B.pnd Q HBODY p9.bad ?_; clear B Q; intro u62 b aob capb j63 hx B Q; have LXb := lh hx; clear hx; have c64 := B.mv2.S.cs B.F.rb)))
   all_goals
    generalize h : u66.setCell _ _ = X69
    replace B := B.mv1.s4 h
    clear h
    have c70 := B.S.cs B.F.rb; have c71 := B.cp
    go_wp2_with fail
    exact Bp.fin (.mk 42 aa s 0 L) B.mv1.ko p9 (by rw [ELL.out]; exact Q.pr) rfl rfl
theorem pspec_any : CpN 164 fun E g => specB E.P (recS E.P g) := by
 intro E g PA w i h
 refine Bp.go (m := specB E.P (recS E.P g)) h PA ?_
 intro d T W R hW B Q hlr hN
 have HHEAD := at_p R.hd (fun w j h => phead_any E g PA w j 50 (E.P.A i) h)
 have HDATA := at_p R.hd (fun w j h => pdata_any E g PA w j (E.P.A i) h)
 have HCON := at_p R.hd (fun w j h => pcon_any E g PA w j h)
 clear h PA
 unfold pr at HHEAD HDATA HCON ⊢
 go_enter Tryz.func164, Tryz.ntmps164
 obtain ⟨R9, B9, p9, hq⟩ := Pn9.ex Tryz.f164 E d w T (NdQ w)
 refine wp_mono (Q := PQ R9 B9) ?_ hq
 clear hq
 go_upto_region 1 with fail
 clear hW
 go_upto_region 2 with (go_at_call 35; refine B.pnow ?_; clear B; intro u1 B; have f2 := tk_fields E.P i)
 clear f2
 go_upto_region 4 with (go_at_call 28; refine B.pnode ?_; clear B; intro u3 B)
 generalize hb : u3.heap.size = b5
 generalize h : u3.alloc _ = V4
 replace B := B.box h hb
 clear h hb
 cases hs6 : isD E.P w_val i with
 | true =>
  have HS7 := lh hs6
  clear hs6
  replace Q : Qp T ((kindD E.P 3 >>= fun x => mustD E.P s_col >>= fun _ => readS E.P g .typ >>= fun t => (pure (.mk 49 (E.P.A i) x 0 [t]) : M Ty))) (i + 1) := ⟨Q.eq.trans (spec_val (isD_at HS7.out).1 (isD_at HS7.out).2)⟩
  go_upto_region 5 with (go_at_call 38; refine B.eat1 (sg := w_val) HS7.out ?_; clear B; intro u8 B)
  go_upto_region 6 with (go_at_call 74; refine B.pstr Q (kkind3 E d) p9.bad ?_; clear B Q; intro u9 s j10 _ B Q; have c11 := B.S.cs B.F.rb)
  clear c11
  generalize h : u9.setCell _ _ = X12
  replace B := B.s2 h
  clear h
  go_upto_region 7 with (go_at_call 40; refine B.pun Q (kmust E d s_col) p9.bad ?_; clear B Q; intro u13 _ _ j14 B Q)
  go_upto_region 21 with (go_at_call 65; refine B.pnd Q R.typ p9.bad ?_; clear B Q; intro u15 t aot capt j16 _ B Q; have c17 := B.mv1.S.cs B.F.rb)
  clear c17
  generalize hz : u15.heap.size = z18
  generalize h : u15.setCell _ _ = X19
  replace B := B.mv1.s4 h
  replace hz := size_set h hz
  clear h
  generalize h : X19.alloc _ = V20
  replace B := B.mv1.mk1 hz h
  clear h
  clear hz
  have c21 := B.mv1.S.cs B.F.rb; have c22 := B.cp
  go_wp2_with fail
  exact Bp.fin (.mk 49 (E.P.A i) s 0 [t]) B.ko p9 Q.pr rfl rfl
 | false =>
  have HS23 := lh hs6
  clear hs6
  go_upto_region 8 with (go_at_call 38; refine B.eat0 (sg := w_val) HS23.out ?_; clear B; intro u24 B)
  cases hs25 : isD E.P w_type i with
  | true =>
   have HS26 := lh hs25
   clear hs25
   replace Q : Qp T ((headB E.P 50 (E.P.A i) >>= fun h => eatD E.P s_eq >>= fun e => if e = true then (readS E.P g .typ >>= fun t => (pure (.mk h.k h.n h.s h.q (h.args ++ [t])) : M Ty)) else (pure h : M Ty))) (i + 1) := ⟨Q.eq.trans (spec_type (isD_at HS26.out).1 (isD_at HS26.out).2)⟩
   go_upto_region 9 with (go_at_call 38; refine B.eat1 (sg := w_type) HS26.out ?_; clear B; intro u27 B)
   go_upto_region 10 with (go_at_call 121; refine B.pno Q HHEAD p9.bad ?_; clear B Q; intro u28 h aoh caph j29 hx B Q; have LNh := lh (head_len hx); clear hx; have c30 := B.mv1.S.cs B.F.rb)
   clear c30
   generalize h : ((((u28.setCell _ _).setCell _ _).setCell _ _).setCell _ _).setCell _ _ = X31
   replace B := B.mv1.sn h
   clear h
   obtain ⟨b32, P⟩ := B.peatd (sg := s_eq) Q
   clear B Q
   cases b32 with
   | true =>
    go_upto_region 11 with (go_at_call 38; refine P.t ?_; clear P; intro u33 B Q _)
    have c34 := B.S.cs B.F.rb
    replace B := B.drew
    go_region_law (first | (have hq9 := LXt; clear hq9; generalize h : u35.alloc _ = V38; replace B := B.mk1 rfl h; clear h; refine B.mv2.appO (by rfl) _ _ (by rfl) (by rfl) (by rfl) (by have h1 := LNh.out; simp; omega) ?_; clear B; intro aoL capL L u39 ELL B; have c40 := B.mv1.S.cs B.F.rb; have c41 := B.cp) | (go_simp; (go_at_call 65; refine B.pnd Q R.typ p9.bad ?_; clear B Q; intro u35 t aot capt j36 hx B Q; have LXt := lh hx; clear hx; have c37 := B.mv1.S.cs B.F.rb)))
    all_goals
     generalize h : u39.setCell _ _ = X42
     replace B := B.mv1.s4 h
     clear h
     have c43 := B.S.cs B.F.rb; have c44 := B.cp
     go_wp2_with fail
     exact Bp.fin (.mk h.k h.n h.s h.q L) B.mv1.ko p9 (by rw [ELL.out]; exact Q.pr) rfl rfl
   | false =>
    go_upto_region 21 with (go_at_call 38; refine P.f ?_; clear P; intro u45 B Q _)
    have c46 := B.S.cs B.F.rb; have c47 := B.cp
    go_wp2_with fail
    exact Bp.fin (h) B.mv1.ko p9 Q.pr rfl rfl
  | false =>
   have HS48 := lh hs25
   clear hs25
   go_upto_region 12 with (go_at_call 38; refine B.eat0 (sg := w_type) HS48.out ?_; clear B; intro u49 B)
   cases hs50 : isD E.P w_data i with
   | true =>
    have HS51 := lh hs50
    clear hs50
    replace Q : Qp T (dataB E.P (recS E.P g) (E.P.A i)) (i + 1) := ⟨Q.eq.trans (spec_data (isD_at HS51.out).1 (isD_at HS51.out).2)⟩
    go_upto_region 13 with (go_at_call 38; refine B.eat1 (sg := w_data) HS51.out ?_; clear B; intro u52 B)
    go_upto_region 21 with (go_at_call 122; refine B.pnot Q HDATA p9.bad ?_; clear B Q; intro u53 q aoq capq j54 B Q; have c55 := B.mv1.S.cs B.F.rb)
    clear c55
    generalize h : ((((u53.setCell _ _).setCell _ _).setCell _ _).setCell _ _).setCell _ _ = X56
    replace B := B.mv1.sn h
    clear h
    have c57 := B.S.cs B.F.rb; have c58 := B.cp
    go_wp2_with fail
    exact Bp.fin (q) B.mv1.ko p9 Q rfl rfl
   | false =>
    have HS59 := lh hs50
    clear hs50
    go_upto_region 14 with (go_at_call 38; refine B.eat0 (sg := w_data) HS59.out ?_; clear B; intro u60 B)
    cases hs61 : isD E.P w_exception i with
    | true =>
     have HS62 := lh hs61
     clear hs61
     replace Q : Qp T ((conB E.P (recS E.P g) >>= fun c => (pure (.mk 41 (E.P.A i) c.s c.q c.args) : M Ty))) (i + 1) := ⟨Q.eq.trans (spec_exception (isD_at HS62.out).1 (isD_at HS62.out).2)⟩
     go_upto_region 15 with (go_at_call 38; refine B.eat1 (sg := w_exception) HS62.out ?_; clear B; intro u63 B)
     go_upto_region 16 with (go_at_call 123; refine B.pnd Q HCON p9.bad ?_; clear B Q; intro u64 c aoc capc j65 _ B Q; have c66 := B.mv1.S.cs B.F.rb)
     clear c66
     generalize h : ((((u64.setCell _ _).setCell _ _).setCell _ _).setCell _ _).setCell _ _ = X67
     replace B := B.mv1.sn h
     clear h
     have c68 := B.S.cs B.F.rb
     go_upto_region 21 with fail
     clear c68
     generalize h : X67.setCell _ _ = X69
     replace B := B.s0 h
     clear h
     generalize h : X69.setCell _ _ = X70
     replace B := B.s1 h
     clear h
     have c71 := B.S.cs B.F.rb; have c72 := B.cp
     go_wp2_with fail
     exact Bp.fin (.mk 41 (E.P.A i) c.s c.q c.args) B.mv1 p9 Q.pr rfl rfl
    | false =>
     have HS73 := lh hs61
     clear hs61
     go_upto_region 17 with (go_at_call 38; refine B.eat0 (sg := w_exception) HS73.out ?_; clear B; intro u74 B)
     cases hs75 : isD E.P w_structure i with
     | true =>
      have HS76 := lh hs75
      clear hs75
      replace Q : Qp T ((kindD E.P 4 >>= fun x => mustD E.P s_col >>= fun _ => readS E.P g .sig >>= fun t => (pure (.mk 51 (E.P.A i) x 0 [t]) : M Ty))) (i + 1) := ⟨Q.eq.trans (spec_structure (isD_at HS76.out).1 (isD_at HS76.out).2)⟩
      go_upto_region 18 with (go_at_call 38; refine B.eat1 (sg := w_structure) HS76.out ?_; clear B; intro u77 B)
      go_upto_region 19 with (go_at_call 74; refine B.pstr Q (kkind4 E d) p9.bad ?_; clear B Q; intro u78 s j79 _ B Q; have c80 := B.S.cs B.F.rb)
      clear c80
      generalize h : u78.setCell _ _ = X81
      replace B := B.s0 h
      clear h
      generalize h : X81.setCell _ _ = X82
      replace B := B.s2 h
      clear h
      go_upto_region 20 with (go_at_call 40; refine B.pun Q (kmust E d s_col) p9.bad ?_; clear B Q; intro u83 _ _ j84 B Q)
      go_upto_region 21 with (go_at_call 125; refine B.pnd Q R.sig p9.bad ?_; clear B Q; intro u85 gg aogg capgg j86 _ B Q; have c87 := B.mv1.S.cs B.F.rb)
      clear c87
      generalize hz : u85.heap.size = z88
      generalize h : u85.setCell _ _ = X89
      replace B := B.mv1.s4 h
      replace hz := size_set h hz
      clear h
      generalize h : X89.alloc _ = V90
      replace B := B.mv1.mk1 hz h
      clear h
      clear hz
      have c91 := B.mv1.S.cs B.F.rb; have c92 := B.cp
      go_wp2_with fail
      exact Bp.fin (.mk 51 (E.P.A i) s 0 [gg]) B.ko p9 Q.pr rfl rfl
     | false =>
      have HS93 := lh hs75
      clear hs75
      go_upto_region 3 with (go_at_call 38; refine B.eat0 (sg := w_structure) HS93.out ?_; clear B; intro u94 B)
      have HNO : Hid (specB E.P (recS E.P g) i = failD E.P 4 i) := lh (spec_no (oneD_no (by simp [HS23.out, HS48.out, HS59.out, HS73.out, HS93.out])))
      go_wp2_with (go_at_call 36; exact B.fail (e := 4) Q HNO.out p9.bad)
theorem tl_andalso : w_andalso.toList = [97, 110, 100, 97, 108, 115, 111] := by rw [ByteArray.toList_eq]
theorem tl_orelse : w_orelse.toList = [111, 114, 101, 108, 115, 101] := by rw [ByteArray.toList_eq]
def twoRow (a b : Ty) (ao bo : Option Addr) (ca cb : Nat) : Array Value := #[.int .i64 a.k, .int .i64 a.n, .string a.s, .int .i64 a.q, .slice ao a.args.length ca, .int .i64 b.k, .int .i64 b.n, .string b.s, .int .i64 b.q, .slice bo b.args.length cb]
def JoinP (w : World) (s : ByteArray) (a b : Ty) (ao bo : Option Addr) (ca cb : Nat) (e : Ending) (w' : World) : Prop :=
 ∃ g, w.heap.size ≤ g ∧ e = .returned (.agg (rowOf (joinD s a b) (some ⟨g, 0, none⟩) 2)) ∧ Below w.heap.size w w' ∧ w'.heap[g]? = some (.cells (twoRow a b ao bo ca cb) 26 (0, 0))
theorem joined_any (s : ByteArray) (a b : Ty) (ao bo : Option Addr) (ca cb : Nat) (w : World) : Calls Tryz.prog 80 #[.string s, .agg (rowOf a ao ca), .agg (rowOf b bo cb)] w (JoinP w s a b ao bo ca cb) := by
 obtain ⟨W1, hW1⟩ : ∃ W1, W1 = w.alloc (.cells (rowOf a ao ca) 26) := ⟨_, rfl⟩
 obtain ⟨W2, hW2⟩ : ∃ W2, W2 = W1.alloc (.cells (rowOf b bo cb) 26) := ⟨_, rfl⟩
 obtain ⟨W, hW⟩ : ∃ W, W = W2.alloc (.cells zeroRow 26) := ⟨_, rfl⟩
 have s1 : W1.heap.size = w.heap.size + 1 := by rw [hW1, World.size_alloc]
 have s2 : W2.heap.size = w.heap.size + 1 + 1 := by rw [hW2, World.size_alloc, s1]
 have s3 : W.heap.size = w.heap.size + 3 := by rw [hW, World.size_alloc, s2]
 have hb1 : Below w.heap.size w W1 := by rw [hW1]; exact balloc (Below.refl _ _) _
 have hb2 : Below w.heap.size w W2 := by rw [hW2]; exact balloc hb1 _
 have hb : Below w.heap.size w W := by rw [hW]; exact balloc hb2 _
 have r0 : W.heap[w.heap.size]? = some (.cells (rowOf a ao ca) 26 (0, 0)) := by rw [hW]; refine blk_alloc ?_ _; rw [hW2]; refine blk_alloc ?_ _; rw [hW1]; exact heap_alloc_new w _
 have r1 : W.heap[w.heap.size + 1]? = some (.cells (rowOf b bo cb) 26 (0, 0)) := by rw [hW]; refine blk_alloc ?_ _; rw [hW2, ← s1]; exact heap_alloc_new W1 _
 have r2 : W.heap[w.heap.size + 1 + 1]? = some (.cells zeroRow 26 (0, 0)) := by rw [hW, ← s2]; exact heap_alloc_new W2 _
 obtain ⟨rb, hrb⟩ : ∃ rb, rb = w.heap.size + 1 + 1 := ⟨_, rfl⟩
 obtain ⟨pb, hpb⟩ : ∃ pb, pb = w.heap.size + 1 := ⟨_, rfl⟩
 rw [← hpb] at r1
 rw [← hrb] at r2
 have HPB := lh hpb
 have HRB := lh hrb
 have HBW := lh hb
 have HR2 := lh r2
 have HS := lh s3
 have HNODE : Hid (∀ (k a : Int) (ao : Option Addr) (n cap : Nat) (w1 : World), Calls Tryz.prog 28 #[.int .i64 k, .int .i64 a, .slice ao n cap] w1 fun e w' => e = .returned (.agg #[.int .i64 k, .int .i64 a, .string ⟨#[]⟩, .int .i64 0, .slice ao n cap]) ∧ Below w1.heap.size w1 w') := lh node_any
 have hWW : W = ((w.alloc (.cells (rowOf a ao ca) 26)).alloc (.cells (rowOf b bo cb) 26)).alloc (.cells zeroRow 26) := by rw [hW, hW2, hW1]
 unfold rowOf at r0 r1
 obtain ⟨⟨c0, c1, c2, c3, c4⟩, -⟩ := five_cells r0
 obtain ⟨⟨d0, d1, d2, d3, d4⟩, -⟩ := five_cells r1
 unfold zeroRow rowOf at hWW
 have HWW := lh hWW
 unfold rowOf
 have n1 : ¬ (w.heap.size = W.heap.size) := by omega
 have n2 : ¬ (pb = W.heap.size) := by omega
 clear hpb hrb hW hW1 hW2 hb1 hb2 hb s1 s2 s3 r0 r1 r2 hWW
 go_enter Tryz.func80, Tryz.ntmps80
 go_upto_region 1 with fail
 rw [← HWW.out, ← HRB.out, ← HPB.out]
 clear HWW
 obtain ⟨A, hA⟩ : ∃ A, A = W.alloc (.cells (twoRow a b ao bo ca cb) 26) := ⟨_, rfl⟩
 have rA : A.heap[W.heap.size]? = some (.cells (twoRow a b ao bo ca cb) 26 (0, 0)) := by rw [hA]; exact heap_alloc_new W _
 have bA : Below W.heap.size W A := by rw [hA]; exact balloc (Below.refl _ _) _
 have HRA := lh rA
 have HBA := lh bA
 unfold twoRow at hA
 have HA := lh hA
 clear hA rA bA
 go_upto_region 2 with (first | (go_at_call 28; rw [← HA.out]; refine (HNODE.out _ _ _ _ _ A).mono ?_; rintro e w2 ⟨rfl, hb2⟩; have HB2 := lh hb2; clear hb2))
 obtain ⟨V, hV⟩ : ∃ V, V = w2.alloc (.cells #[.int .i64 18, .int .i64 a.n, .string ⟨#[]⟩, .int .i64 0, .slice (some ⟨W.heap.size, 0, none⟩) 2 2] 26) := ⟨_, rfl⟩
 have hsz : W.heap.size < A.heap.size := lt_of_block HRA.out
 have hsz2 := HB2.out.size
 have hbV : Below w2.heap.size w2 V := by rw [hV]; exact balloc (Below.refl _ _) _
 have bV : Below w.heap.size w V := ((HBW.out.trans (HBA.out.mono HBW.out.size)).trans (HB2.out.mono (by have := HS.out; have := HRB.out; omega))).trans (hbV.mono (by have := HS.out; have := HRB.out; omega))
 have rg : V.heap[W.heap.size]? = some (.cells (twoRow a b ao bo ca cb) 26 (0, 0)) := blk_below (blk_below HRA.out HB2.out hsz) hbV (by omega)
 have rr : V.heap[rb]? = some (.cells zeroRow 26 (0, 0)) := blk_below (blk_below (blk_below HR2.out HBA.out (by have := HS.out; have := HRB.out; omega)) HB2.out (by have := HS.out; have := HRB.out; omega)) hbV (by have := HS.out; have := HRB.out; omega)
 have rn : V.heap[w2.heap.size]? = some (.cells #[.int .i64 18, .int .i64 a.n, .string ⟨#[]⟩, .int .i64 0, .slice (some ⟨W.heap.size, 0, none⟩) 2 2] 26 (0, 0)) := by rw [hV]; exact heap_alloc_new w2 _
 obtain ⟨nb, hnb⟩ : ∃ nb, nb = w2.heap.size := ⟨_, rfl⟩
 have m1 : ¬ (nb = rb) := by have := HS.out; have := HRB.out; omega
 have m2 : ¬ (rb = nb) := by have := HS.out; have := HRB.out; omega
 have m3 : nb ≠ W.heap.size := by omega
 have M3 := lh m3
 have HNB : Hid (w.heap.size ≤ nb) := lh (by have := HS.out; have := HRB.out; omega)
 rw [← hV]
 rw [← hnb] at rn ⊢
 have HBV := lh bV
 have HRG := lh rg
 have HRR := lh rr
 have hrr := rr
 unfold zeroRow at hrr
 obtain ⟨⟨e0, e1, e2, e3, e4⟩, ⟨z0, z1, z2, z3, z4⟩⟩ := five_cells rn
 obtain ⟨⟨x0, x1, x2, x3, x4⟩, ⟨y0, y1, y2, y3, y4⟩⟩ := five_cells hrr
 clear hV hbV bV rg rr rn hnb hsz hsz2 hrr m3 c0 c1 c2 c3 c4 d0 d1 d2 d3 d4 n1 n2
 have FIN : ∀ (k : Int) (u : ByteArray) (q : Nat) (x : Value), joinD s a b = .mk k a.n u 0 [a, b] → TB (set5 (V.setCell ⟨nb, q, none⟩ x) (rb) (.mk k a.n u 0 [a, b]) (some ⟨W.heap.size, 0, none⟩) 2) (rb) (.mk k a.n u 0 [a, b]) (some ⟨W.heap.size, 0, none⟩) 2 ∧ JoinP w s a b ao bo ca cb (.returned (.agg (rowOf (.mk k a.n u 0 [a, b]) (some ⟨W.heap.size, 0, none⟩) 2))) (set5 (V.setCell ⟨nb, q, none⟩ x) (rb) (.mk k a.n u 0 [a, b]) (some ⟨W.heap.size, 0, none⟩) 2) := by
  intro k u q x hj
  have h0 := HRR.out
  unfold zeroRow at h0
  have hs := HS.out
  have hrb := HRB.out
  refine ⟨TB.set (blk_set_ne h0 m2 q x) _ _ _, W.heap.size, by omega, by rw [hj], below_set5 (HBV.out.setCell (p := ⟨nb, q, none⟩) HNB.out x) (by omega), set5_ne (blk_set_ne HRG.out (fun e => M3.out e.symm) q x) (by omega)⟩
 have HFIN := lh FIN
 clear FIN
 by_cases ha : s = w_andalso
 · have e5 : (s.toList == [97, 110, 100, 97, 108, 115, 111]) = true := by rw [← tl_andalso, str_eqB]; exact decide_eq_true ha
   have e6 : s.toList = [97, 110, 100, 97, 108, 115, 111] := by rw [← tl_andalso]; exact ba_eq.2 ha
   obtain ⟨f1, f2⟩ := HFIN.out 16 ⟨#[]⟩ 0 (.int .i64 16) (by rw [ha]; rfl)
   have H1 := lh f1
   have H2 := lh f2
   clear f1 f2 ha
   go_wp2_with fail
   exact bodyPost_ret (res_ty rfl rfl H1.out) rfl H2.out
 · have e5 : (s.toList == [97, 110, 100, 97, 108, 115, 111]) = false := by rw [← tl_andalso, str_eqB]; exact decide_eq_false ha
   by_cases ho : s = w_orelse
   · have e7 : (s.toList == [111, 114, 101, 108, 115, 101]) = true := by rw [← tl_orelse, str_eqB]; exact decide_eq_true ho
     have e6 : s.toList = [111, 114, 101, 108, 115, 101] := by rw [← tl_orelse]; exact ba_eq.2 ho
     obtain ⟨f1, f2⟩ := HFIN.out 17 ⟨#[]⟩ 0 (.int .i64 17) (by rw [ho]; rfl)
     have H1 := lh f1
     have H2 := lh f2
     clear f1 f2 ha ho
     go_wp2_with fail
     exact bodyPost_ret (res_ty rfl rfl H1.out) rfl H2.out
   · have e7 : (s.toList == [111, 114, 101, 108, 115, 101]) = false := by rw [← tl_orelse, str_eqB]; exact decide_eq_false ho
     obtain ⟨f1, f2⟩ := HFIN.out 18 s 2 (.string s) (by unfold joinD; rw [if_neg ha, if_neg ho])
     have H1 := lh f1
     have H2 := lh f2
     clear f1 f2 ha ho
     go_wp2_with fail
     exact bodyPost_ret (res_ty rfl rfl H1.out) rfl H2.out
section
variable {σ : Type} {E : Env} {w w0 w1 A : World} {rd : World → σ → Nat → Prop} {φ : Nat → World → σ → Prop} {d : Nat} {s : σ} {ls : List At} {ao : Option Addr} {cap : Nat}
theorem Bd.nilp (e : TypeId) (size : Nat) (b : Bd E w rd φ d w1 s ls) : Bd E w rd φ d w1 s (.pw e size (.slice none 0 0) 0 [] :: ls) := ⟨b.F, ⟨Pw.nil _ _ _ _ _, AtsY.mono b.S fun x hx => hx.elim id (fun h9 => by simp [At.wr, Value.ownBlock] at h9)⟩, b.B, b.fm⟩
theorem Bd.appP {ops : Array Oper} {rest : List Oper} {o : Oper} {a : Act} {Q : Exit → Act → World → Prop} {v z : Value} {n size bytes : Nat} {xs : List Value} {ty e : TypeId} {row : Array Value} (b : Bd E w rd φ d w0 s (.pw e size v n xs :: ls)) (hu : Tryz.prog.underlying ty = some (.slice e)) (hinf : (Tryz.prog.info? e).map (fun i => (i.zero, i.size, i.bytes)) = some (some z, size, bytes)) (hzs : z.cells.size = size) (hsz : 0 < size) (hby : bytes ≤ 40) (hgd : o.guard = none) (x y : Operand) (ho : o.op = .call { callee := .builtin .append, args := #[x, y], argTypes := #[ty, ty] }) (hs : a.eval x = v) (hA : A = w0.alloc (.cells row e)) (hx : a.eval y = .slice (some ⟨w0.heap.size, 0, none⟩) 1 1) (hrow : row.toList.length = size) (ho1 : ∀ u ∈ row.toList, u.oneCell' = true) (hn : n ≤ 1000000000)
 (k : ∀ ao cap u, Bd E w rd φ d u s (.pw e size (.slice ao (n + 1) cap) (n + 1) (xs ++ row.toList) :: ls) → wpList Tryz.prog ops Q rest (a.put o.dst (.slice ao (n + 1) cap)) u) : wpList Tryz.prog ops Q (o :: rest) a A := by
 have b1 := b.be (V := A) (by rw [hA]; exact balloc (Below.refl _ _) _)
 obtain ⟨h1, h3⟩ := b1.S
 refine wpList_appP hu hinf hzs hsz hby hgd x y ho hs w0 row hrow hA hx ho1 (X := wrs ls) (h1.fresh fun a ha => .inl (.inr ha)) b1.lt (fun a ha => (AtsY.wr h3 ha).2.1) hn fun ao cap u hP hA9 hat => k ao cap u ⟨b1.fm.own b1.F b1.B hA9, ⟨hP.fresh fun a ha => ha.elim False.elim .inl, ?_⟩, b1.B, b1.fm⟩
 have key : AtsY w A (fun x => (False ∨ v.ownBlock = some x) ∨ (Value.slice ao (n + 1) cap).ownBlock = some x) ls := AtsY.fresh h3 fun x hx => by
  rcases hx with (hx | hx) | hx
  · exact hx.elim
  · exact .inl (.inr hx)
  · exact (hat x hx).elim (fun h => .inl (.inr h)) .inr
 exact AtsY.mono (AtsY.beside hA9 key (fun a e => .inl (.inr e))) fun x hx => hx.elim False.elim .inr
theorem Bd.pel {n size : Nat} {xs : List Value} {ty e : TypeId} (b : Bd E w rd φ d w1 s (.pw e size (.slice ao n cap) n xs :: ls)) (hu : Tryz.prog.underlying ty = some (.slice e)) (hsz : ∀ w : World, (sizeOf e).run Tryz.prog w = .ok size w) {m : Nat} (hm : m < n) : ∃ b9 p9, Hid (∀ y, wrs ls y → ¬ b9 = y) ∧ ¬ (b9 = w.heap.size) ∧ b9 < w1.heap.size ∧ (∀ w' : World, (Instr.indexAt ty (.slice ao n cap) (.int .i64 (m : Int))).run Tryz.prog w' = .ok (.pointer (some ⟨b9, p9, none⟩)) w') ∧ Hid (∀ c u, xs[m * size + c]? = some u → w1.cell? ⟨b9, p9 + c, none⟩ = some u) := by
 obtain ⟨g, cap', e, h1, h2, h3, h4⟩ := Pw.cell b.S.1 (by omega)
 injection e with e1 e2 e3
 subst e1 e3
 exact ⟨g, 0 + m * size, lh fun y hy e => h3 (.inr (e ▸ hy)), Nat.ne_of_gt h1, h2, fun w' => index_at hu hsz rfl _ _ m hm w', lh fun c u h => by rw [show 0 + m * size + c = m * size + c by omega]; exact h4 _ u h⟩
theorem Bd.join {Q9 : Ending → World → Prop} {x y : Ty} {xo yo : Option Addr} {xc yc : Nat} {sg : ByteArray} (b : Bd E w rd φ d w1 s (.kd x.args xo xc :: .kd y.args yo yc :: ls)) (hj : ∀ s a b, (joinD s a b).args = [a, b]) (k : ∀ u g j9, Hid (j9 = joinD sg x y) → Bd E w rd φ d u s (.kd j9.args (some ⟨g, 0, none⟩) 2 :: ls) → Q9 (.returned (.agg #[.int .i64 j9.k, .int .i64 j9.n, .string j9.s, .int .i64 j9.q, .slice (some ⟨g, 0, none⟩) j9.args.length 2])) u) : Calls Tryz.prog 80 #[.string sg, .agg #[.int .i64 x.k, .int .i64 x.n, .string x.s, .int .i64 x.q, .slice xo x.args.length xc], .agg #[.int .i64 y.k, .int .i64 y.n, .string y.s, .int .i64 y.q, .slice yo y.args.length yc]] w1 Q9 := (joined_any sg x y xo yo xc yc w1).mono (by
 rintro e u ⟨g, hg, rfl, hb, hr⟩
 have b2 := b.be hb
 have h1 : Kd w w1 (wrs ls) x.args xo xc := Kd.mono b.S.1 fun _ hx => .inr (wrs_cons.2 (.inr hx))
 have h2 : Kd w w1 (wrs ls) y.args yo yc := Kd.mono b.S.2.1 fun _ hx => .inr hx
 have hk := Kd.join h1 h2 b.lt (fun a ha => (AtsY.wr b.S.2.2 ha).2.1) hb hg hr
 refine k u g _ (lh rfl) ⟨b2.F, ⟨?_, ?_⟩, b2.B, b2.fm⟩
 · rw [hj]; exact Kd.mono hk fun _ hx => hx.elim False.elim id
 · exact AtsY.mono b2.S.2.2 fun x hx => hx.elim (fun h => .inl (.inl h)) (fun h => h.elim))
end
def sgD (P : Src) (js : List Nat) (n : Ty) : Ty := js.foldr (fun j n => .mk 18 (P.A j) (P.T j) 0 [n]) n
def tkL (P : Src) : List Nat → List Value
 | [] => []
 | j :: js => [.int .i64 (P.K j), .int .i64 (P.A j : Int), .string (P.T j), .int .i64 (P.N j : Int)] ++ tkL P js
theorem tkL_app (P : Src) : ∀ (js ks : List Nat), tkL P (js ++ ks) = tkL P js ++ tkL P ks
 | [], ks => rfl
 | j :: js, ks => by rw [List.cons_append, tkL, tkL, tkL_app P js ks, List.append_assoc]
theorem tkL_get (P : Src) : ∀ {js : List Nat} {m c : Nat} (h : m < js.length), c < 4 → (tkL P js)[m * 4 + c]? = [.int .i64 (P.K js[m]), .int .i64 (P.A js[m] : Int), .string (P.T js[m]), .int .i64 (P.N js[m] : Int)][c]?
 | [], m, c, h, _ => by simp at h
 | j :: js, 0, c, h, hc => by rw [tkL, Nat.zero_mul, Nat.zero_add, List.getElem?_append_left (by simpa using hc)]; rfl
 | j :: js, m + 1, c, h, hc => by
  rw [tkL, List.getElem?_append_right (by simp; omega)]
  have e : (m + 1) * 4 + c - [Value.int .i64 (P.K j), .int .i64 (P.A j : Int), .string (P.T j), .int .i64 (P.N j : Int)].length = m * 4 + c := by simp; omega
  rw [e, tkL_get P (js := js) (by simpa using h) hc]
  rfl
def mapR (g : Ty → Ty) : Res Ty → Res Ty
 | .bad k a => .bad k a
 | .ok x j => .ok (g x) j
theorem mapR_bind (g : Ty → Ty) (m : M Ty) (j : Nat) : mapR g (m j) = (m >>= fun x => ret (g x)) j := by
 show _ = bnd m (fun x => ret (g x)) j
 unfold bnd
 cases m j <;> rfl
theorem prefixL_at (P : Src) (R : Rec) (f j : Nat) : prefixL P R (f + 1) j = if isD P s_ti j = true ∨ isD P s_ex j = true then (prefixL P R f >>= fun n => ret (.mk 18 (P.A j) (P.T j) 0 [n])) (j + 1) else atomB P R j := rfl
theorem sign_more (P : Src) (R : Rec) (js : List Nat) (f j : Nat) (h : isD P s_ti j = true ∨ isD P s_ex j = true) : mapR (sgD P js) (prefixL P R (f + 1) j) = mapR (sgD P (js ++ [j])) (prefixL P R f (j + 1)) := by
 rw [prefixL_at, if_pos h]
 show mapR _ (bnd (prefixL P R f) (fun n => ret (.mk 18 (P.A j) (P.T j) 0 [n])) (j + 1)) = _
 unfold bnd
 cases prefixL P R f (j + 1) with
 | bad k a => rfl
 | ok x m => show Res.ok _ _ = Res.ok _ _; unfold sgD; rw [List.foldr_append]; rfl
theorem sign_none (P : Src) (R : Rec) (js : List Nat) (f j : Nat) (h : isD P s_ti j = false) (h2 : isD P s_ex j = false) : mapR (sgD P js) (prefixL P R (f + 1) j) = (atomB P R >>= fun n => ret (sgD P js n)) j := by
 rw [prefixL_at, if_neg (by rw [h, h2]; decide)]
 exact mapR_bind _ _ _
theorem sgD_take (P : Src) {js : List Nat} {m : Nat} (h : m < js.length) (n : Ty) : sgD P (js.take (m + 1)) n = sgD P (js.take m) (.mk 18 (P.A js[m]) (P.T js[m]) 0 [n]) := by
 rw [List.take_succ_eq_append_getElem h]
 unfold sgD
 rw [List.foldr_append]
 rfl
theorem pprefix_any : CpN 129 fun E g => prefixB E.P (recS E.P g) := by
 intro E g PA w i h
 refine Bp.go (m := fun q => prefixL E.P (recS E.P g) (E.P.toks.length + 1) q) h PA ?_
 intro d T W R hW B Q hlr hN
 have HATOM := at_p R.hd (fun w j h => patom_any E g PA w j h)
 clear h PA
 unfold pr at HATOM ⊢
 go_enter Tryz.func129, Tryz.ntmps129
 obtain ⟨R9, B9, p9, hq⟩ := Pn9.ex Tryz.f129 E d w T (NdQ w)
 refine wp_mono (Q := PQ R9 B9) ?_ hq
 clear hq
 go_upto_region 1 with fail
 clear hW
 go_wp2_with fail
 go_loopw [3] (fun v wr => ∃ (js : List Nat) (j f : Nat) (ao3 : Option Addr) (cap3 : Nat), v = .slice ao3 js.length cap3 ∧ Qp T (fun q => mapR (sgD E.P js) (prefixL E.P (recS E.P g) f q) : M Ty) j ∧ E.P.toks.length < j + f ∧ js.length ≤ j ∧ Bp E w d wr j [.pw 59 4 (.slice ao3 js.length cap3) (js.length) (tkL E.P js)]) (fun _ wr => E.P.toks.length - posOf wr E.rb)
 case atStart => exact ⟨[], i, E.P.toks.length + 1, none, 0, rfl, ⟨by rw [Q.eq]; cases prefixL E.P (recS E.P g) (E.P.toks.length + 1) i <;> rfl⟩, by omega, by simp, B.nilp 59 4⟩
 case round =>
  clear B Q
  obtain ⟨js, j, f, ao3, cap3, rfl, Q, hf, hl, B⟩ := hrel
  obtain ⟨f, rfl⟩ : ∃ f', f = f' + 1 := ⟨f - 1, by have := B.F.R.le; omega⟩
  have HF := lh hf
  have R0 := lh B.F.R
  have HL : Hid (js.length ≤ j ∧ j ≤ 100000) := lh ⟨hl, Nat.le_trans B.F.R.le hN⟩
  clear hf hl
  cases hs1 : isD E.P s_ti j with
  | true =>
   have HS2 := lh hs1
   clear hs1
   have hsg : isD E.P s_ti j = true ∨ isD E.P s_ex j = true := .inl HS2.out
   have hlt : j + 1 ≤ E.P.toks.length := hsg.elim isD_lt isD_lt
   replace Q : Qp T (fun q => mapR (sgD E.P (js ++ [j])) (prefixL E.P (recS E.P g) f q) : M Ty) (j + 1) := ⟨by rw [Q.eq]; exact sign_more E.P (recS E.P g) js f j hsg⟩
   clear hsg
   go_upto_region 3 with (go_at_call 73; refine B.is1 HS2.out ?_; clear B; intro u3 B)
   go_upto_region 4 with (first | (at_builtin; go_must (refine B.appP Tryz.underlying36 info59p rfl (by decide) (by decide) rfl (.tmp 12) (.tmp 15) rfl rfl rfl rfl rfl (by intro u hu; simp at hu; rcases hu with rfl | rfl | rfl | rfl <;> rfl) (by have := HL.out; omega) ?_); clear B; intro aoL capL u6 B; have c7 := B.F.R.cells) | (go_at_call 35; refine B.pnow ?_; clear B; intro u4 B; have f5 := tk_fields E.P j))
   go_wp2_with fail
   clear f5 c7
   generalize h : u6.setCell _ _ = X8
   replace B := B.seti (j' := j + 1) hlt h rfl
   clear h
   go_roundw
   case rel => exact ⟨js ++ [j], j + 1, f, aoL, capL, by rw [List.length_append]; rfl, Q, by have := HF.out; omega, by rw [List.length_append]; have := HL.out; simp; omega, by rw [List.length_append, tkL_app]; exact B⟩
   case measure => exact pos_less R0.out B.F.R (Nat.le_refl _)
  | false =>
   have HS9 := lh hs1
   clear hs1
   cases hs11 : isD E.P s_ex j with
   | true =>
    have HS12 := lh hs11
    clear hs11
    have hsg : isD E.P s_ti j = true ∨ isD E.P s_ex j = true := .inr HS12.out
    have hlt : j + 1 ≤ E.P.toks.length := hsg.elim isD_lt isD_lt
    replace Q : Qp T (fun q => mapR (sgD E.P (js ++ [j])) (prefixL E.P (recS E.P g) f q) : M Ty) (j + 1) := ⟨by rw [Q.eq]; exact sign_more E.P (recS E.P g) js f j hsg⟩
    clear hsg
    go_upto_region 3 with (first | (go_at_call 73; refine B.is1 HS12.out ?_; clear B; intro u13 B) | (go_at_call 73; refine B.is0 HS9.out ?_; clear B; intro u10 B))
    go_upto_region 4 with (first | (at_builtin; go_must (refine B.appP Tryz.underlying36 info59p rfl (by decide) (by decide) rfl (.tmp 12) (.tmp 15) rfl rfl rfl rfl rfl (by intro u hu; simp at hu; rcases hu with rfl | rfl | rfl | rfl <;> rfl) (by have := HL.out; omega) ?_); clear B; intro aoL capL u16 B; have c17 := B.F.R.cells) | (go_at_call 35; refine B.pnow ?_; clear B; intro u14 B; have f15 := tk_fields E.P j))
    go_wp2_with fail
    clear f15 c17
    generalize h : u16.setCell _ _ = X18
    replace B := B.seti (j' := j + 1) hlt h rfl
    clear h
    go_roundw
    case rel => exact ⟨js ++ [j], j + 1, f, aoL, capL, by rw [List.length_append]; rfl, Q, by have := HF.out; omega, by rw [List.length_append]; have := HL.out; simp; omega, by rw [List.length_append, tkL_app]; exact B⟩
    case measure => exact pos_less R0.out B.F.R (Nat.le_refl _)
   | false =>
    have HS19 := lh hs11
    clear hs11
    replace Q : Qp T (atomB E.P (recS E.P g) >>= fun n => ret (sgD E.P js n)) j := ⟨by rw [Q.eq]; exact sign_none E.P (recS E.P g) js f j HS9.out HS19.out⟩
    go_upto_region 5 with (first | (go_at_call 73; refine B.is0 HS19.out ?_; clear B; intro u20 B) | (go_at_call 73; refine B.is0 HS9.out ?_; clear B; intro u10 B))
    go_upto_region 6 with (go_at_call 165; refine B.pnd Q HATOM p9.bad ?_; clear B Q; intro u21 n aon capn j22 _ B Q)
    generalize hb : u21.heap.size = b24
    generalize h : u21.alloc _ = V23
    replace B := B.box h hb
    clear h hb
    have hl9 : js.length ≤ 100000 := Nat.le_trans HL.out.1 HL.out.2
    go_wp2_with fail
    go_loopw [5] (fun s wr => ∃ (m : Nat) (n : Ty) (ao : Option Addr) (cap : Nat), s = .int .i64 ((m : Int) - 1) ∧ m ≤ js.length ∧ Qp T (pure (sgD E.P (js.take m) n) : M Ty) j22 ∧ Bp E w d wr j22 [.kd n.args ao cap, .nv b24 (.int .i64 n.k) (.int .i64 n.n) (.string n.s) (.int .i64 n.q) (.slice ao n.args.length cap), .pw 59 4 (.slice ao3 js.length cap3) (js.length) (tkL E.P js)]) (fun s _ => (intOf s + 1).toNat)
    case atStart => exact ⟨js.length, n, aon, capn, rfl, Nat.le_refl _, ⟨by rw [List.take_length]; exact Q.eq⟩, B.mv2.mv1.mv2⟩
    case round =>
     clear B Q
     obtain ⟨m, n, ao, cap, rfl, hm, Q, B⟩ := hrel
     cases m with
     | zero =>
      have h1 : decide (((0 : Nat) : Int) - 1 ≥ 0) = false := by decide
      have h2 : decide (0 ≤ ((0 : Nat) : Int) - 1) = false := by decide
      have h3 : ¬ (0 ≤ ((0 : Nat) : Int) - 1) := by decide
      replace Q : Qp T (pure n : M Ty) j22 := ⟨Q.eq⟩
      have c25 := B.mv1.S.cs B.F.rb; have c26 := B.cp
      go_wp2_with fail
      exact Bp.fin (n) B p9 Q.pr rfl rfl
     | succ m =>
      have em : ((m + 1 : Nat) : Int) - 1 = (m : Int) := by omega
      rw [em]
      have HM : Hid (m < js.length) := lh hm
      have h1 : decide ((m : Int) ≥ 0) = true := by simp
      have h2 : (0 : Int) ≤ (m : Int) := by omega
      have h4 : m ≤ 100000 := by omega
      clear em hm
      go_upto_region 9 with fail
      obtain ⟨aA, haA⟩ : ∃ aA, aA = E.P.A (js[m]'HM.out) := ⟨_, rfl⟩
      obtain ⟨tT, htT⟩ : ∃ tT, tT = E.P.T (js[m]'HM.out) := ⟨_, rfl⟩
      have HAA := lh haA
      have HTT := lh htT
      replace Q : Qp T (pure (sgD E.P (js.take m) (.mk 18 aA tT 0 [n])) : M Ty) j22 := ⟨by rw [Q.eq, sgD_take E.P HM.out, haA, htT]⟩
      clear haA htT
      obtain ⟨bta, pta, HXa, t1a, t2a, ixa, HCa⟩ := B.mv2.pel Tryz.underlying36 size59 HM.out
      have t3a : ¬ (bta = b24) := HXa.out _ (by simp [wrs, At.wr])
      have t4a : ¬ (b24 = bta) := fun e => t3a e.symm
      have x1a := HCa.out 1 _ (by rw [tkL_get E.P HM.out (by omega)]; rfl)
      have x2a := HCa.out 2 _ (by rw [tkL_get E.P HM.out (by omega)]; rfl)
      rw [← HAA.out] at x1a
      rw [← HTT.out] at x2a
      have c27 := B.mv1.S.cs B.F.rb
      go_region_law (go_simp; (go_at_call 28; generalize h : wr.alloc _ = V28; replace B := B.mk1 rfl h; clear h; replace B := B.drew; refine B.pnode ?_; clear B; intro u29 B; have c30 := B.mv1.S.cs B.F.rb))
      all_goals
       clear t1a t2a t3a t4a ixa x1a x2a c27 c30
       generalize h : ((((u29.setCell _ _).setCell _ _).setCell _ _).setCell _ _).setCell _ _ = X31
       replace B := B.mv1.sn h
       clear h
       obtain ⟨btb, ptb, HXb, t1b, t2b, ixb, HCb⟩ := B.mv2.pel Tryz.underlying36 size59 HM.out
       have t3b : ¬ (btb = b24) := HXb.out _ (by simp [wrs, At.wr])
       have t4b : ¬ (b24 = btb) := fun e => t3b e.symm
       have x1b := HCb.out 1 _ (by rw [tkL_get E.P HM.out (by omega)]; rfl)
       have x2b := HCb.out 2 _ (by rw [tkL_get E.P HM.out (by omega)]; rfl)
       rw [← HAA.out] at x1b
       rw [← HTT.out] at x2b
       have c32 := B.S.cs B.F.rb
       go_upto_region 8 with fail
       clear t1b t2b t3b t4b ixb x1b x2b c32
       generalize h : X31.setCell _ _ = X33
       replace B := B.s2 h
       clear h
       go_wp2_with fail
       go_roundw
       case rel => exact ⟨m, .mk 18 aA tT 0 [n], (some ⟨wr.heap.size, 0, none⟩), 1, rfl, Nat.le_of_lt HM.out, Q, B.mv2.mv1.mv2.ko⟩
       case measure => (simp [intOf] <;> omega)
theorem applyL_at (P : Src) (R : Rec) (f : Nat) (n : Ty) (i : Nat) : applyL P R (f + 1) n i = if beginsB P i = true then (prefixB P R >>= fun b => applyL P R f (.mk 8 n.n ⟨#[]⟩ 0 [n, b])) i else .ok n i := rfl
theorem papply_any : CpN 78 fun E g => applyB E.P (recS E.P g) := by
 intro E g PA w i h
 refine Bp.go (m := prefixB E.P (recS E.P g) >>= fun n => applyL E.P (recS E.P g) (E.P.toks.length + 1) n) h PA ?_
 intro d T W R hW B Q hlr hN
 have HPRE := at_p R.hd (fun w j h => pprefix_any E g PA w j h)
 have HST := lh (show ∀ i x j, prefixB E.P (recS E.P g) i = .ok x j → i + 1 ≤ j from st_prefix E.P _ (st_rec E.P g).2)
 clear h PA
 unfold pr at HPRE ⊢
 go_enter Tryz.func78, Tryz.ntmps78
 obtain ⟨R9, B9, p9, hq⟩ := Pn9.ex Tryz.f78 E d w T (NdQ w)
 refine wp_mono (Q := PQ R9 B9) ?_ hq
 clear hq
 go_upto_region 1 with fail
 clear hW
 go_upto_region 2 with (go_at_call 129; refine B.pnd Q HPRE p9.bad ?_; clear B Q; intro u1 n aon capn j2 _ B Q)
 generalize hb : u1.heap.size = b4
 generalize h : u1.alloc _ = V3
 replace B := B.box h hb
 clear h hb
 go_loopw [] (fun wr => ∃ (n : Ty) (j f : Nat) (ao : Option Addr) (cap : Nat), Qp T (applyL E.P (recS E.P g) f n) j ∧ E.P.toks.length < j + f ∧ Bp E w d wr j [.kd n.args ao cap, .nv b4 (.int .i64 n.k) (.int .i64 n.n) (.string n.s) (.int .i64 n.q) (.slice ao n.args.length cap)]) (fun wr => E.P.toks.length - posOf wr E.rb)
 case atStart => exact ⟨n, _, _, aon, capn, Q, by omega, B.mv1⟩
 case round =>
  clear B Q
  obtain ⟨m, j, f, ao, cap, Q, hf, B⟩ := hrel
  obtain ⟨f, rfl⟩ : ∃ f', f = f' + 1 := ⟨f - 1, by have := B.F.R.le; omega⟩
  have HF := lh hf
  have R0 := lh B.F.R
  clear hf
  cases hb : beginsB E.P j with
  | false =>
   have HB := lh hb
   clear hb
   replace Q : Qp T (pure m : M Ty) j := ⟨by rw [Q.eq, applyL_at, if_neg (by rw [HB.out]; decide)]; rfl⟩
   go_wp2_with (go_at_call 130; refine B.ask (x := .bool false) (by have h := begins_any E _ j d B.F.R; rw [HB.out] at h; exact h) ?_; clear B; intro u5 B; have c6 := B.mv1.S.cs B.F.rb; have c7 := B.cp)
   exact Bp.fin (m) B p9 Q.pr rfl rfl
  | true =>
   have HB := lh hb
   clear hb
   replace Q : Qp T (prefixB E.P (recS E.P g) >>= fun b => applyL E.P (recS E.P g) f (.mk 8 m.n ⟨#[]⟩ 0 [m, b])) j := ⟨by rw [Q.eq, applyL_at, if_pos HB.out]⟩
   go_upto_region 3 with (go_at_call 130; refine B.ask (x := .bool true) (by have h := begins_any E _ j d B.F.R; rw [HB.out] at h; exact h) ?_; clear B; intro u8 B)
   have c9 := B.mv1.S.cs B.F.rb
   replace B := B.drew
   go_region_law (go_simp; first | (go_at_call 28; generalize h : u10.alloc _ = V13; replace B := B.mv1.mk2 rfl h; clear h; refine B.pnode ?_; clear B; intro u14 B; have c15 := B.mv1.S.cs B.F.rb) | (go_at_call 129; refine B.pnd Q HPRE p9.bad ?_; clear B Q; intro u10 b aob capb j11 hx B Q; have LXb := lh hx; clear hx; have c12 := B.mv2.S.cs B.F.rb))
   all_goals
    clear c9 c12 c15
    generalize h : ((((u14.setCell _ _).setCell _ _).setCell _ _).setCell _ _).setCell _ _ = X16
    replace B := B.mv1.sn h
    clear h
    have LS := lh (HST.out _ _ _ LXb.out)
    go_roundw
    case rel => first | exact ⟨.mk 8 m.n ⟨#[]⟩ 0 [m, b], j11, f, (some ⟨u10.heap.size, 0, none⟩), 2, Q, by have := LS.out; have := HF.out; omega, B.mv1.ko⟩ | ((repeat apply Exists.intro); exact ⟨⟨.mk 8 m.n ⟨#[]⟩ 0 [m, b], j11, f, (some ⟨u10.heap.size, 0, none⟩), 2, Q, by have := LS.out; have := HF.out; omega, B.mv1.ko⟩, rfl⟩)
    case measure => exact pos_less R0.out B.F.R LS.out
end Go.Proofs.YthehjeeiodbkjaaGreatDoor
