/-
  Proved: the contracts of the reader's body, structure, spec and apply. Conditions: the reader as it stands in memory; what the reader reads within.
-/
import Derived.Test.YthehjeeiodbkjaaGreatDoorE40
import Derived.Test.YthehjeeiodbkjaaGreatDoorE29
import Derived.Test.YthehjeeiodbkjaaGreatDoorE33
set_option linter.unusedSimpArgs false
set_option linter.unusedVariables false
set_option maxRecDepth 100000
set_option maxHeartbeats 16000000
namespace Go.Proofs.YthehjeeiodbkjaaGreatDoor
open Go.RowKit
theorem pbody_any : CpN 163 fun E g => bodyB E.P (recS E.P g) := by
 intro E g PA w i h
 refine Bp.go (m := fun q => if isD E.P w_struct q = true then (decsB E.P (recS E.P g) 1 >>= fun l => mustD E.P w_end >>= fun _ => (pure (.mk 45 (E.P.A i) ⟨#[]⟩ 0 l) : M Ty)) (q + 1) else (pathD E.P 4 >>= fun p => (ret (.mk 46 (E.P.A i) p.1 0 []) : M Ty)) q) h PA ?_
 intro d T W R hW B Q hlr hN
 have HDECS := at_p R.hd (fun w j h => decs_any E g PA w j 1 (by decide) h)
 clear h PA
 unfold pr at HDECS ⊢
 go_enter Tryz.func163, Tryz.ntmps163
 obtain ⟨R9, B9, p9, hq⟩ := Pn9.ex Tryz.f163 E d w T (NdQ w)
 refine wp_mono (Q := PQ R9 B9) ?_ hq
 clear hq
 go_upto_region 1 with fail
 clear hW
 go_upto_region 2 with (first | (go_at_call 28; refine B.pnode ?_; clear B; intro u3 B) | (go_at_call 35; refine B.pnow ?_; clear B; intro u1 B; have f2 := tk_fields E.P i))
 clear f2
 generalize hb : u3.heap.size = b5
 generalize h : u3.alloc _ = V4
 replace B := B.box h hb
 clear h hb
 obtain ⟨b6, P⟩ := B.peat (sg := w_struct) Q
 clear B Q
 cases b6 with
 | true =>
  go_upto_region 3 with (go_at_call 38; refine P.t ?_; clear P; intro u7 B Q _)
  go_upto_region 4 with (go_at_call 29; refine B.prw Q HDECS p9.bad ?_; clear B Q; intro u8 l aol capl j9 _ B Q; have c10 := B.mv1.S.cs B.F.rb)
  clear c10
  generalize h : u8.setCell _ _ = X11
  replace B := B.mv1.s4 h
  clear h
  go_upto_region 5 with (go_at_call 40; refine B.pun Q (kmust E d w_end) p9.bad ?_; clear B Q; intro u12 _ _ j13 B Q)
  have c14 := B.S.cs B.F.rb; have c15 := B.cp
  go_wp2_with fail
  exact Bp.fin (.mk 45 (E.P.A i) ⟨#[]⟩ 0 l) B.mv1.ko p9 Q.pr rfl rfl
 | false =>
  go_upto_region 6 with (go_at_call 38; refine P.f ?_; clear P; intro u16 B Q _)
  have c17 := B.S.cs B.F.rb
  go_upto_region 7 with fail
  clear c17
  generalize h : u16.setCell _ _ = X18
  replace B := B.s0 h
  clear h
  go_upto_region 8 with (go_at_call 75; refine B.ppth Q (kpath4 E d) p9.bad ?_; clear B Q; intro u19 p j20 _ B Q; have c21 := B.S.cs B.F.rb)
  clear c21
  generalize h : u19.setCell _ _ = X22
  replace B := B.s2 h
  clear h
  have c23 := B.S.cs B.F.rb; have c24 := B.cp
  go_wp2_with fail
  exact Bp.fin (.mk 46 (E.P.A i) p.1 0 []) B.nilk p9 Q.pr rfl rfl
theorem pstructure_any (E : Env) (g : Nat) (PA : PAll E g) (w : World) (i : Nat) (aa : Nat) (h : Rd E w i (60 - g)) : Calls Tryz.prog 124 #[pr E, .int .i64 (aa : Int)] w (PPost E (60 - g) w ((structureB E.P (recS E.P g) aa) i) (NdQ w)) := by
 refine Bp.go (m := kindD E.P 4 >>= fun s => annB E.P (recS E.P g) >>= fun gg => mustD E.P s_eq >>= fun _ => bodyB E.P (recS E.P g) >>= fun b => (pure (.mk 42 aa s gg.1 (gg.2 ++ [b])) : M Ty)) h PA ?_
 intro d T W R hW B Q hlr hN
 have HBODY := at_p R.hd (fun w j h => pbody_any E g PA w j h)
 clear h PA
 unfold pr at HBODY ⊢
 go_enter Tryz.func124, Tryz.ntmps124
 obtain ⟨R9, B9, p9, hq⟩ := Pn9.ex Tryz.f124 E d w T (NdQ w)
 refine wp_mono (Q := PQ R9 B9) ?_ hq
 clear hq
 go_upto_region 1 with fail
 clear hW
 go_upto_region 2 with (go_at_call 28; refine B.pnode ?_; clear B; intro u1 B)
 generalize hb : u1.heap.size = b3
 generalize h : u1.alloc _ = V2
 replace B := B.box h hb
 clear h hb
 go_upto_region 3 with (go_at_call 74; refine B.pstr Q (kkind4 E d) p9.bad ?_; clear B Q; intro u4 s j5 _ B Q; have c6 := B.S.cs B.F.rb)
 clear c6
 generalize h : u4.setCell _ _ = X7
 replace B := B.s2 h
 clear h
 replace Q := Q.to (m' := fun i => if isD E.P s_col i = true then (readS E.P g .sig >>= fun gg => (mustD E.P s_eq >>= fun _ => bodyB E.P (recS E.P g) >>= fun b => (pure (.mk 42 aa s 1 ([gg] ++ [b])) : M Ty))) (i + 1) else (fun i => if isD E.P s_opq i = true then (readS E.P g .sig >>= fun gg => (mustD E.P s_eq >>= fun _ => bodyB E.P (recS E.P g) >>= fun b => (pure (.mk 42 aa s 2 ([gg] ++ [b])) : M Ty))) (i + 1) else (mustD E.P s_eq >>= fun _ => bodyB E.P (recS E.P g) >>= fun b => (pure (.mk 42 aa s 0 ([] ++ [b])) : M Ty)) i) i) (rann_if _ _ _)
 obtain ⟨b8, P⟩ := B.peat (sg := s_col) Q
 clear B Q
 cases b8 with
 | true =>
  go_upto_region 4 with (go_at_call 38; refine P.t ?_; clear P; intro u9 B Q _; have c10 := B.S.cs B.F.rb)
  go_upto_region 7 with fail
  clear c10
  generalize h : u9.setCell _ _ = X11
  replace B := B.s3 h
  clear h
  have c12 := B.S.cs B.F.rb
  go_upto_region 8 with fail
  clear c12
  go_upto_region 9 with (go_at_call 125; refine B.pnd Q R.sig p9.bad ?_; clear B Q; intro u13 gg aogg capgg j14 _ B Q; have c15 := B.mv1.S.cs B.F.rb)
  clear c15
  generalize hz : u13.heap.size = z16
  generalize h : u13.setCell _ _ = X17
  replace B := B.mv1.s4 h
  replace hz := size_set h hz
  clear h
  generalize h : X17.alloc _ = V18
  replace B := B.mv1.mk1 hz h
  clear h
  clear hz
  go_upto_region 10 with (go_at_call 40; refine B.pun Q (kmust E d s_eq) p9.bad ?_; clear B Q; intro u19 _ _ j20 B Q)
  have c21 := B.mv1.S.cs B.F.rb
  replace B := B.drew
  go_region_law (first | (have hq9 := LXb; clear hq9; generalize h : u22.alloc _ = V25; replace B := B.mk1 rfl h; clear h; refine B.mv1.appO (by rfl) _ _ (by rfl) (by rfl) (by rfl) (by simp) ?_; clear B; intro aoL capL L u26 ELL B; have c27 := B.mv1.S.cs B.F.rb; have c28 := B.cp) | (go_simp; (go_at_call 163; refine B.pnd Q HBODY p9.bad ?_; clear B Q; intro u22 b aob capb j23 hx B Q; have LXb := lh hx; clear hx; have c24 := B.mv2.S.cs B.F.rb)))
  all_goals
   generalize h : u26.setCell _ _ = X29
   replace B := B.mv1.s4 h
   clear h
   have c30 := B.S.cs B.F.rb; have c31 := B.cp
   go_wp2_with fail
   exact Bp.fin (.mk 42 aa s 1 L) B.mv1.ko p9 (by rw [ELL.out]; exact Q.pr) rfl rfl
 | false =>
  go_upto_region 5 with (go_at_call 38; refine P.f ?_; clear P; intro u32 B Q _)
  obtain ⟨b33, P⟩ := B.peat (sg := s_opq) Q
  clear B Q
  cases b33 with
  | true =>
   go_upto_region 6 with (go_at_call 38; refine P.t ?_; clear P; intro u34 B Q _; have c35 := B.S.cs B.F.rb)
   go_upto_region 7 with fail
   clear c35
   generalize h : u34.setCell _ _ = X36
   replace B := B.s3 h
   clear h
   have c37 := B.S.cs B.F.rb
   go_upto_region 8 with fail
   clear c37
   go_upto_region 9 with (go_at_call 125; refine B.pnd Q R.sig p9.bad ?_; clear B Q; intro u38 gg aogg capgg j39 _ B Q; have c40 := B.mv1.S.cs B.F.rb)
   clear c40
   generalize hz : u38.heap.size = z41
   generalize h : u38.setCell _ _ = X42
   replace B := B.mv1.s4 h
   replace hz := size_set h hz
   clear h
   generalize h : X42.alloc _ = V43
   replace B := B.mv1.mk1 hz h
   clear h
   clear hz
   go_upto_region 10 with (go_at_call 40; refine B.pun Q (kmust E d s_eq) p9.bad ?_; clear B Q; intro u44 _ _ j45 B Q)
   have c46 := B.mv1.S.cs B.F.rb
   replace B := B.drew
   go_region_law (first | (have hq9 := LXb; clear hq9; generalize h : u47.alloc _ = V50; replace B := B.mk1 rfl h; clear h; refine B.mv1.appO (by rfl) _ _ (by rfl) (by rfl) (by rfl) (by simp) ?_; clear B; intro aoL capL L u51 ELL B; have c52 := B.mv1.S.cs B.F.rb; have c53 := B.cp) | (go_simp; (go_at_call 163; refine B.pnd Q HBODY p9.bad ?_; clear B Q; intro u47 b aob capb j48 hx B Q; have LXb := lh hx; clear hx; have c49 := B.mv2.S.cs B.F.rb)))
   all_goals
    generalize h : u51.setCell _ _ = X54
    replace B := B.mv1.s4 h
    clear h
    have c55 := B.S.cs B.F.rb; have c56 := B.cp
    go_wp2_with fail
    exact Bp.fin (.mk 42 aa s 2 L) B.mv1.ko p9 (by rw [ELL.out]; exact Q.pr) rfl rfl
  | false =>
   go_upto_region 9 with (go_at_call 38; refine P.f ?_; clear P; intro u57 B Q _; have c58 := B.S.cs B.F.rb)
   clear c58
   replace B := B.nilo
   go_upto_region 10 with (go_at_call 40; refine B.pun Q (kmust E d s_eq) p9.bad ?_; clear B Q; intro u59 _ _ j60 B Q)
   have c61 := B.mv1.S.cs B.F.rb
   replace B := B.drew
   go_region_law (first | (have hq9 := LXb; clear hq9; generalize h : u62.alloc _ = V65; replace B := B.mk1 rfl h; clear h; refine B.mv1.appO (by rfl) _ _ (by rfl) (by rfl) (by rfl) (by simp) ?_; clear B; intro aoL capL L u66 ELL B; have c67 := B.mv1.S.cs B.F.rb; have c68 := B.cp) | (go_simp; (go_at_call 163; refine B.pnd Q HBODY p9.bad ?_; clear B Q; intro u62 b aob capb j63 hx B Q; have LXb := lh hx; clear hx; have c64 := B.mv2.S.cs B.F.rb)))
   all_goals
    generalize h : u66.setCell _ _ = X69
    replace B := B.mv1.s4 h
    clear h
    have c70 := B.S.cs B.F.rb; have c71 := B.cp
    go_wp2_with fail
    exact Bp.fin (.mk 42 aa s 0 L) B.mv1.ko p9 (by rw [ELL.out]; exact Q.pr) rfl rfl
theorem pspec_any : CpN 164 fun E g => specB E.P (recS E.P g) := by
 intro E g PA w i h
 refine Bp.go (m := specB E.P (recS E.P g)) h PA ?_
 intro d T W R hW B Q hlr hN
 have HHEAD := at_p R.hd (fun w j h => phead_any E g PA w j 50 (E.P.A i) h)
 have HDATA := at_p R.hd (fun w j h => pdata_any E g PA w j (E.P.A i) h)
 have HCON := at_p R.hd (fun w j h => pcon_any E g PA w j h)
 clear h PA
 unfold pr at HHEAD HDATA HCON ⊢
 go_enter Tryz.func164, Tryz.ntmps164
 obtain ⟨R9, B9, p9, hq⟩ := Pn9.ex Tryz.f164 E d w T (NdQ w)
 refine wp_mono (Q := PQ R9 B9) ?_ hq
 clear hq
 go_upto_region 1 with fail
 clear hW
 go_upto_region 2 with (go_at_call 35; refine B.pnow ?_; clear B; intro u1 B; have f2 := tk_fields E.P i)
 clear f2
 go_upto_region 4 with (go_at_call 28; refine B.pnode ?_; clear B; intro u3 B)
 generalize hb : u3.heap.size = b5
 generalize h : u3.alloc _ = V4
 replace B := B.box h hb
 clear h hb
 cases hs6 : isD E.P w_val i with
 | true =>
  have HS7 := lh hs6
  clear hs6
  replace Q : Qp T ((kindD E.P 3 >>= fun x => mustD E.P s_col >>= fun _ => readS E.P g .typ >>= fun t => (pure (.mk 49 (E.P.A i) x 0 [t]) : M Ty))) (i + 1) := ⟨Q.eq.trans (spec_val (isD_at HS7.out).1 (isD_at HS7.out).2)⟩
  go_upto_region 5 with (go_at_call 38; refine B.eat1 (sg := w_val) HS7.out ?_; clear B; intro u8 B)
  go_upto_region 6 with (go_at_call 74; refine B.pstr Q (kkind3 E d) p9.bad ?_; clear B Q; intro u9 s j10 _ B Q; have c11 := B.S.cs B.F.rb)
  clear c11
  generalize h : u9.setCell _ _ = X12
  replace B := B.s2 h
  clear h
  go_upto_region 7 with (go_at_call 40; refine B.pun Q (kmust E d s_col) p9.bad ?_; clear B Q; intro u13 _ _ j14 B Q)
  go_upto_region 21 with (go_at_call 65; refine B.pnd Q R.typ p9.bad ?_; clear B Q; intro u15 t aot capt j16 _ B Q; have c17 := B.mv1.S.cs B.F.rb)
  clear c17
  generalize hz : u15.heap.size = z18
  generalize h : u15.setCell _ _ = X19
  replace B := B.mv1.s4 h
  replace hz := size_set h hz
  clear h
  generalize h : X19.alloc _ = V20
  replace B := B.mv1.mk1 hz h
  clear h
  clear hz
  have c21 := B.mv1.S.cs B.F.rb; have c22 := B.cp
  go_wp2_with fail
  exact Bp.fin (.mk 49 (E.P.A i) s 0 [t]) B.ko p9 Q.pr rfl rfl
 | false =>
  have HS23 := lh hs6
  clear hs6
  go_upto_region 8 with (go_at_call 38; refine B.eat0 (sg := w_val) HS23.out ?_; clear B; intro u24 B)
  cases hs25 : isD E.P w_type i with
  | true =>
   have HS26 := lh hs25
   clear hs25
   replace Q : Qp T ((headB E.P 50 (E.P.A i) >>= fun h => eatD E.P s_eq >>= fun e => if e = true then (readS E.P g .typ >>= fun t => (pure (.mk h.k h.n h.s h.q (h.args ++ [t])) : M Ty)) else (pure h : M Ty))) (i + 1) := ⟨Q.eq.trans (spec_type (isD_at HS26.out).1 (isD_at HS26.out).2)⟩
   go_upto_region 9 with (go_at_call 38; refine B.eat1 (sg := w_type) HS26.out ?_; clear B; intro u27 B)
   go_upto_region 10 with (go_at_call 121; refine B.pno Q HHEAD p9.bad ?_; clear B Q; intro u28 h aoh caph j29 hx B Q; have LNh := lh (head_len hx); clear hx; have c30 := B.mv1.S.cs B.F.rb)
   clear c30
   generalize h : ((((u28.setCell _ _).setCell _ _).setCell _ _).setCell _ _).setCell _ _ = X31
   replace B := B.mv1.sn h
   clear h
   obtain ⟨b32, P⟩ := B.peatd (sg := s_eq) Q
   clear B Q
   cases b32 with
   | true =>
    go_upto_region 11 with (go_at_call 38; refine P.t ?_; clear P; intro u33 B Q _)
    have c34 := B.S.cs B.F.rb
    replace B := B.drew
    go_region_law (first | (have hq9 := LXt; clear hq9; generalize h : u35.alloc _ = V38; replace B := B.mk1 rfl h; clear h; refine B.mv2.appO (by rfl) _ _ (by rfl) (by rfl) (by rfl) (by have h1 := LNh.out; simp; omega) ?_; clear B; intro aoL capL L u39 ELL B; have c40 := B.mv1.S.cs B.F.rb; have c41 := B.cp) | (go_simp; (go_at_call 65; refine B.pnd Q R.typ p9.bad ?_; clear B Q; intro u35 t aot capt j36 hx B Q; have LXt := lh hx; clear hx; have c37 := B.mv1.S.cs B.F.rb)))
    all_goals
     generalize h : u39.setCell _ _ = X42
     replace B := B.mv1.s4 h
     clear h
     have c43 := B.S.cs B.F.rb; have c44 := B.cp
     go_wp2_with fail
     exact Bp.fin (.mk h.k h.n h.s h.q L) B.mv1.ko p9 (by rw [ELL.out]; exact Q.pr) rfl rfl
   | false =>
    go_upto_region 21 with (go_at_call 38; refine P.f ?_; clear P; intro u45 B Q _)
    have c46 := B.S.cs B.F.rb; have c47 := B.cp
    go_wp2_with fail
    exact Bp.fin (h) B.mv1.ko p9 Q.pr rfl rfl
  | false =>
   have HS48 := lh hs25
   clear hs25
   go_upto_region 12 with (go_at_call 38; refine B.eat0 (sg := w_type) HS48.out ?_; clear B; intro u49 B)
   cases hs50 : isD E.P w_data i with
   | true =>
    have HS51 := lh hs50
    clear hs50
    replace Q : Qp T (dataB E.P (recS E.P g) (E.P.A i)) (i + 1) := ⟨Q.eq.trans (spec_data (isD_at HS51.out).1 (isD_at HS51.out).2)⟩
    go_upto_region 13 with (go_at_call 38; refine B.eat1 (sg := w_data) HS51.out ?_; clear B; intro u52 B)
    go_upto_region 21 with (go_at_call 122; refine B.pnot Q HDATA p9.bad ?_; clear B Q; intro u53 q aoq capq j54 B Q; have c55 := B.mv1.S.cs B.F.rb)
    clear c55
    generalize h : ((((u53.setCell _ _).setCell _ _).setCell _ _).setCell _ _).setCell _ _ = X56
    replace B := B.mv1.sn h
    clear h
    have c57 := B.S.cs B.F.rb; have c58 := B.cp
    go_wp2_with fail
    exact Bp.fin (q) B.mv1.ko p9 Q rfl rfl
   | false =>
    have HS59 := lh hs50
    clear hs50
    go_upto_region 14 with (go_at_call 38; refine B.eat0 (sg := w_data) HS59.out ?_; clear B; intro u60 B)
    cases hs61 : isD E.P w_exception i with
    | true =>
     have HS62 := lh hs61
     clear hs61
     replace Q : Qp T ((conB E.P (recS E.P g) >>= fun c => (pure (.mk 41 (E.P.A i) c.s c.q c.args) : M Ty))) (i + 1) := ⟨Q.eq.trans (spec_exception (isD_at HS62.out).1 (isD_at HS62.out).2)⟩
     go_upto_region 15 with (go_at_call 38; refine B.eat1 (sg := w_exception) HS62.out ?_; clear B; intro u63 B)
     go_upto_region 16 with (go_at_call 123; refine B.pnd Q HCON p9.bad ?_; clear B Q; intro u64 c aoc capc j65 _ B Q; have c66 := B.mv1.S.cs B.F.rb)
     clear c66
     generalize h : ((((u64.setCell _ _).setCell _ _).setCell _ _).setCell _ _).setCell _ _ = X67
     replace B := B.mv1.sn h
     clear h
     have c68 := B.S.cs B.F.rb
     go_upto_region 21 with fail
     clear c68
     generalize h : X67.setCell _ _ = X69
     replace B := B.s0 h
     clear h
     generalize h : X69.setCell _ _ = X70
     replace B := B.s1 h
     clear h
     have c71 := B.S.cs B.F.rb; have c72 := B.cp
     go_wp2_with fail
     exact Bp.fin (.mk 41 (E.P.A i) c.s c.q c.args) B.mv1 p9 Q.pr rfl rfl
    | false =>
     have HS73 := lh hs61
     clear hs61
     go_upto_region 17 with (go_at_call 38; refine B.eat0 (sg := w_exception) HS73.out ?_; clear B; intro u74 B)
     cases hs75 : isD E.P w_structure i with
     | true =>
      have HS76 := lh hs75
      clear hs75
      replace Q : Qp T ((kindD E.P 4 >>= fun x => mustD E.P s_col >>= fun _ => readS E.P g .sig >>= fun t => (pure (.mk 51 (E.P.A i) x 0 [t]) : M Ty))) (i + 1) := ⟨Q.eq.trans (spec_structure (isD_at HS76.out).1 (isD_at HS76.out).2)⟩
      go_upto_region 18 with (go_at_call 38; refine B.eat1 (sg := w_structure) HS76.out ?_; clear B; intro u77 B)
      go_upto_region 19 with (go_at_call 74; refine B.pstr Q (kkind4 E d) p9.bad ?_; clear B Q; intro u78 s j79 _ B Q; have c80 := B.S.cs B.F.rb)
      clear c80
      generalize h : u78.setCell _ _ = X81
      replace B := B.s0 h
      clear h
      generalize h : X81.setCell _ _ = X82
      replace B := B.s2 h
      clear h
      go_upto_region 20 with (go_at_call 40; refine B.pun Q (kmust E d s_col) p9.bad ?_; clear B Q; intro u83 _ _ j84 B Q)
      go_upto_region 21 with (go_at_call 125; refine B.pnd Q R.sig p9.bad ?_; clear B Q; intro u85 gg aogg capgg j86 _ B Q; have c87 := B.mv1.S.cs B.F.rb)
      clear c87
      generalize hz : u85.heap.size = z88
      generalize h : u85.setCell _ _ = X89
      replace B := B.mv1.s4 h
      replace hz := size_set h hz
      clear h
      generalize h : X89.alloc _ = V90
      replace B := B.mv1.mk1 hz h
      clear h
      clear hz
      have c91 := B.mv1.S.cs B.F.rb; have c92 := B.cp
      go_wp2_with fail
      exact Bp.fin (.mk 51 (E.P.A i) s 0 [gg]) B.ko p9 Q.pr rfl rfl
     | false =>
      have HS93 := lh hs75
      clear hs75
      go_upto_region 3 with (go_at_call 38; refine B.eat0 (sg := w_structure) HS93.out ?_; clear B; intro u94 B)
      have HNO : Hid (specB E.P (recS E.P g) i = failD E.P 4 i) := lh (spec_no (oneD_no (by simp [HS23.out, HS48.out, HS59.out, HS73.out, HS93.out])))
      go_wp2_with (go_at_call 36; exact B.fail (e := 4) Q HNO.out p9.bad)
end Go.Proofs.YthehjeeiodbkjaaGreatDoor
