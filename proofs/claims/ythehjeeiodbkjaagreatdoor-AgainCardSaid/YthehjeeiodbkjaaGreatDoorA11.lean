/-
  Proved: the contracts of the reader's rule, rules, round and atom; the contract of the document's structure; the contract of the document's spec. Conditions: the reader as it stands in memory; what the reader reads within; the reader as it stands in memory; what it reads within.
-/
import Derived.Test.YthehjeeiodbkjaaGreatDoorA01
import Derived.Test.YthehjeeiodbkjaaGreatDoorA09
import Derived.Test.YthehjeeiodbkjaaGreatDoorA10
import Derived.Test.YthehjeeiodbkjaaGreatDoorA06
set_option linter.unusedSimpArgs false
set_option linter.unusedVariables false
set_option maxRecDepth 100000
set_option maxHeartbeats 16000000
namespace Go.Proofs.YthehjeeiodbkjaaGreatDoor
open Go.RowKit
theorem prule_any : CpN 202 fun E g => ruleB E.P (recS E.P g) := by
 intro E g PA w i h
 refine Bp.go (m := readS E.P g .pat >>= fun p => mustD E.P s_arr >>= fun _ => readS E.P g .exp >>= fun e => (pure (.mk 12 p.n ⟨#[]⟩ 0 [p, e]) : M Ty)) h PA ?_
 intro d T W R hW B Q hlr hN
 clear h PA
 unfold pr
 go_enter Tryz.func202, Tryz.ntmps202
 obtain ⟨R9, B9, p9, hq⟩ := Pn9.ex Tryz.f202 E d w T (NdQ w)
 refine wp_mono (Q := PQ R9 B9) ?_ hq
 clear hq
 go_upto_region 1 with fail
 clear hW
 go_upto_region 2 with (go_at_call 64; refine B.pnd Q R.pat p9.bad ?_; clear B Q; intro u1 p aop capp j2 _ B Q)
 generalize hb : u1.heap.size = b4
 generalize h : u1.alloc _ = V3
 replace B := B.box h hb
 clear h hb
 go_upto_region 3 with (go_at_call 40; refine B.pun Q (kmust E d s_arr) p9.bad ?_; clear B Q; intro u5 _ _ j6 B Q)
 have c7 := B.S.cs B.F.rb
 replace B := B.drew
 go_region_law (go_simp; first | (go_at_call 28; generalize h : u8.alloc _ = V11; replace B := B.mv2.mk2 rfl h; clear h; refine B.pnode ?_; clear B; intro u12 B; have c13 := B.mv1.S.cs B.F.rb; have c14 := B.cp) | (go_at_call 17; refine B.pnd Q R.exp p9.bad ?_; clear B Q; intro u8 e aoe cape j9 _ B Q; have c10 := B.mv1.S.cs B.F.rb))
 all_goals
  go_wp2_with fail
  exact Bp.fin (.mk 12 p.n ⟨#[]⟩ 0 [p, e]) B.ko p9 Q.pr rfl rfl
theorem rule_item (E : Env) (g : Nat) (PA : PAll E g) : ItemP E (60 - g) 202 (ruleB E.P (recS E.P g)) := ⟨fun w i h => prule_any E g PA w i h, fun i x j _ e => (st_rule E.P _ (st_rec E.P g).2).mono i x j e⟩
theorem prules_any (E : Env) (g : Nat) (PA : PAll E g) (w : World) (i : Nat) (kk : Int) (aa : Nat) (ww : ByteArray) (h : Rd E w i (60 - g)) : Calls Tryz.prog 189 #[pr E, .int .i64 kk, .int .i64 (aa : Int), .string ww] w (PPost E (60 - g) w ((rulesB E.P (recS E.P g) kk aa ww) i) (NdQ w)) := by
 refine Bp.go (m := readS E.P g .exp >>= fun e => mustD E.P ww >>= fun _ => rowD E.P (ruleB E.P (recS E.P g)) s_bar >>= fun l => mustD E.P w_end >>= fun _ => (pure (.mk kk aa ⟨#[]⟩ 0 (e :: l)) : M Ty)) h PA ?_
 intro d T W R hW B Q hlr hN
 have HROW := krow 202 (item_at R.hd (rule_item E g PA)) s_bar (by intro x9 w9; rfl)
 clear h PA
 unfold pr
 go_enter Tryz.func189, Tryz.ntmps189
 obtain ⟨R9, B9, p9, hq⟩ := Pn9.ex Tryz.f189 E d w T (NdQ w)
 refine wp_mono (Q := PQ R9 B9) ?_ hq
 clear hq
 go_upto_region 1 with fail
 clear hW
 go_upto_region 2 with (first | (go_at_call 28; generalize h : u1.alloc _ = V3; replace B := B.mk1 rfl h; clear h; refine B.pnode ?_; clear B; intro u4 B) | (go_at_call 17; refine B.pnd Q R.exp p9.bad ?_; clear B Q; intro u1 e aoe cape j2 _ B Q))
 generalize hb : u4.heap.size = b6
 generalize h : u4.alloc _ = V5
 replace B := B.box h hb
 clear h hb
 go_upto_region 3 with (go_at_call 40; refine B.pun Q (kmust E d ww) p9.bad ?_; clear B Q; intro u7 _ _ j8 B Q)
 have c9 := B.S.cs B.F.rb
 replace B := B.drew
 go_region_law (first | (have hq9 := LNl; clear hq9; refine B.mv2.appO (by rfl) _ _ (by rfl) (by rfl) (by rfl) (by have h2 := LNl.out; simp; omega) ?_; clear B; intro aoL capL L u13 ELL B; have c14 := B.mv1.S.cs B.F.rb; have c15 := B.cp) | (go_simp; (go_at_call 76; refine B.prw Q HROW p9.bad ?_; clear B Q; intro u10 l aol capl j11 hx B Q; have LNl := lh (row_len hx); clear hx; have c12 := B.mv1.S.cs B.F.rb)))
 all_goals
  generalize h : u13.setCell _ _ = X16
  replace B := B.mv1.s4 h
  clear h
  go_upto_region 5 with (go_at_call 40; refine B.pun Q (kmust E d w_end) p9.bad ?_; clear B Q; intro u17 _ _ j18 B Q)
  have c19 := B.S.cs B.F.rb; have c20 := B.cp
  go_wp2_with fail
  exact Bp.fin (.mk kk aa ⟨#[]⟩ 0 L) B.mv1.ko p9 (by rw [ELL.out]; exact Q.pr) rfl rfl
theorem pround_any (E : Env) (g : Nat) (PA : PAll E g) (w : World) (i : Nat) (aa : Nat) (h : Rd E w i (60 - g)) : Calls Tryz.prog 188 #[pr E, .int .i64 (aa : Int)] w (PPost E (60 - g) w ((roundB E.P (recS E.P g) aa) i) (NdQ w)) := by
 refine Bp.go (m := fun q => if isD E.P s_rp q = true then (pure (.mk 5 aa ⟨#[]⟩ 0 []) : M Ty) (q + 1) else (readS E.P g .exp >>= fun n => eatD E.P s_com >>= fun c => if c = true then (rowD E.P (readS E.P g .exp) s_com >>= fun l => mustD E.P s_rp >>= fun _ => (pure (.mk 5 aa ⟨#[]⟩ 0 (n :: l)) : M Ty)) else (eatD E.P s_sem >>= fun h => if h = true then (rowD E.P (readS E.P g .exp) s_sem >>= fun l => mustD E.P s_rp >>= fun _ => (pure (.mk 15 aa ⟨#[]⟩ 0 (n :: l)) : M Ty)) else (eatD E.P s_col >>= fun h => if h = true then (readS E.P g .typ >>= fun t => mustD E.P s_rp >>= fun _ => (pure (.mk 19 aa ⟨#[]⟩ 0 [n, t]) : M Ty)) else (mustD E.P s_rp >>= fun _ => (pure n : M Ty))))) q) h PA ?_
 intro d T W R hW B Q hlr hN
 have HROWC := krow 17 R.iexp.out s_com (by intro x9 w9; rfl)
 have HROWS := krow 17 R.iexp.out s_sem (by intro x9 w9; rfl)
 clear h PA
 unfold pr
 go_enter Tryz.func188, Tryz.ntmps188
 obtain ⟨R9, B9, p9, hq⟩ := Pn9.ex Tryz.f188 E d w T (NdQ w)
 refine wp_mono (Q := PQ R9 B9) ?_ hq
 clear hq
 go_upto_region 1 with fail
 clear hW
 obtain ⟨b1, P⟩ := B.peat (sg := s_rp) Q
 clear B Q
 cases b1 with
 | true =>
  go_wp2_with (first | (go_at_call 28; refine B.pnode ?_; clear B; intro u3 B; have c4 := B.cp) | (go_at_call 38; refine P.t ?_; clear P; intro u2 B Q _))
  exact Bp.fin (.mk 5 aa ⟨#[]⟩ 0 []) B.nilk p9 Q.pr rfl rfl
 | false =>
  go_upto_region 3 with (go_at_call 38; refine P.f ?_; clear P; intro u5 B Q _)
  go_upto_region 4 with (go_at_call 17; refine B.pnd Q R.exp p9.bad ?_; clear B Q; intro u6 n aon capn j7 _ B Q)
  generalize hb : u6.heap.size = b9
  generalize h : u6.alloc _ = V8
  replace B := B.box h hb
  clear h hb
  obtain ⟨b10, P⟩ := B.peatd (sg := s_com) Q
  clear B Q
  cases b10 with
  | true =>
   go_upto_region 5 with (go_at_call 38; refine P.t ?_; clear P; intro u11 B Q _)
   have c12 := B.S.cs B.F.rb
   go_region_law (first | (have hq9 := LNl; clear hq9; generalize h : uR.alloc _ = V16; replace B := B.mv2.mk1 rfl h; clear h; refine B.mv1.mv1.appO (by rfl) _ _ (by rfl) (by rfl) (by rfl) (by have h1 := LNl.out; show 1 + _ ≤ _; omega) ?_; clear B; intro aoL capL L uA ELL B) | (have hq9 := LNl; clear hq9; refine B.mv1.appO (by rfl) _ _ (by rfl) (by rfl) (by rfl) (by have h1 := LNl.out; show 1 + _ ≤ _; omega) ?_; clear B; intro aoL capL L uA ELL B) | (go_simp; first | (go_at_call 28; refine B.pnode ?_; clear B; intro u17 B; have c18 := B.mv1.S.cs B.F.rb) | (go_at_call 76; generalize h : u11.alloc _ = V13; replace B := B.mv1.mk1 rfl h; clear h; replace B := B.drew; refine B.prw Q HROWC p9.bad ?_; clear B Q; intro uR l aol capl jR hx B Q; have LNl := lh (row_len hx); clear hx; have c14 := B.mv2.S.cs B.F.rb) | (go_at_call 76; replace B := B.drew; refine B.prw Q HROWC p9.bad ?_; clear B Q; intro uR l aol capl jR hx B Q; have LNl := lh (row_len hx); clear hx; have c15 := B.mv1.S.cs B.F.rb)))
   all_goals
    generalize h : ((((u17.setCell _ _).setCell _ _).setCell _ _).setCell _ _).setCell _ _ = X19
    replace B := B.mv1.sn h
    clear h
    go_upto_region 11 with (go_at_call 40; refine B.pun Q (kmust E d s_rp) p9.bad ?_; clear B Q; intro u20 _ _ j21 B Q)
    have c22 := B.S.cs B.F.rb; have c23 := B.cp
    go_wp2_with fail
    exact Bp.fin (.mk 5 aa ⟨#[]⟩ 0 L) B.mv1.ko p9 (by rw [ELL.out]; exact Q.pr) rfl rfl
  | false =>
   go_upto_region 6 with (go_at_call 38; refine P.f ?_; clear P; intro u24 B Q _)
   obtain ⟨b25, P⟩ := B.peatd (sg := s_sem) Q
   clear B Q
   cases b25 with
   | true =>
    go_upto_region 7 with (go_at_call 38; refine P.t ?_; clear P; intro u26 B Q _)
    have c27 := B.S.cs B.F.rb
    go_region_law (first | (have hq9 := LNl; clear hq9; generalize h : uR.alloc _ = V31; replace B := B.mv2.mk1 rfl h; clear h; refine B.mv1.mv1.appO (by rfl) _ _ (by rfl) (by rfl) (by rfl) (by have h1 := LNl.out; show 1 + _ ≤ _; omega) ?_; clear B; intro aoL capL L uA ELL B) | (have hq9 := LNl; clear hq9; refine B.mv1.appO (by rfl) _ _ (by rfl) (by rfl) (by rfl) (by have h1 := LNl.out; show 1 + _ ≤ _; omega) ?_; clear B; intro aoL capL L uA ELL B) | (go_simp; first | (go_at_call 28; refine B.pnode ?_; clear B; intro u32 B; have c33 := B.mv1.S.cs B.F.rb) | (go_at_call 76; generalize h : u26.alloc _ = V28; replace B := B.mv1.mk1 rfl h; clear h; replace B := B.drew; refine B.prw Q HROWS p9.bad ?_; clear B Q; intro uR l aol capl jR hx B Q; have LNl := lh (row_len hx); clear hx; have c29 := B.mv2.S.cs B.F.rb) | (go_at_call 76; replace B := B.drew; refine B.prw Q HROWS p9.bad ?_; clear B Q; intro uR l aol capl jR hx B Q; have LNl := lh (row_len hx); clear hx; have c30 := B.mv1.S.cs B.F.rb)))
    all_goals
     generalize h : ((((u32.setCell _ _).setCell _ _).setCell _ _).setCell _ _).setCell _ _ = X34
     replace B := B.mv1.sn h
     clear h
     go_upto_region 11 with (go_at_call 40; refine B.pun Q (kmust E d s_rp) p9.bad ?_; clear B Q; intro u35 _ _ j36 B Q)
     have c37 := B.S.cs B.F.rb; have c38 := B.cp
     go_wp2_with fail
     exact Bp.fin (.mk 15 aa ⟨#[]⟩ 0 L) B.mv1.ko p9 (by rw [ELL.out]; exact Q.pr) rfl rfl
   | false =>
    go_upto_region 8 with (go_at_call 38; refine P.f ?_; clear P; intro u39 B Q _)
    obtain ⟨b40, P⟩ := B.peatd (sg := s_col) Q
    clear B Q
    cases b40 with
    | true =>
     go_upto_region 9 with (go_at_call 38; refine P.t ?_; clear P; intro u41 B Q _)
     have c42 := B.S.cs B.F.rb
     replace B := B.drew
     go_region_law (go_simp; first | (go_at_call 28; generalize h : u43.alloc _ = V46; replace B := B.mv2.mk2 rfl h; clear h; refine B.pnode ?_; clear B; intro u47 B; have c48 := B.mv1.S.cs B.F.rb) | (go_at_call 65; refine B.pnd Q R.typ p9.bad ?_; clear B Q; intro u43 t aot capt j44 _ B Q; have c45 := B.mv1.S.cs B.F.rb))
     all_goals
      generalize h : ((((u47.setCell _ _).setCell _ _).setCell _ _).setCell _ _).setCell _ _ = X49
      replace B := B.mv1.sn h
      clear h
      go_upto_region 11 with (go_at_call 40; refine B.pun Q (kmust E d s_rp) p9.bad ?_; clear B Q; intro u50 _ _ j51 B Q)
      have c52 := B.S.cs B.F.rb; have c53 := B.cp
      go_wp2_with fail
      exact Bp.fin (.mk 19 aa ⟨#[]⟩ 0 [n, t]) B.mv1.ko p9 Q.pr rfl rfl
    | false =>
     go_upto_region 11 with (first | (go_at_call 40; refine B.pun Q (kmust E d s_rp) p9.bad ?_; clear B Q; intro u55 _ _ j56 B Q) | (go_at_call 38; refine P.f ?_; clear P; intro u54 B Q _))
     have c57 := B.S.cs B.F.rb; have c58 := B.cp
     go_wp2_with fail
     exact Bp.fin (n) B.mv1 p9 Q.pr rfl rfl
theorem decs_len {P : Src} {R : Rec} {k i : Nat} {l : List Ty} {j : Nat} (h : decsB P R k i = .ok l j) : l.length ≤ P.toks.length + 2 := by
 have := many_len _ _ _ _ _ h
 simp at this
 omega
theorem patom_any : CpN 165 fun E g => atomB E.P (recS E.P g) := by
 intro E g PA w i h
 refine Bp.go (m := atomB E.P (recS E.P g)) h PA ?_
 intro d T W R hW B Q hlr hN
 have HROW := krow 17 R.iexp.out s_com (by intro x9 w9; rfl)
 have HRND := at_p R.hd (fun w j h => pround_any E g PA w j (E.P.A i) h)
 have HRUC := at_p R.hd (fun w j h => prules_any E g PA w j 10 (E.P.A i) w_of h)
 have HRUT := at_p R.hd (fun w j h => prules_any E g PA w j 11 (E.P.A i) w_with h)
 have HDECS := at_p R.hd (fun w j h => decs_any E g PA w j 2 (by decide) h)
 clear h PA
 unfold pr at HRND HRUC HRUT HDECS ⊢
 go_enter Tryz.func165, Tryz.ntmps165
 obtain ⟨R9, B9, p9, hq⟩ := Pn9.ex Tryz.f165 E d w T (NdQ w)
 refine wp_mono (Q := PQ R9 B9) ?_ hq
 clear hq
 go_upto_region 1 with fail
 clear hW
 go_upto_region 2 with (go_at_call 35; refine B.pnow ?_; clear B; intro u1 B; have f2 := tk_fields E.P i)
 clear f2
 generalize hb : u1.heap.size = b4
 generalize h : u1.alloc _ = V3
 replace B := B.boxt h hb
 clear h hb
 have c5 := B.S.ct B.F.rb
 go_upto_region 4 with (go_at_call 28; refine B.pnode ?_; clear B; intro u6 B; have c7 := B.S.ct B.F.rb)
 clear c5 c7
 generalize hb : u6.heap.size = b9
 generalize h : u6.alloc _ = V8
 replace B := B.box h hb
 clear h hb
 have c10 := B.mv1.S.ct B.F.rb
 by_cases hk11 : E.P.K i = 1
 · have ek12 : (E.P.K i == 1) = true := by simp [hk11]
   have HK13 := lh hk11
   clear hk11
   have hle : i + 1 ≤ E.P.toks.length := Nat.succ_le_of_lt (K_lt (by rw [HK13.out]; decide))
   replace Q : Qp T (pure (.mk 1 (E.P.A i) ⟨#[]⟩ (E.P.N i) []) : M Ty) (i + 1) := ⟨Q.eq.trans (atom_1 HK13.out)⟩
   go_upto_region 5 with fail
   have c14 := B.S.cs B.F.rb
   go_upto_region 6 with fail
   clear c10 c14
   generalize h : V8.setCell _ _ = X15
   replace B := B.s3 h
   clear h
   have c16 := B.S.cs B.F.rb; have c17 := B.F.R.cells
   go_upto_region 37 with fail
   clear c16 c17
   generalize h : X15.setCell _ _ = X18
   replace B := B.seti (j' := i + 1) hle h rfl
   clear h
   have c19 := B.S.cs B.F.rb; have c20 := B.cp
   go_wp2_with fail
   exact Bp.fin (.mk 1 (E.P.A i) ⟨#[]⟩ (E.P.N i) []) B.nilk p9 Q.pr rfl rfl
 · have ek21 : (E.P.K i == 1) = false := by simp [hk11]
   have HK22 := lh hk11
   clear hk11
   go_upto_region 7 with fail
   by_cases hk23 : E.P.K i = 2
   · have ek24 : (E.P.K i == 2) = true := by simp [hk23]
     have HK25 := lh hk23
     clear hk23
     have hle : i + 1 ≤ E.P.toks.length := Nat.succ_le_of_lt (K_lt (by rw [HK25.out]; decide))
     replace Q : Qp T (pure (.mk 2 (E.P.A i) (E.P.T i) 0 []) : M Ty) (i + 1) := ⟨Q.eq.trans (atom_2 HK25.out)⟩
     go_upto_region 8 with fail
     clear c10
     have c26 := B.S.cs B.F.rb; have c27 := B.mv1.S.ct B.F.rb
     go_region
     clear c26 c27
     generalize h : V8.setCell _ _ = X28
     replace B := B.s0 h
     clear h
     generalize h : X28.setCell _ _ = X29
     replace B := B.s2 h
     clear h
     replace B := B.drew
     generalize X29.drew = V30 at B ⊢
     have c31 := B.S.cs B.F.rb; have c32 := B.F.R.cells
     go_upto_region 37 with fail
     clear c31 c32
     generalize h : V30.setCell _ _ = X33
     replace B := B.seti (j' := i + 1) hle h rfl
     clear h
     have c34 := B.S.cs B.F.rb; have c35 := B.cp
     go_wp2_with fail
     exact Bp.fin (.mk 2 (E.P.A i) (E.P.T i) 0 []) B.nilk p9 Q.pr rfl rfl
   · have ek36 : (E.P.K i == 2) = false := by simp [hk23]
     have HK37 := lh hk23
     clear hk23
     go_upto_region 10 with fail
     by_cases hk38 : E.P.K i = 3
     · have ek39 : (E.P.K i == 3) = true := by simp [hk38]
       have HK40 := lh hk38
       clear hk38
       replace Q : Qp T (pathD E.P 0 >>= fun p => (ret (.mk (if p.2 = 3 then 3 else 4) (E.P.A i) p.1 0 []) : M Ty)) i := ⟨Q.eq.trans (atom_3 (.inl HK40.out))⟩
       go_upto_region 12 with fail
       clear c10
       go_upto_region 13 with (go_at_call 75; refine B.ppth Q (kpath0 E d) p9.bad ?_; clear B Q; intro u41 p j42 _ B Q; have c43 := B.S.cs B.F.rb)
       go_upto_region 14 with fail
       clear c43
       generalize h : u41.setCell _ _ = X44
       replace B := B.s0 h
       clear h
       generalize h : X44.setCell _ _ = X45
       replace B := B.s2 h
       clear h
       by_cases h9 : p.2 = 3
       · have e9 : ((p.2 : Int) == 3) = true := by simp [h9]
         replace Q : Qp T (pure (.mk 3 (E.P.A i) p.1 0 []) : M Ty) j42 := ⟨by rw [Q.eq, if_pos h9]; rfl⟩
         clear h9
         have c46 := B.S.cs B.F.rb
         go_upto_region 37 with fail
         clear c46
         generalize h : X45.setCell _ _ = X47
         replace B := B.s0 h
         clear h
         have c48 := B.S.cs B.F.rb; have c49 := B.cp
         go_wp2_with fail
         exact Bp.fin (.mk 3 (E.P.A i) p.1 0 []) B.nilk p9 Q.pr rfl rfl
       · have e9 : ((p.2 : Int) == 3) = false := by simp; omega
         replace Q : Qp T (pure (.mk 4 (E.P.A i) p.1 0 []) : M Ty) j42 := ⟨by rw [Q.eq, if_neg h9]; rfl⟩
         clear h9
         have c50 := B.S.cs B.F.rb; have c51 := B.cp
         go_wp2_with fail
         exact Bp.fin (.mk 4 (E.P.A i) p.1 0 []) B.nilk p9 Q.pr rfl rfl
     · have ek52 : (E.P.K i == 3) = false := by simp [hk38]
       have HK53 := lh hk38
       clear hk38
       go_upto_region 11 with fail
       by_cases hk54 : E.P.K i = 4
       · have ek55 : (E.P.K i == 4) = true := by simp [hk54]
         have HK56 := lh hk54
         clear hk54
         replace Q : Qp T (pathD E.P 0 >>= fun p => (ret (.mk (if p.2 = 3 then 3 else 4) (E.P.A i) p.1 0 []) : M Ty)) i := ⟨Q.eq.trans (atom_3 (.inr HK56.out))⟩
         go_upto_region 12 with fail
         clear c10
         go_upto_region 13 with (go_at_call 75; refine B.ppth Q (kpath0 E d) p9.bad ?_; clear B Q; intro u57 p j58 _ B Q; have c59 := B.S.cs B.F.rb)
         go_upto_region 14 with fail
         clear c59
         generalize h : u57.setCell _ _ = X60
         replace B := B.s0 h
         clear h
         generalize h : X60.setCell _ _ = X61
         replace B := B.s2 h
         clear h
         by_cases h9 : p.2 = 3
         · have e9 : ((p.2 : Int) == 3) = true := by simp [h9]
           replace Q : Qp T (pure (.mk 3 (E.P.A i) p.1 0 []) : M Ty) j58 := ⟨by rw [Q.eq, if_pos h9]; rfl⟩
           clear h9
           have c62 := B.S.cs B.F.rb
           go_upto_region 37 with fail
           clear c62
           generalize h : X61.setCell _ _ = X63
           replace B := B.s0 h
           clear h
           have c64 := B.S.cs B.F.rb; have c65 := B.cp
           go_wp2_with fail
           exact Bp.fin (.mk 3 (E.P.A i) p.1 0 []) B.nilk p9 Q.pr rfl rfl
         · have e9 : ((p.2 : Int) == 3) = false := by simp; omega
           replace Q : Qp T (pure (.mk 4 (E.P.A i) p.1 0 []) : M Ty) j58 := ⟨by rw [Q.eq, if_neg h9]; rfl⟩
           clear h9
           have c66 := B.S.cs B.F.rb; have c67 := B.cp
           go_wp2_with fail
           exact Bp.fin (.mk 4 (E.P.A i) p.1 0 []) B.nilk p9 Q.pr rfl rfl
       · have ek68 : (E.P.K i == 4) = false := by simp [hk54]
         have HK69 := lh hk54
         clear hk54
         go_upto_region 16 with fail
         clear c10
         cases hs70 : isD E.P w_true i with
         | true =>
          have HS71 := lh hs70
          clear hs70
          replace Q : Qp T (pure (.mk 4 (E.P.A i) (E.P.T i) 0 []) : M Ty) (i + 1) := ⟨Q.eq.trans (atom_w (isD_at HS71.out).1 (.inl (isD_at HS71.out).2))⟩
          go_upto_region 18 with (go_at_call 38; refine B.eat1 (sg := w_true) HS71.out ?_; clear B; intro u72 B; have c73 := B.S.cs B.F.rb; have c74 := B.mv1.S.ct B.F.rb)
          go_region
          clear c73 c74
          generalize h : u72.setCell _ _ = X75
          replace B := B.s0 h
          clear h
          generalize h : X75.setCell _ _ = X76
          replace B := B.s2 h
          clear h
          replace B := B.drew
          generalize X76.drew = V77 at B ⊢
          have c78 := B.S.cs B.F.rb; have c79 := B.cp
          go_wp2_with fail
          exact Bp.fin (.mk 4 (E.P.A i) (E.P.T i) 0 []) B.nilk p9 Q.pr rfl rfl
         | false =>
          have HS80 := lh hs70
          clear hs70
          go_upto_region 17 with (go_at_call 38; refine B.eat0 (sg := w_true) HS80.out ?_; clear B; intro u81 B)
          cases hs82 : isD E.P w_false i with
          | true =>
           have HS83 := lh hs82
           clear hs82
           replace Q : Qp T (pure (.mk 4 (E.P.A i) (E.P.T i) 0 []) : M Ty) (i + 1) := ⟨Q.eq.trans (atom_w (isD_at HS83.out).1 (.inr (isD_at HS83.out).2))⟩
           go_upto_region 18 with (go_at_call 38; refine B.eat1 (sg := w_false) HS83.out ?_; clear B; intro u84 B; have c85 := B.S.cs B.F.rb; have c86 := B.mv1.S.ct B.F.rb)
           go_region
           clear c85 c86
           generalize h : u84.setCell _ _ = X87
           replace B := B.s0 h
           clear h
           generalize h : X87.setCell _ _ = X88
           replace B := B.s2 h
           clear h
           replace B := B.drew
           generalize X88.drew = V89 at B ⊢
           have c90 := B.S.cs B.F.rb; have c91 := B.cp
           go_wp2_with fail
           exact Bp.fin (.mk 4 (E.P.A i) (E.P.T i) 0 []) B.nilk p9 Q.pr rfl rfl
          | false =>
           have HS92 := lh hs82
           clear hs82
           go_upto_region 19 with (go_at_call 38; refine B.eat0 (sg := w_false) HS92.out ?_; clear B; intro u93 B)
           cases hs94 : isD E.P s_lp i with
           | true =>
            have HS95 := lh hs94
            clear hs94
            replace Q : Qp T (roundB E.P (recS E.P g) (E.P.A i)) (i + 1) := ⟨Q.eq.trans (atom_s_lp (isD_at HS95.out).1 (isD_at HS95.out).2)⟩
            go_upto_region 20 with (go_at_call 38; refine B.eat1 (sg := s_lp) HS95.out ?_; clear B; intro u96 B; have c97 := B.mv1.S.ct B.F.rb)
            go_wp2_with (go_at_call 188; refine B.pndt Q HRND p9.bad ?_; clear B Q; intro u98 p aop capp j99 B Q; have c100 := B.cp)
            exact Bp.fin (p) B p9 Q rfl rfl
           | false =>
            have HS101 := lh hs94
            clear hs94
            go_upto_region 21 with (go_at_call 38; refine B.eat0 (sg := s_lp) HS101.out ?_; clear B; intro u102 B)
            cases hs103 : isD E.P s_lb i with
            | true =>
             have HS104 := lh hs103
             clear hs103
             replace Q : Qp T (eatD E.P s_rb >>= fun e => if e = true then (pure (.mk 6 (E.P.A i) ⟨#[]⟩ 0 []) : M Ty) else (rowD E.P (readS E.P g .exp) s_com >>= fun l => mustD E.P s_rb >>= fun _ => (pure (.mk 6 (E.P.A i) ⟨#[]⟩ 0 l) : M Ty))) (i + 1) := ⟨Q.eq.trans (atom_s_lb (isD_at HS104.out).1 (isD_at HS104.out).2)⟩
             go_upto_region 22 with (go_at_call 38; refine B.eat1 (sg := s_lb) HS104.out ?_; clear B; intro u105 B; have c106 := B.S.cs B.F.rb)
             go_upto_region 23 with fail
             clear c106
             generalize h : u105.setCell _ _ = X107
             replace B := B.s0 h
             clear h
             obtain ⟨b108, P⟩ := B.peatd (sg := s_rb) Q
             clear B Q
             cases b108 with
             | true =>
              go_wp2_with (go_at_call 38; refine P.t ?_; clear P; intro u109 B Q _; have c110 := B.S.cs B.F.rb; have c111 := B.cp)
              exact Bp.fin (.mk 6 (E.P.A i) ⟨#[]⟩ 0 []) B.nilk p9 Q.pr rfl rfl
             | false =>
              go_upto_region 24 with (go_at_call 38; refine P.f ?_; clear P; intro u112 B Q _)
              go_upto_region 25 with (go_at_call 76; refine B.prw Q HROW p9.bad ?_; clear B Q; intro u113 l aol capl j114 _ B Q; have c115 := B.mv1.S.cs B.F.rb)
              clear c115
              generalize h : u113.setCell _ _ = X116
              replace B := B.mv1.s4 h
              clear h
              go_upto_region 37 with (go_at_call 40; refine B.pun Q (kmust E d s_rb) p9.bad ?_; clear B Q; intro u117 _ _ j118 B Q)
              have c119 := B.S.cs B.F.rb; have c120 := B.cp
              go_wp2_with fail
              exact Bp.fin (.mk 6 (E.P.A i) ⟨#[]⟩ 0 l) B.mv1.ko p9 Q.pr rfl rfl
            | false =>
             have HS121 := lh hs103
             clear hs103
             go_upto_region 26 with (go_at_call 38; refine B.eat0 (sg := s_lb) HS121.out ?_; clear B; intro u122 B)
             cases hs123 : isD E.P w_let i with
             | true =>
              have HS124 := lh hs123
              clear hs123
              replace Q : Qp T (decsB E.P (recS E.P g) 2 >>= fun l => mustD E.P w_in >>= fun _ => readS E.P g .exp >>= fun e => mustD E.P w_end >>= fun _ => (pure (.mk 14 (E.P.A i) ⟨#[]⟩ l.length (l ++ [e])) : M Ty)) (i + 1) := ⟨Q.eq.trans (atom_w_let (isD_at HS124.out).1 (isD_at HS124.out).2)⟩
              go_upto_region 27 with (go_at_call 38; refine B.eat1 (sg := w_let) HS124.out ?_; clear B; intro u125 B; have c126 := B.S.cs B.F.rb)
              go_upto_region 28 with fail
              clear c126
              generalize h : u125.setCell _ _ = X127
              replace B := B.s0 h
              clear h
              go_upto_region 29 with (go_at_call 29; refine B.prw Q HDECS p9.bad ?_; clear B Q; intro u128 l aol capl j129 hx B Q; have LNl := lh (decs_len hx); clear hx; have c130 := B.mv1.S.cs B.F.rb)
              clear c130
              generalize h : u128.setCell _ _ = X131
              replace B := B.mv1.s4 h
              clear h
              have c132 := B.S.cs B.F.rb
              go_upto_region 30 with fail
              clear c132
              generalize h : X131.setCell _ _ = X133
              replace B := B.s3 h
              clear h
              go_upto_region 31 with (go_at_call 40; refine B.pun Q (kmust E d w_in) p9.bad ?_; clear B Q; intro u134 _ _ j135 B Q)
              have c136 := B.S.cs B.F.rb
              replace B := B.drew
              go_region_law (first | (have hq9 := LXe; clear hq9; generalize h : u137.alloc _ = V140; replace B := B.mk1 rfl h; clear h; refine B.mv2.appO (by rfl) _ _ (by rfl) (by rfl) (by rfl) (by have h1 := LNl.out; simp; omega) ?_; clear B; intro aoL capL L u141 ELL B; have c142 := B.mv1.S.cs B.F.rb; have c143 := B.cp) | (go_simp; (go_at_call 17; refine B.pnd Q R.exp p9.bad ?_; clear B Q; intro u137 e aoe cape j138 hx B Q; have LXe := lh hx; clear hx; have c139 := B.mv1.S.cs B.F.rb)))
              all_goals
               generalize h : u141.setCell _ _ = X144
               replace B := B.mv1.s4 h
               clear h
               go_upto_region 37 with (go_at_call 40; refine B.pun Q (kmust E d w_end) p9.bad ?_; clear B Q; intro u145 _ _ j146 B Q)
               have c147 := B.S.cs B.F.rb; have c148 := B.cp
               go_wp2_with fail
               exact Bp.fin (.mk 14 (E.P.A i) ⟨#[]⟩ l.length L) B.mv1.ko p9 (by rw [ELL.out]; exact Q.pr) rfl rfl
             | false =>
              have HS149 := lh hs123
              clear hs123
              go_upto_region 33 with (go_at_call 38; refine B.eat0 (sg := w_let) HS149.out ?_; clear B; intro u150 B)
              cases hs151 : isD E.P w_case i with
              | true =>
               have HS152 := lh hs151
               clear hs151
               replace Q : Qp T (rulesB E.P (recS E.P g) 10 (E.P.A i) w_of) (i + 1) := ⟨Q.eq.trans (atom_w_case (isD_at HS152.out).1 (isD_at HS152.out).2)⟩
               go_upto_region 34 with (go_at_call 38; refine B.eat1 (sg := w_case) HS152.out ?_; clear B; intro u153 B; have c154 := B.mv1.S.ct B.F.rb)
               go_wp2_with (go_at_call 189; refine B.pndt Q HRUC p9.bad ?_; clear B Q; intro u155 p aop capp j156 B Q; have c157 := B.cp)
               exact Bp.fin (p) B p9 Q rfl rfl
              | false =>
               have HS158 := lh hs151
               clear hs151
               go_upto_region 35 with (go_at_call 38; refine B.eat0 (sg := w_case) HS158.out ?_; clear B; intro u159 B)
               cases hs160 : isD E.P w_try i with
               | true =>
                have HS161 := lh hs160
                clear hs160
                replace Q : Qp T (rulesB E.P (recS E.P g) 11 (E.P.A i) w_with) (i + 1) := ⟨Q.eq.trans (atom_w_try (isD_at HS161.out).1 (isD_at HS161.out).2)⟩
                go_upto_region 36 with (go_at_call 38; refine B.eat1 (sg := w_try) HS161.out ?_; clear B; intro u162 B; have c163 := B.mv1.S.ct B.F.rb)
                go_wp2_with (go_at_call 189; refine B.pndt Q HRUT p9.bad ?_; clear B Q; intro u164 p aop capp j165 B Q; have c166 := B.cp)
                exact Bp.fin (p) B p9 Q rfl rfl
               | false =>
                have HS167 := lh hs160
                clear hs160
                go_upto_region 3 with (go_at_call 38; refine B.eat0 (sg := w_try) HS167.out ?_; clear B; intro u168 B)
                have HNO : Hid (atomB E.P (recS E.P g) i = failD E.P 4 i) := lh (atom_no HK22.out HK37.out (fun h => h.elim HK53.out HK69.out) (oneD_no (by simp [HS80.out, HS92.out, HS101.out, HS121.out, HS149.out, HS158.out, HS167.out])))
                go_wp2_with (go_at_call 36; exact B.fail (e := 4) Q HNO.out p9.bad)
theorem rann_if {β : Type} (P : Src) (R : Rec) (f : Int × List Ty → M β) (i : Nat) : (annB P R >>= f) i = if isD P s_col i = true then (R.go .sig >>= fun g => f (1, [g])) (i + 1) else if isD P s_opq i = true then (R.go .sig >>= fun g => f (2, [g])) (i + 1) else f (0, []) i := by
 have e : annB P R i = if isD P s_col i = true then (R.go .sig >>= fun g => (ret ((1 : Int), [g]) : M (Int × List Ty))) (i + 1) else if isD P s_opq i = true then (R.go .sig >>= fun g => (ret ((2 : Int), [g]) : M (Int × List Ty))) (i + 1) else .ok ((0 : Int), []) i := rfl
 show bnd (annB P R) f i = _
 unfold bnd
 rw [e]
 by_cases h1 : isD P s_col i = true
 · rw [if_pos h1, if_pos h1]
   cases h : R.go .sig (i + 1) with
   | bad k a => rw [bind_bad h, bind_bad h]
   | ok x j => rw [bind_ok h, bind_ok h]; rfl
 · rw [if_neg h1, if_neg h1]
   by_cases h2 : isD P s_opq i = true
   · rw [if_pos h2, if_pos h2]
     cases h : R.go .sig (i + 1) with
     | bad k a => rw [bind_bad h, bind_bad h]
     | ok x j => rw [bind_ok h, bind_ok h]; rfl
   · rw [if_neg h2, if_neg h2]
theorem spec_no {P : Src} {R : Rec} {i : Nat} (h : oneD P [w_val, w_type, w_data, w_exception, w_structure] i = false) : specB P R i = failD P 4 i := by
 have hn : ∀ x ∈ [w_val, w_type, w_data, w_exception, w_structure], ¬ isD P x i = true := fun x hx h9 => by
  unfold isD at h9
  unfold oneD at h
  rw [Bool.and_eq_true] at h9
  rw [h9.1, Bool.true_and] at h
  exact List.any_eq_false.1 h x hx h9.2
 unfold specB
 rw [if_neg (hn _ (by simp)), if_neg (hn _ (by simp)), if_neg (hn _ (by simp)), if_neg (hn _ (by simp)), if_neg (hn _ (by simp))]
theorem spec_val {P : Src} {R : Rec} {i : Nat} (hk : P.K i = 6 ∨ P.K i = 7) (h : P.T i = w_val) : specB P R i = (kindD P 3 >>= fun x => mustD P s_col >>= fun _ => R.go .typ >>= fun t => (pure (.mk 49 (P.A i) x 0 [t]) : M Ty)) (i + 1) := by
 unfold specB
 rw [if_pos (by rw [isD_w hk, h]; decide)]
theorem spec_type {P : Src} {R : Rec} {i : Nat} (hk : P.K i = 6 ∨ P.K i = 7) (h : P.T i = w_type) : specB P R i = (headB P 50 (P.A i) >>= fun h => eatD P s_eq >>= fun e => if e = true then (R.go .typ >>= fun t => (pure (.mk h.k h.n h.s h.q (h.args ++ [t])) : M Ty)) else (pure h : M Ty)) (i + 1) := by
 unfold specB
 rw [if_neg (by rw [isD_w hk, h]; decide), if_pos (by rw [isD_w hk, h]; decide)]
theorem spec_data {P : Src} {R : Rec} {i : Nat} (hk : P.K i = 6 ∨ P.K i = 7) (h : P.T i = w_data) : specB P R i = dataB P R (P.A i) (i + 1) := by
 unfold specB
 rw [if_neg (by rw [isD_w hk, h]; decide), if_neg (by rw [isD_w hk, h]; decide), if_pos (by rw [isD_w hk, h]; decide)]
theorem spec_exception {P : Src} {R : Rec} {i : Nat} (hk : P.K i = 6 ∨ P.K i = 7) (h : P.T i = w_exception) : specB P R i = (conB P R >>= fun c => (pure (.mk 41 (P.A i) c.s c.q c.args) : M Ty)) (i + 1) := by
 unfold specB
 rw [if_neg (by rw [isD_w hk, h]; decide), if_neg (by rw [isD_w hk, h]; decide), if_neg (by rw [isD_w hk, h]; decide), if_pos (by rw [isD_w hk, h]; decide)]
theorem spec_structure {P : Src} {R : Rec} {i : Nat} (hk : P.K i = 6 ∨ P.K i = 7) (h : P.T i = w_structure) : specB P R i = (kindD P 4 >>= fun x => mustD P s_col >>= fun _ => R.go .sig >>= fun t => (pure (.mk 51 (P.A i) x 0 [t]) : M Ty)) (i + 1) := by
 unfold specB
 rw [if_neg (by rw [isD_w hk, h]; decide), if_neg (by rw [isD_w hk, h]; decide), if_neg (by rw [isD_w hk, h]; decide), if_neg (by rw [isD_w hk, h]; decide), if_pos (by rw [isD_w hk, h]; decide)]
end Go.Proofs.YthehjeeiodbkjaaGreatDoor
