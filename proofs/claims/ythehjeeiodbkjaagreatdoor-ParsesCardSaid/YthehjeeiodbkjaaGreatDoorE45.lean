/-
  Proved: the contracts of the reader's sig and exp, one level up; the contracts of exp, pat, typ, dec, sig at every depth. Conditions: the reader as it stands in memory; what the reader reads within; the reader as it stands in memory.
-/
import Derived.Test.YthehjeeiodbkjaaGreatDoorE41
import Derived.Test.YthehjeeiodbkjaaGreatDoorE43
import Derived.Test.YthehjeeiodbkjaaGreatDoorE42
import Derived.Test.YthehjeeiodbkjaaGreatDoorE44
set_option linter.unusedSimpArgs false
set_option linter.unusedVariables false
set_option maxRecDepth 100000
set_option maxHeartbeats 16000000
namespace Go.Proofs.YthehjeeiodbkjaaGreatDoor
open Go.RowKit
theorem specsL_at (P : Src) (R : Rec) (f : Nat) (acc : List Ty) (i : Nat) : specsL P R (f + 1) acc i = if isD P w_end i = true then .ok acc (i + 1) else (specB P R >>= fun x => specsL P R f (acc ++ [x])) i := rfl
theorem psig_step (E : Env) (g : Nat) (PA : PAll E g) (hg : g + 1 ≤ 60) (w : World) (i : Nat) (h : Rd E w i (60 - (g + 1))) : Calls Tryz.prog 125 #[pr E] w (PPost E (60 - (g + 1)) w (readS E.P (g + 1) .sig i) (NdQ w)) := by
 refine Bp.god (m := fun q => if isD E.P w_sig q = true then (specsL E.P (recS E.P g) (E.P.toks.length + 1) [] >>= (fun l => (pure (.mk 47 (E.P.A i) ⟨#[]⟩ 0 l) : M Ty))) (q + 1) else (kindD E.P 4 >>= fun s => (pure (.mk 48 (E.P.A i) s 0 []) : M Ty)) q) hg h PA (by rw [readS_succ]; rfl) ?_
 intro d T W R h60 hW B Q hlr hN
 have HSPEC := at_p R.hd (fun w j h => pspec_any E g PA w j h)
 have HST := lh (show ∀ i x j, specB E.P (recS E.P g) i = .ok x j → i + 1 ≤ j from fun i x j e => st_spec E.P _ (st_rec E.P g).2 i x j e)
 clear h PA
 unfold pr at HSPEC ⊢
 go_enter_defers Tryz.func125, Tryz.ntmps125
 obtain ⟨R9, B9, p9, hq⟩ := Pw9.ex Tryz.f125 E d w T
 refine wp_mono (Q := PQ R9 B9) ?_ (fun e a W h => bodyPostE_le _ _ _ _ _ e a W (hq e a W h))
 clear hq
 go_upto_region 1 with fail
 clear hW
 go_upto_region 2 with (go_at_call 37; refine B.win h60 ?_; clear B; intro w1 bC hbC B)
 clear hbC
 go_upto_region 3 with (first | (go_at_call 28; refine B.pnode ?_; clear B; intro u3 B) | (go_at_call 35; refine B.pnow ?_; clear B; intro u1 B; have f2 := tk_fields E.P i))
 clear f2
 generalize hb : u3.heap.size = b5
 generalize h : u3.alloc _ = V4
 replace B := B.box h hb
 clear h hb
 obtain ⟨b6, P⟩ := B.peat (sg := w_sig) Q
 clear B Q
 cases b6 with
 | true =>
  go_upto_region 6 with (go_at_call 38; refine P.t ?_; clear P; intro u7 B Q _)
  go_loopw [] (fun wr => ∃ (l : List Ty) (ao : Option Addr) (cap j f : Nat), Qp T (specsL E.P (recS E.P g) f l >>= (fun l => (pure (.mk 47 (E.P.A i) ⟨#[]⟩ 0 l) : M Ty))) j ∧ E.P.toks.length < j + f ∧ l.length ≤ j ∧ Bp E w (d + 1) wr j [.nv b5 (.int .i64 47) (.int .i64 (E.P.A i : Int)) (.string ⟨#[]⟩) (.int .i64 0) (.slice ao l.length cap), .ow (.slice ao l.length cap) l, .gv bC 42 #[.pointer (some ⟨E.rb, 0, none⟩)]]) (fun wr => E.P.toks.length - posOf wr E.rb)
  case atStart => exact ⟨[], none, 0, _, _, Q, by omega, Nat.zero_le _, B.nilo.mv1⟩
  case round =>
   clear B Q
   obtain ⟨l, ao, cap, j, f, Q, hf, hl, B⟩ := hrel
   obtain ⟨f, rfl⟩ : ∃ f', f = f' + 1 := ⟨f - 1, by have := B.F.R.le; omega⟩
   have HF := lh hf
   have HL := lh hl
   have R0 := lh B.F.R
   clear hf hl
   replace Q : Qp T (fun q => if isD E.P w_end q = true then ((fun l => (pure (.mk 47 (E.P.A i) ⟨#[]⟩ 0 l) : M Ty)) l) (q + 1) else (specB E.P (recS E.P g) >>= fun x => specsL E.P (recS E.P g) f (l ++ [x]) >>= (fun l => (pure (.mk 47 (E.P.A i) ⟨#[]⟩ 0 l) : M Ty))) q) j := ⟨by
    rw [Q.eq]
    show bnd (specsL E.P (recS E.P g) (f + 1) l) (fun l => (pure (.mk 47 (E.P.A i) ⟨#[]⟩ 0 l) : M Ty)) j = _
    unfold bnd
    rw [specsL_at]
    by_cases h : isD E.P w_end j = true
    · rw [if_pos h, if_pos h]
    · rw [if_neg h, if_neg h]
      cases hx : specB E.P (recS E.P g) j with
      | bad k a => rw [bind_bad hx, bind_bad hx]
      | ok x m => rw [bind_ok hx, bind_ok hx]; rfl⟩
   obtain ⟨b8, P⟩ := B.peat (sg := w_end) Q
   clear B Q
   cases b8 with
   | true =>
    go_wp2_with (go_at_call 38; refine P.t ?_; clear P; intro u9 B Q _; have c10 := B.S.cs B.F.rb; have c11 := B.cp)
    exact Bp.finw (.mk 47 (E.P.A i) ⟨#[]⟩ 0 l) B.mv1.ko p9 (.tail _ (.head _)) Q.pr rfl rfl
   | false =>
    go_upto_region 7 with (go_at_call 38; refine P.f ?_; clear P; intro u12 B Q _)
    have c13 := B.S.cs B.F.rb
    replace B := B.drew
    go_region_law (first | (have hq9 := LXs; clear hq9; generalize h : u14.alloc _ = V17; replace B := B.mk1 rfl h; clear h; refine B.mv2.appO (by rfl) _ _ (by rfl) (by rfl) (by rfl) (by have h1 := HL.out; have h2 := R0.out.le; simp; omega) ?_; clear B; intro aoL capL L u18 ELL B; have c19 := B.mv1.S.cs B.F.rb; have c20 := B.cp) | (go_simp; (go_at_call 164; refine B.pnd Q HSPEC (p9.bad (.tail _ (.tail _ (.head _)))) ?_; clear B Q; intro u14 s aos caps j15 hx B Q; have LXs := lh hx; clear hx; have c16 := B.mv1.S.cs B.F.rb)))
    all_goals
     generalize h : u18.setCell _ _ = X21
     replace B := B.mv1.s4 h
     clear h
     have LS := lh (HST.out _ _ _ LXs.out)
     go_roundw
     case rel => first | exact ⟨L, aoL, capL, j15, f, by rw [ELL.out]; exact Q, by have := LS.out; have := HF.out; omega, by rw [ELL.out, List.length_append]; have := LS.out; have := HL.out; simp; omega, B.mv2.mv2.mv2⟩ | ((repeat apply Exists.intro); exact ⟨⟨L, aoL, capL, j15, f, by rw [ELL.out]; exact Q, by have := LS.out; have := HF.out; omega, by rw [ELL.out, List.length_append]; have := LS.out; have := HL.out; simp; omega, B.mv2.mv2.mv2⟩, rfl⟩)
     case measure => exact pos_less R0.out B.F.R LS.out
 | false =>
  go_upto_region 4 with (go_at_call 38; refine P.f ?_; clear P; intro u22 B Q _)
  go_upto_region 5 with (go_at_call 74; refine B.pstr Q (kkind4 E (d + 1)) (p9.bad (.tail _ (.head _))) ?_; clear B Q; intro u23 s j24 _ B Q; have c25 := B.S.cs B.F.rb)
  clear c25
  generalize h : u23.setCell _ _ = X26
  replace B := B.s0 h
  clear h
  generalize h : X26.setCell _ _ = X27
  replace B := B.s2 h
  clear h
  have c28 := B.S.cs B.F.rb; have c29 := B.cp
  go_wp2_with fail
  exact Bp.finw (.mk 48 (E.P.A i) s 0 []) B.nilk p9 (.tail _ (.head _)) Q.pr rfl rfl
theorem pexp_step (E : Env) (g : Nat) (PA : PAll E g) (hg : g + 1 ≤ 60) (w : World) (i : Nat) (h : Rd E w i (60 - (g + 1))) : Calls Tryz.prog 17 #[pr E] w (PPost E (60 - (g + 1)) w (readS E.P (g + 1) .exp i) (NdQ w)) := by
 refine Bp.god (m := fun q => if isD E.P w_fn q = true then (apatB E.P (recS E.P g) >>= fun p => mustD E.P s_arr >>= fun _ => readS E.P g .exp >>= fun e => (pure (.mk 7 (E.P.A i) ⟨#[]⟩ 0 [p, e]) : M Ty)) (q + 1) else (fun q => if isD E.P w_if q = true then (readS E.P g .exp >>= fun a => mustD E.P w_then >>= fun _ => readS E.P g .exp >>= fun b => mustD E.P w_else >>= fun _ => readS E.P g .exp >>= fun c => (pure (.mk 9 (E.P.A i) ⟨#[]⟩ 0 [a, b, c]) : M Ty)) (q + 1) else (fun q => if isD E.P w_raise q = true then (readS E.P g .exp >>= fun e => (pure (.mk 13 (E.P.A i) ⟨#[]⟩ 0 [e]) : M Ty)) (q + 1) else betB E.P (recS E.P g) 7 q : M Ty) q : M Ty) q) hg h PA (by rw [readS_succ]; rfl) ?_
 intro d T W R h60 hW B Q hlr hN
 have HAP := at_p R.hd (fun w j h => papat_any E g PA w j h)
 have HBET := at_p R.hd (fun w j h => between_any E g PA w j 7 (by decide) h)
 clear h PA
 unfold pr at HAP HBET ⊢
 go_enter_defers Tryz.func17, Tryz.ntmps17
 obtain ⟨R9, B9, p9, hq⟩ := Pw9.ex Tryz.f17 E d w T
 refine wp_mono (Q := PQ R9 B9) ?_ (fun e a W h => bodyPostE_le _ _ _ _ _ e a W (hq e a W h))
 clear hq
 go_upto_region 1 with fail
 clear hW
 go_upto_region 2 with (go_at_call 37; refine B.win h60 ?_; clear B; intro w1 bC hbC B)
 clear hbC
 go_upto_region 3 with (go_at_call 35; refine B.pnow ?_; clear B; intro u1 B; have f2 := tk_fields E.P i)
 clear f2
 obtain ⟨b3, P⟩ := B.peat (sg := w_fn) Q
 clear B Q
 cases b3 with
 | true =>
  go_upto_region 5 with (first | (go_at_call 39; refine B.pnd Q HAP (p9.bad (.head _)) ?_; clear B Q; intro u5 p aop capp j6 _ B Q) | (go_at_call 38; refine P.t ?_; clear P; intro u4 B Q _))
  generalize hb : u5.heap.size = b8
  generalize h : u5.alloc _ = V7
  replace B := B.box h hb
  clear h hb
  go_upto_region 6 with (go_at_call 40; refine B.pun Q (kmust E (d + 1) s_arr) (p9.bad (.tail _ (.tail _ (.head _)))) ?_; clear B Q; intro u9 _ _ j10 B Q)
  have c11 := B.S.cs B.F.rb
  replace B := B.drew
  go_region_law (go_simp; first | (go_at_call 28; generalize h : u12.alloc _ = V15; replace B := B.mv2.mk2 rfl h; clear h; refine B.pnode ?_; clear B; intro u16 B; have c17 := B.cp) | (go_at_call 17; refine B.pnd Q R.exp (p9.bad (.tail _ (.tail _ (.head _)))) ?_; clear B Q; intro u12 e aoe cape j13 _ B Q; have c14 := B.mv1.S.cs B.F.rb))
  all_goals
   go_wp2_with fail
   exact Bp.finw (.mk 7 (E.P.A i) ⟨#[]⟩ 0 [p, e]) B.ko p9 (.tail _ (.head _)) Q.pr rfl rfl
 | false =>
  go_upto_region 7 with (go_at_call 38; refine P.f ?_; clear P; intro u18 B Q _)
  obtain ⟨b19, P⟩ := B.peat (sg := w_if) Q
  clear B Q
  cases b19 with
  | true =>
   go_upto_region 9 with (first | (go_at_call 17; refine B.pnd Q R.exp (p9.bad (.head _)) ?_; clear B Q; intro u21 a aoa capa j22 _ B Q) | (go_at_call 38; refine P.t ?_; clear P; intro u20 B Q _))
   generalize hb : u21.heap.size = b24
   generalize h : u21.alloc _ = V23
   replace B := B.box h hb
   clear h hb
   go_upto_region 11 with (first | (go_at_call 17; refine B.pnd Q R.exp (p9.bad (.tail _ (.tail _ (.head _)))) ?_; clear B Q; intro u27 b aob capb j28 _ B Q) | (go_at_call 40; refine B.pun Q (kmust E (d + 1) w_then) (p9.bad (.tail _ (.tail _ (.head _)))) ?_; clear B Q; intro u25 _ _ j26 B Q))
   generalize hb : u27.heap.size = b30
   generalize h : u27.alloc _ = V29
   replace B := B.box h hb
   clear h hb
   go_upto_region 12 with (go_at_call 40; refine B.pun Q (kmust E (d + 1) w_else) (p9.bad (.tail _ (.tail _ (.tail _ (.tail _ (.head _)))))) ?_; clear B Q; intro u31 _ _ j32 B Q)
   have c33 := B.mv2.S.cs B.F.rb; have c34 := B.S.cs B.F.rb
   replace B := B.drew
   go_region_law (go_simp; first | (go_at_call 28; generalize h : u35.alloc _ = V39; replace B := B.mv2.mv4.mk3 rfl h; clear h; refine B.pnode ?_; clear B; intro u40 B; have c41 := B.cp) | (go_at_call 17; refine B.pnd Q R.exp (p9.bad (.tail _ (.tail _ (.tail _ (.tail _ (.head _)))))) ?_; clear B Q; intro u35 c aoc capc j36 _ B Q; have c37 := B.mv3.S.cs B.F.rb; have c38 := B.mv1.S.cs B.F.rb))
   all_goals
    go_wp2_with fail
    exact Bp.finw (.mk 9 (E.P.A i) ⟨#[]⟩ 0 [a, b, c]) B.ko p9 (.tail _ (.tail _ (.head _))) Q.pr rfl rfl
  | false =>
   go_upto_region 13 with (go_at_call 38; refine P.f ?_; clear P; intro u42 B Q _)
   obtain ⟨b43, P⟩ := B.peat (sg := w_raise) Q
   clear B Q
   cases b43 with
   | true =>
    go_upto_region 14 with (go_at_call 38; refine P.t ?_; clear P; intro u44 B Q _)
    go_wp2_with (first | (go_at_call 28; generalize h : u45.alloc _ = V47; replace B := B.mk1 rfl h; clear h; refine B.pnode ?_; clear B; intro u48 B; have c49 := B.cp) | (go_at_call 17; refine B.pnd Q R.exp (p9.bad (.head _)) ?_; clear B Q; intro u45 e aoe cape j46 _ B Q))
    exact Bp.finw (.mk 13 (E.P.A i) ⟨#[]⟩ 0 [e]) B.ko p9 (.head _) Q.pr rfl rfl
   | false =>
    go_upto_region 15 with (go_at_call 38; refine P.f ?_; clear P; intro u50 B Q _)
    go_wp2_with (go_at_call 41; refine B.pndt Q HBET (p9.bad (.head _)) ?_; clear B Q; intro u51 t aot capt j52 B Q; have c53 := B.cp)
    exact Bp.finw (t) (B) p9 (.head _) Q rfl rfl
theorem exp_base (E : Env) (w : World) (i : Nat) (h : Rd E w i 60) : Calls Tryz.prog 17 #[pr E] w (PPost E 60 w (failD E.P 5 i) (NdQ w)) := by
 obtain ⟨W, hW⟩ : ∃ W, W = w.alloc (.cells zeroRow 26) := ⟨_, rfl⟩
 have F0 := lh (Fb.start h hW)
 have HWI : Hid (Calls Tryz.prog 37 #[pr E] W (WPost E i 60 W)) := lh (within_any E W i 60 F0.out.R)
 unfold pr at HWI ⊢
 unfold zeroRow at hW
 have HWW := lh hW
 clear h hW
 go_enter_defers Tryz.func17, Tryz.ntmps17
 go_upto_region 1 with fail
 rw [← HWW.out]
 clear HWW
 go_wp2_with (first | (go_at_call 37; refine HWI.out.mono ?_; rintro e w1 ⟨hg, h3⟩; rcases h3 with ⟨h9, h4⟩ | ⟨h9, k, a, hx, rfl, hr⟩; exact absurd h9 (by decide); exact PPost.bad (gr_trans F0.out.G hg) (failD_cast hx) hr))
theorem pat_base (E : Env) (w : World) (i : Nat) (h : Rd E w i 60) : Calls Tryz.prog 64 #[pr E] w (PPost E 60 w (failD E.P 5 i) (NdQ w)) := by
 obtain ⟨W, hW⟩ : ∃ W, W = w.alloc (.cells zeroRow 26) := ⟨_, rfl⟩
 have F0 := lh (Fb.start h hW)
 have HWI : Hid (Calls Tryz.prog 37 #[pr E] W (WPost E i 60 W)) := lh (within_any E W i 60 F0.out.R)
 unfold pr at HWI ⊢
 unfold zeroRow at hW
 have HWW := lh hW
 clear h hW
 go_enter_defers Tryz.func64, Tryz.ntmps64
 go_upto_region 1 with fail
 rw [← HWW.out]
 clear HWW
 go_wp2_with (first | (go_at_call 37; refine HWI.out.mono ?_; rintro e w1 ⟨hg, h3⟩; rcases h3 with ⟨h9, h4⟩ | ⟨h9, k, a, hx, rfl, hr⟩; exact absurd h9 (by decide); exact PPost.bad (gr_trans F0.out.G hg) (failD_cast hx) hr))
theorem typ_base (E : Env) (w : World) (i : Nat) (h : Rd E w i 60) : Calls Tryz.prog 65 #[pr E] w (PPost E 60 w (failD E.P 5 i) (NdQ w)) := by
 obtain ⟨W, hW⟩ : ∃ W, W = w.alloc (.cells zeroRow 26) := ⟨_, rfl⟩
 have F0 := lh (Fb.start h hW)
 have HWI : Hid (Calls Tryz.prog 37 #[pr E] W (WPost E i 60 W)) := lh (within_any E W i 60 F0.out.R)
 unfold pr at HWI ⊢
 unfold zeroRow at hW
 have HWW := lh hW
 clear h hW
 go_enter_defers Tryz.func65, Tryz.ntmps65
 go_upto_region 1 with fail
 rw [← HWW.out]
 clear HWW
 go_wp2_with (first | (go_at_call 37; refine HWI.out.mono ?_; rintro e w1 ⟨hg, h3⟩; rcases h3 with ⟨h9, h4⟩ | ⟨h9, k, a, hx, rfl, hr⟩; exact absurd h9 (by decide); exact PPost.bad (gr_trans F0.out.G hg) (failD_cast hx) hr))
theorem dec_base (E : Env) (w : World) (i : Nat) (h : Rd E w i 60) : Calls Tryz.prog 63 #[pr E] w (PPost E 60 w (failD E.P 5 i) (NdQ w)) := by
 obtain ⟨W, hW⟩ : ∃ W, W = w.alloc (.cells zeroRow 26) := ⟨_, rfl⟩
 have F0 := lh (Fb.start h hW)
 have HWI : Hid (Calls Tryz.prog 37 #[pr E] W (WPost E i 60 W)) := lh (within_any E W i 60 F0.out.R)
 unfold pr at HWI ⊢
 unfold zeroRow at hW
 have HWW := lh hW
 clear h hW
 go_enter_defers Tryz.func63, Tryz.ntmps63
 go_upto_region 1 with fail
 rw [← HWW.out]
 clear HWW
 go_wp2_with (first | (go_at_call 37; refine HWI.out.mono ?_; rintro e w1 ⟨hg, h3⟩; rcases h3 with ⟨h9, h4⟩ | ⟨h9, k, a, hx, rfl, hr⟩; exact absurd h9 (by decide); exact PPost.bad (gr_trans F0.out.G hg) (failD_cast hx) hr))
theorem sig_base (E : Env) (w : World) (i : Nat) (h : Rd E w i 60) : Calls Tryz.prog 125 #[pr E] w (PPost E 60 w (failD E.P 5 i) (NdQ w)) := by
 obtain ⟨W, hW⟩ : ∃ W, W = w.alloc (.cells zeroRow 26) := ⟨_, rfl⟩
 have F0 := lh (Fb.start h hW)
 have HWI : Hid (Calls Tryz.prog 37 #[pr E] W (WPost E i 60 W)) := lh (within_any E W i 60 F0.out.R)
 unfold pr at HWI ⊢
 unfold zeroRow at hW
 have HWW := lh hW
 clear h hW
 go_enter_defers Tryz.func125, Tryz.ntmps125
 go_upto_region 1 with fail
 rw [← HWW.out]
 clear HWW
 go_wp2_with (first | (go_at_call 37; refine HWI.out.mono ?_; rintro e w1 ⟨hg, h3⟩; rcases h3 with ⟨h9, h4⟩ | ⟨h9, k, a, hx, rfl, hr⟩; exact absurd h9 (by decide); exact PPost.bad (gr_trans F0.out.G hg) (failD_cast hx) hr))
theorem fail_none {P : Src} {e i : Nat} {x : Ty} {j : Nat} (h : failD P e i = .ok x j) : False := by
 obtain ⟨a, b, hf, -⟩ := failD_eq (α := Ty) P e i
 rw [hf] at h
 cases h
theorem pall_zero (E : Env) : PAll E 0 where
 g60 := Nat.zero_le _
 exp := ⟨fun w i h => exp_base E w i h, fun i x j _ e => (fail_none e).elim⟩
 pat := ⟨fun w i h => pat_base E w i h, fun i x j _ e => (fail_none e).elim⟩
 typ := ⟨fun w i h => typ_base E w i h, fun i x j _ e => (fail_none e).elim⟩
 dec := fun w i h _ => dec_base E w i h
 sig := ⟨fun w i h => sig_base E w i h, fun i x j _ e => (fail_none e).elim⟩
theorem item_of (E : Env) (g k : Nat) (nt : NT) (h : ∀ w i, Rd E w i (60 - g) → Calls Tryz.prog k #[pr E] w (PPost E (60 - g) w (readS E.P g nt i) (NdQ w))) : ItemP E (60 - g) k (readS E.P g nt) := ⟨h, fun i x j _ e => Nat.le_of_succ_le ((st_rec E.P g).1 nt i x j e)⟩
theorem pall_succ (E : Env) (g : Nat) (hg : g + 1 ≤ 60) (PA : PAll E g) (PB : ∀ g', g = g' + 1 → PAll E g') : PAll E (g + 1) where
 g60 := hg
 exp := item_of E (g + 1) 17 .exp fun w i h => pexp_step E g PA hg w i h
 pat := item_of E (g + 1) 64 .pat fun w i h => ppat_step E g PA hg w i h
 typ := item_of E (g + 1) 65 .typ fun w i h => ptyp_step E g PA hg w i h
 dec := fun w i h h1 => pdec_step E g PA hg (fun g' e => (PB g' e).exp) w i h h1
 sig := item_of E (g + 1) 125 .sig fun w i h => psig_step E g PA hg w i h
/-- at every depth -/
theorem pall (E : Env) : ∀ g, g ≤ 60 → PAll E g ∧ ∀ g', g = g' + 1 → PAll E g'
 | 0, _ => ⟨pall_zero E, fun g' e => by omega⟩
 | g + 1, hg => ⟨pall_succ E g hg (pall E g (by omega)).1 (pall E g (by omega)).2, fun g' e => by
  obtain rfl : g = g' := by omega
  exact (pall E g (by omega)).1⟩
end Go.Proofs.YthehjeeiodbkjaaGreatDoor
