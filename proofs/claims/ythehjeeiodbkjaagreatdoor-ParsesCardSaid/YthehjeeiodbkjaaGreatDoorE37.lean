/-
  Proved: the contracts of the document's open, of exp, pat, typ and sig one level up; all of them, at each depth; the contract of the document's decs where nothing was made behind the reader. Conditions: the reader as it stands in memory; what it reads within.
-/
import Derived.Test.YthehjeeiodbkjaaGreatDoorE36
import Derived.Test.YthehjeeiodbkjaaGreatDoorE30
import Derived.Test.YthehjeeiodbkjaaGreatDoorE34
import Derived.Test.YthehjeeiodbkjaaGreatDoorE33
import Derived.Test.YthehjeeiodbkjaaGreatDoorE35
set_option linter.unusedSimpArgs false
set_option linter.unusedVariables false
set_option maxRecDepth 100000
set_option maxHeartbeats 16000000
namespace Go.Proofs.YthehjeeiodbkjaaGreatDoor
open Go.RowKit
theorem copen_any : CtN 109 fun E g => openB E.P (recS E.P g) := by
 intro E g RA w s h
 rw [show rn (openB E.P (recS E.P g)) s = rn ((fun i => if isD E.P w_fn i = true then (apatB E.P (recS E.P g) >>= fun p => mustD E.P s_arr >>= fun _ => readS E.P g .exp >>= fun e => (pure (.mk 7 (E.P.A s.i) ⟨#[]⟩ 0 [p, e]) : M Ty)) (i + 1) else (fun i => if isD E.P w_if i = true then (readS E.P g .exp >>= fun a => mustD E.P w_then >>= fun _ => readS E.P g .exp >>= fun b => mustD E.P w_else >>= fun _ => readS E.P g .exp >>= fun c => (pure (.mk 9 (E.P.A s.i) ⟨#[]⟩ 0 [a, b, c]) : M Ty)) (i + 1) else (fun i => if isD E.P w_raise i = true then (readS E.P g .exp >>= fun e => (pure (.mk 13 (E.P.A s.i) ⟨#[]⟩ 0 [e]) : M Ty)) (i + 1) else (betB E.P (recS E.P g) 7) i : M Ty) i : M Ty) i)) s from by by_cases hs : s.k = 0; exact (by rw [rn_good hs, rn_good hs]; rfl); rw [rn_lost hs, rn_lost hs]]
 refine Br.go (m := (fun i => if isD E.P w_fn i = true then (apatB E.P (recS E.P g) >>= fun p => mustD E.P s_arr >>= fun _ => readS E.P g .exp >>= fun e => (pure (.mk 7 (E.P.A s.i) ⟨#[]⟩ 0 [p, e]) : M Ty)) (i + 1) else (fun i => if isD E.P w_if i = true then (readS E.P g .exp >>= fun a => mustD E.P w_then >>= fun _ => readS E.P g .exp >>= fun b => mustD E.P w_else >>= fun _ => readS E.P g .exp >>= fun c => (pure (.mk 9 (E.P.A s.i) ⟨#[]⟩ 0 [a, b, c]) : M Ty)) (i + 1) else (fun i => if isD E.P w_raise i = true then (readS E.P g .exp >>= fun e => (pure (.mk 13 (E.P.A s.i) ⟨#[]⟩ 0 [e]) : M Ty)) (i + 1) else (betB E.P (recS E.P g) 7) i : M Ty) i : M Ty) i)) h RA ?_
 intro d T W R hW B Q hlr hN
 have HAPAT := at_d R.hd (capat_any E g RA)
 have HSG := at_d R.hd (csigns1_any E g RA)
 clear h RA
 unfold pr at HAPAT HSG ⊢
 go_enter Tryz.func109, Tryz.ntmps109
 obtain ⟨Q9, p9⟩ := Po9.ex Tryz.f109 E d w T (NdQ w)
 rw [p9.eq]
 go_upto_region 1 with fail
 clear hW
 go_upto_region 2 with (go_at_call 102; refine B.now ?_; clear B; intro u1 B; have f2 := tk_fields E.P s.i)
 clear f2
 obtain ⟨b3, P⟩ := B.eat (sg := w_fn) Q
 clear B Q
 cases b3 with
 | true =>
  go_upto_region 4 with (go_at_call 153; refine P.t ?_; clear P; intro u4 B Q _)
  go_upto_region 5 with (go_at_call 154; refine B.nd Q HAPAT ?_; clear B Q; intro u5 p aop capp s6 _ B Q)
  generalize hb : u5.heap.size = b8
  generalize h : u5.alloc _ = V7
  replace B := B.box h hb
  clear h hb
  go_upto_region 6 with (go_at_call 144; refine B.un Q (hmust E d s_arr) ?_; clear B Q; intro u9 _ _ s10 B Q)
  go_upto_region 7 with (go_at_call 56; refine B.nd Q R.exp ?_; clear B Q; intro u11 e aoe cape s12 _ B Q)
  generalize hb : u11.heap.size = b14
  generalize h : u11.alloc _ = V13
  replace B := B.box h hb
  clear h hb
  have c15 := B.mv2.S.cs B.F.rb; have c16 := B.S.cs B.F.rb
  go_wp2_with (go_at_call 54; generalize h : V13.alloc _ = V17; replace B := B.mv1.mv3.mk2 rfl h; clear h; refine B.node ?_; clear B; intro u18 B; have c19 := B.cr)
  exact Br.fin (.mk 7 (E.P.A s.i) ⟨#[]⟩ 0 [p, e]) B.ko p9 Q.pr rfl rfl
 | false =>
  go_upto_region 8 with (go_at_call 153; refine P.f ?_; clear P; intro u20 B Q)
  obtain ⟨b21, P⟩ := B.eat (sg := w_if) Q
  clear B Q
  cases b21 with
  | true =>
   go_upto_region 10 with (go_at_call 153; refine P.t ?_; clear P; intro u22 B Q _)
   go_upto_region 11 with (go_at_call 56; refine B.nd Q R.exp ?_; clear B Q; intro u23 a aoa capa s24 _ B Q)
   generalize hb : u23.heap.size = b26
   generalize h : u23.alloc _ = V25
   replace B := B.box h hb
   clear h hb
   go_upto_region 12 with (go_at_call 144; refine B.un Q (hmust E d w_then) ?_; clear B Q; intro u27 _ _ s28 B Q)
   go_upto_region 13 with (go_at_call 56; refine B.nd Q R.exp ?_; clear B Q; intro u29 b aob capb s30 _ B Q)
   generalize hb : u29.heap.size = b32
   generalize h : u29.alloc _ = V31
   replace B := B.box h hb
   clear h hb
   go_upto_region 14 with (go_at_call 144; refine B.un Q (hmust E d w_else) ?_; clear B Q; intro u33 _ _ s34 B Q)
   go_upto_region 15 with (go_at_call 56; refine B.nd Q R.exp ?_; clear B Q; intro u35 c aoc capc s36 _ B Q)
   generalize hb : u35.heap.size = b38
   generalize h : u35.alloc _ = V37
   replace B := B.box h hb
   clear h hb
   have c39 := B.mv4.S.cs B.F.rb; have c40 := B.mv2.S.cs B.F.rb; have c41 := B.S.cs B.F.rb
   go_wp2_with (go_at_call 54; generalize h : V37.alloc _ = V42; replace B := B.mv1.mv3.mv5.mk3 rfl h; clear h; refine B.node ?_; clear B; intro u43 B; have c44 := B.cr)
   exact Br.fin (.mk 9 (E.P.A s.i) ⟨#[]⟩ 0 [a, b, c]) B.ko p9 Q.pr rfl rfl
  | false =>
   go_upto_region 16 with (go_at_call 153; refine P.f ?_; clear P; intro u45 B Q)
   obtain ⟨b46, P⟩ := B.eat (sg := w_raise) Q
   clear B Q
   cases b46 with
   | true =>
    go_upto_region 18 with (go_at_call 153; refine P.t ?_; clear P; intro u47 B Q _)
    go_upto_region 19 with (go_at_call 56; refine B.nd Q R.exp ?_; clear B Q; intro u48 e aoe cape s49 _ B Q)
    generalize hb : u48.heap.size = b51
    generalize h : u48.alloc _ = V50
    replace B := B.box h hb
    clear h hb
    have c52 := B.S.cs B.F.rb
    go_wp2_with (go_at_call 54; generalize h : V50.alloc _ = V53; replace B := B.mv1.mk1 rfl h; clear h; refine B.node ?_; clear B; intro u54 B; have c55 := B.cr)
    exact Br.fin (.mk 13 (E.P.A s.i) ⟨#[]⟩ 0 [e]) B.ko p9 Q.pr rfl rfl
   | false =>
    go_upto_region 20 with (go_at_call 153; refine P.f ?_; clear P; intro u56 B Q)
    go_wp2_with (go_at_call 155; refine B.ndt Q HSG ?_; clear B Q; intro u57 n aon capn s58 B Q; have c59 := B.cr)
    exact Br.fin (n) B p9 Q rfl rfl
theorem Br.up {E : Env} {g f : Nat} {args : Array Value} {m : M Ty} {w : World} {s : RS} {P : Ty → Value → World → Prop} (h : Rr E w s (60 - g)) (k : ∀ d T W, d = 60 - g → w.alloc (.cells #[.int .i64 0, .int .i64 0, .string ⟨#[]⟩, .int .i64 0, .slice none 0 0] 26) = W → Br E w d W s [] → Qr T m s → E.rb < w.heap.size → E.P.toks.length ≤ 100000 → Calls Tryz.prog f args w (RPost E d w T P)) : Calls Tryz.prog f args w (RPost E (60 - g) w (rn m s) P) := k _ _ _ rfl rfl ⟨Fr.start h rfl, Ats.nil, h.low.2, fam_r _ _⟩ ⟨rfl⟩ h.ltr h.ok.len
/-- what goes within, one level up -/
@[reducible] def StepN (fn inn : Nat) : Prop := ∀ (E : Env) (g : Nat), g ≤ 60 → ∀ (inner spec : M Ty), (g = 0 → spec = failD E.P 5) → (g ≠ 0 → spec = inner) → (g ≠ 0 → ∀ w1 s, Rr E w1 s (60 - g + 1) → Calls Tryz.prog inn #[pr E] w1 (RPost E (60 - g + 1) w1 (rn inner s) (NdQ w1))) → ∀ (w : World) (s : RS), Rr E w s (60 - g) → Calls Tryz.prog fn #[pr E] w (RPost E (60 - g) w (rn spec s) (NdQ w))
theorem cexp_step : StepN 56 109 := by
 intro E g hg inner spec h0 h1 hin w s h
 refine Br.up h ?_
 intro d T W hd hW B Q hlr hN
 have hd60 : d ≤ 60 := by omega
 have HS0 : Hid (¬ d < 60 → spec = failD E.P 5) := lh (fun hl => h0 (by omega))
 have HS1 : Hid (d < 60 → spec = inner) := lh (fun hl => h1 (by omega))
 have HIN := lh (show d < 60 → ∀ w1 s, Rr E w1 s (d + 1) → Calls Tryz.prog 109 #[pr E] w1 (RPost E (d + 1) w1 (rn inner s) (NdQ w1)) from by rw [hd]; exact fun hl => hin (by omega))
 clear h h0 h1 hin hd
 unfold pr at HIN ⊢
 go_enter Tryz.func56, Tryz.ntmps56
 obtain ⟨Q9, p9⟩ := Po9.ex Tryz.f56 E d w T (NdQ w)
 rw [p9.eq]
 go_upto_region 1 with fail
 clear hW
 by_cases h60 : d < 60
 · have H60 := lh h60
   clear h60
   by_cases hs : s.k = 0
   · have HSK := lh hs
     clear hs
     go_upto_region 2 with (go_at_call 106; refine B.ent HSK.out H60.out ?_; clear B; intro u1 B)
     go_upto_region 3 with fail
     generalize hb : u1.heap.size = b3
     generalize h : u1.alloc _ = V2
     replace B := B.box h hb
     clear h hb
     go_upto_region 4 with fail
     replace Q : Qr T inner s := ⟨by rw [Q.eq, HS1.out H60.out]⟩
     go_upto_region 5 with (go_at_call 109; refine B.ndt Q (lh (HIN.out H60.out)) ?_; clear B Q; intro u4 x aox capx s5 B Q; have c6 := B.mv1.S.cs B.F.rb)
     clear c6
     generalize h : ((((u4.setCell _ _).setCell _ _).setCell _ _).setCell _ _).setCell _ _ = X7
     replace B := B.mv1.sn h
     clear h
     go_upto_region 6 with (go_at_call 108; refine B.lea ?_; clear B; intro u8 _ B)
     have c9 := B.S.cs B.F.rb; have c10 := B.cr
     go_wp2_with fail
     exact Br.fin (x) B.mv1 p9 Q rfl rfl
   · have HSK := lh hs
     clear hs
     go_upto_region 2 with (go_at_call 106; refine B.enb HSK.out H60.out ?_; clear B; intro u11 B)
     go_upto_region 3 with fail
     generalize hb : u11.heap.size = b13
     generalize h : u11.alloc _ = V12
     replace B := B.box h hb
     clear h hb
     go_upto_region 5 with fail
     go_upto_region 6 with (go_at_call 108; refine B.lea ?_; clear B; intro u14 _ B)
     have c15 := B.S.cs B.F.rb; have c16 := B.cr
     go_wp2_with fail
     exact Br.fin (.mk 0 0 ⟨#[]⟩ 0 []) B.nilk p9 (Q.lost HSK.out) rfl rfl
 · have H60 := lh h60
   clear h60
   have HL5 := lh (B.F.R.no_rl (e := 5) (by decide) (Ty.mk 0 0 ⟨#[]⟩ 0 []))
   go_upto_region 2 with (go_at_call 106; refine B.eno hd60 H60.out ?_; clear B; intro u17 B)
   go_upto_region 3 with fail
   generalize hb : u17.heap.size = b19
   generalize h : u17.alloc _ = V18
   replace B := B.box h hb
   clear h hb
   go_upto_region 5 with fail
   go_upto_region 6 with (go_at_call 108; refine B.lea ?_; clear B; intro u20 _ B)
   have c21 := B.S.cs B.F.rb; have c22 := B.cr
   go_wp2_with fail
   exact Br.fin (.mk 0 0 ⟨#[]⟩ 0 []) B.nilk p9 (by rw [Q.eq, HS0.out H60.out]; exact HL5.out) rfl rfl
theorem cpat_step : StepN 57 110 := by
 intro E g hg inner spec h0 h1 hin w s h
 refine Br.up h ?_
 intro d T W hd hW B Q hlr hN
 have hd60 : d ≤ 60 := by omega
 have HS0 : Hid (¬ d < 60 → spec = failD E.P 5) := lh (fun hl => h0 (by omega))
 have HS1 : Hid (d < 60 → spec = inner) := lh (fun hl => h1 (by omega))
 have HIN := lh (show d < 60 → ∀ w1 s, Rr E w1 s (d + 1) → Calls Tryz.prog 110 #[pr E] w1 (RPost E (d + 1) w1 (rn inner s) (NdQ w1)) from by rw [hd]; exact fun hl => hin (by omega))
 clear h h0 h1 hin hd
 unfold pr at HIN ⊢
 go_enter Tryz.func57, Tryz.ntmps57
 obtain ⟨Q9, p9⟩ := Po9.ex Tryz.f57 E d w T (NdQ w)
 rw [p9.eq]
 go_upto_region 1 with fail
 clear hW
 by_cases h60 : d < 60
 · have H60 := lh h60
   clear h60
   by_cases hs : s.k = 0
   · have HSK := lh hs
     clear hs
     go_upto_region 2 with (go_at_call 106; refine B.ent HSK.out H60.out ?_; clear B; intro u1 B)
     go_upto_region 3 with fail
     generalize hb : u1.heap.size = b3
     generalize h : u1.alloc _ = V2
     replace B := B.box h hb
     clear h hb
     go_upto_region 4 with fail
     replace Q : Qr T inner s := ⟨by rw [Q.eq, HS1.out H60.out]⟩
     go_upto_region 5 with (go_at_call 110; refine B.ndt Q (lh (HIN.out H60.out)) ?_; clear B Q; intro u4 x aox capx s5 B Q; have c6 := B.mv1.S.cs B.F.rb)
     clear c6
     generalize h : ((((u4.setCell _ _).setCell _ _).setCell _ _).setCell _ _).setCell _ _ = X7
     replace B := B.mv1.sn h
     clear h
     go_upto_region 6 with (go_at_call 108; refine B.lea ?_; clear B; intro u8 _ B)
     have c9 := B.S.cs B.F.rb; have c10 := B.cr
     go_wp2_with fail
     exact Br.fin (x) B.mv1 p9 Q rfl rfl
   · have HSK := lh hs
     clear hs
     go_upto_region 2 with (go_at_call 106; refine B.enb HSK.out H60.out ?_; clear B; intro u11 B)
     go_upto_region 3 with fail
     generalize hb : u11.heap.size = b13
     generalize h : u11.alloc _ = V12
     replace B := B.box h hb
     clear h hb
     go_upto_region 5 with fail
     go_upto_region 6 with (go_at_call 108; refine B.lea ?_; clear B; intro u14 _ B)
     have c15 := B.S.cs B.F.rb; have c16 := B.cr
     go_wp2_with fail
     exact Br.fin (.mk 0 0 ⟨#[]⟩ 0 []) B.nilk p9 (Q.lost HSK.out) rfl rfl
 · have H60 := lh h60
   clear h60
   have HL5 := lh (B.F.R.no_rl (e := 5) (by decide) (Ty.mk 0 0 ⟨#[]⟩ 0 []))
   go_upto_region 2 with (go_at_call 106; refine B.eno hd60 H60.out ?_; clear B; intro u17 B)
   go_upto_region 3 with fail
   generalize hb : u17.heap.size = b19
   generalize h : u17.alloc _ = V18
   replace B := B.box h hb
   clear h hb
   go_upto_region 5 with fail
   go_upto_region 6 with (go_at_call 108; refine B.lea ?_; clear B; intro u20 _ B)
   have c21 := B.S.cs B.F.rb; have c22 := B.cr
   go_wp2_with fail
   exact Br.fin (.mk 0 0 ⟨#[]⟩ 0 []) B.nilk p9 (by rw [Q.eq, HS0.out H60.out]; exact HL5.out) rfl rfl
theorem ctyp_step : StepN 58 111 := by
 intro E g hg inner spec h0 h1 hin w s h
 refine Br.up h ?_
 intro d T W hd hW B Q hlr hN
 have hd60 : d ≤ 60 := by omega
 have HS0 : Hid (¬ d < 60 → spec = failD E.P 5) := lh (fun hl => h0 (by omega))
 have HS1 : Hid (d < 60 → spec = inner) := lh (fun hl => h1 (by omega))
 have HIN := lh (show d < 60 → ∀ w1 s, Rr E w1 s (d + 1) → Calls Tryz.prog 111 #[pr E] w1 (RPost E (d + 1) w1 (rn inner s) (NdQ w1)) from by rw [hd]; exact fun hl => hin (by omega))
 clear h h0 h1 hin hd
 unfold pr at HIN ⊢
 go_enter Tryz.func58, Tryz.ntmps58
 obtain ⟨Q9, p9⟩ := Po9.ex Tryz.f58 E d w T (NdQ w)
 rw [p9.eq]
 go_upto_region 1 with fail
 clear hW
 by_cases h60 : d < 60
 · have H60 := lh h60
   clear h60
   by_cases hs : s.k = 0
   · have HSK := lh hs
     clear hs
     go_upto_region 2 with (go_at_call 106; refine B.ent HSK.out H60.out ?_; clear B; intro u1 B)
     go_upto_region 3 with fail
     generalize hb : u1.heap.size = b3
     generalize h : u1.alloc _ = V2
     replace B := B.box h hb
     clear h hb
     go_upto_region 4 with fail
     replace Q : Qr T inner s := ⟨by rw [Q.eq, HS1.out H60.out]⟩
     go_upto_region 5 with (go_at_call 111; refine B.ndt Q (lh (HIN.out H60.out)) ?_; clear B Q; intro u4 x aox capx s5 B Q; have c6 := B.mv1.S.cs B.F.rb)
     clear c6
     generalize h : ((((u4.setCell _ _).setCell _ _).setCell _ _).setCell _ _).setCell _ _ = X7
     replace B := B.mv1.sn h
     clear h
     go_upto_region 6 with (go_at_call 108; refine B.lea ?_; clear B; intro u8 _ B)
     have c9 := B.S.cs B.F.rb; have c10 := B.cr
     go_wp2_with fail
     exact Br.fin (x) B.mv1 p9 Q rfl rfl
   · have HSK := lh hs
     clear hs
     go_upto_region 2 with (go_at_call 106; refine B.enb HSK.out H60.out ?_; clear B; intro u11 B)
     go_upto_region 3 with fail
     generalize hb : u11.heap.size = b13
     generalize h : u11.alloc _ = V12
     replace B := B.box h hb
     clear h hb
     go_upto_region 5 with fail
     go_upto_region 6 with (go_at_call 108; refine B.lea ?_; clear B; intro u14 _ B)
     have c15 := B.S.cs B.F.rb; have c16 := B.cr
     go_wp2_with fail
     exact Br.fin (.mk 0 0 ⟨#[]⟩ 0 []) B.nilk p9 (Q.lost HSK.out) rfl rfl
 · have H60 := lh h60
   clear h60
   have HL5 := lh (B.F.R.no_rl (e := 5) (by decide) (Ty.mk 0 0 ⟨#[]⟩ 0 []))
   go_upto_region 2 with (go_at_call 106; refine B.eno hd60 H60.out ?_; clear B; intro u17 B)
   go_upto_region 3 with fail
   generalize hb : u17.heap.size = b19
   generalize h : u17.alloc _ = V18
   replace B := B.box h hb
   clear h hb
   go_upto_region 5 with fail
   go_upto_region 6 with (go_at_call 108; refine B.lea ?_; clear B; intro u20 _ B)
   have c21 := B.S.cs B.F.rb; have c22 := B.cr
   go_wp2_with fail
   exact Br.fin (.mk 0 0 ⟨#[]⟩ 0 []) B.nilk p9 (by rw [Q.eq, HS0.out H60.out]; exact HL5.out) rfl rfl
theorem csig_step : StepN 151 181 := by
 intro E g hg inner spec h0 h1 hin w s h
 refine Br.up h ?_
 intro d T W hd hW B Q hlr hN
 have hd60 : d ≤ 60 := by omega
 have HS0 : Hid (¬ d < 60 → spec = failD E.P 5) := lh (fun hl => h0 (by omega))
 have HS1 : Hid (d < 60 → spec = inner) := lh (fun hl => h1 (by omega))
 have HIN := lh (show d < 60 → ∀ w1 s, Rr E w1 s (d + 1) → Calls Tryz.prog 181 #[pr E] w1 (RPost E (d + 1) w1 (rn inner s) (NdQ w1)) from by rw [hd]; exact fun hl => hin (by omega))
 clear h h0 h1 hin hd
 unfold pr at HIN ⊢
 go_enter Tryz.func151, Tryz.ntmps151
 obtain ⟨Q9, p9⟩ := Po9.ex Tryz.f151 E d w T (NdQ w)
 rw [p9.eq]
 go_upto_region 1 with fail
 clear hW
 by_cases h60 : d < 60
 · have H60 := lh h60
   clear h60
   by_cases hs : s.k = 0
   · have HSK := lh hs
     clear hs
     go_upto_region 2 with (go_at_call 106; refine B.ent HSK.out H60.out ?_; clear B; intro u1 B)
     go_upto_region 3 with fail
     generalize hb : u1.heap.size = b3
     generalize h : u1.alloc _ = V2
     replace B := B.box h hb
     clear h hb
     go_upto_region 4 with fail
     replace Q : Qr T inner s := ⟨by rw [Q.eq, HS1.out H60.out]⟩
     go_upto_region 5 with (go_at_call 181; refine B.ndt Q (lh (HIN.out H60.out)) ?_; clear B Q; intro u4 x aox capx s5 B Q; have c6 := B.mv1.S.cs B.F.rb)
     clear c6
     generalize h : ((((u4.setCell _ _).setCell _ _).setCell _ _).setCell _ _).setCell _ _ = X7
     replace B := B.mv1.sn h
     clear h
     go_upto_region 6 with (go_at_call 108; refine B.lea ?_; clear B; intro u8 _ B)
     have c9 := B.S.cs B.F.rb; have c10 := B.cr
     go_wp2_with fail
     exact Br.fin (x) B.mv1 p9 Q rfl rfl
   · have HSK := lh hs
     clear hs
     go_upto_region 2 with (go_at_call 106; refine B.enb HSK.out H60.out ?_; clear B; intro u11 B)
     go_upto_region 3 with fail
     generalize hb : u11.heap.size = b13
     generalize h : u11.alloc _ = V12
     replace B := B.box h hb
     clear h hb
     go_upto_region 5 with fail
     go_upto_region 6 with (go_at_call 108; refine B.lea ?_; clear B; intro u14 _ B)
     have c15 := B.S.cs B.F.rb; have c16 := B.cr
     go_wp2_with fail
     exact Br.fin (.mk 0 0 ⟨#[]⟩ 0 []) B.nilk p9 (Q.lost HSK.out) rfl rfl
 · have H60 := lh h60
   clear h60
   have HL5 := lh (B.F.R.no_rl (e := 5) (by decide) (Ty.mk 0 0 ⟨#[]⟩ 0 []))
   go_upto_region 2 with (go_at_call 106; refine B.eno hd60 H60.out ?_; clear B; intro u17 B)
   go_upto_region 3 with fail
   generalize hb : u17.heap.size = b19
   generalize h : u17.alloc _ = V18
   replace B := B.box h hb
   clear h hb
   go_upto_region 5 with fail
   go_upto_region 6 with (go_at_call 108; refine B.lea ?_; clear B; intro u20 _ B)
   have c21 := B.S.cs B.F.rb; have c22 := B.cr
   go_wp2_with fail
   exact Br.fin (.mk 0 0 ⟨#[]⟩ 0 []) B.nilk p9 (by rw [Q.eq, HS0.out H60.out]; exact HL5.out) rfl rfl
theorem rall_zero (E : Env) : RAll E 0 := by
 have hv : ∀ fn, (0 : Nat) ≠ 0 → ∀ w1 s, Rr E w1 s (60 - 0 + 1) → Calls Tryz.prog fn #[pr E] w1 (RPost E (60 - 0 + 1) w1 (rn (failD E.P 5 : M Ty) s) (NdQ w1)) := fun fn h => absurd rfl h
 exact ⟨by omega, cexp_step E 0 (by omega) (failD E.P 5) _ (fun _ => rfl) (fun h => absurd rfl h) (hv 109), cpat_step E 0 (by omega) (failD E.P 5) _ (fun _ => rfl) (fun h => absurd rfl h) (hv 110), ctyp_step E 0 (by omega) (failD E.P 5) _ (fun _ => rfl) (fun h => absurd rfl h) (hv 111), csig_step E 0 (by omega) (failD E.P 5) _ (fun _ => rfl) (fun h => absurd rfl h) (hv 181), fun g' e => by omega, fun g' e => by omega⟩
theorem rall_succ (E : Env) (g : Nat) (RA : RAll E g) (hg : g + 1 ≤ 60) : RAll E (g + 1) := by
 have e : 60 - (g + 1) + 1 = 60 - g := by omega
 refine ⟨hg, cexp_step E (g + 1) hg (openB E.P (recS E.P g)) _ (fun h => by omega) (fun _ => readS_succ E.P g .exp) (fun _ w1 s h1 => ?_), cpat_step E (g + 1) hg (patB E.P (recS E.P g)) _ (fun h => by omega) (fun _ => readS_succ E.P g .pat) (fun _ w1 s h1 => ?_), ctyp_step E (g + 1) hg (arrowB E.P (recS E.P g)) _ (fun h => by omega) (fun _ => readS_succ E.P g .typ) (fun _ w1 s h1 => ?_), csig_step E (g + 1) hg (sigsB E.P (recS E.P g)) _ (fun h => by omega) (fun _ => readS_succ E.P g .sig) (fun _ w1 s h1 => ?_), fun g' e2 w s h hs ho => ?_, fun g' e2 w s h => ?_⟩
 · rw [e] at h1 ⊢; exact copen_any E g RA w1 s h1
 · rw [e] at h1 ⊢; exact cconses_any E g RA w1 s h1
 · rw [e] at h1 ⊢; exact carrow_any E g RA w1 s h1
 · rw [e] at h1 ⊢; exact csigs_any E g RA w1 s h1
 · obtain rfl : g = g' := by omega
   exact cdec_any E g RA w s hs ho h
 · obtain rfl : g = g' := by omega
   exact RA.exp w s h
theorem rall (E : Env) : ∀ g, g ≤ 60 → RAll E g
 | 0, _ => rall_zero E
 | g + 1, h => rall_succ E g (rall E g (by omega)) h
theorem AppG.belowz {w A w9 : World} {X : Nat → Prop} {r : Option Nat} (h : AppG w A w9 X r) (hl : w.heap.size + 1 ≤ A.heap.size) : Below (w.heap.size + 1) A w9 := ⟨h.g.os, h.g.tape, h.g.output, h.g.size, fun k hk => h.g.block k (by omega) (fun e => by have := (h.new k e.symm).1; omega)⟩
theorem Vb.grz {w w1 w2 : World} {nb t rb : Nat} {row : Array Value} (h : Vb w nb t row w1) (hg : w1.grownBy w2 (some rb)) (hrb : rb ≤ w.heap.size) : Vb w nb t row w2 := ⟨gr_row hg h.row (by have := h.lt; omega), h.lt⟩
theorem Vb.nebz {w wk : World} {nb t rb : Nat} {row : Array Value} (h : Vb w nb t row wk) (hr : rb ≤ w.heap.size) : nb ≠ rb := by have := h.lt; omega
theorem Kd.grz {w w1 w2 : World} {X : Nat → Prop} {rb cap : Nat} {l : List Ty} {ao : Option Addr} (h : Kd w w1 X l ao cap) (hg : w1.grownBy w2 (some rb)) (hrb : rb ≤ w.heap.size) : Kd w w2 X l ao cap :=
 (SlD.keep h (gr_cells hg (fun b hb => ⟨hb.2.1, by have := hb.1; omega⟩))).mono fun b hb => ⟨hb.1, Nat.lt_of_lt_of_le hb.2.1 hg.size, hb.2.2⟩
theorem Ow.grz {w w1 w2 : World} {X : Nat → Prop} {rb : Nat} {v : Value} {l : List Ty} (h : Ow w w1 X v l) (hg : w1.grownBy w2 (some rb)) (hrb : rb ≤ w.heap.size) : Ow w w2 X v l := by
 obtain ⟨bs, D, h1, h2, h3, h4⟩ := h
 exact ⟨bs, D, h1, h2.gr hg (by omega) (fun b hb => ⟨(h3 b hb).1.2.1, by have := (h3 b hb).1.1; omega⟩), fun b hb => ⟨⟨(h3 b hb).1.1, Nat.lt_of_lt_of_le (h3 b hb).1.2.1 hg.size, (h3 b hb).1.2.2⟩, (h3 b hb).2⟩, h4⟩
/-- the call's own: the reader; the reader may be the last thing that was made -/
structure Fz (E : Env) (v w : World) (d : Nat) (wk : World) (s : RS) : Prop where
 R : Rr E wk s d
 G : v.grownBy wk (some E.rb)
 lt : w.heap.size < wk.heap.size
 rb : E.rb ≤ w.heap.size
 vw : v.heap.size = w.heap.size + 1
theorem Fz.start {E : Env} {v : World} {d : Nat} {s : RS} (h : Rr E v s d) : ∃ w, Fz E v w d v s ∧ E.B ≤ w.heap.size + 1 := by
 have h2 := h.low.1
 have h3 := h.low.2
 have h1 := less_size (v := v) (by omega)
 exact ⟨less v, ⟨h, World.grownBy.refl _ _, by omega, by omega, h1⟩, by omega⟩
theorem Fz.gr {E : Env} {v w w1 w2 : World} {d : Nat} {s s' : RS} (h : Fz E v w d w1 s) (hg : w1.grownBy w2 (some E.rb)) (hr : Rr E w2 s' d) : Fz E v w d w2 s' := ⟨hr, gr_trans h.G hg, Nat.lt_of_lt_of_le h.lt hg.size, h.rb, h.vw⟩
theorem Fz.grd {E : Env} {v w w1 w2 : World} {d d' : Nat} {s s' : RS} (h : Fz E v w d w1 s) (hg : w1.grownBy w2 (some E.rb)) (hr : Rr E w2 s' d') : Fz E v w d' w2 s' := ⟨hr, gr_trans h.G hg, Nat.lt_of_lt_of_le h.lt hg.size, h.rb, h.vw⟩
theorem Fz.below {E : Env} {v w w1 w2 : World} {d : Nat} {s : RS} (h : Fz E v w d w1 s) (hb : Below w1.heap.size w1 w2) : Fz E v w d w2 s := h.gr (gr_below hb _) (h.R.keep hb)
theorem Fz.own {E : Env} {v w A w9 : World} {d : Nat} {s : RS} {X : Nat → Prop} {r : Option Nat} (f : Fz E v w d A s) (hB : E.B ≤ w.heap.size + 1) (hg : AppG w A w9 X r) : Fz E v w d w9 s := by
 have hlt := f.lt
 have hb := hg.belowz hlt
 refine ⟨f.R.keepB hb hB, gr_on f.G hg.g (.inr fun g e => by have := (hg.new g e).1; have := f.vw; omega), Nat.lt_of_lt_of_le hlt hg.g.size, f.rb, f.vw⟩
theorem rdecs0_any (E : Env) (g : Nat) (RA : RAll E g) (w0 : World) (s : RS) (k : Nat) (hk : k < 3) (h : Rr E w0 s (60 - g)) : Calls Tryz.prog 55 #[pr E, .int .i64 (k : Int)] w0 (RPost E (60 - g) w0 (rn (decsB E.P (recS E.P g) k) s) (OwB w0)) := by
 obtain ⟨d, hd⟩ : ∃ d, d = 60 - g := ⟨_, rfl⟩
 have hd60 : d ≤ 60 := by omega
 have HST : Hid (∀ i x j, readS E.P g .dec i = .ok x j → i + 1 ≤ j) := lh (item_st _)
 obtain ⟨item, hit⟩ : ∃ item : M Ty, item = readS E.P g .dec := ⟨_, rfl⟩
 rw [← hit] at HST
 rw [← hd] at h ⊢
 obtain ⟨T, hT⟩ : ∃ T, T = rn (decsB E.P (recS E.P g) k) s := ⟨_, rfl⟩
 rw [← hT]
 have HT : Hid (T = rn (manyL (oneD E.P (startsL k)) item (E.P.toks.length + 1) [] >>= fun l => (ret l : M (List Ty))) s) := lh (hT.trans (by first | rfl | (rw [hit]; exact congrArg (fun m => rn m s) (bind_ret' (decsB E.P (recS E.P g) k)).symm)))
 obtain ⟨w, hF, hB⟩ := Fz.start h
 have F0 := lh hF
 have HB := lh hB
 have hlr := hF.rb
 have hN := h.ok.len
 have HENT : Hid (∀ w1 s, Rr E w1 s d → s.k = 0 → d < 60 → Calls Tryz.prog 106 #[pr E] w1 fun e w' => e = .returned (.bool true) ∧ Rr E w' s (d + 1) ∧ w1.grownBy w' (some E.rb)) := lh (fun w1 s h1 hs hl => (renters_any E w1 s d (by omega) h1).mono (by
  rintro e w' ⟨h2, h3, h4⟩
  have e1 : entS E.P d s = s := if_neg (by omega)
  rw [e1] at h2 h3
  rw [decide_eq_true hs] at h2
  exact ⟨h2, h3, h4⟩))
 have HENO : Hid (∀ w1 s, Rr E w1 s d → ¬ d < 60 → Calls Tryz.prog 106 #[pr E] w1 fun e w' => e = .returned (.bool false) ∧ Rr E w' (noS E.P 5 s) (d + 1) ∧ w1.grownBy w' (some E.rb)) := lh (fun w1 s h1 hl => (renters_any E w1 s d hd60 h1).mono (by
  rintro e w' ⟨h2, h3, h4⟩
  have e1 : entS E.P d s = noS E.P 5 s := if_pos (by omega)
  rw [e1] at h2 h3
  rw [decide_eq_false (h1.no_bad (by decide))] at h2
  exact ⟨h2, h3, h4⟩))
 have HLEA : Hid (∀ w1 s, Rr E w1 s (d + 1) → Calls Tryz.prog 108 #[pr E] w1 fun e w' => (∃ v, e = .returned v) ∧ Rr E w' s d ∧ w1.grownBy w' (some E.rb)) := lh (fun w1 s h1 => rleaves_any E w1 s d h1)
 have HDEC : Hid (∀ w1 s, Rr E w1 s (d + 1) → d < 60 → s.k = 0 → oneD E.P (startsL 0) s.i = true → Calls Tryz.prog 107 #[pr E] w1 (RPost E (d + 1) w1 (rn item s) (NdQ w1))) := lh (fun w1 s h1 hl hs ho => by rw [hit]; rw [hd] at h1 hl ⊢; exact dec_call E g 0 RA (by decide) (60 - g) rfl hl w1 s h1 hs ho)
 have HITF : Hid (¬ d < 60 → item = failD E.P 5) := lh (by intro hl; have h60 := RA.g60; have e0 : g = 0 := (by omega); rw [hit, e0]; rfl)
 have HSTA : Hid (∀ w1 : World, Calls Tryz.prog 105 #[.int .i64 (k : Int)] w1 fun e w' => e = .returned (.slice (some ⟨w1.heap.size, 0, none⟩) (startsL k).length (startsL k).length) ∧ w' = w1.alloc (.cells ((startsL k).map Value.string).toArray 9)) := lh (fun w1 => rstarts_any k hk w1)
 have HONE : Hid (∀ w1 s, Rr E w1 s d → Calls Tryz.prog 104 #[pr E, .slice (some ⟨w1.heap.size, 0, none⟩) (startsL k).length (startsL k).length] (w1.alloc (.cells ((startsL k).map Value.string).toArray 9)) fun e w' => e = .returned (.bool (oneb E.P (startsL k) s)) ∧ Below w1.heap.size w1 w') := lh (fun w1 s h1 => rone_starts E w1 s d k h1)
 unfold pr at HENT HENO HLEA HDEC HITF HSTA HONE ⊢
 clear h hT hF hB hd hit
 go_enter Tryz.func55, Tryz.ntmps55
 have HKK := lh hk
 clear hk
 obtain ⟨L, hL⟩ : ∃ L : Nat, L = (startsL k).length := ⟨_, rfl⟩
 obtain ⟨CC, hCC⟩ : ∃ CC : Array Value, CC = ((startsL k).map Value.string).toArray := ⟨_, rfl⟩
 rw [← hL, ← hCC] at HSTA HONE
 clear hL hCC
 go_upto_region 3 with (first | (go_at_call 104; refine (HONE.out w0 s F0.out.R).mono ?_; rintro e w1 ⟨rfl, hb⟩; have F2 := lh (F0.out.below hb); clear hb) | (go_at_call 105; refine (HSTA.out w0).mono ?_; rintro e wq ⟨rfl, rfl⟩))
 obtain ⟨f0, hsep⟩ := many_head HT.out (fun _ => by omega) F0.out.R.le (fun _ => Nat.zero_le _)
 have HSEP := lh hsep
 clear hsep
 go_loopw [5, 6] (fun va vb wr => ∃ (l : List Ty) (ao : Option Addr) (cap : Nat) (b : Bool) (t : RS) (f : Nat), va = .slice ao l.length cap ∧ vb = .bool b ∧ ManyAt E.P (oneD E.P (startsL k)) item (fun l => (ret l : M (List Ty))) T l b t f ∧ Fz E w0 w d wr t ∧ Ow w wr (fun _ => False) (.slice ao l.length cap) l ∧ l.length ≤ 200000) (fun _ _ wr => leftOf E.P.toks.length wr E.rb)
 case atStart => exact ⟨[], none, 0, _, _, f0, rfl, rfl, HSEP.out, F2.out, Ow.nil _ _ _, by simp⟩
 case round =>
  obtain ⟨l, ao, cap, b, t, f, rfl, rfl, hsep, hF, hO, hln⟩ := hrel
  obtain ⟨wo, rfl⟩ : ∃ wo : World, wo = wr := ⟨_, rfl⟩
  clear HSEP
  have HSEP := lh hsep
  have FL := lh hF
  have OWL := lh hO
  clear hsep hF hO
  cases b with
  | false =>
   have HQ := lh HSEP.out.done
   go_wp2_with fail
   go_ret
   exact RPost.ok FL.out.G (rn_pure HQ.out) ⟨OWL.out.q FL.out.vw, (by omega)⟩ FL.out.R
  | true =>
   have HGO := lh (HSEP.out.go rfl)
   have HLEN : l.length ≤ 100001 := by have h1 := (HSEP.out.fl HGO.out.1).2; have h2 := FL.out.R.le; omega
   by_cases h60 : d < 60
   · have H60 := lh h60
     clear h60
     go_upto_region 6 with (first | (go_at_call 106; refine (HENT.out wo t FL.out.R HGO.out.1 H60.out).mono ?_; rintro e w3 ⟨rfl, hr, hg⟩; have F4 := lh (FL.out.grd hg hr); have OW5 := lh (OWL.out.grz hg FL.out.rb); clear hr hg))
     have HDC : Hid (Calls Tryz.prog 107 #[.pointer (some ⟨E.rb, 0, none⟩)] w3 (RPost E (d + 1) w3 (rn item t) (NdQ w3))) := lh (HDEC.out _ _ F4.out.R H60.out HGO.out.1 (starts_sub HKK.out HGO.out.2))
     go_upto_region 7 with (first | (go_at_call 107; refine HDC.out.mono ?_; rintro e w6 ⟨e, v, s9, rfl, hg, hr, ⟨aoe, cape, rfl, hs⟩, hl⟩; have HT8 := lh hl; have F7 := lh (F4.out.gr hg hr); have OW10 := lh (OW5.out.grz hg F4.out.rb); have KD11 : Hid (Kd w w6 (fun a => Value.ownBlock (.slice ao l.length cap) = some a) e.args aoe cape) := lh (Kd.of hs F4.out.lt (fun _ h => ((fun h => (OW5.out.lt _ h).2.1) h))); unfold rowOf at ⊢; clear hl hr hg hs))
     obtain ⟨V12, hV12⟩ : ∃ V12, V12 = w6.alloc (.cells #[.int .i64 e.k, .int .i64 e.n, .string e.s, .int .i64 e.q, .slice aoe e.args.length cape] 26) := ⟨_, rfl⟩
     have hbV12 : Below w6.heap.size w6 V12 := by rw [hV12]; exact balloc (Below.refl _ _) _
     have F13 : Hid (Fz E w0 w (d + 1) V12 s9) := lh (F7.out.below hbV12)
     have VB14q := Vb.new hV12 F7.out.lt
     rw [← hV12]
     obtain ⟨b15, hb15⟩ : ∃ b15, b15 = w6.heap.size := ⟨_, rfl⟩
     rw [← hb15] at VB14q ⊢
     have KD16 : Hid (Kd w V12 (fun a => Value.ownBlock (.slice ao l.length cap) = some a ∨ a = b15) e.args aoe cape) := lh ((KD11.out.fresh (fun a h => ((fun h => Or.elim h (fun h => .inl h) (fun h => .inr (by rw [h, hb15]; exact Nat.le_refl _))) h))).grz (gr_below hbV12 (some E.rb)) F7.out.rb)
     have OW17 : Hid (Ow w V12 (fun a => a = b15) (.slice ao l.length cap) (l)) := lh ((OW10.out.fresh (fun a h => ((fun h => .inr (by rw [h, hb15]; exact Nat.le_refl _)) h))).grz (gr_below hbV12 (some E.rb)) F7.out.rb)
     have VB14 := lh VB14q
     clear VB14q hb15 hbV12 hV12
     obtain ⟨⟨c18, c19, c20, c21, c22⟩, ⟨z23, z24, z25, z26, z27⟩⟩ := five_cells VB14.out.row
     have ne28a : ¬ (b15 = E.rb) := VB14.out.nebz F13.out.rb
     have ne28b : ¬ (b15 = w.heap.size) := Nat.ne_of_gt VB14.out.lt
     have ne28c := lt_of_block VB14.out.row
     have ne28d : ¬ (b15 = V12.heap.size) := Nat.ne_of_lt ne28c
     go_upto_region 8 with (first | (have F29 : Hid (Fz E w0 w (d + 1) (V12.alloc (.cells #[.int .i64 e.k, .int .i64 e.n, .string e.s, .int .i64 e.q, .slice aoe e.args.length cape] 26)) s9) := lh (F13.out.below (balloc (Below.refl _ _) _)); have OW30 : Hid (Ow w (V12.alloc (.cells #[.int .i64 e.k, .int .i64 e.n, .string e.s, .int .i64 e.q, .slice aoe e.args.length cape] 26)) (fun a => Value.ownBlock (.slice ao l.length cap) = some a ∨ a = b15) (.slice (some ⟨V12.heap.size, 0, none⟩) 1 1) [e]) := lh (Ow.one (w1 := V12) rfl KD16.out F13.out.lt (fun _ h => ((fun h => Or.elim h (fun h => (OW17.out.lt _ h).2.1) (fun h => (by subst h; exact lt_of_block VB14.out.row))) h))); have VB31 : Hid (Vb w b15 26 #[.int .i64 e.k, .int .i64 e.n, .string e.s, .int .i64 e.q, .slice aoe e.args.length cape] (V12.alloc (.cells #[.int .i64 e.k, .int .i64 e.n, .string e.s, .int .i64 e.q, .slice aoe e.args.length cape] 26))) := lh (VB14.out.grz (gr_below (balloc (Below.refl _ _) _) (some E.rb)) F13.out.rb); have OW32 : Hid (Ow w (V12.alloc (.cells #[.int .i64 e.k, .int .i64 e.n, .string e.s, .int .i64 e.q, .slice aoe e.args.length cape] 26)) (fun a => a = b15) (.slice ao l.length cap) (l)) := lh (OW17.out.grz (gr_below (balloc (Below.refl _ _) _) (some E.rb)) F13.out.rb); at_builtin; go_must (refine wpList_app rfl _ _ rfl rfl rfl OW32.out OW30.out (fun a h => h.elim (fun h => ((fun h => (.inr h)) h)) (fun h => (.inl h))) F29.out.lt (fun _ h => ((fun h => (by subst h; exact lt_of_block VB31.out.row)) h)) (by simp; omega) ?_); intro aoL2 capL2 L2 w33 eL hO hA; have ELL2 := lh eL; have OW35 := lh hO; have F34 := lh (F29.out.own HB.out hA); have VB36 := lh (VB31.out.own hA rfl); clear eL hO hA))
     clear c18 c19 c20 c21 c22 z23 z24 z25 z26 z27 ne28a ne28b ne28c ne28d
     obtain ⟨r1, r2, r3, r4⟩ := HSEP.out.item HT8.out HST.out
     obtain ⟨f2, hsep⟩ := many_head r1 r2 F34.out.R.le r3
     rw [← ELL2.out] at hsep
     have HSEP2 := lh hsep
     have HR4 := lh r4
     clear r1 r2 r3 r4 hsep
     go_upto_region 9 with (first | (go_at_call 108; refine (HLEA.out w33 s9 F34.out.R).mono ?_; rintro e w37 ⟨⟨v, rfl⟩, hr, hg⟩; have F38 := lh (F34.out.grd hg hr); have VB39 := lh (VB36.out.grz hg F34.out.rb); have OW40 := lh (OW35.out.grz hg F34.out.rb); clear hr hg))
     go_wp2_with (first | (go_at_call 104; refine (HONE.out w37 s9 F38.out.R).mono ?_; rintro e w41 ⟨rfl, hb⟩; have F42 := lh (F38.out.below hb); have VB43 := lh (VB39.out.grz (gr_below hb (some E.rb)) F38.out.rb); have OW44 := lh (OW40.out.grz (gr_below hb (some E.rb)) F38.out.rb); clear hb) | (go_at_call 105; refine (HSTA.out w37).mono ?_; rintro e wq ⟨rfl, rfl⟩))
     go_roundw
     case rel => exact ⟨L2, aoL2, capL2, _, _, f2, rfl, rfl, HSEP2.out, F42.out, OW44.out.fresh (fun a h => h.elim), by rw [ELL2.out, List.length_append]; simp; omega⟩
     case measure => exact left_less FL.out.R F42.out.R HGO.out.1 (fun h0 => ⟨h0, Nat.le_refl _⟩) HR4.out
   · have H60 := lh h60
     clear h60
     go_upto_region 8 with (first | (go_at_call 106; refine (HENO.out wo t FL.out.R H60.out).mono ?_; rintro e w45 ⟨rfl, hr, hg⟩; have F46 := lh (FL.out.grd hg hr); have OW47 := lh (OWL.out.grz hg FL.out.rb); clear hr hg))
     have HNB : Hid ((noS E.P 5 t).k ≠ 0) := lh (FL.out.R.no_bad (by decide))
     have HL5 := lh (FL.out.R.no_rl (e := 5) (by decide) zeroTy)
     have HSEP2 : Hid (ManyAt E.P (oneD E.P (startsL k)) item (fun l => (ret l : M (List Ty))) T l (oneb E.P (startsL k) (noS E.P 5 t)) (noS E.P 5 t) 0) := lh (by
      have e1 : oneb E.P (startsL k) (noS E.P 5 t) = false := by unfold oneb; rw [decide_eq_false HNB.out, Bool.false_and]
      rw [e1]
      have h1 := HL5.out
      rw [← HITF.out H60.out] at h1
      exact many_lost (HSEP.out.item h1 HST.out).1 HNB.out)
     go_upto_region 9 with (first | (go_at_call 108; refine (HLEA.out w45 (noS E.P 5 t) F46.out.R).mono ?_; rintro e w48 ⟨⟨v, rfl⟩, hr, hg⟩; have F49 := lh (F46.out.grd hg hr); have OW50 := lh (OW47.out.grz hg F46.out.rb); clear hr hg))
     go_wp2_with (first | (go_at_call 104; refine (HONE.out w48 (noS E.P 5 t) F49.out.R).mono ?_; rintro e w51 ⟨rfl, hb⟩; have F52 := lh (F49.out.below hb); have OW53 := lh (OW50.out.grz (gr_below hb (some E.rb)) F49.out.rb); clear hb) | (go_at_call 105; refine (HSTA.out w48).mono ?_; rintro e wq ⟨rfl, rfl⟩))
     go_roundw
     case rel => exact ⟨l, ao, cap, _, _, 0, rfl, rfl, HSEP2.out, F52.out, OW53.out, hln⟩
     case measure => exact left_less FL.out.R F52.out.R HGO.out.1 (fun h0 => absurd h0 HNB.out) (s1 := ⟨0, 1, 0⟩) (fun h0 => absurd h0 (by decide))
end Go.Proofs.YthehjeeiodbkjaaGreatDoor
