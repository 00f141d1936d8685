/-
  Proved: the contracts of the reader's con, head, data; the contract of the reader's applied. Conditions: the reader as it stands in memory; what the reader reads within.
-/
import Derived.Test.YthehjeeiodbkjaaGreatDoorE27
import Derived.Test.YthehjeeiodbkjaaGreatDoorE19
import Derived.Test.YthehjeeiodbkjaaGreatDoorE13
set_option linter.unusedSimpArgs false
set_option linter.unusedVariables false
set_option maxRecDepth 100000
set_option maxHeartbeats 16000000
namespace Go.Proofs.YthehjeeiodbkjaaGreatDoor
open Go.RowKit
theorem pcon_any : CpN 123 fun E g => conB E.P (recS E.P g) := by
 intro E g PA w i h
 refine Bp.go (m := kindD E.P 4 >>= fun s => eatD E.P w_of >>= fun o => if o = true then (readS E.P g .typ >>= fun t => (pure (.mk 40 (E.P.A i) s 0 [t]) : M Ty)) else (pure (.mk 40 (E.P.A i) s 0 []) : M Ty)) h PA ?_
 intro d T W R hW B Q hlr hN
 clear h PA
 unfold pr
 go_enter Tryz.func123, Tryz.ntmps123
 obtain ⟨R9, B9, p9, hq⟩ := Pn9.ex Tryz.f123 E d w T (NdQ w)
 refine wp_mono (Q := PQ R9 B9) ?_ hq
 clear hq
 go_upto_region 1 with fail
 clear hW
 go_upto_region 2 with (first | (go_at_call 28; refine B.pnode ?_; clear B; intro u3 B) | (go_at_call 35; refine B.pnow ?_; clear B; intro u1 B; have f2 := tk_fields E.P i))
 clear f2
 generalize hb : u3.heap.size = b5
 generalize h : u3.alloc _ = V4
 replace B := B.box h hb
 clear h hb
 go_upto_region 3 with (go_at_call 74; refine B.pstr Q (kkind4 E d) p9.bad ?_; clear B Q; intro u6 s j7 _ B Q; have c8 := B.S.cs B.F.rb)
 clear c8
 generalize h : u6.setCell _ _ = X9
 replace B := B.s2 h
 clear h
 obtain ⟨b10, P⟩ := B.peatd (sg := w_of) Q
 clear B Q
 cases b10 with
 | true =>
  go_upto_region 4 with (go_at_call 38; refine P.t ?_; clear P; intro u11 B Q _)
  go_upto_region 5 with (go_at_call 65; refine B.pnd Q R.typ p9.bad ?_; clear B Q; intro u12 t aot capt j13 _ B Q; have c14 := B.mv1.S.cs B.F.rb)
  clear c14
  generalize hz : u12.heap.size = z15
  generalize h : u12.setCell _ _ = X16
  replace B := B.mv1.s4 h
  replace hz := size_set h hz
  clear h
  generalize h : X16.alloc _ = V17
  replace B := B.mv1.mk1 hz h
  clear h
  clear hz
  have c18 := B.mv1.S.cs B.F.rb; have c19 := B.cp
  go_wp2_with fail
  exact Bp.fin (.mk 40 (E.P.A i) s 0 [t]) B.ko p9 Q.pr rfl rfl
 | false =>
  go_upto_region 5 with (go_at_call 38; refine P.f ?_; clear P; intro u20 B Q _)
  have c21 := B.S.cs B.F.rb; have c22 := B.cp
  go_wp2_with fail
  exact Bp.fin (.mk 40 (E.P.A i) s 0 []) B.nilk p9 Q.pr rfl rfl
theorem headone_item (E : Env) (d : Nat) : ItemP E d 161 (oneB E.P) := ⟨fun w i h => one_any' E w i d h, fun i x j hi h => by
 have h2 : (kindD E.P 5 >>= fun s => (pure (.mk 30 (E.P.A i) s 0 []) : M Ty)) i = .ok x j := h
 have e : kindD E.P 5 i = if E.P.K i = 5 then .ok (E.P.T i) (i + 1) else failD E.P 4 i := rfl
 by_cases hk : E.P.K i = 5
 · rw [if_pos hk] at e
   rw [bind_ok e] at h2
   cases h2
   omega
 · rw [if_neg hk] at e
   obtain ⟨a, b, hf, -⟩ := failD_eq (α := ByteArray) E.P 4 i
   rw [hf] at e
   rw [bind_bad e] at h2
   cases h2⟩
theorem phead_any (E : Env) (g : Nat) (PA : PAll E g) (w : World) (i : Nat) (kk : Int) (aa : Nat) (h : Rd E w i (60 - g)) : Calls Tryz.prog 121 #[pr E, .int .i64 kk, .int .i64 (aa : Int)] w (PPost E (60 - g) w ((headB E.P kk aa) i) (NdO w)) := by
 refine Bp.go (m := fun i => if E.P.K i = 5 then (oneB E.P >>= fun v => kindD E.P 3 >>= fun s => (pure (.mk kk aa s 1 [v]) : M Ty)) i else if isD E.P s_lp i = true then (rowD E.P (oneB E.P) s_com >>= fun l => mustD E.P s_rp >>= fun _ => kindD E.P 3 >>= fun s => (pure (.mk kk aa s l.length l) : M Ty)) (i + 1) else (kindD E.P 3 >>= fun s => (pure (.mk kk aa s 0 []) : M Ty)) i) h PA ?_
 intro d T W R hW B Q hlr hN
 have HONE := lh (fun w j h => one_any' E w j d h)
 have HROW := krow 161 (headone_item E d) s_com (by intro x9 w9; rfl)
 clear h PA
 unfold pr at HONE ⊢
 go_enter Tryz.func121, Tryz.ntmps121
 obtain ⟨R9, B9, p9, hq⟩ := Pn9.ex Tryz.f121 E d w T (NdO w)
 refine wp_mono (Q := PQ R9 B9) ?_ hq
 clear hq
 go_upto_region 1 with fail
 clear hW
 go_upto_region 2 with (go_at_call 28; refine B.pnode ?_; clear B; intro u1 B)
 generalize hb : u1.heap.size = b3
 generalize h : u1.alloc _ = V2
 replace B := B.box h hb
 clear h hb
 by_cases hk4 : E.P.K i = 5
 · have ek5 : (E.P.K i == 5) = true := by simp [hk4]
   have HK6 := lh hk4
   clear hk4
   replace Q : Qp T (oneB E.P >>= fun v => kindD E.P 3 >>= fun s => (pure (.mk kk aa s 1 [v]) : M Ty)) i := ⟨Q.eq.trans (if_pos HK6.out)⟩
   go_upto_region 4 with (go_at_call 35; refine B.pnow ?_; clear B; intro u7 B; have f8 := tk_fields E.P i)
   clear f8
   go_upto_region 8 with (go_at_call 161; refine B.pnd Q HONE p9.bad ?_; clear B Q; intro u9 t aot capt j10 _ B Q; have c11 := B.mv1.S.cs B.F.rb)
   clear c11
   generalize hz : u9.heap.size = z12
   generalize h : u9.setCell _ _ = X13
   replace B := B.mv1.s4 h
   replace hz := size_set h hz
   clear h
   generalize h : X13.alloc _ = V14
   replace B := B.mv1.mk1 hz h
   clear h
   clear hz
   have c15 := B.mv1.S.cs B.F.rb
   go_upto_region 9 with fail
   clear c15
   generalize h : V14.setCell _ _ = X16
   replace B := B.mv1.s3 h
   clear h
   have c17 := B.S.cs B.F.rb
   go_upto_region 10 with (go_at_call 74; refine B.pstr Q (kkind3 E d) p9.bad ?_; clear B Q; intro u18 s j19 _ B Q; have c20 := B.S.cs B.F.rb)
   clear c17 c20
   generalize h : u18.setCell _ _ = X21
   replace B := B.s2 h
   clear h
   have c22 := B.S.cs B.F.rb; have c23 := B.cp
   go_wp2_with fail
   exact Bp.fino (.mk kk aa s 1 [t]) B.mv1 p9 Q.pr rfl rfl
 · have ek24 : (E.P.K i == 5) = false := by simp [hk4]
   have HK25 := lh hk4
   clear hk4
   replace Q : Qp T (fun i => if isD E.P s_lp i = true then (rowD E.P (oneB E.P) s_com >>= fun l => mustD E.P s_rp >>= fun _ => kindD E.P 3 >>= fun s => (pure (.mk kk aa s l.length l) : M Ty)) (i + 1) else (kindD E.P 3 >>= fun s => (pure (.mk kk aa s 0 []) : M Ty)) i) i := ⟨Q.eq.trans (if_neg HK25.out)⟩
   go_upto_region 5 with (go_at_call 35; refine B.pnow ?_; clear B; intro u26 B; have f27 := tk_fields E.P i)
   clear f27
   obtain ⟨b28, P⟩ := B.peat (sg := s_lp) Q
   clear B Q
   cases b28 with
   | true =>
    go_upto_region 6 with (go_at_call 38; refine P.t ?_; clear P; intro u29 B Q _)
    go_upto_region 7 with (go_at_call 76; refine B.prw Q HROW p9.bad ?_; clear B Q; intro u30 l aol capl j31 _ B Q; have c32 := B.mv1.S.cs B.F.rb)
    clear c32
    generalize h : u30.setCell _ _ = X33
    replace B := B.mv1.s4 h
    clear h
    go_upto_region 8 with (go_at_call 40; refine B.pun Q (kmust E d s_rp) p9.bad ?_; clear B Q; intro u34 _ _ j35 B Q)
    have c36 := B.S.cs B.F.rb
    go_upto_region 9 with fail
    clear c36
    generalize h : u34.setCell _ _ = X37
    replace B := B.s3 h
    clear h
    have c38 := B.S.cs B.F.rb
    go_upto_region 10 with (go_at_call 74; refine B.pstr Q (kkind3 E d) p9.bad ?_; clear B Q; intro u39 s j40 _ B Q; have c41 := B.S.cs B.F.rb)
    clear c38 c41
    generalize h : u39.setCell _ _ = X42
    replace B := B.s2 h
    clear h
    have c43 := B.S.cs B.F.rb; have c44 := B.cp
    go_wp2_with fail
    exact Bp.fino (.mk kk aa s l.length l) B.mv1 p9 Q.pr rfl rfl
   | false =>
    go_upto_region 8 with (go_at_call 38; refine P.f ?_; clear P; intro u45 B Q _)
    replace B := B.nilo
    have c46 := B.mv1.S.cs B.F.rb
    go_upto_region 9 with fail
    clear c46
    generalize h : u45.setCell _ _ = X47
    replace B := B.mv1.s3 h
    clear h
    have c48 := B.S.cs B.F.rb
    go_upto_region 10 with (go_at_call 74; refine B.pstr Q (kkind3 E d) p9.bad ?_; clear B Q; intro u49 s j50 _ B Q; have c51 := B.S.cs B.F.rb)
    clear c48 c51
    generalize h : u49.setCell _ _ = X52
    replace B := B.s2 h
    clear h
    have c53 := B.S.cs B.F.rb; have c54 := B.cp
    go_wp2_with fail
    exact Bp.fino (.mk kk aa s 0 []) B.mv1 p9 Q.pr rfl rfl
theorem St.mono {α : Type} {m : M α} (h : St m) (i : Nat) (x : α) (j : Nat) (e : m i = .ok x j) : i ≤ j := Nat.le_of_succ_le (h i x j e)
theorem con_item (E : Env) (g : Nat) (PA : PAll E g) : ItemP E (60 - g) 123 (conB E.P (recS E.P g)) := ⟨fun w i h => pcon_any E g PA w i h, fun i x j _ e => (st_con E.P _ (st_rec E.P g).2).mono i x j e⟩
theorem head_len {P : Src} {k : Int} {a i : Nat} {x : Ty} {j : Nat} (h : headB P k a i = .ok x j) : x.args.length ≤ P.toks.length + 2 := by
 have e : headB P k a i = if P.K i = 5 then (oneB P >>= fun v => kindD P 3 >>= fun s => (pure (.mk k a s 1 [v]) : M Ty)) i else if isD P s_lp i = true then (rowD P (oneB P) s_com >>= fun l => mustD P s_rp >>= fun _ => kindD P 3 >>= fun s => (pure (.mk k a s l.length l) : M Ty)) (i + 1) else (kindD P 3 >>= fun s => (pure (.mk k a s 0 []) : M Ty)) i := rfl
 rw [e] at h
 split at h
 · cases h1 : oneB P i with
   | bad k a => rw [bind_bad h1] at h; cases h
   | ok v i1 =>
    rw [bind_ok h1] at h
    cases h2 : kindD P 3 i1 with
    | bad k a => rw [bind_bad h2] at h; cases h
    | ok s i2 => rw [bind_ok h2] at h; cases h; show 1 ≤ _; omega
 · split at h
   · cases h1 : rowD P (oneB P) s_com (i + 1) with
     | bad k a => rw [bind_bad h1] at h; cases h
     | ok l i1 =>
      rw [bind_ok h1] at h
      have hl := row_len h1
      cases h2 : mustD P s_rp i1 with
      | bad k a => rw [bind_bad h2] at h; cases h
      | ok u i2 =>
       rw [bind_ok h2] at h
       cases h3 : kindD P 3 i2 with
       | bad k a => rw [bind_bad h3] at h; cases h
       | ok s i3 => rw [bind_ok h3] at h; cases h; exact hl
   · cases h2 : kindD P 3 i with
     | bad k a => rw [bind_bad h2] at h; cases h
     | ok s i2 => rw [bind_ok h2] at h; cases h; show 0 ≤ _; omega
theorem pdbind_any (E : Env) (g : Nat) (PA : PAll E g) (w : World) (i : Nat) (h : Rd E w i (60 - g)) : Calls Tryz.prog 162 #[pr E] w (PPost E (60 - g) w ((dbindB E.P (recS E.P g)) i) (NdO w)) := by
 refine Bp.go (m := headB E.P 39 (E.P.A i) >>= fun n => mustD E.P s_eq >>= fun _ => rowD E.P (conB E.P (recS E.P g)) s_bar >>= fun l => (pure (.mk n.k n.n n.s n.q (n.args ++ l)) : M Ty)) h PA ?_
 intro d T W R hW B Q hlr hN
 have HHEAD := at_p R.hd (fun w j h => phead_any E g PA w j 39 (E.P.A i) h)
 have HROW := krow 123 (item_at R.hd (con_item E g PA)) s_bar (by intro x9 w9; rfl)
 clear h PA
 unfold pr at HHEAD ⊢
 go_enter Tryz.func162, Tryz.ntmps162
 obtain ⟨R9, B9, p9, hq⟩ := Pn9.ex Tryz.f162 E d w T (NdO w)
 refine wp_mono (Q := PQ R9 B9) ?_ hq
 clear hq
 go_upto_region 1 with fail
 clear hW
 go_upto_region 2 with (first | (go_at_call 121; refine B.pno Q HHEAD p9.bad ?_; clear B Q; intro u3 n aon capn j4 hx B Q; have LNn := lh (head_len hx); clear hx) | (go_at_call 35; refine B.pnow ?_; clear B; intro u1 B; have f2 := tk_fields E.P i))
 clear f2
 generalize hb : u3.heap.size = b6
 generalize h : u3.alloc _ = V5
 replace B := B.box h hb
 clear h hb
 go_upto_region 3 with (go_at_call 40; refine B.pun Q (kmust E d s_eq) p9.bad ?_; clear B Q; intro u7 _ _ j8 B Q)
 have c9 := B.S.cs B.F.rb
 replace B := B.drew
 go_region_law (first | (go_simp; (go_at_call 76; refine B.prw Q HROW p9.bad ?_; clear B Q; intro u10 l aol capl j11 hx B Q; have LNl := lh (row_len hx); clear hx; have c12 := B.mv1.S.cs B.F.rb)) | (refine B.mv2.appO (by rfl) _ _ (by rfl) (by rfl) (by rfl) (by have h1 := LNn.out; have h2 := LNl.out; omega) ?_; clear B; intro aoL capL L u13 ELL B; have c14 := B.mv1.S.cs B.F.rb; have c15 := B.cp))
 all_goals
  generalize h : u13.setCell _ _ = X16
  replace B := B.mv1.s4 h
  clear h
  have c17 := B.S.cs B.F.rb; have c18 := B.cp
  go_wp2_with fail
  exact Bp.fino (.mk n.k n.n n.s n.q L) B.mv1 p9 (by rw [ELL.out]; exact Q.pr) rfl rfl
theorem dbind_item (E : Env) (g : Nat) (PA : PAll E g) : ItemP E (60 - g) 162 (dbindB E.P (recS E.P g)) := ⟨fun w i h => (pdbind_any E g PA w i h).mono fun _ _ hp => hp.mono fun _ _ h => h.q, fun i x j _ e => (st_dbind E.P _ (st_rec E.P g).2).mono i x j e⟩
theorem pdata_any (E : Env) (g : Nat) (PA : PAll E g) (w : World) (i : Nat) (aa : Nat) (h : Rd E w i (60 - g)) : Calls Tryz.prog 122 #[pr E, .int .i64 (aa : Int)] w (PPost E (60 - g) w ((dataB E.P (recS E.P g) aa) i) (NdO w)) := by
 refine Bp.go (m := rowD E.P (dbindB E.P (recS E.P g)) w_and >>= fun l => (pure (.mk 38 aa ⟨#[]⟩ 0 l) : M Ty)) h PA ?_
 intro d T W R hW B Q hlr hN
 have HROW := krow 162 (item_at R.hd (dbind_item E g PA)) w_and (by intro x9 w9; rfl)
 clear h PA
 unfold pr
 go_enter Tryz.func122, Tryz.ntmps122
 obtain ⟨R9, B9, p9, hq⟩ := Pn9.ex Tryz.f122 E d w T (NdO w)
 refine wp_mono (Q := PQ R9 B9) ?_ hq
 clear hq
 go_upto_region 1 with fail
 clear hW
 go_wp2_with (first | (go_at_call 28; refine B.pnode ?_; clear B; intro u3 B; have c4 := B.cp) | (go_at_call 76; refine B.prw Q HROW p9.bad ?_; clear B Q; intro u1 l aol capl j2 _ B Q))
 exact Bp.fino (.mk 38 aa ⟨#[]⟩ 0 l) B p9 Q.pr rfl rfl
theorem appL_at (P : Src) (a f : Nat) (l : List Ty) (i : Nat) : appL P a (f + 1) l i = if l.length ≠ 1 ∨ P.K i = 3 ∨ P.K i = 4 then (pathD P 3 >>= fun p => appL P a f [.mk 31 a p.1 0 l]) i else .ok (l.headD default) i := rfl
theorem papplied_any : CpN 127 fun E g => appliedB E.P (recS E.P g) := by
 intro E g PA w i h
 refine Bp.go (m := fun q => if E.P.K q = 5 then appL E.P (E.P.A i) (E.P.toks.length + 1) [.mk 30 (E.P.A i) (E.P.T i) 0 []] (q + 1) else if isD E.P s_lp q = true then (rowD E.P (readS E.P g .typ) s_com >>= fun l => mustD E.P s_rp >>= fun _ => appL E.P (E.P.A i) (E.P.toks.length + 1) l) (q + 1) else appL E.P (E.P.A i) (E.P.toks.length + 1) [] q) h PA ?_
 intro d T W R hW B Q hlr hN
 have HROW := krow 65 R.ityp.out s_com (by intro x9 w9; rfl)
 have HSP := lh (st_path E.P 3)
 clear h PA
 unfold pr
 go_enter Tryz.func127, Tryz.ntmps127
 obtain ⟨R9, B9, p9, hq⟩ := Pn9.ex Tryz.f127 E d w T (NdQ w)
 refine wp_mono (Q := PQ R9 B9) ?_ hq
 clear hq
 go_upto_region 1 with fail
 clear hW
 go_upto_region 2 with (go_at_call 35; refine B.pnow ?_; clear B; intro u1 B; have f2 := tk_fields E.P i)
 clear f2
 generalize hb : u1.heap.size = b4
 generalize h : u1.alloc _ = V3
 replace B := B.boxt h hb
 clear h hb
 go_upto_block 0 with fail
 go_cut [4] from 5 to 62 (fun v wx => ∃ (l : List Ty) (j : Nat) (ao : Option Addr) (cap : Nat), v = .slice ao l.length cap ∧ Qp T (appL E.P (E.P.A i) (E.P.toks.length + 1) l) j ∧ l.length ≤ 200000 ∧ Bp E w d wx j [.kd l ao cap, .tv b4 (.int .i64 (E.P.K i)) (.int .i64 (E.P.A i : Int)) (.string (E.P.T i)) (.int .i64 (E.P.N i : Int))])
 case first =>
  have c5 := B.S.ct B.F.rb
  go_upto_if 8 with fail
  clear c5
  by_cases hk6 : E.P.K i = 5
  · have ek7 : (E.P.K i == 5) = true := by simp [hk6]
    have HK8 := lh hk6
    clear hk6
    have hle : i + 1 ≤ E.P.toks.length := Nat.succ_le_of_lt (K_lt (by rw [HK8.out]; decide))
    replace Q : Qp T (appL E.P (E.P.A i) (E.P.toks.length + 1) [.mk 30 (E.P.A i) (E.P.T i) 0 []]) (i + 1) := ⟨Q.eq.trans (if_pos HK8.out)⟩
    have c9 := B.S.ct B.F.rb; have c10 := B.F.R.cells
    go_upto_region 5 with fail
    clear c9 c10
    generalize h : V3.setCell _ _ = X11
    replace B := B.seti (j' := i + 1) hle h rfl
    clear h
    have c12 := B.S.ct B.F.rb
    go_wp2_with fail
    generalize h : X11.alloc _ = V13
    replace B := B.nilk.mkl rfl h
    clear h
    go_meet
    exact ⟨[.mk 30 (E.P.A i) (E.P.T i) 0 []], _, _, 1, rfl, Q, by simp, B.ko⟩
  · have ek14 : (E.P.K i == 5) = false := by simp [hk6]
    have HK15 := lh hk6
    clear hk6
    replace Q : Qp T (fun q => if isD E.P s_lp q = true then (rowD E.P (readS E.P g .typ) s_com >>= fun l => mustD E.P s_rp >>= fun _ => appL E.P (E.P.A i) (E.P.toks.length + 1) l) (q + 1) else appL E.P (E.P.A i) (E.P.toks.length + 1) [] q) i := ⟨Q.eq.trans (if_neg HK15.out)⟩
    obtain ⟨b16, P⟩ := B.peat (sg := s_lp) Q
    clear B Q
    cases b16 with
    | true =>
     go_upto_region 7 with (go_at_call 38; refine P.t ?_; clear P; intro u17 B Q _)
     go_upto_region 8 with (go_at_call 76; refine B.prw Q HROW p9.bad ?_; clear B Q; intro u18 l aol capl j19 hx B Q; have LNl := lh (row_len hx); clear hx)
     go_wp2_with (go_at_call 40; refine B.pun Q (kmust E d s_rp) p9.bad ?_; clear B Q; intro u20 _ _ j21 B Q)
     go_meet
     exact ⟨l, _, aol, capl, rfl, Q, by have h1 := LNl.out; omega, B.ko⟩
    | false =>
     go_wp2_with (go_at_call 38; refine P.f ?_; clear P; intro u22 B Q _)
     go_meet
     exact ⟨[], _, none, 0, rfl, Q, by simp, B.nilk⟩
 case rest =>
  clear Q B
  obtain ⟨l, j, ao, cap, rfl, Q, hl, B⟩ := hcut
  have hjN := B.F.R.le
  go_wp2_with fail
  go_loopw [4] (fun v wr => ∃ (l : List Ty) (j f : Nat) (ao : Option Addr) (cap : Nat), v = .slice ao l.length cap ∧ Qp T (appL E.P (E.P.A i) f l) j ∧ E.P.toks.length < j + f ∧ l.length ≤ 200000 ∧ Bp E w d wr j [.kd l ao cap, .tv b4 (.int .i64 (E.P.K i)) (.int .i64 (E.P.A i : Int)) (.string (E.P.T i)) (.int .i64 (E.P.N i : Int))]) (fun _ wr => E.P.toks.length - posOf wr E.rb)
  case atStart => exact ⟨l, j, E.P.toks.length + 1, ao, cap, rfl, Q, by omega, hl, B⟩
  case round =>
   clear B Q hl hjN
   obtain ⟨l, j, f, ao, cap, rfl, Q, hf, hl, B⟩ := hrel
   obtain ⟨f, rfl⟩ : ∃ f', f = f' + 1 := ⟨f - 1, by have := B.F.R.le; omega⟩
   have HF := lh hf
   have HLL := lh hl
   have R0 := lh B.F.R
   clear hf hl
   obtain ⟨q, hq⟩ : ∃ q, q = decide (l.length ≠ 1 ∨ E.P.K j = 3 ∨ E.P.K j = 4) := ⟨_, rfl⟩
   have HQC := lh hq
   clear hq
   go_upto_region 9 with fail
   go_cut [46] from 32 to 58 (fun v wx => v = .bool q ∧ Bp E w d wx j [.kd l ao cap, .tv b4 (.int .i64 (E.P.K i)) (.int .i64 (E.P.A i : Int)) (.string (E.P.T i)) (.int .i64 (E.P.N i : Int))])
   case first =>
    by_cases h1 : l.length = 1
    · have e1 : ((l.length : Int) != 1) = false := by simp; omega
      have H1 := lh h1
      clear h1
      by_cases h3 : E.P.K j = 3
      · have eh3 : (E.P.K j == 3) = true := by simp [h3]
        have Hh3 := lh h3
        clear h3
        go_wp2_with (go_at_call 35; refine B.pnow ?_; clear B; intro u23 B; have f24 := tk_fields E.P j)
        go_meet
        exact ⟨by rw [HQC.out]; simp [Hh3.out], B⟩
      · have eh3 : (E.P.K j == 3) = false := by simp [h3]
        have Hh3 := lh h3
        clear h3
        by_cases h4 : E.P.K j = 4
        · have eh4 : (E.P.K j == 4) = true := by simp [h4]
          have Hh4 := lh h4
          clear h4
          go_wp2_with (first | (go_at_call 35; refine B.pnow ?_; clear B; intro u27 B; have f28 := tk_fields E.P j) | (go_at_call 35; refine B.pnow ?_; clear B; intro u25 B; have f26 := tk_fields E.P j))
          go_meet
          exact ⟨by rw [HQC.out]; simp [Hh4.out], B⟩
        · have eh4 : (E.P.K j == 4) = false := by simp [h4]
          have Hh4 := lh h4
          clear h4
          go_wp2_with (first | (go_at_call 35; refine B.pnow ?_; clear B; intro u31 B; have f32 := tk_fields E.P j) | (go_at_call 35; refine B.pnow ?_; clear B; intro u29 B; have f30 := tk_fields E.P j))
          go_meet
          exact ⟨by rw [HQC.out]; simp [H1.out, Hh3.out, Hh4.out], B⟩
    · have e1 : ((l.length : Int) != 1) = true := by simp; omega
      have H1 := lh h1
      clear h1
      go_wp2_with fail
      go_meet
      exact ⟨by rw [HQC.out]; simp [H1.out], B⟩
   case rest =>
    replace B := hcut.2
    obtain ⟨rfl, -⟩ := hcut
    cases q with
    | true =>
     replace Q : Qp T (pathD E.P 3 >>= fun p => appL E.P (E.P.A i) f [.mk 31 (E.P.A i) p.1 0 l]) j := ⟨by rw [Q.eq, appL_at, if_pos (of_decide_eq_true HQC.out.symm)]⟩
     have c33 := B.mv1.S.ct B.F.rb
     go_upto_region 11 with (go_at_call 28; refine B.pnode ?_; clear B; intro u34 B)
     clear c33
     generalize hb : u34.heap.size = b36
     generalize h : u34.alloc _ = V35
     replace B := B.box h hb
     clear h hb
     go_upto_region 12 with (go_at_call 75; refine B.ppth Q (kpath3 E d) p9.bad ?_; clear B Q; intro u37 p j38 hx B Q; have LNp := lh (HSP.out _ _ _ hx); clear hx; have c39 := B.S.cs B.F.rb)
     clear c39
     generalize hz : u37.heap.size = z40
     generalize h : u37.setCell _ _ = X41
     replace B := B.s2 h
     replace hz := size_set h hz
     clear h
     have c42 := B.S.cs B.F.rb
     go_wp2_with fail
     clear c42
     replace B := B.dr
     generalize h : X41.alloc _ = V43
     replace B := B.mkl hz h
     clear h
     clear hz
     go_roundw
     case rel => exact ⟨[.mk 31 (E.P.A i) p.1 0 l], j38, f, _, 1, rfl, Q, by have h1 := LNp.out; have h2 := HF.out; omega, by simp, B.ko⟩
     case measure => exact pos_less R0.out B.F.R LNp.out
    | false =>
     have hc := of_decide_eq_false HQC.out.symm
     obtain ⟨x, rfl⟩ : ∃ x, l = [x] := List.length_eq_one_iff.1 (Decidable.byContradiction fun h => hc (.inl h))
     replace Q : Qp T (pure x : M Ty) j := ⟨by rw [Q.eq, appL_at, if_neg hc]; rfl⟩
     clear hc
     obtain ⟨b9, p9_, a9, c9, t1, cx, B⟩ := B.arg
     have hl9 : ((([x] : List Ty).length : Nat) : Int) = 1 := rfl
     have c44 := B.cp
     go_wp2_with fail
     exact Bp.fin (x) B p9 Q.pr rfl rfl
end Go.Proofs.YthehjeeiodbkjaaGreatDoor
