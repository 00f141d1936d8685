/-
  Proved: the contracts of the reader's con, head, data; the contracts of the reader's roundPat and apat; the contract of the document's apat; the contract of the reader's apat. Conditions: the reader as it stands in memory; what the reader reads within; the reader as it stands in memory; what it reads within.
-/
import Derived.Test.YthehjeeiodbkjaaGreatDoorA01
import Derived.Test.YthehjeeiodbkjaaGreatDoorA08
import Derived.Test.YthehjeeiodbkjaaGreatDoorA05
import Derived.Test.YthehjeeiodbkjaaGreatDoorA04
import Derived.Test.YthehjeeiodbkjaaGreatDoorA06
set_option linter.unusedSimpArgs false
set_option linter.unusedVariables false
set_option maxRecDepth 100000
set_option maxHeartbeats 16000000
namespace Go.Proofs.YthehjeeiodbkjaaGreatDoor
open Go.RowKit
theorem pcon_any : CpN 123 fun E g => conB E.P (recS E.P g) := by
 intro E g PA w i h
 refine Bp.go (m := kindD E.P 4 >>= fun s => eatD E.P w_of >>= fun o => if o = true then (readS E.P g .typ >>= fun t => (pure (.mk 40 (E.P.A i) s 0 [t]) : M Ty)) else (pure (.mk 40 (E.P.A i) s 0 []) : M Ty)) h PA ?_
 intro d T W R hW B Q hlr hN
 clear h PA
 unfold pr
 go_enter Tryz.func123, Tryz.ntmps123
 obtain ⟨R9, B9, p9, hq⟩ := Pn9.ex Tryz.f123 E d w T (NdQ w)
 refine wp_mono (Q := PQ R9 B9) ?_ hq
 clear hq
 go_upto_region 1 with fail
 clear hW
 go_upto_region 2 with (first | (go_at_call 28; refine B.pnode ?_; clear B; intro u3 B) | (go_at_call 35; refine B.pnow ?_; clear B; intro u1 B; have f2 := tk_fields E.P i))
 clear f2
 generalize hb : u3.heap.size = b5
 generalize h : u3.alloc _ = V4
 replace B := B.box h hb
 clear h hb
 go_upto_region 3 with (go_at_call 74; refine B.pstr Q (kkind4 E d) p9.bad ?_; clear B Q; intro u6 s j7 _ B Q; have c8 := B.S.cs B.F.rb)
 clear c8
 generalize h : u6.setCell _ _ = X9
 replace B := B.s2 h
 clear h
 obtain ⟨b10, P⟩ := B.peatd (sg := w_of) Q
 clear B Q
 cases b10 with
 | true =>
  go_upto_region 4 with (go_at_call 38; refine P.t ?_; clear P; intro u11 B Q _)
  go_upto_region 5 with (go_at_call 65; refine B.pnd Q R.typ p9.bad ?_; clear B Q; intro u12 t aot capt j13 _ B Q; have c14 := B.mv1.S.cs B.F.rb)
  clear c14
  generalize hz : u12.heap.size = z15
  generalize h : u12.setCell _ _ = X16
  replace B := B.mv1.s4 h
  replace hz := size_set h hz
  clear h
  generalize h : X16.alloc _ = V17
  replace B := B.mv1.mk1 hz h
  clear h
  clear hz
  have c18 := B.mv1.S.cs B.F.rb; have c19 := B.cp
  go_wp2_with fail
  exact Bp.fin (.mk 40 (E.P.A i) s 0 [t]) B.ko p9 Q.pr rfl rfl
 | false =>
  go_upto_region 5 with (go_at_call 38; refine P.f ?_; clear P; intro u20 B Q _)
  have c21 := B.S.cs B.F.rb; have c22 := B.cp
  go_wp2_with fail
  exact Bp.fin (.mk 40 (E.P.A i) s 0 []) B.nilk p9 Q.pr rfl rfl
theorem headone_item (E : Env) (d : Nat) : ItemP E d 161 (oneB E.P) := ⟨fun w i h => one_any' E w i d h, fun i x j hi h => by
 have h2 : (kindD E.P 5 >>= fun s => (pure (.mk 30 (E.P.A i) s 0 []) : M Ty)) i = .ok x j := h
 have e : kindD E.P 5 i = if E.P.K i = 5 then .ok (E.P.T i) (i + 1) else failD E.P 4 i := rfl
 by_cases hk : E.P.K i = 5
 · rw [if_pos hk] at e
   rw [bind_ok e] at h2
   cases h2
   omega
 · rw [if_neg hk] at e
   obtain ⟨a, b, hf, -⟩ := failD_eq (α := ByteArray) E.P 4 i
   rw [hf] at e
   rw [bind_bad e] at h2
   cases h2⟩
theorem phead_any (E : Env) (g : Nat) (PA : PAll E g) (w : World) (i : Nat) (kk : Int) (aa : Nat) (h : Rd E w i (60 - g)) : Calls Tryz.prog 121 #[pr E, .int .i64 kk, .int .i64 (aa : Int)] w (PPost E (60 - g) w ((headB E.P kk aa) i) (NdO w)) := by
 refine Bp.go (m := fun i => if E.P.K i = 5 then (oneB E.P >>= fun v => kindD E.P 3 >>= fun s => (pure (.mk kk aa s 1 [v]) : M Ty)) i else if isD E.P s_lp i = true then (rowD E.P (oneB E.P) s_com >>= fun l => mustD E.P s_rp >>= fun _ => kindD E.P 3 >>= fun s => (pure (.mk kk aa s l.length l) : M Ty)) (i + 1) else (kindD E.P 3 >>= fun s => (pure (.mk kk aa s 0 []) : M Ty)) i) h PA ?_
 intro d T W R hW B Q hlr hN
 have HONE := lh (fun w j h => one_any' E w j d h)
 have HROW := krow 161 (headone_item E d) s_com (by intro x9 w9; rfl)
 clear h PA
 unfold pr at HONE ⊢
 go_enter Tryz.func121, Tryz.ntmps121
 obtain ⟨R9, B9, p9, hq⟩ := Pn9.ex Tryz.f121 E d w T (NdO w)
 refine wp_mono (Q := PQ R9 B9) ?_ hq
 clear hq
 go_upto_region 1 with fail
 clear hW
 go_upto_region 2 with (go_at_call 28; refine B.pnode ?_; clear B; intro u1 B)
 generalize hb : u1.heap.size = b3
 generalize h : u1.alloc _ = V2
 replace B := B.box h hb
 clear h hb
 by_cases hk4 : E.P.K i = 5
 · have ek5 : (E.P.K i == 5) = true := by simp [hk4]
   have HK6 := lh hk4
   clear hk4
   replace Q : Qp T (oneB E.P >>= fun v => kindD E.P 3 >>= fun s => (pure (.mk kk aa s 1 [v]) : M Ty)) i := ⟨Q.eq.trans (if_pos HK6.out)⟩
   go_upto_region 4 with (go_at_call 35; refine B.pnow ?_; clear B; intro u7 B; have f8 := tk_fields E.P i)
   clear f8
   go_upto_region 8 with (go_at_call 161; refine B.pnd Q HONE p9.bad ?_; clear B Q; intro u9 t aot capt j10 _ B Q; have c11 := B.mv1.S.cs B.F.rb)
   clear c11
   generalize hz : u9.heap.size = z12
   generalize h : u9.setCell _ _ = X13
   replace B := B.mv1.s4 h
   replace hz := size_set h hz
   clear h
   generalize h : X13.alloc _ = V14
   replace B := B.mv1.mk1 hz h
   clear h
   clear hz
   have c15 := B.mv1.S.cs B.F.rb
   go_upto_region 9 with fail
   clear c15
   generalize h : V14.setCell _ _ = X16
   replace B := B.mv1.s3 h
   clear h
   have c17 := B.S.cs B.F.rb
   go_upto_region 10 with (go_at_call 74; refine B.pstr Q (kkind3 E d) p9.bad ?_; clear B Q; intro u18 s j19 _ B Q; have c20 := B.S.cs B.F.rb)
   clear c17 c20
   generalize h : u18.setCell _ _ = X21
   replace B := B.s2 h
   clear h
   have c22 := B.S.cs B.F.rb; have c23 := B.cp
   go_wp2_with fail
   exact Bp.fino (.mk kk aa s 1 [t]) B.mv1 p9 Q.pr rfl rfl
 · have ek24 : (E.P.K i == 5) = false := by simp [hk4]
   have HK25 := lh hk4
   clear hk4
   replace Q : Qp T (fun i => if isD E.P s_lp i = true then (rowD E.P (oneB E.P) s_com >>= fun l => mustD E.P s_rp >>= fun _ => kindD E.P 3 >>= fun s => (pure (.mk kk aa s l.length l) : M Ty)) (i + 1) else (kindD E.P 3 >>= fun s => (pure (.mk kk aa s 0 []) : M Ty)) i) i := ⟨Q.eq.trans (if_neg HK25.out)⟩
   go_upto_region 5 with (go_at_call 35; refine B.pnow ?_; clear B; intro u26 B; have f27 := tk_fields E.P i)
   clear f27
   obtain ⟨b28, P⟩ := B.peat (sg := s_lp) Q
   clear B Q
   cases b28 with
   | true =>
    go_upto_region 6 with (go_at_call 38; refine P.t ?_; clear P; intro u29 B Q _)
    go_upto_region 7 with (go_at_call 76; refine B.prw Q HROW p9.bad ?_; clear B Q; intro u30 l aol capl j31 _ B Q; have c32 := B.mv1.S.cs B.F.rb)
    clear c32
    generalize h : u30.setCell _ _ = X33
    replace B := B.mv1.s4 h
    clear h
    go_upto_region 8 with (go_at_call 40; refine B.pun Q (kmust E d s_rp) p9.bad ?_; clear B Q; intro u34 _ _ j35 B Q)
    have c36 := B.S.cs B.F.rb
    go_upto_region 9 with fail
    clear c36
    generalize h : u34.setCell _ _ = X37
    replace B := B.s3 h
    clear h
    have c38 := B.S.cs B.F.rb
    go_upto_region 10 with (go_at_call 74; refine B.pstr Q (kkind3 E d) p9.bad ?_; clear B Q; intro u39 s j40 _ B Q; have c41 := B.S.cs B.F.rb)
    clear c38 c41
    generalize h : u39.setCell _ _ = X42
    replace B := B.s2 h
    clear h
    have c43 := B.S.cs B.F.rb; have c44 := B.cp
    go_wp2_with fail
    exact Bp.fino (.mk kk aa s l.length l) B.mv1 p9 Q.pr rfl rfl
   | false =>
    go_upto_region 8 with (go_at_call 38; refine P.f ?_; clear P; intro u45 B Q _)
    replace B := B.nilo
    have c46 := B.mv1.S.cs B.F.rb
    go_upto_region 9 with fail
    clear c46
    generalize h : u45.setCell _ _ = X47
    replace B := B.mv1.s3 h
    clear h
    have c48 := B.S.cs B.F.rb
    go_upto_region 10 with (go_at_call 74; refine B.pstr Q (kkind3 E d) p9.bad ?_; clear B Q; intro u49 s j50 _ B Q; have c51 := B.S.cs B.F.rb)
    clear c48 c51
    generalize h : u49.setCell _ _ = X52
    replace B := B.s2 h
    clear h
    have c53 := B.S.cs B.F.rb; have c54 := B.cp
    go_wp2_with fail
    exact Bp.fino (.mk kk aa s 0 []) B.mv1 p9 Q.pr rfl rfl
theorem St.mono {α : Type} {m : M α} (h : St m) (i : Nat) (x : α) (j : Nat) (e : m i = .ok x j) : i ≤ j := Nat.le_of_succ_le (h i x j e)
theorem con_item (E : Env) (g : Nat) (PA : PAll E g) : ItemP E (60 - g) 123 (conB E.P (recS E.P g)) := ⟨fun w i h => pcon_any E g PA w i h, fun i x j _ e => (st_con E.P _ (st_rec E.P g).2).mono i x j e⟩
theorem head_len {P : Src} {k : Int} {a i : Nat} {x : Ty} {j : Nat} (h : headB P k a i = .ok x j) : x.args.length ≤ P.toks.length + 2 := by
 have e : headB P k a i = if P.K i = 5 then (oneB P >>= fun v => kindD P 3 >>= fun s => (pure (.mk k a s 1 [v]) : M Ty)) i else if isD P s_lp i = true then (rowD P (oneB P) s_com >>= fun l => mustD P s_rp >>= fun _ => kindD P 3 >>= fun s => (pure (.mk k a s l.length l) : M Ty)) (i + 1) else (kindD P 3 >>= fun s => (pure (.mk k a s 0 []) : M Ty)) i := rfl
 rw [e] at h
 split at h
 · cases h1 : oneB P i with
   | bad k a => rw [bind_bad h1] at h; cases h
   | ok v i1 =>
    rw [bind_ok h1] at h
    cases h2 : kindD P 3 i1 with
    | bad k a => rw [bind_bad h2] at h; cases h
    | ok s i2 => rw [bind_ok h2] at h; cases h; show 1 ≤ _; omega
 · split at h
   · cases h1 : rowD P (oneB P) s_com (i + 1) with
     | bad k a => rw [bind_bad h1] at h; cases h
     | ok l i1 =>
      rw [bind_ok h1] at h
      have hl := row_len h1
      cases h2 : mustD P s_rp i1 with
      | bad k a => rw [bind_bad h2] at h; cases h
      | ok u i2 =>
       rw [bind_ok h2] at h
       cases h3 : kindD P 3 i2 with
       | bad k a => rw [bind_bad h3] at h; cases h
       | ok s i3 => rw [bind_ok h3] at h; cases h; exact hl
   · cases h2 : kindD P 3 i with
     | bad k a => rw [bind_bad h2] at h; cases h
     | ok s i2 => rw [bind_ok h2] at h; cases h; show 0 ≤ _; omega
theorem pdbind_any (E : Env) (g : Nat) (PA : PAll E g) (w : World) (i : Nat) (h : Rd E w i (60 - g)) : Calls Tryz.prog 162 #[pr E] w (PPost E (60 - g) w ((dbindB E.P (recS E.P g)) i) (NdO w)) := by
 refine Bp.go (m := headB E.P 39 (E.P.A i) >>= fun n => mustD E.P s_eq >>= fun _ => rowD E.P (conB E.P (recS E.P g)) s_bar >>= fun l => (pure (.mk n.k n.n n.s n.q (n.args ++ l)) : M Ty)) h PA ?_
 intro d T W R hW B Q hlr hN
 have HHEAD := at_p R.hd (fun w j h => phead_any E g PA w j 39 (E.P.A i) h)
 have HROW := krow 123 (item_at R.hd (con_item E g PA)) s_bar (by intro x9 w9; rfl)
 clear h PA
 unfold pr at HHEAD ⊢
 go_enter Tryz.func162, Tryz.ntmps162
 obtain ⟨R9, B9, p9, hq⟩ := Pn9.ex Tryz.f162 E d w T (NdO w)
 refine wp_mono (Q := PQ R9 B9) ?_ hq
 clear hq
 go_upto_region 1 with fail
 clear hW
 go_upto_region 2 with (first | (go_at_call 121; refine B.pno Q HHEAD p9.bad ?_; clear B Q; intro u3 n aon capn j4 hx B Q; have LNn := lh (head_len hx); clear hx) | (go_at_call 35; refine B.pnow ?_; clear B; intro u1 B; have f2 := tk_fields E.P i))
 clear f2
 generalize hb : u3.heap.size = b6
 generalize h : u3.alloc _ = V5
 replace B := B.box h hb
 clear h hb
 go_upto_region 3 with (go_at_call 40; refine B.pun Q (kmust E d s_eq) p9.bad ?_; clear B Q; intro u7 _ _ j8 B Q)
 have c9 := B.S.cs B.F.rb
 replace B := B.drew
 go_region_law (first | (go_simp; (go_at_call 76; refine B.prw Q HROW p9.bad ?_; clear B Q; intro u10 l aol capl j11 hx B Q; have LNl := lh (row_len hx); clear hx; have c12 := B.mv1.S.cs B.F.rb)) | (refine B.mv2.appO (by rfl) _ _ (by rfl) (by rfl) (by rfl) (by have h1 := LNn.out; have h2 := LNl.out; omega) ?_; clear B; intro aoL capL L u13 ELL B; have c14 := B.mv1.S.cs B.F.rb; have c15 := B.cp))
 all_goals
  generalize h : u13.setCell _ _ = X16
  replace B := B.mv1.s4 h
  clear h
  have c17 := B.S.cs B.F.rb; have c18 := B.cp
  go_wp2_with fail
  exact Bp.fino (.mk n.k n.n n.s n.q L) B.mv1 p9 (by rw [ELL.out]; exact Q.pr) rfl rfl
theorem dbind_item (E : Env) (g : Nat) (PA : PAll E g) : ItemP E (60 - g) 162 (dbindB E.P (recS E.P g)) := ⟨fun w i h => (pdbind_any E g PA w i h).mono fun _ _ hp => hp.mono fun _ _ h => h.q, fun i x j _ e => (st_dbind E.P _ (st_rec E.P g).2).mono i x j e⟩
theorem pdata_any (E : Env) (g : Nat) (PA : PAll E g) (w : World) (i : Nat) (aa : Nat) (h : Rd E w i (60 - g)) : Calls Tryz.prog 122 #[pr E, .int .i64 (aa : Int)] w (PPost E (60 - g) w ((dataB E.P (recS E.P g) aa) i) (NdO w)) := by
 refine Bp.go (m := rowD E.P (dbindB E.P (recS E.P g)) w_and >>= fun l => (pure (.mk 38 aa ⟨#[]⟩ 0 l) : M Ty)) h PA ?_
 intro d T W R hW B Q hlr hN
 have HROW := krow 162 (item_at R.hd (dbind_item E g PA)) w_and (by intro x9 w9; rfl)
 clear h PA
 unfold pr
 go_enter Tryz.func122, Tryz.ntmps122
 obtain ⟨R9, B9, p9, hq⟩ := Pn9.ex Tryz.f122 E d w T (NdO w)
 refine wp_mono (Q := PQ R9 B9) ?_ hq
 clear hq
 go_upto_region 1 with fail
 clear hW
 go_wp2_with (first | (go_at_call 28; refine B.pnode ?_; clear B; intro u3 B; have c4 := B.cp) | (go_at_call 76; refine B.prw Q HROW p9.bad ?_; clear B Q; intro u1 l aol capl j2 _ B Q))
 exact Bp.fino (.mk 38 aa ⟨#[]⟩ 0 l) B p9 Q.pr rfl rfl
theorem proundPat_any (E : Env) (g : Nat) (PA : PAll E g) (w : World) (i : Nat) (aa : Nat) (h : Rd E w i (60 - g)) : Calls Tryz.prog 77 #[pr E, .int .i64 (aa : Int)] w (PPost E (60 - g) w ((roundPatB E.P (recS E.P g) aa) i) (NdQ w)) := by
 refine Bp.go (m := fun q => if isD E.P s_rp q = true then (pure (.mk 25 aa ⟨#[]⟩ 0 []) : M Ty) (q + 1) else (fun q => if (E.P.K q = 3 ∧ E.P.K (q + 1) = 6 ∧ E.P.T (q + 1) = w_as) then (readS E.P g .pat >>= fun p => mustD E.P s_rp >>= fun _ => (pure (.mk 28 aa (E.P.T q) 0 [p]) : M Ty)) (q + 2) else (readS E.P g .pat >>= fun p => eatD E.P s_com >>= fun c => if c = true then (rowD E.P (readS E.P g .pat) s_com >>= fun l => mustD E.P s_rp >>= fun _ => (pure (.mk 25 aa ⟨#[]⟩ 0 (p :: l)) : M Ty)) else (eatD E.P s_col >>= fun h => if h = true then (readS E.P g .typ >>= fun t => mustD E.P s_rp >>= fun _ => (pure (.mk 29 aa ⟨#[]⟩ 0 [p, t]) : M Ty)) else (mustD E.P s_rp >>= fun _ => (pure p : M Ty)))) q : M Ty) q) h PA ?_
 intro d T W R hW B Q hlr hN
 have HLE := lh h.le
 have HROW := krow 64 R.ipat.out s_com (by intro x9 w9; rfl)
 clear h PA
 unfold pr
 go_enter Tryz.func77, Tryz.ntmps77
 obtain ⟨R9, B9, p9, hq⟩ := Pn9.ex Tryz.f77 E d w T (NdQ w)
 refine wp_mono (Q := PQ R9 B9) ?_ hq
 clear hq
 go_upto_region 1 with fail
 clear hW
 obtain ⟨b1, P⟩ := B.peat (sg := s_rp) Q
 clear B Q
 cases b1 with
 | true =>
  go_wp2_with (first | (go_at_call 28; refine B.pnode ?_; clear B; intro u3 B; have c4 := B.cp) | (go_at_call 38; refine P.t ?_; clear P; intro u2 B Q _))
  exact Bp.fin (.mk 25 aa ⟨#[]⟩ 0 []) B.nilk p9 Q.pr rfl rfl
 | false =>
  go_upto_region 4 with (first | (go_at_call 35; refine B.pnow ?_; clear B; intro u6 B; have f7 := tk_fields E.P i) | (go_at_call 38; refine P.f ?_; clear P; intro u5 B Q _))
  clear f7
  generalize hb : u6.heap.size = b9
  generalize h : u6.alloc _ = V8
  replace B := B.boxt h hb
  clear h hb
  have c10 := B.S.ct B.F.rb; have c11 := B.F.R.cells
  obtain ⟨q, HQ⟩ : ∃ q, Hid (q = decide (E.P.K i = 3 ∧ E.P.K (i + 1) = 6 ∧ E.P.T (i + 1) = w_as)) := ⟨_, lh rfl⟩
  go_cut [59] from 14 to 59 (fun v wx => v = .bool q ∧ Bp E w d wx i [.tv b9 (.int .i64 (E.P.K i)) (.int .i64 (E.P.A i : Int)) (.string (E.P.T i)) (.int .i64 (E.P.N i : Int))])
  case first =>
   have HR1 := lh B.F.R
   obtain ⟨n, hn⟩ : ∃ n, n = E.P.toks.length := ⟨_, rfl⟩
   have HNN := lh hn
   rw [← hn] at c11
   have hi9 : i ≤ 100000 := Nat.le_trans HLE.out hN
   clear hn hN
   by_cases h3 : E.P.K i = 3
   · have e3 : (E.P.K i == 3) = true := by simp [h3]
     have H3 := lh h3
     clear h3
     by_cases hi : i + 1 < n
     · have hd : ((i : Int) + 1 < (n : Int)) := by omega
       obtain ⟨b, p, hne, hbl, hix, x0, x1, x2, x3⟩ := HR1.out.tok (k := i + 1) (by rw [← HNN.out]; exact hi)
       rw [← HNN.out] at hix
       have hix1 : ∀ w' : World, (Instr.indexAt 36 (.slice E.lo n E.cap) (.int .i64 ((i : Int) + 1))).run Tryz.prog w' = .ok (.pointer (some ⟨b, p, none⟩)) w' := hix
       clear hix hi hne hbl
       by_cases h6 : E.P.K (i + 1) = 6
       · have e6 : (E.P.K (i + 1) == 6) = true := by simp [h6]
         have H6 := lh h6
         clear h6
         have es : ((E.P.T (i + 1)).toList == w_as.toList) = decide (E.P.T (i + 1) = w_as) := str_eqB _ _
         cases hs : decide (E.P.T (i + 1) = w_as) with
         | true =>
          rw [hs] at es
          have hs9 : Hid (E.P.T (i + 1) = w_as) := lh (of_decide_eq_true hs)
          have hsl : (E.P.T (i + 1)).toList = w_as.toList := ba_eq.2 hs9.out
          clear hs es
          go_quiet (fail)
          go_wp2_with fail
          go_meet
          exact ⟨by rw [HQ.out]; simp [H3.out, H6.out, hs9.out], B.be (below_drewN (Below.refl _ _) _)⟩
         | false =>
          rw [hs] at es
          have hs9 : Hid (¬ E.P.T (i + 1) = w_as) := lh (of_decide_eq_false hs)
          clear hs
          go_quiet (fail)
          go_wp2_with fail
          go_meet
          exact ⟨by rw [HQ.out]; rw [decide_eq_false (fun h => hs9.out h.2.2)]; first | rfl | (simpa using es), B.be (below_drewN (Below.refl _ _) _)⟩
       · have e6 : (E.P.K (i + 1) == 6) = false := by simp [h6]
         have H6 := lh h6
         clear h6
         go_quiet (fail)
         go_wp2_with fail
         go_meet
         exact ⟨by rw [HQ.out]; simp [H6.out], B.be (below_drewN (Below.refl _ _) _)⟩
     · have hd : decide ((i : Int) + 1 < (n : Int)) = false := by simp; omega
       have hd2 : ¬ ((i : Int) + 1 < (n : Int)) := by omega
       have hk : Hid (E.P.K (i + 1) = -1) := lh (Src.out' (by rw [← HNN.out]; exact hi)).1
       clear hi
       go_quiet (fail)
       go_wp2_with fail
       go_meet
       exact ⟨by rw [HQ.out]; simp [hk.out], B.be (below_drewN (Below.refl _ _) _)⟩
   · have e3 : (E.P.K i == 3) = false := by simp [h3]
     have H3 := lh h3
     clear h3
     go_quiet (fail)
     go_wp2_with fail
     go_meet
     exact ⟨by rw [HQ.out]; simp [H3.out], B.be (below_drewN (Below.refl _ _) _)⟩
  case rest =>
   replace B := hcut.2
   obtain ⟨rfl, -⟩ := hcut
   clear c10 c11
   cases q with
   | true =>
    have HG := lh (of_decide_eq_true HQ.out.symm)
    replace Q : Qp T (readS E.P g .pat >>= fun p => mustD E.P s_rp >>= fun _ => (pure (.mk 28 aa (E.P.T i) 0 [p]) : M Ty)) (i + 2) := ⟨Q.eq.trans (if_pos HG.out)⟩
    have hle : i + 2 ≤ E.P.toks.length := by
     by_cases hi : i + 1 < E.P.toks.length
     · omega
     · have h := HG.out.2.1; rw [(Src.out' hi).1] at h; exact absurd h (by decide)
    clear HG
    have c12 := B.S.ct B.F.rb; have c13 := B.F.R.cells
    go_upto_region 6 with fail
    clear c12 c13
    generalize h : wc.setCell _ _ = X14
    replace B := B.seti (j' := i + 2) hle h rfl
    clear h
    go_upto_region 7 with (first | (go_at_call 28; generalize h : u15.alloc _ = V17; replace B := B.mk1 rfl h; clear h; refine B.pnode ?_; clear B; intro u18 B; have c19 := B.mv1.S.ct B.F.rb) | (go_at_call 64; refine B.pnd Q R.pat p9.bad ?_; clear B Q; intro u15 p aop capp j16 _ B Q))
    clear c19
    generalize hb : u18.heap.size = b21
    generalize h : u18.alloc _ = V20
    replace B := B.box h hb
    clear h hb
    have c22 := B.mv2.S.ct B.F.rb; have c23 := B.S.cs B.F.rb
    go_upto_region 8 with fail
    clear c22 c23
    generalize h : V20.setCell _ _ = X24
    replace B := B.s2 h
    clear h
    go_upto_region 9 with (go_at_call 40; refine B.pun Q (kmust E d s_rp) p9.bad ?_; clear B Q; intro u25 _ _ j26 B Q)
    have c27 := B.S.cs B.F.rb; have c28 := B.cp
    go_wp2_with fail
    exact Bp.fin (.mk 28 aa (E.P.T i) 0 [p]) B.mv1.ko p9 Q.pr rfl rfl
   | false =>
    replace Q : Qp T (readS E.P g .pat >>= fun p => eatD E.P s_com >>= fun c => if c = true then (rowD E.P (readS E.P g .pat) s_com >>= fun l => mustD E.P s_rp >>= fun _ => (pure (.mk 25 aa ⟨#[]⟩ 0 (p :: l)) : M Ty)) else (eatD E.P s_col >>= fun h => if h = true then (readS E.P g .typ >>= fun t => mustD E.P s_rp >>= fun _ => (pure (.mk 29 aa ⟨#[]⟩ 0 [p, t]) : M Ty)) else (mustD E.P s_rp >>= fun _ => (pure p : M Ty)))) i := ⟨Q.eq.trans (if_neg (of_decide_eq_false HQ.out.symm))⟩
    replace B := B.dr
    go_upto_region 11 with (go_at_call 64; refine B.pnd Q R.pat p9.bad ?_; clear B Q; intro u29 p aop capp j30 _ B Q)
    generalize hb : u29.heap.size = b32
    generalize h : u29.alloc _ = V31
    replace B := B.box h hb
    clear h hb
    obtain ⟨b33, P⟩ := B.peatd (sg := s_com) Q
    clear B Q
    cases b33 with
    | true =>
     go_upto_region 12 with (go_at_call 38; refine P.t ?_; clear P; intro u34 B Q _)
     have c35 := B.S.cs B.F.rb
     go_region_law (first | (have hq9 := LNl; clear hq9; generalize h : uR.alloc _ = V39; replace B := B.mv2.mk1 rfl h; clear h; refine B.mv1.mv1.appO (by rfl) _ _ (by rfl) (by rfl) (by rfl) (by have h1 := LNl.out; show 1 + _ ≤ _; omega) ?_; clear B; intro aoL capL L uA ELL B) | (have hq9 := LNl; clear hq9; refine B.mv1.appO (by rfl) _ _ (by rfl) (by rfl) (by rfl) (by have h1 := LNl.out; show 1 + _ ≤ _; omega) ?_; clear B; intro aoL capL L uA ELL B) | (go_simp; first | (go_at_call 28; refine B.pnode ?_; clear B; intro u40 B; have c41 := B.mv1.S.cs B.F.rb) | (go_at_call 76; generalize h : u34.alloc _ = V36; replace B := B.mv1.mk1 rfl h; clear h; replace B := B.drew; refine B.prw Q HROW p9.bad ?_; clear B Q; intro uR l aol capl jR hx B Q; have LNl := lh (row_len hx); clear hx; have c37 := B.mv2.S.cs B.F.rb) | (go_at_call 76; replace B := B.drew; refine B.prw Q HROW p9.bad ?_; clear B Q; intro uR l aol capl jR hx B Q; have LNl := lh (row_len hx); clear hx; have c38 := B.mv1.S.cs B.F.rb)))
     all_goals
      generalize h : ((((u40.setCell _ _).setCell _ _).setCell _ _).setCell _ _).setCell _ _ = X42
      replace B := B.mv1.sn h
      clear h
      go_upto_region 16 with (go_at_call 40; refine B.pun Q (kmust E d s_rp) p9.bad ?_; clear B Q; intro u43 _ _ j44 B Q)
      have c45 := B.S.cs B.F.rb; have c46 := B.cp
      go_wp2_with fail
      exact Bp.fin (.mk 25 aa ⟨#[]⟩ 0 L) B.mv1.ko p9 (by rw [ELL.out]; exact Q.pr) rfl rfl
    | false =>
     go_upto_region 13 with (go_at_call 38; refine P.f ?_; clear P; intro u47 B Q _)
     obtain ⟨b48, P⟩ := B.peatd (sg := s_col) Q
     clear B Q
     cases b48 with
     | true =>
      go_upto_region 14 with (go_at_call 38; refine P.t ?_; clear P; intro u49 B Q _)
      have c50 := B.S.cs B.F.rb
      replace B := B.drew
      go_region_law (go_simp; first | (go_at_call 28; generalize h : u51.alloc _ = V54; replace B := B.mv2.mk2 rfl h; clear h; refine B.pnode ?_; clear B; intro u55 B; have c56 := B.mv1.S.cs B.F.rb) | (go_at_call 65; refine B.pnd Q R.typ p9.bad ?_; clear B Q; intro u51 t aot capt j52 _ B Q; have c53 := B.mv1.S.cs B.F.rb))
      all_goals
       generalize h : ((((u55.setCell _ _).setCell _ _).setCell _ _).setCell _ _).setCell _ _ = X57
       replace B := B.mv1.sn h
       clear h
       go_upto_region 16 with (go_at_call 40; refine B.pun Q (kmust E d s_rp) p9.bad ?_; clear B Q; intro u58 _ _ j59 B Q)
       have c60 := B.S.cs B.F.rb; have c61 := B.cp
       go_wp2_with fail
       exact Bp.fin (.mk 29 aa ⟨#[]⟩ 0 [p, t]) B.mv1.ko p9 Q.pr rfl rfl
     | false =>
      go_upto_region 16 with (first | (go_at_call 40; refine B.pun Q (kmust E d s_rp) p9.bad ?_; clear B Q; intro u63 _ _ j64 B Q) | (go_at_call 38; refine P.f ?_; clear P; intro u62 B Q _))
      have c65 := B.S.cs B.F.rb; have c66 := B.cp
      go_wp2_with fail
      exact Bp.fin (p) B.mv1 p9 Q.pr rfl rfl
theorem isD_w {P : Src} {i : Nat} (hk : P.K i = 6 ∨ P.K i = 7) (x : ByteArray) : isD P x i = decide (P.T i = x) := by
 unfold isD
 rw [decide_eq_true hk, Bool.true_and]
theorem isD_k {P : Src} {s : ByteArray} {i : Nat} {k : Int} (h : P.K i = k) (h6 : k ≠ 6) (h7 : k ≠ 7) : ¬ isD P s i = true := by
 unfold isD
 rw [h]
 simp [h6, h7]
theorem num_le {P : Src} (h : SrcOk P) (j : Nat) : P.N j ≤ 1000000000 := by
 by_cases hj : j < P.toks.length
 · rw [(Src.at' hj).2.2.2]; exact (h.tok _ (List.getElem_mem hj)).2.2.1
 · rw [(Src.out' hj).2.2.2]; omega
theorem apat_1 {P : Src} {R : Rec} {i : Nat} (h : P.K i = 1) : apatB P R i = .ok (.mk 22 (P.A i) ⟨#[]⟩ (P.N i) []) (i + 1) := by
 unfold apatB
 rw [if_neg (isD_k h (by decide) (by decide)), if_neg (by rw [h]; decide), if_pos h]
theorem apat_2 {P : Src} {R : Rec} {i : Nat} (h : P.K i = 2) : apatB P R i = .ok (.mk 23 (P.A i) (P.T i) 0 []) (i + 1) := by
 unfold apatB
 rw [if_neg (isD_k h (by decide) (by decide)), if_neg (by rw [h]; decide), if_neg (by rw [h]; decide), if_neg (isD_k h (by decide) (by decide)), if_pos h]
theorem apat_3 {P : Src} {R : Rec} {i : Nat} (h : P.K i = 3) : apatB P R i = .ok (.mk 21 (P.A i) (P.T i) 0 []) (i + 1) := by
 unfold apatB
 rw [if_neg (isD_k h (by decide) (by decide)), if_pos h]
theorem apat_4 {P : Src} {R : Rec} {i : Nat} (h : P.K i = 4) : apatB P R i = (pathD P 4 >>= fun p => (ret (.mk 24 (P.A i) p.1 0 []) : M Ty)) i := by
 unfold apatB
 rw [if_neg (isD_k h (by decide) (by decide)), if_neg (by rw [h]; decide), if_neg (by rw [h]; decide), if_neg (isD_k h (by decide) (by decide)), if_neg (by rw [h]; decide), if_pos h]
theorem apat_us {P : Src} {R : Rec} {i : Nat} (hk : P.K i = 6 ∨ P.K i = 7) (h : P.T i = s_us) : apatB P R i = .ok (.mk 20 (P.A i) ⟨#[]⟩ 0 []) (i + 1) := by
 unfold apatB
 rw [if_pos (by rw [isD_w hk, h]; decide)]
theorem apat_ti {P : Src} {R : Rec} {i : Nat} (hk : P.K i = 6 ∨ P.K i = 7) (h : P.T i = s_ti) : apatB P R i = if P.K (i + 1) = 1 then .ok (.mk 22 (P.A i) ⟨#[]⟩ (-(P.N (i + 1) : Int)) []) (i + 2) else failD P 4 (i + 1) := by
 unfold apatB
 rw [if_neg (by rw [isD_w hk, h]; decide), if_neg (by omega), if_neg (by omega), if_pos (by rw [isD_w hk, h]; decide)]
theorem apat_w {P : Src} {R : Rec} {i : Nat} (hk : P.K i = 6 ∨ P.K i = 7) (h : P.T i = w_true ∨ P.T i = w_false) : apatB P R i = .ok (.mk 24 (P.A i) (P.T i) 0 []) (i + 1) := by
 unfold apatB
 have h9 : isD P w_true i = true ∨ isD P w_false i = true := by rw [isD_w hk, isD_w hk]; rcases h with h | h <;> rw [h] <;> decide
 rw [if_neg (by rw [isD_w hk]; rcases h with h | h <;> rw [h] <;> decide), if_neg (by omega), if_neg (by omega), if_neg (by rw [isD_w hk]; rcases h with h | h <;> rw [h] <;> decide), if_neg (by omega), if_neg (by omega), if_pos h9]
theorem apat_lb {P : Src} {R : Rec} {i : Nat} (hk : P.K i = 6 ∨ P.K i = 7) (h : P.T i = s_lb) : apatB P R i = (eatD P s_rb >>= fun e => if e = true then (pure (.mk 26 (P.A i) ⟨#[]⟩ 0 []) : M Ty) else rowD P (R.go .pat) s_com >>= fun l => mustD P s_rb >>= fun _ => (pure (.mk 26 (P.A i) ⟨#[]⟩ 0 l) : M Ty)) (i + 1) := by
 unfold apatB
 rw [if_neg (by rw [isD_w hk, h]; decide), if_neg (by omega), if_neg (by omega), if_neg (by rw [isD_w hk, h]; decide), if_neg (by omega), if_neg (by omega), if_neg (by rw [isD_w hk, isD_w hk, h]; decide), if_pos (by rw [isD_w hk, h]; decide)]
theorem apat_lp {P : Src} {R : Rec} {i : Nat} (hk : P.K i = 6 ∨ P.K i = 7) (h : P.T i = s_lp) : apatB P R i = roundPatB P R (P.A i) (i + 1) := by
 unfold apatB
 rw [if_neg (by rw [isD_w hk, h]; decide), if_neg (by omega), if_neg (by omega), if_neg (by rw [isD_w hk, h]; decide), if_neg (by omega), if_neg (by omega), if_neg (by rw [isD_w hk, isD_w hk, h]; decide), if_neg (by rw [isD_w hk, h]; decide), if_pos (by rw [isD_w hk, h]; decide)]
theorem apat_no {P : Src} {R : Rec} {i : Nat} (h1 : P.K i ≠ 1) (h2 : P.K i ≠ 2) (h3 : P.K i ≠ 3) (h4 : P.K i ≠ 4) (h : oneD P [w_true, w_false, s_lp, s_lb, s_ti, s_us] i = false) : apatB P R i = failD P 4 i := by
 have hn : ∀ x ∈ [w_true, w_false, s_lp, s_lb, s_ti, s_us], ¬ isD P x i = true := fun x hx h9 => by
  unfold isD at h9
  unfold oneD at h
  rw [Bool.and_eq_true] at h9
  rw [h9.1, Bool.true_and] at h
  have h8 := List.any_eq_false.1 h x hx
  exact h8 h9.2
 unfold apatB
 rw [if_neg (hn _ (by simp)), if_neg h3, if_neg h1, if_neg (hn _ (by simp)), if_neg h2, if_neg h4, if_neg (fun h => h.elim (hn _ (by simp)) (hn _ (by simp))), if_neg (hn _ (by simp)), if_neg (hn _ (by simp))]
theorem Rd.num {E : Env} {w : World} {i d : Nat} (h : Rd E w i d) (j : Nat) : E.P.N j ≤ 1000000000 := num_le h.ok j
theorem isD_kind {P : Src} {s : ByteArray} {i : Nat} {k : Int} (h : P.K i = k) (h6 : k ≠ 6) (h7 : k ≠ 7) : isD P s i = false := by
 unfold isD
 rw [h]
 simp [h6, h7]
theorem oneD_no {P : Src} {l : List ByteArray} {i : Nat} (h : ∀ x ∈ l, isD P x i = false) : oneD P l i = false := by
 cases hb : oneD P l i with
 | false => rfl
 | true =>
  unfold oneD at hb
  rw [Bool.and_eq_true, List.any_eq_true] at hb
  obtain ⟨h1, x, hx, h2⟩ := hb
  have h3 := h x hx
  unfold isD at h3
  rw [h1, h2] at h3
  cases h3
theorem papat_any : CpN 39 fun E g => apatB E.P (recS E.P g) := by
 intro E g PA w i h
 refine Bp.go (m := apatB E.P (recS E.P g)) h PA ?_
 intro d T W R hW B Q hlr hN
 have HH := lh h
 have HROW := krow 64 R.ipat.out s_com (by intro x9 w9; rfl)
 have HRP := at_p R.hd (fun w j h => proundPat_any E g PA w j (E.P.A i) h)
 clear h PA
 unfold pr at HRP ⊢
 go_enter Tryz.func39, Tryz.ntmps39
 obtain ⟨R9, B9, p9, hq⟩ := Pn9.ex Tryz.f39 E d w T (NdQ w)
 refine wp_mono (Q := PQ R9 B9) ?_ hq
 clear hq
 go_upto_region 1 with fail
 clear hW
 go_upto_region 2 with (go_at_call 35; refine B.pnow ?_; clear B; intro u1 B; have f2 := tk_fields E.P i)
 clear f2
 generalize hb : u1.heap.size = b4
 generalize h : u1.alloc _ = V3
 replace B := B.boxt h hb
 clear h hb
 have c5 := B.S.ct B.F.rb
 go_upto_region 4 with (go_at_call 28; refine B.pnode ?_; clear B; intro u6 B; have c7 := B.S.ct B.F.rb)
 clear c5 c7
 generalize hb : u6.heap.size = b9
 generalize h : u6.alloc _ = V8
 replace B := B.box h hb
 clear h hb
 cases hs10 : isD E.P s_us i with
 | true =>
  have HS11 := lh hs10
  clear hs10
  replace Q : Qp T (pure (.mk 20 (E.P.A i) ⟨#[]⟩ 0 []) : M Ty) (i + 1) := ⟨Q.eq.trans (apat_us (isD_at HS11.out).1 (isD_at HS11.out).2)⟩
  go_wp2_with (go_at_call 38; refine B.eat1 (sg := s_us) HS11.out ?_; clear B; intro u12 B; have c13 := B.S.cs B.F.rb; have c14 := B.cp)
  exact Bp.fin (.mk 20 (E.P.A i) ⟨#[]⟩ 0 []) B.nilk p9 Q.pr rfl rfl
 | false =>
  have HS15 := lh hs10
  clear hs10
  go_upto_region 5 with (go_at_call 38; refine B.eat0 (sg := s_us) HS15.out ?_; clear B; intro u16 B; have c17 := B.mv1.S.ct B.F.rb)
  by_cases hk18 : E.P.K i = 3
  · have ek19 : (E.P.K i == 3) = true := by simp [hk18]
    have HK20 := lh hk18
    clear hk18
    have hle : i + 1 ≤ E.P.toks.length := Nat.succ_le_of_lt (K_lt (by rw [HK20.out]; decide))
    replace Q : Qp T (pure (.mk 21 (E.P.A i) (E.P.T i) 0 []) : M Ty) (i + 1) := ⟨Q.eq.trans (apat_3 HK20.out)⟩
    have c21 := B.S.cs B.F.rb
    go_upto_region 6 with fail
    have c22 := B.S.cs B.F.rb; have c23 := B.mv1.S.ct B.F.rb
    go_region
    clear c17 c21 c22 c23
    generalize h : u16.setCell _ _ = X24
    replace B := B.s0 h
    clear h
    generalize h : X24.setCell _ _ = X25
    replace B := B.s2 h
    clear h
    replace B := B.drew
    generalize X25.drew = V26 at B ⊢
    have c27 := B.S.cs B.F.rb; have c28 := B.F.R.cells
    go_upto_region 31 with fail
    clear c27 c28
    generalize h : V26.setCell _ _ = X29
    replace B := B.seti (j' := i + 1) hle h rfl
    clear h
    have c30 := B.S.cs B.F.rb; have c31 := B.cp
    go_wp2_with fail
    exact Bp.fin (.mk 21 (E.P.A i) (E.P.T i) 0 []) B.nilk p9 Q.pr rfl rfl
  · have ek32 : (E.P.K i == 3) = false := by simp [hk18]
    have HK33 := lh hk18
    clear hk18
    have c34 := B.mv1.S.ct B.F.rb
    go_upto_region 8 with fail
    by_cases hk35 : E.P.K i = 1
    · have ek36 : (E.P.K i == 1) = true := by simp [hk35]
      have HK37 := lh hk35
      clear hk35
      replace Q : Qp T (kindD E.P 1 >>= fun _ => (pure (.mk 22 (E.P.A i) ⟨#[]⟩ (E.P.N i) []) : M Ty)) i := ⟨by rw [Q.eq, kind_if, if_pos HK37.out]; exact apat_1 HK37.out⟩
      have hN9 := HH.out.num i
      go_upto_region 11 with (go_at_call 38; refine B.eat0 (sg := s_ti) (isD_kind HK37.out (by decide) (by decide)) ?_; clear B; intro u38 B)
      go_upto_region 12 with (go_at_call 35; refine B.pnow ?_; clear B; intro u39 B; have f40 := tk_fields E.P i; have c41 := B.S.cs B.F.rb)
      clear c17 c34 f40 c41
      generalize h : u39.setCell _ _ = X42
      replace B := B.s0 h
      clear h
      generalize h : X42.setCell _ _ = X43
      replace B := B.s3 h
      clear h
      go_upto_region 31 with (go_at_call 74; refine B.pstr Q (kkind1 E d) p9.bad ?_; clear B Q; intro u44 sn j45 _ B Q; have c46 := B.S.cs B.F.rb)
      clear c46
      have c47 := B.S.cs B.F.rb; have c48 := B.cp
      go_wp2_with fail
      exact Bp.fin (.mk 22 (E.P.A i) ⟨#[]⟩ (E.P.N i) []) B.nilk p9 Q.pr rfl rfl
    · have ek49 : (E.P.K i == 1) = false := by simp [hk35]
      have HK50 := lh hk35
      clear hk35
      cases hs51 : isD E.P s_ti i with
      | true =>
       have HS52 := lh hs51
       clear hs51
       have HTN : Hid (isD E.P s_ti i = true) := HS52
       go_upto_region 10 with (go_at_call 73; refine B.is1 HS52.out ?_; clear B; intro u53 B)
       replace Q : Qp T (kindD E.P 1 >>= fun _ => (pure (.mk 22 (E.P.A i) ⟨#[]⟩ (-(E.P.N (i + 1) : Int)) []) : M Ty)) (i + 1) := ⟨by rw [Q.eq, kind_if]; exact apat_ti (isD_at HS52.out).1 (isD_at HS52.out).2⟩
       have hN9 := HH.out.num (i + 1)
       go_upto_region 11 with (go_at_call 38; refine B.eat1 (sg := s_ti) HS52.out ?_; clear B; intro u54 B)
       go_upto_region 12 with (go_at_call 35; refine B.pnow ?_; clear B; intro u55 B; have f56 := tk_fields E.P (i + 1); have c57 := B.S.cs B.F.rb)
       clear c17 c34 f56 c57
       generalize h : u55.setCell _ _ = X58
       replace B := B.s0 h
       clear h
       generalize h : X58.setCell _ _ = X59
       replace B := B.s3 h
       clear h
       go_upto_region 14 with (go_at_call 74; refine B.pstr Q (kkind1 E d) p9.bad ?_; clear B Q; intro u60 sn j61 _ B Q; have c62 := B.S.cs B.F.rb)
       clear c62
       have c63 := B.S.cs B.F.rb
       go_upto_region 31 with fail
       clear c63
       generalize h : u60.setCell _ _ = X64
       replace B := B.s3 h
       clear h
       have c65 := B.S.cs B.F.rb; have c66 := B.cp
       go_wp2_with fail
       exact Bp.fin (.mk 22 (E.P.A i) ⟨#[]⟩ (-(E.P.N (i + 1) : Int)) []) B.nilk p9 Q.pr rfl rfl
      | false =>
       have HS67 := lh hs51
       clear hs51
       go_upto_region 15 with (go_at_call 73; refine B.is0 HS67.out ?_; clear B; intro u68 B)
       by_cases hk69 : E.P.K i = 2
       · have ek70 : (E.P.K i == 2) = true := by simp [hk69]
         have HK71 := lh hk69
         clear hk69
         have hle : i + 1 ≤ E.P.toks.length := Nat.succ_le_of_lt (K_lt (by rw [HK71.out]; decide))
         replace Q : Qp T (pure (.mk 23 (E.P.A i) (E.P.T i) 0 []) : M Ty) (i + 1) := ⟨Q.eq.trans (apat_2 HK71.out)⟩
         have c72 := B.mv1.S.ct B.F.rb
         go_upto_region 16 with fail
         clear c17 c34 c72
         have c73 := B.S.cs B.F.rb; have c74 := B.mv1.S.ct B.F.rb
         go_upto_region 17 with fail
         have c75 := B.S.cs B.F.rb; have c76 := B.mv1.S.ct B.F.rb
         go_region
         clear c73 c74 c75 c76
         generalize h : u68.setCell _ _ = X77
         replace B := B.s0 h
         clear h
         generalize h : X77.setCell _ _ = X78
         replace B := B.s2 h
         clear h
         replace B := B.drew
         generalize X78.drew = V79 at B ⊢
         have c80 := B.S.cs B.F.rb; have c81 := B.F.R.cells
         go_upto_region 31 with fail
         clear c80 c81
         generalize h : V79.setCell _ _ = X82
         replace B := B.seti (j' := i + 1) hle h rfl
         clear h
         have c83 := B.S.cs B.F.rb; have c84 := B.cp
         go_wp2_with fail
         exact Bp.fin (.mk 23 (E.P.A i) (E.P.T i) 0 []) B.nilk p9 Q.pr rfl rfl
       · have ek85 : (E.P.K i == 2) = false := by simp [hk69]
         have HK86 := lh hk69
         clear hk69
         have c87 := B.mv1.S.ct B.F.rb
         go_upto_region 18 with fail
         by_cases hk88 : E.P.K i = 4
         · have ek89 : (E.P.K i == 4) = true := by simp [hk88]
           have HK90 := lh hk88
           clear hk88
           replace Q : Qp T (pathD E.P 4 >>= fun p => (pure (.mk 24 (E.P.A i) p.1 0 []) : M Ty)) i := ⟨Q.eq.trans (apat_4 HK90.out)⟩
           have c91 := B.S.cs B.F.rb
           go_upto_region 20 with fail
           clear c17 c34 c87 c91
           generalize h : u68.setCell _ _ = X92
           replace B := B.s0 h
           clear h
           go_upto_region 31 with (go_at_call 75; refine B.ppth Q (kpath4 E d) p9.bad ?_; clear B Q; intro u93 p j94 _ B Q; have c95 := B.S.cs B.F.rb)
           clear c95
           generalize h : u93.setCell _ _ = X96
           replace B := B.s2 h
           clear h
           have c97 := B.S.cs B.F.rb; have c98 := B.cp
           go_wp2_with fail
           exact Bp.fin (.mk 24 (E.P.A i) p.1 0 []) B.nilk p9 Q.pr rfl rfl
         · have ek99 : (E.P.K i == 4) = false := by simp [hk88]
           have HK100 := lh hk88
           clear hk88
           have c101 := B.mv1.S.ct B.F.rb
           go_upto_region 21 with fail
           clear c17 c34 c87 c101
           cases hs102 : isD E.P w_true i with
           | true =>
            have HS103 := lh hs102
            clear hs102
            replace Q : Qp T (pure (.mk 24 (E.P.A i) (E.P.T i) 0 []) : M Ty) (i + 1) := ⟨Q.eq.trans (apat_w (isD_at HS103.out).1 (.inl (isD_at HS103.out).2))⟩
            go_upto_region 23 with (go_at_call 38; refine B.eat1 (sg := w_true) HS103.out ?_; clear B; intro u104 B; have c105 := B.S.cs B.F.rb; have c106 := B.mv1.S.ct B.F.rb)
            go_region
            clear c105 c106
            generalize h : u104.setCell _ _ = X107
            replace B := B.s0 h
            clear h
            generalize h : X107.setCell _ _ = X108
            replace B := B.s2 h
            clear h
            replace B := B.drew
            generalize X108.drew = V109 at B ⊢
            have c110 := B.S.cs B.F.rb; have c111 := B.cp
            go_wp2_with fail
            exact Bp.fin (.mk 24 (E.P.A i) (E.P.T i) 0 []) B.nilk p9 Q.pr rfl rfl
           | false =>
            have HS112 := lh hs102
            clear hs102
            go_upto_region 22 with (go_at_call 38; refine B.eat0 (sg := w_true) HS112.out ?_; clear B; intro u113 B)
            cases hs114 : isD E.P w_false i with
            | true =>
             have HS115 := lh hs114
             clear hs114
             replace Q : Qp T (pure (.mk 24 (E.P.A i) (E.P.T i) 0 []) : M Ty) (i + 1) := ⟨Q.eq.trans (apat_w (isD_at HS115.out).1 (.inr (isD_at HS115.out).2))⟩
             go_upto_region 23 with (go_at_call 38; refine B.eat1 (sg := w_false) HS115.out ?_; clear B; intro u116 B; have c117 := B.S.cs B.F.rb; have c118 := B.mv1.S.ct B.F.rb)
             go_region
             clear c117 c118
             generalize h : u116.setCell _ _ = X119
             replace B := B.s0 h
             clear h
             generalize h : X119.setCell _ _ = X120
             replace B := B.s2 h
             clear h
             replace B := B.drew
             generalize X120.drew = V121 at B ⊢
             have c122 := B.S.cs B.F.rb; have c123 := B.cp
             go_wp2_with fail
             exact Bp.fin (.mk 24 (E.P.A i) (E.P.T i) 0 []) B.nilk p9 Q.pr rfl rfl
            | false =>
             have HS124 := lh hs114
             clear hs114
             go_upto_region 24 with (go_at_call 38; refine B.eat0 (sg := w_false) HS124.out ?_; clear B; intro u125 B)
             cases hs126 : isD E.P s_lb i with
             | true =>
              have HS127 := lh hs126
              clear hs126
              replace Q : Qp T (eatD E.P s_rb >>= fun e => if e = true then (pure (.mk 26 (E.P.A i) ⟨#[]⟩ 0 []) : M Ty) else (rowD E.P (readS E.P g .pat) s_com >>= fun l => mustD E.P s_rb >>= fun _ => (pure (.mk 26 (E.P.A i) ⟨#[]⟩ 0 l) : M Ty))) (i + 1) := ⟨Q.eq.trans (apat_lb (isD_at HS127.out).1 (isD_at HS127.out).2)⟩
              go_upto_region 26 with (go_at_call 38; refine B.eat1 (sg := s_lb) HS127.out ?_; clear B; intro u128 B; have c129 := B.S.cs B.F.rb)
              clear c129
              generalize h : u128.setCell _ _ = X130
              replace B := B.s0 h
              clear h
              obtain ⟨b131, P⟩ := B.peatd (sg := s_rb) Q
              clear B Q
              cases b131 with
              | true =>
               go_wp2_with (go_at_call 38; refine P.t ?_; clear P; intro u132 B Q _; have c133 := B.S.cs B.F.rb; have c134 := B.cp)
               exact Bp.fin (.mk 26 (E.P.A i) ⟨#[]⟩ 0 []) B.nilk p9 Q.pr rfl rfl
              | false =>
               go_upto_region 27 with (go_at_call 38; refine P.f ?_; clear P; intro u135 B Q _)
               go_upto_region 28 with (go_at_call 76; refine B.prw Q HROW p9.bad ?_; clear B Q; intro u136 l aol capl j137 _ B Q; have c138 := B.mv1.S.cs B.F.rb)
               clear c138
               generalize h : u136.setCell _ _ = X139
               replace B := B.mv1.s4 h
               clear h
               go_upto_region 31 with (go_at_call 40; refine B.pun Q (kmust E d s_rb) p9.bad ?_; clear B Q; intro u140 _ _ j141 B Q)
               have c142 := B.S.cs B.F.rb; have c143 := B.cp
               go_wp2_with fail
               exact Bp.fin (.mk 26 (E.P.A i) ⟨#[]⟩ 0 l) B.mv1.ko p9 Q.pr rfl rfl
             | false =>
              have HS144 := lh hs126
              clear hs126
              go_upto_region 29 with (go_at_call 38; refine B.eat0 (sg := s_lb) HS144.out ?_; clear B; intro u145 B)
              cases hs146 : isD E.P s_lp i with
              | true =>
               have HS147 := lh hs146
               clear hs146
               replace Q : Qp T (roundPatB E.P (recS E.P g) (E.P.A i)) (i + 1) := ⟨Q.eq.trans (apat_lp (isD_at HS147.out).1 (isD_at HS147.out).2)⟩
               go_upto_region 30 with (go_at_call 38; refine B.eat1 (sg := s_lp) HS147.out ?_; clear B; intro u148 B; have c149 := B.mv1.S.ct B.F.rb)
               go_wp2_with (go_at_call 77; refine B.pndt Q HRP p9.bad ?_; clear B Q; intro u150 p aop capp j151 B Q; have c152 := B.cp)
               exact Bp.fin (p) B p9 Q rfl rfl
              | false =>
               have HS153 := lh hs146
               clear hs146
               go_upto_region 3 with (go_at_call 38; refine B.eat0 (sg := s_lp) HS153.out ?_; clear B; intro u154 B)
               have HNO : Hid (apatB E.P (recS E.P g) i = failD E.P 4 i) := lh (apat_no HK50.out HK86.out HK33.out HK100.out (oneD_no (by simp [HS112.out, HS124.out, HS153.out, HS144.out, HS67.out, HS15.out])))
               go_wp2_with (go_at_call 36; exact B.fail (e := 4) Q HNO.out p9.bad)
end Go.Proofs.YthehjeeiodbkjaaGreatDoor
