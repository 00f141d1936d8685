/-
  Proved: what apat answers at a name; the contract of the reader's cpat; the contract of the reader's applied; the contracts of the reader's pat and typ, one level up. Conditions: the reader as it stands in memory; what the reader reads within.
-/
import Derived.Test.YthehjeeiodbkjaaGreatDoorA01
import Derived.Test.YthehjeeiodbkjaaGreatDoorA09
import Derived.StillTailTactics
set_option linter.unusedSimpArgs false
set_option linter.unusedVariables false
set_option maxRecDepth 100000
set_option maxHeartbeats 16000000
namespace Go.Proofs.YthehjeeiodbkjaaGreatDoor
open Go.RowKit
theorem pathL_end (P : Src) : ∀ (f : Nat) (s : ByteArray) (i : Nat) {x : ByteArray × Nat} {j : Nat}, pathL P 4 f s i = .ok x j → P.K i = 4 ∧ P.K (j - 1) = 4 ∧ i + 1 ≤ j ∧ ∃ u, x.1 = s ++ P.T i ++ u
 | 0, s, i, x, j, h => by
  obtain ⟨a, b, hf, -⟩ := failD_eq (α := ByteArray × Nat) P 4 i
  have h2 : (failD P 4 i : Res (ByteArray × Nat)) = .ok x j := h
  rw [hf] at h2
  cases h2
 | f + 1, s, i, x, j, h => by
  rw [pathL_at] at h
  rw [if_neg (by intro h; exact h.2 rfl)] at h
  by_cases h4 : P.K i = 4
  · rw [if_neg (by rw [h4]; decide)] at h
    by_cases hd : isD P s_dot (i + 1) = true
    · rw [if_pos hd] at h
      obtain ⟨h1, h2, h3, u, hu⟩ := pathL_end P f _ _ h
      exact ⟨h4, h2, by omega, s_dot ++ P.T (i + 2) ++ u, by rw [hu]; simp only [ByteArray.append_assoc]⟩
    · rw [if_neg hd, if_neg (by decide)] at h
      cases h
      exact ⟨h4, h4, Nat.le_refl _, ⟨#[]⟩, by show s ++ P.T i = s ++ P.T i ++ ByteArray.empty; rw [ByteArray.append_empty]⟩
  · rw [if_pos h4] at h
    obtain ⟨a, b, hf, -⟩ := failD_eq (α := ByteArray × Nat) P 4 i
    rw [hf] at h
    cases h
theorem fail_no {α : Type} {P : Src} {e i : Nat} {x : α} {j : Nat} (h : (failD P e i : Res α) = .ok x j) : False := by
 obtain ⟨a, b, hf, -⟩ := failD_eq (α := α) P e i
 rw [hf] at h
 cases h
theorem bind_inv {α β : Type} {m : M α} {f : α → M β} {i j : Nat} {y : β} (h : (m >>= f) i = .ok y j) : ∃ x k, m i = .ok x k ∧ f x k = .ok y j := by
 cases hm : m i with
 | bad k a => rw [bind_bad hm] at h; cases h
 | ok x k => rw [bind_ok hm] at h; exact ⟨x, k, rfl, h⟩
theorem must_inv {P : Src} {s : ByteArray} {i j : Nat} {u : Unit} (h : mustD P s i = .ok u j) : isD P s i = true ∧ j = i + 1 := by
 unfold mustD at h
 split at h
 · rename_i h1; cases h; exact ⟨h1, rfl⟩
 · exact (fail_no h).elim
theorem isD_no4 {P : Src} {s : ByteArray} {i : Nat} (h : isD P s i = true) : P.K i ≠ 4 := by
 have := (isD_at h).1
 omega
theorem bt_left {u v : ByteArray} (h : 0 < u.size) : bt (u ++ v) 0 = bt u 0 := by
 have e : (u ++ v).data.toList = u.data.toList ++ v.data.toList := by simp
 have h2 : 0 < u.data.toList.length := by simpa using h
 unfold bt
 rw [e, List.getD_eq_getElem?_getD, List.getD_eq_getElem?_getD, List.getElem?_append_left h2]
theorem tl_true : w_true.toList = [116, 114, 117, 101] := by rw [ByteArray.toList_eq]
theorem tl_false : w_false.toList = [102, 97, 108, 115, 101] := by rw [ByteArray.toList_eq]
theorem upper_not {w u : ByteArray} {c : Nat} (hw : 0 < u.size) (hb : bt u 0 ≤ 90) (x : ByteArray) (hx : 90 < bt x 0) (v : ByteArray) (e : u ++ v = x) : False := by
 have h1 : bt (u ++ v) 0 = bt u 0 := bt_left hw
 rw [e] at h1
 omega
theorem round_inv {P : Src} {R : Rec} {a i : Nat} {n : Ty} {j : Nat} (h : roundPatB P R a i = .ok n j) (hk : n.k = 24) : P.K (j - 1) ≠ 4 := by
 have e : roundPatB P R a i = if isD P s_rp i = true then .ok (.mk 25 a ⟨#[]⟩ 0 []) (i + 1) else if P.K i = 3 ∧ P.K (i + 1) = 6 ∧ P.T (i + 1) = w_as then (R.go .pat >>= fun p => mustD P s_rp >>= fun _ => (pure (.mk 28 a (P.T i) 0 [p]) : M Ty)) (i + 2) else (R.go .pat >>= fun p => eatD P s_com >>= fun c => if c = true then (rowD P (R.go .pat) s_com >>= fun l => mustD P s_rp >>= fun _ => (pure (.mk 25 a ⟨#[]⟩ 0 (p :: l)) : M Ty)) else (eatD P s_col >>= fun h => if h = true then (R.go .typ >>= fun t => mustD P s_rp >>= fun _ => (pure (.mk 29 a ⟨#[]⟩ 0 [p, t]) : M Ty)) else (mustD P s_rp >>= fun _ => (pure p : M Ty)))) i := rfl
 rw [e] at h
 split at h
 · cases h; cases hk
 · split at h
   · obtain ⟨p, k1, -, h⟩ := bind_inv h
     obtain ⟨u, k2, -, h⟩ := bind_inv h
     cases h; cases hk
   · obtain ⟨p, k1, -, h⟩ := bind_inv h
     rw [eat_if] at h
     split at h
     · rw [if_pos rfl] at h
       obtain ⟨l, k2, -, h⟩ := bind_inv h
       obtain ⟨u, k3, -, h⟩ := bind_inv h
       cases h; cases hk
     · rw [if_neg (by decide), eat_if] at h
       split at h
       · rw [if_pos rfl] at h
         obtain ⟨t, k2, -, h⟩ := bind_inv h
         obtain ⟨u, k3, -, h⟩ := bind_inv h
         cases h; cases hk
       · rw [if_neg (by decide)] at h
         obtain ⟨u, k3, hm, h⟩ := bind_inv h
         obtain ⟨h1, h2⟩ := must_inv hm
         cases h
         rw [h2]
         exact isD_no4 h1
theorem apat_upper {P : Src} {R : Rec} (hok : SrcOk P) {i : Nat} {n : Ty} {j : Nat} (h : apatB P R i = .ok n j) : (P.K i = 4 → n.k = 24 ∧ n.s ≠ w_true ∧ n.s ≠ w_false ∧ P.K (j - 1) = 4) ∧ (P.K i ≠ 4 → n.k = 24 → n.s ≠ w_true → n.s ≠ w_false → P.K (j - 1) ≠ 4) := by
 have e : apatB P R i = if isD P s_us i = true then .ok (.mk 20 (P.A i) ⟨#[]⟩ 0 []) (i + 1) else if P.K i = 3 then .ok (.mk 21 (P.A i) (P.T i) 0 []) (i + 1) else if P.K i = 1 then .ok (.mk 22 (P.A i) ⟨#[]⟩ (P.N i) []) (i + 1) else if isD P s_ti i = true then (if P.K (i + 1) = 1 then .ok (.mk 22 (P.A i) ⟨#[]⟩ (-(P.N (i + 1) : Int)) []) (i + 2) else failD P 4 (i + 1)) else if P.K i = 2 then .ok (.mk 23 (P.A i) (P.T i) 0 []) (i + 1) else if P.K i = 4 then (pathD P 4 >>= fun p => (ret (.mk 24 (P.A i) p.1 0 []) : M Ty)) i else if isD P w_true i = true ∨ isD P w_false i = true then .ok (.mk 24 (P.A i) (P.T i) 0 []) (i + 1) else if isD P s_lb i = true then (eatD P s_rb >>= fun e => if e = true then (pure (.mk 26 (P.A i) ⟨#[]⟩ 0 []) : M Ty) else (rowD P (R.go .pat) s_com >>= fun l => mustD P s_rb >>= fun _ => (pure (.mk 26 (P.A i) ⟨#[]⟩ 0 l) : M Ty))) (i + 1) else if isD P s_lp i = true then roundPatB P R (P.A i) (i + 1) else failD P 4 i := rfl
 rw [e] at h
 by_cases h4 : P.K i = 4
 · refine ⟨fun _ => ?_, fun h => absurd h4 h⟩
   have hn : ∀ s, isD P s i = false := fun s => by unfold isD; rw [h4]; rfl
   rw [if_neg (by rw [hn]; decide), if_neg (by rw [h4]; decide), if_neg (by rw [h4]; decide), if_neg (by rw [hn]; decide), if_neg (by rw [h4]; decide), if_pos h4] at h
   obtain ⟨x, k1, hp, h⟩ := bind_inv h
   cases h
   obtain ⟨-, h2, h3, u, hu⟩ := pathL_end P _ _ _ hp
   have hi : i < P.toks.length := K_lt (by rw [h4]; decide)
   obtain ⟨hs, hb⟩ := hok.upper _ (List.getElem_mem hi) (by have := (Src.at' hi).1; rw [h4] at this; omega)
   rw [← (Src.at' hi).2.2.1] at hs hb
   have hu2 : x.1 = P.T i ++ u := by rw [hu]; show ByteArray.empty ++ P.T i ++ u = _; rw [ByteArray.empty_append]
   exact ⟨rfl, fun e => upper_not (w := u) (c := 0) hs hb w_true (by decide) u (by rw [← hu2]; exact e), fun e => upper_not (w := u) (c := 0) hs hb w_false (by decide) u (by rw [← hu2]; exact e), h2⟩
 · refine ⟨fun h => absurd h h4, fun _ hk ht hf => ?_⟩
   split at h
   · cases h; cases hk
   · split at h
     · cases h; cases hk
     · split at h
       · cases h; cases hk
       · split at h
         · split at h
           · cases h; cases hk
           · exact (fail_no h).elim
         · split at h
           · cases h; cases hk
           · first | rw [if_neg h4] at h | skip
             split at h
             · rename_i hw
               cases h
               exact (hw.elim (fun e => ht (isD_at e).2) (fun e => hf (isD_at e).2)).elim
             · split at h
               · rw [eat_if] at h
                 split at h
                 · rw [if_pos rfl] at h; cases h; cases hk
                 · rw [if_neg (by decide)] at h
                   obtain ⟨l, k2, -, h⟩ := bind_inv h
                   obtain ⟨u, k3, -, h⟩ := bind_inv h
                   cases h; cases hk
               · split at h
                 · exact round_inv h hk
                 · exact (fail_no h).elim
theorem pcpat_any : CpN 126 fun E g => cpatB E.P (recS E.P g) := by
 intro E g PA w i h
 refine Bp.go (m := apatB E.P (recS E.P g) >>= fun n => (fun j => if E.P.K i = 4 ∧ begunB E.P j = true then (apatB E.P (recS E.P g) >>= fun p => (ret (.mk n.k n.n n.s n.q [p]) : M Ty)) j else .ok n j : M Ty)) h PA ?_
 intro d T W R hW B Q hlr hN
 have HAP := at_p R.hd (fun w j h => papat_any E g PA w j h)
 have HUP := lh (show ∀ n j, apatB E.P (recS E.P g) i = .ok n j → (E.P.K i = 4 → n.k = 24 ∧ n.s ≠ w_true ∧ n.s ≠ w_false ∧ E.P.K (j - 1) = 4) ∧ (E.P.K i ≠ 4 → n.k = 24 → n.s ≠ w_true → n.s ≠ w_false → E.P.K (j - 1) ≠ 4) from fun n j e => apat_upper h.ok e)
 have HUS := lh (show ∀ n j, apatB E.P (recS E.P g) i = .ok n j → i + 1 ≤ j from fun n j e => st_apat E.P _ (st_rec E.P g).2 i n j e)
 clear h PA
 unfold pr at HAP ⊢
 go_enter Tryz.func126, Tryz.ntmps126
 obtain ⟨R9, B9, p9, hq⟩ := Pn9.ex Tryz.f126 E d w T (NdQ w)
 refine wp_mono (Q := PQ R9 B9) ?_ hq
 clear hq
 go_upto_region 1 with fail
 clear hW
 go_upto_region 2 with (go_at_call 39; refine B.pnd Q HAP p9.bad ?_; clear B Q; intro u1 n aon capn j2 hx B Q; have HX := lh hx; clear hx)
 have HU := lh (HUP.out _ _ HX.out)
 have HS9 := lh (HUS.out _ _ HX.out)
 clear HX HUP HUS
 generalize hb : u1.heap.size = b4
 generalize h : u1.alloc _ = V3
 replace B := B.box h hb
 clear h hb
 obtain ⟨q, hq⟩ : ∃ q, q = decide (E.P.K i = 4 ∧ begunB E.P j2 = true) := ⟨_, rfl⟩
 have HQ := lh hq
 clear hq
 go_cut [37] from 6 to 38 (fun v wx => v = .bool q ∧ Bp E w d wx j2 [.nv b4 (.int .i64 n.k) (.int .i64 n.n) (.string n.s) (.int .i64 n.q) (.slice aon n.args.length capn), .kd n.args aon capn])
 case first =>
  have HB := lh B
  have hj1 := B.F.R.le
  have hij := HS9.out
  obtain ⟨m, hm⟩ : ∃ m, j2 = m + 1 := ⟨j2 - 1, by omega⟩
  have hmn : m < E.P.toks.length := by omega
  have hm2 : j2 - 1 = m := by omega
  have hm3 : (j2 : Int) - 1 = (m : Int) := by omega
  have HM3 := lh hm3
  obtain ⟨N, hNN⟩ : ∃ N, N = E.P.toks.length := ⟨_, rfl⟩
  have HNN := lh hNN
  have hj9 : j2 ≤ 100000 := by omega
  obtain ⟨HUa, HUb⟩ := HU.out
  rw [hm2] at HUa HUb
  have HA9 := lh HUa
  have HB9 := lh HUb
  obtain ⟨b, p, hne, hbl, hix, x0, x1, x2, x3⟩ := B.F.R.tok hmn
  have hix1 : ∀ w' : World, (Instr.indexAt 36 (.slice E.lo N E.cap) (.int .i64 (j2 - 1))).run Tryz.prog w' = .ok (.pointer (some ⟨b, p, none⟩)) w' := fun w' => by rw [hNN, hm3]; exact hix w'
  clear hm hmn hm2 hm3 HUa HUb hix hne hbl x1 x2 x3 hj1 hij
  have c5 := B.S.cs B.F.rb; have c6 := B.F.R.cells
  rw [← hNN] at c6
  clear B hNN
  by_cases h4 : E.P.K i = 4
  · have h9 := HA9.out h4
    have e1 : (n.k == 24) = true := by simp [h9.1]
    have e2 : (n.s.toList == [116, 114, 117, 101]) = false := by rw [← tl_true, str_eqB]; exact decide_eq_false h9.2.1
    have e3 : (n.s.toList == [102, 97, 108, 115, 101]) = false := by rw [← tl_false, str_eqB]; exact decide_eq_false h9.2.2.1
    have e4 : (E.P.K m == 4) = true := by simp [h9.2.2.2]
    have H4 := lh h4
    clear h9 h4
    have hix2 : ∀ w' : World, (Instr.indexAt 36 (.slice E.lo N E.cap) (.int .i64 (IntKind.i64.wrap (j2 - 1)))).run Tryz.prog w' = .ok (.pointer (some ⟨b, p, none⟩)) w' := fun w' => by rw [IntWalk.i64_in _ (by omega)]; exact hix1 w'
    go_still_tail 30, (by kernel_rfl)
    change wpList _ _ _ _ _ V3.drew
    replace HB := lh HB.out.drew
    go_wp2_with (go_at_call 160; refine (begun_any E _ j2 d HB.out.F.R).mono ?_; rintro e w9 ⟨rfl, hb⟩; have B := HB.out.be hb; clear hb)
    go_meet
    exact ⟨by rw [HQ.out]; simp [H4.out], B⟩
  · have H4 := lh h4
    by_cases hk : n.k = 24
    · have e1 : (n.k == 24) = true := by simp [hk]
      by_cases ht : n.s = w_true
      · have e2 : (n.s.toList == [116, 114, 117, 101]) = true := by rw [← tl_true, str_eqB]; exact decide_eq_true ht
        have e2b : n.s.toList = [116, 114, 117, 101] := by rw [← tl_true]; exact ba_eq.2 ht
        clear h4 hk ht
        go_quiet (fail)
        go_wp2_with fail
        go_meet
        exact ⟨by rw [HQ.out]; simp [H4.out], HB.out.be (below_drewN (Below.refl _ _) _)⟩
      · have e2 : (n.s.toList == [116, 114, 117, 101]) = false := by rw [← tl_true, str_eqB]; exact decide_eq_false ht
        by_cases hf : n.s = w_false
        · have e3 : (n.s.toList == [102, 97, 108, 115, 101]) = true := by rw [← tl_false, str_eqB]; exact decide_eq_true hf
          have e3b : n.s.toList = [102, 97, 108, 115, 101] := by rw [← tl_false]; exact ba_eq.2 hf
          clear h4 hk ht hf
          go_quiet (fail)
          go_wp2_with fail
          go_meet
          exact ⟨by rw [HQ.out]; simp [H4.out], HB.out.be (below_drewN (Below.refl _ _) _)⟩
        · have e3 : (n.s.toList == [102, 97, 108, 115, 101]) = false := by rw [← tl_false, str_eqB]; exact decide_eq_false hf
          have h5 := HB9.out h4 hk ht hf
          have e4 : (E.P.K m == 4) = false := by simp [h5]
          clear h4 hk ht hf h5
          go_quiet (fail)
          go_wp2_with fail
          go_meet
          exact ⟨by rw [HQ.out]; simp [H4.out], HB.out.be (below_drewN (Below.refl _ _) _)⟩
    · have e1 : (n.k == 24) = false := by simp [hk]
      clear h4 hk
      go_quiet (fail)
      go_wp2_with fail
      go_meet
      exact ⟨by rw [HQ.out]; simp [H4.out], HB.out.be (below_drewN (Below.refl _ _) _)⟩
 case rest =>
  replace B := hcut.2
  obtain ⟨rfl, -⟩ := hcut
  cases q with
  | true =>
   replace Q : Qp T ((apatB E.P (recS E.P g) >>= fun p => (ret (.mk n.k n.n n.s n.q [p]) : M Ty))) j2 := ⟨Q.eq.trans (if_pos (of_decide_eq_true HQ.out.symm))⟩
   go_upto_region 4 with (go_at_call 39; refine B.pnd Q HAP p9.bad ?_; clear B Q; intro u7 p aop capp j8 _ B Q; have c9 := B.mv1.S.cs B.F.rb)
   clear c9
   replace B := B.mv2.dr
   generalize hz : u7.heap.size = z10
   generalize h : u7.setCell _ _ = X11
   replace B := B.mv1.s4 h
   replace hz := size_set h hz
   clear h
   generalize h : X11.alloc _ = V12
   replace B := B.mv1.mk1 hz h
   clear h
   clear hz
   have c13 := B.mv1.S.cs B.F.rb; have c14 := B.cp
   go_wp2_with fail
   exact Bp.fin (.mk n.k n.n n.s n.q [p]) B.ko p9 Q.pr rfl rfl
  | false =>
   replace Q : Qp T (pure n : M Ty) j2 := ⟨Q.eq.trans (if_neg (of_decide_eq_false HQ.out.symm))⟩
   have c15 := B.S.cs B.F.rb; have c16 := B.cp
   go_wp2_with fail
   exact Bp.fin (n) B.mv1 p9 Q.pr rfl rfl
theorem appL_at (P : Src) (a f : Nat) (l : List Ty) (i : Nat) : appL P a (f + 1) l i = if l.length ≠ 1 ∨ P.K i = 3 ∨ P.K i = 4 then (pathD P 3 >>= fun p => appL P a f [.mk 31 a p.1 0 l]) i else .ok (l.headD default) i := rfl
theorem papplied_any : CpN 127 fun E g => appliedB E.P (recS E.P g) := by
 intro E g PA w i h
 refine Bp.go (m := fun q => if E.P.K q = 5 then appL E.P (E.P.A i) (E.P.toks.length + 1) [.mk 30 (E.P.A i) (E.P.T i) 0 []] (q + 1) else if isD E.P s_lp q = true then (rowD E.P (readS E.P g .typ) s_com >>= fun l => mustD E.P s_rp >>= fun _ => appL E.P (E.P.A i) (E.P.toks.length + 1) l) (q + 1) else appL E.P (E.P.A i) (E.P.toks.length + 1) [] q) h PA ?_
 intro d T W R hW B Q hlr hN
 have HROW := krow 65 R.ityp.out s_com (by intro x9 w9; rfl)
 have HSP := lh (st_path E.P 3)
 clear h PA
 unfold pr
 go_enter Tryz.func127, Tryz.ntmps127
 obtain ⟨R9, B9, p9, hq⟩ := Pn9.ex Tryz.f127 E d w T (NdQ w)
 refine wp_mono (Q := PQ R9 B9) ?_ hq
 clear hq
 go_upto_region 1 with fail
 clear hW
 go_upto_region 2 with (go_at_call 35; refine B.pnow ?_; clear B; intro u1 B; have f2 := tk_fields E.P i)
 clear f2
 generalize hb : u1.heap.size = b4
 generalize h : u1.alloc _ = V3
 replace B := B.boxt h hb
 clear h hb
 go_upto_block 0 with fail
 go_cut [4] from 5 to 62 (fun v wx => ∃ (l : List Ty) (j : Nat) (ao : Option Addr) (cap : Nat), v = .slice ao l.length cap ∧ Qp T (appL E.P (E.P.A i) (E.P.toks.length + 1) l) j ∧ l.length ≤ 200000 ∧ Bp E w d wx j [.kd l ao cap, .tv b4 (.int .i64 (E.P.K i)) (.int .i64 (E.P.A i : Int)) (.string (E.P.T i)) (.int .i64 (E.P.N i : Int))])
 case first =>
  have c5 := B.S.ct B.F.rb
  go_upto_if 8 with fail
  clear c5
  by_cases hk6 : E.P.K i = 5
  · have ek7 : (E.P.K i == 5) = true := by simp [hk6]
    have HK8 := lh hk6
    clear hk6
    have hle : i + 1 ≤ E.P.toks.length := Nat.succ_le_of_lt (K_lt (by rw [HK8.out]; decide))
    replace Q : Qp T (appL E.P (E.P.A i) (E.P.toks.length + 1) [.mk 30 (E.P.A i) (E.P.T i) 0 []]) (i + 1) := ⟨Q.eq.trans (if_pos HK8.out)⟩
    have c9 := B.S.ct B.F.rb; have c10 := B.F.R.cells
    go_upto_region 5 with fail
    clear c9 c10
    generalize h : V3.setCell _ _ = X11
    replace B := B.seti (j' := i + 1) hle h rfl
    clear h
    have c12 := B.S.ct B.F.rb
    go_wp2_with fail
    generalize h : X11.alloc _ = V13
    replace B := B.nilk.mkl rfl h
    clear h
    go_meet
    exact ⟨[.mk 30 (E.P.A i) (E.P.T i) 0 []], _, _, 1, rfl, Q, by simp, B.ko⟩
  · have ek14 : (E.P.K i == 5) = false := by simp [hk6]
    have HK15 := lh hk6
    clear hk6
    replace Q : Qp T (fun q => if isD E.P s_lp q = true then (rowD E.P (readS E.P g .typ) s_com >>= fun l => mustD E.P s_rp >>= fun _ => appL E.P (E.P.A i) (E.P.toks.length + 1) l) (q + 1) else appL E.P (E.P.A i) (E.P.toks.length + 1) [] q) i := ⟨Q.eq.trans (if_neg HK15.out)⟩
    obtain ⟨b16, P⟩ := B.peat (sg := s_lp) Q
    clear B Q
    cases b16 with
    | true =>
     go_upto_region 7 with (go_at_call 38; refine P.t ?_; clear P; intro u17 B Q _)
     go_upto_region 8 with (go_at_call 76; refine B.prw Q HROW p9.bad ?_; clear B Q; intro u18 l aol capl j19 hx B Q; have LNl := lh (row_len hx); clear hx)
     go_wp2_with (go_at_call 40; refine B.pun Q (kmust E d s_rp) p9.bad ?_; clear B Q; intro u20 _ _ j21 B Q)
     go_meet
     exact ⟨l, _, aol, capl, rfl, Q, by have h1 := LNl.out; omega, B.ko⟩
    | false =>
     go_wp2_with (go_at_call 38; refine P.f ?_; clear P; intro u22 B Q _)
     go_meet
     exact ⟨[], _, none, 0, rfl, Q, by simp, B.nilk⟩
 case rest =>
  clear Q B
  obtain ⟨l, j, ao, cap, rfl, Q, hl, B⟩ := hcut
  have hjN := B.F.R.le
  go_wp2_with fail
  go_loopw [4] (fun v wr => ∃ (l : List Ty) (j f : Nat) (ao : Option Addr) (cap : Nat), v = .slice ao l.length cap ∧ Qp T (appL E.P (E.P.A i) f l) j ∧ E.P.toks.length < j + f ∧ l.length ≤ 200000 ∧ Bp E w d wr j [.kd l ao cap, .tv b4 (.int .i64 (E.P.K i)) (.int .i64 (E.P.A i : Int)) (.string (E.P.T i)) (.int .i64 (E.P.N i : Int))]) (fun _ wr => E.P.toks.length - posOf wr E.rb)
  case atStart => exact ⟨l, j, E.P.toks.length + 1, ao, cap, rfl, Q, by omega, hl, B⟩
  case round =>
   clear B Q hl hjN
   obtain ⟨l, j, f, ao, cap, rfl, Q, hf, hl, B⟩ := hrel
   obtain ⟨f, rfl⟩ : ∃ f', f = f' + 1 := ⟨f - 1, by have := B.F.R.le; omega⟩
   have HF := lh hf
   have HLL := lh hl
   have R0 := lh B.F.R
   clear hf hl
   obtain ⟨q, hq⟩ : ∃ q, q = decide (l.length ≠ 1 ∨ E.P.K j = 3 ∨ E.P.K j = 4) := ⟨_, rfl⟩
   have HQC := lh hq
   clear hq
   go_upto_region 9 with fail
   go_cut [46] from 32 to 58 (fun v wx => v = .bool q ∧ Bp E w d wx j [.kd l ao cap, .tv b4 (.int .i64 (E.P.K i)) (.int .i64 (E.P.A i : Int)) (.string (E.P.T i)) (.int .i64 (E.P.N i : Int))])
   case first =>
    by_cases h1 : l.length = 1
    · have e1 : ((l.length : Int) != 1) = false := by simp; omega
      have H1 := lh h1
      clear h1
      by_cases h3 : E.P.K j = 3
      · have eh3 : (E.P.K j == 3) = true := by simp [h3]
        have Hh3 := lh h3
        clear h3
        go_wp2_with (go_at_call 35; refine B.pnow ?_; clear B; intro u23 B; have f24 := tk_fields E.P j)
        go_meet
        exact ⟨by rw [HQC.out]; simp [Hh3.out], B⟩
      · have eh3 : (E.P.K j == 3) = false := by simp [h3]
        have Hh3 := lh h3
        clear h3
        by_cases h4 : E.P.K j = 4
        · have eh4 : (E.P.K j == 4) = true := by simp [h4]
          have Hh4 := lh h4
          clear h4
          go_wp2_with (first | (go_at_call 35; refine B.pnow ?_; clear B; intro u27 B; have f28 := tk_fields E.P j) | (go_at_call 35; refine B.pnow ?_; clear B; intro u25 B; have f26 := tk_fields E.P j))
          go_meet
          exact ⟨by rw [HQC.out]; simp [Hh4.out], B⟩
        · have eh4 : (E.P.K j == 4) = false := by simp [h4]
          have Hh4 := lh h4
          clear h4
          go_wp2_with (first | (go_at_call 35; refine B.pnow ?_; clear B; intro u31 B; have f32 := tk_fields E.P j) | (go_at_call 35; refine B.pnow ?_; clear B; intro u29 B; have f30 := tk_fields E.P j))
          go_meet
          exact ⟨by rw [HQC.out]; simp [H1.out, Hh3.out, Hh4.out], B⟩
    · have e1 : ((l.length : Int) != 1) = true := by simp; omega
      have H1 := lh h1
      clear h1
      go_wp2_with fail
      go_meet
      exact ⟨by rw [HQC.out]; simp [H1.out], B⟩
   case rest =>
    replace B := hcut.2
    obtain ⟨rfl, -⟩ := hcut
    cases q with
    | true =>
     replace Q : Qp T (pathD E.P 3 >>= fun p => appL E.P (E.P.A i) f [.mk 31 (E.P.A i) p.1 0 l]) j := ⟨by rw [Q.eq, appL_at, if_pos (of_decide_eq_true HQC.out.symm)]⟩
     have c33 := B.mv1.S.ct B.F.rb
     go_upto_region 11 with (go_at_call 28; refine B.pnode ?_; clear B; intro u34 B)
     clear c33
     generalize hb : u34.heap.size = b36
     generalize h : u34.alloc _ = V35
     replace B := B.box h hb
     clear h hb
     go_upto_region 12 with (go_at_call 75; refine B.ppth Q (kpath3 E d) p9.bad ?_; clear B Q; intro u37 p j38 hx B Q; have LNp := lh (HSP.out _ _ _ hx); clear hx; have c39 := B.S.cs B.F.rb)
     clear c39
     generalize hz : u37.heap.size = z40
     generalize h : u37.setCell _ _ = X41
     replace B := B.s2 h
     replace hz := size_set h hz
     clear h
     have c42 := B.S.cs B.F.rb
     go_wp2_with fail
     clear c42
     replace B := B.dr
     generalize h : X41.alloc _ = V43
     replace B := B.mkl hz h
     clear h
     clear hz
     go_roundw
     case rel => exact ⟨[.mk 31 (E.P.A i) p.1 0 l], j38, f, _, 1, rfl, Q, by have h1 := LNp.out; have h2 := HF.out; omega, by simp, B.ko⟩
     case measure => exact pos_less R0.out B.F.R LNp.out
    | false =>
     have hc := of_decide_eq_false HQC.out.symm
     obtain ⟨x, rfl⟩ : ∃ x, l = [x] := List.length_eq_one_iff.1 (Decidable.byContradiction fun h => hc (.inl h))
     replace Q : Qp T (pure x : M Ty) j := ⟨by rw [Q.eq, appL_at, if_neg hc]; rfl⟩
     clear hc
     obtain ⟨b9, p9_, a9, c9, t1, cx, B⟩ := B.arg
     have hl9 : ((([x] : List Ty).length : Nat) : Int) = 1 := rfl
     have c44 := B.cp
     go_wp2_with fail
     exact Bp.fin (x) B p9 Q.pr rfl rfl
theorem sep_pos {α : Type} (P : Src) (item : M α) (s : ByteArray) : ∀ (f : Nat) (acc : List α) (i : Nat) {l : List α} {j : Nat}, 0 < acc.length → sepL P item s f acc i = .ok l j → 0 < l.length
 | 0, acc, i, l, j, h0, h => by cases h; exact h0
 | f + 1, acc, i, l, j, h0, h => by
  rw [sepL_at] at h
  split at h
  · cases hx : item (i + 1) with
    | bad k a => rw [bind_bad hx] at h; cases h
    | ok x m => rw [bind_ok hx] at h; exact sep_pos P item s f _ _ (by simp) h
  · cases h; exact h0
theorem row_pos {α : Type} {P : Src} {item : M α} {s : ByteArray} {i : Nat} {l : List α} {j : Nat} (h : rowD P item s i = .ok l j) : 0 < l.length ∧ l.length ≤ P.toks.length + 2 := by
 refine ⟨?_, row_len h⟩
 have h2 : (item >>= fun x => sepL P item s (P.toks.length + 1) [x]) i = .ok l j := h
 cases hx : item i with
 | bad k a => rw [bind_bad hx] at h2; cases h2
 | ok x m => rw [bind_ok hx] at h2; exact sep_pos P item s _ _ _ (by simp) h2
theorem conses_at {l : List Ty} {m : Nat} (h : m + 1 < l.length) : consesD (l.drop m) = .mk 27 (l[m]'(by omega)).n ⟨#[]⟩ 0 [l[m]'(by omega), consesD (l.drop (m + 1))] := by
 rw [List.drop_eq_getElem_cons (i := m) (by omega)]
 cases h2 : l.drop (m + 1) with
 | nil => have := List.drop_eq_nil_iff.1 h2; omega
 | cons y ys => rfl
theorem conses_one {l : List Ty} {m : Nat} (h : l.length = m + 1) : consesD (l.drop m) = l[m]'(by omega) := by
 rw [List.drop_eq_getElem_cons (i := m) (by omega)]
 have h2 : l.drop (m + 1) = [] := List.drop_eq_nil_iff.2 (by omega)
 rw [h2]
 rfl
theorem cpat_item (E : Env) (g : Nat) (PA : PAll E g) : ItemP E (60 - g) 126 (cpatB E.P (recS E.P g)) := ⟨fun w i h => pcpat_any E g PA w i h, fun i x j _ e => Nat.le_of_succ_le (st_cpat E.P _ (st_rec E.P g).2 i x j e)⟩
theorem ppat_step (E : Env) (g : Nat) (PA : PAll E g) (hg : g + 1 ≤ 60) (w : World) (i : Nat) (h : Rd E w i (60 - (g + 1))) : Calls Tryz.prog 64 #[pr E] w (PPost E (60 - (g + 1)) w (readS E.P (g + 1) .pat i) (NdQ w)) := by
 refine Bp.god (m := rowD E.P (cpatB E.P (recS E.P g)) s_cons >>= fun l => (pure (consesD l) : M Ty)) hg h PA (by rw [readS_succ]; rfl) ?_
 intro d T W R h60 hW B Q hlr hN
 have HROW := krow 126 (item_at (by have := R.hd; omega) (cpat_item E g PA)) s_cons (by intro x9 w9; rfl)
 clear h PA
 unfold pr
 go_enter_defers Tryz.func64, Tryz.ntmps64
 obtain ⟨R9, B9, p9, hq⟩ := Pw9.ex Tryz.f64 E d w T
 refine wp_mono (Q := PQ R9 B9) ?_ (fun e a W h => bodyPostE_le _ _ _ _ _ e a W (hq e a W h))
 clear hq
 go_upto_region 1 with fail
 clear hW
 go_upto_region 2 with (go_at_call 37; refine B.win h60 ?_; clear B; intro w1 bC hbC B)
 clear hbC
 go_upto_region 3 with (go_at_call 76; refine B.prw Q HROW (p9.bad (.head _)) ?_; clear B Q; intro u1 l aol capl j2 hx B Q; have LNl := lh (row_pos hx); clear hx)
 replace B := B.ko
 obtain ⟨m, hm⟩ : ∃ m, l.length = m + 1 := ⟨l.length - 1, by have := LNl.out.1; omega⟩
 have HM := lh hm
 have hlen : l.length ≤ 100002 := by have := LNl.out.2; omega
 obtain ⟨n, bq, pq, aq, cq, HNq, HXq, fq, B⟩ := B.elem (m := m) (by rw [HM.out]; exact Nat.lt_succ_self _)
 have ixm : ∀ w' : World, (Instr.indexAt 24 (.slice aol l.length capl) (.int .i64 ((l.length : Int) - 1))).run Tryz.prog w' = .ok (.pointer (some ⟨bq, pq, none⟩)) w' := fun w' => by rw [show ((l.length : Int) - 1) = (m : Int) from by omega]; exact fq.2.2.1 w'
 have hl1 : 1 ≤ l.length := by omega
 clear hm
 go_upto_region 4 with fail
 clear fq ixm
 generalize hb : u1.heap.size = b4
 generalize h : u1.alloc _ = V3
 replace B := B.box h hb
 clear h hb
 go_wp2_with fail
 go_loopw [5] (fun s wr => ∃ (m : Nat) (n : Ty) (ao : Option Addr) (cap : Nat), s = .int .i64 ((m : Int) - 1) ∧ m < l.length ∧ n = consesD (l.drop m) ∧ Bp E w (d + 1) wr j2 [.kd n.args ao cap, .kd l aol capl, .nv b4 (.int .i64 n.k) (.int .i64 n.n) (.string n.s) (.int .i64 n.q) (.slice ao n.args.length cap), .gv bC 42 #[.pointer (some ⟨E.rb, 0, none⟩)]]) (fun s _ => (intOf s + 1).toNat)
 case atStart => exact ⟨m, n, aq, cq, by have := HM.out; congr 1; omega, by have := HM.out; omega, by rw [HNq.out]; exact (conses_one HM.out).symm, B.mv3.mv1.mv3.mv3⟩
 case round =>
  clear B HXq HNq
  obtain ⟨m, n, ao, cap, rfl, hm, hn, B⟩ := hrel
  have HNM := lh hn
  clear hn
  cases m with
  | zero =>
   have h1 : decide (((0 : Nat) : Int) - 1 ≥ 0) = false := by decide
   have h2 : decide (0 ≤ ((0 : Nat) : Int) - 1) = false := by decide
   have h3 : ¬ (0 ≤ ((0 : Nat) : Int) - 1) := by decide
   have c5 := B.mv2.S.cs B.F.rb; have c6 := B.cp
   go_wp2_with fail
   exact Bp.finw (n) (B) p9 (.tail _ (.tail _ (.head _))) (by rw [HNM.out, List.drop_zero]; exact Q.pr) rfl rfl
  | succ m =>
   have em : ((m + 1 : Nat) : Int) - 1 = (m : Int) := by omega
   rw [em]
   have hm9 : m + 1 < l.length := hm
   have h1 : decide ((m : Int) ≥ 0) = true := by simp
   have h2 : (0 : Int) ≤ (m : Int) := by omega
   have h4 : m ≤ 100002 := by omega
   have HM2 := lh hm9
   clear em hm hm9
   obtain ⟨p, br, pr, ar, cr, HNr, HXr, fr, B⟩ := B.mv1.elem (m := m) (by have := HM2.out; omega)
   have nr1 : ¬ (br = b4) := HXr.out _ (by simp [wrs, At.wr])
   have nr2 : ¬ (b4 = br) := fun e => nr1 e.symm
   go_upto_region 7 with fail
   have c7 := B.mv3.S.cs B.F.rb
   go_region_law (go_simp; (go_at_call 28; generalize h : wr.alloc _ = V8; replace B := B.mv2.mv1.mk2 rfl h; clear h; replace B := B.drew; refine B.pnode ?_; clear B; intro u9 B; have c10 := B.mv2.S.cs B.F.rb))
   all_goals
    clear fr nr1 nr2 c7 c10
    generalize h : ((((u9.setCell _ _).setCell _ _).setCell _ _).setCell _ _).setCell _ _ = X11
    replace B := B.mv2.sn h
    clear h
    go_wp2_with fail
    go_roundw
    case rel => exact ⟨m, .mk 27 p.n ⟨#[]⟩ 0 [p, n], (some ⟨wr.heap.size, 0, none⟩), 2, rfl, by have := HM2.out; omega, by rw [conses_at HM2.out, HNM.out, HNr.out], B.mv3.mv1.mv3.mv3.ko⟩
    case measure => (simp [intOf] <;> omega)
theorem applied_item (E : Env) (g : Nat) (PA : PAll E g) : ItemP E (60 - g) 127 (appliedB E.P (recS E.P g)) := ⟨fun w i h => papplied_any E g PA w i h, fun i x j _ e => Nat.le_of_succ_le (st_applied E.P _ (st_rec E.P g).2 i x j e)⟩
theorem ptyp_step (E : Env) (g : Nat) (PA : PAll E g) (hg : g + 1 ≤ 60) (w : World) (i : Nat) (h : Rd E w i (60 - (g + 1))) : Calls Tryz.prog 65 #[pr E] w (PPost E (60 - (g + 1)) w (readS E.P (g + 1) .typ i) (NdQ w)) := by
 refine Bp.god (m := rowD E.P (appliedB E.P (recS E.P g)) s_st >>= fun l => eatD E.P s_to >>= fun t => if t = true then (readS E.P g .typ >>= fun r => (pure (.mk 33 (if l.length > 1 then .mk 32 (l.headD default).n ⟨#[]⟩ 0 l else l.headD default : Ty).n ⟨#[]⟩ 0 [(if l.length > 1 then .mk 32 (l.headD default).n ⟨#[]⟩ 0 l else l.headD default : Ty), r]) : M Ty)) else (pure (if l.length > 1 then .mk 32 (l.headD default).n ⟨#[]⟩ 0 l else l.headD default : Ty) : M Ty)) hg h PA (by rw [readS_succ]; rfl) ?_
 intro d T W R h60 hW B Q hlr hN
 have HROW := krow 127 (item_at (by have := R.hd; omega) (applied_item E g PA)) s_st (by intro x9 w9; rfl)
 clear h PA
 unfold pr
 go_enter_defers Tryz.func65, Tryz.ntmps65
 obtain ⟨R9, B9, p9, hq⟩ := Pw9.ex Tryz.f65 E d w T
 refine wp_mono (Q := PQ R9 B9) ?_ (fun e a W h => bodyPostE_le _ _ _ _ _ e a W (hq e a W h))
 clear hq
 go_upto_region 1 with fail
 clear hW
 go_upto_region 2 with (go_at_call 37; refine B.win h60 ?_; clear B; intro w1 bC hbC B)
 clear hbC
 go_upto_region 3 with (go_at_call 76; refine B.prw Q HROW (p9.bad (.head _)) ?_; clear B Q; intro u1 l aol capl j2 hx B Q; have LNl := lh (row_pos hx); clear hx)
 replace B := B.ko
 obtain ⟨n0, bq, pq, aq, cq, HNq, HXq, fq, B⟩ := B.elem (m := 0) (LNl.out.1)
 have hl1 : 1 ≤ l.length := LNl.out.1
 have ixm : ∀ w' : World, (Instr.indexAt 24 (.slice aol l.length capl) (.int .i64 0)).run Tryz.prog w' = .ok (.pointer (some ⟨bq, pq, none⟩)) w' := fq.2.2.1
 obtain ⟨n, HNN⟩ : ∃ n : Ty, Hid (n = (if l.length > 1 then .mk 32 (l.headD default).n ⟨#[]⟩ 0 l else l.headD default : Ty)) := ⟨_, lh rfl⟩
 have HHD : Hid (l.headD default = n0) := lh (by have h1 := LNl.out.1; rw [HNq.out]; cases l with | nil => cases h1 | cons x xs => rfl)
 replace Q : Qp T (eatD E.P s_to >>= fun t => if t = true then (readS E.P g .typ >>= fun r => (pure (.mk 33 n.n ⟨#[]⟩ 0 [n, r]) : M Ty)) else (pure n : M Ty)) j2 := ⟨by rw [Q.eq, ← HNN.out]⟩
 go_upto_region 4 with fail
 clear fq ixm
 generalize hb : u1.heap.size = b4
 generalize h : u1.alloc _ = V3
 replace B := B.box h hb
 clear h hb
 by_cases hl : l.length > 1
 · have e1 : decide ((l.length : Int) > 1) = true := by simp; omega
   have e2 : (1 : Int) < (l.length : Int) := by omega
   have HE9 : Hid (n = .mk 32 n0.n ⟨#[]⟩ 0 l) := lh (by rw [HNN.out, if_pos hl, HHD.out])
   clear hl
   have c5 := B.S.cs B.F.rb
   go_upto_region 6 with (go_at_call 28; refine B.pnode ?_; clear B; intro u6 B; have c7 := B.S.cs B.F.rb)
   clear c5 c7
   generalize h : ((((u6.setCell _ _).setCell _ _).setCell _ _).setCell _ _).setCell _ _ = X8
   replace B := B.sn h
   clear h
   replace B : Bp E w (d + 1) X8 j2 [.kd n.args aol capl, .nv b4 (.int .i64 n.k) (.int .i64 n.n) (.string n.s) (.int .i64 n.q) (.slice aol n.args.length capl), .kd n0.args aq cq, .gv bC 42 #[.pointer (some ⟨E.rb, 0, none⟩)]] := by rw [HE9.out]; exact B.mv2
   obtain ⟨b9, P⟩ := B.peatd (sg := s_to) Q
   clear B Q
   cases b9 with
   | true =>
    go_upto_region 7 with (go_at_call 38; refine P.t ?_; clear P; intro u10 B Q _)
    have c11 := B.mv1.S.cs B.F.rb
    replace B := B.drew
    go_region_law (go_simp; first | (go_at_call 28; generalize h : u12.alloc _ = V15; replace B := B.mv1.mk2 rfl h; clear h; refine B.pnode ?_; clear B; intro u16 B; have c17 := B.cp) | (go_at_call 65; refine B.pnd Q R.typ (p9.bad (.tail _ (.tail _ (.tail _ (.head _))))) ?_; clear B Q; intro u12 r aor capr j13 _ B Q; have c14 := B.mv2.S.cs B.F.rb))
    all_goals
     go_wp2_with fail
     exact Bp.finw (.mk 33 n.n ⟨#[]⟩ 0 [n, r]) B.ko p9 (.tail _ (.tail _ (.head _))) Q.pr rfl rfl
   | false =>
    go_upto_region 8 with (go_at_call 38; refine P.f ?_; clear P; intro u18 B Q _)
    have c19 := B.mv1.S.cs B.F.rb; have c20 := B.cp
    go_wp2_with fail
    exact Bp.finw (n) (B) p9 (.tail _ (.tail _ (.head _))) Q.pr rfl rfl
 · have e1 : decide ((l.length : Int) > 1) = false := by simp; omega
   have e2 : ¬ ((1 : Int) < (l.length : Int)) := by omega
   have HE9 : Hid (n = n0) := lh (by rw [HNN.out, if_neg hl, HHD.out])
   clear hl
   have c21 := B.S.cs B.F.rb
   go_upto_region 6 with fail
   clear c21
   replace B : Bp E w (d + 1) V3 j2 [.kd n.args aq cq, .nv b4 (.int .i64 n.k) (.int .i64 n.n) (.string n.s) (.int .i64 n.q) (.slice aq n.args.length cq), .kd l aol capl, .gv bC 42 #[.pointer (some ⟨E.rb, 0, none⟩)]] := by rw [HE9.out]; exact B.mv1
   obtain ⟨b22, P⟩ := B.peatd (sg := s_to) Q
   clear B Q
   cases b22 with
   | true =>
    go_upto_region 7 with (go_at_call 38; refine P.t ?_; clear P; intro u23 B Q _)
    have c24 := B.mv1.S.cs B.F.rb
    replace B := B.drew
    go_region_law (go_simp; first | (go_at_call 28; generalize h : u25.alloc _ = V28; replace B := B.mv1.mk2 rfl h; clear h; refine B.pnode ?_; clear B; intro u29 B; have c30 := B.cp) | (go_at_call 65; refine B.pnd Q R.typ (p9.bad (.tail _ (.tail _ (.tail _ (.head _))))) ?_; clear B Q; intro u25 r aor capr j26 _ B Q; have c27 := B.mv2.S.cs B.F.rb))
    all_goals
     go_wp2_with fail
     exact Bp.finw (.mk 33 n.n ⟨#[]⟩ 0 [n, r]) B.ko p9 (.tail _ (.tail _ (.head _))) Q.pr rfl rfl
   | false =>
    go_upto_region 8 with (go_at_call 38; refine P.f ?_; clear P; intro u31 B Q _)
    have c32 := B.mv1.S.cs B.F.rb; have c33 := B.cp
    go_wp2_with fail
    exact Bp.finw (n) (B) p9 (.tail _ (.tail _ (.head _))) Q.pr rfl rfl
end Go.Proofs.YthehjeeiodbkjaaGreatDoor
