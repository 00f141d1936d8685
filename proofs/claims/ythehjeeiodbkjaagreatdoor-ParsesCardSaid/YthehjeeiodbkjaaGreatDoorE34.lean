/-
  Proved: the contracts of the document's cpat and conses. Conditions: the reader as it stands in memory; what it reads within.
-/
import Derived.Test.YthehjeeiodbkjaaGreatDoorE30
import Derived.Test.YthehjeeiodbkjaaGreatDoorE31
set_option linter.unusedSimpArgs false
set_option linter.unusedVariables false
set_option maxRecDepth 100000
set_option maxHeartbeats 16000000
namespace Go.Proofs.YthehjeeiodbkjaaGreatDoor
open Go.RowKit
theorem cpat_eq (E : Env) (g : Nat) (s : RS) : rn (cpatB E.P (recS E.P g)) s = rn (apatB E.P (recS E.P g) >>= fun n => (fun j => if E.P.K s.i = 4 ∧ begunB E.P j = true then (apatB E.P (recS E.P g) >>= fun p => (ret (.mk n.k n.n n.s n.q [p]) : M Ty)) j else .ok n j : M Ty)) s := by
 by_cases hs : s.k = 0
 · rw [rn_good hs, rn_good hs]; rfl
 · rw [rn_lost hs, rn_lost hs]
theorem ccpat_any : CtN 156 fun E g => cpatB E.P (recS E.P g) := by
 intro E g RA w s h
 rw [show rn (cpatB E.P (recS E.P g)) s = rn (apatB E.P (recS E.P g) >>= fun n => (fun j => if E.P.K s.i = 4 ∧ begunB E.P j = true then (apatB E.P (recS E.P g) >>= fun p => (ret (.mk n.k n.n n.s n.q [p]) : M Ty)) j else .ok n j : M Ty)) s from cpat_eq E g s]
 refine Br.go (m := apatB E.P (recS E.P g) >>= fun n => (fun j => if E.P.K s.i = 4 ∧ begunB E.P j = true then (apatB E.P (recS E.P g) >>= fun p => (ret (.mk n.k n.n n.s n.q [p]) : M Ty)) j else .ok n j : M Ty)) h RA ?_
 intro d T W R hW B Q hlr hN
 have HAPAT := at_d R.hd (capat_any E g RA)
 clear h RA
 unfold pr at HAPAT ⊢
 go_enter Tryz.func156, Tryz.ntmps156
 obtain ⟨Q9, p9⟩ := Po9.ex Tryz.f156 E d w T (NdQ w)
 rw [p9.eq]
 go_upto_region 1 with fail
 clear hW
 by_cases h4 : E.P.K s.i = 4
 · have e4 : (E.P.K s.i == 4) = true := by simp [h4]
   have H4 := lh h4
   clear h4
   go_upto_region 2 with (go_at_call 102; refine B.now ?_; clear B; intro u1 B; have f2 := tk_fields E.P s.i)
   clear f2
   go_upto_region 3 with (go_at_call 154; refine B.nd Q HAPAT ?_; clear B Q; intro u3 n aon capn s4 _ B Q)
   generalize hb : u3.heap.size = b6
   generalize h : u3.alloc _ = V5
   replace B := B.box h hb
   clear h hb
   go_upto_region 4 with (go_at_call 180; refine B.ask ((hbegun E d).out _ _ B.F.R) ?_; clear B; intro u7 B)
   generalize hb : (decide (s4.k = 0) && begunB E.P s4.i) = b
   have HBB := lh hb
   clear hb
   cases b with
   | false =>
    replace Q : Qr T (pure n : M Ty) s4 := ⟨by
     rw [Q.eq]
     by_cases hs : s4.k = 0
     · rw [rn_good hs, rn_good hs]; exact if_neg (fun h => by have h9 := HBB.out; rw [decide_eq_true hs, h.2] at h9; cases h9)
     · rw [rn_lost hs, rn_lost hs]⟩
    go_upto_region 7 with fail
    have c8 := B.S.cs B.F.rb; have c9 := B.cr
    go_wp2_with fail
    exact Br.fin (n) B.mv1 p9 Q.pr rfl rfl
   | true =>
    have HG : Hid (s4.k = 0 ∧ begunB E.P s4.i = true) := lh (by have h9 := HBB.out; simpa using h9)
    replace Q : Qr T ((apatB E.P (recS E.P g) >>= fun p => (ret (.mk n.k n.n n.s n.q [p]) : M Ty))) s4 := ⟨by rw [Q.eq, rn_good HG.out.1, rn_good HG.out.1]; exact if_pos ⟨H4.out, HG.out.2⟩⟩
    go_upto_region 5 with fail
    go_upto_region 6 with (go_at_call 154; refine B.nd Q HAPAT ?_; clear B Q; intro u10 p aop capp s11 _ B Q)
    generalize hb : u10.heap.size = b13
    generalize h : u10.alloc _ = V12
    replace B := B.box h hb
    clear h hb
    have c14 := B.mv2.S.cs B.F.rb; have c15 := B.S.cs B.F.rb
    go_upto_region 7 with fail
    clear c14 c15
    generalize hz : V12.heap.size = z16
    generalize h : V12.setCell _ _ = X17
    replace B := B.mv2.s4 h
    replace hz := size_set h hz
    clear h
    generalize h : X17.alloc _ = V18
    replace B := B.mv2.mk1 hz h
    clear h
    clear hz
    have c19 := B.mv1.S.cs B.F.rb; have c20 := B.cr
    go_wp2_with fail
    exact Br.fin (.mk n.k n.n n.s n.q [p]) B.ko p9 Q.pr rfl rfl
 · have e4 : (E.P.K s.i == 4) = false := by simp [h4]
   have H4 := lh h4
   clear h4
   go_upto_region 2 with (go_at_call 102; refine B.now ?_; clear B; intro u21 B; have f22 := tk_fields E.P s.i)
   clear f22
   go_upto_region 3 with (go_at_call 154; refine B.nd Q HAPAT ?_; clear B Q; intro u23 n aon capn s24 _ B Q)
   generalize hb : u23.heap.size = b26
   generalize h : u23.alloc _ = V25
   replace B := B.box h hb
   clear h hb
   go_upto_region 4 with (go_at_call 180; refine B.ask ((hbegun E d).out _ _ B.F.R) ?_; clear B; intro u27 B)
   generalize hb : (decide (s24.k = 0) && begunB E.P s24.i) = b
   have HBB := lh hb
   clear hb
   replace Q : Qr T (pure n : M Ty) s24 := ⟨by
    rw [Q.eq]
    by_cases hs : s24.k = 0
    · rw [rn_good hs, rn_good hs]; exact if_neg (fun h => H4.out h.1)
    · rw [rn_lost hs, rn_lost hs]⟩
   go_upto_region 7 with fail
   have c28 := B.S.cs B.F.rb; have c29 := B.cr
   go_wp2_with fail
   exact Br.fin (n) B.mv1 p9 Q.pr rfl rfl
theorem sepL_acc (P : Src) (item : M Ty) (sg : ByteArray) (hst : ∀ i x j, item i = .ok x j → i + 1 ≤ j) : ∀ (f f2 : Nat) (acc : List Ty) (i : Nat), P.toks.length ≤ i + f → P.toks.length ≤ i + f2 → sepL P item sg f acc i = (sepL P item sg f2 [] >>= fun l => (ret (acc ++ l) : M _)) i
 | f, f2, acc, i, h1, h2 => by
  by_cases hc : isD P sg i = true
  · have hlt := isD_lt hc
    obtain ⟨f, rfl⟩ : ∃ f', f = f' + 1 := ⟨f - 1, by omega⟩
    obtain ⟨f2, rfl⟩ : ∃ f', f2 = f' + 1 := ⟨f2 - 1, by omega⟩
    show _ = bnd (sepL P item sg (f2 + 1) []) _ i
    unfold bnd
    rw [sepL_at, sepL_at, if_pos hc, if_pos hc]
    cases hx : item (i + 1) with
    | bad a b => rw [bind_bad hx, bind_bad hx]
    | ok x j =>
     rw [bind_ok hx, bind_ok hx]
     have hj := hst _ _ _ hx
     rw [sepL_acc P item sg hst f P.toks.length (acc ++ [x]) j (by omega) (by omega), sepL_acc P item sg hst f2 P.toks.length ([] ++ [x]) j (by omega) (by omega)]
     have e9 : ∀ acc' : List Ty, (sepL P item sg P.toks.length [] >>= fun l => (ret (acc' ++ l) : M _)) j = match sepL P item sg P.toks.length [] j with | Res.bad a b => Res.bad a b | Res.ok l m => Res.ok (acc' ++ l) m := fun acc' => by
      show bnd (sepL P item sg P.toks.length []) _ j = _
      unfold bnd
      cases sepL P item sg P.toks.length [] j <;> rfl
     rw [e9, e9]
     cases sepL P item sg P.toks.length [] j with
     | bad a b => rfl
     | ok l m =>
      show Res.ok _ m = Res.ok _ m
      simp
  · have e : ∀ f acc, sepL P item sg f acc i = .ok acc i := fun f acc => by
     cases f with
     | zero => rfl
     | succ f => rw [sepL_at, if_neg hc]
    show _ = bnd (sepL P item sg f2 []) _ i
    unfold bnd
    rw [e, e]
    show Res.ok acc i = Res.ok (acc ++ []) i
    rw [List.append_nil]
termination_by f f2 acc i => P.toks.length - i
theorem consesD_cons (a : Ty) (l : List Ty) (h : l ≠ []) : consesD (a :: l) = .mk 27 a.n ⟨#[]⟩ 0 [a, consesD l] := by
 cases l with
 | nil => exact absurd rfl h
 | cons b r => rfl
theorem pat_eq (E : Env) (g : Nat) : patB E.P (recS E.P g) = (cpatB E.P (recS E.P g) >>= fun a => eatD E.P s_cons >>= fun c => if c = true then (patB E.P (recS E.P g) >>= fun b => (pure (.mk 27 a.n ⟨#[]⟩ 0 [a, b]) : M Ty)) else (pure a : M Ty)) := by
 funext i
 have hst : ∀ i x j, cpatB E.P (recS E.P g) i = .ok x j → i + 1 ≤ j := fun i x j e => st_cpat E.P _ (st_rec E.P g).2 i x j e
 have e0 : ∀ i, patB E.P (recS E.P g) i = match cpatB E.P (recS E.P g) i with | .bad k a => .bad k a | .ok x j => (sepL E.P (cpatB E.P (recS E.P g)) s_cons (E.P.toks.length + 1) [x] >>= fun l => (ret (consesD l) : M Ty)) j := fun i => by
  show bnd (bnd (cpatB E.P (recS E.P g)) _) _ i = _
  unfold bnd
  cases cpatB E.P (recS E.P g) i <;> rfl
 rw [e0]
 cases hx : cpatB E.P (recS E.P g) i with
 | bad k a => rw [bind_bad hx]
 | ok x j =>
  rw [bind_ok hx]
  dsimp only
  have hj := hst _ _ _ hx
  have e1 : ∀ (f : Nat) (l : List Ty) (i : Nat), (sepL E.P (cpatB E.P (recS E.P g)) s_cons f l >>= fun l => (ret (consesD l) : M Ty)) i = match sepL E.P (cpatB E.P (recS E.P g)) s_cons f l i with | .bad k a => .bad k a | .ok l j => .ok (consesD l) j := fun f l i => by
   show bnd (sepL E.P (cpatB E.P (recS E.P g)) s_cons f l) _ i = _
   unfold bnd
   cases sepL E.P (cpatB E.P (recS E.P g)) s_cons f l i <;> rfl
  have e2 : ∀ (f : Nat) (l m : List Ty) (i : Nat), (sepL E.P (cpatB E.P (recS E.P g)) s_cons f l >>= fun l => (ret (m ++ l) : M (List Ty))) i = match sepL E.P (cpatB E.P (recS E.P g)) s_cons f l i with | .bad k a => .bad k a | .ok l j => .ok (m ++ l) j := fun f l m i => by
   show bnd (sepL E.P (cpatB E.P (recS E.P g)) s_cons f l) _ i = _
   unfold bnd
   cases sepL E.P (cpatB E.P (recS E.P g)) s_cons f l i <;> rfl
  rw [eat_if, e1]
  by_cases hc : isD E.P s_cons j = true
  · rw [if_pos hc, sepL_at, if_pos hc, if_pos rfl]
    cases hy : cpatB E.P (recS E.P g) (j + 1) with
    | bad k a =>
     have e8 : patB E.P (recS E.P g) (j + 1) = .bad k a := by rw [e0, hy]
     rw [bind_bad hy, bind_bad e8]
    | ok y m =>
     have e8 : patB E.P (recS E.P g) (j + 1) = (sepL E.P (cpatB E.P (recS E.P g)) s_cons (E.P.toks.length + 1) [y] >>= fun l => (ret (consesD l) : M Ty)) m := by rw [e0, hy]
     rw [bind_ok hy]
     show _ = bnd (patB E.P (recS E.P g)) _ (j + 1)
     unfold bnd
     rw [e8]
     have hm := hst _ _ _ hy
     rw [sepL_acc E.P _ s_cons hst E.P.toks.length E.P.toks.length ([x] ++ [y]) m (by omega) (by omega), e2, e1, sepL_acc E.P _ s_cons hst (E.P.toks.length + 1) E.P.toks.length [y] m (by omega) (by omega), e2]
     cases sepL E.P (cpatB E.P (recS E.P g)) s_cons E.P.toks.length [] m with
     | bad k a => rfl
     | ok l q =>
      dsimp only
      have e3 : consesD ([x] ++ [y] ++ l) = .mk 27 x.n ⟨#[]⟩ 0 [x, consesD ([y] ++ l)] := consesD_cons x (y :: l) (by simp)
      rw [e3]
      rfl
  · rw [if_neg hc, sepL_at, if_neg hc, if_neg Bool.false_ne_true]
    rfl
theorem cconses_step (E : Env) (g : Nat) (RA : RAll E g) (w : World) (s : RS) (m : Nat) (hm : s.k = 0 → E.P.toks.length < s.i + m) (IH : ∀ m', m = m' + 1 → ∀ w1 s1, Rr E w1 s1 (60 - g) → (s1.k = 0 → E.P.toks.length < s1.i + m') → Calls Tryz.prog 110 #[pr E] w1 (RPost E (60 - g) w1 (rn (patB E.P (recS E.P g)) s1) (NdQ w1))) (h : Rr E w s (60 - g)) : Calls Tryz.prog 110 #[pr E] w (RPost E (60 - g) w (rn (patB E.P (recS E.P g)) s) (NdQ w)) := by
 rw [show rn (patB E.P (recS E.P g)) s = rn ((cpatB E.P (recS E.P g) >>= fun a => eatD E.P s_cons >>= fun c => if c = true then (patB E.P (recS E.P g) >>= fun b => (pure (.mk 27 a.n ⟨#[]⟩ 0 [a, b]) : M Ty)) else (pure a : M Ty))) s from congrArg (fun m => rn m s) (pat_eq E g)]
 refine Br.go (m := (cpatB E.P (recS E.P g) >>= fun a => eatD E.P s_cons >>= fun c => if c = true then (patB E.P (recS E.P g) >>= fun b => (pure (.mk 27 a.n ⟨#[]⟩ 0 [a, b]) : M Ty)) else (pure a : M Ty))) h RA ?_
 intro d T W R hW B Q hlr hN
 have HCPAT := at_d R.hd (ccpat_any E g RA)
 have HST := lh (show ∀ i x j, cpatB E.P (recS E.P g) i = .ok x j → i + 1 ≤ j from fun i x j e => st_cpat E.P _ (st_rec E.P g).2 i x j e)
 have HM := lh hm
 have HIH := lh IH
 have HLE := lh h.le
 rw [← R.hd] at HIH
 clear h RA IH hm
 unfold pr at HCPAT HIH ⊢
 go_enter Tryz.func110, Tryz.ntmps110
 obtain ⟨Q9, p9⟩ := Po9.ex Tryz.f110 E d w T (NdQ w)
 rw [p9.eq]
 go_upto_region 1 with fail
 clear hW
 go_upto_region 2 with (go_at_call 156; refine B.nd Q HCPAT ?_; clear B Q; intro u1 n aon capn s2 hl B Q; have HRL := lh hl; clear hl)
 generalize hb : u1.heap.size = b4
 generalize h : u1.alloc _ = V3
 replace B := B.box h hb
 clear h hb
 obtain ⟨b5, P⟩ := B.eatd (sg := s_cons) Q
 clear B Q
 cases b5 with
 | true =>
  go_upto_region 5 with (go_at_call 153; refine P.t ?_; clear P; intro u6 B Q gd)
  have HPR : Hid (∀ w1, Rr E w1 (stp s2) d → Calls Tryz.prog 110 #[.pointer (some ⟨E.rb, 0, none⟩)] w1 (RPost E d w1 (rn (patB E.P (recS E.P g)) (stp s2)) (NdQ w1))) := lh (fun w1 h1 => HIH.out (m - 1) (by have h2 := rl_back HRL.out gd; have := HM.out h2; have := HLE.out; omega) w1 _ h1 (fun h0 => by have h2 := rl_back HRL.out h0; have h3 := HM.out h2; have h4 := rl_step HST.out h2 HRL.out h0; have := HLE.out; show _ < s2.i + 1 + (m - 1); omega))
  clear gd
  go_upto_region 6 with (go_at_call 110; refine B.ndc (HPR.out _ B.F.R) ?_; clear B; intro u7 b aob capb s8 hl B; replace Q := Q.rd hl; clear hl)
  generalize hb : u7.heap.size = b10
  generalize h : u7.alloc _ = V9
  replace B := B.box h hb
  clear h hb
  have c11 := B.mv2.S.cs B.F.rb; have c12 := B.S.cs B.F.rb
  go_wp2_with (go_at_call 54; generalize h : V9.alloc _ = V13; replace B := B.mv1.mv3.mk2 rfl h; clear h; refine B.node ?_; clear B; intro u14 B; have c15 := B.cr)
  exact Br.fin (.mk 27 n.n ⟨#[]⟩ 0 [n, b]) B.ko p9 Q.pr rfl rfl
 | false =>
  go_upto_region 4 with (go_at_call 153; refine P.f ?_; clear P; intro u16 B Q)
  have c17 := B.S.cs B.F.rb; have c18 := B.cr
  go_wp2_with fail
  exact Br.fin (n) B.mv1 p9 Q.pr rfl rfl
theorem cconses_f (E : Env) (g : Nat) (RA : RAll E g) : ∀ (f : Nat) (w : World) (s : RS), Rr E w s (60 - g) → (s.k = 0 → E.P.toks.length < s.i + f) → Calls Tryz.prog 110 #[pr E] w (RPost E (60 - g) w (rn (patB E.P (recS E.P g)) s) (NdQ w))
 | 0, w, s, h, hf => cconses_step E g RA w s 0 hf (fun f' e => by omega) h
 | f + 1, w, s, h, hf => cconses_step E g RA w s (f + 1) hf (fun f' e w1 s1 h1 h2 => by
  obtain rfl : f = f' := by omega
  exact cconses_f E g RA f w1 s1 h1 h2) h
theorem cconses_any : CtN 110 fun E g => patB E.P (recS E.P g) := fun E g RA w s h => cconses_f E g RA (E.P.toks.length + 1) w s h (fun _ => by omega)
end Go.Proofs.YthehjeeiodbkjaaGreatDoor
