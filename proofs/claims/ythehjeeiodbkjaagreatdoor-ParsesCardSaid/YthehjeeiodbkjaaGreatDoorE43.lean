/-
  Proved: the contract of the reader's prefix; the contract of the reader's apply; the contract of the reader's between. Conditions: the reader as it stands in memory; what the reader reads within.
-/
import Derived.Test.YthehjeeiodbkjaaGreatDoorE27
import Derived.Test.YthehjeeiodbkjaaGreatDoorE40
set_option linter.unusedSimpArgs false
set_option linter.unusedVariables false
set_option maxRecDepth 100000
set_option maxHeartbeats 16000000
namespace Go.Proofs.YthehjeeiodbkjaaGreatDoor
open Go.RowKit
/-- signs, by their places, ahead of an operand -/
def sgD (P : Src) (js : List Nat) (n : Ty) : Ty := js.foldr (fun j n => .mk 18 (P.A j) (P.T j) 0 [n]) n
def tkL (P : Src) : List Nat → List Value
 | [] => []
 | j :: js => [.int .i64 (P.K j), .int .i64 (P.A j : Int), .string (P.T j), .int .i64 (P.N j : Int)] ++ tkL P js
theorem tkL_app (P : Src) : ∀ (js ks : List Nat), tkL P (js ++ ks) = tkL P js ++ tkL P ks
 | [], ks => rfl
 | j :: js, ks => by rw [List.cons_append, tkL, tkL, tkL_app P js ks, List.append_assoc]
theorem tkL_get (P : Src) : ∀ {js : List Nat} {m c : Nat} (h : m < js.length), c < 4 → (tkL P js)[m * 4 + c]? = [.int .i64 (P.K js[m]), .int .i64 (P.A js[m] : Int), .string (P.T js[m]), .int .i64 (P.N js[m] : Int)][c]?
 | [], m, c, h, _ => by simp at h
 | j :: js, 0, c, h, hc => by rw [tkL, Nat.zero_mul, Nat.zero_add, List.getElem?_append_left (by simpa using hc)]; rfl
 | j :: js, m + 1, c, h, hc => by
  rw [tkL, List.getElem?_append_right (by simp; omega)]
  have e : (m + 1) * 4 + c - [Value.int .i64 (P.K j), .int .i64 (P.A j : Int), .string (P.T j), .int .i64 (P.N j : Int)].length = m * 4 + c := by simp; omega
  rw [e, tkL_get P (js := js) (by simpa using h) hc]
  rfl
def mapR (g : Ty → Ty) : Res Ty → Res Ty
 | .bad k a => .bad k a
 | .ok x j => .ok (g x) j
theorem mapR_bind (g : Ty → Ty) (m : M Ty) (j : Nat) : mapR g (m j) = (m >>= fun x => ret (g x)) j := by
 show _ = bnd m (fun x => ret (g x)) j
 unfold bnd
 cases m j <;> rfl
theorem prefixL_at (P : Src) (R : Rec) (f j : Nat) : prefixL P R (f + 1) j = if isD P s_ti j = true ∨ isD P s_ex j = true then (prefixL P R f >>= fun n => ret (.mk 18 (P.A j) (P.T j) 0 [n])) (j + 1) else atomB P R j := rfl
theorem sign_more (P : Src) (R : Rec) (js : List Nat) (f j : Nat) (h : isD P s_ti j = true ∨ isD P s_ex j = true) : mapR (sgD P js) (prefixL P R (f + 1) j) = mapR (sgD P (js ++ [j])) (prefixL P R f (j + 1)) := by
 rw [prefixL_at, if_pos h]
 show mapR _ (bnd (prefixL P R f) (fun n => ret (.mk 18 (P.A j) (P.T j) 0 [n])) (j + 1)) = _
 unfold bnd
 cases prefixL P R f (j + 1) with
 | bad k a => rfl
 | ok x m => show Res.ok _ _ = Res.ok _ _; unfold sgD; rw [List.foldr_append]; rfl
theorem sign_none (P : Src) (R : Rec) (js : List Nat) (f j : Nat) (h : isD P s_ti j = false) (h2 : isD P s_ex j = false) : mapR (sgD P js) (prefixL P R (f + 1) j) = (atomB P R >>= fun n => ret (sgD P js n)) j := by
 rw [prefixL_at, if_neg (by rw [h, h2]; decide)]
 exact mapR_bind _ _ _
theorem sgD_take (P : Src) {js : List Nat} {m : Nat} (h : m < js.length) (n : Ty) : sgD P (js.take (m + 1)) n = sgD P (js.take m) (.mk 18 (P.A js[m]) (P.T js[m]) 0 [n]) := by
 rw [List.take_succ_eq_append_getElem h]
 unfold sgD
 rw [List.foldr_append]
 rfl
theorem pprefix_any : CpN 129 fun E g => prefixB E.P (recS E.P g) := by
 intro E g PA w i h
 refine Bp.go (m := fun q => prefixL E.P (recS E.P g) (E.P.toks.length + 1) q) h PA ?_
 intro d T W R hW B Q hlr hN
 have HATOM := at_p R.hd (fun w j h => patom_any E g PA w j h)
 clear h PA
 unfold pr at HATOM ⊢
 go_enter Tryz.func129, Tryz.ntmps129
 obtain ⟨R9, B9, p9, hq⟩ := Pn9.ex Tryz.f129 E d w T (NdQ w)
 refine wp_mono (Q := PQ R9 B9) ?_ hq
 clear hq
 go_upto_region 1 with fail
 clear hW
 go_wp2_with fail
 go_loopw [3] (fun v wr => ∃ (js : List Nat) (j f : Nat) (ao3 : Option Addr) (cap3 : Nat), v = .slice ao3 js.length cap3 ∧ Qp T (fun q => mapR (sgD E.P js) (prefixL E.P (recS E.P g) f q) : M Ty) j ∧ E.P.toks.length < j + f ∧ js.length ≤ j ∧ Bp E w d wr j [.pw 59 4 (.slice ao3 js.length cap3) (js.length) (tkL E.P js)]) (fun _ wr => E.P.toks.length - posOf wr E.rb)
 case atStart => exact ⟨[], i, E.P.toks.length + 1, none, 0, rfl, ⟨by rw [Q.eq]; cases prefixL E.P (recS E.P g) (E.P.toks.length + 1) i <;> rfl⟩, by omega, by simp, B.nilp 59 4⟩
 case round =>
  clear B Q
  obtain ⟨js, j, f, ao3, cap3, rfl, Q, hf, hl, B⟩ := hrel
  obtain ⟨f, rfl⟩ : ∃ f', f = f' + 1 := ⟨f - 1, by have := B.F.R.le; omega⟩
  have HF := lh hf
  have R0 := lh B.F.R
  have HL : Hid (js.length ≤ j ∧ j ≤ 100000) := lh ⟨hl, Nat.le_trans B.F.R.le hN⟩
  clear hf hl
  cases hs1 : isD E.P s_ti j with
  | true =>
   have HS2 := lh hs1
   clear hs1
   have hsg : isD E.P s_ti j = true ∨ isD E.P s_ex j = true := .inl HS2.out
   have hlt : j + 1 ≤ E.P.toks.length := hsg.elim isD_lt isD_lt
   replace Q : Qp T (fun q => mapR (sgD E.P (js ++ [j])) (prefixL E.P (recS E.P g) f q) : M Ty) (j + 1) := ⟨by rw [Q.eq]; exact sign_more E.P (recS E.P g) js f j hsg⟩
   clear hsg
   go_upto_region 3 with (go_at_call 73; refine B.is1 HS2.out ?_; clear B; intro u3 B)
   go_upto_region 4 with (first | (at_builtin; go_must (refine B.appP Tryz.underlying36 info59p rfl (by decide) (by decide) rfl (.tmp 12) (.tmp 15) rfl rfl rfl rfl rfl (by intro u hu; simp at hu; rcases hu with rfl | rfl | rfl | rfl <;> rfl) (by have := HL.out; omega) ?_); clear B; intro aoL capL u6 B; have c7 := B.F.R.cells) | (go_at_call 35; refine B.pnow ?_; clear B; intro u4 B; have f5 := tk_fields E.P j))
   go_wp2_with fail
   clear f5 c7
   generalize h : u6.setCell _ _ = X8
   replace B := B.seti (j' := j + 1) hlt h rfl
   clear h
   go_roundw
   case rel => exact ⟨js ++ [j], j + 1, f, aoL, capL, by rw [List.length_append]; rfl, Q, by have := HF.out; omega, by rw [List.length_append]; have := HL.out; simp; omega, by rw [List.length_append, tkL_app]; exact B⟩
   case measure => exact pos_less R0.out B.F.R (Nat.le_refl _)
  | false =>
   have HS9 := lh hs1
   clear hs1
   cases hs11 : isD E.P s_ex j with
   | true =>
    have HS12 := lh hs11
    clear hs11
    have hsg : isD E.P s_ti j = true ∨ isD E.P s_ex j = true := .inr HS12.out
    have hlt : j + 1 ≤ E.P.toks.length := hsg.elim isD_lt isD_lt
    replace Q : Qp T (fun q => mapR (sgD E.P (js ++ [j])) (prefixL E.P (recS E.P g) f q) : M Ty) (j + 1) := ⟨by rw [Q.eq]; exact sign_more E.P (recS E.P g) js f j hsg⟩
    clear hsg
    go_upto_region 3 with (first | (go_at_call 73; refine B.is1 HS12.out ?_; clear B; intro u13 B) | (go_at_call 73; refine B.is0 HS9.out ?_; clear B; intro u10 B))
    go_upto_region 4 with (first | (at_builtin; go_must (refine B.appP Tryz.underlying36 info59p rfl (by decide) (by decide) rfl (.tmp 12) (.tmp 15) rfl rfl rfl rfl rfl (by intro u hu; simp at hu; rcases hu with rfl | rfl | rfl | rfl <;> rfl) (by have := HL.out; omega) ?_); clear B; intro aoL capL u16 B; have c17 := B.F.R.cells) | (go_at_call 35; refine B.pnow ?_; clear B; intro u14 B; have f15 := tk_fields E.P j))
    go_wp2_with fail
    clear f15 c17
    generalize h : u16.setCell _ _ = X18
    replace B := B.seti (j' := j + 1) hlt h rfl
    clear h
    go_roundw
    case rel => exact ⟨js ++ [j], j + 1, f, aoL, capL, by rw [List.length_append]; rfl, Q, by have := HF.out; omega, by rw [List.length_append]; have := HL.out; simp; omega, by rw [List.length_append, tkL_app]; exact B⟩
    case measure => exact pos_less R0.out B.F.R (Nat.le_refl _)
   | false =>
    have HS19 := lh hs11
    clear hs11
    replace Q : Qp T (atomB E.P (recS E.P g) >>= fun n => ret (sgD E.P js n)) j := ⟨by rw [Q.eq]; exact sign_none E.P (recS E.P g) js f j HS9.out HS19.out⟩
    go_upto_region 5 with (first | (go_at_call 73; refine B.is0 HS19.out ?_; clear B; intro u20 B) | (go_at_call 73; refine B.is0 HS9.out ?_; clear B; intro u10 B))
    go_upto_region 6 with (go_at_call 165; refine B.pnd Q HATOM p9.bad ?_; clear B Q; intro u21 n aon capn j22 _ B Q)
    generalize hb : u21.heap.size = b24
    generalize h : u21.alloc _ = V23
    replace B := B.box h hb
    clear h hb
    have hl9 : js.length ≤ 100000 := Nat.le_trans HL.out.1 HL.out.2
    go_wp2_with fail
    go_loopw [5] (fun s wr => ∃ (m : Nat) (n : Ty) (ao : Option Addr) (cap : Nat), s = .int .i64 ((m : Int) - 1) ∧ m ≤ js.length ∧ Qp T (pure (sgD E.P (js.take m) n) : M Ty) j22 ∧ Bp E w d wr j22 [.kd n.args ao cap, .nv b24 (.int .i64 n.k) (.int .i64 n.n) (.string n.s) (.int .i64 n.q) (.slice ao n.args.length cap), .pw 59 4 (.slice ao3 js.length cap3) (js.length) (tkL E.P js)]) (fun s _ => (intOf s + 1).toNat)
    case atStart => exact ⟨js.length, n, aon, capn, rfl, Nat.le_refl _, ⟨by rw [List.take_length]; exact Q.eq⟩, B.mv2.mv1.mv2⟩
    case round =>
     clear B Q
     obtain ⟨m, n, ao, cap, rfl, hm, Q, B⟩ := hrel
     cases m with
     | zero =>
      have h1 : decide (((0 : Nat) : Int) - 1 ≥ 0) = false := by decide
      have h2 : decide (0 ≤ ((0 : Nat) : Int) - 1) = false := by decide
      have h3 : ¬ (0 ≤ ((0 : Nat) : Int) - 1) := by decide
      replace Q : Qp T (pure n : M Ty) j22 := ⟨Q.eq⟩
      have c25 := B.mv1.S.cs B.F.rb; have c26 := B.cp
      go_wp2_with fail
      exact Bp.fin (n) B p9 Q.pr rfl rfl
     | succ m =>
      have em : ((m + 1 : Nat) : Int) - 1 = (m : Int) := by omega
      rw [em]
      have HM : Hid (m < js.length) := lh hm
      have h1 : decide ((m : Int) ≥ 0) = true := by simp
      have h2 : (0 : Int) ≤ (m : Int) := by omega
      have h4 : m ≤ 100000 := by omega
      clear em hm
      go_upto_region 9 with fail
      obtain ⟨aA, haA⟩ : ∃ aA, aA = E.P.A (js[m]'HM.out) := ⟨_, rfl⟩
      obtain ⟨tT, htT⟩ : ∃ tT, tT = E.P.T (js[m]'HM.out) := ⟨_, rfl⟩
      have HAA := lh haA
      have HTT := lh htT
      replace Q : Qp T (pure (sgD E.P (js.take m) (.mk 18 aA tT 0 [n])) : M Ty) j22 := ⟨by rw [Q.eq, sgD_take E.P HM.out, haA, htT]⟩
      clear haA htT
      obtain ⟨bta, pta, HXa, t1a, t2a, ixa, HCa⟩ := B.mv2.pel Tryz.underlying36 size59 HM.out
      have t3a : ¬ (bta = b24) := HXa.out _ (by simp [wrs, At.wr])
      have t4a : ¬ (b24 = bta) := fun e => t3a e.symm
      have x1a := HCa.out 1 _ (by rw [tkL_get E.P HM.out (by omega)]; rfl)
      have x2a := HCa.out 2 _ (by rw [tkL_get E.P HM.out (by omega)]; rfl)
      rw [← HAA.out] at x1a
      rw [← HTT.out] at x2a
      have c27 := B.mv1.S.cs B.F.rb
      go_region_law (go_simp; (go_at_call 28; generalize h : wr.alloc _ = V28; replace B := B.mk1 rfl h; clear h; replace B := B.drew; refine B.pnode ?_; clear B; intro u29 B; have c30 := B.mv1.S.cs B.F.rb))
      all_goals
       clear t1a t2a t3a t4a ixa x1a x2a c27 c30
       generalize h : ((((u29.setCell _ _).setCell _ _).setCell _ _).setCell _ _).setCell _ _ = X31
       replace B := B.mv1.sn h
       clear h
       obtain ⟨btb, ptb, HXb, t1b, t2b, ixb, HCb⟩ := B.mv2.pel Tryz.underlying36 size59 HM.out
       have t3b : ¬ (btb = b24) := HXb.out _ (by simp [wrs, At.wr])
       have t4b : ¬ (b24 = btb) := fun e => t3b e.symm
       have x1b := HCb.out 1 _ (by rw [tkL_get E.P HM.out (by omega)]; rfl)
       have x2b := HCb.out 2 _ (by rw [tkL_get E.P HM.out (by omega)]; rfl)
       rw [← HAA.out] at x1b
       rw [← HTT.out] at x2b
       have c32 := B.S.cs B.F.rb
       go_upto_region 8 with fail
       clear t1b t2b t3b t4b ixb x1b x2b c32
       generalize h : X31.setCell _ _ = X33
       replace B := B.s2 h
       clear h
       go_wp2_with fail
       go_roundw
       case rel => exact ⟨m, .mk 18 aA tT 0 [n], (some ⟨wr.heap.size, 0, none⟩), 1, rfl, Nat.le_of_lt HM.out, Q, B.mv2.mv1.mv2.ko⟩
       case measure => (simp [intOf] <;> omega)
theorem applyL_at (P : Src) (R : Rec) (f : Nat) (n : Ty) (i : Nat) : applyL P R (f + 1) n i = if beginsB P i = true then (prefixB P R >>= fun b => applyL P R f (.mk 8 n.n ⟨#[]⟩ 0 [n, b])) i else .ok n i := rfl
theorem papply_any : CpN 78 fun E g => applyB E.P (recS E.P g) := by
 intro E g PA w i h
 refine Bp.go (m := prefixB E.P (recS E.P g) >>= fun n => applyL E.P (recS E.P g) (E.P.toks.length + 1) n) h PA ?_
 intro d T W R hW B Q hlr hN
 have HPRE := at_p R.hd (fun w j h => pprefix_any E g PA w j h)
 have HST := lh (show ∀ i x j, prefixB E.P (recS E.P g) i = .ok x j → i + 1 ≤ j from st_prefix E.P _ (st_rec E.P g).2)
 clear h PA
 unfold pr at HPRE ⊢
 go_enter Tryz.func78, Tryz.ntmps78
 obtain ⟨R9, B9, p9, hq⟩ := Pn9.ex Tryz.f78 E d w T (NdQ w)
 refine wp_mono (Q := PQ R9 B9) ?_ hq
 clear hq
 go_upto_region 1 with fail
 clear hW
 go_upto_region 2 with (go_at_call 129; refine B.pnd Q HPRE p9.bad ?_; clear B Q; intro u1 n aon capn j2 _ B Q)
 generalize hb : u1.heap.size = b4
 generalize h : u1.alloc _ = V3
 replace B := B.box h hb
 clear h hb
 go_loopw [] (fun wr => ∃ (n : Ty) (j f : Nat) (ao : Option Addr) (cap : Nat), Qp T (applyL E.P (recS E.P g) f n) j ∧ E.P.toks.length < j + f ∧ Bp E w d wr j [.kd n.args ao cap, .nv b4 (.int .i64 n.k) (.int .i64 n.n) (.string n.s) (.int .i64 n.q) (.slice ao n.args.length cap)]) (fun wr => E.P.toks.length - posOf wr E.rb)
 case atStart => exact ⟨n, _, _, aon, capn, Q, by omega, B.mv1⟩
 case round =>
  clear B Q
  obtain ⟨m, j, f, ao, cap, Q, hf, B⟩ := hrel
  obtain ⟨f, rfl⟩ : ∃ f', f = f' + 1 := ⟨f - 1, by have := B.F.R.le; omega⟩
  have HF := lh hf
  have R0 := lh B.F.R
  clear hf
  cases hb : beginsB E.P j with
  | false =>
   have HB := lh hb
   clear hb
   replace Q : Qp T (pure m : M Ty) j := ⟨by rw [Q.eq, applyL_at, if_neg (by rw [HB.out]; decide)]; rfl⟩
   go_wp2_with (go_at_call 130; refine B.ask (x := .bool false) (by have h := begins_any E _ j d B.F.R; rw [HB.out] at h; exact h) ?_; clear B; intro u5 B; have c6 := B.mv1.S.cs B.F.rb; have c7 := B.cp)
   exact Bp.fin (m) B p9 Q.pr rfl rfl
  | true =>
   have HB := lh hb
   clear hb
   replace Q : Qp T (prefixB E.P (recS E.P g) >>= fun b => applyL E.P (recS E.P g) f (.mk 8 m.n ⟨#[]⟩ 0 [m, b])) j := ⟨by rw [Q.eq, applyL_at, if_pos HB.out]⟩
   go_upto_region 3 with (go_at_call 130; refine B.ask (x := .bool true) (by have h := begins_any E _ j d B.F.R; rw [HB.out] at h; exact h) ?_; clear B; intro u8 B)
   have c9 := B.mv1.S.cs B.F.rb
   replace B := B.drew
   go_region_law (go_simp; first | (go_at_call 28; generalize h : u10.alloc _ = V13; replace B := B.mv1.mk2 rfl h; clear h; refine B.pnode ?_; clear B; intro u14 B; have c15 := B.mv1.S.cs B.F.rb) | (go_at_call 129; refine B.pnd Q HPRE p9.bad ?_; clear B Q; intro u10 b aob capb j11 hx B Q; have LXb := lh hx; clear hx; have c12 := B.mv2.S.cs B.F.rb))
   all_goals
    clear c9 c12 c15
    generalize h : ((((u14.setCell _ _).setCell _ _).setCell _ _).setCell _ _).setCell _ _ = X16
    replace B := B.mv1.sn h
    clear h
    have LS := lh (HST.out _ _ _ LXb.out)
    go_roundw
    case rel => first | exact ⟨.mk 8 m.n ⟨#[]⟩ 0 [m, b], j11, f, (some ⟨u10.heap.size, 0, none⟩), 2, Q, by have := LS.out; have := HF.out; omega, B.mv1.ko⟩ | ((repeat apply Exists.intro); exact ⟨⟨.mk 8 m.n ⟨#[]⟩ 0 [m, b], j11, f, (some ⟨u10.heap.size, 0, none⟩), 2, Q, by have := LS.out; have := HF.out; omega, B.mv1.ko⟩, rfl⟩)
    case measure => exact pos_less R0.out B.F.R LS.out
def finD (k : Nat) (a : Ty) (l : List (ByteArray × Ty)) : Ty := if k = 3 then foldR a l else foldLd a l
theorem colL_at (P : Src) (k : Nat) (item : M Ty) (f : Nat) (acc : List (ByteArray × Ty)) (i : Nat) : colL P k item (f + 1) acc i = if (acc.length = 0 ∨ neverB k = false) ∧ oneD P (lvL k) i = true then (item >>= fun x => colL P k item f (acc ++ [(P.T i, x)])) (i + 1) else .ok acc i := rfl
theorem side_never {k : Nat} (hk : k ≤ 6) : (sideT (6 - k) != 0) = (neverB (k + 1) == false) := by
 rcases (by omega : k = 0 ∨ k = 1 ∨ k = 2 ∨ k = 3 ∨ k = 4 ∨ k = 5 ∨ k = 6) with rfl | rfl | rfl | rfl | rfl | rfl | rfl <;> rfl
theorem side_right {k : Nat} (hk : k ≤ 6) : (sideT (6 - k) == 2) = decide (k + 1 = 3) := by
 rcases (by omega : k = 0 ∨ k = 1 ∨ k = 2 ∨ k = 3 ∨ k = 4 ∨ k = 5 ∨ k = 6) with rfl | rfl | rfl | rfl | rfl | rfl | rfl <;> rfl
def strs (ps : List (ByteArray × Ty)) : List Value := ps.map fun p => .string p.1
theorem strs_app (ps : List (ByteArray × Ty)) (p : ByteArray × Ty) : strs (ps ++ [p]) = strs ps ++ [.string p.1] := by simp [strs]
def its (a : Ty) (ps : List (ByteArray × Ty)) : List Ty := a :: ps.map Prod.snd
theorem its_len (a : Ty) (ps : List (ByteArray × Ty)) : (its a ps).length = ps.length + 1 := by simp [its]
theorem its_app (a : Ty) (ps : List (ByteArray × Ty)) (p : ByteArray × Ty) : its a (ps ++ [p]) = its a ps ++ [p.2] := by simp [its]
theorem its_succ (a : Ty) (ps : List (ByteArray × Ty)) {m : Nat} (h : m < ps.length) : (its a ps)[m + 1]'(by rw [its_len]; omega) = ps[m].2 := by simp [its]
theorem foldR_step (a : Ty) (ps : List (ByteArray × Ty)) {m : Nat} (h : m < ps.length) : foldR ((its a ps)[m]'(by rw [its_len]; omega)) (ps.drop m) = joinD ps[m].1 ((its a ps)[m]'(by rw [its_len]; omega)) (foldR ((its a ps)[m + 1]'(by rw [its_len]; omega)) (ps.drop (m + 1))) := by
 rw [List.drop_eq_getElem_cons h, its_succ a ps h]
 rfl
theorem foldL_step (a : Ty) (ps : List (ByteArray × Ty)) {m : Nat} (h : m < ps.length) : foldLd a (ps.take (m + 1)) = joinD ps[m].1 (foldLd a (ps.take m)) ((its a ps)[m + 1]'(by rw [its_len]; omega)) := by
 rw [List.take_succ_eq_append_getElem h, its_succ a ps h]
 unfold foldLd
 rw [List.foldl_append]
 rfl
theorem joinD_args (s : ByteArray) (a b : Ty) : (joinD s a b).args = [a, b] := by unfold joinD; split; rfl; split <;> rfl
theorem size9 (w : World) : (sizeOf 9).run Tryz.prog w = .ok 1 w := by kernel_rfl
theorem between_step (E : Env) (g : Nat) (PA : PAll E g) (w : World) (i : Nat) (k : Nat) (hk : k ≤ 6) (IH : ∀ (w : World) (i : Nat), Rd E w i (60 - g) → Calls Tryz.prog 41 #[pr E, .int .i64 ((7 - k : Nat) : Int)] w (PPost E (60 - g) w ((betB E.P (recS E.P g) k) i) (NdQ w))) (h : Rd E w i (60 - g)) : Calls Tryz.prog 41 #[pr E, .int .i64 ((7 - (k + 1) : Nat) : Int)] w (PPost E (60 - g) w ((betB E.P (recS E.P g) (k + 1)) i) (NdQ w)) := by
 obtain ⟨lv, hlv⟩ : ∃ lv, lv = 7 - (k + 1) := ⟨_, rfl⟩
 rw [← hlv]
 have hlk : lv = 6 - k := by omega
 refine Bp.go (m := betB E.P (recS E.P g) k >>= fun u0 => colL E.P (k + 1) (betB E.P (recS E.P g) k) (E.P.toks.length + 1) [] >>= (fun l => (pure (finD (k + 1) u0 l) : M Ty))) h PA ?_
 intro d T W R hW B Q hlr hN
 have HGL := lh (fun (w1 : World) j d (h1 : Rd E w1 j d) => (h1.gl.1 lv (by omega)).2)
 have HST := lh (show ∀ i x j, betB E.P (recS E.P g) k i = .ok x j → i + 1 ≤ j from fun i x j e => st_bet E.P _ (st_rec E.P g).2 k i x j e)
 have HSN := lh (show (sideT lv != 0) = (neverB (k + 1) == false) by rw [hlk]; exact side_never hk)
 have HSR := lh (show (sideT lv == 2) = decide (k + 1 = 3) by rw [hlk]; exact side_right hk)
 have v0 := (show (0 : Int) ≤ (lv : Int) by omega)
 have v1 := (show (lv : Int) < 7 by omega)
 have v7 := (show ((lv : Int) == 7) = false by simp; omega)
 have HSG := lh (fun (w1 : World) j (h1 : Rd E w1 j d) => by have h2 := sign_any E w1 j d lv h1 (by omega); rw [show 7 - lv = k + 1 from by omega] at h2; exact h2)
 have HITEM := at_p R.hd IH
 rw [show ((7 - k : Nat) : Int) = (lv : Int) + 1 from by omega] at HITEM
 clear h PA IH hlv hlk hk
 unfold pr at HSG HITEM ⊢
 go_enter_defers Tryz.func41, Tryz.ntmps41
 obtain ⟨R9, B9, p9, hq⟩ := Pf9.ex Tryz.f41 E d w T
 refine wp_mono (Q := PQ R9 B9) ?_ hq
 clear hq
 go_upto_region 1 with fail
 clear hW
 go_upto_region 3 with fail
 go_upto_region 4 with (go_at_call 41; refine B.pnd Q HITEM p9.badN ?_; clear B Q; intro u1 u0 aou0 capu0 j2 _ B Q)
 generalize h : u1.alloc _ = V3
 replace B := B.mk1 rfl h
 clear h
 go_upto_block 0 with fail
 go_cut [5, 6] from 23 to 51 (fun v5 v6 wx => ∃ (ps : List (ByteArray × Ty)) (j : Nat) (ao bo : Option Addr) (cap cb : Nat), v5 = .slice ao (its u0 ps).length cap ∧ v6 = .slice bo ps.length cb ∧ Qp T (pure (finD (k + 1) u0 ps) : M Ty) j ∧ ps.length ≤ 100000 ∧ Bp E w d wx j [.kd (its u0 ps) ao cap, .pw 9 1 (.slice bo ps.length cb) (ps.length) (strs ps)])
 case first =>
  go_wp2_with fail
  go_loopw [5, 6] (fun v5 v6 wr => ∃ (ps : List (ByteArray × Ty)) (j f : Nat) (ao bo : Option Addr) (cap cb : Nat), v5 = .slice ao (its u0 ps).length cap ∧ v6 = .slice bo ps.length cb ∧ Qp T (colL E.P (k + 1) (betB E.P (recS E.P g) k) f ps >>= (fun l => (pure (finD (k + 1) u0 l) : M Ty))) j ∧ E.P.toks.length < j + f ∧ ps.length ≤ j ∧ Bp E w d wr j [.ow (.slice ao (its u0 ps).length cap) (its u0 ps), .pw 9 1 (.slice bo ps.length cb) (ps.length) (strs ps)]) (fun _ _ wr => E.P.toks.length - posOf wr E.rb)
  case atStart => exact ⟨[], j2, E.P.toks.length + 1, (some ⟨u1.heap.size, 0, none⟩), none, 1, 0, rfl, rfl, Q, by omega, by simp, (B.nilp 9 1).mv1⟩
  case round =>
   clear B Q
   obtain ⟨ps, j, f, ao, bo, cap, cb, rfl, rfl, Q, hf, hl, B⟩ := hrel
   obtain ⟨f, rfl⟩ : ∃ f', f = f' + 1 := ⟨f - 1, by have := B.F.R.le; omega⟩
   have HF := lh hf
   have R0 := lh B.F.R
   have HL : Hid (ps.length ≤ j ∧ j ≤ 100000) := lh ⟨hl, Nat.le_trans B.F.R.le hN⟩
   clear hf hl
   have il := its_len u0 ps
   have HIL := lh il
   clear il
   obtain ⟨q, hq⟩ : ∃ q, q = decide (ps.length = 0 ∨ neverB (k + 1) = false) := ⟨_, rfl⟩
   have HQ := lh hq
   clear hq
   go_upto_region 5 with fail
   have gl := HGL.out wr j d B.F.R
   have hlen9 : (its u0 ps).length ≤ 100001 := by rw [HIL.out]; have := HL.out; omega
   go_cut [32] from 23 to 51 (fun v wx => v = .bool q ∧ Bp E w d wx j [.ow (.slice ao (its u0 ps).length cap) (its u0 ps), .pw 9 1 (.slice bo ps.length cb) (ps.length) (strs ps)])
   case first =>
    by_cases h0 : ps.length = 0
    · have e1 : (((its u0 ps).length : Int) == 1) = true := by rw [HIL.out, h0]; rfl
      have H0 := lh h0
      clear h0
      go_wp2_with fail
      go_meet
      exact ⟨by rw [HQ.out, H0.out]; rfl, B⟩
    · have e1 : (((its u0 ps).length : Int) == 1) = false := by rw [HIL.out]; simp; omega
      have H0 := lh h0
      clear h0
      cases hn : neverB (k + 1) with
      | true =>
       have e2 : (sideT lv != 0) = false := by rw [HSN.out, hn]; rfl
       have HN9 := lh hn
       clear hn
       go_wp2_with fail
       go_meet
       exact ⟨by rw [HQ.out, HN9.out]; simp [H0.out], B⟩
      | false =>
       have e2 : (sideT lv != 0) = true := by rw [HSN.out, hn]; rfl
       have HN9 := lh hn
       clear hn
       go_wp2_with fail
       go_meet
       exact ⟨by rw [HQ.out, HN9.out]; simp, B⟩
   case rest =>
    replace B := hcut.2
    obtain ⟨rfl, -⟩ := hcut
    clear gl
    cases q with
    | false =>
     replace Q : Qp T (pure (finD (k + 1) u0 ps) : M Ty) j := ⟨by rw [Q.eq]; show bnd (colL E.P (k + 1) (betB E.P (recS E.P g) k) (f + 1) ps) (fun l => (pure (finD (k + 1) u0 l) : M Ty)) j = _; unfold bnd; rw [colL_at, if_neg (fun h => absurd (decide_eq_true h.1) (by rw [← HQ.out]; decide))]⟩
     go_wp2_with fail
     go_meet
     exact ⟨ps, j, ao, bo, cap, cb, rfl, rfl, Q, by have := HL.out; omega, B.ko⟩
    | true =>
     have HE := lh (HSG.out wc j B.F.R)
     cases hb : oneD E.P (lvL (k + 1)) j with
     | false =>
      have HB9 := lh hb
      clear hb
      replace Q : Qp T (pure (finD (k + 1) u0 ps) : M Ty) j := ⟨by rw [Q.eq]; show bnd (colL E.P (k + 1) (betB E.P (recS E.P g) k) (f + 1) ps) (fun l => (pure (finD (k + 1) u0 l) : M Ty)) j = _; unfold bnd; rw [colL_at, if_neg (fun h => absurd h.2 (by rw [HB9.out]; decide))]⟩
      go_wp2_with (go_at_call 79; refine HE.out.mono ?_; rintro e u4 ⟨rfl, hr, hg⟩; replace B := B.gr (s' := j) hg (by rw [HB9.out] at hr; exact hr); rw [HB9.out]; clear hr hg)
      go_meet
      exact ⟨ps, j, ao, bo, cap, cb, rfl, rfl, Q, by have := HL.out; omega, B.ko⟩
     | true =>
      have HB9 := lh hb
      replace Q : Qp T (betB E.P (recS E.P g) k >>= fun x => colL E.P (k + 1) (betB E.P (recS E.P g) k) f (ps ++ [(E.P.T j, x)]) >>= (fun l => (pure (finD (k + 1) u0 l) : M Ty))) (j + 1) := ⟨by
       rw [Q.eq]
       show bnd (colL E.P (k + 1) (betB E.P (recS E.P g) k) (f + 1) ps) (fun l => (pure (finD (k + 1) u0 l) : M Ty)) j = _
       unfold bnd
       rw [colL_at, if_pos ⟨of_decide_eq_true HQ.out.symm, hb⟩]
       cases hx : (betB E.P (recS E.P g) k) (j + 1) with
       | bad k a => rw [bind_bad hx, bind_bad hx]
       | ok x m => rw [bind_ok hx, bind_ok hx]; rfl⟩
      clear hb
      obtain ⟨sT, hsT⟩ : ∃ sT, sT = E.P.T j := ⟨_, rfl⟩
      rw [← hsT] at HE Q
      clear hsT
      go_upto_region 8 with (go_at_call 79; refine HE.out.mono ?_; rintro e u5 ⟨rfl, hr, hg⟩; replace B := B.gr (s' := (j + 1)) hg (by rw [HB9.out] at hr; exact hr); rw [HB9.out]; clear hr hg)
      go_upto_region 9 with (at_builtin; go_must (refine B.mv1.appP Tryz.underlying44 info9p rfl (by decide) (by decide) rfl (.tmp 41) (.tmp 43) rfl rfl rfl rfl rfl (by intro u hu; simp at hu; subst hu; rfl) (by have := HL.out; omega) ?_); clear B; intro bo2 cb2 u6 B)
      go_wp2_with (first | (at_builtin; generalize h : u7.alloc _ = V9; replace B := B.mk1 rfl h; clear h; go_must (refine B.mv2.app rfl _ _ rfl rfl rfl (by rw [HIL.out]; have := HL.out; simp; omega) ?_); clear B; intro aoL capL L u10 ELL B) | (go_at_call 41; refine B.pnd Q HITEM p9.badN ?_; clear B Q; intro u7 x aox capx j8 hx B Q; have HX := lh hx; clear hx))
      have LS := lh (HST.out _ _ _ HX.out)
      have eI : L = its u0 (ps ++ [(sT, x)]) := by rw [ELL.out, its_app]
      have eL : L.length = (its u0 (ps ++ [(sT, x)])).length := by rw [eI]
      have eP : ps.length + 1 = (ps ++ [(sT, x)]).length := by simp
      go_roundw
      case rel => first | exact ⟨ps ++ [(sT, x)], j8, f, aoL, bo2, capL, cb2, by rw [eL], by rw [eP], Q, by have := LS.out; have := HF.out; omega, by rw [← eP]; have := LS.out; have := HL.out; omega, by rw [← eP, strs_app, ← eI]; exact B.mv1.mv1⟩ | ((repeat apply Exists.intro); exact ⟨⟨ps ++ [(sT, x)], j8, f, aoL, bo2, capL, cb2, by rw [eL], by rw [eP], Q, by have := LS.out; have := HF.out; omega, by rw [← eP]; have := LS.out; have := HL.out; omega, by rw [← eP, strs_app, ← eI]; exact B.mv1.mv1⟩, rfl⟩)
      case measure => exact pos_less R0.out B.F.R (Nat.le_of_succ_le LS.out)
 case rest =>
  clear Q B
  obtain ⟨ps, j, ao, bo, cap, cb, rfl, rfl, Q, hln, B⟩ := hcut
  have gl := HGL.out wc j d B.F.R
  have hil := its_len u0 ps
  have hl1 : 1 ≤ (its u0 ps).length := by omega
  have hl2 : (its u0 ps).length ≤ 100001 := by omega
  clear hil
  by_cases hrt : k + 1 = 3
  · have er : (sideT lv == 2) = true := by rw [HSR.out]; exact decide_eq_true hrt
    have HRT := lh hrt
    clear hrt
    go_upto_region 11 with fail
    obtain ⟨m, hm⟩ : ∃ m, m = ps.length := ⟨_, rfl⟩
    have HM := lh hm
    clear hm
    obtain ⟨n, bq, pq, aq, cq, HNq, HXq, fq, B⟩ := B.elem (m := m) (by rw [its_len]; have := HM.out; omega)
    have ixm : ∀ w' : World, (Instr.indexAt 24 (.slice ao (its u0 ps).length cap) (.int .i64 (((its u0 ps).length : Int) - 1))).run Tryz.prog w' = .ok (.pointer (some ⟨bq, pq, none⟩)) w' := fun w' => by rw [show (((its u0 ps).length : Int) - 1) = (m : Int) from by rw [its_len]; have := HM.out; omega]; exact fq.2.2.1 w'
    go_upto_region 12 with fail
    clear fq ixm
    generalize hb : wc.heap.size = b12
    generalize h : wc.alloc _ = V11
    replace B := B.box h hb
    clear h hb
    go_wp2_with fail
    go_loopw [10] (fun s wr => ∃ (m : Nat) (n : Ty) (ao2 : Option Addr) (cap2 : Nat), s = .int .i64 ((m : Int) - 1) ∧ (∃ h : m ≤ ps.length, n = foldR ((its u0 ps)[m]'(by rw [its_len]; omega)) (ps.drop m)) ∧ Bp E w d wr j [.kd n.args ao2 cap2, .nv b12 (.int .i64 n.k) (.int .i64 n.n) (.string n.s) (.int .i64 n.q) (.slice ao2 n.args.length cap2), .kd (its u0 ps) ao cap, .pw 9 1 (.slice bo ps.length cb) (ps.length) (strs ps)]) (fun s _ => (intOf s + 1).toNat)
    case atStart => exact ⟨m, n, aq, cq, by rw [HM.out], ⟨by rw [HM.out]; exact Nat.le_refl _, by rw [HNq.out, List.drop_eq_nil_of_le (by rw [HM.out]; exact Nat.le_refl _)]; rfl⟩, B.mv3.mv3.mv2.mv3⟩
    case round =>
     clear B
     obtain ⟨m, n, ao2, cap2, rfl, ⟨hm, hn⟩, B⟩ := hrel
     have HNM := lh hn
     clear hn
     cases m with
     | zero =>
      have h1 : decide (((0 : Nat) : Int) - 1 ≥ 0) = false := by decide
      have h2 : decide (0 ≤ ((0 : Nat) : Int) - 1) = false := by decide
      have h3 : ¬ (0 ≤ ((0 : Nat) : Int) - 1) := by decide
      replace Q : Qp T (pure n : M Ty) j := ⟨by rw [Q.eq, HNM.out]; unfold finD; rw [if_pos HRT.out]; rfl⟩
      have c13 := B.mv1.S.cs B.F.rb; have c14 := B.cp
      go_wp2_with fail
      exact Bp.finN (n) B p9 Q.pr rfl rfl
     | succ m =>
      have em : ((m + 1 : Nat) : Int) - 1 = (m : Int) := by omega
      rw [em]
      have HM2 : Hid (m < ps.length) := lh hm
      have h1 : decide ((m : Int) ≥ 0) = true := by simp
      have h2 : (0 : Int) ≤ (m : Int) := by omega
      have h4 : m ≤ 100000 := by omega
      clear em
      go_upto_region 15 with fail
      obtain ⟨bsa, psa, HXs, t1, t2, isa, HCs⟩ := B.mv3.pel Tryz.underlying44 size9 HM2.out
      have y0 : wr.cell? ⟨bsa, psa, none⟩ = some (.string (ps[m]'HM2.out).1) := HCs.out 0 _ (by have h := HM2.out; simp [strs, List.getElem?_eq_getElem h])
      obtain ⟨sj, hsj⟩ : ∃ sj, sj = (ps[m]'HM2.out).1 := ⟨_, rfl⟩
      rw [← hsj] at y0
      have HSJ := lh hsj
      clear hsj
      obtain ⟨x, br, pr, ar, cr, HNr, HXr, fr, B⟩ := B.mv2.elem (m := m) (by rw [its_len]; have := HM2.out; omega)
      have ixs := fr.2.2.1
      have nr1 : ¬ (br = b12) := HXr.out _ (by simp [wrs, At.wr])
      have nr2 : ¬ (b12 = br) := fun e => nr1 e.symm
      have c15 := B.mv3.S.cs B.F.rb
      replace B := B.drew
      go_region_law (go_simp; (go_at_call 80; refine B.mv2.mv1.join joinD_args ?_; clear B; intro u16 gj j9 HJ9 B; have c17 := B.mv2.S.cs B.F.rb))
      all_goals
       clear t1 t2 isa y0 fr ixs nr1 nr2 c15 c17
       generalize h : ((((u16.setCell _ _).setCell _ _).setCell _ _).setCell _ _).setCell _ _ = X18
       replace B := B.mv2.sn h
       clear h
       go_wp2_with fail
       go_roundw
       case rel => exact ⟨m, j9, _, _, rfl, ⟨Nat.le_of_lt HM2.out, by rw [HJ9.out, HSJ.out, HNr.out, HNM.out]; exact (foldR_step u0 ps HM2.out).symm⟩, B.mv3.mv3.mv2.mv3⟩
       case measure => (simp [intOf] <;> omega)
  · have er : (sideT lv == 2) = false := by rw [HSR.out]; exact decide_eq_false hrt
    have HRT := lh hrt
    clear hrt
    go_upto_region 17 with fail
    obtain ⟨n, bq, pq, aq, cq, HNq, HXq, fq, B⟩ := B.elem (m := 0) (by rw [its_len]; omega)
    have ixm : ∀ w' : World, (Instr.indexAt 24 (.slice ao (its u0 ps).length cap) (.int .i64 0)).run Tryz.prog w' = .ok (.pointer (some ⟨bq, pq, none⟩)) w' := fq.2.2.1
    go_upto_region 18 with fail
    clear fq ixm
    generalize hb : wc.heap.size = b20
    generalize h : wc.alloc _ = V19
    replace B := B.box h hb
    clear h hb
    go_wp2_with fail
    go_loopw [12, 13, 86] (fun _ _ s wr => ∃ (m : Nat) (n : Ty) (ao2 : Option Addr) (cap2 : Nat), s = .int .i64 (m : Int) ∧ m ≤ ps.length ∧ n = foldLd u0 (ps.take m) ∧ Bp E w d wr j [.kd n.args ao2 cap2, .nv b20 (.int .i64 n.k) (.int .i64 n.n) (.string n.s) (.int .i64 n.q) (.slice ao2 n.args.length cap2), .kd (its u0 ps) ao cap, .pw 9 1 (.slice bo ps.length cb) (ps.length) (strs ps)]) (fun _ _ s _ => ps.length - (intOf s).toNat)
    case atStart => exact ⟨0, n, aq, cq, rfl, Nat.zero_le _, HNq.out, B.mv3.mv3.mv2.mv3⟩
    case round =>
     clear B HNq HXq
     obtain ⟨m, n, ao2, cap2, rfl, hm, hn, B⟩ := hrel
     have HNM := lh hn
     clear hn
     by_cases hlt : m < ps.length
     · have hd : ((m : Int) < (ps.length : Int)) := by omega
       have HM2 : Hid (m < ps.length) := lh hlt
       have h4 : m ≤ 100000 := by omega
       clear hlt hm
       obtain ⟨bsa, psa, HXs, t1, t2, isa, HCs⟩ := B.mv3.pel Tryz.underlying44 size9 HM2.out
       have y0 : wr.cell? ⟨bsa, psa, none⟩ = some (.string (ps[m]'HM2.out).1) := HCs.out 0 _ (by have h := HM2.out; simp [strs, List.getElem?_eq_getElem h])
       obtain ⟨sj, hsj⟩ : ∃ sj, sj = (ps[m]'HM2.out).1 := ⟨_, rfl⟩
       rw [← hsj] at y0
       have HSJ := lh hsj
       clear hsj
       go_upto_region 21 with fail
       obtain ⟨x, br, pr, ar, cr, HNr, HXr, fr, B⟩ := B.mv2.elem (m := m + 1) (by rw [its_len]; have := HM2.out; omega)
       have ixs : ∀ w' : World, (Instr.indexAt 24 (.slice ao (its u0 ps).length cap) (.int .i64 ((m : Int) + 1))).run Tryz.prog w' = .ok (.pointer (some ⟨br, pr, none⟩)) w' := fr.2.2.1
       have ixw : ∀ w' : World, (Instr.indexAt 24 (.slice ao (its u0 ps).length cap) (.int .i64 (IntKind.i64.wrap ((m : Int) + 1)))).run Tryz.prog w' = .ok (.pointer (some ⟨br, pr, none⟩)) w' := fun w' => by rw [IntWalk.i64_in _ (by omega)]; exact ixs w'
       have nr1 : ¬ (br = b20) := HXr.out _ (by simp [wrs, At.wr])
       have nr2 : ¬ (b20 = br) := fun e => nr1 e.symm
       have c21 := B.mv3.S.cs B.F.rb
       replace B := B.drew
       go_region_law (go_simp; (go_at_call 80; refine B.mv2.join joinD_args ?_; clear B; intro u22 gj j9 HJ9 B; have c23 := B.mv2.S.cs B.F.rb))
       all_goals
        clear t1 t2 isa y0 fr ixs ixw nr1 nr2 c21 c23
        generalize h : ((((u22.setCell _ _).setCell _ _).setCell _ _).setCell _ _).setCell _ _ = X24
        replace B := B.mv2.sn h
        clear h
        go_wp2_with fail
        go_roundw
        case rel => first | exact ⟨m + 1, j9, _, _, by go_num, HM2.out, by rw [HJ9.out, HSJ.out, HNr.out, HNM.out]; exact (foldL_step u0 ps HM2.out).symm, B.mv3.mv3.mv2.mv3⟩ | ((repeat apply Exists.intro); exact ⟨⟨m + 1, j9, _, _, by go_num, HM2.out, by rw [HJ9.out, HSJ.out, HNr.out, HNM.out]; exact (foldL_step u0 ps HM2.out).symm, B.mv3.mv3.mv2.mv3⟩, rfl⟩)
        case measure => (have := HM2.out; simp [intOf]; omega)
     · have hd : decide ((m : Int) < (ps.length : Int)) = false := by simp; omega
       have hd2 : ¬ ((m : Int) < (ps.length : Int)) := by omega
       replace Q : Qp T (pure n : M Ty) j := ⟨by rw [Q.eq, HNM.out, show m = ps.length by omega, List.take_length]; unfold finD; rw [if_neg HRT.out]⟩
       clear hlt hm
       have c25 := B.mv1.S.cs B.F.rb; have c26 := B.cp
       go_wp2_with fail
       exact Bp.finN (n) B p9 Q.pr rfl rfl
theorem between_top (E : Env) (g : Nat) (PA : PAll E g) (w : World) (i : Nat)  (h : Rd E w i (60 - g)) : Calls Tryz.prog 41 #[pr E, .int .i64 ((7 - 0 : Nat) : Int)] w (PPost E (60 - g) w ((betB E.P (recS E.P g) 0) i) (NdQ w)) := by
 refine Bp.go (m := applyB E.P (recS E.P g)) h PA ?_
 intro d T W R hW B Q hlr hN
 have HAPP := at_p R.hd (fun w j h => papply_any E g PA w j h)
 clear h PA
 unfold pr at HAPP ⊢
 go_enter_defers Tryz.func41, Tryz.ntmps41
 obtain ⟨R9, B9, p9, hq⟩ := Pf9.ex Tryz.f41 E d w T
 refine wp_mono (Q := PQ R9 B9) ?_ hq
 clear hq
 go_upto_region 1 with fail
 clear hW
 go_wp2_with (go_at_call 78; refine B.pndt Q HAPP p9.badN ?_; clear B Q; intro u1 t aot capt j2 B Q; have c3 := B.cp)
 exact Bp.finN (t) B p9 Q rfl rfl
theorem between_any (E : Env) (g : Nat) (PA : PAll E g) (w : World) (i : Nat) (k : Nat) (hk : k ≤ 7) (h : Rd E w i (60 - g)) : Calls Tryz.prog 41 #[pr E, .int .i64 ((7 - k : Nat) : Int)] w (PPost E (60 - g) w ((betB E.P (recS E.P g) k) i) (NdQ w)) := by
 induction k generalizing w i with
 | zero => exact between_top E g PA w i h
 | succ k IH => exact between_step E g PA w i k (by omega) (fun w i h => IH w i (by omega) h) h
end Go.Proofs.YthehjeeiodbkjaaGreatDoor
