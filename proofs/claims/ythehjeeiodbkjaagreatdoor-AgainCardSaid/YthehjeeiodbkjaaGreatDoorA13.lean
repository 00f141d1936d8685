/-
  Proved: the contract of the reader's between; the contracts of the reader's sig and exp, one level up. Conditions: the reader as it stands in memory; what the reader reads within.
-/
import Derived.Test.YthehjeeiodbkjaaGreatDoorA01
import Derived.Test.YthehjeeiodbkjaaGreatDoorA12
set_option linter.unusedSimpArgs false
set_option linter.unusedVariables false
set_option maxRecDepth 100000
set_option maxHeartbeats 16000000
namespace Go.Proofs.YthehjeeiodbkjaaGreatDoor
open Go.RowKit
def finD (k : Nat) (a : Ty) (l : List (ByteArray × Ty)) : Ty := if k = 3 then foldR a l else foldLd a l
theorem colL_at (P : Src) (k : Nat) (item : M Ty) (f : Nat) (acc : List (ByteArray × Ty)) (i : Nat) : colL P k item (f + 1) acc i = if (acc.length = 0 ∨ neverB k = false) ∧ oneD P (lvL k) i = true then (item >>= fun x => colL P k item f (acc ++ [(P.T i, x)])) (i + 1) else .ok acc i := rfl
theorem side_never {k : Nat} (hk : k ≤ 6) : (sideT (6 - k) != 0) = (neverB (k + 1) == false) := by
 rcases (by omega : k = 0 ∨ k = 1 ∨ k = 2 ∨ k = 3 ∨ k = 4 ∨ k = 5 ∨ k = 6) with rfl | rfl | rfl | rfl | rfl | rfl | rfl <;> rfl
theorem side_right {k : Nat} (hk : k ≤ 6) : (sideT (6 - k) == 2) = decide (k + 1 = 3) := by
 rcases (by omega : k = 0 ∨ k = 1 ∨ k = 2 ∨ k = 3 ∨ k = 4 ∨ k = 5 ∨ k = 6) with rfl | rfl | rfl | rfl | rfl | rfl | rfl <;> rfl
def strs (ps : List (ByteArray × Ty)) : List Value := ps.map fun p => .string p.1
theorem strs_app (ps : List (ByteArray × Ty)) (p : ByteArray × Ty) : strs (ps ++ [p]) = strs ps ++ [.string p.1] := by simp [strs]
def its (a : Ty) (ps : List (ByteArray × Ty)) : List Ty := a :: ps.map Prod.snd
theorem its_len (a : Ty) (ps : List (ByteArray × Ty)) : (its a ps).length = ps.length + 1 := by simp [its]
theorem its_app (a : Ty) (ps : List (ByteArray × Ty)) (p : ByteArray × Ty) : its a (ps ++ [p]) = its a ps ++ [p.2] := by simp [its]
theorem its_succ (a : Ty) (ps : List (ByteArray × Ty)) {m : Nat} (h : m < ps.length) : (its a ps)[m + 1]'(by rw [its_len]; omega) = ps[m].2 := by simp [its]
theorem foldR_step (a : Ty) (ps : List (ByteArray × Ty)) {m : Nat} (h : m < ps.length) : foldR ((its a ps)[m]'(by rw [its_len]; omega)) (ps.drop m) = joinD ps[m].1 ((its a ps)[m]'(by rw [its_len]; omega)) (foldR ((its a ps)[m + 1]'(by rw [its_len]; omega)) (ps.drop (m + 1))) := by
 rw [List.drop_eq_getElem_cons h, its_succ a ps h]
 rfl
theorem foldL_step (a : Ty) (ps : List (ByteArray × Ty)) {m : Nat} (h : m < ps.length) : foldLd a (ps.take (m + 1)) = joinD ps[m].1 (foldLd a (ps.take m)) ((its a ps)[m + 1]'(by rw [its_len]; omega)) := by
 rw [List.take_succ_eq_append_getElem h, its_succ a ps h]
 unfold foldLd
 rw [List.foldl_append]
 rfl
theorem joinD_args (s : ByteArray) (a b : Ty) : (joinD s a b).args = [a, b] := by unfold joinD; split; rfl; split <;> rfl
theorem size9 (w : World) : (sizeOf 9).run Tryz.prog w = .ok 1 w := by kernel_rfl
theorem between_step (E : Env) (g : Nat) (PA : PAll E g) (w : World) (i : Nat) (k : Nat) (hk : k ≤ 6) (IH : ∀ (w : World) (i : Nat), Rd E w i (60 - g) → Calls Tryz.prog 41 #[pr E, .int .i64 ((7 - k : Nat) : Int)] w (PPost E (60 - g) w ((betB E.P (recS E.P g) k) i) (NdQ w))) (h : Rd E w i (60 - g)) : Calls Tryz.prog 41 #[pr E, .int .i64 ((7 - (k + 1) : Nat) : Int)] w (PPost E (60 - g) w ((betB E.P (recS E.P g) (k + 1)) i) (NdQ w)) := by
 obtain ⟨lv, hlv⟩ : ∃ lv, lv = 7 - (k + 1) := ⟨_, rfl⟩
 rw [← hlv]
 have hlk : lv = 6 - k := by omega
 refine Bp.go (m := betB E.P (recS E.P g) k >>= fun u0 => colL E.P (k + 1) (betB E.P (recS E.P g) k) (E.P.toks.length + 1) [] >>= (fun l => (pure (finD (k + 1) u0 l) : M Ty))) h PA ?_
 intro d T W R hW B Q hlr hN
 have HGL := lh (fun (w1 : World) j d (h1 : Rd E w1 j d) => (h1.gl.1 lv (by omega)).2)
 have HST := lh (show ∀ i x j, betB E.P (recS E.P g) k i = .ok x j → i + 1 ≤ j from fun i x j e => st_bet E.P _ (st_rec E.P g).2 k i x j e)
 have HSN := lh (show (sideT lv != 0) = (neverB (k + 1) == false) by rw [hlk]; exact side_never hk)
 have HSR := lh (show (sideT lv == 2) = decide (k + 1 = 3) by rw [hlk]; exact side_right hk)
 have v0 := (show (0 : Int) ≤ (lv : Int) by omega)
 have v1 := (show (lv : Int) < 7 by omega)
 have v7 := (show ((lv : Int) == 7) = false by simp; omega)
 have HSG := lh (fun (w1 : World) j (h1 : Rd E w1 j d) => by have h2 := sign_any E w1 j d lv h1 (by omega); rw [show 7 - lv = k + 1 from by omega] at h2; exact h2)
 have HITEM := at_p R.hd IH
 rw [show ((7 - k : Nat) : Int) = (lv : Int) + 1 from by omega] at HITEM
 clear h PA IH hlv hlk hk
 unfold pr at HSG HITEM ⊢
 go_enter_defers Tryz.func41, Tryz.ntmps41
 obtain ⟨R9, B9, p9, hq⟩ := Pf9.ex Tryz.f41 E d w T
 refine wp_mono (Q := PQ R9 B9) ?_ hq
 clear hq
 go_upto_region 1 with fail
 clear hW
 go_upto_region 3 with fail
 go_upto_region 4 with (go_at_call 41; refine B.pnd Q HITEM p9.badN ?_; clear B Q; intro u1 u0 aou0 capu0 j2 _ B Q)
 generalize h : u1.alloc _ = V3
 replace B := B.mk1 rfl h
 clear h
 go_upto_block 0 with fail
 go_cut [5, 6] from 23 to 51 (fun v5 v6 wx => ∃ (ps : List (ByteArray × Ty)) (j : Nat) (ao bo : Option Addr) (cap cb : Nat), v5 = .slice ao (its u0 ps).length cap ∧ v6 = .slice bo ps.length cb ∧ Qp T (pure (finD (k + 1) u0 ps) : M Ty) j ∧ ps.length ≤ 100000 ∧ Bp E w d wx j [.kd (its u0 ps) ao cap, .pw 9 1 (.slice bo ps.length cb) (ps.length) (strs ps)])
 case first =>
  go_wp2_with fail
  go_loopw [5, 6] (fun v5 v6 wr => ∃ (ps : List (ByteArray × Ty)) (j f : Nat) (ao bo : Option Addr) (cap cb : Nat), v5 = .slice ao (its u0 ps).length cap ∧ v6 = .slice bo ps.length cb ∧ Qp T (colL E.P (k + 1) (betB E.P (recS E.P g) k) f ps >>= (fun l => (pure (finD (k + 1) u0 l) : M Ty))) j ∧ E.P.toks.length < j + f ∧ ps.length ≤ j ∧ Bp E w d wr j [.ow (.slice ao (its u0 ps).length cap) (its u0 ps), .pw 9 1 (.slice bo ps.length cb) (ps.length) (strs ps)]) (fun _ _ wr => E.P.toks.length - posOf wr E.rb)
  case atStart => exact ⟨[], j2, E.P.toks.length + 1, (some ⟨u1.heap.size, 0, none⟩), none, 1, 0, rfl, rfl, Q, by omega, by simp, (B.nilp 9 1).mv1⟩
  case round =>
   clear B Q
   obtain ⟨ps, j, f, ao, bo, cap, cb, rfl, rfl, Q, hf, hl, B⟩ := hrel
   obtain ⟨f, rfl⟩ : ∃ f', f = f' + 1 := ⟨f - 1, by have := B.F.R.le; omega⟩
   have HF := lh hf
   have R0 := lh B.F.R
   have HL : Hid (ps.length ≤ j ∧ j ≤ 100000) := lh ⟨hl, Nat.le_trans B.F.R.le hN⟩
   clear hf hl
   have il := its_len u0 ps
   have HIL := lh il
   clear il
   obtain ⟨q, hq⟩ : ∃ q, q = decide (ps.length = 0 ∨ neverB (k + 1) = false) := ⟨_, rfl⟩
   have HQ := lh hq
   clear hq
   go_upto_region 5 with fail
   have gl := HGL.out wr j d B.F.R
   have hlen9 : (its u0 ps).length ≤ 100001 := by rw [HIL.out]; have := HL.out; omega
   go_cut [32] from 23 to 51 (fun v wx => v = .bool q ∧ Bp E w d wx j [.ow (.slice ao (its u0 ps).length cap) (its u0 ps), .pw 9 1 (.slice bo ps.length cb) (ps.length) (strs ps)])
   case first =>
    by_cases h0 : ps.length = 0
    · have e1 : (((its u0 ps).length : Int) == 1) = true := by rw [HIL.out, h0]; rfl
      have H0 := lh h0
      clear h0
      go_wp2_with fail
      go_meet
      exact ⟨by rw [HQ.out, H0.out]; rfl, B⟩
    · have e1 : (((its u0 ps).length : Int) == 1) = false := by rw [HIL.out]; simp; omega
      have H0 := lh h0
      clear h0
      cases hn : neverB (k + 1) with
      | true =>
       have e2 : (sideT lv != 0) = false := by rw [HSN.out, hn]; rfl
       have HN9 := lh hn
       clear hn
       go_wp2_with fail
       go_meet
       exact ⟨by rw [HQ.out, HN9.out]; simp [H0.out], B⟩
      | false =>
       have e2 : (sideT lv != 0) = true := by rw [HSN.out, hn]; rfl
       have HN9 := lh hn
       clear hn
       go_wp2_with fail
       go_meet
       exact ⟨by rw [HQ.out, HN9.out]; simp, B⟩
   case rest =>
    replace B := hcut.2
    obtain ⟨rfl, -⟩ := hcut
    clear gl
    cases q with
    | false =>
     replace Q : Qp T (pure (finD (k + 1) u0 ps) : M Ty) j := ⟨by rw [Q.eq]; show bnd (colL E.P (k + 1) (betB E.P (recS E.P g) k) (f + 1) ps) (fun l => (pure (finD (k + 1) u0 l) : M Ty)) j = _; unfold bnd; rw [colL_at, if_neg (fun h => absurd (decide_eq_true h.1) (by rw [← HQ.out]; decide))]⟩
     go_wp2_with fail
     go_meet
     exact ⟨ps, j, ao, bo, cap, cb, rfl, rfl, Q, by have := HL.out; omega, B.ko⟩
    | true =>
     have HE := lh (HSG.out wc j B.F.R)
     cases hb : oneD E.P (lvL (k + 1)) j with
     | false =>
      have HB9 := lh hb
      clear hb
      replace Q : Qp T (pure (finD (k + 1) u0 ps) : M Ty) j := ⟨by rw [Q.eq]; show bnd (colL E.P (k + 1) (betB E.P (recS E.P g) k) (f + 1) ps) (fun l => (pure (finD (k + 1) u0 l) : M Ty)) j = _; unfold bnd; rw [colL_at, if_neg (fun h => absurd h.2 (by rw [HB9.out]; decide))]⟩
      go_wp2_with (go_at_call 79; refine HE.out.mono ?_; rintro e u4 ⟨rfl, hr, hg⟩; replace B := B.gr (s' := j) hg (by rw [HB9.out] at hr; exact hr); rw [HB9.out]; clear hr hg)
      go_meet
      exact ⟨ps, j, ao, bo, cap, cb, rfl, rfl, Q, by have := HL.out; omega, B.ko⟩
     | true =>
      have HB9 := lh hb
      replace Q : Qp T (betB E.P (recS E.P g) k >>= fun x => colL E.P (k + 1) (betB E.P (recS E.P g) k) f (ps ++ [(E.P.T j, x)]) >>= (fun l => (pure (finD (k + 1) u0 l) : M Ty))) (j + 1) := ⟨by
       rw [Q.eq]
       show bnd (colL E.P (k + 1) (betB E.P (recS E.P g) k) (f + 1) ps) (fun l => (pure (finD (k + 1) u0 l) : M Ty)) j = _
       unfold bnd
       rw [colL_at, if_pos ⟨of_decide_eq_true HQ.out.symm, hb⟩]
       cases hx : (betB E.P (recS E.P g) k) (j + 1) with
       | bad k a => rw [bind_bad hx, bind_bad hx]
       | ok x m => rw [bind_ok hx, bind_ok hx]; rfl⟩
      clear hb
      obtain ⟨sT, hsT⟩ : ∃ sT, sT = E.P.T j := ⟨_, rfl⟩
      rw [← hsT] at HE Q
      clear hsT
      go_upto_region 8 with (go_at_call 79; refine HE.out.mono ?_; rintro e u5 ⟨rfl, hr, hg⟩; replace B := B.gr (s' := (j + 1)) hg (by rw [HB9.out] at hr; exact hr); rw [HB9.out]; clear hr hg)
      go_upto_region 9 with (at_builtin; go_must (refine B.mv1.appP Tryz.underlying44 info9p rfl (by decide) (by decide) rfl (.tmp 41) (.tmp 43) rfl rfl rfl rfl rfl (by intro u hu; simp at hu; subst hu; rfl) (by have := HL.out; omega) ?_); clear B; intro bo2 cb2 u6 B)
      go_wp2_with (first | (at_builtin; generalize h : u7.alloc _ = V9; replace B := B.mk1 rfl h; clear h; go_must (refine B.mv2.app rfl _ _ rfl rfl rfl (by rw [HIL.out]; have := HL.out; simp; omega) ?_); clear B; intro aoL capL L u10 ELL B) | (go_at_call 41; refine B.pnd Q HITEM p9.badN ?_; clear B Q; intro u7 x aox capx j8 hx B Q; have HX := lh hx; clear hx))
      have LS := lh (HST.out _ _ _ HX.out)
      have eI : L = its u0 (ps ++ [(sT, x)]) := by rw [ELL.out, its_app]
      have eL : L.length = (its u0 (ps ++ [(sT, x)])).length := by rw [eI]
      have eP : ps.length + 1 = (ps ++ [(sT, x)]).length := by simp
      go_roundw
      case rel => first | exact ⟨ps ++ [(sT, x)], j8, f, aoL, bo2, capL, cb2, by rw [eL], by rw [eP], Q, by have := LS.out; have := HF.out; omega, by rw [← eP]; have := LS.out; have := HL.out; omega, by rw [← eP, strs_app, ← eI]; exact B.mv1.mv1⟩ | ((repeat apply Exists.intro); exact ⟨⟨ps ++ [(sT, x)], j8, f, aoL, bo2, capL, cb2, by rw [eL], by rw [eP], Q, by have := LS.out; have := HF.out; omega, by rw [← eP]; have := LS.out; have := HL.out; omega, by rw [← eP, strs_app, ← eI]; exact B.mv1.mv1⟩, rfl⟩)
      case measure => exact pos_less R0.out B.F.R (Nat.le_of_succ_le LS.out)
 case rest =>
  clear Q B
  obtain ⟨ps, j, ao, bo, cap, cb, rfl, rfl, Q, hln, B⟩ := hcut
  have gl := HGL.out wc j d B.F.R
  have hil := its_len u0 ps
  have hl1 : 1 ≤ (its u0 ps).length := by omega
  have hl2 : (its u0 ps).length ≤ 100001 := by omega
  clear hil
  by_cases hrt : k + 1 = 3
  · have er : (sideT lv == 2) = true := by rw [HSR.out]; exact decide_eq_true hrt
    have HRT := lh hrt
    clear hrt
    go_upto_region 11 with fail
    obtain ⟨m, hm⟩ : ∃ m, m = ps.length := ⟨_, rfl⟩
    have HM := lh hm
    clear hm
    obtain ⟨n, bq, pq, aq, cq, HNq, HXq, fq, B⟩ := B.elem (m := m) (by rw [its_len]; have := HM.out; omega)
    have ixm : ∀ w' : World, (Instr.indexAt 24 (.slice ao (its u0 ps).length cap) (.int .i64 (((its u0 ps).length : Int) - 1))).run Tryz.prog w' = .ok (.pointer (some ⟨bq, pq, none⟩)) w' := fun w' => by rw [show (((its u0 ps).length : Int) - 1) = (m : Int) from by rw [its_len]; have := HM.out; omega]; exact fq.2.2.1 w'
    go_upto_region 12 with fail
    clear fq ixm
    generalize hb : wc.heap.size = b12
    generalize h : wc.alloc _ = V11
    replace B := B.box h hb
    clear h hb
    go_wp2_with fail
    go_loopw [10] (fun s wr => ∃ (m : Nat) (n : Ty) (ao2 : Option Addr) (cap2 : Nat), s = .int .i64 ((m : Int) - 1) ∧ (∃ h : m ≤ ps.length, n = foldR ((its u0 ps)[m]'(by rw [its_len]; omega)) (ps.drop m)) ∧ Bp E w d wr j [.kd n.args ao2 cap2, .nv b12 (.int .i64 n.k) (.int .i64 n.n) (.string n.s) (.int .i64 n.q) (.slice ao2 n.args.length cap2), .kd (its u0 ps) ao cap, .pw 9 1 (.slice bo ps.length cb) (ps.length) (strs ps)]) (fun s _ => (intOf s + 1).toNat)
    case atStart => exact ⟨m, n, aq, cq, by rw [HM.out], ⟨by rw [HM.out]; exact Nat.le_refl _, by rw [HNq.out, List.drop_eq_nil_of_le (by rw [HM.out]; exact Nat.le_refl _)]; rfl⟩, B.mv3.mv3.mv2.mv3⟩
    case round =>
     clear B
     obtain ⟨m, n, ao2, cap2, rfl, ⟨hm, hn⟩, B⟩ := hrel
     have HNM := lh hn
     clear hn
     cases m with
     | zero =>
      have h1 : decide (((0 : Nat) : Int) - 1 ≥ 0) = false := by decide
      have h2 : decide (0 ≤ ((0 : Nat) : Int) - 1) = false := by decide
      have h3 : ¬ (0 ≤ ((0 : Nat) : Int) - 1) := by decide
      replace Q : Qp T (pure n : M Ty) j := ⟨by rw [Q.eq, HNM.out]; unfold finD; rw [if_pos HRT.out]; rfl⟩
      have c13 := B.mv1.S.cs B.F.rb; have c14 := B.cp
      go_wp2_with fail
      exact Bp.finN (n) B p9 Q.pr rfl rfl
     | succ m =>
      have em : ((m + 1 : Nat) : Int) - 1 = (m : Int) := by omega
      rw [em]
      have HM2 : Hid (m < ps.length) := lh hm
      have h1 : decide ((m : Int) ≥ 0) = true := by simp
      have h2 : (0 : Int) ≤ (m : Int) := by omega
      have h4 : m ≤ 100000 := by omega
      clear em
      go_upto_region 15 with fail
      obtain ⟨bsa, psa, HXs, t1, t2, isa, HCs⟩ := B.mv3.pel Tryz.underlying44 size9 HM2.out
      have y0 : wr.cell? ⟨bsa, psa, none⟩ = some (.string (ps[m]'HM2.out).1) := HCs.out 0 _ (by have h := HM2.out; simp [strs, List.getElem?_eq_getElem h])
      obtain ⟨sj, hsj⟩ : ∃ sj, sj = (ps[m]'HM2.out).1 := ⟨_, rfl⟩
      rw [← hsj] at y0
      have HSJ := lh hsj
      clear hsj
      obtain ⟨x, br, pr, ar, cr, HNr, HXr, fr, B⟩ := B.mv2.elem (m := m) (by rw [its_len]; have := HM2.out; omega)
      have ixs := fr.2.2.1
      have nr1 : ¬ (br = b12) := HXr.out _ (by simp [wrs, At.wr])
      have nr2 : ¬ (b12 = br) := fun e => nr1 e.symm
      have c15 := B.mv3.S.cs B.F.rb
      replace B := B.drew
      go_region_law (go_simp; (go_at_call 80; refine B.mv2.mv1.join joinD_args ?_; clear B; intro u16 gj j9 HJ9 B; have c17 := B.mv2.S.cs B.F.rb))
      all_goals
       clear t1 t2 isa y0 fr ixs nr1 nr2 c15 c17
       generalize h : ((((u16.setCell _ _).setCell _ _).setCell _ _).setCell _ _).setCell _ _ = X18
       replace B := B.mv2.sn h
       clear h
       go_wp2_with fail
       go_roundw
       case rel => exact ⟨m, j9, _, _, rfl, ⟨Nat.le_of_lt HM2.out, by rw [HJ9.out, HSJ.out, HNr.out, HNM.out]; exact (foldR_step u0 ps HM2.out).symm⟩, B.mv3.mv3.mv2.mv3⟩
       case measure => (simp [intOf] <;> omega)
  · have er : (sideT lv == 2) = false := by rw [HSR.out]; exact decide_eq_false hrt
    have HRT := lh hrt
    clear hrt
    go_upto_region 17 with fail
    obtain ⟨n, bq, pq, aq, cq, HNq, HXq, fq, B⟩ := B.elem (m := 0) (by rw [its_len]; omega)
    have ixm : ∀ w' : World, (Instr.indexAt 24 (.slice ao (its u0 ps).length cap) (.int .i64 0)).run Tryz.prog w' = .ok (.pointer (some ⟨bq, pq, none⟩)) w' := fq.2.2.1
    go_upto_region 18 with fail
    clear fq ixm
    generalize hb : wc.heap.size = b20
    generalize h : wc.alloc _ = V19
    replace B := B.box h hb
    clear h hb
    go_wp2_with fail
    go_loopw [12, 13, 86] (fun _ _ s wr => ∃ (m : Nat) (n : Ty) (ao2 : Option Addr) (cap2 : Nat), s = .int .i64 (m : Int) ∧ m ≤ ps.length ∧ n = foldLd u0 (ps.take m) ∧ Bp E w d wr j [.kd n.args ao2 cap2, .nv b20 (.int .i64 n.k) (.int .i64 n.n) (.string n.s) (.int .i64 n.q) (.slice ao2 n.args.length cap2), .kd (its u0 ps) ao cap, .pw 9 1 (.slice bo ps.length cb) (ps.length) (strs ps)]) (fun _ _ s _ => ps.length - (intOf s).toNat)
    case atStart => exact ⟨0, n, aq, cq, rfl, Nat.zero_le _, HNq.out, B.mv3.mv3.mv2.mv3⟩
    case round =>
     clear B HNq HXq
     obtain ⟨m, n, ao2, cap2, rfl, hm, hn, B⟩ := hrel
     have HNM := lh hn
     clear hn
     by_cases hlt : m < ps.length
     · have hd : ((m : Int) < (ps.length : Int)) := by omega
       have HM2 : Hid (m < ps.length) := lh hlt
       have h4 : m ≤ 100000 := by omega
       clear hlt hm
       obtain ⟨bsa, psa, HXs, t1, t2, isa, HCs⟩ := B.mv3.pel Tryz.underlying44 size9 HM2.out
       have y0 : wr.cell? ⟨bsa, psa, none⟩ = some (.string (ps[m]'HM2.out).1) := HCs.out 0 _ (by have h := HM2.out; simp [strs, List.getElem?_eq_getElem h])
       obtain ⟨sj, hsj⟩ : ∃ sj, sj = (ps[m]'HM2.out).1 := ⟨_, rfl⟩
       rw [← hsj] at y0
       have HSJ := lh hsj
       clear hsj
       go_upto_region 21 with fail
       obtain ⟨x, br, pr, ar, cr, HNr, HXr, fr, B⟩ := B.mv2.elem (m := m + 1) (by rw [its_len]; have := HM2.out; omega)
       have ixs : ∀ w' : World, (Instr.indexAt 24 (.slice ao (its u0 ps).length cap) (.int .i64 ((m : Int) + 1))).run Tryz.prog w' = .ok (.pointer (some ⟨br, pr, none⟩)) w' := fr.2.2.1
       have ixw : ∀ w' : World, (Instr.indexAt 24 (.slice ao (its u0 ps).length cap) (.int .i64 (IntKind.i64.wrap ((m : Int) + 1)))).run Tryz.prog w' = .ok (.pointer (some ⟨br, pr, none⟩)) w' := fun w' => by rw [IntWalk.i64_in _ (by omega)]; exact ixs w'
       have nr1 : ¬ (br = b20) := HXr.out _ (by simp [wrs, At.wr])
       have nr2 : ¬ (b20 = br) := fun e => nr1 e.symm
       have c21 := B.mv3.S.cs B.F.rb
       replace B := B.drew
       go_region_law (go_simp; (go_at_call 80; refine B.mv2.join joinD_args ?_; clear B; intro u22 gj j9 HJ9 B; have c23 := B.mv2.S.cs B.F.rb))
       all_goals
        clear t1 t2 isa y0 fr ixs ixw nr1 nr2 c21 c23
        generalize h : ((((u22.setCell _ _).setCell _ _).setCell _ _).setCell _ _).setCell _ _ = X24
        replace B := B.mv2.sn h
        clear h
        go_wp2_with fail
        go_roundw
        case rel => first | exact ⟨m + 1, j9, _, _, by go_num, HM2.out, by rw [HJ9.out, HSJ.out, HNr.out, HNM.out]; exact (foldL_step u0 ps HM2.out).symm, B.mv3.mv3.mv2.mv3⟩ | ((repeat apply Exists.intro); exact ⟨⟨m + 1, j9, _, _, by go_num, HM2.out, by rw [HJ9.out, HSJ.out, HNr.out, HNM.out]; exact (foldL_step u0 ps HM2.out).symm, B.mv3.mv3.mv2.mv3⟩, rfl⟩)
        case measure => (have := HM2.out; simp [intOf]; omega)
     · have hd : decide ((m : Int) < (ps.length : Int)) = false := by simp; omega
       have hd2 : ¬ ((m : Int) < (ps.length : Int)) := by omega
       replace Q : Qp T (pure n : M Ty) j := ⟨by rw [Q.eq, HNM.out, show m = ps.length by omega, List.take_length]; unfold finD; rw [if_neg HRT.out]⟩
       clear hlt hm
       have c25 := B.mv1.S.cs B.F.rb; have c26 := B.cp
       go_wp2_with fail
       exact Bp.finN (n) B p9 Q.pr rfl rfl
theorem between_top (E : Env) (g : Nat) (PA : PAll E g) (w : World) (i : Nat)  (h : Rd E w i (60 - g)) : Calls Tryz.prog 41 #[pr E, .int .i64 ((7 - 0 : Nat) : Int)] w (PPost E (60 - g) w ((betB E.P (recS E.P g) 0) i) (NdQ w)) := by
 refine Bp.go (m := applyB E.P (recS E.P g)) h PA ?_
 intro d T W R hW B Q hlr hN
 have HAPP := at_p R.hd (fun w j h => papply_any E g PA w j h)
 clear h PA
 unfold pr at HAPP ⊢
 go_enter_defers Tryz.func41, Tryz.ntmps41
 obtain ⟨R9, B9, p9, hq⟩ := Pf9.ex Tryz.f41 E d w T
 refine wp_mono (Q := PQ R9 B9) ?_ hq
 clear hq
 go_upto_region 1 with fail
 clear hW
 go_wp2_with (go_at_call 78; refine B.pndt Q HAPP p9.badN ?_; clear B Q; intro u1 t aot capt j2 B Q; have c3 := B.cp)
 exact Bp.finN (t) B p9 Q rfl rfl
theorem between_any (E : Env) (g : Nat) (PA : PAll E g) (w : World) (i : Nat) (k : Nat) (hk : k ≤ 7) (h : Rd E w i (60 - g)) : Calls Tryz.prog 41 #[pr E, .int .i64 ((7 - k : Nat) : Int)] w (PPost E (60 - g) w ((betB E.P (recS E.P g) k) i) (NdQ w)) := by
 induction k generalizing w i with
 | zero => exact between_top E g PA w i h
 | succ k IH => exact between_step E g PA w i k (by omega) (fun w i h => IH w i (by omega) h) h
theorem specsL_at (P : Src) (R : Rec) (f : Nat) (acc : List Ty) (i : Nat) : specsL P R (f + 1) acc i = if isD P w_end i = true then .ok acc (i + 1) else (specB P R >>= fun x => specsL P R f (acc ++ [x])) i := rfl
theorem psig_step (E : Env) (g : Nat) (PA : PAll E g) (hg : g + 1 ≤ 60) (w : World) (i : Nat) (h : Rd E w i (60 - (g + 1))) : Calls Tryz.prog 125 #[pr E] w (PPost E (60 - (g + 1)) w (readS E.P (g + 1) .sig i) (NdQ w)) := by
 refine Bp.god (m := fun q => if isD E.P w_sig q = true then (specsL E.P (recS E.P g) (E.P.toks.length + 1) [] >>= (fun l => (pure (.mk 47 (E.P.A i) ⟨#[]⟩ 0 l) : M Ty))) (q + 1) else (kindD E.P 4 >>= fun s => (pure (.mk 48 (E.P.A i) s 0 []) : M Ty)) q) hg h PA (by rw [readS_succ]; rfl) ?_
 intro d T W R h60 hW B Q hlr hN
 have HSPEC := at_p R.hd (fun w j h => pspec_any E g PA w j h)
 have HST := lh (show ∀ i x j, specB E.P (recS E.P g) i = .ok x j → i + 1 ≤ j from fun i x j e => st_spec E.P _ (st_rec E.P g).2 i x j e)
 clear h PA
 unfold pr at HSPEC ⊢
 go_enter_defers Tryz.func125, Tryz.ntmps125
 obtain ⟨R9, B9, p9, hq⟩ := Pw9.ex Tryz.f125 E d w T
 refine wp_mono (Q := PQ R9 B9) ?_ (fun e a W h => bodyPostE_le _ _ _ _ _ e a W (hq e a W h))
 clear hq
 go_upto_region 1 with fail
 clear hW
 go_upto_region 2 with (go_at_call 37; refine B.win h60 ?_; clear B; intro w1 bC hbC B)
 clear hbC
 go_upto_region 3 with (first | (go_at_call 28; refine B.pnode ?_; clear B; intro u3 B) | (go_at_call 35; refine B.pnow ?_; clear B; intro u1 B; have f2 := tk_fields E.P i))
 clear f2
 generalize hb : u3.heap.size = b5
 generalize h : u3.alloc _ = V4
 replace B := B.box h hb
 clear h hb
 obtain ⟨b6, P⟩ := B.peat (sg := w_sig) Q
 clear B Q
 cases b6 with
 | true =>
  go_upto_region 6 with (go_at_call 38; refine P.t ?_; clear P; intro u7 B Q _)
  go_loopw [] (fun wr => ∃ (l : List Ty) (ao : Option Addr) (cap j f : Nat), Qp T (specsL E.P (recS E.P g) f l >>= (fun l => (pure (.mk 47 (E.P.A i) ⟨#[]⟩ 0 l) : M Ty))) j ∧ E.P.toks.length < j + f ∧ l.length ≤ j ∧ Bp E w (d + 1) wr j [.nv b5 (.int .i64 47) (.int .i64 (E.P.A i : Int)) (.string ⟨#[]⟩) (.int .i64 0) (.slice ao l.length cap), .ow (.slice ao l.length cap) l, .gv bC 42 #[.pointer (some ⟨E.rb, 0, none⟩)]]) (fun wr => E.P.toks.length - posOf wr E.rb)
  case atStart => exact ⟨[], none, 0, _, _, Q, by omega, Nat.zero_le _, B.nilo.mv1⟩
  case round =>
   clear B Q
   obtain ⟨l, ao, cap, j, f, Q, hf, hl, B⟩ := hrel
   obtain ⟨f, rfl⟩ : ∃ f', f = f' + 1 := ⟨f - 1, by have := B.F.R.le; omega⟩
   have HF := lh hf
   have HL := lh hl
   have R0 := lh B.F.R
   clear hf hl
   replace Q : Qp T (fun q => if isD E.P w_end q = true then ((fun l => (pure (.mk 47 (E.P.A i) ⟨#[]⟩ 0 l) : M Ty)) l) (q + 1) else (specB E.P (recS E.P g) >>= fun x => specsL E.P (recS E.P g) f (l ++ [x]) >>= (fun l => (pure (.mk 47 (E.P.A i) ⟨#[]⟩ 0 l) : M Ty))) q) j := ⟨by
    rw [Q.eq]
    show bnd (specsL E.P (recS E.P g) (f + 1) l) (fun l => (pure (.mk 47 (E.P.A i) ⟨#[]⟩ 0 l) : M Ty)) j = _
    unfold bnd
    rw [specsL_at]
    by_cases h : isD E.P w_end j = true
    · rw [if_pos h, if_pos h]
    · rw [if_neg h, if_neg h]
      cases hx : specB E.P (recS E.P g) j with
      | bad k a => rw [bind_bad hx, bind_bad hx]
      | ok x m => rw [bind_ok hx, bind_ok hx]; rfl⟩
   obtain ⟨b8, P⟩ := B.peat (sg := w_end) Q
   clear B Q
   cases b8 with
   | true =>
    go_wp2_with (go_at_call 38; refine P.t ?_; clear P; intro u9 B Q _; have c10 := B.S.cs B.F.rb; have c11 := B.cp)
    exact Bp.finw (.mk 47 (E.P.A i) ⟨#[]⟩ 0 l) B.mv1.ko p9 (.tail _ (.head _)) Q.pr rfl rfl
   | false =>
    go_upto_region 7 with (go_at_call 38; refine P.f ?_; clear P; intro u12 B Q _)
    have c13 := B.S.cs B.F.rb
    replace B := B.drew
    go_region_law (first | (have hq9 := LXs; clear hq9; generalize h : u14.alloc _ = V17; replace B := B.mk1 rfl h; clear h; refine B.mv2.appO (by rfl) _ _ (by rfl) (by rfl) (by rfl) (by have h1 := HL.out; have h2 := R0.out.le; simp; omega) ?_; clear B; intro aoL capL L u18 ELL B; have c19 := B.mv1.S.cs B.F.rb; have c20 := B.cp) | (go_simp; (go_at_call 164; refine B.pnd Q HSPEC (p9.bad (.tail _ (.tail _ (.head _)))) ?_; clear B Q; intro u14 s aos caps j15 hx B Q; have LXs := lh hx; clear hx; have c16 := B.mv1.S.cs B.F.rb)))
    all_goals
     generalize h : u18.setCell _ _ = X21
     replace B := B.mv1.s4 h
     clear h
     have LS := lh (HST.out _ _ _ LXs.out)
     go_roundw
     case rel => first | exact ⟨L, aoL, capL, j15, f, by rw [ELL.out]; exact Q, by have := LS.out; have := HF.out; omega, by rw [ELL.out, List.length_append]; have := LS.out; have := HL.out; simp; omega, B.mv2.mv2.mv2⟩ | ((repeat apply Exists.intro); exact ⟨⟨L, aoL, capL, j15, f, by rw [ELL.out]; exact Q, by have := LS.out; have := HF.out; omega, by rw [ELL.out, List.length_append]; have := LS.out; have := HL.out; simp; omega, B.mv2.mv2.mv2⟩, rfl⟩)
     case measure => exact pos_less R0.out B.F.R LS.out
 | false =>
  go_upto_region 4 with (go_at_call 38; refine P.f ?_; clear P; intro u22 B Q _)
  go_upto_region 5 with (go_at_call 74; refine B.pstr Q (kkind4 E (d + 1)) (p9.bad (.tail _ (.head _))) ?_; clear B Q; intro u23 s j24 _ B Q; have c25 := B.S.cs B.F.rb)
  clear c25
  generalize h : u23.setCell _ _ = X26
  replace B := B.s0 h
  clear h
  generalize h : X26.setCell _ _ = X27
  replace B := B.s2 h
  clear h
  have c28 := B.S.cs B.F.rb; have c29 := B.cp
  go_wp2_with fail
  exact Bp.finw (.mk 48 (E.P.A i) s 0 []) B.nilk p9 (.tail _ (.head _)) Q.pr rfl rfl
theorem pexp_step (E : Env) (g : Nat) (PA : PAll E g) (hg : g + 1 ≤ 60) (w : World) (i : Nat) (h : Rd E w i (60 - (g + 1))) : Calls Tryz.prog 17 #[pr E] w (PPost E (60 - (g + 1)) w (readS E.P (g + 1) .exp i) (NdQ w)) := by
 refine Bp.god (m := fun q => if isD E.P w_fn q = true then (apatB E.P (recS E.P g) >>= fun p => mustD E.P s_arr >>= fun _ => readS E.P g .exp >>= fun e => (pure (.mk 7 (E.P.A i) ⟨#[]⟩ 0 [p, e]) : M Ty)) (q + 1) else (fun q => if isD E.P w_if q = true then (readS E.P g .exp >>= fun a => mustD E.P w_then >>= fun _ => readS E.P g .exp >>= fun b => mustD E.P w_else >>= fun _ => readS E.P g .exp >>= fun c => (pure (.mk 9 (E.P.A i) ⟨#[]⟩ 0 [a, b, c]) : M Ty)) (q + 1) else (fun q => if isD E.P w_raise q = true then (readS E.P g .exp >>= fun e => (pure (.mk 13 (E.P.A i) ⟨#[]⟩ 0 [e]) : M Ty)) (q + 1) else betB E.P (recS E.P g) 7 q : M Ty) q : M Ty) q) hg h PA (by rw [readS_succ]; rfl) ?_
 intro d T W R h60 hW B Q hlr hN
 have HAP := at_p R.hd (fun w j h => papat_any E g PA w j h)
 have HBET := at_p R.hd (fun w j h => between_any E g PA w j 7 (by decide) h)
 clear h PA
 unfold pr at HAP HBET ⊢
 go_enter_defers Tryz.func17, Tryz.ntmps17
 obtain ⟨R9, B9, p9, hq⟩ := Pw9.ex Tryz.f17 E d w T
 refine wp_mono (Q := PQ R9 B9) ?_ (fun e a W h => bodyPostE_le _ _ _ _ _ e a W (hq e a W h))
 clear hq
 go_upto_region 1 with fail
 clear hW
 go_upto_region 2 with (go_at_call 37; refine B.win h60 ?_; clear B; intro w1 bC hbC B)
 clear hbC
 go_upto_region 3 with (go_at_call 35; refine B.pnow ?_; clear B; intro u1 B; have f2 := tk_fields E.P i)
 clear f2
 obtain ⟨b3, P⟩ := B.peat (sg := w_fn) Q
 clear B Q
 cases b3 with
 | true =>
  go_upto_region 5 with (first | (go_at_call 39; refine B.pnd Q HAP (p9.bad (.head _)) ?_; clear B Q; intro u5 p aop capp j6 _ B Q) | (go_at_call 38; refine P.t ?_; clear P; intro u4 B Q _))
  generalize hb : u5.heap.size = b8
  generalize h : u5.alloc _ = V7
  replace B := B.box h hb
  clear h hb
  go_upto_region 6 with (go_at_call 40; refine B.pun Q (kmust E (d + 1) s_arr) (p9.bad (.tail _ (.tail _ (.head _)))) ?_; clear B Q; intro u9 _ _ j10 B Q)
  have c11 := B.S.cs B.F.rb
  replace B := B.drew
  go_region_law (go_simp; first | (go_at_call 28; generalize h : u12.alloc _ = V15; replace B := B.mv2.mk2 rfl h; clear h; refine B.pnode ?_; clear B; intro u16 B; have c17 := B.cp) | (go_at_call 17; refine B.pnd Q R.exp (p9.bad (.tail _ (.tail _ (.head _)))) ?_; clear B Q; intro u12 e aoe cape j13 _ B Q; have c14 := B.mv1.S.cs B.F.rb))
  all_goals
   go_wp2_with fail
   exact Bp.finw (.mk 7 (E.P.A i) ⟨#[]⟩ 0 [p, e]) B.ko p9 (.tail _ (.head _)) Q.pr rfl rfl
 | false =>
  go_upto_region 7 with (go_at_call 38; refine P.f ?_; clear P; intro u18 B Q _)
  obtain ⟨b19, P⟩ := B.peat (sg := w_if) Q
  clear B Q
  cases b19 with
  | true =>
   go_upto_region 9 with (first | (go_at_call 17; refine B.pnd Q R.exp (p9.bad (.head _)) ?_; clear B Q; intro u21 a aoa capa j22 _ B Q) | (go_at_call 38; refine P.t ?_; clear P; intro u20 B Q _))
   generalize hb : u21.heap.size = b24
   generalize h : u21.alloc _ = V23
   replace B := B.box h hb
   clear h hb
   go_upto_region 11 with (first | (go_at_call 17; refine B.pnd Q R.exp (p9.bad (.tail _ (.tail _ (.head _)))) ?_; clear B Q; intro u27 b aob capb j28 _ B Q) | (go_at_call 40; refine B.pun Q (kmust E (d + 1) w_then) (p9.bad (.tail _ (.tail _ (.head _)))) ?_; clear B Q; intro u25 _ _ j26 B Q))
   generalize hb : u27.heap.size = b30
   generalize h : u27.alloc _ = V29
   replace B := B.box h hb
   clear h hb
   go_upto_region 12 with (go_at_call 40; refine B.pun Q (kmust E (d + 1) w_else) (p9.bad (.tail _ (.tail _ (.tail _ (.tail _ (.head _)))))) ?_; clear B Q; intro u31 _ _ j32 B Q)
   have c33 := B.mv2.S.cs B.F.rb; have c34 := B.S.cs B.F.rb
   replace B := B.drew
   go_region_law (go_simp; first | (go_at_call 28; generalize h : u35.alloc _ = V39; replace B := B.mv2.mv4.mk3 rfl h; clear h; refine B.pnode ?_; clear B; intro u40 B; have c41 := B.cp) | (go_at_call 17; refine B.pnd Q R.exp (p9.bad (.tail _ (.tail _ (.tail _ (.tail _ (.head _)))))) ?_; clear B Q; intro u35 c aoc capc j36 _ B Q; have c37 := B.mv3.S.cs B.F.rb; have c38 := B.mv1.S.cs B.F.rb))
   all_goals
    go_wp2_with fail
    exact Bp.finw (.mk 9 (E.P.A i) ⟨#[]⟩ 0 [a, b, c]) B.ko p9 (.tail _ (.tail _ (.head _))) Q.pr rfl rfl
  | false =>
   go_upto_region 13 with (go_at_call 38; refine P.f ?_; clear P; intro u42 B Q _)
   obtain ⟨b43, P⟩ := B.peat (sg := w_raise) Q
   clear B Q
   cases b43 with
   | true =>
    go_upto_region 14 with (go_at_call 38; refine P.t ?_; clear P; intro u44 B Q _)
    go_wp2_with (first | (go_at_call 28; generalize h : u45.alloc _ = V47; replace B := B.mk1 rfl h; clear h; refine B.pnode ?_; clear B; intro u48 B; have c49 := B.cp) | (go_at_call 17; refine B.pnd Q R.exp (p9.bad (.head _)) ?_; clear B Q; intro u45 e aoe cape j46 _ B Q))
    exact Bp.finw (.mk 13 (E.P.A i) ⟨#[]⟩ 0 [e]) B.ko p9 (.head _) Q.pr rfl rfl
   | false =>
    go_upto_region 15 with (go_at_call 38; refine P.f ?_; clear P; intro u50 B Q _)
    go_wp2_with (go_at_call 41; refine B.pndt Q HBET (p9.bad (.head _)) ?_; clear B Q; intro u51 t aot capt j52 B Q; have c53 := B.cp)
    exact Bp.finw (t) (B) p9 (.head _) Q rfl rfl
end Go.Proofs.YthehjeeiodbkjaaGreatDoor
