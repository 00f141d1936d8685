/-
  Proved: the contract of the reader's fbind; the contract of the document's dec; the contract of the reader's dec, one level up; the contracts of exp, pat, typ, dec, sig at every depth; the contracts of the closure that catches a slip. Conditions: the reader as it stands in memory; what the reader reads within; the reader as it stands in memory; what it reads within; the reader as it stands in memory.
-/
import Derived.Test.YthehjeeiodbkjaaGreatDoorA01
import Derived.Test.YthehjeeiodbkjaaGreatDoorA09
import Derived.Test.YthehjeeiodbkjaaGreatDoorA06
import Derived.Test.YthehjeeiodbkjaaGreatDoorA10
import Derived.Test.YthehjeeiodbkjaaGreatDoorA11
import Derived.Test.YthehjeeiodbkjaaGreatDoorA12
import Derived.Test.YthehjeeiodbkjaaGreatDoorA13
import Derived.Test.YthehjeeiodbkjaaGreatDoorA14
import Derived.Test.YthehjeeiodbkjaaGreatDoorA07
import Derived.WalkSpells
import Derived.Recover
import Derived.BigRegion
set_option linter.unusedSimpArgs false
set_option linter.unusedVariables false
set_option maxRecDepth 100000
set_option maxHeartbeats 16000000
namespace Go.Proofs.YthehjeeiodbkjaaGreatDoor
open Go.RowKit
theorem deep_call (E : Env) (g : Nat) (PD : ∀ g', g = g' + 1 → ItemP E (60 - g') 17 (readS E.P g' .exp)) (hg : 60 - g < 60 ∧ g ≤ 60) (w : World) (j : Nat) (h : Rd E w j (60 - g + 1)) : Calls Tryz.prog 17 #[pr E] w (PPost E (60 - g + 1) w ((recS E.P g).deep j) (NdQ w)) := by
 obtain ⟨g', rfl⟩ : ∃ g', g = g' + 1 := ⟨g - 1, by omega⟩
 have e : 60 - (g' + 1) + 1 = 60 - g' := by omega
 rw [e] at h ⊢
 exact (PD g' rfl).call w j h
theorem pfbind_any (E : Env) (g : Nat) (PA : PAll E g) (w : World) (i : Nat) (PD : ∀ g', g = g' + 1 → ItemP E (60 - g') 17 (readS E.P g' .exp)) (h : Rd E w i (60 - g)) : Calls Tryz.prog 120 #[pr E] w (PPost E (60 - g) w ((fbindB E.P (recS E.P g)) i) (NdQ w)) := by
 rw [show (fbindB E.P (recS E.P g)) i = (kindD E.P 3 >>= fun s => apatB E.P (recS E.P g) >>= fun p => manyL (begunB E.P) (apatB E.P (recS E.P g)) (E.P.toks.length + 1) [p] >>= fun l => (eatD E.P s_col >>= fun c => if c = true then (readS E.P g .typ >>= fun t => mustD E.P s_eq >>= fun _ => ((recS E.P g)).deep >>= fun e => (pure (.mk 36 (E.P.A i) s 0 (l ++ [.mk 19 e.n ⟨#[]⟩ 0 [e, t]])) : M Ty)) else (mustD E.P s_eq >>= fun _ => readS E.P g .exp >>= fun e => (pure (.mk 36 (E.P.A i) s 0 (l ++ [e])) : M Ty)))) i from rfl]
 refine Bp.go h PA ?_
 intro d T W R hW B Q hlr hN
 have HAP := at_p R.hd (fun w j h => papat_any E g PA w j h)
 have HST := lh (show ∀ i x j, apatB E.P (recS E.P g) i = .ok x j → i + 1 ≤ j from fun i x j e => st_apat E.P _ (st_rec E.P g).2 i x j e)
 have HDP := lh (show d < 60 → ∀ w1 j, Rd E w1 j (d + 1) → Calls Tryz.prog 17 #[pr E] w1 (PPost E (d + 1) w1 (((recS E.P g)).deep j) (NdQ w1)) from by rw [R.hd]; exact fun hl w1 j h1 => deep_call E g PD ⟨hl, PA.g60⟩ w1 j h1)
 have HBAD := lh (show ¬ d < 60 → ((recS E.P g)).deep = failD E.P 5 from by intro hl; have h60 := PA.g60; have hd := R.hd; have e0 : g = 0 := (by omega); rw [e0]; rfl)
 clear h PA PD
 unfold pr at HAP HDP ⊢
 go_enter_defers Tryz.func120, Tryz.ntmps120
 obtain ⟨R9, B9, p9, hq⟩ := Pf9.ex Tryz.f120 E d w T
 refine wp_mono (Q := PQ R9 B9) ?_ hq
 clear hq
 go_upto_region 1 with fail
 clear hW
 go_upto_region 2 with (first | (go_at_call 28; refine B.pnode ?_; clear B; intro u3 B) | (go_at_call 35; refine B.pnow ?_; clear B; intro u1 B; have f2 := tk_fields E.P i))
 clear f2
 generalize hb : u3.heap.size = b5
 generalize h : u3.alloc _ = V4
 replace B := B.box h hb
 clear h hb
 go_upto_region 3 with (go_at_call 74; refine B.pstr Q (kkind3 E d) p9.badN ?_; clear B Q; intro u6 s j7 _ B Q; have c8 := B.S.cs B.F.rb)
 clear c8
 generalize h : u6.setCell _ _ = X9
 replace B := B.s2 h
 clear h
 go_upto_region 4 with (go_at_call 39; refine B.pnd Q HAP p9.badN ?_; clear B Q; intro u10 p aop capp j11 hx B Q; have LXp := lh hx; clear hx; have c12 := B.mv1.S.cs B.F.rb)
 clear c12
 generalize hz : u10.heap.size = z13
 generalize h : u10.setCell _ _ = X14
 replace B := B.mv1.s4 h
 replace hz := size_set h hz
 clear h
 generalize h : X14.alloc _ = V15
 replace B := B.mv1.mk1 hz h
 clear h
 clear hz
 have LS := lh (HST.out _ _ _ LXp.out)
 go_loopw [] (fun wr => ∃ (l : List Ty) (ao : Option Addr) (cap j f : Nat), Qp T (manyL (begunB E.P) (apatB E.P (recS E.P g)) f l >>= (fun l => (eatD E.P s_col >>= fun c => if c = true then (readS E.P g .typ >>= fun t => mustD E.P s_eq >>= fun _ => ((recS E.P g)).deep >>= fun e => (pure (.mk 36 (E.P.A i) s 0 (l ++ [.mk 19 e.n ⟨#[]⟩ 0 [e, t]])) : M Ty)) else (mustD E.P s_eq >>= fun _ => readS E.P g .exp >>= fun e => (pure (.mk 36 (E.P.A i) s 0 (l ++ [e])) : M Ty))))) j ∧ E.P.toks.length < j + f ∧ l.length ≤ j + 1 ∧ Bp E w d wr j [.nv b5 (.int .i64 36) (.int .i64 (E.P.A i : Int)) (.string s) (.int .i64 0) (.slice ao l.length cap), .ow (.slice ao l.length cap) l]) (fun wr => E.P.toks.length - posOf wr E.rb)
 case atStart => exact ⟨[p], _, _, _, _, Q, by have := LS.out; omega, by have := LS.out; simp, B.mv1⟩
 case round =>
  clear B Q LS
  obtain ⟨l, ao, cap, j, f, Q, hf, hl, B⟩ := hrel
  obtain ⟨f, rfl⟩ : ∃ f', f = f' + 1 := ⟨f - 1, by have := B.F.R.le; omega⟩
  have HF := lh hf
  have R0 := lh B.F.R
  have HL : Hid (l.length ≤ j + 1 ∧ j ≤ 100000) := lh ⟨hl, Nat.le_trans B.F.R.le hN⟩
  clear hf hl
  cases hb : begunB E.P j with
  | true =>
   have HB := lh hb
   clear hb
   replace Q : Qp T (apatB E.P (recS E.P g) >>= fun x => manyL (begunB E.P) (apatB E.P (recS E.P g)) f (l ++ [x]) >>= (fun l => (eatD E.P s_col >>= fun c => if c = true then (readS E.P g .typ >>= fun t => mustD E.P s_eq >>= fun _ => ((recS E.P g)).deep >>= fun e => (pure (.mk 36 (E.P.A i) s 0 (l ++ [.mk 19 e.n ⟨#[]⟩ 0 [e, t]])) : M Ty)) else (mustD E.P s_eq >>= fun _ => readS E.P g .exp >>= fun e => (pure (.mk 36 (E.P.A i) s 0 (l ++ [e])) : M Ty))))) j := ⟨by
    rw [Q.eq]
    show bnd (manyL (begunB E.P) (apatB E.P (recS E.P g)) (f + 1) l) (fun l => (eatD E.P s_col >>= fun c => if c = true then (readS E.P g .typ >>= fun t => mustD E.P s_eq >>= fun _ => ((recS E.P g)).deep >>= fun e => (pure (.mk 36 (E.P.A i) s 0 (l ++ [.mk 19 e.n ⟨#[]⟩ 0 [e, t]])) : M Ty)) else (mustD E.P s_eq >>= fun _ => readS E.P g .exp >>= fun e => (pure (.mk 36 (E.P.A i) s 0 (l ++ [e])) : M Ty)))) j = _
    unfold bnd
    rw [manyL_at, if_pos HB.out]
    cases hx : apatB E.P (recS E.P g) j with
    | bad k a => rw [bind_bad hx, bind_bad hx]
    | ok x m => rw [bind_ok hx, bind_ok hx]; rfl⟩
   go_upto_region 5 with (go_at_call 160; refine B.ask (x := .bool true) (by have h := begun_any E _ j d B.F.R; rw [HB.out] at h; exact h) ?_; clear B; intro u16 B)
   have c17 := B.S.cs B.F.rb
   replace B := B.drew
   go_region_law (first | (have hq9 := LXx; clear hq9; generalize h : u18.alloc _ = V21; replace B := B.mk1 rfl h; clear h; refine B.mv2.appO (by rfl) _ _ (by rfl) (by rfl) (by rfl) (by have := HL.out; simp; omega) ?_; clear B; intro aoL capL L u22 ELL B; have c23 := B.mv1.S.cs B.F.rb; have c24 := B.cp) | (go_simp; (go_at_call 39; refine B.pnd Q HAP p9.badN ?_; clear B Q; intro u18 x aox capx j19 hx B Q; have LXx := lh hx; clear hx; have c20 := B.mv1.S.cs B.F.rb)))
   all_goals
    generalize h : u22.setCell _ _ = X25
    replace B := B.mv1.s4 h
    clear h
    have LS := lh (HST.out _ _ _ LXx.out)
    go_roundw
    case rel => first | exact ⟨L, aoL, capL, j19, f, by rw [ELL.out]; exact Q, by have := LS.out; have := HF.out; omega, by rw [ELL.out, List.length_append]; have := LS.out; have := HL.out; simp; omega, B.mv1.mv1⟩ | ((repeat apply Exists.intro); exact ⟨⟨L, aoL, capL, j19, f, by rw [ELL.out]; exact Q, by have := LS.out; have := HF.out; omega, by rw [ELL.out, List.length_append]; have := LS.out; have := HL.out; simp; omega, B.mv1.mv1⟩, rfl⟩)
    case measure => exact pos_less R0.out B.F.R LS.out
  | false =>
   have HB := lh hb
   clear hb
   replace Q : Qp T (eatD E.P s_col >>= fun c => if c = true then (readS E.P g .typ >>= fun t => mustD E.P s_eq >>= fun _ => ((recS E.P g)).deep >>= fun e => (pure (.mk 36 (E.P.A i) s 0 (l ++ [.mk 19 e.n ⟨#[]⟩ 0 [e, t]])) : M Ty)) else (mustD E.P s_eq >>= fun _ => readS E.P g .exp >>= fun e => (pure (.mk 36 (E.P.A i) s 0 (l ++ [e])) : M Ty))) j := ⟨by
    rw [Q.eq]
    show bnd (manyL (begunB E.P) (apatB E.P (recS E.P g)) (f + 1) l) (fun l => (eatD E.P s_col >>= fun c => if c = true then (readS E.P g .typ >>= fun t => mustD E.P s_eq >>= fun _ => ((recS E.P g)).deep >>= fun e => (pure (.mk 36 (E.P.A i) s 0 (l ++ [.mk 19 e.n ⟨#[]⟩ 0 [e, t]])) : M Ty)) else (mustD E.P s_eq >>= fun _ => readS E.P g .exp >>= fun e => (pure (.mk 36 (E.P.A i) s 0 (l ++ [e])) : M Ty)))) j = _
    unfold bnd
    rw [manyL_at, if_neg (by rw [HB.out]; decide)]⟩
   go_upto_region 7 with (go_at_call 160; refine B.ask (x := .bool false) (by have h := begun_any E _ j d B.F.R; rw [HB.out] at h; exact h) ?_; clear B; intro u26 B)
   obtain ⟨b27, P⟩ := B.peatd (sg := s_col) Q
   clear B Q
   cases b27 with
   | true =>
    go_upto_region 8 with (go_at_call 38; refine P.t ?_; clear P; intro u28 B Q _)
    go_upto_region 9 with (go_at_call 65; refine B.pnd Q R.typ p9.badN ?_; clear B Q; intro u29 t aot capt j30 _ B Q)
    generalize h : u29.alloc _ = V31
    replace B := B.mk1 rfl h
    clear h
    go_upto_region 10 with (go_at_call 40; refine B.pun Q (kmust E d s_eq) p9.badN ?_; clear B Q; intro u32 _ _ j33 B Q)
    replace B := B.ko
    have hnq1 : ∀ w' : World, (binOp .neq 24 (.slice (some ⟨u29.heap.size, 0, none⟩) 1 1) (.slice none 0 0)).run Tryz.prog w' = .ok (.bool true) w' := fun w' => run_neq_slice_nil_any w' 24 26 (some ⟨u29.heap.size, 0, none⟩) 1 1 0 0 Tryz.underlying24
    go_upto_region 11 with fail
    by_cases h60 : d < 60
    · have H60 := lh h60
      clear h60
      go_upto_region 12 with (go_at_call 37; refine B.win H60.out ?_; clear B; intro u34 bC hbC B; clear hbC)
      replace B := B.mv3
      replace B := B.mv3
      replace B := B.mv3
      go_upto_region 13 with (go_at_call 17; refine B.pnd Q (lh (HDP.out H60.out)) (p9.badF (.tail _ (.tail _ (.tail _ (.head _))))) ?_; clear B Q; intro u35 e aoe cape j36 _ B Q)
      generalize hb : u35.heap.size = b38
      generalize h : u35.alloc _ = V37
      replace B := B.box h hb
      clear h hb
      go_upto_region 14 with fail
      obtain ⟨tt, br, pr, ar, cr, HNr, HXr, fr, B⟩ := B.mv2.elem (m := 0) (by simp)
      have nr1 : ¬ (br = b38) := HXr.out _ (by simp [wrs, At.wr])
      have nr2 : ¬ (b38 = br) := fun e => nr1 e.symm
      have ix1 : ∀ w' : World, (Instr.indexAt 24 (.slice (some ⟨u29.heap.size, 0, none⟩) 1 1) (.int .i64 0)).run Tryz.prog w' = .ok (.pointer (some ⟨br, pr, none⟩)) w' := fr.2.2.1
      have HTT : Hid (tt = t) := HNr
      have c39 := B.mv2.S.cs B.F.rb
      go_region_law (go_simp; (go_at_call 28; generalize h : V37.alloc _ = V40; replace B := B.mv3.mk2 rfl h; clear h; replace B := B.drew; refine B.pnode ?_; clear B; intro u41 B; have c42 := B.mv2.S.cs B.F.rb))
      all_goals
       clear fr nr1 nr2 ix1 c39 c42
       generalize h : ((((u41.setCell _ _).setCell _ _).setCell _ _).setCell _ _).setCell _ _ = X43
       replace B := B.mv2.sn h
       clear h
       replace B := B.mv2.dr
       have c44 := B.mv2.S.cs B.F.rb; have c45 := B.S.cs B.F.rb
       go_upto_region 16 with (at_builtin; generalize h : X43.alloc _ = V46; replace B := B.mv1.ko.mkl rfl h; clear h; go_must (refine B.mv3.app rfl _ _ rfl rfl rfl (by have := HL.out; simp; omega) ?_); clear B; intro aoL capL L u47 ELL B; have c48 := B.mv2.S.cs B.F.rb)
       clear c44 c45 c48
       generalize h : u47.setCell _ _ = X49
       replace B := B.mv2.s4 h
       clear h
       have c50 := B.S.cs B.F.rb; have c51 := B.cp
       go_wp2_with fail
       exact Bp.finF (.mk 36 (E.P.A i) s 0 L) B.mv1.ko p9 (.tail _ (.tail _ (.head _))) (by rw [ELL.out, HTT.out]; exact Q.pr) rfl rfl
    · have H60 := lh h60
      clear h60
      go_wp2_with (go_at_call 37; exact B.wno H60.out Q (fun k a hx => bind_bad (by rw [HBAD.out H60.out]; exact failD_cast hx)) p9.badN)
   | false =>
    have hnq0 : ∀ w' : World, (binOp .neq 24 (.slice none 0 0) (.slice none 0 0)).run Tryz.prog w' = .ok (.bool false) w' := fun w' => run_neq_slice_nil_any w' 24 26 none 0 0 0 0 Tryz.underlying24
    go_upto_region 12 with (first | (go_at_call 40; refine B.pun Q (kmust E d s_eq) p9.badN ?_; clear B Q; intro u53 _ _ j54 B Q) | (go_at_call 38; refine P.f ?_; clear P; intro u52 B Q _))
    go_upto_region 13 with (go_at_call 17; refine B.pnd Q R.exp p9.badN ?_; clear B Q; intro u55 e aoe cape j56 _ B Q)
    generalize hb : u55.heap.size = b58
    generalize h : u55.alloc _ = V57
    replace B := B.box h hb
    clear h hb
    go_upto_region 15 with fail
    have c59 := B.mv2.S.cs B.F.rb; have c60 := B.S.cs B.F.rb
    go_upto_region 16 with (at_builtin; generalize h : V57.alloc _ = V61; replace B := B.mv1.mk1 rfl h; clear h; go_must (refine B.mv3.app rfl _ _ rfl rfl rfl (by have := HL.out; simp; omega) ?_); clear B; intro aoL capL L u62 ELL B; have c63 := B.mv2.S.cs B.F.rb)
    clear c59 c60 c63
    generalize h : u62.setCell _ _ = X64
    replace B := B.mv2.s4 h
    clear h
    have c65 := B.S.cs B.F.rb; have c66 := B.cp
    go_wp2_with fail
    exact Bp.finN (.mk 36 (E.P.A i) s 0 L) B.mv1.ko p9 (by rw [ELL.out]; exact Q.pr) rfl rfl
theorem dec_one {P : Src} {i : Nat} (h : oneD P (startsL 0) i = true) : (P.K i = 6 ∨ P.K i = 7) ∧ (P.T i = w_val ∨ P.T i = w_fun ∨ P.T i = w_type ∨ P.T i = w_data ∨ P.T i = w_exception ∨ P.T i = w_structure ∨ P.T i = w_signature ∨ P.T i = w_open) := by
 have h : oneD P [w_val, w_fun, w_type, w_data, w_exception, w_structure, w_open, w_signature] i = true := h
 unfold oneD at h
 simp only [Bool.and_eq_true, decide_eq_true_eq, List.any_cons, List.any_nil, Bool.or_eq_true, Bool.or_false] at h
 refine ⟨h.1, ?_⟩
 rcases h.2 with h | h | h | h | h | h | h | h <;> simp [h]
theorem dec_val {P : Src} {R : Rec} {i : Nat} (h : P.T i = w_val) : decB P R i = (R.go .pat >>= fun p => mustD P s_eq >>= fun _ => R.go .exp >>= fun e => (pure (.mk 34 (P.A i) ⟨#[]⟩ 0 [p, e]) : M Ty)) (i + 1) := by
 unfold decB
 rw [if_pos h]
theorem dec_fun {P : Src} {R : Rec} {i : Nat} (h : P.T i = w_fun) : decB P R i = (rowD P (fbindB P R) w_and >>= fun l => (pure (.mk 35 (P.A i) ⟨#[]⟩ 0 l) : M Ty)) (i + 1) := by
 unfold decB
 rw [if_neg (by rw [h]; decide), if_pos h]
theorem dec_type {P : Src} {R : Rec} {i : Nat} (h : P.T i = w_type) : decB P R i = (headB P 37 (P.A i) >>= fun h => mustD P s_eq >>= fun _ => R.go .typ >>= fun t => (pure (.mk h.k h.n h.s h.q (h.args ++ [t])) : M Ty)) (i + 1) := by
 unfold decB
 rw [if_neg (by rw [h]; decide), if_neg (by rw [h]; decide), if_pos h]
theorem dec_data {P : Src} {R : Rec} {i : Nat} (h : P.T i = w_data) : decB P R i = dataB P R (P.A i) (i + 1) := by
 unfold decB
 rw [if_neg (by rw [h]; decide), if_neg (by rw [h]; decide), if_neg (by rw [h]; decide), if_pos h]
theorem dec_exception {P : Src} {R : Rec} {i : Nat} (h : P.T i = w_exception) : decB P R i = (conB P R >>= fun c => (pure (.mk 41 (P.A i) c.s c.q c.args) : M Ty)) (i + 1) := by
 unfold decB
 rw [if_neg (by rw [h]; decide), if_neg (by rw [h]; decide), if_neg (by rw [h]; decide), if_neg (by rw [h]; decide), if_pos h]
theorem dec_structure {P : Src} {R : Rec} {i : Nat} (h : P.T i = w_structure) : decB P R i = structureB P R (P.A i) (i + 1) := by
 unfold decB
 rw [if_neg (by rw [h]; decide), if_neg (by rw [h]; decide), if_neg (by rw [h]; decide), if_neg (by rw [h]; decide), if_neg (by rw [h]; decide), if_pos h]
theorem dec_signature {P : Src} {R : Rec} {i : Nat} (h : P.T i = w_signature) : decB P R i = (kindD P 4 >>= fun x => mustD P s_eq >>= fun _ => R.go .sig >>= fun q => (pure (.mk 43 (P.A i) x 0 [q]) : M Ty)) (i + 1) := by
 unfold decB
 rw [if_neg (by rw [h]; decide), if_neg (by rw [h]; decide), if_neg (by rw [h]; decide), if_neg (by rw [h]; decide), if_neg (by rw [h]; decide), if_neg (by rw [h]; decide), if_pos h]
theorem dec_open {P : Src} {R : Rec} {i : Nat} (h : P.T i = w_open) : decB P R i = (pathD P 4 >>= fun p => (pure (.mk 44 (P.A i) p.1 0 []) : M Ty)) (i + 1) := by
 unfold decB
 rw [if_neg (by rw [h]; decide), if_neg (by rw [h]; decide), if_neg (by rw [h]; decide), if_neg (by rw [h]; decide), if_neg (by rw [h]; decide), if_neg (by rw [h]; decide), if_neg (by rw [h]; decide)]
theorem tld_val : w_val.toList = [118, 97, 108] := by rw [ByteArray.toList_eq]
theorem tld_fun : w_fun.toList = [102, 117, 110] := by rw [ByteArray.toList_eq]
theorem tld_type : w_type.toList = [116, 121, 112, 101] := by rw [ByteArray.toList_eq]
theorem tld_data : w_data.toList = [100, 97, 116, 97] := by rw [ByteArray.toList_eq]
theorem tld_exception : w_exception.toList = [101, 120, 99, 101, 112, 116, 105, 111, 110] := by rw [ByteArray.toList_eq]
theorem tld_structure : w_structure.toList = [115, 116, 114, 117, 99, 116, 117, 114, 101] := by rw [ByteArray.toList_eq]
theorem tld_signature : w_signature.toList = [115, 105, 103, 110, 97, 116, 117, 114, 101] := by rw [ByteArray.toList_eq]
theorem tld_open : w_open.toList = [111, 112, 101, 110] := by rw [ByteArray.toList_eq]
theorem fbind_item (E : Env) (g : Nat) (PA : PAll E g) (PD : ∀ g', g = g' + 1 → ItemP E (60 - g') 17 (readS E.P g' .exp)) : ItemP E (60 - g) 120 (fbindB E.P (recS E.P g)) := ⟨fun w i h => pfbind_any E g PA w i PD h, fun i x j _ e => Nat.le_of_succ_le (st_fbind E.P _ (st_rec E.P g).2 i x j e)⟩
theorem pdec_step (E : Env) (g : Nat) (PA : PAll E g) (hg : g + 1 ≤ 60) (PD : ∀ g', g = g' + 1 → ItemP E (60 - g') 17 (readS E.P g' .exp)) (w : World) (i : Nat) (h : Rd E w i (60 - (g + 1))) (hone : oneD E.P (startsL 0) i = true) : Calls Tryz.prog 63 #[pr E] w (PPost E (60 - (g + 1)) w (readS E.P (g + 1) .dec i) (NdQ w)) := by
 refine Bp.god (m := decB E.P (recS E.P g)) hg h PA (by rw [readS_succ]; rfl) ?_
 intro d T W R h60 hW B Q hlr hN
 have HON := lh (dec_one hone)
 have HLT := oneD_lt hone
 have HROW := krow 120 (item_at (by have := R.hd; omega) (fbind_item E g PA PD)) w_and (by intro x9 w9; rfl)
 have HHEAD := at_p R.hd (fun w j h => phead_any E g PA w j 37 (E.P.A i) h)
 have HDATA := at_p R.hd (fun w j h => pdata_any E g PA w j (E.P.A i) h)
 have HSTR := at_p R.hd (fun w j h => pstructure_any E g PA w j (E.P.A i) h)
 have HCON := at_p R.hd (fun w j h => pcon_any E g PA w j h)
 clear h PA PD hone
 unfold pr at HHEAD HDATA HSTR HCON ⊢
 go_enter_defers Tryz.func63, Tryz.ntmps63
 obtain ⟨R9, B9, p9, hq⟩ := Pw9.ex Tryz.f63 E d w T
 refine wp_mono (Q := PQ R9 B9) ?_ (fun e a W h => bodyPostE_le _ _ _ _ _ e a W (hq e a W h))
 clear hq
 go_upto_region 1 with fail
 clear hW
 go_upto_region 2 with (go_at_call 37; refine B.win h60 ?_; clear B; intro w1 bC hbC B)
 clear hbC
 go_upto_region 3 with (go_at_call 35; refine B.pnow ?_; clear B; intro u1 B; have f2 := tk_fields E.P i)
 clear f2
 generalize hb : u1.heap.size = b4
 generalize h : u1.alloc _ = V3
 replace B := B.boxt h hb
 clear h hb
 have c5 := B.S.ct B.F.rb
 go_upto_region 4 with (go_at_call 28; refine B.pnode ?_; clear B; intro u6 B; have c7 := B.S.ct B.F.rb)
 clear c5 c7
 generalize hb : u6.heap.size = b9
 generalize h : u6.alloc _ = V8
 replace B := B.box h hb
 clear h hb
 have c10 := B.S.cs B.F.rb; have c11 := B.F.R.cells
 go_upto_region 5 with fail
 clear c10 c11
 generalize h : V8.setCell _ _ = X12
 replace B := B.seti (j' := i + 1) HLT h rfl
 clear h
 have c13 := B.mv1.S.ct B.F.rb
 go_upto_region 6 with fail
 clear c13
 have HO := lh HON.out.2
 by_cases hval : E.P.T i = w_val
 · have eval : ((E.P.T i).toList == [118, 97, 108]) = true := by rw [← tld_val, str_eqB]; exact decide_eq_true hval
   have fval : (E.P.T i).toList = [118, 97, 108] := by rw [← tld_val]; exact ba_eq.2 hval
   replace Q : Qp T ((readS E.P g .pat >>= fun p => mustD E.P s_eq >>= fun _ => readS E.P g .exp >>= fun e => (pure (.mk 34 (E.P.A i) ⟨#[]⟩ 0 [p, e]) : M Ty))) (i + 1) := ⟨Q.eq.trans (dec_val hval)⟩
   clear hval
   go_upto_region 8 with (go_at_call 64; refine B.pnd Q R.pat (p9.bad (.tail _ (.tail _ (.head _)))) ?_; clear B Q; intro u14 p aop capp j15 _ B Q)
   generalize hb : u14.heap.size = b17
   generalize h : u14.alloc _ = V16
   replace B := B.box h hb
   clear h hb
   go_upto_region 9 with (go_at_call 40; refine B.pun Q (kmust E (d + 1) s_eq) (p9.bad (.tail _ (.tail _ (.tail _ (.tail _ (.head _)))))) ?_; clear B Q; intro u18 _ _ j19 B Q)
   have c20 := B.S.cs B.F.rb; have c21 := B.mv2.S.cs B.F.rb
   replace B := B.drew
   go_region_law (go_simp; (go_at_call 17; refine B.pnd Q R.exp (p9.bad (.tail _ (.tail _ (.tail _ (.tail _ (.head _)))))) ?_; clear B Q; intro u22 e aoe cape j23 _ B Q; have c24 := B.mv1.S.cs B.F.rb; have c25 := B.mv3.S.cs B.F.rb))
   all_goals
    clear c20 c21 c24 c25
    generalize hz : u22.heap.size = z26
    generalize h : u22.setCell _ _ = X27
    replace B := B.mv3.s4 h
    replace hz := size_set h hz
    clear h
    generalize h : X27.alloc _ = V28
    replace B := B.mv1.mv3.mk2 hz h
    clear h
    clear hz
    have c29 := B.mv1.S.cs B.F.rb; have c30 := B.cp
    go_wp2_with fail
    exact Bp.finw (.mk 34 (E.P.A i) ⟨#[]⟩ 0 [p, e]) B.ko p9 (.tail _ (.tail _ (.tail _ (.head _)))) Q.pr rfl rfl
 · have eval : ((E.P.T i).toList == [118, 97, 108]) = false := by rw [← tld_val, str_eqB]; exact decide_eq_false hval
   have HNval := lh hval
   clear hval
   go_upto_region 10 with fail
   by_cases hfun : E.P.T i = w_fun
   · have efun : ((E.P.T i).toList == [102, 117, 110]) = true := by rw [← tld_fun, str_eqB]; exact decide_eq_true hfun
     have ffun : (E.P.T i).toList = [102, 117, 110] := by rw [← tld_fun]; exact ba_eq.2 hfun
     replace Q : Qp T ((rowD E.P (fbindB E.P (recS E.P g)) w_and >>= fun l => (pure (.mk 35 (E.P.A i) ⟨#[]⟩ 0 l) : M Ty))) (i + 1) := ⟨Q.eq.trans (dec_fun hfun)⟩
     clear hfun
     have c31 := B.S.cs B.F.rb
     go_upto_region 12 with fail
     clear c31
     generalize h : X12.setCell _ _ = X32
     replace B := B.s0 h
     clear h
     go_upto_region 31 with (go_at_call 76; refine B.prw Q HROW (p9.bad (.tail _ (.tail _ (.head _)))) ?_; clear B Q; intro u33 l aol capl j34 _ B Q; have c35 := B.mv1.S.cs B.F.rb)
     clear c35
     generalize h : u33.setCell _ _ = X36
     replace B := B.mv1.s4 h
     clear h
     have c37 := B.S.cs B.F.rb; have c38 := B.cp
     go_wp2_with fail
     exact Bp.finw (.mk 35 (E.P.A i) ⟨#[]⟩ 0 l) B.mv1.ko p9 (.tail _ (.tail _ (.head _))) Q.pr rfl rfl
   · have efun : ((E.P.T i).toList == [102, 117, 110]) = false := by rw [← tld_fun, str_eqB]; exact decide_eq_false hfun
     have HNfun := lh hfun
     clear hfun
     go_upto_region 13 with fail
     by_cases htype : E.P.T i = w_type
     · have etype : ((E.P.T i).toList == [116, 121, 112, 101]) = true := by rw [← tld_type, str_eqB]; exact decide_eq_true htype
       have ftype : (E.P.T i).toList = [116, 121, 112, 101] := by rw [← tld_type]; exact ba_eq.2 htype
       replace Q : Qp T ((headB E.P 37 (E.P.A i) >>= fun h => mustD E.P s_eq >>= fun _ => readS E.P g .typ >>= fun t => (pure (.mk h.k h.n h.s h.q (h.args ++ [t])) : M Ty))) (i + 1) := ⟨Q.eq.trans (dec_type htype)⟩
       clear htype
       have c39 := B.mv1.S.ct B.F.rb; have c40 := B.S.cs B.F.rb
       go_upto_region 15 with (go_at_call 121; refine B.pno Q HHEAD (p9.bad (.tail _ (.tail _ (.head _)))) ?_; clear B Q; intro u41 h aoh caph j42 hx B Q; have LNh := lh (head_len hx); clear hx; have c43 := B.mv1.S.cs B.F.rb)
       clear c39 c40 c43
       generalize h : ((((u41.setCell _ _).setCell _ _).setCell _ _).setCell _ _).setCell _ _ = X44
       replace B := B.mv1.sn h
       clear h
       go_upto_region 16 with (go_at_call 40; refine B.pun Q (kmust E (d + 1) s_eq) (p9.bad (.tail _ (.tail _ (.tail _ (.head _))))) ?_; clear B Q; intro u45 _ _ j46 B Q)
       have c47 := B.S.cs B.F.rb
       replace B := B.drew
       go_region_law (first | (have hq9 := LXq; clear hq9; generalize h : u48.alloc _ = V51; replace B := B.mk1 rfl h; clear h; refine B.mv2.appO (by rfl) _ _ (by rfl) (by rfl) (by rfl) (by have h1 := LNh.out; simp; omega) ?_; clear B; intro aoL capL L u52 ELL B; have c53 := B.mv1.S.cs B.F.rb; have c54 := B.cp) | (go_simp; (go_at_call 65; refine B.pnd Q R.typ (p9.bad (.tail _ (.tail _ (.tail _ (.head _))))) ?_; clear B Q; intro u48 q aoq capq j49 hx B Q; have LXq := lh hx; clear hx; have c50 := B.mv1.S.cs B.F.rb)))
       all_goals
        generalize h : u52.setCell _ _ = X55
        replace B := B.mv1.s4 h
        clear h
        have c56 := B.S.cs B.F.rb; have c57 := B.cp
        go_wp2_with fail
        exact Bp.finw (.mk h.k h.n h.s h.q L) B.mv1.ko p9 (.tail _ (.tail _ (.head _))) (by rw [ELL.out]; exact Q.pr) rfl rfl
     · have etype : ((E.P.T i).toList == [116, 121, 112, 101]) = false := by rw [← tld_type, str_eqB]; exact decide_eq_false htype
       have HNtype := lh htype
       clear htype
       go_upto_region 17 with fail
       by_cases hdata : E.P.T i = w_data
       · have edata : ((E.P.T i).toList == [100, 97, 116, 97]) = true := by rw [← tld_data, str_eqB]; exact decide_eq_true hdata
         have fdata : (E.P.T i).toList = [100, 97, 116, 97] := by rw [← tld_data]; exact ba_eq.2 hdata
         replace Q : Qp T (dataB E.P (recS E.P g) (E.P.A i)) (i + 1) := ⟨Q.eq.trans (dec_data hdata)⟩
         clear hdata
         have c58 := B.mv1.S.ct B.F.rb; have c59 := B.S.cs B.F.rb
         go_upto_region 31 with (go_at_call 122; refine B.pnot Q HDATA (p9.bad (.tail _ (.tail _ (.head _)))) ?_; clear B Q; intro u60 q aoq capq j61 B Q; have c62 := B.mv1.S.cs B.F.rb)
         clear c58 c59 c62
         generalize h : ((((u60.setCell _ _).setCell _ _).setCell _ _).setCell _ _).setCell _ _ = X63
         replace B := B.mv1.sn h
         clear h
         have c64 := B.S.cs B.F.rb; have c65 := B.cp
         go_wp2_with fail
         exact Bp.finw (q) B.mv1.ko p9 (.tail _ (.tail _ (.head _))) Q rfl rfl
       · have edata : ((E.P.T i).toList == [100, 97, 116, 97]) = false := by rw [← tld_data, str_eqB]; exact decide_eq_false hdata
         have HNdata := lh hdata
         clear hdata
         go_upto_region 19 with fail
         by_cases hexception : E.P.T i = w_exception
         · have eexception : ((E.P.T i).toList == [101, 120, 99, 101, 112, 116, 105, 111, 110]) = true := by rw [← tld_exception, str_eqB]; exact decide_eq_true hexception
           have fexception : (E.P.T i).toList = [101, 120, 99, 101, 112, 116, 105, 111, 110] := by rw [← tld_exception]; exact ba_eq.2 hexception
           replace Q : Qp T ((conB E.P (recS E.P g) >>= fun c => (pure (.mk 41 (E.P.A i) c.s c.q c.args) : M Ty))) (i + 1) := ⟨Q.eq.trans (dec_exception hexception)⟩
           clear hexception
           have c66 := B.S.cs B.F.rb
           go_upto_region 21 with (go_at_call 123; refine B.pnd Q HCON (p9.bad (.tail _ (.tail _ (.head _)))) ?_; clear B Q; intro u67 c aoc capc j68 _ B Q; have c69 := B.mv1.S.cs B.F.rb)
           clear c66 c69
           generalize h : ((((u67.setCell _ _).setCell _ _).setCell _ _).setCell _ _).setCell _ _ = X70
           replace B := B.mv1.sn h
           clear h
           have c71 := B.mv2.S.ct B.F.rb; have c72 := B.S.cs B.F.rb
           go_region
           all_goals
            clear c71 c72
            generalize h : X70.setCell _ _ = X73
            replace B := B.s0 h
            clear h
            generalize h : X73.setCell _ _ = X74
            replace B := B.s1 h
            clear h
            replace B := B.drew
            generalize X74.drew = V75 at B ⊢
            have c76 := B.S.cs B.F.rb; have c77 := B.cp
            go_wp2_with fail
            exact Bp.finw (.mk 41 (E.P.A i) c.s c.q c.args) B.mv1 p9 (.tail _ (.tail _ (.head _))) Q.pr rfl rfl
         · have eexception : ((E.P.T i).toList == [101, 120, 99, 101, 112, 116, 105, 111, 110]) = false := by rw [← tld_exception, str_eqB]; exact decide_eq_false hexception
           have HNexception := lh hexception
           clear hexception
           go_upto_region 22 with fail
           by_cases hstructure : E.P.T i = w_structure
           · have estructure : ((E.P.T i).toList == [115, 116, 114, 117, 99, 116, 117, 114, 101]) = true := by rw [← tld_structure, str_eqB]; exact decide_eq_true hstructure
             have fstructure : (E.P.T i).toList = [115, 116, 114, 117, 99, 116, 117, 114, 101] := by rw [← tld_structure]; exact ba_eq.2 hstructure
             replace Q : Qp T (structureB E.P (recS E.P g) (E.P.A i)) (i + 1) := ⟨Q.eq.trans (dec_structure hstructure)⟩
             clear hstructure
             have c78 := B.mv1.S.ct B.F.rb; have c79 := B.S.cs B.F.rb
             go_upto_region 31 with (go_at_call 124; refine B.pndt Q HSTR (p9.bad (.tail _ (.tail _ (.head _)))) ?_; clear B Q; intro u80 q aoq capq j81 B Q; have c82 := B.mv1.S.cs B.F.rb)
             clear c78 c79 c82
             generalize h : ((((u80.setCell _ _).setCell _ _).setCell _ _).setCell _ _).setCell _ _ = X83
             replace B := B.mv1.sn h
             clear h
             have c84 := B.S.cs B.F.rb; have c85 := B.cp
             go_wp2_with fail
             exact Bp.finw (q) B.mv1 p9 (.tail _ (.tail _ (.head _))) Q rfl rfl
           · have estructure : ((E.P.T i).toList == [115, 116, 114, 117, 99, 116, 117, 114, 101]) = false := by rw [← tld_structure, str_eqB]; exact decide_eq_false hstructure
             have HNstructure := lh hstructure
             clear hstructure
             go_upto_region 24 with fail
             by_cases hsignature : E.P.T i = w_signature
             · have esignature : ((E.P.T i).toList == [115, 105, 103, 110, 97, 116, 117, 114, 101]) = true := by rw [← tld_signature, str_eqB]; exact decide_eq_true hsignature
               have fsignature : (E.P.T i).toList = [115, 105, 103, 110, 97, 116, 117, 114, 101] := by rw [← tld_signature]; exact ba_eq.2 hsignature
               replace Q : Qp T ((kindD E.P 4 >>= fun x => mustD E.P s_eq >>= fun _ => readS E.P g .sig >>= fun q => (pure (.mk 43 (E.P.A i) x 0 [q]) : M Ty))) (i + 1) := ⟨Q.eq.trans (dec_signature hsignature)⟩
               clear hsignature
               have c86 := B.S.cs B.F.rb
               go_upto_region 26 with (go_at_call 74; refine B.pstr Q (kkind4 E (d + 1)) (p9.bad (.tail _ (.tail _ (.head _)))) ?_; clear B Q; intro u87 s j88 _ B Q; have c89 := B.S.cs B.F.rb)
               clear c86 c89
               generalize h : u87.setCell _ _ = X90
               replace B := B.s0 h
               clear h
               generalize h : X90.setCell _ _ = X91
               replace B := B.s2 h
               clear h
               go_upto_region 27 with (go_at_call 40; refine B.pun Q (kmust E (d + 1) s_eq) (p9.bad (.tail _ (.tail _ (.head _)))) ?_; clear B Q; intro u92 _ _ j93 B Q)
               go_upto_region 31 with (go_at_call 125; refine B.pnd Q R.sig (p9.bad (.tail _ (.tail _ (.head _)))) ?_; clear B Q; intro u94 gg aogg capgg j95 _ B Q; have c96 := B.mv1.S.cs B.F.rb)
               clear c96
               generalize hz : u94.heap.size = z97
               generalize h : u94.setCell _ _ = X98
               replace B := B.mv1.s4 h
               replace hz := size_set h hz
               clear h
               generalize h : X98.alloc _ = V99
               replace B := B.mv1.mk1 hz h
               clear h
               clear hz
               have c100 := B.mv1.S.cs B.F.rb; have c101 := B.cp
               go_wp2_with fail
               exact Bp.finw (.mk 43 (E.P.A i) s 0 [gg]) B.ko p9 (.tail _ (.tail _ (.head _))) Q.pr rfl rfl
             · have esignature : ((E.P.T i).toList == [115, 105, 103, 110, 97, 116, 117, 114, 101]) = false := by rw [← tld_signature, str_eqB]; exact decide_eq_false hsignature
               have HNsignature := lh hsignature
               clear hsignature
               have hop : E.P.T i = w_open := by have h := HO.out; simp only [HNval.out, HNfun.out, HNtype.out, HNdata.out, HNexception.out, HNstructure.out, HNsignature.out, false_or] at h; exact h
               have eopen : ((E.P.T i).toList == [111, 112, 101, 110]) = true := by rw [← tld_open, str_eqB]; exact decide_eq_true hop
               have fopen : (E.P.T i).toList = [111, 112, 101, 110] := by rw [← tld_open]; exact ba_eq.2 hop
               replace Q : Qp T ((pathD E.P 4 >>= fun p => (pure (.mk 44 (E.P.A i) p.1 0 []) : M Ty))) (i + 1) := ⟨Q.eq.trans (dec_open hop)⟩
               clear hop
               have c102 := B.S.cs B.F.rb
               go_upto_region 30 with fail
               clear c102
               generalize h : X12.setCell _ _ = X103
               replace B := B.s0 h
               clear h
               go_upto_region 31 with (go_at_call 75; refine B.ppth Q (kpath4 E (d + 1)) (p9.bad (.tail _ (.tail _ (.head _)))) ?_; clear B Q; intro u104 p j105 _ B Q; have c106 := B.S.cs B.F.rb)
               clear c106
               generalize h : u104.setCell _ _ = X107
               replace B := B.s2 h
               clear h
               have c108 := B.S.cs B.F.rb; have c109 := B.cp
               go_wp2_with fail
               exact Bp.finw (.mk 44 (E.P.A i) p.1 0 []) B.nilk p9 (.tail _ (.tail _ (.head _))) Q.pr rfl rfl
theorem exp_base (E : Env) (w : World) (i : Nat) (h : Rd E w i 60) : Calls Tryz.prog 17 #[pr E] w (PPost E 60 w (failD E.P 5 i) (NdQ w)) := by
 obtain ⟨W, hW⟩ : ∃ W, W = w.alloc (.cells zeroRow 26) := ⟨_, rfl⟩
 have F0 := lh (Fb.start h hW)
 have HWI : Hid (Calls Tryz.prog 37 #[pr E] W (WPost E i 60 W)) := lh (within_any E W i 60 F0.out.R)
 unfold pr at HWI ⊢
 unfold zeroRow at hW
 have HWW := lh hW
 clear h hW
 go_enter_defers Tryz.func17, Tryz.ntmps17
 go_upto_region 1 with fail
 rw [← HWW.out]
 clear HWW
 go_wp2_with (first | (go_at_call 37; refine HWI.out.mono ?_; rintro e w1 ⟨hg, h3⟩; rcases h3 with ⟨h9, h4⟩ | ⟨h9, k, a, hx, rfl, hr⟩; exact absurd h9 (by decide); exact PPost.bad (gr_trans F0.out.G hg) (failD_cast hx) hr))
theorem pat_base (E : Env) (w : World) (i : Nat) (h : Rd E w i 60) : Calls Tryz.prog 64 #[pr E] w (PPost E 60 w (failD E.P 5 i) (NdQ w)) := by
 obtain ⟨W, hW⟩ : ∃ W, W = w.alloc (.cells zeroRow 26) := ⟨_, rfl⟩
 have F0 := lh (Fb.start h hW)
 have HWI : Hid (Calls Tryz.prog 37 #[pr E] W (WPost E i 60 W)) := lh (within_any E W i 60 F0.out.R)
 unfold pr at HWI ⊢
 unfold zeroRow at hW
 have HWW := lh hW
 clear h hW
 go_enter_defers Tryz.func64, Tryz.ntmps64
 go_upto_region 1 with fail
 rw [← HWW.out]
 clear HWW
 go_wp2_with (first | (go_at_call 37; refine HWI.out.mono ?_; rintro e w1 ⟨hg, h3⟩; rcases h3 with ⟨h9, h4⟩ | ⟨h9, k, a, hx, rfl, hr⟩; exact absurd h9 (by decide); exact PPost.bad (gr_trans F0.out.G hg) (failD_cast hx) hr))
theorem typ_base (E : Env) (w : World) (i : Nat) (h : Rd E w i 60) : Calls Tryz.prog 65 #[pr E] w (PPost E 60 w (failD E.P 5 i) (NdQ w)) := by
 obtain ⟨W, hW⟩ : ∃ W, W = w.alloc (.cells zeroRow 26) := ⟨_, rfl⟩
 have F0 := lh (Fb.start h hW)
 have HWI : Hid (Calls Tryz.prog 37 #[pr E] W (WPost E i 60 W)) := lh (within_any E W i 60 F0.out.R)
 unfold pr at HWI ⊢
 unfold zeroRow at hW
 have HWW := lh hW
 clear h hW
 go_enter_defers Tryz.func65, Tryz.ntmps65
 go_upto_region 1 with fail
 rw [← HWW.out]
 clear HWW
 go_wp2_with (first | (go_at_call 37; refine HWI.out.mono ?_; rintro e w1 ⟨hg, h3⟩; rcases h3 with ⟨h9, h4⟩ | ⟨h9, k, a, hx, rfl, hr⟩; exact absurd h9 (by decide); exact PPost.bad (gr_trans F0.out.G hg) (failD_cast hx) hr))
theorem dec_base (E : Env) (w : World) (i : Nat) (h : Rd E w i 60) : Calls Tryz.prog 63 #[pr E] w (PPost E 60 w (failD E.P 5 i) (NdQ w)) := by
 obtain ⟨W, hW⟩ : ∃ W, W = w.alloc (.cells zeroRow 26) := ⟨_, rfl⟩
 have F0 := lh (Fb.start h hW)
 have HWI : Hid (Calls Tryz.prog 37 #[pr E] W (WPost E i 60 W)) := lh (within_any E W i 60 F0.out.R)
 unfold pr at HWI ⊢
 unfold zeroRow at hW
 have HWW := lh hW
 clear h hW
 go_enter_defers Tryz.func63, Tryz.ntmps63
 go_upto_region 1 with fail
 rw [← HWW.out]
 clear HWW
 go_wp2_with (first | (go_at_call 37; refine HWI.out.mono ?_; rintro e w1 ⟨hg, h3⟩; rcases h3 with ⟨h9, h4⟩ | ⟨h9, k, a, hx, rfl, hr⟩; exact absurd h9 (by decide); exact PPost.bad (gr_trans F0.out.G hg) (failD_cast hx) hr))
theorem sig_base (E : Env) (w : World) (i : Nat) (h : Rd E w i 60) : Calls Tryz.prog 125 #[pr E] w (PPost E 60 w (failD E.P 5 i) (NdQ w)) := by
 obtain ⟨W, hW⟩ : ∃ W, W = w.alloc (.cells zeroRow 26) := ⟨_, rfl⟩
 have F0 := lh (Fb.start h hW)
 have HWI : Hid (Calls Tryz.prog 37 #[pr E] W (WPost E i 60 W)) := lh (within_any E W i 60 F0.out.R)
 unfold pr at HWI ⊢
 unfold zeroRow at hW
 have HWW := lh hW
 clear h hW
 go_enter_defers Tryz.func125, Tryz.ntmps125
 go_upto_region 1 with fail
 rw [← HWW.out]
 clear HWW
 go_wp2_with (first | (go_at_call 37; refine HWI.out.mono ?_; rintro e w1 ⟨hg, h3⟩; rcases h3 with ⟨h9, h4⟩ | ⟨h9, k, a, hx, rfl, hr⟩; exact absurd h9 (by decide); exact PPost.bad (gr_trans F0.out.G hg) (failD_cast hx) hr))
theorem fail_none {P : Src} {e i : Nat} {x : Ty} {j : Nat} (h : failD P e i = .ok x j) : False := by
 obtain ⟨a, b, hf, -⟩ := failD_eq (α := Ty) P e i
 rw [hf] at h
 cases h
theorem pall_zero (E : Env) : PAll E 0 where
 g60 := Nat.zero_le _
 exp := ⟨fun w i h => exp_base E w i h, fun i x j _ e => (fail_none e).elim⟩
 pat := ⟨fun w i h => pat_base E w i h, fun i x j _ e => (fail_none e).elim⟩
 typ := ⟨fun w i h => typ_base E w i h, fun i x j _ e => (fail_none e).elim⟩
 dec := fun w i h _ => dec_base E w i h
 sig := ⟨fun w i h => sig_base E w i h, fun i x j _ e => (fail_none e).elim⟩
theorem item_of (E : Env) (g k : Nat) (nt : NT) (h : ∀ w i, Rd E w i (60 - g) → Calls Tryz.prog k #[pr E] w (PPost E (60 - g) w (readS E.P g nt i) (NdQ w))) : ItemP E (60 - g) k (readS E.P g nt) := ⟨h, fun i x j _ e => Nat.le_of_succ_le ((st_rec E.P g).1 nt i x j e)⟩
theorem pall_succ (E : Env) (g : Nat) (hg : g + 1 ≤ 60) (PA : PAll E g) (PB : ∀ g', g = g' + 1 → PAll E g') : PAll E (g + 1) where
 g60 := hg
 exp := item_of E (g + 1) 17 .exp fun w i h => pexp_step E g PA hg w i h
 pat := item_of E (g + 1) 64 .pat fun w i h => ppat_step E g PA hg w i h
 typ := item_of E (g + 1) 65 .typ fun w i h => ptyp_step E g PA hg w i h
 dec := fun w i h h1 => pdec_step E g PA hg (fun g' e => (PB g' e).exp) w i h h1
 sig := item_of E (g + 1) 125 .sig fun w i h => psig_step E g PA hg w i h
theorem pall (E : Env) : ∀ g, g ≤ 60 → PAll E g ∧ ∀ g', g = g' + 1 → PAll E g'
 | 0, _ => ⟨pall_zero E, fun g' e => by omega⟩
 | g + 1, hg => ⟨pall_succ E g hg (pall E g (by omega)).1 (pall E g (by omega)).2, fun g' e => by
  obtain rfl : g = g' := by omega
  exact (pall E g (by omega)).1⟩
abbrev set2 (W : World) (b : Nat) (x y : Nat) : World := (W.setCell ⟨b, 0, none⟩ (.int .i64 (x : Int))).setCell ⟨b, 1, none⟩ (.int .i64 (y : Int))
def CatchP (nb fb k a : Nat) (w w' : World) : Prop := Below nb w w' ∧ w'.heap[nb]? = some (.cells zeroRow 26 (0, 0)) ∧ w'.heap[fb]? = some (.cells #[.int .i64 (k : Int), .int .i64 (a : Int)] 29 (0, 0))
theorem catch_end {nb fb k a : Nat} {w W : World} {r0 r1 c0 c1 c2 c3 c4 : Value} (bW : Below w.heap.size w W) (l1 : nb < w.heap.size) (l2 : fb < w.heap.size) (hlt : nb < fb) (rn : W.heap[nb]? = some (.cells #[c0, c1, c2, c3, c4] 26 (0, 0))) (rf : W.heap[fb]? = some (.cells #[r0, r1] 29 (0, 0))) : CatchP nb fb k a w (set2 (set5 W nb (.mk 0 0 ⟨#[]⟩ 0 []) none 0) fb k a).drew := by
 obtain ⟨Y, hY⟩ : ∃ Y, Y = set5 W nb (.mk 0 0 ⟨#[]⟩ 0 []) none 0 := ⟨_, rfl⟩
 have b1 : Below nb w Y := by rw [hY]; exact below_set5 (bW.mono (by omega)) (Nat.le_refl nb)
 have b2 : Y.heap[nb]? = some (.cells zeroRow 26 (0, 0)) := by rw [hY]; exact TB.set (W := W) rn (.mk 0 0 ⟨#[]⟩ 0 []) none 0
 have b3 : Y.heap[fb]? = some (.cells #[r0, r1] 29 (0, 0)) := by rw [hY]; exact set5_ne rf (by omega)
 rw [← hY]
 clear hY
 obtain ⟨Z, hZ⟩ : ∃ Z, Z = set2 Y fb k a := ⟨_, rfl⟩
 have d1 : Below nb w Z := by rw [hZ]; exact (b1.setCell (p := ⟨fb, 0, none⟩) (Nat.le_of_lt hlt) _).setCell (p := ⟨fb, 1, none⟩) (Nat.le_of_lt hlt) _
 have d2 : Z.heap[nb]? = some (.cells zeroRow 26 (0, 0)) := by rw [hZ]; exact blk_set_ne (blk_set_ne b2 (by omega) 0 _) (by omega) 1 _
 have d3 : Z.heap[fb]? = some (.cells #[.int .i64 (k : Int), .int .i64 (a : Int)] 29 (0, 0)) := by rw [hZ]; exact blk_set (blk_set b3 0 _) 1 _
 rw [← hZ]
 exact ⟨d1.drew, d2, d3⟩
theorem catch_slip (nb fb k a : Nat) (r0 r1 : Value) (c0 c1 c2 c3 c4 : Value) (w : World) (hn : w.heap[nb]? = some (.cells #[c0, c1, c2, c3, c4] 26 (0, 0))) (hf : w.heap[fb]? = some (.cells #[r0, r1] 29 (0, 0))) (hlt : nb < fb) :
 CallsD Tryz.prog 34 #[.pointer (some ⟨nb, 0, none⟩), .pointer (some ⟨fb, 0, none⟩)] (.panicking (slipV k a)) w fun e u' w' => e = .returned (.tuple #[]) ∧ u' = .panicking [{ v := .iface 65 (.agg #[.int .i64 (k : Int), .int .i64 (a : Int)]), recovered := true }] ∧ CatchP nb fb k a w w' := by
 have hta : ∀ w' : World, (Instr.typeAssert (.iface 65 (.agg #[.int .i64 (k : Int), .int .i64 (a : Int)])) 20 65 true).run Tryz.prog w' = .ok (.tuple #[.agg #[.int .i64 (k : Int), .int .i64 (a : Int)], .bool true]) w' := fun w' => by kernel_rfl
 refine callsD_of_wpS Tryz.func34 rfl fun c₀ cs hu => ?_
 simp only [Tryz.ntmps34, List.size_toArray, List.length_cons, List.length_nil, Nat.reduceAdd, Nat.reduceSub, Array.replicate_succ, Array.replicate_zero, List.push_toArray, List.append_toArray, List.nil_append, List.cons_append]
 apply wpS_seq
 apply wpS_region
 unfold slipV at hu
 simp [wpOpsS, go_sem, recoverD, hu, Tryz.ntmps34, Exit.thenS]
 refine wpS_of_wp ?_
 have n1 : ¬ (nb = fb) := by omega
 have n2 : ¬ (fb = nb) := by omega
 have l1 := lt_of_block hn
 have l2 := lt_of_block hf
 have HN := lh hn
 have HF := lh hf
 clear hn hf
 go_upto_region 7 with fail
 obtain ⟨W, hW⟩ : ∃ W, W = w.alloc (.cells #[.int .i64 (k : Int), .int .i64 (a : Int)] 65) := ⟨_, rfl⟩
 have bW : Below w.heap.size w W := by rw [hW]; exact balloc (Below.refl _ _) _
 have rW : W.heap[w.heap.size]? = some (.cells #[.int .i64 (k : Int), .int .i64 (a : Int)] 65 (0, 0)) := by rw [hW]; exact heap_alloc_new w _
 rw [← hW]
 have rn := blk_below HN.out bW l1
 have rf := blk_below HF.out bW l2
 have HBW := lh bW
 have HRN := lh rn
 have HRF := lh rf
 obtain ⟨⟨x0, x1, x2, x3, x4⟩, ⟨z0, z1, z2, z3, z4⟩⟩ := five_cells rn
 have y0 : W.cell? ⟨fb, 0, none⟩ = some r0 := blk_cell rf 0
 have y1 : W.cell? ⟨fb, 1, none⟩ = some r1 := blk_cell rf 1
 have q0 := blk_free rf 0
 have q1 := blk_free rf 1
 obtain ⟨pb, hpb⟩ : ∃ pb, pb = w.heap.size := ⟨_, rfl⟩
 rw [← hpb] at rW ⊢
 have s0 : W.cell? ⟨pb, 0, none⟩ = some (.int .i64 (k : Int)) := blk_cell rW 0
 have s1 : W.cell? ⟨pb, 1, none⟩ = some (.int .i64 (a : Int)) := blk_cell rW 1
 have n3 : ¬ (nb = pb) := by omega
 have n4 : ¬ (fb = pb) := by omega
 have n5 : ¬ (pb = nb) := by omega
 have n6 : ¬ (pb = fb) := by omega
 have C1 : CatchP nb fb k a w (set2 (set5 W nb (.mk 0 0 ⟨#[]⟩ 0 []) none 0) fb k a).drew := catch_end bW l1 l2 hlt rn rf
 have HC1 := lh C1
 clear hW bW rW rn rf hpb C1
 go_region
 all_goals exact ⟨rfl, _, rfl, .tuple #[], results_none rfl _ _ _, rfl, rfl, HC1.out⟩
theorem catch_none (nb fb : Nat) (w : World) :
 CallsD Tryz.prog 34 #[.pointer (some ⟨nb, 0, none⟩), .pointer (some ⟨fb, 0, none⟩)] .returning w fun e u' w' => e = .returned (.tuple #[]) ∧ u' = .returning ∧ w' = w := by
 refine callsD_of_wpS Tryz.func34 rfl fun c₀ cs hu => ?_
 simp only [Tryz.ntmps34, List.size_toArray, List.length_cons, List.length_nil, Nat.reduceAdd, Nat.reduceSub, Array.replicate_succ, Array.replicate_zero, List.push_toArray, List.append_toArray, List.nil_append, List.cons_append]
 apply wpS_seq
 apply wpS_region
 simp [wpOpsS, go_sem, recoverD, hu, Tryz.ntmps34, Exit.thenS]
 refine wpS_of_wp ?_
 go_wp2_with fail
 refine ⟨rfl, _, ?_, .tuple #[], results_none rfl _ _ _, rfl, hu, rfl⟩
 rfl
end Go.Proofs.YthehjeeiodbkjaaGreatDoor
