/-
  Proved: the contract of the document's sigs; the contract of the document's fbinds; the contract of the document's structure; the contract of the document's dec; the contracts of the document's open, of exp, pat, typ and sig one level up; all of them, at each depth; the contract of the document's decs where nothing was made behind the reader; the contract of the reader's row, of further things. Conditions: the reader as it stands in memory; what it reads within; the reader as it stands in memory; the contract of what the row is of.
-/
import Derived.Test.YthehjeeiodbkjaaGreatDoorP01
import Derived.Test.YthehjeeiodbkjaaGreatDoorP14
import Derived.Test.YthehjeeiodbkjaaGreatDoorP12
import Derived.Test.YthehjeeiodbkjaaGreatDoorP06
set_option linter.unusedSimpArgs false
set_option linter.unusedVariables false
set_option maxRecDepth 100000
set_option maxHeartbeats 16000000
namespace Go.Proofs.YthehjeeiodbkjaaGreatDoor
open Go.RowKit
theorem specs_head {β : Type} {P : Src} {R : Rec} {K : List Ty → M β} {T : Res β} {l : List Ty} {s : RS} {f : Nat} (hT : T = rn (kT P R f l >>= K) s) (hf : s.k = 0 → P.toks.length < s.i + f) (hle : s.i ≤ P.toks.length) (hl : s.k = 0 → l.length ≤ s.i) : ∃ f', T = (if ka P w_end s = true then rn (K l) (stp s) else rn (ky P R >>= fun x => kT P R f' (l ++ [x]) >>= K) s) ∧ (s.k = 0 → P.toks.length ≤ s.i + f') := by
 by_cases hs : s.k = 0
 · have h1 := hf hs;obtain ⟨f, rfl⟩ : ∃ f', f = f' + 1 := ⟨f - 1, by omega⟩
   refine ⟨f, ?_, fun _ => by omega⟩;have e : ka P w_end s = isD P w_end s.i := (by unfold ka; rw [decide_eq_true hs, Bool.true_and]);have e1 : kT P R (f + 1) l s.i = if isD P w_end s.i = true then .ok l (s.i + 1) else (ky P R >>= fun x => kT P R f (l ++ [x])) s.i := rfl;rw [e, hT, je hs]
   show bnd (kT P R (f + 1) l) K s.i = _
   unfold bnd;rw [e1]
   by_cases h : isD P w_end s.i = true
   · rw [if_pos h, if_pos h, je (s := stp s) hs]; rfl
   · rw [if_neg h, if_neg h, je hs];exact congrFun (kV (ky P R) (fun x => kT P R f (l ++ [x])) K) s.i
 · refine ⟨0, ?_, fun h => absurd h hs⟩;have e : ka P w_end s = false := (by unfold ka; rw [decide_eq_false hs, Bool.false_and]);rw [e, if_neg Bool.false_ne_true, hT, jq hs, jq hs]
structure SpecAt {β : Type} (P : Src) (R : Rec) (K : List Ty → M β) (T : Res β) (l : List Ty) (b : Bool) (t : RS) (f : Nat) : Prop where
 eq : T = if b = true then rn (K l) t else rn (ky P R >>= fun x => kT P R f (l ++ [x]) >>= K) t
 fl : t.k = 0 → b = false → P.toks.length ≤ t.i + f ∧ l.length ≤ t.i
theorem SpecAt.of {β : Type} {P : Src} {R : Rec} {K : List Ty → M β} {T : Res β} {l : List Ty} {s : RS} {f : Nat} (hT : T = rn (kT P R f l >>= K) s) (hf : s.k = 0 → P.toks.length < s.i + f) (hle : s.i ≤ P.toks.length) (hl : s.k = 0 → l.length ≤ s.i) : ∃ f, SpecAt P R K T l (ka P w_end s) (if ka P w_end s = true then stp s else s) f := by
 obtain ⟨f1, q1, q2⟩ := specs_head hT hf hle hl;refine ⟨f1, ?_, fun h0 hb => ?_⟩
 · rw [q1]
   cases ka P w_end s <;> rfl
 · rw [hb, if_neg Bool.false_ne_true] at h0 ⊢;exact ⟨q2 h0, hl h0⟩
theorem SpecAt.next {β : Type} {P : Src} {R : Rec} {K : List Ty → M β} {T : Res β} {l : List Ty} {s s1 : RS} {f : Nat} {x : Ty} (h : SpecAt P R K T l false s f) (hs : s.k = 0) (hr : Rl (rn (ky P R) s) x s1) (hst : ∀ i x j, ky P R i = .ok x j → i + 1 ≤ j) (hle : s1.i ≤ P.toks.length) : (∃ f, SpecAt P R K T (l ++ [x]) (ka P w_end s1) (if ka P w_end s1 = true then stp s1 else s1) f) ∧ (s1.k = 0 → s.i + 1 ≤ s1.i) := by
 have h1 := rl_step hst hs hr;have h2 := h.fl hs rfl;exact ⟨SpecAt.of ((h.eq.trans (if_neg Bool.false_ne_true)).trans (vi hr)) (fun h0 => by have := h1 h0; omega) hle (fun h0 => by have := h1 h0; rw [List.length_append]; simp; omega), h1⟩
theorem csigs_any : CtN 181 fun E g => sigsB E.P (jf E.P g) := by
 intro E g RA w s h;rw [show rn (sigsB E.P (jf E.P g)) s = rn ((fun i => if isD E.P w_sig i = true then (kT E.P (jf E.P g) (E.P.toks.length + 1) [] >>= (fun l : List Ty => (pure (.mk 47 (E.P.A s.i) ⟨#[]⟩ 0 l) : M Ty))) (i + 1) else (jI E.P 4 >>= fun x => (pure (.mk 48 (E.P.A s.i) x 0 []) : M Ty)) i)) s from by by_cases hs : s.k = 0; exact (by rw [je hs, je hs]; rfl); rw [jq hs, jq hs]];refine Br.go (m := (fun i => if isD E.P w_sig i = true then (kT E.P (jf E.P g) (E.P.toks.length + 1) [] >>= (fun l : List Ty => (pure (.mk 47 (E.P.A s.i) ⟨#[]⟩ 0 l) : M Ty))) (i + 1) else (jI E.P 4 >>= fun x => (pure (.mk 48 (E.P.A s.i) x 0 []) : M Ty)) i)) h RA ?_;intro d T W R hW B Q hlr hN;have HSPEC := vg R.hd (cspec_any E g RA);have HST := lh (show ∀ i x j, ky E.P (jf E.P g) i = .ok x j → i + 1 ≤ j from fun i x j e => st_spec E.P _ (kD E.P g).2 i x j e);clear h RA;unfold pr at HSPEC ⊢;go_enter Tryz.func181, Tryz.ntmps181
 obtain ⟨Q9, p9⟩ := Po9.ex Tryz.f181 E d w T (NdQ w);rw [p9.eq];go_upto_region 1 with fail
 clear hW;go_upto_region 2 with (go_at_call 102; refine B.now ?_; clear B; intro u1 B; have f2 := jA E.P s.i)
 clear f2;generalize hb : u1.heap.size = b4;generalize h : u1.alloc _ = V3;replace B := B.box h hb;clear h hb;obtain ⟨b5, P⟩ := B.eat (sg := w_sig) Q;clear B Q
 cases b5 with
 | true =>
  go_upto_region 7 with (go_at_call 153; refine P.t ?_; clear P; intro u6 B Q _)
  obtain ⟨f0, H⟩ := SpecAt.of Q.eq (fun _ => by omega) B.F.R.le (fun _ => Nat.zero_le _);go_upto_region 8 with (go_at_call 153; refine B.eatg w_end ?_; clear B; intro u7 B)
  go_loopw [5] (fun va wr => ∃ (l : List Ty) (ao : Option Addr) (cap : Nat) (b : Bool) (t : RS) (f : Nat), va = .bool b ∧ SpecAt E.P (jf E.P g) (fun l : List Ty => (pure (.mk 47 (E.P.A s.i) ⟨#[]⟩ 0 l) : M Ty)) T l b t f ∧ Br E w d wr t [.nv b4 (.int .i64 47) (.int .i64 (E.P.A s.i : Int)) (.string ⟨#[]⟩) (.int .i64 0) (.slice ao l.length cap), .ow (.slice ao l.length cap) l]) (fun va wr => jY E.P.toks.length wr E.rb)
  case atStart => exact ⟨[], none, 0, _, _, f0, rfl, H, B.nilo.mv1⟩
  case round =>
   clear H B Q;obtain ⟨l, ao, cap, b, t, f, rfl, h, B⟩ := hrel;have H := lh h;clear h
   cases b with
   | true =>
    have Q : Qr T ((fun l : List Ty => (pure (.mk 47 (E.P.A s.i) ⟨#[]⟩ 0 l) : M Ty)) l) t := ⟨H.out.eq.trans (if_pos rfl)⟩;go_upto_region 12 with fail
    have c8 := B.S.cs B.F.rb; have c9 := B.cr;go_wp2_with fail
    exact Br.fin (.mk 47 (E.P.A s.i) ⟨#[]⟩ 0 l) B.mv1.ko p9 Q.pr rfl rfl
   | false =>
    by_cases hs : t.k = 0
    · have e1 : ((t.k : Int) == 0) = true := (by simp [hs]);have HS := lh hs;clear hs;have R0 := lh B.F.R;have HLN : Hid (l.length ≤ 100001) := lh (by have h1 := (H.out.fl HS.out rfl).2; have h2 := R0.out.le; omega);have c10 := B.F.R.cells;go_upto_region 9 with fail
      clear c10;go_upto_region 10 with (go_at_call 199; refine B.ndx HSPEC ?_; clear B; intro u11 q aoq capq s12 hl B; have HLq := lh hl; clear hl)
      generalize hb : u11.heap.size = b14;generalize h : u11.alloc _ = V13;replace B := B.box h hb;clear h hb;have c15 := B.mv2.S.cs B.F.rb; have c16 := B.S.cs B.F.rb;go_upto_region 11 with (at_builtin; generalize h : V13.alloc _ = V17; replace B := B.mv1.mk1 rfl h; clear h; go_must (refine B.mv3.app rfl _ _ rfl rfl rfl (by have h1 := HLN.out; show _ + 1 ≤ _; omega) ?_); clear B; intro aoL capL L u18 ELL B; have c19 := B.mv2.S.cs B.F.rb)
      clear c15 c16 c19;generalize h : u18.setCell _ _ = X20;replace B := B.mv2.s4 h;clear h;obtain ⟨⟨f1, h⟩, h4⟩ := H.out.next HS.out HLq.out HST.out B.F.R.le;rw [← ELL.out] at h;have H2 := lh h;have R4 := lh h4;clear h h4;go_wp2_with (go_at_call 153; refine B.eatg w_end ?_; clear B; intro u21 B)
      go_roundw
      case rel => exact ⟨L, aoL, capL, _, _, f1, rfl, H2.out, B.mv2.dr.mv1.mv1⟩
      case measure => exact jP R0.out B.F.R HS.out jQ R4.out
    · have e1 : ((t.k : Int) == 0) = false := (by simp [hs]);have HS := lh hs;clear hs;have Q : Qr T ((fun l : List Ty => (pure (.mk 47 (E.P.A s.i) ⟨#[]⟩ 0 l) : M Ty)) l) t := ⟨(H.out.eq.trans (if_neg Bool.false_ne_true)).trans (by rw [jq HS.out, jq HS.out])⟩;have c22 := B.F.R.cells;go_upto_region 12 with fail
      clear c22;have c23 := B.S.cs B.F.rb; have c24 := B.cr;go_wp2_with fail
      exact Br.fin (.mk 47 (E.P.A s.i) ⟨#[]⟩ 0 l) B.mv1.ko p9 Q.pr rfl rfl
 | false =>
  go_upto_region 4 with (go_at_call 153; refine P.f ?_; clear P; intro u25 B Q)
  have c26 := B.S.cs B.F.rb;go_upto_region 5 with fail
  clear c26;generalize h : u25.setCell _ _ = X27;replace B := B.s0 h;clear h;go_upto_region 6 with (go_at_call 150; refine B.str Q (hget4 E d) ?_; clear B Q; intro u28 x s29 B Q; have c30 := B.S.cs B.F.rb)
  clear c30;generalize h : u28.setCell _ _ = X31;replace B := B.s2 h;clear h;have c32 := B.S.cs B.F.rb; have c33 := B.cr;go_wp2_with fail
  exact Br.fin (.mk 48 (E.P.A s.i) x 0 []) B.nilk p9 Q.pr rfl rfl
theorem cdeep_call (E : Env) (g : Nat) (RA : RAll E g) (hg : 60 - g < 60) (w : World) (s : RS) (h : Rr E w s (60 - g + 1)) : Calls Tryz.prog 56 #[pr E] w (RPost E (60 - g + 1) w (rn (jf E.P g).deep s) (NdQ w)) := by
 have h60 := RA.g60;obtain ⟨g', rfl⟩ : ∃ g', g = g' + 1 := ⟨g - 1, by omega⟩
 have e : 60 - (g' + 1) + 1 = 60 - g' := by omega
 rw [e] at h ⊢;exact RA.deep g' rfl w s h
theorem cfbinds_any (E : Env) (g : Nat) (RA : RAll E g) (w0 : World) (s : RS) (h : Rr E w0 s (60 - g)) (hw : E.B < w0.heap.size) : Calls Tryz.prog 145 #[pr E] w0 (RPost E (60 - g) w0 (rn (jZ E.P (kC E.P (jf E.P g)) w_and) s) (OwB w0)) := by
 rw [show rn (jZ E.P (kC E.P (jf E.P g)) w_and) s = rn (jZ E.P (kC E.P (jf E.P g)) w_and >>= (fun l : List Ty => (ret l : M (List Ty)))) s from congrArg (fun m => rn m s) (vS (jZ E.P (kC E.P (jf E.P g)) w_and)).symm];refine Bs.go (m := jZ E.P (kC E.P (jf E.P g)) w_and >>= (fun l : List Ty => (ret l : M (List Ty)))) h hw RA ?_;intro d T w R B Q hlr hN;have hd60 := show d ≤ 60 by have := R.hd; omega
 have HDEEP := lh (show d < 60 → ∀ w1 s, Rr E w1 s (d + 1) → Calls Tryz.prog 56 #[pr E] w1 (RPost E (d + 1) w1 (rn ((jf E.P g)).deep s) (NdQ w1)) from by rw [R.hd]; exact fun hl => cdeep_call E g RA hl);have HITF := lh (show ¬ d < 60 → ((jf E.P g)).deep = jE E.P 5 from by intro hl; have h60 := RA.g60; have hd := R.hd; have e0 : g = 0 := (by omega); rw [e0]; rfl);have HST := lh (show ∀ i x j, kC E.P (jf E.P g) i = .ok x j → i + 1 ≤ j from fun i x j e => st_fbind E.P _ (kD E.P g).2 i x j e);have HSA := lh (show ∀ i x j, jR E.P (jf E.P g) i = .ok x j → i + 1 ≤ j from fun i x j e => st_apat E.P _ (kD E.P g).2 i x j e);have HAPAT := vg R.hd (capat_any E g RA);clear h RA hw;unfold pr at HDEEP HAPAT ⊢;go_enter Tryz.func145, Tryz.ntmps145
 obtain ⟨Q9, p9⟩ := Ps9.ex Tryz.f145 E d w0 T;rw [p9.eq];have H := sepw_start Q.eq;go_upto_region 3 with fail
 go_loopw [3, 4] (fun va vb wr => ∃ (l : List Ty) (ao : Option Addr) (cap : Nat) (b : Bool) (t : RS) (f : Nat), va = .slice ao l.length cap ∧ vb = .bool b ∧ SepW E.P (kC E.P (jf E.P g)) w_and (fun l : List Ty => (ret l : M (List Ty))) T l b t f ∧ Bs E w0 w d wr t [.ow (.slice ao l.length cap) l] ∧ (b = true → l.length ≤ 100001) ∧ l.length ≤ 200000) (fun _ vb wr => jY E.P.toks.length wr E.rb + boolW vb)
 case atStart => exact ⟨[], none, 0, _, _, _, rfl, rfl, H, B.nilo, fun _ => Nat.zero_le _, Nat.zero_le _⟩
 case round =>
  clear H B Q;obtain ⟨l, ao, cap, b, t, f, rfl, rfl, h, B, hLN, hln⟩ := hrel;have HO := lh h;have HLN := lh hLN;have HLM := lh hln;clear h hLN hln
  cases b with
  | false =>
   have Q : Qr T (ret l : M (List Ty)) t := ⟨HO.out.done⟩;go_wp2_with fail
   rw [← p9.eq];go_ret
   exact B.fin Q.pr HLM.out
  | true =>
   have R0 := lh B.F.R;have HLE : Hid (l.length ≤ 100001) := lh (HLN.out rfl);go_upto_region 4 with fail
   obtain ⟨T2, hT2⟩ : ∃ T2, T2 = rn (kC E.P (jf E.P g)) t := ⟨_, rfl⟩
   have HT2 := lh hT2;have Q : Qr T2 (jI E.P 3 >>= fun nm => jR E.P (jf E.P g) >>= fun p => qg (qx E.P) (jR E.P (jf E.P g)) (E.P.toks.length + 1) [p] >>= (fun m : List Ty => kn E.P s_col >>= fun c => if c = true then (jt E.P g .typ >>= fun ty => jm E.P s_eq >>= fun _ => ((jf E.P g)).deep >>= fun ex => (pure (.mk 36 (E.P.A t.i) nm 0 (m ++ [.mk 19 ex.n ⟨#[]⟩ 0 [ex, ty]])) : M Ty)) else (jm E.P s_eq >>= fun _ => jt E.P g .exp >>= fun ex => (pure (.mk 36 (E.P.A t.i) nm 0 (m ++ [ex])) : M Ty)))) t := ⟨hT2.trans (by by_cases hs : t.k = 0; exact (by rw [je hs, je hs]; rfl); rw [jq hs, jq hs])⟩;clear hT2;go_upto_region 5 with (go_at_call 102; refine B.now ?_; clear B; intro u1 B; have f2 := jA E.P t.i)
   clear f2;generalize hb : u1.heap.size = b4;generalize h : u1.alloc _ = V3;replace B := B.box h hb;clear h hb;go_upto_region 6 with (go_at_call 150; refine B.str Q (hget3 E d) ?_; clear B Q; intro u5 nm s6 B Q; have c7 := B.S.cs B.F.rb)
   clear c7;generalize h : u5.setCell _ _ = X8;replace B := B.s2 h;clear h;go_upto_region 7 with (go_at_call 154; refine B.nd Q HAPAT ?_; clear B Q; intro u9 p aop capp s10 _ B Q)
   generalize hb : u9.heap.size = b12;generalize h : u9.alloc _ = V11;replace B := B.box h hb;clear h hb;replace B := B.nilo;have c13 := B.mv3.S.cs B.F.rb; have c14 := B.mv1.S.cs B.F.rb;go_upto_region 8 with (at_builtin; generalize h : V11.alloc _ = V15; replace B := B.mv2.mk1 rfl h; clear h; go_must (refine B.mv1.app rfl _ _ rfl rfl rfl (by simp) ?_); clear B; intro aoL capL L u16 ELL B; have c17 := B.mv2.S.cs B.F.rb)
   clear c13 c14 c17;generalize h : u16.setCell _ _ = X18;replace B := B.mv2.s4 h;clear h;obtain ⟨f0, H⟩ := vP (l := [p]) Q.eq (fun _ => by omega) B.F.R.le (fun _ => by show 1 ≤ _; omega);go_upto_region 9 with (go_at_call 180; refine B.ask ((hbegun E d).out _ _ B.F.R) ?_; clear B; intro u19 B)
   go_loopw [7] (fun va wr => ∃ (m : List Ty) (ao2 : Option Addr) (cap2 : Nat) (b : Bool) (t2 : RS) (f2 : Nat) (c0 : Ty) (ac : Option Addr) (cc : Nat), va = .bool b ∧ ManyAt E.P (qx E.P) (jR E.P (jf E.P g)) (fun m : List Ty => kn E.P s_col >>= fun c => if c = true then (jt E.P g .typ >>= fun ty => jm E.P s_eq >>= fun _ => ((jf E.P g)).deep >>= fun ex => (pure (.mk 36 (E.P.A t.i) nm 0 (m ++ [.mk 19 ex.n ⟨#[]⟩ 0 [ex, ty]])) : M Ty)) else (jm E.P s_eq >>= fun _ => jt E.P g .exp >>= fun ex => (pure (.mk 36 (E.P.A t.i) nm 0 (m ++ [ex])) : M Ty))) T2 m b t2 f2 ∧ Bs E w0 w d wr t2 [.ow (.slice ao2 m.length cap2) m, .nv b4 (.int .i64 36) (.int .i64 (E.P.A t.i : Int)) (.string nm) (.int .i64 0) (.slice ao2 m.length cap2), .nv b12 (.int .i64 c0.k) (.int .i64 c0.n) (.string c0.s) (.int .i64 c0.q) (.slice ac c0.args.length cc), .ow (.slice ao l.length cap) l] ∧ m.length ≤ 200000) (fun va wr => jY E.P.toks.length wr E.rb)
   case atStart => exact ⟨L, aoL, capL, _, _, f0, p, aop, capp, rfl, by rw [ELL.out]; exact H, B.mv3.mv3.mv2.mv3, by rw [ELL.out]; simp⟩
   case round =>
    clear H Q B;obtain ⟨m, ao2, cap2, b, t2, f2, c0, ac, cc, rfl, H, B, hml⟩ := hrel;have HML := lh hml;have HI := lh H;clear hml H
    cases b with
    | true =>
     have R1 := lh B.F.R;have HG := lh (HI.out.le R1.out);go_upto_region 11 with (go_at_call 154; refine B.ndx HAPAT ?_; clear B; intro u20 c2 aoc2 capc2 s21 hl B; have HLc2 := lh hl; clear hl; have c22 := B.mv3.S.cs B.F.rb)
     clear c22;generalize h : ((((u20.setCell _ _).setCell _ _).setCell _ _).setCell _ _).setCell _ _ = X23;replace B := B.mv3.sn h;clear h;have c24 := B.mv3.S.cs B.F.rb; have c25 := B.S.cs B.F.rb;go_upto_region 12 with (at_builtin; generalize h : X23.alloc _ = V26; replace B := B.mv1.mk1 rfl h; clear h; go_must (refine B.mv2.app rfl _ _ rfl rfl rfl (by have h1 := HML.out; show _ + 1 ≤ _; omega) ?_); clear B; intro aoL2 capL2 L2 u27 ELL2 B; have c28 := B.mv2.S.cs B.F.rb)
     clear c24 c25 c28;generalize h : u27.setCell _ _ = X29;replace B := B.mv2.s4 h;clear h;obtain ⟨⟨f3, H⟩, h4⟩ := HI.out.next HLc2.out HSA.out B.F.R.le;rw [← ELL2.out] at H;have H2 := lh H;have R4 := lh h4;clear H h4;go_wp2_with (go_at_call 180; refine B.ask ((hbegun E d).out _ _ B.F.R) ?_; clear B; intro u30 B)
     go_roundw
     case rel => exact ⟨L2, aoL2, capL2, _, _, f3, c2, aoc2, capc2, rfl, H2.out, B.mv3.mv3.mv2.mv3, by have h1 := HG.out.2; have h3 : L2.length = m.length + 1 := (by rw [ELL2.out, List.length_append]; rfl); omega⟩
     case measure => exact jP R1.out B.F.R HG.out.1 (fun h0 => ⟨h0, Nat.le_refl _⟩) R4.out
    | false =>
     have Q : Qr T2 (kn E.P s_col >>= fun c => if c = true then (jt E.P g .typ >>= fun ty => jm E.P s_eq >>= fun _ => ((jf E.P g)).deep >>= fun ex => (pure (.mk 36 (E.P.A t.i) nm 0 (m ++ [.mk 19 ex.n ⟨#[]⟩ 0 [ex, ty]])) : M Ty)) else (jm E.P s_eq >>= fun _ => jt E.P g .exp >>= fun ex => (pure (.mk 36 (E.P.A t.i) nm 0 (m ++ [ex])) : M Ty))) t2 := ⟨HI.out.done⟩;go_upto_region 13 with fail
     replace B := B.mv2.dr;obtain ⟨b31, P⟩ := B.eatd (sg := s_col) Q;clear B Q
     cases b31 with
     | true =>
      go_upto_region 14 with (go_at_call 153; refine P.t ?_; clear P; intro u32 B Q _)
      go_upto_region 16 with fail
      generalize hb : u32.heap.size = b34;generalize h : u32.alloc _ = V33;replace B := B.box h hb;clear h hb;go_upto_region 17 with (go_at_call 58; refine B.nd Q R.typ ?_; clear B Q; intro u35 ty aoty capty s36 _ B Q; have c37 := B.mv1.S.cs B.F.rb)
      clear c37;generalize h : ((((u35.setCell _ _).setCell _ _).setCell _ _).setCell _ _).setCell _ _ = X38;replace B := B.mv1.sn h;clear h;go_upto_region 18 with (go_at_call 144; refine B.un Q (kg E d s_eq) ?_; clear B Q; intro u39 _ _ s40 B Q)
      go_upto_region 20 with fail
      generalize hb : u39.heap.size = b42;generalize h : u39.alloc _ = V41;replace B := B.box h hb;clear h hb
      by_cases h60 : d < 60
      · have H60 := lh h60;clear h60
        by_cases hs : s40.k = 0
        · have HS1 := lh hs;clear hs;go_upto_region 22 with (go_at_call 106; refine B.ent HS1.out H60.out ?_; clear B; intro u43 B)
          go_upto_region 23 with (go_at_call 56; refine B.nd Q (lh (HDEEP.out H60.out)) ?_; clear B Q; intro u44 ex aoex capex s45 _ B Q; have c46 := B.mv1.S.cs B.F.rb)
          clear c46;generalize h : ((((u44.setCell _ _).setCell _ _).setCell _ _).setCell _ _).setCell _ _ = X47;replace B := B.mv1.sn h;clear h;go_upto_region 25 with (go_at_call 108; refine B.lea ?_; clear B; intro u48 _ B)
          go_upto_region 26 with fail
          have c49 := B.S.cs B.F.rb; have c50 := B.mv2.S.cs B.F.rb;go_upto_region 27 with (go_at_call 54; generalize h : u48.alloc _ = V51; replace B := B.mv3.mv2.mk2 rfl h; clear h; refine B.node ?_; clear B; intro u52 B; have c53 := B.mv1.S.cs B.F.rb)
          clear c49 c50 c53;generalize h : ((((u52.setCell _ _).setCell _ _).setCell _ _).setCell _ _).setCell _ _ = X54;replace B := B.mv1.sn h;clear h;have c55 := B.mv4.S.cs B.F.rb; have c56 := B.S.cs B.F.rb;go_upto_region 28 with (at_builtin; generalize h : X54.alloc _ = V57; replace B := B.mv1.ko.mkl rfl h; clear h; go_must (refine B.mv3.app rfl _ _ rfl rfl rfl (by have h1 := HML.out; show _ + 1 ≤ _; omega) ?_); clear B; intro aoL3 capL3 L3 u58 ELL3 B; have c59 := B.mv3.S.cs B.F.rb)
          clear c55 c56 c59;generalize h : u58.setCell _ _ = X60;replace B := B.mv3.s4 h;clear h;have HON : Hid (Rl (rn (kC E.P (jf E.P g)) t) (.mk 36 (E.P.A t.i) nm 0 L3) s45) := lh (by rw [← HT2.out, ELL3.out]; exact Q.pr);have c61 := B.S.cs B.F.rb;go_upto_region 29 with (at_builtin; generalize h : X60.alloc _ = V62; replace B := B.mv1.ko.mkl rfl h; clear h; go_must (refine B.mv4.app rfl _ _ rfl rfl rfl (by have h1 := HLE.out; show _ + 1 ≤ _; omega) ?_); clear B; intro aoL4 capL4 L4 u63 ELL4 B)
          clear c61;obtain ⟨⟨f4, H⟩, h4⟩ := HO.out.next HON.out HST.out B.F.R.le;rw [← ELL4.out] at H;have H2 := lh H;have R4 := lh h4;clear H h4;go_wp2_with (go_at_call 153; refine B.eatg w_and ?_; clear B; intro u64 B)
          go_roundw
          case rel => exact ⟨L4, aoL4, capL4, _, _, f4, rfl, rfl, H2.out.w, B.mv1.dr.mv1.dr.mv1.dr, fun hb => by have h1 := (H2.out.fl (H2.out.go hb)).2; have h2 := B.F.R.le; omega, by have h1 := HLE.out; have h3 : L4.length = l.length + 1 := (by rw [ELL4.out, List.length_append]; rfl); omega⟩
          case measure => exact qE R0.out B.F.R H2.out.go (fun h0 => ql HON.out (jQ h0).1) jQ R4.out
        · have HS1 := lh hs;clear hs;go_upto_region 23 with (go_at_call 106; refine B.enb HS1.out H60.out ?_; clear B; intro u65 B)
          go_upto_region 25 with (go_at_call 108; refine B.lea ?_; clear B; intro u66 _ B)
          obtain ⟨ex, HNex⟩ : ∃ ex : Ty, Hid (ex = zeroTy) := ⟨_, lh rfl⟩
          replace B : Bs E w0 w d u66 s40 [.kd ex.args none 0, .nv b42 (.int .i64 ex.k) (.int .i64 ex.n) (.string ex.s) (.int .i64 ex.q) (.slice none ex.args.length 0), .nv b34 (.int .i64 ty.k) (.int .i64 ty.n) (.string ty.s) (.int .i64 ty.q) (.slice aoty ty.args.length capty), .kd ty.args aoty capty, .ow (.slice ao2 m.length cap2) m, .nv b4 (.int .i64 36) (.int .i64 (E.P.A t.i : Int)) (.string nm) (.int .i64 0) (.slice ao2 m.length cap2), .ow (.slice ao l.length cap) l] := (by rw [HNex.out]; exact B.nilk);replace Q : Qr T2 (pure (.mk 36 (E.P.A t.i) nm 0 (m ++ [.mk 19 ex.n ⟨#[]⟩ 0 [ex, ty]])) : M Ty) s40 := ⟨by rw [Q.eq, jq HS1.out, jq HS1.out]⟩;go_upto_region 26 with fail
          have c67 := B.mv1.S.cs B.F.rb; have c68 := B.mv2.S.cs B.F.rb;go_upto_region 27 with (go_at_call 54; generalize h : u66.alloc _ = V69; replace B := B.mv3.mv1.mk2 rfl h; clear h; refine B.node ?_; clear B; intro u70 B; have c71 := B.mv1.S.cs B.F.rb)
          clear c67 c68 c71;generalize h : ((((u70.setCell _ _).setCell _ _).setCell _ _).setCell _ _).setCell _ _ = X72;replace B := B.mv1.sn h;clear h;have c73 := B.mv4.S.cs B.F.rb; have c74 := B.S.cs B.F.rb;go_upto_region 28 with (at_builtin; generalize h : X72.alloc _ = V75; replace B := B.mv1.ko.mkl rfl h; clear h; go_must (refine B.mv3.app rfl _ _ rfl rfl rfl (by have h1 := HML.out; show _ + 1 ≤ _; omega) ?_); clear B; intro aoL3 capL3 L3 u76 ELL3 B; have c77 := B.mv3.S.cs B.F.rb)
          clear c73 c74 c77;generalize h : u76.setCell _ _ = X78;replace B := B.mv3.s4 h;clear h;have HON : Hid (Rl (rn (kC E.P (jf E.P g)) t) (.mk 36 (E.P.A t.i) nm 0 L3) s40) := lh (by rw [← HT2.out, ELL3.out]; exact Q.pr);have c79 := B.S.cs B.F.rb;go_upto_region 29 with (at_builtin; generalize h : X78.alloc _ = V80; replace B := B.mv1.ko.mkl rfl h; clear h; go_must (refine B.mv4.app rfl _ _ rfl rfl rfl (by have h1 := HLE.out; show _ + 1 ≤ _; omega) ?_); clear B; intro aoL4 capL4 L4 u81 ELL4 B)
          clear c79;obtain ⟨⟨f4, H⟩, h4⟩ := HO.out.next HON.out HST.out B.F.R.le;rw [← ELL4.out] at H;have H2 := lh H;have R4 := lh h4;clear H h4;go_wp2_with (go_at_call 153; refine B.eatg w_and ?_; clear B; intro u82 B)
          go_roundw
          case rel => exact ⟨L4, aoL4, capL4, _, _, f4, rfl, rfl, H2.out.w, B.mv1.dr.mv1.dr.mv1.dr, fun hb => by have h1 := (H2.out.fl (H2.out.go hb)).2; have h2 := B.F.R.le; omega, by have h1 := HLE.out; have h3 : L4.length = l.length + 1 := (by rw [ELL4.out, List.length_append]; rfl); omega⟩
          case measure => exact qE R0.out B.F.R H2.out.go (fun h0 => ql HON.out (jQ h0).1) jQ R4.out
      · have H60 := lh h60;clear h60;replace Q := Q.rd (by rw [HITF.out H60.out]; exact B.F.R.no_rl (e := 5) (by decide) zeroTy);go_upto_region 23 with (go_at_call 106; refine B.eno hd60 H60.out ?_; clear B; intro u83 B)
        go_upto_region 25 with (go_at_call 108; refine B.lea ?_; clear B; intro u84 _ B)
        obtain ⟨ex, HNex⟩ : ∃ ex : Ty, Hid (ex = zeroTy) := ⟨_, lh rfl⟩
        replace B : Bs E w0 w d u84 (noS E.P 5 s40) [.kd ex.args none 0, .nv b42 (.int .i64 ex.k) (.int .i64 ex.n) (.string ex.s) (.int .i64 ex.q) (.slice none ex.args.length 0), .nv b34 (.int .i64 ty.k) (.int .i64 ty.n) (.string ty.s) (.int .i64 ty.q) (.slice aoty ty.args.length capty), .kd ty.args aoty capty, .ow (.slice ao2 m.length cap2) m, .nv b4 (.int .i64 36) (.int .i64 (E.P.A t.i : Int)) (.string nm) (.int .i64 0) (.slice ao2 m.length cap2), .ow (.slice ao l.length cap) l] := (by rw [HNex.out]; exact B.nilk);replace Q : Qr T2 (pure (.mk 36 (E.P.A t.i) nm 0 (m ++ [.mk 19 ex.n ⟨#[]⟩ 0 [ex, ty]])) : M Ty) (noS E.P 5 s40) := (by rw [HNex.out]; exact Q);go_upto_region 26 with fail
        have c85 := B.mv1.S.cs B.F.rb; have c86 := B.mv2.S.cs B.F.rb;go_upto_region 27 with (go_at_call 54; generalize h : u84.alloc _ = V87; replace B := B.mv3.mv1.mk2 rfl h; clear h; refine B.node ?_; clear B; intro u88 B; have c89 := B.mv1.S.cs B.F.rb)
        clear c85 c86 c89;generalize h : ((((u88.setCell _ _).setCell _ _).setCell _ _).setCell _ _).setCell _ _ = X90;replace B := B.mv1.sn h;clear h;have c91 := B.mv4.S.cs B.F.rb; have c92 := B.S.cs B.F.rb;go_upto_region 28 with (at_builtin; generalize h : X90.alloc _ = V93; replace B := B.mv1.ko.mkl rfl h; clear h; go_must (refine B.mv3.app rfl _ _ rfl rfl rfl (by have h1 := HML.out; show _ + 1 ≤ _; omega) ?_); clear B; intro aoL3 capL3 L3 u94 ELL3 B; have c95 := B.mv3.S.cs B.F.rb)
        clear c91 c92 c95;generalize h : u94.setCell _ _ = X96;replace B := B.mv3.s4 h;clear h;have HON : Hid (Rl (rn (kC E.P (jf E.P g)) t) (.mk 36 (E.P.A t.i) nm 0 L3) (noS E.P 5 s40)) := lh (by rw [← HT2.out, ELL3.out]; exact Q.pr);have c97 := B.S.cs B.F.rb;go_upto_region 29 with (at_builtin; generalize h : X96.alloc _ = V98; replace B := B.mv1.ko.mkl rfl h; clear h; go_must (refine B.mv4.app rfl _ _ rfl rfl rfl (by have h1 := HLE.out; show _ + 1 ≤ _; omega) ?_); clear B; intro aoL4 capL4 L4 u99 ELL4 B)
        clear c97;obtain ⟨⟨f4, H⟩, h4⟩ := HO.out.next HON.out HST.out B.F.R.le;rw [← ELL4.out] at H;have H2 := lh H;have R4 := lh h4;clear H h4;go_wp2_with (go_at_call 153; refine B.eatg w_and ?_; clear B; intro u100 B)
        go_roundw
        case rel => exact ⟨L4, aoL4, capL4, _, _, f4, rfl, rfl, H2.out.w, B.mv1.dr.mv1.dr.mv1.dr, fun hb => by have h1 := (H2.out.fl (H2.out.go hb)).2; have h2 := B.F.R.le; omega, by have h1 := HLE.out; have h3 : L4.length = l.length + 1 := (by rw [ELL4.out, List.length_append]; rfl); omega⟩
        case measure => exact qE R0.out B.F.R H2.out.go (fun h0 => ql HON.out (jQ h0).1) jQ R4.out
     | false =>
      go_upto_region 14 with (go_at_call 153; refine P.f ?_; clear P; intro u101 B Q)
      go_upto_region 17 with fail
      generalize hb : u101.heap.size = b103;generalize h : u101.alloc _ = V102;replace B := B.box h hb;clear h hb;go_upto_region 18 with (go_at_call 144; refine B.un Q (kg E d s_eq) ?_; clear B Q; intro u104 _ _ s105 B Q)
      go_upto_region 24 with fail
      generalize hb : u104.heap.size = b107;generalize h : u104.alloc _ = V106;replace B := B.box h hb;clear h hb;go_upto_region 25 with (go_at_call 56; refine B.nd Q R.exp ?_; clear B Q; intro u108 ex aoex capex s109 _ B Q; have c110 := B.mv1.S.cs B.F.rb)
      clear c110;generalize h : ((((u108.setCell _ _).setCell _ _).setCell _ _).setCell _ _).setCell _ _ = X111;replace B := B.mv1.sn h;clear h;go_upto_region 27 with fail
      have c112 := B.mv4.S.cs B.F.rb; have c113 := B.S.cs B.F.rb;go_upto_region 28 with (at_builtin; generalize h : X111.alloc _ = V114; replace B := B.mv1.mk1 rfl h; clear h; go_must (refine B.mv3.app rfl _ _ rfl rfl rfl (by have h1 := HML.out; show _ + 1 ≤ _; omega) ?_); clear B; intro aoL3 capL3 L3 u115 ELL3 B; have c116 := B.mv3.S.cs B.F.rb)
      clear c112 c113 c116;generalize h : u115.setCell _ _ = X117;replace B := B.mv3.s4 h;clear h;have HON : Hid (Rl (rn (kC E.P (jf E.P g)) t) (.mk 36 (E.P.A t.i) nm 0 L3) s109) := lh (by rw [← HT2.out, ELL3.out]; exact Q.pr);have c118 := B.S.cs B.F.rb;go_upto_region 29 with (at_builtin; generalize h : X117.alloc _ = V119; replace B := B.mv1.ko.mkl rfl h; clear h; go_must (refine B.mv4.app rfl _ _ rfl rfl rfl (by have h1 := HLE.out; show _ + 1 ≤ _; omega) ?_); clear B; intro aoL4 capL4 L4 u120 ELL4 B)
      clear c118;obtain ⟨⟨f4, H⟩, h4⟩ := HO.out.next HON.out HST.out B.F.R.le;rw [← ELL4.out] at H;have H2 := lh H;have R4 := lh h4;clear H h4;go_wp2_with (go_at_call 153; refine B.eatg w_and ?_; clear B; intro u121 B)
      go_roundw
      case rel => exact ⟨L4, aoL4, capL4, _, _, f4, rfl, rfl, H2.out.w, B.mv1.dr.mv1.dr.mv1.dr, fun hb => by have h1 := (H2.out.fl (H2.out.go hb)).2; have h2 := B.F.R.le; omega, by have h1 := HLE.out; have h3 : L4.length = l.length + 1 := (by rw [ELL4.out, List.length_append]; rfl); omega⟩
      case measure => exact qE R0.out B.F.R H2.out.go (fun h0 => ql HON.out (jQ h0).1) jQ R4.out
theorem rann_if {β : Type} (P : Src) (R : Rec) (f : Int × List Ty → M β) (i : Nat) : (annB P R >>= f) i = if isD P s_col i = true then (R.go .sig >>= fun g => f (1, [g])) (i + 1) else if isD P s_opq i = true then (R.go .sig >>= fun g => f (2, [g])) (i + 1) else f (0, []) i := by
 have e : annB P R i = if isD P s_col i = true then (R.go .sig >>= fun g => (ret ((1 : Int), [g]) : M (Int × List Ty))) (i + 1) else if isD P s_opq i = true then (R.go .sig >>= fun g => (ret ((2 : Int), [g]) : M (Int × List Ty))) (i + 1) else .ok ((0 : Int), []) i := rfl
 show bnd (annB P R) f i = _
 unfold bnd;rw [e]
 by_cases h1 : isD P s_col i = true
 · rw [if_pos h1, if_pos h1]
   cases h : R.go .sig (i + 1) with
   | bad k a => rw [ke h, ke h]
   | ok x j => rw [kq h, kq h]; rfl
 · rw [if_neg h1, if_neg h1]
   by_cases h2 : isD P s_opq i = true
   · rw [if_pos h2, if_pos h2]
     cases h : R.go .sig (i + 1) with
     | bad k a => rw [ke h, ke h]
     | ok x j => rw [kq h, kq h]; rfl
   · rw [if_neg h2, if_neg h2]
theorem cstructure_any (E : Env) (g : Nat) (RA : RAll E g) (w : World) (s : RS) (aa : Nat) (h : Rr E w s (60 - g)) : Calls Tryz.prog 149 #[pr E, .int .i64 (aa : Int)] w (RPost E (60 - g) w (rn (kH E.P (jf E.P g) aa) s) (NdQ w)) := by
 refine Br.go (m := jI E.P 4 >>= fun x => annB E.P (jf E.P g) >>= fun gg => jm E.P s_eq >>= fun _ => yf E.P (jf E.P g) >>= fun b => (pure (.mk 42 aa x gg.1 (gg.2 ++ [b])) : M Ty)) h RA ?_;intro d T W R hW B Q hlr hN;have HDECS := lh (fun w s h hw => cdecs_any E g RA w s 1 (by decide) h hw);rw [← R.hd] at HDECS;clear h RA;unfold pr at HDECS ⊢;go_enter Tryz.func149, Tryz.ntmps149
 obtain ⟨Q9, p9⟩ := Po9.ex Tryz.f149 E d w T (NdQ w);rw [p9.eq];go_upto_region 1 with fail
 clear hW;go_upto_region 2 with fail
 generalize hb : W.heap.size = b2;generalize h : W.alloc _ = V1;replace B := B.box h hb;clear h hb;go_upto_region 3 with (go_at_call 150; refine B.str Q (hget4 E d) ?_; clear B Q; intro u3 x s4 B Q; have c5 := B.S.cs B.F.rb)
 clear c5;generalize h : u3.setCell _ _ = X6;replace B := B.s2 h;clear h;replace Q := Q.to (m' := fun i => if isD E.P s_col i = true then (jt E.P g .sig >>= fun gg => (jm E.P s_eq >>= fun _ => yf E.P (jf E.P g) >>= fun b => (pure (.mk 42 aa x 1 ([gg] ++ [b])) : M Ty))) (i + 1) else (fun i => if isD E.P s_opq i = true then (jt E.P g .sig >>= fun gg => (jm E.P s_eq >>= fun _ => yf E.P (jf E.P g) >>= fun b => (pure (.mk 42 aa x 2 ([gg] ++ [b])) : M Ty))) (i + 1) else (jm E.P s_eq >>= fun _ => yf E.P (jf E.P g) >>= fun b => (pure (.mk 42 aa x 0 ([] ++ [b])) : M Ty)) i) i) (rann_if _ _ _);obtain ⟨b7, P⟩ := B.eat (sg := s_col) Q;clear B Q
 cases b7 with
 | true =>
  go_upto_region 4 with (go_at_call 153; refine P.t ?_; clear P; intro u8 B Q _)
  have c9 := B.S.cs B.F.rb;go_upto_region 9 with fail
  clear c9;generalize h : u8.setCell _ _ = X10;replace B := B.s3 h;clear h;go_upto_region 12 with fail
  go_upto_region 13 with (go_at_call 151; refine B.nd Q R.sig ?_; clear B Q; intro u11 gg aogg capgg s12 _ B Q)
  generalize hb : u11.heap.size = b14;generalize h : u11.alloc _ = V13;replace B := B.box h hb;clear h hb;replace B := B.nilo;have c15 := B.mv3.S.cs B.F.rb; have c16 := B.mv1.S.cs B.F.rb;go_upto_region 14 with (at_builtin; generalize h : V13.alloc _ = V17; replace B := B.mv2.mk1 rfl h; clear h; go_must (refine B.mv1.app rfl _ _ rfl rfl rfl (by simp) ?_); clear B; intro aoG capG G u18 ELG B; have c19 := B.mv2.S.cs B.F.rb)
  clear c15 c16 c19;generalize h : u18.setCell _ _ = X20;replace B := B.mv2.s4 h;clear h;replace Q : Qr T (jm E.P s_eq >>= fun _ => yf E.P (jf E.P g) >>= fun b => (pure (.mk 42 aa x 1 (G ++ [b])) : M Ty)) s12 := by rw [ELG.out]; exact Q
  go_upto_region 15 with (go_at_call 144; refine B.un Q (kg E d s_eq) ?_; clear B Q; intro u21 _ _ s22 B Q)
  go_upto_region 16 with (go_at_call 102; refine B.now ?_; clear B; intro u23 B; have f24 := jA E.P s22.i)
  clear f24;generalize hb : u23.heap.size = b26;generalize h : u23.alloc _ = V25;replace B := B.box h hb;clear h hb;obtain ⟨T2, Q, QB⟩ := Q.sub;replace Q : Qr T2 (fun i => if isD E.P w_struct i = true then (qm E.P (jf E.P g) 1 >>= fun l => jm E.P w_end >>= fun _ => (pure (.mk 45 (E.P.A s22.i) ⟨#[]⟩ 0 l) : M Ty)) (i + 1) else (ki E.P 4 >>= fun p => (pure (.mk 46 (E.P.A s22.i) p.1 0 []) : M Ty)) i) s22 := ⟨Q.eq⟩;obtain ⟨b27, P⟩ := B.eat (sg := w_struct) Q;clear B Q
  cases b27 with
  | true =>
   go_upto_region 18 with (go_at_call 153; refine P.t ?_; clear P; intro u28 B Q _; have c29 := B.S.cs B.F.rb)
   go_upto_region 19 with (go_at_call 55; refine B.rw Q HDECS ?_; clear B Q; intro u30 l aol capl s31 LNl B Q; have c32 := B.mv1.S.cs B.F.rb)
   clear c29 c32;generalize h : u30.setCell _ _ = X33;replace B := B.mv1.s4 h;clear h;go_upto_region 22 with (go_at_call 144; refine B.un Q (kg E d w_end) ?_; clear B Q; intro u34 _ _ s35 B Q)
   have Q := QB.out _ _ Q.pr;have c36 := B.mv2.S.cs B.F.rb; have c37 := B.S.cs B.F.rb;go_upto_region 23 with (at_builtin; generalize h : u34.alloc _ = V38; replace B := B.mv1.ko.mkl rfl h; clear h; go_must (refine B.mv3.app rfl _ _ rfl rfl rfl (by rw [ELG.out]; simp) ?_); clear B; intro aoL capL L u39 ELL B; have c40 := B.mv2.S.cs B.F.rb)
   clear c36 c37 c40;generalize h : u39.setCell _ _ = X41;replace B := B.mv2.s4 h;clear h;have c42 := B.S.cs B.F.rb; have c43 := B.cr;go_wp2_with fail
   exact Br.fin (.mk 42 aa x 1 L) B.mv1.ko p9 (by rw [ELL.out]; exact Q.pr) rfl rfl
  | false =>
   go_upto_region 20 with (go_at_call 153; refine P.f ?_; clear P; intro u44 B Q; have c45 := B.S.cs B.F.rb)
   go_upto_region 21 with fail
   clear c45;generalize h : u44.setCell _ _ = X46;replace B := B.s0 h;clear h;go_upto_region 22 with (go_at_call 152; refine B.pth Q (hpath4 E d) ?_; clear B Q; intro u47 p s48 _ B Q; have c49 := B.S.cs B.F.rb)
   clear c49;generalize h : u47.setCell _ _ = X50;replace B := B.s2 h;clear h;have Q := QB.out _ _ Q.pr;have c51 := B.mv1.S.cs B.F.rb; have c52 := B.S.cs B.F.rb;go_upto_region 23 with (at_builtin; generalize h : X50.alloc _ = V53; replace B := B.nilk.mkl rfl h; clear h; go_must (refine B.mv3.app rfl _ _ rfl rfl rfl (by rw [ELG.out]; simp) ?_); clear B; intro aoL capL L u54 ELL B; have c55 := B.mv2.S.cs B.F.rb)
   clear c51 c52 c55;generalize h : u54.setCell _ _ = X56;replace B := B.mv2.s4 h;clear h;have c57 := B.S.cs B.F.rb; have c58 := B.cr;go_wp2_with fail
   exact Br.fin (.mk 42 aa x 1 L) B.mv1.ko p9 (by rw [ELL.out]; exact Q.pr) rfl rfl
 | false =>
  go_upto_region 6 with (go_at_call 153; refine P.f ?_; clear P; intro u59 B Q)
  obtain ⟨b60, P⟩ := B.eat (sg := s_opq) Q;clear B Q
  cases b60 with
  | true =>
   go_upto_region 10 with (go_at_call 153; refine P.t ?_; clear P; intro u61 B Q _)
   have c62 := B.S.cs B.F.rb;go_upto_region 11 with fail
   clear c62;generalize h : u61.setCell _ _ = X63;replace B := B.s3 h;clear h;go_upto_region 12 with fail
   go_upto_region 13 with (go_at_call 151; refine B.nd Q R.sig ?_; clear B Q; intro u64 gg aogg capgg s65 _ B Q)
   generalize hb : u64.heap.size = b67;generalize h : u64.alloc _ = V66;replace B := B.box h hb;clear h hb;replace B := B.nilo;have c68 := B.mv3.S.cs B.F.rb; have c69 := B.mv1.S.cs B.F.rb;go_upto_region 14 with (at_builtin; generalize h : V66.alloc _ = V70; replace B := B.mv2.mk1 rfl h; clear h; go_must (refine B.mv1.app rfl _ _ rfl rfl rfl (by simp) ?_); clear B; intro aoG capG G u71 ELG B; have c72 := B.mv2.S.cs B.F.rb)
   clear c68 c69 c72;generalize h : u71.setCell _ _ = X73;replace B := B.mv2.s4 h;clear h;replace Q : Qr T (jm E.P s_eq >>= fun _ => yf E.P (jf E.P g) >>= fun b => (pure (.mk 42 aa x 2 (G ++ [b])) : M Ty)) s65 := (by rw [ELG.out]; exact Q);go_upto_region 15 with (go_at_call 144; refine B.un Q (kg E d s_eq) ?_; clear B Q; intro u74 _ _ s75 B Q)
   go_upto_region 16 with (go_at_call 102; refine B.now ?_; clear B; intro u76 B; have f77 := jA E.P s75.i)
   clear f77;generalize hb : u76.heap.size = b79;generalize h : u76.alloc _ = V78;replace B := B.box h hb;clear h hb;obtain ⟨T2, Q, QB⟩ := Q.sub;replace Q : Qr T2 (fun i => if isD E.P w_struct i = true then (qm E.P (jf E.P g) 1 >>= fun l => jm E.P w_end >>= fun _ => (pure (.mk 45 (E.P.A s75.i) ⟨#[]⟩ 0 l) : M Ty)) (i + 1) else (ki E.P 4 >>= fun p => (pure (.mk 46 (E.P.A s75.i) p.1 0 []) : M Ty)) i) s75 := ⟨Q.eq⟩;obtain ⟨b80, P⟩ := B.eat (sg := w_struct) Q;clear B Q
   cases b80 with
   | true =>
    go_upto_region 18 with (go_at_call 153; refine P.t ?_; clear P; intro u81 B Q _; have c82 := B.S.cs B.F.rb)
    go_upto_region 19 with (go_at_call 55; refine B.rw Q HDECS ?_; clear B Q; intro u83 l aol capl s84 LNl B Q; have c85 := B.mv1.S.cs B.F.rb)
    clear c82 c85;generalize h : u83.setCell _ _ = X86;replace B := B.mv1.s4 h;clear h;go_upto_region 22 with (go_at_call 144; refine B.un Q (kg E d w_end) ?_; clear B Q; intro u87 _ _ s88 B Q)
    have Q := QB.out _ _ Q.pr;have c89 := B.mv2.S.cs B.F.rb; have c90 := B.S.cs B.F.rb;go_upto_region 23 with (at_builtin; generalize h : u87.alloc _ = V91; replace B := B.mv1.ko.mkl rfl h; clear h; go_must (refine B.mv3.app rfl _ _ rfl rfl rfl (by rw [ELG.out]; simp) ?_); clear B; intro aoL capL L u92 ELL B; have c93 := B.mv2.S.cs B.F.rb)
    clear c89 c90 c93;generalize h : u92.setCell _ _ = X94;replace B := B.mv2.s4 h;clear h;have c95 := B.S.cs B.F.rb; have c96 := B.cr;go_wp2_with fail
    exact Br.fin (.mk 42 aa x 2 L) B.mv1.ko p9 (by rw [ELL.out]; exact Q.pr) rfl rfl
   | false =>
    go_upto_region 20 with (go_at_call 153; refine P.f ?_; clear P; intro u97 B Q; have c98 := B.S.cs B.F.rb)
    go_upto_region 21 with fail
    clear c98;generalize h : u97.setCell _ _ = X99;replace B := B.s0 h;clear h;go_upto_region 22 with (go_at_call 152; refine B.pth Q (hpath4 E d) ?_; clear B Q; intro u100 p s101 _ B Q; have c102 := B.S.cs B.F.rb)
    clear c102;generalize h : u100.setCell _ _ = X103;replace B := B.s2 h;clear h;have Q := QB.out _ _ Q.pr;have c104 := B.mv1.S.cs B.F.rb; have c105 := B.S.cs B.F.rb;go_upto_region 23 with (at_builtin; generalize h : X103.alloc _ = V106; replace B := B.nilk.mkl rfl h; clear h; go_must (refine B.mv3.app rfl _ _ rfl rfl rfl (by rw [ELG.out]; simp) ?_); clear B; intro aoL capL L u107 ELL B; have c108 := B.mv2.S.cs B.F.rb)
    clear c104 c105 c108;generalize h : u107.setCell _ _ = X109;replace B := B.mv2.s4 h;clear h;have c110 := B.S.cs B.F.rb; have c111 := B.cr;go_wp2_with fail
    exact Br.fin (.mk 42 aa x 2 L) B.mv1.ko p9 (by rw [ELL.out]; exact Q.pr) rfl rfl
  | false =>
   go_upto_region 14 with (go_at_call 153; refine P.f ?_; clear P; intro u112 B Q)
   replace B := B.nilo;go_upto_region 15 with (go_at_call 144; refine B.un Q (kg E d s_eq) ?_; clear B Q; intro u113 _ _ s114 B Q)
   go_upto_region 16 with (go_at_call 102; refine B.now ?_; clear B; intro u115 B; have f116 := jA E.P s114.i)
   clear f116;generalize hb : u115.heap.size = b118;generalize h : u115.alloc _ = V117;replace B := B.box h hb;clear h hb;obtain ⟨T2, Q, QB⟩ := Q.sub;replace Q : Qr T2 (fun i => if isD E.P w_struct i = true then (qm E.P (jf E.P g) 1 >>= fun l => jm E.P w_end >>= fun _ => (pure (.mk 45 (E.P.A s114.i) ⟨#[]⟩ 0 l) : M Ty)) (i + 1) else (ki E.P 4 >>= fun p => (pure (.mk 46 (E.P.A s114.i) p.1 0 []) : M Ty)) i) s114 := ⟨Q.eq⟩;obtain ⟨b119, P⟩ := B.eat (sg := w_struct) Q;clear B Q
   cases b119 with
   | true =>
    go_upto_region 18 with (go_at_call 153; refine P.t ?_; clear P; intro u120 B Q _; have c121 := B.S.cs B.F.rb)
    go_upto_region 19 with (go_at_call 55; refine B.rw Q HDECS ?_; clear B Q; intro u122 l aol capl s123 LNl B Q; have c124 := B.mv1.S.cs B.F.rb)
    clear c121 c124;generalize h : u122.setCell _ _ = X125;replace B := B.mv1.s4 h;clear h;go_upto_region 22 with (go_at_call 144; refine B.un Q (kg E d w_end) ?_; clear B Q; intro u126 _ _ s127 B Q)
    have Q := QB.out _ _ Q.pr;have c128 := B.mv3.S.cs B.F.rb; have c129 := B.S.cs B.F.rb;go_upto_region 23 with (at_builtin; generalize h : u126.alloc _ = V130; replace B := B.mv1.ko.mkl rfl h; clear h; go_must (refine B.mv2.app rfl _ _ rfl rfl rfl (by simp) ?_); clear B; intro aoL capL L u131 ELL B; have c132 := B.mv2.S.cs B.F.rb)
    clear c128 c129 c132;generalize h : u131.setCell _ _ = X133;replace B := B.mv2.s4 h;clear h;have c134 := B.S.cs B.F.rb; have c135 := B.cr;go_wp2_with fail
    exact Br.fin (.mk 42 aa x 0 L) B.mv1.ko p9 (by rw [ELL.out]; exact Q.pr) rfl rfl
   | false =>
    go_upto_region 20 with (go_at_call 153; refine P.f ?_; clear P; intro u136 B Q; have c137 := B.S.cs B.F.rb)
    go_upto_region 21 with fail
    clear c137;generalize h : u136.setCell _ _ = X138;replace B := B.s0 h;clear h;go_upto_region 22 with (go_at_call 152; refine B.pth Q (hpath4 E d) ?_; clear B Q; intro u139 p s140 _ B Q; have c141 := B.S.cs B.F.rb)
    clear c141;generalize h : u139.setCell _ _ = X142;replace B := B.s2 h;clear h;have Q := QB.out _ _ Q.pr;have c143 := B.mv2.S.cs B.F.rb; have c144 := B.S.cs B.F.rb;go_upto_region 23 with (at_builtin; generalize h : X142.alloc _ = V145; replace B := B.nilk.mkl rfl h; clear h; go_must (refine B.mv2.app rfl _ _ rfl rfl rfl (by simp) ?_); clear B; intro aoL capL L u146 ELL B; have c147 := B.mv2.S.cs B.F.rb)
    clear c143 c144 c147;generalize h : u146.setCell _ _ = X148;replace B := B.mv2.s4 h;clear h;have c149 := B.S.cs B.F.rb; have c150 := B.cr;go_wp2_with fail
    exact Br.fin (.mk 42 aa x 0 L) B.mv1.ko p9 (by rw [ELL.out]; exact Q.pr) rfl rfl
theorem dec_one {P : Src} {i : Nat} (h : jK P (jv 0) i = true) : (P.K i = 6 ∨ P.K i = 7) ∧ (P.T i = w_val ∨ P.T i = w_fun ∨ P.T i = w_type ∨ P.T i = w_data ∨ P.T i = w_exception ∨ P.T i = w_structure ∨ P.T i = w_signature ∨ P.T i = w_open) := by
 have h : jK P [w_val, w_fun, w_type, w_data, w_exception, w_structure, w_open, w_signature] i = true := h;unfold jK at h;simp only [Bool.and_eq_true, decide_eq_true_eq, List.any_cons, List.any_nil, Bool.or_eq_true, Bool.or_false] at h;refine ⟨h.1, ?_⟩;rcases h.2 with h | h | h | h | h | h | h | h <;> simp [h]
theorem dec_val {P : Src} {R : Rec} {i : Nat} (h : P.T i = w_val) : qZ P R i = (R.go .pat >>= fun p => jm P s_eq >>= fun _ => R.go .exp >>= fun e => (pure (.mk 34 (P.A i) ⟨#[]⟩ 0 [p, e]) : M Ty)) (i + 1) := by
 unfold qZ;rw [if_pos h]
theorem dec_fun {P : Src} {R : Rec} {i : Nat} (h : P.T i = w_fun) : qZ P R i = (jZ P (kC P R) w_and >>= fun l => (pure (.mk 35 (P.A i) ⟨#[]⟩ 0 l) : M Ty)) (i + 1) := by
 unfold qZ;rw [if_neg (by rw [h]; decide), if_pos h]
theorem dec_type {P : Src} {R : Rec} {i : Nat} (h : P.T i = w_type) : qZ P R i = (qT P 37 (P.A i) >>= fun h => jm P s_eq >>= fun _ => R.go .typ >>= fun t => (pure (.mk h.k h.n h.s h.q (h.args ++ [t])) : M Ty)) (i + 1) := by
 unfold qZ;rw [if_neg (by rw [h]; decide), if_neg (by rw [h]; decide), if_pos h]
theorem dec_data {P : Src} {R : Rec} {i : Nat} (h : P.T i = w_data) : qZ P R i = yj P R (P.A i) (i + 1) := by
 unfold qZ;rw [if_neg (by rw [h]; decide), if_neg (by rw [h]; decide), if_neg (by rw [h]; decide), if_pos h]
theorem dec_exception {P : Src} {R : Rec} {i : Nat} (h : P.T i = w_exception) : qZ P R i = (conB P R >>= fun c => (pure (.mk 41 (P.A i) c.s c.q c.args) : M Ty)) (i + 1) := by
 unfold qZ;rw [if_neg (by rw [h]; decide), if_neg (by rw [h]; decide), if_neg (by rw [h]; decide), if_neg (by rw [h]; decide), if_pos h]
theorem dec_structure {P : Src} {R : Rec} {i : Nat} (h : P.T i = w_structure) : qZ P R i = kH P R (P.A i) (i + 1) := by
 unfold qZ;rw [if_neg (by rw [h]; decide), if_neg (by rw [h]; decide), if_neg (by rw [h]; decide), if_neg (by rw [h]; decide), if_neg (by rw [h]; decide), if_pos h]
theorem dec_signature {P : Src} {R : Rec} {i : Nat} (h : P.T i = w_signature) : qZ P R i = (jI P 4 >>= fun x => jm P s_eq >>= fun _ => R.go .sig >>= fun q => (pure (.mk 43 (P.A i) x 0 [q]) : M Ty)) (i + 1) := by
 unfold qZ;rw [if_neg (by rw [h]; decide), if_neg (by rw [h]; decide), if_neg (by rw [h]; decide), if_neg (by rw [h]; decide), if_neg (by rw [h]; decide), if_neg (by rw [h]; decide), if_pos h]
theorem dec_open {P : Src} {R : Rec} {i : Nat} (h : P.T i = w_open) : qZ P R i = (ki P 4 >>= fun p => (pure (.mk 44 (P.A i) p.1 0 []) : M Ty)) (i + 1) := by
 unfold qZ;rw [if_neg (by rw [h]; decide), if_neg (by rw [h]; decide), if_neg (by rw [h]; decide), if_neg (by rw [h]; decide), if_neg (by rw [h]; decide), if_neg (by rw [h]; decide), if_neg (by rw [h]; decide)]
theorem cdec_any (E : Env) (g : Nat) (RA : RAll E g) (w : World) (s : RS) (hs : s.k = 0) (ho : jK E.P (jv 0) s.i = true) (h : Rr E w s (60 - g)) : Calls Tryz.prog 107 #[pr E] w (RPost E (60 - g) w (rn (qZ E.P (jf E.P g)) s) (NdQ w)) := by
 refine Br.go (m := qZ E.P (jf E.P g)) h RA ?_;intro d T W R hW B Q hlr hN;have HS := lh hs;have HON := lh (dec_one ho);have HK1 := (lh (by have := HON.out.1; omega) : Hid (1 ≤ E.P.K s.i));have HFB := at_r R.hd (cfbinds_any E g RA);have HCON := vg R.hd (ccon_any E g RA);have HHEAD := lh (fun kk aa w s h => chead_any E g RA w s kk aa h);have HDATA := lh (fun aa w s h => cdata_any E g RA w s aa h);have HSTRU := lh (fun aa w s h => cstructure_any E g RA w s aa h);rw [← R.hd] at HHEAD HDATA HSTRU;clear h RA hs ho;unfold pr at HFB HCON HHEAD HDATA HSTRU ⊢;go_enter Tryz.func107, Tryz.ntmps107
 obtain ⟨Q9, p9⟩ := Po9.ex Tryz.f107 E d w T (NdQ w);rw [p9.eq];go_upto_region 1 with fail
 clear hW;go_upto_region 2 with (go_at_call 102; refine B.now ?_; clear B; intro u1 B; have f2 := jA E.P s.i)
 clear f2;generalize hb : u1.heap.size = b4;generalize h : u1.alloc _ = V3;replace B := B.boxt h hb;clear h hb;have c5 := B.F.R.cells;have c6 : s.i ≤ 100000 := Nat.le_trans B.F.R.le hN;go_upto_region 3 with fail
 clear c5 c6;generalize h : V3.setCell _ _ = X7;replace B := B.step (HK1.out) h;clear h;have c8 := B.S.ct B.F.rb;go_upto_region 4 with fail
 clear c8;generalize hb : X7.heap.size = b10;generalize h : X7.alloc _ = V9;replace B := B.box h hb;clear h hb;rcases HON.out.2 with hx | hx | hx | hx | hx | hx | hx | hx
 · skip
   have HTX := lh hx;clear hx;replace Q : Qr T ((jt E.P g .pat >>= fun p => jm E.P s_eq >>= fun _ => jt E.P g .exp >>= fun e => (pure (.mk 34 (E.P.A s.i) ⟨#[]⟩ 0 [p, e]) : M Ty))) (stp s) := ⟨by rw [Q.eq, je HS.out, je (s := stp s) HS.out]; exact dec_val HTX.out⟩;have xw_val : ((E.P.T s.i).toList == [118, 97, 108]) = true := (by rw [HTX.out, ByteArray.toList_eq]; decide);have yw_val : (E.P.T s.i).toList = [118, 97, 108] := (by rw [HTX.out, ByteArray.toList_eq]);have c11 := B.mv1.S.ct B.F.rb;go_upto_region 8 with fail
   clear c11;have c12 := B.S.cs B.F.rb; have c13 := B.mv1.S.ct B.F.rb;go_upto_region 9 with fail
   clear c12 c13;generalize h : V9.setCell _ _ = X14;replace B := B.s0 h;clear h;go_upto_region 10 with (go_at_call 57; refine B.nd Q R.pat ?_; clear B Q; intro u15 p aop capp s16 _ B Q)
   generalize hb : u15.heap.size = b18;generalize h : u15.alloc _ = V17;replace B := B.box h hb;clear h hb;go_upto_region 11 with (go_at_call 144; refine B.un Q (kg E d s_eq) ?_; clear B Q; intro u19 _ _ s20 B Q)
   go_upto_region 12 with (go_at_call 56; refine B.nd Q R.exp ?_; clear B Q; intro u21 e aoe cape s22 _ B Q)
   generalize hb : u21.heap.size = b24;generalize h : u21.alloc _ = V23;replace B := B.box h hb;clear h hb;have c25 := B.mv4.S.cs B.F.rb; have c26 := B.mv2.S.cs B.F.rb; have c27 := B.S.cs B.F.rb;go_upto_region 35 with fail
   clear c25 c26 c27;generalize hz : V23.heap.size = z28;generalize h : V23.setCell _ _ = X29;replace B := B.mv4.s4 h;replace hz := qQ h hz;clear h;generalize h : X29.alloc _ = V30;replace B := B.mv2.mv4.mk2 hz h;clear h;clear hz;have c31 := B.mv1.S.cs B.F.rb; have c32 := B.cr;go_wp2_with fail
   exact Br.fin (.mk 34 (E.P.A s.i) ⟨#[]⟩ 0 [p, e]) B.ko p9 Q.pr rfl rfl
 · skip
   have HTX := lh hx;clear hx;replace Q : Qr T ((jZ E.P (kC E.P (jf E.P g)) w_and >>= fun l => (pure (.mk 35 (E.P.A s.i) ⟨#[]⟩ 0 l) : M Ty))) (stp s) := ⟨by rw [Q.eq, je HS.out, je (s := stp s) HS.out]; exact dec_fun HTX.out⟩;have xw_val : ((E.P.T s.i).toList == [118, 97, 108]) = false := (by rw [HTX.out, ByteArray.toList_eq]; decide);have xw_fun : ((E.P.T s.i).toList == [102, 117, 110]) = true := (by rw [HTX.out, ByteArray.toList_eq]; decide);have yw_fun : (E.P.T s.i).toList = [102, 117, 110] := (by rw [HTX.out, ByteArray.toList_eq]);have c33 := B.mv1.S.ct B.F.rb;go_upto_region 14 with fail
   clear c33;have c34 := B.S.cs B.F.rb; have c35 := B.mv1.S.ct B.F.rb;go_upto_region 15 with fail
   clear c34 c35;generalize h : V9.setCell _ _ = X36;replace B := B.s0 h;clear h;go_upto_region 35 with (go_at_call 145; refine B.rw Q HFB ?_; clear B Q; intro u37 l aol capl s38 LNl B Q; have c39 := B.mv1.S.cs B.F.rb)
   clear c39;generalize h : u37.setCell _ _ = X40;replace B := B.mv1.s4 h;clear h;have c41 := B.S.cs B.F.rb; have c42 := B.cr;go_wp2_with fail
   exact Br.fin (.mk 35 (E.P.A s.i) ⟨#[]⟩ 0 l) B.mv1.ko p9 Q.pr rfl rfl
 · skip
   have HTX := lh hx;clear hx;replace Q : Qr T ((qT E.P 37 (E.P.A s.i) >>= fun h => jm E.P s_eq >>= fun _ => jt E.P g .typ >>= fun t => (pure (.mk h.k h.n h.s h.q (h.args ++ [t])) : M Ty))) (stp s) := ⟨by rw [Q.eq, je HS.out, je (s := stp s) HS.out]; exact dec_type HTX.out⟩;have xw_val : ((E.P.T s.i).toList == [118, 97, 108]) = false := (by rw [HTX.out, ByteArray.toList_eq]; decide);have xw_fun : ((E.P.T s.i).toList == [102, 117, 110]) = false := (by rw [HTX.out, ByteArray.toList_eq]; decide);have xw_type : ((E.P.T s.i).toList == [116, 121, 112, 101]) = true := (by rw [HTX.out, ByteArray.toList_eq]; decide);have yw_type : (E.P.T s.i).toList = [116, 121, 112, 101] := (by rw [HTX.out, ByteArray.toList_eq]);have c43 := B.mv1.S.ct B.F.rb;go_upto_region 17 with fail
   go_upto_region 18 with (go_at_call 146; refine B.nb Q (lh (HHEAD.out 37 (E.P.A s.i))) ?_; clear B Q; intro u44 h aoh caph s45 LNh _ B Q; have c46 := B.mv1.S.cs B.F.rb)
   clear c43 c46;generalize h : ((((u44.setCell _ _).setCell _ _).setCell _ _).setCell _ _).setCell _ _ = X47;replace B := B.mv1.sn h;clear h;go_upto_region 19 with (go_at_call 144; refine B.un Q (kg E d s_eq) ?_; clear B Q; intro u48 _ _ s49 B Q)
   go_upto_region 20 with (go_at_call 58; refine B.nd Q R.typ ?_; clear B Q; intro u50 q aoq capq s51 _ B Q)
   generalize hb : u50.heap.size = b53;generalize h : u50.alloc _ = V52;replace B := B.box h hb;clear h hb;have c54 := B.mv2.S.cs B.F.rb; have c55 := B.S.cs B.F.rb;go_upto_region 35 with (at_builtin; generalize h : V52.alloc _ = V56; replace B := B.mv1.mk1 rfl h; clear h; go_must (refine B.mv3.app rfl _ _ rfl rfl rfl (by have h1 := LNh.out; show _ + 1 ≤ _; omega) ?_); clear B; intro aoL capL L u57 ELL B; have c58 := B.mv2.S.cs B.F.rb)
   clear c54 c55 c58;generalize h : u57.setCell _ _ = X59;replace B := B.mv2.s4 h;clear h;have c60 := B.S.cs B.F.rb; have c61 := B.cr;go_wp2_with fail
   exact Br.fin (.mk h.k h.n h.s h.q L) B.mv1.ko p9 (by rw [ELL.out]; exact Q.pr) rfl rfl
 · skip
   have HTX := lh hx;clear hx;replace Q : Qr T (yj E.P (jf E.P g) (E.P.A s.i)) (stp s) := ⟨by rw [Q.eq, je HS.out, je (s := stp s) HS.out]; exact dec_data HTX.out⟩;have xw_val : ((E.P.T s.i).toList == [118, 97, 108]) = false := (by rw [HTX.out, ByteArray.toList_eq]; decide);have xw_fun : ((E.P.T s.i).toList == [102, 117, 110]) = false := (by rw [HTX.out, ByteArray.toList_eq]; decide);have xw_type : ((E.P.T s.i).toList == [116, 121, 112, 101]) = false := (by rw [HTX.out, ByteArray.toList_eq]; decide);have xw_data : ((E.P.T s.i).toList == [100, 97, 116, 97]) = true := (by rw [HTX.out, ByteArray.toList_eq]; decide);have yw_data : (E.P.T s.i).toList = [100, 97, 116, 97] := (by rw [HTX.out, ByteArray.toList_eq]);have c62 := B.mv1.S.ct B.F.rb;go_upto_region 22 with fail
   go_wp2_with (go_at_call 147; refine B.ndt Q (lh (HDATA.out (E.P.A s.i))) ?_; clear B Q; intro u63 q aoq capq s64 B Q; have c65 := B.cr)
   exact Br.fin (q) B p9 Q rfl rfl
 · skip
   have HTX := lh hx;clear hx;replace Q : Qr T ((conB E.P (jf E.P g) >>= fun c => (pure (.mk 41 (E.P.A s.i) c.s c.q c.args) : M Ty))) (stp s) := ⟨by rw [Q.eq, je HS.out, je (s := stp s) HS.out]; exact dec_exception HTX.out⟩;have xw_val : ((E.P.T s.i).toList == [118, 97, 108]) = false := (by rw [HTX.out, ByteArray.toList_eq]; decide);have xw_fun : ((E.P.T s.i).toList == [102, 117, 110]) = false := (by rw [HTX.out, ByteArray.toList_eq]; decide);have xw_type : ((E.P.T s.i).toList == [116, 121, 112, 101]) = false := (by rw [HTX.out, ByteArray.toList_eq]; decide);have xw_data : ((E.P.T s.i).toList == [100, 97, 116, 97]) = false := (by rw [HTX.out, ByteArray.toList_eq]; decide);have xw_exception : ((E.P.T s.i).toList == [101, 120, 99, 101, 112, 116, 105, 111, 110]) = true := (by rw [HTX.out, ByteArray.toList_eq]; decide);have yw_exception : (E.P.T s.i).toList = [101, 120, 99, 101, 112, 116, 105, 111, 110] := (by rw [HTX.out, ByteArray.toList_eq]);have c66 := B.mv1.S.ct B.F.rb;go_upto_region 24 with fail
   go_upto_region 25 with (go_at_call 148; refine B.nd Q HCON ?_; clear B Q; intro u67 c aoc capc s68 _ B Q; have c69 := B.mv1.S.cs B.F.rb)
   clear c66 c69;generalize h : ((((u67.setCell _ _).setCell _ _).setCell _ _).setCell _ _).setCell _ _ = X70;replace B := B.mv1.sn h;clear h;have c71 := B.S.cs B.F.rb; have c72 := B.mv2.S.ct B.F.rb;go_upto_region 26 with fail
   clear c71 c72;generalize h : X70.setCell _ _ = X73;replace B := B.s0 h;clear h;have c74 := B.S.cs B.F.rb; have c75 := B.mv2.S.ct B.F.rb;go_upto_region 35 with fail
   clear c74 c75;generalize h : X73.setCell _ _ = X76;replace B := B.s1 h;clear h;have c77 := B.S.cs B.F.rb; have c78 := B.cr;go_wp2_with fail
   exact Br.fin (.mk 41 (E.P.A s.i) c.s c.q c.args) B.mv1 p9 Q.pr rfl rfl
 · skip
   have HTX := lh hx;clear hx;replace Q : Qr T (kH E.P (jf E.P g) (E.P.A s.i)) (stp s) := ⟨by rw [Q.eq, je HS.out, je (s := stp s) HS.out]; exact dec_structure HTX.out⟩;have xw_val : ((E.P.T s.i).toList == [118, 97, 108]) = false := (by rw [HTX.out, ByteArray.toList_eq]; decide);have xw_fun : ((E.P.T s.i).toList == [102, 117, 110]) = false := (by rw [HTX.out, ByteArray.toList_eq]; decide);have xw_type : ((E.P.T s.i).toList == [116, 121, 112, 101]) = false := (by rw [HTX.out, ByteArray.toList_eq]; decide);have xw_data : ((E.P.T s.i).toList == [100, 97, 116, 97]) = false := (by rw [HTX.out, ByteArray.toList_eq]; decide);have xw_exception : ((E.P.T s.i).toList == [101, 120, 99, 101, 112, 116, 105, 111, 110]) = false := (by rw [HTX.out, ByteArray.toList_eq]; decide);have xw_structure : ((E.P.T s.i).toList == [115, 116, 114, 117, 99, 116, 117, 114, 101]) = true := (by rw [HTX.out, ByteArray.toList_eq]; decide);have yw_structure : (E.P.T s.i).toList = [115, 116, 114, 117, 99, 116, 117, 114, 101] := (by rw [HTX.out, ByteArray.toList_eq]);have c79 := B.mv1.S.ct B.F.rb;go_upto_region 28 with fail
   go_wp2_with (go_at_call 149; refine B.ndt Q (lh (HSTRU.out (E.P.A s.i))) ?_; clear B Q; intro u80 q aoq capq s81 B Q; have c82 := B.cr)
   exact Br.fin (q) B p9 Q rfl rfl
 · skip
   have HTX := lh hx;clear hx;replace Q : Qr T ((jI E.P 4 >>= fun x => jm E.P s_eq >>= fun _ => jt E.P g .sig >>= fun q => (pure (.mk 43 (E.P.A s.i) x 0 [q]) : M Ty))) (stp s) := ⟨by rw [Q.eq, je HS.out, je (s := stp s) HS.out]; exact dec_signature HTX.out⟩;have xw_val : ((E.P.T s.i).toList == [118, 97, 108]) = false := (by rw [HTX.out, ByteArray.toList_eq]; decide);have xw_fun : ((E.P.T s.i).toList == [102, 117, 110]) = false := (by rw [HTX.out, ByteArray.toList_eq]; decide);have xw_type : ((E.P.T s.i).toList == [116, 121, 112, 101]) = false := (by rw [HTX.out, ByteArray.toList_eq]; decide);have xw_data : ((E.P.T s.i).toList == [100, 97, 116, 97]) = false := (by rw [HTX.out, ByteArray.toList_eq]; decide);have xw_exception : ((E.P.T s.i).toList == [101, 120, 99, 101, 112, 116, 105, 111, 110]) = false := (by rw [HTX.out, ByteArray.toList_eq]; decide);have xw_structure : ((E.P.T s.i).toList == [115, 116, 114, 117, 99, 116, 117, 114, 101]) = false := (by rw [HTX.out, ByteArray.toList_eq]; decide);have xw_signature : ((E.P.T s.i).toList == [115, 105, 103, 110, 97, 116, 117, 114, 101]) = true := (by rw [HTX.out, ByteArray.toList_eq]; decide);have yw_signature : (E.P.T s.i).toList = [115, 105, 103, 110, 97, 116, 117, 114, 101] := (by rw [HTX.out, ByteArray.toList_eq]);have c83 := B.mv1.S.ct B.F.rb;go_upto_region 30 with fail
   clear c83;have c84 := B.S.cs B.F.rb; have c85 := B.mv1.S.ct B.F.rb;go_upto_region 31 with fail
   clear c84 c85;generalize h : V9.setCell _ _ = X86;replace B := B.s0 h;clear h;go_upto_region 32 with (go_at_call 150; refine B.str Q (hget4 E d) ?_; clear B Q; intro u87 x s88 B Q; have c89 := B.S.cs B.F.rb)
   clear c89;generalize h : u87.setCell _ _ = X90;replace B := B.s2 h;clear h;go_upto_region 33 with (go_at_call 144; refine B.un Q (kg E d s_eq) ?_; clear B Q; intro u91 _ _ s92 B Q)
   go_upto_region 34 with (go_at_call 151; refine B.nd Q R.sig ?_; clear B Q; intro u93 q aoq capq s94 _ B Q)
   generalize hb : u93.heap.size = b96;generalize h : u93.alloc _ = V95;replace B := B.box h hb;clear h hb;have c97 := B.mv2.S.cs B.F.rb; have c98 := B.S.cs B.F.rb;go_upto_region 35 with fail
   clear c97 c98;generalize hz : V95.heap.size = z99;generalize h : V95.setCell _ _ = X100;replace B := B.mv2.s4 h;replace hz := qQ h hz;clear h;generalize h : X100.alloc _ = V101;replace B := B.mv2.mk1 hz h;clear h;clear hz;have c102 := B.mv1.S.cs B.F.rb; have c103 := B.cr;go_wp2_with fail
   exact Br.fin (.mk 43 (E.P.A s.i) x 0 [q]) B.ko p9 Q.pr rfl rfl
 · skip
   have HTX := lh hx;clear hx;replace Q : Qr T ((ki E.P 4 >>= fun p => (pure (.mk 44 (E.P.A s.i) p.1 0 []) : M Ty))) (stp s) := ⟨by rw [Q.eq, je HS.out, je (s := stp s) HS.out]; exact dec_open HTX.out⟩;have xw_val : ((E.P.T s.i).toList == [118, 97, 108]) = false := (by rw [HTX.out, ByteArray.toList_eq]; decide);have xw_fun : ((E.P.T s.i).toList == [102, 117, 110]) = false := (by rw [HTX.out, ByteArray.toList_eq]; decide);have xw_type : ((E.P.T s.i).toList == [116, 121, 112, 101]) = false := (by rw [HTX.out, ByteArray.toList_eq]; decide);have xw_data : ((E.P.T s.i).toList == [100, 97, 116, 97]) = false := (by rw [HTX.out, ByteArray.toList_eq]; decide);have xw_exception : ((E.P.T s.i).toList == [101, 120, 99, 101, 112, 116, 105, 111, 110]) = false := (by rw [HTX.out, ByteArray.toList_eq]; decide);have xw_structure : ((E.P.T s.i).toList == [115, 116, 114, 117, 99, 116, 117, 114, 101]) = false := (by rw [HTX.out, ByteArray.toList_eq]; decide);have xw_signature : ((E.P.T s.i).toList == [115, 105, 103, 110, 97, 116, 117, 114, 101]) = false := (by rw [HTX.out, ByteArray.toList_eq]; decide);have c104 := B.mv1.S.ct B.F.rb;go_upto_region 5 with fail
   clear c104;have c105 := B.S.cs B.F.rb; have c106 := B.mv1.S.ct B.F.rb;go_upto_region 6 with fail
   clear c105 c106;generalize h : V9.setCell _ _ = X107;replace B := B.s0 h;clear h;go_upto_region 35 with (go_at_call 152; refine B.pth Q (hpath4 E d) ?_; clear B Q; intro u108 p s109 _ B Q; have c110 := B.S.cs B.F.rb)
   clear c110;generalize h : u108.setCell _ _ = X111;replace B := B.s2 h;clear h;have c112 := B.S.cs B.F.rb; have c113 := B.cr;go_wp2_with fail
   exact Br.fin (.mk 44 (E.P.A s.i) p.1 0 []) B.nilk p9 Q.pr rfl rfl
theorem copen_any : CtN 109 fun E g => openB E.P (jf E.P g) := by
 intro E g RA w s h;rw [show rn (openB E.P (jf E.P g)) s = rn ((fun i => if isD E.P w_fn i = true then (jR E.P (jf E.P g) >>= fun p => jm E.P s_arr >>= fun _ => jt E.P g .exp >>= fun e => (pure (.mk 7 (E.P.A s.i) ⟨#[]⟩ 0 [p, e]) : M Ty)) (i + 1) else (fun i => if isD E.P w_if i = true then (jt E.P g .exp >>= fun a => jm E.P w_then >>= fun _ => jt E.P g .exp >>= fun b => jm E.P w_else >>= fun _ => jt E.P g .exp >>= fun c => (pure (.mk 9 (E.P.A s.i) ⟨#[]⟩ 0 [a, b, c]) : M Ty)) (i + 1) else (fun i => if isD E.P w_raise i = true then (jt E.P g .exp >>= fun e => (pure (.mk 13 (E.P.A s.i) ⟨#[]⟩ 0 [e]) : M Ty)) (i + 1) else (jF E.P (jf E.P g) 7) i : M Ty) i : M Ty) i)) s from by by_cases hs : s.k = 0; exact (by rw [je hs, je hs]; rfl); rw [jq hs, jq hs]];refine Br.go (m := (fun i => if isD E.P w_fn i = true then (jR E.P (jf E.P g) >>= fun p => jm E.P s_arr >>= fun _ => jt E.P g .exp >>= fun e => (pure (.mk 7 (E.P.A s.i) ⟨#[]⟩ 0 [p, e]) : M Ty)) (i + 1) else (fun i => if isD E.P w_if i = true then (jt E.P g .exp >>= fun a => jm E.P w_then >>= fun _ => jt E.P g .exp >>= fun b => jm E.P w_else >>= fun _ => jt E.P g .exp >>= fun c => (pure (.mk 9 (E.P.A s.i) ⟨#[]⟩ 0 [a, b, c]) : M Ty)) (i + 1) else (fun i => if isD E.P w_raise i = true then (jt E.P g .exp >>= fun e => (pure (.mk 13 (E.P.A s.i) ⟨#[]⟩ 0 [e]) : M Ty)) (i + 1) else (jF E.P (jf E.P g) 7) i : M Ty) i : M Ty) i)) h RA ?_;intro d T W R hW B Q hlr hN;have HAPAT := vg R.hd (capat_any E g RA);have HSG := vg R.hd (csigns1_any E g RA);clear h RA;unfold pr at HAPAT HSG ⊢;go_enter Tryz.func109, Tryz.ntmps109
 obtain ⟨Q9, p9⟩ := Po9.ex Tryz.f109 E d w T (NdQ w);rw [p9.eq];go_upto_region 1 with fail
 clear hW;go_upto_region 2 with (go_at_call 102; refine B.now ?_; clear B; intro u1 B; have f2 := jA E.P s.i)
 clear f2;obtain ⟨b3, P⟩ := B.eat (sg := w_fn) Q;clear B Q
 cases b3 with
 | true =>
  go_upto_region 4 with (go_at_call 153; refine P.t ?_; clear P; intro u4 B Q _)
  go_upto_region 5 with (go_at_call 154; refine B.nd Q HAPAT ?_; clear B Q; intro u5 p aop capp s6 _ B Q)
  generalize hb : u5.heap.size = b8;generalize h : u5.alloc _ = V7;replace B := B.box h hb;clear h hb;go_upto_region 6 with (go_at_call 144; refine B.un Q (kg E d s_arr) ?_; clear B Q; intro u9 _ _ s10 B Q)
  go_upto_region 7 with (go_at_call 56; refine B.nd Q R.exp ?_; clear B Q; intro u11 e aoe cape s12 _ B Q)
  generalize hb : u11.heap.size = b14;generalize h : u11.alloc _ = V13;replace B := B.box h hb;clear h hb;have c15 := B.mv2.S.cs B.F.rb; have c16 := B.S.cs B.F.rb;go_wp2_with (go_at_call 54; generalize h : V13.alloc _ = V17; replace B := B.mv1.mv3.mk2 rfl h; clear h; refine B.node ?_; clear B; intro u18 B; have c19 := B.cr)
  exact Br.fin (.mk 7 (E.P.A s.i) ⟨#[]⟩ 0 [p, e]) B.ko p9 Q.pr rfl rfl
 | false =>
  go_upto_region 8 with (go_at_call 153; refine P.f ?_; clear P; intro u20 B Q)
  obtain ⟨b21, P⟩ := B.eat (sg := w_if) Q;clear B Q
  cases b21 with
  | true =>
   go_upto_region 10 with (go_at_call 153; refine P.t ?_; clear P; intro u22 B Q _)
   go_upto_region 11 with (go_at_call 56; refine B.nd Q R.exp ?_; clear B Q; intro u23 a aoa capa s24 _ B Q)
   generalize hb : u23.heap.size = b26;generalize h : u23.alloc _ = V25;replace B := B.box h hb;clear h hb;go_upto_region 12 with (go_at_call 144; refine B.un Q (kg E d w_then) ?_; clear B Q; intro u27 _ _ s28 B Q)
   go_upto_region 13 with (go_at_call 56; refine B.nd Q R.exp ?_; clear B Q; intro u29 b aob capb s30 _ B Q)
   generalize hb : u29.heap.size = b32;generalize h : u29.alloc _ = V31;replace B := B.box h hb;clear h hb;go_upto_region 14 with (go_at_call 144; refine B.un Q (kg E d w_else) ?_; clear B Q; intro u33 _ _ s34 B Q)
   go_upto_region 15 with (go_at_call 56; refine B.nd Q R.exp ?_; clear B Q; intro u35 c aoc capc s36 _ B Q)
   generalize hb : u35.heap.size = b38;generalize h : u35.alloc _ = V37;replace B := B.box h hb;clear h hb;have c39 := B.mv4.S.cs B.F.rb; have c40 := B.mv2.S.cs B.F.rb; have c41 := B.S.cs B.F.rb;go_wp2_with (go_at_call 54; generalize h : V37.alloc _ = V42; replace B := B.mv1.mv3.mv5.mk3 rfl h; clear h; refine B.node ?_; clear B; intro u43 B; have c44 := B.cr)
   exact Br.fin (.mk 9 (E.P.A s.i) ⟨#[]⟩ 0 [a, b, c]) B.ko p9 Q.pr rfl rfl
  | false =>
   go_upto_region 16 with (go_at_call 153; refine P.f ?_; clear P; intro u45 B Q)
   obtain ⟨b46, P⟩ := B.eat (sg := w_raise) Q;clear B Q
   cases b46 with
   | true =>
    go_upto_region 18 with (go_at_call 153; refine P.t ?_; clear P; intro u47 B Q _)
    go_upto_region 19 with (go_at_call 56; refine B.nd Q R.exp ?_; clear B Q; intro u48 e aoe cape s49 _ B Q)
    generalize hb : u48.heap.size = b51;generalize h : u48.alloc _ = V50;replace B := B.box h hb;clear h hb;have c52 := B.S.cs B.F.rb;go_wp2_with (go_at_call 54; generalize h : V50.alloc _ = V53; replace B := B.mv1.mk1 rfl h; clear h; refine B.node ?_; clear B; intro u54 B; have c55 := B.cr)
    exact Br.fin (.mk 13 (E.P.A s.i) ⟨#[]⟩ 0 [e]) B.ko p9 Q.pr rfl rfl
   | false =>
    go_upto_region 20 with (go_at_call 153; refine P.f ?_; clear P; intro u56 B Q)
    go_wp2_with (go_at_call 155; refine B.ndt Q HSG ?_; clear B Q; intro u57 n aon capn s58 B Q; have c59 := B.cr)
    exact Br.fin (n) B p9 Q rfl rfl
theorem Br.up {E : Env} {g f : Nat} {args : Array Value} {m : M Ty} {w : World} {s : RS} {P : Ty → Value → World → Prop} (h : Rr E w s (60 - g)) (k : ∀ d T W, d = 60 - g → w.alloc (.cells #[.int .i64 0, .int .i64 0, .string ⟨#[]⟩, .int .i64 0, .slice none 0 0] 26) = W → Br E w d W s [] → Qr T m s → E.rb < w.heap.size → E.P.toks.length ≤ 100000 → Calls Tryz.prog f args w (RPost E d w T P)) : Calls Tryz.prog f args w (RPost E (60 - g) w (rn m s) P) := k _ _ _ rfl rfl ⟨Fr.start h rfl, Ats.nil, h.low.2, fam_r _ _⟩ ⟨rfl⟩ h.ltr h.ok.len
@[reducible] def StepN (fn inn : Nat) : Prop := ∀ (E : Env) (g : Nat), g ≤ 60 → ∀ (inner spec : M Ty), (g = 0 → spec = jE E.P 5) → (g ≠ 0 → spec = inner) → (g ≠ 0 → ∀ w1 s, Rr E w1 s (60 - g + 1) → Calls Tryz.prog inn #[pr E] w1 (RPost E (60 - g + 1) w1 (rn inner s) (NdQ w1))) → ∀ (w : World) (s : RS), Rr E w s (60 - g) → Calls Tryz.prog fn #[pr E] w (RPost E (60 - g) w (rn spec s) (NdQ w))
theorem cexp_step : StepN 56 109 := by
 intro E g hg inner spec h0 h1 hin w s h;refine Br.up h ?_;intro d T W hd hW B Q hlr hN;have hd60 : d ≤ 60 := by omega
 have HS0 : Hid (¬ d < 60 → spec = jE E.P 5) := lh (fun hl => h0 (by omega));have HS1 : Hid (d < 60 → spec = inner) := lh (fun hl => h1 (by omega));have HIN := lh (show d < 60 → ∀ w1 s, Rr E w1 s (d + 1) → Calls Tryz.prog 109 #[pr E] w1 (RPost E (d + 1) w1 (rn inner s) (NdQ w1)) from by rw [hd]; exact fun hl => hin (by omega));clear h h0 h1 hin hd;unfold pr at HIN ⊢;go_enter Tryz.func56, Tryz.ntmps56
 obtain ⟨Q9, p9⟩ := Po9.ex Tryz.f56 E d w T (NdQ w);rw [p9.eq];go_upto_region 1 with fail
 clear hW
 by_cases h60 : d < 60
 · have H60 := lh h60;clear h60
   by_cases hs : s.k = 0
   · have HSK := lh hs;clear hs;go_upto_region 2 with (go_at_call 106; refine B.ent HSK.out H60.out ?_; clear B; intro u1 B)
     go_upto_region 3 with fail
     generalize hb : u1.heap.size = b3;generalize h : u1.alloc _ = V2;replace B := B.box h hb;clear h hb;go_upto_region 4 with fail
     replace Q : Qr T inner s := ⟨by rw [Q.eq, HS1.out H60.out]⟩;go_upto_region 5 with (go_at_call 109; refine B.ndt Q (lh (HIN.out H60.out)) ?_; clear B Q; intro u4 x aox capx s5 B Q; have c6 := B.mv1.S.cs B.F.rb)
     clear c6;generalize h : ((((u4.setCell _ _).setCell _ _).setCell _ _).setCell _ _).setCell _ _ = X7;replace B := B.mv1.sn h;clear h;go_upto_region 6 with (go_at_call 108; refine B.lea ?_; clear B; intro u8 _ B)
     have c9 := B.S.cs B.F.rb; have c10 := B.cr;go_wp2_with fail
     exact Br.fin (x) B.mv1 p9 Q rfl rfl
   · have HSK := lh hs;clear hs;go_upto_region 2 with (go_at_call 106; refine B.enb HSK.out H60.out ?_; clear B; intro u11 B)
     go_upto_region 3 with fail
     generalize hb : u11.heap.size = b13;generalize h : u11.alloc _ = V12;replace B := B.box h hb;clear h hb;go_upto_region 5 with fail
     go_upto_region 6 with (go_at_call 108; refine B.lea ?_; clear B; intro u14 _ B)
     have c15 := B.S.cs B.F.rb; have c16 := B.cr;go_wp2_with fail
     exact Br.fin (.mk 0 0 ⟨#[]⟩ 0 []) B.nilk p9 (Q.lost HSK.out) rfl rfl
 · have H60 := lh h60;clear h60;have HL5 := lh (B.F.R.no_rl (e := 5) (by decide) (Ty.mk 0 0 ⟨#[]⟩ 0 []));go_upto_region 2 with (go_at_call 106; refine B.eno hd60 H60.out ?_; clear B; intro u17 B)
   go_upto_region 3 with fail
   generalize hb : u17.heap.size = b19;generalize h : u17.alloc _ = V18;replace B := B.box h hb;clear h hb;go_upto_region 5 with fail
   go_upto_region 6 with (go_at_call 108; refine B.lea ?_; clear B; intro u20 _ B)
   have c21 := B.S.cs B.F.rb; have c22 := B.cr;go_wp2_with fail
   exact Br.fin (.mk 0 0 ⟨#[]⟩ 0 []) B.nilk p9 (by rw [Q.eq, HS0.out H60.out]; exact HL5.out) rfl rfl
theorem cpat_step : StepN 57 110 := by
 intro E g hg inner spec h0 h1 hin w s h;refine Br.up h ?_;intro d T W hd hW B Q hlr hN;have hd60 : d ≤ 60 := by omega
 have HS0 : Hid (¬ d < 60 → spec = jE E.P 5) := lh (fun hl => h0 (by omega));have HS1 : Hid (d < 60 → spec = inner) := lh (fun hl => h1 (by omega));have HIN := lh (show d < 60 → ∀ w1 s, Rr E w1 s (d + 1) → Calls Tryz.prog 110 #[pr E] w1 (RPost E (d + 1) w1 (rn inner s) (NdQ w1)) from by rw [hd]; exact fun hl => hin (by omega));clear h h0 h1 hin hd;unfold pr at HIN ⊢;go_enter Tryz.func57, Tryz.ntmps57
 obtain ⟨Q9, p9⟩ := Po9.ex Tryz.f57 E d w T (NdQ w);rw [p9.eq];go_upto_region 1 with fail
 clear hW
 by_cases h60 : d < 60
 · have H60 := lh h60;clear h60
   by_cases hs : s.k = 0
   · have HSK := lh hs;clear hs;go_upto_region 2 with (go_at_call 106; refine B.ent HSK.out H60.out ?_; clear B; intro u1 B)
     go_upto_region 3 with fail
     generalize hb : u1.heap.size = b3;generalize h : u1.alloc _ = V2;replace B := B.box h hb;clear h hb;go_upto_region 4 with fail
     replace Q : Qr T inner s := ⟨by rw [Q.eq, HS1.out H60.out]⟩;go_upto_region 5 with (go_at_call 110; refine B.ndt Q (lh (HIN.out H60.out)) ?_; clear B Q; intro u4 x aox capx s5 B Q; have c6 := B.mv1.S.cs B.F.rb)
     clear c6;generalize h : ((((u4.setCell _ _).setCell _ _).setCell _ _).setCell _ _).setCell _ _ = X7;replace B := B.mv1.sn h;clear h;go_upto_region 6 with (go_at_call 108; refine B.lea ?_; clear B; intro u8 _ B)
     have c9 := B.S.cs B.F.rb; have c10 := B.cr;go_wp2_with fail
     exact Br.fin (x) B.mv1 p9 Q rfl rfl
   · have HSK := lh hs;clear hs;go_upto_region 2 with (go_at_call 106; refine B.enb HSK.out H60.out ?_; clear B; intro u11 B)
     go_upto_region 3 with fail
     generalize hb : u11.heap.size = b13;generalize h : u11.alloc _ = V12;replace B := B.box h hb;clear h hb;go_upto_region 5 with fail
     go_upto_region 6 with (go_at_call 108; refine B.lea ?_; clear B; intro u14 _ B)
     have c15 := B.S.cs B.F.rb; have c16 := B.cr;go_wp2_with fail
     exact Br.fin (.mk 0 0 ⟨#[]⟩ 0 []) B.nilk p9 (Q.lost HSK.out) rfl rfl
 · have H60 := lh h60;clear h60;have HL5 := lh (B.F.R.no_rl (e := 5) (by decide) (Ty.mk 0 0 ⟨#[]⟩ 0 []));go_upto_region 2 with (go_at_call 106; refine B.eno hd60 H60.out ?_; clear B; intro u17 B)
   go_upto_region 3 with fail
   generalize hb : u17.heap.size = b19;generalize h : u17.alloc _ = V18;replace B := B.box h hb;clear h hb;go_upto_region 5 with fail
   go_upto_region 6 with (go_at_call 108; refine B.lea ?_; clear B; intro u20 _ B)
   have c21 := B.S.cs B.F.rb; have c22 := B.cr;go_wp2_with fail
   exact Br.fin (.mk 0 0 ⟨#[]⟩ 0 []) B.nilk p9 (by rw [Q.eq, HS0.out H60.out]; exact HL5.out) rfl rfl
theorem ctyp_step : StepN 58 111 := by
 intro E g hg inner spec h0 h1 hin w s h;refine Br.up h ?_;intro d T W hd hW B Q hlr hN;have hd60 : d ≤ 60 := by omega
 have HS0 : Hid (¬ d < 60 → spec = jE E.P 5) := lh (fun hl => h0 (by omega));have HS1 : Hid (d < 60 → spec = inner) := lh (fun hl => h1 (by omega));have HIN := lh (show d < 60 → ∀ w1 s, Rr E w1 s (d + 1) → Calls Tryz.prog 111 #[pr E] w1 (RPost E (d + 1) w1 (rn inner s) (NdQ w1)) from by rw [hd]; exact fun hl => hin (by omega));clear h h0 h1 hin hd;unfold pr at HIN ⊢;go_enter Tryz.func58, Tryz.ntmps58
 obtain ⟨Q9, p9⟩ := Po9.ex Tryz.f58 E d w T (NdQ w);rw [p9.eq];go_upto_region 1 with fail
 clear hW
 by_cases h60 : d < 60
 · have H60 := lh h60;clear h60
   by_cases hs : s.k = 0
   · have HSK := lh hs;clear hs;go_upto_region 2 with (go_at_call 106; refine B.ent HSK.out H60.out ?_; clear B; intro u1 B)
     go_upto_region 3 with fail
     generalize hb : u1.heap.size = b3;generalize h : u1.alloc _ = V2;replace B := B.box h hb;clear h hb;go_upto_region 4 with fail
     replace Q : Qr T inner s := ⟨by rw [Q.eq, HS1.out H60.out]⟩;go_upto_region 5 with (go_at_call 111; refine B.ndt Q (lh (HIN.out H60.out)) ?_; clear B Q; intro u4 x aox capx s5 B Q; have c6 := B.mv1.S.cs B.F.rb)
     clear c6;generalize h : ((((u4.setCell _ _).setCell _ _).setCell _ _).setCell _ _).setCell _ _ = X7;replace B := B.mv1.sn h;clear h;go_upto_region 6 with (go_at_call 108; refine B.lea ?_; clear B; intro u8 _ B)
     have c9 := B.S.cs B.F.rb; have c10 := B.cr;go_wp2_with fail
     exact Br.fin (x) B.mv1 p9 Q rfl rfl
   · have HSK := lh hs;clear hs;go_upto_region 2 with (go_at_call 106; refine B.enb HSK.out H60.out ?_; clear B; intro u11 B)
     go_upto_region 3 with fail
     generalize hb : u11.heap.size = b13;generalize h : u11.alloc _ = V12;replace B := B.box h hb;clear h hb;go_upto_region 5 with fail
     go_upto_region 6 with (go_at_call 108; refine B.lea ?_; clear B; intro u14 _ B)
     have c15 := B.S.cs B.F.rb; have c16 := B.cr;go_wp2_with fail
     exact Br.fin (.mk 0 0 ⟨#[]⟩ 0 []) B.nilk p9 (Q.lost HSK.out) rfl rfl
 · have H60 := lh h60;clear h60;have HL5 := lh (B.F.R.no_rl (e := 5) (by decide) (Ty.mk 0 0 ⟨#[]⟩ 0 []));go_upto_region 2 with (go_at_call 106; refine B.eno hd60 H60.out ?_; clear B; intro u17 B)
   go_upto_region 3 with fail
   generalize hb : u17.heap.size = b19;generalize h : u17.alloc _ = V18;replace B := B.box h hb;clear h hb;go_upto_region 5 with fail
   go_upto_region 6 with (go_at_call 108; refine B.lea ?_; clear B; intro u20 _ B)
   have c21 := B.S.cs B.F.rb; have c22 := B.cr;go_wp2_with fail
   exact Br.fin (.mk 0 0 ⟨#[]⟩ 0 []) B.nilk p9 (by rw [Q.eq, HS0.out H60.out]; exact HL5.out) rfl rfl
theorem csig_step : StepN 151 181 := by
 intro E g hg inner spec h0 h1 hin w s h;refine Br.up h ?_;intro d T W hd hW B Q hlr hN;have hd60 : d ≤ 60 := by omega
 have HS0 : Hid (¬ d < 60 → spec = jE E.P 5) := lh (fun hl => h0 (by omega));have HS1 : Hid (d < 60 → spec = inner) := lh (fun hl => h1 (by omega));have HIN := lh (show d < 60 → ∀ w1 s, Rr E w1 s (d + 1) → Calls Tryz.prog 181 #[pr E] w1 (RPost E (d + 1) w1 (rn inner s) (NdQ w1)) from by rw [hd]; exact fun hl => hin (by omega));clear h h0 h1 hin hd;unfold pr at HIN ⊢;go_enter Tryz.func151, Tryz.ntmps151
 obtain ⟨Q9, p9⟩ := Po9.ex Tryz.f151 E d w T (NdQ w);rw [p9.eq];go_upto_region 1 with fail
 clear hW
 by_cases h60 : d < 60
 · have H60 := lh h60;clear h60
   by_cases hs : s.k = 0
   · have HSK := lh hs;clear hs;go_upto_region 2 with (go_at_call 106; refine B.ent HSK.out H60.out ?_; clear B; intro u1 B)
     go_upto_region 3 with fail
     generalize hb : u1.heap.size = b3;generalize h : u1.alloc _ = V2;replace B := B.box h hb;clear h hb;go_upto_region 4 with fail
     replace Q : Qr T inner s := ⟨by rw [Q.eq, HS1.out H60.out]⟩;go_upto_region 5 with (go_at_call 181; refine B.ndt Q (lh (HIN.out H60.out)) ?_; clear B Q; intro u4 x aox capx s5 B Q; have c6 := B.mv1.S.cs B.F.rb)
     clear c6;generalize h : ((((u4.setCell _ _).setCell _ _).setCell _ _).setCell _ _).setCell _ _ = X7;replace B := B.mv1.sn h;clear h;go_upto_region 6 with (go_at_call 108; refine B.lea ?_; clear B; intro u8 _ B)
     have c9 := B.S.cs B.F.rb; have c10 := B.cr;go_wp2_with fail
     exact Br.fin (x) B.mv1 p9 Q rfl rfl
   · have HSK := lh hs;clear hs;go_upto_region 2 with (go_at_call 106; refine B.enb HSK.out H60.out ?_; clear B; intro u11 B)
     go_upto_region 3 with fail
     generalize hb : u11.heap.size = b13;generalize h : u11.alloc _ = V12;replace B := B.box h hb;clear h hb;go_upto_region 5 with fail
     go_upto_region 6 with (go_at_call 108; refine B.lea ?_; clear B; intro u14 _ B)
     have c15 := B.S.cs B.F.rb; have c16 := B.cr;go_wp2_with fail
     exact Br.fin (.mk 0 0 ⟨#[]⟩ 0 []) B.nilk p9 (Q.lost HSK.out) rfl rfl
 · have H60 := lh h60;clear h60;have HL5 := lh (B.F.R.no_rl (e := 5) (by decide) (Ty.mk 0 0 ⟨#[]⟩ 0 []));go_upto_region 2 with (go_at_call 106; refine B.eno hd60 H60.out ?_; clear B; intro u17 B)
   go_upto_region 3 with fail
   generalize hb : u17.heap.size = b19;generalize h : u17.alloc _ = V18;replace B := B.box h hb;clear h hb;go_upto_region 5 with fail
   go_upto_region 6 with (go_at_call 108; refine B.lea ?_; clear B; intro u20 _ B)
   have c21 := B.S.cs B.F.rb; have c22 := B.cr;go_wp2_with fail
   exact Br.fin (.mk 0 0 ⟨#[]⟩ 0 []) B.nilk p9 (by rw [Q.eq, HS0.out H60.out]; exact HL5.out) rfl rfl
theorem rall_zero (E : Env) : RAll E 0 := by
 have hv : ∀ fn, (0 : Nat) ≠ 0 → ∀ w1 s, Rr E w1 s (60 - 0 + 1) → Calls Tryz.prog fn #[pr E] w1 (RPost E (60 - 0 + 1) w1 (rn (jE E.P 5 : M Ty) s) (NdQ w1)) := fun fn h => absurd rfl h
 exact ⟨by omega, cexp_step E 0 (by omega) (jE E.P 5) _ (fun _ => rfl) (fun h => absurd rfl h) (hv 109), cpat_step E 0 (by omega) (jE E.P 5) _ (fun _ => rfl) (fun h => absurd rfl h) (hv 110), ctyp_step E 0 (by omega) (jE E.P 5) _ (fun _ => rfl) (fun h => absurd rfl h) (hv 111), csig_step E 0 (by omega) (jE E.P 5) _ (fun _ => rfl) (fun h => absurd rfl h) (hv 181), fun g' e => by omega, fun g' e => by omega⟩
theorem rall_succ (E : Env) (g : Nat) (RA : RAll E g) (hg : g + 1 ≤ 60) : RAll E (g + 1) := by
 have e : 60 - (g + 1) + 1 = 60 - g := by omega
 refine ⟨hg, cexp_step E (g + 1) hg (openB E.P (jf E.P g)) _ (fun h => by omega) (fun _ => kA E.P g .exp) (fun _ w1 s h1 => ?_), cpat_step E (g + 1) hg (vI E.P (jf E.P g)) _ (fun h => by omega) (fun _ => kA E.P g .pat) (fun _ w1 s h1 => ?_), ctyp_step E (g + 1) hg (arrowB E.P (jf E.P g)) _ (fun h => by omega) (fun _ => kA E.P g .typ) (fun _ w1 s h1 => ?_), csig_step E (g + 1) hg (sigsB E.P (jf E.P g)) _ (fun h => by omega) (fun _ => kA E.P g .sig) (fun _ w1 s h1 => ?_), fun g' e2 w s h hs ho => ?_, fun g' e2 w s h => ?_⟩
 · rw [e] at h1 ⊢; exact copen_any E g RA w1 s h1
 · rw [e] at h1 ⊢; exact cconses_any E g RA w1 s h1
 · rw [e] at h1 ⊢; exact carrow_any E g RA w1 s h1
 · rw [e] at h1 ⊢; exact csigs_any E g RA w1 s h1
 · obtain rfl : g = g' := by omega
   exact cdec_any E g RA w s hs ho h
 · obtain rfl : g = g' := by omega
   exact RA.exp w s h
theorem rall (E : Env) : ∀ g, g ≤ 60 → RAll E g
 | 0, _ => rall_zero E
 | g + 1, h => rall_succ E g (rall E g (by omega)) h
theorem AppG.belowz {w A w9 : World} {X : Nat → Prop} {r : Option Nat} (h : AppG w A w9 X r) (hl : w.heap.size + 1 ≤ A.heap.size) : Below (w.heap.size + 1) A w9 := ⟨h.g.os, h.g.tape, h.g.output, h.g.size, fun k hk => h.g.block k (by omega) (fun e => by have := (h.new k e.symm).1; omega)⟩
theorem Vb.grz {w w1 w2 : World} {nb t rb : Nat} {row : Array Value} (h : Vb w nb t row w1) (hg : w1.grownBy w2 (some rb)) (hrb : rb ≤ w.heap.size) : Vb w nb t row w2 := ⟨kM hg h.row (by have := h.lt; omega), h.lt⟩
theorem Vb.nebz {w wk : World} {nb t rb : Nat} {row : Array Value} (h : Vb w nb t row wk) (hr : rb ≤ w.heap.size) : nb ≠ rb := by have := h.lt; omega
theorem Kd.grz {w w1 w2 : World} {X : Nat → Prop} {rb cap : Nat} {l : List Ty} {ao : Option Addr} (h : Kd w w1 X l ao cap) (hg : w1.grownBy w2 (some rb)) (hrb : rb ≤ w.heap.size) : Kd w w2 X l ao cap :=
 (SlD.keep h (gr_cells hg (fun b hb => ⟨hb.2.1, by have := hb.1; omega⟩))).mono fun b hb => ⟨hb.1, Nat.lt_of_lt_of_le hb.2.1 hg.size, hb.2.2⟩
theorem Ow.grz {w w1 w2 : World} {X : Nat → Prop} {rb : Nat} {v : Value} {l : List Ty} (h : Ow w w1 X v l) (hg : w1.grownBy w2 (some rb)) (hrb : rb ≤ w.heap.size) : Ow w w2 X v l := by
 obtain ⟨bs, D, h1, h2, h3, h4⟩ := h;exact ⟨bs, D, h1, h2.gr hg (by omega) (fun b hb => ⟨(h3 b hb).1.2.1, by have := (h3 b hb).1.1; omega⟩), fun b hb => ⟨⟨(h3 b hb).1.1, Nat.lt_of_lt_of_le (h3 b hb).1.2.1 hg.size, (h3 b hb).1.2.2⟩, (h3 b hb).2⟩, h4⟩
structure Fz (E : Env) (v w : World) (d : Nat) (wk : World) (s : RS) : Prop where
 R : Rr E wk s d
 G : v.grownBy wk (some E.rb)
 lt : w.heap.size < wk.heap.size
 rb : E.rb ≤ w.heap.size
 vw : v.heap.size = w.heap.size + 1
theorem Fz.start {E : Env} {v : World} {d : Nat} {s : RS} (h : Rr E v s d) : ∃ w, Fz E v w d v s ∧ E.B ≤ w.heap.size + 1 := by
 have h2 := h.low.1;have h3 := h.low.2;have h1 := less_size (v := v) (by omega);exact ⟨less v, ⟨h, World.grownBy.refl _ _, by omega, by omega, h1⟩, by omega⟩
theorem Fz.gr {E : Env} {v w w1 w2 : World} {d : Nat} {s s' : RS} (h : Fz E v w d w1 s) (hg : w1.grownBy w2 (some E.rb)) (hr : Rr E w2 s' d) : Fz E v w d w2 s' := ⟨hr, jr h.G hg, Nat.lt_of_lt_of_le h.lt hg.size, h.rb, h.vw⟩
theorem Fz.grd {E : Env} {v w w1 w2 : World} {d d' : Nat} {s s' : RS} (h : Fz E v w d w1 s) (hg : w1.grownBy w2 (some E.rb)) (hr : Rr E w2 s' d') : Fz E v w d' w2 s' := ⟨hr, jr h.G hg, Nat.lt_of_lt_of_le h.lt hg.size, h.rb, h.vw⟩
theorem Fz.below {E : Env} {v w w1 w2 : World} {d : Nat} {s : RS} (h : Fz E v w d w1 s) (hb : Below w1.heap.size w1 w2) : Fz E v w d w2 s := h.gr (ji hb _) (h.R.keep hb)
theorem Fz.own {E : Env} {v w A w9 : World} {d : Nat} {s : RS} {X : Nat → Prop} {r : Option Nat} (f : Fz E v w d A s) (hB : E.B ≤ w.heap.size + 1) (hg : AppG w A w9 X r) : Fz E v w d w9 s := by
 have hlt := f.lt;have hb := hg.belowz hlt;refine ⟨f.R.keepB hb hB, yh f.G hg.g (.inr fun g e => by have := (hg.new g e).1; have := f.vw; omega), Nat.lt_of_lt_of_le hlt hg.g.size, f.rb, f.vw⟩
theorem rdecs0_any (E : Env) (g : Nat) (RA : RAll E g) (w0 : World) (s : RS) (k : Nat) (hk : k < 3) (h : Rr E w0 s (60 - g)) : Calls Tryz.prog 55 #[pr E, .int .i64 (k : Int)] w0 (RPost E (60 - g) w0 (rn (qm E.P (jf E.P g) k) s) (OwB w0)) := by
 obtain ⟨d, hd⟩ : ∃ d, d = 60 - g := ⟨_, rfl⟩
 have hd60 : d ≤ 60 := by omega
 have HST : Hid (∀ i x j, jt E.P g .dec i = .ok x j → i + 1 ≤ j) := lh (item_st _);obtain ⟨item, hit⟩ : ∃ item : M Ty, item = jt E.P g .dec := ⟨_, rfl⟩
 rw [← hit] at HST;rw [← hd] at h ⊢;obtain ⟨T, hT⟩ : ∃ T, T = rn (qm E.P (jf E.P g) k) s := ⟨_, rfl⟩
 rw [← hT];have HT : Hid (T = rn (qg (jK E.P (jv k)) item (E.P.toks.length + 1) [] >>= fun l => (ret l : M (List Ty))) s) := lh (hT.trans (by first | rfl | (rw [hit]; exact congrArg (fun m => rn m s) (vS (qm E.P (jf E.P g) k)).symm)));obtain ⟨w, hF, hB⟩ := Fz.start h;have F0 := lh hF;have HB := lh hB;have hlr := hF.rb;have hN := h.ok.len
 have HENT : Hid (∀ w1 s, Rr E w1 s d → s.k = 0 → d < 60 → Calls Tryz.prog 106 #[pr E] w1 fun e w' => e = .returned (.bool true) ∧ Rr E w' s (d + 1) ∧ w1.grownBy w' (some E.rb)) := lh (fun w1 s h1 hs hl => (qW E w1 s d (by omega) h1).mono (by
  rintro e w' ⟨h2, h3, h4⟩;have e1 : entS E.P d s = s := if_neg (by omega);rw [e1] at h2 h3;rw [decide_eq_true hs] at h2
  exact ⟨h2, h3, h4⟩))
 have HENO : Hid (∀ w1 s, Rr E w1 s d → ¬ d < 60 → Calls Tryz.prog 106 #[pr E] w1 fun e w' => e = .returned (.bool false) ∧ Rr E w' (noS E.P 5 s) (d + 1) ∧ w1.grownBy w' (some E.rb)) := lh (fun w1 s h1 hl => (qW E w1 s d hd60 h1).mono (by
  rintro e w' ⟨h2, h3, h4⟩;have e1 : entS E.P d s = noS E.P 5 s := if_pos (by omega);rw [e1] at h2 h3;rw [decide_eq_false (h1.no_bad (by decide))] at h2
  exact ⟨h2, h3, h4⟩))
 have HLEA : Hid (∀ w1 s, Rr E w1 s (d + 1) → Calls Tryz.prog 108 #[pr E] w1 fun e w' => (∃ v, e = .returned v) ∧ Rr E w' s d ∧ w1.grownBy w' (some E.rb)) := lh (fun w1 s h1 => rleaves_any E w1 s d h1);have HDEC : Hid (∀ w1 s, Rr E w1 s (d + 1) → d < 60 → s.k = 0 → jK E.P (jv 0) s.i = true → Calls Tryz.prog 107 #[pr E] w1 (RPost E (d + 1) w1 (rn item s) (NdQ w1))) := lh (fun w1 s h1 hl hs ho => by rw [hit]; rw [hd] at h1 hl ⊢; exact dec_call E g 0 RA (by decide) (60 - g) rfl hl w1 s h1 hs ho);have HITF : Hid (¬ d < 60 → item = jE E.P 5) := lh (by intro hl; have h60 := RA.g60; have e0 : g = 0 := (by omega); rw [hit, e0]; rfl);have HSTA : Hid (∀ w1 : World, Calls Tryz.prog 105 #[.int .i64 (k : Int)] w1 fun e w' => e = .returned (.slice (some ⟨w1.heap.size, 0, none⟩) (jv k).length (jv k).length) ∧ w' = w1.alloc (.cells ((jv k).map Value.string).toArray 9)) := lh (fun w1 => rstarts_any k hk w1);have HONE : Hid (∀ w1 s, Rr E w1 s d → Calls Tryz.prog 104 #[pr E, .slice (some ⟨w1.heap.size, 0, none⟩) (jv k).length (jv k).length] (w1.alloc (.cells ((jv k).map Value.string).toArray 9)) fun e w' => e = .returned (.bool (kJ E.P (jv k) s)) ∧ Below w1.heap.size w1 w') := lh (fun w1 s h1 => rone_starts E w1 s d k h1);unfold pr at HENT HENO HLEA HDEC HITF HSTA HONE ⊢;clear h hT hF hB hd hit;go_enter Tryz.func55, Tryz.ntmps55
 have HKK := lh hk;clear hk;obtain ⟨L, hL⟩ : ∃ L : Nat, L = (jv k).length := ⟨_, rfl⟩
 obtain ⟨CC, hCC⟩ : ∃ CC : Array Value, CC = ((jv k).map Value.string).toArray := ⟨_, rfl⟩
 rw [← hL, ← hCC] at HSTA HONE;clear hL hCC;go_upto_region 3 with (first | (go_at_call 104; refine (HONE.out w0 s F0.out.R).mono ?_; rintro e w1 ⟨rfl, hb⟩; have F2 := lh (F0.out.below hb); clear hb) | (go_at_call 105; refine (HSTA.out w0).mono ?_; rintro e wq ⟨rfl, rfl⟩))
 obtain ⟨f0, hsep⟩ := vP HT.out (fun _ => by omega) F0.out.R.le (fun _ => Nat.zero_le _);have HSEP := lh hsep;clear hsep;go_loopw [5, 6] (fun va vb wr => ∃ (l : List Ty) (ao : Option Addr) (cap : Nat) (b : Bool) (t : RS) (f : Nat), va = .slice ao l.length cap ∧ vb = .bool b ∧ ManyAt E.P (jK E.P (jv k)) item (fun l => (ret l : M (List Ty))) T l b t f ∧ Fz E w0 w d wr t ∧ Ow w wr (fun _ => False) (.slice ao l.length cap) l ∧ l.length ≤ 200000) (fun _ _ wr => jY E.P.toks.length wr E.rb)
 case atStart => exact ⟨[], none, 0, _, _, f0, rfl, rfl, HSEP.out, F2.out, Ow.nil _ _ _, by simp⟩
 case round =>
  obtain ⟨l, ao, cap, b, t, f, rfl, rfl, hsep, hF, hO, hln⟩ := hrel;obtain ⟨wo, rfl⟩ : ∃ wo : World, wo = wr := ⟨_, rfl⟩
  clear HSEP;have HSEP := lh hsep;have FL := lh hF;have OWL := lh hO;clear hsep hF hO
  cases b with
  | false =>
   have HQ := lh HSEP.out.done;go_wp2_with fail
   go_ret
   exact RPost.ok FL.out.G (rn_pure HQ.out) ⟨OWL.out.q FL.out.vw, (by omega)⟩ FL.out.R
  | true =>
   have HGO := lh (HSEP.out.go rfl);have HLEN : l.length ≤ 100001 := by have h1 := (HSEP.out.fl HGO.out.1).2; have h2 := FL.out.R.le; omega
   by_cases h60 : d < 60
   · have H60 := lh h60;clear h60;go_upto_region 6 with (first | (go_at_call 106; refine (HENT.out wo t FL.out.R HGO.out.1 H60.out).mono ?_; rintro e w3 ⟨rfl, hr, hg⟩; have F4 := lh (FL.out.grd hg hr); have OW5 := lh (OWL.out.grz hg FL.out.rb); clear hr hg))
     have HDC : Hid (Calls Tryz.prog 107 #[.pointer (some ⟨E.rb, 0, none⟩)] w3 (RPost E (d + 1) w3 (rn item t) (NdQ w3))) := lh (HDEC.out _ _ F4.out.R H60.out HGO.out.1 (starts_sub HKK.out HGO.out.2));go_upto_region 7 with (first | (go_at_call 107; refine HDC.out.mono ?_; rintro e w6 ⟨e, v, s9, rfl, hg, hr, ⟨aoe, cape, rfl, hs⟩, hl⟩; have HT8 := lh hl; have F7 := lh (F4.out.gr hg hr); have OW10 := lh (OW5.out.grz hg F4.out.rb); have KD11 : Hid (Kd w w6 (fun a => Value.ownBlock (.slice ao l.length cap) = some a) e.args aoe cape) := lh (Kd.of hs F4.out.lt (fun _ h => ((fun h => (OW5.out.lt _ h).2.1) h))); unfold jh at ⊢; clear hl hr hg hs))
     obtain ⟨V12, hV12⟩ : ∃ V12, V12 = w6.alloc (.cells #[.int .i64 e.k, .int .i64 e.n, .string e.s, .int .i64 e.q, .slice aoe e.args.length cape] 26) := ⟨_, rfl⟩
     have hbV12 : Below w6.heap.size w6 V12 := (by rw [hV12]; exact jk (Below.refl _ _) _);have F13 : Hid (Fz E w0 w (d + 1) V12 s9) := lh (F7.out.below hbV12);have VB14q := Vb.new hV12 F7.out.lt;rw [← hV12];obtain ⟨b15, hb15⟩ : ∃ b15, b15 = w6.heap.size := ⟨_, rfl⟩
     rw [← hb15] at VB14q ⊢;have KD16 : Hid (Kd w V12 (fun a => Value.ownBlock (.slice ao l.length cap) = some a ∨ a = b15) e.args aoe cape) := lh ((KD11.out.fresh (fun a h => ((fun h => Or.elim h (fun h => .inl h) (fun h => .inr (by rw [h, hb15]; exact Nat.le_refl _))) h))).grz (ji hbV12 (some E.rb)) F7.out.rb);have OW17 : Hid (Ow w V12 (fun a => a = b15) (.slice ao l.length cap) (l)) := lh ((OW10.out.fresh (fun a h => ((fun h => .inr (by rw [h, hb15]; exact Nat.le_refl _)) h))).grz (ji hbV12 (some E.rb)) F7.out.rb);have VB14 := lh VB14q;clear VB14q hb15 hbV12 hV12;obtain ⟨⟨c18, c19, c20, c21, c22⟩, ⟨z23, z24, z25, z26, z27⟩⟩ := jC VB14.out.row;have ne28a : ¬ (b15 = E.rb) := VB14.out.nebz F13.out.rb;have ne28b : ¬ (b15 = w.heap.size) := Nat.ne_of_gt VB14.out.lt;have ne28c := lt_of_block VB14.out.row;have ne28d : ¬ (b15 = V12.heap.size) := Nat.ne_of_lt ne28c;go_upto_region 8 with (first | (have F29 : Hid (Fz E w0 w (d + 1) (V12.alloc (.cells #[.int .i64 e.k, .int .i64 e.n, .string e.s, .int .i64 e.q, .slice aoe e.args.length cape] 26)) s9) := lh (F13.out.below (jk (Below.refl _ _) _)); have OW30 : Hid (Ow w (V12.alloc (.cells #[.int .i64 e.k, .int .i64 e.n, .string e.s, .int .i64 e.q, .slice aoe e.args.length cape] 26)) (fun a => Value.ownBlock (.slice ao l.length cap) = some a ∨ a = b15) (.slice (some ⟨V12.heap.size, 0, none⟩) 1 1) [e]) := lh (Ow.one (w1 := V12) rfl KD16.out F13.out.lt (fun _ h => ((fun h => Or.elim h (fun h => (OW17.out.lt _ h).2.1) (fun h => (by subst h; exact lt_of_block VB14.out.row))) h))); have VB31 : Hid (Vb w b15 26 #[.int .i64 e.k, .int .i64 e.n, .string e.s, .int .i64 e.q, .slice aoe e.args.length cape] (V12.alloc (.cells #[.int .i64 e.k, .int .i64 e.n, .string e.s, .int .i64 e.q, .slice aoe e.args.length cape] 26))) := lh (VB14.out.grz (ji (jk (Below.refl _ _) _) (some E.rb)) F13.out.rb); have OW32 : Hid (Ow w (V12.alloc (.cells #[.int .i64 e.k, .int .i64 e.n, .string e.s, .int .i64 e.q, .slice aoe e.args.length cape] 26)) (fun a => a = b15) (.slice ao l.length cap) (l)) := lh (OW17.out.grz (ji (jk (Below.refl _ _) _) (some E.rb)) F13.out.rb); at_builtin; go_must (refine wpList_app rfl _ _ rfl rfl rfl OW32.out OW30.out (fun a h => h.elim (fun h => ((fun h => (.inr h)) h)) (fun h => (.inl h))) F29.out.lt (fun _ h => ((fun h => (by subst h; exact lt_of_block VB31.out.row)) h)) (by simp; omega) ?_); intro aoL2 capL2 L2 w33 eL hO hA; have ELL2 := lh eL; have OW35 := lh hO; have F34 := lh (F29.out.own HB.out hA); have VB36 := lh (VB31.out.own hA rfl); clear eL hO hA))
     clear c18 c19 c20 c21 c22 z23 z24 z25 z26 z27 ne28a ne28b ne28c ne28d;obtain ⟨r1, r2, r3, r4⟩ := HSEP.out.item HT8.out HST.out;obtain ⟨f2, hsep⟩ := vP r1 r2 F34.out.R.le r3;rw [← ELL2.out] at hsep;have HSEP2 := lh hsep;have HR4 := lh r4;clear r1 r2 r3 r4 hsep;go_upto_region 9 with (first | (go_at_call 108; refine (HLEA.out w33 s9 F34.out.R).mono ?_; rintro e w37 ⟨⟨v, rfl⟩, hr, hg⟩; have F38 := lh (F34.out.grd hg hr); have VB39 := lh (VB36.out.grz hg F34.out.rb); have OW40 := lh (OW35.out.grz hg F34.out.rb); clear hr hg))
     go_wp2_with (first | (go_at_call 104; refine (HONE.out w37 s9 F38.out.R).mono ?_; rintro e w41 ⟨rfl, hb⟩; have F42 := lh (F38.out.below hb); have VB43 := lh (VB39.out.grz (ji hb (some E.rb)) F38.out.rb); have OW44 := lh (OW40.out.grz (ji hb (some E.rb)) F38.out.rb); clear hb) | (go_at_call 105; refine (HSTA.out w37).mono ?_; rintro e wq ⟨rfl, rfl⟩))
     go_roundw
     case rel => exact ⟨L2, aoL2, capL2, _, _, f2, rfl, rfl, HSEP2.out, F42.out, OW44.out.fresh (fun a h => h.elim), by rw [ELL2.out, List.length_append]; simp; omega⟩
     case measure => exact jP FL.out.R F42.out.R HGO.out.1 (fun h0 => ⟨h0, Nat.le_refl _⟩) HR4.out
   · have H60 := lh h60;clear h60;go_upto_region 8 with (first | (go_at_call 106; refine (HENO.out wo t FL.out.R H60.out).mono ?_; rintro e w45 ⟨rfl, hr, hg⟩; have F46 := lh (FL.out.grd hg hr); have OW47 := lh (OWL.out.grz hg FL.out.rb); clear hr hg))
     have HNB : Hid ((noS E.P 5 t).k ≠ 0) := lh (FL.out.R.no_bad (by decide));have HL5 := lh (FL.out.R.no_rl (e := 5) (by decide) zeroTy)
     have HSEP2 : Hid (ManyAt E.P (jK E.P (jv k)) item (fun l => (ret l : M (List Ty))) T l (kJ E.P (jv k) (noS E.P 5 t)) (noS E.P 5 t) 0) := lh (by
      have e1 : kJ E.P (jv k) (noS E.P 5 t) = false := (by unfold kJ; rw [decide_eq_false HNB.out, Bool.false_and]);rw [e1];have h1 := HL5.out;rw [← HITF.out H60.out] at h1
      exact many_lost (HSEP.out.item h1 HST.out).1 HNB.out)
     go_upto_region 9 with (first | (go_at_call 108; refine (HLEA.out w45 (noS E.P 5 t) F46.out.R).mono ?_; rintro e w48 ⟨⟨v, rfl⟩, hr, hg⟩; have F49 := lh (F46.out.grd hg hr); have OW50 := lh (OW47.out.grz hg F46.out.rb); clear hr hg))
     go_wp2_with (first | (go_at_call 104; refine (HONE.out w48 (noS E.P 5 t) F49.out.R).mono ?_; rintro e w51 ⟨rfl, hb⟩; have F52 := lh (F49.out.below hb); have OW53 := lh (OW50.out.grz (ji hb (some E.rb)) F49.out.rb); clear hb) | (go_at_call 105; refine (HSTA.out w48).mono ?_; rintro e wq ⟨rfl, rfl⟩))
     go_roundw
     case rel => exact ⟨l, ao, cap, _, _, 0, rfl, rfl, HSEP2.out, F52.out, OW53.out, hln⟩
     case measure => exact jP FL.out.R F52.out.R HGO.out.1 (fun h0 => absurd h0 HNB.out) (s1 := ⟨0, 1, 0⟩) (fun h0 => absurd h0 (by decide))
theorem wpList_itm {P : Program} {ops : Array Oper} {rest : List Oper} {o : Oper} {a : Act} {Q : Exit → Act → World → Prop} {w : World} {n : Nat} {v : Value} {R : Ending → World → Prop} {ts : Array TypeId} (hc : ∀ (x9 : Array Value) (w : World), (callFunc n x9).run P w = .ok (.enter n x9) w) (hgd : o.guard = none) (f x : Operand) (ho : o.op = .call { callee := .value f, args := #[x], argTypes := ts }) (hf : a.eval f = .func (.func n) #[] #[]) (hx : a.eval x = v) (h : Calls P n #[v] w R) (hp : ∀ c w', R (.panicked c) w' → Q (.panic c) a w') (hn : ∀ w', ¬ R .outgrown w') (k : ∀ v w', R (.returned v) w' → wpList P ops Q rest (a.put o.dst v) w') : wpList P ops Q (o :: rest) a w := by
 refine wpList_plain hgd fun K hK => ?_
 unfold Oper.wp execOp;simp only [ho, resolve, invoke, Sem.run_bind, Sem.run_pure, Result.andThen_ok, List.map_toArray, List.map_cons, List.map_nil, hf, hx, Deferred.ofValue, hc];rw [Oper.upon_enter, show (#[] ++ #[v] ++ #[] : Array Value) = #[v] by simp];refine h.mono ?_;intro e w' hR
 cases e with
 | returned v => exact hK _ _ (k v w' hR)
 | panicked c => exact hp c w' hR
 | outgrown => exact absurd hR (hn w')
theorem PPost.out {α : Type} {E : Env} {d : Nat} {w w' : World} {T : Res α} {Q : α → Value → World → Prop} : ¬ PPost E d w T Q .outgrown w' := by
 rintro ⟨-, ⟨x, j, v, -, h, -⟩ | ⟨k, a, -, h, -⟩⟩ <;> cases h
theorem PPost.got {α : Type} {E : Env} {d : Nat} {w w' : World} {T : Res α} {Q : α → Value → World → Prop} {v : Value} (h : PPost E d w T Q (.returned v) w') : w.grownBy w' (some E.rb) ∧ ∃ x j, T = .ok x j ∧ Q x v w' ∧ Rd E w' j d := by
 obtain ⟨hg, ⟨x, j, v, hT, h, hq, hr⟩ | ⟨k, a, -, h, -⟩⟩ := h
 · cases h; exact ⟨hg, x, j, hT, hq, hr⟩
 · cases h
end Go.Proofs.YthehjeeiodbkjaaGreatDoor
