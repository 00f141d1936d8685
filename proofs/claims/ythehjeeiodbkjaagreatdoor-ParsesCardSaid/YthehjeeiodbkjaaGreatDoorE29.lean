/-
  Proved: the contract of the document's con; the contracts of the document's exps and pats; the contract of the document's decs; the contract of the document's head; the contract of the document's structure. Conditions: the reader as it stands in memory; what it reads within.
-/
import Derived.Test.YthehjeeiodbkjaaGreatDoorE26
import Derived.Test.YthehjeeiodbkjaaGreatDoorE21
set_option linter.unusedSimpArgs false
set_option linter.unusedVariables false
set_option maxRecDepth 100000
set_option maxHeartbeats 16000000
namespace Go.Proofs.YthehjeeiodbkjaaGreatDoor
open Go.RowKit
theorem ccon_any : CtN 148 fun E g => conB E.P (recS E.P g) := by
 intro E g RA w s h
 refine Br.go (m := kindD E.P 4 >>= fun x => eatD E.P w_of >>= fun o => if o = true then (readS E.P g .typ >>= fun t => (pure (.mk 40 (E.P.A s.i) x 0 [t]) : M Ty)) else (pure (.mk 40 (E.P.A s.i) x 0 []) : M Ty)) h RA ?_
 intro d T W R hW B Q hlr hN
 clear h RA
 unfold pr
 go_enter Tryz.func148, Tryz.ntmps148
 obtain ⟨Q9, p9⟩ := Po9.ex Tryz.f148 E d w T (NdQ w)
 rw [p9.eq]
 go_upto_region 1 with fail
 clear hW
 go_upto_region 2 with (go_at_call 102; refine B.now ?_; clear B; intro u1 B; have f2 := tk_fields E.P s.i)
 clear f2
 generalize hb : u1.heap.size = b4
 generalize h : u1.alloc _ = V3
 replace B := B.box h hb
 clear h hb
 go_upto_region 3 with (go_at_call 150; refine B.str Q (hget4 E d) ?_; clear B Q; intro u5 x s6 B Q; have c7 := B.S.cs B.F.rb)
 clear c7
 generalize h : u5.setCell _ _ = X8
 replace B := B.s2 h
 clear h
 obtain ⟨b9, P⟩ := B.eatd (sg := w_of) Q
 clear B Q
 cases b9 with
 | true =>
  go_upto_region 5 with (go_at_call 153; refine P.t ?_; clear P; intro u10 B Q _)
  go_upto_region 6 with (go_at_call 58; refine B.nd Q R.typ ?_; clear B Q; intro u11 t aot capt s12 _ B Q)
  generalize hb : u11.heap.size = b14
  generalize h : u11.alloc _ = V13
  replace B := B.box h hb
  clear h hb
  have c15 := B.mv2.S.cs B.F.rb; have c16 := B.S.cs B.F.rb
  go_upto_region 7 with fail
  clear c15 c16
  generalize hz : V13.heap.size = z17
  generalize h : V13.setCell _ _ = X18
  replace B := B.mv2.s4 h
  replace hz := size_set h hz
  clear h
  generalize h : X18.alloc _ = V19
  replace B := B.mv2.mk1 hz h
  clear h
  clear hz
  have c20 := B.mv1.S.cs B.F.rb; have c21 := B.cr
  go_wp2_with fail
  exact Br.fin (.mk 40 (E.P.A s.i) x 0 [t]) B.ko p9 Q.pr rfl rfl
 | false =>
  go_upto_region 7 with (go_at_call 153; refine P.f ?_; clear P; intro u22 B Q)
  have c23 := B.S.cs B.F.rb; have c24 := B.cr
  go_wp2_with fail
  exact Br.fin (.mk 40 (E.P.A s.i) x 0 []) B.nilk p9 Q.pr rfl rfl
theorem cexps_any (E : Env) (g : Nat) (RA : RAll E g) (w0 : World) (s : RS) (sg : ByteArray) (h : Rr E w0 s (60 - g)) (hw : E.B < w0.heap.size) : Calls Tryz.prog 220 #[pr E, .string sg] w0 (RPost E (60 - g) w0 (rn (rowD E.P (readS E.P g .exp) sg) s) (OwB w0)) := by
 have HST : Hid (∀ i x j, readS E.P g .exp i = .ok x j → i + 1 ≤ j) := lh (item_st _)
 rw [show rn (rowD E.P (readS E.P g .exp) sg) s = rn (rowD E.P (readS E.P g .exp) sg >>= fun l => (ret l : M (List Ty))) s from congrArg (fun m => rn m s) (bind_ret' _).symm]
 refine Bs.go (m := rowD E.P (readS E.P g .exp) sg >>= fun l => (ret l : M (List Ty))) h hw RA ?_
 intro d T w R B Q hlr hN
 clear h RA
 unfold pr
 go_enter Tryz.func220, Tryz.ntmps220
 obtain ⟨Q9, p9⟩ := Ps9.ex Tryz.f220 E d w0 T
 rw [p9.eq]
 go_upto_region 2 with (go_at_call 56; refine B.ndx R.exp ?_; clear B; intro u1 x aox capx s2 hl B; have HLx := lh hl; clear hl)
 generalize h : u1.alloc _ = V3
 replace B := B.mk1 rfl h
 clear h
 obtain ⟨f0, H⟩ := sep_first Q HLx.out HST.out B.F.R.le
 go_upto_region 3 with (go_at_call 153; refine B.eatg sg ?_; clear B; intro u4 B)
 go_loopw [5, 6] (fun va vb wr => ∃ (l : List Ty) (ao : Option Addr) (cap : Nat) (b : Bool) (t : RS) (f : Nat), va = .slice ao l.length cap ∧ vb = .bool b ∧ SepAt E.P (readS E.P g .exp) sg (fun l => (ret l : M (List Ty))) T l b t f ∧ Bs E w0 w d wr t [.ow (.slice ao l.length cap) l] ∧ l.length ≤ 200000) (fun _ _ wr => leftOf E.P.toks.length wr E.rb)
 case atStart => exact ⟨[x], _, 1, _, _, f0, rfl, rfl, H, B, by simp⟩
 case round =>
  clear B H Q
  obtain ⟨l, ao, cap, b, t, f, rfl, rfl, H, B, hln⟩ := hrel
  cases b with
  | false =>
   have Q := H.end
   go_wp2_with fail
   rw [← p9.eq]
   go_ret
   exact B.fin Q.pr hln
  | true =>
   have R0 := lh B.F.R
   have HG := lh (H.le R0.out)
   go_upto_region 5 with (go_at_call 56; refine B.ndx R.exp ?_; clear B; intro u5 e aoe cape s6 hl B; have HLe := lh hl; clear hl)
   generalize hb : u5.heap.size = b8
   generalize h : u5.alloc _ = V7
   replace B := B.box h hb
   clear h hb
   have c9 := B.S.cs B.F.rb
   go_upto_region 6 with (at_builtin; generalize h : V7.alloc _ = V10; replace B := B.mv1.mk1 rfl h; clear h; go_must (refine B.mv2.app rfl _ _ rfl rfl rfl (by have := HG.out.2; simp; omega) ?_); clear B; intro aoL capL L u11 ELL B)
   clear c9
   obtain ⟨⟨f2, H2⟩, h4⟩ := H.next HLe.out HST.out B.F.R.le
   rw [← ELL.out] at H2
   have R4 := lh h4
   clear H h4
   go_wp2_with (go_at_call 153; refine B.eatg sg ?_; clear B; intro u12 B)
   go_roundw
   case rel => exact ⟨L, _, _, _, _, f2, rfl, rfl, H2, B.mv1.dr, by have := HG.out.2; rw [ELL.out, List.length_append]; simp; omega⟩
   case measure => exact left_less R0.out B.F.R HG.out.1 eat_after R4.out
theorem cpats_any (E : Env) (g : Nat) (RA : RAll E g) (w0 : World) (s : RS) (h : Rr E w0 s (60 - g)) (hw : E.B < w0.heap.size) : Calls Tryz.prog 183 #[pr E] w0 (RPost E (60 - g) w0 (rn (rowD E.P (readS E.P g .pat) s_com) s) (OwB w0)) := by
 have HST : Hid (∀ i x j, readS E.P g .pat i = .ok x j → i + 1 ≤ j) := lh (item_st _)
 rw [show rn (rowD E.P (readS E.P g .pat) s_com) s = rn (rowD E.P (readS E.P g .pat) s_com >>= fun l => (ret l : M (List Ty))) s from congrArg (fun m => rn m s) (bind_ret' _).symm]
 refine Bs.go (m := rowD E.P (readS E.P g .pat) s_com >>= fun l => (ret l : M (List Ty))) h hw RA ?_
 intro d T w R B Q hlr hN
 clear h RA
 unfold pr
 go_enter Tryz.func183, Tryz.ntmps183
 obtain ⟨Q9, p9⟩ := Ps9.ex Tryz.f183 E d w0 T
 rw [p9.eq]
 go_upto_region 2 with (go_at_call 57; refine B.ndx R.pat ?_; clear B; intro u1 x aox capx s2 hl B; have HLx := lh hl; clear hl)
 generalize h : u1.alloc _ = V3
 replace B := B.mk1 rfl h
 clear h
 obtain ⟨f0, H⟩ := sep_first Q HLx.out HST.out B.F.R.le
 go_upto_region 3 with (go_at_call 153; refine B.eatg s_com ?_; clear B; intro u4 B)
 go_loopw [3, 4] (fun va vb wr => ∃ (l : List Ty) (ao : Option Addr) (cap : Nat) (b : Bool) (t : RS) (f : Nat), va = .slice ao l.length cap ∧ vb = .bool b ∧ SepAt E.P (readS E.P g .pat) s_com (fun l => (ret l : M (List Ty))) T l b t f ∧ Bs E w0 w d wr t [.ow (.slice ao l.length cap) l] ∧ l.length ≤ 200000) (fun _ _ wr => leftOf E.P.toks.length wr E.rb)
 case atStart => exact ⟨[x], _, 1, _, _, f0, rfl, rfl, H, B, by simp⟩
 case round =>
  clear B H Q
  obtain ⟨l, ao, cap, b, t, f, rfl, rfl, H, B, hln⟩ := hrel
  cases b with
  | false =>
   have Q := H.end
   go_wp2_with fail
   rw [← p9.eq]
   go_ret
   exact B.fin Q.pr hln
  | true =>
   have R0 := lh B.F.R
   have HG := lh (H.le R0.out)
   go_upto_region 5 with (go_at_call 57; refine B.ndx R.pat ?_; clear B; intro u5 e aoe cape s6 hl B; have HLe := lh hl; clear hl)
   generalize hb : u5.heap.size = b8
   generalize h : u5.alloc _ = V7
   replace B := B.box h hb
   clear h hb
   have c9 := B.S.cs B.F.rb
   go_upto_region 6 with (at_builtin; generalize h : V7.alloc _ = V10; replace B := B.mv1.mk1 rfl h; clear h; go_must (refine B.mv2.app rfl _ _ rfl rfl rfl (by have := HG.out.2; simp; omega) ?_); clear B; intro aoL capL L u11 ELL B)
   clear c9
   obtain ⟨⟨f2, H2⟩, h4⟩ := H.next HLe.out HST.out B.F.R.le
   rw [← ELL.out] at H2
   have R4 := lh h4
   clear H h4
   go_wp2_with (go_at_call 153; refine B.eatg s_com ?_; clear B; intro u12 B)
   go_roundw
   case rel => exact ⟨L, _, _, _, _, f2, rfl, rfl, H2, B.mv1.dr, by have := HG.out.2; rw [ELL.out, List.length_append]; simp; omega⟩
   case measure => exact left_less R0.out B.F.R HG.out.1 eat_after R4.out
def zeroTy : Ty := .mk 0 0 ⟨#[]⟩ 0 []
theorem many_lost {β : Type} {P : Src} {c : Nat → Bool} {item : M Ty} {K : List Ty → M β} {T : Res β} {l : List Ty} {m : M β} {s : RS} (h : T = rn m s) (hs : s.k ≠ 0) : ManyAt P c item K T l false s 0 :=
 ⟨by rw [if_neg Bool.false_ne_true, h, rn_lost hs, rn_lost hs], fun e => absurd e Bool.false_ne_true, fun e => absurd e hs⟩
theorem ManyAt.next {β : Type} {P : Src} {c : Nat → Bool} {item : M Ty} {K : List Ty → M β} {T : Res β} {l : List Ty} {s s1 : RS} {f : Nat} {x : Ty} (h : ManyAt P c item K T l true s f) (hr : Rl (rn item s) x s1) (hst : ∀ i x j, item i = .ok x j → i + 1 ≤ j) (hle : s1.i ≤ P.toks.length) : (∃ f, ManyAt P c item K T (l ++ [x]) (decide (s1.k = 0) && c s1.i) s1 f) ∧ (s1.k = 0 → s.i + 1 ≤ s1.i) := by
 obtain ⟨r1, r2, r3, r4⟩ := h.item hr hst
 exact ⟨many_head r1 r2 hle r3, r4⟩
theorem ManyAt.le {β : Type} {P : Src} {c : Nat → Bool} {item : M Ty} {K : List Ty → M β} {T : Res β} {l : List Ty} {s : RS} {f : Nat} {E : Env} {w : World} {d : Nat} (h : ManyAt P c item K T l true s f) (hr : Rr E w s d) : s.k = 0 ∧ l.length ≤ 100001 := by
 have h0 := (h.go rfl).1
 have h1 := (h.fl h0).2
 have h2 := hr.le
 have h3 := hr.ok.len
 exact ⟨h0, by omega⟩
theorem dec_call (E : Env) (g k : Nat) (RA : RAll E g) (hk : k < 3) (d : Nat) (hd : d = 60 - g) (hg : d < 60) (w : World) (s : RS) (h : Rr E w s (d + 1)) (hs : s.k = 0) (ho : oneD E.P (startsL k) s.i = true) : Calls Tryz.prog 107 #[.pointer (some ⟨E.rb, 0, none⟩)] w (RPost E (d + 1) w (rn (readS E.P g .dec) s) (NdQ w)) := by
 have h60 := RA.g60
 subst hd
 obtain ⟨g', rfl⟩ : ∃ g', g = g' + 1 := ⟨g - 1, by omega⟩
 have e : 60 - (g' + 1) + 1 = 60 - g' := by omega
 rw [e] at h ⊢
 rw [readS_succ]
 exact RA.dec g' rfl w s h hs (starts_sub hk ho)
theorem cdecs_any (E : Env) (g : Nat) (RA : RAll E g) (w0 : World) (s : RS) (k : Nat) (hk : k < 3) (h : Rr E w0 s (60 - g)) (hw : E.B < w0.heap.size) : Calls Tryz.prog 55 #[pr E, .int .i64 (k : Int)] w0 (RPost E (60 - g) w0 (rn (decsB E.P (recS E.P g) k) s) (OwB w0)) := by
 have HST : Hid (∀ i x j, readS E.P g .dec i = .ok x j → i + 1 ≤ j) := lh (item_st _)
 rw [show rn (decsB E.P (recS E.P g) k) s = rn (manyL (oneD E.P (startsL k)) (readS E.P g .dec) (E.P.toks.length + 1) [] >>= fun l => (ret l : M (List Ty))) s from congrArg (fun m => rn m s) (bind_ret' (decsB E.P (recS E.P g) k)).symm]
 refine Bs.go (m := manyL (oneD E.P (startsL k)) (readS E.P g .dec) (E.P.toks.length + 1) [] >>= fun l => (ret l : M (List Ty))) h hw RA ?_
 intro d T w R B Q hlr hN
 have hd60 := show d ≤ 60 by have := R.hd; omega
 have HSTA := lh (fun w1 : World => rstarts_any k hk w1)
 have HONE := lh (fun w1 s h1 => rone_starts E w1 s d k h1)
 have HDEC := lh (fun w1 s h1 hl => dec_call E g k RA hk d R.hd hl w1 s h1)
 have HITF := lh (show ¬ d < 60 → readS E.P g .dec = failD E.P 5 from by intro hl; have h60 := RA.g60; have hd := R.hd; have e0 : g = 0 := (by omega); rw [e0]; rfl)
 clear h RA hk hw
 generalize readS E.P g .dec = item at *
 unfold pr at HONE ⊢
 generalize (startsL k).length = L at *
 generalize ((startsL k).map Value.string).toArray = CC at *
 go_enter Tryz.func55, Tryz.ntmps55
 obtain ⟨Q9, p9⟩ := Ps9.ex Tryz.f55 E d w0 T
 rw [p9.eq]
 go_upto_region 3 with (first | (go_at_call 104; refine B.ask (HONE.out _ _ B.F.R) ?_; clear B; intro u1 B) | (go_at_call 105; refine (HSTA.out w0).mono ?_; rintro e wq ⟨rfl, rfl⟩))
 obtain ⟨f0, H⟩ := many_head Q.eq (fun _ => by omega) B.F.R.le (fun _ => Nat.zero_le _)
 go_loopw [5, 6] (fun va vb wr => ∃ (l : List Ty) (ao : Option Addr) (cap : Nat) (b : Bool) (t : RS) (f : Nat), va = .slice ao l.length cap ∧ vb = .bool b ∧ ManyAt E.P (oneD E.P (startsL k)) item (fun l => (ret l : M (List Ty))) T l b t f ∧ Bs E w0 w d wr t [.ow (.slice ao l.length cap) l] ∧ l.length ≤ 200000) (fun _ _ wr => leftOf E.P.toks.length wr E.rb)
 case atStart => exact ⟨[], none, 0, _, _, f0, rfl, rfl, H, B.nilo, by simp⟩
 case round =>
  clear B H Q
  obtain ⟨l, ao, cap, b, t, f, rfl, rfl, H, B, hln⟩ := hrel
  cases b with
  | false =>
   have Q : Qr T (ret l : M (List Ty)) t := ⟨H.done⟩
   go_wp2_with fail
   rw [← p9.eq]
   go_ret
   exact B.fin Q.pr hln
  | true =>
   have R0 := lh B.F.R
   have HG := lh (H.le R0.out)
   have HO := lh (H.go rfl).2
   by_cases h60 : d < 60
   · have H60 := lh h60
     clear h60
     go_upto_region 6 with (go_at_call 106; refine B.ent HG.out.1 H60.out ?_; clear B; intro u2 B)
     go_upto_region 7 with (go_at_call 107; refine B.ndc (HDEC.out _ _ B.F.R H60.out HG.out.1 HO.out) ?_; clear B; intro u3 e aoe cape s1 hl B; have HLe := lh hl; clear hl)
     generalize hb : u3.heap.size = b5
     generalize h : u3.alloc _ = V4
     replace B := B.box h hb
     clear h hb
     have c6 := B.S.cs B.F.rb
     go_upto_region 8 with (at_builtin; generalize h : V4.alloc _ = V7; replace B := B.mv1.mk1 rfl h; clear h; go_must (refine B.mv2.app rfl _ _ rfl rfl rfl (by have := HG.out.2; simp; omega) ?_); clear B; intro aoL2 capL2 L2 u8 ELL2 B)
     clear c6
     obtain ⟨⟨f2, H2⟩, h4⟩ := H.next HLe.out HST.out B.F.R.le
     rw [← ELL2.out] at H2
     have R4 := lh h4
     clear H h4
     go_upto_region 9 with (go_at_call 108; refine B.lea ?_; clear B; intro u9 _ B)
     go_wp2_with (first | (go_at_call 104; refine B.ask (HONE.out _ _ B.F.R) ?_; clear B; intro u10 B) | (go_at_call 105; refine (HSTA.out u9).mono ?_; rintro e wq ⟨rfl, rfl⟩))
     go_roundw
     case rel => exact ⟨L2, _, _, _, _, f2, rfl, rfl, H2, B.mv1.dr, by have := HG.out.2; rw [ELL2.out, List.length_append]; simp; omega⟩
     case measure => exact left_less R0.out B.F.R HG.out.1 (fun h0 => ⟨h0, Nat.le_refl _⟩) R4.out
   · have H60 := lh h60
     clear h60
     go_upto_region 8 with (go_at_call 106; refine B.eno hd60 H60.out ?_; clear B; intro u11 B)
     have NB : Hid ((noS E.P 5 t).k ≠ 0) := lh (R0.out.no_bad (by decide))
     have H2 : ManyAt E.P (oneD E.P (startsL k)) item (fun l => (ret l : M (List Ty))) T l (oneb E.P (startsL k) (noS E.P 5 t)) (noS E.P 5 t) 0 := by
      have e1 : oneb E.P (startsL k) (noS E.P 5 t) = false := by unfold oneb; rw [decide_eq_false NB.out, Bool.false_and]
      have h1 := R0.out.no_rl (e := 5) (by decide) zeroTy
      rw [← HITF.out H60.out] at h1
      rw [e1]
      exact many_lost (H.item h1 HST.out).1 NB.out
     clear H
     go_upto_region 9 with (go_at_call 108; refine B.lea ?_; clear B; intro u12 _ B)
     go_wp2_with (first | (go_at_call 104; refine B.ask (HONE.out _ _ B.F.R) ?_; clear B; intro u13 B) | (go_at_call 105; refine (HSTA.out u12).mono ?_; rintro e wq ⟨rfl, rfl⟩))
     go_roundw
     case rel => exact ⟨l, ao, cap, _, _, 0, rfl, rfl, H2, B, hln⟩
     case measure => exact left_less R0.out B.F.R HG.out.1 (fun h0 => absurd h0 NB.out) (s1 := ⟨0, 1, 0⟩) (fun h0 => absurd h0 (by decide))
theorem row_start {β : Type} {P : Src} {item : M Ty} {sg : ByteArray} {K : List Ty → M β} {T : Res β} {s : RS} (hT : T = rn (rowD P item sg >>= K) s) (hs : s.k = 0) : SepAt P item sg K T [] true s (P.toks.length + 1) :=
 ⟨by rw [if_pos rfl, hT]; exact congrArg (fun m => rn m s) (bind_assoc' item _ K), fun _ => hs, fun _ => ⟨by omega, Nat.zero_le _⟩⟩
theorem one_rl {P : Src} {s s1 : RS} {x : ByteArray} (h : Rl (rn (kindD P 5) s) x s1) : Rl (rn (oneB P) s) (.mk 30 (P.A s.i) x 0 []) s1 := by
 have e : rn (oneB P) s = rn (kindD P 5 >>= fun x => (pure (.mk 30 (P.A s.i) x 0 []) : M Ty)) s := rfl
 rw [e, rn_bind h]
 exact rn_pure rfl
theorem one_st {P : Src} : ∀ i x j, oneB P i = .ok x j → i + 1 ≤ j := by
 intro i x j h
 have h2 : (kindD P 5 >>= fun s => (pure (.mk 30 (P.A i) s 0 []) : M Ty)) i = .ok x j := h
 rw [kind_if] at h2
 by_cases hk : P.K i = 5
 · rw [if_pos hk] at h2
   cases h2
   exact Nat.le_refl _
 · rw [if_neg hk, failD_at] at h2
   cases h2
theorem head_eq (E : Env) (kk : Int) (aa : Nat) : headB E.P kk aa = fun i => if isD E.P s_lp i = true then (rowD E.P (oneB E.P) s_com >>= (fun l : List Ty => mustD E.P s_rp >>= fun _ => (fun l : List Ty => kindD E.P 3 >>= fun x => (pure (.mk kk aa x (l.length : Nat) l) : M Ty)) l)) (i + 1) else (fun i => if E.P.K i = 5 then (oneB E.P >>= fun v => (fun l : List Ty => kindD E.P 3 >>= fun x => (pure (.mk kk aa x (l.length : Nat) l) : M Ty)) [v]) i else ((fun l : List Ty => kindD E.P 3 >>= fun x => (pure (.mk kk aa x (l.length : Nat) l) : M Ty)) []) i : M Ty) i := by
 funext i
 unfold headB
 by_cases h5 : E.P.K i = 5
 · have h9 : ¬ isD E.P s_lp i = true := fun h => by have := (isD_at h).1; omega
   rw [if_pos h5, if_neg h9]
   exact (if_pos h5).symm
 · rw [if_neg h5]
   by_cases h : isD E.P s_lp i = true
   · rw [if_pos h, if_pos h]
   · rw [if_neg h, if_neg h]
     exact (if_neg h5).symm
def boolN : Value → Nat
 | .bool true => 1
 | _ => 0
theorem chead_any (E : Env) (g : Nat) (RA : RAll E g) (w : World) (s : RS) (kk : Int) (aa : Nat) (h : Rr E w s (60 - g)) : Calls Tryz.prog 146 #[pr E, .int .i64 kk, .int .i64 (aa : Int)] w (RPost E (60 - g) w (rn (headB E.P kk aa) s) (NdOB w)) := by
 rw [show rn (headB E.P kk aa) s = rn (fun i => if isD E.P s_lp i = true then (rowD E.P (oneB E.P) s_com >>= (fun l : List Ty => mustD E.P s_rp >>= fun _ => (fun l : List Ty => kindD E.P 3 >>= fun x => (pure (.mk kk aa x (l.length : Nat) l) : M Ty)) l)) (i + 1) else (fun i => if E.P.K i = 5 then (oneB E.P >>= fun v => (fun l : List Ty => kindD E.P 3 >>= fun x => (pure (.mk kk aa x (l.length : Nat) l) : M Ty)) [v]) i else ((fun l : List Ty => kindD E.P 3 >>= fun x => (pure (.mk kk aa x (l.length : Nat) l) : M Ty)) []) i : M Ty) i) s from by rw [head_eq]]
 refine Br.go (m := fun i => if isD E.P s_lp i = true then (rowD E.P (oneB E.P) s_com >>= (fun l : List Ty => mustD E.P s_rp >>= fun _ => (fun l : List Ty => kindD E.P 3 >>= fun x => (pure (.mk kk aa x (l.length : Nat) l) : M Ty)) l)) (i + 1) else (fun i => if E.P.K i = 5 then (oneB E.P >>= fun v => (fun l : List Ty => kindD E.P 3 >>= fun x => (pure (.mk kk aa x (l.length : Nat) l) : M Ty)) [v]) i else ((fun l : List Ty => kindD E.P 3 >>= fun x => (pure (.mk kk aa x (l.length : Nat) l) : M Ty)) []) i : M Ty) i) h RA ?_
 intro d T W R hW B Q hlr hN
 clear h RA
 unfold pr
 go_enter Tryz.func146, Tryz.ntmps146
 obtain ⟨Q9, p9⟩ := Po9.ex Tryz.f146 E d w T (NdOB w)
 rw [p9.eq]
 go_upto_region 1 with fail
 clear hW
 go_upto_region 2 with fail
 generalize hb : W.heap.size = b2
 generalize h : W.alloc _ = V1
 replace B := B.box h hb
 clear h hb
 obtain ⟨b3, P⟩ := B.eat (sg := s_lp) Q
 clear B Q
 cases b3 with
 | true =>
  go_upto_region 3 with (go_at_call 153; refine P.t ?_; clear P; intro u4 B Q G)
  go_upto_region 5 with (go_at_call 102; refine B.now ?_; clear B; intro u5 B; have f6 := tk_fields E.P (stp s).i; have c7 := B.S.cs B.F.rb)
  clear f6 c7
  have H := row_start Q.eq G
  go_loopw [10] (fun va wr => ∃ (l : List Ty) (ao : Option Addr) (cap : Nat) (b : Bool) (t : RS) (f : Nat), va = .bool b ∧ (SepAt E.P (oneB E.P) s_com (fun l : List Ty => mustD E.P s_rp >>= fun _ => (fun l : List Ty => kindD E.P 3 >>= fun x => (pure (.mk kk aa x (l.length : Nat) l) : M Ty)) l) T l b t f) ∧ Br E w d wr t [.nv b2 (.int .i64 kk) (.int .i64 (aa : Int)) (.string ⟨#[]⟩) (.int .i64 0) (.slice ao l.length cap), .ow (.slice ao l.length cap) l] ∧ l.length ≤ 200000) (fun va wr => leftOf E.P.toks.length wr E.rb)
  case atStart => exact ⟨[], none, 0, _, _, _, rfl, H, B.nilo.mv1, Nat.zero_le _⟩
  case round =>
   clear B Q G
   obtain ⟨l, ao, cap, b, t, f, rfl, H, B, hln⟩ := hrel
   have HLN := lh hln
   cases b with
   | false =>
    have Q := H.end
    go_upto_region 14 with (go_at_call 144; refine B.un Q (hmust E d s_rp) ?_; clear B Q; intro u8 _ _ s9 B Q)
    have c10 := B.S.cs B.F.rb
    go_upto_region 15 with fail
    clear c10
    generalize h : u8.setCell _ _ = X11
    replace B := B.s3 h
    clear h
    go_upto_region 16 with (go_at_call 150; refine B.str Q (hget3 E d) ?_; clear B Q; intro u12 x s13 B Q; have c14 := B.S.cs B.F.rb)
    clear c14
    generalize h : u12.setCell _ _ = X15
    replace B := B.s2 h
    clear h
    have c16 := B.S.cs B.F.rb; have c17 := B.cr
    go_wp2_with fail
    exact Br.fino (.mk kk aa x (l.length : Nat) l) B.mv1 HLN.out p9 Q.pr rfl rfl
   | true =>
    have R0 := lh B.F.R
    have HG := lh (H.le R0.out)
    have e1 : ((t.k : Int) == 0) = true := by simp [HG.out.1]
    have c18 := B.F.R.cells
    go_upto_region 6 with fail
    clear c18
    go_upto_region 7 with (go_at_call 102; refine B.now ?_; clear B; intro u19 B; have f20 := tk_fields E.P t.i)
    clear f20
    generalize hb : u19.heap.size = b22
    generalize h : u19.alloc _ = V21
    replace B := B.box h hb
    clear h hb
    go_upto_region 8 with (go_at_call 150; refine B.any ((hget5 E d).out _ _ B.F.R) ?_; clear B; intro u23 x v s24 B _ hl e; subst e; have HLx := lh hl; clear hl; have c25 := B.S.cs B.F.rb)
    clear c25
    generalize h : u23.setCell _ _ = X26
    replace B := B.s2 h
    clear h
    have c27 := B.S.cs B.F.rb; have c28 := B.mv1.S.cs B.F.rb
    replace B := B.nilk
    go_upto_region 9 with (at_builtin; generalize h : X26.alloc _ = V29; replace B := B.mkl rfl h; clear h; go_must (refine B.mv3.app rfl _ _ rfl rfl rfl (by have := HG.out.2; simp; omega) ?_); clear B; intro aoL capL L u30 ELL B; have c31 := B.mv2.S.cs B.F.rb)
    clear c27 c28 c31
    generalize h : u30.setCell _ _ = X32
    replace B := B.mv2.s4 h
    clear h
    replace B := B.mv2.dr
    have HON := lh (one_rl HLx.out)
    obtain ⟨⟨f2, H2⟩, h4⟩ := H.next HON.out one_st B.F.R.le
    rw [← ELL.out] at H2
    have R4 := lh h4
    clear H h4
    go_wp2_with (go_at_call 153; refine B.eatg s_com ?_; clear B; intro u33 B)
    go_roundw
    case rel => exact ⟨L, _, _, _, _, f2, rfl, H2, B, by have := HG.out.2; rw [ELL.out, List.length_append]; simp; omega⟩
    case measure => exact left_less R0.out B.F.R HG.out.1 eat_after R4.out
 | false =>
  go_upto_region 3 with (go_at_call 153; refine P.f ?_; clear P; intro u34 B Q)
  go_upto_region 5 with (go_at_call 102; refine B.now ?_; clear B; intro u35 B; have f36 := tk_fields E.P s.i; have c37 := B.S.cs B.F.rb)
  clear f36 c37
  go_loopw [10] (fun va wr => ∃ (l : List Ty) (ao : Option Addr) (cap : Nat) (b : Bool) (t : RS) (f : Nat), va = .bool b ∧ ((b = true → t.k = 0 → l = [] ∧ Qr T (oneB E.P >>= fun v => (fun l : List Ty => kindD E.P 3 >>= fun x => (pure (.mk kk aa x (l.length : Nat) l) : M Ty)) [v]) t) ∧ (b = true ∧ t.k = 0 ∨ Qr T ((fun l : List Ty => kindD E.P 3 >>= fun x => (pure (.mk kk aa x (l.length : Nat) l) : M Ty)) l) t)) ∧ Br E w d wr t [.nv b2 (.int .i64 kk) (.int .i64 (aa : Int)) (.string ⟨#[]⟩) (.int .i64 0) (.slice ao l.length cap), .ow (.slice ao l.length cap) l] ∧ l.length ≤ 200000) (fun va wr => boolN va)
  case atStart =>
   refine ⟨[], none, 0, _, s, 0, rfl, ⟨fun hb hs => ⟨rfl, ⟨?_⟩⟩, ?_⟩, B.nilo.mv1, Nat.zero_le _⟩
   · rw [Q.eq, rn_good hs, rn_good hs]; exact if_pos (by simpa using hb)
   · by_cases hs : s.k = 0
     · by_cases hb : E.P.K s.i = 5
       · exact .inl ⟨by simp [hb], hs⟩
       · exact .inr ⟨by rw [Q.eq, rn_good hs, rn_good hs]; exact if_neg hb⟩
     · exact .inr ⟨by rw [Q.eq, rn_lost hs, rn_lost hs]⟩
  case round =>
   clear B Q
   obtain ⟨l, ao, cap, b, t, f, rfl, H, B, hln⟩ := hrel
   have HLN := lh hln
   cases b with
   | false =>
    have Q := H.2.resolve_left (fun h => Bool.false_ne_true h.1)
    go_upto_region 14 with fail
    have c38 := B.S.cs B.F.rb
    go_upto_region 15 with fail
    clear c38
    generalize h : wr.setCell _ _ = X39
    replace B := B.s3 h
    clear h
    go_upto_region 16 with (go_at_call 150; refine B.str Q (hget3 E d) ?_; clear B Q; intro u40 x s41 B Q; have c42 := B.S.cs B.F.rb)
    clear c42
    generalize h : u40.setCell _ _ = X43
    replace B := B.s2 h
    clear h
    have c44 := B.S.cs B.F.rb; have c45 := B.cr
    go_wp2_with fail
    exact Br.fino (.mk kk aa x (l.length : Nat) l) B.mv1 HLN.out p9 Q.pr rfl rfl
   | true =>
    by_cases hs : t.k = 0
    · have e1 : ((t.k : Int) == 0) = true := by simp [hs]
      have HG := lh hs
      obtain ⟨hl0, Q⟩ := H.1 rfl hs
      have HL0 := lh hl0
      clear hs hl0 H
      have c46 := B.F.R.cells
      go_upto_region 6 with fail
      clear c46
      go_upto_region 7 with (go_at_call 102; refine B.now ?_; clear B; intro u47 B; have f48 := tk_fields E.P t.i)
      clear f48
      generalize hb : u47.heap.size = b50
      generalize h : u47.alloc _ = V49
      replace B := B.box h hb
      clear h hb
      go_upto_region 8 with (go_at_call 150; refine B.any ((hget5 E d).out _ _ B.F.R) ?_; clear B; intro u51 x v s52 B _ hl e; subst e; have HLx := lh hl; clear hl; have c53 := B.S.cs B.F.rb)
      clear c53
      generalize h : u51.setCell _ _ = X54
      replace B := B.s2 h
      clear h
      have c55 := B.S.cs B.F.rb; have c56 := B.mv1.S.cs B.F.rb
      replace B := B.nilk
      go_upto_region 9 with (at_builtin; generalize h : X54.alloc _ = V57; replace B := B.mkl rfl h; clear h; go_must (refine B.mv3.app rfl _ _ rfl rfl rfl (by rw [HL0.out]; simp) ?_); clear B; intro aoL capL L u58 ELL B; have c59 := B.mv2.S.cs B.F.rb)
      clear c55 c56 c59
      generalize h : u58.setCell _ _ = X60
      replace B := B.mv2.s4 h
      clear h
      replace B := B.mv2.dr
      have HON := lh (one_rl HLx.out)
      have Q2 : Qr T ((fun l : List Ty => kindD E.P 3 >>= fun x => (pure (.mk kk aa x (l.length : Nat) l) : M Ty)) L) s52 := by rw [ELL.out, HL0.out]; exact Q.rd HON.out
      go_wp2_with fail
      go_roundw
      case rel => exact ⟨L, _, _, false, _, 0, rfl, ⟨fun h => absurd h Bool.false_ne_true, .inr Q2⟩, B, by rw [ELL.out, HL0.out]; simp⟩
      case measure => exact Nat.zero_lt_one
    · have e1 : ((t.k : Int) == 0) = false := by simp [hs]
      have Q := H.2.resolve_left (fun h => hs h.2)
      clear hs H
      have c61 := B.F.R.cells
      go_upto_region 14 with fail
      have c62 := B.S.cs B.F.rb
      go_upto_region 15 with fail
      clear c61 c62
      generalize h : wr.setCell _ _ = X63
      replace B := B.s3 h
      clear h
      go_upto_region 16 with (go_at_call 150; refine B.str Q (hget3 E d) ?_; clear B Q; intro u64 x s65 B Q; have c66 := B.S.cs B.F.rb)
      clear c66
      generalize h : u64.setCell _ _ = X67
      replace B := B.s2 h
      clear h
      have c68 := B.S.cs B.F.rb; have c69 := B.cr
      go_wp2_with fail
      exact Br.fino (.mk kk aa x (l.length : Nat) l) B.mv1 HLN.out p9 Q.pr rfl rfl
theorem rann_if {β : Type} (P : Src) (R : Rec) (f : Int × List Ty → M β) (i : Nat) : (annB P R >>= f) i = if isD P s_col i = true then (R.go .sig >>= fun g => f (1, [g])) (i + 1) else if isD P s_opq i = true then (R.go .sig >>= fun g => f (2, [g])) (i + 1) else f (0, []) i := by
 have e : annB P R i = if isD P s_col i = true then (R.go .sig >>= fun g => (ret ((1 : Int), [g]) : M (Int × List Ty))) (i + 1) else if isD P s_opq i = true then (R.go .sig >>= fun g => (ret ((2 : Int), [g]) : M (Int × List Ty))) (i + 1) else .ok ((0 : Int), []) i := rfl
 show bnd (annB P R) f i = _
 unfold bnd
 rw [e]
 by_cases h1 : isD P s_col i = true
 · rw [if_pos h1, if_pos h1]
   cases h : R.go .sig (i + 1) with
   | bad k a => rw [bind_bad h, bind_bad h]
   | ok x j => rw [bind_ok h, bind_ok h]; rfl
 · rw [if_neg h1, if_neg h1]
   by_cases h2 : isD P s_opq i = true
   · rw [if_pos h2, if_pos h2]
     cases h : R.go .sig (i + 1) with
     | bad k a => rw [bind_bad h, bind_bad h]
     | ok x j => rw [bind_ok h, bind_ok h]; rfl
   · rw [if_neg h2, if_neg h2]
theorem cstructure_any (E : Env) (g : Nat) (RA : RAll E g) (w : World) (s : RS) (aa : Nat) (h : Rr E w s (60 - g)) : Calls Tryz.prog 149 #[pr E, .int .i64 (aa : Int)] w (RPost E (60 - g) w (rn (structureB E.P (recS E.P g) aa) s) (NdQ w)) := by
 refine Br.go (m := kindD E.P 4 >>= fun x => annB E.P (recS E.P g) >>= fun gg => mustD E.P s_eq >>= fun _ => bodyB E.P (recS E.P g) >>= fun b => (pure (.mk 42 aa x gg.1 (gg.2 ++ [b])) : M Ty)) h RA ?_
 intro d T W R hW B Q hlr hN
 have HDECS := lh (fun w s h hw => cdecs_any E g RA w s 1 (by decide) h hw)
 rw [← R.hd] at HDECS
 clear h RA
 unfold pr at HDECS ⊢
 go_enter Tryz.func149, Tryz.ntmps149
 obtain ⟨Q9, p9⟩ := Po9.ex Tryz.f149 E d w T (NdQ w)
 rw [p9.eq]
 go_upto_region 1 with fail
 clear hW
 go_upto_region 2 with fail
 generalize hb : W.heap.size = b2
 generalize h : W.alloc _ = V1
 replace B := B.box h hb
 clear h hb
 go_upto_region 3 with (go_at_call 150; refine B.str Q (hget4 E d) ?_; clear B Q; intro u3 x s4 B Q; have c5 := B.S.cs B.F.rb)
 clear c5
 generalize h : u3.setCell _ _ = X6
 replace B := B.s2 h
 clear h
 replace Q := Q.to (m' := fun i => if isD E.P s_col i = true then (readS E.P g .sig >>= fun gg => (mustD E.P s_eq >>= fun _ => bodyB E.P (recS E.P g) >>= fun b => (pure (.mk 42 aa x 1 ([gg] ++ [b])) : M Ty))) (i + 1) else (fun i => if isD E.P s_opq i = true then (readS E.P g .sig >>= fun gg => (mustD E.P s_eq >>= fun _ => bodyB E.P (recS E.P g) >>= fun b => (pure (.mk 42 aa x 2 ([gg] ++ [b])) : M Ty))) (i + 1) else (mustD E.P s_eq >>= fun _ => bodyB E.P (recS E.P g) >>= fun b => (pure (.mk 42 aa x 0 ([] ++ [b])) : M Ty)) i) i) (rann_if _ _ _)
 obtain ⟨b7, P⟩ := B.eat (sg := s_col) Q
 clear B Q
 cases b7 with
 | true =>
  go_upto_region 4 with (go_at_call 153; refine P.t ?_; clear P; intro u8 B Q _)
  have c9 := B.S.cs B.F.rb
  go_upto_region 9 with fail
  clear c9
  generalize h : u8.setCell _ _ = X10
  replace B := B.s3 h
  clear h
  go_upto_region 12 with fail
  go_upto_region 13 with (go_at_call 151; refine B.nd Q R.sig ?_; clear B Q; intro u11 gg aogg capgg s12 _ B Q)
  generalize hb : u11.heap.size = b14
  generalize h : u11.alloc _ = V13
  replace B := B.box h hb
  clear h hb
  replace B := B.nilo
  have c15 := B.mv3.S.cs B.F.rb; have c16 := B.mv1.S.cs B.F.rb
  go_upto_region 14 with (at_builtin; generalize h : V13.alloc _ = V17; replace B := B.mv2.mk1 rfl h; clear h; go_must (refine B.mv1.app rfl _ _ rfl rfl rfl (by simp) ?_); clear B; intro aoG capG G u18 ELG B; have c19 := B.mv2.S.cs B.F.rb)
  clear c15 c16 c19
  generalize h : u18.setCell _ _ = X20
  replace B := B.mv2.s4 h
  clear h
  replace Q : Qr T (mustD E.P s_eq >>= fun _ => bodyB E.P (recS E.P g) >>= fun b => (pure (.mk 42 aa x 1 (G ++ [b])) : M Ty)) s12 := by rw [ELG.out]; exact Q
  go_upto_region 15 with (go_at_call 144; refine B.un Q (hmust E d s_eq) ?_; clear B Q; intro u21 _ _ s22 B Q)
  go_upto_region 16 with (go_at_call 102; refine B.now ?_; clear B; intro u23 B; have f24 := tk_fields E.P s22.i)
  clear f24
  generalize hb : u23.heap.size = b26
  generalize h : u23.alloc _ = V25
  replace B := B.box h hb
  clear h hb
  obtain ⟨T2, Q, QB⟩ := Q.sub
  replace Q : Qr T2 (fun i => if isD E.P w_struct i = true then (decsB E.P (recS E.P g) 1 >>= fun l => mustD E.P w_end >>= fun _ => (pure (.mk 45 (E.P.A s22.i) ⟨#[]⟩ 0 l) : M Ty)) (i + 1) else (pathD E.P 4 >>= fun p => (pure (.mk 46 (E.P.A s22.i) p.1 0 []) : M Ty)) i) s22 := ⟨Q.eq⟩
  obtain ⟨b27, P⟩ := B.eat (sg := w_struct) Q
  clear B Q
  cases b27 with
  | true =>
   go_upto_region 18 with (go_at_call 153; refine P.t ?_; clear P; intro u28 B Q _; have c29 := B.S.cs B.F.rb)
   go_upto_region 19 with (go_at_call 55; refine B.rw Q HDECS ?_; clear B Q; intro u30 l aol capl s31 LNl B Q; have c32 := B.mv1.S.cs B.F.rb)
   clear c29 c32
   generalize h : u30.setCell _ _ = X33
   replace B := B.mv1.s4 h
   clear h
   go_upto_region 22 with (go_at_call 144; refine B.un Q (hmust E d w_end) ?_; clear B Q; intro u34 _ _ s35 B Q)
   have Q := QB.out _ _ Q.pr
   have c36 := B.mv2.S.cs B.F.rb; have c37 := B.S.cs B.F.rb
   go_upto_region 23 with (at_builtin; generalize h : u34.alloc _ = V38; replace B := B.mv1.ko.mkl rfl h; clear h; go_must (refine B.mv3.app rfl _ _ rfl rfl rfl (by rw [ELG.out]; simp) ?_); clear B; intro aoL capL L u39 ELL B; have c40 := B.mv2.S.cs B.F.rb)
   clear c36 c37 c40
   generalize h : u39.setCell _ _ = X41
   replace B := B.mv2.s4 h
   clear h
   have c42 := B.S.cs B.F.rb; have c43 := B.cr
   go_wp2_with fail
   exact Br.fin (.mk 42 aa x 1 L) B.mv1.ko p9 (by rw [ELL.out]; exact Q.pr) rfl rfl
  | false =>
   go_upto_region 20 with (go_at_call 153; refine P.f ?_; clear P; intro u44 B Q; have c45 := B.S.cs B.F.rb)
   go_upto_region 21 with fail
   clear c45
   generalize h : u44.setCell _ _ = X46
   replace B := B.s0 h
   clear h
   go_upto_region 22 with (go_at_call 152; refine B.pth Q (hpath4 E d) ?_; clear B Q; intro u47 p s48 _ B Q; have c49 := B.S.cs B.F.rb)
   clear c49
   generalize h : u47.setCell _ _ = X50
   replace B := B.s2 h
   clear h
   have Q := QB.out _ _ Q.pr
   have c51 := B.mv1.S.cs B.F.rb; have c52 := B.S.cs B.F.rb
   go_upto_region 23 with (at_builtin; generalize h : X50.alloc _ = V53; replace B := B.nilk.mkl rfl h; clear h; go_must (refine B.mv3.app rfl _ _ rfl rfl rfl (by rw [ELG.out]; simp) ?_); clear B; intro aoL capL L u54 ELL B; have c55 := B.mv2.S.cs B.F.rb)
   clear c51 c52 c55
   generalize h : u54.setCell _ _ = X56
   replace B := B.mv2.s4 h
   clear h
   have c57 := B.S.cs B.F.rb; have c58 := B.cr
   go_wp2_with fail
   exact Br.fin (.mk 42 aa x 1 L) B.mv1.ko p9 (by rw [ELL.out]; exact Q.pr) rfl rfl
 | false =>
  go_upto_region 6 with (go_at_call 153; refine P.f ?_; clear P; intro u59 B Q)
  obtain ⟨b60, P⟩ := B.eat (sg := s_opq) Q
  clear B Q
  cases b60 with
  | true =>
   go_upto_region 10 with (go_at_call 153; refine P.t ?_; clear P; intro u61 B Q _)
   have c62 := B.S.cs B.F.rb
   go_upto_region 11 with fail
   clear c62
   generalize h : u61.setCell _ _ = X63
   replace B := B.s3 h
   clear h
   go_upto_region 12 with fail
   go_upto_region 13 with (go_at_call 151; refine B.nd Q R.sig ?_; clear B Q; intro u64 gg aogg capgg s65 _ B Q)
   generalize hb : u64.heap.size = b67
   generalize h : u64.alloc _ = V66
   replace B := B.box h hb
   clear h hb
   replace B := B.nilo
   have c68 := B.mv3.S.cs B.F.rb; have c69 := B.mv1.S.cs B.F.rb
   go_upto_region 14 with (at_builtin; generalize h : V66.alloc _ = V70; replace B := B.mv2.mk1 rfl h; clear h; go_must (refine B.mv1.app rfl _ _ rfl rfl rfl (by simp) ?_); clear B; intro aoG capG G u71 ELG B; have c72 := B.mv2.S.cs B.F.rb)
   clear c68 c69 c72
   generalize h : u71.setCell _ _ = X73
   replace B := B.mv2.s4 h
   clear h
   replace Q : Qr T (mustD E.P s_eq >>= fun _ => bodyB E.P (recS E.P g) >>= fun b => (pure (.mk 42 aa x 2 (G ++ [b])) : M Ty)) s65 := by rw [ELG.out]; exact Q
   go_upto_region 15 with (go_at_call 144; refine B.un Q (hmust E d s_eq) ?_; clear B Q; intro u74 _ _ s75 B Q)
   go_upto_region 16 with (go_at_call 102; refine B.now ?_; clear B; intro u76 B; have f77 := tk_fields E.P s75.i)
   clear f77
   generalize hb : u76.heap.size = b79
   generalize h : u76.alloc _ = V78
   replace B := B.box h hb
   clear h hb
   obtain ⟨T2, Q, QB⟩ := Q.sub
   replace Q : Qr T2 (fun i => if isD E.P w_struct i = true then (decsB E.P (recS E.P g) 1 >>= fun l => mustD E.P w_end >>= fun _ => (pure (.mk 45 (E.P.A s75.i) ⟨#[]⟩ 0 l) : M Ty)) (i + 1) else (pathD E.P 4 >>= fun p => (pure (.mk 46 (E.P.A s75.i) p.1 0 []) : M Ty)) i) s75 := ⟨Q.eq⟩
   obtain ⟨b80, P⟩ := B.eat (sg := w_struct) Q
   clear B Q
   cases b80 with
   | true =>
    go_upto_region 18 with (go_at_call 153; refine P.t ?_; clear P; intro u81 B Q _; have c82 := B.S.cs B.F.rb)
    go_upto_region 19 with (go_at_call 55; refine B.rw Q HDECS ?_; clear B Q; intro u83 l aol capl s84 LNl B Q; have c85 := B.mv1.S.cs B.F.rb)
    clear c82 c85
    generalize h : u83.setCell _ _ = X86
    replace B := B.mv1.s4 h
    clear h
    go_upto_region 22 with (go_at_call 144; refine B.un Q (hmust E d w_end) ?_; clear B Q; intro u87 _ _ s88 B Q)
    have Q := QB.out _ _ Q.pr
    have c89 := B.mv2.S.cs B.F.rb; have c90 := B.S.cs B.F.rb
    go_upto_region 23 with (at_builtin; generalize h : u87.alloc _ = V91; replace B := B.mv1.ko.mkl rfl h; clear h; go_must (refine B.mv3.app rfl _ _ rfl rfl rfl (by rw [ELG.out]; simp) ?_); clear B; intro aoL capL L u92 ELL B; have c93 := B.mv2.S.cs B.F.rb)
    clear c89 c90 c93
    generalize h : u92.setCell _ _ = X94
    replace B := B.mv2.s4 h
    clear h
    have c95 := B.S.cs B.F.rb; have c96 := B.cr
    go_wp2_with fail
    exact Br.fin (.mk 42 aa x 2 L) B.mv1.ko p9 (by rw [ELL.out]; exact Q.pr) rfl rfl
   | false =>
    go_upto_region 20 with (go_at_call 153; refine P.f ?_; clear P; intro u97 B Q; have c98 := B.S.cs B.F.rb)
    go_upto_region 21 with fail
    clear c98
    generalize h : u97.setCell _ _ = X99
    replace B := B.s0 h
    clear h
    go_upto_region 22 with (go_at_call 152; refine B.pth Q (hpath4 E d) ?_; clear B Q; intro u100 p s101 _ B Q; have c102 := B.S.cs B.F.rb)
    clear c102
    generalize h : u100.setCell _ _ = X103
    replace B := B.s2 h
    clear h
    have Q := QB.out _ _ Q.pr
    have c104 := B.mv1.S.cs B.F.rb; have c105 := B.S.cs B.F.rb
    go_upto_region 23 with (at_builtin; generalize h : X103.alloc _ = V106; replace B := B.nilk.mkl rfl h; clear h; go_must (refine B.mv3.app rfl _ _ rfl rfl rfl (by rw [ELG.out]; simp) ?_); clear B; intro aoL capL L u107 ELL B; have c108 := B.mv2.S.cs B.F.rb)
    clear c104 c105 c108
    generalize h : u107.setCell _ _ = X109
    replace B := B.mv2.s4 h
    clear h
    have c110 := B.S.cs B.F.rb; have c111 := B.cr
    go_wp2_with fail
    exact Br.fin (.mk 42 aa x 2 L) B.mv1.ko p9 (by rw [ELL.out]; exact Q.pr) rfl rfl
  | false =>
   go_upto_region 14 with (go_at_call 153; refine P.f ?_; clear P; intro u112 B Q)
   replace B := B.nilo
   go_upto_region 15 with (go_at_call 144; refine B.un Q (hmust E d s_eq) ?_; clear B Q; intro u113 _ _ s114 B Q)
   go_upto_region 16 with (go_at_call 102; refine B.now ?_; clear B; intro u115 B; have f116 := tk_fields E.P s114.i)
   clear f116
   generalize hb : u115.heap.size = b118
   generalize h : u115.alloc _ = V117
   replace B := B.box h hb
   clear h hb
   obtain ⟨T2, Q, QB⟩ := Q.sub
   replace Q : Qr T2 (fun i => if isD E.P w_struct i = true then (decsB E.P (recS E.P g) 1 >>= fun l => mustD E.P w_end >>= fun _ => (pure (.mk 45 (E.P.A s114.i) ⟨#[]⟩ 0 l) : M Ty)) (i + 1) else (pathD E.P 4 >>= fun p => (pure (.mk 46 (E.P.A s114.i) p.1 0 []) : M Ty)) i) s114 := ⟨Q.eq⟩
   obtain ⟨b119, P⟩ := B.eat (sg := w_struct) Q
   clear B Q
   cases b119 with
   | true =>
    go_upto_region 18 with (go_at_call 153; refine P.t ?_; clear P; intro u120 B Q _; have c121 := B.S.cs B.F.rb)
    go_upto_region 19 with (go_at_call 55; refine B.rw Q HDECS ?_; clear B Q; intro u122 l aol capl s123 LNl B Q; have c124 := B.mv1.S.cs B.F.rb)
    clear c121 c124
    generalize h : u122.setCell _ _ = X125
    replace B := B.mv1.s4 h
    clear h
    go_upto_region 22 with (go_at_call 144; refine B.un Q (hmust E d w_end) ?_; clear B Q; intro u126 _ _ s127 B Q)
    have Q := QB.out _ _ Q.pr
    have c128 := B.mv3.S.cs B.F.rb; have c129 := B.S.cs B.F.rb
    go_upto_region 23 with (at_builtin; generalize h : u126.alloc _ = V130; replace B := B.mv1.ko.mkl rfl h; clear h; go_must (refine B.mv2.app rfl _ _ rfl rfl rfl (by simp) ?_); clear B; intro aoL capL L u131 ELL B; have c132 := B.mv2.S.cs B.F.rb)
    clear c128 c129 c132
    generalize h : u131.setCell _ _ = X133
    replace B := B.mv2.s4 h
    clear h
    have c134 := B.S.cs B.F.rb; have c135 := B.cr
    go_wp2_with fail
    exact Br.fin (.mk 42 aa x 0 L) B.mv1.ko p9 (by rw [ELL.out]; exact Q.pr) rfl rfl
   | false =>
    go_upto_region 20 with (go_at_call 153; refine P.f ?_; clear P; intro u136 B Q; have c137 := B.S.cs B.F.rb)
    go_upto_region 21 with fail
    clear c137
    generalize h : u136.setCell _ _ = X138
    replace B := B.s0 h
    clear h
    go_upto_region 22 with (go_at_call 152; refine B.pth Q (hpath4 E d) ?_; clear B Q; intro u139 p s140 _ B Q; have c141 := B.S.cs B.F.rb)
    clear c141
    generalize h : u139.setCell _ _ = X142
    replace B := B.s2 h
    clear h
    have Q := QB.out _ _ Q.pr
    have c143 := B.mv2.S.cs B.F.rb; have c144 := B.S.cs B.F.rb
    go_upto_region 23 with (at_builtin; generalize h : X142.alloc _ = V145; replace B := B.nilk.mkl rfl h; clear h; go_must (refine B.mv2.app rfl _ _ rfl rfl rfl (by simp) ?_); clear B; intro aoL capL L u146 ELL B; have c147 := B.mv2.S.cs B.F.rb)
    clear c143 c144 c147
    generalize h : u146.setCell _ _ = X148
    replace B := B.mv2.s4 h
    clear h
    have c149 := B.S.cs B.F.rb; have c150 := B.cr
    go_wp2_with fail
    exact Br.fin (.mk 42 aa x 0 L) B.mv1.ko p9 (by rw [ELL.out]; exact Q.pr) rfl rfl
end Go.Proofs.YthehjeeiodbkjaaGreatDoor
