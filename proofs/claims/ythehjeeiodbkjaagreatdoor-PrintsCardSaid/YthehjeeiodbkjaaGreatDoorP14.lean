/-
  Proved: the contracts of the document's signs, level by level; the contract of the document's arrow; the contracts of the document's cpat and conses; the contract of the document's head; the contract of the document's con; the contract of the document's data; the contract of the document's spec. Conditions: the reader as it stands in memory; what it reads within.
-/
import Derived.Test.YthehjeeiodbkjaaGreatDoorP01
import Derived.Test.YthehjeeiodbkjaaGreatDoorP12
import Derived.Test.YthehjeeiodbkjaaGreatDoorP13
import Derived.Test.YthehjeeiodbkjaaGreatDoorP11
set_option linter.unusedSimpArgs false
set_option linter.unusedVariables false
set_option linter.unusedSectionVars false
set_option maxRecDepth 100000
set_option maxHeartbeats 16000000
namespace Go.Proofs.YthehjeeiodbkjaaGreatDoor
open Go.RowKit
theorem lv_ne {P : Src} {j i : Nat} (h : jK P (lvL j) i = true) : ((P.T i).toList == []) = false := by
 unfold jK at h;simp only [Bool.and_eq_true, List.any_eq_true, decide_eq_true_eq] at h;obtain ⟨_, x, hx, e⟩ := h;rw [e]
 have h9 : ∀ x ∈ lvL j, (x.toList == []) = false := by
  unfold lvL;intro x hx;split at hx <;> (try split at hx) <;> (try split at hx) <;> (try split at hx) <;> (try split at hx) <;> (try split at hx) <;> simp at hx
  all_goals (try rcases hx with rfl | rfl | rfl | rfl | rfl | rfl) <;> (try rcases hx with rfl | rfl | rfl) <;> (try subst hx) <;> rw [ByteArray.toList_eq] <;> rfl
 exact h9 x hx
theorem col_one {P : Src} {j : Nat} {item : M Ty} (hj : qd j = true) (f : Nat) (p : ByteArray × Ty) (i : Nat) : jW P j item f [p] i = .ok [p] i := by
 cases f with
 | zero => rfl
 | succ f =>
  rw [vp, if_neg];rintro ⟨h | h, -⟩
  · cases h
  · rw [hj] at h; cases h
theorem bet_eq (P : Src) (R : Rec) (j : Nat) (hj : j + 1 ≠ 3) : jF P R (j + 1) = jF P R j >>= fun a => jW P (j + 1) (jF P R j) (P.toks.length + 1) [] >>= fun l => (ret (jJ a l) : M Ty) := by
 show (jF P R j >>= fun a => jW P (j + 1) (jF P R j) (P.toks.length + 1) [] >>= fun l => (pure (if j + 1 = 3 then vn a l else jJ a l) : M Ty)) = _
 have e : ∀ a l, (if j + 1 = 3 then vn a l else jJ a l) = jJ a l := fun a l => if_neg hj
 simp only [e];rfl
theorem bet3_eq (P : Src) (R : Rec) : jF P R 3 = jF P R 2 >>= fun a => jW P 3 (jF P R 2) (P.toks.length + 1) [] >>= fun l => (ret (vn a l) : M Ty) := rfl
theorem bet3_none {P : Src} {R : Rec} {a : Ty} {s : RS} {T : Res Ty} (hT : T = rn (jW P 3 (jF P R 2) (P.toks.length + 1) [] >>= fun l => (ret (vn a l) : M Ty)) s) (h : kJ P (lvL 3) s = false) : T = rn (pure a : M Ty) s := by
 rw [hT]
 by_cases hs : s.k = 0
 · unfold kJ at h;rw [decide_eq_true hs, Bool.true_and] at h;rw [je hs, je hs]
   show bnd (jW P 3 (jF P R 2) (P.toks.length + 1) []) _ s.i = _
   unfold bnd;rw [vp, if_neg (fun h9 => by rw [h] at h9; exact absurd h9.2 Bool.false_ne_true)];rfl
 · rw [jq hs, jq hs]
structure BetP (P : Src) (j : Nat) (s : RS) (b : Bool) (t : ByteArray) (u : RS) : Prop where
 eb : b = kJ P (lvL j) s
 et : t = if b = true then P.T s.i else ⟨#[]⟩
 eu : u = if b = true then stp s else s
theorem BetP.go {P : Src} {j : Nat} {s u : RS} {b : Bool} {t : ByteArray} (p : BetP P j s b t u) (e : b = true) : s.k = 0 ∧ jK P (lvL j) s.i = true ∧ t = P.T s.i ∧ u = stp s := by
 have h1 := p.eb;have h2 := p.et;have h3 := p.eu;rw [e] at h1;rw [if_pos e] at h2 h3;exact ⟨(kZ h1.symm).1, (kZ h1.symm).2, h2, h3⟩
theorem BetP.no {P : Src} {j : Nat} {s u : RS} {b : Bool} {t : ByteArray} (p : BetP P j s b t u) (e : b = false) : kJ P (lvL j) s = false ∧ t = ⟨#[]⟩ ∧ u = s := by
 have h1 := p.eb;have h2 := p.et;have h3 := p.eu;have h9 : ¬ b = true := by rw [e]; exact Bool.false_ne_true
 rw [if_neg h9] at h2 h3;exact ⟨h1.symm.trans e, h2, h3⟩
theorem BetP.sg {P : Src} {j : Nat} {s u : RS} {b : Bool} {t : ByteArray} (p : BetP P j s b t u) (e : b = true) : u.k = 0 ∧ (t.toList == []) = false := by
 obtain ⟨h1, h2, h3, h4⟩ := p.go e;rw [h3, h4];exact ⟨h1, lv_ne h2⟩
theorem BetP.after {P : Src} {j : Nat} {s u : RS} {b : Bool} {t : ByteArray} (p : BetP P j s b t u) (h0 : u.k = 0) : s.k = 0 ∧ s.i ≤ u.i := by
 cases b with
 | true => obtain ⟨h1, -, -, rfl⟩ := p.go rfl; exact ⟨h1, Nat.le_succ _⟩
 | false => obtain ⟨-, -, rfl⟩ := p.no rfl; exact ⟨h0, Nat.le_refl _⟩
theorem Bd.bet {E : Env} {w w1 : World} {d : Nat} {s : RS} {ls : List At} {Q9 : Ending → World → Prop} (b9 : Br E w d w1 s ls) (k j : Nat) (hk : 1 ≤ k ∧ k ≤ 7) (hj : j = 8 - k) (K : ∀ u b t v, BetP E.P j s b t v → Br E w d u v ls → Q9 (.returned (.string t)) u) : Calls Tryz.prog 186 #[.pointer (some ⟨E.rb, 0, none⟩), .int .i64 (k : Int)] w1 Q9 := by
 subst hj;exact (rbetween_any E w1 s d k hk b9.F.R).mono (by rintro e u ⟨rfl, hr, hg⟩; exact K u _ _ _ ⟨rfl, rfl, rfl⟩ (b9.gr hg hr))
theorem Bd.pair {E : Env} {w w1 : World} {d : Nat} {s : RS} {ls : List At} {Q9 : Ending → World → Prop} {x y : Ty} {ao bo : Option Addr} {ca cb : Nat} {sg : ByteArray} (b : Br E w d w1 s (.kd x.args ao ca :: .kd y.args bo cb :: ls)) (k : ∀ u q9 jn, Hid (jn = kG sg x y) → Br E w d u s (.kd jn.args (some ⟨q9, 0, none⟩) 2 :: ls) → Q9 (.returned (.agg #[.int .i64 jn.k, .int .i64 jn.n, .string jn.s, .int .i64 jn.q, .slice (some ⟨q9, 0, none⟩) jn.args.length 2])) u) : Calls Tryz.prog 187 #[.string sg, .agg #[.int .i64 x.k, .int .i64 x.n, .string x.s, .int .i64 x.q, .slice ao x.args.length ca], .agg #[.int .i64 y.k, .int .i64 y.n, .string y.s, .int .i64 y.q, .slice bo y.args.length cb]] w1 Q9 := (rpair_any sg x y ao bo ca cb w1).mono (by
 rintro e u ⟨g, hg, rfl, hb, hr⟩
 have K := join_kd (s := sg) (X := fun z => wrs ls z) hb hg hr b.F.lt (fun q hq => (b.S.dr.dr.wr hq).2) b.F.rb (Kd.mono b.S.1 fun _ hx => .inr (wrs_cons.2 (.inr hx))) (Kd.mono b.S.2.1 fun _ hx => .inr hx)
 exact k u g _ (lh rfl) ⟨(b.be hb).F, ⟨Kd.mono K fun _ hx => hx.elim False.elim id, AtsY.mono (b.S.dr.dr.gr (ji hb (some E.rb)) b.F.rb) fun _ hx => hx.elim id False.elim⟩, b.B, b.fm⟩)
structure LvAt (P : Src) (j : Nat) (it : M Ty) (T : Res Ty) (n a : Ty) (acc : List (ByteArray × Ty)) (b : Bool) (tx : ByteArray) (t : RS) (f : Nat) : Prop where
 eq : T = if b = true then rn (it >>= fun z => jW P j it f (acc ++ [(tx, z)]) >>= fun l => (ret (jJ n l) : M Ty)) t else rn (pure a : M Ty) t
 al : a = jJ n acc
 go : b = true → t.k = 0 ∧ (tx.toList == []) = false
 em : b = false → tx = ⟨#[]⟩
 fl : b = true → P.toks.length < t.i + f + 1
section
variable {P : Src} {j f : Nat} {it : M Ty} {T : Res Ty} {n a x : Ty} {acc : List (ByteArray × Ty)} {b : Bool} {tx : ByteArray} {s t u : RS}
theorem LvAt.of (q : Qr T (jW P j it f acc >>= fun l => (ret (jJ n l) : M Ty)) s) (hf : s.k = 0 → P.toks.length < s.i + f) (hle : s.i ≤ P.toks.length) (ha : acc.length = 0 ∨ qd j = false) (al : a = jJ n acc) (p : BetP P j s b tx u) : ∃ f, LvAt P j it T n a acc b tx u f := by
 obtain ⟨f, q1, q2⟩ := col_head q.eq hf hle ha;refine ⟨f, ?_, al, p.sg, fun e => (p.no e).2.1, fun e => ?_⟩
 · cases b with
   | true =>
    obtain ⟨h1, h2, h3, h4⟩ := p.go rfl;rw [← p.eb, if_pos rfl] at q1;rw [if_pos rfl, h3, h4];exact q1
   | false =>
    obtain ⟨h1, h2, h3⟩ := p.no rfl;rw [h1, if_neg Bool.false_ne_true] at q1;rw [if_neg Bool.false_ne_true, h3, al];exact q1
 · obtain ⟨h1, h2, h3, h4⟩ := p.go e;have := q2 h1;rw [h4]
   show _ < s.i + 1 + f + 1
   omega
theorem LvAt.first (q : Qr T (jW P j it (P.toks.length + 1) [] >>= fun l => (ret (jJ n l) : M Ty)) s) (hle : s.i ≤ P.toks.length) (p : BetP P j s b tx u) : ∃ f, LvAt P j it T n n [] b tx u f := LvAt.of q (fun _ => by omega) hle (.inl rfl) rfl p
theorem LvAt.end (h : LvAt P j it T n a acc false tx t f) : Qr T (pure a : M Ty) t := ⟨h.eq.trans (if_neg Bool.false_ne_true)⟩
theorem LvAt.rd (h : LvAt P j it T n a acc true tx t f) (hl : Rl (rn it t) x s) (hst : ∀ i x j, it i = .ok x j → i + 1 ≤ j) : Qr T (jW P j it f (acc ++ [(tx, x)]) >>= fun l => (ret (jJ n l) : M Ty)) s ∧ (s.k = 0 → t.i + 1 ≤ s.i) := ⟨⟨(h.eq.trans (if_pos rfl)).trans (vi hl)⟩, rl_step hst (h.go rfl).1 hl⟩
theorem LvAt.next (h : LvAt P j it T n a acc true tx t f) (hl : Rl (rn it t) x s) (hst : ∀ i x j, it i = .ok x j → i + 1 ≤ j) (hj : qd j = false) (hle : s.i ≤ P.toks.length) {jn : Ty} (hn : jn = kG tx a x) {b1 : Bool} {t1 : ByteArray} (p : BetP P j s b1 t1 u) : ∃ f1, LvAt P j it T n jn (acc ++ [(tx, x)]) b1 t1 u f1 := by
 obtain ⟨q, hs⟩ := h.rd hl hst;refine LvAt.of q (fun h0 => ?_) hle (.inr hj) ?_ p
 · have := hs h0;have := h.fl rfl;omega
 · rw [hn, h.al];unfold jJ;rw [List.foldl_append];rfl
theorem LvAt.stop (h : LvAt P j it T n a [] true tx t f) (hl : Rl (rn it t) x s) (hst : ∀ i x j, it i = .ok x j → i + 1 ≤ j) (hj : qd j = true) {jn : Ty} (hn : jn = kG tx a x) : Qr T (pure jn : M Ty) s := by
 refine ⟨(h.rd hl hst).1.eq.trans ?_⟩;have ha : a = n := h.al;rw [hn, ha]
 by_cases hs : s.k = 0
 · rw [je hs, je hs]
   show bnd (jW P j it f [(tx, x)]) _ _ = _
   unfold bnd;rw [col_one hj];rfl
 · rw [jq hs, jq hs]
end
structure LvR (P : Src) (R : Rec) (T : Res Ty) (n : Ty) (b : Bool) (tx : ByteArray) (t : RS) (m : Nat) : Prop where
 eq : T = if b = true then rn (jF P R 3 >>= fun z => (ret (kG tx n z) : M Ty)) t else rn (pure n : M Ty) t
 go : b = true → t.k = 0 ∧ (tx.toList == []) = false
 em : b = false → tx = ⟨#[]⟩
 fw : b = true → ∃ m', m = m' + 1 ∧ P.toks.length < t.i + m'
theorem LvR.first {P : Src} {R : Rec} {T : Res Ty} {n : Ty} {b : Bool} {tx : ByteArray} {s s1 u : RS} {m : Nat} (hst : ∀ i x j, jF P R 2 i = .ok x j → i + 1 ≤ j) (q : Qr T (jW P 3 (jF P R 2) (P.toks.length + 1) [] >>= fun l => (ret (vn n l) : M Ty)) s1) (p : BetP P 3 s1 b tx u) (hl : Rl (rn (jF P R 2) s) n s1) (hm : s.k = 0 → P.toks.length < s.i + m) (hle : s.i ≤ P.toks.length) : LvR P R T n b tx u m := by
 refine ⟨?_, p.sg, fun e => (p.no e).2.1, fun e => ?_⟩
 · cases b with
   | true =>
    obtain ⟨h1, h2, h3, h4⟩ := p.go rfl;rw [if_pos rfl, h3, h4];exact bet3_step hst q.eq h1 h2
   | false =>
    obtain ⟨h1, h2, h3⟩ := p.no rfl;rw [if_neg Bool.false_ne_true, h3];exact bet3_none q.eq h1
 · obtain ⟨h1, h2, h3, h4⟩ := p.go e;have h5 := ql hl h1;have h6 := rl_step hst h5 hl h1;have h7 := hm h5;refine ⟨m - 1, by omega, ?_⟩;rw [h4]
   show _ < s1.i + 1 + (m - 1)
   omega
theorem csigns8_any (E : Env) (g : Nat) (RA : RAll E g) (w : World) (s : RS) (h : Rr E w s (60 - g)) : Calls Tryz.prog 155 #[pr E, .int .i64 8] w (RPost E (60 - g) w (rn (jF E.P (jf E.P g) 0) s) (NdQ w)) := by
 refine Br.go (m := applyB E.P (jf E.P g)) h RA ?_;intro d T W R hW B Q hlr hN;have HAPP := vg R.hd (capply_any E g RA);clear h RA;unfold pr at HAPP ⊢;go_enter Tryz.func155, Tryz.ntmps155
 obtain ⟨Q9, p9⟩ := Po9.ex Tryz.f155 E d w T (NdQ w);rw [p9.eq];go_upto_region 1 with fail
 clear hW;go_upto_region 2 with fail
 go_wp2_with (go_at_call 185; refine B.ndt Q HAPP ?_; clear B Q; intro u1 n aon capn s2 B Q; have c3 := B.cr)
 exact Br.fin (n) B p9 Q rfl rfl
theorem csigns7_any (E : Env) (g : Nat) (RA : RAll E g) (w : World) (s : RS) (h : Rr E w s (60 - g)) : Calls Tryz.prog 155 #[pr E, .int .i64 7] w (RPost E (60 - g) w (rn (jF E.P (jf E.P g) 1) s) (NdQ w)) := by
 rw [show rn (jF E.P (jf E.P g) 1) s = rn (jF E.P (jf E.P g) 0 >>= fun n => jW E.P 1 (jF E.P (jf E.P g) 0) (E.P.toks.length + 1) [] >>= fun l => (ret (jJ n l) : M Ty)) s from congrArg (fun m => rn m s) (bet_eq E.P (jf E.P g) 0 (by decide))];refine Br.go (m := jF E.P (jf E.P g) 0 >>= fun n => jW E.P 1 (jF E.P (jf E.P g) 0) (E.P.toks.length + 1) [] >>= fun l => (ret (jJ n l) : M Ty)) h RA ?_;intro d T W R hW B Q hlr hN;have HSG := vg R.hd (csigns8_any E g RA);have HST := lh (show ∀ i x j, jF E.P (jf E.P g) 0 i = .ok x j → i + 1 ≤ j from fun i x j e => vF E.P _ (kD E.P g).2 0 i x j e);clear h RA;unfold pr at HSG ⊢;go_enter Tryz.func155, Tryz.ntmps155
 obtain ⟨Q9, p9⟩ := Po9.ex Tryz.f155 E d w T (NdQ w);rw [p9.eq];go_upto_region 1 with fail
 clear hW;go_upto_region 3 with fail
 go_upto_region 4 with (go_at_call 155; refine B.nd Q HSG ?_; clear B Q; intro u1 n aon capn s2 hl B Q; have HRL := lh hl; clear hl)
 generalize hb : u1.heap.size = b4;generalize h : u1.alloc _ = V3;replace B := B.box h hb;clear h hb;have LE := lh B.F.R.le;go_upto_region 5 with (go_at_call 186; refine B.bet 7 1 (by decide) rfl ?_; clear B; intro u5 b0 t0 u0 pb0 B; have Pb0 := lh pb0; clear pb0)
 obtain ⟨f0, H⟩ := LvAt.first Q LE.out Pb0.out;go_loopw [6] (fun va wr => ∃ (a : Ty) (ao : Option Addr) (cap : Nat) (acc : List (ByteArray × Ty)) (b : Bool) (tx : ByteArray) (t : RS) (f : Nat), va = .string tx ∧ LvAt E.P 1 (jF E.P (jf E.P g) 0) T n a acc b tx t f ∧ Br E w d wr t [.kd a.args ao cap, .nv b4 (.int .i64 a.k) (.int .i64 a.n) (.string a.s) (.int .i64 a.q) (.slice ao a.args.length cap)]) (fun _ wr => jY E.P.toks.length wr E.rb)
 case atStart => exact ⟨n, aon, capn, [], b0, t0, u0, f0, rfl, H, B.mv1⟩
 case round =>
  clear B H Q HRL LE;obtain ⟨a, ao, cap, acc, b, tx, t, f, rfl, h, B⟩ := hrel;have H := lh h;clear h
  cases b with
  | false =>
   obtain rfl := H.out.em rfl;have Q := H.out.end;go_upto_region 14 with fail
   have c6 := B.mv1.S.cs B.F.rb; have c7 := B.cr;go_wp2_with fail
   exact Br.fin (a) B p9 Q.pr rfl rfl
  | true =>
   have GO := lh (H.out.go rfl);have etx := GO.out.2;have R0 := lh B.F.R;go_upto_region 9 with fail
   go_upto_region 10 with (go_at_call 155; refine B.ndx HSG ?_; clear B; intro u8 q aoq capq s9 hl B; have HRL := lh hl; clear hl)
   generalize hb : u8.heap.size = b11;generalize h : u8.alloc _ = V10;replace B := B.box h hb;clear h hb;have c12 := B.mv3.S.cs B.F.rb; have c13 := B.S.cs B.F.rb;go_upto_region 11 with (go_at_call 187; refine B.mv1.mv2.pair ?_; clear B; intro u14 q9 jn HJ B; have c15 := B.mv2.S.cs B.F.rb)
   clear c12 c13 c15;generalize h : ((((u14.setCell _ _).setCell _ _).setCell _ _).setCell _ _).setCell _ _ = X16;replace B := B.mv2.sn h;clear h;go_upto_region 13 with fail
   have LE := lh B.F.R.le;go_wp2_with (go_at_call 186; refine B.bet 7 1 (by decide) rfl ?_; clear B; intro u17 b1 t1 u1 pb1 B; have Pb1 := lh pb1; clear pb1)
   obtain ⟨f1, h1⟩ := H.out.next HRL.out HST.out (by rfl) LE.out HJ.out Pb1.out;go_roundw
   case rel => exact ⟨jn, _, _, _, b1, t1, u1, f1, rfl, h1, B.mv2.dr.mv1⟩
   case measure => exact jP R0.out B.F.R GO.out.1 Pb1.out.after (H.out.rd HRL.out HST.out).2
theorem csigns6_any (E : Env) (g : Nat) (RA : RAll E g) (w : World) (s : RS) (h : Rr E w s (60 - g)) : Calls Tryz.prog 155 #[pr E, .int .i64 6] w (RPost E (60 - g) w (rn (jF E.P (jf E.P g) 2) s) (NdQ w)) := by
 rw [show rn (jF E.P (jf E.P g) 2) s = rn (jF E.P (jf E.P g) 1 >>= fun n => jW E.P 2 (jF E.P (jf E.P g) 1) (E.P.toks.length + 1) [] >>= fun l => (ret (jJ n l) : M Ty)) s from congrArg (fun m => rn m s) (bet_eq E.P (jf E.P g) 1 (by decide))];refine Br.go (m := jF E.P (jf E.P g) 1 >>= fun n => jW E.P 2 (jF E.P (jf E.P g) 1) (E.P.toks.length + 1) [] >>= fun l => (ret (jJ n l) : M Ty)) h RA ?_;intro d T W R hW B Q hlr hN;have HSG := vg R.hd (csigns7_any E g RA);have HST := lh (show ∀ i x j, jF E.P (jf E.P g) 1 i = .ok x j → i + 1 ≤ j from fun i x j e => vF E.P _ (kD E.P g).2 1 i x j e);clear h RA;unfold pr at HSG ⊢;go_enter Tryz.func155, Tryz.ntmps155
 obtain ⟨Q9, p9⟩ := Po9.ex Tryz.f155 E d w T (NdQ w);rw [p9.eq];go_upto_region 1 with fail
 clear hW;go_upto_region 3 with fail
 go_upto_region 4 with (go_at_call 155; refine B.nd Q HSG ?_; clear B Q; intro u1 n aon capn s2 hl B Q; have HRL := lh hl; clear hl)
 generalize hb : u1.heap.size = b4;generalize h : u1.alloc _ = V3;replace B := B.box h hb;clear h hb;have LE := lh B.F.R.le;go_upto_region 5 with (go_at_call 186; refine B.bet 6 2 (by decide) rfl ?_; clear B; intro u5 b0 t0 u0 pb0 B; have Pb0 := lh pb0; clear pb0)
 obtain ⟨f0, H⟩ := LvAt.first Q LE.out Pb0.out;go_loopw [6] (fun va wr => ∃ (a : Ty) (ao : Option Addr) (cap : Nat) (acc : List (ByteArray × Ty)) (b : Bool) (tx : ByteArray) (t : RS) (f : Nat), va = .string tx ∧ LvAt E.P 2 (jF E.P (jf E.P g) 1) T n a acc b tx t f ∧ Br E w d wr t [.kd a.args ao cap, .nv b4 (.int .i64 a.k) (.int .i64 a.n) (.string a.s) (.int .i64 a.q) (.slice ao a.args.length cap)]) (fun _ wr => jY E.P.toks.length wr E.rb)
 case atStart => exact ⟨n, aon, capn, [], b0, t0, u0, f0, rfl, H, B.mv1⟩
 case round =>
  clear B H Q HRL LE;obtain ⟨a, ao, cap, acc, b, tx, t, f, rfl, h, B⟩ := hrel;have H := lh h;clear h
  cases b with
  | false =>
   obtain rfl := H.out.em rfl;have Q := H.out.end;go_upto_region 14 with fail
   have c6 := B.mv1.S.cs B.F.rb; have c7 := B.cr;go_wp2_with fail
   exact Br.fin (a) B p9 Q.pr rfl rfl
  | true =>
   have GO := lh (H.out.go rfl);have etx := GO.out.2;have R0 := lh B.F.R;go_upto_region 9 with fail
   go_upto_region 10 with (go_at_call 155; refine B.ndx HSG ?_; clear B; intro u8 q aoq capq s9 hl B; have HRL := lh hl; clear hl)
   generalize hb : u8.heap.size = b11;generalize h : u8.alloc _ = V10;replace B := B.box h hb;clear h hb;have c12 := B.mv3.S.cs B.F.rb; have c13 := B.S.cs B.F.rb;go_upto_region 11 with (go_at_call 187; refine B.mv1.mv2.pair ?_; clear B; intro u14 q9 jn HJ B; have c15 := B.mv2.S.cs B.F.rb)
   clear c12 c13 c15;generalize h : ((((u14.setCell _ _).setCell _ _).setCell _ _).setCell _ _).setCell _ _ = X16;replace B := B.mv2.sn h;clear h;go_upto_region 13 with fail
   have LE := lh B.F.R.le;go_wp2_with (go_at_call 186; refine B.bet 6 2 (by decide) rfl ?_; clear B; intro u17 b1 t1 u1 pb1 B; have Pb1 := lh pb1; clear pb1)
   obtain ⟨f1, h1⟩ := H.out.next HRL.out HST.out (by rfl) LE.out HJ.out Pb1.out;go_roundw
   case rel => exact ⟨jn, _, _, _, b1, t1, u1, f1, rfl, h1, B.mv2.dr.mv1⟩
   case measure => exact jP R0.out B.F.R GO.out.1 Pb1.out.after (H.out.rd HRL.out HST.out).2
theorem csigns5_step (E : Env) (g : Nat) (RA : RAll E g) (w : World) (s : RS) (m : Nat) (hm : s.k = 0 → E.P.toks.length < s.i + m) (IH : ∀ m', m = m' + 1 → ∀ w1 s1, Rr E w1 s1 (60 - g) → (s1.k = 0 → E.P.toks.length < s1.i + m') → Calls Tryz.prog 155 #[pr E, .int .i64 5] w1 (RPost E (60 - g) w1 (rn (jF E.P (jf E.P g) 3) s1) (NdQ w1))) (h : Rr E w s (60 - g)) : Calls Tryz.prog 155 #[pr E, .int .i64 5] w (RPost E (60 - g) w (rn (jF E.P (jf E.P g) 3) s) (NdQ w)) := by
 rw [show rn (jF E.P (jf E.P g) 3) s = rn (jF E.P (jf E.P g) 2 >>= fun n => jW E.P 3 (jF E.P (jf E.P g) 2) (E.P.toks.length + 1) [] >>= fun l => (ret (vn n l) : M Ty)) s from congrArg (fun m => rn m s) (bet3_eq E.P (jf E.P g))];refine Br.go (m := jF E.P (jf E.P g) 2 >>= fun n => jW E.P 3 (jF E.P (jf E.P g) 2) (E.P.toks.length + 1) [] >>= fun l => (ret (vn n l) : M Ty)) h RA ?_;intro d T W R hW B Q hlr hN;have HSG := vg R.hd (csigns6_any E g RA);have HST := lh (show ∀ i x j, jF E.P (jf E.P g) 2 i = .ok x j → i + 1 ≤ j from fun i x j e => vF E.P _ (kD E.P g).2 2 i x j e);have HM := lh hm;have HIH := lh IH;have HLE := lh h.le;rw [← R.hd] at HIH;clear h RA IH hm;unfold pr at HSG HIH ⊢;go_enter Tryz.func155, Tryz.ntmps155
 obtain ⟨Q9, p9⟩ := Po9.ex Tryz.f155 E d w T (NdQ w);rw [p9.eq];go_upto_region 1 with fail
 clear hW;go_upto_region 3 with fail
 go_upto_region 4 with (go_at_call 155; refine B.nd Q HSG ?_; clear B Q; intro u1 n aon capn s2 hl B Q; have HRL := lh hl; clear hl)
 generalize hb : u1.heap.size = b4;generalize h : u1.alloc _ = V3;replace B := B.box h hb;clear h hb;have LE := lh B.F.R.le;go_upto_region 5 with (go_at_call 186; refine B.bet 5 3 (by decide) rfl ?_; clear B; intro u5 b0 t0 u0 pb0 B; have Pb0 := lh pb0; clear pb0)
 have H := LvR.first HST.out Q Pb0.out HRL.out HM.out HLE.out;go_loopw [6] (fun va wr => ∃ (b : Bool) (tx : ByteArray) (t : RS), va = .string tx ∧ LvR E.P (jf E.P g) T n b tx t m ∧ Br E w d wr t [.kd n.args aon capn, .nv b4 (.int .i64 n.k) (.int .i64 n.n) (.string n.s) (.int .i64 n.q) (.slice aon n.args.length capn)]) (fun _ wr => jY E.P.toks.length wr E.rb)
 case atStart => exact ⟨b0, t0, u0, rfl, H, B.mv1⟩
 case round =>
  clear B H Q HRL LE;obtain ⟨b, tx, t, rfl, h, B⟩ := hrel;have H := lh h;clear h
  cases b with
  | false =>
   obtain rfl := H.out.em rfl;have Q : Qr T (pure n : M Ty) t := ⟨H.out.eq.trans (if_neg Bool.false_ne_true)⟩;go_upto_region 14 with fail
   have c6 := B.mv1.S.cs B.F.rb; have c7 := B.cr;go_wp2_with fail
   exact Br.fin (n) B p9 Q.pr rfl rfl
  | true =>
   have GO := lh (H.out.go rfl);have etx := GO.out.2;have R0 := lh B.F.R;obtain ⟨m', h1, h2⟩ := H.out.fw rfl;have HPR := lh (fun w1 h3 => HIH.out m' h1 w1 t h3 (fun _ => h2));clear h1 h2;have Q : Qr T (jF E.P (jf E.P g) 3 >>= fun z => (ret (kG tx n z) : M Ty)) t := ⟨H.out.eq.trans (if_pos rfl)⟩;go_upto_region 7 with fail
   go_upto_region 8 with (go_at_call 155; refine B.ndc (HPR.out _ B.F.R) ?_; clear B; intro u8 q aoq capq s9 hl B; replace Q := Q.rd hl; clear hl)
   generalize hb : u8.heap.size = b11;generalize h : u8.alloc _ = V10;replace B := B.box h hb;clear h hb;have c12 := B.mv3.S.cs B.F.rb; have c13 := B.S.cs B.F.rb;go_wp2_with (go_at_call 187; refine B.mv1.mv2.pair ?_; clear B; intro u14 q9 jn HJ B; have c15 := B.cr)
   exact Br.fin (jn) B p9 (by rw [HJ.out]; exact Q.pr) rfl rfl
theorem csigns5_f (E : Env) (g : Nat) (RA : RAll E g) : ∀ (f : Nat) (w : World) (s : RS), Rr E w s (60 - g) → (s.k = 0 → E.P.toks.length < s.i + f) → Calls Tryz.prog 155 #[pr E, .int .i64 5] w (RPost E (60 - g) w (rn (jF E.P (jf E.P g) 3) s) (NdQ w))
 | 0, w, s, h, hf => csigns5_step E g RA w s 0 hf (fun f' e => by omega) h
 | f + 1, w, s, h, hf => csigns5_step E g RA w s (f + 1) hf (fun f' e w1 s1 h1 h2 => by
  obtain rfl : f = f' := by omega
  exact csigns5_f E g RA f w1 s1 h1 h2) h
theorem csigns5_any (E : Env) (g : Nat) (RA : RAll E g) (w : World) (s : RS) (h : Rr E w s (60 - g)) : Calls Tryz.prog 155 #[pr E, .int .i64 5] w (RPost E (60 - g) w (rn (jF E.P (jf E.P g) 3) s) (NdQ w)) := csigns5_f E g RA (E.P.toks.length + 1) w s h (fun _ => by omega)
theorem csigns4_any (E : Env) (g : Nat) (RA : RAll E g) (w : World) (s : RS) (h : Rr E w s (60 - g)) : Calls Tryz.prog 155 #[pr E, .int .i64 4] w (RPost E (60 - g) w (rn (jF E.P (jf E.P g) 4) s) (NdQ w)) := by
 rw [show rn (jF E.P (jf E.P g) 4) s = rn (jF E.P (jf E.P g) 3 >>= fun n => jW E.P 4 (jF E.P (jf E.P g) 3) (E.P.toks.length + 1) [] >>= fun l => (ret (jJ n l) : M Ty)) s from congrArg (fun m => rn m s) (bet_eq E.P (jf E.P g) 3 (by decide))];refine Br.go (m := jF E.P (jf E.P g) 3 >>= fun n => jW E.P 4 (jF E.P (jf E.P g) 3) (E.P.toks.length + 1) [] >>= fun l => (ret (jJ n l) : M Ty)) h RA ?_;intro d T W R hW B Q hlr hN;have HSG := vg R.hd (csigns5_any E g RA);have HST := lh (show ∀ i x j, jF E.P (jf E.P g) 3 i = .ok x j → i + 1 ≤ j from fun i x j e => vF E.P _ (kD E.P g).2 3 i x j e);clear h RA;unfold pr at HSG ⊢;go_enter Tryz.func155, Tryz.ntmps155
 obtain ⟨Q9, p9⟩ := Po9.ex Tryz.f155 E d w T (NdQ w);rw [p9.eq];go_upto_region 1 with fail
 clear hW;go_upto_region 3 with fail
 go_upto_region 4 with (go_at_call 155; refine B.nd Q HSG ?_; clear B Q; intro u1 n aon capn s2 hl B Q; have HRL := lh hl; clear hl)
 generalize hb : u1.heap.size = b4;generalize h : u1.alloc _ = V3;replace B := B.box h hb;clear h hb;have LE := lh B.F.R.le;go_upto_region 5 with (go_at_call 186; refine B.bet 4 4 (by decide) rfl ?_; clear B; intro u5 b0 t0 u0 pb0 B; have Pb0 := lh pb0; clear pb0)
 obtain ⟨f0, H⟩ := LvAt.first Q LE.out Pb0.out;go_loopw [6] (fun va wr => ∃ (a : Ty) (ao : Option Addr) (cap : Nat) (acc : List (ByteArray × Ty)) (b : Bool) (tx : ByteArray) (t : RS) (f : Nat), va = .string tx ∧ LvAt E.P 4 (jF E.P (jf E.P g) 3) T n a acc b tx t f ∧ Br E w d wr t [.kd a.args ao cap, .nv b4 (.int .i64 a.k) (.int .i64 a.n) (.string a.s) (.int .i64 a.q) (.slice ao a.args.length cap)] ∧ acc = []) (fun _ wr => jY E.P.toks.length wr E.rb)
 case atStart => exact ⟨n, aon, capn, [], b0, t0, u0, f0, rfl, H, B.mv1, rfl⟩
 case round =>
  clear B H Q HRL LE;obtain ⟨a, ao, cap, acc, b, tx, t, f, rfl, h, B, rfl⟩ := hrel;have H := lh h;clear h
  cases b with
  | false =>
   obtain rfl := H.out.em rfl;have Q := H.out.end;go_upto_region 14 with fail
   have c6 := B.mv1.S.cs B.F.rb; have c7 := B.cr;go_wp2_with fail
   exact Br.fin (a) B p9 Q.pr rfl rfl
  | true =>
   have GO := lh (H.out.go rfl);have etx := GO.out.2;have R0 := lh B.F.R;go_upto_region 9 with fail
   go_upto_region 10 with (go_at_call 155; refine B.ndx HSG ?_; clear B; intro u8 q aoq capq s9 hl B; have HRL := lh hl; clear hl)
   generalize hb : u8.heap.size = b11;generalize h : u8.alloc _ = V10;replace B := B.box h hb;clear h hb;have c12 := B.mv3.S.cs B.F.rb; have c13 := B.S.cs B.F.rb;go_upto_region 11 with (go_at_call 187; refine B.mv1.mv2.pair ?_; clear B; intro u14 q9 jn HJ B; have c15 := B.mv2.S.cs B.F.rb)
   clear c12 c13 c15;generalize h : ((((u14.setCell _ _).setCell _ _).setCell _ _).setCell _ _).setCell _ _ = X16;replace B := B.mv2.sn h;clear h;have Q := H.out.stop HRL.out HST.out (by rfl) HJ.out;go_upto_region 12 with fail
   have c17 := B.S.cs B.F.rb; have c18 := B.cr;go_wp2_with fail
   exact Br.fin (jn) B.mv1 p9 Q.pr rfl rfl
theorem csigns3_any (E : Env) (g : Nat) (RA : RAll E g) (w : World) (s : RS) (h : Rr E w s (60 - g)) : Calls Tryz.prog 155 #[pr E, .int .i64 3] w (RPost E (60 - g) w (rn (jF E.P (jf E.P g) 5) s) (NdQ w)) := by
 rw [show rn (jF E.P (jf E.P g) 5) s = rn (jF E.P (jf E.P g) 4 >>= fun n => jW E.P 5 (jF E.P (jf E.P g) 4) (E.P.toks.length + 1) [] >>= fun l => (ret (jJ n l) : M Ty)) s from congrArg (fun m => rn m s) (bet_eq E.P (jf E.P g) 4 (by decide))];refine Br.go (m := jF E.P (jf E.P g) 4 >>= fun n => jW E.P 5 (jF E.P (jf E.P g) 4) (E.P.toks.length + 1) [] >>= fun l => (ret (jJ n l) : M Ty)) h RA ?_;intro d T W R hW B Q hlr hN;have HSG := vg R.hd (csigns4_any E g RA);have HST := lh (show ∀ i x j, jF E.P (jf E.P g) 4 i = .ok x j → i + 1 ≤ j from fun i x j e => vF E.P _ (kD E.P g).2 4 i x j e);clear h RA;unfold pr at HSG ⊢;go_enter Tryz.func155, Tryz.ntmps155
 obtain ⟨Q9, p9⟩ := Po9.ex Tryz.f155 E d w T (NdQ w);rw [p9.eq];go_upto_region 1 with fail
 clear hW;go_upto_region 3 with fail
 go_upto_region 4 with (go_at_call 155; refine B.nd Q HSG ?_; clear B Q; intro u1 n aon capn s2 hl B Q; have HRL := lh hl; clear hl)
 generalize hb : u1.heap.size = b4;generalize h : u1.alloc _ = V3;replace B := B.box h hb;clear h hb;have LE := lh B.F.R.le;go_upto_region 5 with (go_at_call 186; refine B.bet 3 5 (by decide) rfl ?_; clear B; intro u5 b0 t0 u0 pb0 B; have Pb0 := lh pb0; clear pb0)
 obtain ⟨f0, H⟩ := LvAt.first Q LE.out Pb0.out;go_loopw [6] (fun va wr => ∃ (a : Ty) (ao : Option Addr) (cap : Nat) (acc : List (ByteArray × Ty)) (b : Bool) (tx : ByteArray) (t : RS) (f : Nat), va = .string tx ∧ LvAt E.P 5 (jF E.P (jf E.P g) 4) T n a acc b tx t f ∧ Br E w d wr t [.kd a.args ao cap, .nv b4 (.int .i64 a.k) (.int .i64 a.n) (.string a.s) (.int .i64 a.q) (.slice ao a.args.length cap)]) (fun _ wr => jY E.P.toks.length wr E.rb)
 case atStart => exact ⟨n, aon, capn, [], b0, t0, u0, f0, rfl, H, B.mv1⟩
 case round =>
  clear B H Q HRL LE;obtain ⟨a, ao, cap, acc, b, tx, t, f, rfl, h, B⟩ := hrel;have H := lh h;clear h
  cases b with
  | false =>
   obtain rfl := H.out.em rfl;have Q := H.out.end;go_upto_region 14 with fail
   have c6 := B.mv1.S.cs B.F.rb; have c7 := B.cr;go_wp2_with fail
   exact Br.fin (a) B p9 Q.pr rfl rfl
  | true =>
   have GO := lh (H.out.go rfl);have etx := GO.out.2;have R0 := lh B.F.R;go_upto_region 9 with fail
   go_upto_region 10 with (go_at_call 155; refine B.ndx HSG ?_; clear B; intro u8 q aoq capq s9 hl B; have HRL := lh hl; clear hl)
   generalize hb : u8.heap.size = b11;generalize h : u8.alloc _ = V10;replace B := B.box h hb;clear h hb;have c12 := B.mv3.S.cs B.F.rb; have c13 := B.S.cs B.F.rb;go_upto_region 11 with (go_at_call 187; refine B.mv1.mv2.pair ?_; clear B; intro u14 q9 jn HJ B; have c15 := B.mv2.S.cs B.F.rb)
   clear c12 c13 c15;generalize h : ((((u14.setCell _ _).setCell _ _).setCell _ _).setCell _ _).setCell _ _ = X16;replace B := B.mv2.sn h;clear h;go_upto_region 13 with fail
   have LE := lh B.F.R.le;go_wp2_with (go_at_call 186; refine B.bet 3 5 (by decide) rfl ?_; clear B; intro u17 b1 t1 u1 pb1 B; have Pb1 := lh pb1; clear pb1)
   obtain ⟨f1, h1⟩ := H.out.next HRL.out HST.out (by rfl) LE.out HJ.out Pb1.out;go_roundw
   case rel => exact ⟨jn, _, _, _, b1, t1, u1, f1, rfl, h1, B.mv2.dr.mv1⟩
   case measure => exact jP R0.out B.F.R GO.out.1 Pb1.out.after (H.out.rd HRL.out HST.out).2
theorem csigns2_any (E : Env) (g : Nat) (RA : RAll E g) (w : World) (s : RS) (h : Rr E w s (60 - g)) : Calls Tryz.prog 155 #[pr E, .int .i64 2] w (RPost E (60 - g) w (rn (jF E.P (jf E.P g) 6) s) (NdQ w)) := by
 rw [show rn (jF E.P (jf E.P g) 6) s = rn (jF E.P (jf E.P g) 5 >>= fun n => jW E.P 6 (jF E.P (jf E.P g) 5) (E.P.toks.length + 1) [] >>= fun l => (ret (jJ n l) : M Ty)) s from congrArg (fun m => rn m s) (bet_eq E.P (jf E.P g) 5 (by decide))];refine Br.go (m := jF E.P (jf E.P g) 5 >>= fun n => jW E.P 6 (jF E.P (jf E.P g) 5) (E.P.toks.length + 1) [] >>= fun l => (ret (jJ n l) : M Ty)) h RA ?_;intro d T W R hW B Q hlr hN;have HSG := vg R.hd (csigns3_any E g RA);have HST := lh (show ∀ i x j, jF E.P (jf E.P g) 5 i = .ok x j → i + 1 ≤ j from fun i x j e => vF E.P _ (kD E.P g).2 5 i x j e);clear h RA;unfold pr at HSG ⊢;go_enter Tryz.func155, Tryz.ntmps155
 obtain ⟨Q9, p9⟩ := Po9.ex Tryz.f155 E d w T (NdQ w);rw [p9.eq];go_upto_region 1 with fail
 clear hW;go_upto_region 3 with fail
 go_upto_region 4 with (go_at_call 155; refine B.nd Q HSG ?_; clear B Q; intro u1 n aon capn s2 hl B Q; have HRL := lh hl; clear hl)
 generalize hb : u1.heap.size = b4;generalize h : u1.alloc _ = V3;replace B := B.box h hb;clear h hb;have LE := lh B.F.R.le;go_upto_region 5 with (go_at_call 186; refine B.bet 2 6 (by decide) rfl ?_; clear B; intro u5 b0 t0 u0 pb0 B; have Pb0 := lh pb0; clear pb0)
 obtain ⟨f0, H⟩ := LvAt.first Q LE.out Pb0.out;go_loopw [6] (fun va wr => ∃ (a : Ty) (ao : Option Addr) (cap : Nat) (acc : List (ByteArray × Ty)) (b : Bool) (tx : ByteArray) (t : RS) (f : Nat), va = .string tx ∧ LvAt E.P 6 (jF E.P (jf E.P g) 5) T n a acc b tx t f ∧ Br E w d wr t [.kd a.args ao cap, .nv b4 (.int .i64 a.k) (.int .i64 a.n) (.string a.s) (.int .i64 a.q) (.slice ao a.args.length cap)]) (fun _ wr => jY E.P.toks.length wr E.rb)
 case atStart => exact ⟨n, aon, capn, [], b0, t0, u0, f0, rfl, H, B.mv1⟩
 case round =>
  clear B H Q HRL LE;obtain ⟨a, ao, cap, acc, b, tx, t, f, rfl, h, B⟩ := hrel;have H := lh h;clear h
  cases b with
  | false =>
   obtain rfl := H.out.em rfl;have Q := H.out.end;go_upto_region 14 with fail
   have c6 := B.mv1.S.cs B.F.rb; have c7 := B.cr;go_wp2_with fail
   exact Br.fin (a) B p9 Q.pr rfl rfl
  | true =>
   have GO := lh (H.out.go rfl);have etx := GO.out.2;have R0 := lh B.F.R;go_upto_region 9 with fail
   go_upto_region 10 with (go_at_call 155; refine B.ndx HSG ?_; clear B; intro u8 q aoq capq s9 hl B; have HRL := lh hl; clear hl)
   generalize hb : u8.heap.size = b11;generalize h : u8.alloc _ = V10;replace B := B.box h hb;clear h hb;have c12 := B.mv3.S.cs B.F.rb; have c13 := B.S.cs B.F.rb;go_upto_region 11 with (go_at_call 187; refine B.mv1.mv2.pair ?_; clear B; intro u14 q9 jn HJ B; have c15 := B.mv2.S.cs B.F.rb)
   clear c12 c13 c15;generalize h : ((((u14.setCell _ _).setCell _ _).setCell _ _).setCell _ _).setCell _ _ = X16;replace B := B.mv2.sn h;clear h;go_upto_region 13 with fail
   have LE := lh B.F.R.le;go_wp2_with (go_at_call 186; refine B.bet 2 6 (by decide) rfl ?_; clear B; intro u17 b1 t1 u1 pb1 B; have Pb1 := lh pb1; clear pb1)
   obtain ⟨f1, h1⟩ := H.out.next HRL.out HST.out (by rfl) LE.out HJ.out Pb1.out;go_roundw
   case rel => exact ⟨jn, _, _, _, b1, t1, u1, f1, rfl, h1, B.mv2.dr.mv1⟩
   case measure => exact jP R0.out B.F.R GO.out.1 Pb1.out.after (H.out.rd HRL.out HST.out).2
theorem csigns1_any (E : Env) (g : Nat) (RA : RAll E g) (w : World) (s : RS) (h : Rr E w s (60 - g)) : Calls Tryz.prog 155 #[pr E, .int .i64 1] w (RPost E (60 - g) w (rn (jF E.P (jf E.P g) 7) s) (NdQ w)) := by
 rw [show rn (jF E.P (jf E.P g) 7) s = rn (jF E.P (jf E.P g) 6 >>= fun n => jW E.P 7 (jF E.P (jf E.P g) 6) (E.P.toks.length + 1) [] >>= fun l => (ret (jJ n l) : M Ty)) s from congrArg (fun m => rn m s) (bet_eq E.P (jf E.P g) 6 (by decide))];refine Br.go (m := jF E.P (jf E.P g) 6 >>= fun n => jW E.P 7 (jF E.P (jf E.P g) 6) (E.P.toks.length + 1) [] >>= fun l => (ret (jJ n l) : M Ty)) h RA ?_;intro d T W R hW B Q hlr hN;have HSG := vg R.hd (csigns2_any E g RA);have HST := lh (show ∀ i x j, jF E.P (jf E.P g) 6 i = .ok x j → i + 1 ≤ j from fun i x j e => vF E.P _ (kD E.P g).2 6 i x j e);clear h RA;unfold pr at HSG ⊢;go_enter Tryz.func155, Tryz.ntmps155
 obtain ⟨Q9, p9⟩ := Po9.ex Tryz.f155 E d w T (NdQ w);rw [p9.eq];go_upto_region 1 with fail
 clear hW;go_upto_region 3 with fail
 go_upto_region 4 with (go_at_call 155; refine B.nd Q HSG ?_; clear B Q; intro u1 n aon capn s2 hl B Q; have HRL := lh hl; clear hl)
 generalize hb : u1.heap.size = b4;generalize h : u1.alloc _ = V3;replace B := B.box h hb;clear h hb;have LE := lh B.F.R.le;go_upto_region 5 with (go_at_call 186; refine B.bet 1 7 (by decide) rfl ?_; clear B; intro u5 b0 t0 u0 pb0 B; have Pb0 := lh pb0; clear pb0)
 obtain ⟨f0, H⟩ := LvAt.first Q LE.out Pb0.out;go_loopw [6] (fun va wr => ∃ (a : Ty) (ao : Option Addr) (cap : Nat) (acc : List (ByteArray × Ty)) (b : Bool) (tx : ByteArray) (t : RS) (f : Nat), va = .string tx ∧ LvAt E.P 7 (jF E.P (jf E.P g) 6) T n a acc b tx t f ∧ Br E w d wr t [.kd a.args ao cap, .nv b4 (.int .i64 a.k) (.int .i64 a.n) (.string a.s) (.int .i64 a.q) (.slice ao a.args.length cap)] ∧ acc = []) (fun _ wr => jY E.P.toks.length wr E.rb)
 case atStart => exact ⟨n, aon, capn, [], b0, t0, u0, f0, rfl, H, B.mv1, rfl⟩
 case round =>
  clear B H Q HRL LE;obtain ⟨a, ao, cap, acc, b, tx, t, f, rfl, h, B, rfl⟩ := hrel;have H := lh h;clear h
  cases b with
  | false =>
   obtain rfl := H.out.em rfl;have Q := H.out.end;go_upto_region 14 with fail
   have c6 := B.mv1.S.cs B.F.rb; have c7 := B.cr;go_wp2_with fail
   exact Br.fin (a) B p9 Q.pr rfl rfl
  | true =>
   have GO := lh (H.out.go rfl);have etx := GO.out.2;have R0 := lh B.F.R;go_upto_region 9 with fail
   go_upto_region 10 with (go_at_call 155; refine B.ndx HSG ?_; clear B; intro u8 q aoq capq s9 hl B; have HRL := lh hl; clear hl)
   generalize hb : u8.heap.size = b11;generalize h : u8.alloc _ = V10;replace B := B.box h hb;clear h hb;have c12 := B.mv3.S.cs B.F.rb; have c13 := B.S.cs B.F.rb;go_upto_region 11 with (go_at_call 187; refine B.mv1.mv2.pair ?_; clear B; intro u14 q9 jn HJ B; have c15 := B.mv2.S.cs B.F.rb)
   clear c12 c13 c15;generalize h : ((((u14.setCell _ _).setCell _ _).setCell _ _).setCell _ _).setCell _ _ = X16;replace B := B.mv2.sn h;clear h;have Q := H.out.stop HRL.out HST.out (by rfl) HJ.out;go_upto_region 12 with fail
   have c17 := B.S.cs B.F.rb; have c18 := B.cr;go_wp2_with fail
   exact Br.fin (jn) B.mv1 p9 Q.pr rfl rfl
theorem carrow_any : CtN 111 fun E g => arrowB E.P (jf E.P g) := by
 intro E g RA w s h;have HST : Hid (∀ i x j, kK E.P (jf E.P g) i = .ok x j → i + 1 ≤ j) := lh (fun i x j e => st_applied E.P _ (kD E.P g).2 i x j e);refine Br.go (m := jZ E.P (kK E.P (jf E.P g)) s_st >>= (fun l : List Ty => kn E.P s_to >>= fun t => if t = true then (jt E.P g .typ >>= fun r => (pure (.mk 33 (if l.length > 1 then .mk 32 (l.headD default).n ⟨#[]⟩ 0 l else l.headD default : Ty).n ⟨#[]⟩ 0 [(if l.length > 1 then .mk 32 (l.headD default).n ⟨#[]⟩ 0 l else l.headD default : Ty), r]) : M Ty)) else (pure (if l.length > 1 then .mk 32 (l.headD default).n ⟨#[]⟩ 0 l else l.headD default : Ty) : M Ty))) h RA ?_;intro d T W R hW B Q hlr hN;have HNAMED := vg R.hd (cnamed_any E g RA);clear h RA;unfold pr at HNAMED ⊢;go_enter Tryz.func111, Tryz.ntmps111
 obtain ⟨Q9, p9⟩ := Po9.ex Tryz.f111 E d w T (NdQ w);rw [p9.eq];go_upto_region 1 with fail
 clear hW;go_upto_region 2 with (go_at_call 157; refine B.ndx HNAMED ?_; clear B; intro u1 n aon capn s2 hl B; have HLn := lh hl; clear hl)
 generalize hb : u1.heap.size = b4;generalize h : u1.alloc _ = V3;replace B := B.box h hb;clear h hb;have c5 := B.S.cs B.F.rb;go_upto_region 3 with fail
 clear c5;generalize h : V3.alloc _ = V6;replace B := B.mv1.kd2.mk1 rfl h;clear h;obtain ⟨f0, H⟩ := vV Q HLn.out HST.out B.F.R.le;go_upto_region 4 with (go_at_call 153; refine B.eatg s_st ?_; clear B; intro u7 B)
 go_loopw [4, 5] (fun va vb wr => ∃ (l : List Ty) (ao : Option Addr) (cap : Nat) (b : Bool) (t : RS) (f : Nat), va = .slice ao l.length cap ∧ vb = .bool b ∧ SepAt E.P (kK E.P (jf E.P g)) s_st (fun l : List Ty => kn E.P s_to >>= fun t => if t = true then (jt E.P g .typ >>= fun r => (pure (.mk 33 (if l.length > 1 then .mk 32 (l.headD default).n ⟨#[]⟩ 0 l else l.headD default : Ty).n ⟨#[]⟩ 0 [(if l.length > 1 then .mk 32 (l.headD default).n ⟨#[]⟩ 0 l else l.headD default : Ty), r]) : M Ty)) else (pure (if l.length > 1 then .mk 32 (l.headD default).n ⟨#[]⟩ 0 l else l.headD default : Ty) : M Ty)) T l b t f ∧ Br E w d wr t [.ow (.slice ao l.length cap) l, .nv b4 (.int .i64 n.k) (.int .i64 n.n) (.string n.s) (.int .i64 n.q) (.slice aon n.args.length capn)] ∧ (l.length = 1 → Br E w d wr t [.kd n.args aon capn, .nv b4 (.int .i64 n.k) (.int .i64 n.n) (.string n.s) (.int .i64 n.q) (.slice aon n.args.length capn)]) ∧ l.headD default = n ∧ 1 ≤ l.length ∧ l.length ≤ 200000) (fun _ _ wr => jY E.P.toks.length wr E.rb)
 case atStart => exact ⟨[n], _, 1, _, _, f0, rfl, rfl, H, B.mv1.dr, fun _ => B.dr, rfl, by simp, by simp⟩
 case round =>
  clear B H Q;obtain ⟨l, ao, cap, b, t, f, rfl, rfl, H, B, hb1, hhd, hl1, hln⟩ := hrel;have B1 := lh hb1;have HHD := lh hhd;clear hb1 hhd
  cases b with
  | false =>
   obtain ⟨m, hm⟩ : ∃ m : Ty, m = (if l.length > 1 then .mk 32 (l.headD default).n ⟨#[]⟩ 0 l else l.headD default : Ty) := ⟨_, rfl⟩
   have Q : Qr T (kn E.P s_to >>= fun t => if t = true then (jt E.P g .typ >>= fun r => (pure (.mk 33 m.n ⟨#[]⟩ 0 [m, r]) : M Ty)) else (pure m : M Ty)) t := ⟨H.done.trans (by rw [hm])⟩;clear H
   by_cases hl : l.length > 1
   · have e1 : decide ((l.length : Int) > 1) = true := (by simp; omega);have e2 : (1 : Int) < (l.length : Int) := (by omega);replace hm : m = .mk 32 n.n ⟨#[]⟩ 0 l := (by rw [hm, if_pos hl, HHD.out]);have HM := lh hm;clear hl hm;go_upto_region 9 with fail
     have c8 := B.mv1.S.cs B.F.rb;go_upto_region 10 with (go_at_call 54; refine B.node ?_; clear B; intro u9 B; have c10 := B.mv1.S.cs B.F.rb)
     clear c8 c10;generalize h : ((((u9.setCell _ _).setCell _ _).setCell _ _).setCell _ _).setCell _ _ = X11;replace B := B.mv1.sn h;clear h;replace B : Br E w d X11 t [.nv b4 (.int .i64 m.k) (.int .i64 m.n) (.string m.s) (.int .i64 m.q) (.slice ao m.args.length cap), .kd m.args ao cap] := (by rw [HM.out]; exact B.mv1.ko.mv1);obtain ⟨b12, P⟩ := B.eatd (sg := s_to) Q;clear B Q
     cases b12 with
     | true =>
      go_upto_region 12 with (go_at_call 153; refine P.t ?_; clear P; intro u13 B Q _)
      go_upto_region 13 with (go_at_call 58; refine B.nd Q R.typ ?_; clear B Q; intro u14 r aor capr s15 _ B Q)
      generalize hb : u14.heap.size = b17;generalize h : u14.alloc _ = V16;replace B := B.box h hb;clear h hb;have c18 := B.mv2.S.cs B.F.rb; have c19 := B.S.cs B.F.rb;go_upto_region 14 with (go_at_call 54; generalize h : V16.alloc _ = V20; replace B := B.mv1.mv3.mk2 rfl h; clear h; refine B.node ?_; clear B; intro u21 B; have c22 := B.mv2.S.cs B.F.rb)
      clear c18 c19 c22;generalize h : ((((u21.setCell _ _).setCell _ _).setCell _ _).setCell _ _).setCell _ _ = X23;replace B := B.mv2.sn h;clear h;have c24 := B.S.cs B.F.rb; have c25 := B.cr;go_wp2_with fail
      exact Br.fin (.mk 33 m.n ⟨#[]⟩ 0 [m, r]) B.mv1.ko p9 Q.pr rfl rfl
     | false =>
      go_upto_region 14 with (go_at_call 153; refine P.f ?_; clear P; intro u26 B Q)
      have c27 := B.S.cs B.F.rb; have c28 := B.cr;go_wp2_with fail
      exact Br.fin (m) B.mv1 p9 Q.pr rfl rfl
   · have e1 : decide ((l.length : Int) > 1) = false := (by simp; omega);have e2 : ¬ ((1 : Int) < (l.length : Int)) := (by omega);replace hm : m = n := (by rw [hm, if_neg hl, HHD.out]);have B := B1.out (by omega);have HM := lh hm;clear hl B1 hm;go_upto_region 10 with fail
     replace B : Br E w d wr t [.nv b4 (.int .i64 m.k) (.int .i64 m.n) (.string m.s) (.int .i64 m.q) (.slice aon m.args.length capn), .kd m.args aon capn] := (by rw [HM.out]; exact B.mv1);obtain ⟨b29, P⟩ := B.eatd (sg := s_to) Q;clear B Q
     cases b29 with
     | true =>
      go_upto_region 12 with (go_at_call 153; refine P.t ?_; clear P; intro u30 B Q _)
      go_upto_region 13 with (go_at_call 58; refine B.nd Q R.typ ?_; clear B Q; intro u31 r aor capr s32 _ B Q)
      generalize hb : u31.heap.size = b34;generalize h : u31.alloc _ = V33;replace B := B.box h hb;clear h hb;have c35 := B.mv2.S.cs B.F.rb; have c36 := B.S.cs B.F.rb;go_upto_region 14 with (go_at_call 54; generalize h : V33.alloc _ = V37; replace B := B.mv1.mv3.mk2 rfl h; clear h; refine B.node ?_; clear B; intro u38 B; have c39 := B.mv2.S.cs B.F.rb)
      clear c35 c36 c39;generalize h : ((((u38.setCell _ _).setCell _ _).setCell _ _).setCell _ _).setCell _ _ = X40;replace B := B.mv2.sn h;clear h;have c41 := B.S.cs B.F.rb; have c42 := B.cr;go_wp2_with fail
      exact Br.fin (.mk 33 m.n ⟨#[]⟩ 0 [m, r]) B.mv1.ko p9 Q.pr rfl rfl
     | false =>
      go_upto_region 14 with (go_at_call 153; refine P.f ?_; clear P; intro u43 B Q)
      have c44 := B.S.cs B.F.rb; have c45 := B.cr;go_wp2_with fail
      exact Br.fin (m) B.mv1 p9 Q.pr rfl rfl
  | true =>
   have R0 := lh B.F.R;have HG := lh (H.le R0.out);go_upto_region 6 with (go_at_call 157; refine B.ndx HNAMED ?_; clear B; intro u46 e aoe cape s47 hl B; have HLe := lh hl; clear hl)
   generalize hb : u46.heap.size = b49;generalize h : u46.alloc _ = V48;replace B := B.box h hb;clear h hb;have c50 := B.S.cs B.F.rb;go_upto_region 7 with (at_builtin; generalize h : V48.alloc _ = V51; replace B := B.mv1.mk1 rfl h; clear h; go_must (refine B.mv2.app rfl _ _ rfl rfl rfl (by have := HG.out.2; simp; omega) ?_); clear B; intro aoL capL L u52 ELL B)
   clear c50;obtain ⟨⟨f2, H2⟩, h4⟩ := H.next HLe.out HST.out B.F.R.le;rw [← ELL.out] at H2;have R4 := lh h4;clear H h4;replace B := B.mv1.dr;go_wp2_with (go_at_call 153; refine B.eatg s_st ?_; clear B; intro u53 B)
   go_roundw
   have hL : L.length = l.length + 1 := by rw [ELL.out, List.length_append]; rfl
   case rel => exact ⟨L, _, _, _, _, f2, rfl, rfl, H2, B, fun h1 => by omega, by have h2 := HHD.out; rw [ELL.out]; cases l with | nil => cases hl1 | cons x xs => exact h2, by omega, by have := HG.out.2; omega⟩
   case measure => exact jP R0.out B.F.R HG.out.1 jQ R4.out
theorem cpat_eq (E : Env) (g : Nat) (s : RS) : rn (kr E.P (jf E.P g)) s = rn (jR E.P (jf E.P g) >>= fun n => (fun j => if E.P.K s.i = 4 ∧ qx E.P j = true then (jR E.P (jf E.P g) >>= fun p => (ret (.mk n.k n.n n.s n.q [p]) : M Ty)) j else .ok n j : M Ty)) s := by
 by_cases hs : s.k = 0
 · rw [je hs, je hs]; rfl
 · rw [jq hs, jq hs]
theorem ccpat_any : CtN 156 fun E g => kr E.P (jf E.P g) := by
 intro E g RA w s h;rw [show rn (kr E.P (jf E.P g)) s = rn (jR E.P (jf E.P g) >>= fun n => (fun j => if E.P.K s.i = 4 ∧ qx E.P j = true then (jR E.P (jf E.P g) >>= fun p => (ret (.mk n.k n.n n.s n.q [p]) : M Ty)) j else .ok n j : M Ty)) s from cpat_eq E g s];refine Br.go (m := jR E.P (jf E.P g) >>= fun n => (fun j => if E.P.K s.i = 4 ∧ qx E.P j = true then (jR E.P (jf E.P g) >>= fun p => (ret (.mk n.k n.n n.s n.q [p]) : M Ty)) j else .ok n j : M Ty)) h RA ?_;intro d T W R hW B Q hlr hN;have HAPAT := vg R.hd (capat_any E g RA);clear h RA;unfold pr at HAPAT ⊢;go_enter Tryz.func156, Tryz.ntmps156
 obtain ⟨Q9, p9⟩ := Po9.ex Tryz.f156 E d w T (NdQ w);rw [p9.eq];go_upto_region 1 with fail
 clear hW
 by_cases h4 : E.P.K s.i = 4
 · have e4 : (E.P.K s.i == 4) = true := (by simp [h4]);have H4 := lh h4;clear h4;go_upto_region 2 with (go_at_call 102; refine B.now ?_; clear B; intro u1 B; have f2 := jA E.P s.i)
   clear f2;go_upto_region 3 with (go_at_call 154; refine B.nd Q HAPAT ?_; clear B Q; intro u3 n aon capn s4 _ B Q)
   generalize hb : u3.heap.size = b6;generalize h : u3.alloc _ = V5;replace B := B.box h hb;clear h hb;go_upto_region 4 with (go_at_call 180; refine B.ask ((hbegun E d).out _ _ B.F.R) ?_; clear B; intro u7 B)
   generalize hb : (decide (s4.k = 0) && qx E.P s4.i) = b;have HBB := lh hb;clear hb
   cases b with
   | false =>
    replace Q : Qr T (pure n : M Ty) s4 := ⟨by
     rw [Q.eq]
     by_cases hs : s4.k = 0
     · rw [je hs, je hs]; exact if_neg (fun h => by have h9 := HBB.out; rw [decide_eq_true hs, h.2] at h9; cases h9)
     · rw [jq hs, jq hs]⟩
    go_upto_region 7 with fail
    have c8 := B.S.cs B.F.rb; have c9 := B.cr;go_wp2_with fail
    exact Br.fin (n) B.mv1 p9 Q.pr rfl rfl
   | true =>
    have HG : Hid (s4.k = 0 ∧ qx E.P s4.i = true) := lh (by have h9 := HBB.out; simpa using h9);replace Q : Qr T ((jR E.P (jf E.P g) >>= fun p => (ret (.mk n.k n.n n.s n.q [p]) : M Ty))) s4 := ⟨by rw [Q.eq, je HG.out.1, je HG.out.1]; exact if_pos ⟨H4.out, HG.out.2⟩⟩;go_upto_region 5 with fail
    go_upto_region 6 with (go_at_call 154; refine B.nd Q HAPAT ?_; clear B Q; intro u10 p aop capp s11 _ B Q)
    generalize hb : u10.heap.size = b13;generalize h : u10.alloc _ = V12;replace B := B.box h hb;clear h hb;have c14 := B.mv2.S.cs B.F.rb; have c15 := B.S.cs B.F.rb;go_upto_region 7 with fail
    clear c14 c15;generalize hz : V12.heap.size = z16;generalize h : V12.setCell _ _ = X17;replace B := B.mv2.s4 h;replace hz := qQ h hz;clear h;generalize h : X17.alloc _ = V18;replace B := B.mv2.mk1 hz h;clear h;clear hz;have c19 := B.mv1.S.cs B.F.rb; have c20 := B.cr;go_wp2_with fail
    exact Br.fin (.mk n.k n.n n.s n.q [p]) B.ko p9 Q.pr rfl rfl
 · have e4 : (E.P.K s.i == 4) = false := (by simp [h4]);have H4 := lh h4;clear h4;go_upto_region 2 with (go_at_call 102; refine B.now ?_; clear B; intro u21 B; have f22 := jA E.P s.i)
   clear f22;go_upto_region 3 with (go_at_call 154; refine B.nd Q HAPAT ?_; clear B Q; intro u23 n aon capn s24 _ B Q)
   generalize hb : u23.heap.size = b26;generalize h : u23.alloc _ = V25;replace B := B.box h hb;clear h hb;go_upto_region 4 with (go_at_call 180; refine B.ask ((hbegun E d).out _ _ B.F.R) ?_; clear B; intro u27 B)
   generalize hb : (decide (s24.k = 0) && qx E.P s24.i) = b;have HBB := lh hb;clear hb
   replace Q : Qr T (pure n : M Ty) s24 := ⟨by
    rw [Q.eq]
    by_cases hs : s24.k = 0
    · rw [je hs, je hs]; exact if_neg (fun h => H4.out h.1)
    · rw [jq hs, jq hs]⟩
   go_upto_region 7 with fail
   have c28 := B.S.cs B.F.rb; have c29 := B.cr;go_wp2_with fail
   exact Br.fin (n) B.mv1 p9 Q.pr rfl rfl
theorem sepL_acc (P : Src) (item : M Ty) (sg : ByteArray) (hst : ∀ i x j, item i = .ok x j → i + 1 ≤ j) : ∀ (f f2 : Nat) (acc : List Ty) (i : Nat), P.toks.length ≤ i + f → P.toks.length ≤ i + f2 → ku P item sg f acc i = (ku P item sg f2 [] >>= fun l => (ret (acc ++ l) : M _)) i
 | f, f2, acc, i, h1, h2 => by
  by_cases hc : isD P sg i = true
  · have hlt := isD_lt hc
    obtain ⟨f, rfl⟩ : ∃ f', f = f' + 1 := ⟨f - 1, by omega⟩
    obtain ⟨f2, rfl⟩ : ∃ f', f2 = f' + 1 := ⟨f2 - 1, by omega⟩
    show _ = bnd (ku P item sg (f2 + 1) []) _ i
    unfold bnd
    rw [vY, vY, if_pos hc, if_pos hc]
    cases hx : item (i + 1) with
    | bad a b => rw [ke hx, ke hx]
    | ok x j =>
     rw [kq hx, kq hx]
     have hj := hst _ _ _ hx
     rw [sepL_acc P item sg hst f P.toks.length (acc ++ [x]) j (by omega) (by omega), sepL_acc P item sg hst f2 P.toks.length ([] ++ [x]) j (by omega) (by omega)]
     have e9 : ∀ acc' : List Ty, (ku P item sg P.toks.length [] >>= fun l => (ret (acc' ++ l) : M _)) j = match ku P item sg P.toks.length [] j with | Res.bad a b => Res.bad a b | Res.ok l m => Res.ok (acc' ++ l) m := fun acc' => by
      show bnd (ku P item sg P.toks.length []) _ j = _
      unfold bnd
      cases ku P item sg P.toks.length [] j <;> rfl
     rw [e9, e9]
     cases ku P item sg P.toks.length [] j with
     | bad a b => rfl
     | ok l m =>
      show Res.ok _ m = Res.ok _ m
      simp
  · have e : ∀ f acc, ku P item sg f acc i = .ok acc i := fun f acc => by
     cases f with
     | zero => rfl
     | succ f => rw [vY, if_neg hc]
    show _ = bnd (ku P item sg f2 []) _ i
    unfold bnd
    rw [e, e]
    show Res.ok acc i = Res.ok (acc ++ []) i
    rw [List.append_nil]
termination_by f f2 acc i => P.toks.length - i
theorem consesD_cons (a : Ty) (l : List Ty) (h : l ≠ []) : qt (a :: l) = .mk 27 a.n ⟨#[]⟩ 0 [a, qt l] := by
 cases l with
 | nil => exact absurd rfl h
 | cons b r => rfl
theorem pat_eq (E : Env) (g : Nat) : vI E.P (jf E.P g) = (kr E.P (jf E.P g) >>= fun a => kn E.P s_cons >>= fun c => if c = true then (vI E.P (jf E.P g) >>= fun b => (pure (.mk 27 a.n ⟨#[]⟩ 0 [a, b]) : M Ty)) else (pure a : M Ty)) := by
 funext i
 have hst : ∀ i x j, kr E.P (jf E.P g) i = .ok x j → i + 1 ≤ j := fun i x j e => st_cpat E.P _ (kD E.P g).2 i x j e
 have e0 : ∀ i, vI E.P (jf E.P g) i = match kr E.P (jf E.P g) i with | .bad k a => .bad k a | .ok x j => (ku E.P (kr E.P (jf E.P g)) s_cons (E.P.toks.length + 1) [x] >>= fun l => (ret (qt l) : M Ty)) j := fun i => by
  show bnd (bnd (kr E.P (jf E.P g)) _) _ i = _
  unfold bnd
  cases kr E.P (jf E.P g) i <;> rfl
 rw [e0]
 cases hx : kr E.P (jf E.P g) i with
 | bad k a => rw [ke hx]
 | ok x j =>
  rw [kq hx];dsimp only
  have hj := hst _ _ _ hx
  have e1 : ∀ (f : Nat) (l : List Ty) (i : Nat), (ku E.P (kr E.P (jf E.P g)) s_cons f l >>= fun l => (ret (qt l) : M Ty)) i = match ku E.P (kr E.P (jf E.P g)) s_cons f l i with | .bad k a => .bad k a | .ok l j => .ok (qt l) j := fun f l i => by
   show bnd (ku E.P (kr E.P (jf E.P g)) s_cons f l) _ i = _
   unfold bnd
   cases ku E.P (kr E.P (jf E.P g)) s_cons f l i <;> rfl
  have e2 : ∀ (f : Nat) (l m : List Ty) (i : Nat), (ku E.P (kr E.P (jf E.P g)) s_cons f l >>= fun l => (ret (m ++ l) : M (List Ty))) i = match ku E.P (kr E.P (jf E.P g)) s_cons f l i with | .bad k a => .bad k a | .ok l j => .ok (m ++ l) j := fun f l m i => by
   show bnd (ku E.P (kr E.P (jf E.P g)) s_cons f l) _ i = _
   unfold bnd
   cases ku E.P (kr E.P (jf E.P g)) s_cons f l i <;> rfl
  rw [eat_if, e1]
  by_cases hc : isD E.P s_cons j = true
  · rw [if_pos hc, vY, if_pos hc, if_pos rfl]
    cases hy : kr E.P (jf E.P g) (j + 1) with
    | bad k a =>
     have e8 : vI E.P (jf E.P g) (j + 1) = .bad k a := (by rw [e0, hy]);rw [ke hy, ke e8]
    | ok y m =>
     have e8 : vI E.P (jf E.P g) (j + 1) = (ku E.P (kr E.P (jf E.P g)) s_cons (E.P.toks.length + 1) [y] >>= fun l => (ret (qt l) : M Ty)) m := (by rw [e0, hy]);rw [kq hy]
     show _ = bnd (vI E.P (jf E.P g)) _ (j + 1)
     unfold bnd;rw [e8];have hm := hst _ _ _ hy;rw [sepL_acc E.P _ s_cons hst E.P.toks.length E.P.toks.length ([x] ++ [y]) m (by omega) (by omega), e2, e1, sepL_acc E.P _ s_cons hst (E.P.toks.length + 1) E.P.toks.length [y] m (by omega) (by omega), e2]
     cases ku E.P (kr E.P (jf E.P g)) s_cons E.P.toks.length [] m with
     | bad k a => rfl
     | ok l q =>
      dsimp only
      have e3 : qt ([x] ++ [y] ++ l) = .mk 27 x.n ⟨#[]⟩ 0 [x, qt ([y] ++ l)] := consesD_cons x (y :: l) (by simp);rw [e3];rfl
  · rw [if_neg hc, vY, if_neg hc, if_neg Bool.false_ne_true];rfl
theorem cconses_step (E : Env) (g : Nat) (RA : RAll E g) (w : World) (s : RS) (m : Nat) (hm : s.k = 0 → E.P.toks.length < s.i + m) (IH : ∀ m', m = m' + 1 → ∀ w1 s1, Rr E w1 s1 (60 - g) → (s1.k = 0 → E.P.toks.length < s1.i + m') → Calls Tryz.prog 110 #[pr E] w1 (RPost E (60 - g) w1 (rn (vI E.P (jf E.P g)) s1) (NdQ w1))) (h : Rr E w s (60 - g)) : Calls Tryz.prog 110 #[pr E] w (RPost E (60 - g) w (rn (vI E.P (jf E.P g)) s) (NdQ w)) := by
 rw [show rn (vI E.P (jf E.P g)) s = rn ((kr E.P (jf E.P g) >>= fun a => kn E.P s_cons >>= fun c => if c = true then (vI E.P (jf E.P g) >>= fun b => (pure (.mk 27 a.n ⟨#[]⟩ 0 [a, b]) : M Ty)) else (pure a : M Ty))) s from congrArg (fun m => rn m s) (pat_eq E g)];refine Br.go (m := (kr E.P (jf E.P g) >>= fun a => kn E.P s_cons >>= fun c => if c = true then (vI E.P (jf E.P g) >>= fun b => (pure (.mk 27 a.n ⟨#[]⟩ 0 [a, b]) : M Ty)) else (pure a : M Ty))) h RA ?_;intro d T W R hW B Q hlr hN;have HCPAT := vg R.hd (ccpat_any E g RA);have HST := lh (show ∀ i x j, kr E.P (jf E.P g) i = .ok x j → i + 1 ≤ j from fun i x j e => st_cpat E.P _ (kD E.P g).2 i x j e);have HM := lh hm;have HIH := lh IH;have HLE := lh h.le;rw [← R.hd] at HIH;clear h RA IH hm;unfold pr at HCPAT HIH ⊢;go_enter Tryz.func110, Tryz.ntmps110
 obtain ⟨Q9, p9⟩ := Po9.ex Tryz.f110 E d w T (NdQ w);rw [p9.eq];go_upto_region 1 with fail
 clear hW;go_upto_region 2 with (go_at_call 156; refine B.nd Q HCPAT ?_; clear B Q; intro u1 n aon capn s2 hl B Q; have HRL := lh hl; clear hl)
 generalize hb : u1.heap.size = b4;generalize h : u1.alloc _ = V3;replace B := B.box h hb;clear h hb;obtain ⟨b5, P⟩ := B.eatd (sg := s_cons) Q;clear B Q
 cases b5 with
 | true =>
  go_upto_region 5 with (go_at_call 153; refine P.t ?_; clear P; intro u6 B Q gd)
  have HPR : Hid (∀ w1, Rr E w1 (stp s2) d → Calls Tryz.prog 110 #[.pointer (some ⟨E.rb, 0, none⟩)] w1 (RPost E d w1 (rn (vI E.P (jf E.P g)) (stp s2)) (NdQ w1))) := lh (fun w1 h1 => HIH.out (m - 1) (by have h2 := ql HRL.out gd; have := HM.out h2; have := HLE.out; omega) w1 _ h1 (fun h0 => by have h2 := ql HRL.out h0; have h3 := HM.out h2; have h4 := rl_step HST.out h2 HRL.out h0; have := HLE.out; show _ < s2.i + 1 + (m - 1); omega));clear gd;go_upto_region 6 with (go_at_call 110; refine B.ndc (HPR.out _ B.F.R) ?_; clear B; intro u7 b aob capb s8 hl B; replace Q := Q.rd hl; clear hl)
  generalize hb : u7.heap.size = b10;generalize h : u7.alloc _ = V9;replace B := B.box h hb;clear h hb;have c11 := B.mv2.S.cs B.F.rb; have c12 := B.S.cs B.F.rb;go_wp2_with (go_at_call 54; generalize h : V9.alloc _ = V13; replace B := B.mv1.mv3.mk2 rfl h; clear h; refine B.node ?_; clear B; intro u14 B; have c15 := B.cr)
  exact Br.fin (.mk 27 n.n ⟨#[]⟩ 0 [n, b]) B.ko p9 Q.pr rfl rfl
 | false =>
  go_upto_region 4 with (go_at_call 153; refine P.f ?_; clear P; intro u16 B Q)
  have c17 := B.S.cs B.F.rb; have c18 := B.cr;go_wp2_with fail
  exact Br.fin (n) B.mv1 p9 Q.pr rfl rfl
theorem cconses_f (E : Env) (g : Nat) (RA : RAll E g) : ∀ (f : Nat) (w : World) (s : RS), Rr E w s (60 - g) → (s.k = 0 → E.P.toks.length < s.i + f) → Calls Tryz.prog 110 #[pr E] w (RPost E (60 - g) w (rn (vI E.P (jf E.P g)) s) (NdQ w))
 | 0, w, s, h, hf => cconses_step E g RA w s 0 hf (fun f' e => by omega) h
 | f + 1, w, s, h, hf => cconses_step E g RA w s (f + 1) hf (fun f' e w1 s1 h1 h2 => by
  obtain rfl : f = f' := by omega
  exact cconses_f E g RA f w1 s1 h1 h2) h
theorem cconses_any : CtN 110 fun E g => vI E.P (jf E.P g) := fun E g RA w s h => cconses_f E g RA (E.P.toks.length + 1) w s h (fun _ => by omega)
theorem row_start {β : Type} {P : Src} {item : M Ty} {sg : ByteArray} {K : List Ty → M β} {T : Res β} {s : RS} (hT : T = rn (jZ P item sg >>= K) s) (hs : s.k = 0) : SepAt P item sg K T [] true s (P.toks.length + 1) :=
 ⟨by rw [if_pos rfl, hT]; exact congrArg (fun m => rn m s) (kV item _ K), fun _ => hs, fun _ => ⟨by omega, Nat.zero_le _⟩⟩
theorem one_rl {P : Src} {s s1 : RS} {x : ByteArray} (h : Rl (rn (jI P 5) s) x s1) : Rl (rn (oneB P) s) (.mk 30 (P.A s.i) x 0 []) s1 := by
 have e : rn (oneB P) s = rn (jI P 5 >>= fun x => (pure (.mk 30 (P.A s.i) x 0 []) : M Ty)) s := rfl;rw [e, vi h];exact rn_pure rfl
theorem one_st {P : Src} : ∀ i x j, oneB P i = .ok x j → i + 1 ≤ j := by
 intro i x j h;have h2 : (jI P 5 >>= fun s => (pure (.mk 30 (P.A i) s 0 []) : M Ty)) i = .ok x j := h;rw [kind_if] at h2
 by_cases hk : P.K i = 5
 · rw [if_pos hk] at h2
   cases h2
   exact Nat.le_refl _
 · rw [if_neg hk, vT] at h2
   cases h2
theorem head_eq (E : Env) (kk : Int) (aa : Nat) : qT E.P kk aa = fun i => if isD E.P s_lp i = true then (jZ E.P (oneB E.P) s_com >>= (fun l : List Ty => jm E.P s_rp >>= fun _ => (fun l : List Ty => jI E.P 3 >>= fun x => (pure (.mk kk aa x (l.length : Nat) l) : M Ty)) l)) (i + 1) else (fun i => if E.P.K i = 5 then (oneB E.P >>= fun v => (fun l : List Ty => jI E.P 3 >>= fun x => (pure (.mk kk aa x (l.length : Nat) l) : M Ty)) [v]) i else ((fun l : List Ty => jI E.P 3 >>= fun x => (pure (.mk kk aa x (l.length : Nat) l) : M Ty)) []) i : M Ty) i := by
 funext i
 unfold qT
 by_cases h5 : E.P.K i = 5
 · have h9 : ¬ isD E.P s_lp i = true := fun h => by have := (isD_at h).1; omega
   rw [if_pos h5, if_neg h9];exact (if_pos h5).symm
 · rw [if_neg h5]
   by_cases h : isD E.P s_lp i = true
   · rw [if_pos h, if_pos h]
   · rw [if_neg h, if_neg h];exact (if_neg h5).symm
def boolN : Value → Nat
 | .bool true => 1
 | _ => 0
theorem chead_any (E : Env) (g : Nat) (RA : RAll E g) (w : World) (s : RS) (kk : Int) (aa : Nat) (h : Rr E w s (60 - g)) : Calls Tryz.prog 146 #[pr E, .int .i64 kk, .int .i64 (aa : Int)] w (RPost E (60 - g) w (rn (qT E.P kk aa) s) (NdOB w)) := by
 rw [show rn (qT E.P kk aa) s = rn (fun i => if isD E.P s_lp i = true then (jZ E.P (oneB E.P) s_com >>= (fun l : List Ty => jm E.P s_rp >>= fun _ => (fun l : List Ty => jI E.P 3 >>= fun x => (pure (.mk kk aa x (l.length : Nat) l) : M Ty)) l)) (i + 1) else (fun i => if E.P.K i = 5 then (oneB E.P >>= fun v => (fun l : List Ty => jI E.P 3 >>= fun x => (pure (.mk kk aa x (l.length : Nat) l) : M Ty)) [v]) i else ((fun l : List Ty => jI E.P 3 >>= fun x => (pure (.mk kk aa x (l.length : Nat) l) : M Ty)) []) i : M Ty) i) s from by rw [head_eq]];refine Br.go (m := fun i => if isD E.P s_lp i = true then (jZ E.P (oneB E.P) s_com >>= (fun l : List Ty => jm E.P s_rp >>= fun _ => (fun l : List Ty => jI E.P 3 >>= fun x => (pure (.mk kk aa x (l.length : Nat) l) : M Ty)) l)) (i + 1) else (fun i => if E.P.K i = 5 then (oneB E.P >>= fun v => (fun l : List Ty => jI E.P 3 >>= fun x => (pure (.mk kk aa x (l.length : Nat) l) : M Ty)) [v]) i else ((fun l : List Ty => jI E.P 3 >>= fun x => (pure (.mk kk aa x (l.length : Nat) l) : M Ty)) []) i : M Ty) i) h RA ?_;intro d T W R hW B Q hlr hN;clear h RA;unfold pr;go_enter Tryz.func146, Tryz.ntmps146
 obtain ⟨Q9, p9⟩ := Po9.ex Tryz.f146 E d w T (NdOB w);rw [p9.eq];go_upto_region 1 with fail
 clear hW;go_upto_region 2 with fail
 generalize hb : W.heap.size = b2;generalize h : W.alloc _ = V1;replace B := B.box h hb;clear h hb;obtain ⟨b3, P⟩ := B.eat (sg := s_lp) Q;clear B Q
 cases b3 with
 | true =>
  go_upto_region 3 with (go_at_call 153; refine P.t ?_; clear P; intro u4 B Q G)
  go_upto_region 5 with (go_at_call 102; refine B.now ?_; clear B; intro u5 B; have f6 := jA E.P (stp s).i; have c7 := B.S.cs B.F.rb)
  clear f6 c7;have H := row_start Q.eq G;go_loopw [10] (fun va wr => ∃ (l : List Ty) (ao : Option Addr) (cap : Nat) (b : Bool) (t : RS) (f : Nat), va = .bool b ∧ (SepAt E.P (oneB E.P) s_com (fun l : List Ty => jm E.P s_rp >>= fun _ => (fun l : List Ty => jI E.P 3 >>= fun x => (pure (.mk kk aa x (l.length : Nat) l) : M Ty)) l) T l b t f) ∧ Br E w d wr t [.nv b2 (.int .i64 kk) (.int .i64 (aa : Int)) (.string ⟨#[]⟩) (.int .i64 0) (.slice ao l.length cap), .ow (.slice ao l.length cap) l] ∧ l.length ≤ 200000) (fun va wr => jY E.P.toks.length wr E.rb)
  case atStart => exact ⟨[], none, 0, _, _, _, rfl, H, B.nilo.mv1, Nat.zero_le _⟩
  case round =>
   clear B Q G;obtain ⟨l, ao, cap, b, t, f, rfl, H, B, hln⟩ := hrel;have HLN := lh hln
   cases b with
   | false =>
    have Q := H.end;go_upto_region 14 with (go_at_call 144; refine B.un Q (kg E d s_rp) ?_; clear B Q; intro u8 _ _ s9 B Q)
    have c10 := B.S.cs B.F.rb;go_upto_region 15 with fail
    clear c10;generalize h : u8.setCell _ _ = X11;replace B := B.s3 h;clear h;go_upto_region 16 with (go_at_call 150; refine B.str Q (hget3 E d) ?_; clear B Q; intro u12 x s13 B Q; have c14 := B.S.cs B.F.rb)
    clear c14;generalize h : u12.setCell _ _ = X15;replace B := B.s2 h;clear h;have c16 := B.S.cs B.F.rb; have c17 := B.cr;go_wp2_with fail
    exact Br.fino (.mk kk aa x (l.length : Nat) l) B.mv1 HLN.out p9 Q.pr rfl rfl
   | true =>
    have R0 := lh B.F.R;have HG := lh (H.le R0.out);have e1 : ((t.k : Int) == 0) = true := (by simp [HG.out.1]);have c18 := B.F.R.cells;go_upto_region 6 with fail
    clear c18;go_upto_region 7 with (go_at_call 102; refine B.now ?_; clear B; intro u19 B; have f20 := jA E.P t.i)
    clear f20;generalize hb : u19.heap.size = b22;generalize h : u19.alloc _ = V21;replace B := B.box h hb;clear h hb;go_upto_region 8 with (go_at_call 150; refine B.any ((hget5 E d).out _ _ B.F.R) ?_; clear B; intro u23 x v s24 B _ hl e; subst e; have HLx := lh hl; clear hl; have c25 := B.S.cs B.F.rb)
    clear c25;generalize h : u23.setCell _ _ = X26;replace B := B.s2 h;clear h;have c27 := B.S.cs B.F.rb; have c28 := B.mv1.S.cs B.F.rb;replace B := B.nilk;go_upto_region 9 with (at_builtin; generalize h : X26.alloc _ = V29; replace B := B.mkl rfl h; clear h; go_must (refine B.mv3.app rfl _ _ rfl rfl rfl (by have := HG.out.2; simp; omega) ?_); clear B; intro aoL capL L u30 ELL B; have c31 := B.mv2.S.cs B.F.rb)
    clear c27 c28 c31;generalize h : u30.setCell _ _ = X32;replace B := B.mv2.s4 h;clear h;replace B := B.mv2.dr;have HON := lh (one_rl HLx.out);obtain ⟨⟨f2, H2⟩, h4⟩ := H.next HON.out one_st B.F.R.le;rw [← ELL.out] at H2;have R4 := lh h4;clear H h4;go_wp2_with (go_at_call 153; refine B.eatg s_com ?_; clear B; intro u33 B)
    go_roundw
    case rel => exact ⟨L, _, _, _, _, f2, rfl, H2, B, by have := HG.out.2; rw [ELL.out, List.length_append]; simp; omega⟩
    case measure => exact jP R0.out B.F.R HG.out.1 jQ R4.out
 | false =>
  go_upto_region 3 with (go_at_call 153; refine P.f ?_; clear P; intro u34 B Q)
  go_upto_region 5 with (go_at_call 102; refine B.now ?_; clear B; intro u35 B; have f36 := jA E.P s.i; have c37 := B.S.cs B.F.rb)
  clear f36 c37;go_loopw [10] (fun va wr => ∃ (l : List Ty) (ao : Option Addr) (cap : Nat) (b : Bool) (t : RS) (f : Nat), va = .bool b ∧ ((b = true → t.k = 0 → l = [] ∧ Qr T (oneB E.P >>= fun v => (fun l : List Ty => jI E.P 3 >>= fun x => (pure (.mk kk aa x (l.length : Nat) l) : M Ty)) [v]) t) ∧ (b = true ∧ t.k = 0 ∨ Qr T ((fun l : List Ty => jI E.P 3 >>= fun x => (pure (.mk kk aa x (l.length : Nat) l) : M Ty)) l) t)) ∧ Br E w d wr t [.nv b2 (.int .i64 kk) (.int .i64 (aa : Int)) (.string ⟨#[]⟩) (.int .i64 0) (.slice ao l.length cap), .ow (.slice ao l.length cap) l] ∧ l.length ≤ 200000) (fun va wr => boolN va)
  case atStart =>
   refine ⟨[], none, 0, _, s, 0, rfl, ⟨fun hb hs => ⟨rfl, ⟨?_⟩⟩, ?_⟩, B.nilo.mv1, Nat.zero_le _⟩
   · rw [Q.eq, je hs, je hs]; exact if_pos (by simpa using hb)
   · by_cases hs : s.k = 0
     · by_cases hb : E.P.K s.i = 5
       · exact .inl ⟨by simp [hb], hs⟩
       · exact .inr ⟨by rw [Q.eq, je hs, je hs]; exact if_neg hb⟩
     · exact .inr ⟨by rw [Q.eq, jq hs, jq hs]⟩
  case round =>
   clear B Q;obtain ⟨l, ao, cap, b, t, f, rfl, H, B, hln⟩ := hrel;have HLN := lh hln
   cases b with
   | false =>
    have Q := H.2.resolve_left (fun h => Bool.false_ne_true h.1);go_upto_region 14 with fail
    have c38 := B.S.cs B.F.rb;go_upto_region 15 with fail
    clear c38;generalize h : wr.setCell _ _ = X39;replace B := B.s3 h;clear h;go_upto_region 16 with (go_at_call 150; refine B.str Q (hget3 E d) ?_; clear B Q; intro u40 x s41 B Q; have c42 := B.S.cs B.F.rb)
    clear c42;generalize h : u40.setCell _ _ = X43;replace B := B.s2 h;clear h;have c44 := B.S.cs B.F.rb; have c45 := B.cr;go_wp2_with fail
    exact Br.fino (.mk kk aa x (l.length : Nat) l) B.mv1 HLN.out p9 Q.pr rfl rfl
   | true =>
    by_cases hs : t.k = 0
    · have e1 : ((t.k : Int) == 0) = true := (by simp [hs]);have HG := lh hs;obtain ⟨hl0, Q⟩ := H.1 rfl hs;have HL0 := lh hl0;clear hs hl0 H;have c46 := B.F.R.cells;go_upto_region 6 with fail
      clear c46;go_upto_region 7 with (go_at_call 102; refine B.now ?_; clear B; intro u47 B; have f48 := jA E.P t.i)
      clear f48;generalize hb : u47.heap.size = b50;generalize h : u47.alloc _ = V49;replace B := B.box h hb;clear h hb;go_upto_region 8 with (go_at_call 150; refine B.any ((hget5 E d).out _ _ B.F.R) ?_; clear B; intro u51 x v s52 B _ hl e; subst e; have HLx := lh hl; clear hl; have c53 := B.S.cs B.F.rb)
      clear c53;generalize h : u51.setCell _ _ = X54;replace B := B.s2 h;clear h;have c55 := B.S.cs B.F.rb; have c56 := B.mv1.S.cs B.F.rb;replace B := B.nilk;go_upto_region 9 with (at_builtin; generalize h : X54.alloc _ = V57; replace B := B.mkl rfl h; clear h; go_must (refine B.mv3.app rfl _ _ rfl rfl rfl (by rw [HL0.out]; simp) ?_); clear B; intro aoL capL L u58 ELL B; have c59 := B.mv2.S.cs B.F.rb)
      clear c55 c56 c59;generalize h : u58.setCell _ _ = X60;replace B := B.mv2.s4 h;clear h;replace B := B.mv2.dr;have HON := lh (one_rl HLx.out);have Q2 : Qr T ((fun l : List Ty => jI E.P 3 >>= fun x => (pure (.mk kk aa x (l.length : Nat) l) : M Ty)) L) s52 := (by rw [ELL.out, HL0.out]; exact Q.rd HON.out);go_wp2_with fail
      go_roundw
      case rel => exact ⟨L, _, _, false, _, 0, rfl, ⟨fun h => absurd h Bool.false_ne_true, .inr Q2⟩, B, by rw [ELL.out, HL0.out]; simp⟩
      case measure => exact Nat.zero_lt_one
    · have e1 : ((t.k : Int) == 0) = false := (by simp [hs]);have Q := H.2.resolve_left (fun h => hs h.2);clear hs H;have c61 := B.F.R.cells;go_upto_region 14 with fail
      have c62 := B.S.cs B.F.rb;go_upto_region 15 with fail
      clear c61 c62;generalize h : wr.setCell _ _ = X63;replace B := B.s3 h;clear h;go_upto_region 16 with (go_at_call 150; refine B.str Q (hget3 E d) ?_; clear B Q; intro u64 x s65 B Q; have c66 := B.S.cs B.F.rb)
      clear c66;generalize h : u64.setCell _ _ = X67;replace B := B.s2 h;clear h;have c68 := B.S.cs B.F.rb; have c69 := B.cr;go_wp2_with fail
      exact Br.fino (.mk kk aa x (l.length : Nat) l) B.mv1 HLN.out p9 Q.pr rfl rfl
theorem ccon_any : CtN 148 fun E g => conB E.P (jf E.P g) := by
 intro E g RA w s h;refine Br.go (m := jI E.P 4 >>= fun x => kn E.P w_of >>= fun o => if o = true then (jt E.P g .typ >>= fun t => (pure (.mk 40 (E.P.A s.i) x 0 [t]) : M Ty)) else (pure (.mk 40 (E.P.A s.i) x 0 []) : M Ty)) h RA ?_;intro d T W R hW B Q hlr hN;clear h RA;unfold pr;go_enter Tryz.func148, Tryz.ntmps148
 obtain ⟨Q9, p9⟩ := Po9.ex Tryz.f148 E d w T (NdQ w);rw [p9.eq];go_upto_region 1 with fail
 clear hW;go_upto_region 2 with (go_at_call 102; refine B.now ?_; clear B; intro u1 B; have f2 := jA E.P s.i)
 clear f2;generalize hb : u1.heap.size = b4;generalize h : u1.alloc _ = V3;replace B := B.box h hb;clear h hb;go_upto_region 3 with (go_at_call 150; refine B.str Q (hget4 E d) ?_; clear B Q; intro u5 x s6 B Q; have c7 := B.S.cs B.F.rb)
 clear c7;generalize h : u5.setCell _ _ = X8;replace B := B.s2 h;clear h;obtain ⟨b9, P⟩ := B.eatd (sg := w_of) Q;clear B Q
 cases b9 with
 | true =>
  go_upto_region 5 with (go_at_call 153; refine P.t ?_; clear P; intro u10 B Q _)
  go_upto_region 6 with (go_at_call 58; refine B.nd Q R.typ ?_; clear B Q; intro u11 t aot capt s12 _ B Q)
  generalize hb : u11.heap.size = b14;generalize h : u11.alloc _ = V13;replace B := B.box h hb;clear h hb;have c15 := B.mv2.S.cs B.F.rb; have c16 := B.S.cs B.F.rb;go_upto_region 7 with fail
  clear c15 c16;generalize hz : V13.heap.size = z17;generalize h : V13.setCell _ _ = X18;replace B := B.mv2.s4 h;replace hz := qQ h hz;clear h;generalize h : X18.alloc _ = V19;replace B := B.mv2.mk1 hz h;clear h;clear hz;have c20 := B.mv1.S.cs B.F.rb; have c21 := B.cr;go_wp2_with fail
  exact Br.fin (.mk 40 (E.P.A s.i) x 0 [t]) B.ko p9 Q.pr rfl rfl
 | false =>
  go_upto_region 7 with (go_at_call 153; refine P.f ?_; clear P; intro u22 B Q)
  have c23 := B.S.cs B.F.rb; have c24 := B.cr;go_wp2_with fail
  exact Br.fin (.mk 40 (E.P.A s.i) x 0 []) B.nilk p9 Q.pr rfl rfl
theorem cdata_any (E : Env) (g : Nat) (RA : RAll E g) (w : World) (s : RS) (aa : Nat) (h : Rr E w s (60 - g)) : Calls Tryz.prog 147 #[pr E, .int .i64 (aa : Int)] w (RPost E (60 - g) w (rn (yj E.P (jf E.P g) aa) s) (NdQ w)) := by
 refine Br.go (m := jZ E.P (vr E.P (jf E.P g)) w_and >>= (fun l : List Ty => (pure (.mk 38 aa ⟨#[]⟩ 0 l) : M Ty))) h RA ?_;intro d T W R hW B Q hlr hN;have HHEAD := lh (fun kk aa w s h => chead_any E g RA w s kk aa h);have HCON := vg R.hd (ccon_any E g RA);have HST := lh (show ∀ i x j, vr E.P (jf E.P g) i = .ok x j → i + 1 ≤ j from fun i x j e => st_dbind E.P _ (kD E.P g).2 i x j e);have HSC := lh (show ∀ i x j, conB E.P (jf E.P g) i = .ok x j → i + 1 ≤ j from fun i x j e => st_con E.P _ (kD E.P g).2 i x j e);rw [← R.hd] at HHEAD;clear h RA;unfold pr at HHEAD HCON ⊢;go_enter Tryz.func147, Tryz.ntmps147
 obtain ⟨Q9, p9⟩ := Po9.ex Tryz.f147 E d w T (NdQ w);rw [p9.eq];go_upto_region 1 with fail
 clear hW;go_upto_region 2 with fail
 generalize hb : W.heap.size = b2;generalize h : W.alloc _ = V1;replace B := B.box h hb;clear h hb;have H := sepw_start Q.eq;go_upto_region 3 with fail
 go_loopw [6] (fun va wr => ∃ (l : List Ty) (ao : Option Addr) (cap : Nat) (b : Bool) (t : RS) (f : Nat), va = .bool b ∧ SepW E.P (vr E.P (jf E.P g)) w_and (fun l : List Ty => (pure (.mk 38 aa ⟨#[]⟩ 0 l) : M Ty)) T l b t f ∧ Br E w d wr t [.nv b2 (.int .i64 38) (.int .i64 (aa : Int)) (.string ⟨#[]⟩) (.int .i64 0) (.slice ao l.length cap), .ow (.slice ao l.length cap) l] ∧ (b = true → l.length ≤ 200000)) (fun va wr => jY E.P.toks.length wr E.rb + boolW va)
 case atStart => exact ⟨[], none, 0, _, _, _, rfl, H, B.nilo.mv1, fun _ => Nat.zero_le _⟩
 case round =>
  clear H B Q;obtain ⟨l, ao, cap, b, t, f, rfl, H, B, hln⟩ := hrel;have HLN := lh hln;clear hln
  cases b with
  | false =>
   have Q : Qr T ((fun l : List Ty => (pure (.mk 38 aa ⟨#[]⟩ 0 l) : M Ty)) l) t := ⟨H.done⟩;go_upto_region 15 with fail
   have c3 := B.S.cs B.F.rb; have c4 := B.cr;go_wp2_with fail
   exact Br.fin (.mk 38 aa ⟨#[]⟩ 0 l) B.mv1.ko p9 Q.pr rfl rfl
  | true =>
   have R0 := lh B.F.R;have HO := lh H;clear H;have HLE : Hid (l.length ≤ 200000) := lh (HLN.out rfl);go_upto_region 4 with fail
   obtain ⟨T2, hT2⟩ : ∃ T2, T2 = rn (vr E.P (jf E.P g)) t := ⟨_, rfl⟩
   have HT2 := lh hT2;have Q : Qr T2 (qT E.P 39 (E.P.A t.i) >>= fun h => jm E.P s_eq >>= fun _ => jZ E.P (conB E.P (jf E.P g)) s_bar >>= (fun m : List Ty => (pure (.mk h.k h.n h.s h.q (h.args ++ m)) : M Ty))) t := ⟨hT2⟩;clear hT2;go_upto_region 5 with (first | (go_at_call 146; refine B.nb Q (lh (HHEAD.out 39 (E.P.A t.i))) ?_; clear B Q; intro u7 h aoh caph s8 LNh _ B Q) | (go_at_call 102; refine B.now ?_; clear B; intro u5 B; have f6 := jA E.P t.i))
   clear f6;generalize hb : u7.heap.size = b10;generalize h : u7.alloc _ = V9;replace B := B.box h hb;clear h hb;go_upto_region 6 with (go_at_call 144; refine B.un Q (kg E d s_eq) ?_; clear B Q; intro u11 _ _ s12 B Q)
   go_upto_region 7 with (go_at_call 148; refine B.ndx HCON ?_; clear B; intro u13 c aoc capc s14 hl B; have HLc := lh hl; clear hl)
   generalize hb : u13.heap.size = b16;generalize h : u13.alloc _ = V15;replace B := B.box h hb;clear h hb;have c17 := B.mv2.S.cs B.F.rb; have c18 := B.S.cs B.F.rb;go_upto_region 8 with (at_builtin; generalize h : V15.alloc _ = V19; replace B := B.mv1.mk1 rfl h; clear h; go_must (refine B.mv3.app rfl _ _ rfl rfl rfl (by have h1 := LNh.out; show _ + 1 ≤ _; omega) ?_); clear B; intro aoL capL L u20 ELL B; have c21 := B.mv2.S.cs B.F.rb)
   clear c17 c18 c21;generalize h : u20.setCell _ _ = X22;replace B := B.mv2.s4 h;clear h;obtain ⟨f0, H⟩ := vV Q HLc.out HSC.out B.F.R.le;go_upto_region 9 with (go_at_call 153; refine B.eatg s_bar ?_; clear B; intro u23 B)
   go_loopw [9] (fun va wr => ∃ (m q : List Ty) (ao2 : Option Addr) (cap2 : Nat) (b : Bool) (t2 : RS) (f2 : Nat) (c0 : Ty) (ac : Option Addr) (cc : Nat), va = .bool b ∧ q = h.args ++ m ∧ SepAt E.P (conB E.P (jf E.P g)) s_bar (fun m : List Ty => (pure (.mk h.k h.n h.s h.q (h.args ++ m)) : M Ty)) T2 m b t2 f2 ∧ Br E w d wr t2 [.ow (.slice ao2 q.length cap2) q, .nv b10 (.int .i64 h.k) (.int .i64 h.n) (.string h.s) (.int .i64 h.q) (.slice ao2 q.length cap2), .nv b16 (.int .i64 c0.k) (.int .i64 c0.n) (.string c0.s) (.int .i64 c0.q) (.slice ac c0.args.length cc), .nv b2 (.int .i64 38) (.int .i64 (aa : Int)) (.string ⟨#[]⟩) (.int .i64 0) (.slice ao l.length cap), .ow (.slice ao l.length cap) l]) (fun va wr => jY E.P.toks.length wr E.rb)
   case atStart => exact ⟨[c], L, aoL, capL, _, _, f0, c, aoc, capc, rfl, ELL.out, H, B.mv4.mv4.mv4.mv3.mv4⟩
   case round =>
    clear H Q B HLc;obtain ⟨m, q, ao2, cap2, b, t2, f2, c0, ac, cc, rfl, hq, H, B⟩ := hrel;have HQ := lh hq;clear hq
    cases b with
    | true =>
     have R1 := lh B.F.R;have HG := lh (H.le R1.out);have HLQ : Hid (q.length ≤ 400000) := lh (by have h1 := HG.out.2; have h2 := LNh.out; rw [HQ.out, List.length_append]; omega);have HI := lh H;clear H;go_upto_region 11 with (go_at_call 148; refine B.ndx HCON ?_; clear B; intro u24 c2 aoc2 capc2 s25 hl B; have HLc2 := lh hl; clear hl; have c26 := B.mv3.S.cs B.F.rb)
     clear c26;generalize h : ((((u24.setCell _ _).setCell _ _).setCell _ _).setCell _ _).setCell _ _ = X27;replace B := B.mv3.sn h;clear h;have c28 := B.mv3.S.cs B.F.rb; have c29 := B.S.cs B.F.rb;go_upto_region 12 with (at_builtin; generalize h : X27.alloc _ = V30; replace B := B.mv1.mk1 rfl h; clear h; go_must (refine B.mv2.app rfl _ _ rfl rfl rfl (by have h1 := HLQ.out; show _ + 1 ≤ _; omega) ?_); clear B; intro aoL2 capL2 L2 u31 ELL2 B; have c32 := B.mv2.S.cs B.F.rb)
     clear c28 c29 c32;generalize h : u31.setCell _ _ = X33;replace B := B.mv2.s4 h;clear h;obtain ⟨⟨f3, H⟩, h4⟩ := HI.out.next HLc2.out HSC.out B.F.R.le;have R4 := lh h4;clear h4;go_wp2_with (go_at_call 153; refine B.eatg s_bar ?_; clear B; intro u34 B)
     go_roundw
     case rel => exact ⟨m ++ [c2], L2, aoL2, capL2, _, _, f3, c2, aoc2, capc2, rfl, by rw [ELL2.out, HQ.out, List.append_assoc], H, B.mv4.mv4.mv4.mv3.mv4⟩
     case measure => exact jP R1.out B.F.R HG.out.1 jQ R4.out
    | false =>
     have HON : Hid (Rl (rn (vr E.P (jf E.P g)) t) (.mk h.k h.n h.s h.q q) t2) := lh (by rw [← HT2.out, HQ.out]; exact H.end.pr);clear H;go_upto_region 13 with fail
     replace B := B.mv2.dr;have c35 := B.mv1.S.cs B.F.rb; have c36 := B.mv2.S.cs B.F.rb;go_upto_region 14 with (at_builtin; generalize h : wr.alloc _ = V37; replace B := B.ko.mkl rfl h; clear h; go_must (refine B.mv3.app rfl _ _ rfl rfl rfl (by have h1 := HLE.out; show _ + 1 ≤ _; omega) ?_); clear B; intro aoL3 capL3 L3 u38 ELL3 B; have c39 := B.mv2.S.cs B.F.rb)
     clear c35 c36 c39;generalize h : u38.setCell _ _ = X40;replace B := B.mv2.s4 h;clear h;obtain ⟨⟨f4, H⟩, h4⟩ := HO.out.next HON.out HST.out B.F.R.le;rw [← ELL3.out] at H;have R4 := lh h4;clear h4;have H2 := lh H;clear H;go_wp2_with (go_at_call 153; refine B.eatg w_and ?_; clear B; intro u41 B)
     go_roundw
     case rel => exact ⟨L3, aoL3, capL3, _, _, f4, rfl, H2.out.w, B.mv2.dr.mv1.mv1, fun hb => by have h1 := (H2.out.fl (H2.out.go hb)).2; have h2 := B.F.R.le; omega⟩
     case measure => exact qE R0.out B.F.R H2.out.go (fun h0 => ql HON.out (jQ h0).1) jQ R4.out
theorem spec_no {P : Src} {R : Rec} {i : Nat} (h : jK P [w_val, w_type, w_data, w_exception, w_structure] i = false) : ky P R i = jE P 4 i := by
 have hn : ∀ x ∈ [w_val, w_type, w_data, w_exception, w_structure], ¬ isD P x i = true := fun x hx h9 => by
  unfold isD at h9;unfold jK at h;rw [Bool.and_eq_true] at h9;rw [h9.1, Bool.true_and] at h;exact List.any_eq_false.1 h x hx h9.2
 unfold ky;rw [if_neg (hn _ (by simp)), if_neg (hn _ (by simp)), if_neg (hn _ (by simp)), if_neg (hn _ (by simp)), if_neg (hn _ (by simp))]
theorem spec_one {P : Src} {i : Nat} (h : jK P [w_val, w_type, w_data, w_exception, w_structure] i = true) : (P.K i = 6 ∨ P.K i = 7) ∧ (P.T i = w_val ∨ P.T i = w_type ∨ P.T i = w_data ∨ P.T i = w_exception ∨ P.T i = w_structure) := by
 unfold jK at h;simp only [Bool.and_eq_true, decide_eq_true_eq, List.any_cons, List.any_nil, Bool.or_eq_true, Bool.or_false] at h;refine ⟨h.1, ?_⟩;rcases h.2 with h | h | h | h | h <;> simp [h]
theorem spec_val {P : Src} {R : Rec} {i : Nat} (hk : P.K i = 6 ∨ P.K i = 7) (h : P.T i = w_val) : ky P R i = (jI P 3 >>= fun x => jm P s_col >>= fun _ => R.go .typ >>= fun t => (pure (.mk 49 (P.A i) x 0 [t]) : M Ty)) (i + 1) := by
 unfold ky;rw [if_pos (by rw [jG hk, h]; decide)]
theorem spec_type {P : Src} {R : Rec} {i : Nat} (hk : P.K i = 6 ∨ P.K i = 7) (h : P.T i = w_type) : ky P R i = (qT P 50 (P.A i) >>= fun h => kn P s_eq >>= fun e => if e = true then (R.go .typ >>= fun t => (pure (.mk h.k h.n h.s h.q (h.args ++ [t])) : M Ty)) else (pure h : M Ty)) (i + 1) := by
 unfold ky;rw [if_neg (by rw [jG hk, h]; decide), if_pos (by rw [jG hk, h]; decide)]
theorem spec_data {P : Src} {R : Rec} {i : Nat} (hk : P.K i = 6 ∨ P.K i = 7) (h : P.T i = w_data) : ky P R i = yj P R (P.A i) (i + 1) := by
 unfold ky;rw [if_neg (by rw [jG hk, h]; decide), if_neg (by rw [jG hk, h]; decide), if_pos (by rw [jG hk, h]; decide)]
theorem spec_exception {P : Src} {R : Rec} {i : Nat} (hk : P.K i = 6 ∨ P.K i = 7) (h : P.T i = w_exception) : ky P R i = (conB P R >>= fun c => (pure (.mk 41 (P.A i) c.s c.q c.args) : M Ty)) (i + 1) := by
 unfold ky;rw [if_neg (by rw [jG hk, h]; decide), if_neg (by rw [jG hk, h]; decide), if_neg (by rw [jG hk, h]; decide), if_pos (by rw [jG hk, h]; decide)]
theorem spec_structure {P : Src} {R : Rec} {i : Nat} (hk : P.K i = 6 ∨ P.K i = 7) (h : P.T i = w_structure) : ky P R i = (jI P 4 >>= fun x => jm P s_col >>= fun _ => R.go .sig >>= fun t => (pure (.mk 51 (P.A i) x 0 [t]) : M Ty)) (i + 1) := by
 unfold ky;rw [if_neg (by rw [jG hk, h]; decide), if_neg (by rw [jG hk, h]; decide), if_neg (by rw [jG hk, h]; decide), if_neg (by rw [jG hk, h]; decide), if_pos (by rw [jG hk, h]; decide)]
theorem cspec_any : CtN 199 fun E g => ky E.P (jf E.P g) := by
 intro E g RA w s h;refine Br.go (m := ky E.P (jf E.P g)) h RA ?_;intro d T W R hW B Q hlr hN;have HCON := vg R.hd (ccon_any E g RA);have HHEAD := lh (fun kk aa w s h => chead_any E g RA w s kk aa h);have HDATA := lh (fun aa w s h => cdata_any E g RA w s aa h);rw [← R.hd] at HHEAD HDATA;clear h RA;unfold pr at HCON HHEAD HDATA ⊢;go_enter Tryz.func199, Tryz.ntmps199
 obtain ⟨Q9, p9⟩ := Po9.ex Tryz.f199 E d w T (NdQ w);rw [p9.eq];go_upto_region 1 with fail
 clear hW;go_upto_region 2 with (go_at_call 102; refine B.now ?_; clear B; intro u1 B; have f2 := jA E.P s.i)
 clear f2;generalize hb : u1.heap.size = b4;generalize h : u1.alloc _ = V3;replace B := B.boxt h hb;clear h hb;have c5 := B.S.ct B.F.rb;go_upto_region 3 with fail
 clear c5;generalize hb : V3.heap.size = b7;generalize h : V3.alloc _ = V6;replace B := B.box h hb;clear h hb;go_upto_region 4 with (go_at_call 104; refine B.ask (vq E V6 _ s d [w_val, w_type, w_data, w_exception, w_structure] _ 5 rfl rfl (by decide) B.F.R rfl) ?_; clear B; intro u8 B)
 generalize hb : kJ E.P [w_val, w_type, w_data, w_exception, w_structure] s = b;have Hb := lh hb;clear hb
 cases b with
 | false =>
  replace Q : Qr T (jE E.P 4 : M Ty) s := ⟨by
   rw [Q.eq]
   by_cases hs : s.k = 0
   · have h := Hb.out;unfold kJ at h;rw [decide_eq_true hs, Bool.true_and] at h;rw [je hs, je hs]; exact spec_no h
   · rw [jq hs, jq hs]⟩
  go_upto_region 5 with fail
  go_upto_region 6 with (go_at_call 103; have OR := lh B.F.R; refine B.no ?_; clear B; intro u9 v B)
  have c10 := B.S.cs B.F.rb; have c11 := B.cr;go_wp2_with fail
  exact Br.fin (.mk 0 (E.P.A s.i) ⟨#[]⟩ 0 []) B.nilk p9 (Q.tl (OR.out.no_rl (by decide) _)) rfl rfl
 | true =>
  have HS : Hid (s.k = 0) := lh (kZ Hb.out).1;have HON := lh (spec_one (kZ Hb.out).2);have HK := lh HON.out.1;have HK1 : Hid (1 ≤ E.P.K s.i) := lh (by have := HON.out.1; omega);rcases HON.out.2 with hx | hx | hx | hx | hx
  · skip
    have HTX := lh hx;clear hx;replace Q : Qr T ((jI E.P 3 >>= fun x => jm E.P s_col >>= fun _ => jt E.P g .typ >>= fun t => (pure (.mk 49 (E.P.A s.i) x 0 [t]) : M Ty))) (stp s) := ⟨by rw [Q.eq, je HS.out, je (s := stp s) HS.out]; exact spec_val HK.out HTX.out⟩;have xw_val : ((E.P.T s.i).toList == [118, 97, 108]) = true := (by rw [HTX.out, ByteArray.toList_eq]; decide);have yw_val : (E.P.T s.i).toList = [118, 97, 108] := (by rw [HTX.out, ByteArray.toList_eq]);have c12 := B.F.R.cells;have c13 : s.i ≤ 100000 := Nat.le_trans B.F.R.le hN;go_upto_region 8 with fail
    clear c12 c13;generalize h : u8.setCell _ _ = X14;replace B := B.step (HK1.out) h;clear h;have c15 := B.mv1.S.ct B.F.rb;go_upto_region 15 with fail
    clear c15;have c16 := B.S.cs B.F.rb; have c17 := B.mv1.S.ct B.F.rb;go_upto_region 16 with fail
    clear c16 c17;generalize h : X14.setCell _ _ = X18;replace B := B.s0 h;clear h;go_upto_region 17 with (go_at_call 150; refine B.str Q (hget3 E d) ?_; clear B Q; intro u19 x s20 B Q; have c21 := B.S.cs B.F.rb)
    clear c21;generalize h : u19.setCell _ _ = X22;replace B := B.s2 h;clear h;go_upto_region 18 with (go_at_call 144; refine B.un Q (kg E d s_col) ?_; clear B Q; intro u23 _ _ s24 B Q)
    go_upto_region 19 with (go_at_call 58; refine B.nd Q R.typ ?_; clear B Q; intro u25 q aoq capq s26 _ B Q)
    generalize hb : u25.heap.size = b28;generalize h : u25.alloc _ = V27;replace B := B.box h hb;clear h hb;have c29 := B.mv2.S.cs B.F.rb; have c30 := B.S.cs B.F.rb;go_upto_region 32 with fail
    clear c29 c30;generalize hz : V27.heap.size = z31;generalize h : V27.setCell _ _ = X32;replace B := B.mv2.s4 h;replace hz := qQ h hz;clear h;generalize h : X32.alloc _ = V33;replace B := B.mv2.mk1 hz h;clear h;clear hz;have c34 := B.mv1.S.cs B.F.rb; have c35 := B.cr;go_wp2_with fail
    exact Br.fin (.mk 49 (E.P.A s.i) x 0 [q]) B.ko p9 Q.pr rfl rfl
  · skip
    have HTX := lh hx;clear hx;replace Q : Qr T ((qT E.P 50 (E.P.A s.i) >>= fun h => kn E.P s_eq >>= fun e => if e = true then (jt E.P g .typ >>= fun t => (pure (.mk h.k h.n h.s h.q (h.args ++ [t])) : M Ty)) else (pure h : M Ty))) (stp s) := ⟨by rw [Q.eq, je HS.out, je (s := stp s) HS.out]; exact spec_type HK.out HTX.out⟩;have xw_val : ((E.P.T s.i).toList == [118, 97, 108]) = false := (by rw [HTX.out, ByteArray.toList_eq]; decide);have xw_type : ((E.P.T s.i).toList == [116, 121, 112, 101]) = true := (by rw [HTX.out, ByteArray.toList_eq]; decide);have yw_type : (E.P.T s.i).toList = [116, 121, 112, 101] := (by rw [HTX.out, ByteArray.toList_eq]);have c36 := B.F.R.cells;have c37 : s.i ≤ 100000 := Nat.le_trans B.F.R.le hN;go_upto_region 8 with fail
    clear c36 c37;generalize h : u8.setCell _ _ = X38;replace B := B.step (HK1.out) h;clear h;have c39 := B.mv1.S.ct B.F.rb;go_upto_region 21 with fail
    go_upto_region 22 with (go_at_call 146; refine B.nb Q (lh (HHEAD.out 50 (E.P.A s.i))) ?_; clear B Q; intro u40 h aoh caph s41 LNh _ B Q; have c42 := B.mv1.S.cs B.F.rb)
    clear c39 c42;generalize h : ((((u40.setCell _ _).setCell _ _).setCell _ _).setCell _ _).setCell _ _ = X43;replace B := B.mv1.sn h;clear h;obtain ⟨b44, P⟩ := B.eatd (sg := s_eq) Q;clear B Q
    cases b44 with
    | true =>
     go_upto_region 24 with (go_at_call 153; refine P.t ?_; clear P; intro u45 B Q _)
     go_upto_region 25 with (go_at_call 58; refine B.nd Q R.typ ?_; clear B Q; intro u46 q aoq capq s47 _ B Q)
     generalize hb : u46.heap.size = b49;generalize h : u46.alloc _ = V48;replace B := B.box h hb;clear h hb;have c50 := B.mv2.S.cs B.F.rb; have c51 := B.S.cs B.F.rb;go_upto_region 32 with (at_builtin; generalize h : V48.alloc _ = V52; replace B := B.mv1.mk1 rfl h; clear h; go_must (refine B.mv3.app rfl _ _ rfl rfl rfl (by have h1 := LNh.out; show _ + 1 ≤ _; omega) ?_); clear B; intro aoL capL L u53 ELL B; have c54 := B.mv2.S.cs B.F.rb)
     clear c50 c51 c54;generalize h : u53.setCell _ _ = X55;replace B := B.mv2.s4 h;clear h;have c56 := B.S.cs B.F.rb; have c57 := B.cr;go_wp2_with fail
     exact Br.fin (.mk h.k h.n h.s h.q L) B.mv1.ko p9 (by rw [ELL.out]; exact Q.pr) rfl rfl
    | false =>
     go_upto_region 32 with (go_at_call 153; refine P.f ?_; clear P; intro u58 B Q)
     have c59 := B.S.cs B.F.rb; have c60 := B.cr;go_wp2_with fail
     exact Br.fin (h) B.mv1.ko p9 Q.pr rfl rfl
  · skip
    have HTX := lh hx;clear hx;replace Q : Qr T (yj E.P (jf E.P g) (E.P.A s.i)) (stp s) := ⟨by rw [Q.eq, je HS.out, je (s := stp s) HS.out]; exact spec_data HK.out HTX.out⟩;have xw_val : ((E.P.T s.i).toList == [118, 97, 108]) = false := (by rw [HTX.out, ByteArray.toList_eq]; decide);have xw_type : ((E.P.T s.i).toList == [116, 121, 112, 101]) = false := (by rw [HTX.out, ByteArray.toList_eq]; decide);have xw_data : ((E.P.T s.i).toList == [100, 97, 116, 97]) = true := (by rw [HTX.out, ByteArray.toList_eq]; decide);have yw_data : (E.P.T s.i).toList = [100, 97, 116, 97] := (by rw [HTX.out, ByteArray.toList_eq]);have c61 := B.F.R.cells;have c62 : s.i ≤ 100000 := Nat.le_trans B.F.R.le hN;go_upto_region 8 with fail
    clear c61 c62;generalize h : u8.setCell _ _ = X63;replace B := B.step (HK1.out) h;clear h;have c64 := B.mv1.S.ct B.F.rb;go_upto_region 27 with fail
    go_wp2_with (go_at_call 147; refine B.ndt Q (lh (HDATA.out (E.P.A s.i))) ?_; clear B Q; intro u65 q aoq capq s66 B Q; have c67 := B.cr)
    exact Br.fin (q) B p9 Q rfl rfl
  · skip
    have HTX := lh hx;clear hx;replace Q : Qr T ((conB E.P (jf E.P g) >>= fun c => (pure (.mk 41 (E.P.A s.i) c.s c.q c.args) : M Ty))) (stp s) := ⟨by rw [Q.eq, je HS.out, je (s := stp s) HS.out]; exact spec_exception HK.out HTX.out⟩;have xw_val : ((E.P.T s.i).toList == [118, 97, 108]) = false := (by rw [HTX.out, ByteArray.toList_eq]; decide);have xw_type : ((E.P.T s.i).toList == [116, 121, 112, 101]) = false := (by rw [HTX.out, ByteArray.toList_eq]; decide);have xw_data : ((E.P.T s.i).toList == [100, 97, 116, 97]) = false := (by rw [HTX.out, ByteArray.toList_eq]; decide);have xw_exception : ((E.P.T s.i).toList == [101, 120, 99, 101, 112, 116, 105, 111, 110]) = true := (by rw [HTX.out, ByteArray.toList_eq]; decide);have yw_exception : (E.P.T s.i).toList = [101, 120, 99, 101, 112, 116, 105, 111, 110] := (by rw [HTX.out, ByteArray.toList_eq]);have c68 := B.F.R.cells;have c69 : s.i ≤ 100000 := Nat.le_trans B.F.R.le hN;go_upto_region 8 with fail
    clear c68 c69;generalize h : u8.setCell _ _ = X70;replace B := B.step (HK1.out) h;clear h;have c71 := B.mv1.S.ct B.F.rb;go_upto_region 29 with fail
    go_upto_region 30 with (go_at_call 148; refine B.nd Q HCON ?_; clear B Q; intro u72 c aoc capc s73 _ B Q; have c74 := B.mv1.S.cs B.F.rb)
    clear c71 c74;generalize h : ((((u72.setCell _ _).setCell _ _).setCell _ _).setCell _ _).setCell _ _ = X75;replace B := B.mv1.sn h;clear h;have c76 := B.S.cs B.F.rb; have c77 := B.mv2.S.ct B.F.rb;go_upto_region 31 with fail
    clear c76 c77;generalize h : X75.setCell _ _ = X78;replace B := B.s0 h;clear h;have c79 := B.S.cs B.F.rb; have c80 := B.mv2.S.ct B.F.rb;go_upto_region 32 with fail
    clear c79 c80;generalize h : X78.setCell _ _ = X81;replace B := B.s1 h;clear h;have c82 := B.S.cs B.F.rb; have c83 := B.cr;go_wp2_with fail
    exact Br.fin (.mk 41 (E.P.A s.i) c.s c.q c.args) B.mv1 p9 Q.pr rfl rfl
  · skip
    have HTX := lh hx;clear hx;replace Q : Qr T ((jI E.P 4 >>= fun x => jm E.P s_col >>= fun _ => jt E.P g .sig >>= fun t => (pure (.mk 51 (E.P.A s.i) x 0 [t]) : M Ty))) (stp s) := ⟨by rw [Q.eq, je HS.out, je (s := stp s) HS.out]; exact spec_structure HK.out HTX.out⟩;have xw_val : ((E.P.T s.i).toList == [118, 97, 108]) = false := (by rw [HTX.out, ByteArray.toList_eq]; decide);have xw_type : ((E.P.T s.i).toList == [116, 121, 112, 101]) = false := (by rw [HTX.out, ByteArray.toList_eq]; decide);have xw_data : ((E.P.T s.i).toList == [100, 97, 116, 97]) = false := (by rw [HTX.out, ByteArray.toList_eq]; decide);have xw_exception : ((E.P.T s.i).toList == [101, 120, 99, 101, 112, 116, 105, 111, 110]) = false := (by rw [HTX.out, ByteArray.toList_eq]; decide);have c84 := B.F.R.cells;have c85 : s.i ≤ 100000 := Nat.le_trans B.F.R.le hN;go_upto_region 8 with fail
    clear c84 c85;generalize h : u8.setCell _ _ = X86;replace B := B.step (HK1.out) h;clear h;have c87 := B.mv1.S.ct B.F.rb;go_upto_region 9 with fail
    clear c87;have c88 := B.S.cs B.F.rb; have c89 := B.mv1.S.ct B.F.rb;go_upto_region 10 with fail
    clear c88 c89;generalize h : X86.setCell _ _ = X90;replace B := B.s0 h;clear h;go_upto_region 11 with (go_at_call 150; refine B.str Q (hget4 E d) ?_; clear B Q; intro u91 x s92 B Q; have c93 := B.S.cs B.F.rb)
    clear c93;generalize h : u91.setCell _ _ = X94;replace B := B.s2 h;clear h;go_upto_region 12 with (go_at_call 144; refine B.un Q (kg E d s_col) ?_; clear B Q; intro u95 _ _ s96 B Q)
    go_upto_region 13 with (go_at_call 151; refine B.nd Q R.sig ?_; clear B Q; intro u97 q aoq capq s98 _ B Q)
    generalize hb : u97.heap.size = b100;generalize h : u97.alloc _ = V99;replace B := B.box h hb;clear h hb;have c101 := B.mv2.S.cs B.F.rb; have c102 := B.S.cs B.F.rb;go_upto_region 32 with fail
    clear c101 c102;generalize hz : V99.heap.size = z103;generalize h : V99.setCell _ _ = X104;replace B := B.mv2.s4 h;replace hz := qQ h hz;clear h;generalize h : X104.alloc _ = V105;replace B := B.mv2.mk1 hz h;clear h;clear hz;have c106 := B.mv1.S.cs B.F.rb; have c107 := B.cr;go_wp2_with fail
    exact Br.fin (.mk 51 (E.P.A s.i) x 0 [q]) B.ko p9 Q.pr rfl rfl
end Go.Proofs.YthehjeeiodbkjaaGreatDoor
