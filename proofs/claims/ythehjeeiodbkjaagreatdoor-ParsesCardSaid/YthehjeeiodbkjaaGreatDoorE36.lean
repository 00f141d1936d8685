/-
  Proved: the contracts of the document's signs, level by level. Conditions: the reader as it stands in memory; what it reads within.
-/
import Derived.Test.YthehjeeiodbkjaaGreatDoorE30
import Derived.Test.YthehjeeiodbkjaaGreatDoorE31
import Derived.Test.YthehjeeiodbkjaaGreatDoorE32
import Derived.Test.YthehjeeiodbkjaaGreatDoorE28
set_option linter.unusedSimpArgs false
set_option linter.unusedVariables false
set_option maxRecDepth 100000
set_option maxHeartbeats 16000000
namespace Go.Proofs.YthehjeeiodbkjaaGreatDoor
open Go.RowKit
theorem lv_ne {P : Src} {j i : Nat} (h : oneD P (lvL j) i = true) : ((P.T i).toList == []) = false := by
 unfold oneD at h
 simp only [Bool.and_eq_true, List.any_eq_true, decide_eq_true_eq] at h
 obtain ⟨_, x, hx, e⟩ := h
 rw [e]
 have h9 : ∀ x ∈ lvL j, (x.toList == []) = false := by
  unfold lvL
  intro x hx
  split at hx <;> (try split at hx) <;> (try split at hx) <;> (try split at hx) <;> (try split at hx) <;> (try split at hx) <;> simp at hx
  all_goals (try rcases hx with rfl | rfl | rfl | rfl | rfl | rfl) <;> (try rcases hx with rfl | rfl | rfl) <;> (try subst hx) <;> rw [ByteArray.toList_eq] <;> rfl
 exact h9 x hx
theorem col_one {P : Src} {j : Nat} {item : M Ty} (hj : neverB j = true) (f : Nat) (p : ByteArray × Ty) (i : Nat) : colL P j item f [p] i = .ok [p] i := by
 cases f with
 | zero => rfl
 | succ f =>
  rw [rcolL_at, if_neg]
  rintro ⟨h | h, -⟩
  · cases h
  · rw [hj] at h; cases h
theorem bet_eq (P : Src) (R : Rec) (j : Nat) (hj : j + 1 ≠ 3) : betB P R (j + 1) = betB P R j >>= fun a => colL P (j + 1) (betB P R j) (P.toks.length + 1) [] >>= fun l => (ret (foldLd a l) : M Ty) := by
 show (betB P R j >>= fun a => colL P (j + 1) (betB P R j) (P.toks.length + 1) [] >>= fun l => (pure (if j + 1 = 3 then foldR a l else foldLd a l) : M Ty)) = _
 have e : ∀ a l, (if j + 1 = 3 then foldR a l else foldLd a l) = foldLd a l := fun a l => if_neg hj
 simp only [e]
 rfl
theorem bet3_eq (P : Src) (R : Rec) : betB P R 3 = betB P R 2 >>= fun a => colL P 3 (betB P R 2) (P.toks.length + 1) [] >>= fun l => (ret (foldR a l) : M Ty) := rfl
theorem bet3_none {P : Src} {R : Rec} {a : Ty} {s : RS} {T : Res Ty} (hT : T = rn (colL P 3 (betB P R 2) (P.toks.length + 1) [] >>= fun l => (ret (foldR a l) : M Ty)) s) (h : oneb P (lvL 3) s = false) : T = rn (pure a : M Ty) s := by
 rw [hT]
 by_cases hs : s.k = 0
 · unfold oneb at h
   rw [decide_eq_true hs, Bool.true_and] at h
   rw [rn_good hs, rn_good hs]
   show bnd (colL P 3 (betB P R 2) (P.toks.length + 1) []) _ s.i = _
   unfold bnd
   rw [rcolL_at, if_neg (fun h9 => by rw [h] at h9; exact absurd h9.2 Bool.false_ne_true)]
   rfl
 · rw [rn_lost hs, rn_lost hs]
/-- a sign of a level comes next: what it says, where one goes on -/
structure BetP (P : Src) (j : Nat) (s : RS) (b : Bool) (t : ByteArray) (u : RS) : Prop where
 eb : b = oneb P (lvL j) s
 et : t = if b = true then P.T s.i else ⟨#[]⟩
 eu : u = if b = true then stp s else s
theorem BetP.go {P : Src} {j : Nat} {s u : RS} {b : Bool} {t : ByteArray} (p : BetP P j s b t u) (e : b = true) : s.k = 0 ∧ oneD P (lvL j) s.i = true ∧ t = P.T s.i ∧ u = stp s := by
 have h1 := p.eb
 have h2 := p.et
 have h3 := p.eu
 rw [e] at h1
 rw [if_pos e] at h2 h3
 exact ⟨(oneb_good h1.symm).1, (oneb_good h1.symm).2, h2, h3⟩
theorem BetP.no {P : Src} {j : Nat} {s u : RS} {b : Bool} {t : ByteArray} (p : BetP P j s b t u) (e : b = false) : oneb P (lvL j) s = false ∧ t = ⟨#[]⟩ ∧ u = s := by
 have h1 := p.eb
 have h2 := p.et
 have h3 := p.eu
 have h9 : ¬ b = true := by rw [e]; exact Bool.false_ne_true
 rw [if_neg h9] at h2 h3
 exact ⟨h1.symm.trans e, h2, h3⟩
theorem BetP.sg {P : Src} {j : Nat} {s u : RS} {b : Bool} {t : ByteArray} (p : BetP P j s b t u) (e : b = true) : u.k = 0 ∧ (t.toList == []) = false := by
 obtain ⟨h1, h2, h3, h4⟩ := p.go e
 rw [h3, h4]
 exact ⟨h1, lv_ne h2⟩
theorem BetP.after {P : Src} {j : Nat} {s u : RS} {b : Bool} {t : ByteArray} (p : BetP P j s b t u) (h0 : u.k = 0) : s.k = 0 ∧ s.i ≤ u.i := by
 cases b with
 | true => obtain ⟨h1, -, -, rfl⟩ := p.go rfl; exact ⟨h1, Nat.le_succ _⟩
 | false => obtain ⟨-, -, rfl⟩ := p.no rfl; exact ⟨h0, Nat.le_refl _⟩
theorem Bd.bet {E : Env} {w w1 : World} {d : Nat} {s : RS} {ls : List At} {Q9 : Ending → World → Prop} (b9 : Br E w d w1 s ls) (k j : Nat) (hk : 1 ≤ k ∧ k ≤ 7) (hj : j = 8 - k) (K : ∀ u b t v, BetP E.P j s b t v → Br E w d u v ls → Q9 (.returned (.string t)) u) : Calls Tryz.prog 186 #[.pointer (some ⟨E.rb, 0, none⟩), .int .i64 (k : Int)] w1 Q9 := by
 subst hj
 exact (rbetween_any E w1 s d k hk b9.F.R).mono (by rintro e u ⟨rfl, hr, hg⟩; exact K u _ _ _ ⟨rfl, rfl, rfl⟩ (b9.gr hg hr))
theorem Bd.pair {E : Env} {w w1 : World} {d : Nat} {s : RS} {ls : List At} {Q9 : Ending → World → Prop} {x y : Ty} {ao bo : Option Addr} {ca cb : Nat} {sg : ByteArray} (b : Br E w d w1 s (.kd x.args ao ca :: .kd y.args bo cb :: ls)) (k : ∀ u q9 jn, Hid (jn = joinD sg x y) → Br E w d u s (.kd jn.args (some ⟨q9, 0, none⟩) 2 :: ls) → Q9 (.returned (.agg #[.int .i64 jn.k, .int .i64 jn.n, .string jn.s, .int .i64 jn.q, .slice (some ⟨q9, 0, none⟩) jn.args.length 2])) u) : Calls Tryz.prog 187 #[.string sg, .agg #[.int .i64 x.k, .int .i64 x.n, .string x.s, .int .i64 x.q, .slice ao x.args.length ca], .agg #[.int .i64 y.k, .int .i64 y.n, .string y.s, .int .i64 y.q, .slice bo y.args.length cb]] w1 Q9 := (rpair_any sg x y ao bo ca cb w1).mono (by
 rintro e u ⟨g, hg, rfl, hb, hr⟩
 have K := join_kd (s := sg) (X := fun z => wrs ls z) hb hg hr b.F.lt (fun q hq => (b.S.dr.dr.wr hq).2) b.F.rb (Kd.mono b.S.1 fun _ hx => .inr (wrs_cons.2 (.inr hx))) (Kd.mono b.S.2.1 fun _ hx => .inr hx)
 exact k u g _ (lh rfl) ⟨(b.be hb).F, ⟨Kd.mono K fun _ hx => hx.elim False.elim id, AtsY.mono (b.S.dr.dr.gr (gr_below hb (some E.rb)) b.F.rb) fun _ hx => hx.elim id False.elim⟩, b.B, b.fm⟩)
/-- a level that binds to the left: where its loop stands -/
structure LvAt (P : Src) (j : Nat) (it : M Ty) (T : Res Ty) (n a : Ty) (acc : List (ByteArray × Ty)) (b : Bool) (tx : ByteArray) (t : RS) (f : Nat) : Prop where
 eq : T = if b = true then rn (it >>= fun z => colL P j it f (acc ++ [(tx, z)]) >>= fun l => (ret (foldLd n l) : M Ty)) t else rn (pure a : M Ty) t
 al : a = foldLd n acc
 go : b = true → t.k = 0 ∧ (tx.toList == []) = false
 em : b = false → tx = ⟨#[]⟩
 fl : b = true → P.toks.length < t.i + f + 1
section
variable {P : Src} {j f : Nat} {it : M Ty} {T : Res Ty} {n a x : Ty} {acc : List (ByteArray × Ty)} {b : Bool} {tx : ByteArray} {s t u : RS}
theorem LvAt.of (q : Qr T (colL P j it f acc >>= fun l => (ret (foldLd n l) : M Ty)) s) (hf : s.k = 0 → P.toks.length < s.i + f) (hle : s.i ≤ P.toks.length) (ha : acc.length = 0 ∨ neverB j = false) (al : a = foldLd n acc) (p : BetP P j s b tx u) : ∃ f, LvAt P j it T n a acc b tx u f := by
 obtain ⟨f, q1, q2⟩ := col_head q.eq hf hle ha
 refine ⟨f, ?_, al, p.sg, fun e => (p.no e).2.1, fun e => ?_⟩
 · cases b with
   | true =>
    obtain ⟨h1, h2, h3, h4⟩ := p.go rfl
    rw [← p.eb, if_pos rfl] at q1
    rw [if_pos rfl, h3, h4]
    exact q1
   | false =>
    obtain ⟨h1, h2, h3⟩ := p.no rfl
    rw [h1, if_neg Bool.false_ne_true] at q1
    rw [if_neg Bool.false_ne_true, h3, al]
    exact q1
 · obtain ⟨h1, h2, h3, h4⟩ := p.go e
   have := q2 h1
   rw [h4]
   show _ < s.i + 1 + f + 1
   omega
theorem LvAt.first (q : Qr T (colL P j it (P.toks.length + 1) [] >>= fun l => (ret (foldLd n l) : M Ty)) s) (hle : s.i ≤ P.toks.length) (p : BetP P j s b tx u) : ∃ f, LvAt P j it T n n [] b tx u f := LvAt.of q (fun _ => by omega) hle (.inl rfl) rfl p
theorem LvAt.end (h : LvAt P j it T n a acc false tx t f) : Qr T (pure a : M Ty) t := ⟨h.eq.trans (if_neg Bool.false_ne_true)⟩
theorem LvAt.rd (h : LvAt P j it T n a acc true tx t f) (hl : Rl (rn it t) x s) (hst : ∀ i x j, it i = .ok x j → i + 1 ≤ j) : Qr T (colL P j it f (acc ++ [(tx, x)]) >>= fun l => (ret (foldLd n l) : M Ty)) s ∧ (s.k = 0 → t.i + 1 ≤ s.i) := ⟨⟨(h.eq.trans (if_pos rfl)).trans (rn_bind hl)⟩, rl_step hst (h.go rfl).1 hl⟩
theorem LvAt.next (h : LvAt P j it T n a acc true tx t f) (hl : Rl (rn it t) x s) (hst : ∀ i x j, it i = .ok x j → i + 1 ≤ j) (hj : neverB j = false) (hle : s.i ≤ P.toks.length) {jn : Ty} (hn : jn = joinD tx a x) {b1 : Bool} {t1 : ByteArray} (p : BetP P j s b1 t1 u) : ∃ f1, LvAt P j it T n jn (acc ++ [(tx, x)]) b1 t1 u f1 := by
 obtain ⟨q, hs⟩ := h.rd hl hst
 refine LvAt.of q (fun h0 => ?_) hle (.inr hj) ?_ p
 · have := hs h0
   have := h.fl rfl
   omega
 · rw [hn, h.al]
   unfold foldLd
   rw [List.foldl_append]
   rfl
theorem LvAt.stop (h : LvAt P j it T n a [] true tx t f) (hl : Rl (rn it t) x s) (hst : ∀ i x j, it i = .ok x j → i + 1 ≤ j) (hj : neverB j = true) {jn : Ty} (hn : jn = joinD tx a x) : Qr T (pure jn : M Ty) s := by
 refine ⟨(h.rd hl hst).1.eq.trans ?_⟩
 have ha : a = n := h.al
 rw [hn, ha]
 by_cases hs : s.k = 0
 · rw [rn_good hs, rn_good hs]
   show bnd (colL P j it f [(tx, x)]) _ _ = _
   unfold bnd
   rw [col_one hj]
   rfl
 · rw [rn_lost hs, rn_lost hs]
end
/-- the level that binds to the right -/
structure LvR (P : Src) (R : Rec) (T : Res Ty) (n : Ty) (b : Bool) (tx : ByteArray) (t : RS) (m : Nat) : Prop where
 eq : T = if b = true then rn (betB P R 3 >>= fun z => (ret (joinD tx n z) : M Ty)) t else rn (pure n : M Ty) t
 go : b = true → t.k = 0 ∧ (tx.toList == []) = false
 em : b = false → tx = ⟨#[]⟩
 fw : b = true → ∃ m', m = m' + 1 ∧ P.toks.length < t.i + m'
theorem LvR.first {P : Src} {R : Rec} {T : Res Ty} {n : Ty} {b : Bool} {tx : ByteArray} {s s1 u : RS} {m : Nat} (hst : ∀ i x j, betB P R 2 i = .ok x j → i + 1 ≤ j) (q : Qr T (colL P 3 (betB P R 2) (P.toks.length + 1) [] >>= fun l => (ret (foldR n l) : M Ty)) s1) (p : BetP P 3 s1 b tx u) (hl : Rl (rn (betB P R 2) s) n s1) (hm : s.k = 0 → P.toks.length < s.i + m) (hle : s.i ≤ P.toks.length) : LvR P R T n b tx u m := by
 refine ⟨?_, p.sg, fun e => (p.no e).2.1, fun e => ?_⟩
 · cases b with
   | true =>
    obtain ⟨h1, h2, h3, h4⟩ := p.go rfl
    rw [if_pos rfl, h3, h4]
    exact bet3_step hst q.eq h1 h2
   | false =>
    obtain ⟨h1, h2, h3⟩ := p.no rfl
    rw [if_neg Bool.false_ne_true, h3]
    exact bet3_none q.eq h1
 · obtain ⟨h1, h2, h3, h4⟩ := p.go e
   have h5 := rl_back hl h1
   have h6 := rl_step hst h5 hl h1
   have h7 := hm h5
   refine ⟨m - 1, by omega, ?_⟩
   rw [h4]
   show _ < s1.i + 1 + (m - 1)
   omega
theorem csigns8_any (E : Env) (g : Nat) (RA : RAll E g) (w : World) (s : RS) (h : Rr E w s (60 - g)) : Calls Tryz.prog 155 #[pr E, .int .i64 8] w (RPost E (60 - g) w (rn (betB E.P (recS E.P g) 0) s) (NdQ w)) := by
 refine Br.go (m := applyB E.P (recS E.P g)) h RA ?_
 intro d T W R hW B Q hlr hN
 have HAPP := at_d R.hd (capply_any E g RA)
 clear h RA
 unfold pr at HAPP ⊢
 go_enter Tryz.func155, Tryz.ntmps155
 obtain ⟨Q9, p9⟩ := Po9.ex Tryz.f155 E d w T (NdQ w)
 rw [p9.eq]
 go_upto_region 1 with fail
 clear hW
 go_upto_region 2 with fail
 go_wp2_with (go_at_call 185; refine B.ndt Q HAPP ?_; clear B Q; intro u1 n aon capn s2 B Q; have c3 := B.cr)
 exact Br.fin (n) B p9 Q rfl rfl
theorem csigns7_any (E : Env) (g : Nat) (RA : RAll E g) (w : World) (s : RS) (h : Rr E w s (60 - g)) : Calls Tryz.prog 155 #[pr E, .int .i64 7] w (RPost E (60 - g) w (rn (betB E.P (recS E.P g) 1) s) (NdQ w)) := by
 rw [show rn (betB E.P (recS E.P g) 1) s = rn (betB E.P (recS E.P g) 0 >>= fun n => colL E.P 1 (betB E.P (recS E.P g) 0) (E.P.toks.length + 1) [] >>= fun l => (ret (foldLd n l) : M Ty)) s from congrArg (fun m => rn m s) (bet_eq E.P (recS E.P g) 0 (by decide))]
 refine Br.go (m := betB E.P (recS E.P g) 0 >>= fun n => colL E.P 1 (betB E.P (recS E.P g) 0) (E.P.toks.length + 1) [] >>= fun l => (ret (foldLd n l) : M Ty)) h RA ?_
 intro d T W R hW B Q hlr hN
 have HSG := at_d R.hd (csigns8_any E g RA)
 have HST := lh (show ∀ i x j, betB E.P (recS E.P g) 0 i = .ok x j → i + 1 ≤ j from fun i x j e => st_bet E.P _ (st_rec E.P g).2 0 i x j e)
 clear h RA
 unfold pr at HSG ⊢
 go_enter Tryz.func155, Tryz.ntmps155
 obtain ⟨Q9, p9⟩ := Po9.ex Tryz.f155 E d w T (NdQ w)
 rw [p9.eq]
 go_upto_region 1 with fail
 clear hW
 go_upto_region 3 with fail
 go_upto_region 4 with (go_at_call 155; refine B.nd Q HSG ?_; clear B Q; intro u1 n aon capn s2 hl B Q; have HRL := lh hl; clear hl)
 generalize hb : u1.heap.size = b4
 generalize h : u1.alloc _ = V3
 replace B := B.box h hb
 clear h hb
 have LE := lh B.F.R.le
 go_upto_region 5 with (go_at_call 186; refine B.bet 7 1 (by decide) rfl ?_; clear B; intro u5 b0 t0 u0 pb0 B; have Pb0 := lh pb0; clear pb0)
 obtain ⟨f0, H⟩ := LvAt.first Q LE.out Pb0.out
 go_loopw [6] (fun va wr => ∃ (a : Ty) (ao : Option Addr) (cap : Nat) (acc : List (ByteArray × Ty)) (b : Bool) (tx : ByteArray) (t : RS) (f : Nat), va = .string tx ∧ LvAt E.P 1 (betB E.P (recS E.P g) 0) T n a acc b tx t f ∧ Br E w d wr t [.kd a.args ao cap, .nv b4 (.int .i64 a.k) (.int .i64 a.n) (.string a.s) (.int .i64 a.q) (.slice ao a.args.length cap)]) (fun _ wr => leftOf E.P.toks.length wr E.rb)
 case atStart => exact ⟨n, aon, capn, [], b0, t0, u0, f0, rfl, H, B.mv1⟩
 case round =>
  clear B H Q HRL LE
  obtain ⟨a, ao, cap, acc, b, tx, t, f, rfl, h, B⟩ := hrel
  have H := lh h
  clear h
  cases b with
  | false =>
   obtain rfl := H.out.em rfl
   have Q := H.out.end
   go_upto_region 14 with fail
   have c6 := B.mv1.S.cs B.F.rb; have c7 := B.cr
   go_wp2_with fail
   exact Br.fin (a) B p9 Q.pr rfl rfl
  | true =>
   have GO := lh (H.out.go rfl)
   have etx := GO.out.2
   have R0 := lh B.F.R
   go_upto_region 9 with fail
   go_upto_region 10 with (go_at_call 155; refine B.ndx HSG ?_; clear B; intro u8 q aoq capq s9 hl B; have HRL := lh hl; clear hl)
   generalize hb : u8.heap.size = b11
   generalize h : u8.alloc _ = V10
   replace B := B.box h hb
   clear h hb
   have c12 := B.mv3.S.cs B.F.rb; have c13 := B.S.cs B.F.rb
   go_upto_region 11 with (go_at_call 187; refine B.mv1.mv2.pair ?_; clear B; intro u14 q9 jn HJ B; have c15 := B.mv2.S.cs B.F.rb)
   clear c12 c13 c15
   generalize h : ((((u14.setCell _ _).setCell _ _).setCell _ _).setCell _ _).setCell _ _ = X16
   replace B := B.mv2.sn h
   clear h
   go_upto_region 13 with fail
   have LE := lh B.F.R.le
   go_wp2_with (go_at_call 186; refine B.bet 7 1 (by decide) rfl ?_; clear B; intro u17 b1 t1 u1 pb1 B; have Pb1 := lh pb1; clear pb1)
   obtain ⟨f1, h1⟩ := H.out.next HRL.out HST.out (by rfl) LE.out HJ.out Pb1.out
   go_roundw
   case rel => exact ⟨jn, _, _, _, b1, t1, u1, f1, rfl, h1, B.mv2.dr.mv1⟩
   case measure => exact left_less R0.out B.F.R GO.out.1 Pb1.out.after (H.out.rd HRL.out HST.out).2
theorem csigns6_any (E : Env) (g : Nat) (RA : RAll E g) (w : World) (s : RS) (h : Rr E w s (60 - g)) : Calls Tryz.prog 155 #[pr E, .int .i64 6] w (RPost E (60 - g) w (rn (betB E.P (recS E.P g) 2) s) (NdQ w)) := by
 rw [show rn (betB E.P (recS E.P g) 2) s = rn (betB E.P (recS E.P g) 1 >>= fun n => colL E.P 2 (betB E.P (recS E.P g) 1) (E.P.toks.length + 1) [] >>= fun l => (ret (foldLd n l) : M Ty)) s from congrArg (fun m => rn m s) (bet_eq E.P (recS E.P g) 1 (by decide))]
 refine Br.go (m := betB E.P (recS E.P g) 1 >>= fun n => colL E.P 2 (betB E.P (recS E.P g) 1) (E.P.toks.length + 1) [] >>= fun l => (ret (foldLd n l) : M Ty)) h RA ?_
 intro d T W R hW B Q hlr hN
 have HSG := at_d R.hd (csigns7_any E g RA)
 have HST := lh (show ∀ i x j, betB E.P (recS E.P g) 1 i = .ok x j → i + 1 ≤ j from fun i x j e => st_bet E.P _ (st_rec E.P g).2 1 i x j e)
 clear h RA
 unfold pr at HSG ⊢
 go_enter Tryz.func155, Tryz.ntmps155
 obtain ⟨Q9, p9⟩ := Po9.ex Tryz.f155 E d w T (NdQ w)
 rw [p9.eq]
 go_upto_region 1 with fail
 clear hW
 go_upto_region 3 with fail
 go_upto_region 4 with (go_at_call 155; refine B.nd Q HSG ?_; clear B Q; intro u1 n aon capn s2 hl B Q; have HRL := lh hl; clear hl)
 generalize hb : u1.heap.size = b4
 generalize h : u1.alloc _ = V3
 replace B := B.box h hb
 clear h hb
 have LE := lh B.F.R.le
 go_upto_region 5 with (go_at_call 186; refine B.bet 6 2 (by decide) rfl ?_; clear B; intro u5 b0 t0 u0 pb0 B; have Pb0 := lh pb0; clear pb0)
 obtain ⟨f0, H⟩ := LvAt.first Q LE.out Pb0.out
 go_loopw [6] (fun va wr => ∃ (a : Ty) (ao : Option Addr) (cap : Nat) (acc : List (ByteArray × Ty)) (b : Bool) (tx : ByteArray) (t : RS) (f : Nat), va = .string tx ∧ LvAt E.P 2 (betB E.P (recS E.P g) 1) T n a acc b tx t f ∧ Br E w d wr t [.kd a.args ao cap, .nv b4 (.int .i64 a.k) (.int .i64 a.n) (.string a.s) (.int .i64 a.q) (.slice ao a.args.length cap)]) (fun _ wr => leftOf E.P.toks.length wr E.rb)
 case atStart => exact ⟨n, aon, capn, [], b0, t0, u0, f0, rfl, H, B.mv1⟩
 case round =>
  clear B H Q HRL LE
  obtain ⟨a, ao, cap, acc, b, tx, t, f, rfl, h, B⟩ := hrel
  have H := lh h
  clear h
  cases b with
  | false =>
   obtain rfl := H.out.em rfl
   have Q := H.out.end
   go_upto_region 14 with fail
   have c6 := B.mv1.S.cs B.F.rb; have c7 := B.cr
   go_wp2_with fail
   exact Br.fin (a) B p9 Q.pr rfl rfl
  | true =>
   have GO := lh (H.out.go rfl)
   have etx := GO.out.2
   have R0 := lh B.F.R
   go_upto_region 9 with fail
   go_upto_region 10 with (go_at_call 155; refine B.ndx HSG ?_; clear B; intro u8 q aoq capq s9 hl B; have HRL := lh hl; clear hl)
   generalize hb : u8.heap.size = b11
   generalize h : u8.alloc _ = V10
   replace B := B.box h hb
   clear h hb
   have c12 := B.mv3.S.cs B.F.rb; have c13 := B.S.cs B.F.rb
   go_upto_region 11 with (go_at_call 187; refine B.mv1.mv2.pair ?_; clear B; intro u14 q9 jn HJ B; have c15 := B.mv2.S.cs B.F.rb)
   clear c12 c13 c15
   generalize h : ((((u14.setCell _ _).setCell _ _).setCell _ _).setCell _ _).setCell _ _ = X16
   replace B := B.mv2.sn h
   clear h
   go_upto_region 13 with fail
   have LE := lh B.F.R.le
   go_wp2_with (go_at_call 186; refine B.bet 6 2 (by decide) rfl ?_; clear B; intro u17 b1 t1 u1 pb1 B; have Pb1 := lh pb1; clear pb1)
   obtain ⟨f1, h1⟩ := H.out.next HRL.out HST.out (by rfl) LE.out HJ.out Pb1.out
   go_roundw
   case rel => exact ⟨jn, _, _, _, b1, t1, u1, f1, rfl, h1, B.mv2.dr.mv1⟩
   case measure => exact left_less R0.out B.F.R GO.out.1 Pb1.out.after (H.out.rd HRL.out HST.out).2
theorem csigns5_step (E : Env) (g : Nat) (RA : RAll E g) (w : World) (s : RS) (m : Nat) (hm : s.k = 0 → E.P.toks.length < s.i + m) (IH : ∀ m', m = m' + 1 → ∀ w1 s1, Rr E w1 s1 (60 - g) → (s1.k = 0 → E.P.toks.length < s1.i + m') → Calls Tryz.prog 155 #[pr E, .int .i64 5] w1 (RPost E (60 - g) w1 (rn (betB E.P (recS E.P g) 3) s1) (NdQ w1))) (h : Rr E w s (60 - g)) : Calls Tryz.prog 155 #[pr E, .int .i64 5] w (RPost E (60 - g) w (rn (betB E.P (recS E.P g) 3) s) (NdQ w)) := by
 rw [show rn (betB E.P (recS E.P g) 3) s = rn (betB E.P (recS E.P g) 2 >>= fun n => colL E.P 3 (betB E.P (recS E.P g) 2) (E.P.toks.length + 1) [] >>= fun l => (ret (foldR n l) : M Ty)) s from congrArg (fun m => rn m s) (bet3_eq E.P (recS E.P g))]
 refine Br.go (m := betB E.P (recS E.P g) 2 >>= fun n => colL E.P 3 (betB E.P (recS E.P g) 2) (E.P.toks.length + 1) [] >>= fun l => (ret (foldR n l) : M Ty)) h RA ?_
 intro d T W R hW B Q hlr hN
 have HSG := at_d R.hd (csigns6_any E g RA)
 have HST := lh (show ∀ i x j, betB E.P (recS E.P g) 2 i = .ok x j → i + 1 ≤ j from fun i x j e => st_bet E.P _ (st_rec E.P g).2 2 i x j e)
 have HM := lh hm
 have HIH := lh IH
 have HLE := lh h.le
 rw [← R.hd] at HIH
 clear h RA IH hm
 unfold pr at HSG HIH ⊢
 go_enter Tryz.func155, Tryz.ntmps155
 obtain ⟨Q9, p9⟩ := Po9.ex Tryz.f155 E d w T (NdQ w)
 rw [p9.eq]
 go_upto_region 1 with fail
 clear hW
 go_upto_region 3 with fail
 go_upto_region 4 with (go_at_call 155; refine B.nd Q HSG ?_; clear B Q; intro u1 n aon capn s2 hl B Q; have HRL := lh hl; clear hl)
 generalize hb : u1.heap.size = b4
 generalize h : u1.alloc _ = V3
 replace B := B.box h hb
 clear h hb
 have LE := lh B.F.R.le
 go_upto_region 5 with (go_at_call 186; refine B.bet 5 3 (by decide) rfl ?_; clear B; intro u5 b0 t0 u0 pb0 B; have Pb0 := lh pb0; clear pb0)
 have H := LvR.first HST.out Q Pb0.out HRL.out HM.out HLE.out
 go_loopw [6] (fun va wr => ∃ (b : Bool) (tx : ByteArray) (t : RS), va = .string tx ∧ LvR E.P (recS E.P g) T n b tx t m ∧ Br E w d wr t [.kd n.args aon capn, .nv b4 (.int .i64 n.k) (.int .i64 n.n) (.string n.s) (.int .i64 n.q) (.slice aon n.args.length capn)]) (fun _ wr => leftOf E.P.toks.length wr E.rb)
 case atStart => exact ⟨b0, t0, u0, rfl, H, B.mv1⟩
 case round =>
  clear B H Q HRL LE
  obtain ⟨b, tx, t, rfl, h, B⟩ := hrel
  have H := lh h
  clear h
  cases b with
  | false =>
   obtain rfl := H.out.em rfl
   have Q : Qr T (pure n : M Ty) t := ⟨H.out.eq.trans (if_neg Bool.false_ne_true)⟩
   go_upto_region 14 with fail
   have c6 := B.mv1.S.cs B.F.rb; have c7 := B.cr
   go_wp2_with fail
   exact Br.fin (n) B p9 Q.pr rfl rfl
  | true =>
   have GO := lh (H.out.go rfl)
   have etx := GO.out.2
   have R0 := lh B.F.R
   obtain ⟨m', h1, h2⟩ := H.out.fw rfl
   have HPR := lh (fun w1 h3 => HIH.out m' h1 w1 t h3 (fun _ => h2))
   clear h1 h2
   have Q : Qr T (betB E.P (recS E.P g) 3 >>= fun z => (ret (joinD tx n z) : M Ty)) t := ⟨H.out.eq.trans (if_pos rfl)⟩
   go_upto_region 7 with fail
   go_upto_region 8 with (go_at_call 155; refine B.ndc (HPR.out _ B.F.R) ?_; clear B; intro u8 q aoq capq s9 hl B; replace Q := Q.rd hl; clear hl)
   generalize hb : u8.heap.size = b11
   generalize h : u8.alloc _ = V10
   replace B := B.box h hb
   clear h hb
   have c12 := B.mv3.S.cs B.F.rb; have c13 := B.S.cs B.F.rb
   go_wp2_with (go_at_call 187; refine B.mv1.mv2.pair ?_; clear B; intro u14 q9 jn HJ B; have c15 := B.cr)
   exact Br.fin (jn) B p9 (by rw [HJ.out]; exact Q.pr) rfl rfl
theorem csigns5_f (E : Env) (g : Nat) (RA : RAll E g) : ∀ (f : Nat) (w : World) (s : RS), Rr E w s (60 - g) → (s.k = 0 → E.P.toks.length < s.i + f) → Calls Tryz.prog 155 #[pr E, .int .i64 5] w (RPost E (60 - g) w (rn (betB E.P (recS E.P g) 3) s) (NdQ w))
 | 0, w, s, h, hf => csigns5_step E g RA w s 0 hf (fun f' e => by omega) h
 | f + 1, w, s, h, hf => csigns5_step E g RA w s (f + 1) hf (fun f' e w1 s1 h1 h2 => by
  obtain rfl : f = f' := by omega
  exact csigns5_f E g RA f w1 s1 h1 h2) h
theorem csigns5_any (E : Env) (g : Nat) (RA : RAll E g) (w : World) (s : RS) (h : Rr E w s (60 - g)) : Calls Tryz.prog 155 #[pr E, .int .i64 5] w (RPost E (60 - g) w (rn (betB E.P (recS E.P g) 3) s) (NdQ w)) := csigns5_f E g RA (E.P.toks.length + 1) w s h (fun _ => by omega)
theorem csigns4_any (E : Env) (g : Nat) (RA : RAll E g) (w : World) (s : RS) (h : Rr E w s (60 - g)) : Calls Tryz.prog 155 #[pr E, .int .i64 4] w (RPost E (60 - g) w (rn (betB E.P (recS E.P g) 4) s) (NdQ w)) := by
 rw [show rn (betB E.P (recS E.P g) 4) s = rn (betB E.P (recS E.P g) 3 >>= fun n => colL E.P 4 (betB E.P (recS E.P g) 3) (E.P.toks.length + 1) [] >>= fun l => (ret (foldLd n l) : M Ty)) s from congrArg (fun m => rn m s) (bet_eq E.P (recS E.P g) 3 (by decide))]
 refine Br.go (m := betB E.P (recS E.P g) 3 >>= fun n => colL E.P 4 (betB E.P (recS E.P g) 3) (E.P.toks.length + 1) [] >>= fun l => (ret (foldLd n l) : M Ty)) h RA ?_
 intro d T W R hW B Q hlr hN
 have HSG := at_d R.hd (csigns5_any E g RA)
 have HST := lh (show ∀ i x j, betB E.P (recS E.P g) 3 i = .ok x j → i + 1 ≤ j from fun i x j e => st_bet E.P _ (st_rec E.P g).2 3 i x j e)
 clear h RA
 unfold pr at HSG ⊢
 go_enter Tryz.func155, Tryz.ntmps155
 obtain ⟨Q9, p9⟩ := Po9.ex Tryz.f155 E d w T (NdQ w)
 rw [p9.eq]
 go_upto_region 1 with fail
 clear hW
 go_upto_region 3 with fail
 go_upto_region 4 with (go_at_call 155; refine B.nd Q HSG ?_; clear B Q; intro u1 n aon capn s2 hl B Q; have HRL := lh hl; clear hl)
 generalize hb : u1.heap.size = b4
 generalize h : u1.alloc _ = V3
 replace B := B.box h hb
 clear h hb
 have LE := lh B.F.R.le
 go_upto_region 5 with (go_at_call 186; refine B.bet 4 4 (by decide) rfl ?_; clear B; intro u5 b0 t0 u0 pb0 B; have Pb0 := lh pb0; clear pb0)
 obtain ⟨f0, H⟩ := LvAt.first Q LE.out Pb0.out
 go_loopw [6] (fun va wr => ∃ (a : Ty) (ao : Option Addr) (cap : Nat) (acc : List (ByteArray × Ty)) (b : Bool) (tx : ByteArray) (t : RS) (f : Nat), va = .string tx ∧ LvAt E.P 4 (betB E.P (recS E.P g) 3) T n a acc b tx t f ∧ Br E w d wr t [.kd a.args ao cap, .nv b4 (.int .i64 a.k) (.int .i64 a.n) (.string a.s) (.int .i64 a.q) (.slice ao a.args.length cap)] ∧ acc = []) (fun _ wr => leftOf E.P.toks.length wr E.rb)
 case atStart => exact ⟨n, aon, capn, [], b0, t0, u0, f0, rfl, H, B.mv1, rfl⟩
 case round =>
  clear B H Q HRL LE
  obtain ⟨a, ao, cap, acc, b, tx, t, f, rfl, h, B, rfl⟩ := hrel
  have H := lh h
  clear h
  cases b with
  | false =>
   obtain rfl := H.out.em rfl
   have Q := H.out.end
   go_upto_region 14 with fail
   have c6 := B.mv1.S.cs B.F.rb; have c7 := B.cr
   go_wp2_with fail
   exact Br.fin (a) B p9 Q.pr rfl rfl
  | true =>
   have GO := lh (H.out.go rfl)
   have etx := GO.out.2
   have R0 := lh B.F.R
   go_upto_region 9 with fail
   go_upto_region 10 with (go_at_call 155; refine B.ndx HSG ?_; clear B; intro u8 q aoq capq s9 hl B; have HRL := lh hl; clear hl)
   generalize hb : u8.heap.size = b11
   generalize h : u8.alloc _ = V10
   replace B := B.box h hb
   clear h hb
   have c12 := B.mv3.S.cs B.F.rb; have c13 := B.S.cs B.F.rb
   go_upto_region 11 with (go_at_call 187; refine B.mv1.mv2.pair ?_; clear B; intro u14 q9 jn HJ B; have c15 := B.mv2.S.cs B.F.rb)
   clear c12 c13 c15
   generalize h : ((((u14.setCell _ _).setCell _ _).setCell _ _).setCell _ _).setCell _ _ = X16
   replace B := B.mv2.sn h
   clear h
   have Q := H.out.stop HRL.out HST.out (by rfl) HJ.out
   go_upto_region 12 with fail
   have c17 := B.S.cs B.F.rb; have c18 := B.cr
   go_wp2_with fail
   exact Br.fin (jn) B.mv1 p9 Q.pr rfl rfl
theorem csigns3_any (E : Env) (g : Nat) (RA : RAll E g) (w : World) (s : RS) (h : Rr E w s (60 - g)) : Calls Tryz.prog 155 #[pr E, .int .i64 3] w (RPost E (60 - g) w (rn (betB E.P (recS E.P g) 5) s) (NdQ w)) := by
 rw [show rn (betB E.P (recS E.P g) 5) s = rn (betB E.P (recS E.P g) 4 >>= fun n => colL E.P 5 (betB E.P (recS E.P g) 4) (E.P.toks.length + 1) [] >>= fun l => (ret (foldLd n l) : M Ty)) s from congrArg (fun m => rn m s) (bet_eq E.P (recS E.P g) 4 (by decide))]
 refine Br.go (m := betB E.P (recS E.P g) 4 >>= fun n => colL E.P 5 (betB E.P (recS E.P g) 4) (E.P.toks.length + 1) [] >>= fun l => (ret (foldLd n l) : M Ty)) h RA ?_
 intro d T W R hW B Q hlr hN
 have HSG := at_d R.hd (csigns4_any E g RA)
 have HST := lh (show ∀ i x j, betB E.P (recS E.P g) 4 i = .ok x j → i + 1 ≤ j from fun i x j e => st_bet E.P _ (st_rec E.P g).2 4 i x j e)
 clear h RA
 unfold pr at HSG ⊢
 go_enter Tryz.func155, Tryz.ntmps155
 obtain ⟨Q9, p9⟩ := Po9.ex Tryz.f155 E d w T (NdQ w)
 rw [p9.eq]
 go_upto_region 1 with fail
 clear hW
 go_upto_region 3 with fail
 go_upto_region 4 with (go_at_call 155; refine B.nd Q HSG ?_; clear B Q; intro u1 n aon capn s2 hl B Q; have HRL := lh hl; clear hl)
 generalize hb : u1.heap.size = b4
 generalize h : u1.alloc _ = V3
 replace B := B.box h hb
 clear h hb
 have LE := lh B.F.R.le
 go_upto_region 5 with (go_at_call 186; refine B.bet 3 5 (by decide) rfl ?_; clear B; intro u5 b0 t0 u0 pb0 B; have Pb0 := lh pb0; clear pb0)
 obtain ⟨f0, H⟩ := LvAt.first Q LE.out Pb0.out
 go_loopw [6] (fun va wr => ∃ (a : Ty) (ao : Option Addr) (cap : Nat) (acc : List (ByteArray × Ty)) (b : Bool) (tx : ByteArray) (t : RS) (f : Nat), va = .string tx ∧ LvAt E.P 5 (betB E.P (recS E.P g) 4) T n a acc b tx t f ∧ Br E w d wr t [.kd a.args ao cap, .nv b4 (.int .i64 a.k) (.int .i64 a.n) (.string a.s) (.int .i64 a.q) (.slice ao a.args.length cap)]) (fun _ wr => leftOf E.P.toks.length wr E.rb)
 case atStart => exact ⟨n, aon, capn, [], b0, t0, u0, f0, rfl, H, B.mv1⟩
 case round =>
  clear B H Q HRL LE
  obtain ⟨a, ao, cap, acc, b, tx, t, f, rfl, h, B⟩ := hrel
  have H := lh h
  clear h
  cases b with
  | false =>
   obtain rfl := H.out.em rfl
   have Q := H.out.end
   go_upto_region 14 with fail
   have c6 := B.mv1.S.cs B.F.rb; have c7 := B.cr
   go_wp2_with fail
   exact Br.fin (a) B p9 Q.pr rfl rfl
  | true =>
   have GO := lh (H.out.go rfl)
   have etx := GO.out.2
   have R0 := lh B.F.R
   go_upto_region 9 with fail
   go_upto_region 10 with (go_at_call 155; refine B.ndx HSG ?_; clear B; intro u8 q aoq capq s9 hl B; have HRL := lh hl; clear hl)
   generalize hb : u8.heap.size = b11
   generalize h : u8.alloc _ = V10
   replace B := B.box h hb
   clear h hb
   have c12 := B.mv3.S.cs B.F.rb; have c13 := B.S.cs B.F.rb
   go_upto_region 11 with (go_at_call 187; refine B.mv1.mv2.pair ?_; clear B; intro u14 q9 jn HJ B; have c15 := B.mv2.S.cs B.F.rb)
   clear c12 c13 c15
   generalize h : ((((u14.setCell _ _).setCell _ _).setCell _ _).setCell _ _).setCell _ _ = X16
   replace B := B.mv2.sn h
   clear h
   go_upto_region 13 with fail
   have LE := lh B.F.R.le
   go_wp2_with (go_at_call 186; refine B.bet 3 5 (by decide) rfl ?_; clear B; intro u17 b1 t1 u1 pb1 B; have Pb1 := lh pb1; clear pb1)
   obtain ⟨f1, h1⟩ := H.out.next HRL.out HST.out (by rfl) LE.out HJ.out Pb1.out
   go_roundw
   case rel => exact ⟨jn, _, _, _, b1, t1, u1, f1, rfl, h1, B.mv2.dr.mv1⟩
   case measure => exact left_less R0.out B.F.R GO.out.1 Pb1.out.after (H.out.rd HRL.out HST.out).2
theorem csigns2_any (E : Env) (g : Nat) (RA : RAll E g) (w : World) (s : RS) (h : Rr E w s (60 - g)) : Calls Tryz.prog 155 #[pr E, .int .i64 2] w (RPost E (60 - g) w (rn (betB E.P (recS E.P g) 6) s) (NdQ w)) := by
 rw [show rn (betB E.P (recS E.P g) 6) s = rn (betB E.P (recS E.P g) 5 >>= fun n => colL E.P 6 (betB E.P (recS E.P g) 5) (E.P.toks.length + 1) [] >>= fun l => (ret (foldLd n l) : M Ty)) s from congrArg (fun m => rn m s) (bet_eq E.P (recS E.P g) 5 (by decide))]
 refine Br.go (m := betB E.P (recS E.P g) 5 >>= fun n => colL E.P 6 (betB E.P (recS E.P g) 5) (E.P.toks.length + 1) [] >>= fun l => (ret (foldLd n l) : M Ty)) h RA ?_
 intro d T W R hW B Q hlr hN
 have HSG := at_d R.hd (csigns3_any E g RA)
 have HST := lh (show ∀ i x j, betB E.P (recS E.P g) 5 i = .ok x j → i + 1 ≤ j from fun i x j e => st_bet E.P _ (st_rec E.P g).2 5 i x j e)
 clear h RA
 unfold pr at HSG ⊢
 go_enter Tryz.func155, Tryz.ntmps155
 obtain ⟨Q9, p9⟩ := Po9.ex Tryz.f155 E d w T (NdQ w)
 rw [p9.eq]
 go_upto_region 1 with fail
 clear hW
 go_upto_region 3 with fail
 go_upto_region 4 with (go_at_call 155; refine B.nd Q HSG ?_; clear B Q; intro u1 n aon capn s2 hl B Q; have HRL := lh hl; clear hl)
 generalize hb : u1.heap.size = b4
 generalize h : u1.alloc _ = V3
 replace B := B.box h hb
 clear h hb
 have LE := lh B.F.R.le
 go_upto_region 5 with (go_at_call 186; refine B.bet 2 6 (by decide) rfl ?_; clear B; intro u5 b0 t0 u0 pb0 B; have Pb0 := lh pb0; clear pb0)
 obtain ⟨f0, H⟩ := LvAt.first Q LE.out Pb0.out
 go_loopw [6] (fun va wr => ∃ (a : Ty) (ao : Option Addr) (cap : Nat) (acc : List (ByteArray × Ty)) (b : Bool) (tx : ByteArray) (t : RS) (f : Nat), va = .string tx ∧ LvAt E.P 6 (betB E.P (recS E.P g) 5) T n a acc b tx t f ∧ Br E w d wr t [.kd a.args ao cap, .nv b4 (.int .i64 a.k) (.int .i64 a.n) (.string a.s) (.int .i64 a.q) (.slice ao a.args.length cap)]) (fun _ wr => leftOf E.P.toks.length wr E.rb)
 case atStart => exact ⟨n, aon, capn, [], b0, t0, u0, f0, rfl, H, B.mv1⟩
 case round =>
  clear B H Q HRL LE
  obtain ⟨a, ao, cap, acc, b, tx, t, f, rfl, h, B⟩ := hrel
  have H := lh h
  clear h
  cases b with
  | false =>
   obtain rfl := H.out.em rfl
   have Q := H.out.end
   go_upto_region 14 with fail
   have c6 := B.mv1.S.cs B.F.rb; have c7 := B.cr
   go_wp2_with fail
   exact Br.fin (a) B p9 Q.pr rfl rfl
  | true =>
   have GO := lh (H.out.go rfl)
   have etx := GO.out.2
   have R0 := lh B.F.R
   go_upto_region 9 with fail
   go_upto_region 10 with (go_at_call 155; refine B.ndx HSG ?_; clear B; intro u8 q aoq capq s9 hl B; have HRL := lh hl; clear hl)
   generalize hb : u8.heap.size = b11
   generalize h : u8.alloc _ = V10
   replace B := B.box h hb
   clear h hb
   have c12 := B.mv3.S.cs B.F.rb; have c13 := B.S.cs B.F.rb
   go_upto_region 11 with (go_at_call 187; refine B.mv1.mv2.pair ?_; clear B; intro u14 q9 jn HJ B; have c15 := B.mv2.S.cs B.F.rb)
   clear c12 c13 c15
   generalize h : ((((u14.setCell _ _).setCell _ _).setCell _ _).setCell _ _).setCell _ _ = X16
   replace B := B.mv2.sn h
   clear h
   go_upto_region 13 with fail
   have LE := lh B.F.R.le
   go_wp2_with (go_at_call 186; refine B.bet 2 6 (by decide) rfl ?_; clear B; intro u17 b1 t1 u1 pb1 B; have Pb1 := lh pb1; clear pb1)
   obtain ⟨f1, h1⟩ := H.out.next HRL.out HST.out (by rfl) LE.out HJ.out Pb1.out
   go_roundw
   case rel => exact ⟨jn, _, _, _, b1, t1, u1, f1, rfl, h1, B.mv2.dr.mv1⟩
   case measure => exact left_less R0.out B.F.R GO.out.1 Pb1.out.after (H.out.rd HRL.out HST.out).2
theorem csigns1_any (E : Env) (g : Nat) (RA : RAll E g) (w : World) (s : RS) (h : Rr E w s (60 - g)) : Calls Tryz.prog 155 #[pr E, .int .i64 1] w (RPost E (60 - g) w (rn (betB E.P (recS E.P g) 7) s) (NdQ w)) := by
 rw [show rn (betB E.P (recS E.P g) 7) s = rn (betB E.P (recS E.P g) 6 >>= fun n => colL E.P 7 (betB E.P (recS E.P g) 6) (E.P.toks.length + 1) [] >>= fun l => (ret (foldLd n l) : M Ty)) s from congrArg (fun m => rn m s) (bet_eq E.P (recS E.P g) 6 (by decide))]
 refine Br.go (m := betB E.P (recS E.P g) 6 >>= fun n => colL E.P 7 (betB E.P (recS E.P g) 6) (E.P.toks.length + 1) [] >>= fun l => (ret (foldLd n l) : M Ty)) h RA ?_
 intro d T W R hW B Q hlr hN
 have HSG := at_d R.hd (csigns2_any E g RA)
 have HST := lh (show ∀ i x j, betB E.P (recS E.P g) 6 i = .ok x j → i + 1 ≤ j from fun i x j e => st_bet E.P _ (st_rec E.P g).2 6 i x j e)
 clear h RA
 unfold pr at HSG ⊢
 go_enter Tryz.func155, Tryz.ntmps155
 obtain ⟨Q9, p9⟩ := Po9.ex Tryz.f155 E d w T (NdQ w)
 rw [p9.eq]
 go_upto_region 1 with fail
 clear hW
 go_upto_region 3 with fail
 go_upto_region 4 with (go_at_call 155; refine B.nd Q HSG ?_; clear B Q; intro u1 n aon capn s2 hl B Q; have HRL := lh hl; clear hl)
 generalize hb : u1.heap.size = b4
 generalize h : u1.alloc _ = V3
 replace B := B.box h hb
 clear h hb
 have LE := lh B.F.R.le
 go_upto_region 5 with (go_at_call 186; refine B.bet 1 7 (by decide) rfl ?_; clear B; intro u5 b0 t0 u0 pb0 B; have Pb0 := lh pb0; clear pb0)
 obtain ⟨f0, H⟩ := LvAt.first Q LE.out Pb0.out
 go_loopw [6] (fun va wr => ∃ (a : Ty) (ao : Option Addr) (cap : Nat) (acc : List (ByteArray × Ty)) (b : Bool) (tx : ByteArray) (t : RS) (f : Nat), va = .string tx ∧ LvAt E.P 7 (betB E.P (recS E.P g) 6) T n a acc b tx t f ∧ Br E w d wr t [.kd a.args ao cap, .nv b4 (.int .i64 a.k) (.int .i64 a.n) (.string a.s) (.int .i64 a.q) (.slice ao a.args.length cap)] ∧ acc = []) (fun _ wr => leftOf E.P.toks.length wr E.rb)
 case atStart => exact ⟨n, aon, capn, [], b0, t0, u0, f0, rfl, H, B.mv1, rfl⟩
 case round =>
  clear B H Q HRL LE
  obtain ⟨a, ao, cap, acc, b, tx, t, f, rfl, h, B, rfl⟩ := hrel
  have H := lh h
  clear h
  cases b with
  | false =>
   obtain rfl := H.out.em rfl
   have Q := H.out.end
   go_upto_region 14 with fail
   have c6 := B.mv1.S.cs B.F.rb; have c7 := B.cr
   go_wp2_with fail
   exact Br.fin (a) B p9 Q.pr rfl rfl
  | true =>
   have GO := lh (H.out.go rfl)
   have etx := GO.out.2
   have R0 := lh B.F.R
   go_upto_region 9 with fail
   go_upto_region 10 with (go_at_call 155; refine B.ndx HSG ?_; clear B; intro u8 q aoq capq s9 hl B; have HRL := lh hl; clear hl)
   generalize hb : u8.heap.size = b11
   generalize h : u8.alloc _ = V10
   replace B := B.box h hb
   clear h hb
   have c12 := B.mv3.S.cs B.F.rb; have c13 := B.S.cs B.F.rb
   go_upto_region 11 with (go_at_call 187; refine B.mv1.mv2.pair ?_; clear B; intro u14 q9 jn HJ B; have c15 := B.mv2.S.cs B.F.rb)
   clear c12 c13 c15
   generalize h : ((((u14.setCell _ _).setCell _ _).setCell _ _).setCell _ _).setCell _ _ = X16
   replace B := B.mv2.sn h
   clear h
   have Q := H.out.stop HRL.out HST.out (by rfl) HJ.out
   go_upto_region 12 with fail
   have c17 := B.S.cs B.F.rb; have c18 := B.cr
   go_wp2_with fail
   exact Br.fin (jn) B.mv1 p9 Q.pr rfl rfl
end Go.Proofs.YthehjeeiodbkjaaGreatDoor
