/-
  Proved: the contract of the law's Prints: it returns true; the program's reader where it reads a number, a bracket, signs between, without a fault; the program's reader between signs of a level, where they bind to the left or there is none; what the program's reader reads of the tokens of the law's own text; what the program's lexer makes of the law's own text; what the program's Tokens answers to the law's own text; what the program's ParseExp answers to the law's own text. Conditions: the tables as they stand in memory; what the program reads of the law's own text; the reader as it stands in memory; which tokens stand there; the reader as it stands in memory; what the operands are; the reader as it stands in memory; the table of sorts; the tables as they stand in memory.
-/
import Derived.Test.YthehjeeiodbkjaaGreatDoorP01
import Derived.Test.YthehjeeiodbkjaaGreatDoorP11
import Derived.Test.YthehjeeiodbkjaaGreatDoorP17
import Derived.Test.YthehjeeiodbkjaaGreatDoorP16
import Derived.Test.YthehjeeiodbkjaaGreatDoorP13
import Derived.Test.YthehjeeiodbkjaaGreatDoorP06
set_option linter.unusedSimpArgs false
set_option linter.unusedVariables false
set_option linter.unusedSectionVars false
set_option maxRecDepth 100000
set_option maxHeartbeats 16000000
namespace Go.Proofs.YthehjeeiodbkjaaGreatDoor
open Go.RowKit
abbrev c_x : ByteArray := ⟨#[40, 49, 32, 43, 32, 50, 41, 32, 42, 32, 51]⟩
abbrev n_x : Ty := .mk 18 1 s_st 0 [.mk 18 1 s_pl 0 [.mk 1 1 e_ 1 [], .mk 1 5 e_ 2 []], .mk 1 10 e_ 3 []]
abbrev t_x : ByteArray := ⟨#[40, 32, 49, 32, 43, 32, 50, 32, 41, 32, 42, 32, 51]⟩
abbrev w_x : List ByteArray := (s_lp :: ((dgW 1 :: s_pl :: [dgW 2]) ++ [s_rp])) ++ s_st :: [dgW 3]
theorem nx_top : TopG 1 n_x w_x := by
 have i (N : Nat) (h : N ≤ 1000000000) (g : Nat) (l : Nat) (hl : l ≤ 10) (a : Int) : D (.ex l) g [.mk 1 a e_ N []] [dgW N] := .ex_np (.e_int h) hl (Nat.le_refl _);exact .ex_np (h := 59) (k := 7) (.e_op (by simp [opL]) (.ex_par (h := 58) (k := 6) (.e_op (by simp [opL]) (i 1 (by decide) _ _ (by decide) _) (i 2 (by decide) _ _ (by decide) _)) (by decide) (by decide)) (i 3 (by decide) _ _ (by decide) _)) (by decide) (by decide)
theorem nx_text : (⟨(jb w_x).toArray⟩ : ByteArray) = t_x := by decide +kernel
theorem nx_few : jl w_x ≤ 4000000000 := by decide +kernel
structure PosW (ws : List ByteArray) : Prop where
 p : ∀ w ∈ ws, 0 < w.size
theorem PosW.nil : PosW [] := ⟨fun w h => by cases h⟩
theorem PosW.cons {w : ByteArray} {ws : List ByteArray} (h : 0 < w.size) (h2 : PosW ws) : PosW (w :: ws) := ⟨fun x hx => by rcases List.mem_cons.1 hx with rfl | hx; exact h; exact h2.p x hx⟩
theorem PosW.app {a b : List ByteArray} (h : PosW a) (h2 : PosW b) : PosW (a ++ b) := ⟨fun x hx => (List.mem_append.1 hx).elim (h.p x) (h2.p x)⟩
theorem path_pos {k : Nat} {s : ByteArray} {ws : List ByteArray} (h : PathW k s ws) : PosW ws := by
 induction h with
 | low h => exact .cons h.pos .nil
 | up h => exact .cons h.pos .nil
 | more h hp ih => exact .cons h.pos (.cons (by decide) ih)
theorem or_pos {s a b : ByteArray} (h : s = a ∨ s = b) (ha : 0 < a.size ∧ 0 < b.size := by decide) : 0 < s.size := by rcases h with rfl | rfl; exact ha.1; exact ha.2
theorem or2_pos {s a b : ByteArray} {N : Nat} (h : s = a ∧ N = 1 ∨ s = b ∧ N = 2) (ha : 0 < a.size ∧ 0 < b.size := by decide) : 0 < s.size := by rcases h with ⟨rfl, -⟩ | ⟨rfl, -⟩; exact ha.1; exact ha.2
theorem op_pos {k : Nat} {s : ByteArray} (h : s ∈ opL k) : 0 < s.size := by
 unfold opL at h;have : ∀ x ∈ [s_asg, s_eq, s_ne, s_lt, s_le, s_gt, s_ge, s_cons, s_pl, s_mi, s_ca, s_st, s_sl, s_pc], 0 < x.size := by decide
 apply this
 split at h; simp at h ⊢; simp [h]
 split at h; simp at h ⊢; grind
 split at h; simp at h ⊢; simp [h]
 split at h; simp at h ⊢; grind
 split at h; simp at h ⊢; grind
 cases h
theorem dg_pos (n : Nat) : 0 < (dgW n).size := by
 unfold dgW
 show 0 < (dgL n).length
 unfold dgL;split <;> simp
theorem q_pos (s : ByteArray) : 0 < (qC s).size := by
 show 0 < (quoteL s.data.toList).length
 unfold quoteL; simp
def SepP : Cat → Prop
 | .row c s => 0 < s.size ∧ SepP c
 | .many c => SepP c
 | _ => True
theorem posD {X : Prop} {c : Cat} {g : Nat} {l : List Ty} {ws : List ByteArray} (h : DX X c g l ws) : SepP c → PosW ws := by
 induction h with
 | row1 _ ih => exact fun h => ih h.2
 | rowS _ _ ih ih2 => exact fun h => .app (ih h.2) (.cons h.1 (ih2 h))
 | mnil => exact fun _ => .nil
 | mcons _ _ ih ih2 => exact fun h => .app (ih h) (ih2 h)
 | _ => intro _; repeat' first | exact PosW.nil | exact path_pos (by assumption) | exact (by assumption : SepP _ → PosW _) (by first | exact trivial | exact ⟨by decide, trivial⟩) | refine PosW.app ?_ ?_ | refine PosW.cons ?_ ?_ | exact Nm.pos (by assumption) | exact dg_pos _ | exact q_pos _ | exact op_pos (by assumption) | exact or_pos (by assumption) | exact or2_pos (by assumption) | decide
theorem top_wz {k : Nat} {n : Ty} {ws : List ByteArray} (h : TopG k n ws) (hl : jl ws ≤ 4000000000) : Wz ws := by
 refine ⟨PosW.p ?_, hl⟩;unfold TopG at h;split at h
 · obtain ⟨l, -, h⟩ := h; exact posD h trivial
 split at h
 · exact posD h trivial
 split at h
 · exact posD h trivial
 · exact posD h trivial
structure AW (w : World) : Prop where
 t : TabOk w
 g : Gl w
 n : 9 ≤ w.heap.size
theorem AW.below {w w' : World} (h : AW w) (hb : Below w.heap.size w w') : AW w' :=
 ⟨h.t.below hb, h.g.of (fun b hb2 => hb.block b (by have := h.n; omega)), Nat.le_trans h.n hb.size⟩
theorem pair_laid (w1 : World) (n : Ty) (ao : Option Addr) (cap k a : Nat) : ∃ V, V = (w1.alloc (.cells (jh n ao cap) 26)).alloc (.cells #[.int .i64 k, .int .i64 a] 29) ∧ Below w1.heap.size w1 V ∧ V.heap.size = w1.heap.size + 2 ∧ V.heap[w1.heap.size]? = some (.cells (jh n ao cap) 26 (0, 0)) ∧ V.heap[w1.heap.size + 1]? = some (.cells #[.int .i64 k, .int .i64 a] 29 (0, 0)) := by
 obtain ⟨V1, hV1⟩ : ∃ V1, V1 = w1.alloc (.cells (jh n ao cap) 26) := ⟨_, rfl⟩
 obtain ⟨V, hV⟩ : ∃ V, V = V1.alloc (.cells #[.int .i64 k, .int .i64 a] 29) := ⟨_, rfl⟩
 have b1 : Below w1.heap.size w1 V1 := by rw [hV1]; exact jk (Below.refl _ _) _
 have b2 : Below V1.heap.size V1 V := by rw [hV]; exact jk (Below.refl _ _) _
 have s1 : V1.heap.size = w1.heap.size + 1 := by rw [hV1, World.size_alloc]
 have s2 : V.heap.size = w1.heap.size + 2 := by rw [hV, World.size_alloc, s1]
 have r1 : V1.heap[w1.heap.size]? = some (.cells (jh n ao cap) 26 (0, 0)) := by rw [hV1]; exact heap_alloc_new w1 _
 have r2 : V.heap[V1.heap.size]? = some (.cells #[.int .i64 k, .int .i64 a] 29 (0, 0)) := by rw [hV]; exact heap_alloc_new V1 _
 have r3 := jo r1 b2 (lt_of_block r1);rw [s1] at r2;exact ⟨V, by rw [hV, hV1], b1.trans (b2.mono (by omega)), s2, r3, r2⟩
theorem prints_any (HC : ∀ w, AW w → Calls Tryz.prog 7 #[.string c_x] w (vz (n_x, 0, 0) w)) (s : ByteArray) (w : World) (hA : AW w) : Calls Tryz.prog 4 #[.string s] w fun e w' => e = .returned (.bool true) ∧ Below w.heap.size w w' := by
 have HA := lh hA;have HP := lh (HC w hA);obtain ⟨n, hn⟩ : ∃ n, n = n_x := ⟨_, rfl⟩
 have HT : Hid (TopG 1 n w_x) := lh (by rw [hn]; exact nx_top);rw [← hn] at HP;clear hA hn HC;go_enter Tryz.func4, Tryz.ntmps4
 go_upto_region 2 with (first | (go_at_call 7; refine HP.out.mono ?_; rintro e w1 ⟨ao, cap, rfl, hb, hs⟩; have HB1 := lh hb; have HS1 := lh hs; unfold jh at ⊢; clear hb hs))
 obtain ⟨V, hV, hbV, hsV, r1, r2⟩ := pair_laid w1 n ao cap 0 0;unfold jh at hV;rw [show ((0 : Nat) : Int) = 0 from rfl] at hV;have hbb := HB1.out.trans (hbV.mono HB1.out.size);have HBV := lh hbb;have HPR := lh (print_any (top_print HT.out) (w := V) (ao := ao) (cap := cap) (HA.out.below hbb).g (HA.out.below hbb).n ((HS1.out.keep (w' := V) fun b hb off => hbV.cell (p := ⟨b, off, none⟩) hb.2).mono fun b hb => Nat.lt_of_lt_of_le hb.2 hbV.size) nx_few);rw [nx_text] at HPR;unfold jh at HPR r1;obtain ⟨⟨c0, c1, c2, c3, c4⟩, -⟩ := jC r1;rw [← hV];clear hV hbV hsV r1 r2 hbb;go_upto_region 4 with (first | (go_at_call 8; refine HPR.out.mono ?_; rintro e w2 ⟨rfl, hb⟩; have HB2 := lh (HBV.out.trans (hb.mono HBV.out.size)); clear hb))
 clear c0 c1 c2 c3 c4;go_wp2_with fail
 go_loopw [5] (fun i wr => ∃ k : Nat, i = .int .i64 (k : Int) ∧ k ≤ 4 ∧ Below w.heap.size w wr) (fun i _ => 4 - (intOf i).toNat)
 case atStart => exact ⟨0, rfl, Nat.zero_le _, HB2.out⟩
 case round =>
  obtain ⟨k, rfl, hk, hbr⟩ := hrel;obtain ⟨wo, rfl⟩ : ∃ wo : World, wo = wr := ⟨_, rfl⟩
  by_cases hlt : k < 4
  · have hd : decide ((k : Int) < 4) = true := (by simp; omega);have HBR := lh hbr;have HREAD : Hid (Calls Tryz.prog 9 #[.int .i64 k, .string s] wo (vz (vh s (qX k)) wo)) := lh (toldk_any k hlt s wo);rcases ans_cases s k with ⟨e, he, z, b, hans⟩ | ⟨t, jj, hok, htop, hans⟩
    · rw [hans] at HREAD;go_upto_region 8 with (first | (go_at_call 9; refine HREAD.out.mono ?_; rintro e1 w3 ⟨ao2, cap2, rfl, hb, hs⟩; have HB3 := lh hb; unfold jh at ⊢; clear hb hs))
      obtain ⟨V2, hV2, hbV2, hsV2, r1, r2⟩ := pair_laid w3 z ao2 cap2 e b;unfold jh at hV2;have d0 : V2.cell? ⟨w3.heap.size + 1, 0, none⟩ = some (.int .i64 e) := ja r2 0;have b1 : ((e : Int) != 0) = true := by simpa using he
      have HB4 := lh (HBR.out.trans (HB3.out.mono HBR.out.size) |>.trans (hbV2.mono (Nat.le_trans HBR.out.size HB3.out.size)));rw [← hV2];clear hV2 hbV2 hsV2 r1 r2 he;go_wp2_with fail
      go_roundw
      case rel => exact ⟨k + 1, by go_num, hlt, HB4.out⟩
      case measure => simp only [intOf]; omega
    · obtain ⟨-, ws, hT, hjl⟩ := ans_read hans;rw [hans] at HREAD;have HTOP := lh hT;have HJL := lh hjl;clear hT hjl hans htop hok;go_upto_region 8 with (first | (go_at_call 9; refine HREAD.out.mono ?_; rintro e1 w3 ⟨ao2, cap2, rfl, hb, hs⟩; have HB3 := lh hb; have HS3 := lh hs; unfold jh at ⊢; clear hb hs))
      obtain ⟨V2, hV2, hbV2, hsV2, r1, r2⟩ := pair_laid w3 t ao2 cap2 0 0;unfold jh at hV2;rw [show ((0 : Nat) : Int) = 0 from rfl] at hV2 r2;have hbb := HBR.out.trans (HB3.out.mono HBR.out.size) |>.trans (hbV2.mono (Nat.le_trans HBR.out.size HB3.out.size))
      have HB4 := lh hbb;obtain ⟨nb2, hnb2⟩ : ∃ nb2, nb2 = w3.heap.size := ⟨_, rfl⟩
      obtain ⟨fb2, hfb2⟩ : ∃ fb2, fb2 = w3.heap.size + 1 := ⟨_, rfl⟩
      rw [← hnb2] at r1;rw [← hfb2] at r2;have d0 : V2.cell? ⟨fb2, 0, none⟩ = some (.int .i64 0) := ja r2 0;have HR1 := lh r1;have hsl : SlD V2 (fun b => b < V2.heap.size) t.args ao2 cap2 := (HS3.out.keep (w' := V2) fun b hb off => hbV2.cell (p := ⟨b, off, none⟩) hb.2).mono fun b hb => Nat.lt_of_lt_of_le hb.2 hbV2.size
      have HSL := lh hsl;have HPR := lh (print_any (top_print HTOP.out) (w := V2) (ao := ao2) (cap := cap2) (HA.out.below hbb).g (HA.out.below hbb).n hsl HJL.out);have HCR := lh (rtop_print HTOP.out);have HWZ := lh (top_wz HTOP.out HJL.out);have HTX : Hid ((⟨(jb ws).toArray⟩ : ByteArray) = tx ws) := lh rfl;rw [HTX.out] at HPR;generalize tx ws = T at HPR HTX;unfold jh at HPR r1;obtain ⟨⟨c0, c1, c2, c3, c4⟩, -⟩ := jC r1;rw [← hV2, ← hfb2, ← hnb2];clear hV2 hsV2 r1 r2 hbb hnb2 hfb2 hsl;go_upto_region 10 with (first | (go_at_call 8; refine HPR.out.mono ?_; rintro e1 w4 ⟨rfl, hb⟩; have HB5 := lh hb; clear hb))
      have r1 := jo HR1.out HB5.out (lt_of_block HR1.out)
      have HQR : Hid (Calls Tryz.prog 10 #[.agg (jh t ao2 cap2)] w4 fun e w' => e = .returned (.string T) ∧ Below w4.heap.size w4 w') := lh (by
       have h9 := HCR.out.call HWZ.out (W := w4) (ao := ao2) (cap := cap2) ((HSL.out.keep (w' := w4) fun b hb off => HB5.out.cell (p := ⟨b, off, none⟩) hb).mono fun b hb => Nat.lt_of_lt_of_le hb HB5.out.size);rw [show tx ws = T from HTX.out.symm ▸ rfl] at h9
       exact h9)
      unfold jh at r1 HQR;obtain ⟨⟨c0, c1, c2, c3, c4⟩, -⟩ := jC r1;have HB6 := lh (HB4.out.trans (HB5.out.mono HB4.out.size));clear r1 d0;go_wp2_with (first | (go_at_call 10; refine HQR.out.mono ?_; rintro e1 w5 ⟨rfl, hb⟩; have HB7 := lh (HB6.out.trans (hb.mono HB6.out.size)); clear hb))
      go_roundw
      case rel => exact ⟨k + 1, by go_num, hlt, HB7.out⟩
      case measure => simp only [intOf]; omega
  · obtain rfl : k = 4 := by omega
    have hd : decide (((4 : Nat) : Int) < 4) = false := (by decide);go_wp2_with fail
    go_ret
    exact ⟨rfl, hbr⟩
abbrev GK (E : Env) (d f : Nat) (args : Array Value) (i : Nat) (x : Ty) (j : Nat) : Prop := ∀ w, Rd E w i d → Calls Tryz.prog f args w (PPost E d w (.ok x j) (NdQ w))
theorem Bq.go {E : Env} {d f : Nat} {args : Array Value} {x : Ty} {j : Nat} {w : World} {i : Nat} (h : Rd E w i d) (k : ∀ T W, Hid (T = Res.ok x j) → w.alloc (.cells #[.int .i64 0, .int .i64 0, .string ⟨#[]⟩, .int .i64 0, .slice none 0 0] 26) = W → Bp E w d W i [] → E.rb < w.heap.size → E.P.toks.length ≤ 100000 → Calls Tryz.prog f args w (PPost E d w T (NdQ w))) : Calls Tryz.prog f args w (PPost E d w (.ok x j) (NdQ w)) :=
 k _ _ (lh rfl) rfl ⟨Fb.start h rfl, Ats.nil, h.low.2, fam_b _ _⟩ h.ltr h.ok.len
theorem Bd.pndk {E : Env} {w w1 : World} {φ : Nat → World → Nat → Prop} {d j j' : Nat} {ls : List At} {Q9 : Ending → World → Prop} {fn : Nat} {args : Array Value} {x : Ty} (b : Bd E w (Rd E) φ d w1 j ls) (h : Hid (GK E d fn args j x j')) (k : ∀ u ao cap, Bd E w (Rd E) φ d u j' (.kd x.args ao cap :: ls) → Q9 (.returned (.agg #[.int .i64 x.k, .int .i64 x.n, .string x.s, .int .i64 x.q, .slice ao x.args.length cap])) u) : Calls Tryz.prog fn args w1 Q9 :=
 b.pndc (h.out _ b.R) (fun k a u i' hx => by cases hx) fun u y ao cap j9 hx b => by cases hx; exact k u ao cap b
theorem Bd.kmust1 {E : Env} {w w1 : World} {φ : Nat → World → Nat → Prop} {d j : Nat} {ls : List At} {Q9 : Ending → World → Prop} {sg : ByteArray} (b : Bd E w (Rd E) φ d w1 j ls) (h : isD E.P sg j = true) (k : ∀ u v, Bd E w (Rd E) φ d u (j + 1) ls → Q9 (.returned v) u) : Calls Tryz.prog 40 #[.pointer (some ⟨E.rb, 0, none⟩), .string sg] w1 Q9 :=
 b.pany (must_any E w1 j d sg b.R) (fun k a u i' hx => by unfold jm at hx; rw [if_pos h] at hx; cases hx) fun u x v j' hx b _ _ => by unfold jm at hx; rw [if_pos h] at hx; cases hx; exact k u v b
theorem kapply {E : Env} {d i j : Nat} {x : Ty} (h1 : GK E d 129 #[pr E] i x j) (hb : kh E.P j = false) : GK E d 78 #[pr E] i x j := by
 intro w h;refine Bq.go h ?_;intro T W HT hW B hlr hN;have H1 := lh h1;have HB := lh hb;clear h1 hb h;unfold pr at H1 ⊢;go_enter Tryz.func78, Tryz.ntmps78
 obtain ⟨R9, B9, p9, hq⟩ := Pn9.ex Tryz.f78 E d w T (NdQ w);refine wp_mono (Q := PQ R9 B9) ?_ hq;clear hq;go_upto_region 1 with fail
 clear hW;go_upto_region 2 with (go_at_call 129; refine B.pndk H1 ?_; clear B; intro u1 aon capn B)
 generalize hb : u1.heap.size = b4;generalize h : u1.alloc _ = V3;replace B := B.box h hb;clear h hb;go_loopw [] (fun wr => ∃ (ao : Option Addr) (cap : Nat), Bp E w d wr j [.kd x.args ao cap, .nv b4 (.int .i64 x.k) (.int .i64 x.n) (.string x.s) (.int .i64 x.q) (.slice ao x.args.length cap)]) (fun wr => 0)
 case atStart => exact ⟨aon, capn, B.mv1⟩
 case round =>
  clear B;obtain ⟨ao, cap, B⟩ := hrel;go_wp2_with (go_at_call 130; refine B.ask (x := .bool false) (by have h := begins_any E _ j d B.F.R; rw [HB.out] at h; exact h) ?_; clear B; intro u5 B; have c6 := B.mv1.S.cs B.F.rb; have c7 := B.cp)
  exact Bp.fin x B p9 HT.out rfl rfl
theorem kprefix {E : Env} {d i j : Nat} {x : Ty} (h1 : GK E d 165 #[pr E] i x j) (ht : isD E.P s_ti i = false) (hx : isD E.P s_ex i = false) : GK E d 129 #[pr E] i x j := by
 intro w h;refine Bq.go h ?_;intro T W HT hW B hlr hN;have H1 := lh h1;have HS1 := lh ht;have HS2 := lh hx;clear h1 ht hx h;unfold pr at H1 ⊢;go_enter Tryz.func129, Tryz.ntmps129
 obtain ⟨R9, B9, p9, hq⟩ := Pn9.ex Tryz.f129 E d w T (NdQ w);refine wp_mono (Q := PQ R9 B9) ?_ hq;clear hq;go_upto_region 1 with fail
 clear hW;go_wp2_with fail
 go_loopw [3] (fun v wr => v = .slice none 0 0 ∧ Bp E w d wr i []) (fun _ wr => 0)
 case atStart => exact ⟨rfl, B⟩
 case round =>
  clear B;obtain ⟨rfl, B⟩ := hrel;go_upto_region 5 with (first | (go_at_call 73; refine B.is0 HS2.out ?_; clear B; intro u20 B) | (go_at_call 73; refine B.is0 HS1.out ?_; clear B; intro u10 B))
  go_upto_region 6 with (go_at_call 165; refine B.pndk H1 ?_; clear B; intro u21 aon capn B)
  generalize hb : u21.heap.size = b24;generalize h : u21.alloc _ = V23;replace B := B.box h hb;clear h hb;go_wp2_with fail
  go_loopw [5] (fun s wr => s = .int .i64 (-1) ∧ ∃ (ao : Option Addr) (cap : Nat), Bp E w d wr j [.kd x.args ao cap, .nv b24 (.int .i64 x.k) (.int .i64 x.n) (.string x.s) (.int .i64 x.q) (.slice ao x.args.length cap)]) (fun s _ => 0)
  case atStart => exact ⟨rfl, aon, capn, B.mv1⟩
  case round =>
   clear B;obtain ⟨rfl, ao, cap, B⟩ := hrel;have c25 := B.mv1.S.cs B.F.rb;have c26 := B.cp;go_wp2_with fail
   exact Bp.fin x B p9 HT.out rfl rfl
theorem katom_int {E : Env} {d i : Nat} (hk : E.P.K i = 1) : GK E d 165 #[pr E] i (.mk 1 (E.P.A i) ⟨#[]⟩ (E.P.N i) []) (i + 1) := by
 intro w h;refine Bq.go h ?_;intro T W HT hW B hlr hN;have hle : i + 1 ≤ E.P.toks.length := Nat.succ_le_of_lt (K_lt (by rw [hk]; decide));have ek : (E.P.K i == 1) = true := by simp [hk]
 clear hk h;unfold pr;go_enter Tryz.func165, Tryz.ntmps165
 obtain ⟨R9, B9, p9, hq⟩ := Pn9.ex Tryz.f165 E d w T (NdQ w);refine wp_mono (Q := PQ R9 B9) ?_ hq;clear hq;go_upto_region 1 with fail
 clear hW;go_upto_region 2 with (go_at_call 35; refine B.pnow ?_; clear B; intro u1 B; have f2 := jA E.P i)
 clear f2;generalize hb : u1.heap.size = b4;generalize h : u1.alloc _ = V3;replace B := B.boxt h hb;clear h hb;have c5 := B.S.ct B.F.rb;go_upto_region 4 with (go_at_call 28; refine B.pnode ?_; clear B; intro u6 B; have c7 := B.S.ct B.F.rb)
 clear c5 c7;generalize hb : u6.heap.size = b9;generalize h : u6.alloc _ = V8;replace B := B.box h hb;clear h hb;have c10 := B.mv1.S.ct B.F.rb;go_upto_region 5 with fail
 have c14 := B.S.cs B.F.rb;go_upto_region 6 with fail
 clear c10 c14;generalize h : V8.setCell _ _ = X15;replace B := B.s3 h;clear h;have c16 := B.S.cs B.F.rb; have c17 := B.F.R.cells;go_upto_region 37 with fail
 clear c16 c17;generalize h : X15.setCell _ _ = X18;replace B := B.seti (j' := i + 1) hle h rfl;clear h;have c19 := B.S.cs B.F.rb; have c20 := B.cp;go_wp2_with fail
 exact Bp.fin (.mk 1 (E.P.A i) ⟨#[]⟩ (E.P.N i) []) B.nilk p9 HT.out rfl rfl
theorem katom_par {E : Env} {d i j : Nat} {x : Ty} (hk : E.P.K i = 7) (ht : isD E.P w_true i = false) (hf : isD E.P w_false i = false) (hp : isD E.P s_lp i = true) (h1 : GK E d 188 #[pr E, .int .i64 (E.P.A i : Int)] (i + 1) x j) : GK E d 165 #[pr E] i x j := by
 intro w h;refine Bq.go h ?_;intro T W HT hW B hlr hN;have H1 := lh h1;have HS1 := lh ht;have HS2 := lh hf;have HS3 := lh hp;have e1 : (E.P.K i == 1) = false := by simp [hk]
 have e2 : (E.P.K i == 2) = false := by simp [hk]
 have e3 : (E.P.K i == 3) = false := by simp [hk]
 have e4 : (E.P.K i == 4) = false := by simp [hk]
 clear hk h1 ht hf hp h;unfold pr at H1 ⊢;go_enter Tryz.func165, Tryz.ntmps165
 obtain ⟨R9, B9, p9, hq⟩ := Pn9.ex Tryz.f165 E d w T (NdQ w);refine wp_mono (Q := PQ R9 B9) ?_ hq;clear hq;go_upto_region 1 with fail
 clear hW;go_upto_region 2 with (go_at_call 35; refine B.pnow ?_; clear B; intro u1 B; have f2 := jA E.P i)
 clear f2;generalize hb : u1.heap.size = b4;generalize h : u1.alloc _ = V3;replace B := B.boxt h hb;clear h hb;have c5 := B.S.ct B.F.rb;go_upto_region 4 with (go_at_call 28; refine B.pnode ?_; clear B; intro u6 B; have c7 := B.S.ct B.F.rb)
 clear c5 c7;generalize hb : u6.heap.size = b9;generalize h : u6.alloc _ = V8;replace B := B.box h hb;clear h hb;have c10 := B.mv1.S.ct B.F.rb;go_upto_region 16 with fail
 clear c10;go_upto_region 17 with (go_at_call 38; refine B.eat0 (sg := w_true) HS1.out ?_; clear B; intro u81 B)
 go_upto_region 19 with (go_at_call 38; refine B.eat0 (sg := w_false) HS2.out ?_; clear B; intro u93 B)
 go_upto_region 20 with (go_at_call 38; refine B.eat1 (sg := s_lp) HS3.out ?_; clear B; intro u96 B; have c97 := B.mv1.S.ct B.F.rb)
 go_wp2_with (go_at_call 188; refine B.pndk H1 ?_; clear B; intro u98 aop capp B; have c100 := B.cp)
 exact Bp.fin x B p9 HT.out rfl rfl
theorem kround {E : Env} {d i j : Nat} {x : Ty} {aa : Int} (h0 : isD E.P s_rp i = false) (h1 : GK E d 17 #[pr E] i x j) (hc : isD E.P s_com j = false) (hs : isD E.P s_sem j = false) (ho : isD E.P s_col j = false) (hr : isD E.P s_rp j = true) : GK E d 188 #[pr E, .int .i64 aa] i x (j + 1) := by
 intro w h;refine Bq.go h ?_;intro T W HT hW B hlr hN;have H1 := lh h1;have HS0 := lh h0;have HSC := lh hc;have HSS := lh hs;have HSO := lh ho;have HSR := lh hr;clear h1 h0 hc hs ho hr h;unfold pr at H1 ⊢;go_enter Tryz.func188, Tryz.ntmps188
 obtain ⟨R9, B9, p9, hq⟩ := Pn9.ex Tryz.f188 E d w T (NdQ w);refine wp_mono (Q := PQ R9 B9) ?_ hq;clear hq;go_upto_region 1 with fail
 clear hW;go_upto_region 3 with (go_at_call 38; refine B.eat0 (sg := s_rp) HS0.out ?_; clear B; intro u5 B)
 go_upto_region 4 with (go_at_call 17; refine B.pndk H1 ?_; clear B; intro u6 aon capn B)
 generalize hb : u6.heap.size = b9;generalize h : u6.alloc _ = V8;replace B := B.box h hb;clear h hb;go_upto_region 6 with (go_at_call 38; refine B.eat0 (sg := s_com) HSC.out ?_; clear B; intro u24 B)
 go_upto_region 8 with (go_at_call 38; refine B.eat0 (sg := s_sem) HSS.out ?_; clear B; intro u39 B)
 go_upto_region 11 with (first | (go_at_call 40; refine B.kmust1 HSR.out ?_; clear B; intro u55 _ B) | (go_at_call 38; refine B.eat0 HSO.out ?_; clear B; intro u54 B))
 have c57 := B.S.cs B.F.rb; have c58 := B.cp;go_wp2_with fail
 exact Bp.fin x B.mv1 p9 HT.out rfl rfl
theorem kexp {E : Env} {d i j : Nat} {x : Ty} (hd : d < 60) (hf : isD E.P w_fn i = false) (hi : isD E.P w_if i = false) (hr : isD E.P w_raise i = false) (h1 : GK E (d + 1) 41 #[pr E, .int .i64 0] i x j) : GK E d 17 #[pr E] i x j := by
 intro w h;refine Bq.go h ?_;intro T W HT hW B hlr hN;have H1 := lh h1;have HS1 := lh hf;have HS2 := lh hi;have HS3 := lh hr;clear h1 hf hi hr h;unfold pr at H1 ⊢;go_enter_defers Tryz.func17, Tryz.ntmps17
 obtain ⟨R9, B9, p9, hq⟩ := Pw9.ex Tryz.f17 E d w T;refine wp_mono (Q := PQ R9 B9) ?_ (fun e a W h => bodyPostE_le _ _ _ _ _ e a W (hq e a W h));clear hq;go_upto_region 1 with fail
 clear hW;go_upto_region 2 with (go_at_call 37; refine B.win hd ?_; clear B; intro w1 bC hbC B)
 clear hbC;go_upto_region 3 with (go_at_call 35; refine B.pnow ?_; clear B; intro u1 B; have f2 := jA E.P i)
 clear f2;go_upto_region 7 with (go_at_call 38; refine B.eat0 (sg := w_fn) HS1.out ?_; clear B; intro u18 B)
 go_upto_region 13 with (go_at_call 38; refine B.eat0 (sg := w_if) HS2.out ?_; clear B; intro u42 B)
 go_upto_region 15 with (go_at_call 38; refine B.eat0 (sg := w_raise) HS3.out ?_; clear B; intro u50 B)
 go_wp2_with (go_at_call 41; refine B.pndk H1 ?_; clear B; intro u51 aot capt B; have c53 := B.cp)
 exact Bp.finw x B p9 (.head _) HT.out rfl rfl
def strsK (ps : List (ByteArray × Ty)) : List Value := ps.map fun p => .string p.1
theorem strs_appK (ps : List (ByteArray × Ty)) (p : ByteArray × Ty) : strsK (ps ++ [p]) = strsK ps ++ [.string p.1] := by simp [strsK]
def qu (a : Ty) (ps : List (ByteArray × Ty)) : List Ty := a :: ps.map Prod.snd
theorem vt (a : Ty) (ps : List (ByteArray × Ty)) : (qu a ps).length = ps.length + 1 := by simp [qu]
theorem its_appK (a : Ty) (ps : List (ByteArray × Ty)) (p : ByteArray × Ty) : qu a (ps ++ [p]) = qu a ps ++ [p.2] := by simp [qu]
theorem its_succK (a : Ty) (ps : List (ByteArray × Ty)) {m : Nat} (h : m < ps.length) : (qu a ps)[m + 1]'(by rw [vt]; omega) = ps[m].2 := by simp [qu]
theorem foldL_stepK (a : Ty) (ps : List (ByteArray × Ty)) {m : Nat} (h : m < ps.length) : jJ a (ps.take (m + 1)) = kG ps[m].1 (jJ a (ps.take m)) ((qu a ps)[m + 1]'(by rw [vt]; omega)) := by
 rw [List.take_succ_eq_append_getElem h, its_succK a ps h];unfold jJ;rw [List.foldl_append];rfl
theorem joinD_argsK (s : ByteArray) (a b : Ty) : (kG s a b).args = [a, b] := by unfold kG; split; rfl; split <;> rfl
theorem size9K (w : World) : (sizeOf 9).run Tryz.prog w = .ok 1 w := by kernel_rfl
inductive SeqK (E : Env) (d lv : Nat) : Nat → List (ByteArray × Ty) → Nat → Prop
 | nil {j} : jK E.P (lvL (7 - lv)) j = false → SeqK E d lv j [] j
 | cons {j j2 j3 b ps} : jK E.P (lvL (7 - lv)) j = true → j + 1 ≤ j2 → GK E d 41 #[pr E, .int .i64 ((lv : Int) + 1)] (j + 1) b j2 → SeqK E d lv j2 ps j3 → SeqK E d lv j ((E.P.T j, b) :: ps) j3
theorem ktop {E : Env} {d i j : Nat} {x : Ty} (h1 : GK E d 78 #[pr E] i x j) : GK E d 41 #[pr E, .int .i64 7] i x j := by
 intro w h;refine Bq.go h ?_;intro T W HT hW B hlr hN;have H1 := lh h1;clear h1 h;unfold pr at H1 ⊢;go_enter_defers Tryz.func41, Tryz.ntmps41
 obtain ⟨R9, B9, p9, hq⟩ := Pf9.ex Tryz.f41 E d w T;refine wp_mono (Q := PQ R9 B9) ?_ hq;clear hq;go_upto_region 1 with fail
 clear hW;go_wp2_with (go_at_call 78; refine B.pndk H1 ?_; clear B; intro u1 aot capt B; have c3 := B.cp)
 exact Bp.finN x B p9 HT.out rfl rfl
theorem kbet {E : Env} {d i j0 jn lv : Nat} {u0 : Ty} {ps : List (ByteArray × Ty)} (hlv : lv ≤ 6) (hsd : ps = [] ∨ sideT lv = 1) (hln : ps.length ≤ 100) (h1 : GK E d 41 #[pr E, .int .i64 ((lv : Int) + 1)] i u0 j0) (h2 : SeqK E d lv j0 ps jn) : GK E d 41 #[pr E, .int .i64 (lv : Int)] i (jJ u0 ps) jn := by
 intro w h;refine Bq.go h ?_;intro T W HT hW B hlr hN;have HGL := lh (fun (w1 : World) j (h1 : Rd E w1 j d) => (h1.gl.1 lv (by omega)).2);have HSD := lh hsd;have HLN := lh hln;have HSQ := lh h2;have v0 := (show (0 : Int) ≤ (lv : Int) by omega);have v1 := (show (lv : Int) < 7 by omega);have v7 := (show ((lv : Int) == 7) = false by simp; omega);have HSG := lh (fun (w1 : World) j (h1 : Rd E w1 j d) => sign_any E w1 j d lv h1 (by omega));have H1 := lh h1;have H17 := lh (show sideT lv = 1 → (sideT lv != 0) = true by intro e; rw [e]; rfl);have H27 := lh (show sideT lv = 1 → (sideT lv == 2) = false by intro e; rw [e]; rfl);clear h1 h2 hsd hln hlv h;unfold pr at HSG H1 ⊢;go_enter_defers Tryz.func41, Tryz.ntmps41
 obtain ⟨R9, B9, p9, hq⟩ := Pf9.ex Tryz.f41 E d w T;refine wp_mono (Q := PQ R9 B9) ?_ hq;clear hq;go_upto_region 1 with fail
 clear hW;go_upto_region 3 with fail
 go_upto_region 4 with (go_at_call 41; refine B.pndk H1 ?_; clear B; intro u1 aou0 capu0 B)
 generalize h : u1.alloc _ = V3;replace B := B.mk1 rfl h;clear h;go_upto_block 0 with fail
 go_cut [5, 6] from 23 to 51 (fun v5 v6 wx => ∃ (ao bo : Option Addr) (cap cb : Nat), v5 = .slice ao (qu u0 ps).length cap ∧ v6 = .slice bo ps.length cb ∧ Bp E w d wx jn [.kd (qu u0 ps) ao cap, .pw 9 1 (.slice bo ps.length cb) (ps.length) (strsK ps)])
 case first =>
  go_wp2_with fail
  go_loopw [5, 6] (fun v5 v6 wr => ∃ (p1 p2 : List (ByteArray × Ty)) (j : Nat) (ao bo : Option Addr) (cap cb : Nat), v5 = .slice ao (qu u0 p1).length cap ∧ v6 = .slice bo p1.length cb ∧ Hid (ps = p1 ++ p2) ∧ Hid (SeqK E d lv j p2 jn) ∧ Bp E w d wr j [.ow (.slice ao (qu u0 p1).length cap) (qu u0 p1), .pw 9 1 (.slice bo p1.length cb) (p1.length) (strsK p1)]) (fun _ _ wr => E.P.toks.length - posOf wr E.rb)
  case atStart => exact ⟨[], ps, j0, (some ⟨u1.heap.size, 0, none⟩), none, 1, 0, rfl, rfl, lh rfl, HSQ, (B.nilp 9 1).mv1⟩
  case round =>
   clear B;obtain ⟨p1, p2, j, ao, bo, cap, cb, rfl, rfl, HPS, HSJ, B⟩ := hrel;have R0 := lh B.F.R;have HL : Hid (p1.length ≤ 100) := lh (by have h1 := HLN.out; rw [HPS.out, List.length_append] at h1; omega);have HIL := lh (vt u0 p1);go_upto_region 5 with fail
   have gl := HGL.out wr j B.F.R;have hlen9 : (qu u0 p1).length ≤ 100001 := (by rw [HIL.out]; have := HL.out; omega);go_cut [32] from 23 to 51 (fun v wx => v = .bool true ∧ Bp E w d wx j [.ow (.slice ao (qu u0 p1).length cap) (qu u0 p1), .pw 9 1 (.slice bo p1.length cb) (p1.length) (strsK p1)])
   case first =>
    by_cases h0 : p1.length = 0
    · have e1 : (((qu u0 p1).length : Int) == 1) = true := (by rw [HIL.out, h0]; rfl);clear h0;go_wp2_with fail
      go_meet
      exact ⟨rfl, B⟩
    · have e1 : (((qu u0 p1).length : Int) == 1) = false := (by rw [HIL.out]; simp; omega);have e2 := H17.out (HSD.out.resolve_left fun e => h0 (by have h1 := HPS.out; rw [e] at h1; have h2 := congrArg List.length h1; simp at h2; omega));clear h0;go_wp2_with fail
      go_meet
      exact ⟨rfl, B⟩
   case rest =>
    replace B := hcut.2;obtain ⟨rfl, -⟩ := hcut;clear gl;have HE := lh (HSG.out wc j B.F.R)
    cases p2 with
    | nil =>
     have hb : jK E.P (lvL (7 - lv)) j = false ∧ jn = j := by cases HSJ.out with | nil h => exact ⟨h, rfl⟩
     have HB9 := lh hb.1;have HJ := lh hb.2;clear hb;go_wp2_with (go_at_call 79; refine HE.out.mono ?_; rintro e u4 ⟨rfl, hr, hg⟩; replace B := B.gr (s' := j) hg (by rw [HB9.out] at hr; exact hr); rw [HB9.out]; clear hr hg)
     go_meet
     exact ⟨ao, bo, cap, cb, by rw [HPS.out, List.append_nil], by rw [HPS.out, List.append_nil], by rw [HPS.out, List.append_nil, HJ.out]; exact B.ko⟩
    | cons q p3 =>
     obtain ⟨sT, x⟩ := q;have hb : jK E.P (lvL (7 - lv)) j = true ∧ sT = E.P.T j ∧ ∃ j2, j + 1 ≤ j2 ∧ GK E d 41 #[.pointer (some ⟨E.rb, 0, none⟩), .int .i64 ((lv : Int) + 1)] (j + 1) x j2 ∧ SeqK E d lv j2 p3 jn := by cases HSJ.out with | cons a b c e => exact ⟨a, rfl, _, b, c, e⟩
     obtain ⟨hb1, hsT, j2, hj2, hg2, hs2⟩ := hb;have HB9 := lh hb1;have HX := lh hg2;have HS2 := lh hs2;have HJ2 := lh hj2;rw [← hsT] at HE;clear hb1 hsT hg2 hs2 hj2;go_upto_region 8 with (go_at_call 79; refine HE.out.mono ?_; rintro e u5 ⟨rfl, hr, hg⟩; replace B := B.gr (s' := (j + 1)) hg (by rw [HB9.out] at hr; exact hr); rw [HB9.out]; clear hr hg)
     go_upto_region 9 with (at_builtin; go_must (refine B.mv1.appP Tryz.underlying44 info9p rfl (by decide) (by decide) rfl (.tmp 41) (.tmp 43) rfl rfl rfl rfl rfl (by intro u hu; simp at hu; subst hu; rfl) (by have := HL.out; omega) ?_); clear B; intro bo2 cb2 u6 B)
     go_wp2_with (first | (at_builtin; generalize h : u7.alloc _ = V9; replace B := B.mk1 rfl h; clear h; go_must (refine B.mv2.app rfl _ _ rfl rfl rfl (by rw [HIL.out]; have := HL.out; simp; omega) ?_); clear B; intro aoL capL L u10 ELL B) | (go_at_call 41; refine B.pndk HX ?_; clear B; intro u7 aox capx B))
     have eI : L = qu u0 (p1 ++ [(sT, x)]) := (by rw [ELL.out, its_appK]);have eL : L.length = (qu u0 (p1 ++ [(sT, x)])).length := (by rw [eI]);have eP : p1.length + 1 = (p1 ++ [(sT, x)]).length := (by simp);have eH : Hid (ps = (p1 ++ [(sT, x)]) ++ p3) := lh (by rw [HPS.out]; simp);go_roundw
     case rel => first | exact ⟨p1 ++ [(sT, x)], p3, j2, aoL, bo2, capL, cb2, by rw [eL], by rw [eP], eH, HS2, by rw [← eP, strs_appK, ← eI]; exact B.mv1.mv1⟩ | ((repeat apply Exists.intro); exact ⟨⟨p1 ++ [(sT, x)], p3, j2, aoL, bo2, capL, cb2, by rw [eL], by rw [eP], eH, HS2, by rw [← eP, strs_appK, ← eI]; exact B.mv1.mv1⟩, rfl⟩)
     case measure => exact pos_less R0.out B.F.R HJ2.out
 case rest =>
  clear B;obtain ⟨ao, bo, cap, cb, rfl, rfl, B⟩ := hcut;have gl := HGL.out wc jn B.F.R;have hil := vt u0 ps;have hl1 : 1 ≤ (qu u0 ps).length := by omega
  have hl2 : (qu u0 ps).length ≤ 100001 := by have := HLN.out; omega
  clear hil
  by_cases hrt : (sideT lv == 2) = true
  · have hnil : ps = [] := HSD.out.resolve_right fun e => by rw [H27.out e] at hrt; cases hrt
    subst hnil;go_upto_region 11 with fail
    obtain ⟨n, bq, pq, aq, cq, HNq, HXq, fq, B⟩ := B.elem (m := 0) (by rw [vt]; simp);have HN1 : Hid (n = u0) := HNq;have ixm : ∀ w' : World, (Instr.indexAt 24 (.slice ao (qu u0 []).length cap) (.int .i64 (((qu u0 []).length : Int) - 1))).run Tryz.prog w' = .ok (.pointer (some ⟨bq, pq, none⟩)) w' := fun w' => fq.2.2.1 w'
    go_upto_region 12 with fail
    clear fq ixm;generalize hb : wc.heap.size = b12;generalize h : wc.alloc _ = V11;replace B := B.box h hb;clear h hb;go_wp2_with fail
    go_loopw [10] (fun s wr => s = .int .i64 (-1) ∧ ∃ (ao2 : Option Addr) (cap2 : Nat), Bp E w d wr jn [.kd n.args ao2 cap2, .nv b12 (.int .i64 n.k) (.int .i64 n.n) (.string n.s) (.int .i64 n.q) (.slice ao2 n.args.length cap2), .kd (qu u0 []) ao cap, .pw 9 1 (.slice bo 0 cb) 0 (strsK [])]) (fun s _ => 0)
    case atStart => exact ⟨rfl, aq, cq, B.mv3.mv3.mv2.mv3⟩
    case round =>
     clear B;obtain ⟨rfl, ao2, cap2, B⟩ := hrel;have c13 := B.mv1.S.cs B.F.rb; have c14 := B.cp;go_wp2_with fail
     exact Bp.finN n B p9 (by rw [HT.out, HN1.out]; rfl) rfl rfl
  · have er : (sideT lv == 2) = false := by simpa using hrt
    clear hrt;go_upto_region 17 with fail
    have hln1 := HLN.out;obtain ⟨n, bq, pq, aq, cq, HNq, HXq, fq, B⟩ := B.elem (m := 0) (by rw [vt]; omega);have ixm : ∀ w' : World, (Instr.indexAt 24 (.slice ao (qu u0 ps).length cap) (.int .i64 0)).run Tryz.prog w' = .ok (.pointer (some ⟨bq, pq, none⟩)) w' := fq.2.2.1;go_upto_region 18 with fail
    clear fq ixm;generalize hb : wc.heap.size = b20;generalize h : wc.alloc _ = V19;replace B := B.box h hb;clear h hb;go_wp2_with fail
    go_loopw [12, 13, 86] (fun _ _ s wr => ∃ (m : Nat) (n : Ty) (ao2 : Option Addr) (cap2 : Nat), s = .int .i64 (m : Int) ∧ m ≤ ps.length ∧ n = jJ u0 (ps.take m) ∧ Bp E w d wr jn [.kd n.args ao2 cap2, .nv b20 (.int .i64 n.k) (.int .i64 n.n) (.string n.s) (.int .i64 n.q) (.slice ao2 n.args.length cap2), .kd (qu u0 ps) ao cap, .pw 9 1 (.slice bo ps.length cb) (ps.length) (strsK ps)]) (fun _ _ s _ => ps.length - (intOf s).toNat)
    case atStart => exact ⟨0, n, aq, cq, rfl, Nat.zero_le _, HNq.out, B.mv3.mv3.mv2.mv3⟩
    case round =>
     clear B HNq HXq;obtain ⟨m, n, ao2, cap2, rfl, hm, hn, B⟩ := hrel;have HNM := lh hn;clear hn
     by_cases hlt : m < ps.length
     · have hd : ((m : Int) < (ps.length : Int)) := (by omega);have HM2 : Hid (m < ps.length) := lh hlt;have h4 : m ≤ 100000 := (by omega);clear hlt hm;obtain ⟨bsa, psa, HXs, t1, t2, isa, HCs⟩ := B.mv3.pel Tryz.underlying44 size9K HM2.out;have y0 : wr.cell? ⟨bsa, psa, none⟩ = some (.string (ps[m]'HM2.out).1) := HCs.out 0 _ (by have h := HM2.out; simp [strsK, List.getElem?_eq_getElem h]);obtain ⟨sj, hsj⟩ : ∃ sj, sj = (ps[m]'HM2.out).1 := ⟨_, rfl⟩
       rw [← hsj] at y0;have HSJ := lh hsj;clear hsj;go_upto_region 21 with fail
       obtain ⟨x, br, pr, ar, cr, HNr, HXr, fr, B⟩ := B.mv2.elem (m := m + 1) (by rw [vt]; have := HM2.out; omega);have ixs : ∀ w' : World, (Instr.indexAt 24 (.slice ao (qu u0 ps).length cap) (.int .i64 ((m : Int) + 1))).run Tryz.prog w' = .ok (.pointer (some ⟨br, pr, none⟩)) w' := fr.2.2.1;have ixw : ∀ w' : World, (Instr.indexAt 24 (.slice ao (qu u0 ps).length cap) (.int .i64 (IntKind.i64.wrap ((m : Int) + 1)))).run Tryz.prog w' = .ok (.pointer (some ⟨br, pr, none⟩)) w' := fun w' => by rw [IntWalk.i64_in _ (by omega)]; exact ixs w'
       have nr1 : ¬ (br = b20) := HXr.out _ (by simp [wrs, At.wr]);have nr2 : ¬ (b20 = br) := fun e => nr1 e.symm
       have c21 := B.mv3.S.cs B.F.rb;replace B := B.drew;go_region_law (go_simp; (go_at_call 80; refine B.mv2.join joinD_argsK ?_; clear B; intro u22 gj j9 HJ9 B; have c23 := B.mv2.S.cs B.F.rb))
       all_goals
        clear t1 t2 isa y0 fr ixs ixw nr1 nr2 c21 c23;generalize h : ((((u22.setCell _ _).setCell _ _).setCell _ _).setCell _ _).setCell _ _ = X24;replace B := B.mv2.sn h;clear h;go_wp2_with fail
        go_roundw
        case rel => first | exact ⟨m + 1, j9, _, _, by go_num, HM2.out, by rw [HJ9.out, HSJ.out, HNr.out, HNM.out]; exact (foldL_stepK u0 ps HM2.out).symm, B.mv3.mv3.mv2.mv3⟩ | ((repeat apply Exists.intro); exact ⟨⟨m + 1, j9, _, _, by go_num, HM2.out, by rw [HJ9.out, HSJ.out, HNr.out, HNM.out]; exact (foldL_stepK u0 ps HM2.out).symm, B.mv3.mv3.mv2.mv3⟩, rfl⟩)
        case measure => (have := HM2.out; simp [intOf]; omega)
     · have hd : decide ((m : Int) < (ps.length : Int)) = false := (by simp; omega);have hd2 : ¬ ((m : Int) < (ps.length : Int)) := (by omega);have HNF : Hid (n = jJ u0 ps) := lh (by rw [HNM.out, show m = ps.length by omega, List.take_length]);clear hlt hm;have c25 := B.mv1.S.cs B.F.rb; have c26 := B.cp;go_wp2_with fail
       exact Bp.finN n B p9 (by rw [HT.out, HNF.out]) rfl rfl
theorem kdown {E : Env} {d i j : Nat} {x : Ty} (n b : Nat) (hb : b + n ≤ 7) (h : ∀ z : Int, z = ((b + n : Nat) : Int) → GK E d 41 #[pr E, .int .i64 z] i x j) (hn : ∀ l, b ≤ l → l < b + n → jK E.P (lvL (7 - l)) j = false) : GK E d 41 #[pr E, .int .i64 (b : Int)] i x j := by
 induction n with
 | zero => exact h _ rfl
 | succ n ih =>
  refine ih (by omega) (fun z hz => ?_) fun l h1 h2 => hn l h1 (by omega)
  subst hz;exact kbet (ps := []) (by omega) (.inl rfl) (Nat.zero_le _) (h _ (by omega)) (.nil (hn _ (by omega) (by omega)))
abbrev px : Src := ⟨[(7, 0, s_lp, 0), (1, 1, ⟨#[]⟩, 1), (7, 3, s_pl, 0), (1, 5, ⟨#[]⟩, 2), (7, 6, s_rp, 0), (7, 8, s_st, 0), (1, 10, ⟨#[]⟩, 3), (0, 11, ⟨#[]⟩, 0)], 0, 0⟩
abbrev n_xx : Ty := .mk 18 1 s_st 0 [.mk 18 1 s_pl 0 [.mk 1 1 ⟨#[]⟩ 1 [], .mk 1 5 ⟨#[]⟩ 2 []], .mk 1 10 ⟨#[]⟩ 3 []]
theorem no4 : ∀ l, l < 5 → jK px (lvL (7 - l)) 4 = false := by decide +kernel
theorem no7 : ∀ l, l < 6 → jK px (lvL (7 - l)) 7 = false := by decide +kernel
section
variable {E : Env} (hE : E.P = px)
include hE
theorem kopd {d i j : Nat} {x : Ty} (h : GK E d 165 #[pr E] i x j) (h1 : isD px s_ti i = false ∧ isD px s_ex i = false ∧ kh px j = false) : GK E d 41 #[pr E, .int .i64 7] i x j :=
 ktop (kapply (kprefix h (by rw [hE]; exact h1.1) (by rw [hE]; exact h1.2.1)) (by rw [hE]; exact h1.2.2))
theorem kint {d i : Nat} {x : Ty} (hk : px.K i = 1) (hx : x = .mk 1 (px.A i) ⟨#[]⟩ (px.N i) []) (h1 : isD px s_ti i = false ∧ isD px s_ex i = false ∧ kh px (i + 1) = false) : GK E d 41 #[pr E, .int .i64 7] i x (i + 1) := by
 have h := katom_int (d := d) (E := E) (i := i) (by rw [hE]; exact hk);rw [hE, ← hx] at h;exact kopd hE h h1
theorem kx_in {d : Nat} (hd : d < 60) : GK E d 17 #[pr E] 1 (.mk 18 1 s_pl 0 [.mk 1 1 ⟨#[]⟩ 1 [], .mk 1 5 ⟨#[]⟩ 2 []]) 4 := by
 have a := kint hE (d := d + 1) (i := 1) (x := .mk 1 1 ⟨#[]⟩ 1 []) (by decide +kernel) (by kernel_rfl) (by decide +kernel);have b := kint hE (d := d + 1) (i := 3) (x := .mk 1 5 ⟨#[]⟩ 2 []) (by decide +kernel) (by kernel_rfl) (by decide +kernel);have a6 := kdown 1 6 (by decide) (fun z hz => by subst hz; exact a) (fun l h1 h2 => by rw [hE, show l = 6 by omega]; decide +kernel);have b6 := kdown 1 6 (by decide) (fun z hz => by subst hz; exact b) (fun l h1 h2 => by rw [hE, show l = 6 by omega]; decide +kernel);have c := kbet (lv := 5) (ps := [(E.P.T 2, .mk 1 5 ⟨#[]⟩ 2 [])]) (by decide) (.inr (by decide)) (by simp) a6 (.cons (by rw [hE]; decide +kernel) (by decide) b6 (.nil (by rw [hE]; decide +kernel)));rw [hE, show jJ (.mk 1 1 ⟨#[]⟩ 1 []) [(px.T 2, .mk 1 5 ⟨#[]⟩ 2 [])] = .mk 18 1 s_pl 0 [.mk 1 1 ⟨#[]⟩ 1 [], .mk 1 5 ⟨#[]⟩ 2 []] from by kernel_rfl] at c;have z := kdown 5 0 (by decide) (fun z hz => by subst hz; exact c) (fun l h1 h2 => by rw [hE]; exact no4 l (by omega));exact kexp hd (by rw [hE]; decide +kernel) (by rw [hE]; decide +kernel) (by rw [hE]; decide +kernel) z
theorem kx_all : GK E 0 17 #[pr E] 0 n_xx 7 := by
 have r := kround (d := 1) (aa := (E.P.A 0 : Int)) (by rw [hE]; decide +kernel) (kx_in hE (by decide)) (by rw [hE]; decide +kernel) (by rw [hE]; decide +kernel) (by rw [hE]; decide +kernel) (by rw [hE]; decide +kernel);have a := kopd hE (katom_par (i := 0) (by rw [hE]; decide +kernel) (by rw [hE]; decide +kernel) (by rw [hE]; decide +kernel) (by rw [hE]; decide +kernel) r) (by decide +kernel);have b := kint hE (d := 1) (i := 6) (x := .mk 1 10 ⟨#[]⟩ 3 []) (by decide +kernel) (by kernel_rfl) (by decide +kernel);have c := kbet (lv := 6) (ps := [(E.P.T 5, .mk 1 10 ⟨#[]⟩ 3 [])]) (by decide) (.inr (by decide)) (by simp) a (.cons (by rw [hE]; decide +kernel) (by decide) b (.nil (by rw [hE]; decide +kernel)));rw [hE, show jJ (.mk 18 1 s_pl 0 [.mk 1 1 ⟨#[]⟩ 1 [], .mk 1 5 ⟨#[]⟩ 2 []]) [(px.T 5, .mk 1 10 ⟨#[]⟩ 3 [])] = n_xx from by kernel_rfl] at c;have z := kdown 6 0 (by decide) (fun z hz => by subst hz; exact c) (fun l h1 h2 => by rw [hE]; exact no7 l (by omega));exact kexp (by decide) (by rw [hE]; decide +kernel) (by rw [hE]; decide +kernel) (by rw [hE]; decide +kernel) z
end
theorem gap_x (s : ByteArray) (b k : Nat) (w : World) (hsc : Scan w b s k) (hs : s.size ≤ 4000) (hk : k ≤ s.size) (hso : Sorts w) (hA : ∀ k, k < s.size → bt s k < 128) (hb : 1 ≠ b) (hh : qf s (whD s qn k) 40 42 = false) :
 Calls Tryz.prog 32 #[pv b] w fun e w' => e = .returned (.bool true) ∧ Scan w' b s (whD s qn k) ∧ w.grownBy w' (some b) := by
 have HSO := lh hso;have HH := lh hh;have HS := lh hsc;obtain ⟨r0, r1, z1, hbl⟩ := hsc.facts;clear hsc hso hh;go_enter Tryz.func32, Tryz.ntmps32
 go_wp2_with fail
 refine wp_again (fun a' wr => a' = _ ∧ wr = w) (fun _ _ => 0) ⟨rfl, rfl⟩ ?_;rintro a' wr ⟨rfl, rfl⟩;go_wp2_with fail
 refine (while_any s b wr.heap.size k [1] qn _ (js HS.out _) hs hk (HSO.out.gr (World.grownBy_alloc wr _ (some b)) hb) hA (ints_new wr [1] _ _ rfl) (by omega) hb (by decide) blank_sort).mono ?_;rintro e w1 ⟨rfl, hs1, hg1⟩;have hg1' := jr (World.grownBy_alloc wr _ (some b)) hg1;have hwh := whD_ge s qn k;obtain ⟨k1, hk9⟩ : ∃ k1, k1 = whD s qn k := ⟨_, rfl⟩
 rw [← hk9] at hs1 hwh HH;have HK := lh hk9;clear hk9;have hk1 := hwh.2 hk;clear r0 r1 z1 hbl hg1 HS;obtain ⟨r0, r1, z1, hbl⟩ := hs1.facts;have HS := lh hs1;have HG := lh hg1';clear hs1 hg1';go_wp2_with fail
 refine (has_open s b k1 _ HS.out hs hk1).mono ?_;rw [HH.out];rintro e w2 ⟨rfl, hb2⟩;have hs2 := HS.out.below hb2;have hg2 := jr HG.out (ji hb2 (some b));clear r0 r1 z1 hbl HS HG hb2;go_wp2_with fail
 simp only [Exit.jump];go_ret
 rw [← HK.out];exact ⟨rfl, hs2, hg2⟩
def NX (s : ByteArray) (b : Nat) (t : Tok) (j : Nat) (w : World) (e : Ending) (w' : World) : Prop := e = .returned (.tuple #[tokV t, .bool true]) ∧ VE w b s j w'
theorem sign_x (s : ByteArray) (b i : Nat) (w : World) (hsc : Scan w b s i) (hs : s.size ≤ 4000) (hi : i < s.size) (hso : Sorts w) (hA : ∀ k, k < s.size → bt s k < 128) (hb : 1 ≠ b) (h6 : srt (bt s i) = 6) (h2 : i + 2 ≤ s.size) (hp : (bt s i, bt s (i + 1)) ∉ pairL) :
 Calls Tryz.prog 33 #[pv b] w (NX s b (7, i, s.extract i (i + 1), 0) (i + 1) w) := by
 obtain ⟨W, hW⟩ : ∃ W, W = (w.alloc (.cells #[.int .i64 0, .int .i64 0, .string ⟨#[]⟩, .int .i64 0] 59)).alloc (.cells #[.int .i64 0, .int .i64 i, .string ⟨#[]⟩, .int .i64 0] 59) := ⟨_, rfl⟩
 have hns : NS w W b s i 0 i ⟨#[]⟩ 0 := by rw [hW]; exact NS.start hsc i
 have hbw := hsc.lt;have qw0 : (w.alloc (.cells #[.int .i64 0, .int .i64 0, .string ⟨#[]⟩, .int .i64 0] 59)).cell? ⟨b, 0, none⟩ = some (.string s) := ja (js hsc _) 0;have qw1 : (w.alloc (.cells #[.int .i64 0, .int .i64 0, .string ⟨#[]⟩, .int .i64 0] 59)).cell? ⟨b, 1, none⟩ = some (.int .i64 i) := ja (js hsc _) 1;have HSO := lh hso;have HW := lh hW;have HV := lh hns;obtain ⟨s0, s1, z, b0, b1, b2, b3, y0, y1, y2, y3, a0, a1, a2, a3, f0, f2, f3, l0, l1, l2⟩ := hns.facts;have k0 : (0 : Int) ≤ (i : Int) := by omega
 have k1 : (i : Int) < (s.size : Int) := by omega
 obtain ⟨c, hcb⟩ : ∃ c, c = bt s i := ⟨_, rfl⟩
 have hck := qo hi hcb;have hc := hA i hi;rw [← hcb] at hc;have hsr : W.cell? ⟨1, c, none⟩ = some (.int .i64 (srt c)) := gr_cell HV.out.g hb (HSO.out c hc);have HCB := lh hcb;have c0 : (0 : Int) ≤ (c : Int) := by omega
 have c1 : (c : Int) < 128 := by omega
 have hsv : srt c = 6 := by rw [hcb]; exact h6
 rw [hsv] at hsr;clear hcb hso hW hns hsc;go_enter Tryz.func33, Tryz.ntmps33
 go_upto_region 2 with fail
 rw [← HW.out];clear qw0 qw1;go_quiet (fail)
 go_upto_region 26 with fail
 have hvX := HV.out.drewN nq;clear HV hsr hck s0 s1 z b0 b1 b2 b3 y0 y1 y2 y3 a0 a1 a2 a3 f0 f2 f3 l0 l1 l2;generalize W.drewN nq = W1 at hvX ⊢;have HV := lh hvX;obtain ⟨s0, s1, z, b0, b1, b2, b3, y0, y1, y2, y3, a0, a1, a2, a3, f0, f2, f3, l0, l1, l2⟩ := hvX.facts;clear hvX;go_upto_region 28 with fail
 have hvX := HV.out.setk hbw 7;clear HV s0 s1 z b0 b1 b2 b3 y0 y1 y2 y3 a0 a1 a2 a3 f0 f2 f3 l0 l1 l2;generalize W1.setCell ⟨w.heap.size + 1, 0, none⟩ (.int .i64 7) = W2 at hvX ⊢;have HV := lh hvX;obtain ⟨s0, s1, z, b0, b1, b2, b3, y0, y1, y2, y3, a0, a1, a2, a3, f0, f2, f3, l0, l1, l2⟩ := hvX.facts;clear hvX;have n1 : ¬ (w.heap.size + 1 = b) := by omega
 have n2 : ¬ (w.heap.size + 1 = w.heap.size) := by omega
 have n3 : ¬ (b = w.heap.size + 1) := by omega
 have n4 : ¬ (w.heap.size = w.heap.size + 1) := by omega
 have n5 : ¬ (b = w.heap.size) := by omega
 have n6 : ¬ (w.heap.size = b) := by omega
 have hw2 : IntKind.i64.wrap ((i : Int) + 2) = (i : Int) + 2 := IntWalk.i64_in _ (by omega);have hw1 : IntKind.i64.wrap ((i : Int) + 1) = (i : Int) + 1 := IntWalk.i64_in _ (by omega);have hpe := pair_eq s i h2;have hd : decide ((i : Int) + 2 ≤ (s.size : Int)) = true := by simp; omega
 have hd2 : decide ((s.size : Int) < (i : Int) + 2) = false := by simp; omega
 have q1 : (i : Int) ≤ (i : Int) + 2 := by omega
 have q2 : (i : Int) + 2 ≤ (s.size : Int) := by omega
 have HPE := lh hpe;have ht : ((i : Int) + 2).toNat = i + 2 := by omega
 go_quiet (exact Calls.quiet_of_same (isPair_same _ _))
 rw [HPE.out];rw [decide_eq_false hp];clear hp hpe;go_upto_region 31 with fail
 have hvX := HV.out.drewN nq;clear HV hd hd2 q1 q2 s0 s1 z b0 b1 b2 b3 y0 y1 y2 y3 a0 a1 a2 a3 f0 f2 f3 l0 l1 l2;generalize W2.drewN nq = W4 at hvX ⊢;have HV := lh hvX;obtain ⟨s0, s1, z, b0, b1, b2, b3, y0, y1, y2, y3, a0, a1, a2, a3, f0, f2, f3, l0, l1, l2⟩ := hvX.facts;clear hvX;have hvX := HV.out.setat hbw ((i : Int) + 1) (i + 1) (by omega);clear HV s0 s1 z b0 b1 b2 b3 y0 y1 y2 y3 a0 a1 a2 a3 f0 f2 f3 l0 l1 l2;generalize W4.setCell ⟨b, 1, none⟩ (.int .i64 ((i : Int) + 1)) = W5 at hvX ⊢;have HV := lh hvX;obtain ⟨s0, s1, z, b0, b1, b2, b3, y0, y1, y2, y3, a0, a1, a2, a3, f0, f2, f3, l0, l1, l2⟩ := hvX.facts;clear hvX;have j0 : (0 : Int) ≤ (i : Int) := by omega
 have j1 : (i : Int) ≤ ((i + 1 : Nat) : Int) := by omega
 have j2 : ((i + 1 : Nat) : Int) ≤ (s.size : Int) := by omega
 go_region
 have hvX := (HV.out.setx hbw (s.extract i (i + 1))).drew;clear HV s0 s1 z b0 b1 b2 b3 y0 y1 y2 y3 a0 a1 a2 a3 f0 f2 f3 l0 l1 l2;generalize (W5.setCell ⟨w.heap.size + 1, 2, none⟩ (.string (s.extract i (i + 1)))).drew = W6 at hvX ⊢;have HV := lh hvX;obtain ⟨s0, s1, z, b0, b1, b2, b3, y0, y1, y2, y3, a0, a1, a2, a3, f0, f2, f3, l0, l1, l2⟩ := hvX.facts;clear hvX;go_wp2_with fail
 refine bodyPost_ret (v := .tuple #[.agg #[.int .i64 7, .int .i64 i, .string (s.extract i (i + 1)), .int .i64 0], .bool true]) (by simp [results, Tryz.results33, go_sem, b0, b1, b2, b3, y0, y1, y2, y3, l1]) rfl ?_;exact ⟨rfl, HV.out.fin hbw _ _ _ _⟩
theorem digit_x (s : ByteArray) (b i : Nat) (w : World) (hsc : Scan w b s i) (hs : s.size ≤ 4000) (hi : i < s.size) (hso : Sorts w) (hA : ∀ k, k < s.size → bt s k < 128) (hb : 1 ≠ b) (h6 : srt (bt s i) = 2) (N J : Nat) (hN : numD s i 0 = (N, J)) (hN2 : N ≤ 1000000000) :
 Calls Tryz.prog 33 #[pv b] w (NX s b (1, i, ⟨#[]⟩, N) J w) := by
 obtain ⟨W, hW⟩ : ∃ W, W = (w.alloc (.cells #[.int .i64 0, .int .i64 0, .string ⟨#[]⟩, .int .i64 0] 59)).alloc (.cells #[.int .i64 0, .int .i64 i, .string ⟨#[]⟩, .int .i64 0] 59) := ⟨_, rfl⟩
 have hns : NS w W b s i 0 i ⟨#[]⟩ 0 := by rw [hW]; exact NS.start hsc i
 have hbw := hsc.lt;have qw0 : (w.alloc (.cells #[.int .i64 0, .int .i64 0, .string ⟨#[]⟩, .int .i64 0] 59)).cell? ⟨b, 0, none⟩ = some (.string s) := ja (js hsc _) 0;have qw1 : (w.alloc (.cells #[.int .i64 0, .int .i64 0, .string ⟨#[]⟩, .int .i64 0] 59)).cell? ⟨b, 1, none⟩ = some (.int .i64 i) := ja (js hsc _) 1;have HSO := lh hso;have HW := lh hW;have HV := lh hns;obtain ⟨s0, s1, z, b0, b1, b2, b3, y0, y1, y2, y3, a0, a1, a2, a3, f0, f2, f3, l0, l1, l2⟩ := hns.facts;have k0 : (0 : Int) ≤ (i : Int) := by omega
 have k1 : (i : Int) < (s.size : Int) := by omega
 obtain ⟨c, hcb⟩ : ∃ c, c = bt s i := ⟨_, rfl⟩
 have hck := qo hi hcb;have hc := hA i hi;rw [← hcb] at hc;have hsr : W.cell? ⟨1, c, none⟩ = some (.int .i64 (srt c)) := gr_cell HV.out.g hb (HSO.out c hc);have HCB := lh hcb;have c0 : (0 : Int) ≤ (c : Int) := by omega
 have c1 : (c : Int) < 128 := by omega
 have hsv : srt c = 2 := by rw [hcb]; exact h6
 rw [hsv] at hsr;clear hcb hso hW hns hsc;go_enter Tryz.func33, Tryz.ntmps33
 go_upto_region 2 with fail
 rw [← HW.out];clear qw0 qw1;go_quiet (fail)
 go_upto_region 5 with fail
 have hvX := HV.out.drewN nq;clear HV hsr hck s0 s1 z b0 b1 b2 b3 y0 y1 y2 y3 a0 a1 a2 a3 f0 f2 f3 l0 l1 l2;generalize W.drewN nq = W1 at hvX ⊢;have HV := lh hvX;obtain ⟨s0, s1, z, b0, b1, b2, b3, y0, y1, y2, y3, a0, a1, a2, a3, f0, f2, f3, l0, l1, l2⟩ := hvX.facts;clear hvX;go_wp2_with fail
 refine (while_any s b W1.heap.size i [2] dig _ (HV.out.alloc _).sc hs (by omega) (HSO.out.gr (HV.out.alloc _).g hb) hA (ints_new W1 [2] _ _ rfl) (by omega) hb (by decide) digit_sort).mono ?_;rintro e w3 ⟨rfl, hs3, hg3⟩;have hv3 := (HV.out.alloc (.cells #[.int .i64 2] 3)).gr hbw hg3 hs3;have hwh := whD_ge s dig i;have hall := whD_all s dig i;have hno := whD_not s dig i;have hnw := numD_wh (s := s) i 0;obtain ⟨j, hj⟩ : ∃ j, j = whD s dig i := ⟨_, rfl⟩
 rw [← hj] at hv3 hwh hall hnw hno;have hij := hwh.1;have hjs := hwh.2 (by omega);clear HV hs3 hg3 hwh hj s0 s1 z b0 b1 b2 b3 y0 y1 y2 y3 a0 a1 a2 a3 f0 f2 f3 l0 l1 l2;have HV := lh hv3;obtain ⟨s0, s1, z, b0, b1, b2, b3, y0, y1, y2, y3, a0, a1, a2, a3, f0, f2, f3, l0, l1, l2⟩ := hv3.facts;clear hv3;have HALL := lh hall;have HNW := lh hnw;have HNO := lh hno;clear hall hnw hno;go_upto_region 7 with fail
 have hvX := HV.out.setk hbw 1;clear HV s0 s1 z b0 b1 b2 b3 y0 y1 y2 y3 a0 a1 a2 a3 f0 f2 f3 l0 l1 l2;generalize w3.setCell ⟨w.heap.size + 1, 0, none⟩ (.int .i64 1) = W4 at hvX ⊢;have HV := lh hvX;obtain ⟨s0, s1, z, b0, b1, b2, b3, y0, y1, y2, y3, a0, a1, a2, a3, f0, f2, f3, l0, l1, l2⟩ := hvX.facts;clear hvX;have j0 : (0 : Int) ≤ (i : Int) := by omega
 have j1 : (i : Int) ≤ (j : Int) := by omega
 have j2 : (j : Int) ≤ (s.size : Int) := by omega
 go_region
 have hq : w.heap.size + 1 < W4.heap.size := l2;have hvX := (HV.out.drew);have hsz : W4.drew.heap.size = W4.heap.size := rfl;clear HV s0 s1 z b0 b1 b2 b3 y0 y1 y2 y3 a0 a1 a2 a3 f0 f2 f3 l0 l1 l2;generalize W4.drew = W5 at hvX hsz ⊢;obtain ⟨f, hf⟩ : ∃ f : List UInt8, f = (s.extract i j).data.toList := ⟨_, rfl⟩
 have hfl : f.length = j - i := by rw [hf, sizeL, ByteArray.size_extract]; omega
 have hfe : s.extract i j = ⟨f.toArray⟩ := by rw [hf]
 have hfb : ∀ p, p < j - i → (f.getD p 0).toNat = bt s (i + p) := fun p hp => by rw [hf]; exact ext_bt s i j p hij hjs hp
 rw [hfe];have hit0 := World.iter_heap W5 ⟨f.toArray⟩ 0;have hns0 : NS w (W5.iter ⟨f.toArray⟩ 0) b s j 1 i ⟨#[]⟩ 0 := hvX.alloc _;rw [hsz] at hit0;have HSZ := lh hsz;have HIT := lh hit0;have HNS := lh hns0;have HFB := lh hfb;clear hit0 hns0 hvX hf hfe hfb;generalize W5.iter ⟨f.toArray⟩ 0 = W6 at HIT HNS ⊢;generalize W4.heap.size = q at *
 go_wp2_with fail
 go_loopw [] (fun wr => ∃ p n : Nat, p ≤ j - i ∧ n ≤ 1000000001 ∧ wr.heap[q]? = some (.stringIter ⟨f.toArray⟩ p) ∧ NS w wr b s j 1 i ⟨#[]⟩ n ∧ numD s (i + p) n = numD s i 0) (fun wr => (j - i) - wr.iterPos q)
 case atStart => exact ⟨0, 0, by omega, by omega, HIT.out, HNS.out, rfl⟩
 case round =>
  clear HIT HNS;obtain ⟨p, n, hp, hn, hit, hns, hc⟩ := hrel;have HC := lh hc;have HIP := lh (iterPos_of hit);clear hc
  by_cases hlt : p < j - i
  · have hdg := HALL.out (i + p) (by omega) (by omega);have hst := numD_step (s := s) (n := n) (show i + p < s.size by omega) hdg;rw [HC.out] at hst;have hge := dig_ge hdg;obtain ⟨d, hdd⟩ : ∃ d : UInt8, d = f.getD p 0 := ⟨_, rfl⟩
    have hdn : d.toNat = bt s (i + p) := (by rw [hdd]; exact HFB.out p hlt);rw [← hdn] at hst hge;have hnx := fun ty => next_at (P := Tryz.prog) wr q f p ty d hit (by omega) hdd.symm (by omega)
    obtain ⟨w3, hw3⟩ : ∃ w3, w3 = wr.iterAt q ⟨f.toArray⟩ (p + 1) := ⟨_, rfl⟩
    rw [← hw3] at hnx;have hns3 : NS w w3 b s j 1 i ⟨#[]⟩ n := (by rw [hw3]; exact hns.iterAt hit (by omega) (p + 1));have hit3 : w3.heap[q]? = some (.stringIter ⟨f.toArray⟩ (p + 1)) := (by rw [hw3]; exact Lib.iterAt_heap wr _ _ p (p + 1) hit);have HST := lh hst;have HNS := lh hns3;have HIT := lh hit3;obtain ⟨m, hm⟩ : ∃ m, m = d.toNat := ⟨_, rfl⟩
    rw [← hm] at hnx hst hge;have HM := lh hm;obtain ⟨s0, s1, z, b0, b1, b2, b3, y0, y1, y2, y3, a0, a1, a2, a3, f0, f2, f3, l0, l1, l2⟩ := hns3.facts;clear hst hns hit hns3 hit3 hw3 hdd hdn hdg hm;have e0 : IntKind.i32.wrap ((m : Int) - 48) = ((m - 48 : Nat) : Int) := (by show _ = _; rw [show (m : Int) - 48 = ((m - 48 : Nat) : Int) from by omega]; exact IntWalk.i32_in _ (by omega));have e2 : IntKind.i64.wrap (((m - 48 : Nat) : Int)) = ((m - 48 : Nat) : Int) := IntWalk.i64_in _ (by omega);have e3 : IntKind.i64.wrap (10 * (n : Int)) = 10 * (n : Int) := IntWalk.i64_in _ (by omega);have e4 : IntKind.i64.wrap (10 * (n : Int) + ((m - 48 : Nat) : Int)) = ((10 * n + (m - 48) : Nat) : Int) := (by rw [IntWalk.i64_in _ (by omega)]; push_cast; rfl);obtain ⟨v, HV⟩ : ∃ v : Nat, RowKit.Hid (v = min (10 * n + (m - 48)) 1000000001) := ⟨_, lh rfl⟩
    have hv : (if (1000000001 : Int) < 10 * (n : Int) + ((m - 48 : Nat) : Int) then 1000000001 else 10 * (n : Int) + ((m - 48 : Nat) : Int)) = (v : Int) := (by rw [HV.out]; split <;> omega);have hv2 : min (10 * (n : Int) + ((m - 48 : Nat) : Int)) 1000000001 = (v : Int) := (by rw [HV.out]; omega);go_wp2_with fail
    go_roundw
    case rel => exact ⟨p + 1, v, by omega, by rw [HV.out]; omega, jg HIT.out (by omega) _ _, HNS.out.setn hbw _, by rw [HV.out, show i + (p + 1) = i + p + 1 from by omega, HM.out]; exact HST.out.symm⟩
    case measure => rw [iterPos_of (jg HIT.out (by omega) _ _), HIP.out]; omega
  · obtain rfl : p = j - i := by omega
    have hst := numD_stop (s := s) (i := i + (j - i)) (n := n) (fun h => by rw [show i + (j - i) = j from by omega] at h ⊢; exact HNO.out h);rw [HC.out, show i + (j - i) = j from by omega] at hst;have htk := hst.symm.trans hN;obtain ⟨h7, h8⟩ := Prod.mk.inj htk;subst h7 h8;have HNS := lh hns;have hnx := fun ty => next_end (P := Tryz.prog) wr q f (j - i) ty hit (by omega)
    obtain ⟨s0, s1, z, b0, b1, b2, b3, y0, y1, y2, y3, a0, a1, a2, a3, f0, f2, f3, l0, l1, l2⟩ := hns.facts;clear hns hit hst;have n1 : ¬ (w.heap.size + 1 = b) := (by omega);have n2 : ¬ (w.heap.size + 1 = w.heap.size) := (by omega);have n3 : ¬ (b = w.heap.size + 1) := (by omega);have n4 : ¬ (w.heap.size = w.heap.size + 1) := (by omega);have n5 : ¬ (b = w.heap.size) := (by omega);have n6 : ¬ (w.heap.size = b) := (by omega);have g1 : decide ((n : Int) ≤ 1000000000) = true := (by simp; omega);have g2 : (n : Int) ≤ 1000000000 := (by omega);go_wp2_with fail
    go_region
    all_goals go_wp2_with fail
    all_goals
     refine bodyPost_ret (v := .tuple #[.agg #[.int .i64 1, .int .i64 i, .string ⟨#[]⟩, .int .i64 n], .bool true]) (by simp [results, Tryz.results33, go_sem, b0, b1, b2, b3, y0, y1, y2, y3, l1, g2]) rfl ?_;exact ⟨rfl, (HNS.out.fin hbw _ _ _ _).drew⟩
abbrev c_3 : ByteArray := ⟨#[40, 49, 32, 43, 32, 50, 41, 32, 42, 32, 51]⟩
def pE (m : Nat) : Nat := [0, 1, 2, 4, 6, 7, 9, 11].getD m 0
def pG (m : Nat) : Nat := [0, 1, 3, 5, 6, 8, 10, 11].getD m 0
def pT (m : Nat) : Tok := px.toks.getD m (0, 0, ⟨#[]⟩, 0)
theorem c3_a : ∀ k, k < c_3.size → bt c_3 k < 128 := by decide +kernel
theorem c3_w : ∀ m, m < 8 → whD c_3 qn (pE m) = pG m ∧ qf c_3 (pG m) 40 42 = false ∧ pE m ≤ 11 := by decide +kernel
theorem nx_of {s : ByteArray} {b j j' : Nat} {t t' : Tok} {w : World} (h : Calls Tryz.prog 33 #[pv b] w (NX s b t j w)) (ht : t = t') (hj : j = j') : Calls Tryz.prog 33 #[pv b] w (NX s b t' j' w) := ht ▸ hj ▸ h
theorem gap_3 (m : Nat) (hm : m < 8) (b : Nat) (w : World) (hsc : Scan w b c_3 (pE m)) (hso : Sorts w) (hb : 1 ≠ b) : Calls Tryz.prog 32 #[pv b] w fun e w' => e = .returned (.bool true) ∧ Scan w' b c_3 (pG m) ∧ w.grownBy w' (some b) := by
 obtain ⟨h1, h2, h3⟩ := c3_w m hm;have h := gap_x c_3 b (pE m) w hsc (by decide) h3 hso c3_a hb (by rw [h1]; exact h2);rw [h1] at h;exact h
theorem next_3 (m : Nat) (hm : m < 7) (b : Nat) (w : World) (hsc : Scan w b c_3 (pG m)) (hso : Sorts w) (hb : 1 ≠ b) : Calls Tryz.prog 33 #[pv b] w (NX c_3 b (pT m) (pE (m + 1)) w) := by
 rcases (by omega : m = 0 ∨ m = 1 ∨ m = 2 ∨ m = 3 ∨ m = 4 ∨ m = 5 ∨ m = 6) with rfl | rfl | rfl | rfl | rfl | rfl | rfl
 · exact nx_of (sign_x c_3 b 0 w hsc (by decide) (by decide) hso c3_a hb (by decide +kernel) (by decide) (by decide +kernel)) (by kernel_rfl) rfl
 · exact nx_of (digit_x c_3 b 1 w hsc (by decide) (by decide) hso c3_a hb (by decide +kernel) 1 2 (by decide +kernel) (by decide)) (by kernel_rfl) rfl
 · exact nx_of (sign_x c_3 b 3 w hsc (by decide) (by decide) hso c3_a hb (by decide +kernel) (by decide) (by decide +kernel)) (by kernel_rfl) rfl
 · exact nx_of (digit_x c_3 b 5 w hsc (by decide) (by decide) hso c3_a hb (by decide +kernel) 2 6 (by decide +kernel) (by decide)) (by kernel_rfl) rfl
 · exact nx_of (sign_x c_3 b 6 w hsc (by decide) (by decide) hso c3_a hb (by decide +kernel) (by decide) (by decide +kernel)) (by kernel_rfl) rfl
 · exact nx_of (sign_x c_3 b 8 w hsc (by decide) (by decide) hso c3_a hb (by decide +kernel) (by decide) (by decide +kernel)) (by kernel_rfl) rfl
 · exact nx_of (digit_x c_3 b 10 w hsc (by decide) (by decide) hso c3_a hb (by decide +kernel) 3 11 (by decide +kernel) (by decide)) (by kernel_rfl) rfl
def LexT (T : List Tok) (w : World) (e : Ending) (w' : World) : Prop :=
 ∃ a cap, e = .returned (.tuple #[.slice a T.length cap, .agg #[.int .i64 0, .int .i64 0]]) ∧ w'.ownsRow w.heap.size 59 4 (.slice a T.length cap) T.length (T.flatMap kE) ∧ Below w.heap.size w w'
theorem LexT.mk' {T l : List Tok} {w w' : World} {e : Ending} {a : Option Addr} {cap : Nat} (h : l = T) (he : e = .returned (.tuple #[.slice a l.length cap, .agg #[.int .i64 0, .int .i64 0]]))
 (ho : w'.ownsRow w.heap.size 59 4 (.slice a l.length cap) l.length (l.flatMap kE)) (hb : Below w.heap.size w w') : LexT T w e w' := by
 subst h;exact ⟨a, cap, he, ho, hb⟩
def PkR (s : ByteArray) (w : World) (l : Value) (wr : World) : Prop :=
 ∃ (m : Nat) (ts : List Tok) (a : Option Addr) (cap : Nat), m < 8 ∧ ts = (List.range m).map pT ∧ l = .slice a ts.length cap ∧ wr.ownsRow w.heap.size 59 4 (.slice a ts.length cap) ts.length (ts.flatMap kE) ∧ FltB wr w.heap.size ∧ Scan wr (w.heap.size + 1) s (pE m) ∧ Below w.heap.size w wr
theorem toks_s (s : ByteArray) (T : List Tok) (hs : s.size ≤ 4000) (hok : ∀ k, k < s.size → okB (bt s k) = true)
 (hgp : ∀ m, m < 8 → ∀ b w, Scan w b s (pE m) → Sorts w → 1 ≠ b → Calls Tryz.prog 32 #[pv b] w fun e w' => e = .returned (.bool true) ∧ Scan w' b s (pG m) ∧ w.grownBy w' (some b))
 (hnx : ∀ m, m < 7 → ∀ b w, Scan w b s (pG m) → Sorts w → 1 ≠ b → Calls Tryz.prog 33 #[pv b] w (NX s b (pT m) (pE (m + 1)) w))
 (hpe : ∀ m, m < 7 → pE m < pE (m + 1) ∧ pE (m + 1) ≤ s.size ∧ pG m < s.size) (hp7 : pG 7 = s.size) (hTT : (List.range 7).map pT ++ [(0, s.size, ByteArray.empty, 0)] = T)
 (w : World) (hso : Sorts w) (h0 : 1 < w.heap.size) : Calls Tryz.prog 15 #[.string s] w (LexT T w) := by
 have HSO := lh hso;have HOK := lh hok;have HGP := lh hgp;have HNX := lh hnx;have HPE := lh hpe;have HP7 := lh hp7;have HTT := lh hTT;clear hso hok hgp hnx hpe hp7 hTT;obtain ⟨W, hW⟩ : ∃ W, W = w.alloc (.cells #[.int .i64 0, .int .i64 0] 29) := ⟨_, rfl⟩
 have hfl : FltB W w.heap.size := by rw [hW]; exact heap_alloc_new w _
 have hbl : Below w.heap.size w W := by rw [hW]; exact (Below.refl _ _).alloc (Nat.le_refl _) _
 have HW := lh hW;have HF := lh hfl;have HB := lh hbl;obtain ⟨i59, hi, hz0, hz1, hz2⟩ := info_parts info59;have HI := lh hi;have x0 : W.cell? ⟨w.heap.size, 0, none⟩ = some (.int .i64 0) := ja hfl 0;have x1 : W.cell? ⟨w.heap.size, 1, none⟩ = some (.int .i64 0) := ja hfl 1;have z0 := jd hfl 0;have z1 := jd hfl 1;have l0 : w.heap.size < W.heap.size := lt_of_block hfl;clear hW hfl hbl hi;have hd : decide ((4000 : Int) < (s.size : Int)) = false := by simp; omega
 go_enter Tryz.func15, Tryz.ntmps15
 go_upto_region 1 with fail
 rw [← HW.out];go_wp2_with fail
 go_loop [17] (fun i => ∃ k : Nat, k ≤ s.size ∧ i = .int .i64 k) (fun i => s.size - (intOf i).toNat)
 case atStart => exact ⟨0, Nat.zero_le _, rfl⟩
 case round =>
  obtain ⟨k, hk, rfl⟩ := hrel;clear hd
  by_cases hlt : k < s.size
  · have k0 : (0 : Int) ≤ (k : Int) := (by omega);have k1 : (k : Int) < (s.size : Int) := (by omega);obtain ⟨c, hcb⟩ : ∃ c, c = bt s k := ⟨_, rfl⟩
    have hck := qo hlt hcb;have hcs := (okB_cases c).1 (by rw [hcb]; exact HOK.out k hlt);clear hcb x0 x1 z0 z1
    by_cases c9 : c = 9
    · have e9 : ((c : Int) != 9) = false := (by simp [c9]);clear hcs c9;go_wp2_with fail
      go_round
      case rel => exact ⟨k + 1, by omega, by go_num⟩
      case measure => simp [intOf]; omega
    · have e9 : ((c : Int) != 9) = true := by simp; omega
      by_cases c10 : c = 10
      · have e10 : ((c : Int) != 10) = false := (by simp [c10]);clear hcs c9 c10;go_wp2_with fail
        go_round
        case rel => exact ⟨k + 1, by omega, by go_num⟩
        case measure => simp [intOf]; omega
      · have e10 : ((c : Int) != 10) = true := (by simp; omega);have e32 : decide ((c : Int) < 32) = false := (by simp; omega);have e126 : decide ((126 : Int) < (c : Int)) = false := (by simp; omega);clear hcs c9 c10;go_wp2_with fail
        go_round
        case rel => exact ⟨k + 1, by omega, by go_num⟩
        case measure => simp [intOf]; omega
  · have hf2 : FltB (W.alloc (.cells #[.string s, .int .i64 0] 56)) w.heap.size := js HF.out _
    have hs2 : Scan (W.alloc (.cells #[.string s, .int .i64 0] 56)) (w.heap.size + 1) s 0 := by
     have h2 := heap_alloc_new W (.cells #[.string s, .int .i64 0] 56);have e : W.heap.size = w.heap.size + 1 := (by rw [HW.out, World.size_alloc]);rw [e] at h2;exact h2
    have hb2 := jk HB.out (.cells #[.string s, .int .i64 0] 56);have HF0 := lh hf2;have HS0 := lh hs2;have HB0 := lh hb2;clear hf2 hs2 hb2 HF HB;have hWn : W.heap.size = w.heap.size + 1 := (by rw [HW.out, World.size_alloc]);go_wp2_with fail
    clear x0 x1 z0 z1 l0
    try rw [hWn]
    go_loopw [7] (fun l wr => PkR s w l wr) (fun _ wr => s.size - atOf wr (w.heap.size + 1))
    case atStart => exact ⟨0, [], none, 0, by omega, rfl, rfl, World.ownsRow_nil _ _ _ _, HF0.out, HS0.out, HB0.out⟩
    case round =>
     obtain ⟨m, ts, a, cap, hm, hts, rfl, hown, hfl, hsc, hbl⟩ := hrel;have hl : ts.length < 8 := (by rw [hts]; simp; omega);have HTS := lh hts;have HAT := lh hsc.at;clear HF0 HS0 HB0 hts;have HO0 := lh hown;have HF0 := lh hfl;have HB0 := lh hbl;have HS0 := lh hsc;clear hown hfl hbl hsc;go_wp2_with fail
     refine (HGP.out m hm (w.heap.size + 1) wr HS0.out (HSO.out.below HB0.out h0) (by omega)).mono ?_;rintro e w2 ⟨rfl, hs2, hg2⟩;have HB := lh (gr_b HB0.out hg2);have HF : Hid (FltB w2 w.heap.size) := lh (kL HF0.out hg2 (by intro e; injection e with e; omega));have HO := lh (own_keep HO0.out hg2 (fun q hq => by cases hq; exact ⟨_, _, _, HS0.out, by decide⟩));obtain ⟨j, hj⟩ : ∃ j, j = pG m := ⟨_, rfl⟩
     rw [← hj] at hs2;have HJ := lh hj
     have hjs : j ≤ s.size := by
      by_cases h7 : m = 7
      · rw [hj, h7, HP7.out]; omega
      · have := (HPE.out m (by omega)).2.2; omega
     clear hj;have HS := lh hs2;clear hs2 hg2 HF0 HO0 HB0 HS0;have j0 : (0 : Int) ≤ (j : Int) := (by omega);have x0 : w2.cell? ⟨w.heap.size, 0, none⟩ = some (.int .i64 0) := ja HF.out 0;have x1 : w2.cell? ⟨w.heap.size, 1, none⟩ = some (.int .i64 0) := ja HF.out 1;have z0 := jd HF.out 0;have z1 := jd HF.out 1;have l0 : w.heap.size < w2.heap.size := lt_of_block HF.out;obtain ⟨r0, r1, zz, l1⟩ := HS.out.facts;have hlo : ∀ g, (Value.slice a ts.length cap).ownBlock = some g → w.heap.size ≤ g := fun g hg => (HO.out.lt g hg).1
     have hnb : (Value.slice a ts.length cap).ownBlock ≠ some w.heap.size := own_ne HF.out HO.out (by decide);have hns : (Value.slice a ts.length cap).ownBlock ≠ some (w.heap.size + 1) := own_ne HS.out HO.out (by decide)
     by_cases hm7 : m = 7
     · have hjz : j = s.size := (by rw [HJ.out, hm7, HP7.out]);have hde : ((j : Int) == (s.size : Int)) = true := (by simp; omega);have HEQ : Hid (ts ++ [(0, s.size, ByteArray.empty, 0)] = T) := lh (by rw [HTS.out, hm7]; exact HTT.out);clear HJ hm7;subst hjz;clear x0 x1 z0 z1 l0;have hWs : w.heap.size ≤ w2.heap.size := HB.out.size;go_wp2_with (first | (at_builtin; go_must (refine wpList_append_own _ rfl (.tmp 59) (.tmp 65) 36 rfl w.heap.size 59 i59 (.agg #[.int .i64 0, .int .i64 0, .string ⟨#[]⟩, .int .i64 0]) 4 40 Tryz.underlying36 HI.out hz0 hz1 hz2 rfl (by decide) (.slice a ts.length cap) ts.length (ts.flatMap kE) rfl (HO.out.alloc _) ⟨w2.heap.size, 0, none⟩ 1 1 [.int .i64 0, .int .i64 (s.size : Nat), .string ⟨#[]⟩, .int .i64 0] rfl rfl (jT (c := #[.int .i64 0, .int .i64 (s.size : Nat), .string ⟨#[]⟩, .int .i64 0]) _ (by simp)) (tok_ones _ _ _ _) (by unfold maxLen; omega) (by omega) (by simp; omega) ?_)))
       intro v5 w5 hown5 hg5 hnil5;obtain ⟨g5, cap5, hv5⟩ := kj hown5 hnil5;rw [hv5] at hown5 ⊢;clear hnil5 hv5;have hf5 : FltB w5 w.heap.size := kL (js HF.out _) hg5 hnb;have hb5 : Below w.heap.size w w5 := (jk HB.out _).grown hg5 (by simp; omega) hlo
       have ho5 : w5.ownsRow w.heap.size 59 4 (.slice (some ⟨g5, 0, none⟩) (ts ++ [((0, s.size, ByteArray.empty, 0) : Tok)]).length cap5) (ts ++ [((0, s.size, ByteArray.empty, 0) : Tok)]).length ((ts ++ [((0, s.size, ByteArray.empty, 0) : Tok)]).flatMap kE) := by
        rw [List.length_append, List.flatMap_append];exact hown5
       clear HF HB HO hown5 hg5 hlo hnb hns r0 r1 zz l1;have HF := lh hf5;have HB := lh hb5;have HO := lh ho5;clear hf5 hb5 ho5;have x0 : w5.cell? ⟨w.heap.size, 0, none⟩ = some (.int .i64 0) := ja HF.out 0;have x1 : w5.cell? ⟨w.heap.size, 1, none⟩ = some (.int .i64 0) := ja HF.out 1;have z0 := jd HF.out 0;have z1 := jd HF.out 1;have l0 : w.heap.size < w5.heap.size := lt_of_block HF.out;go_wp2_with fail
       refine bodyPost_ret (v := .tuple #[.slice (some ⟨g5, 0, none⟩) (ts.length + 1) cap5, .agg #[.int .i64 0, .int .i64 0]]) (by simp [results, Tryz.results15, go_sem, x0, x1, z0, z1, l0]) rfl ?_;refine LexT.mk' HEQ.out (by rw [List.length_append]; rfl) (vf (vf HO.out HF.out (by decide) _ _) (jy HF.out _ _) (by decide) _ _) ?_;exact (HB.out.setCell (p := ⟨w.heap.size, 0, none⟩) (Nat.le_refl _) _).setCell (p := ⟨w.heap.size, 1, none⟩) (Nat.le_refl _) _
     · have hm8 : m < 7 := (by omega);have hj2 : j < s.size := (by rw [HJ.out]; exact (HPE.out m hm8).2.2);have hde : ((j : Int) == (s.size : Int)) = false := (by simp; omega);have hlt3 := HPE.out m hm8;have HM7 := lh hm7;clear hm7 x0 x1 z0 z1 l0 hlo hnb hns;go_wp2_with fail
       refine (HNX.out m hm8 (w.heap.size + 1) w2 (HJ.out ▸ HS.out) (HSO.out.below HB.out h0) (by omega)).mono ?_;rintro e w4 ⟨rfl, hs4, hg4⟩;have hb4 := gr_b HB.out hg4;have hf4 : FltB w4 w.heap.size := kL HF.out hg4 (by intro e; injection e with e; omega);have ho4 := own_keep HO.out hg4 (fun q hq => by cases hq; exact ⟨_, _, _, HS.out, by decide⟩);clear HF HB HO HS r0 r1 zz l1 hg4;have HF := lh hf4;have HB := lh hb4;have HO := lh ho4;clear hf4 hb4 ho4;have x0 : w4.cell? ⟨w.heap.size, 0, none⟩ = some (.int .i64 0) := ja HF.out 0;have x1 : w4.cell? ⟨w.heap.size, 1, none⟩ = some (.int .i64 0) := ja HF.out 1;have z0 := jd HF.out 0;have z1 := jd HF.out 1;have l0 : w.heap.size < w4.heap.size := lt_of_block HF.out;obtain ⟨⟨t1, t2, t3, t4⟩, htk⟩ : ∃ t : Tok, t = pT m := ⟨_, rfl⟩
       rw [← htk];obtain ⟨q, hq⟩ : ∃ q, q = pE (m + 1) := ⟨_, rfl⟩
       rw [← hq] at hs4 hlt3;have HQ := lh hq;have HTK := lh htk;have HS := lh hs4;clear hq htk x0 x1 z0 z1 l0 hs4;have hWs : w.heap.size ≤ w4.heap.size := HB.out.size;unfold tokV;dsimp only
       have hlo : ∀ g, (Value.slice a ts.length cap).ownBlock = some g → w.heap.size ≤ g := fun g hg => (HO.out.lt g hg).1
       have hnb : (Value.slice a ts.length cap).ownBlock ≠ some w.heap.size := own_ne HF.out HO.out (by decide);have hns : (Value.slice a ts.length cap).ownBlock ≠ some (w.heap.size + 1) := own_ne HS.out HO.out (by decide);go_wp2_with (first | (at_builtin; go_must (refine wpList_append_own _ rfl (.tmp 82) (.tmp 84) 36 rfl w.heap.size 59 i59 (.agg #[.int .i64 0, .int .i64 0, .string ⟨#[]⟩, .int .i64 0]) 4 40 Tryz.underlying36 HI.out hz0 hz1 hz2 rfl (by decide) (.slice a ts.length cap) ts.length (ts.flatMap kE) rfl ((HO.out.alloc _).alloc _) ⟨w4.heap.size + 1, 0, none⟩ 1 1 [.int .i64 t1, .int .i64 t2, .string t3, .int .i64 t4] rfl rfl (jT (c := #[.int .i64 t1, .int .i64 t2, .string t3, .int .i64 t4]) _ (by simp)) (tok_ones _ _ _ _) (by unfold maxLen; omega) (by omega) (by simp; omega) ?_)))
       intro v5 w5 hown5 hg5 hnil5;obtain ⟨g5, cap5, hv5⟩ := kj hown5 hnil5;rw [hv5] at hown5 ⊢;clear hnil5 hv5;have hf5 : FltB w5 w.heap.size := kL (js (js HF.out _) _) hg5 hnb;have hs5 : Scan w5 (w.heap.size + 1) s q := kL (js (js HS.out _) _) hg5 hns;have hb5 : Below w.heap.size w w5 := (jk (jk HB.out _) _).grown hg5 (by simp; omega) hlo
       have ho5 : w5.ownsRow w.heap.size 59 4 (.slice (some ⟨g5, 0, none⟩) (ts ++ [((t1, t2, t3, t4) : Tok)]).length cap5) (ts ++ [((t1, t2, t3, t4) : Tok)]).length ((ts ++ [((t1, t2, t3, t4) : Tok)]).flatMap kE) := by
        rw [List.length_append, List.flatMap_append];exact hown5
       have HF5 := lh hf5;have HB5 := lh hb5;have HO5 := lh ho5;have HS5 := lh hs5;clear hf5 hb5 ho5 hs5 hown5 hg5 hlo hnb hns HO HB HF HS;go_wp2_with fail
       go_roundw
       case rel => exact ⟨m + 1, ts ++ [(t1, t2, t3, t4)], _, cap5, by omega, by rw [HTK.out, HTS.out, List.range_succ, List.map_append]; rfl, by rw [List.length_append]; rfl, HO5.out, HF5.out, HQ.out ▸ HS5.out, HB5.out⟩
       case measure => rw [HS5.out.at, HAT.out]; omega
theorem toks_3 (w : World) (hso : Sorts w) (h0 : 1 < w.heap.size) : Calls Tryz.prog 15 #[.string c_3] w (LexT px.toks w) :=
 toks_s c_3 px.toks (by decide) (by decide +kernel) (fun m hm b w => gap_3 m hm b w) (fun m hm b w => next_3 m hm b w) (by decide +kernel) (by decide +kernel) (by kernel_rfl) w hso h0
theorem rd_startT {P : Src} {w1 X : World} {B rb : Nat} {a : Option Addr} {cap : Nat} (hok : SrcOk P) (e1 : P.fk = 0) (e2 : P.fa = 0) (ho : w1.ownsRow B 59 4 (.slice a P.toks.length cap) P.toks.length (P.toks.flatMap kE)) (hB : rb < B) (hX : ∀ b, B ≤ b → X.heap[b]? = w1.heap[b]?) (hs : w1.heap.size ≤ X.heap.size) (hrb : rb < X.heap.size) (hT : TabOk X) (h2 : 2 < rb) (hr : X.heap[rb]? = some (.cells #[.slice a P.toks.length cap, .int .i64 0, .int .i64 0, .int .i64 0, .int .i64 0] 63 (0, 0))) :
 Rd ⟨X.heap.size, rb, P, a, cap⟩ X 0 0 ∧ ∀ b off, a = some ⟨b, off, none⟩ → B ≤ b ∨ P.toks.length = 0 := by
 refine ⟨⟨?_, fun k hk => ?_, ⟨hrb, Nat.le_refl _⟩, hok, Nat.zero_le _, by decide, hT.gl, h2⟩, fun b off e => ?_⟩
 · show X.heap[rb]? = some (.cells #[.slice a P.toks.length cap, .int .i64 ((0 : Nat) : Int), .int .i64 (P.fk : Int), .int .i64 (P.fa : Int), .int .i64 ((0 : Nat) : Int)] 63 (0, 0))
   rw [e1, e2];exact hr
 · have hk2 : k < P.toks.length := hk;rcases ho.2 with ⟨h1, h3⟩ | ⟨g, cap', cur, h1, h3, h4⟩
   · injection h1 with e3 e4 e5
     omega
   · injection h1 with e3 e4 e5
     have hg := ho.lt g (by rw [e3]; rfl);refine ⟨g, 0, e3, by dsimp only; omega, by show g < X.heap.size; omega, fun j hj => ?_⟩;have hc := (show w1.ownsRow B 59 4 (.slice (some ⟨g, 0, none⟩) P.toks.length cap) P.toks.length _ from by rw [← e3]; exact ho).cellAt (0 + k * 4 + j) (by omega);rw [World.cell?_of_block (a := ⟨g, 0 + k * 4 + j, none⟩) (hX g hg.1), hc, show 0 + k * 4 + j = k * 4 + j from by omega];exact flat_get hk2 hj
 · rcases ho.2 with ⟨h1, h3⟩ | ⟨g, cap', cur, h1, h3, h4⟩
   · injection h1 with e3 e4 e5
     exact .inr e4
   · injection h1 with e3 e4 e5
     rw [e3] at e;have := Option.some.inj e;have h5 : g = b := (by injection this);exact .inl (by omega)
theorem read_x (P : Src) (n : Ty) (j : Nat) (s : ByteArray) (hfk : P.fk = 0) (hfa : P.fa = 0) (hok : SrcOk P) (hkj : P.K j = 0) (HL : ∀ w, Sorts w → 1 < w.heap.size → Calls Tryz.prog 15 #[.string s] w (LexT P.toks w)) (HM : ∀ E : Env, E.P = P → GK E 0 17 #[pr E] 0 n j) (w : World) (hT : TabOk w) : Calls Tryz.prog 16 #[.string s, .func (.func 17) #[] #[]] w (vz (n, 0, 0) w) := by
 have hmf : ∀ (fn : Fn) (first cap : Array Value) (w : World), (Instr.makeFunc fn first cap).run Tryz.prog w = .ok (.func fn first cap) w := fun _ _ _ _ => rfl
 obtain ⟨W, hW, hbW, hsW, rn, rf, rr⟩ := rd_made w;have HTK : Hid (Calls Tryz.prog 15 #[.string s] W (LexT P.toks W)) := lh (HL W (hT.below hbW).so (by have := (hT.below hbW).sz; omega));have HOK := lh hok;have HTB := lh hT;have HMM := lh HM;have HFK := lh hfk;have HFA := lh hfa;have HKJ := lh hkj;obtain ⟨nb, hnb⟩ : ∃ nb, nb = w.heap.size := ⟨_, rfl⟩
 obtain ⟨fb, hfb⟩ : ∃ fb, fb = w.heap.size + 1 := ⟨_, rfl⟩
 obtain ⟨rb, hrb⟩ : ∃ rb, rb = w.heap.size + 1 + 1 := ⟨_, rfl⟩
 rw [← hnb] at rn;rw [← hfb] at rf;rw [← hrb] at rr;have HNB := lh hnb;have HFB := lh hfb;have HRB := lh hrb;have HRN := lh rn;have HRF := lh rf;have HRR := lh rr;have HBW := lh hbW;have HSW := lh hsW;unfold ju rdRow0 at hW;have HWW := lh hW;have n1 : ¬ (nb = fb) := by omega
 have n2 : ¬ (fb = nb) := by omega
 have n3 : ¬ (nb = rb) := by omega
 have n4 : ¬ (rb = nb) := by omega
 have n5 : ¬ (fb = rb) := by omega
 have n6 : ¬ (rb = fb) := by omega
 clear hW hbW hsW rn rf rr hT hnb hfb hrb hok HM hfk hfa hkj HL;go_enter_defers Tryz.func16, Tryz.ntmps16
 go_upto_region 2 with fail
 rw [← HWW.out, ← HRB.out, ← HFB.out, ← HNB.out];clear HWW;go_upto_region 3 with (first | (go_at_call 15; refine HTK.out.mono ?_; rintro e w1 ⟨a, cap, rfl, ho, hb⟩; have r1 := jo HRR.out hb (lt_of_block HRR.out); have HB1 := lh hb; have HR1 := lh r1; unfold rdRow0 at r1; obtain ⟨⟨c0, c1, c2, c3, c4⟩, ⟨z0, z1, z2, z3, z4⟩⟩ := rd_cells r1; have HO := lh ho; clear ho hb r1))
 obtain ⟨X, hX⟩ : ∃ X, X = ((w1.setCell ⟨rb, 0, none⟩ (.slice a P.toks.length cap)).setCell ⟨rb, 2, none⟩ (.int .i64 0)).setCell ⟨rb, 3, none⟩ (.int .i64 0) := ⟨_, rfl⟩
 have bX : Below w.heap.size w X := by rw [hX]; exact setR_below (HBW.out.trans (HB1.out.mono (by have := HSW.out; omega))) (by have := HRB.out; omega) _ 0 0
 have rX : X.heap[rb]? = some (.cells #[.slice a P.toks.length cap, .int .i64 0, .int .i64 0, .int .i64 0, .int .i64 0] 63 (0, 0)) := by rw [hX]; exact setR_row HR1.out _ 0 0
 have nX : X.heap[nb]? = some (.cells ju 26 (0, 0)) := by rw [hX]; exact setR_ne (jo HRN.out HB1.out (lt_of_block HRN.out)) n3 _ 0 0
 have fX : X.heap[fb]? = some (.cells #[.int .i64 0, .int .i64 0] 29 (0, 0)) := by rw [hX]; exact setR_ne (jo HRF.out HB1.out (lt_of_block HRF.out)) n5 _ 0 0
 have hbig : ∀ b, W.heap.size ≤ b → X.heap[b]? = w1.heap[b]? := fun b hb => by
  have h1 : b ≠ rb := by have := lt_of_block HRR.out; omega
  rw [hX];exact setR_ne rfl h1 _ 0 0
 have hsz : w1.heap.size ≤ X.heap.size := by rw [hX]; rw [World.size_setCell, World.size_setCell, World.size_setCell]; exact Nat.le_refl _
 have hrd := rd_startT (rb := rb) HOK.out HFK.out HFA.out HO.out (by have := lt_of_block HRR.out; omega) hbig hsz (lt_of_block rX) (HTB.out.below bX) (by have := HTB.out.sz; have := HRB.out; omega) rX;obtain ⟨E, hE⟩ : ∃ E : Env, E = ⟨X.heap.size, rb, P, a, cap⟩ := ⟨_, rfl⟩
 have hEr : E.rb = rb := by rw [hE]
 have hEP : E.P = P := by rw [hE]
 have hEl : ∀ b off, E.lo = some ⟨b, off, none⟩ → b ≠ nb ∨ E.P.toks.length = 0 := by
  intro b off e;rw [hE] at e;rcases hrd.2 b off e with h | h
  · exact .inl (by have := HSW.out; have := HNB.out; omega)
  · exact .inr (by rw [hEP]; exact h)
 rw [← hE] at hrd;have HEL := lh hEl;have HRD := lh hrd.1;have HCALL : Hid (Calls Tryz.prog 17 #[.pointer (some ⟨rb, 0, none⟩)] X (PPost E 0 X (.ok n j) (NdQ X))) := lh (by have h := HMM.out E hEP X hrd.1; unfold pr at h; rw [hEr] at h; exact h);have HNOW : Hid (∀ w1 j, Rd E w1 j 0 → Calls Tryz.prog 35 #[.pointer (some ⟨rb, 0, none⟩)] w1 fun e w' => e = .returned (.agg #[.int .i64 (P.K j), .int .i64 (P.A j : Int), .string (P.T j), .int .i64 (P.N j : Int)]) ∧ Below w1.heap.size w1 w') := lh (fun w1 j h1 => by have h := now_any E w1 j 0 h1; unfold pr qb at h; rw [hEr, hEP] at h; exact h);have HER := lh hEr;have HBX := lh bX;have HNX := lh nX;have HFX := lh fX;have hXs : w.heap.size + 3 ≤ X.heap.size := by have h1 := lt_of_block rX; have := HRB.out; omega
 have HXS := lh hXs;have HT2 := lh HTB.out.sz;rw [← hX];clear hX c0 c1 c2 c3 c4 z0 z1 z2 z3 z4 hbig hsz hE hEP hEl hrd hXs;unfold ju at nX;obtain ⟨⟨c0, c1, c2, c3, c4⟩, ⟨z0, z1, z2, z3, z4⟩⟩ := rd_cells rX;clear rX nX fX bX;go_upto_region 6 with fail
 clear c0 c1 c2 c3 c4 z0 z1 z2 z3 z4;go_upto_region 7 with (first | ((with_reducible show wpList _ _ _ _ _ _); refine wpList_itm (fun _ _ => rfl) (by rfl) (.tmp 40) (.tmp 41) (by rfl) (by rfl) (by rfl) HCALL.out ?_ ?_ ?_; (intro c w2 h; obtain ⟨hg, ⟨x, j, v, -, e1, -⟩ | ⟨k, q, hx, e1, jj, hr⟩⟩ := h; cases e1; cases e1; cases hx); exact (fun w1 => PPost.out); intro v w2 h; obtain ⟨hg, n9, j9, hx, ⟨ao, cp, rfl, hs⟩, hr⟩ := h.got; obtain ⟨h7, h8⟩ := Res.ok.inj hx; subst h7 h8; have hn2 := kM hg HNX.out (by rw [HER.out]; exact n3); have hf2 := kM hg HFX.out (by rw [HER.out]; exact n5); have hb2 : Below w.heap.size w w2 := HBX.out.trans (gr_to_below hg (by have := HXS.out; omega) (by rw [HER.out, HRB.out]; omega)); unfold ju at hn2; have HN2 := lh hn2; have HF2 := lh hf2; have HB2 := lh hb2; have HR2 := lh hr; have HS2 := lh hs; obtain ⟨⟨c0, c1, c2, c3, c4⟩, ⟨z0, z1, z2, z3, z4⟩⟩ := jC hn2; unfold jh at ⊢; clear hx hn2 hf2 hb2 hr hs hg h))
 obtain ⟨Y, hY⟩ : ∃ Y, Y = kN w2 nb n ao cp := ⟨_, rfl⟩
 have hRY : Rd E Y j 0 := by rw [hY]; exact HR2.out.set5n (by rw [HER.out]; exact n3) (by have := HNB.out; have := HT2.out; omega) HEL.out n ao cp
 have hNY : Y.heap[nb]? = some (.cells (jh n ao cp) 26 (0, 0)) := by rw [hY]; exact TB.set HN2.out n ao cp
 have hFY : Y.heap[fb]? = some (.cells #[.int .i64 0, .int .i64 0] 29 (0, 0)) := by rw [hY]; exact qi HF2.out n2
 have hBY : Below w.heap.size w Y := by rw [hY]; exact kR HB2.out (by have := HNB.out; omega)
 have hSY : SlD Y (fun b => X.heap.size ≤ b ∧ b < Y.heap.size) n.args ao cp := by
  have h1 : Y.heap.size = w2.heap.size := by rw [hY]; exact set5_size
  rw [h1, hY];exact HS2.out.keep (set5_cells fun b hb => by have := HXS.out; have := HNB.out; omega)
 have HRY := lh hRY;have HNY := lh hNY;have HFY := lh hFY;have HBY := lh hBY;have HSY := lh hSY;unfold kN at hY;rw [← hY];clear hY hRY hNY hFY hBY hSY c0 c1 c2 c3 c4 z0 z1 z2 z3 z4;have e3 : (P.K j != 0) = false := by simp [HKJ.out]
 go_upto_region 9 with (first | (go_at_call 35; refine (HNOW.out Y j HRY.out).mono ?_; rintro e w3 ⟨rfl, hb⟩; have fl := tk_fieldK P j; have HB3 := lh hb; have h4 := jo HNY.out hb (lt_of_block HNY.out); unfold jh at h4; obtain ⟨⟨c0, c1, c2, c3, c4⟩, ⟨z0, z1, z2, z3, z4⟩⟩ := jC h4; have h5 := jo HFY.out hb (lt_of_block HFY.out); have u0 : w3.cell? ⟨fb, 0, none⟩ = some (.int .i64 0) := ja h5 0; have u1 : w3.cell? ⟨fb, 1, none⟩ = some (.int .i64 0) := ja h5 1; have q0 := jd h5 0; have q1 := jd h5 1; clear hb h4 h5))
 have HEND := lh (fun (Z : World) hZ => ret_end (w2 := w2) HNB.out HFB.out (B := X.heap.size) (by have := HXS.out; omega) (HBY.out.trans (HB3.out.mono HBY.out.size)) (jo HNY.out HB3.out (lt_of_block HNY.out)) (jo HFY.out HB3.out (lt_of_block HFY.out)) ((HSY.out.keep fun b hb off => HB3.out.cell (p := ⟨b, off, none⟩) hb.2).mono fun b hb => ⟨hb.1, Nat.lt_of_lt_of_le hb.2 HB3.out.size⟩) Z hZ);go_wp2_with fail
 obtain ⟨k1, k2, k3, k4⟩ := HEND.out _ rfl;exact door_ret rfl rfl rfl rfl k1 k2 k3 k4
theorem pexp_x (s : ByteArray) (n : Ty) (w : World) (hT : TabOk w) (HR : ∀ w, TabOk w → Calls Tryz.prog 16 #[.string s, .func (.func 17) #[] #[]] w (vz (n, 0, 0) w)) : Calls Tryz.prog 7 #[.string s] w (vz (n, 0, 0) w) := by
 obtain ⟨A, hA⟩ : ∃ A : Ty × Nat × Nat, A = (n, 0, 0) := ⟨_, rfl⟩
 obtain ⟨W, hW, hbW, hsW, rn, rf⟩ := vM w;obtain ⟨nb, hnb⟩ : ∃ nb, nb = w.heap.size := ⟨_, rfl⟩
 obtain ⟨fb, hfb⟩ : ∃ fb, fb = w.heap.size + 1 := ⟨_, rfl⟩
 have n1 : ¬ (nb = fb) := by omega
 have n2 : ¬ (fb = nb) := by omega
 have HCALL : Hid (Calls Tryz.prog 16 #[.string s, .func (.func 17) #[] #[]] W (vz A W)) := lh (by rw [hA]; exact HR W (hT.below hbW));rw [← hnb] at rn;rw [← hfb] at rf;have HNB := lh hnb;have HFB := lh hfb;have HBW := lh hbW;have HSW := lh hsW;have HRN := lh rn;have HRF := lh rf;unfold ju at hW;have HX := lh (And.intro hW.symm (And.intro hfb.symm hnb.symm));rw [← hA];clear hA hW hnb hfb hT hbW hsW rn rf HR;go_enter Tryz.func7, Tryz.ntmps7
 go_upto_region 1 with fail
 rw [HX.out.1, HX.out.2.1, HX.out.2.2];clear HX;go_wp2_with (first | (go_at_call 16; refine HCALL.out.mono ?_; rintro e w1 ⟨ao, cap, rfl, hb, hs⟩; have HEND := lh (fun (Z : World) hZ => vW (x := A.2.1) (y := A.2.2) HNB.out HFB.out HBW.out HSW.out HRN.out HRF.out hb hs Z hZ); have h4 := jo HRN.out hb (lt_of_block HRN.out); unfold ju at h4; obtain ⟨⟨⟨c0, c1, c2, c3, c4⟩, ⟨z0, z1, z2, z3, z4⟩⟩, u0, u1, q0, q1, v0, v1⟩ := Cl.of h4 (jo HRF.out hb (lt_of_block HRF.out)); unfold jh at ⊢; clear hb hs h4))
 obtain ⟨k1, k2, k3, k4⟩ := HEND.out _ rfl;exact bodyPost_ret (kx rfl rfl rfl k1 k2) rfl ⟨ao, cap, rfl, k3, k4⟩
theorem px_no : ∀ t ∈ px.toks, t.1 ≠ 6 := by decide +kernel
theorem px_si : ∀ t ∈ px.toks, t.1 = 7 → (signsA.any fun y => decide (y = t.2.2.1)) = true := by decide +kernel
theorem px_ok : SrcOk px := ⟨by decide, by decide +kernel, by decide, by decide, fun t ht h => absurd h (px_no t ht), fun t ht h => any_mem (px_si t ht h), by decide +kernel, fun _ => ⟨by decide, by decide +kernel⟩⟩
theorem exp_3 (w : World) (hT : TabOk w) : Calls Tryz.prog 7 #[.string c_3] w (vz (n_xx, 0, 0) w) :=
 pexp_x c_3 n_xx w hT fun w hT => read_x px n_xx 7 c_3 rfl rfl px_ok (by decide +kernel) (fun w a b => toks_3 w a b) (fun E h => kx_all h) w hT
end Go.Proofs.YthehjeeiodbkjaaGreatDoor
