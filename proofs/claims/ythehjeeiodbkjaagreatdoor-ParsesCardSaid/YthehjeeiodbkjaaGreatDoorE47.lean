/-
  Proved: Proved: the contract of the document's begun: a reader of a text. No condition.; the contract of the document's done: the tree, or the fault; Proved: the contracts of the document's four readers of a text. No condition.. Conditions: the reader as it stands in memory.
-/
import Derived.Test.YthehjeeiodbkjaaGreatDoorE37
import Derived.Test.YthehjeeiodbkjaaGreatDoorE46
import Derived.BigRegion
set_option linter.unusedSimpArgs false
set_option linter.unusedVariables false
set_option maxRecDepth 100000
set_option maxHeartbeats 16000000
namespace Go.Proofs.YthehjeeiodbkjaaGreatDoor
open Go.RowKit
abbrev rRow (a : Option Addr) (n cap : Nat) (i f1 f2 k q d : Int) : Array Value := #[.slice a n cap, .int .i64 i, .int .i64 f1, .int .i64 f2, .int .i64 k, .int .i64 q, .int .i64 d]
theorem r_cells {w : World} {b : Nat} {v0 v1 v2 v3 v4 v5 v6 : Value} (h : w.heap[b]? = some (.cells #[v0, v1, v2, v3, v4, v5, v6] 87 (0, 0))) : (w.cell? ⟨b, 0, none⟩ = some v0 ∧ w.cell? ⟨b, 1, none⟩ = some v1 ∧ w.cell? ⟨b, 2, none⟩ = some v2 ∧ w.cell? ⟨b, 3, none⟩ = some v3 ∧ w.cell? ⟨b, 4, none⟩ = some v4 ∧ w.cell? ⟨b, 5, none⟩ = some v5 ∧ w.cell? ⟨b, 6, none⟩ = some v6) ∧ w.frozen? ⟨b, 4, none⟩ = false ∧ w.frozen? ⟨b, 5, none⟩ = false :=
 ⟨⟨blk_cell h 0, blk_cell h 1, blk_cell h 2, blk_cell h 3, blk_cell h 4, blk_cell h 5, blk_cell h 6⟩, blk_free h 4, blk_free h 5⟩
/-- the reader as it begins -/
theorem rr_start {s : ByteArray} {w1 X : World} {B rb f1 f2 : Nat} {a : Option Addr} {cap : Nat} (hok : SrcOk (srcD s)) (hf : (lexD s).2 = (f1, f2)) (ho : w1.ownsRow B 59 4 (.slice a (lexD s).1.length cap) (lexD s).1.length ((lexD s).1.flatMap tokRow)) (hB : w1.heap.size ≤ rb) (hX : ∀ b, b < w1.heap.size → X.heap[b]? = w1.heap[b]?) (hrb : rb < X.heap.size) (hr : X.heap[rb]? = some (.cells (rRow a (lexD s).1.length cap 0 f1 f2 0 0 0) 87 (0, 0))) :
 Rr ⟨X.heap.size, rb, srcD s, a, cap⟩ X ⟨0, 0, 0⟩ 0 := by
 have e1 : (srcD s).fk = f1 := by show (lexD s).2.1 = f1; rw [hf]
 have e2 : (srcD s).fa = f2 := by show (lexD s).2.2 = f2; rw [hf]
 refine ⟨?_, fun k hk => ?_, ⟨hrb, Nat.le_refl _⟩, hok, Nat.zero_le _, fun h0 => (hok.ends h0).1, by decide⟩
 · show X.heap[rb]? = some (.cells #[.slice a (lexD s).1.length cap, .int .i64 ((0 : Nat) : Int), .int .i64 ((srcD s).fk : Int), .int .i64 ((srcD s).fa : Int), .int .i64 ((0 : Nat) : Int), .int .i64 ((0 : Nat) : Int), .int .i64 ((0 : Nat) : Int)] 87 (0, 0))
   rw [e1, e2]
   exact hr
 · have hk2 : k < (lexD s).1.length := hk
   rcases ho.2 with ⟨h1, h3⟩ | ⟨g, cap', cur, h1, h3, h4⟩
   · injection h1 with e3 e4 e5
     omega
   · injection h1 with e3 e4 e5
     have hg := ho.lt g (by rw [e3]; rfl)
     refine ⟨g, 0, e3, by dsimp only; omega, by show g < X.heap.size; omega, fun j hj => ?_⟩
     have hc := (show w1.ownsRow B 59 4 (.slice (some ⟨g, 0, none⟩) (lexD s).1.length cap) (lexD s).1.length _ from by rw [← e3]; exact ho).cellAt (0 + k * 4 + j) (by omega)
     rw [World.cell?_of_block (a := ⟨g, 0 + k * 4 + j, none⟩) (hX g hg.2), hc, show 0 + k * 4 + j = k * 4 + j from by omega]
     exact flat_get hk2 hj
/-- what begun leaves -/
def BegP (s : ByteArray) (w : World) (e : Ending) (w' : World) : Prop := ∃ rb, w.heap.size ≤ rb ∧ Below w.heap.size w w' ∧
 ((((lexD s).2.1 = 1 ∨ (lexD s).2.1 = 2) ∧ e = .returned (.tuple #[.pointer (some ⟨rb, 0, none⟩), .bool false]) ∧ ∃ a n cap, w'.heap[rb]? = some (.cells (rRow a n cap 0 (lexD s).2.1 (lexD s).2.2 (lexD s).2.1 (lexD s).2.2 0) 87 (0, 0))) ∨
  (¬ ((lexD s).2.1 = 1 ∨ (lexD s).2.1 = 2) ∧ SrcOk (srcD s) ∧ e = .returned (.tuple #[.pointer (some ⟨rb, 0, none⟩), .bool true]) ∧ ∃ a cap, Rr ⟨w'.heap.size, rb, srcD s, a, cap⟩ w' ⟨0, 0, 0⟩ 0))
theorem rbegun_top (s : ByteArray) (w : World) : Calls Tryz.prog 52 #[.string s] w (BegP s w) := by
 have HTK : Hid (Calls Tryz.prog 101 #[.string s] w (LexPost s w)) := lh (rtoks_any s w)
 obtain ⟨f1, f2, hf⟩ : ∃ f1 f2, (lexD s).2 = (f1, f2) := ⟨_, _, rfl⟩
 have e1 : (lexD s).2.1 = f1 := by rw [hf]
 have e2 : (lexD s).2.2 = f2 := by rw [hf]
 have HE1 := lh e1
 have HE2 := lh e2
 have HF := lh hf
 unfold LexPost at HTK
 rw [e1, e2] at HTK
 obtain ⟨n, hn⟩ : ∃ n, n = (lexD s).1.length := ⟨_, rfl⟩
 rw [← hn] at HTK
 have HNN := lh hn
 clear hf e1 e2 hn
 go_enter Tryz.func52, Tryz.ntmps52
 go_upto_region 2 with (first | (go_at_call 101; refine HTK.out.mono ?_; rintro e w1 ⟨a, cap, rfl, ho, hb⟩; have HO := lh ho; have HB1 := lh hb; clear ho hb))
 obtain ⟨V, hV⟩ : ∃ V, V = w1.alloc (.cells #[.int .i64 f1, .int .i64 f2] 29) := ⟨_, rfl⟩
 have hbV : Below w1.heap.size w1 V := by rw [hV]; exact balloc (Below.refl _ _) _
 have hsV : V.heap.size = w1.heap.size + 1 := by rw [hV, World.size_alloc]
 have hrV : V.heap[w1.heap.size]? = some (.cells #[.int .i64 f1, .int .i64 f2] 29 (0, 0)) := by rw [hV]; exact heap_alloc_new w1 _
 obtain ⟨fb, hfb⟩ : ∃ fb, fb = w1.heap.size := ⟨_, rfl⟩
 rw [← hfb] at hrV
 rw [← hV, ← hfb]
 have c0 : V.cell? ⟨fb, 0, none⟩ = some (.int .i64 f1) := blk_cell hrV 0
 have c1 : V.cell? ⟨fb, 1, none⟩ = some (.int .i64 f2) := blk_cell hrV 1
 have HBV := lh hbV
 have HSV := lh hsV
 have HRV := lh hrV
 have HFB := lh hfb
 clear hV hbV hsV hrV hfb
 go_upto_region 3 with fail
 obtain ⟨X, hX⟩ : ∃ X, X = V.alloc (.cells (rRow a n cap 0 f1 f2 0 0 0) 87) := ⟨_, rfl⟩
 have hbX : Below V.heap.size V X := by rw [hX]; exact balloc (Below.refl _ _) _
 have hsX : X.heap.size = V.heap.size + 1 := by rw [hX, World.size_alloc]
 have hrX : X.heap[V.heap.size]? = some (.cells (rRow a n cap 0 f1 f2 0 0 0) 87 (0, 0)) := by rw [hX]; exact heap_alloc_new V _
 obtain ⟨rb, hrb⟩ : ∃ rb, rb = V.heap.size := ⟨_, rfl⟩
 rw [← hrb] at hrX
 have hr2 := blk_below HRV.out hbX (lt_of_block HRV.out)
 unfold rRow at hX
 rw [← hX, ← hrb]
 replace c0 : X.cell? ⟨fb, 0, none⟩ = some (.int .i64 f1) := blk_cell hr2 0
 replace c1 : X.cell? ⟨fb, 1, none⟩ = some (.int .i64 f2) := blk_cell hr2 1
 obtain ⟨⟨r0, r1, r2, r3, r4, r5, r6⟩, z4, z5⟩ := r_cells hrX
 have HBX := lh hbX
 have HSX := lh hsX
 have HRX := lh hrX
 have HRB := lh hrb
 have n1 : ¬ (fb = rb) := by have := HSV.out; have := HFB.out; omega
 have n2 : ¬ (rb = fb) := fun e => n1 e.symm
 clear hX hbX hsX hrX hrb hr2
 have HW : Hid (w.heap.size ≤ rb) := lh (by have h1 := HB1.out.size; have h2 := HSV.out; have h3 := HRB.out; omega)
 have HBW : Hid (Below w.heap.size w X) := lh ((HB1.out.trans (HBV.out.mono HB1.out.size)).trans (HBX.out.mono (by have h1 := HB1.out.size; have h2 := HSV.out; omega)))
 by_cases h12 : f1 = 1 ∨ f1 = 2
 · have H12 := lh h12
   have FIN : ∀ X2 : World, X2 = (X.setCell ⟨rb, 4, none⟩ (.int .i64 f1)).setCell ⟨rb, 5, none⟩ (.int .i64 f2) → Below w.heap.size w X2 ∧ X2.heap[rb]? = some (.cells (rRow a n cap 0 f1 f2 f1 f2 0) 87 (0, 0)) ∧ X2.cell? ⟨rb, 4, none⟩ = some (.int .i64 f1) := by
    intro X2 h
    have hr : X2.heap[rb]? = some (.cells (rRow a n cap 0 f1 f2 f1 f2 0) 87 (0, 0)) := by rw [h]; exact blk_set (blk_set HRX.out 4 _) 5 _
    exact ⟨by rw [h]; exact (HBW.out.setCell (p := ⟨rb, 4, none⟩) HW.out _).setCell (p := ⟨rb, 5, none⟩) HW.out _, hr, blk_cell hr 4⟩
   have HFIN := lh FIN
   clear FIN
   have e0 : ((f1 : Int) == 0) = false := by simp; omega
   by_cases h1 : f1 = 1
   · have e1 : ((f1 : Int) == 1) = true := by simp; omega
     clear h1 h12
     go_upto_region 5 with fail
     obtain ⟨X2, hX2⟩ : ∃ X2, X2 = (X.setCell ⟨rb, 4, none⟩ (.int .i64 f1)).setCell ⟨rb, 5, none⟩ (.int .i64 f2) := ⟨_, rfl⟩
     obtain ⟨k1, k2, k3⟩ := HFIN.out X2 hX2
     rw [← hX2]
     have HK1 := lh k1
     have HK2 := lh k2
     clear hX2 k1 k2 c0 c1 r0 r1 r2 r3 r4 r5 r6 z4 z5
     go_quiet (fail)
     go_wp2_with fail
     refine bodyPost_ret (results_tmp2 Tryz.results52 _ _ _) rfl ?_
     exact ⟨rb, HW.out, below_drewN HK1.out _, .inl ⟨by rw [HE1.out]; exact H12.out, rfl, a, n, cap, by rw [HE1.out, HE2.out]; exact HK2.out⟩⟩
   · have e1 : ((f1 : Int) == 1) = false := by simp; omega
     have e2 : ((f1 : Int) == 2) = true := by simp; omega
     clear h1 h12
     go_upto_region 5 with fail
     obtain ⟨X2, hX2⟩ : ∃ X2, X2 = (X.setCell ⟨rb, 4, none⟩ (.int .i64 f1)).setCell ⟨rb, 5, none⟩ (.int .i64 f2) := ⟨_, rfl⟩
     obtain ⟨k1, k2, k3⟩ := HFIN.out X2 hX2
     rw [← hX2]
     have HK1 := lh k1
     have HK2 := lh k2
     clear hX2 k1 k2 c0 c1 r0 r1 r2 r3 r4 r5 r6 z4 z5
     go_quiet (fail)
     go_wp2_with fail
     refine bodyPost_ret (results_tmp2 Tryz.results52 _ _ _) rfl ?_
     exact ⟨rb, HW.out, below_drewN HK1.out _, .inl ⟨by rw [HE1.out]; exact H12.out, rfl, a, n, cap, by rw [HE1.out, HE2.out]; exact HK2.out⟩⟩
 · have H12 := lh h12
   have e1 : ((f1 : Int) == 1) = false := by simp; omega
   have e2 : ((f1 : Int) == 2) = false := by simp; omega
   clear h12
   go_upto_region 5 with fail
   go_quiet (fail)
   go_wp2_with fail
   refine bodyPost_ret (results_tmp2 Tryz.results52 _ _ _) rfl ?_
   have hl : ¬ ((lexD s).2.1 = 1 ∨ (lexD s).2.1 = 2) := by rw [HE1.out]; exact H12.out
   have hok : SrcOk (srcD s) := by
    rcases lexD_cases s with ⟨h, -⟩ | ⟨-, h⟩
    · exact absurd h hl
    · exact h
   have hrr := rr_start (X := X) hok HF.out (by rw [← HNN.out]; exact HO.out) (rb := rb) (by have := HSV.out; have := HRB.out; omega) (fun b hb => (HBX.out.block b (by have := HSV.out; omega)).trans (HBV.out.block b hb)) (by have := HSX.out; have := HRB.out; omega) (by rw [← HNN.out]; exact HRX.out)
   exact ⟨rb, HW.out, below_drewN HBW.out _, .inr ⟨hl, hok, rfl, a, cap, hrr.keepB (below_drewN (Below.refl _ _) _) (Nat.le_refl _)⟩⟩
/-- what is told of what was read -/
def ansT (P : Src) (T : Res Ty) : Ty × Nat × Nat := match T with
 | .bad k a => (zeroT, k, a)
 | .ok n j => if P.K j = 0 then (n, 0, 0) else (zeroT, failK P 4 j, failA P j)
/-- what done leaves -/
def DoneP (E : Env) (A : Ty × Nat × Nat) (D : Nat → Prop) (w : World) (e : Ending) (w' : World) : Prop :=
 ∃ ao cap, e = .returned (.tuple #[.agg (rowOf A.1 ao cap), .agg #[.int .i64 A.2.1, .int .i64 A.2.2]]) ∧ w.grownBy w' (some E.rb) ∧ SlD w' D A.1.args ao cap
theorem done_made (w : World) (n : Ty) (ao : Option Addr) (cap : Nat) : ∃ W, W = ((w.alloc (.cells (rowOf n ao cap) 26)).alloc (.cells zeroRow 26)).alloc (.cells #[.int .i64 0, .int .i64 0] 29) ∧ Below w.heap.size w W ∧ W.heap.size = w.heap.size + 3 ∧ W.heap[w.heap.size]? = some (.cells (rowOf n ao cap) 26 (0, 0)) ∧ W.heap[w.heap.size + 1]? = some (.cells zeroRow 26 (0, 0)) ∧ W.heap[w.heap.size + 1 + 1]? = some (.cells #[.int .i64 0, .int .i64 0] 29 (0, 0)) := by
 obtain ⟨W1, hW1⟩ : ∃ W1, W1 = w.alloc (.cells (rowOf n ao cap) 26) := ⟨_, rfl⟩
 obtain ⟨W2, hW2⟩ : ∃ W2, W2 = W1.alloc (.cells zeroRow 26) := ⟨_, rfl⟩
 obtain ⟨W, hW⟩ : ∃ W, W = W2.alloc (.cells #[.int .i64 0, .int .i64 0] 29) := ⟨_, rfl⟩
 have s1 : W1.heap.size = w.heap.size + 1 := by rw [hW1, World.size_alloc]
 have s2 : W2.heap.size = w.heap.size + 1 + 1 := by rw [hW2, World.size_alloc, s1]
 have s3 : W.heap.size = w.heap.size + 3 := by rw [hW, World.size_alloc, s2]
 have hb1 : Below w.heap.size w W1 := by rw [hW1]; exact balloc (Below.refl _ _) _
 have hb2 : Below w.heap.size w W2 := by rw [hW2]; exact balloc hb1 _
 refine ⟨W, by rw [hW, hW2, hW1], by rw [hW]; exact balloc hb2 _, s3, ?_, ?_, ?_⟩
 · rw [hW]; refine blk_alloc ?_ _; rw [hW2]; refine blk_alloc ?_ _; rw [hW1]; exact heap_alloc_new w _
 · rw [hW]; refine blk_alloc ?_ _; rw [hW2, ← s1]; exact heap_alloc_new W1 _
 · rw [hW, ← s2]; exact heap_alloc_new W2 _
/-- what stands when both are stored -/
theorem done_end {E : Env} {w w3 : World} {D : Nat → Prop} {nb fb : Nat} {n : Ty} {ao : Option Addr} {cap : Nat} {v0 v1 v2 v3 v4 x y : Value} {p q : Int} (hnb : nb = w.heap.size + 1) (hfb : fb = w.heap.size + 1 + 1) (hg : w.grownBy w3 (some E.rb)) (rn : w3.heap[nb]? = some (.cells #[v0, v1, v2, v3, v4] 26 (0, 0))) (rf : w3.heap[fb]? = some (.cells #[x, y] 29 (0, 0))) (hs : SlD w3 D n.args ao cap) (hD : ∀ b, D b → b < w.heap.size) (Y : World) (hY : Y = ((set5 w3 nb n ao cap).setCell ⟨fb, 0, none⟩ (.int .i64 p)).setCell ⟨fb, 1, none⟩ (.int .i64 q)) :
 Y.heap[nb]? = some (.cells (rowOf n ao cap) 26 (0, 0)) ∧ Y.heap[fb]? = some (.cells #[.int .i64 p, .int .i64 q] 29 (0, 0)) ∧ w.grownBy Y (some E.rb) ∧ SlD Y D n.args ao cap := by
 obtain ⟨Z, hZ⟩ : ∃ Z, Z = set5 w3 nb n ao cap := ⟨_, rfl⟩
 have b1 : Below w.heap.size w3 Z := by rw [hZ]; exact below_set5 (Below.refl _ _) (by omega)
 have b2 : Z.heap[nb]? = some (.cells (rowOf n ao cap) 26 (0, 0)) := by rw [hZ]; exact TB.set rn n ao cap
 have b3 : Z.heap[fb]? = some (.cells #[x, y] 29 (0, 0)) := by rw [hZ]; exact set5_ne rf (by omega)
 rw [← hZ] at hY
 clear hZ
 have d1 : Below w.heap.size w3 Y := by rw [hY]; exact (b1.setCell (p := ⟨fb, 0, none⟩) (by show w.heap.size ≤ fb; omega) _).setCell (p := ⟨fb, 1, none⟩) (by show w.heap.size ≤ fb; omega) _
 refine ⟨by rw [hY]; exact blk_set_ne (blk_set_ne b2 (by omega) 0 _) (by omega) 1 _, by rw [hY]; exact blk_set (blk_set b3 0 _) 1 _, ?_, hs.keep fun b hb off => d1.cell (p := ⟨b, off, none⟩) (hD b hb)⟩
 exact ⟨d1.os.trans hg.os, d1.tape.trans hg.tape, d1.output.trans hg.output, Nat.le_trans hg.size d1.size, fun k hk hne => (d1.block k hk).trans (hg.block k hk hne)⟩
theorem rdone_any (E : Env) (w : World) (s : RS) (d : Nat) (n : Ty) (ao : Option Addr) (cap : Nat) (D : Nat → Prop) (T : Res Ty) (h : Rr E w s d) (hT : Rl T n s) (hs : SlD w D n.args ao cap) (hD : ∀ b, D b → b < w.heap.size ∧ b ≠ E.rb) : Calls Tryz.prog 53 #[pr E, .agg (rowOf n ao cap)] w (DoneP E (ansT E.P T) D w) := by
 obtain ⟨A, hA⟩ : ∃ A, A = ansT E.P T := ⟨_, rfl⟩
 rw [← hA]
 have HA1 : Hid (s.k ≠ 0 → A = (zeroT, s.k, s.a)) := lh (fun hk => by rw [hA, hT.2 hk]; rfl)
 have HA2 : Hid (s.k = 0 → E.P.K s.i = 0 → A = (n, 0, 0)) := lh (fun hk h0 => by rw [hA, hT.1 hk]; exact if_pos h0)
 have HA3 : Hid (s.k = 0 → ¬ E.P.K s.i = 0 → A = (zeroT, (noS E.P 4 s).k, (noS E.P 4 s).a)) := lh (fun hk h0 => by
  have e : noS E.P 4 s = ⟨s.i, failK E.P 4 s.i, failA E.P s.i⟩ := if_pos hk
  rw [hA, hT.1 hk, e]; exact if_neg h0)
 clear hA
 obtain ⟨W, hW, hbW, hsW, r3, rn, rf⟩ := done_made w n ao cap
 have hlr := h.ltr
 have HR := lh (h.keep hbW)
 have HNOW : Hid (∀ w1, Rr E w1 s d → Calls Tryz.prog 102 #[pr E] w1 fun e w' => e = .returned (tkVal E.P s.i) ∧ Below w1.heap.size w1 w') := lh (fun w1 h1 => rnow_any E w1 s d h1)
 have HNO : Hid (∀ w1, Rr E w1 s d → Calls Tryz.prog 103 #[pr E, .int .i64 4] w1 fun en w' => (∃ v, en = .returned v) ∧ Rr E w' (noS E.P 4 s) d ∧ w1.grownBy w' (some E.rb)) := lh (fun w1 h1 => rno_any E w1 s d 4 h1)
 obtain ⟨b3, hb3⟩ : ∃ b3, b3 = w.heap.size := ⟨_, rfl⟩
 obtain ⟨nb, hnb⟩ : ∃ nb, nb = w.heap.size + 1 := ⟨_, rfl⟩
 obtain ⟨fb, hfb⟩ : ∃ fb, fb = w.heap.size + 1 + 1 := ⟨_, rfl⟩
 rw [← hb3] at r3
 rw [← hnb] at rn
 rw [← hfb] at rf
 have m1 : ¬ (b3 = E.rb) := by omega
 have m2 : ¬ (nb = E.rb) := by omega
 have m3 : ¬ (fb = E.rb) := by omega
 have m4 : ¬ (nb = fb) := by omega
 have m5 : ¬ (fb = nb) := by omega
 have m6 : ¬ (b3 = nb) := by omega
 have m7 : ¬ (b3 = fb) := by omega
 have m8 : ¬ (E.rb = nb) := by omega
 have m9 : ¬ (E.rb = fb) := by omega
 have HGW := lh (gr_below hbW (some E.rb))
 have HS := lh hs
 have HD := lh hD
 have HN1 := lh hnb
 have HN2 := lh hfb
 have HN3 := lh hb3
 have H3 := lh r3
 have HN := lh rn
 have HF := lh rf
 have HSW := lh (hs.keep (w' := W) fun b hb off => hbW.cell (p := ⟨b, off, none⟩) (hD b hb).1)
 have HDZ : Hid (∀ b, D b → b < w.heap.size) := lh (fun b hb => (hD b hb).1)
 unfold tkVal at HNOW
 unfold pr at HNOW HNO ⊢
 unfold zeroRow at hW
 unfold rowOf at hW ⊢
 have HWW := lh hW
 clear h hT hs hD hW hbW hsW r3 rn rf hb3 hnb hfb
 go_enter Tryz.func53, Tryz.ntmps53
 go_upto_region 1 with fail
 rw [← HWW.out, ← HN2.out, ← HN1.out, ← HN3.out]
 clear HWW
 obtain ⟨⟨c0, c1, c2, c3, c4, c5, c6⟩, -⟩ := HR.out.cells
 by_cases hk : s.k = 0
 · have e1 : ((s.k : Int) == 0) = true := by simp [hk]
   have e1b : ((s.k : Int) != 0) = false := by simp [hk]
   have HK := lh hk
   clear hk
   by_cases h0 : E.P.K s.i = 0
   · have e2 : (E.P.K s.i != 0) = false := by simp [h0]
     have H0 := lh h0
     clear h0
     go_upto_region 5 with (first | (go_at_call 102; refine (HNOW.out W HR.out).mono ?_; rintro e w2 ⟨rfl, hb⟩; have flk := tk_fieldK E.P s.i; have HR2 := lh (HR.out.keep hb); have HG2 := lh (gr_trans HGW.out (gr_below hb (some E.rb))); have H32 := lh (gr_row (gr_below hb (some E.rb)) H3.out m1); have HN_2 := lh (gr_row (gr_below hb (some E.rb)) HN.out m2); have HF2 := lh (gr_row (gr_below hb (some E.rb)) HF.out m3); have HS2 := lh (HSW.out.keep (w' := w2) fun b q off => hb.cell (p := ⟨b, off, none⟩) (Nat.lt_of_lt_of_le (HD.out b q).1 HGW.out.size)); obtain ⟨⟨c0, c1, c2, c3, c4, c5, c6⟩, -⟩ := HR2.out.cells; clear hb))
     have h3 := H32.out
     have hn := HN_2.out
     have hf := HF2.out
     unfold zeroRow at hn
     obtain ⟨⟨x0, x1, x2, x3, x4⟩, -⟩ := five_cells (show w2.heap[b3]? = some (.cells (rowOf n ao cap) 26 (0, 0)) from h3)
     obtain ⟨⟨y0, y1, y2, y3, y4⟩, ⟨z0, z1, z2, z3, z4⟩⟩ := five_cells hn
     have u0 : w2.cell? ⟨fb, 0, none⟩ = some (.int .i64 0) := blk_cell hf 0
     have u1 : w2.cell? ⟨fb, 1, none⟩ = some (.int .i64 0) := blk_cell hf 1
     have q0 := blk_free hf 0
     have q1 := blk_free hf 1
     have HEND := lh (fun (Z : World) hZ => done_end (E := E) (n := n) (ao := ao) (cap := cap) (p := 0) (q := 0) HN1.out HN2.out HG2.out hn hf HS2.out HDZ.out Z hZ)
     clear h3 hn hf
     go_wp2_with fail
     obtain ⟨k1, k2, k3, k4⟩ := HEND.out _ rfl
     exact bodyPost_ret (res_top rfl rfl rfl k1 k2) rfl ⟨ao, cap, by rw [HA2.out HK.out H0.out]; rfl, k3, by rw [HA2.out HK.out H0.out]; exact k4⟩
   · have e2 : (E.P.K s.i != 0) = true := by simp [h0]
     have H0 := lh h0
     have HKN : Hid ((noS E.P 4 s).k ≠ 0) := lh (HR.out.no_bad (by decide))
     clear h0
     go_upto_region 3 with (first | (go_at_call 103; refine (HNO.out w2 HR2.out).mono ?_; rintro e w4 ⟨⟨v, rfl⟩, hr, hg⟩; have HR4 := lh hr; have HG4 := lh (gr_trans HG2.out hg); have HN4 := lh (gr_row hg HN_2.out m2); have HF4 := lh (gr_row hg HF2.out m3); obtain ⟨⟨c0, c1, c2, c3, c4, c5, c6⟩, -⟩ := HR4.out.cells; clear hr hg) | (go_at_call 102; refine (HNOW.out W HR.out).mono ?_; rintro e w2 ⟨rfl, hb⟩; have flk := tk_fieldK E.P s.i; have HR2 := lh (HR.out.keep hb); have HG2 := lh (gr_trans HGW.out (gr_below hb (some E.rb))); have H32 := lh (gr_row (gr_below hb (some E.rb)) H3.out m1); have HN_2 := lh (gr_row (gr_below hb (some E.rb)) HN.out m2); have HF2 := lh (gr_row (gr_below hb (some E.rb)) HF.out m3); have HS2 := lh (HSW.out.keep (w' := w2) fun b q off => hb.cell (p := ⟨b, off, none⟩) (Nat.lt_of_lt_of_le (HD.out b q).1 HGW.out.size)); obtain ⟨⟨c0, c1, c2, c3, c4, c5, c6⟩, -⟩ := HR2.out.cells; clear hb))
     have e3 : (((noS E.P 4 s).k : Int) != 0) = true := by simp; exact HKN.out
     go_upto_region 4 with fail
     have hn := HN4.out
     have hf := HF4.out
     unfold zeroRow at hn
     obtain ⟨⟨y0, y1, y2, y3, y4⟩, ⟨z0, z1, z2, z3, z4⟩⟩ := five_cells hn
     have u0 : w4.cell? ⟨fb, 0, none⟩ = some (.int .i64 0) := blk_cell hf 0
     have u1 : w4.cell? ⟨fb, 1, none⟩ = some (.int .i64 0) := blk_cell hf 1
     have q0 := blk_free hf 0
     have q1 := blk_free hf 1
     have w0 := lt_of_block hn
     have w1 := lt_of_block hf
     have HEND := lh (fun (Z : World) hZ => done_end (E := E) (n := zeroT) (ao := none) (cap := 0) (D := D) (p := ((noS E.P 4 s).k : Int)) (q := ((noS E.P 4 s).a : Int)) HN1.out HN2.out HG4.out hn hf (sl_nil rfl) HDZ.out Z hZ)
     clear hn hf
     go_region
     all_goals
      obtain ⟨Z, hZ⟩ : ∃ Z, Z = (((((((w4.setCell ⟨nb, 0, none⟩ (.int .i64 0)).setCell ⟨nb, 1, none⟩ (.int .i64 0)).setCell ⟨nb, 2, none⟩ (.string ⟨#[]⟩)).setCell ⟨nb, 3, none⟩ (.int .i64 0)).setCell ⟨nb, 4, none⟩ (.slice none 0 0)).setCell ⟨fb, 0, none⟩ (.int .i64 ((noS E.P 4 s).k : Int))).setCell ⟨fb, 1, none⟩ (.int .i64 ((noS E.P 4 s).a : Int))) := ⟨_, rfl⟩
      rw [← hZ]
      obtain ⟨k1, k2, k3, k4⟩ := HEND.out Z hZ
      have HK1 := lh k1
      have HK2 := lh k2
      have HK3 := lh k3
      have HK4 := lh k4
      clear hZ k1 k2 k3 k4 y0 y1 y2 y3 y4 z0 z1 z2 z3 z4 u0 u1 q0 q1
      go_wp2_with fail
      exact bodyPost_ret (res_top rfl rfl rfl (w := Z.drew) HK1.out HK2.out) rfl ⟨none, 0, by rw [HA3.out HK.out H0.out], gr_trans HK3.out (gr_below (Below.refl _ _).drew _), by rw [HA3.out HK.out H0.out]; exact sl_nil rfl⟩
 · have e1 : ((s.k : Int) == 0) = false := by simp [hk]
   have e1b : ((s.k : Int) != 0) = true := by simp [hk]
   have HK := lh hk
   clear hk
   go_upto_region 4 with fail
   have hn := HN.out
   have hf := HF.out
   unfold zeroRow at hn
   obtain ⟨⟨y0, y1, y2, y3, y4⟩, ⟨z0, z1, z2, z3, z4⟩⟩ := five_cells hn
   have u0 : W.cell? ⟨fb, 0, none⟩ = some (.int .i64 0) := blk_cell hf 0
   have u1 : W.cell? ⟨fb, 1, none⟩ = some (.int .i64 0) := blk_cell hf 1
   have q0 := blk_free hf 0
   have q1 := blk_free hf 1
   have w0 := lt_of_block hn
   have w1 := lt_of_block hf
   have HEND := lh (fun (Z : World) hZ => done_end (E := E) (n := zeroT) (ao := none) (cap := 0) (D := D) (p := (s.k : Int)) (q := (s.a : Int)) HN1.out HN2.out HGW.out hn hf (sl_nil rfl) HDZ.out Z hZ)
   clear hn hf
   go_region
   all_goals
    obtain ⟨Z, hZ⟩ : ∃ Z, Z = (((((((W.setCell ⟨nb, 0, none⟩ (.int .i64 0)).setCell ⟨nb, 1, none⟩ (.int .i64 0)).setCell ⟨nb, 2, none⟩ (.string ⟨#[]⟩)).setCell ⟨nb, 3, none⟩ (.int .i64 0)).setCell ⟨nb, 4, none⟩ (.slice none 0 0)).setCell ⟨fb, 0, none⟩ (.int .i64 (s.k : Int))).setCell ⟨fb, 1, none⟩ (.int .i64 (s.a : Int))) := ⟨_, rfl⟩
    rw [← hZ]
    obtain ⟨k1, k2, k3, k4⟩ := HEND.out Z hZ
    have HK1 := lh k1
    have HK2 := lh k2
    have HK3 := lh k3
    have HK4 := lh k4
    clear hZ k1 k2 k3 k4 y0 y1 y2 y3 y4 z0 z1 z2 z3 z4 u0 u1 q0 q1
    go_wp2_with fail
    exact bodyPost_ret (res_top rfl rfl rfl (w := Z.drew) HK1.out HK2.out) rfl ⟨none, 0, by rw [HA1.out HK.out], gr_trans HK3.out (gr_below (Below.refl _ _).drew _), by rw [HA1.out HK.out]; exact sl_nil rfl⟩
theorem ansD_long {s : ByteArray} {m : Src → M Ty} (hl : (lexD s).2.1 = 1 ∨ (lexD s).2.1 = 2) : ansD s m = (zeroT, (lexD s).2.1, (lexD s).2.2) := by unfold ansD; rw [if_pos hl]
theorem ansD_short {s : ByteArray} {m : Src → M Ty} (hl : ¬ ((lexD s).2.1 = 1 ∨ (lexD s).2.1 = 2)) : ansD s m = ansT (srcD s) (m (srcD s) 0) := by
 unfold ansD ansT wholeD
 rw [if_neg hl]
 cases m (srcD s) 0 with
 | bad k a => rfl
 | ok n j =>
  dsimp only
  by_cases h : (srcD s).K j = 0
  · rw [if_pos h, if_pos h]
  · rw [if_neg h, if_neg h, failD_at]
/-- the reader is made behind them -/
structure Tq (s : ByteArray) (A : Ty × Nat × Nat) (q : Nat) (w W : World) (nb fb : Nat) (w1 : World) (rb : Nat) : Prop where
 t : Tp s A q w W nb fb
 hrb : W.heap.size ≤ rb
 hb : Below W.heap.size W w1
section
variable {s : ByteArray} {A : Ty × Nat × Nat} {q nb fb rb : Nat} {w W w1 : World}
theorem Tq.ne (h : Tq s A q w W nb fb w1 rb) : ¬ (rb = nb) ∧ ¬ (rb = fb) ∧ ¬ (nb = rb) ∧ ¬ (fb = rb) := by
 have h1 := h.hrb
 have h2 := h.t.sW
 have h3 := h.t.hnb
 have h4 := h.t.hfb
 omega
theorem Tq.rn (h : Tq s A q w W nb fb w1 rb) : w1.heap[nb]? = some (.cells #[.int .i64 0, .int .i64 0, .string ⟨#[]⟩, .int .i64 0, .slice none 0 0] 26 (0, 0)) := blk_below h.t.rn h.hb (lt_of_block h.t.rn)
theorem Tq.rf (h : Tq s A q w W nb fb w1 rb) : w1.heap[fb]? = some (.cells #[.int .i64 0, .int .i64 0] 29 (0, 0)) := blk_below h.t.rf h.hb (lt_of_block h.t.rf)
theorem Tq.long (h : Tq s A q w W nb fb w1 rb) (hl : (lexD s).2.1 = 1 ∨ (lexD s).2.1 = 2) : A = (zeroT, (lexD s).2.1, (lexD s).2.2) := h.t.hA.trans (ansD_long hl)
theorem Tq.endl (h : Tq s A q w W nb fb w1 rb) (x y : Nat) (Y : World) (hY : Y = set2 (set5 w1 nb zeroT none 0) fb x y) : (Y.heap[nb]? = some (.cells (rowOf zeroT none 0) 26 (0, 0)) ∧ Y.heap[fb]? = some (.cells #[.int .i64 x, .int .i64 y] 29 (0, 0)) ∧ Below w.heap.size w Y ∧ SlD Y (fun b => w.heap.size ≤ b ∧ b < Y.heap.size) zeroT.args none 0) := two_end h.t.hnb h.t.hfb h.t.bW h.t.sW h.t.rn h.t.rf h.hb (sl_nil rfl) Y hY
theorem beg_env {N : Nat} {P : Src} {a : Option Addr} {cap d : Nat} {u : RS} (h : Rr ⟨N, rb, P, a, cap⟩ w1 u d) : ∃ E : Env, E.rb = rb ∧ E.P = P ∧ Rr E w1 u d := ⟨_, rfl, rfl, h⟩
/-- what done leaves -/
theorem Tq.done {E : Env} {w2 : World} {u : RS} {n : Ty} {ao : Option Addr} {cap : Nat} (h : Tq s A q w W nb fb w1 rb) (hE : E.rb = rb) (hP : E.P = srcD s) (hl : ¬ ((lexD s).2.1 = 1 ∨ (lexD s).2.1 = 2)) (hlr : E.rb < w1.heap.size) (hR : Rr E w2 u 0) (hG : w1.grownBy w2 (some E.rb)) (hT : Rl (topM q E.P 0) n u) (hS : SlD w2 (fun b => w1.heap.size ≤ b ∧ b < w2.heap.size) n.args ao cap) :
 Calls Tryz.prog 53 #[.pointer (some ⟨rb, 0, none⟩), .agg #[.int .i64 n.k, .int .i64 n.n, .string n.s, .int .i64 n.q, .slice ao n.args.length cap]] w2 fun e w3 => ∃ ao9 cap9, e = .returned (.tuple #[.agg #[.int .i64 A.1.k, .int .i64 A.1.n, .string A.1.s, .int .i64 A.1.q, .slice ao9 A.1.args.length cap9], .agg #[.int .i64 A.2.1, .int .i64 A.2.2]]) ∧ Cl w3 nb fb ∧ Hid (∀ Y : World, Y = set2 (set5 w3 nb A.1 ao9 cap9) fb A.2.1 A.2.2 → (Y.heap[nb]? = some (.cells (rowOf A.1 ao9 cap9) 26 (0, 0)) ∧ Y.heap[fb]? = some (.cells #[.int .i64 A.2.1, .int .i64 A.2.2] 29 (0, 0)) ∧ Below w.heap.size w Y ∧ SlD Y (fun b => w.heap.size ≤ b ∧ b < Y.heap.size) A.1.args ao9 cap9)) := by
 have hA : ansT E.P (topM q E.P 0) = A := by rw [hP]; exact (h.t.hA.trans (ansD_short hl)).symm
 have h9 := rdone_any E w2 u 0 n ao cap _ _ hR hT hS (fun b hb => ⟨hb.2, by have := hb.1; omega⟩)
 unfold pr at h9
 rw [hE, hA] at h9
 refine h9.mono ?_
 rintro e w3 ⟨ao9, cap9, rfl, hg, hs⟩
 obtain ⟨m1, m2, m3, m4⟩ := h.ne
 have hr := h.hrb
 have hb3 : Below W.heap.size W w3 := (h.hb.trans (gr_to_below hG h.hb.size (by omega))).trans (gr_to_below hg (Nat.le_trans h.hb.size hG.size) (by omega))
 have hs3 : SlD w3 (fun b => W.heap.size ≤ b ∧ b < w3.heap.size) A.1.args ao9 cap9 := SlD.mono hs fun b hb => ⟨Nat.le_trans h.hb.size hb.1, Nat.lt_of_lt_of_le hb.2 hg.size⟩
 exact ⟨ao9, cap9, rfl, Cl.of (gr_row hg (gr_row hG h.rn (fun e => m3 (e.trans hE))) (fun e => m3 (e.trans hE))) (gr_row hg (gr_row hG h.rf (fun e => m4 (e.trans hE))) (fun e => m4 (e.trans hE))), lh fun Y hY => two_end h.t.hnb h.t.hfb h.t.bW h.t.sW h.t.rn h.t.rf hb3 hs3 Y hY⟩
end
theorem rParseExp_any (s : ByteArray) (w : World) : Calls Tryz.prog 21 #[.string s] w (TopP (ansD s (topM 1)) w) := by
 obtain ⟨A, W, nb, fb, hA, hW, hnb, hfb, n1, n2, P0⟩ := Tp.go s 1 w
 rw [hA]
 have HX := lh (And.intro hW (And.intro hfb hnb))
 clear hA hW hnb hfb
 go_enter Tryz.func21, Tryz.ntmps21
 go_upto_region 1 with fail
 rw [HX.out.1, HX.out.2.1, HX.out.2.2]
 clear HX
 go_upto_region 2 with (first | (go_at_call 52; refine (rbegun_top s W).mono ?_; rintro e w1 ⟨rb, hrb, hb, h3⟩; have P1 : Hid (Tq s A 1 w W nb fb w1 rb) := lh ⟨P0.out, hrb, hb⟩; clear hrb hb; rcases h3 with ⟨hl, rfl, a, n, cap, hr⟩ | ⟨hl, hok, rfl, a, cap, hr⟩))
 · have HL := lh (P1.out.long hl)
   obtain ⟨⟨r0, r1, r2, r3, r4, r5, r6⟩, -, -⟩ := r_cells hr
   obtain ⟨⟨⟨y0, y1, y2, y3, y4⟩, ⟨z0, z1, z2, z3, z4⟩⟩, u0, u1, q0, q1, v0, v1⟩ := Cl.of P1.out.rn P1.out.rf
   have v2 := lt_of_block hr
   obtain ⟨m1, m2, m3, m4⟩ := P1.out.ne
   clear hr hl
   go_upto_region 3 with fail
   go_region
   all_goals
    generalize hZ : (((((((w1.setCell ⟨nb, 0, none⟩ (.int .i64 0)).setCell ⟨nb, 1, none⟩ (.int .i64 0)).setCell ⟨nb, 2, none⟩ (.string ⟨#[]⟩)).setCell ⟨nb, 3, none⟩ (.int .i64 0)).setCell ⟨nb, 4, none⟩ (.slice none 0 0)).setCell ⟨fb, 0, none⟩ (.int .i64 ((lexD s).2.1 : Int))).setCell ⟨fb, 1, none⟩ (.int .i64 ((lexD s).2.2 : Int))) = Z
    have HK := lh (P1.out.endl _ _ Z hZ.symm)
    clear hZ y0 y1 y2 y3 y4 z0 z1 z2 z3 z4 u0 u1 q0 q1 r0 r1 r2 r3 r4 r5 r6
    go_wp2_with fail
    exact bodyPost_ret (res_top rfl rfl rfl (w := Z.drew) HK.out.1 HK.out.2.1) rfl ⟨none, 0, by rw [HL.out], HK.out.2.2.1.drew, by rw [HL.out]; exact sl_nil rfl⟩
 · obtain ⟨E, hEr, hEP, hr⟩ := beg_env hr
   have HER := lh hEr
   have HEP := lh hEP
   have HL := lh hl
   have HLR := lh hr.ltr
   obtain ⟨m1, m2, m3, m4⟩ := P1.out.ne
   have HCALL : Hid (Calls Tryz.prog 56 #[.pointer (some ⟨rb, 0, none⟩)] w1 (RPost E 0 w1 (rn (topM 1 E.P) ⟨0, 0, 0⟩) (NdQ w1))) := lh (by have h := (rall E 60 (Nat.le_refl _)).exp w1 ⟨0, 0, 0⟩ hr; unfold pr at h; rw [hEr] at h; exact h)
   clear hEr hEP hr hl hok
   go_wp2_with (first | (go_at_call 53; refine HD.out.mono ?_; rintro e w3 ⟨ao9, cap9, rfl, ⟨⟨⟨y0, y1, y2, y3, y4⟩, ⟨z0, z1, z2, z3, z4⟩⟩, u0, u1, q0, q1, v0, v1⟩, HEND⟩) | (go_at_call 56; refine HCALL.out.mono ?_; rintro e w2 ⟨x, v, s2, rfl, hg, hr, ⟨aox, capx, rfl, hs⟩, hl⟩; have HD := lh (P1.out.done HER.out HEP.out HL.out HLR.out hr hg hl hs); unfold rowOf at ⊢; clear hr hg hs hl))
   obtain ⟨k1, k2, k3, k4⟩ := HEND.out _ rfl
   exact bodyPost_ret (res_top rfl rfl rfl k1 k2) rfl ⟨ao9, cap9, rfl, k3, k4⟩
theorem rParsePat_any (s : ByteArray) (w : World) : Calls Tryz.prog 22 #[.string s] w (TopP (ansD s (topM 2)) w) := by
 obtain ⟨A, W, nb, fb, hA, hW, hnb, hfb, n1, n2, P0⟩ := Tp.go s 2 w
 rw [hA]
 have HX := lh (And.intro hW (And.intro hfb hnb))
 clear hA hW hnb hfb
 go_enter Tryz.func22, Tryz.ntmps22
 go_upto_region 1 with fail
 rw [HX.out.1, HX.out.2.1, HX.out.2.2]
 clear HX
 go_upto_region 2 with (first | (go_at_call 52; refine (rbegun_top s W).mono ?_; rintro e w1 ⟨rb, hrb, hb, h3⟩; have P1 : Hid (Tq s A 2 w W nb fb w1 rb) := lh ⟨P0.out, hrb, hb⟩; clear hrb hb; rcases h3 with ⟨hl, rfl, a, n, cap, hr⟩ | ⟨hl, hok, rfl, a, cap, hr⟩))
 · have HL := lh (P1.out.long hl)
   obtain ⟨⟨r0, r1, r2, r3, r4, r5, r6⟩, -, -⟩ := r_cells hr
   obtain ⟨⟨⟨y0, y1, y2, y3, y4⟩, ⟨z0, z1, z2, z3, z4⟩⟩, u0, u1, q0, q1, v0, v1⟩ := Cl.of P1.out.rn P1.out.rf
   have v2 := lt_of_block hr
   obtain ⟨m1, m2, m3, m4⟩ := P1.out.ne
   clear hr hl
   go_upto_region 3 with fail
   go_region
   all_goals
    generalize hZ : (((((((w1.setCell ⟨nb, 0, none⟩ (.int .i64 0)).setCell ⟨nb, 1, none⟩ (.int .i64 0)).setCell ⟨nb, 2, none⟩ (.string ⟨#[]⟩)).setCell ⟨nb, 3, none⟩ (.int .i64 0)).setCell ⟨nb, 4, none⟩ (.slice none 0 0)).setCell ⟨fb, 0, none⟩ (.int .i64 ((lexD s).2.1 : Int))).setCell ⟨fb, 1, none⟩ (.int .i64 ((lexD s).2.2 : Int))) = Z
    have HK := lh (P1.out.endl _ _ Z hZ.symm)
    clear hZ y0 y1 y2 y3 y4 z0 z1 z2 z3 z4 u0 u1 q0 q1 r0 r1 r2 r3 r4 r5 r6
    go_wp2_with fail
    exact bodyPost_ret (res_top rfl rfl rfl (w := Z.drew) HK.out.1 HK.out.2.1) rfl ⟨none, 0, by rw [HL.out], HK.out.2.2.1.drew, by rw [HL.out]; exact sl_nil rfl⟩
 · obtain ⟨E, hEr, hEP, hr⟩ := beg_env hr
   have HER := lh hEr
   have HEP := lh hEP
   have HL := lh hl
   have HLR := lh hr.ltr
   obtain ⟨m1, m2, m3, m4⟩ := P1.out.ne
   have HCALL : Hid (Calls Tryz.prog 57 #[.pointer (some ⟨rb, 0, none⟩)] w1 (RPost E 0 w1 (rn (topM 2 E.P) ⟨0, 0, 0⟩) (NdQ w1))) := lh (by have h := (rall E 60 (Nat.le_refl _)).pat w1 ⟨0, 0, 0⟩ hr; unfold pr at h; rw [hEr] at h; exact h)
   clear hEr hEP hr hl hok
   go_wp2_with (first | (go_at_call 53; refine HD.out.mono ?_; rintro e w3 ⟨ao9, cap9, rfl, ⟨⟨⟨y0, y1, y2, y3, y4⟩, ⟨z0, z1, z2, z3, z4⟩⟩, u0, u1, q0, q1, v0, v1⟩, HEND⟩) | (go_at_call 57; refine HCALL.out.mono ?_; rintro e w2 ⟨x, v, s2, rfl, hg, hr, ⟨aox, capx, rfl, hs⟩, hl⟩; have HD := lh (P1.out.done HER.out HEP.out HL.out HLR.out hr hg hl hs); unfold rowOf at ⊢; clear hr hg hs hl))
   obtain ⟨k1, k2, k3, k4⟩ := HEND.out _ rfl
   exact bodyPost_ret (res_top rfl rfl rfl k1 k2) rfl ⟨ao9, cap9, rfl, k3, k4⟩
theorem rParseType_any (s : ByteArray) (w : World) : Calls Tryz.prog 23 #[.string s] w (TopP (ansD s (topM 3)) w) := by
 obtain ⟨A, W, nb, fb, hA, hW, hnb, hfb, n1, n2, P0⟩ := Tp.go s 3 w
 rw [hA]
 have HX := lh (And.intro hW (And.intro hfb hnb))
 clear hA hW hnb hfb
 go_enter Tryz.func23, Tryz.ntmps23
 go_upto_region 1 with fail
 rw [HX.out.1, HX.out.2.1, HX.out.2.2]
 clear HX
 go_upto_region 2 with (first | (go_at_call 52; refine (rbegun_top s W).mono ?_; rintro e w1 ⟨rb, hrb, hb, h3⟩; have P1 : Hid (Tq s A 3 w W nb fb w1 rb) := lh ⟨P0.out, hrb, hb⟩; clear hrb hb; rcases h3 with ⟨hl, rfl, a, n, cap, hr⟩ | ⟨hl, hok, rfl, a, cap, hr⟩))
 · have HL := lh (P1.out.long hl)
   obtain ⟨⟨r0, r1, r2, r3, r4, r5, r6⟩, -, -⟩ := r_cells hr
   obtain ⟨⟨⟨y0, y1, y2, y3, y4⟩, ⟨z0, z1, z2, z3, z4⟩⟩, u0, u1, q0, q1, v0, v1⟩ := Cl.of P1.out.rn P1.out.rf
   have v2 := lt_of_block hr
   obtain ⟨m1, m2, m3, m4⟩ := P1.out.ne
   clear hr hl
   go_upto_region 3 with fail
   go_region
   all_goals
    generalize hZ : (((((((w1.setCell ⟨nb, 0, none⟩ (.int .i64 0)).setCell ⟨nb, 1, none⟩ (.int .i64 0)).setCell ⟨nb, 2, none⟩ (.string ⟨#[]⟩)).setCell ⟨nb, 3, none⟩ (.int .i64 0)).setCell ⟨nb, 4, none⟩ (.slice none 0 0)).setCell ⟨fb, 0, none⟩ (.int .i64 ((lexD s).2.1 : Int))).setCell ⟨fb, 1, none⟩ (.int .i64 ((lexD s).2.2 : Int))) = Z
    have HK := lh (P1.out.endl _ _ Z hZ.symm)
    clear hZ y0 y1 y2 y3 y4 z0 z1 z2 z3 z4 u0 u1 q0 q1 r0 r1 r2 r3 r4 r5 r6
    go_wp2_with fail
    exact bodyPost_ret (res_top rfl rfl rfl (w := Z.drew) HK.out.1 HK.out.2.1) rfl ⟨none, 0, by rw [HL.out], HK.out.2.2.1.drew, by rw [HL.out]; exact sl_nil rfl⟩
 · obtain ⟨E, hEr, hEP, hr⟩ := beg_env hr
   have HER := lh hEr
   have HEP := lh hEP
   have HL := lh hl
   have HLR := lh hr.ltr
   obtain ⟨m1, m2, m3, m4⟩ := P1.out.ne
   have HCALL : Hid (Calls Tryz.prog 58 #[.pointer (some ⟨rb, 0, none⟩)] w1 (RPost E 0 w1 (rn (topM 3 E.P) ⟨0, 0, 0⟩) (NdQ w1))) := lh (by have h := (rall E 60 (Nat.le_refl _)).typ w1 ⟨0, 0, 0⟩ hr; unfold pr at h; rw [hEr] at h; exact h)
   clear hEr hEP hr hl hok
   go_wp2_with (first | (go_at_call 53; refine HD.out.mono ?_; rintro e w3 ⟨ao9, cap9, rfl, ⟨⟨⟨y0, y1, y2, y3, y4⟩, ⟨z0, z1, z2, z3, z4⟩⟩, u0, u1, q0, q1, v0, v1⟩, HEND⟩) | (go_at_call 58; refine HCALL.out.mono ?_; rintro e w2 ⟨x, v, s2, rfl, hg, hr, ⟨aox, capx, rfl, hs⟩, hl⟩; have HD := lh (P1.out.done HER.out HEP.out HL.out HLR.out hr hg hl hs); unfold rowOf at ⊢; clear hr hg hs hl))
   obtain ⟨k1, k2, k3, k4⟩ := HEND.out _ rfl
   exact bodyPost_ret (res_top rfl rfl rfl k1 k2) rfl ⟨ao9, cap9, rfl, k3, k4⟩
theorem rParse_any (s : ByteArray) (w : World) : Calls Tryz.prog 20 #[.string s] w (TopP (ansD s (topM 0)) w) := by
 obtain ⟨A, W, nb, fb, hA, hW, hnb, hfb, n1, n2, P0⟩ := Tp.go s 0 w
 rw [hA]
 have HX := lh (And.intro hW (And.intro hfb hnb))
 clear hA hW hnb hfb
 go_enter Tryz.func20, Tryz.ntmps20
 go_upto_region 1 with fail
 rw [HX.out.1, HX.out.2.1, HX.out.2.2]
 clear HX
 go_upto_region 2 with (first | (go_at_call 52; refine (rbegun_top s W).mono ?_; rintro e w1 ⟨rb, hrb, hb, h3⟩; have P1 : Hid (Tq s A 0 w W nb fb w1 rb) := lh ⟨P0.out, hrb, hb⟩; clear hrb hb; rcases h3 with ⟨hl, rfl, a, n, cap, hr⟩ | ⟨hl, hok, rfl, a, cap, hr⟩))
 · have HL := lh (P1.out.long hl)
   obtain ⟨⟨r0, r1, r2, r3, r4, r5, r6⟩, -, -⟩ := r_cells hr
   obtain ⟨⟨⟨y0, y1, y2, y3, y4⟩, ⟨z0, z1, z2, z3, z4⟩⟩, u0, u1, q0, q1, v0, v1⟩ := Cl.of P1.out.rn P1.out.rf
   have v2 := lt_of_block hr
   obtain ⟨m1, m2, m3, m4⟩ := P1.out.ne
   clear hr hl
   go_upto_region 3 with fail
   go_region
   all_goals
    generalize hZ : (((((((w1.setCell ⟨nb, 0, none⟩ (.int .i64 0)).setCell ⟨nb, 1, none⟩ (.int .i64 0)).setCell ⟨nb, 2, none⟩ (.string ⟨#[]⟩)).setCell ⟨nb, 3, none⟩ (.int .i64 0)).setCell ⟨nb, 4, none⟩ (.slice none 0 0)).setCell ⟨fb, 0, none⟩ (.int .i64 ((lexD s).2.1 : Int))).setCell ⟨fb, 1, none⟩ (.int .i64 ((lexD s).2.2 : Int))) = Z
    have HK := lh (P1.out.endl _ _ Z hZ.symm)
    clear hZ y0 y1 y2 y3 y4 z0 z1 z2 z3 z4 u0 u1 q0 q1 r0 r1 r2 r3 r4 r5 r6
    go_wp2_with fail
    exact bodyPost_ret (res_top rfl rfl rfl (w := Z.drew) HK.out.1 HK.out.2.1) rfl ⟨none, 0, by rw [HL.out], HK.out.2.2.1.drew, by rw [HL.out]; exact sl_nil rfl⟩
 · obtain ⟨E, hEr, hEP, hr⟩ := beg_env hr
   have HER := lh hEr
   have HEP := lh hEP
   have HL := lh hl
   have HLR := lh hr.ltr
   obtain ⟨m1, m2, m3, m4⟩ := P1.out.ne
   have HCALL : Hid (Calls Tryz.prog 55 #[.pointer (some ⟨rb, 0, none⟩), .int .i64 0] w1 (RPost E 0 w1 (rn (decsB E.P (recS E.P 60) 0) ⟨0, 0, 0⟩) (OwB w1))) := lh (by have h := rdecs0_any E 60 (rall E 60 (Nat.le_refl _)) w1 ⟨0, 0, 0⟩ 0 (by decide) hr; unfold pr at h; rw [hEr] at h; exact h)
   clear hEr hEP hr hl hok
   go_wp2_with (first | (go_at_call 53; refine HD.out.mono ?_; rintro e w3 ⟨ao9, cap9, rfl, ⟨⟨⟨y0, y1, y2, y3, y4⟩, ⟨z0, z1, z2, z3, z4⟩⟩, u0, u1, q0, q1, v0, v1⟩, HEND⟩) | (go_at_call 54; refine (rnode_any _ _ _ _ _ wd).mono ?_; rintro e w2 ⟨rfl, hb⟩; have HS9 : SlD w2 (fun b => w1.heap.size ≤ b ∧ b < w2.heap.size) l aol capl := SlD.mono (HSl.out.keep (w' := w2) fun b q off => hb.cell (p := ⟨b, off, none⟩) q.2) (fun b q => ⟨q.1, Nat.lt_of_lt_of_le q.2 hb.size⟩); have HD := lh (P1.out.done HER.out HEP.out HL.out HLR.out (n := .mk 0 0 ⟨#[]⟩ 0 l) (HRd.out.keep hb) (gr_trans HGd.out (gr_below hb (some E.rb))) HT8.out HS9); clear hb HS9) | (go_at_call 55; refine HCALL.out.mono ?_; rintro e wd ⟨l, v, s2, rfl, hg, hr, ⟨ho, hlen⟩, hl⟩; have HT8 := lh (show Rl (topM 0 E.P 0) (.mk 0 0 ⟨#[]⟩ 0 l) s2 from rn_pure (rn_bind (f := fun l => (pure (.mk 0 0 ⟨#[]⟩ 0 l) : M Ty)) hl)); have HRd := lh hr; have HGd := lh hg; obtain ⟨bs, D, e1, own, hD⟩ := ho; obtain ⟨aol, capl, ev, hsl⟩ := own.read (D' := fun b => w1.heap.size ≤ b ∧ b < wd.heap.size) (fun b hb => ⟨(hD b hb).1, (hD b hb).2.1⟩) (fun b hb => ⟨(own.own.lt b hb).1, (own.own.lt b hb).2⟩); rw [e1] at hsl; have eln : bs.length = l.length := (by have h9 := congrArg List.length e1; simpa using h9); rw [eln] at ev; subst ev; have HSl := lh hsl; clear hr hg hl e1 own hD hsl eln hlen))
   obtain ⟨k1, k2, k3, k4⟩ := HEND.out _ rfl
   exact bodyPost_ret (res_top rfl rfl rfl k1 k2) rfl ⟨ao9, cap9, rfl, k3, k4⟩
end Go.Proofs.YthehjeeiodbkjaaGreatDoor
