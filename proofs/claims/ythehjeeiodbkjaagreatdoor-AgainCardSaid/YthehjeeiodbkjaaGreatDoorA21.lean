/-
  Proved: the contract of the program's read, and so of Parse, ParseExp, ParsePat, ParseType; the contracts of the program's four readers of a text. Conditions: the tables as they stand in memory.
-/
import Derived.Test.YthehjeeiodbkjaaGreatDoorA01
import Derived.Test.YthehjeeiodbkjaaGreatDoorA20
set_option linter.unusedSimpArgs false
set_option linter.unusedVariables false
set_option maxRecDepth 100000
set_option maxHeartbeats 16000000
namespace Go.Proofs.YthehjeeiodbkjaaGreatDoor
open Go.RowKit
abbrev Dcl (nb fb : Nat) : Deferred := { target := Target.fn (Fn.func 34) #[.pointer (some ⟨nb, 0, none⟩), .pointer (some ⟨fb, 0, none⟩)], args := #[] }
theorem Rd.set_other {E : Env} {w : World} {i d q : Nat} (h : Rd E w i d) (hq : q ≠ E.rb) (h2 : 2 < q) (hlo : ∀ b off, E.lo = some ⟨b, off, none⟩ → b ≠ q ∨ E.P.toks.length = 0) (k : Nat) (v : Value) : Rd E (w.setCell ⟨q, k, none⟩ v) i d := by
 refine ⟨blk_set_ne h.row (fun e => hq e.symm) k v, fun m hm => ?_, ⟨h.low.1, by rw [World.size_setCell]; exact h.low.2⟩, h.ok, h.le, h.d60, h.gl.of (fun m => World.cell?_of_block (a := ⟨0, m, none⟩) (blk_set_ne rfl (by show 0 ≠ q; omega) k v)) (fun m => World.cell?_of_block (a := ⟨2, m, none⟩) (blk_set_ne rfl (by show 2 ≠ q; omega) k v)), h.g2⟩
 obtain ⟨b, off, h1, h3, h4, h5⟩ := h.tk m hm
 have hne : b ≠ q := (hlo b off h1).resolve_right (by omega)
 exact ⟨b, off, h1, h3, h4, fun j hj => (World.cell?_of_block (a := ⟨b, _, none⟩) (blk_set_ne rfl hne k v)).trans (h5 j hj)⟩
theorem flat_get : ∀ {ts : List Tok} {k j : Nat} (h : k < ts.length), j < 4 → (ts.flatMap tokRow)[k * 4 + j]? = (tkRow ts[k])[j]?
 | [], k, j, h, _ => by simp at h
 | t :: ts, 0, j, h, hj => by
  rw [List.flatMap_cons, Nat.zero_mul, Nat.zero_add, List.getElem?_append_left (by show j < (tokRow t).length; exact hj)]
  rfl
 | t :: ts, k + 1, j, h, hj => by
  rw [List.flatMap_cons, List.getElem?_append_right (by show (tokRow t).length ≤ _; show 4 ≤ _; omega)]
  have e : (k + 1) * 4 + j - (tokRow t).length = k * 4 + j := by show _ - 4 = _; omega
  rw [e, flat_get (ts := ts) (by simpa using h) hj]
  rfl
theorem rd_start {s : ByteArray} {w1 X : World} {B rb f1 f2 : Nat} {a : Option Addr} {cap : Nat} (hok : SrcOk (srcD s)) (hf : (lexD s).2 = (f1, f2)) (ho : w1.ownsRow B 59 4 (.slice a (lexD s).1.length cap) (lexD s).1.length ((lexD s).1.flatMap tokRow)) (hB : rb < B) (hX : ∀ b, B ≤ b → X.heap[b]? = w1.heap[b]?) (hs : w1.heap.size ≤ X.heap.size) (hrb : rb < X.heap.size) (hT : TabOk X) (h2 : 2 < rb) (hr : X.heap[rb]? = some (.cells #[.slice a (lexD s).1.length cap, .int .i64 0, .int .i64 (f1 : Int), .int .i64 (f2 : Int), .int .i64 0] 63 (0, 0))) :
 Rd ⟨X.heap.size, rb, srcD s, a, cap⟩ X 0 0 ∧ ∀ b off, a = some ⟨b, off, none⟩ → B ≤ b ∨ (lexD s).1.length = 0 := by
 have e1 : (srcD s).fk = f1 := by show (lexD s).2.1 = f1; rw [hf]
 have e2 : (srcD s).fa = f2 := by show (lexD s).2.2 = f2; rw [hf]
 refine ⟨⟨?_, fun k hk => ?_, ⟨hrb, Nat.le_refl _⟩, hok, Nat.zero_le _, by decide, hT.gl, h2⟩, fun b off e => ?_⟩
 · show X.heap[rb]? = some (.cells #[.slice a (lexD s).1.length cap, .int .i64 ((0 : Nat) : Int), .int .i64 ((srcD s).fk : Int), .int .i64 ((srcD s).fa : Int), .int .i64 ((0 : Nat) : Int)] 63 (0, 0))
   rw [e1, e2]
   exact hr
 · have hk2 : k < (lexD s).1.length := hk
   rcases ho.2 with ⟨h1, h3⟩ | ⟨g, cap', cur, h1, h3, h4⟩
   · injection h1 with e3 e4 e5
     omega
   · injection h1 with e3 e4 e5
     have hg := ho.lt g (by rw [e3]; rfl)
     refine ⟨g, 0, e3, by dsimp only; omega, by show g < X.heap.size; omega, fun j hj => ?_⟩
     have hc := (show w1.ownsRow B 59 4 (.slice (some ⟨g, 0, none⟩) (lexD s).1.length cap) (lexD s).1.length _ from by rw [← e3]; exact ho).cellAt (0 + k * 4 + j) (by omega)
     rw [World.cell?_of_block (a := ⟨g, 0 + k * 4 + j, none⟩) (hX g hg.1), hc, show 0 + k * 4 + j = k * 4 + j from by omega]
     exact flat_get hk2 hj
 · rcases ho.2 with ⟨h1, h3⟩ | ⟨g, cap', cur, h1, h3, h4⟩
   · injection h1 with e3 e4 e5
     exact .inr e4
   · injection h1 with e3 e4 e5
     rw [e3] at e
     have := Option.some.inj e
     have h5 : g = b := by injection this
     exact .inl (by omega)
theorem door_slip {fn : Func} {t u : Tmp} (h : fn.results = #[.cell t 26, .cell u 29]) {tmps : Array Value} {w W : World} {nb fb k q : Nat} (ht : tmps.getD t undef = .pointer (some ⟨nb, 0, none⟩)) (hu : tmps.getD u undef = .pointer (some ⟨fb, 0, none⟩)) {A : Ty × Nat × Nat} (hA : A = (zeroT, k, q)) {c0 c1 c2 c3 c4 r0 r1 : Value} (hn : W.heap[nb]? = some (.cells #[c0, c1, c2, c3, c4] 26 (0, 0))) (hf : W.heap[fb]? = some (.cells #[r0, r1] 29 (0, 0))) (hnb : nb = w.heap.size) (hfb : fb = w.heap.size + 1) (hb : Below w.heap.size w W) :
 Leaves Tryz.prog fn tmps (TopP A w) [Dcl nb fb] (.panicking (slipV k q)) W := by
 refine leaves_cons (f := 34) (args := #[.pointer (some ⟨nb, 0, none⟩), .pointer (some ⟨fb, 0, none⟩)]) (by intro h; cases h) (by simp [go_sem]) ?_
 refine (catch_slip nb fb k q r0 r1 c0 c1 c2 c3 c4 W hn hf (by omega)).mono ?_
 rintro e u' w' ⟨rfl, rfl, h1, h2, h3⟩
 show Leaves Tryz.prog fn tmps (TopP A w) [] .returning w'
 refine ⟨_, res_top h ht hu (p := zeroT) (ao := none) (cap := 0) h2 h3, ?_⟩
 rw [hA]
 exact ⟨none, 0, rfl, hb.trans (h1.mono (by omega)), sl_nil rfl⟩
theorem door_ret {fn : Func} {t u : Tmp} (h : fn.results = #[.cell t 26, .cell u 29]) {tmps : Array Value} {w W : World} {nb fb : Nat} (ht : tmps.getD t undef = .pointer (some ⟨nb, 0, none⟩)) (hu : tmps.getD u undef = .pointer (some ⟨fb, 0, none⟩)) {A : Ty × Nat × Nat} {n : Ty} {ao : Option Addr} {cap : Nat} (hA : A = (n, 0, 0)) (hn : W.heap[nb]? = some (.cells (rowOf n ao cap) 26 (0, 0))) (hf : W.heap[fb]? = some (.cells #[.int .i64 0, .int .i64 0] 29 (0, 0))) (hb : Below w.heap.size w W) (hs : SlD W (fun b => w.heap.size ≤ b ∧ b < W.heap.size) n.args ao cap) :
 Leaves Tryz.prog fn tmps (TopP A w) [Dcl nb fb] .returning W := by
 refine leaves_cons (f := 34) (args := #[.pointer (some ⟨nb, 0, none⟩), .pointer (some ⟨fb, 0, none⟩)]) (by intro h; cases h) (by simp [go_sem]) ?_
 refine (catch_none nb fb W).mono ?_
 rintro e u' w' ⟨rfl, rfl, rfl⟩
 show Leaves Tryz.prog fn tmps (TopP A w) [] .returning w'
 refine ⟨_, res_top h ht hu hn hf, ?_⟩
 rw [hA]
 exact ⟨ao, cap, rfl, hb, hs⟩
theorem ansD_bad {s : ByteArray} {m : Src → M Ty} (hl : ¬ ((lexD s).2.1 = 1 ∨ (lexD s).2.1 = 2)) {k a : Nat} (h : wholeD (srcD s) (m (srcD s)) = .bad k a) : ansD s m = (zeroT, k, a) := by unfold ansD; rw [if_neg hl, h]
theorem ansD_ok {s : ByteArray} {m : Src → M Ty} (hl : ¬ ((lexD s).2.1 = 1 ∨ (lexD s).2.1 = 2)) {n : Ty} {j : Nat} (h : wholeD (srcD s) (m (srcD s)) = .ok n j) : ansD s m = (n, 0, 0) := by unfold ansD; rw [if_neg hl, h]
theorem Rd.set5n {E : Env} {w : World} {i d q : Nat} (h : Rd E w i d) (hq : q ≠ E.rb) (h2 : 2 < q) (hlo : ∀ b off, E.lo = some ⟨b, off, none⟩ → b ≠ q ∨ E.P.toks.length = 0) (x : Ty) (ao : Option Addr) (cap : Nat) : Rd E (set5 w q x ao cap) i d :=
 ((((h.set_other hq h2 hlo _ _).set_other hq h2 hlo _ _).set_other hq h2 hlo _ _).set_other hq h2 hlo _ _).set_other hq h2 hlo _ _
theorem gr_to_below {w W : World} {N rb : Nat} (h : w.grownBy W (some rb)) (hN : N ≤ w.heap.size) (hr : N ≤ rb) : Below N w W := ⟨h.os, h.tape, h.output, h.size, fun k hk => h.block k (by omega) (fun e => by have := Option.some.inj e; omega)⟩
theorem set5_cells {w : World} {q : Nat} {x : Ty} {ao : Option Addr} {cap : Nat} {D : Nat → Prop} (hD : ∀ b, D b → b ≠ q) : ∀ b, D b → ∀ off, (set5 w q x ao cap).cell? ⟨b, off, none⟩ = w.cell? ⟨b, off, none⟩ := fun b hb off => World.cell?_of_block (a := ⟨b, off, none⟩) (set5_ne rfl (hD b hb))
theorem set5_size {w : World} {q : Nat} {x : Ty} {ao : Option Addr} {cap : Nat} : (set5 w q x ao cap).heap.size = w.heap.size := by unfold set5; rw [World.size_setCell, World.size_setCell, World.size_setCell, World.size_setCell, World.size_setCell]
theorem ret_end {w w2 w3 : World} {nb fb : Nat} {n : Ty} {ao : Option Addr} {cap : Nat} {B : Nat} (hnb : nb = w.heap.size) (hfb : fb = w.heap.size + 1) (hB : w.heap.size + 2 ≤ B) (hb : Below w.heap.size w w3) (rn : w3.heap[nb]? = some (.cells (rowOf n ao cap) 26 (0, 0))) (rf : w3.heap[fb]? = some (.cells #[.int .i64 0, .int .i64 0] 29 (0, 0))) (hs : SlD w3 (fun b => B ≤ b ∧ b < w3.heap.size) n.args ao cap) (Y : World) (hY : Y = set2 (set5 w3 nb n ao cap) fb 0 0) :
 Y.heap[nb]? = some (.cells (rowOf n ao cap) 26 (0, 0)) ∧ Y.heap[fb]? = some (.cells #[.int .i64 0, .int .i64 0] 29 (0, 0)) ∧ Below w.heap.size w Y ∧ SlD Y (fun b => w.heap.size ≤ b ∧ b < Y.heap.size) n.args ao cap := by
 obtain ⟨Z, hZ⟩ : ∃ Z, Z = set5 w3 nb n ao cap := ⟨_, rfl⟩
 have b1 : Below w.heap.size w Z := by rw [hZ]; exact below_set5 hb (by omega)
 have b2 : Z.heap[nb]? = some (.cells (rowOf n ao cap) 26 (0, 0)) := by rw [hZ]; unfold rowOf at rn; exact TB.set rn n ao cap
 have b3 : Z.heap[fb]? = some (.cells #[.int .i64 0, .int .i64 0] 29 (0, 0)) := by rw [hZ]; exact set5_ne rf (by omega)
 have b4 : SlD Z (fun b => B ≤ b ∧ b < w3.heap.size) n.args ao cap := by rw [hZ]; exact hs.keep (set5_cells fun b hb => by omega)
 have b5 : Z.heap.size = w3.heap.size := by rw [hZ]; exact set5_size
 rw [← hZ] at hY
 clear hZ
 have d1 : Below w.heap.size w Y := by rw [hY]; exact (b1.setCell (p := ⟨fb, 0, none⟩) (by show w.heap.size ≤ fb; omega) _).setCell (p := ⟨fb, 1, none⟩) (by show w.heap.size ≤ fb; omega) _
 have d2 : Y.heap[nb]? = some (.cells (rowOf n ao cap) 26 (0, 0)) := by rw [hY]; exact blk_set_ne (blk_set_ne b2 (by omega) 0 _) (by omega) 1 _
 have d3 : Y.heap[fb]? = some (.cells #[.int .i64 0, .int .i64 0] 29 (0, 0)) := by rw [hY]; exact blk_set (blk_set b3 0 _) 1 _
 have d5 : Y.heap.size = w3.heap.size := by rw [hY]; unfold set2; rw [World.size_setCell, World.size_setCell, b5]
 refine ⟨d2, d3, d1, (b4.keep fun b hb off => ?_).mono fun b hb => by rw [d5]; omega⟩
 rw [hY]
 exact World.cell?_of_block (a := ⟨b, off, none⟩) (blk_set_ne (blk_set_ne rfl (by show b ≠ fb; omega) 0 _) (by show b ≠ fb; omega) 1 _)
theorem whole_bad {P : Src} {m : M Ty} {k a : Nat} (h : m 0 = .bad k a) : wholeD P m = .bad k a := by unfold wholeD; rw [h]
theorem whole_ok {P : Src} {m : M Ty} {n : Ty} {j : Nat} (h : m 0 = .ok n j) (hk : P.K j = 0) : wholeD P m = .ok n j := by unfold wholeD; rw [h]; exact if_pos hk
theorem whole_fail {P : Src} {m : M Ty} {n : Ty} {j x y : Nat} (h : m 0 = .ok n j) (hk : ¬ P.K j = 0) (hf : (failD P 4 j : Res Unit) = .bad x y) : wholeD P m = .bad x y := by unfold wholeD; rw [h]; exact (if_neg hk).trans (failD_cast hf)
theorem readN_ok (n9 : Nat) (hcf : ∀ (x9 : Array Value) (w : World), (callFunc n9 x9).run Tryz.prog w = .ok (.enter n9 x9) w) (s : ByteArray) (m : Src → M Ty) (HM : ∀ E w i, Rd E w i 0 → Calls Tryz.prog n9 #[pr E] w (PPost E 0 w (m E.P i) (NdQ w))) (w : World) (hT : TabOk w) (hl : ¬ ((lexD s).2.1 = 1 ∨ (lexD s).2.1 = 2)) (hok : SrcOk (srcD s)) : Calls Tryz.prog 16 #[.string s, .func (.func n9) #[] #[]] w (TopP (ansD s m) w) := by
 have hmf : ∀ (fn : Fn) (first cap : Array Value) (w : World), (Instr.makeFunc fn first cap).run Tryz.prog w = .ok (.func fn first cap) w := fun _ _ _ _ => rfl
 have HCF := lh hcf
 clear hcf
 have HBADA := lh (fun k a => ansD_bad (s := s) (m := m) hl (k := k) (a := a))
 have HOKA := lh (fun n j => ansD_ok (s := s) (m := m) hl (n := n) (j := j))
 obtain ⟨A, hA⟩ : ∃ A, A = ansD s m := ⟨_, rfl⟩
 rw [← hA] at HBADA HOKA ⊢
 clear hA
 obtain ⟨W, hW, hbW, hsW, rn, rf, rr⟩ := rd_made w
 have hlx : ∃ f1 f2, (lexD s).2 = (f1, f2) := ⟨_, _, rfl⟩
 obtain ⟨f1, f2, hf⟩ := hlx
 rw [hf] at hl
 have HTK : Hid (Calls Tryz.prog 15 #[.string s] W (LexPost s W)) := lh (ptoks_any s W (hT.below hbW).so (by have := (hT.below hbW).sz; omega))
 have HF := lh hf
 have HOK := lh hok
 have HTB := lh hT
 have HMM := lh HM
 have e1 : ((f1 : Int) == 1) = false := by simp; omega
 have e2 : ((f1 : Int) == 2) = false := by simp; omega
 obtain ⟨nb, hnb⟩ : ∃ nb, nb = w.heap.size := ⟨_, rfl⟩
 obtain ⟨fb, hfb⟩ : ∃ fb, fb = w.heap.size + 1 := ⟨_, rfl⟩
 obtain ⟨rb, hrb⟩ : ∃ rb, rb = w.heap.size + 1 + 1 := ⟨_, rfl⟩
 rw [← hnb] at rn
 rw [← hfb] at rf
 rw [← hrb] at rr
 have HNB := lh hnb
 have HFB := lh hfb
 have HRB := lh hrb
 have HRN := lh rn
 have HRF := lh rf
 have HRR := lh rr
 have HBW := lh hbW
 have HSW := lh hsW
 unfold zeroRow rdRow0 at hW
 have HWW := lh hW
 have n1 : ¬ (nb = fb) := by omega
 have n2 : ¬ (fb = nb) := by omega
 have n3 : ¬ (nb = rb) := by omega
 have n4 : ¬ (rb = nb) := by omega
 have n5 : ¬ (fb = rb) := by omega
 have n6 : ¬ (rb = fb) := by omega
 clear hW hbW hsW rn rf rr hf hT hnb hfb hrb hl hok HM
 go_enter_defers Tryz.func16, Tryz.ntmps16
 go_upto_region 2 with fail
 rw [← HWW.out, ← HRB.out, ← HFB.out, ← HNB.out]
 clear HWW
 go_upto_region 3 with (first | (go_at_call 15; refine HTK.out.mono ?_; rintro e w1 ⟨a, cap, rfl, ho, hb⟩; rw [HF.out] at ⊢; have r1 := blk_below HRR.out hb (lt_of_block HRR.out); have HB1 := lh hb; have HR1 := lh r1; unfold rdRow0 at r1; obtain ⟨⟨c0, c1, c2, c3, c4⟩, ⟨z0, z1, z2, z3, z4⟩⟩ := rd_cells r1; have HO := lh ho; clear ho hb r1))
 obtain ⟨X, hX⟩ : ∃ X, X = setR w1 rb (.slice a (lexD s).1.length cap) f1 f2 := ⟨_, rfl⟩
 have bX : Below w.heap.size w X := by rw [hX]; exact setR_below (HBW.out.trans (HB1.out.mono (by have := HSW.out; omega))) (by have := HRB.out; omega) _ _ _
 have rX : X.heap[rb]? = some (.cells #[.slice a (lexD s).1.length cap, .int .i64 0, .int .i64 (f1 : Int), .int .i64 (f2 : Int), .int .i64 0] 63 (0, 0)) := by rw [hX]; exact setR_row HR1.out _ _ _
 have nX : X.heap[nb]? = some (.cells zeroRow 26 (0, 0)) := by rw [hX]; exact setR_ne (blk_below HRN.out HB1.out (lt_of_block HRN.out)) n3 _ _ _
 have fX : X.heap[fb]? = some (.cells #[.int .i64 0, .int .i64 0] 29 (0, 0)) := by rw [hX]; exact setR_ne (blk_below HRF.out HB1.out (lt_of_block HRF.out)) n5 _ _ _
 have hbig : ∀ b, W.heap.size ≤ b → X.heap[b]? = w1.heap[b]? := fun b hb => by
  have h1 : b ≠ rb := by have := lt_of_block HRR.out; omega
  rw [hX]
  exact setR_ne rfl h1 _ _ _
 have hsz : w1.heap.size ≤ X.heap.size := by rw [hX]; show _ ≤ (setR w1 rb _ f1 f2).heap.size; unfold setR; rw [World.size_setCell, World.size_setCell, World.size_setCell]; exact Nat.le_refl _
 have hrd := rd_start (rb := rb) HOK.out HF.out HO.out (by have := lt_of_block HRR.out; omega) hbig hsz (lt_of_block rX) (HTB.out.below bX) (by have := HTB.out.sz; have := HRB.out; omega) rX
 obtain ⟨E, hE⟩ : ∃ E : Env, E = ⟨X.heap.size, rb, srcD s, a, cap⟩ := ⟨_, rfl⟩
 have hEr : E.rb = rb := by rw [hE]
 have hEP : E.P = srcD s := by rw [hE]
 have hEl : ∀ b off, E.lo = some ⟨b, off, none⟩ → b ≠ nb ∨ E.P.toks.length = 0 := by
  intro b off e
  rw [hE] at e
  rcases hrd.2 b off e with h | h
  · exact .inl (by have := HSW.out; have := HNB.out; omega)
  · exact .inr (by rw [hEP]; exact h)
 rw [← hE] at hrd
 have HEL := lh hEl
 have HRD := lh hrd.1
 have HCALL : Hid (Calls Tryz.prog n9 #[.pointer (some ⟨rb, 0, none⟩)] X (PPost E 0 X (m (srcD s) 0) (NdQ X))) := lh (by have h := HMM.out E X 0 hrd.1; rw [hEP] at h; unfold pr at h; rw [hEr] at h; exact h)
 have HNOW : Hid (∀ w1 j, Rd E w1 j 0 → Calls Tryz.prog 35 #[.pointer (some ⟨rb, 0, none⟩)] w1 fun e w' => e = .returned (.agg #[.int .i64 ((srcD s).K j), .int .i64 ((srcD s).A j : Int), .string ((srcD s).T j), .int .i64 ((srcD s).N j : Int)]) ∧ Below w1.heap.size w1 w') := lh (fun w1 j h1 => by have h := now_any E w1 j 0 h1; unfold pr tkVal at h; rw [hEr, hEP] at h; exact h)
 have HFAIL : Hid (∀ w1 j, Rd E w1 j 0 → Calls Tryz.prog 36 #[.pointer (some ⟨rb, 0, none⟩), .int .i64 4] w1 fun e w' => (∃ x y, (failD (srcD s) 4 j : Res Unit) = .bad x y ∧ e = .panicked (slipV x y)) ∧ Below w1.heap.size w1 w') := lh (fun w1 j h1 => by have h := fail_any E w1 j 0 4 h1; unfold pr at h; rw [hEr, hEP] at h; exact h)
 have HER := lh hEr
 have HBX := lh bX
 have HNX := lh nX
 have HFX := lh fX
 have hXs : w.heap.size + 3 ≤ X.heap.size := by have h1 := lt_of_block rX; have := HRB.out; omega
 have HXS := lh hXs
 have HT2 := lh HTB.out.sz
 unfold setR at hX
 rw [← hX]
 clear hX c0 c1 c2 c3 c4 z0 z1 z2 z3 z4 hbig hsz hE hEP hEl hrd hXs
 unfold zeroRow at nX
 obtain ⟨⟨c0, c1, c2, c3, c4⟩, ⟨z0, z1, z2, z3, z4⟩⟩ := rd_cells rX
 clear rX nX fX bX
 go_upto_region 6 with fail
 clear c0 c1 c2 c3 c4 z0 z1 z2 z3 z4
 go_upto_region 7 with (first | ((with_reducible show wpList _ _ _ _ _ _); refine wpList_itm HCF.out (by rfl) (.tmp 40) (.tmp 41) (by rfl) (by rfl) (by rfl) HCALL.out ?_ ?_ ?_; (intro c w2 h; obtain ⟨hg, ⟨x, j, v, -, e1, -⟩ | ⟨k, q, hx, e1, jj, hr⟩⟩ := h; cases e1; cases e1; have hn2 := gr_row hg HNX.out (by rw [HER.out]; exact n3); unfold zeroRow at hn2; exact door_slip rfl rfl rfl (HBADA.out k q (whole_bad hx)) hn2 (gr_row hg HFX.out (by rw [HER.out]; exact n5)) HNB.out HFB.out (HBX.out.trans (gr_to_below hg (by have := HXS.out; omega) (by rw [HER.out, HRB.out]; omega)))); exact (fun w1 => PPost.out); intro v w2 h; obtain ⟨hg, n, j, hx, ⟨ao, cp, rfl, hs⟩, hr⟩ := h.got; have hn2 := gr_row hg HNX.out (by rw [HER.out]; exact n3); have hf2 := gr_row hg HFX.out (by rw [HER.out]; exact n5); have hb2 : Below w.heap.size w w2 := HBX.out.trans (gr_to_below hg (by have := HXS.out; omega) (by rw [HER.out, HRB.out]; omega)); unfold zeroRow at hn2; have HX2 := lh hx; have HN2 := lh hn2; have HF2 := lh hf2; have HB2 := lh hb2; have HR2 := lh hr; have HS2 := lh hs; obtain ⟨⟨c0, c1, c2, c3, c4⟩, ⟨z0, z1, z2, z3, z4⟩⟩ := five_cells hn2; unfold rowOf at ⊢; clear hx hn2 hf2 hb2 hr hs hg h))
 obtain ⟨Y, hY⟩ : ∃ Y, Y = set5 w2 nb n ao cp := ⟨_, rfl⟩
 have hRY : Rd E Y j 0 := by rw [hY]; exact HR2.out.set5n (by rw [HER.out]; exact n3) (by have := HNB.out; have := HT2.out; omega) HEL.out n ao cp
 have hNY : Y.heap[nb]? = some (.cells (rowOf n ao cp) 26 (0, 0)) := by rw [hY]; exact TB.set HN2.out n ao cp
 have hFY : Y.heap[fb]? = some (.cells #[.int .i64 0, .int .i64 0] 29 (0, 0)) := by rw [hY]; exact set5_ne HF2.out n2
 have hBY : Below w.heap.size w Y := by rw [hY]; exact below_set5 HB2.out (by have := HNB.out; omega)
 have hSY : SlD Y (fun b => X.heap.size ≤ b ∧ b < Y.heap.size) n.args ao cp := by
  have h1 : Y.heap.size = w2.heap.size := by rw [hY]; exact set5_size
  rw [h1, hY]
  exact HS2.out.keep (set5_cells fun b hb => by have := HXS.out; have := HNB.out; omega)
 have HRY := lh hRY
 have HNY := lh hNY
 have HFY := lh hFY
 have HBY := lh hBY
 have HSY := lh hSY
 unfold set5 at hY
 rw [← hY]
 clear hY hRY hNY hFY hBY hSY c0 c1 c2 c3 c4 z0 z1 z2 z3 z4
 by_cases hk : (srcD s).K j = 0
 · have e3 : ((srcD s).K j != 0) = false := by simp [hk]
   have HK := lh hk
   clear hk
   go_upto_region 9 with (first | (go_at_call 35; refine (HNOW.out Y j HRY.out).mono ?_; rintro e w3 ⟨rfl, hb⟩; have fl := tk_fieldK (srcD s) j; have HB3 := lh hb; have h4 := blk_below HNY.out hb (lt_of_block HNY.out); unfold rowOf at h4; obtain ⟨⟨c0, c1, c2, c3, c4⟩, ⟨z0, z1, z2, z3, z4⟩⟩ := five_cells h4; have h5 := blk_below HFY.out hb (lt_of_block HFY.out); have u0 : w3.cell? ⟨fb, 0, none⟩ = some (.int .i64 0) := blk_cell h5 0; have u1 : w3.cell? ⟨fb, 1, none⟩ = some (.int .i64 0) := blk_cell h5 1; have q0 := blk_free h5 0; have q1 := blk_free h5 1; clear hb h4 h5))
   have HEND := lh (fun (Z : World) hZ => ret_end (w2 := w2) HNB.out HFB.out (B := X.heap.size) (by have := HXS.out; omega) (HBY.out.trans (HB3.out.mono HBY.out.size)) (blk_below HNY.out HB3.out (lt_of_block HNY.out)) (blk_below HFY.out HB3.out (lt_of_block HFY.out)) ((HSY.out.keep fun b hb off => HB3.out.cell (p := ⟨b, off, none⟩) hb.2).mono fun b hb => ⟨hb.1, Nat.lt_of_lt_of_le hb.2 HB3.out.size⟩) Z hZ)
   go_wp2_with fail
   obtain ⟨k1, k2, k3, k4⟩ := HEND.out _ rfl
   exact door_ret rfl rfl rfl (HOKA.out n j (whole_ok HX2.out HK.out)) k1 k2 k3 k4
 · have e3 : ((srcD s).K j != 0) = true := by simp [hk]
   have HK := lh hk
   clear hk
   go_wp2_with (first | (go_at_call 36; refine (HFAIL.out w3 j (HRY.out.keep HB3.out)).mono ?_; rintro e w4 ⟨⟨x, y, hx, rfl⟩, hb⟩; have hb3 := HB3.out.trans (hb.mono HB3.out.size); have h4 := blk_below HNY.out hb3 (lt_of_block HNY.out); unfold rowOf at h4; exact door_slip rfl rfl rfl (HBADA.out x y (whole_fail HX2.out HK.out hx)) h4 (blk_below HFY.out hb3 (lt_of_block HFY.out)) HNB.out HFB.out (HBY.out.trans (hb3.mono HBY.out.size))) | (go_at_call 35; refine (HNOW.out Y j HRY.out).mono ?_; rintro e w3 ⟨rfl, hb⟩; have fl := tk_fieldK (srcD s) j; have HB3 := lh hb; clear hb))
theorem parse1_any (E : Env) (g : Nat) (PA : PAll E g) (w : World) (i : Nat) (h : Rd E w i (60 - g)) : Calls Tryz.prog 27 #[pr E] w (PPost E (60 - g) w (((decsB E.P (recS E.P g) 0 >>= fun l => (ret (.mk 0 0 ⟨#[]⟩ 0 l) : M Ty))) i) (NdQ w)) := by
 obtain ⟨d, hd⟩ : ∃ d, d = 60 - g := ⟨_, rfl⟩
 rw [← hd] at h ⊢
 obtain ⟨T, hT⟩ : ∃ T, T = ((decsB E.P (recS E.P g) 0 >>= fun l => (ret (.mk 0 0 ⟨#[]⟩ 0 l) : M Ty))) i := ⟨_, rfl⟩
 rw [← hT]
 have HT : Hid (T = (decsB E.P (recS E.P g) 0 >>= fun l => (pure (.mk 0 0 ⟨#[]⟩ 0 l) : M Ty)) i) := lh hT
 obtain ⟨W, hW⟩ : ∃ W, W = w.alloc (.cells zeroRow 26) := ⟨_, rfl⟩
 have F0 := lh (Fb.start h hW)
 have HB := lh h.low.2
 have HH := lh h
 have hlr := h.ltr
 have hN := h.ok.len
 have HNODE : Hid (∀ (k a : Int) (ao : Option Addr) (n cap : Nat) (w1 : World), Calls Tryz.prog 28 #[.int .i64 k, .int .i64 a, .slice ao n cap] w1 fun e w' => e = .returned (.agg #[.int .i64 k, .int .i64 a, .string ⟨#[]⟩, .int .i64 0, .slice ao n cap]) ∧ Below w1.heap.size w1 w') := lh node_any
 have HDECS : Hid (∀ w1 j, Rd E w1 j d → Calls Tryz.prog 29 #[pr E, .int .i64 0] w1 (PPost E d w1 ((decsB E.P (recS E.P g) 0) j) (OwQ w1))) := lh (fun w1 j h1 => by rw [hd] at h1 ⊢; exact decs_any E g PA w1 j 0 (by decide) h1)
 unfold pr at HDECS ⊢
 unfold zeroRow at hW
 have HWW := lh hW
 clear h hT hW hd  
 go_enter Tryz.func27, Tryz.ntmps27
 go_upto_region 1 with fail
 rw [← HWW.out]
 clear HWW
 go_wp2_with (first | (go_at_call 28; refine (HNODE.out _ _ _ _ _ w1).mono ?_; rintro e w6 ⟨rfl, hb⟩; have F7 := lh (F2.out.below hb); have OW8 := lh (OW5.out.gr (gr_below hb (some E.rb)) F2.out.rb); have hr9 := F7.out.r0; unfold zeroRow at hr9; obtain ⟨⟨c10, c11, c12, c13, c14⟩, ⟨z15, z16, z17, z18, z19⟩⟩ := five_cells hr9; clear hb) | (go_at_call 29; refine (HDECS.out W i F0.out.R).mono ?_; rintro e w1 ⟨hg, h3⟩; rcases h3.symm with ⟨k, a, hx, rfl, jj, hr⟩ | ⟨l, j4, v, hx, rfl, ho, hr⟩; exact ⟨rfl, PPost.bad (gr_trans F0.out.G hg) (HT.out.trans (bind_bad hx)) hr⟩; have HT3 := lh (HT.out.trans (bind_ok hx)); have F2 := lh (F0.out.gr hg hr); have OW5q := ho.ow (X := (fun _ => False)) F0.out.lt (fun _ h => h.elim) (w2 := w1); obtain ⟨aol, capl, hvl⟩ := OW5q.len; subst hvl; have OW5 := lh OW5q; clear OW5q; clear hx hr hg h3 ho))
 obtain ⟨f1, f2, f3, f4⟩ := F7.out.fin (X := (fun _ => False)) (x := .mk 0 0 ⟨#[]⟩ 0 l) (ao := aol) (cap := capl) HB.out (OW8.out.kd).2
 exact bodyPost_ret (res_ty rfl rfl f1) rfl (PPost.ok f2 (HT3.out) f4 f3)
def topM : Nat → Src → M Ty
 | 0 => fun P => decsB P (recS P 60) 0 >>= fun l => ret (.mk 0 0 ⟨#[]⟩ 0 l)
 | 1 => fun P => readS P 60 .exp
 | 2 => fun P => readS P 60 .pat
 | _ => fun P => readS P 60 .typ
theorem read_any (s : ByteArray) (q : Nat) (w : World) (hT : TabOk w) : Calls Tryz.prog 16 #[.string s, .func (.func (if q = 0 then 27 else if q = 1 then 17 else if q = 2 then 64 else 65)) #[] #[]] w (TopP (ansD s (topM q)) w) := by
 rcases lexD_cases s with ⟨hl, -⟩ | ⟨⟨h1, h2⟩, hok⟩
 · exact read_long s (topM q) _ w hT hl
 · have hl : ¬ ((lexD s).2.1 = 1 ∨ (lexD s).2.1 = 2) := fun h => h.elim h1 h2
   match q with
   | 0 => exact readN_ok 27 (fun _ _ => rfl) s (topM 0) (fun E w i h => parse1_any E 60 (pall E 60 (Nat.le_refl _)).1 w i h) w hT hl hok
   | 1 => exact readN_ok 17 (fun _ _ => rfl) s (topM 1) (fun E w i h => (pall E 60 (Nat.le_refl _)).1.exp.call w i h) w hT hl hok
   | 2 => exact readN_ok 64 (fun _ _ => rfl) s (topM 2) (fun E w i h => (pall E 60 (Nat.le_refl _)).1.pat.call w i h) w hT hl hok
   | q + 3 =>
    rw [if_neg (by omega), if_neg (by omega), if_neg (by omega)]
    exact readN_ok 65 (fun _ _ => rfl) s (topM (q + 3)) (fun E w i h => (pall E 60 (Nat.le_refl _)).1.typ.call w i h) w hT hl hok
theorem two_made (w : World) : ∃ W, W = (w.alloc (.cells zeroRow 26)).alloc (.cells #[.int .i64 0, .int .i64 0] 29) ∧ Below w.heap.size w W ∧ W.heap.size = w.heap.size + 2 ∧ W.heap[w.heap.size]? = some (.cells zeroRow 26 (0, 0)) ∧ W.heap[w.heap.size + 1]? = some (.cells #[.int .i64 0, .int .i64 0] 29 (0, 0)) := by
 obtain ⟨W1, hW1⟩ : ∃ W1, W1 = w.alloc (.cells zeroRow 26) := ⟨_, rfl⟩
 obtain ⟨W, hW⟩ : ∃ W, W = W1.alloc (.cells #[.int .i64 0, .int .i64 0] 29) := ⟨_, rfl⟩
 have s1 : W1.heap.size = w.heap.size + 1 := by rw [hW1, World.size_alloc]
 have s2 : W.heap.size = w.heap.size + 2 := by rw [hW, World.size_alloc, s1]
 have hb1 : Below w.heap.size w W1 := by rw [hW1]; exact balloc (Below.refl _ _) _
 refine ⟨W, by rw [hW, hW1], by rw [hW]; exact balloc hb1 _, s2, ?_, ?_⟩
 · rw [hW]; refine blk_alloc ?_ _; rw [hW1]; exact heap_alloc_new w _
 · rw [hW, ← s1]; exact heap_alloc_new W1 _
theorem two_end {w W w1 : World} {nb fb : Nat} {n : Ty} {ao : Option Addr} {cap x y : Nat} (hnb : nb = w.heap.size) (hfb : fb = w.heap.size + 1) (hbW : Below w.heap.size w W) (hsW : W.heap.size = w.heap.size + 2) (rn : W.heap[nb]? = some (.cells zeroRow 26 (0, 0))) (rf : W.heap[fb]? = some (.cells #[.int .i64 0, .int .i64 0] 29 (0, 0))) (hb : Below W.heap.size W w1) (hs : SlD w1 (fun b => W.heap.size ≤ b ∧ b < w1.heap.size) n.args ao cap) (Y : World) (hY : Y = set2 (set5 w1 nb n ao cap) fb x y) :
 Y.heap[nb]? = some (.cells (rowOf n ao cap) 26 (0, 0)) ∧ Y.heap[fb]? = some (.cells #[.int .i64 x, .int .i64 y] 29 (0, 0)) ∧ Below w.heap.size w Y ∧ SlD Y (fun b => w.heap.size ≤ b ∧ b < Y.heap.size) n.args ao cap := by
 have r1 := blk_below rn hb (lt_of_block rn)
 have r2 := blk_below rf hb (lt_of_block rf)
 obtain ⟨Z, hZ⟩ : ∃ Z, Z = set5 w1 nb n ao cap := ⟨_, rfl⟩
 have b1 : Below w.heap.size w Z := by rw [hZ]; exact below_set5 (hbW.trans (hb.mono hbW.size)) (by omega)
 have b2 : Z.heap[nb]? = some (.cells (rowOf n ao cap) 26 (0, 0)) := by rw [hZ]; unfold zeroRow at r1; exact TB.set r1 n ao cap
 have b3 : Z.heap[fb]? = some (.cells #[.int .i64 0, .int .i64 0] 29 (0, 0)) := by rw [hZ]; exact set5_ne r2 (by omega)
 have b4 : SlD Z (fun b => W.heap.size ≤ b ∧ b < w1.heap.size) n.args ao cap := by rw [hZ]; exact hs.keep (set5_cells fun b hb => by omega)
 have b5 : Z.heap.size = w1.heap.size := by rw [hZ]; exact set5_size
 rw [← hZ] at hY
 clear hZ
 have d1 : Below w.heap.size w Y := by rw [hY]; exact (b1.setCell (p := ⟨fb, 0, none⟩) (by show w.heap.size ≤ fb; omega) _).setCell (p := ⟨fb, 1, none⟩) (by show w.heap.size ≤ fb; omega) _
 have d2 : Y.heap[nb]? = some (.cells (rowOf n ao cap) 26 (0, 0)) := by rw [hY]; exact blk_set_ne (blk_set_ne b2 (by omega) 0 _) (by omega) 1 _
 have d3 : Y.heap[fb]? = some (.cells #[.int .i64 x, .int .i64 y] 29 (0, 0)) := by rw [hY]; exact blk_set (blk_set b3 0 _) 1 _
 have d5 : Y.heap.size = w1.heap.size := by rw [hY]; unfold set2; rw [World.size_setCell, World.size_setCell, b5]
 refine ⟨d2, d3, d1, (b4.keep fun b hb off => ?_).mono fun b hb => by rw [d5]; omega⟩
 rw [hY]
 exact World.cell?_of_block (a := ⟨b, off, none⟩) (blk_set_ne (blk_set_ne rfl (by show b ≠ fb; omega) 0 _) (by show b ≠ fb; omega) 1 _)
@[reducible] def Cl (w : World) (nb fb : Nat) : Prop := ((w.cell? ⟨nb, 0, none⟩ = some (.int .i64 0) ∧ w.cell? ⟨nb, 1, none⟩ = some (.int .i64 0) ∧ w.cell? ⟨nb, 2, none⟩ = some (.string ⟨#[]⟩) ∧ w.cell? ⟨nb, 3, none⟩ = some (.int .i64 0) ∧ w.cell? ⟨nb, 4, none⟩ = some (.slice none 0 0)) ∧ (w.frozen? ⟨nb, 0, none⟩ = false ∧ w.frozen? ⟨nb, 1, none⟩ = false ∧ w.frozen? ⟨nb, 2, none⟩ = false ∧ w.frozen? ⟨nb, 3, none⟩ = false ∧ w.frozen? ⟨nb, 4, none⟩ = false)) ∧ w.cell? ⟨fb, 0, none⟩ = some (.int .i64 0) ∧ w.cell? ⟨fb, 1, none⟩ = some (.int .i64 0) ∧ w.frozen? ⟨fb, 0, none⟩ = false ∧ w.frozen? ⟨fb, 1, none⟩ = false ∧ nb < w.heap.size ∧ fb < w.heap.size
theorem Cl.of {w : World} {nb fb : Nat} (h : w.heap[nb]? = some (.cells #[.int .i64 0, .int .i64 0, .string ⟨#[]⟩, .int .i64 0, .slice none 0 0] 26 (0, 0))) (h2 : w.heap[fb]? = some (.cells #[.int .i64 0, .int .i64 0] 29 (0, 0))) : Cl w nb fb := ⟨five_cells h, blk_cell h2 0, blk_cell h2 1, blk_free h2 0, blk_free h2 1, lt_of_block h, lt_of_block h2⟩
structure Tp (s : ByteArray) (A : Ty × Nat × Nat) (q : Nat) (w W : World) (nb fb : Nat) : Prop where
 hnb : nb = w.heap.size
 hfb : fb = w.heap.size + 1
 bW : Below w.heap.size w W
 sW : W.heap.size = w.heap.size + 2
 rn : W.heap[nb]? = some (.cells #[.int .i64 0, .int .i64 0, .string ⟨#[]⟩, .int .i64 0, .slice none 0 0] 26 (0, 0))
 rf : W.heap[fb]? = some (.cells #[.int .i64 0, .int .i64 0] 29 (0, 0))
 hA : A = ansD s (topM q)
theorem Tp.go (s : ByteArray) (q : Nat) (w : World) : ∃ A W nb fb, ansD s (topM q) = A ∧ (w.alloc (.cells #[.int .i64 0, .int .i64 0, .string ⟨#[]⟩, .int .i64 0, .slice none 0 0] 26)).alloc (.cells #[.int .i64 0, .int .i64 0] 29) = W ∧ w.heap.size = nb ∧ w.heap.size + 1 = fb ∧ ¬ (nb = fb) ∧ ¬ (fb = nb) ∧ Hid (Tp s A q w W nb fb) := by
 obtain ⟨W, hW, hbW, hsW, rn, rf⟩ := two_made w
 exact ⟨_, W, _, _, rfl, hW.symm, rfl, rfl, by omega, by omega, lh ⟨rfl, rfl, hbW, hsW, rn, rf, rfl⟩⟩
theorem pParse_any (s : ByteArray) (w : World) (hT : TabOk w) : Calls Tryz.prog 11 #[.string s] w (TopP (ansD s (topM 0)) w) := by
 obtain ⟨A, W, nb, fb, hA, hW, hnb, hfb, n1, n2, P0⟩ := Tp.go s 0 w
 have HCALL : Hid (Calls Tryz.prog 16 #[.string s, .func (.func 27) #[] #[]] W (TopP A W)) := lh (by rw [P0.out.hA]; exact read_any s 0 W (hT.below P0.out.bW))
 rw [hA]
 have HX := lh (And.intro hW (And.intro hfb hnb))
 clear hA hW hnb hfb hT
 go_enter Tryz.func11, Tryz.ntmps11
 go_upto_region 1 with fail
 rw [HX.out.1, HX.out.2.1, HX.out.2.2]
 clear HX
 go_wp2_with (first | (go_at_call 16; refine HCALL.out.mono ?_; rintro e w1 ⟨ao, cap, rfl, hb, hs⟩; have HEND := lh (fun (Z : World) hZ => two_end (x := A.2.1) (y := A.2.2) P0.out.hnb P0.out.hfb P0.out.bW P0.out.sW P0.out.rn P0.out.rf hb hs Z hZ); obtain ⟨⟨⟨c0, c1, c2, c3, c4⟩, ⟨z0, z1, z2, z3, z4⟩⟩, u0, u1, q0, q1, v0, v1⟩ := Cl.of (blk_below P0.out.rn hb (lt_of_block P0.out.rn)) (blk_below P0.out.rf hb (lt_of_block P0.out.rf)); unfold rowOf at ⊢; clear hb hs))
 obtain ⟨k1, k2, k3, k4⟩ := HEND.out _ rfl
 exact bodyPost_ret (res_top rfl rfl rfl k1 k2) rfl ⟨ao, cap, rfl, k3, k4⟩
theorem pParseExp_any (s : ByteArray) (w : World) (hT : TabOk w) : Calls Tryz.prog 7 #[.string s] w (TopP (ansD s (topM 1)) w) := by
 obtain ⟨A, W, nb, fb, hA, hW, hnb, hfb, n1, n2, P0⟩ := Tp.go s 1 w
 have HCALL : Hid (Calls Tryz.prog 16 #[.string s, .func (.func 17) #[] #[]] W (TopP A W)) := lh (by rw [P0.out.hA]; exact read_any s 1 W (hT.below P0.out.bW))
 rw [hA]
 have HX := lh (And.intro hW (And.intro hfb hnb))
 clear hA hW hnb hfb hT
 go_enter Tryz.func7, Tryz.ntmps7
 go_upto_region 1 with fail
 rw [HX.out.1, HX.out.2.1, HX.out.2.2]
 clear HX
 go_wp2_with (first | (go_at_call 16; refine HCALL.out.mono ?_; rintro e w1 ⟨ao, cap, rfl, hb, hs⟩; have HEND := lh (fun (Z : World) hZ => two_end (x := A.2.1) (y := A.2.2) P0.out.hnb P0.out.hfb P0.out.bW P0.out.sW P0.out.rn P0.out.rf hb hs Z hZ); obtain ⟨⟨⟨c0, c1, c2, c3, c4⟩, ⟨z0, z1, z2, z3, z4⟩⟩, u0, u1, q0, q1, v0, v1⟩ := Cl.of (blk_below P0.out.rn hb (lt_of_block P0.out.rn)) (blk_below P0.out.rf hb (lt_of_block P0.out.rf)); unfold rowOf at ⊢; clear hb hs))
 obtain ⟨k1, k2, k3, k4⟩ := HEND.out _ rfl
 exact bodyPost_ret (res_top rfl rfl rfl k1 k2) rfl ⟨ao, cap, rfl, k3, k4⟩
theorem pParsePat_any (s : ByteArray) (w : World) (hT : TabOk w) : Calls Tryz.prog 30 #[.string s] w (TopP (ansD s (topM 2)) w) := by
 obtain ⟨A, W, nb, fb, hA, hW, hnb, hfb, n1, n2, P0⟩ := Tp.go s 2 w
 have HCALL : Hid (Calls Tryz.prog 16 #[.string s, .func (.func 64) #[] #[]] W (TopP A W)) := lh (by rw [P0.out.hA]; exact read_any s 2 W (hT.below P0.out.bW))
 rw [hA]
 have HX := lh (And.intro hW (And.intro hfb hnb))
 clear hA hW hnb hfb hT
 go_enter Tryz.func30, Tryz.ntmps30
 go_upto_region 1 with fail
 rw [HX.out.1, HX.out.2.1, HX.out.2.2]
 clear HX
 go_wp2_with (first | (go_at_call 16; refine HCALL.out.mono ?_; rintro e w1 ⟨ao, cap, rfl, hb, hs⟩; have HEND := lh (fun (Z : World) hZ => two_end (x := A.2.1) (y := A.2.2) P0.out.hnb P0.out.hfb P0.out.bW P0.out.sW P0.out.rn P0.out.rf hb hs Z hZ); obtain ⟨⟨⟨c0, c1, c2, c3, c4⟩, ⟨z0, z1, z2, z3, z4⟩⟩, u0, u1, q0, q1, v0, v1⟩ := Cl.of (blk_below P0.out.rn hb (lt_of_block P0.out.rn)) (blk_below P0.out.rf hb (lt_of_block P0.out.rf)); unfold rowOf at ⊢; clear hb hs))
 obtain ⟨k1, k2, k3, k4⟩ := HEND.out _ rfl
 exact bodyPost_ret (res_top rfl rfl rfl k1 k2) rfl ⟨ao, cap, rfl, k3, k4⟩
theorem pParseType_any (s : ByteArray) (w : World) (hT : TabOk w) : Calls Tryz.prog 31 #[.string s] w (TopP (ansD s (topM 3)) w) := by
 obtain ⟨A, W, nb, fb, hA, hW, hnb, hfb, n1, n2, P0⟩ := Tp.go s 3 w
 have HCALL : Hid (Calls Tryz.prog 16 #[.string s, .func (.func 65) #[] #[]] W (TopP A W)) := lh (by rw [P0.out.hA]; exact read_any s 3 W (hT.below P0.out.bW))
 rw [hA]
 have HX := lh (And.intro hW (And.intro hfb hnb))
 clear hA hW hnb hfb hT
 go_enter Tryz.func31, Tryz.ntmps31
 go_upto_region 1 with fail
 rw [HX.out.1, HX.out.2.1, HX.out.2.2]
 clear HX
 go_wp2_with (first | (go_at_call 16; refine HCALL.out.mono ?_; rintro e w1 ⟨ao, cap, rfl, hb, hs⟩; have HEND := lh (fun (Z : World) hZ => two_end (x := A.2.1) (y := A.2.2) P0.out.hnb P0.out.hfb P0.out.bW P0.out.sW P0.out.rn P0.out.rf hb hs Z hZ); obtain ⟨⟨⟨c0, c1, c2, c3, c4⟩, ⟨z0, z1, z2, z3, z4⟩⟩, u0, u1, q0, q1, v0, v1⟩ := Cl.of (blk_below P0.out.rn hb (lt_of_block P0.out.rn)) (blk_below P0.out.rf hb (lt_of_block P0.out.rf)); unfold rowOf at ⊢; clear hb hs))
 obtain ⟨k1, k2, k3, k4⟩ := HEND.out _ rfl
 exact bodyPost_ret (res_top rfl rfl rfl k1 k2) rfl ⟨ao, cap, rfl, k3, k4⟩
end Go.Proofs.YthehjeeiodbkjaaGreatDoor
