/-
  Proved: the contract of the program's Solve. Condition: pairs that fit, of at most 200000 parts.
-/
import Derived.Test.YtdeomphilggokaaQ1
import Derived.Test.YtdeomphilggokaaU8
set_option linter.unusedSimpArgs false
set_option linter.unusedVariables false
namespace Go.Proofs.Ytdeomphilggokaa
open Go.RowKit

theorem PU.base {B C : Nat} (hBC : B ≤ C) {w : World} {ub m : Nat} {V : List Int} {pl : Int → Nat} {D : Nat → Prop} {st : St} (h : PU C w ub m V pl D st) : PU B w ub m V pl D st :=
  ⟨h.u, h.mp, h.var, h.inj, ⟨Nat.le_trans hBC h.low.1, Nat.le_trans hBC h.low.2.1, fun k hk => Nat.le_trans hBC (h.low.2.2 k hk)⟩, h.vs, h.i64⟩
theorem results_tmp_row {P : Program} {fn : Func} {u p : Tmp} {ty : TypeId} (h : fn.results = #[.tmp u, .cell p ty]) (tmps : Array Value) (w : World) (g : Nat) (t : TypeId) (cs : Array Value) (fr : Nat × Nat) (d : TypeDesc)
    (hp : tmps.getD p undef = .pointer (some ⟨g, 0, none⟩)) (hg : w.heap[g]? = some (.cells cs t fr))
    (hu : P.underlying ty = some d) (hd : (match d with | .struct _ | .array _ _ => true | _ => false) = true) (hi : (P.info? ty).map (·.size) = some cs.size) :
    (results fn tmps).run P w = .ok (.tuple #[tmps.getD u undef, .agg cs]) w := by
  have hp' : tmps[p]?.getD undef = .pointer (some ⟨g, 0, none⟩) := by simpa using hp
  simp [results, h, hp', asAddr, run_loadVar_row w g t ty cs fr d hg hu hd hi]
theorem set28 {W : World} {b : Nat} {v0 v1 : Value} (h : W.heap[b]? = some (.cells #[v0, v1] 28 (0, 0))) (x y : Value) : ((W.setCell ⟨b, 0, none⟩ x).setCell ⟨b, 1, none⟩ y).heap[b]? = some (.cells #[x, y] 28 (0, 0)) := blk_set (blk_set h 0 _) 1 _
theorem fin_res {fn : Func} (h : fn.results = #[.tmp 2, .cell 3 28]) {tmps : Array Value} {w : World} {b : Nat} {x y : Value} (ht : tmps.getD 3 undef = .pointer (some ⟨b, 0, none⟩)) (hb : w.heap[b]? = some (.cells #[x, y] 28 (0, 0))) :
    (results fn tmps).run Try.prog w = .ok (.tuple #[tmps.getD 2 undef, .agg #[x, y]]) w :=
  results_tmp_row h _ _ b 28 _ (0, 0) _ ht hb Try.underlying28 rfl (by kernel_rfl)
theorem fin_nil {w w' : World} {rb : Nat} (hrb : rb = w.heap.size) (hb : Below w.heap.size w w') (r : List (Int × Ty) × Int × Nat) (hr : r.1 = []) (x y : Value) : SolveP w r (.slice none 0 0) ((w'.setCell ⟨rb, 0, none⟩ x).setCell ⟨rb, 1, none⟩ y) :=
  SolveP.nil hr ((hb.setCell (p := ⟨rb, 0, none⟩) (Nat.le_of_eq hrb.symm) _).setCell (p := ⟨rb, 1, none⟩) (Nat.le_of_eq hrb.symm) _)
/-- a row of binds of one's own, behind the storing of the fault -/
theorem fin_own {S rb : Nat} {w : World} {D : Nat → Prop} {v : Value} {bs : List Bd} {v0 v1 : Value} (ho : OwnB S w D v bs) (hr : w.heap[rb]? = some (.cells #[v0, v1] 28 (0, 0))) (hD : ∀ b, D b → S ≤ b) (hrb : rb < S) (x y : Value) : OwnB 0 ((w.setCell ⟨rb, 0, none⟩ x).setCell ⟨rb, 1, none⟩ y) D v bs :=
  ⟨own_base (own_set (own_set ho.own hr (by decide) 0 x) (blk_set hr 0 x) (by decide) 1 y) (Nat.zero_le _), fun b hb => (ho.sl b hb).keep fun d hd off => by
    have hne : d ≠ rb := fun e => by have := hD d hd; omega
    exact World.cell?_of_block (a := ⟨d, off, none⟩) (blk_set_ne (blk_set_ne rfl hne 0 x) hne 1 y)⟩
/-- the number ahead of a place -/
def pv (so : List Int) (q : Nat) : Option Int := if q = 0 then none else so[q - 1]?
theorem pv_succ {so : List Int} {q : Nat} {n : Int} (h : so[q]? = some n) : pv so (q + 1) = some n := by unfold pv; rw [if_neg (by omega), Nat.add_sub_cancel]; exact h
set_option maxRecDepth 100000 in
set_option maxHeartbeats 16000000 in
theorem psolve_any (l : List (Ty × Ty)) (D : Nat → Prop) (ao : Option Addr) (cap : Nat) (w : World) (hD : ∀ b, D b → b < w.heap.size) (hv : PairsV w D l ao) (hf : ∀ p ∈ l, Fits p.1 ∧ Fits p.2) (hN : ptP l ≤ 200000) :
    Calls Try.prog 8 #[.slice ao l.length cap] w fun e w' => ∃ v, e = .returned (.tuple #[v, .agg #[.int .i64 (solveT l).2.1, .int .i64 ((solveT l).2.2 : Int)]]) ∧ SolveP w (solveT l) v w' := by
  obtain ⟨ans, hans⟩ : ∃ ans, ans = solveT l := ⟨_, rfl⟩
  rw [← hans]
  obtain ⟨n, hn⟩ : ∃ n, n = l.length := ⟨_, rfl⟩
  rw [← hn]
  have hn9 : n ≤ 200000 := by rw [hn]; exact Nat.le_trans (ptP_len l) hN
  obtain ⟨X0, hX0⟩ : ∃ X0, X0 = w.alloc (.cells #[.int .i64 0, .int .i64 0] 28) := ⟨_, rfl⟩
  have hb0 : Below w.heap.size w X0 := by rw [hX0]; exact balloc (Below.refl _ _) _
  have hs0 : X0.heap.size = w.heap.size + 1 := by rw [hX0, World.size_alloc]
  have hr0 : X0.heap[w.heap.size]? = some (.cells #[.int .i64 0, .int .i64 0] 28 (0, 0)) := by rw [hX0]; exact heap_alloc_new w _
  obtain ⟨B, hB⟩ : ∃ B, B = X0.heap.size := ⟨_, rfl⟩
  obtain ⟨rb, hrb⟩ : ∃ rb, rb = w.heap.size := ⟨_, rfl⟩
  rw [← hB] at hs0
  rw [← hrb] at hr0 hs0
  have hDB : ∀ b, D b → b < B := fun b hb => by have := hD b hb; omega
  have HNEW := Lib.hid (newu_any D (fun _ => 0) X0)
  have HPV : PairsV X0 D l ao := hv.below hD hb0
  have HPK : Hid (∀ (j : Nat) (p : Ty × Ty), l[j]? = some p → ∃ gb gp a1 k1 a2 k2, PairK B X0 D n ao cap j p.1 p.2 gb gp a1 k1 a2 k2) := Lib.hid (fun j p hp => by rw [hn]; exact pairK cap HPV hDB hp)
  have HF := Lib.hid hf
  have HD := Lib.hid hDB
  have HANS := Lib.hid hans
  have HN := Lib.hid hn
  have HB := Lib.hid hB
  have HR0 := Lib.hid hr0
  have HPT : Hid (∀ j, ptP (l.take j) ≤ 200000) := Lib.hid (fun j => Nat.le_trans (ptP_take_le l j) hN)
  have HRB := Lib.hid (And.intro hrb hs0)
  have HB0 := Lib.hid hb0
  have HX0 := Lib.hid hX0
  clear hans hn hB hv hf hD hN hDB HPV hrb hs0 hr0 hb0 hX0
  go_enter Try.func8, Try.ntmps8
  go_upto_region 1 with fail
  rw [← HX0.out, ← HRB.out.1]
  go_upto_region 3 with (first | (go_at_call 24; refine HNEW.out.mono ?_; rintro e w1 h1; obtain ⟨ub, mb, rfl, hpu1, hb1⟩ := h1.out; have HPU1 := Lib.hid hpu1; have HB1 := Lib.hid hb1; clear h1 hpu1 hb1))
  rw [← HB.out] at HPU1 HB1
  obtain ⟨X2, hX2⟩ : ∃ X2, X2 = (w1.alloc (.cells #[.pointer (some ⟨ub, 0, none⟩)] 52)).alloc (.cells #[.slice none 0 0] 47) := ⟨_, rfl⟩
  obtain ⟨k4, hk4⟩ : ∃ k4, k4 = w1.heap.size := ⟨_, rfl⟩
  obtain ⟨k5, hk5⟩ : ∃ k5, k5 = w1.heap.size + 1 := ⟨_, rfl⟩
  have hlo1 : B ≤ w1.heap.size := by have := HB1.out.size; rw [← HB.out] at this; exact this
  have hb2 : Below w1.heap.size w1 X2 := by rw [hX2]; exact balloc (balloc (Below.refl _ _) _) _
  have hcol : ColSt B X2 k4 k5 ub mb [] D (fun _ => false) [] := by
    refine ⟨?_, ⟨.slice none 0 0, ?_, World.ownsRow_nil _ _ _ _⟩, ⟨fun _ => 0, HPU1.out.keep hb2 (fun b hb => Nat.lt_of_lt_of_le (HD.out b hb) hlo1)⟩, ⟨by omega, by omega⟩, fun _ _ => rfl, Nat.le_trans hlo1 hb2.size⟩
    · rw [hX2, hk4]; exact blk_alloc (heap_alloc_new w1 _) _
    · rw [hX2, hk5]
      have e : w1.heap.size + 1 = (w1.alloc (.cells #[.pointer (some ⟨ub, 0, none⟩)] 52)).heap.size := by rw [World.size_alloc]
      rw [e]; exact heap_alloc_new _ _
  have HCOL := Lib.hid hcol
  have HBX2 : Hid (Below B X0 X2) := Lib.hid (HB1.out.trans (hb2.mono hlo1))
  rw [← hX2, ← hk5, ← hk4]
  clear hX2 hk4 hk5 hlo1 hb2 hcol HPU1 HB1 HNEW
  go_wp2_with fail
  go_loopw [6, 7, 9, 20] (fun _ _ _ i wr => ∃ j : Nat, i = .int .i64 (j : Int) ∧ j ≤ n ∧ (∀ i (h : i < j) (h' : i < l.length), okP l[i] = true) ∧ ColSt B wr k4 k5 ub mb (vsP [] (l.take j)) D (markE (fun _ => false) (qoP (l.take j))) (ocP (l.take j)) ∧ Below B X0 wr) (fun _ _ _ i _ => n - (intOf i).toNat)
  case atStart => exact ⟨0, rfl, Nat.zero_le _, (fun i h => by omega), by rw [List.take_zero, qoP, markE_nil, vsP, ocP]; exact HCOL.out, HBX2.out⟩
  case round =>
    obtain ⟨j, rfl, hj, hok, hcol, hbw⟩ := hrel
    obtain ⟨wo, rfl⟩ : ∃ wo : World, wo = wr := ⟨_, rfl⟩
    have HOK := Lib.hid hok
    have HCOL := Lib.hid hcol
    have HBW := Lib.hid hbw
    have hlo : B ≤ wo.heap.size := hcol.lo
    have hrb : wo.heap[rb]? = some (.cells #[.int .i64 0, .int .i64 0] 28 (0, 0)) := blk_below HR0.out hbw (by have := HRB.out.2; omega)
    have HRBW := Lib.hid hrb
    clear hok hcol hbw hrb
    by_cases hlt : j < n
    · have hd : decide ((j : Int) < (n : Int)) = true := by simp; omega
      have hjl : j < l.length := by rw [← HN.out]; exact hlt
      obtain ⟨p, hp⟩ : ∃ p, l[j]? = some p := ⟨_, List.getElem?_eq_getElem hjl⟩
      obtain ⟨x, y⟩ := p
      obtain ⟨gb, gp, a1, k1, a2, k2, hpk⟩ := HPK.out j (x, y) hp
      have HK := Lib.hid hpk
      have HP := Lib.hid hp
      have HFX := Lib.hid (HF.out _ (List.mem_of_getElem? hp))
      have hix : ∀ w' : World, (Instr.indexAt 22 (.slice ao n cap) (.int .i64 j)).run Try.prog w' = .ok (.pointer (some ⟨gb, gp, none⟩)) w' := hpk.ix
      have CP : Hid (∀ X : World, Below B X0 X → B ≤ X.heap.size → Calls Try.prog 13 #[.agg #[.int .i64 x.k, .int .i64 x.n, .string x.s, .int .i64 x.q, .slice a1 x.args.length k1]] X fun e w' => e = .returned (.bool (ProperD x)) ∧ Below X.heap.size X w') := Lib.hid (fun X hX hs => pproper_any x D a1 k1 X (fun b hb => Nat.lt_of_lt_of_le (HD.out b hb) hs) (HK.out.s1 X hX) HFX.out.1)
      have CQ : Hid (∀ X : World, Below B X0 X → B ≤ X.heap.size → Calls Try.prog 13 #[.agg #[.int .i64 y.k, .int .i64 y.n, .string y.s, .int .i64 y.q, .slice a2 y.args.length k2]] X fun e w' => e = .returned (.bool (ProperD y)) ∧ Below X.heap.size X w') := Lib.hid (fun X hX hs => pproper_any y D a2 k2 X (fun b hb => Nat.lt_of_lt_of_le (HD.out b hb) hs) (HK.out.s2 X hX) HFX.out.2)
      clear hpk hp
      obtain ⟨⟨x0, x1, x2, x3, x4⟩, ⟨y0, y1, y2, y3, y4⟩⟩ := HK.out.cells wo HBW.out
      go_upto_region 6 with fail
      obtain ⟨Wp, hWp⟩ : ∃ Wp, Wp = wo.alloc (.cells #[.int .i64 x.k, .int .i64 x.n, .string x.s, .int .i64 x.q, .slice a1 x.args.length k1, .int .i64 y.k, .int .i64 y.n, .string y.s, .int .i64 y.q, .slice a2 y.args.length k2] 38) := ⟨_, rfl⟩
      obtain ⟨pb, hpb⟩ : ∃ pb, pb = wo.heap.size := ⟨_, rfl⟩
      have hrp : Wp.heap[pb]? = some (.cells #[.int .i64 x.k, .int .i64 x.n, .string x.s, .int .i64 x.q, .slice a1 x.args.length k1, .int .i64 y.k, .int .i64 y.n, .string y.s, .int .i64 y.q, .slice a2 y.args.length k2] 38 (0, 0)) := by rw [hWp, hpb]; exact heap_alloc_new wo _
      have hbp : Below wo.heap.size wo Wp := by rw [hWp]; exact balloc (Below.refl _ _) _
      rw [← hWp, ← hpb]
      have HRP := Lib.hid hrp
      have HBP := Lib.hid hbp
      have HPB := Lib.hid hpb
      have hlop : B ≤ Wp.heap.size := Nat.le_trans hlo hbp.size
      have HBWP : Hid (Below B X0 Wp) := Lib.hid (HBW.out.trans (hbp.mono hlo))
      have TEN : Hid (∀ X : World, Below Wp.heap.size Wp X → (X.cell? ⟨pb, 0, none⟩ = some (.int .i64 x.k) ∧ X.cell? ⟨pb, 1, none⟩ = some (.int .i64 x.n) ∧ X.cell? ⟨pb, 2, none⟩ = some (.string x.s) ∧ X.cell? ⟨pb, 3, none⟩ = some (.int .i64 x.q) ∧ X.cell? ⟨pb, 4, none⟩ = some (.slice a1 x.args.length k1)) ∧ (X.cell? ⟨pb, 5, none⟩ = some (.int .i64 y.k) ∧ X.cell? ⟨pb, 6, none⟩ = some (.int .i64 y.n) ∧ X.cell? ⟨pb, 7, none⟩ = some (.string y.s) ∧ X.cell? ⟨pb, 8, none⟩ = some (.int .i64 y.q) ∧ X.cell? ⟨pb, 9, none⟩ = some (.slice a2 y.args.length k2))) := Lib.hid (fun X hX => by
        have h := blk_below HRP.out hX (lt_of_block HRP.out)
        exact ⟨⟨blk_cell h 0, blk_cell h 1, blk_cell h 2, blk_cell h 3, blk_cell h 4⟩, ⟨blk_cell h 5, blk_cell h 6, blk_cell h 7, blk_cell h 8, blk_cell h 9⟩⟩)
      have RES : Hid (∀ X : World, Below B X0 X → (X.cell? ⟨rb, 0, none⟩ = some (.int .i64 0) ∧ X.cell? ⟨rb, 1, none⟩ = some (.int .i64 0)) ∧ X.frozen? ⟨rb, 0, none⟩ = false ∧ X.frozen? ⟨rb, 1, none⟩ = false) := Lib.hid (fun X hX => by
        have h := blk_below HR0.out hX (by have := HRB.out.2; omega)
        exact ⟨⟨blk_cell h 0, blk_cell h 1⟩, blk_free h 0, blk_free h 1⟩)
      clear x0 x1 x2 x3 x4 y0 y1 y2 y3 y4 hWp hpb hrp hbp
      obtain ⟨⟨c0, c1, c2, c3, c4⟩, ⟨c5, c6, c7, c8, c9⟩⟩ := TEN.out Wp (Below.refl _ _)
      obtain ⟨px, hpx⟩ : ∃ px, px = ProperD x := ⟨_, rfl⟩
      obtain ⟨py, hpy⟩ : ∃ py, py = ProperD y := ⟨_, rfl⟩
      rw [← hpx] at CP
      rw [← hpy] at CQ
      have HPX := Lib.hid hpx
      have HPY := Lib.hid hpy
      have BAD : Hid ((px && py) = false → ans = ([], 21, j)) := Lib.hid (fun h => by
        have h0 : (l.takeWhile okP).length = j := takeW_at hjl (fun i h => HOK.out i h (by omega)) (by
          have h1 := List.getElem?_eq_some_iff.1 HP.out
          obtain ⟨_, h2⟩ := h1
          rw [h2, okP, ← hpx, ← hpy]; exact h)
        rw [HANS.out, solveT, h0, if_pos hjl])
      clear hpx hpy
      cases px with
      | false =>
        go_wp2_with (first | (go_at_call 13; refine (CP.out Wp HBWP.out hlop).mono ?_; rintro e w3 ⟨rfl, hb3⟩; have HB3 := Lib.hid (HBWP.out.trans (hb3.mono hlop)); obtain ⟨⟨r0, r1⟩, rf0, rf1⟩ := RES.out w3 HB3.out; clear hb3))
        refine bodyPost_ret (fin_res rfl rfl (set28 (blk_below HR0.out HB3.out (by have := HRB.out.2; omega)) _ _)) rfl ?_
        rw [BAD.out rfl]
        exact ⟨_, rfl, fin_nil HRB.out.1 (HB0.out.trans (HB3.out.mono (by have := HRB.out; omega))) _ rfl _ _⟩
      | true =>
        cases py with
        | false =>
          go_wp2_with (first
            | (go_at_call 13; refine (CQ.out w3 HB3.out hlo3).mono ?_; rintro e w4 ⟨rfl, hb4⟩; have HB4 := Lib.hid (HB3.out.trans (hb4.mono hlo3)); obtain ⟨⟨r0, r1⟩, rf0, rf1⟩ := RES.out w4 HB4.out; clear hb4)
            | (go_at_call 13; refine (CP.out Wp HBWP.out hlop).mono ?_; rintro e w3 ⟨rfl, hb3⟩; have HB3 := Lib.hid (HBWP.out.trans (hb3.mono hlop)); have hlo3 : B ≤ w3.heap.size := Nat.le_trans hlop hb3.size; obtain ⟨⟨d0, d1, d2, d3, d4⟩, ⟨d5, d6, d7, d8, d9⟩⟩ := TEN.out w3 hb3; clear hb3))
          refine bodyPost_ret (fin_res rfl rfl (set28 (blk_below HR0.out HB4.out (by have := HRB.out.2; omega)) _ _)) rfl ?_
          rw [BAD.out rfl]
          exact ⟨_, rfl, fin_nil HRB.out.1 (HB0.out.trans (HB4.out.mono (by have := HRB.out; omega))) _ rfl _ _⟩
        | true =>
          clear BAD RES
          have HPB2 := Lib.hid (proper_both HPX.out.symm)
          have HPC2 := Lib.hid (proper_both HPY.out.symm)
          go_upto_region 8 with (first
            | (go_at_call 13; refine (CQ.out w3 HB3.out hlo3).mono ?_; rintro e w4 ⟨rfl, hb4⟩; have HB4 := Lib.hid (HBP3.out.trans (hb4.mono HBP3.out.size)); clear hb4)
            | (go_at_call 13; refine (CP.out Wp HBWP.out hlop).mono ?_; rintro e w3 ⟨rfl, hb3⟩; have HB3 := Lib.hid (HBWP.out.trans (hb3.mono hlop)); have HBP3 := Lib.hid hb3; have hlo3 : B ≤ w3.heap.size := Nat.le_trans hlop hb3.size; obtain ⟨⟨d0, d1, d2, d3, d4⟩, ⟨d5, d6, d7, d8, d9⟩⟩ := TEN.out w3 hb3; clear hb3))
          clear c0 c1 c2 c3 c4 c5 c6 c7 c8 c9 d0 d1 d2 d3 d4 d5 d6 d7 d8 d9
          obtain ⟨⟨c0, c1, c2, c3, c4⟩, ⟨c5, c6, c7, c8, c9⟩⟩ := TEN.out w4 HB4.out
          go_upto_region 9 with fail
          obtain ⟨Wq, hWq⟩ : ∃ Wq, Wq = w4.alloc (.cells #[.int .i64 x.k, .int .i64 x.n, .string x.s, .int .i64 x.q, .slice a1 x.args.length k1, .int .i64 y.k, .int .i64 y.n, .string y.s, .int .i64 y.q, .slice a2 y.args.length k2] 33) := ⟨_, rfl⟩
          obtain ⟨qb, hqb⟩ : ∃ qb, qb = w4.heap.size := ⟨_, rfl⟩
          have hrq : Wq.heap[qb]? = some (.cells #[.int .i64 x.k, .int .i64 x.n, .string x.s, .int .i64 x.q, .slice a1 x.args.length k1, .int .i64 y.k, .int .i64 y.n, .string y.s, .int .i64 y.q, .slice a2 y.args.length k2] 33 (0, 0)) := by rw [hWq, hqb]; exact heap_alloc_new w4 _
          have hbq : Below w4.heap.size w4 Wq := by rw [hWq]; exact balloc (Below.refl _ _) _
          rw [← hWq, ← hqb]
          have hb9 : Below wo.heap.size wo Wq := HBP.out.trans ((HB4.out.trans (hbq.mono HB4.out.size)).mono HBP.out.size)
          have HRQ := Lib.hid hrq
          have HCQ := Lib.hid (HCOL.out.keep hb9 HD.out)
          have HBWQ : Hid (Below B X0 Wq) := Lib.hid (HBW.out.trans (hb9.mono hlo))
          clear c0 c1 c2 c3 c4 c5 c6 c7 c8 c9 hWq hqb hrq hbq hb9 TEN CP CQ HRP
          obtain ⟨V0, hV0⟩ : ∃ V0, V0 = vsP [] (l.take j) := ⟨_, rfl⟩
          obtain ⟨e0, he0⟩ : ∃ e0, e0 = markE (fun _ => false) (qoP (l.take j)) := ⟨_, rfl⟩
          obtain ⟨oc0, hoc0⟩ : ∃ oc0, oc0 = ocP (l.take j) := ⟨_, rfl⟩
          rw [← hV0, ← he0, ← hoc0] at HCQ
          have HV0 := Lib.hid hV0
          have HE0 := Lib.hid he0
          have HOC0 := Lib.hid hoc0
          have HLEN : Hid (V0.length ≤ 200000 ∧ oc0.length ≤ 200000) := Lib.hid ⟨by have h1 := vsP_len (l.take j) []; have h2 := HPT.out j; rw [hV0]; simp at h1; omega, by have h1 := ocP_len (l.take j); have h2 := HPT.out j; rw [hoc0]; omega⟩
          have ELEM : Hid (∀ q, q < 2 → ∃ (u : Ty) (au : Option Addr) (cu : Nat), (∀ X : World, BoxS Wq X → X.cell? ⟨qb, q * 5, none⟩ = some (.int .i64 u.k) ∧ X.cell? ⟨qb, q * 5 + 1, none⟩ = some (.int .i64 u.n) ∧ X.cell? ⟨qb, q * 5 + 2, none⟩ = some (.string u.s) ∧ X.cell? ⟨qb, q * 5 + 3, none⟩ = some (.int .i64 u.q) ∧ X.cell? ⟨qb, q * 5 + 4, none⟩ = some (.slice au u.args.length cu)) ∧ (∀ X : World, Below B X0 X → SlD X D u.args au cu) ∧ Fits u ∧ shapedD u = true ∧ (oc0 ++ occL ([x, y].take q)).length + parts u ≤ 1000000 ∧ (varsL V0 ([x, y].take q)).length + parts u ≤ 1000000 ∧ varsD (varsL V0 ([x, y].take q)) u = varsL V0 ([x, y].take (q + 1)) ∧ markE (markE e0 (qoL ([x, y].take q))) (qoD u) = markE e0 (qoL ([x, y].take (q + 1))) ∧ (oc0 ++ occL ([x, y].take q)) ++ occD u = oc0 ++ occL ([x, y].take (q + 1))) := Lib.hid (by
            intro q hq
            have hq2 : q = 0 ∨ q = 1 := by omega
            have hl := HLEN.out
            have px := HPB2.out
            have py := HPC2.out
            rcases hq2 with rfl | rfl
            · refine ⟨x, a1, k1, fun X hX => ?_, HK.out.s1, HFX.out.1, px.2, ?_, ?_, ?_, ?_, ?_⟩
              · have h := hX _ _ _ _ (by decide) (by decide) (by decide) HRQ.out
                exact ⟨blk_cell h 0, blk_cell h 1, blk_cell h 2, blk_cell h 3, blk_cell h 4⟩
              · rw [List.take_zero, occL, List.append_nil]; omega
              · rw [List.take_zero, varsL]; omega
              · rfl
              · show _ = markE e0 (qoD x ++ [])
                rw [List.take_zero, qoL, markE_nil, List.append_nil]
              · show _ = oc0 ++ (occD x ++ [])
                rw [List.take_zero, occL, List.append_nil, List.append_nil]
            · have h1 := occD_len x
              have h2 := varsD_len x V0
              refine ⟨y, a2, k2, fun X hX => ?_, HK.out.s2, HFX.out.2, py.2, ?_, ?_, ?_, ?_, ?_⟩
              · have h := hX _ _ _ _ (by decide) (by decide) (by decide) HRQ.out
                exact ⟨blk_cell h 5, blk_cell h 6, blk_cell h 7, blk_cell h 8, blk_cell h 9⟩
              · show (oc0 ++ (occD x ++ [])).length + parts y ≤ 1000000
                rw [List.append_nil, List.length_append]; omega
              · show (varsD V0 x).length + parts y ≤ 1000000
                omega
              · rfl
              · show markE (markE e0 (qoD x ++ [])) (qoD y) = markE e0 (qoD x ++ (qoD y ++ []))
                rw [markE_two, List.append_nil, List.append_nil]
              · show (oc0 ++ (occD x ++ [])) ++ occD y = oc0 ++ (occD x ++ (occD y ++ []))
                simp)
          have hbq9 : B ≤ Wq.heap.size := HCQ.out.lo
          clear hV0 he0 hoc0
          go_wp2_with fail
          go_loopw [9, 43] (fun _ i wr => ∃ q : Nat, i = .int .i64 (q : Int) ∧ q ≤ 2 ∧ ColSt B wr k4 k5 ub mb (varsL V0 ([x, y].take q)) D (markE e0 (qoL ([x, y].take q))) (oc0 ++ occL ([x, y].take q)) ∧ Below B X0 wr ∧ BoxS Wq wr) (fun _ i _ => 2 - (intOf i).toNat)
          case atStart => exact ⟨0, rfl, Nat.zero_le _, by simp only [List.take_zero, occL, List.append_nil, varsL, qoL, markE_nil]; exact HCQ.out, HBWQ.out, BoxS.refl _⟩
          case round =>
            obtain ⟨q, rfl, hq, hcq, hbq, hxq⟩ := hrel
            obtain ⟨wq, rfl⟩ : ∃ wq : World, wq = wr := ⟨_, rfl⟩
            have HCR := Lib.hid hcq
            have HBR := Lib.hid hbq
            have HXR := Lib.hid hxq
            clear hcq hbq hxq
            by_cases hltq : q < 2
            · have hdq : decide ((q : Int) < (2 : Int)) = true := by simp; omega
              obtain ⟨u, au, cu, hce, hsl, hfu, hsu, hl1, hl2, hs1, hs2, hs3⟩ := ELEM.out q hltq
              obtain ⟨x0, x1, x2, x3, x4⟩ := hce wq HXR.out
              have hixq : ∀ w' : World, (Instr.indexAt 31 (.slice (some ⟨qb, 0, none⟩) 2 2) (.int .i64 q)).run Try.prog w' = .ok (.pointer (some ⟨qb, q * 5, none⟩)) w' := fun w' => by
                have h := index_at Try.underlying31 size33 (rfl : some (⟨qb, 0, none⟩ : Addr) = some ⟨qb, 0, none⟩) 2 2 q hltq w'
                rw [Nat.zero_add] at h
                exact h
              obtain ⟨Z, hV⟩ : ∃ Z, Z = wq.alloc (.cells (rowOf u au cu) 33) := ⟨_, rfl⟩
              obtain ⟨hbV, hlV, hrV⟩ := box_at hV
              have hloq : B ≤ wq.heap.size := HCR.out.lo
              have hcall := walkS_any (parts u) u (Nat.le_refl _) B D au cu k4 k5 ub mb _ _ _ Z HD.out (Nat.le_trans hloq (Nat.le_of_lt hlV)) (hsl Z (HBR.out.trans (hbV.mono hloq))) hfu hsu (HCR.out.keep hbV HD.out) hl1 hl2
              rw [hs1, hs2, hs3] at hcall
              unfold rowOf at hcall hV hrV
              have HCALL := Lib.hid hcall
              have v0' : Z.cell? ⟨wq.heap.size, 0, none⟩ = some (.int .i64 u.k) := blk_cell hrV 0
              have v1' : Z.cell? ⟨wq.heap.size, 1, none⟩ = some (.int .i64 u.n) := blk_cell hrV 1
              have v2' : Z.cell? ⟨wq.heap.size, 2, none⟩ = some (.string u.s) := blk_cell hrV 2
              have v3' : Z.cell? ⟨wq.heap.size, 3, none⟩ = some (.int .i64 u.q) := blk_cell hrV 3
              have v4' : Z.cell? ⟨wq.heap.size, 4, none⟩ = some (.slice au u.args.length cu) := blk_cell hrV 4
              have HBV := Lib.hid (HBR.out.trans (hbV.mono hloq))
              have HXV : Hid (BoxS Wq Z) := Lib.hid (HXR.out.trans (BoxS.of_below hbV))
              have HVV := Lib.hid hV
              clear hce hsl hfu hsu hl1 hl2 hs1 hs2 hs3 hbV hlV hrV hcall hV
              go_upto_region 11 with fail
              rw [← HVV.out]
              go_wp2_with (first | (go_at_call 25; refine HCALL.out.mono ?_; rintro en w7 ⟨rfl, hst7, hb7, hbx7⟩; have HST7 := Lib.hid hst7; have HB7 := Lib.hid hb7; have HBX7 := Lib.hid hbx7; clear hst7 hb7 hbx7))
              go_roundw
              case rel => exact ⟨q + 1, by go_num, hltq, HST7.out, HBV.out.trans HB7.out, HXV.out.trans HBX7.out⟩
              case measure => simp only [intOf]; omega
            · obtain rfl : q = 2 := by omega
              have hdq : decide ((2 : Int) < (2 : Int)) = false := by simp
              go_wp2_with fail
              go_roundw
              case rel =>
                refine ⟨j + 1, by go_num, hlt, fun i h h' => ?_, ?_, HBR.out⟩
                · by_cases e : i < j
                  · exact HOK.out i e h'
                  · obtain rfl : i = j := by omega
                    obtain ⟨_, h2⟩ := List.getElem?_eq_some_iff.1 HP.out
                    rw [h2, okP, ← HPX.out, ← HPY.out]; rfl
                · have h := HCR.out
                  rw [vsP_take HP.out, qoP_take HP.out, ocP_take HP.out, ← markE_two, ← HV0.out, ← HE0.out, ← HOC0.out]
                  have e1 : qoL ([x, y].take 2) = qoD x ++ qoD y := by show qoD x ++ (qoD y ++ []) = _; rw [List.append_nil]
                  have e2 : occL ([x, y].take 2) = occD x ++ occD y := by show occD x ++ (occD y ++ []) = _; rw [List.append_nil]
                  rw [e1, e2] at h
                  exact h
              case measure => simp only [intOf]; omega
    · obtain rfl : j = n := by omega
      have hd : decide ((j : Int) < (j : Int)) = false := by simp
      have hokl : ∀ p ∈ l, okP p = true := fun p hp => by
        obtain ⟨i, hi, rfl⟩ := List.getElem_of_mem hp
        exact HOK.out i (by rw [HN.out]; exact hi) hi
      have hlen : (l.takeWhile okP).length = l.length := takeW_none hokl
      obtain ⟨R, hR⟩ := solve_run HF.out hokl
      obtain ⟨V, hV⟩ : ∃ V, V = vsP [] l := ⟨_, rfl⟩
      have hVl := vsP_len l []
      have hp9 := HPT.out l.length
      rw [List.take_length] at hp9
      have hVn : V.length ≤ 200000 := by rw [hV]; simp at hVl; omega
      have hOn : (ocP l).length ≤ 200000 := Nat.le_trans (ocP_len l) hp9
      have HANS2 : Hid (ans = if R.2.1 = 0 then outT R.1 l.length (risingD V) [] else ([], R.2.1, R.2.2)) := Lib.hid (by
        rw [HANS.out, solveT, hlen, if_neg (Nat.lt_irrefl _), hR, hV])
      have HWF : Hid (∀ p ∈ l, Wf V (st0 l).e p.1 ∧ Wf V (st0 l).e p.2) := Lib.hid (fun p hp => by rw [hV]; exact pair_wf HF.out hp (hokl p hp))
      have hcol := HCOL.out
      rw [HN.out, List.take_length, ← hV] at hcol
      obtain ⟨vo, hvo, hown⟩ := hcol.h5
      obtain ⟨pl, hpu⟩ := hcol.pu
      have H4 := Lib.hid hcol.h4
      have HVO := Lib.hid hvo
      have HOWL := Lib.hid hown
      have HPUL : Hid (PU B wo ub mb V pl D (st0 l)) := Lib.hid hpu
      have HVV := Lib.hid hV
      have HVR : Hid (dd none (sortI (ocP l)) = risingD V) := Lib.hid (by rw [hV]; exact dd_rising l)
      have HRR := Lib.hid hR
      clear hokl hlen hR hV hVl hp9 hcol hvo hown hpu HANS HPT HOK HCOL HRBW
      obtain ⟨F, hF⟩ : ∃ F, F = fuelP l := ⟨_, rfl⟩
      rw [← hF] at HRR
      clear hF
      have RES : Hid (∀ X : World, Below B X0 X → (X.cell? ⟨rb, 0, none⟩ = some (.int .i64 0) ∧ X.cell? ⟨rb, 1, none⟩ = some (.int .i64 0)) ∧ X.frozen? ⟨rb, 0, none⟩ = false ∧ X.frozen? ⟨rb, 1, none⟩ = false) := Lib.hid (fun X hX => by
        have h := blk_below HR0.out hX (by have := HRB.out.2; omega)
        exact ⟨⟨blk_cell h 0, blk_cell h 1⟩, blk_free h 0, blk_free h 1⟩)
      go_wp2_with fail
      go_loopw [10, 11, 12, 54] (fun _ _ _ i wr => ∃ (k : Nat) (sj : St), i = .int .i64 (k : Int) ∧ k ≤ j ∧ runT F sj (l.drop k) k = some R ∧ Grown V (st0 l) sj ∧ PU B wr ub mb V pl D sj ∧ Below B X0 wr ∧ BoxP wo wr) (fun _ _ _ i _ => j - (intOf i).toNat)
      case atStart => exact ⟨0, st0 l, rfl, Nat.zero_le _, HRR.out, Grown.refl (st0_ok _ _), HPUL.out, HBW.out, fun _ _ _ _ _ h => h⟩
      case round =>
        obtain ⟨k, sj, rfl, hk, hrun, hgr, hpu, hbr, hbx⟩ := hrel
        obtain ⟨wp, rfl⟩ : ∃ wp : World, wp = wr := ⟨_, rfl⟩
        have HRUN := Lib.hid hrun
        have HGR := Lib.hid hgr
        have HPUP := Lib.hid hpu
        have HBWP := Lib.hid hbr
        have HBX := Lib.hid hbx
        have hlop : B ≤ wp.heap.size := by have h1 := hbr.size; rw [← HB.out] at h1; exact h1
        clear hrun hgr hpu hbr hbx
        by_cases hlt : k < j
        · have hd : decide ((k : Int) < (j : Int)) = true := by simp; omega
          have hkl : k < l.length := by rw [← HN.out]; exact hlt
          obtain ⟨p, hp⟩ : ∃ p, l[k]? = some p := ⟨_, List.getElem?_eq_getElem hkl⟩
          obtain ⟨x, y⟩ := p
          obtain ⟨gb, gp, a1, k1, a2, k2, hpk⟩ := HPK.out k (x, y) hp
          have HK := Lib.hid hpk
          have hix : ∀ w' : World, (Instr.indexAt 22 (.slice ao j cap) (.int .i64 k)).run Try.prog w' = .ok (.pointer (some ⟨gb, gp, none⟩)) w' := hpk.ix
          obtain ⟨s', e', hsame, hor⟩ := run_step hp HRUN.out
          have hwf := HWF.out _ (List.mem_of_getElem? hp)
          obtain ⟨Wp, hWp⟩ : ∃ Wp, Wp = wp.alloc (.cells #[.int .i64 x.k, .int .i64 x.n, .string x.s, .int .i64 x.q, .slice a1 x.args.length k1, .int .i64 y.k, .int .i64 y.n, .string y.s, .int .i64 y.q, .slice a2 y.args.length k2] 38) := ⟨_, rfl⟩
          obtain ⟨pb, hpb⟩ : ∃ pb, pb = wp.heap.size := ⟨_, rfl⟩
          have hrp : Wp.heap[pb]? = some (.cells #[.int .i64 x.k, .int .i64 x.n, .string x.s, .int .i64 x.q, .slice a1 x.args.length k1, .int .i64 y.k, .int .i64 y.n, .string y.s, .int .i64 y.q, .slice a2 y.args.length k2] 38 (0, 0)) := by rw [hWp, hpb]; exact heap_alloc_new wp _
          have hbp : Below wp.heap.size wp Wp := by rw [hWp]; exact balloc (Below.refl _ _) _
          have hpk0 : PK B ub mb V pl D sj wp := ⟨HPUP.out, HD.out, hlop, HGR.out.ok⟩
          have HBWQ : Hid (Below B X0 Wp) := Lib.hid (HBWP.out.trans (hbp.mono hlop))
          have HBXP : Hid (BoxP wo Wp) := Lib.hid (fun b c t f ht h => blk_below (HBX.out b c t f ht h) hbp (lt_of_block (HBX.out b c t f ht h)))
          have HCALL := Lib.hid (psame_any B ub mb V pl D F x y sj (s', e') hsame (hwf.1.more HGR.out.e) (hwf.2.more HGR.out.e) a1 a2 k1 k2 Wp (hpk0.keep hbp) (HK.out.s1 _ HBWQ.out) (HK.out.s2 _ HBWQ.out))
          have HGS : Hid (e' = 0 → Grown V (st0 l) s') := Lib.hid (fun h => HGR.out.trans ((same_grown F sj x y HGR.out.ok (hwf.1.more HGR.out.e) (hwf.2.more HGR.out.e) s' e' hsame).2 h))
          have HOR := Lib.hid hor
          unfold rowOf at HCALL
          obtain ⟨⟨x0, x1, x2, x3, x4⟩, ⟨y0, y1, y2, y3, y4⟩⟩ := HK.out.cells wp HBWP.out
          have HRP := Lib.hid hrp
          have HWP := Lib.hid hWp
          have HPB := Lib.hid hpb
          clear hpk hp hsame hwf hor hWp hpb hrp hbp hpk0
          go_upto_region 17 with fail
          rw [← HWP.out, ← HPB.out]
          clear x0 x1 x2 x3 x4 y0 y1 y2 y3 y4
          have c0 : Wp.cell? ⟨pb, 0, none⟩ = some (.int .i64 x.k) := blk_cell HRP.out 0
          have c1 : Wp.cell? ⟨pb, 1, none⟩ = some (.int .i64 x.n) := blk_cell HRP.out 1
          have c2 : Wp.cell? ⟨pb, 2, none⟩ = some (.string x.s) := blk_cell HRP.out 2
          have c3 : Wp.cell? ⟨pb, 3, none⟩ = some (.int .i64 x.q) := blk_cell HRP.out 3
          have c4 : Wp.cell? ⟨pb, 4, none⟩ = some (.slice a1 x.args.length k1) := blk_cell HRP.out 4
          have c5 : Wp.cell? ⟨pb, 5, none⟩ = some (.int .i64 y.k) := blk_cell HRP.out 5
          have c6 : Wp.cell? ⟨pb, 6, none⟩ = some (.int .i64 y.n) := blk_cell HRP.out 6
          have c7 : Wp.cell? ⟨pb, 7, none⟩ = some (.string y.s) := blk_cell HRP.out 7
          have c8 : Wp.cell? ⟨pb, 8, none⟩ = some (.int .i64 y.q) := blk_cell HRP.out 8
          have c9 : Wp.cell? ⟨pb, 9, none⟩ = some (.slice a2 y.args.length k2) := blk_cell HRP.out 9
          have u4 : Wp.cell? ⟨k4, 0, none⟩ = some (.pointer (some ⟨ub, 0, none⟩)) := blk_cell (HBXP.out _ _ _ _ (by decide) H4.out) 0
          go_upto_region 18 with (first | (go_at_call 28; refine HCALL.out.mono ?_; rintro en w7 h7; obtain rfl := h7.val; have H7 := Lib.hid h7; have HB7 : Hid (Below B X0 w7) := Lib.hid (HBWQ.out.trans h7.bel); clear h7))
          clear c0 c1 c2 c3 c4 c5 c6 c7 c8 c9 u4
          by_cases he : e' = 0
          · have eb : (e' != 0) = false := by simp [he]
            have HE := Lib.hid he
            clear he
            go_wp2_with fail
            go_roundw
            case rel =>
              have h0 : runT F s' (l.drop (k + 1)) (k + 1) = some R := by
                rcases HOR.out with ⟨_, h⟩ | ⟨h, _⟩
                · exact h
                · exact absurd HE.out h
              exact ⟨k + 1, s', by go_num, hlt, h0, HGS.out HE.out, H7.out.r HE.out, HB7.out, fun b c t f ht h => H7.out.box b c t f ht (HBXP.out b c t f ht h)⟩
            case measure => simp only [intOf]; omega
          · have eb : (e' != 0) = true := by simp [he]
            have HE := Lib.hid he
            clear he
            obtain ⟨⟨r0, r1⟩, rf0, rf1⟩ := RES.out w7 HB7.out
            go_wp2_with fail
            have h0 : R = (s', e', k) := by
              rcases HOR.out with ⟨h, _⟩ | ⟨_, h⟩
              · exact absurd h HE.out
              · exact h
            have ea : ans = ([], e', k) := by rw [HANS2.out, h0, if_neg HE.out]
            refine bodyPost_ret (fin_res rfl rfl (set28 (blk_below HR0.out HB7.out (by have := HRB.out.2; omega)) _ _)) rfl ?_
            rw [ea]
            exact ⟨_, rfl, fin_nil HRB.out.1 (HB0.out.trans (HB7.out.mono (by have := HRB.out; omega))) _ rfl _ _⟩
        · obtain rfl : k = j := by omega
          have hd : decide ((k : Int) < (k : Int)) = false := by simp
          have hR0 : R = (sj, 0, 0) := by
            have h := HRUN.out
            rw [HN.out, List.drop_length, runT] at h
            exact (Option.some.inj h).symm
          obtain ⟨so, hso⟩ : ∃ so, so = sortI (ocP l) := ⟨_, rfl⟩
          have HA3 : Hid (ans = outT sj k (dd none so) []) := Lib.hid (by rw [HANS2.out, hR0, if_pos rfl, ← HN.out, hso, HVR.out])
          have hownp : OwnI B wp vo (ocP l) := own_carry HOWL.out fun g c f hb => HBX.out g c 3 f (by decide) hb
          have h5p := HBX.out _ _ _ _ (by decide) HVO.out
          have h4p := HBX.out _ _ _ _ (by decide) H4.out
          have HSO := Lib.hid (ints_any B vo (ocP l) wp hownp (by omega))
          have HOWP := Lib.hid hownp
          have H5P := Lib.hid h5p
          have H4P := Lib.hid h4p
          have r5 : wp.cell? ⟨k5, 0, none⟩ = some vo := blk_cell h5p 0
          clear hR0 hownp h5p h4p
          go_upto_region 22 with (first | (go_at_call 29; refine HSO.out.mono ?_; rintro en w8 h8; obtain rfl := h8.val; have H8 := Lib.hid h8; clear h8))
          clear r5
          have hrow8 := ownI_row HOWP.out (N := B) (fun g hg => (HOWP.out.lt g hg).1)
          have HRK8 : Hid (PK B ub mb V pl D sj w8) := Lib.hid ((PK.mk HPUP.out HD.out hlop HGR.out.ok).grow H8.out.gr hrow8)
          have hb8 : Below B wp w8 := grew_none H8.out.gr hlop (fun g hg => (hrow8 g hg).1)
          have HBW8 : Hid (Below B X0 w8) := Lib.hid (HBWP.out.trans hb8)
          have H58 : Hid (w8.heap[k5]? = some (.cells #[vo] 47 (0, 0))) := Lib.hid (blk_grown H5P.out H8.out.gr (own_ne H5P.out HOWP.out (by decide)))
          have H48 : Hid (w8.heap[k4]? = some (.cells #[.pointer (some ⟨ub, 0, none⟩)] 52 (0, 0))) := Lib.hid (blk_grown H4P.out H8.out.gr (own_ne H4P.out HOWP.out (by decide)))
          have HO8 := Lib.hid H8.out.own
          rw [← hso] at HO8
          have HMEM : Hid (∀ (q : Nat) (n0 : Int), so[q]? = some n0 → n0 ∈ V ∧ I64 n0) := Lib.hid (fun q n0 h => by
            have h1 := List.mem_of_getElem? h
            rw [hso] at h1
            have h2 : n0 ∈ V := by rw [HVV.out]; exact vsP_mem ((sortI_perm _).subset h1)
            exact ⟨h2, HPUP.out.i64 n0 h2⟩)
          have hm9 : so.length ≤ 200000 := by rw [hso, sortI_len]; exact hOn
          obtain ⟨m, hm⟩ : ∃ m, m = so.length := ⟨_, rfl⟩
          rw [← hm] at hm9
          have HM := Lib.hid hm
          obtain ⟨a8, c8, hv8, g8⟩ := HO8.out.getm hm
          subst hv8
          have HG8 := Lib.hid g8
          have hlo8 : B ≤ w8.heap.size := HRK8.out.lo
          have r5 : w8.cell? ⟨k5, 0, none⟩ = some (.slice a8 m c8) := blk_cell H58.out 0
          clear hso hm g8 HWF HRUN HBX HPUP HBWP HOWL HPUL HRR HANS2 HVR HVO H4 H4P H5P HOWP HSO hrow8 hb8 H8
          go_wp2_with fail
          clear r5
          go_loopw [13, 14, 15, 16, 75] (fun v _ _ _ i wr => ∃ (q : Nat) (bs : List Bd) (Dq : Nat → Prop), i = .int .i64 (q : Int) ∧ q ≤ m ∧ bs.length ≤ q ∧ outT sj k (dd (pv so q) (so.drop q)) (bs.map Bd.pair) = ans ∧ OwnB w8.heap.size wr Dq v bs ∧ (∀ b, Dq b → w8.heap.size ≤ b ∧ b < wr.heap.size ∧ v.ownBlock ≠ some b) ∧ (∀ b ∈ bs, Fits b.t) ∧ Below w8.heap.size w8 wr) (fun _ _ _ _ i _ => m - (intOf i).toNat)
          case atStart => exact ⟨0, [], fun _ => False, rfl, Nat.zero_le _, Nat.zero_le _, HA3.out.symm, OwnB.nil _ _ _, fun b h => h.elim, fun b h => (by cases h), Below.refl _ _⟩
          case round =>
            obtain ⟨q, bs, Dq, rfl, hq, hbl, hout, hob, hDq, hfb, hbr⟩ := hrel
            obtain ⟨wq, rfl⟩ : ∃ wq : World, wq = wr := ⟨_, rfl⟩
            have HBL := Lib.hid hbl
            have HOUT := Lib.hid hout
            have HOB := Lib.hid hob
            have HDQ := Lib.hid hDq
            have HFB := Lib.hid hfb
            have HBR := Lib.hid hbr
            have HRKQ := Lib.hid (HRK8.out.keep hbr)
            have hszq : w8.heap.size ≤ wq.heap.size := hbr.size
            clear hbl hout hob hDq hfb hbr
            by_cases hltq : q < m
            · have hdq : decide ((q : Int) < (m : Int)) = true := by simp; omega
              have hql : q < so.length := by rw [← HM.out]; exact hltq
              obtain ⟨oo, oc, hov⟩ := HOB.out.shape
              subst hov
              obtain ⟨g, hao, hgl, hcell⟩ := HG8.out q hltq hql
              have hix := index_at Try.underlying47 size3 hao m c8 q hltq
              rw [Nat.zero_add, Nat.mul_one] at hix
              obtain ⟨n0, hn0⟩ : ∃ n0, so[q]? = some n0 := ⟨_, List.getElem?_eq_getElem hql⟩
              have hge : so[q] = n0 := (List.getElem?_eq_some_iff.1 hn0).2
              rw [hge] at hcell
              have hc0 : wq.cell? ⟨g, q, none⟩ = some (.int .i64 n0) := (HBR.out.cell (p := ⟨g, q, none⟩) hgl).trans hcell
              have k5c : wq.cell? ⟨k5, 0, none⟩ = some (.slice a8 m c8) := blk_cell (blk_below H58.out HBR.out (lt_of_block H58.out)) 0
              obtain ⟨hnV, hnI⟩ := HMEM.out q n0 hn0
              obtain ⟨dup, hdup⟩ : ∃ dup, dup = decide (pv so q = some n0) := ⟨_, rfl⟩
              have HSTEP := Lib.hid (dd_step hn0 (pv so q))
              have HPV := Lib.hid (pv_succ hn0)
              have PREV : Hid (0 < q → ∃ n1, wq.cell? ⟨g, q - 1, none⟩ = some (.int .i64 n1) ∧ (n1 == n0) = dup ∧ ∀ w' : World, (Instr.indexAt 47 (.slice a8 m c8) (.int .i64 ((q : Int) - 1))).run Try.prog w' = .ok (.pointer (some ⟨g, q - 1, none⟩)) w') := Lib.hid (fun hq0 => by
                obtain ⟨g', hao', hgl', hcell'⟩ := HG8.out (q - 1) (by omega) (by omega)
                rw [hao] at hao'
                cases hao'
                refine ⟨so[q - 1], (HBR.out.cell (p := ⟨g, q - 1, none⟩) hgl').trans hcell', ?_, fun w' => ?_⟩
                · rw [hdup]
                  unfold pv
                  rw [if_neg (by omega), List.getElem?_eq_getElem (by omega)]
                  by_cases e : so[q - 1] = n0
                  · simp [e]
                  · simp [e]
                · have h := index_at Try.underlying47 size3 hao m c8 (q - 1) (by omega) w'
                  rw [Nat.zero_add, Nat.mul_one] at h
                  rw [← h]
                  congr 3
                  omega)
              have HDUP := Lib.hid hdup
              have HNV := Lib.hid (And.intro hnV hnI)
              have HN0 := Lib.hid hn0
              clear hao hcell hn0 hge hnV hnI hql hdup
              go_upto_region 26 with fail
              go_cut [90] from 80 to 89 (fun s wx => s = .bool dup ∧ wx = wq)
              case first =>
                by_cases hq0 : 0 < q
                · obtain ⟨n1, hc1, he1, hix1⟩ := PREV.out hq0
                  have hg1 : decide ((0 : Int) < (q : Int)) = true := by simp; omega
                  go_wp2_with fail
                  go_meet
                  exact ⟨rfl, rfl⟩
                · obtain rfl : q = 0 := by omega
                  have hd0 : dup = false := by rw [HDUP.out]; simp [pv]
                  go_wp2_with fail
                  go_meet
                  rw [hd0]
                  exact ⟨rfl, rfl⟩
              case rest =>
              obtain ⟨rfl, hwc⟩ := hcut
              subst hwc
              obtain ⟨wq, rfl⟩ : ∃ wq : World, wq = wc := ⟨_, rfl⟩
              clear PREV k5c hc0 hix
              cases dup with
              | true =>
                go_wp2_with fail
                go_roundw
                case rel =>
                  refine ⟨q + 1, bs, Dq, by go_num, hltq, Nat.le_succ_of_le HBL.out, ?_, HOB.out, HDQ.out, HFB.out, HBR.out⟩
                  rw [← HOUT.out, HSTEP.out, if_pos (of_decide_eq_true HDUP.out.symm), HPV.out]
                case measure => simp only [intOf]; omega
              | false =>
                have HOUT2 : Hid (outT sj k (n0 :: dd (pv so (q + 1)) (so.drop (q + 1))) (bs.map Bd.pair) = ans) := Lib.hid (by
                  rw [← HOUT.out, HSTEP.out, if_neg (of_decide_eq_false HDUP.out.symm), HPV.out])
                have hwf := bare_wf (V := V) (s := sj) HNV.out.1 HNV.out.2
                have HCG : Hid (∀ X : World, Below wq.heap.size wq X → Calls Try.prog 30 #[.pointer (some ⟨ub, 0, none⟩), .agg #[.int .i64 0, .int .i64 n0, .string ⟨#[]⟩, .int .i64 0, .slice none 0 0]] X fun e w' => e = .returned (.bool (decide (400 < parts (exT sj.b (bareT n0))))) ∧ Below X.heap.size X w') := Lib.hid (fun X hX => pGreat_any B ub mb V pl D sj (bareT n0) hwf none 0 X (HRKQ.out.keep hX) (sl_nil rfl))
                have HCF : Hid (parts (exT sj.b (bareT n0)) ≤ 400 → ∀ X : World, Below wq.heap.size wq X → Calls Try.prog 31 #[.pointer (some ⟨ub, 0, none⟩), .agg #[.int .i64 0, .int .i64 n0, .string ⟨#[]⟩, .int .i64 0, .slice none 0 0]] X (FullP X (markT sj.e (exT sj.b (bareT n0))))) := Lib.hid (fun hp X hX => pfull_any B ub mb V pl D sj (parts (exT sj.b (bareT n0))) (bareT n0) (Nat.le_refl _) (by omega) hwf none 0 X (HRKQ.out.keep hX) (sl_nil rfl))
                have HFF : Hid (Fits (markT sj.e (exT sj.b (bareT n0)))) := Lib.hid (full_fits HGR.out.ok (fits_bare HNV.out.2))
                have HS3 : Hid (outT sj k (n0 :: dd (pv so (q + 1)) (so.drop (q + 1))) (bs.map Bd.pair) = if 400 < parts (exT sj.b (bareT n0)) then ([], 12, k) else outT sj k (dd (pv so (q + 1)) (so.drop (q + 1))) (bs.map Bd.pair ++ [(n0, markT sj.e (exT sj.b (bareT n0)))])) := Lib.hid (by rw [outT])
                obtain ⟨G, hG⟩ : ∃ G, G = markT sj.e (exT sj.b (bareT n0)) := ⟨_, rfl⟩
                rw [← hG] at HCF HFF HS3
                obtain ⟨P, hP⟩ : ∃ P, P = parts (exT sj.b (bareT n0)) := ⟨_, rfl⟩
                rw [← hP] at HCG HCF HS3
                obtain ⟨big, hbig⟩ : ∃ big, big = decide (400 < P) := ⟨_, rfl⟩
                rw [← hbig] at HCG
                obtain ⟨Z1, hZ1⟩ : ∃ Z1, Z1 = wq.alloc (.cells #[.int .i64 0, .int .i64 n0, .string ⟨#[]⟩, .int .i64 0, .slice none 0 0] 33) := ⟨_, rfl⟩
                have HBZ1 : Hid (Below wq.heap.size wq Z1) := Lib.hid (by rw [hZ1]; exact balloc (Below.refl _ _) _)
                have hZr : Z1.heap[wq.heap.size]? = some (.cells #[.int .i64 0, .int .i64 n0, .string ⟨#[]⟩, .int .i64 0, .slice none 0 0] 33 (0, 0)) := by rw [hZ1]; exact heap_alloc_new wq _
                have HZR := Lib.hid hZr
                have K4 : Hid (∀ X : World, Below wq.heap.size wq X → X.cell? ⟨k4, 0, none⟩ = some (.pointer (some ⟨ub, 0, none⟩))) := Lib.hid (fun X hX => by
                  have h := blk_below H48.out HBR.out (lt_of_block H48.out)
                  exact blk_cell (blk_below h hX (lt_of_block h)) 0)
                obtain ⟨⟨z0, z1, z2, z3, z4⟩, -⟩ := five_cells hZr
                have u4 := K4.out Z1 HBZ1.out
                have HBIG := Lib.hid hbig
                clear hwf hG hP hZr hbig
                go_upto_region 28 with fail
                rw [← hZ1]
                clear hZ1
                have hloq : B ≤ wq.heap.size := Nat.le_trans hlo8 hszq
                cases big with
                | true =>
                  go_wp2_with (first | (go_at_call 30; refine (HCG.out Z1 HBZ1.out).mono ?_; rintro e w9 ⟨rfl, hb9⟩; have HB9 := Lib.hid (HBZ1.out.trans (hb9.mono HBZ1.out.size)); have HB99 : Hid (Below B X0 w9) := Lib.hid (HBW8.out.trans ((HBR.out.mono hlo8).trans (HB9.out.mono hloq))); obtain ⟨⟨r0, r1⟩, rf0, rf1⟩ := RES.out w9 HB99.out; clear hb9))
                  have ea : ans = ([], 12, k) := by rw [← HOUT2.out, HS3.out, if_pos (of_decide_eq_true HBIG.out.symm)]
                  refine bodyPost_ret (fin_res rfl rfl (set28 (blk_below HR0.out HB99.out (by have := HRB.out.2; omega)) _ _)) rfl ?_
                  rw [ea]
                  exact ⟨_, rfl, fin_nil HRB.out.1 (HB0.out.trans (HB99.out.mono (by have := HRB.out; omega))) _ rfl _ _⟩
                | false =>
                  have hPle : P ≤ 400 := by have := of_decide_eq_false HBIG.out.symm; omega
                  have HS2 : Hid (outT sj k (dd (pv so (q + 1)) (so.drop (q + 1))) (bs.map Bd.pair ++ [(n0, G)]) = ans) := Lib.hid (by rw [← HOUT2.out, HS3.out, if_neg (by omega)])
                  have HCF2 := Lib.hid (HCF.out hPle)
                  clear hPle HCF HS3 HSTEP
                  obtain ⟨i35, hi, hz0, hz1, hz2⟩ := info_parts info35
                  have HI := Lib.hid hi
                  clear hi
                  go_upto_region 30 with (first | (go_at_call 30; refine (HCG.out Z1 HBZ1.out).mono ?_; rintro e w9 ⟨rfl, hb9⟩; have HB9 := Lib.hid (HBZ1.out.trans (hb9.mono HBZ1.out.size)); have hz9 := blk_below HZR.out hb9 (lt_of_block HZR.out); obtain ⟨⟨y0, y1, y2, y3, y4⟩, -⟩ := five_cells hz9; have u49 := K4.out w9 HB9.out; clear hb9 hz9))
                  clear z0 z1 z2 z3 z4 u4
                  obtain ⟨mo, hmo⟩ : ∃ mo, mo = bs.length := ⟨_, rfl⟩
                  have HMO := Lib.hid hmo
                  have hmo9 : mo ≤ 200000 := by have := HBL.out; omega
                  rw [← hmo]
                  have FIN : Hid (∀ (Z : World) (af : Option Addr) (cf : Nat), Below wq.heap.size wq Z → w9.heap.size ≤ Z.heap.size → SlD Z (fun b => w9.heap.size ≤ b ∧ b < Z.heap.size) G.args af cf → (Z.alloc (.cells #[.int .i64 n0, .int .i64 G.k, .int .i64 G.n, .string G.s, .int .i64 G.q, .slice af G.args.length cf] 35)).ownsRow w8.heap.size 35 6 (.slice oo mo oc) mo (bcells bs) ∧ w8.heap.size ≤ (Z.alloc (.cells #[.int .i64 n0, .int .i64 G.k, .int .i64 G.n, .string G.s, .int .i64 G.q, .slice af G.args.length cf] 35)).heap.size ∧ ∀ (v11 : Value) (w11 : World), w11.ownsRow w8.heap.size 35 6 v11 (mo + 1) (bcells bs ++ [.int .i64 n0, .int .i64 G.k, .int .i64 G.n, .string G.s, .int .i64 G.q, .slice af G.args.length cf]) → (Z.alloc (.cells #[.int .i64 n0, .int .i64 G.k, .int .i64 G.n, .string G.s, .int .i64 G.q, .slice af G.args.length cf] 35)).grownBy w11 (Value.slice oo mo oc).ownBlock → (v11.ownBlock = (Value.slice oo mo oc).ownBlock ∨ v11.ownBlock = some (Z.alloc (.cells #[.int .i64 n0, .int .i64 G.k, .int .i64 G.n, .string G.s, .int .i64 G.q, .slice af G.args.length cf] 35)).heap.size) →
                      ∃ (bs' : List Bd) (Dq' : Nat → Prop), bs'.length ≤ q + 1 ∧ outT sj k (dd (pv so (q + 1)) (so.drop (q + 1))) (bs'.map Bd.pair) = ans ∧ OwnB w8.heap.size w11 Dq' v11 bs' ∧ (∀ b, Dq' b → w8.heap.size ≤ b ∧ b < w11.heap.size ∧ v11.ownBlock ≠ some b) ∧ (∀ b ∈ bs', Fits b.t) ∧ Below w8.heap.size w8 w11) := Lib.hid (by
                    intro Z af cf hZ h9 hsl
                    have hsZ : w8.heap.size ≤ Z.heap.size := Nat.le_trans hszq hZ.size
                    have hown := ((HOB.out.keep hZ (fun b hb => (HDQ.out b hb).2.1)).own.alloc (.cells #[.int .i64 n0, .int .i64 G.k, .int .i64 G.n, .string G.s, .int .i64 G.q, .slice af G.args.length cf] 35))
                    rw [← HMO.out] at hown
                    refine ⟨hown, by rw [World.size_alloc]; omega, ?_⟩
                    intro v11 w11 hown1 hgr1 hat1
                    obtain ⟨gg, cp, hv, _, _⟩ := World.ownsRow.form hown1 (by omega)
                    subst hv
                    rw [HMO.out] at hown1 hgr1 hat1
                    have hcell6 : ([.int .i64 n0, .int .i64 G.k, .int .i64 G.n, .string G.s, .int .i64 G.q, .slice af G.args.length cf] : List Value) = (Bd.mk n0 G af cf).cells := rfl
                    rw [hcell6] at hown1
                    have h91 := HB9.out.size
                    have hat2 : (Value.slice oo bs.length oc).ownBlock = some gg ∨ gg = Z.heap.size + 1 := by
                      rcases hat1 with h | h
                      · exact .inl (h.symm.trans rfl)
                      · refine .inr ?_
                        have h2 : some gg = some (Z.alloc (.cells #[.int .i64 n0, .int .i64 G.k, .int .i64 G.n, .string G.s, .int .i64 G.q, .slice af G.args.length cf] 35)).heap.size := h
                        rw [Option.some.inj h2, World.size_alloc]
                    obtain ⟨r1, r2, r3⟩ := out_grown (Dx := fun b => w9.heap.size ≤ b ∧ b < Z.heap.size) HOB.out HDQ.out hszq hZ hsl (fun b hb => ⟨by omega, hb.2⟩) (balloc (Below.refl _ _) _) (by rw [World.size_alloc]) hown1 hgr1 hat2
                    rw [HMO.out]
                    refine ⟨_, _, by rw [List.length_append]; have := HBL.out; simp; omega, ?_, r1, r2, fun b hb => ?_, HBR.out.trans r3⟩
                    · rw [List.map_append]; exact HS2.out
                    · rcases List.mem_append.1 hb with hb | hb
                      · exact HFB.out b hb
                      · rw [List.mem_singleton] at hb; rw [hb]; exact HFF.out)
                  have hone : ∀ (af : Option Addr) (cf : Nat), ∀ u ∈ ([.int .i64 n0, .int .i64 G.k, .int .i64 G.n, .string G.s, .int .i64 G.q, .slice af G.args.length cf] : List Value), u.oneCell' = true := by
                    intro af cf u hu
                    simp at hu
                    rcases hu with rfl | rfl | rfl | rfl | rfl | rfl <;> rfl
                  clear hmo
                  go_wp2_with (first
                    | (at_builtin; go_must (refine wpList_append3 rfl (.tmp 99) (.tmp 105) 25 25 rfl w8.heap.size 35 35 i35 _ 6 72 Try.underlying25 Try.underlying25 HI.out hz0 hz1 hz2 rfl (by decide) (.slice oo mo oc) mo (bcells bs) rfl HOA.out (some ⟨w10.heap.size, 0, none⟩) 1 1 [.int .i64 n0, .int .i64 G.k, .int .i64 G.n, .string G.s, .int .i64 G.q, .slice af G.args.length cf] rfl rfl (fun _ => ⟨_, rfl, new_cells (c := #[.int .i64 n0, .int .i64 G.k, .int .i64 G.n, .string G.s, .int .i64 G.q, .slice af G.args.length cf]) _ (by simp)⟩) (hone af cf) (by unfold maxLen; omega) (by omega) HSA.out ?_))
                    | (go_at_call 31; refine (HCF2.out w9 HB9.out).mono ?_; rintro e w10 h10; obtain ⟨af, cf, rfl, hsf, hbf⟩ := h10.call; obtain ⟨hoA, hSA, hfin⟩ := FIN.out w10 af cf (HB9.out.trans (hbf.mono HB9.out.size)) hbf.size hsf; have HOA := Lib.hid hoA; have HSA := Lib.hid hSA; have HFIN := Lib.hid hfin; unfold rowOf at ⊢; clear h10 hsf hbf hoA hSA hfin))
                  intro v11 w11 hown11 hgr11 hat11
                  have HFIN2 := Lib.hid (HFIN.out v11 w11 hown11 hgr11 (by rw [World.size_alloc]; exact hat11))
                  clear hown11 hgr11 hat11
                  go_wp2_with fail
                  go_roundw
                  case rel =>
                    obtain ⟨bs', Dq', h1, h2, h3, h4, h5, h6⟩ := HFIN2.out
                    exact ⟨q + 1, bs', Dq', by go_num, hltq, h1, h2, h3, h4, h5, h6⟩
                  case measure => simp only [intOf]; omega
            · obtain rfl : q = m := by omega
              have hdq : decide ((q : Int) < (q : Int)) = false := by simp
              have HBWQ : Hid (Below B X0 wq) := Lib.hid (HBW8.out.trans (HBR.out.mono hlo8))
              obtain ⟨⟨r0, r1⟩, rf0, rf1⟩ := RES.out wq HBWQ.out
              have hrb := HRB.out.2
              have hrq := blk_below HR0.out HBWQ.out (by omega)
              have HRQ := Lib.hid hrq
              clear hrq
              go_wp2_with fail
              refine bodyPost_ret (fin_res rfl rfl (set28 HRQ.out _ _)) rfl ?_
              have h := HOUT.out
              rw [HM.out, List.drop_length, dd, outT] at h
              rw [← h]
              have hwB : w.heap.size ≤ B := by have := HRB.out; omega
              refine ⟨_, rfl, Dq, bs, rfl, fin_own HOB.out HRQ.out (fun b hb => (HDQ.out b hb).1) (by omega) _ _, fun b hb => ?_, HFB.out, ?_⟩
              · have h1 := HDQ.out b hb
                simp only [World.size_setCell]
                omega
              · have hb9 := HB0.out.trans (HBWQ.out.mono hwB)
                exact (hb9.setCell (p := ⟨rb, 0, none⟩) (Nat.le_of_eq HRB.out.1.symm) _).setCell (p := ⟨rb, 1, none⟩) (Nat.le_of_eq HRB.out.1.symm) _
/- Proved: the contracts of the law's solved and Solves. Condition: pairs that fit, of at most 200000 parts. -/

theorem outT_len (s : St) (N : Nat) : ∀ (ns : List Int) (acc : List (Int × Ty)), (outT s N ns acc).1.length ≤ acc.length + ns.length
  | [], acc => by rw [outT]; simp
  | n :: ns, acc => by
    rw [outT]
    split
    · simp
    · have h := outT_len s N ns (acc ++ [(n, markT s.e (exT s.b (bareT n)))])
      rw [List.length_append] at h
      simp at h ⊢
      omega
theorem solveT_len (l : List (Ty × Ty)) : (solveT l).1.length ≤ ptP l := by
  unfold solveT
  split
  · simp
  · split
    · simp
    · split
      · have h := outT_len ‹St› l.length (risingD (vsP [] l)) []
        rw [(rising_perm _).length_eq] at h
        have h2 := vsP_len l []
        simp at h h2
        omega
      · simp
set_option maxRecDepth 100000 in
set_option maxHeartbeats 8000000 in
theorem solved_any (l : List (Ty × Ty)) (D : Nat → Prop) (ao : Option Addr) (cap : Nat) (w : World) (hD : ∀ b, D b → b < w.heap.size) (hv : PairsV w D l ao) (hf : ∀ p ∈ l, Fits p.1 ∧ Fits p.2) (hN : ptP l ≤ 200000) :
    Calls Try.prog 6 #[.slice ao l.length cap] w fun e w' => e = .returned (.bool true) ∧ Below w.heap.size w w' := by
  have hlen := solveT_len l
  have HP := Lib.hid (psolve_any l D ao cap w hD hv hf hN)
  have HR : Hid (∀ X : World, Below w.heap.size w X → Calls Try.prog 23 #[.slice ao l.length cap] X fun e w' => ∃ v, e = .returned (.tuple #[v, .int .i64 (solveT l).2.1, .int .i64 ((solveT l).2.2 : Int)]) ∧ SolveP X (solveT l) v w') := Lib.hid (fun X hX => rsolve_any l D ao cap X (fun b hb => Nat.lt_of_lt_of_le (hD b hb) hX.size) (hv.below hD hX) hf hN)
  obtain ⟨ans, hans⟩ : ∃ ans, ans = solveT l := ⟨_, rfl⟩
  rw [← hans] at HP HR hlen
  obtain ⟨n, hn⟩ : ∃ n, n = l.length := ⟨_, rfl⟩
  rw [← hn] at HP HR
  rw [← hn]
  obtain ⟨kd, hkd⟩ : ∃ kd, kd = ans.2.1 := ⟨_, rfl⟩
  obtain ⟨ai, hai⟩ : ∃ ai : Int, ai = (ans.2.2 : Int) := ⟨_, rfl⟩
  rw [← hkd, ← hai] at HP HR
  clear hans hn hkd hai hv hf hD
  go_enter Try.func6, Try.ntmps6
  go_upto_region 2 with (first | (go_at_call 8; refine HP.out.mono ?_; rintro e w1 ⟨v1, rfl, h1⟩; have H1 := Lib.hid h1; clear h1))
  obtain ⟨D1, bs1, he1, ho1, hD1, hf1, hb1⟩ := H1.out.out
  obtain ⟨W1, hW1⟩ : ∃ W1, W1 = w1.alloc (.cells #[.int .i64 kd, .int .i64 ai] 28) := ⟨_, rfl⟩
  obtain ⟨fb, hfb⟩ : ∃ fb, fb = w1.heap.size := ⟨_, rfl⟩
  have hr1 : W1.heap[fb]? = some (.cells #[.int .i64 kd, .int .i64 ai] 28 (0, 0)) := by rw [hW1, hfb]; exact heap_alloc_new w1 _
  have hb11 : Below w1.heap.size w1 W1 := by rw [hW1]; exact balloc (Below.refl _ _) _
  have HO1 := Lib.hid (ho1.keep hb11 (fun b hb => (hD1 b hb).2))
  have HBW1 := Lib.hid (hb1.trans (hb11.mono hb1.size))
  have HR1 := Lib.hid hr1
  have HD1 : Hid (∀ b, D1 b → b < W1.heap.size) := Lib.hid (fun b hb => Nat.lt_of_lt_of_le (hD1 b hb).2 hb11.size)
  have HE1 := Lib.hid he1
  have HF1 := Lib.hid hf1
  rw [← hW1, ← hfb]
  clear hW1 hfb hr1 hb11 he1 ho1 hD1 hf1 hb1 H1
  go_upto_region 3 with (first | (go_at_call 23; refine (HR.out W1 HBW1.out).mono ?_; rintro e w2 ⟨v2, rfl, h2⟩; have H2 := Lib.hid h2; clear h2))
  obtain ⟨D2, bs2, he2, ho2, hD2, hf2, hb2⟩ := H2.out.out
  have HS := Lib.hid (sameBinds_any (fun b => D1 b ∨ D2 b) v1 v2 bs1 bs2 w2 ((HO1.out.keep hb2 HD1.out).mono fun b h => .inl h) (ho2.mono fun b h => .inr h) (fun b hb => by
    rcases hb with hb | hb
    · exact Nat.lt_of_lt_of_le (HD1.out b hb) hb2.size
    · exact (hD2 b hb).2) (HE1.out.trans he2.symm) (by
    have h := congrArg List.length HE1.out
    rw [List.length_map] at h
    omega) HF1.out hf2)
  have HB2 := Lib.hid hb2
  clear he2 ho2 hD2 hf2 hb2 H2
  go_upto_region 4 with (first | (go_at_call 16; refine HS.out.mono ?_; rintro e w3 ⟨rfl, hb3⟩; have HB3 := Lib.hid (HB2.out.trans (hb3.mono HB2.out.size)); clear hb3))
  have hr3 := blk_below HR1.out HB3.out (lt_of_block HR1.out)
  have r0 : w3.cell? ⟨fb, 0, none⟩ = some (.int .i64 kd) := blk_cell hr3 0
  have r1 : w3.cell? ⟨fb, 1, none⟩ = some (.int .i64 ai) := blk_cell hr3 1
  clear hr3
  have e0 : (kd == kd) = true := by simp
  have e1 : (ai == ai) = true := by simp
  go_wp2_with fail
  go_ret
  exact ⟨rfl, HBW1.out.trans (HB3.out.mono HBW1.out.size)⟩
theorem ex_fitsP : ∀ p ∈ [(exL, exR)], Fits p.1 ∧ Fits p.2 := by
  intro p hp
  rw [List.mem_singleton] at hp
  subst hp
  simp [exL, exR, exV, exW, exI, exB, Fits, FitsL, I64]
  decide
set_option maxRecDepth 100000 in
set_option maxHeartbeats 8000000 in
theorem solves_any (l : List (Ty × Ty)) (D : Nat → Prop) (ao : Option Addr) (cap : Nat) (w : World) (hD : ∀ b, D b → b < w.heap.size) (hv : PairsV w D l ao) (hf : ∀ p ∈ l, Fits p.1 ∧ Fits p.2) (hN : ptP l ≤ 200000) :
    Calls Try.prog 3 #[.slice ao l.length cap] w fun e w' => e = .returned (.bool true) ∧ Below w.heap.size w w' := by
  have HEX := Lib.hid (example_any w)
  have HE1 : Hid (∀ (X : World) (b : Nat) (D1 : Nat → Prop), (∀ b, D1 b → b < X.heap.size) → PairsV X D1 [(exL, exR)] (some ⟨b, 0, none⟩) → Calls Try.prog 6 #[.slice (some ⟨b, 0, none⟩) 1 1] X fun e w' => e = .returned (.bool true) ∧ Below X.heap.size X w') := Lib.hid (fun X b D1 h1 h2 => solved_any [(exL, exR)] D1 _ 1 X h1 h2 ex_fitsP (by simp [ptP, parts, partsL, exL, exR, exV, exW, exI, exB]))
  have HS : Hid (∀ X : World, Below w.heap.size w X → Calls Try.prog 6 #[.slice ao l.length cap] X fun e w' => e = .returned (.bool true) ∧ Below X.heap.size X w') := Lib.hid (fun X hX => solved_any l D ao cap X (fun b hb => Nat.lt_of_lt_of_le (hD b hb) hX.size) (hv.below hD hX) hf hN)
  obtain ⟨n, hn⟩ : ∃ n, n = l.length := ⟨_, rfl⟩
  rw [← hn] at HS
  rw [← hn]
  clear hn hv hf hD hN
  go_enter Try.func3, Try.ntmps3
  go_upto_region 2 with (first
    | (go_at_call 6; refine HC1.out.mono ?_; rintro e w2 ⟨rfl, hb2⟩; have HB2 := Lib.hid (HB1.out.trans (hb2.mono HB1.out.size)); clear hb2)
    | (go_at_call 7; refine HEX.out.mono ?_; rintro e w1 h1; obtain ⟨b1, D1, rfl, hp1, hd1, hb1⟩ := h1.out; have HC1 := Lib.hid (HE1.out w1 b1 D1 (fun b hb => (hd1 b hb).2) hp1); have HB1 := Lib.hid hb1; clear h1 hp1 hd1 hb1))
  go_wp2_with (first | (go_at_call 6; refine (HS.out w2 HB2.out).mono ?_; rintro e w3 ⟨rfl, hb3⟩; have HB3 := Lib.hid (HB2.out.trans (hb3.mono HB2.out.size)); clear hb3))
  go_ret
  exact ⟨rfl, HB3.out⟩
end Go.Proofs.Ytdeomphilggokaa
