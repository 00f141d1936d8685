/-
  Proved: the contracts of the program's great and Great. Condition: what is known is in order.
-/
import Derived.Test.YtdeomphilggokaaP1
set_option linter.unusedSimpArgs false
set_option linter.unusedVariables false
namespace Go.Proofs.Ytdeomphilggokaa
open Go.RowKit

/-- the program's variables stand while a row of numbers is written -/
theorem PU.grow {B : Nat} {w w' : World} {ub m : Nat} {V : List Int} {pl : Int → Nat} {D : Nat → Prop} {st : St} (h : PU B w ub m V pl D st) {row : Option Nat} (hg : w.grownBy w' row) (hrow : ∀ g, row = some g → B ≤ g ∧ ∃ c f, w.heap[g]? = some (.cells c 3 f)) (hD : ∀ b, D b → b < B) (hB : B ≤ w.heap.size) : PU B w' ub m V pl D st := by
  have key : ∀ (b : Nat) (o : Obj), w.heap[b]? = some o → (∀ c f, o ≠ .cells c 3 f) → w'.heap[b]? = w.heap[b]? := fun b o hb hne => hg.block b (lt_of_block hb) (fun e => by
    obtain ⟨_, c, f, hc⟩ := hrow b e.symm
    rw [hc] at hb
    exact hne c f (Option.some.inj hb).symm)
  have hbel : ∀ b, D b → ∀ off, w'.cell? ⟨b, off, none⟩ = w.cell? ⟨b, off, none⟩ := fun b hb off => World.cell?_of_block (hg.block b (Nat.lt_of_lt_of_le (hD b hb) hB) (fun e => by
    have := (hrow b e.symm).1
    have := hD b hb
    omega))
  obtain ⟨es, clock, hmm⟩ := h.mp.f.isMap
  exact ⟨(key _ _ h.u (fun c f e => by cases e)).trans h.u, h.mp.of_same (key _ _ hmm (fun c f e => by cases e)), fun k hk => (h.var k hk).keep (by
    obtain ⟨x, h1, _⟩ := h.var k hk
    exact key _ _ h1 (fun c f e => by cases e)) hbel, h.inj, h.low, h.vs, h.i64⟩
theorem PK.grow {B : Nat} {ub m : Nat} {V : List Int} {pl : Int → Nat} {D : Nat → Prop} {st : St} {w w' : World} (h : PK B ub m V pl D st w) {row : Option Nat} (hg : w.grownBy w' row) (hrow : ∀ g, row = some g → B ≤ g ∧ ∃ c f, w.heap[g]? = some (.cells c 3 f)) : PK B ub m V pl D st w' :=
  ⟨h.r.grow hg hrow h.dB h.lo, h.dB, Nat.le_trans h.lo hg.size, h.ok⟩
theorem run_field4 (v0 v1 v2 v3 v4 : Value) (w : World) : (Instr.field 33 (.agg #[v0, v1, v2, v3, v4]) 4).run Try.prog w = .ok v4 w := by kernel_rfl
/-- what great leaves -/
structure GreatP (w : World) (lb L P : Nat) (e : Ending) (w' : World) : Prop where
  val : e = .returned (.bool (decide (L < P)))
  left : P ≤ L → w'.heap[lb]? = some (.cells #[.int .i64 ((L - P : Nat) : Int)] 3 (0, 0))
  gr : w.grownBy w' (some lb)
theorem gr_two {w w1 w2 : World} {b : Nat} (h : w.grownBy w1 (some b)) (h2 : w1.grownBy w2 (some b)) : w.grownBy w2 (some b) := gr_trans h h2
set_option maxRecDepth 100000 in
set_option maxHeartbeats 8000000 in
theorem pgreat_any (B : Nat) (ub m : Nat) (V : List Int) (pl : Int → Nat) (D : Nat → Prop) (st : St) : ∀ (f : Nat) (t : Ty), parts (exT st.b t) ≤ f → Wf V st.e t → ∀ (ao : Option Addr) (cap lb L : Nat) (w : World), PK B ub m V pl D st w → SlD w D t.args ao cap → L ≤ 400 → B ≤ lb → w.heap[lb]? = some (.cells #[.int .i64 (L : Int)] 3 (0, 0)) →
    Calls Try.prog 55 #[.pointer (some ⟨ub, 0, none⟩), .agg (rowOf t ao cap), .pointer (some ⟨lb, 0, none⟩)] w (GreatP w lb L (parts (exT st.b t))) := by
  intro f
  induction f with
  | zero => intro t ht; have := parts_pos (exT st.b t); omega
  | succ f IH =>
    intro t ht hw ao cap lb L w hk hv hL hBl hlb
    obtain ⟨W, hW⟩ : ∃ W, W = w.alloc (.cells (rowOf t ao cap) 33) := ⟨_, rfl⟩
    obtain ⟨hbW, hlW, hrow⟩ := box_at hW
    have hTO := top_ok hk.ok hw
    obtain ⟨P, hP⟩ : ∃ P, P = parts (exT st.b t) := ⟨_, rfl⟩
    rw [← hP] at ht ⊢
    obtain ⟨u, hu⟩ : ∃ u, u = topT st.e st.b t := ⟨_, rfl⟩
    have hlW2 := blk_below hlb hbW (lt_of_block hlb)
    have hX0 : W.heap[lb]? = some (.cells #[.int .i64 (L : Int)] 3 (0, 0)) := hlW2
    have hgX : ∀ v : Value, W.grownBy (W.setCell ⟨lb, 0, none⟩ v) (some lb) := fun v => gr_set W lb 0 v
    have hrowl : ∀ g, (some lb : Option Nat) = some g → B ≤ g ∧ ∃ c f, W.heap[g]? = some (.cells c 3 f) := fun g hg => by cases hg; exact ⟨hBl, _, _, hX0⟩
    have hkW := hk.keep hbW
    have HTOP : Hid (∀ v : Value, Calls Try.prog 52 #[.pointer (some ⟨ub, 0, none⟩), .agg (rowOf t ao cap)] (W.setCell ⟨lb, 0, none⟩ v) (TopP (W.setCell ⟨lb, 0, none⟩ v) D u)) := Lib.hid (fun v => by
      rw [hu]
      refine pseen_any B ub m V pl D st t hw ao cap _ (hkW.grow (hgX v) hrowl) ?_
      refine (hv.keep fun b hb off => below_cells hbW b (hk.d b hb) off).keep fun b hb off => ?_
      exact World.cell?_of_block (Below.heap_setCell _ _ _ _ (fun e => by have := hk.dB b hb; have h9 : lb = b := e.symm; omega)))
    rw [← hu] at hTO
    have HPT : Hid (P = 1 + partsL (u.args.map (exT st.b))) := Lib.hid (by
      by_cases hk0 : u.k = 0
      · obtain ⟨_, h2, h3⟩ := top_free hTO hk0
        rw [hP, h3, show u.args = [] from by rw [h2]; rfl]
        simp [bareT, parts, partsL]
      · rw [hP, top_kid hTO hk0, parts])
    have HTO := Lib.hid hTO
    have HK := Lib.hid hk
    have HKW := Lib.hid hkW
    have HIH := Lib.hid IH
    have HBW := Lib.hid hbW
    have HROW := Lib.hid hrow
    have HT := Lib.hid ht
    have HLB := Lib.hid hX0
    have HRL := Lib.hid hrowl
    have hcl : u.args.length ≤ 3000000000000 := hTO.wf.fits.len
    have hne : ¬ lb = w.heap.size := fun e => by have := lt_of_block hlb; omega
    have hne' : ¬ w.heap.size = lb := fun e => hne e.symm
    have l0 : W.cell? ⟨lb, 0, none⟩ = some (.int .i64 (L : Int)) := blk_cell hX0 0
    have lf : W.frozen? ⟨lb, 0, none⟩ = false := blk_free hX0 0
    unfold rowOf at hW hrow HTOP ⊢
    have c0 : W.cell? ⟨w.heap.size, 0, none⟩ = some (.int .i64 t.k) := blk_cell hrow 0
    have c1 : W.cell? ⟨w.heap.size, 1, none⟩ = some (.int .i64 t.n) := blk_cell hrow 1
    have c2 : W.cell? ⟨w.heap.size, 2, none⟩ = some (.string t.s) := blk_cell hrow 2
    have c3 : W.cell? ⟨w.heap.size, 3, none⟩ = some (.int .i64 t.q) := blk_cell hrow 3
    have c4 : W.cell? ⟨w.heap.size, 4, none⟩ = some (.slice ao t.args.length cap) := blk_cell hrow 4
    have HWW := Lib.hid hW
    clear IH hTO hk hkW hu hW hbW hrow hv hw hlb hlW2 hX0 hgX hrowl ht hP
    go_enter Try.func55, Try.ntmps55
    go_upto_region 1 with fail
    rw [← HWW.out]
    clear HWW
    generalize Value.agg #[.int .i64 t.k, .int .i64 t.n, .string t.s, .int .i64 t.q, .slice ao t.args.length cap] = v0
    by_cases hL0 : L = 0
    · have hneg : decide ((L : Int) - 1 < 0) = true := by simp; omega
      have HL0 := Lib.hid hL0
      have FIN : Hid (∀ v : Value, GreatP w lb L P (.returned (.bool true)) (W.setCell ⟨lb, 0, none⟩ v)) := Lib.hid (fun v => by
        have hPp : L < P := by have := HPT.out; omega
        refine ⟨by rw [decide_eq_true hPp], fun h => by omega, gr_trans (gr_below HBW.out _) (gr_set W lb 0 v)⟩)
      clear hL0
      go_wp2_with fail
      go_ret
      exact FIN.out _
    · have hneg : decide ((L : Int) - 1 < 0) = false := by simp; omega
      obtain ⟨L1, hL1⟩ : ∃ L1, L1 = L - 1 := ⟨_, rfl⟩
      have hsub : (L : Int) - 1 = (L1 : Int) := by omega
      have hnn : decide ((L1 : Int) < 0) = false := by simp
      have HL1 := Lib.hid (And.intro hL1 hL0)
      clear hL0 hneg hL1
      go_upto_region 5 with (first | (go_at_call 52; refine (HTOP.out _).mono ?_; rintro e w1 h1; obtain ⟨ap, cp, rfl, hs1, hb1⟩ := h1.out; have HS1 := Lib.hid hs1; have HB1 := Lib.hid hb1; unfold rowOf at ⊢; have hfd := run_field4 (.int .i64 u.k) (.int .i64 u.n) (.string u.s) (.int .i64 u.q) (.slice ap u.args.length cp); clear h1 hs1 hb1))
      clear hfd
      obtain ⟨c, hc⟩ : ∃ c, c = u.args.length := ⟨_, rfl⟩
      rw [← hc] at hcl ⊢
      have HC := Lib.hid hc
      have hset : (W.setCell ⟨lb, 0, none⟩ (.int .i64 (L1 : Int))).heap[lb]? = some (.cells #[.int .i64 (L1 : Int)] 3 (0, 0)) := blk_set HLB.out 0 _
      have HLW1 : Hid (w1.heap[lb]? = some (.cells #[.int .i64 (L1 : Int)] 3 (0, 0))) := Lib.hid (blk_below hset HB1.out (lt_of_block hset))
      have HG1 : Hid (w.grownBy w1 (some lb)) := Lib.hid (gr_trans (gr_trans (gr_below HBW.out _) (gr_set W lb 0 _)) (gr_below HB1.out _))
      have HK1 : Hid (PK B ub m V pl D st w1) := Lib.hid ((HKW.out.grow (gr_set W lb 0 _) HRL.out).keep HB1.out)
      clear c0 c1 c2 c3 c4 l0 lf hc hset HTOP HKW HRL HROW HBW HB1 hnn hsub
      go_wp2_with fail
      go_loopw [8, 23] (fun _ i wr => ∃ j r : Nat, i = .int .i64 (j : Int) ∧ j ≤ c ∧ r + partsL ((u.args.map (exT st.b)).take j) = L1 ∧ wr.heap[lb]? = some (.cells #[.int .i64 (r : Int)] 3 (0, 0)) ∧ w1.grownBy wr (some lb)) (fun _ i _ => c - (intOf i).toNat)
      case atStart => exact ⟨0, L1, rfl, Nat.zero_le _, by simp [partsL], HLW1.out, World.grownBy.refl _ _⟩
      case round =>
        obtain ⟨j, r, rfl, hj, hsum, hlb, hgr⟩ := hrel
        obtain ⟨wo, rfl⟩ : ∃ wo : World, wo = wr := ⟨_, rfl⟩
        have HSUM := Lib.hid hsum
        have HLB2 := Lib.hid hlb
        have HGR := Lib.hid hgr
        have HKO := Lib.hid (HK1.out.grow hgr (fun g hg => by cases hg; exact ⟨hBl, _, _, HLW1.out⟩))
        have hsz1 := hgr.size
        clear hsum hlb hgr
        by_cases hlt : j < c
        · have hd : decide ((j : Int) < (c : Int)) = true := by simp; omega
          have hjk : j < u.args.length := by rw [← HC.out]; exact hlt
          have hvr : SlD wo D u.args ap cp := HS1.out.keep fun b hb off => World.cell?_of_block (HGR.out.block b (HK1.out.d b hb) (fun e => by
            have e2 : b = lb := Option.some.inj e
            have := HK1.out.dB b hb
            omega))
          obtain ⟨b, p, aq, cq, hDb, hix, x0, x1, x2, x3, x4, hs⟩ := arg_cells hvr hjk
          rw [← HC.out] at hix
          obtain ⟨x, hx⟩ : ∃ x, x = u.args[j] := ⟨_, rfl⟩
          rw [← hx] at x0 x1 x2 x3 x4 hs
          have hmem : x ∈ u.args := by rw [hx]; exact List.getElem_mem _
          have hk0 : u.k ≠ 0 := fun h => by
            obtain ⟨_, h2, _⟩ := top_free HTO.out h
            rw [h2] at hmem
            cases hmem
          obtain ⟨Z, hZ⟩ : ∃ Z, Z = wo.alloc (.cells (rowOf x aq cq) 33) := ⟨_, rfl⟩
          obtain ⟨hbZ, hlZ, hrZ⟩ := box_at hZ
          have hcall := HIH.out x (by have h1 := HT.out; have h2 := HPT.out; have := parts_mem (List.mem_map_of_mem (f := exT st.b) hmem); omega) (HTO.out.wf.kid hk0 hmem) aq cq lb r Z (HKO.out.keep hbZ) (hs.keep fun b hb off => below_cells hbZ b (HKO.out.d b hb) off) (by have h1 := HSUM.out; have h2 := HL1.out.1; omega) hBl (blk_below HLB2.out hbZ (lt_of_block HLB2.out))
          obtain ⟨Q, hQ⟩ : ∃ Q, Q = parts (exT st.b x) := ⟨_, rfl⟩
          rw [← hQ] at hcall
          unfold rowOf at hcall hZ hrZ
          obtain ⟨⟨k0, k1, k2, k3, k4⟩, -⟩ := five_cells hrZ
          have HCALL := Lib.hid hcall
          have HBZ := Lib.hid hbZ
          have HQ : Hid (partsL ((u.args.map (exT st.b)).take (j + 1)) = partsL ((u.args.map (exT st.b)).take j) + Q) := Lib.hid (by rw [partsL_take (by simpa using hjk), List.getElem_map, ← hx, hQ])
          have HZZ := Lib.hid hZ
          have hrow2 : decide (r < Q) = true ∨ decide (r < Q) = false := by cases decide (r < Q) <;> simp
          clear hcall hvr hs hx hmem hbZ hrZ hZ hk0 hQ hDb
          rcases hrow2 with hrq | hrq
          · have HRQ := Lib.hid hrq
            rw [hrq] at hrq
            clear hrq
            go_upto_region 7 with fail
            rw [← HZZ.out]
            go_wp2_with (first | (go_at_call 55; refine HCALL.out.mono ?_; rintro e w7 h7; obtain rfl : e = .returned (.bool true) := (by rw [h7.val, HRQ.out]); have H7 := Lib.hid h7; clear h7))
            go_ret
            have h1 := of_decide_eq_true HRQ.out
            have h2 := HSUM.out
            have h3 := HQ.out
            have h4 := partsL_take_le (u.args.map (exT st.b)) (j + 1)
            have h5 := HPT.out
            have h6 := HL1.out
            have hLP : L < P := by
              generalize partsL (List.take (j + 1) (List.map (exT st.b) u.args)) = A at *
              generalize partsL (List.take j (List.map (exT st.b) u.args)) = C at *
              generalize partsL (List.map (exT st.b) u.args) = E at *
              omega
            exact ⟨by rw [decide_eq_true hLP]; rfl, fun h => by omega, gr_trans HG1.out (gr_trans HGR.out (gr_trans (gr_below HBZ.out _) H7.out.gr))⟩
          · have HRQ := Lib.hid hrq
            rw [hrq] at hrq
            clear hrq
            go_upto_region 7 with fail
            rw [← HZZ.out]
            go_wp2_with (first | (go_at_call 55; refine HCALL.out.mono ?_; rintro e w7 h7; obtain rfl : e = .returned (.bool false) := (by rw [h7.val, HRQ.out]); have H7 := Lib.hid h7; clear h7))
            go_roundw
            case rel =>
              have h1 := of_decide_eq_false HRQ.out
              refine ⟨j + 1, r - Q, by go_num, hlt, ?_, H7.out.left (by omega), gr_trans HGR.out (gr_trans (gr_below HBZ.out _) H7.out.gr)⟩
              have h2 := HSUM.out
              rw [HQ.out]
              generalize partsL (List.take j (List.map (exT st.b) u.args)) = C at *
              omega
            case measure => simp only [intOf]; omega
        · obtain rfl : j = c := by omega
          have hd : decide ((j : Int) < (j : Int)) = false := by simp
          go_wp2_with fail
          go_ret
          have h2 := HSUM.out
          rw [HC.out, List.take_of_length_le (by simp)] at h2
          have h5 := HPT.out
          have h6 := HL1.out
          have e1 : ¬ L < P ∧ r = L - P := by
            generalize partsL (List.map (exT st.b) u.args) = E at *
            omega
          refine ⟨by rw [decide_eq_false e1.1]; rfl, fun _ => ?_, gr_trans HG1.out HGR.out⟩
          rw [← e1.2]
          exact HLB2.out
set_option maxRecDepth 100000 in
set_option maxHeartbeats 8000000 in
theorem pGreat_any (B : Nat) (ub m : Nat) (V : List Int) (pl : Int → Nat) (D : Nat → Prop) (st : St) (t : Ty) (hw : Wf V st.e t) (ao : Option Addr) (cap : Nat) (w : World) (hk : PK B ub m V pl D st w) (hv : SlD w D t.args ao cap) :
    Calls Try.prog 30 #[.pointer (some ⟨ub, 0, none⟩), .agg (rowOf t ao cap)] w fun e w' => e = .returned (.bool (decide (400 < parts (exT st.b t)))) ∧ Below w.heap.size w w' := by
  obtain ⟨W, hW⟩ : ∃ W, W = w.alloc (.cells (rowOf t ao cap) 33) := ⟨_, rfl⟩
  obtain ⟨hbW, hlW, hrow⟩ := box_at hW
  have hsW : W.heap.size = w.heap.size + 1 := by rw [hW]; simp
  obtain ⟨X, hX⟩ : ∃ X, X = W.alloc (.cells #[.int .i64 400] 3) := ⟨_, rfl⟩
  have hbX : Below w.heap.size w X := by rw [hX]; exact balloc hbW _
  have hlX : X.heap[w.heap.size + 1]? = some (.cells #[.int .i64 ((400 : Nat) : Int)] 3 (0, 0)) := by rw [hX, ← hsW]; exact heap_alloc_new W _
  have hrX : X.heap[w.heap.size]? = some (.cells (rowOf t ao cap) 33 (0, 0)) := by rw [hX]; exact blk_alloc hrow _
  have HC := Lib.hid (pgreat_any B ub m V pl D st (parts (exT st.b t)) t (Nat.le_refl _) hw ao cap (w.heap.size + 1) 400 X (hk.keep hbX) (hv.keep fun b hb off => below_cells hbX b (hk.d b hb) off) (Nat.le_refl _) (Nat.le_trans hk.lo (Nat.le_succ _)) hlX)
  obtain ⟨P, hP⟩ : ∃ P, P = parts (exT st.b t) := ⟨_, rfl⟩
  rw [← hP] at HC ⊢
  unfold rowOf at hW hrX HC ⊢
  rw [hW] at hX
  obtain ⟨⟨c0, c1, c2, c3, c4⟩, -⟩ := five_cells hrX
  have HX := Lib.hid hX
  have HBX := Lib.hid hbX
  clear hW hbW hrow hlX hrX hk hv hw hbX hX hlW hP
  go_enter Try.func30, Try.ntmps30
  go_upto_region 2 with fail
  rw [← HX.out]
  generalize Value.agg #[.int .i64 t.k, .int .i64 t.n, .string t.s, .int .i64 t.q, .slice ao t.args.length cap] = v0
  go_wp2_with (first | (go_at_call 55; refine HC.out.mono ?_; rintro e w7 h7; obtain rfl := h7.val; have H7 := Lib.hid h7; clear h7))
  go_ret
  refine ⟨rfl, ?_⟩
  have h := H7.out.gr
  exact ⟨h.os.trans HBX.out.os, h.tape.trans HBX.out.tape, h.output.trans HBX.out.output, Nat.le_trans HBX.out.size h.size, fun k hk => (h.block k (Nat.lt_of_lt_of_le hk HBX.out.size) (fun e => by have := Option.some.inj e; omega)).trans (HBX.out.block k hk)⟩
end Go.Proofs.Ytdeomphilggokaa
