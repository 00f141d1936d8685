/-
  Proved: the contracts of the program's NewUnifier and of (any variable). Condition: numbers that fit a machine.
-/
import Derived.Test.YtdeomphilggokaaP7
set_option linter.unusedSimpArgs false
set_option linter.unusedVariables false
namespace Go.Proofs.Ytdeomphilggokaa
open Go.RowKit

/-- cells of other types than these stand as they stood -/
def BoxS (w w' : World) : Prop := ∀ (b : Nat) (c : Array Value) (t : TypeId) (f : Nat × Nat), t ≠ 58 → t ≠ 3 → t ≠ 47 → w.heap[b]? = some (.cells c t f) → w'.heap[b]? = some (.cells c t f)
theorem BoxS.refl (w : World) : BoxS w w := fun _ _ _ _ _ _ _ h => h
theorem BoxS.trans {w w1 w2 : World} (h : BoxS w w1) (h2 : BoxS w1 w2) : BoxS w w2 := fun b c t f h1 h3 h4 hb => h2 b c t f h1 h3 h4 (h b c t f h1 h3 h4 hb)
theorem BoxS.of_below {w w' : World} (h : Below w.heap.size w w') : BoxS w w' := fun b c t f _ _ _ hb => blk_below hb h (lt_of_block hb)
theorem BoxS.of_boxP {w w' : World} (h : BoxP w w') : BoxS w w' := fun b c t f h1 _ _ hb => h b c t f h1 hb
theorem BoxS.of_boxes {w w' : World} (h : Boxes w w') : BoxS w w' := fun b c t f _ _ _ hb => h b c t f hb
/-- what NewUnifier leaves -/
structure NewUP (w : World) (D : Nat → Prop) (pl : Int → Nat) (en : Ending) (w' : World) : Prop where
  out : ∃ ub m, en = .returned (.pointer (some ⟨ub, 0, none⟩)) ∧ PU w.heap.size w' ub m [] pl D ⟨fun _ => none, fun _ => false⟩ ∧ Below w.heap.size w w'
set_option maxRecDepth 100000 in
set_option maxHeartbeats 4000000 in
theorem newu_any (D : Nat → Prop) (pl : Int → Nat) (w : World) : Calls Try.prog 24 #[] w (NewUP w D pl) := by
  have hmm := @run_makeMap Try.prog
  go_enter Try.func24, Try.ntmps24
  go_wp2_with fail
  go_ret
  obtain ⟨w1, h1⟩ : ∃ w1, w1 = w.alloc (.map #[] 0) := ⟨_, rfl⟩
  have s1 : w1.heap.size = w.heap.size + 1 := by rw [h1, World.size_alloc]
  have m1 : MapX w1 w.heap.size [] (fun _ => none) := by rw [h1]; exact MapX.made w
  have hb : Below w.heap.size w w1 := by rw [h1]; exact balloc (Below.refl _ _) _
  rw [← h1]
  refine ⟨w.heap.size + 1, w.heap.size, rfl, ⟨?_, ?_, fun k h => (by cases h), fun k h => (by cases h), ⟨by omega, by omega, fun k h => by cases h⟩, by simp, fun k h => by cases h⟩, balloc hb _⟩
  · rw [← s1]; exact heap_alloc_new w1 _
  · exact (m1.of_same (Below.heap_alloc _ _ _ (by omega))).congr fun k _ => by simp [ptrF]
theorem mem_addV_old {xs : List Int} {n k : Int} (h : k ∈ xs) : k ∈ addV xs n := by
  unfold addV
  split
  · exact h
  · simp [h]
theorem addV_sub {xs : List Int} {n k : Int} (h : k ∈ addV xs n) : k = n ∨ k ∈ xs := by
  unfold addV at h
  split at h
  · exact .inr h
  · rcases List.mem_append.1 h with h | h
    · exact .inr h
    · rw [List.mem_singleton] at h; exact .inl h
/-- what of leaves -/
structure OfP (B ub m : Nat) (V : List Int) (pl : Int → Nat) (D : Nat → Prop) (b : Bnd) (e : Int → Bool) (n : Int) (w : World) (en : Ending) (w' : World) : Prop where
  out : ∃ pl', en = .returned (.pointer (some ⟨pl' n, 0, none⟩)) ∧ PU B w' ub m (addV V n) pl' D ⟨b, e⟩ ∧ Below B w w' ∧ Boxes w w'
set_option maxRecDepth 100000 in
set_option maxHeartbeats 8000000 in
theorem of_any (B : Nat) (ub m : Nat) (V : List Int) (pl : Int → Nat) (D : Nat → Prop) (e : Int → Bool) (w : World) (h : PU B w ub m V pl D ⟨fun _ => none, e⟩) (hD : ∀ b, D b → b < B) (hB : B ≤ w.heap.size) (hV9 : V.length ≤ 500000000) {n : Int} (hn : I64 n) (he : n ∉ V → e n = false) :
    Calls Try.prog 27 #[.pointer (some ⟨ub, 0, none⟩), .int .i64 n] w (OfP B ub m V pl D (fun _ => none) e n w) := by
  by_cases hk : n ∈ V
  · refine (of_hit B ub m V pl D ⟨fun _ => none, e⟩ w h hk).mono ?_
    rintro en w' ⟨rfl, rfl⟩
    refine ⟨pl, rfl, ?_, Below.refl _ _, Boxes.refl _⟩
    rw [addV, if_pos hk]
    exact h
  · have hl := (h.mp.f.look Try.underlying82 (zero82 w) hn).1
    rw [ptrF, if_neg hk] at hl
    simp only [Option.getD_none] at hl
    obtain ⟨W, hW⟩ : ∃ W, W = w.alloc (.cells (vcells ⟨.mk 0 0 ⟨#[]⟩ 0 [], none, 0⟩ false false) 58) := ⟨_, rfl⟩
    have hbW : Below w.heap.size w W := by rw [hW]; exact balloc (Below.refl _ _) _
    have hrow : W.heap[w.heap.size]? = some (.cells (vcells ⟨.mk 0 0 ⟨#[]⟩ 0 [], none, 0⟩ false false) 58 (0, 0)) := by rw [hW]; exact heap_alloc_new w _
    have hW0 := h.keep hbW (fun b hb => Nat.lt_of_lt_of_le (hD b hb) hB)
    have hBW : B ≤ W.heap.size := Nat.le_trans hB hbW.size
    obtain ⟨w', hrun, hm, hg⟩ := hW0.mp.new Try.underlying82 (by unfold maxLen; omega) hn hk (.pointer (some ⟨w.heap.size, 0, none⟩))
    have c0 : w.cell? ⟨ub, 0, none⟩ = some (.map (some m)) := blk_cell h.u 0
    have c0W : W.cell? ⟨ub, 0, none⟩ = some (.map (some m)) := blk_cell hW0.u 0
    have hbel : Below B w w' := (hbW.mono hB).trans (grown_below hg hBW h.low.2.1)
    obtain ⟨es, clock, hmm⟩ := hW0.mp.f.isMap
    have key : ∀ (b : Nat) (c : Array Value) (t : TypeId) (f : Nat × Nat), W.heap[b]? = some (.cells c t f) → w'.heap[b]? = some (.cells c t f) := fun b c t f hb => (hg.block b (lt_of_block hb) (fun e2 => by
      have e3 : b = m := Option.some.inj e2
      rw [e3, hmm] at hb
      cases hb)).trans hb
    have hbox : Boxes w w' := (Boxes.of_below hbW).trans key
    have FIN : OfP B ub m V pl D (fun _ => none) e n w (.returned (.pointer (some ⟨w.heap.size, 0, none⟩))) w' := by
      refine ⟨fun k => if k = n then w.heap.size else pl k, by simp, ?_, hbel, hbox⟩
      have hpn : ∀ k ∈ V, pl k < w.heap.size := fun k hk' => by
        obtain ⟨x, h1, _⟩ := h.var k hk'
        exact lt_of_block h1
      have hsub : ∀ k, k ∈ addV V n → k = n ∨ k ∈ V := fun k h => addV_sub h
      have hadd : addV V n = V ++ [n] := by rw [addV, if_neg hk]
      refine ⟨key _ _ _ _ hW0.u, ?_, fun k hk' => ?_, fun k hk' j hj' e1 => ?_, ⟨h.low.1, h.low.2.1, fun k hk' => ?_⟩, ?_, fun k hk' => ?_⟩
      · rw [hadd]
        refine hm.congr fun k _ => ?_
        unfold ptrF
        by_cases e1 : k = n
        · subst e1; simp
        · simp [e1]
      · by_cases e1 : k = n
        · subst e1
          simp only [if_true]
          refine ⟨⟨.mk 0 0 ⟨#[]⟩ 0 [], none, 0⟩, ?_, fun y hy => by cases hy⟩
          show w'.heap[w.heap.size]? = some (Obj.cells (vcells _ (none : Option Ty).isSome (e k)) 58)
          rw [he hk]
          exact key _ _ _ _ hrow
        · simp only [if_neg e1]
          have hkV := (hsub k hk').resolve_left e1
          obtain ⟨x, h1, h2⟩ := hW0.var k hkV
          exact ⟨x, key _ _ _ _ h1, fun y hy => by cases hy⟩
      · by_cases e2 : k = n
        · by_cases e3 : j = n
          · rw [e2, e3]
          · simp only [if_pos e2, if_neg e3] at e1
            have := hpn j ((hsub j hj').resolve_left e3)
            omega
        · by_cases e3 : j = n
          · simp only [if_neg e2, if_pos e3] at e1
            have := hpn k ((hsub k hk').resolve_left e2)
            omega
          · simp only [if_neg e2, if_neg e3] at e1
            exact h.inj k ((hsub k hk').resolve_left e2) j ((hsub j hj').resolve_left e3) e1
      · by_cases e1 : k = n
        · simp only [if_pos e1]; exact hB
        · simp only [if_neg e1]; exact h.low.2.2 k ((hsub k hk').resolve_left e1)
      · rw [hadd, List.length_append]
        simp
        omega
      · rcases hsub k hk' with rfl | h1
        · exact hn
        · exact h.i64 k h1
    have HFIN := Lib.hid FIN
    have HUNF : W = w.alloc (.cells #[.bool false, .int .i64 0, .int .i64 0, .string ⟨#[]⟩, .int .i64 0, .slice none 0 0, .bool false, .int .i64 0] 58) := hW
    have HW := Lib.hid HUNF
    have hp1 : ub < w.heap.size := lt_of_block h.u
    clear FIN hbel hbox key hmm hg hm hW0 hbW hrow hW h hk hD hB hBW he HUNF
    go_enter Try.func27, Try.ntmps27
    go_upto_region 4 with fail
    rw [← HW.out]
    go_wp2_with fail
    go_ret
    exact HFIN.out
/- Proved: the contract of the function that Solve hands to walk. Condition: numbers that fit a machine. -/

/-- what Solve keeps while it gathers: the variables known, their marks, all places -/
structure ColSt (B : Nat) (w : World) (c4 c5 ub m : Nat) (V : List Int) (D : Nat → Prop) (e : Int → Bool) (oc : List Int) : Prop where
  h4 : w.heap[c4]? = some (.cells #[.pointer (some ⟨ub, 0, none⟩)] 52 (0, 0))
  h5 : ∃ v, w.heap[c5]? = some (.cells #[v] 47 (0, 0)) ∧ OwnI B w v oc
  pu : ∃ pl, PU B w ub m V pl D ⟨fun _ => none, e⟩
  low : B ≤ c4 ∧ B ≤ c5
  out : ∀ n, n ∉ V → e n = false
  lo : B ≤ w.heap.size
theorem ColSt.keep {B : Nat} {w w' : World} {c4 c5 ub m : Nat} {V : List Int} {D : Nat → Prop} {e : Int → Bool} {oc : List Int} (h : ColSt B w c4 c5 ub m V D e oc) (hb : Below w.heap.size w w') (hD : ∀ b, D b → b < B) : ColSt B w' c4 c5 ub m V D e oc := by
  obtain ⟨v, h1, h2⟩ := h.h5
  obtain ⟨pl, h3⟩ := h.pu
  exact ⟨blk_below h.h4 hb (lt_of_block h.h4), ⟨v, blk_below h1 hb (lt_of_block h1), h2.carry hb⟩, ⟨pl, h3.keep hb (fun b hb' => Nat.lt_of_lt_of_le (hD b hb') h.lo)⟩, h.low, h.out, Nat.le_trans h.lo hb.size⟩
/-- what a visit leaves -/
structure ColP (B c4 c5 ub m : Nat) (V : List Int) (D : Nat → Prop) (e : Int → Bool) (oc : List Int) (w : World) (en : Ending) (w' : World) : Prop where
  val : en = .returned (.tuple #[])
  st : ColSt B w' c4 c5 ub m V D e oc
  bel : Below B w w'
  box : BoxS w w'
theorem PU.own_ne {B : Nat} {w : World} {ub m : Nat} {V : List Int} {pl : Int → Nat} {D : Nat → Prop} {st : St} (h : PU B w ub m V pl D st) {w' : World} {row : Option Nat} (hg : w.grownBy w' row) (hrow : ∀ g, row = some g → B ≤ g ∧ (∃ c t f, (t = 3 ∨ t = 47) ∧ w.heap[g]? = some (.cells c t f))) (hD : ∀ b, D b → b < B) (hB : B ≤ w.heap.size) : PU B w' ub m V pl D st := by
  have key : ∀ (b : Nat) (o : Obj), w.heap[b]? = some o → (∀ c f, o ≠ .cells c 3 f) → (∀ c f, o ≠ .cells c 47 f) → w'.heap[b]? = w.heap[b]? := fun b o hb hne hne2 => hg.block b (lt_of_block hb) (fun e => by
    obtain ⟨_, c, t, f, ht, hc⟩ := hrow b e.symm
    rw [hc] at hb
    rcases ht with rfl | rfl
    · exact hne c f (Option.some.inj hb).symm
    · exact hne2 c f (Option.some.inj hb).symm)
  have hbel : ∀ b, D b → ∀ off, w'.cell? ⟨b, off, none⟩ = w.cell? ⟨b, off, none⟩ := fun b hb off => World.cell?_of_block (hg.block b (Nat.lt_of_lt_of_le (hD b hb) hB) (fun e => by
    have := (hrow b e.symm).1
    have := hD b hb
    omega))
  obtain ⟨es, clock, hmm⟩ := h.mp.f.isMap
  exact ⟨(key _ _ h.u (fun c f e => by cases e) (fun c f e => by cases e)).trans h.u, h.mp.of_same (key _ _ hmm (fun c f e => by cases e) (fun c f e => by cases e)), fun k hk => (h.var k hk).keep (by
    obtain ⟨x, h1, _⟩ := h.var k hk
    exact key _ _ h1 (fun c f e => by cases e) (fun c f e => by cases e)) hbel, h.inj, h.low, h.vs, h.i64⟩
set_option maxRecDepth 100000 in
set_option maxHeartbeats 8000000 in
theorem visitS_any (B c4 c5 ub m : Nat) (V : List Int) (D : Nat → Prop) (e : Int → Bool) (oc : List Int) (t : Ty) (ao : Option Addr) (cap : Nat) (hn : I64 t.n) (w : World) (h : ColSt B w c4 c5 ub m V D e oc) (hD : ∀ b, D b → b < B) (hV9 : V.length ≤ 500000000) (hoc : oc.length ≤ 500000000) (hq : t.q = 0 ∨ t.q = 1) :
    Calls Try.prog 26 #[.agg (rowOf t ao cap), .pointer (some ⟨c4, 0, none⟩), .pointer (some ⟨c5, 0, none⟩)] w (ColP B c4 c5 ub m (addV V t.n) D (markE e (if t.q = 1 then [t.n] else [])) (oc ++ [t.n]) w) := by
  obtain ⟨n, hnn⟩ : ∃ n, n = t.n := ⟨_, rfl⟩
  obtain ⟨q, hqq⟩ : ∃ q, q = t.q := ⟨_, rfl⟩
  rw [← hnn] at hn ⊢
  rw [← hqq] at hq ⊢
  obtain ⟨ql, hql⟩ : ∃ ql, ql = if q = 1 then [n] else [] := ⟨_, rfl⟩
  rw [← hql]
  have HQL := Lib.hid hql
  clear hql
  obtain ⟨W, hW⟩ : ∃ W, W = w.alloc (.cells (rowOf t ao cap) 33) := ⟨_, rfl⟩
  obtain ⟨hbW, hlW, hrow⟩ := box_at hW
  have hS := h.keep hbW hD
  obtain ⟨pl, hpu⟩ := hS.pu
  have HOF := Lib.hid (of_any B ub m V pl D e W hpu hD hS.lo hV9 hn (hS.out n))
  have c1 : W.cell? ⟨w.heap.size, 1, none⟩ = some (.int .i64 n) := by rw [hnn]; exact blk_cell hrow 1
  have u0 : W.cell? ⟨c4, 0, none⟩ = some (.pointer (some ⟨ub, 0, none⟩)) := blk_cell hS.h4 0
  have HROW := Lib.hid hrow
  have HS := Lib.hid hS
  have HBW := Lib.hid hbW
  have HD := Lib.hid hD
  have HLO := Lib.hid h.lo
  have HNN := Lib.hid (And.intro hnn hqq)
  have HQ := Lib.hid hq
  have HN := Lib.hid hn
  unfold rowOf at hW ⊢
  have HWW := Lib.hid hW
  clear h hS hpu hbW hrow hW hn hnn hqq hq hD
  go_enter Try.func26, Try.ntmps26
  go_upto_region 1 with fail
  rw [← HWW.out]
  clear HWW
  generalize Value.agg #[.int .i64 t.k, .int .i64 t.n, .string t.s, .int .i64 t.q, .slice ao t.args.length cap] = v0
  go_upto_region 2 with (first | (go_at_call 27; refine HOF.out.mono ?_; rintro en w1 ⟨pl1, rfl, hpu1, hb1, hx1⟩; have HPU1 := Lib.hid hpu1; have HB1 := Lib.hid hb1; have HX1 := Lib.hid hx1; clear hpu1 hb1 hx1))
  have hnV : n ∈ addV V n := mem_addV V n
  have hlo1 : B ≤ w1.heap.size := Nat.le_trans HS.out.lo HB1.out.size
  obtain ⟨x, hvx, -⟩ := HPU1.out.at' hnV
  obtain ⟨en, hen⟩ : ∃ en, en = e n := ⟨_, rfl⟩
  rw [show (St.mk (fun _ => none) e).e n = en from hen.symm] at hvx
  have HVX := Lib.hid hvx
  unfold vcells at hvx
  obtain ⟨⟨-, -, -, -, -, -, p6, -⟩, pf⟩ := eight_cells hvx
  have f6 := pf 6
  have hr1 := HX1.out _ _ _ _ HROW.out
  have c3 : w1.cell? ⟨w.heap.size, 3, none⟩ = some (.int .i64 q) := by rw [HNN.out.2]; exact blk_cell hr1 3
  have c1' : w1.cell? ⟨w.heap.size, 1, none⟩ = some (.int .i64 n) := by rw [HNN.out.1]; exact blk_cell hr1 1
  obtain ⟨bq, hbq⟩ : ∃ bq, bq = (en || (q == 1)) := ⟨_, rfl⟩
  -- the state behind the mark
  obtain ⟨w2, hw2⟩ : ∃ w2, w2 = w1.setCell ⟨pl1 n, 6, none⟩ (.bool bq) := ⟨_, rfl⟩
  have HW2 := Lib.hid hw2
  have hne1 : ¬ pl1 n = w.heap.size := fun e2 => by
    rw [e2] at hvx
    have := hvx.symm.trans hr1
    cases this
  have hne2 : ¬ w.heap.size = pl1 n := fun e2 => hne1 e2.symm
  have hmk : PU B w2 ub m (addV V n) pl1 D ⟨fun _ => none, markE e ql⟩ := by
    rw [hw2]
    refine HPU1.out.turn hnV (gr_set w1 (pl1 n) 6 (.bool bq)) HD.out hlo1 ⟨x, ?_, fun y hy => by cases hy⟩ (fun k _ hk => ⟨rfl, ?_⟩) trivial
    · have h1 := blk_set HVX.out 6 (.bool bq)
      rw [h1]
      show some (Obj.cells _ 58) = some (Obj.cells (vcells x (none : Option Ty).isSome (markE e ql n)) 58)
      have e1 : markE e ql n = bq := by
        rw [hbq, hen, HQL.out]
        unfold markE
        rcases HQ.out with h | h
        · rw [h]; simp
        · rw [h]; simp
      rw [e1]
      rfl
    · show markE e ql k = e k
      rw [HQL.out]
      unfold markE
      split
      · simp [hk]
      · simp
  have hlowp : B ≤ pl1 n := HPU1.out.low.2.2 n hnV
  have hb2 : Below B w1 w2 := by rw [hw2]; exact (Below.refl B w1).setCell (p := ⟨pl1 n, 6, none⟩) hlowp _
  have hx2 : BoxS w1 w2 := by rw [hw2]; exact BoxS.of_boxP (boxP_set HVX.out _)
  have hst1 := HS.out
  obtain ⟨v, hv5, hown⟩ := hst1.h5
  have hv51 := HX1.out _ _ _ _ hv5
  have hne5 : c5 ≠ pl1 n := fun e2 => by
    rw [e2] at hv51
    have := hvx.symm.trans hv51
    cases this
  have hv52 : w2.heap[c5]? = some (.cells #[v] 47 (0, 0)) := by rw [hw2]; exact blk_set_ne hv51 hne5 6 _
  have hown1 : OwnI B w1 v oc := own_carry hown fun g c f hb => HX1.out g c 3 f hb
  have hown2 : OwnI B w2 v oc := own_carry hown1 fun g c f hb => by
    rw [hw2]
    exact blk_set_ne hb (fun e2 => by rw [e2] at hb; have := hvx.symm.trans hb; cases this) 6 _
  obtain ⟨va, vc, hva, -⟩ := hown2.get
  obtain ⟨mo, hmo⟩ : ∃ mo, mo = oc.length := ⟨_, rfl⟩
  rw [← hmo] at hva
  subst hva
  have hoA : (w2.alloc (.cells #[.int .i64 n] 3)).ownsRow B 3 1 (.slice va mo vc) mo (oc.map iv) := by
    have h1 := hown2.alloc (.cells #[.int .i64 n] 3)
    rw [← hmo] at h1
    exact h1
  have HOA := Lib.hid hoA
  have HOWN2 := Lib.hid hown2
  have HMK := Lib.hid hmk
  have HV52 := Lib.hid hv52
  have HMO := Lib.hid hmo
  have hm9 : mo ≤ 500000000 := by rw [hmo]; exact hoc
  have HB12 := Lib.hid (HB1.out.trans hb2)
  have HX12 := Lib.hid ((BoxS.of_boxes HX1.out).trans hx2)
  have hlo2 : B ≤ w2.heap.size := Nat.le_trans hlo1 hb2.size
  have r5 : w2.cell? ⟨c5, 0, none⟩ = some (.slice va mo vc) := blk_cell hv52 0
  have r1 : w2.cell? ⟨w.heap.size, 1, none⟩ = some (.int .i64 n) := by
    rw [HNN.out.1]
    exact blk_cell (hx2 _ _ _ _ (by decide) (by decide) (by decide) hr1) 1
  have HR2 := Lib.hid (And.intro r5 r1)
  obtain ⟨i3, hi, hz0, hz1, hz2⟩ := info_parts info3
  have HI := Lib.hid hi
  have hB99 : B ≤ (w2.alloc (.cells #[.int .i64 n] 3)).heap.size := Nat.le_trans hlo2 (by simp)
  have hl5 : c5 < w2.heap.size := lt_of_block hv52
  have hne3 : (Value.slice va mo vc).ownBlock ≠ some c5 := own_ne hv52 hown2 (by decide)
  have HNE := Lib.hid hne3
  clear hvx pf hr1 hmk hlowp hb2 hx2 hst1 hv5 hown hv51 hne5 hv52 hown1 hown2 hoA hi hne3 hmo hen r5 r1 hnV
  have FIN : Hid (∀ (v4 : Value) (w4 : World), w4.ownsRow B 3 1 v4 (mo + 1) (oc.map iv ++ [.int .i64 n]) → (w2.alloc (.cells #[.int .i64 n] 3)).grownBy w4 (Value.slice va mo vc).ownBlock → ColP B c4 c5 ub m (addV V n) D (markE e ql) (oc ++ [n]) w (.returned (.tuple #[])) (w4.setCell ⟨c5, 0, none⟩ v4)) := Lib.hid (by
    intro v4 w4 hown4 hg4
    have hbA : Below w2.heap.size w2 (w2.alloc (.cells #[.int .i64 n] 3)) := balloc (Below.refl _ _) _
    have hlow : ∀ g, (Value.slice va mo vc).ownBlock = some g → B ≤ g ∧ g < w2.heap.size := fun g hg => HOWN2.out.lt g hg
    have hrowg : ∀ g, (Value.slice va mo vc).ownBlock = some g → ∃ c f, (w2.alloc (.cells #[.int .i64 n] 3)).heap[g]? = some (.cells c 3 f) := own_row HOA.out
    have carry : ∀ (b : Nat) (o : Obj), w2.heap[b]? = some o → (Value.slice va mo vc).ownBlock ≠ some b → w4.heap[b]? = some o := fun b o h hne => by
      have h1 := blk_alloc h (.cells #[.int .i64 n] 3)
      rw [hg4.block b (lt_of_block h1) (fun e => hne e.symm)]
      exact h1
    have hv4 := carry c5 _ HV52.out HNE.out
    have hlA : B ≤ (w2.alloc (.cells #[.int .i64 n] 3)).heap.size := Nat.le_trans hlo2 hbA.size
    have hb4 : Below B w2 w4 := (hbA.mono hlo2).trans (grew_none hg4 hlA (fun g hg => (hlow g hg).1))
    have hlo4 : B ≤ w4.heap.size := Nat.le_trans hlo2 hb4.size
    have hpuA := HMK.out.keep hbA (fun b hb => Nat.lt_of_lt_of_le (HD.out b hb) hlo2)
    have hpu4 := hpuA.own_ne hg4 (fun g hg => ⟨(hlow g hg).1, by obtain ⟨c, f, hc⟩ := hrowg g hg; exact ⟨c, 3, f, .inl rfl, hc⟩⟩) HD.out hlA
    have hpu9 := hpu4.own_ne (gr_set w4 c5 0 v4) (fun g hg => by cases hg; exact ⟨HS.out.low.2, _, 47, _, .inr rfl, hv4⟩) HD.out hlo4
    have hb9 : Below B w4 (w4.setCell ⟨c5, 0, none⟩ v4) := (Below.refl B w4).setCell (p := ⟨c5, 0, none⟩) HS.out.low.2 _
    have h42 := HX12.out _ _ _ _ (by decide) (by decide) (by decide) HS.out.h4
    have h44 := carry c4 _ h42 (fun e => by
      obtain ⟨c, f, hc⟩ := own_row HOWN2.out c4 e
      rw [h42] at hc
      cases hc)
    have hne45 : c4 ≠ c5 := fun e => by
      rw [e, HV52.out] at h42
      cases h42
    have hown5 : OwnI B w4 v4 (oc ++ [n]) := by
      show w4.ownsRow B 3 1 v4 (oc ++ [n]).length ((oc ++ [n]).map iv)
      rw [List.length_append, List.map_append, ← HMO.out]
      exact hown4
    refine ⟨rfl, ⟨blk_set_ne h44 hne45 _ _, ⟨v4, blk_set hv4 0 _, own_set hown5 hv4 (by decide) 0 _⟩, ⟨pl1, hpu9⟩, HS.out.low, fun k hk => ?_, ?_⟩, ?_, ?_⟩
    · have hkV : k ∉ V := fun h => hk (mem_addV_old h)
      have hkn : k ≠ n := fun h => hk (by rw [h]; exact mem_addV V n)
      have h1 := HS.out.out k hkV
      rw [HQL.out]
      unfold markE
      rw [h1]
      split
      · simp [hkn]
      · simp
    · exact Nat.le_trans hlo4 hb9.size
    · exact (HBW.out.mono HLO.out).trans (HB12.out.trans (hb4.trans hb9))
    · refine (BoxS.of_below HBW.out).trans (HX12.out.trans fun b c t f h58 h3 h47 hb => ?_)
      refine blk_set_ne (carry b _ hb (fun e => ?_)) (fun e => ?_) _ _
      · obtain ⟨c', f', hc⟩ := own_row HOWN2.out b e
        rw [hb] at hc
        cases hc
        exact h3 rfl
      · rw [e, HV52.out] at hb
        cases hb
        exact h47 rfl)
  cases hen2 : en with
  | true =>
    rw [hen2] at p6 hbq
    simp only [Bool.true_or] at hbq
    subst hbq
    clear hen2
    go_upto_region 3 with fail
    rw [← HW2.out]
    obtain ⟨r5, r1⟩ := HR2.out
    clear p6 f6 c3 c1' c1 u0 hw2
    go_wp2_with (first | (at_builtin; go_must (refine wpList_append_own_at _ rfl (.tmp 21) (.tmp 24) 47 rfl B 3 i3 (.int .i64 0) 1 8 Try.underlying47 HI.out hz0 hz1 hz2 rfl (by decide) (.slice va mo vc) mo (oc.map iv) rfl HOA.out ⟨w2.heap.size, 0, none⟩ 1 1 [.int .i64 n] rfl rfl (new_cells (c := #[.int .i64 n]) _ (by simp)) (by simp [Value.oneCell']) (by unfold maxLen; omega) (by omega) hB99 ?_)))
    intro v4 w4 hown4 hg4 hnil4 hat4
    obtain ⟨g4, cap4, hv44⟩ := own_shape hown4 (by simpa using hnil4)
    subst hv44
    have hv4 : w4.heap[c5]? = some (.cells #[.slice va mo vc] 47 (0, 0)) := by
      have h1 := blk_alloc HV52.out (.cells #[.int .i64 n] 3)
      rw [hg4.block c5 (lt_of_block h1) (fun e => HNE.out e.symm)]
      exact h1
    have s0 : w4.cell? ⟨c5, 0, none⟩ = some (.slice va mo vc) := blk_cell hv4 0
    have f0 := blk_free hv4 0
    have HFIN := Lib.hid (FIN.out _ _ hown4 hg4)
    clear hown4 hg4 hnil4 hat4 hv4
    go_wp2_with fail
    go_end0
    exact HFIN.out
  | false =>
    rw [hen2] at p6 hbq
    simp only [Bool.false_or] at hbq
    obtain ⟨b1, hb1⟩ : ∃ b1, b1 = (q == 1) := ⟨_, rfl⟩
    have hq1 : (q == 1) = b1 := hb1.symm
    rw [← hb1] at hbq
    subst hbq
    clear hen2 hb1
    go_upto_region 3 with fail
    rw [← HW2.out]
    obtain ⟨r5, r1⟩ := HR2.out
    clear p6 f6 c3 c1' c1 u0 hw2
    go_wp2_with (first | (at_builtin; go_must (refine wpList_append_own_at _ rfl (.tmp 21) (.tmp 24) 47 rfl B 3 i3 (.int .i64 0) 1 8 Try.underlying47 HI.out hz0 hz1 hz2 rfl (by decide) (.slice va mo vc) mo (oc.map iv) rfl HOA.out ⟨w2.heap.size, 0, none⟩ 1 1 [.int .i64 n] rfl rfl (new_cells (c := #[.int .i64 n]) _ (by simp)) (by simp [Value.oneCell']) (by unfold maxLen; omega) (by omega) hB99 ?_)))
    intro v4 w4 hown4 hg4 hnil4 hat4
    obtain ⟨g4, cap4, hv44⟩ := own_shape hown4 (by simpa using hnil4)
    subst hv44
    have hv4 : w4.heap[c5]? = some (.cells #[.slice va mo vc] 47 (0, 0)) := by
      have h1 := blk_alloc HV52.out (.cells #[.int .i64 n] 3)
      rw [hg4.block c5 (lt_of_block h1) (fun e => HNE.out e.symm)]
      exact h1
    have s0 : w4.cell? ⟨c5, 0, none⟩ = some (.slice va mo vc) := blk_cell hv4 0
    have f0 := blk_free hv4 0
    have HFIN := Lib.hid (FIN.out _ _ hown4 hg4)
    clear hown4 hg4 hnil4 hat4 hv4
    go_wp2_with fail
    go_end0
    exact HFIN.out
end Go.Proofs.Ytdeomphilggokaa
