/-
  Proved: the contract of the reference's Top. Condition: what is known is in order.
-/
import Derived.Test.YtdeomphilggokaaT4
import Derived.Deep.LoopGhost
import Derived.BigRegion
set_option linter.unusedSimpArgs false
set_option linter.unusedVariables false
namespace Go.Proofs.Ytdeomphilggokaa
open Go.RowKit

/-- what Top and seen leave: the type on top -/
structure TopP (w : World) (D : Nat → Prop) (u : Ty) (e : Ending) (w' : World) : Prop where
  out : ∃ ao cap, e = .returned (.agg (rowOf u ao cap)) ∧ SlD w' D u.args ao cap ∧ Below w.heap.size w w'
theorem loop_len (b : ByteArray) : ∀ (m i : Nat) (r : List UInt8), b.size - i ≤ m → r.length ≤ (ByteArray.toList.loop b i r).length
  | 0, i, r, h => by
    rw [ByteArray.toList.loop, if_neg (by omega)]
    simp
  | m + 1, i, r, h => by
    rw [ByteArray.toList.loop]
    split
    · have := loop_len b m (i + 1) (b.get! i :: r) (by omega)
      simp at this
      omega
    · simp
theorem bytes_none {b : ByteArray} (h : b.toList = []) : b = ⟨#[]⟩ := by
  have h0 : b.size = 0 := by
    rcases Nat.eq_zero_or_pos b.size with h1 | h1
    · exact h1
    · exfalso
      rw [ByteArray.toList, ByteArray.toList.loop, if_pos h1] at h
      have := loop_len b b.size (0 + 1) [b.get! 0] (by omega)
      rw [h] at this
      simp at this
  refine ByteArray.ext ?_
  exact Array.eq_empty_of_size_eq_zero h0
theorem name_bare {t : Ty} (h : shapedD t = true) (hk : t.k = 0) : t.s = ⟨#[]⟩ := by
  rw [shaped_args] at h
  simp only [Bool.and_eq_true] at h
  have h1 := h.1
  unfold okT at h1
  rw [if_pos hk] at h1
  have h2 := (of_decide_eq_true h1).2.1
  exact bytes_none h2
theorem RU.lookB {B : Nat} {w : World} {sb mb me : Nat} {V : List Int} {D : Nat → Prop} {st : St} (h : RU B w sb mb me V D st) {n : Int} (hn : I64 n) :
    ∃ r : Option Bt, st.b n = r.map Bt.t ∧ (∀ x, r = some x → SlD w D x.t.args x.ao x.cap) ∧ ∀ w' : World, w'.heap[mb]? = w.heap[mb]? → (Instr.lookup 70 (.map (some mb)) (.int .i64 n) true).run Try.prog w' = .ok (.tuple #[(r.map Bt.val).getD (.agg #[.int .i64 0, .int .i64 0, .string ⟨#[]⟩, .int .i64 0, .slice none 0 0]), .bool r.isSome]) w' := by
  obtain ⟨ks, bt, h1, h2, h3, h4, h5⟩ := h.by'
  refine ⟨bt n, (h5 n).1, (h5 n).2, fun w' he => ?_⟩
  have := ((h1.of_same he).f.look Try.underlying70 (zero33 w') hn).2
  rw [this]
  cases bt n <;> rfl
theorem RU.lookE {B : Nat} {w : World} {sb mb me : Nat} {V : List Int} {D : Nat → Prop} {st : St} (h : RU B w sb mb me V D st) {n : Int} (hn : I64 n) :
    ∀ w' : World, w'.heap[me]? = w.heap[me]? → (Instr.lookup 77 (.map (some me)) (.int .i64 n) false).run Try.prog w' = .ok (.int .i64 (if st.e n = true then 1 else 0)) w' := by
  obtain ⟨ks, h1, _⟩ := h.eq
  intro w' he
  have := ((h1.of_same he).f.look Try.underlying77 (zero3 w') hn).1
  rw [this]
  cases st.e n <;> rfl
/-- what a row of five cells says, cell by cell, for a walk -/
theorem five_cells {w : World} {b : Nat} {v0 v1 v2 v3 v4 : Value} (h : w.heap[b]? = some (.cells #[v0, v1, v2, v3, v4] 33 (0, 0))) : (w.cell? ⟨b, 0, none⟩ = some v0 ∧ w.cell? ⟨b, 1, none⟩ = some v1 ∧ w.cell? ⟨b, 2, none⟩ = some v2 ∧ w.cell? ⟨b, 3, none⟩ = some v3 ∧ w.cell? ⟨b, 4, none⟩ = some v4) ∧ (w.frozen? ⟨b, 0, none⟩ = false ∧ w.frozen? ⟨b, 1, none⟩ = false ∧ w.frozen? ⟨b, 2, none⟩ = false ∧ w.frozen? ⟨b, 3, none⟩ = false ∧ w.frozen? ⟨b, 4, none⟩ = false) :=
  ⟨⟨blk_cell h 0, blk_cell h 1, blk_cell h 2, blk_cell h 3, blk_cell h 4⟩, ⟨blk_free h 0, blk_free h 1, blk_free h 2, blk_free h 3, blk_free h 4⟩⟩
/-- block b holds a type's cells -/
abbrev TB (W : World) (b : Nat) (p : Ty) (ao : Option Addr) (cap : Nat) : Prop := W.heap[b]? = some (.cells (rowOf p ao cap) 33 (0, 0))
abbrev set5 (W : World) (b : Nat) (p : Ty) (ao : Option Addr) (cap : Nat) : World :=
  ((((W.setCell ⟨b, 0, none⟩ (.int .i64 p.k)).setCell ⟨b, 1, none⟩ (.int .i64 p.n)).setCell ⟨b, 2, none⟩ (.string p.s)).setCell ⟨b, 3, none⟩ (.int .i64 p.q)).setCell ⟨b, 4, none⟩ (.slice ao p.args.length cap)
theorem TB.set {W : World} {b : Nat} {v0 v1 v2 v3 v4 : Value} (h : W.heap[b]? = some (.cells #[v0, v1, v2, v3, v4] 33 (0, 0))) (q : Ty) (aq : Option Addr) (cq : Nat) : TB (set5 W b q aq cq) b q aq cq :=
  blk_set (blk_set (blk_set (blk_set (blk_set h 0 _) 1 _) 2 _) 3 _) 4 _
theorem set5_ne {W : World} {b c : Nat} {o : Option Obj} {q : Ty} {aq : Option Addr} {cq : Nat} (h : W.heap[c]? = o) (hne : c ≠ b) : (set5 W b q aq cq).heap[c]? = o :=
  blk_set_ne (blk_set_ne (blk_set_ne (blk_set_ne (blk_set_ne h hne _ _) hne _ _) hne _ _) hne _ _) hne _ _
theorem below_set5 {N : Nat} {w W : World} {b : Nat} {q : Ty} {aq : Option Addr} {cq : Nat} (h : Below N w W) (hb : N ≤ b) : Below N w (set5 W b q aq cq) :=
  ((((h.setCell (p := ⟨b, 0, none⟩) hb _).setCell (p := ⟨b, 1, none⟩) hb _).setCell (p := ⟨b, 2, none⟩) hb _).setCell (p := ⟨b, 3, none⟩) hb _).setCell (p := ⟨b, 4, none⟩) hb _
theorem res_ty {fn : Func} {t : Tmp} (h : fn.results = #[.cell t 33]) {tmps : Array Value} {w : World} {b : Nat} {p : Ty} {ao : Option Addr} {cap : Nat} (ht : tmps.getD t undef = .pointer (some ⟨b, 0, none⟩)) (hb : TB w b p ao cap) :
    (results fn tmps).run Try.prog w = .ok (.agg (rowOf p ao cap)) w :=
  results_cell_row (h := h) _ _ b 33 _ (0, 0) _ ht hb Try.underlying33 rfl (by kernel_rfl)
theorem blk_alloc_eq {w : World} {p : Nat} (o : Obj) (h : p < w.heap.size) : (w.alloc o).drew.heap[p]? = w.heap[p]? := Below.heap_alloc _ _ _ h
theorem RU.ltB {B : Nat} {w : World} {sb mb me : Nat} {V : List Int} {D : Nat → Prop} {st : St} (h : RU B w sb mb me V D st) : mb < w.heap.size := by
  obtain ⟨ks, bt, h1, _⟩ := h.by'
  exact h1.lt
theorem RU.ltE {B : Nat} {w : World} {sb mb me : Nat} {V : List Int} {D : Nat → Prop} {st : St} (h : RU B w sb mb me V D st) : me < w.heap.size := by
  obtain ⟨ks, h1, _⟩ := h.eq
  exact h1.lt
theorem bthen' {N : Nat} {w w1 w2 : World} (h : Below N w w1) (hb : Below w1.heap.size w1 w2) (hN : N ≤ w1.heap.size := by omega) : Below N w w2 := h.trans (hb.mono hN)
theorem sl_nil {w : World} {D : Nat → Prop} {l : List Ty} {ao : Option Addr} {cap : Nat} (h : l = []) : SlD w D l ao cap := by rw [h]; exact ⟨Nat.zero_le _, by unfold ArgsV; trivial⟩
def zeroRow : Array Value := #[.int .i64 0, .int .i64 0, .string ⟨#[]⟩, .int .i64 0, .slice none 0 0]
theorem two_boxes {w X : World} {t : Ty} {ao : Option Addr} {cap : Nat} (hX : X = (w.alloc (.cells (rowOf t ao cap) 33)).alloc (.cells zeroRow 33)) : Below w.heap.size w X ∧ X.heap.size = w.heap.size + 2 ∧ X.heap[w.heap.size]? = some (.cells (rowOf t ao cap) 33 (0, 0)) ∧ X.heap[w.heap.size + 1]? = some (.cells zeroRow 33 (0, 0)) := by
  obtain ⟨W, hW⟩ : ∃ W, W = w.alloc (.cells (rowOf t ao cap) 33) := ⟨_, rfl⟩
  obtain ⟨hbW, hlW, hrow⟩ := box_at hW
  have hs : W.heap.size = w.heap.size + 1 := by rw [hW]; simp
  rw [← hW] at hX
  refine ⟨by rw [hX]; exact balloc hbW _, by rw [hX, World.size_alloc, hs], by rw [hX]; exact blk_alloc hrow _, ?_⟩
  rw [hX, ← hs]
  exact heap_alloc_new W _
set_option maxRecDepth 100000 in
set_option maxHeartbeats 8000000 in
theorem rtop_any (B : Nat) (sb mb me : Nat) (V : List Int) (D : Nat → Prop) (st : St) (hok : StOk V st) (t : Ty) (hw : Wf V st.e t) (ao : Option Addr) (cap : Nat) (w : World) (hD : ∀ b, D b → b < w.heap.size) (hR : RU B w sb mb me V D st) (hv : SlD w D t.args ao cap) :
    Calls Try.prog 64 #[.pointer (some ⟨sb, 0, none⟩), .agg (rowOf t ao cap)] w (TopP w D (topT st.e st.b t)) := by
  obtain ⟨T, f, hT⟩ := hok.total t
  obtain ⟨U, hU⟩ : ∃ U, U = topT st.e st.b t := ⟨_, rfl⟩
  have hU2 : top st.e st.b f t = U := by rw [hU, topT_eq st.e hT]
  rw [← hU]
  obtain ⟨X, hX⟩ : ∃ X, X = (w.alloc (.cells (rowOf t ao cap) 33)).alloc (.cells zeroRow 33) := ⟨_, rfl⟩
  obtain ⟨hbX, hszX, hr0, hr1⟩ := two_boxes hX
  have HREL := Lib.hid (And.intro hT (And.intro hU2 (And.intro hw (And.intro hr0 (And.intro hr1 (And.intro (hv.keep fun b hb off => below_cells hbX b (hD b hb) off) hbX))))))
  have HR := Lib.hid hR
  have HOK := Lib.hid hok
  have HD := Lib.hid hD
  have hl : w.heap.size < w.heap.size + 2 := by omega
  unfold rowOf zeroRow at hX
  have HX := Lib.hid hX
  have HZ := Lib.hid (by rw [hszX]; omega : w.heap.size + 1 < X.heap.size)
  clear hX hT hU hU2 hw hr0 hr1 hv hbX hszX hR hok hD hl
  unfold rowOf
  go_enter Try.func64, Try.ntmps64
  go_wp2_with fail
  rw [← HX.out]
  generalize Value.agg #[.int .i64 t.k, .int .i64 t.n, .string t.s, .int .i64 t.q, .slice ao t.args.length cap] = v0
  go_loopg [5, 6] f (fun k x y wr => ∃ t' ao' cap', expand st.b k t' = some T ∧ top st.e st.b k t' = U ∧ Wf V st.e t' ∧ wr.heap[w.heap.size]? = some (.cells (rowOf t' ao' cap') 33 (0, 0)) ∧ wr.heap[w.heap.size + 1]? = some (.cells zeroRow 33 (0, 0)) ∧ SlD wr D t'.args ao' cap' ∧ Below w.heap.size w wr)
  case atStart =>
    obtain ⟨h1, h2, h3, h4, h5, h6, h7⟩ := HREL.out
    exact ⟨t, ao, cap, h1, h2, h3, h4, h5, h6, h7⟩
  case round =>
    obtain ⟨t', ao', cap', hT', hU', hw', hb0, hb1, hv', hbel⟩ := hrel
    obtain ⟨g, rfl⟩ : ∃ g, gk = g + 1 := by
      cases gk with
      | zero => simp [expand] at hT'
      | succ g => exact ⟨g, rfl⟩
    obtain ⟨wo, rfl⟩ : ∃ wo : World, wo = wr := ⟨_, rfl⟩
    have HB0 := Lib.hid hb0
    have HB1 := Lib.hid hb1
    have HV := Lib.hid hv'
    have HBEL := Lib.hid hbel
    have HRO := Lib.hid (HR.out.keep hbel HD.out)
    have HW := Lib.hid hw'
    have HT := Lib.hid hT'
    have HU := Lib.hid hU'
    have hs0 := HRO.out.s
    unfold rowOf at hb0
    have s0 : wo.cell? ⟨sb, 0, none⟩ = some (.map (some mb)) := blk_cell hs0 0
    have s1 : wo.cell? ⟨sb, 1, none⟩ = some (.map (some me)) := blk_cell hs0 1
    have c0 : wo.cell? ⟨w.heap.size, 0, none⟩ = some (.int .i64 t'.k) := blk_cell hb0 0
    have c1 : wo.cell? ⟨w.heap.size, 1, none⟩ = some (.int .i64 t'.n) := blk_cell hb0 1
    have c2 : wo.cell? ⟨w.heap.size, 2, none⟩ = some (.string t'.s) := blk_cell hb0 2
    have c3 : wo.cell? ⟨w.heap.size, 3, none⟩ = some (.int .i64 t'.q) := blk_cell hb0 3
    have c4 : wo.cell? ⟨w.heap.size, 4, none⟩ = some (.slice ao' t'.args.length cap') := blk_cell hb0 4
    have hb1c := hb1
    unfold zeroRow at hb1c
    obtain ⟨⟨d0, d1, d2, d3, d4⟩, ⟨z0, z1, z2, z3, z4⟩⟩ := five_cells hb1c
    obtain ⟨_, ⟨y0, y1, y2, y3, y4⟩⟩ := five_cells hb0
    by_cases hk : t'.k = 0
    · have e0 : (t'.k == 0) = true := by simp [hk]
      have hn := hw'.fits.n
      obtain ⟨r, hr1, hr2, hlook⟩ := HRO.out.lookB hn
      have HR1 := Lib.hid hr1
      have HR2 := Lib.hid hr2
      have HL := Lib.hid hlook
      have HK := Lib.hid hk
      clear hb0 hb1 hb1c hv' hbel hw' hT' hU' hs0 hk hr1 hr2 hlook hn
      cases r with
      | none =>
        have l1 := HL.out wo.drew rfl
        have l2 := HL.out (wo.alloc (.cells #[.int .i64 0, .int .i64 0, .string ⟨#[]⟩, .int .i64 0, .slice none 0 0] 33)).drew (blk_alloc_eq _ (HRO.out.ltB))
        simp only [Option.map_none, Option.getD_none, Option.isSome_none] at l1 l2
        have p1 : w.heap.size < wo.heap.size := lt_of_block HB0.out
        have p2 : w.heap.size + 1 < wo.heap.size := lt_of_block HB1.out
        have p3 : sb < wo.heap.size := lt_of_block HRO.out.s
        go_upto_region 2 with fail
        go_cut [5, 6] from 10 to 19 (fun x y wx => x = .pointer (some ⟨wo.heap.size, 0, none⟩) ∧ y = .bool false ∧ wx = (wo.alloc (.cells #[.int .i64 0, .int .i64 0, .string ⟨#[]⟩, .int .i64 0, .slice none 0 0] 33)).drew)
        case first =>
          go_region
          all_goals (go_wp2_with fail; go_meet; exact ⟨rfl, rfl, rfl⟩)
        case rest =>
        obtain ⟨rfl, rfl, hY⟩ := hcut
        obtain ⟨Y, rfl⟩ : ∃ Y : World, Y = wc := ⟨_, rfl⟩
        have hbY : Below wo.heap.size wo Y := by rw [hY]; exact (balloc (Below.refl _ _) _).drew
        have hTY : TB Y w.heap.size t' ao' cap' := blk_below HB0.out hbY p1
        have hRY : Y.heap[w.heap.size + 1]? = some (.cells zeroRow 33 (0, 0)) := blk_below HB1.out hbY p2
        have hSY := HRO.out.keep hbY (fun b hb => Nat.lt_trans (HD.out b hb) p1)
        have HTY := Lib.hid hTY
        have HRY := Lib.hid hRY
        have HSY := Lib.hid hSY
        have HBY := Lib.hid hbY
        have HN := Lib.hid (HW.out.fits.n)
        have s1' : Y.cell? ⟨sb, 1, none⟩ = some (.map (some me)) := blk_cell hSY.s 1
        have le := hSY.lookE HN.out Y.drew rfl
        obtain ⟨q, hq⟩ : ∃ q : Int, q = if st.e t'.n = true then 1 else 0 := ⟨_, rfl⟩
        rw [← hq] at le
        have HQ := Lib.hid hq
        unfold rowOf at hTY
        unfold zeroRow at hRY
        clear s0 s1 c0 c1 c2 c3 c4 d0 d1 d2 d3 d4 z0 z1 z2 z3 z4 y0 y1 y2 y3 y4 l1 l2 p1 p2 p3 hY hbY hSY hq
        obtain ⟨⟨c0, c1, c2, c3, c4⟩, ⟨y0, y1, y2, y3, y4⟩⟩ := five_cells hTY
        obtain ⟨⟨d0, d1, d2, d3, d4⟩, ⟨z0, z1, z2, z3, z4⟩⟩ := five_cells hRY
        clear hTY hRY
        go_upto_region 4 with fail
        go_cut [] from 22 to 29 (fun wx => wx = (Y.setCell ⟨w.heap.size, 3, none⟩ (.int .i64 q)).drew)
        case first =>
          go_region
          all_goals (go_wp2_with fail; go_meet; rfl)
        case rest =>
        obtain ⟨Z, rfl⟩ : ∃ Z : World, Z = wc := ⟨_, rfl⟩
        have hTZ : TB Z w.heap.size U ao' cap' := by
          rw [hcut]
          have h1 := blk_set HTY.out 3 (.int .i64 q)
          have hsh := HW.out.sh
          have hU2 : U = varT st.e t'.n := by
            have h2 := HU.out
            have hb : st.b t'.n = none := by rw [HR1.out]; rfl
            rw [top, if_pos HK.out, hb] at h2
            exact h2.symm
          have e : rowOf U ao' cap' = (rowOf t' ao' cap').setIfInBounds 3 (.int .i64 q) := by
            rw [hU2]
            have ea : t'.args = [] := var_bare hsh HK.out
            have es := name_bare hsh HK.out
            have ek := HK.out
            unfold rowOf varT
            rw [ea, es, ek, HQ.out]
            rfl
          show (Y.setCell ⟨w.heap.size, 3, none⟩ (.int .i64 q)).heap[w.heap.size]? = _
          rw [e]; exact h1
        have hRZ : Z.heap[w.heap.size + 1]? = some (.cells zeroRow 33 (0, 0)) := by
          rw [hcut]
          exact blk_set_ne HRY.out (Nat.succ_ne_self _) 3 _
        have hbZ : Below w.heap.size w Z := by
          rw [hcut]
          exact ((bthen' HBEL.out HBY.out HBEL.out.size).setCell (p := ⟨w.heap.size, 3, none⟩) (Nat.le_refl _) _).drew
        have hsZ : SlD Z D U.args ao' cap' := sl_nil (by
          have h2 := HU.out
          have hb : st.b t'.n = none := by rw [HR1.out]; rfl
          rw [top, if_pos HK.out, hb] at h2
          rw [← h2]; rfl)
        have HTZ := Lib.hid hTZ
        have HRZ := Lib.hid hRZ
        have HBZ := Lib.hid hbZ
        have HSZ := Lib.hid hsZ
        clear c0 c1 c2 c3 c4 d0 d1 d2 d3 d4 z0 z1 z2 z3 z4 y0 y1 y2 y3 y4 hcut hbZ hsZ s1' le
        unfold rowOf at hTZ
        unfold zeroRow at hRZ
        obtain ⟨⟨c0, c1, c2, c3, c4⟩, _⟩ := five_cells hTZ
        obtain ⟨⟨d0, d1, d2, d3, d4⟩, ⟨z0, z1, z2, z3, z4⟩⟩ := five_cells hRZ
        clear hTZ hRZ
        go_wp2_with fail
        have hTB : TB (set5 Z (w.heap.size + 1) U ao' cap') (w.heap.size + 1) U ao' cap' := TB.set HRZ.out U ao' cap'
        have hfin : TopP w D U (.returned (.agg (rowOf U ao' cap'))) (set5 Z (w.heap.size + 1) U ao' cap') :=
          ⟨ao', cap', rfl, HSZ.out.keep fun b hb off => below_cells (below_set5 (q := U) (aq := ao') (cq := cap') (Below.refl w.heap.size Z) (Nat.le_succ _)) b (HD.out b hb) off, below_set5 HBZ.out (Nat.le_succ _)⟩
        exact bodyPost_ret (v := .agg (rowOf U ao' cap')) (res_ty rfl rfl hTB) rfl hfin
      | some x =>
        obtain ⟨xt, xo, xc⟩ := x
        have l1 := HL.out wo.drew rfl
        have l2 := HL.out (wo.alloc (.cells #[.int .i64 0, .int .i64 0, .string ⟨#[]⟩, .int .i64 0, .slice none 0 0] 33)).drew (blk_alloc_eq _ (HRO.out.ltB))
        simp only [Option.map_some, Option.getD_some, Option.isSome_some, Bt.val, rowOf] at l1 l2
        have hbx : st.b t'.n = some xt := by rw [HR1.out]; rfl
        have hvx := HR2.out _ rfl
        have HBX := Lib.hid hbx
        have HVX := Lib.hid hvx
        have p1 : w.heap.size < wo.heap.size := lt_of_block HB0.out
        have p2 : w.heap.size + 1 < wo.heap.size := lt_of_block HB1.out
        have p3 : sb < wo.heap.size := lt_of_block HRO.out.s
        clear hbx hvx
        go_upto_region 2 with fail
        go_cut [5, 6] from 10 to 19 (fun x y wx => x = .pointer (some ⟨wo.heap.size, 0, none⟩) ∧ y = .bool true ∧ wx = (wo.alloc (.cells #[.int .i64 xt.k, .int .i64 xt.n, .string xt.s, .int .i64 xt.q, .slice xo xt.args.length xc] 33)).drew)
        case first =>
          go_region
          all_goals (go_wp2_with fail; go_meet; exact ⟨rfl, rfl, rfl⟩)
        case rest =>
        obtain ⟨rfl, rfl, hY⟩ := hcut
        obtain ⟨Y, rfl⟩ : ∃ Y : World, Y = wc := ⟨_, rfl⟩
        have hbY : Below wo.heap.size wo Y := by rw [hY]; exact (balloc (Below.refl _ _) _).drew
        have hTY : TB Y w.heap.size t' ao' cap' := blk_below HB0.out hbY p1
        have hRY : Y.heap[w.heap.size + 1]? = some (.cells zeroRow 33 (0, 0)) := blk_below HB1.out hbY p2
        have hXY : TB Y wo.heap.size xt xo xc := by rw [hY]; exact heap_alloc_new wo _
        have HTY := Lib.hid hTY
        have HRY := Lib.hid hRY
        have HBY := Lib.hid hbY
        have hne : ¬ w.heap.size = wo.heap.size := by omega
        have hne' : ¬ wo.heap.size = w.heap.size := by omega
        unfold rowOf at hTY hXY
        clear s0 s1 c0 c1 c2 c3 c4 d0 d1 d2 d3 d4 z0 z1 z2 z3 z4 y0 y1 y2 y3 y4 l1 l2 p1 p2 p3 hY hbY
        obtain ⟨⟨c0, c1, c2, c3, c4⟩, ⟨y0, y1, y2, y3, y4⟩⟩ := five_cells hTY
        obtain ⟨⟨d0, d1, d2, d3, d4⟩, _⟩ := five_cells hXY
        clear hTY hXY
        go_wp2_with fail
        go_roundg g
        case measure => exact Nat.lt_succ_self _
        case rel =>
          have hb9 : Below w.heap.size wo (set5 Y w.heap.size xt xo xc) := below_set5 (HBY.out.mono HBEL.out.size) (Nat.le_refl _)
          refine ⟨xt, xo, xc, ?_, ?_, (HOK.out.wf _ _ HBX.out).2, TB.set HTY.out xt xo xc, set5_ne HRY.out (Nat.succ_ne_self _), HVX.out.keep fun b hb off => below_cells hb9 b (HD.out b hb) off, HBEL.out.trans hb9⟩
          · have h1 := HT.out
            rw [expand_bound HK.out HBX.out] at h1
            exact h1
          · have h1 := HU.out
            rw [top, if_pos HK.out, HBX.out] at h1
            exact h1
    · have e0 : (t'.k == 0) = false := by simp [hk]
      have hUe : U = t' := by
        have := HU.out
        rw [top, if_neg hk] at this
        exact this.symm
      have HUE := Lib.hid hUe
      have HK := Lib.hid hk
      clear hb0 hb1 hb1c hv' hbel hw' hT' hU' hs0 hk hUe
      go_wp2_with fail
      obtain ⟨W9, hW9⟩ : ∃ W9, W9 = set5 wo (w.heap.size + 1) t' ao' cap' := ⟨_, rfl⟩
      have hTB : TB W9 (w.heap.size + 1) t' ao' cap' := by rw [hW9]; exact TB.set HB1.out t' ao' cap'
      have hbW9 : Below w.heap.size w W9 := by rw [hW9]; exact below_set5 HBEL.out (Nat.le_succ _)
      have hfin : TopP w D U (.returned (.agg (rowOf t' ao' cap'))) W9 := by
        rw [HUE.out]
        refine ⟨ao', cap', rfl, ?_, hbW9⟩
        rw [hW9]
        exact HV.out.keep fun b hb off => below_cells (below_set5 (q := t') (aq := ao') (cq := cap') (Below.refl w.heap.size wo) (Nat.le_succ _)) b (HD.out b hb) off
      rw [hW9] at hTB hfin
      exact bodyPost_ret (v := .agg (rowOf t' ao' cap')) (res_ty rfl rfl hTB) rfl hfin
end Go.Proofs.Ytdeomphilggokaa
