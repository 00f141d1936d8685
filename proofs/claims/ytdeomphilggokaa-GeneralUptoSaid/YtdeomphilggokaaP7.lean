/-
  Proved: the contract of the program's Full. Condition: what is known is in order, a type of at most 1000 parts.
-/
import Derived.Test.YtdeomphilggokaaP6
set_option linter.unusedSimpArgs false
set_option linter.unusedVariables false
namespace Go.Proofs.Ytdeomphilggokaa
open Go.RowKit

theorem made_five (n : Nat) : ∃ A : Array Value, A.size = n * 5 ∧ ∀ w : World, n ≤ 10000000 → (Instr.makeSlice 31 (.int .i64 n) (.int .i64 n)).run Try.prog w = .ok (.slice (some ⟨w.heap.size, 0, none⟩) n n) (w.alloc (.cells A 33)) := by
  obtain ⟨i, hi, h1, h2, h3⟩ := info_parts info33
  refine ⟨madeCells (Value.agg #[.int .i64 0, .int .i64 0, .string ⟨#[]⟩, .int .i64 0, .slice none 0 0]).cells (n * 5), by simp [madeCells], fun w hn => ?_⟩
  have h := run_make (P := Try.prog) w 31 33 i _ Try.underlying31 hi h1 .i64 .i64 n n (by omega) (by omega) (by rw [h3]; omega) (by omega)
  rw [h]
  simp only [Int.toNat_natCast, h2, Value.cells]
/-- five stores into a row -/
abbrev setR (W : World) (b o : Nat) (p : Ty) (ao : Option Addr) (cap : Nat) : World :=
  ((((W.setCell ⟨b, o, none⟩ (.int .i64 p.k)).setCell ⟨b, o + 1, none⟩ (.int .i64 p.n)).setCell ⟨b, o + 2, none⟩ (.string p.s)).setCell ⟨b, o + 3, none⟩ (.int .i64 p.q)).setCell ⟨b, o + 4, none⟩ (.slice ao p.args.length cap)
theorem setR_gr (W : World) (b o : Nat) (p : Ty) (ao : Option Addr) (cap : Nat) : W.grownBy (setR W b o p ao cap) (some b) :=
  gr_trans (gr_trans (gr_trans (gr_trans (gr_set W b o _) (gr_set _ b (o + 1) _)) (gr_set _ b (o + 2) _)) (gr_set _ b (o + 3) _)) (gr_set _ b (o + 4) _)
theorem setR_row {W : World} {b : Nat} {A : Array Value} {n j : Nat} (h : W.heap[b]? = some (.cells A 33 (0, 0))) (hA : A.size = n * 5) (hj : j < n) {bs : List Bt} (hl : bs.length = j) (ht : A.toList.take (j * 5) = tcells bs) (p : Ty) (ao : Option Addr) (cap : Nat) :
    ∃ A' : Array Value, (setR W b (j * 5) p ao cap).heap[b]? = some (.cells A' 33 (0, 0)) ∧ A'.size = n * 5 ∧ A'.toList.take ((j + 1) * 5) = tcells (bs ++ [⟨p, ao, cap⟩]) := by
  refine ⟨_, blk_set (blk_set (blk_set (blk_set (blk_set h (j * 5) _) (j * 5 + 1) _) (j * 5 + 2) _) (j * 5 + 3) _) (j * 5 + 4) _, by simp [hA], ?_⟩
  have hlen : (tcells bs).length = j * 5 := by rw [tcells_len, hl]
  refine List.ext_getElem? fun i => ?_
  rw [tcells_append, List.getElem?_take]
  have e2 : tcells [⟨p, ao, cap⟩] = [.int .i64 p.k, .int .i64 p.n, .string p.s, .int .i64 p.q, .slice ao p.args.length cap] := rfl
  rw [e2]
  by_cases hi : i < j * 5
  · rw [if_pos (by omega), List.getElem?_append_left (by omega), ← ht, List.getElem?_take, if_pos hi]
    simp only [Array.toList_setIfInBounds]
    rw [List.getElem?_set_ne (by omega), List.getElem?_set_ne (by omega), List.getElem?_set_ne (by omega), List.getElem?_set_ne (by omega), List.getElem?_set_ne (by omega)]
  · rw [List.getElem?_append_right (by omega), hlen]
    by_cases hi2 : i < (j + 1) * 5
    · rw [if_pos hi2]
      have hs : j * 5 + 4 < A.toList.length := by rw [Array.length_toList]; omega
      have hh : i = j * 5 ∨ i = j * 5 + 1 ∨ i = j * 5 + 2 ∨ i = j * 5 + 3 ∨ i = j * 5 + 4 := by omega
      simp only [Array.toList_setIfInBounds]
      rcases hh with rfl | rfl | rfl | rfl | rfl
      · rw [List.getElem?_set_ne (by omega), List.getElem?_set_ne (by omega), List.getElem?_set_ne (by omega), List.getElem?_set_ne (by omega), List.getElem?_set_self (by omega)]
        simp
      · rw [List.getElem?_set_ne (by omega), List.getElem?_set_ne (by omega), List.getElem?_set_ne (by omega), List.getElem?_set_self (by simp; omega)]
        simp
      · rw [List.getElem?_set_ne (by omega), List.getElem?_set_ne (by omega), List.getElem?_set_self (by simp; omega)]
        simp
      · rw [List.getElem?_set_ne (by omega), List.getElem?_set_self (by simp; omega)]
        simp
      · rw [List.getElem?_set_self (by simp; omega)]
        simp
    · rw [if_neg hi2]
      rw [List.getElem?_eq_none (by simp; omega)]
/-- a filled row read as a slice of types -/
theorem row_read {w : World} {D D' : Nat → Prop} {b : Nat} {A : Array Value} {bs : List Bt} (h : w.heap[b]? = some (.cells A 33 (0, 0))) (hA : A.size = bs.length * 5) (ht : A.toList.take (bs.length * 5) = tcells bs) (hs : ∀ x ∈ bs, SlD w D x.t.args x.ao x.cap) (hD : ∀ b, D b → D' b) (hb : D' b) : SlD w D' (bs.map Bt.t) (some ⟨b, 0, none⟩) bs.length := by
  refine ⟨by simp, ArgsV.of fun k hk => ?_⟩
  have hk' : k < bs.length := by simpa using hk
  refine ⟨b, 0, (rowOf bs[k].t bs[k].ao bs[k].cap).toList, rfl, hb, fun j hj => ?_, ?_⟩
  · have h4 := tcells_get hk' hj
    rw [← ht, List.getElem?_take, if_pos (by omega), Array.getElem?_toList] at h4
    rw [blk_cell h, Nat.zero_add, Nat.zero_add]
    exact h4
  · rw [List.getElem_map]
    exact TyV.mk' ((hs _ (List.getElem_mem hk')).mono hD)
/-- a row's five cells, as a walk wants them for a store -/
theorem row_cells {w : World} {b : Nat} {A : Array Value} {n j : Nat} (h : w.heap[b]? = some (.cells A 33 (0, 0))) (hA : A.size = n * 5) (hj : j < n) : (∃ v0 v1 v2 v3 v4, w.cell? ⟨b, j * 5, none⟩ = some v0 ∧ w.cell? ⟨b, j * 5 + 1, none⟩ = some v1 ∧ w.cell? ⟨b, j * 5 + 2, none⟩ = some v2 ∧ w.cell? ⟨b, j * 5 + 3, none⟩ = some v3 ∧ w.cell? ⟨b, j * 5 + 4, none⟩ = some v4) ∧ (w.frozen? ⟨b, j * 5, none⟩ = false ∧ w.frozen? ⟨b, j * 5 + 1, none⟩ = false ∧ w.frozen? ⟨b, j * 5 + 2, none⟩ = false ∧ w.frozen? ⟨b, j * 5 + 3, none⟩ = false ∧ w.frozen? ⟨b, j * 5 + 4, none⟩ = false) := by
  refine ⟨⟨A[j * 5]'(by omega), A[j * 5 + 1]'(by omega), A[j * 5 + 2]'(by omega), A[j * 5 + 3]'(by omega), A[j * 5 + 4]'(by omega), ?_, ?_, ?_, ?_, ?_⟩, ⟨blk_free h _, blk_free h _, blk_free h _, blk_free h _, blk_free h _⟩⟩
  · rw [blk_cell h]; exact Array.getElem?_eq_getElem _
  · rw [blk_cell h]; exact Array.getElem?_eq_getElem _
  · rw [blk_cell h]; exact Array.getElem?_eq_getElem _
  · rw [blk_cell h]; exact Array.getElem?_eq_getElem _
  · rw [blk_cell h]; exact Array.getElem?_eq_getElem _
set_option maxRecDepth 100000 in
set_option maxHeartbeats 16000000 in
theorem pfull_any (B : Nat) (ub mq : Nat) (V : List Int) (pl : Int → Nat) (D : Nat → Prop) (st : St) : ∀ (f : Nat) (t : Ty), parts (exT st.b t) ≤ f → f ≤ 1000 → Wf V st.e t → ∀ (ao : Option Addr) (cap : Nat) (w : World), PK B ub mq V pl D st w → SlD w D t.args ao cap →
    Calls Try.prog 31 #[.pointer (some ⟨ub, 0, none⟩), .agg (rowOf t ao cap)] w (FullP w (markT st.e (exT st.b t))) := by
  intro f
  induction f with
  | zero => intro t ht; have := parts_pos (exT st.b t); omega
  | succ f IH =>
    intro t ht hf9 hw ao cap w hk hv
    obtain ⟨W, hW⟩ : ∃ W, W = (w.alloc (.cells (rowOf t ao cap) 33)).alloc (.cells zeroRow 33) := ⟨_, rfl⟩
    obtain ⟨hbW, hszW, hr0, hr1⟩ := two_boxes hW
    have hTO := top_ok hk.ok hw
    have HTOP : Hid (Calls Try.prog 52 #[.pointer (some ⟨ub, 0, none⟩), .agg (rowOf t ao cap)] W (TopP W D (topT st.e st.b t))) := Lib.hid (pseen_any B ub mq V pl D st t hw ao cap W (hk.keep hbW) (hv.keep fun b hb off => below_cells hbW b (hk.d b hb) off))
    obtain ⟨u, hu⟩ : ∃ u, u = topT st.e st.b t := ⟨_, rfl⟩
    rw [← hu] at hTO HTOP
    have hcl : u.args.length ≤ 1000 := by
      by_cases hk0 : u.k = 0
      · obtain ⟨_, h2, h3⟩ := top_free hTO hk0
        rw [h2]; simp [varT, Ty.args]
      · have h1 := parts_args (exT st.b t)
        rw [top_kid hTO hk0] at h1 ht
        have h2 : ∀ l : List Ty, l.length ≤ partsL l := fun l => by
          induction l with
          | nil => simp
          | cons p ps ih => rw [partsL, List.length_cons]; have := parts_pos p; omega
        have h3 := h2 (u.args.map (exT st.b))
        rw [parts] at ht
        simp at h3
        omega
    obtain ⟨F, hF⟩ : ∃ F, F = markT st.e (exT st.b t) := ⟨_, rfl⟩
    rw [← hF]
    have HFE : Hid (F = .mk u.k u.n u.s u.q (u.args.map fun x => markT st.e (exT st.b x))) := Lib.hid (by
      by_cases hk0 : u.k = 0
      · obtain ⟨_, h2, h3⟩ := top_free hTO hk0
        rw [hF, h3, bareT, markT, if_pos rfl, h2]
        rfl
      · rw [hF, top_kid hTO hk0, markT, if_neg hk0, markL_map, List.map_map]
        rfl)
    have HPT : Hid (∀ x ∈ u.args, u.k ≠ 0 ∧ parts (exT st.b x) ≤ f) := Lib.hid (fun x hx => by
      by_cases hk0 : u.k = 0
      · obtain ⟨_, h2, h3⟩ := top_free hTO hk0
        rw [h2] at hx
        cases hx
      · refine ⟨hk0, ?_⟩
        have h1 := parts_kid (t := .mk u.k u.n u.s u.q (u.args.map (exT st.b))) (List.mem_map_of_mem (f := exT st.b) hx)
        rw [← top_kid hTO hk0] at h1
        omega)
    have HTO := Lib.hid hTO
    have HK := Lib.hid hk
    have HIH := Lib.hid IH
    have HBW := Lib.hid hbW
    have HR0 := Lib.hid hr0
    have HR1 := Lib.hid hr1
    have hl1 : w.heap.size + 1 < W.heap.size := by rw [hszW]; omega
    obtain ⟨m, hm⟩ : ∃ m, m = t.args.length := ⟨_, rfl⟩
    unfold rowOf at hW HTOP hr0 ⊢
    unfold zeroRow at hW
    rw [← hm] at hW HTOP hr0 ⊢
    have HWW := Lib.hid hW
    have HR05 : Hid (W.heap[w.heap.size]? = some (.cells #[.int .i64 t.k, .int .i64 t.n, .string t.s, .int .i64 t.q, .slice ao m cap] 33 (0, 0))) := Lib.hid hr0
    obtain ⟨⟨c0, c1, c2, c3, c4⟩, -⟩ := five_cells hr0
    clear IH hTO hk hu hW hbW hr0 hr1 hv hw hm hF ht hszW
    go_enter Try.func31, Try.ntmps31
    go_upto_region 1 with fail
    rw [← HWW.out]
    clear HWW
    generalize Value.agg #[.int .i64 t.k, .int .i64 t.n, .string t.s, .int .i64 t.q, .slice ao m cap] = v0
    go_upto_region 2 with (first | (go_at_call 52; refine HTOP.out.mono ?_; rintro e w1 h1; obtain ⟨ap, cp, rfl, hs1, hb1⟩ := h1.out; have HS1 := Lib.hid hs1; have HB1 := Lib.hid hb1; have hrow1 := blk_below HR05.out hb1 (by omega); have HROW1 := Lib.hid hrow1; unfold rowOf at ⊢; obtain ⟨⟨k0, k1, k2, k3, k4⟩, ⟨y0, y1, y2, y3, y4⟩⟩ := five_cells hrow1; clear h1 hs1 hb1 hrow1))
    obtain ⟨Y, hY⟩ : ∃ Y, Y = set5 w1 w.heap.size u ap cp := ⟨_, rfl⟩
    have HY := Lib.hid hY
    unfold set5 at hY
    rw [← hY]
    have HBY : Hid (Below w.heap.size w Y) := Lib.hid (by rw [HY.out]; exact below_set5 (bthen HBW.out HB1.out) (Nat.le_refl _))
    have HTY : Hid (TB Y w.heap.size u ap cp) := Lib.hid (by rw [HY.out]; exact TB.set HROW1.out u ap cp)
    have HZY : Hid (Y.heap[w.heap.size + 1]? = some (.cells zeroRow 33 (0, 0))) := Lib.hid (by rw [HY.out]; exact set5_ne (blk_below HR1.out HB1.out hl1) (Nat.succ_ne_self _))
    have HSY : Hid (SlD Y D u.args ap cp) := Lib.hid (by rw [HY.out]; exact HS1.out.keep fun b hb off => below_cells (below_set5 (q := u) (aq := ap) (cq := cp) (Below.refl w.heap.size w1) (Nat.le_refl _)) b (HK.out.d b hb) off)
    have hpY : w.heap.size + 1 < Y.heap.size := lt_of_block HZY.out
    clear c0 c1 c2 c3 c4 k0 k1 k2 k3 k4 y0 y1 y2 y3 y4 hY HY HROW1 HTOP HB1 HS1 HBW HR0 HR1 HR05 hl1
    obtain ⟨c, hc⟩ : ∃ c, c = u.args.length := ⟨_, rfl⟩
    rw [← hc] at hcl
    have HC := Lib.hid hc
    have hty : Y.heap[w.heap.size]? = some (.cells #[.int .i64 u.k, .int .i64 u.n, .string u.s, .int .i64 u.q, .slice ap c cp] 33 (0, 0)) := by rw [hc]; exact HTY.out
    have hzy := HZY.out
    unfold zeroRow at hzy
    obtain ⟨⟨c0, c1, c2, c3, c4⟩, ⟨y0, y1, y2, y3, y4⟩⟩ := five_cells hty
    obtain ⟨⟨d0, d1, d2, d3, d4⟩, ⟨z0, z1, z2, z3, z4⟩⟩ := five_cells hzy
    clear hc hty hzy
    have hpY0 : w.heap.size < Y.heap.size := by omega
    by_cases hc0 : c = 0
    · have hd : decide ((0 : Int) < (c : Int)) = false := by simp; omega
      have hdn : decide (0 < c) = false := by simp; omega
      have hua : u.args = [] := List.eq_nil_of_length_eq_zero (by rw [← HC.out]; exact hc0)
      have HRF : Hid (rowOf F ap cp = rowOf u ap cp ∧ F.args = []) := Lib.hid (by
        rw [HFE.out, hua]
        refine ⟨?_, rfl⟩
        unfold rowOf
        rw [hua]
        rfl)
      have hrc : c = u.args.length := HC.out
      clear hc0 hua hrc
      go_wp2_with fail
      rw [HC.out]
      have hTB : TB (set5 Y (w.heap.size + 1) u ap cp) (w.heap.size + 1) u ap cp := TB.set HZY.out u ap cp
      have hfin : FullP w F (.returned (.agg (rowOf u ap cp))) (set5 Y (w.heap.size + 1) u ap cp) :=
        ⟨ap, cp, by rw [HRF.out.1], sl_nil HRF.out.2, below_set5 HBY.out (Nat.le_succ _)⟩
      exact bodyPost_ret (v := .agg (rowOf u ap cp)) (res_ty rfl rfl hTB) rfl hfin
    · have hd : decide ((0 : Int) < (c : Int)) = true := by simp; omega
      have hdn : decide (0 < c) = true := by simp; omega
      obtain ⟨A0, hA0, hmake⟩ := made_five c
      have hmk := fun w => hmake w (by omega)
      clear hc0 hmake
      go_upto_region 5 with fail
      obtain ⟨X, hX⟩ : ∃ X, X = Y.alloc (.cells A0 33) := ⟨_, rfl⟩
      rw [← hX]
      have HBX : Hid (Below Y.heap.size Y X) := Lib.hid (by rw [hX]; exact balloc (Below.refl _ _) _)
      have HAX : Hid (X.heap[Y.heap.size]? = some (.cells A0 33 (0, 0))) := Lib.hid (by rw [hX]; exact heap_alloc_new Y _)
      have HA0 := Lib.hid hA0
      clear hX hA0 hmk hd hdn c0 c1 c2 c3 c4 y0 y1 y2 y3 y4 d0 d1 d2 d3 d4 z0 z1 z2 z3 z4
      go_wp2_with fail
      go_loopw [6, 7, 22] (fun _ _ i wr => ∃ (j : Nat) (bs : List Bt) (Dj : Nat → Prop) (A : Array Value), i = .int .i64 (j : Int) ∧ j ≤ c ∧ bs.length = j ∧ bs.map Bt.t = (u.args.take j).map (fun x => markT st.e (exT st.b x)) ∧ wr.heap[Y.heap.size]? = some (.cells A 33 (0, 0)) ∧ A.size = c * 5 ∧ A.toList.take (j * 5) = tcells bs ∧ (∀ b ∈ bs, SlD wr Dj b.t.args b.ao b.cap) ∧ (∀ b, Dj b → Y.heap.size < b ∧ b < wr.heap.size) ∧ Below Y.heap.size Y wr) (fun _ _ i _ => c - (intOf i).toNat)
      case atStart => exact ⟨0, [], fun _ => False, A0, rfl, Nat.zero_le _, rfl, by simp, HAX.out, HA0.out, by simp [tcells], fun b h => (by cases h), fun b h => h.elim, HBX.out⟩
      case round =>
        obtain ⟨j, bs, Dj, A, rfl, hj, hlen, hmap, hA, hAs, hAt, hsl, hDj, hbr⟩ := hrel
        obtain ⟨wo, rfl⟩ : ∃ wo : World, wo = wr := ⟨_, rfl⟩
        have HBR := Lib.hid hbr
        have HMAP := Lib.hid hmap
        have HLEN := Lib.hid hlen
        have HA := Lib.hid hA
        have HAS := Lib.hid hAs
        have HAT := Lib.hid hAt
        have HSL := Lib.hid hsl
        have HDJ := Lib.hid hDj
        have hsz : Y.heap.size ≤ wo.heap.size := hbr.size
        clear hbr hmap hlen hA hAs hAt hsl hDj
        by_cases hlt : j < c
        · have hd : decide ((j : Int) < (c : Int)) = true := by simp; omega
          have hju : j < u.args.length := by rw [← HC.out]; exact hlt
          have hbo : Below w.heap.size w wo := bthen' HBY.out HBR.out HBY.out.size
          have hvr : SlD wo D u.args ap cp := HSY.out.keep fun b hb off => below_cells HBR.out b (Nat.lt_of_lt_of_le (HK.out.d b hb) HBY.out.size) off
          obtain ⟨bb, p, aq, cq, hDb, hix, x0, x1, x2, x3, x4, hs⟩ := arg_cells hvr hju
          rw [← HC.out] at hix
          obtain ⟨x, hx⟩ : ∃ x, x = u.args[j] := ⟨_, rfl⟩
          rw [← hx] at x0 x1 x2 x3 x4 hs
          have hmem : x ∈ u.args := by rw [hx]; exact List.getElem_mem _
          obtain ⟨Z, hZ⟩ : ∃ Z, Z = wo.alloc (.cells (rowOf x aq cq) 33) := ⟨_, rfl⟩
          obtain ⟨hbZ, hlZ, hrZ⟩ := box_at hZ
          have hko := HK.out.keep hbo
          have hcall := HIH.out x (HPT.out x hmem).2 (by omega) (HTO.out.wf.kid (HPT.out x hmem).1 hmem) aq cq Z (hko.keep hbZ) (hs.keep fun b hb off => below_cells hbZ b (hko.d b hb) off)
          obtain ⟨G, hG⟩ : ∃ G, G = markT st.e (exT st.b x) := ⟨_, rfl⟩
          rw [← hG] at hcall
          unfold rowOf at hcall hZ hrZ
          obtain ⟨⟨k0, k1, k2, k3, k4⟩, -⟩ := five_cells hrZ
          have HCALL := Lib.hid hcall
          have HG := Lib.hid hG
          have HX := Lib.hid hx
          have HZZ := Lib.hid hZ
          have HBZ := Lib.hid hbZ
          have hixs : ∀ w' : World, (Instr.indexAt 31 (.slice (some ⟨Y.heap.size, 0, none⟩) c c) (.int .i64 j)).run Try.prog w' = .ok (.pointer (some ⟨Y.heap.size, 0 + j * 5, none⟩)) w' := fun w' => index_at Try.underlying31 size33 rfl c c j hlt w'
          simp only [Nat.zero_add] at hixs
          have hsZ : wo.heap.size < Z.heap.size := hlZ
          clear hcall hvr hs hx hmem hbo hG hbZ hrZ hZ hko hDb hlZ
          go_upto_region 7 with fail
          rw [← HZZ.out]
          clear HZZ x0 x1 x2 x3 x4
          go_upto_region 8 with (first | (go_at_call 31; refine HCALL.out.mono ?_; rintro e w7 h7; obtain ⟨a7, q7, rfl, hs7, hb7⟩ := h7.call; have HS7 := Lib.hid hs7; have HB7 := Lib.hid hb7; unfold rowOf at ⊢; have hA7 := blk_below (blk_below HA.out HBZ.out (lt_of_block HA.out)) hb7 (Nat.lt_of_lt_of_le (lt_of_block HA.out) HBZ.out.size); have HA7 := Lib.hid hA7; obtain ⟨⟨r0, r1, r2, r3, r4, e0, e1, e2, e3, e4⟩, ⟨f0, f1, f2, f3, f4⟩⟩ := row_cells hA7 HAS.out hlt; clear h7 hs7 hb7 hA7))
          have FIN : Hid (∃ (bs' : List Bt) (Dj' : Nat → Prop) (A' : Array Value), bs'.length = j + 1 ∧ bs'.map Bt.t = (u.args.take (j + 1)).map (fun x => markT st.e (exT st.b x)) ∧ (setR w7 Y.heap.size (j * 5) G a7 q7).heap[Y.heap.size]? = some (.cells A' 33 (0, 0)) ∧ A'.size = c * 5 ∧ A'.toList.take ((j + 1) * 5) = tcells bs' ∧ (∀ b ∈ bs', SlD (setR w7 Y.heap.size (j * 5) G a7 q7) Dj' b.t.args b.ao b.cap) ∧ (∀ b, Dj' b → Y.heap.size < b ∧ b < (setR w7 Y.heap.size (j * 5) G a7 q7).heap.size) ∧ Below Y.heap.size Y (setR w7 Y.heap.size (j * 5) G a7 q7)) := Lib.hid (by
            obtain ⟨A', g1, g2, g3⟩ := setR_row HA7.out HAS.out hlt HLEN.out HAT.out G a7 q7
            have hgr := setR_gr w7 Y.heap.size (j * 5) G a7 q7
            have hwo7 : Below wo.heap.size wo w7 := HBZ.out.trans (HB7.out.mono HBZ.out.size)
            have hAlt := lt_of_block HA.out
            have hc9 : ∀ b, b < w7.heap.size → Y.heap.size < b → ∀ off, (setR w7 Y.heap.size (j * 5) G a7 q7).cell? ⟨b, off, none⟩ = w7.cell? ⟨b, off, none⟩ := fun b hb hne off => World.cell?_of_block (hgr.block b hb (fun e => by have := Option.some.inj e; omega))
            refine ⟨bs ++ [⟨G, a7, q7⟩], fun b => Dj b ∨ (Z.heap.size ≤ b ∧ b < w7.heap.size), A', by rw [List.length_append, HLEN.out]; rfl, ?_, g1, g2, g3, fun b hb => ?_, fun b hb => ?_, ?_⟩
            · rw [List.map_append, HMAP.out, List.take_succ_eq_append_getElem hju, List.map_append, List.map_singleton, List.map_singleton, HG.out, HX.out]
            · rcases List.mem_append.1 hb with hb | hb
              · refine ((HSL.out b hb).keep fun d hd off => ?_).mono fun b h => .inl h
                have h1 := HDJ.out d hd
                rw [hc9 d (Nat.lt_of_lt_of_le h1.2 hwo7.size) h1.1 off]
                exact below_cells hwo7 d h1.2 off
              · rw [List.mem_singleton] at hb
                subst hb
                refine (HS7.out.keep fun d hd off => ?_).mono fun b h => .inr h
                exact hc9 d hd.2 (by have := hd.1; omega) off
            · have h9 := hgr.size
              have h8 := hwo7.size
              rcases hb with hb | hb
              · have h1 := HDJ.out b hb
                exact ⟨h1.1, by omega⟩
              · exact ⟨by omega, by omega⟩
            · refine HBR.out.trans ((hwo7.mono hsz).trans ?_)
              exact ⟨hgr.os, hgr.tape, hgr.output, hgr.size, fun k hk => hgr.block k (Nat.lt_of_lt_of_le hk (Nat.le_trans hsz hwo7.size)) (fun e => by have := Option.some.inj e; omega)⟩)
          clear e0 e1 e2 e3 e4 f0 f1 f2 f3 f4 k0 k1 k2 k3 k4
          go_wp2_with fail
          go_roundw
          case rel =>
            obtain ⟨bs', Dj', A', h1, h2, h3, h4, h5, h6, h7, h8⟩ := FIN.out
            exact ⟨j + 1, bs', Dj', A', by go_num, hlt, h1, h2, h3, h4, h5, h6, h7, h8⟩
          case measure => simp only [intOf]; omega
        · obtain rfl : j = c := by omega
          have hd : decide ((j : Int) < (j : Int)) = false := by simp
          have hread := row_read (D' := fun b => Y.heap.size ≤ b ∧ b < wo.heap.size) HA.out (by rw [HAS.out, HLEN.out]) (by rw [HLEN.out]; exact HAT.out) HSL.out (fun b hb => ⟨Nat.le_of_lt (HDJ.out b hb).1, (HDJ.out b hb).2⟩) ⟨Nat.le_refl _, lt_of_block HA.out⟩
          rw [HLEN.out] at hread
          have hFa : F.args = bs.map Bt.t := by rw [HFE.out, HMAP.out, HC.out, List.take_length]; rfl
          have HREAD : Hid (SlD wo (fun b => Y.heap.size ≤ b ∧ b < wo.heap.size) F.args (some ⟨Y.heap.size, 0, none⟩) j) := Lib.hid (by rw [hFa]; exact hread)
          have hrow2 := blk_below HTY.out HBR.out (by omega)
          have hrow3 := blk_below HZY.out HBR.out hpY
          have HRW3 := Lib.hid hrow3
          unfold rowOf at hrow2
          rw [← HC.out] at hrow2
          unfold zeroRow at hrow3
          obtain ⟨⟨c0, c1, c2, c3, c4⟩, ⟨y0, y1, y2, y3, y4⟩⟩ := five_cells hrow2
          obtain ⟨⟨d0, d1, d2, d3, d4⟩, ⟨z0, z1, z2, z3, z4⟩⟩ := five_cells hrow3
          clear hrow2 hrow3 hread hFa
          go_wp2_with fail
          have hTB1 : ((wo.setCell ⟨w.heap.size, 4, none⟩ (.slice (some ⟨Y.heap.size, 0, none⟩) j j))).heap[w.heap.size + 1]? = some (.cells zeroRow 33 (0, 0)) := blk_set_ne HRW3.out (Nat.succ_ne_self _) 4 _
          have hbo1 : Below w.heap.size wo (wo.setCell ⟨w.heap.size, 4, none⟩ (.slice (some ⟨Y.heap.size, 0, none⟩) j j)) := (Below.refl w.heap.size wo).setCell (p := ⟨w.heap.size, 4, none⟩) (Nat.le_refl _) _
          have hTB : TB (set5 (wo.setCell ⟨w.heap.size, 4, none⟩ (.slice (some ⟨Y.heap.size, 0, none⟩) j j)) (w.heap.size + 1) F (some ⟨Y.heap.size, 0, none⟩) j) (w.heap.size + 1) F (some ⟨Y.heap.size, 0, none⟩) j := TB.set hTB1 F _ j
          have hb9 : Below w.heap.size wo (set5 (wo.setCell ⟨w.heap.size, 4, none⟩ (.slice (some ⟨Y.heap.size, 0, none⟩) j j)) (w.heap.size + 1) F (some ⟨Y.heap.size, 0, none⟩) j) := below_set5 hbo1 (Nat.le_succ _)
          have hfin : FullP w F (.returned (.agg (rowOf F (some ⟨Y.heap.size, 0, none⟩) j))) (set5 (wo.setCell ⟨w.heap.size, 4, none⟩ (.slice (some ⟨Y.heap.size, 0, none⟩) j j)) (w.heap.size + 1) F (some ⟨Y.heap.size, 0, none⟩) j) := by
            refine ⟨_, j, rfl, ?_, HBY.out.trans ((HBR.out.mono HBY.out.size).trans hb9)⟩
            refine (HREAD.out.keep fun b hb off => ?_).mono fun b hb => ⟨Nat.le_trans HBY.out.size hb.1, Nat.lt_of_lt_of_le hb.2 hb9.size⟩
            refine World.cell?_of_block ?_
            have n1 : b ≠ w.heap.size := by have := hb.1; omega
            have n2 : b ≠ w.heap.size + 1 := by have := hb.1; omega
            exact set5_ne (q := F) (aq := some ⟨Y.heap.size, 0, none⟩) (cq := j) (blk_set_ne rfl n1 4 _) n2
          have eF : F.k = u.k ∧ F.n = u.n ∧ F.s = u.s ∧ F.q = u.q ∧ F.args.length = j := by
            refine ⟨by rw [HFE.out]; rfl, by rw [HFE.out]; rfl, by rw [HFE.out]; rfl, by rw [HFE.out]; rfl, ?_⟩
            rw [HFE.out]
            show (u.args.map _).length = j
            rw [List.length_map, ← HC.out]
          obtain ⟨e1, e2, e3, e4, e5⟩ := eF
          rw [← e1, ← e2, ← e3, ← e4]
          have hlast : (Value.slice (some ⟨Y.heap.size, 0, none⟩) F.args.length j) = .slice (some ⟨Y.heap.size, 0, none⟩) j j := by rw [e5]
          unfold set5 at hTB hfin
          rw [hlast] at hTB hfin
          exact bodyPost_ret (v := .agg (rowOf F (some ⟨Y.heap.size, 0, none⟩) j)) (res_ty rfl rfl hTB) rfl hfin
end Go.Proofs.Ytdeomphilggokaa
