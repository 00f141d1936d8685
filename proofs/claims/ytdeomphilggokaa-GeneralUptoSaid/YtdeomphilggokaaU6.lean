/-
  Proved: the contract of the reference's Full. Condition: what is known is in order, a type of at most 1000 parts.
-/
import Derived.Test.YtdeomphilggokaaU5
set_option linter.unusedSimpArgs false
set_option linter.unusedVariables false
namespace Go.Proofs.Ytdeomphilggokaa
open Go.RowKit

mutual
/-- a type, its variables marked -/
def markT (e : Int → Bool) : Ty → Ty
  | .mk k n s q args => if k = 0 then varT e n else .mk k n s q (markL e args)
def markL (e : Int → Bool) : List Ty → List Ty
  | [] => []
  | p :: ps => markT e p :: markL e ps
end
theorem markL_map (e : Int → Bool) : ∀ l : List Ty, markL e l = l.map (markT e)
  | [] => by simp [markL]
  | p :: ps => by rw [markL, markL_map e ps]; rfl
/-- types' cells, one behind the other -/
def tcells : List Bt → List Value
  | [] => []
  | b :: bs => (rowOf b.t b.ao b.cap).toList ++ tcells bs
theorem tcells_len : ∀ (bs : List Bt), (tcells bs).length = bs.length * 5
  | [] => rfl
  | b :: bs => by rw [tcells, List.length_append, tcells_len bs, List.length_cons]; show 5 + _ = _; omega
theorem tcells_append : ∀ (bs cs : List Bt), tcells (bs ++ cs) = tcells bs ++ tcells cs
  | [], cs => by simp [tcells]
  | b :: bs, cs => by rw [List.cons_append, tcells, tcells, tcells_append bs cs, List.append_assoc]
theorem tcells_get : ∀ {bs : List Bt} {i j : Nat} (h : i < bs.length), j < 5 → (tcells bs)[i * 5 + j]? = (rowOf bs[i].t bs[i].ao bs[i].cap).toList[j]?
  | b :: bs, 0, j, _, hj => by rw [tcells, Nat.zero_mul, Nat.zero_add, List.getElem?_append_left (by show j < 5; exact hj)]; rfl
  | b :: bs, i + 1, j, h, hj => by
    rw [tcells, List.getElem?_append_right (by show 5 ≤ _; omega)]
    show (tcells bs)[(i + 1) * 5 + j - 5]? = _
    rw [show (i + 1) * 5 + j - 5 = i * 5 + j from by omega, tcells_get (by simpa using h) hj]
    rfl
theorem ty_one (b : Bt) : ∀ u ∈ (rowOf b.t b.ao b.cap).toList, u.oneCell' = true := by
  intro u hu
  simp [rowOf] at hu
  rcases hu with rfl | rfl | rfl | rfl | rfl <;> rfl
theorem tcells_one : ∀ (bs : List Bt), ∀ u ∈ tcells bs, u.oneCell' = true
  | b :: bs, u, hu => by
    rw [tcells, List.mem_append] at hu
    rcases hu with hu | hu
    · exact ty_one b u hu
    · exact tcells_one bs u hu
/-- a row of types of one's own, at B or above; their arguments in blocks of D -/
structure OwnT (B : Nat) (w : World) (D : Nat → Prop) (v : Value) (bs : List Bt) : Prop where
  own : w.ownsRow B 33 5 v bs.length (tcells bs)
  sl : ∀ b ∈ bs, SlD w D b.t.args b.ao b.cap
theorem OwnT.nil (B : Nat) (w : World) (D : Nat → Prop) : OwnT B w D (.slice none 0 0) [] := ⟨World.ownsRow_nil _ _ _ _, fun b h => by cases h⟩
theorem OwnT.keep {B : Nat} {w w' : World} {D : Nat → Prop} {v : Value} {bs : List Bt} (h : OwnT B w D v bs) (hb : Below w.heap.size w w') (hD : ∀ b, D b → b < w.heap.size) : OwnT B w' D v bs :=
  ⟨own_carry h.own fun g c f hg => blk_below hg hb (lt_of_block hg), fun b hm => (h.sl b hm).keep fun d hd off => below_cells hb d (hD d hd) off⟩
/-- such a row read as a slice of types -/
theorem OwnT.read {B : Nat} {w : World} {D D' : Nat → Prop} {v : Value} {bs : List Bt} (h : OwnT B w D v bs) (hD : ∀ b, D b → D' b) (hv : ∀ b, v.ownBlock = some b → D' b) : ∃ ao cap, v = .slice ao bs.length cap ∧ SlD w D' (bs.map Bt.t) ao cap := by
  rcases h.own.2 with ⟨rfl, h0⟩ | ⟨g, cap, cur, rfl, hB, hg, hc, hm, hs, ht⟩
  · have hb : bs = [] := List.eq_nil_of_length_eq_zero h0
    subst hb
    exact ⟨none, 0, rfl, Nat.le_refl _, by unfold ArgsV; trivial⟩
  · refine ⟨_, cap, rfl, ⟨by simpa using hc, ArgsV.of fun k hk => ?_⟩⟩
    have hk' : k < bs.length := by simpa using hk
    refine ⟨g, 0, (rowOf bs[k].t bs[k].ao bs[k].cap).toList, rfl, hv g rfl, fun j hj => ?_, ?_⟩
    · have h4 := tcells_get hk' hj
      rw [← ht, List.getElem?_take, if_pos (by omega), Array.getElem?_toList] at h4
      rw [blk_cell hg, Nat.zero_add, Nat.zero_add]
      exact h4
    · rw [List.getElem_map]
      exact TyV.mk' ((h.sl _ (List.getElem_mem hk')).mono hD)
theorem info33 : (Try.prog.info? 33).map (fun i => (i.zero, i.size, i.bytes)) = some (some (.agg #[.int .i64 0, .int .i64 0, .string ⟨#[]⟩, .int .i64 0, .slice none 0 0]), 5, 64) := by kernel_rfl
/-- what Full leaves -/
structure FullP (w : World) (F : Ty) (e : Ending) (w' : World) : Prop where
  out : ∃ ao cap, e = .returned (.agg (rowOf F ao cap)) ∧ SlD w' (fun b => w.heap.size ≤ b ∧ b < w'.heap.size) F.args ao cap ∧ Below w.heap.size w w'
theorem FullP.call {w : World} {F : Ty} {e : Ending} {w' : World} (h : FullP w F e w') : ∃ ao cap, e = .returned (.agg (rowOf F ao cap)) ∧ SlD w' (fun b => w.heap.size ≤ b ∧ b < w'.heap.size) F.args ao cap ∧ Below w.heap.size w w' := h.out
theorem grew_none {w w' : World} {v : Value} (h : w.grownBy w' v.ownBlock) {N : Nat} (hN : N ≤ w.heap.size) (hv : ∀ g, v.ownBlock = some g → N ≤ g) : Below N w w' :=
  ⟨h.os, h.tape, h.output, h.size, fun k hk => h.block k (Nat.lt_of_lt_of_le hk hN) (fun e => by have := hv k e.symm; omega)⟩
set_option maxRecDepth 100000 in
set_option maxHeartbeats 16000000 in
theorem rfull_any (B : Nat) (sb mb me : Nat) (V : List Int) (D : Nat → Prop) (st : St) : ∀ (f : Nat) (t : Ty), parts (exT st.b t) ≤ f → f ≤ 1000 → Wf V st.e t → ∀ (ao : Option Addr) (cap : Nat) (w : World), RK B sb mb me V D st w → SlD w D t.args ao cap →
    Calls Try.prog 51 #[.pointer (some ⟨sb, 0, none⟩), .agg (rowOf t ao cap)] w (FullP w (markT st.e (exT st.b t))) := by
  intro f
  induction f with
  | zero => intro t ht; have := parts_pos (exT st.b t); omega
  | succ f IH =>
    intro t ht hf9 hw ao cap w hk hv
    obtain ⟨W, hW⟩ : ∃ W, W = (w.alloc (.cells (rowOf t ao cap) 33)).alloc (.cells zeroRow 33) := ⟨_, rfl⟩
    obtain ⟨hbW, hszW, hr0, hr1⟩ := two_boxes hW
    have hTO := top_ok hk.ok hw
    have HTOP : Hid (Calls Try.prog 64 #[.pointer (some ⟨sb, 0, none⟩), .agg (rowOf t ao cap)] W (TopP W D (topT st.e st.b t))) := Lib.hid (rtop_any B sb mb me V D st hk.ok t hw ao cap W (hk.keep hbW).d (hk.keep hbW).r (hv.keep fun b hb off => below_cells hbW b (hk.d b hb) off))
    obtain ⟨u, hu⟩ : ∃ u, u = topT st.e st.b t := ⟨_, rfl⟩
    rw [← hu] at hTO HTOP
    have hcl : u.args.length ≤ 1000 := by
      by_cases hk0 : u.k = 0
      · obtain ⟨_, h2, h3⟩ := top_free hTO hk0
        rw [h2]; simp [varT, Ty.args]
      · have h1 := parts_args (exT st.b t)
        rw [top_kid hTO hk0] at h1 ht
        have h2 : ∀ l : List Ty, l.length ≤ partsL l := fun l => by
          induction l with
          | nil => simp
          | cons p ps ih => rw [partsL, List.length_cons]; have := parts_pos p; omega
        have h3 := h2 (u.args.map (exT st.b))
        rw [parts] at ht
        simp at h3
        omega
    obtain ⟨F, hF⟩ : ∃ F, F = markT st.e (exT st.b t) := ⟨_, rfl⟩
    rw [← hF]
    have HFE : Hid (F = .mk u.k u.n u.s u.q (u.args.map fun x => markT st.e (exT st.b x))) := Lib.hid (by
      by_cases hk0 : u.k = 0
      · obtain ⟨_, h2, h3⟩ := top_free hTO hk0
        rw [hF, h3, bareT, markT, if_pos rfl, h2]
        rfl
      · rw [hF, top_kid hTO hk0, markT, if_neg hk0, markL_map, List.map_map]
        rfl)
    have HPT : Hid (∀ x ∈ u.args, u.k ≠ 0 ∧ parts (exT st.b x) ≤ f) := Lib.hid (fun x hx => by
      by_cases hk0 : u.k = 0
      · obtain ⟨_, h2, h3⟩ := top_free hTO hk0
        rw [h2] at hx
        cases hx
      · refine ⟨hk0, ?_⟩
        have h1 := parts_kid (t := .mk u.k u.n u.s u.q (u.args.map (exT st.b))) (List.mem_map_of_mem (f := exT st.b) hx)
        rw [← top_kid hTO hk0] at h1
        omega)
    have HTO := Lib.hid hTO
    have HK := Lib.hid hk
    have HIH := Lib.hid IH
    have HBW := Lib.hid hbW
    have HR0 := Lib.hid hr0
    have HR1 := Lib.hid hr1
    have hl1 : w.heap.size + 1 < W.heap.size := by rw [hszW]; omega
    obtain ⟨m, hm⟩ : ∃ m, m = t.args.length := ⟨_, rfl⟩
    unfold rowOf at hW HTOP hr0 ⊢
    unfold zeroRow at hW
    rw [← hm] at hW HTOP hr0 ⊢
    have HWW := Lib.hid hW
    have HR05 : Hid (W.heap[w.heap.size]? = some (.cells #[.int .i64 t.k, .int .i64 t.n, .string t.s, .int .i64 t.q, .slice ao m cap] 33 (0, 0))) := Lib.hid hr0
    obtain ⟨⟨c0, c1, c2, c3, c4⟩, -⟩ := five_cells hr0
    clear IH hTO hk hu hW hbW hr0 hr1 hv hw hm hF ht hszW
    go_enter Try.func51, Try.ntmps51
    go_upto_region 1 with fail
    rw [← HWW.out]
    clear HWW
    generalize Value.agg #[.int .i64 t.k, .int .i64 t.n, .string t.s, .int .i64 t.q, .slice ao m cap] = v0
    go_upto_region 2 with (first | (go_at_call 64; refine HTOP.out.mono ?_; rintro e w1 h1; obtain ⟨ap, cp, rfl, hs1, hb1⟩ := h1.out; have HS1 := Lib.hid hs1; have HB1 := Lib.hid hb1; have hrow1 := blk_below HR05.out hb1 (by omega); have HROW1 := Lib.hid hrow1; unfold rowOf at ⊢; obtain ⟨⟨k0, k1, k2, k3, k4⟩, ⟨y0, y1, y2, y3, y4⟩⟩ := five_cells hrow1; clear h1 hs1 hb1 hrow1))
    obtain ⟨Y, hY⟩ : ∃ Y, Y = set5 w1 w.heap.size u ap cp := ⟨_, rfl⟩
    have HY := Lib.hid hY
    unfold set5 at hY
    rw [← hY]
    have HBY : Hid (Below w.heap.size w Y) := Lib.hid (by rw [HY.out]; exact below_set5 (bthen HBW.out HB1.out) (Nat.le_refl _))
    have HTY : Hid (TB Y w.heap.size u ap cp) := Lib.hid (by rw [HY.out]; exact TB.set HROW1.out u ap cp)
    have HZY : Hid (Y.heap[w.heap.size + 1]? = some (.cells zeroRow 33 (0, 0))) := Lib.hid (by rw [HY.out]; exact set5_ne (blk_below HR1.out HB1.out hl1) (Nat.succ_ne_self _))
    have HSY : Hid (SlD Y D u.args ap cp) := Lib.hid (by rw [HY.out]; exact HS1.out.keep fun b hb off => below_cells (below_set5 (q := u) (aq := ap) (cq := cp) (Below.refl w.heap.size w1) (Nat.le_refl _)) b (HK.out.d b hb) off)
    have hpY : w.heap.size + 1 < Y.heap.size := lt_of_block HZY.out
    clear c0 c1 c2 c3 c4 k0 k1 k2 k3 k4 y0 y1 y2 y3 y4 hY HY HROW1 HTOP HB1 HS1 HBW HR0 HR1 HR05 hl1
    obtain ⟨c, hc⟩ : ∃ c, c = u.args.length := ⟨_, rfl⟩
    rw [← hc] at hcl
    have HC := Lib.hid hc
    clear hc
    go_wp2_with fail
    go_loopw [5, 6, 7] (fun v i _ wr => ∃ (j : Nat) (bs : List Bt) (Dj : Nat → Prop), i = .int .i64 (j : Int) ∧ j ≤ c ∧ bs.length = j ∧ bs.map Bt.t = (u.args.take j).map (fun x => markT st.e (exT st.b x)) ∧ OwnT Y.heap.size wr Dj v bs ∧ (∀ b, Dj b → Y.heap.size ≤ b ∧ b < wr.heap.size ∧ v.ownBlock ≠ some b) ∧ Below Y.heap.size Y wr) (fun _ i _ _ => c - (intOf i).toNat)
    case atStart => exact ⟨0, [], fun _ => False, rfl, Nat.zero_le _, rfl, by simp, OwnT.nil _ _ _, fun b h => h.elim, Below.refl _ _⟩
    case round =>
      obtain ⟨j, bs, Dj, rfl, hj, hlen, hmap, hown, hDj, hbr⟩ := hrel
      obtain ⟨wo, rfl⟩ : ∃ wo : World, wo = wr := ⟨_, rfl⟩
      have hrow2 := blk_below HTY.out hbr (by omega)
      have hrow3 := blk_below HZY.out hbr hpY
      have HRW2 := Lib.hid hrow2
      have HRW3 := Lib.hid hrow3
      unfold rowOf at hrow2
      rw [← HC.out] at hrow2
      obtain ⟨⟨c0, c1, c2, c3, c4⟩, ⟨y0, y1, y2, y3, y4⟩⟩ := five_cells hrow2
      have HBR := Lib.hid hbr
      have HMAP := Lib.hid hmap
      have HLEN := Lib.hid hlen
      have HOWN := Lib.hid hown
      have HDJ := Lib.hid hDj
      have hsz : Y.heap.size ≤ wo.heap.size := hbr.size
      clear hbr hrow2 hmap hlen hown hDj
      by_cases hlt : j < c
      · have hd : decide ((j : Int) < (c : Int)) = true := by simp; omega
        have hju : j < u.args.length := by rw [← HC.out]; exact hlt
        have hbo : Below w.heap.size w wo := bthen' HBY.out HBR.out HBY.out.size
        have hvr : SlD wo D u.args ap cp := HSY.out.keep fun b hb off => below_cells HBR.out b (Nat.lt_of_lt_of_le (HK.out.d b hb) HBY.out.size) off
        obtain ⟨bb, p, aq, cq, hDb, hix, x0, x1, x2, x3, x4, hs⟩ := arg_cells hvr hju
        rw [← HC.out] at hix
        obtain ⟨x, hx⟩ : ∃ x, x = u.args[j] := ⟨_, rfl⟩
        rw [← hx] at x0 x1 x2 x3 x4 hs
        have hmem : x ∈ u.args := by rw [hx]; exact List.getElem_mem _
        have hcall := HIH.out x (HPT.out x hmem).2 (by omega) (HTO.out.wf.kid (HPT.out x hmem).1 hmem) aq cq wo (HK.out.keep hbo) hs
        obtain ⟨G, hG⟩ : ∃ G, G = markT st.e (exT st.b x) := ⟨_, rfl⟩
        rw [← hG] at hcall
        unfold rowOf at hcall
        have HCALL := Lib.hid hcall
        have HG := Lib.hid hG
        have HX := Lib.hid hx
        clear hcall hvr hs hx hmem hbo hG hrow3
        go_upto_region 7 with (first | (go_at_call 51; refine HCALL.out.mono ?_; rintro e w7 h7; obtain ⟨a7, k7, rfl, hs7, hb7⟩ := h7.call; have HS7 := Lib.hid hs7; have HB7 := Lib.hid hb7; unfold rowOf at ⊢; clear h7 hs7 hb7))
        obtain ⟨cg, hcg⟩ : ∃ cg, cg = G.args.length := ⟨_, rfl⟩
        rw [← hcg]
        have HCG := Lib.hid hcg
        clear c0 c1 c2 c3 c4 y0 y1 y2 y3 y4 x0 x1 x2 x3 x4 hcg
        obtain ⟨Z, hZ⟩ : ∃ Z, Z = w7.alloc (.cells #[.int .i64 G.k, .int .i64 G.n, .string G.s, .int .i64 G.q, .slice a7 cg k7] 33) := ⟨_, rfl⟩
        rw [← hZ]
        have hZr : Z.heap[w7.heap.size]? = some (.cells #[.int .i64 G.k, .int .i64 G.n, .string G.s, .int .i64 G.q, .slice a7 cg k7] 33 (0, 0)) := by rw [hZ]; exact heap_alloc_new w7 _
        have HBZ : Hid (Below wo.heap.size wo Z) := Lib.hid (by rw [hZ]; exact balloc HB7.out _)
        have HSZ : Hid (Z.heap.size = w7.heap.size + 1) := Lib.hid (by rw [hZ, World.size_alloc])
        have HZ7 : Hid (Below w7.heap.size w7 Z) := Lib.hid (by rw [hZ]; exact balloc (Below.refl _ _) _)
        obtain ⟨⟨z0, z1, z2, z3, z4⟩, -⟩ := five_cells hZr
        clear hZ hZr
        obtain ⟨va, vc, hvs, -⟩ := HOWN.out.read (D' := fun _ => True) (fun _ _ => trivial) (fun _ _ => trivial)
        subst hvs
        rw [HLEN.out]
        have HOZ := HOWN.out.keep HBZ.out (fun b hb => (HDJ.out b hb).2.1)
        rw [HLEN.out] at HOZ HDJ
        have HOA : Hid ((Z.alloc (.cells #[.int .i64 G.k, .int .i64 G.n, .string G.s, .int .i64 G.q, .slice a7 cg k7] 33)).ownsRow Y.heap.size 33 5 (.slice va j vc) j (tcells bs)) := Lib.hid (by
          have h := HOZ.own.alloc (.cells #[.int .i64 G.k, .int .i64 G.n, .string G.s, .int .i64 G.q, .slice a7 cg k7] 33)
          rw [HLEN.out] at h
          exact h)
        have HOZ := Lib.hid HOZ
        obtain ⟨i33, hi, hz0, hz1, hz2⟩ := info_parts info33
        have HI := Lib.hid hi
        have hone : ∀ u ∈ ([.int .i64 G.k, .int .i64 G.n, .string G.s, .int .i64 G.q, .slice a7 cg k7] : List Value), u.oneCell' = true := by
          intro u hu
          simp at hu
          rcases hu with rfl | rfl | rfl | rfl | rfl <;> rfl
        have hj9 : j ≤ 1000 := by omega
        have hbase : Y.heap.size ≤ (Z.alloc (.cells #[.int .i64 G.k, .int .i64 G.n, .string G.s, .int .i64 G.q, .slice a7 cg k7] 33)).heap.size := by
          have h1 := HSZ.out
          have h2 := HB7.out.size
          rw [World.size_alloc]
          omega
        have HBASE := Lib.hid hbase
        clear hi hbase
        go_upto_region 5 with (first | (at_builtin; go_must (refine wpList_append3 rfl (.tmp 25) (.tmp 27) 31 31 rfl Y.heap.size 33 33 i33 _ 5 64 Try.underlying31 Try.underlying31 HI.out hz0 hz1 hz2 rfl (by decide) (.slice va j vc) j (tcells bs) rfl HOA.out (some ⟨Z.heap.size, 0, none⟩) 1 1 [.int .i64 G.k, .int .i64 G.n, .string G.s, .int .i64 G.q, .slice a7 cg k7] rfl rfl (fun _ => ⟨_, rfl, new_cells (c := #[.int .i64 G.k, .int .i64 G.n, .string G.s, .int .i64 G.q, .slice a7 cg k7]) _ (by simp)⟩) hone (by unfold maxLen; omega) (by omega) HBASE.out ?_)))
        intro v1 w9 hown1 hgr1 hat1
        have FIN : ∃ (bs' : List Bt) (Dj' : Nat → Prop), bs'.length = j + 1 ∧ bs'.map Bt.t = (u.args.take (j + 1)).map (fun x => markT st.e (exT st.b x)) ∧ OwnT Y.heap.size w9 Dj' v1 bs' ∧ (∀ b, Dj' b → Y.heap.size ≤ b ∧ b < w9.heap.size ∧ v1.ownBlock ≠ some b) ∧ Below Y.heap.size Y w9 := by
          obtain ⟨A, hA⟩ : ∃ A, A = Z.alloc (.cells #[.int .i64 G.k, .int .i64 G.n, .string G.s, .int .i64 G.q, .slice a7 cg k7] 33) := ⟨_, rfl⟩
          rw [← hA] at hgr1
          have hat1 : v1.ownBlock = (Value.slice va j vc).ownBlock ∨ v1.ownBlock = some A.heap.size := by
            rw [hA]
            simpa using hat1
          have hZA : Below Z.heap.size Z A := by rw [hA]; exact balloc (Below.refl _ _) _
          have hsA : A.heap.size = w7.heap.size + 2 := by rw [hA, World.size_alloc, HSZ.out]
          have hboA : Below wo.heap.size wo A := bthen HBZ.out hZA
          have h7A : Below w7.heap.size w7 A := bthen HZ7.out hZA
          have hs7 := HB7.out.size
          have hold : ∀ g, (Value.slice va j vc).ownBlock = some g → Y.heap.size ≤ g ∧ g < wo.heap.size := fun g hg => by
            have h := HOWN.out.own.lt g (by rw [HLEN.out]; exact hg)
            exact h
          have hc9 : ∀ b, b < A.heap.size → (Value.slice va j vc).ownBlock ≠ some b → ∀ off, w9.cell? ⟨b, off, none⟩ = A.cell? ⟨b, off, none⟩ := fun b hb hne off => World.cell?_of_block (hgr1.block b hb (fun e => hne e.symm))
          refine ⟨bs ++ [⟨G, a7, k7⟩], fun b => Dj b ∨ (wo.heap.size ≤ b ∧ b < w7.heap.size), by rw [List.length_append, HLEN.out]; rfl, ?_, ⟨?_, ?_⟩, ?_, ?_⟩
          · rw [List.map_append, HMAP.out, List.take_succ_eq_append_getElem hju, List.map_append, List.map_singleton, List.map_singleton, HG.out, HX.out]
          · rw [List.length_append, tcells_append, HLEN.out]
            have e : tcells [⟨G, a7, k7⟩] = [.int .i64 G.k, .int .i64 G.n, .string G.s, .int .i64 G.q, .slice a7 cg k7] := by rw [HCG.out]; rfl
            rw [e]
            exact hown1
          · intro b hb
            rcases List.mem_append.1 hb with hb | hb
            · refine ((HOWN.out.sl b hb).keep fun d hd off => ?_).mono fun b h => .inl h
              have h1 := HDJ.out d hd
              rw [hc9 d (Nat.lt_of_lt_of_le h1.2.1 hboA.size) h1.2.2 off]
              exact below_cells hboA d h1.2.1 off
            · rw [List.mem_singleton] at hb
              subst hb
              refine (HS7.out.keep fun d hd off => ?_).mono fun b h => .inr h
              rw [hc9 d (Nat.lt_of_lt_of_le hd.2 h7A.size) (fun e => by have := (hold d e).2; omega) off]
              exact below_cells h7A d hd.2 off
          · intro b hb
            have hb9 : Y.heap.size ≤ b ∧ b < w7.heap.size ∧ (Value.slice va j vc).ownBlock ≠ some b := by
              rcases hb with hb | hb
              · exact ⟨(HDJ.out b hb).1, Nat.lt_of_lt_of_le (HDJ.out b hb).2.1 hs7, (HDJ.out b hb).2.2⟩
              · exact ⟨Nat.le_trans hsz hb.1, hb.2, fun e => by have := (hold b e).2; omega⟩
            refine ⟨hb9.1, Nat.lt_of_lt_of_le (by omega) hgr1.size, ?_⟩
            rcases hat1 with e | e
            · rw [e]; exact hb9.2.2
            · rw [e, hsA]
              intro e2
              have := Option.some.inj e2
              omega
          · exact HBR.out.trans ((hboA.mono hsz).trans (grew_none hgr1 (by omega) (fun g hg => (hold g hg).1)))
        have HFIN := Lib.hid FIN
        clear FIN hown1 hgr1 hat1 hone z0 z1 z2 z3 z4 HOA HOZ HI HBASE
        go_wp2_with fail
        go_roundw
        case rel =>
          obtain ⟨bs', Dj', h1, h2, h3, h4, h5⟩ := HFIN.out
          exact ⟨j + 1, bs', Dj', by go_num, hlt, h1, h2, h3, h4, h5⟩
        case measure => simp only [intOf]; omega
      · obtain rfl : j = c := by omega
        have hd : decide ((j : Int) < (j : Int)) = false := by simp
        obtain ⟨va, vc, hvs, hread⟩ := HOWN.out.read (D' := fun b => Y.heap.size ≤ b ∧ b < wo.heap.size) (fun b hb => ⟨(HDJ.out b hb).1, (HDJ.out b hb).2.1⟩) (fun b hb => HOWN.out.own.lt b hb)
        subst hvs
        rw [HLEN.out]
        have hFa : F.args = bs.map Bt.t := by rw [HFE.out, HMAP.out, HC.out, List.take_length]; rfl
        have HREAD : Hid (SlD wo (fun b => Y.heap.size ≤ b ∧ b < wo.heap.size) F.args va vc) := Lib.hid (by rw [hFa]; exact hread)
        have hFl : F.args.length = j := by rw [hFa, List.length_map, HLEN.out]
        have HROWF : Hid (rowOf F va vc = #[.int .i64 u.k, .int .i64 u.n, .string u.s, .int .i64 u.q, .slice va j vc]) := Lib.hid (by unfold rowOf; rw [hFl, HFE.out]; rfl)
        unfold zeroRow at hrow3
        obtain ⟨⟨d0, d1, d2, d3, d4⟩, ⟨z0, z1, z2, z3, z4⟩⟩ := five_cells hrow3
        clear hrow3 hread hFa hFl
        go_wp2_with fail
        have hTB1 : ((wo.setCell ⟨w.heap.size, 4, none⟩ (.slice va j vc))).heap[w.heap.size + 1]? = some (.cells zeroRow 33 (0, 0)) := blk_set_ne HRW3.out (Nat.succ_ne_self _) 4 _
        have hbo1 : Below w.heap.size wo (wo.setCell ⟨w.heap.size, 4, none⟩ (.slice va j vc)) := (Below.refl w.heap.size wo).setCell (p := ⟨w.heap.size, 4, none⟩) (Nat.le_refl _) _
        have hrf := HROWF.out
        have hTB : TB (set5 (wo.setCell ⟨w.heap.size, 4, none⟩ (.slice va j vc)) (w.heap.size + 1) F va vc) (w.heap.size + 1) F va vc := TB.set hTB1 F va vc
        have hb9 : Below w.heap.size wo (set5 (wo.setCell ⟨w.heap.size, 4, none⟩ (.slice va j vc)) (w.heap.size + 1) F va vc) := below_set5 hbo1 (Nat.le_succ _)
        have hfin : FullP w F (.returned (.agg (rowOf F va vc))) (set5 (wo.setCell ⟨w.heap.size, 4, none⟩ (.slice va j vc)) (w.heap.size + 1) F va vc) := by
          refine ⟨va, vc, rfl, ?_, HBY.out.trans ((HBR.out.mono HBY.out.size).trans hb9)⟩
          refine (HREAD.out.keep fun b hb off => ?_).mono fun b hb => ⟨Nat.le_trans HBY.out.size hb.1, Nat.lt_of_lt_of_le hb.2 hb9.size⟩
          refine World.cell?_of_block ?_
          have n1 : b ≠ w.heap.size := by have := hb.1; omega
          have n2 : b ≠ w.heap.size + 1 := by have := hb.1; omega
          exact set5_ne (q := F) (aq := va) (cq := vc) (blk_set_ne rfl n1 4 _) n2
        have eF : F.k = u.k ∧ F.n = u.n ∧ F.s = u.s ∧ F.q = u.q ∧ F.args.length = j := by
          refine ⟨by rw [HFE.out]; rfl, by rw [HFE.out]; rfl, by rw [HFE.out]; rfl, by rw [HFE.out]; rfl, ?_⟩
          rw [HFE.out]
          show (u.args.map _).length = j
          rw [List.length_map, ← HC.out]
        rw [← eF.1, ← eF.2.1, ← eF.2.2.1, ← eF.2.2.2.1, ← eF.2.2.2.2]
        rw [← eF.2.2.2.2] at hTB hfin
        exact bodyPost_ret (v := .agg (rowOf F va vc)) (res_ty rfl rfl hTB) rfl hfin
end Go.Proofs.Ytdeomphilggokaa
