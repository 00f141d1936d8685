/-
  Proved: the contract of the reference's bind. Condition: what is known is in order.
-/
import Derived.Test.YtdeomphilggokaaU3
set_option linter.unusedSimpArgs false
set_option linter.unusedVariables false
namespace Go.Proofs.Ytdeomphilggokaa
open Go.RowKit

/-- a variable stands for a type -/
theorem RU.put {B : Nat} {w : World} {sb mb me : Nat} {V : List Int} {D : Nat → Prop} {st : St} (h : RU B w sb mb me V D st) (hD : ∀ b, D b → b < B) (hB : B ≤ w.heap.size) {n : Int} (hn : n ∈ V) {x : Ty} {ao : Option Addr} {cap : Nat} (hx : SlD w D x.args ao cap) :
    ∃ w', (Instr.mapUpdate 70 (.map (some mb)) (.int .i64 n) (.agg (rowOf x ao cap))).run Try.prog w = .ok () w' ∧ RU B w' sb mb me V D ⟨upd st.b n x, st.e⟩ ∧ Below B w w' ∧ Boxes w w' ∧ w.heap.size ≤ w'.heap.size := by
  obtain ⟨ke, g1, g2, g3, g4⟩ := h.eq
  obtain ⟨ks, bt, h1, h2, h3, h4, h5⟩ := h.by'
  have hlen : ks.length < maxLen := by
    have := nodup_len ks V h2 h3
    have h9 := h.vs
    unfold maxLen
    omega
  have hi := h.i64 n hn
  have key : ∃ w' ks', (Instr.mapUpdate 70 (.map (some mb)) (.int .i64 n) (.agg (rowOf x ao cap))).run Try.prog w = .ok () w' ∧ MapX w' mb ks' (fun j => if j = n then some (.agg (rowOf x ao cap)) else (bt j).map Bt.val) ∧ w.grownBy w' (some mb) ∧ ks'.Nodup ∧ (∀ k ∈ ks', k ∈ V) ∧ ∀ k, k = n ∨ k ∈ ks → k ∈ ks' := by
    by_cases hk : n ∈ ks
    · obtain ⟨w', hrun, hm, hg⟩ := h1.again Try.underlying70 hlen hi hk (.agg (rowOf x ao cap))
      exact ⟨w', ks, hrun, hm, hg, h2, h3, fun k hk' => by rcases hk' with rfl | hk'; exact hk; exact hk'⟩
    · obtain ⟨w', hrun, hm, hg⟩ := h1.new Try.underlying70 hlen hi hk (.agg (rowOf x ao cap))
      refine ⟨w', ks ++ [n], hrun, hm, hg, ?_, fun k hk' => ?_, fun k hk' => ?_⟩
      · rw [List.nodup_append]
        refine ⟨h2, by simp, fun a ha b hb => ?_⟩
        rw [List.mem_singleton] at hb
        rw [hb]
        exact fun e => hk (e ▸ ha)
      · rcases List.mem_append.1 hk' with hk' | hk'
        · exact h3 k hk'
        · rw [List.mem_singleton] at hk'; rw [hk']; exact hn
      · rcases hk' with rfl | hk'
        · simp
        · simp [hk']
  obtain ⟨w', ks', hrun, hm, hg, hnd, hkv, hin⟩ := key
  have hbel : Below B w w' := grown_below hg hB h.low.2.1
  have hbox : Boxes w w' := fun bb c t f hb => by
    have hne : bb ≠ mb := fun e => by
      obtain ⟨es, clock, hm⟩ := h1.f.isMap
      rw [e, hm] at hb
      cases hb
    exact (hg.block bb (lt_of_block hb) (fun e => hne (Option.some.inj e))).trans hb
  refine ⟨w', hrun, ⟨hbox _ _ _ _ h.s, ⟨ks', fun j => if j = n then some ⟨x, ao, cap⟩ else bt j, hm.congr fun k hk => ?_, hnd, hkv, fun k hk => ?_, fun k => ⟨?_, fun y hy => ?_⟩⟩, ⟨ke, g1.of_same (hg.block me g1.lt (fun e => h.low.2.2.2 (Option.some.inj e).symm)), g2, g3, g4⟩, h.low, h.vs, h.i64⟩, hbel, hbox, hg.size⟩
  · by_cases e1 : k = n
    · simp [e1, Bt.val]
    · simp [e1]
  · by_cases e1 : k = n
    · exact hin k (.inl e1)
    · simp only [if_neg e1] at hk
      exact hin k (.inr (h4 k hk))
  · show upd st.b n x k = Option.map Bt.t (if k = n then some ⟨x, ao, cap⟩ else bt k)
    by_cases e1 : k = n
    · rw [if_pos e1, e1, upd_same]; rfl
    · rw [upd_other x e1, if_neg e1]; exact (h5 k).1
  · by_cases e1 : k = n
    · simp only [if_pos e1] at hy
      cases hy
      exact hx.keep (cells_D hD hbel)
    · simp only [if_neg e1] at hy
      exact ((h5 k).2 y hy).keep (cells_D hD hbel)
/-- what bind and Same leave -/
structure BindR (B sb mb me : Nat) (V : List Int) (D : Nat → Prop) (r : St × Int) (w : World) (en : Ending) (w' : World) : Prop where
  val : en = .returned (.int .i64 r.2)
  r : r.2 = 0 → RU B w' sb mb me V D r.1
  bel : Below B w w'
  box : Boxes w w'
set_option maxRecDepth 100000 in
set_option maxHeartbeats 8000000 in
theorem rbind_any (B : Nat) (sb mb me : Nat) (V : List Int) (D : Nat → Prop) (st : St) (n : Int) (hn : n ∈ V) (t : Ty) (hw : Wf V st.e t) (ao : Option Addr) (cap : Nat) (w : World) (hk : RK B sb mb me V D st w) (hv : SlD w D t.args ao cap) :
    Calls Try.prog 65 #[.pointer (some ⟨sb, 0, none⟩), .int .i64 n, .agg (rowOf t ao cap)] w (BindR B sb mb me V D (bindD st n t) w) := by
  obtain ⟨W, hW⟩ : ∃ W, W = w.alloc (.cells (rowOf t ao cap) 33) := ⟨_, rfl⟩
  obtain ⟨hbW, hlW, hrow⟩ := box_at hW
  have hkW := hk.keep hbW
  have hvW := hv.keep fun b hb off => below_cells hbW b (hk.d b hb) off
  obtain ⟨i, hi⟩ : ∃ i, i = decide (n ∈ occD (exT st.b t)) := ⟨_, rfl⟩
  have HIN := Lib.hid (rin_any B sb mb me V D st n (parts (exT st.b t)) t (Nat.le_refl _) hw ao cap W hkW hvW)
  rw [← hi] at HIN
  have HCM : Hid (∀ X : World, Below W.heap.size W X → Calls Try.prog 90 #[.pointer (some ⟨sb, 0, none⟩), .agg (rowOf t ao cap)] X (CmpR B sb mb me V D st.b st.e (exT st.b t) X)) := Lib.hid (fun X hX => rcmp_any B sb mb me V D st.b (parts (exT st.b t)) t st.e (Nat.le_refl _) hw ao cap X (hkW.keep hX) (hvW.keep fun b hb off => below_cells hX b (hkW.d b hb) off))
  obtain ⟨T, hT⟩ : ∃ T, T = exT st.b t := ⟨_, rfl⟩
  have HB : Hid (bindD st n t = if i = true then (st, 10) else if st.e n = true ∧ cmpT T = false then (st, 11) else (⟨upd st.b n t, if st.e n = true then markE st.e (cvT T) else st.e⟩, 0)) := Lib.hid (by rw [bindD, hi, hT]; simp only [decide_eq_true_eq])
  rw [← hT] at HCM
  obtain ⟨ans, hans⟩ : ∃ ans, ans = bindD st n t := ⟨_, rfl⟩
  rw [← hans] at HB ⊢
  have HK := Lib.hid hk
  have HKW := Lib.hid hkW
  have HVW := Lib.hid hvW
  have HBW := Lib.hid hbW
  have HROW := Lib.hid hrow
  have HN := Lib.hid hn
  have HW := Lib.hid hw
  obtain ⟨c, hc⟩ : ∃ c, c = t.args.length := ⟨_, rfl⟩
  unfold rowOf at hW hrow HIN HCM ⊢
  rw [← hc] at hW hrow HIN HCM ⊢
  have HC := Lib.hid hc
  have c0 : W.cell? ⟨w.heap.size, 0, none⟩ = some (.int .i64 t.k) := blk_cell hrow 0
  have c1 : W.cell? ⟨w.heap.size, 1, none⟩ = some (.int .i64 t.n) := blk_cell hrow 1
  have c2 : W.cell? ⟨w.heap.size, 2, none⟩ = some (.string t.s) := blk_cell hrow 2
  have c3 : W.cell? ⟨w.heap.size, 3, none⟩ = some (.int .i64 t.q) := blk_cell hrow 3
  have c4 : W.cell? ⟨w.heap.size, 4, none⟩ = some (.slice ao c cap) := blk_cell hrow 4
  have HROW5 : Hid (W.heap[w.heap.size]? = some (.cells #[.int .i64 t.k, .int .i64 t.n, .string t.s, .int .i64 t.q, .slice ao c cap] 33 (0, 0))) := Lib.hid hrow
  have HBA : Hid (∀ X : World, Boxes W X → Boxes w X) := Lib.hid (fun X h => (Boxes.of_below hbW).trans h)
  have HBB : Hid (∀ X : World, Below B W X → Below B w X) := Lib.hid (fun X h => (hbW.mono hk.lo).trans h)
  have HWW := Lib.hid hW
  clear hW hk hkW hvW hbW hrow hn hw hc hT hans hi hv
  go_enter Try.func65, Try.ntmps65
  go_upto_region 1 with fail
  rw [← HWW.out]
  clear HWW
  generalize Value.agg #[.int .i64 t.k, .int .i64 t.n, .string t.s, .int .i64 t.q, .slice ao c cap] = v0
  cases i with
  | true =>
    go_wp2_with (first | (go_at_call 89; refine HIN.out.mono ?_; rintro e w1 ⟨rfl, hb1⟩; have HB1 := Lib.hid hb1; clear hb1))
    go_ret
    have e : ans = (st, 10) := by rw [HB.out]; simp
    rw [e]
    exact ⟨rfl, (fun h => by cases h), HBB.out _ (HB1.out.mono HKW.out.lo), HBA.out _ (Boxes.of_below HB1.out)⟩
  | false =>
    go_upto_region 4 with (first | (go_at_call 89; refine HIN.out.mono ?_; rintro e w1 ⟨rfl, hb1⟩; have HB1 := Lib.hid hb1; clear hb1))
    have hk1 := HKW.out.keep HB1.out
    have HK1 := Lib.hid hk1
    have hr1 := blk_below HROW5.out HB1.out hlW
    have HR1 := Lib.hid hr1
    have s0 : w1.cell? ⟨sb, 0, none⟩ = some (.map (some mb)) := blk_cell hk1.r.s 0
    have s1 : w1.cell? ⟨sb, 1, none⟩ = some (.map (some me)) := blk_cell hk1.r.s 1
    have le := hk1.r.lookE (hk1.r.i64 n HN.out) w1 rfl
    clear c0 c1 c2 c3 c4
    obtain ⟨⟨c0, c1, c2, c3, c4⟩, _⟩ := five_cells hr1
    obtain ⟨en, hen⟩ : ∃ en, en = st.e n := ⟨_, rfl⟩
    rw [← hen] at le HB
    have HEN := Lib.hid hen
    clear hk1 hr1 hen
    cases en with
    | false =>
      simp only [Bool.false_eq_true, if_false] at le
      have HPUT := Lib.hid ((HK1.out.keep (Below.refl w1.heap.size w1).drew).r.put HK1.out.dB HK1.out.lo HN.out (x := t) (ao := ao) (cap := cap) (HVW.out.keep fun b hb off => below_cells (HB1.out.trans (Below.refl w1.heap.size w1 |>.drew.mono HB1.out.size)) b (HKW.out.d b hb) off))
      obtain ⟨w9, hrun, hru9, hb9, hx9, hs9⟩ := HPUT.out
      unfold rowOf at hrun
      rw [← HC.out] at hrun
      have HRU9 := Lib.hid hru9
      have HB9 := Lib.hid (HBB.out w9 ((HB1.out.mono HKW.out.lo).trans ((Below.refl B w1).drew.trans hb9)))
      have HX9 := Lib.hid (HBA.out w9 ((Boxes.of_below HB1.out).trans (show Boxes w1 w9 from hx9)))
      have s0' : w1.drew.cell? ⟨sb, 0, none⟩ = some (.map (some mb)) := s0
      clear hru9 hb9 hx9 hs9 HPUT
      go_upto_region 8 with fail
      go_region
      all_goals
        go_wp2_with fail
        go_ret
        have e : ans = (⟨upd st.b n t, st.e⟩, 0) := by rw [HB.out, if_neg (by simp), if_neg (by simp), if_neg (by simp)]
        rw [e]
        exact ⟨rfl, (fun _ => HRU9.out), HB9.out, HX9.out⟩
    | true =>
      simp only [if_true] at le
      cases hct : cmpT T with
      | false =>
        have HCT := Lib.hid hct
        go_wp2_with (first | (go_at_call 90; refine (HCM.out w1 HB1.out).mono ?_; rintro e w2 h2; obtain rfl : e = .returned (.bool false) := (by rw [h2.val, HCT.out]); have H2 := Lib.hid h2; clear h2))
        go_ret
        have e : ans = (st, 11) := by rw [HB.out, HCT.out]; simp
        rw [e]
        exact ⟨rfl, (fun h => by cases h), HBB.out _ ((HB1.out.mono HKW.out.lo).trans H2.out.bel), HBA.out _ ((Boxes.of_below HB1.out).trans H2.out.box)⟩
      | true =>
        have HCT := Lib.hid hct
        go_upto_region 8 with (first | (go_at_call 90; refine (HCM.out w1 HB1.out).mono ?_; rintro e w2 h2; obtain rfl : e = .returned (.bool true) := (by rw [h2.val, HCT.out]); have H2 := Lib.hid h2; clear h2))
        have hru2 := H2.out.r HCT.out
        have hr2 := H2.out.box _ _ _ _ HR1.out
        have s0 : w2.cell? ⟨sb, 0, none⟩ = some (.map (some mb)) := blk_cell hru2.s 0
        have s0' : w2.drew.cell? ⟨sb, 0, none⟩ = some (.map (some mb)) := s0
        have hB2 : B ≤ w2.heap.size := Nat.le_trans HK1.out.lo H2.out.bel.size
        have hdr : Below w2.heap.size w2 w2.drew := (Below.refl _ _).drew
        have HBW2 := Lib.hid ((HB1.out.mono HKW.out.lo).trans H2.out.bel)
        obtain ⟨w9, hrun, hru9, hb9, hx9, hs9⟩ := (hru2.keep hdr (fun b hb => Nat.lt_of_lt_of_le (HK.out.dB b hb) hB2)).put HK.out.dB hB2 HN.out (x := t) (ao := ao) (cap := cap) (HVW.out.keep (cells_D HK.out.dB (HBW2.out.trans (hdr.mono hB2))))
        unfold rowOf at hrun
        rw [← HC.out] at hrun
        have HRU9 := Lib.hid hru9
        have HB9 := Lib.hid (HBB.out w9 (HBW2.out.trans ((Below.refl B w2).drew.trans hb9)))
        have HX9 := Lib.hid (HBA.out w9 ((Boxes.of_below HB1.out).trans (H2.out.box.trans (show Boxes w2 w9 from hx9))))
        clear c0 c1 c2 c3 c4 hru2 hru9 hb9 hx9 hs9 hB2 hdr
        obtain ⟨⟨c0, c1, c2, c3, c4⟩, _⟩ := five_cells hr2
        clear hr2
        go_region
        all_goals
          go_wp2_with fail
          go_ret
          have e : ans = (⟨upd st.b n t, markE st.e (cvT T)⟩, 0) := by rw [HB.out, if_neg (by simp), if_neg (by rw [HCT.out]; simp), if_pos trivial]
          rw [e]
          exact ⟨rfl, (fun _ => HRU9.out), HB9.out, HX9.out⟩
end Go.Proofs.Ytdeomphilggokaa
