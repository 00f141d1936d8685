/-
  Proved: the contract of the document's Live. Condition: things of at most a million cells.
-/
import Derived.Test.YtidjfmkclabagaaB1
import Derived.Test.YtidjfmkclabagaaApp
set_option linter.unusedSimpArgs false
set_option linter.unusedVariables false
namespace Go.Proofs.Ytidjfmkclabagaa
open Go.RowKit

theorem own_slice {w : World} {B : Nat} {v : Value} {n e size : Nat} {xs : List Value} (h : w.ownsRow B e size v n xs) : ∃ ao cap, v = .slice ao n cap := by
  rcases h.2 with ⟨rfl, rfl⟩ | ⟨g, cap, cur, rfl, _⟩
  · exact ⟨none, 0, rfl⟩
  · exact ⟨_, _, rfl⟩
theorem zero51 (w : World) : (zeroValue 51).run Try.prog w = .ok (.agg tzero) w := by kernel_rfl
/-- a cell of an owned row -/
theorem own_cell {w : World} {B : Nat} {v : Value} {l : List C} (h : w.ownsRow B 49 2 v l.length (cv l)) {i : Nat} (hi : i < l.length) : ∃ g cap, v = .slice (some ⟨g, 0, none⟩) l.length cap ∧ B ≤ g ∧ w.cell? ⟨g, i * 2, none⟩ = some (.bool l[i].p) ∧ w.cell? ⟨g, i * 2 + 1, none⟩ = some (.int .i64 l[i].n) := by
  rcases h.2 with ⟨_, h0⟩ | ⟨g, cap, cur, rfl, hB, hg, hc, hm, hs, ht⟩
  · omega
  · have h4 := cv_get0 hi
    have h5 := cv_get1 hi
    rw [← ht, List.getElem?_take, if_pos (by omega), Array.getElem?_toList] at h4 h5
    exact ⟨g, cap, rfl, hB, by rw [blk_cell hg]; exact h4, by rw [blk_cell hg]; exact h5⟩
inductive LivePost (r : Rf) (q : List C) (w : World) (e : Ending) (w' : World) : Prop
  | mk (K : List Nat) (mb : Nat) : K.Nodup → (∀ j, j ∈ K ↔ RchL r.L q j) → e = .returned (.int .i64 (S r.L K : Nat)) → RfAt w' { r with mb := some mb, cnt := K.length, L := restr r.L K } → w.heap.size ≤ mb → Keeps (fun b => b = r.rb) w w' → LivePost r q w e w'
/-- the round of Live -/
def LRel (L : LMap) (q : List C) (w : World) (v n i : Value) (wr : World) : Prop :=
  ∃ (K : List Nat) (j : Nat), i = .int .i64 j ∧ n = .int .i64 (S L K : Nat) ∧ LSt L q K j ∧ j ≤ (q ++ K.flatMap (flds L)).length ∧ wr.ownsRow (w.heap.size + 1) 49 2 v (q ++ K.flatMap (flds L)).length (cv (q ++ K.flatMap (flds L))) ∧
    MapF wr w.heap.size K.length (fL (restr L K)) ∧ Below w.heap.size w wr ∧ w.heap.size < wr.heap.size
theorem thing_val (L : LMap) (k : Int) : ∃ a b o n, (fL L k).getD (.agg tzero) = .agg #[.int .i64 a, .int .i64 b, .slice o n n] := by
  unfold fL
  by_cases h : 0 ≤ k
  · rw [if_pos h]
    cases L k.toNat with
    | none => exact ⟨0, 0, none, 0, rfl⟩
    | some x => exact ⟨x.k, x.t, _, x.l.length, rfl⟩
  · rw [if_neg h]; exact ⟨0, 0, none, 0, rfl⟩
set_option maxRecDepth 100000 in
set_option maxHeartbeats 8000000 in
theorem live_any (r : Rf) (w : World) (hr : RfAt w r) (q : List C) (hcl : ClosedL r.L q) (hsum : ∀ K : List Nat, K.Nodup → (∀ j ∈ K, RchL r.L q j) → S r.L K ≤ 1000000) (qb qsz cap : Nat) (qo : Option Addr) (hqo : 0 < q.length → qo = some ⟨qb, 0, none⟩) (hq : 0 < q.length → RowC w qb qsz q) (hql : q.length ≤ 3000000000000) :
    Calls Try.prog 11 #[.pointer (some ⟨r.rb, 0, none⟩), .slice qo q.length cap] w (LivePost r q w) := by
  obtain ⟨i49, hi, hz0, hz1, hz2⟩ := info_parts info49
  have HI := Lib.hid hi
  have HR := Lib.hid hr
  have HCL := Lib.hid hcl
  have HSUM := Lib.hid hsum
  have HQO := Lib.hid hqo
  have HQ := Lib.hid hq
  obtain ⟨nq, hnq⟩ : ∃ nq, nq = q.length := ⟨_, rfl⟩
  rw [← hnq] at hql ⊢
  have HNQ := Lib.hid hnq
  clear hi hr hcl hsum hqo hq hnq
  go_enter Try.func11, Try.ntmps11
  have hmm := @run_makeMap Try.prog
  have lq : 0 < nq → qb < w.heap.size := fun h => by
    obtain ⟨cur, h1, _⟩ := HQ.out (by rw [← HNQ.out]; exact h)
    exact lt_of_block h1
  have LQ := Lib.hid lq
  have hmade := MapF.made w
  have hB1 : Below w.heap.size w (w.alloc (.map #[] 0)) := balloc (Below.refl _ _) _
  have hqc : 0 < nq → ∃ ad, qo = some ad ∧ ∀ j u, (cv q)[j]? = some u → (w.alloc (.map #[] 0)).cell? (ad.add j) = some u := by
    intro h0
    have h0' : 0 < q.length := by rw [← HNQ.out]; exact h0
    refine ⟨⟨qb, 0, none⟩, HQO.out h0', fun j u hu => ?_⟩
    obtain ⟨cur, h1, h2, h3⟩ := HQ.out h0'
    have hadd : (⟨qb, 0, none⟩ : Addr).add j = ⟨qb, j, none⟩ := by unfold Addr.add; split <;> simp_all
    rw [hadd]
    have hj : j < q.length * 2 := by
      have := (List.getElem?_eq_some_iff.1 hu).1
      rwa [cv_len] at this
    rw [← h3, List.getElem?_take, if_pos hj, Array.getElem?_toList] at hu
    exact (blk_cell (blk_alloc h1 _) j).trans hu
  have HQC := Lib.hid hqc
  have HMADE := Lib.hid hmade
  have HB1 := Lib.hid hB1
  have hcvl : (cv q).length = nq * 2 := by rw [cv_len, HNQ.out]
  have HCVL := Lib.hid hcvl
  clear lq hmade hB1 hqc hcvl
  go_upto_region 4 with (first | (at_builtin; go_must (refine wpList_append3 rfl (.tmp 13) (.tmp 14) 32 32 rfl (w.heap.size + 1) 49 49 i49 _ 2 16 Try.underlying32 Try.underlying32 HI.out hz0 hz1 hz2 rfl (by decide) (.slice none 0 0) 0 [] rfl (World.ownsRow_nil _ _ _ _) qo nq cap (cv q) rfl HCVL.out HQC.out (cv_one q) (by unfold maxLen; omega) (by omega) (by simp) ?_; intro v1 w1 hown1 hg1 hat1)))
  have hnq2 : q.length = nq := HNQ.out.symm
  have hown : w1.ownsRow (w.heap.size + 1) 49 2 v1 nq (cv q) := by have h := hown1; rw [Nat.zero_add, List.nil_append] at h; exact h
  have hbw1 : Below w.heap.size w w1 := HB1.out.grown hg1 (by simp) (fun g e => by cases e)
  have hmap1 : MapF w1 w.heap.size 0 (fun _ => none) := HMADE.out.of_same (hg1.block _ (by simp) (fun e => by cases e))
  have hlt1 : w.heap.size < w1.heap.size := by have := hg1.size; rw [World.size_alloc] at this; omega
  have HOWN := Lib.hid hown
  have HBW1 := Lib.hid hbw1
  have HMAP1 := Lib.hid hmap1
  have HLT1 := Lib.hid hlt1
  clear hown1 hg1 hat1 hown hbw1 hmap1 hlt1 hmm
  go_wp2_with fail
  go_loopw [6, 7, 8] (LRel r.L q w) (fun _ _ i _ => nq + 1000001 - (intOf i).toNat)
  case atStart =>
    refine ⟨[], 0, rfl, rfl, lst_start _ _, Nat.zero_le _, ?_, HMAP1.out.congr (fun k _ => ?_), HBW1.out, HLT1.out⟩
    · simp only [List.flatMap_nil, List.append_nil]; rw [hnq2]; exact HOWN.out
    · unfold fL restr; simp
  case round =>
    obtain ⟨K, j, rfl, rfl, hst, hj, hown, hmap, hbw, hlt⟩ := hrel
    obtain ⟨Q, hQ⟩ : ∃ Q, Q = q ++ K.flatMap (flds r.L) := ⟨_, rfl⟩
    have hsK := HSUM.out K hst.nd hst.sub
    have hfl := flds_len r.L K
    have hQl : Q.length ≤ nq + 1000000 := by rw [hQ, List.length_append, hnq2]; omega
    obtain ⟨sk, hsk⟩ : ∃ sk, sk = S r.L K := ⟨_, rfl⟩
    obtain ⟨ql, hql2⟩ : ∃ ql, ql = Q.length := ⟨_, rfl⟩
    rw [← hQ] at hj hown
    rw [← hsk] at hsK ⊢
    rw [← hql2] at hQl hj hown
    have HQ2 := Lib.hid hQ
    have HQL := Lib.hid hql2
    have HSK := Lib.hid hsk
    have HST := Lib.hid hst
    have HOWN := Lib.hid hown
    have HMAP := Lib.hid hmap
    have HBW := Lib.hid hbw
    have HLT := Lib.hid hlt
    obtain ⟨oto, ctc, rfl⟩ := own_slice hown
    clear hQ hql2 hsk hst hmap hbw hlt hfl hown
    by_cases hjl : j < ql
    · have hjQ : j < Q.length := by rw [← HQL.out]; exact hjl
      have hd : decide ((j : Int) < (ql : Int)) = true := by simp; omega
      obtain ⟨c, hc⟩ : ∃ c, c = Q[j] := ⟨_, rfl⟩
      have hcm : c ∈ q ++ K.flatMap (flds r.L) := by rw [hc, ← HQ2.out]; exact List.getElem_mem hjQ
      have hcI : I64 c.n := by
        rcases List.mem_append.1 hcm with h | h
        · exact HCL.out.numq c h
        · obtain ⟨i', hi', hc'⟩ := List.mem_flatMap.1 h
          unfold flds at hc'
          cases hx : r.L i' with
          | none => rw [hx] at hc'; simp at hc'
          | some x => rw [hx] at hc'; exact HCL.out.numf i' x hx c (by simpa using hc')
      have hown := HOWN.out
      rw [HQL.out] at hown
      obtain ⟨g, cap', hv, hBg, y0, y1⟩ := own_cell hown hjQ
      rw [← hc] at y0 y1
      rw [← HQL.out] at hv
      cases hv
      have hx := index_cell g ql ctc j hjl
      obtain ⟨c0, c1⟩ := c
      simp only at y0 y1 hcI
      have hlk := (HMAP.out.look Try.underlying29 (zero51 wr) hcI).2
      obtain ⟨tv, htv⟩ : ∃ tv, tv = (fL (restr r.L K) c1).getD (.agg tzero) := ⟨_, rfl⟩
      obtain ⟨seen, hseen⟩ : ∃ seen, seen = (fL (restr r.L K) c1).isSome := ⟨_, rfl⟩
      rw [← htv, ← hseen] at hlk
      obtain ⟨a1, a2, a3, a4, ha⟩ := thing_val (restr r.L K) c1
      rw [← htv] at ha
      subst ha
      have lg : g < wr.heap.size := World.block_lt_of_cell? wr _ y0
      have HCM := Lib.hid hcm
      have HCI := Lib.hid hcI
      have HC0 := Lib.hid hc
      have HSEEN := Lib.hid hseen
      have HJQ := Lib.hid hjQ
      have HBG := Lib.hid hBg
      clear hown hc hcm hcI hseen htv hBg
      go_upto_region 9 with fail
      obtain ⟨wr0, rfl⟩ : ∃ wr0 : World, wr0 = wr := ⟨_, rfl⟩
      obtain ⟨W, hW⟩ : ∃ W, W = wr0.alloc (.cells #[.int .i64 a1, .int .i64 a2, .slice a3 a4 a4] 51) := ⟨_, rfl⟩
      rw [← hW]
      have hbW : Below wr0.heap.size wr0 W := by rw [hW]; exact balloc (Below.refl _ _) _
      have y0' : W.cell? ⟨g, j * 2, none⟩ = some (.bool c0) := (hbW.cell (p := ⟨g, j * 2, none⟩) lg).trans y0
      have y1' : W.cell? ⟨g, j * 2 + 1, none⟩ = some (.int .i64 c1) := (hbW.cell (p := ⟨g, j * 2 + 1, none⟩) lg).trans y1
      have hownW : W.ownsRow (w.heap.size + 1) 49 2 (.slice (some ⟨g, 0, none⟩) ql ctc) ql (cv Q) := own_keep HOWN.out (gr_below hbW none) (fun q hq => by cases hq)
      have hmapW : MapF W w.heap.size K.length (fL (restr r.L K)) := HMAP.out.of_same (hbW.block _ HLT.out)
      have HOWNW := Lib.hid hownW
      have HMAPW := Lib.hid hmapW
      have HBWW := Lib.hid (HBW.out.trans (hbW.mono (Nat.le_of_lt HLT.out)))
      have HLTW := Lib.hid (Nat.lt_of_lt_of_le HLT.out hbW.size)
      have lgW : g < W.heap.size := Nat.lt_of_lt_of_le lg hbW.size
      clear hW hbW y0 y1 hownW hmapW hlk lg
      cases c0 with
      | false =>
        go_wp2_with fail
        go_roundw
        case rel =>
          have hc : (q ++ K.flatMap (flds r.L))[j]'(by rw [← HQ2.out]; exact HJQ.out) = ⟨false, c1⟩ := by rw [HC0.out]; simp only [HQ2.out]
          refine ⟨K, j + 1, by go_num, by rw [HSK.out], lst_skip HST.out (by rw [← HQ2.out]; exact HJQ.out) (fun h => by rw [hc] at h; cases h), by rw [← HQ2.out, ← HQL.out]; exact hjl, ?_, HMAPW.out, HBWW.out, HLTW.out⟩
          rw [← HQ2.out, ← HQL.out]
          exact HOWNW.out
        case measure => simp only [intOf]; omega
      | true =>
        cases seen with
        | true =>
          go_wp2_with fail
          go_roundw
          case rel =>
            have hc : (q ++ K.flatMap (flds r.L))[j]'(by rw [← HQ2.out]; exact HJQ.out) = ⟨true, c1⟩ := by rw [HC0.out]; simp only [HQ2.out]
            refine ⟨K, j + 1, by go_num, by rw [HSK.out], lst_skip HST.out (by rw [← HQ2.out]; exact HJQ.out) (fun h => ?_), by rw [← HQ2.out, ← HQL.out]; exact hjl, ?_, HMAPW.out, HBWW.out, HLTW.out⟩
            · rw [hc]
              have hs := HSEEN.out
              unfold fL at hs
              by_cases hp : 0 ≤ c1
              · rw [if_pos hp] at hs
                refine ⟨c1.toNat, ?_, by simp only; omega⟩
                unfold restr at hs
                by_cases hm : c1.toNat ∈ K
                · exact hm
                · rw [if_neg hm] at hs; cases hs
              · rw [if_neg hp] at hs; cases hs
            · rw [← HQ2.out, ← HQL.out]
              exact HOWNW.out
          case measure => simp only [intOf]; omega
        | false =>
          obtain ⟨j', x, rfl, hx'⟩ : ∃ (j' : Nat) (x : Th), c1 = (j' : Int) ∧ r.L j' = some x := by
            rcases List.mem_append.1 HCM.out with h | h
            · obtain ⟨j', x, h1, h2⟩ := HCL.out.root _ h rfl
              exact ⟨j', x, h1, h2⟩
            · obtain ⟨i', hi', hc'⟩ := List.mem_flatMap.1 h
              unfold flds at hc'
              cases hx : r.L i' with
              | none => rw [hx] at hc'; simp at hc'
              | some y =>
                rw [hx] at hc'
                obtain ⟨j', x, h1, h2⟩ := HCL.out.fld i' y hx _ (by simpa using hc') rfl
                exact ⟨j', x, h1, h2⟩
          have hnK : j' ∉ K := by
            intro hm
            have hs := HSEEN.out
            rw [fL_nat] at hs
            unfold restr at hs
            rw [if_pos hm, hx'] at hs
            cases hs
          obtain ⟨b0, hb0⟩ : ∃ b0, r.mb = some b0 := by
            cases hm : r.mb with
            | none => have := HR.out.mn hm j'; rw [hx'] at this; cases this
            | some b0 => exact ⟨b0, rfl⟩
          have hW0 : Below w.heap.size w W := HBWW.out
          have rc : W.cell? ⟨r.rb, 1, none⟩ = some (.map (some b0)) := by
            have h := blk_cell (blk_below HR.out.h hW0 HR.out.lh) 1
            rw [h]
            show some (Value.map r.mb) = _
            rw [hb0]
          have hm0 := HR.out.m b0 hb0
          have hlk : ∀ W' : World, W'.heap[b0]? = W.heap[b0]? → (Instr.lookup 29 (.map (some b0)) (.int .i64 (j' : Int)) false).run Try.prog W' = .ok (.agg (trow x)) W' := by
            intro W' e
            have h := ((hm0.of_same (w' := W') (e.trans (hW0.block b0 hm0.lt))).look Try.underlying29 (zero51 W') HCI.out).1
            rw [fL_nat, hx'] at h
            exact h
          have lb0 : b0 < W.heap.size := Nat.lt_of_lt_of_le hm0.lt hW0.size
          have lrb : r.rb < W.heap.size := Nat.lt_of_lt_of_le HR.out.lh hW0.size
          have hlk1 := hlk W rfl
          have hlk2 := hlk W.drew rfl
          have hlk3 := hlk (W.alloc (.cells tzero 51)) (Below.heap_alloc _ _ _ lb0)
          have hlk4 := hlk (W.alloc (.cells tzero 51)).drew (Below.heap_alloc _ _ _ lb0)
          have hxx := index_cell g ql ctc j hjl
          have HX := Lib.hid hx'
          have HNK := Lib.hid hnK
          have HM0 := Lib.hid hm0
          clear hx' hnK hb0 hW0 hm0 hlk
          go_upto_region 10 with fail
          go_cut [11] from 41 to 50 (fun v wx => v = .pointer (some ⟨W.heap.size, 0, none⟩) ∧ wx = (W.alloc (.cells (trow x) 51)).drew)
          case first =>
            go_region
            all_goals
              go_wp2_with fail
              go_meet
              exact ⟨rfl, rfl⟩
          case rest =>
          obtain ⟨rfl, hwc⟩ := hcut
          have hbc : Below W.heap.size W wc := by rw [hwc]; exact (balloc (Below.refl _ _) _).drew
          have hxc : wc.heap[W.heap.size]? = some (.cells (trow x) 51 (0, 0)) := by rw [hwc]; exact heap_alloc_new W (.cells (trow x) 51)
          have hmapc : MapF wc w.heap.size K.length (fL (restr r.L K)) := HMAPW.out.of_same (hbc.block _ HLTW.out)
          have hownc : wc.ownsRow (w.heap.size + 1) 49 2 (.slice (some ⟨g, 0, none⟩) ql ctc) ql (cv Q) := own_keep HOWNW.out (gr_below hbc none) (fun q hq => by cases hq)
          have y0'' : wc.cell? ⟨g, j * 2, none⟩ = some (.bool true) := (hbc.cell (p := ⟨g, j * 2, none⟩) lgW).trans y0'
          have y1'' : wc.cell? ⟨g, j * 2 + 1, none⟩ = some (.int .i64 j') := (hbc.cell (p := ⟨g, j * 2 + 1, none⟩) lgW).trans y1'
          have t0 : wc.cell? ⟨W.heap.size, 0, none⟩ = some (.int .i64 x.k) := blk_cell hxc 0
          have t1 : wc.cell? ⟨W.heap.size, 1, none⟩ = some (.int .i64 x.t) := blk_cell hxc 1
          have t2 : wc.cell? ⟨W.heap.size, 2, none⟩ = some (.slice (some ⟨x.b, 0, none⟩) x.l.length x.l.length) := blk_cell hxc 2
          have hmapd : MapF wc.drew w.heap.size K.length (fL (restr r.L K)) := hmapc.of_same rfl
          have hKl : K.length < maxLen := by have h1 := flds_len r.L K; have := HSK.out; unfold maxLen; omega
          obtain ⟨w9, hst9, hmap9, hg9⟩ := hmapd.store Try.underlying29 hKl HCI.out (.agg (trow x))
          have HWC := Lib.hid hwc
          have HBC := Lib.hid hbc
          have HXC := Lib.hid hxc
          have HOWNC := Lib.hid hownc
          have HMAP9 := Lib.hid hmap9
          have HG9 := Lib.hid hg9
          clear hwc hbc hxc hmapc hownc hmapd hmap9 hg9 hlk1 hlk2 hlk3 hlk4 rc y0' y1' hKl
          go_upto_region 11 with fail
          go_region
          have hkb : W.heap.size ≠ w.heap.size := by have := HLTW.out; omega
          have hs9 : wc.heap.size ≤ w9.heap.size := HG9.out.size
          have hx9 : w9.heap[W.heap.size]? = some (.cells (trow x) 51 (0, 0)) := (HG9.out.block _ (lt_of_block HXC.out) (fun e => hkb (Option.some.inj e))).trans HXC.out
          have t0' : w9.cell? ⟨W.heap.size, 0, none⟩ = some (.int .i64 x.k) := blk_cell hx9 0
          have t1' : w9.cell? ⟨W.heap.size, 1, none⟩ = some (.int .i64 x.t) := blk_cell hx9 1
          have t2' : w9.cell? ⟨W.heap.size, 2, none⟩ = some (.slice (some ⟨x.b, 0, none⟩) x.l.length x.l.length) := blk_cell hx9 2
          have hne49 : ∀ (b : Nat) (c : Array Value) (t : TypeId) (f : Nat × Nat), wc.heap[b]? = some (.cells c t f) → w9.heap[b]? = some (.cells c t f) := by
            intro b c t f hb
            refine (HG9.out.block b (lt_of_block hb) (fun e => ?_)).trans hb
            obtain ⟨es, clock, hm⟩ := (HMAPW.out.of_same (w' := wc) (HBC.out.block _ HLTW.out)).isMap
            have e' : b = w.heap.size := Option.some.inj e
            rw [e', hm] at hb
            cases hb
          have hown9 : w9.ownsRow (w.heap.size + 1) 49 2 (.slice (some ⟨g, 0, none⟩) ql ctc) ql (cv Q) := own_carry HOWNC.out fun g c f hb => hne49 g c 49 f hb
          have hth := HR.out.th j' x HX.out
          have hthc : Cells wc x.b x.l := (hth.below HBWW.out hth.lt).below HBC.out (Nat.lt_of_lt_of_le hth.lt HBWW.out.size)
          have hth9 : Cells w9 x.b x.l := hne49 _ _ _ _ hthc
          have hcQ : (q ++ K.flatMap (flds r.L))[j]'(by rw [← HQ2.out]; exact HJQ.out) = ⟨true, (j' : Int)⟩ := by rw [HC0.out]; simp only [HQ2.out]
          have hlst := lst_new HST.out (by rw [← HQ2.out]; exact HJQ.out) (j := j') (by rw [hcQ]) (by rw [hcQ]) HNK.out
          have hsn := HSUM.out _ hlst.nd hlst.sub
          have hfj : flds r.L j' = x.l := by unfold flds; rw [HX.out]; rfl
          have hS : S r.L (K ++ [j']) = sk + 1 + x.l.length := by rw [S_app, S, S, hfj, HSK.out]; omega
          rw [hS] at hsn
          have hql3 : ql + x.l.length ≤ nq + 2000000 := by omega
          have hnews : 0 < x.l.length → ∃ ad, (some ⟨x.b, 0, none⟩ : Option Addr) = some ad ∧ ∀ j u, (cv x.l)[j]? = some u → w9.cell? (ad.add j) = some u := fun _ => ⟨_, rfl, fun j u hu => by
            have hadd : (⟨x.b, 0, none⟩ : Addr).add j = ⟨x.b, j, none⟩ := by unfold Addr.add; split <;> simp_all
            rw [hadd, blk_cell hth9, List.getElem?_toArray]
            exact hu⟩
          obtain ⟨xl, hxl⟩ : ∃ xl, xl = x.l.length := ⟨_, rfl⟩
          rw [← hxl] at t2' hsn hql3 hnews hS
          have hcx : (cv x.l).length = xl * 2 := by rw [cv_len, hxl]
          have HOWN9 := Lib.hid hown9
          have HLST := Lib.hid hlst
          have HS2 := Lib.hid hS
          have HFJ := Lib.hid hfj
          have HNEWS := Lib.hid hnews
          have HCX := Lib.hid hcx
          have HXL := Lib.hid hxl
          have hle9 : w.heap.size + 1 ≤ w9.heap.size := by have := HLTW.out; have := HBC.out.size; omega
          clear hx9 hne49 hown9 hth hthc hth9 hcQ hlst hS hfj hnews hcx hxl t0 t1 t2 y0'' y1'' hst9
          go_wp2_with (first | (at_builtin; go_must (refine wpList_append3 rfl (.tmp 64) (.tmp 66) 32 32 rfl (w.heap.size + 1) 49 49 i49 _ 2 16 Try.underlying32 Try.underlying32 HI.out hz0 hz1 hz2 rfl (by decide) (.slice (some ⟨g, 0, none⟩) ql ctc) ql (cv Q) rfl HOWN9.out (some ⟨x.b, 0, none⟩) xl xl (cv x.l) rfl HCX.out HNEWS.out (cv_one _) (by unfold maxLen; omega) (by omega) hle9 ?_; intro v5 w5 hown5 hg5 hat5)))
          go_roundw
          case rel =>
            have hlw : w.heap.size < wc.heap.size := by have := HLTW.out; have := HBC.out.size; omega
            have hb9 : Below w.heap.size w w9 := (HBWW.out.trans (HBC.out.mono (Nat.le_of_lt HLTW.out))).grown (gr_trans (gr_drew wc 1 (some w.heap.size)) HG9.out) (Nat.le_of_lt hlw) (fun g e => by have := Option.some.inj e; omega)
            have hb5 : Below w.heap.size w w5 := hb9.grown hg5 (by omega) (fun g e => by have := HBG.out; have e' := Option.some.inj e; simp only at e'; omega)
            have hQq : q ++ (K ++ [j']).flatMap (flds r.L) = Q ++ x.l := by
              rw [List.flatMap_append, ← List.append_assoc, ← HQ2.out]
              simp [HFJ.out]
            have hlQ : (Q ++ x.l).length = ql + xl := by rw [List.length_append, ← HQL.out, ← HXL.out]
            refine ⟨K ++ [j'], j + 1, by go_num, by rw [HS2.out]; go_num, HLST.out, ?_, ?_, ?_, hb5, ?_⟩
            · rw [hQq, hlQ]; omega
            · rw [hQq, hlQ, cv_append]; exact hown5
            · rw [List.length_append]
              have h5 := HMAP9.out.of_same (hg5.block _ (by omega) (fun e => by have := HBG.out; have e' := Option.some.inj e; simp only at e'; omega))
              refine h5.congr fun k _ => ?_
              exact (fL_restr_snoc r.L K j' HX.out k).symm
            · have := hg5.size; omega
          case measure => simp only [intOf]; omega
    · have hd : decide ((j : Int) < (ql : Int)) = false := by simp; omega
      have hge : ¬ j < ql := hjl
      have c1 : wr.cell? ⟨r.rb, 1, none⟩ = some (.map r.mb) := by
        have h := blk_below HR.out.h HBW.out HR.out.lh
        exact blk_cell h 1
      have f1 : wr.frozen? ⟨r.rb, 1, none⟩ = false := blk_free (blk_below HR.out.h HBW.out HR.out.lh) 1
      go_wp2_with fail
      go_ret
      obtain rfl : j = ql := by omega
      have hend := lst_end (by have h := HST.out; rw [HQL.out, HQ2.out] at h; exact h)
      have hrb : w.heap.size ≠ r.rb := by have := HR.out.lh; omega
      refine .mk K w.heap.size HST.out.nd (fun j => ⟨HST.out.sub j, hend j⟩) (by rw [← HSK.out]; rfl) ⟨?_, ?_, (fun h => by cases h), ?_, ?_, ?_, ?_, HR.out.nx⟩ (Nat.le_refl _) ?_
      · exact blk_set (blk_below HR.out.h HBW.out HR.out.lh) 1 (.map (some w.heap.size))
      · intro b hb
        obtain rfl : w.heap.size = b := Option.some.inj hb
        exact HMAP.out.of_same (Below.heap_setCell _ _ _ _ hrb)
      · intro j x hx
        have hx' : r.L j = some x := by
          unfold restr at hx
          simp only at hx
          split at hx
          · exact hx
          · cases hx
        have h1 := HR.out.th j x hx'
        exact (h1.below HBW.out h1.lt).set_ne (blk_ne h1 HR.out.h (by decide)) _ _
      · intro j x j' x' hx hx' hne
        have e1 : r.L j = some x := by
          unfold restr at hx
          simp only at hx
          split at hx
          · exact hx
          · cases hx
        have e2 : r.L j' = some x' := by
          unfold restr at hx'
          simp only at hx'
          split at hx'
          · exact hx'
          · cases hx'
        exact HR.out.ne j x j' x' e1 e2 hne
      · intro j x hx
        have e1 : r.L j = some x := by
          unfold restr at hx
          simp only at hx
          split at hx
          · exact hx
          · cases hx
        exact HR.out.lt j x e1
      · exact nodup_lt _ K HST.out.nd (fun j hj => by
          obtain ⟨x, hx⟩ := (HST.out.sub j hj).there HCL.out
          exact HR.out.lt j x hx)
      · have hk : Keeps (fun b => b = r.rb) w wr := Keeps.of_below HBW.out
        exact hk.set (.inl rfl) _ _
end Go.Proofs.Ytidjfmkclabagaa
