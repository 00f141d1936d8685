/-
  Proved: the contract of the program's Match: it tells what the reference's tells. Condition: none but that both types fit a machine.
-/
import Derived.Test.YtdeomphilggokaaC7
import Derived.Test.YtdeomphilggokaaL1
set_option linter.unusedSimpArgs false
set_option linter.unusedVariables false
namespace Go.Proofs.Ytdeomphilggokaa
open Go.RowKit

mutual
theorem vars_i64 : ∀ (t : Ty) (xs : List Int), Fits t → (∀ n ∈ xs, I64 n) → ∀ n ∈ varsD xs t, I64 n
  | .mk k n s q args, xs, h, hx => by
    rw [varsD]
    have h1 := h.n
    unfold Fits at h
    split
    · intro m hm
      unfold addV at hm
      split at hm
      · exact hx m hm
      · rcases List.mem_append.1 hm with hm | hm
        · exact hx m hm
        · rw [List.mem_singleton] at hm; rw [hm]; exact h1
    · exact varsL_i64 args xs h.2.2 hx
theorem varsL_i64 : ∀ (l : List Ty) (xs : List Int), FitsL l → (∀ n ∈ xs, I64 n) → ∀ n ∈ varsL xs l, I64 n
  | [], xs, _, hx => by rw [varsL]; exact hx
  | p :: ps, xs, h, hx => by
    rw [varsL]
    unfold FitsL at h
    exact varsL_i64 ps _ h.2 (vars_i64 p xs h.1 hx)
end
theorem findB_nodup {L : List (Int × Ty)} (hn : (keys L).Nodup) {j : Nat} (hj : j < L.length) : findB L L[j].1 = some L[j].2 :=
  findB_at hj (fun k hk e => by
    have h : (keys L)[k]'(by simpa using (Nat.lt_trans hk hj)) = (keys L)[j]'(by simpa using hj) := by simpa using e
    have := (List.getElem_inj hn).1 h
    omega) rfl
theorem rev_in {w w' : World} {b : Nat} (h : w.grownBy w' (some b)) {N : Nat} (hN : N ≤ w.heap.size) (hb : N ≤ b) : Below N w w' := grown_below h hN hb
set_option maxRecDepth 100000 in
set_option maxHeartbeats 8000000 in
theorem pMatch_any (g t : Ty) (D : Nat → Prop) (ag at' : Option Addr) (cg ct : Nat) (w : World) (hD : ∀ b, D b → b < w.heap.size) (hvg : SlD w D g.args ag cg) (hvt : SlD w D t.args at' ct) (hfg : Fits g) (hft : Fits t) :
    Calls Try.prog 14 #[.agg (rowOf g ag cg), .agg (rowOf t at' ct)] w (MatchPost D (rMatchD g t).1 (rMatchD g t).2 w) := by
  obtain ⟨c, hc⟩ : ∃ c, c = g.args.length := ⟨_, rfl⟩
  obtain ⟨c', hc'⟩ : ∃ c', c' = t.args.length := ⟨_, rfl⟩
  obtain ⟨W0, hW0⟩ : ∃ W0, W0 = w.alloc (.cells (rowOf g ag cg) 33) := ⟨_, rfl⟩
  obtain ⟨hbW0, hlW0, hrow0⟩ := box_at hW0
  obtain ⟨W, hW⟩ : ∃ W, W = W0.alloc (.cells (rowOf t at' ct) 33) := ⟨_, rfl⟩
  obtain ⟨hbW1, hlW1, hrow2⟩ := box_at hW
  have hs0 : W0.heap.size = w.heap.size + 1 := by rw [hW0]; simp
  have hbW := hbW0.trans (hbW1.mono hbW0.size)
  have hrow := blk_below hrow0 hbW1 hlW0
  rw [hs0] at hrow2
  have hl1 : w.heap.size < W.heap.size := lt_of_block hrow
  have hl2 : w.heap.size + 1 < W.heap.size := lt_of_block hrow2
  rw [hW0] at hW
  have keepG : ∀ V : World, Below w.heap.size w V → (∀ b, D b → b < V.heap.size) ∧ SlD V D g.args ag cg ∧ SlD V D t.args at' ct := fun V hV =>
    ⟨fun b hb => Nat.lt_of_lt_of_le (hD b hb) hV.size, hvg.keep fun b hb off => below_cells hV b (hD b hb) off, hvt.keep fun b hb off => below_cells hV b (hD b hb) off⟩
  have P1 : Hid (∀ V : World, Below w.heap.size w V → Calls Try.prog 13 #[.agg (rowOf g ag cg)] V fun e w' => e = .returned (.bool (ProperD g)) ∧ Below V.heap.size V w') := Lib.hid (fun V hV => pproper_any g D ag cg V (keepG V hV).1 (keepG V hV).2.1 hfg)
  have P2 : Hid (∀ V : World, Below w.heap.size w V → Calls Try.prog 13 #[.agg (rowOf t at' ct)] V fun e w' => e = .returned (.bool (ProperD t)) ∧ Below V.heap.size V w') := Lib.hid (fun V hV => pproper_any t D at' ct V (keepG V hV).1 (keepG V hV).2.2 hft)
  have PM : Hid (ProperD g = true → ProperD t = true → ∀ (V : World) (mm : Nat), Below w.heap.size w V → MapB V mm D [] → (∀ b, D b → mm ≠ b) → Calls Try.prog 38 #[.agg (rowOf g ag cg), .agg (rowOf t at' ct), .map (some mm)] V fun e w' => ∃ bs' ok, e = .returned (.bool ok) ∧ matchD [] g t = (bs'.map Bd.pair, ok) ∧ bs'.length ≤ 400 ∧ MapB w' mm D bs' ∧ V.grownBy w' (some mm)) := Lib.hid (fun hg ht V mm hV hmb hmm => by
    have hpg : parts g ≤ 400 := by unfold ProperD at hg; rw [Bool.and_eq_true, decide_eq_true_eq] at hg; exact hg.1
    have hst : shapedD t = true := by unfold ProperD at ht; rw [Bool.and_eq_true] at ht; exact ht.2
    refine (pmatch_any (parts g) g (Nat.le_refl _) t D ag at' cg ct mm [] V (fun b hb => ⟨(keepG V hV).1 b hb, hmm b hb⟩) (keepG V hV).2.1 (keepG V hV).2.2 hmb hfg hft hst (by simp; omega)).mono ?_
    rintro e w' ⟨bs', ok, he, hm, hl, hmb', hgr⟩
    exact ⟨bs', ok, he, hm, by simp at hl; omega, hmb', hgr⟩)
  have PV : Hid (ProperD g = true → ∀ V : World, Below w.heap.size w V → Calls Try.prog 21 #[.agg (rowOf g ag cg)] V fun e w' => ∃ v', e = .returned v' ∧ OwnI V.heap.size w' v' (varsD [] g) ∧ Below V.heap.size V w') := Lib.hid (fun hg V hV => by
    have hpg : parts g ≤ 400 ∧ shapedD g = true := by unfold ProperD at hg; rw [Bool.and_eq_true, decide_eq_true_eq] at hg; exact hg
    exact variables_any g D ag cg V (keepG V hV).1 (keepG V hV).2.1 hfg hpg.2 (by omega))
  have PI : Hid (∀ n ∈ varsD [] g, I64 n) := Lib.hid (vars_i64 g [] hfg (fun n h => by cases h))
  have PL : Hid (ProperD g = true → (varsD [] g).length ≤ 400) := Lib.hid (fun hg => by
    have hpg : parts g ≤ 400 := by unfold ProperD at hg; rw [Bool.and_eq_true, decide_eq_true_eq] at hg; exact hg.1
    have := varsD_len g []
    simp at this
    omega)
  obtain ⟨pg, hpg⟩ : ∃ pg, pg = ProperD g := ⟨_, rfl⟩
  obtain ⟨pt, hpt⟩ : ∃ pt, pt = ProperD t := ⟨_, rfl⟩
  have HRM : Hid (rMatchD g t = if pg = true ∧ pt = true ∧ (matchD [] g t).2 = true then (outD (risingD (varsD [] g)) (matchD [] g t).1, true) else ([], false)) := Lib.hid (by rw [hpg, hpt]; rfl)
  rw [← hpg] at P1 PM PV PL
  rw [← hpt] at P2 PM
  obtain ⟨ans, hans⟩ : ∃ ans, ans = rMatchD g t := ⟨_, rfl⟩
  rw [← hans] at HRM
  rw [← hans]
  unfold rowOf at hW hrow hrow2 P1 P2 PM PV
  unfold rowOf
  rw [← hc] at hW hrow P1 PM PV
  rw [← hc'] at hW hrow2 P2 PM
  rw [← hc, ← hc']
  have BOX : Hid (∀ V : World, Below W.heap.size W V → (V.cell? ⟨w.heap.size, 0, none⟩ = some (.int .i64 g.k) ∧ V.cell? ⟨w.heap.size, 1, none⟩ = some (.int .i64 g.n) ∧ V.cell? ⟨w.heap.size, 2, none⟩ = some (.string g.s) ∧ V.cell? ⟨w.heap.size, 3, none⟩ = some (.int .i64 g.q) ∧ V.cell? ⟨w.heap.size, 4, none⟩ = some (.slice ag c cg)) ∧
      (V.cell? ⟨w.heap.size + 1, 0, none⟩ = some (.int .i64 t.k) ∧ V.cell? ⟨w.heap.size + 1, 1, none⟩ = some (.int .i64 t.n) ∧ V.cell? ⟨w.heap.size + 1, 2, none⟩ = some (.string t.s) ∧ V.cell? ⟨w.heap.size + 1, 3, none⟩ = some (.int .i64 t.q) ∧ V.cell? ⟨w.heap.size + 1, 4, none⟩ = some (.slice at' c' ct))) := Lib.hid (fun V hV => by
    have r1 := blk_below hrow hV hl1
    have r2 := blk_below hrow2 hV hl2
    exact ⟨⟨blk_cell r1 0, blk_cell r1 1, blk_cell r1 2, blk_cell r1 3, blk_cell r1 4⟩, ⟨blk_cell r2 0, blk_cell r2 1, blk_cell r2 2, blk_cell r2 3, blk_cell r2 4⟩⟩)
  have HBW := Lib.hid hbW
  have HD := Lib.hid hD
  obtain ⟨⟨c0, c1, c2, c3, c4⟩, _⟩ := BOX.out W (Below.refl _ _)
  clear hc hc' hpg hpt hans hW0 hrow0 hbW0 hbW1 hs0 hlW0 hlW1 hrow hrow2 keepG hvg hvt hfg hft hbW hD
  have hmm := @run_makeMap Try.prog
  go_enter Try.func14, Try.ntmps14
  go_upto_region 1 with fail
  rw [← hW]
  have HWW := Lib.hid hW
  clear hW
  have Q1 := Lib.hid (P1.out W HBW.out)
  cases pg with
  | false =>
    go_wp2_with (first | (go_at_call 13; refine Q1.out.mono ?_; rintro e w1 ⟨rfl, hb1⟩))
    go_ret2
    exact ⟨_, [], by rw [HRM.out]; simp, by rw [HRM.out]; simp, OwnB.nil _ _ _, fun b hb => by (cases hb), HBW.out.trans (hb1.mono HBW.out.size)⟩
  | true =>
    cases pt with
    | false =>
      go_wp2_with (first
        | (go_at_call 13; refine Q1.out.mono ?_; rintro e w1 ⟨rfl, hb1⟩; have HB1 := Lib.hid hb1; obtain ⟨_, ⟨d0, d1, d2, d3, d4⟩⟩ := BOX.out w1 hb1; clear hb1)
        | (go_at_call 13; refine (P2.out w1 (HBW.out.trans (HB1.out.mono HBW.out.size))).mono ?_; rintro e w2 ⟨rfl, hb2⟩))
      go_ret2
      exact ⟨_, [], by rw [HRM.out]; simp, by rw [HRM.out]; simp, OwnB.nil _ _ _, fun b hb => by (cases hb), HBW.out.trans ((HB1.out.trans (hb2.mono HB1.out.size)).mono HBW.out.size)⟩
    | true =>
      go_upto_region 4 with (first
        | (go_at_call 13; refine Q1.out.mono ?_; rintro e w1 ⟨rfl, hb1⟩; have HB1 := Lib.hid hb1; obtain ⟨_, ⟨d0, d1, d2, d3, d4⟩⟩ := BOX.out w1 hb1; clear hb1)
        | (go_at_call 13; refine (P2.out w1 (HBW.out.trans (HB1.out.mono HBW.out.size))).mono ?_; rintro e w2 ⟨rfl, hb2⟩; have HB2 := Lib.hid (HB1.out.trans (hb2.mono HB1.out.size)); clear hb2))
      clear c0 c1 c2 c3 c4 d0 d1 d2 d3 d4
      obtain ⟨X, hX⟩ : ∃ X, X = w2.alloc (.map #[] 0) := ⟨_, rfl⟩
      have hbX2 : Below w2.heap.size w2 X := by rw [hX]; exact balloc (Below.refl _ _) _
      have hbX : Below W.heap.size W X := HB2.out.trans (hbX2.mono HB2.out.size)
      have hmp : MapB X w2.heap.size D [] := ⟨by rw [hX]; exact (MapF.made w2).congr (fun k _ => by simp [fB]), fun b hb => by (cases hb), fun b hb => by (cases hb)⟩
      have hsX : w2.heap.size < X.heap.size := by rw [hX]; simp
      rw [← hX]
      have hw2 : w.heap.size ≤ w2.heap.size := Nat.le_trans HBW.out.size HB2.out.size
      obtain ⟨mm, hmmE⟩ : ∃ mm, mm = w2.heap.size := ⟨_, rfl⟩
      rw [← hmmE] at hmp
      rw [← hmmE]
      obtain ⟨⟨c0, c1, c2, c3, c4⟩, ⟨d0, d1, d2, d3, d4⟩⟩ := BOX.out X hbX
      have HBWX := Lib.hid (HBW.out.trans (hbX.mono HBW.out.size))
      obtain ⟨res, hres⟩ : ∃ res, res = matchD [] g t := ⟨_, rfl⟩
      obtain ⟨okr, hokr⟩ : ∃ okr, okr = res.2 := ⟨_, rfl⟩
      have Q3 : Hid (Calls Try.prog 38 #[.agg #[.int .i64 g.k, .int .i64 g.n, .string g.s, .int .i64 g.q, .slice ag c cg], .agg #[.int .i64 t.k, .int .i64 t.n, .string t.s, .int .i64 t.q, .slice at' c' ct], .map (some mm)] X fun e w' => e = .returned (.bool okr) ∧ ∃ bs', res = (bs'.map Bd.pair, okr) ∧ bs'.length ≤ 400 ∧ MapB w' mm D bs' ∧ X.grownBy w' (some mm)) := (PM.out (by simp) (by simp) X mm HBWX.out hmp (fun b hb => by have := HD.out b hb; omega)).mono (by
        rintro e w' ⟨bs', ok, he, h1, h2, h3, h4⟩
        rw [← hres] at h1
        obtain rfl : okr = ok := by rw [hokr, h1]
        exact ⟨he, bs', h1, h2, h3, h4⟩)
      have HRES := Lib.hid hres
      have HBX := Lib.hid hbX
      have HMM := Lib.hid hmmE
      have HB2X := Lib.hid hbX2
      clear hX hbX hmp hmmE hbX2 hres hokr
      cases okr with
      | false =>
        go_wp2_with (first | (go_at_call 38; refine Q3.out.mono ?_; rintro e w3 ⟨rfl, bl, hm3, hl3, hmb3, hg3⟩))
        go_ret2
        have hr2 : (matchD [] g t).2 = false := by rw [← HRES.out, hm3]
        refine ⟨_, [], by rw [HRM.out]; simp [hr2], by rw [HRM.out]; simp [hr2], OwnB.nil _ _ _, fun b hb => by (cases hb), HBWX.out.trans (grown_below hg3 HBWX.out.size (by have := HMM.out; omega))⟩
      | true =>
        go_upto_region 7 with (first | (go_at_call 38; refine Q3.out.mono ?_; rintro e w3 ⟨rfl, bl, hm3, hl3, hmb3, hg3⟩; have HM3 := Lib.hid hm3; have HMB3 := Lib.hid hmb3; have HG3 := Lib.hid hg3; clear hm3 hmb3 hg3))
        clear c0 c1 c2 c3 c4 d0 d1 d2 d3 d4
        obtain ⟨Y, hY⟩ : ∃ Y, Y = w3.alloc (.cells #[.slice none 0 0] 25) := ⟨_, rfl⟩
        rw [← hY]
        have hb3 : Below W.heap.size W w3 := HBX.out.trans (grown_below HG3.out HBX.out.size (by have := HMM.out; have := HB2.out.size; omega))
        have hbY3 : Below w3.heap.size w3 Y := by rw [hY]; exact balloc (Below.refl _ _) _
        have hbY : Below W.heap.size W Y := hb3.trans (hbY3.mono hb3.size)
        have hoY : Y.heap[w3.heap.size]? = some (.cells #[.slice none 0 0] 25 (0, 0)) := by rw [hY]; exact heap_alloc_new w3 _
        have hmY : MapB Y mm D bl := HMB3.out.keep hbY3 (fun b hb => Nat.lt_of_lt_of_le (HD.out b hb) (Nat.le_trans HBW.out.size hb3.size))
        have hmm3 : mm < w3.heap.size := HMB3.out.mp.lt
        have HBWY := Lib.hid (HBW.out.trans (hbY.mono HBW.out.size))
        have HBWS := Lib.hid (HBW.out.trans (hb3.mono HBW.out.size))
        obtain ⟨S0, hS0⟩ : ∃ S0, S0 = w3.heap.size := ⟨_, rfl⟩
        rw [← hS0] at hoY hmm3
        rw [← hS0]
        have hS0w : w.heap.size ≤ S0 := by rw [hS0]; exact HBWS.out.size
        have hSY : S0 < Y.heap.size := lt_of_block hoY
        have hL4 := PL.out (by simp)
        have Q4 := Lib.hid (PV.out (by simp) Y HBWY.out)
        obtain ⟨xs, hxs⟩ : ∃ xs, xs = varsD [] g := ⟨_, rfl⟩
        rw [← hxs] at hL4 Q4 PI
        obtain ⟨nn, hnn⟩ : ∃ nn, nn = xs.length := ⟨_, rfl⟩
        have HNN := Lib.hid hnn
        have hnn9 : nn ≤ 400 := by rw [hnn]; exact hL4
        obtain ⟨L, hLL⟩ : ∃ L, L = bl.map Bd.pair := ⟨_, rfl⟩
        have hresL : matchD [] g t = (L, true) := by rw [← HRES.out, HM3.out, hLL]
        have hkeys : keys L = xs := by
          have h := match_keys g t [] (by rw [hresL])
          rw [hresL] at h
          rw [hxs]; exact h
        have hnd : (keys L).Nodup := by rw [hkeys, hxs]; exact varsD_nodup g [] List.nodup_nil
        have HANS : Hid (ans = (outD (risingD xs) L, true)) := Lib.hid (by rw [HRM.out, if_pos (by simp [hresL]), hresL, hxs])
        obtain ⟨⟨c0, c1, c2, c3, c4⟩, _⟩ := BOX.out Y hbY
        have HL := Lib.hid hLL
        have HKEYS := Lib.hid hkeys
        have HND := Lib.hid hnd
        have HMY := Lib.hid hmY
        have HOY := Lib.hid hoY
        have HS0 := Lib.hid hS0
        clear hY hb3 hbY3 hbY hoY hmY hS0 hxs hLL hresL hkeys hnd hnn
        go_upto_region 8 with (first | (go_at_call 21; refine Q4.out.mono ?_; rintro e w4 ⟨v4, rfl, ho4, hb4⟩; obtain ⟨na, nc, hv4, hnget⟩ := ho4.getm HNN.out; subst hv4; have HO4 := Lib.hid ho4; have HB4 := Lib.hid hb4; have HNG := Lib.hid hnget; clear ho4 hb4 hnget))
        clear c0 c1 c2 c3 c4
        have hI4 : Below S0 Y w4 := HB4.out.mono (Nat.le_of_lt hSY)
        have HI4 := Lib.hid hI4
        have hDS : ∀ b, D b → b < S0 := fun b hb => Nat.lt_of_lt_of_le (HD.out b hb) hS0w
        have HDS := Lib.hid hDS
        obtain ⟨i35, hi, hz0, hz1, hz2⟩ := info_parts info35
        have HI := Lib.hid hi
        have HLL2 : Hid (L.length = nn) := Lib.hid (by rw [HNN.out, ← HKEYS.out]; simp)
        clear hI4 hDS hi
        go_wp2_with fail
        go_loopw [9, 27] (fun _ i wr => ∃ (j : Nat) (bo : List Bd) (vo : Value), i = .int .i64 (j : Int) ∧ j ≤ nn ∧ wr.heap[S0]? = some (.cells #[vo] 25 (0, 0)) ∧ OwnB S0 wr D vo bo ∧ bo.map Bd.pair = L.take j ∧ (∀ b ∈ bo, Fits b.t) ∧ MapB wr mm D bl ∧ Below S0 w4 wr ∧
          ∀ (b : Nat) (c : Array Value) (f : Nat × Nat), w4.heap[b]? = some (.cells c 3 f) → wr.heap[b]? = some (.cells c 3 f)) (fun _ i _ => nn - (intOf i).toNat)
        case atStart =>
          exact ⟨0, [], _, rfl, Nat.zero_le _, blk_below HOY.out HB4.out hSY, OwnB.nil _ _ _, by simp, fun b hb => by (cases hb), HMY.out.keep HB4.out (fun b hb => Nat.lt_trans (HDS.out b hb) hSY), Below.refl _ _, fun _ _ _ h => h⟩
        case round =>
          obtain ⟨j, bo, vo, rfl, hj, hcell, hoo, hpair, hfit, hmb, hbel, hkeep⟩ := hrel
          obtain ⟨wo, rfl⟩ : ∃ wo : World, wo = wr := ⟨_, rfl⟩
          obtain ⟨mo, hmo⟩ : ∃ mo, mo = bo.length := ⟨_, rfl⟩
          obtain ⟨oa, oc, hvo, _⟩ := hoo.getm hmo
          subst hvo
          have o0 : wo.cell? ⟨S0, 0, none⟩ = some (.slice oa mo oc) := blk_cell hcell 0
          have hmj : mo = j := by
            have h := congrArg List.length hpair
            rw [List.length_map, List.length_take, HLL2.out] at h
            omega
          have HCELL := Lib.hid hcell
          have HOO := Lib.hid hoo
          have HPAIR := Lib.hid hpair
          have HFIT := Lib.hid hfit
          have HMB := Lib.hid hmb
          have HBEL := Lib.hid hbel
          have HKEEP := Lib.hid hkeep
          have HMO := Lib.hid hmo
          have HMJ := Lib.hid hmj
          have hlS : S0 < wo.heap.size := lt_of_block hcell
          have hmo9 : mo ≤ 400 := by omega
          clear hcell hoo hpair hfit hmb hbel hkeep hmo hmj
          by_cases hlt : j < nn
          · have hd : decide ((j : Int) < (nn : Int)) = true := by simp; omega
            have hjx : j < xs.length := by rw [← HNN.out]; exact hlt
            have hjL : j < L.length := by rw [HLL2.out]; exact hlt
            obtain ⟨gn, hna, hgn, hny⟩ := HNG.out j hlt hjx
            obtain ⟨n, hn⟩ : ∃ n, n = xs[j] := ⟨_, rfl⟩
            rw [← hn] at hny
            have hcn : wo.cell? ⟨gn, j, none⟩ = some (.int .i64 n) := by
              obtain ⟨c, f, hc⟩ := own_row HO4.out gn (by rw [hna]; rfl)
              have h2 := HKEEP.out gn c f hc
              rw [← hny]
              exact World.cell?_of_block (h2.trans hc.symm)
            have hixn := index_at Try.underlying47 size3 hna nn nc j hlt
            rw [Nat.zero_add, Nat.mul_one] at hixn
            have hnL : L[j].1 = n := by rw [hn]; simp [← HKEYS.out]
            have hfn : findB L n = some L[j].2 := by rw [← hnL]; exact findB_nodup HND.out hjL
            have hfn2 : findB (bl.map Bd.pair) n = some L[j].2 := by rw [← HL.out]; exact hfn
            rw [findB_map] at hfn2
            obtain ⟨bd, hbd, hbt⟩ := Option.map_eq_some_iff.1 hfn2
            have hbn : bd.n = n := by simpa using List.find?_some hbd
            have hbm : bd ∈ bl := List.mem_of_find?_eq_some hbd
            have hbp : bd.pair = L[j] := by
              refine Prod.ext ?_ ?_
              · show bd.n = L[j].1; rw [hbn, hnL]
              · exact hbt
            have hIn : I64 n := PI.out n (by rw [hn]; exact List.getElem_mem _)
            have hlk := (HMB.out.mp.look Try.underlying70 (zero33 wo) hIn).1
            rw [show fB bl n = some (.agg (rowOf bd.t bd.ao bd.cap)) from by unfold fB; rw [hbd]; rfl] at hlk
            unfold rowOf at hlk
            simp only [Option.getD_some] at hlk
            have HBP := Lib.hid hbp
            have HFB := Lib.hid (HMB.out.fit bd hbm)
            have HSB := Lib.hid (HMB.out.sl bd hbm)
            have hoA : (wo.alloc (.cells #[.int .i64 n, .int .i64 bd.t.k, .int .i64 bd.t.n, .string bd.t.s, .int .i64 bd.t.q, .slice bd.ao bd.t.args.length bd.cap] 35)).ownsRow S0 35 6 (.slice oa mo oc) mo (bcells bo) := by
              have h := HOO.out.own.alloc (.cells #[.int .i64 n, .int .i64 bd.t.k, .int .i64 bd.t.n, .string bd.t.s, .int .i64 bd.t.q, .slice bd.ao bd.t.args.length bd.cap] 35)
              rw [← HMO.out] at h
              exact h
            have HOA := Lib.hid hoA
            have hnew : ([.int .i64 n, .int .i64 bd.t.k, .int .i64 bd.t.n, .string bd.t.s, .int .i64 bd.t.q, .slice bd.ao bd.t.args.length bd.cap] : List Value) = bd.cells := by rw [← hbn]; rfl
            have HNEW := Lib.hid hnew
            have hone : ∀ u ∈ ([.int .i64 n, .int .i64 bd.t.k, .int .i64 bd.t.n, .string bd.t.s, .int .i64 bd.t.q, .slice bd.ao bd.t.args.length bd.cap] : List Value), u.oneCell' = true := by rw [hnew]; exact bd_one bd
            have hSA : S0 ≤ (wo.alloc (.cells #[.int .i64 n, .int .i64 bd.t.k, .int .i64 bd.t.n, .string bd.t.s, .int .i64 bd.t.q, .slice bd.ao bd.t.args.length bd.cap] 35)).heap.size := Nat.le_trans (Nat.le_of_lt hlS) (by simp)
            clear hna hny hn hnL hfn hfn2 hbd hbt hbn hbm hbp hIn hoA hnew
            go_wp2_with (first | (at_builtin; go_must (refine wpList_append3 rfl (.tmp 31) (.tmp 37) 25 25 rfl S0 35 35 i35 _ 6 72 Try.underlying25 Try.underlying25 HI.out hz0 hz1 hz2 rfl (by decide) (.slice oa mo oc) mo (bcells bo) rfl HOA.out (some ⟨wo.heap.size, 0, none⟩) 1 1 [.int .i64 n, .int .i64 bd.t.k, .int .i64 bd.t.n, .string bd.t.s, .int .i64 bd.t.q, .slice bd.ao bd.t.args.length bd.cap] rfl rfl (fun _ => ⟨_, rfl, new_cells (c := #[.int .i64 n, .int .i64 bd.t.k, .int .i64 bd.t.n, .string bd.t.s, .int .i64 bd.t.q, .slice bd.ao bd.t.args.length bd.cap]) _ (by simp)⟩) hone (by unfold maxLen; omega) (by omega) hSA ?_)))
            intro v9 w9 hown9 hgr9 hat9
            obtain ⟨g9, cap9, hv9, _, _⟩ := World.ownsRow.form hown9 (by omega)
            subst hv9
            have carry : ∀ (b : Nat) (o : Obj), wo.heap[b]? = some o → (Value.slice oa mo oc).ownBlock ≠ some b → w9.heap[b]? = some o := fun b o h hne => by
              have h1 := blk_alloc h (.cells #[.int .i64 n, .int .i64 bd.t.k, .int .i64 bd.t.n, .string bd.t.s, .int .i64 bd.t.q, .slice bd.ao bd.t.args.length bd.cap] 35)
              rw [hgr9.block b (lt_of_block h1) (fun e => hne e.symm)]
              exact h1
            have hv4 := carry S0 _ HCELL.out (own_ne HCELL.out HOO.out.own (by decide))
            have s0 : w9.cell? ⟨S0, 0, none⟩ = some (.slice oa mo oc) := blk_cell hv4 0
            have f0 := blk_free hv4 0
            have hbe9 : Below S0 wo w9 := ((Below.refl S0 wo).alloc (Nat.le_of_lt hlS) _).grown hgr9 hSA (fun g e => (HOO.out.own.lt g e).1)
            have FIN : ∃ (j' : Nat) (bo' : List Bd) (vo' : Value), (Value.int .i64 ((j : Int) + 1)) = .int .i64 (j' : Int) ∧ j' ≤ nn ∧ j' = j + 1 ∧ (w9.setCell ⟨S0, 0, none⟩ (.slice (some ⟨g9, 0, none⟩) (mo + 1) cap9)).heap[S0]? = some (.cells #[vo'] 25 (0, 0)) ∧ OwnB S0 (w9.setCell ⟨S0, 0, none⟩ (.slice (some ⟨g9, 0, none⟩) (mo + 1) cap9)) D vo' bo' ∧ bo'.map Bd.pair = L.take j' ∧ (∀ b ∈ bo', Fits b.t) ∧ MapB (w9.setCell ⟨S0, 0, none⟩ (.slice (some ⟨g9, 0, none⟩) (mo + 1) cap9)) mm D bl ∧ Below S0 w4 (w9.setCell ⟨S0, 0, none⟩ (.slice (some ⟨g9, 0, none⟩) (mo + 1) cap9)) ∧
                ∀ (b : Nat) (c : Array Value) (f : Nat × Nat), w4.heap[b]? = some (.cells c 3 f) → (w9.setCell ⟨S0, 0, none⟩ (.slice (some ⟨g9, 0, none⟩) (mo + 1) cap9)).heap[b]? = some (.cells c 3 f) := by
              have hall : Below S0 wo (w9.setCell ⟨S0, 0, none⟩ (.slice (some ⟨g9, 0, none⟩) (mo + 1) cap9)) := hbe9.setCell (p := ⟨S0, 0, none⟩) (Nat.le_refl _) _
              have hsl : ∀ (l : List Ty) (ao : Option Addr) (cap : Nat), SlD wo D l ao cap → SlD (w9.setCell ⟨S0, 0, none⟩ (.slice (some ⟨g9, 0, none⟩) (mo + 1) cap9)) D l ao cap := fun l ao cap h => h.keep fun d hd off => below_cells hall d (HDS.out d hd) off
              refine ⟨j + 1, bo ++ [bd], _, by simp, hlt, rfl, blk_set hv4 0 _, ⟨?_, fun b hb => ?_⟩, ?_, fun b hb => ?_, ⟨HMB.out.mp.of_same (hall.block _ hmm3), fun b hb => hsl _ _ _ (HMB.out.sl b hb), HMB.out.fit⟩, HBEL.out.trans hall, fun b c f h => ?_⟩
              · have h1 : w9.ownsRow S0 35 6 (.slice (some ⟨g9, 0, none⟩) (mo + 1) cap9) (bo ++ [bd]).length (bcells (bo ++ [bd])) := by
                  rw [List.length_append, bcells_append, ← HMO.out, bcells, bcells, List.append_nil, ← HNEW.out]
                  exact hown9
                exact own_set h1 hv4 (by decide) 0 _
              · rcases List.mem_append.1 hb with hb | hb
                · exact hsl _ _ _ (HOO.out.sl b hb)
                · rw [List.mem_singleton] at hb; rw [hb]; exact hsl _ _ _ HSB.out
              · rw [List.map_append, HPAIR.out, List.take_succ_eq_append_getElem hjL, ← HBP.out]; rfl
              · rcases List.mem_append.1 hb with hb | hb
                · exact HFIT.out b hb
                · rw [List.mem_singleton] at hb; rw [hb]; exact HFB.out
              · have h1 := HKEEP.out b c f h
                refine blk_set_ne (carry b _ h1 (own_ne h1 HOO.out.own (by decide))) (fun e => ?_) _ _
                rw [e, HCELL.out] at h1
                simp at h1
            have HFIN := Lib.hid FIN
            clear FIN hown9 hgr9 hat9 carry hv4 hbe9
            go_wp2_with fail
            go_roundw
            case rel =>
              obtain ⟨j', bo', vo', e1, h1, _, h2⟩ := HFIN.out
              refine ⟨j', bo', vo', ?_, h1, h2⟩
              rw [← e1]
            case measure => simp only [intOf]; omega
          · obtain rfl : j = nn := by omega
            have hd : decide ((j : Int) < (j : Int)) = false := by simp
            have HSW := Lib.hid (sort_whole S0 wo D (.slice oa mo oc) S0 bo HOO.out (by rw [← HMO.out]; omega) (fun b hb => ⟨Nat.lt_trans (HDS.out b hb) hlS, fun e => by have h1 := (HOO.out.own.lt b e).1; have := HDS.out b hb; omega⟩) HCELL.out)
            go_wp2_with (first | (go_at_call 39; refine HSW.out.mono ?_; rintro e w9 ⟨bs9, rfl, hp9, hs9, ho9, hg9⟩; have s0 : w9.cell? ⟨S0, 0, none⟩ = some (.slice oa mo oc) := blk_cell ((hg9.block S0 hlS (fun e => own_ne HCELL.out HOO.out.own (by decide) e.symm)).trans HCELL.out) 0; have HP9 := Lib.hid hp9; have HS9 := Lib.hid hs9; have HO9 := Lib.hid ho9; have HG9 := Lib.hid hg9; clear hp9 hs9 ho9 hg9))
            go_ret2
            have hb9 : Below S0 wo w9 := ⟨HG9.out.os, HG9.out.tape, HG9.out.output, HG9.out.size, fun k hk => HG9.out.block k (by omega) (fun e => by have := (HOO.out.own.lt k e.symm).1; omega)⟩
            have hLt : L.take j = L := by rw [← HLL2.out, List.take_length]
            have hbL : bo.map Bd.pair = L := by rw [HPAIR.out, hLt]
            have hperm : (bs9.map Bd.pair).Perm L := by rw [← hbL]; exact HP9.out.map _
            have hsort : (bs9.map Bd.pair).Pairwise (fun x y => x.1 ≤ y.1) := by
              rw [List.pairwise_map]
              exact HS9.out
            obtain ⟨q1, q2⟩ := outD_perm HND.out
            have heq : bs9.map Bd.pair = outD (risingD xs) L := by
              rw [← HKEYS.out]
              exact sorted_one HND.out hperm q1 hsort q2
            refine ⟨_, bs9, by rw [HANS.out]; rfl, by rw [HANS.out, heq], ⟨own_base HO9.out.own (Nat.zero_le _), HO9.out.sl⟩, fun b hb => HFIT.out b (HP9.out.subset hb), ?_⟩
            exact HBWY.out.trans ((((HB4.out.mono (Nat.le_of_lt hSY)).trans HBEL.out).trans hb9).mono hS0w)
end Go.Proofs.Ytdeomphilggokaa
