/-
  Proved: the contract of the program's match. Condition: types that may be; at most 1000000 binds.
-/
import Derived.Test.YtdeomphilggokaaC3
set_option linter.unusedSimpArgs false
set_option linter.unusedVariables false
namespace Go.Proofs.Ytdeomphilggokaa
open Go.RowKit

/-- what a map of binds says -/
def fB (bs : List Bd) (n : Int) : Option Value := (bs.find? fun b => decide (b.n = n)).map fun b => .agg (rowOf b.t b.ao b.cap)
theorem findB_map (bs : List Bd) (n : Int) : findB (bs.map Bd.pair) n = (bs.find? fun b => decide (b.n = n)).map (·.t) := by
  unfold findB
  rw [List.find?_map, Option.map_map]
  rfl
theorem fB_snoc {bs : List Bd} {b : Bd} (h : bs.find? (fun x => decide (x.n = b.n)) = none) (k : Int) : fB (bs ++ [b]) k = if k = b.n then some (.agg (rowOf b.t b.ao b.cap)) else fB bs k := by
  unfold fB
  rw [List.find?_append]
  by_cases e : k = b.n
  · subst e
    rw [if_pos rfl, h]
    simp
  · rw [if_neg e]
    have : List.find? (fun x : Bd => decide (x.n = k)) [b] = none := by simp; exact fun h => e h.symm
    rw [this]
    simp
/-- a map of binds in memory -/
structure MapB (w : World) (mm : Nat) (D : Nat → Prop) (bs : List Bd) : Prop where
  mp : MapF w mm bs.length (fB bs)
  sl : ∀ b ∈ bs, SlD w D b.t.args b.ao b.cap
  fit : ∀ b ∈ bs, Fits b.t
theorem MapB.keep {w w' : World} {mm : Nat} {D : Nat → Prop} {bs : List Bd} (h : MapB w mm D bs) (hb : Below w.heap.size w w') (hD : ∀ b, D b → b < w.heap.size) : MapB w' mm D bs :=
  ⟨h.mp.of_same (hb.block _ h.mp.lt), fun b hm => (h.sl b hm).keep fun d hd off => below_cells hb d (hD d hd) off, h.fit⟩
theorem zero33 (w : World) : (zeroValue 33).run Try.prog w = .ok (.agg #[.int .i64 0, .int .i64 0, .string ⟨#[]⟩, .int .i64 0, .slice none 0 0]) w := by kernel_rfl
set_option maxRecDepth 100000 in
set_option maxHeartbeats 8000000 in
theorem pmatch_any : ∀ (f : Nat) (g : Ty), parts g ≤ f → ∀ (t : Ty) (D : Nat → Prop) (ag at' : Option Addr) (cg ct mm : Nat) (bs : List Bd) (w : World), (∀ b, D b → b < w.heap.size ∧ mm ≠ b) → SlD w D g.args ag cg → SlD w D t.args at' ct → MapB w mm D bs →
    Fits g → Fits t → shapedD t = true → bs.length + parts g ≤ 1000000 →
    Calls Try.prog 38 #[.agg (rowOf g ag cg), .agg (rowOf t at' ct), .map (some mm)] w fun e w' => ∃ bs' ok, e = .returned (.bool ok) ∧ matchD (bs.map Bd.pair) g t = (bs'.map Bd.pair, ok) ∧ bs'.length ≤ bs.length + parts g ∧ MapB w' mm D bs' ∧ w.grownBy w' (some mm) := by
  intro f
  induction f with
  | zero => intro t ht; have := parts_pos t; omega
  | succ f IH =>
    intro g hg t D ag at' cg ct mm bs w hD hvg hvt hmb hfg hft hsh hlen
    obtain ⟨c, hc⟩ : ∃ c, c = g.args.length := ⟨_, rfl⟩
    obtain ⟨c', hc'⟩ : ∃ c', c' = t.args.length := ⟨_, rfl⟩
    obtain ⟨W0, hW0⟩ : ∃ W0, W0 = w.alloc (.cells (rowOf g ag cg) 33) := ⟨_, rfl⟩
    obtain ⟨hbW0, hlW0, hrow0⟩ := box_at hW0
    obtain ⟨W, hW⟩ : ∃ W, W = W0.alloc (.cells (rowOf t at' ct) 33) := ⟨_, rfl⟩
    obtain ⟨hbW1, hlW1, hrow2⟩ := box_at hW
    have hs0 : W0.heap.size = w.heap.size + 1 := by rw [hW0]; simp
    have hbW := hbW0.trans (hbW1.mono hbW0.size)
    have hrow := blk_below hrow0 hbW1 hlW0
    rw [hs0] at hrow2
    have hl1 : w.heap.size < W.heap.size := lt_of_block hrow
    have hl2 : w.heap.size + 1 < W.heap.size := lt_of_block hrow2
    rw [hW0] at hW
    have hcl : c ≤ 3000000000000 := by rw [hc]; exact hfg.len
    have hcl2 : c' ≤ 3000000000000 := by rw [hc']; exact hft.len
    have hmW := hmb.keep hbW (fun b hb => (hD b hb).1)
    have hvtW : SlD W D t.args at' ct := hvt.keep fun b hb off => below_cells hbW b (hD b hb).1 off
    have HEQ : Hid (∀ V : World, Below W.heap.size W V → Calls Try.prog 18 #[.agg (rowOf t at' ct)] V fun e w' => e = .returned (.int .i64 (eqD t)) ∧ Below V.heap.size V w') := Lib.hid (fun V hV =>
      peq_any (parts t) t (Nat.le_refl _) D at' ct V (fun b hb => Nat.lt_of_lt_of_le (hD b hb).1 (Nat.le_trans hbW.size hV.size)) (hvtW.keep fun b hb off => below_cells hV b (Nat.lt_of_lt_of_le (hD b hb).1 hbW.size) off) hft hsh)
    have HAL : Hid (∀ (V : World) (b : Bd), Below W.heap.size W V → b ∈ bs → Calls Try.prog 17 #[.agg (rowOf b.t b.ao b.cap), .agg (rowOf t at' ct)] V fun e w' => e = .returned (.bool (alikeD b.t t)) ∧ Below V.heap.size V w') := Lib.hid (fun V b hV hb =>
      palike_any (parts b.t) b.t (Nat.le_refl _) t D b.ao at' b.cap ct V (fun d hd => Nat.lt_of_lt_of_le (hD d hd).1 (Nat.le_trans hbW.size hV.size)) ((hmW.sl b hb).keep fun d hd off => below_cells hV d (Nat.lt_of_lt_of_le (hD d hd).1 hbW.size) off) (hvtW.keep fun d hd off => below_cells hV d (Nat.lt_of_lt_of_le (hD d hd).1 hbW.size) off) (hmW.fit b hb) hft)
    have hgW : w.grownBy W (some mm) := gr_below hbW _
    have hmmw : mm < w.heap.size := hmb.mp.lt
    have HMA : Hid (matchD (bs.map Bd.pair) g t = if g.k = 0 then (if g.q = 1 ∧ eqD t = 0 then (bs.map Bd.pair, false) else match findB (bs.map Bd.pair) g.n with | some x => (bs.map Bd.pair, alikeD x t) | none => (bs.map Bd.pair ++ [(g.n, t)], true)) else if headA g t then matchL (bs.map Bd.pair) g.args t.args else (bs.map Bd.pair, false)) := Lib.hid (match_args _ g t)
    obtain ⟨ans, hans⟩ : ∃ ans, ans = matchD (bs.map Bd.pair) g t := ⟨_, rfl⟩
    rw [← hans] at HMA
    rw [← hans]
    have HH : Hid (headA g t = decide (g.k = t.k ∧ g.s.toList = t.s.toList ∧ g.n = t.n ∧ c = c')) := Lib.hid (by rw [hc, hc']; rfl)
    have HROWT : Hid (t.args.length = c') := Lib.hid hc'.symm
    have hgn : I64 g.n := hfg.n
    unfold rowOf at hW hrow hrow2 HEQ
    unfold rowOf
    rw [← hc] at hW hrow
    rw [← hc'] at hW hrow2 HEQ
    rw [← hc, ← hc']
    have HC := Lib.hid hc
    have HC' := Lib.hid hc'
    have HG := Lib.hid hg
    have HFG := Lib.hid hfg
    have HFT := Lib.hid hft
    have HIH := Lib.hid IH
    have HD := Lib.hid hD
    have HVG := Lib.hid hvg
    have HVT := Lib.hid hvt
    have HVTW := Lib.hid hvtW
    have HMW := Lib.hid hmW
    have HGW := Lib.hid hgW
    have HBW := Lib.hid hbW
    have HROW := Lib.hid hrow
    have HROW2 := Lib.hid hrow2
    have HLEN := Lib.hid hlen
    have HSH := Lib.hid hsh
    have c0 : W.cell? ⟨w.heap.size, 0, none⟩ = some (.int .i64 g.k) := blk_cell hrow 0
    have c1 : W.cell? ⟨w.heap.size, 1, none⟩ = some (.int .i64 g.n) := blk_cell hrow 1
    have c2 : W.cell? ⟨w.heap.size, 2, none⟩ = some (.string g.s) := blk_cell hrow 2
    have c3 : W.cell? ⟨w.heap.size, 3, none⟩ = some (.int .i64 g.q) := blk_cell hrow 3
    have c4 : W.cell? ⟨w.heap.size, 4, none⟩ = some (.slice ag c cg) := blk_cell hrow 4
    have d0 : W.cell? ⟨w.heap.size + 1, 0, none⟩ = some (.int .i64 t.k) := blk_cell hrow2 0
    have d1 : W.cell? ⟨w.heap.size + 1, 1, none⟩ = some (.int .i64 t.n) := blk_cell hrow2 1
    have d2 : W.cell? ⟨w.heap.size + 1, 2, none⟩ = some (.string t.s) := blk_cell hrow2 2
    have d3 : W.cell? ⟨w.heap.size + 1, 3, none⟩ = some (.int .i64 t.q) := blk_cell hrow2 3
    have d4 : W.cell? ⟨w.heap.size + 1, 4, none⟩ = some (.slice at' c' ct) := blk_cell hrow2 4
    clear IH hD hvg hvt hc hc' hg hfg hft hbW hrow hrow2 hbW0 hbW1 hW0 hrow0 hs0 hlW0 hlW1 hans hmb hsh hlen hvtW hgW hmW
    go_enter Try.func38, Try.ntmps38
    go_upto_region 1 with fail
    rw [← hW]
    have HWW := Lib.hid hW
    clear hW
    generalize Value.agg #[.int .i64 g.k, .int .i64 g.n, .string g.s, .int .i64 g.q, .slice ag c cg] = v0
    generalize hv1 : Value.agg #[.int .i64 t.k, .int .i64 t.n, .string t.s, .int .i64 t.q, .slice at' c' ct] = v1
    clear hv1
    by_cases hk : g.k = 0
    · have e0 : (g.k == 0) = true := by simp [hk]
      have HK := Lib.hid hk
      clear hk
      have HMA2 : Hid (ans = if g.q = 1 ∧ eqD t = 0 then (bs.map Bd.pair, false) else match findB (bs.map Bd.pair) g.n with | some x => (bs.map Bd.pair, alikeD x t) | none => (bs.map Bd.pair ++ [(g.n, t)], true)) := Lib.hid (by rw [HMA.out, if_pos HK.out])
      obtain ⟨stop, hstop⟩ : ∃ stop, stop = decide (g.q = 1 ∧ eqD t = 0) := ⟨_, rfl⟩
      have HSTOP := Lib.hid hstop
      clear hstop
      obtain ⟨r, hr⟩ : ∃ r, eqD t = r := ⟨_, rfl⟩
      have HR := Lib.hid hr
      clear hr
      have BOXF : Hid (∀ V : World, Below W.heap.size W V → (V.cell? ⟨w.heap.size, 1, none⟩ = some (.int .i64 g.n) ∧ V.cell? ⟨w.heap.size, 3, none⟩ = some (.int .i64 g.q)) ∧
        (V.cell? ⟨w.heap.size + 1, 0, none⟩ = some (.int .i64 t.k) ∧ V.cell? ⟨w.heap.size + 1, 1, none⟩ = some (.int .i64 t.n) ∧ V.cell? ⟨w.heap.size + 1, 2, none⟩ = some (.string t.s) ∧ V.cell? ⟨w.heap.size + 1, 3, none⟩ = some (.int .i64 t.q) ∧ V.cell? ⟨w.heap.size + 1, 4, none⟩ = some (.slice at' c' ct))) := Lib.hid (fun V hV => by
        have r1 := blk_below HROW.out hV hl1
        have r2 := blk_below HROW2.out hV hl2
        exact ⟨⟨blk_cell r1 1, blk_cell r1 3⟩, ⟨blk_cell r2 0, blk_cell r2 1, blk_cell r2 2, blk_cell r2 3, blk_cell r2 4⟩⟩)
      have hlook := (HMW.out.mp.look Try.underlying70 (zero33 W) hgn).2
      clear c2 c3 c4 d0 d1 d2 d3 d4
      cases hf : bs.find? (fun b => decide (b.n = g.n)) with
      | some bd =>
        have hfb : fB bs g.n = some (.agg (rowOf bd.t bd.ao bd.cap)) := by unfold fB; rw [hf]; rfl
        rw [hfb] at hlook
        have hmem : bd ∈ bs := List.mem_of_find?_eq_some hf
        have HFND : Hid (findB (bs.map Bd.pair) g.n = some bd.t) := Lib.hid (by rw [findB_map, hf]; rfl)
        have HMEM := Lib.hid hmem
        unfold rowOf at hlook
        simp only [Option.getD_some, Option.isSome_some] at hlook
        have HLK := Lib.hid hlook
        clear hf hfb hmem
        go_upto_region 3 with fail
        obtain ⟨X, hX⟩ : ∃ X, X = W.alloc (.cells #[.int .i64 bd.t.k, .int .i64 bd.t.n, .string bd.t.s, .int .i64 bd.t.q, .slice bd.ao bd.t.args.length bd.cap] 33) := ⟨_, rfl⟩
        have hbX : Below W.heap.size W X := by rw [hX]; exact balloc (Below.refl _ _) _
        have HXO : Hid (X.heap[W.heap.size]? = some (.cells #[.int .i64 bd.t.k, .int .i64 bd.t.n, .string bd.t.s, .int .i64 bd.t.q, .slice bd.ao bd.t.args.length bd.cap] 33 (0, 0)) ∧ W.heap.size < X.heap.size) := Lib.hid ⟨by rw [hX]; exact heap_alloc_new W _, by rw [hX]; simp⟩
        rw [← hX]
        obtain ⟨⟨c1, c3⟩, ⟨d0, d1, d2, d3, d4⟩⟩ := BOXF.out X hbX
        have HEQ1 := Lib.hid (HEQ.out X hbX)
        rw [HR.out] at HEQ1
        have HBX := Lib.hid hbX
        clear hX hbX
        go_cut [27] from 20 to 27 (fun v wx => v = .bool stop ∧ Below W.heap.size W wx ∧ Below X.heap.size X wx)
        case first =>
          by_cases hq : g.q = 1
          · have e1 : (g.q == 1) = true := by simp [hq]
            have HQ := Lib.hid hq
            clear hq
            go_wp2_with (first | (go_at_call 18; refine HEQ1.out.mono ?_; rintro e w7 ⟨rfl, hb7⟩))
            go_meet
            refine ⟨?_, HBX.out.trans (hb7.mono HBX.out.size), hb7⟩
            rw [HSTOP.out, HR.out, beq_dec]
            simp [HQ.out]
          · have e1 : (g.q == 1) = false := by simp [hq]
            have HQ := Lib.hid hq
            clear hq
            go_wp2_with fail
            go_meet
            refine ⟨?_, HBX.out, Below.refl _ _⟩
            rw [HSTOP.out]
            simp [HQ.out]
        case rest =>
          obtain ⟨rfl, hbU, hbXU⟩ := hcut
          have hxo := blk_below HXO.out.1 hbXU HXO.out.2
          clear hbXU
          obtain ⟨U, hU⟩ : ∃ U : World, U = wc := ⟨_, rfl⟩
          subst hU
          clear c1 c3 d0 d1 d2 d3 d4
          have hgU : w.grownBy U (some mm) := gr_on HGW.out (gr_below hbU none) (.inr (fun g e => by cases e))
          have hmU := HMW.out.keep hbU (fun b hb => Nat.lt_of_lt_of_le (HD.out b hb).1 HBW.out.size)
          have HGU := Lib.hid hgU
          have HMU := Lib.hid hmU
          obtain ⟨⟨c1, c3⟩, ⟨d0, d1, d2, d3, d4⟩⟩ := BOXF.out U hbU
          have HBU := Lib.hid hbU
          clear hbU hgU hmU c3
          cases stop with
          | true =>
            go_wp2_with fail
            go_ret
            refine ⟨bs, false, rfl, ?_, by omega, HMU.out, HGU.out⟩
            have h := HSTOP.out
            rw [HMA2.out, if_pos (by simpa using h.symm)]
          | false =>
            have HMA3 : Hid (ans = match findB (bs.map Bd.pair) g.n with | some x => (bs.map Bd.pair, alikeD x t) | none => (bs.map Bd.pair ++ [(g.n, t)], true)) := Lib.hid (by rw [HMA2.out, if_neg (by simpa using HSTOP.out.symm)])
            have o0 : U.cell? ⟨W.heap.size, 0, none⟩ = some (.int .i64 bd.t.k) := blk_cell hxo 0
            have o1 : U.cell? ⟨W.heap.size, 1, none⟩ = some (.int .i64 bd.t.n) := blk_cell hxo 1
            have o2 : U.cell? ⟨W.heap.size, 2, none⟩ = some (.string bd.t.s) := blk_cell hxo 2
            have o3 : U.cell? ⟨W.heap.size, 3, none⟩ = some (.int .i64 bd.t.q) := blk_cell hxo 3
            have o4 : U.cell? ⟨W.heap.size, 4, none⟩ = some (.slice bd.ao bd.t.args.length bd.cap) := blk_cell hxo 4
            obtain ⟨res, hres⟩ : ∃ res, res = alikeD bd.t t := ⟨_, rfl⟩
            have hcall := HAL.out U bd HBU.out HMEM.out
            rw [← hres] at hcall
            unfold rowOf at hcall
            rw [HROWT.out] at hcall
            have HCALL := Lib.hid hcall
            have HRES := Lib.hid hres
            clear hxo hcall hres hlook
            go_wp2_with (first | (go_at_call 17; refine HCALL.out.mono ?_; rintro e w7 ⟨rfl, hb7⟩))
            go_ret
            refine ⟨bs, res, rfl, ?_, by omega, HMU.out.keep hb7 (fun b hb => Nat.lt_of_lt_of_le (HD.out b hb).1 (Nat.le_trans HBW.out.size HBU.out.size)), gr_on HGU.out (gr_below hb7 none) (.inr (fun g e => by cases e))⟩
            rw [HMA3.out, HFND.out]
            show (bs.map Bd.pair, alikeD bd.t t) = _
            rw [HRES.out]
      | none =>
        have hfb : fB bs g.n = none := by unfold fB; rw [hf]; rfl
        rw [hfb] at hlook
        have HFN := Lib.hid hf
        have HFND : Hid (findB (bs.map Bd.pair) g.n = none) := Lib.hid (by rw [findB_map, hf]; rfl)
        simp only [Option.getD_none, Option.isSome_none] at hlook
        clear hf hfb
        go_upto_region 3 with fail
        obtain ⟨X, hX⟩ : ∃ X, X = W.alloc (.cells #[.int .i64 0, .int .i64 0, .string ⟨#[]⟩, .int .i64 0, .slice none 0 0] 33) := ⟨_, rfl⟩
        have hbX : Below W.heap.size W X := by rw [hX]; exact balloc (Below.refl _ _) _
        rw [← hX]
        obtain ⟨⟨c1, c3⟩, ⟨d0, d1, d2, d3, d4⟩⟩ := BOXF.out X hbX
        have HEQ1 := Lib.hid (HEQ.out X hbX)
        rw [HR.out] at HEQ1
        have HBX := Lib.hid hbX
        clear hX hbX
        go_cut [27] from 20 to 27 (fun v wx => v = .bool stop ∧ Below W.heap.size W wx)
        case first =>
          by_cases hq : g.q = 1
          · have e1 : (g.q == 1) = true := by simp [hq]
            have HQ := Lib.hid hq
            clear hq
            go_wp2_with (first | (go_at_call 18; refine HEQ1.out.mono ?_; rintro e w7 ⟨rfl, hb7⟩))
            go_meet
            refine ⟨?_, HBX.out.trans (hb7.mono HBX.out.size)⟩
            rw [HSTOP.out, HR.out, beq_dec]
            simp [HQ.out]
          · have e1 : (g.q == 1) = false := by simp [hq]
            have HQ := Lib.hid hq
            clear hq
            go_wp2_with fail
            go_meet
            refine ⟨?_, HBX.out⟩
            rw [HSTOP.out]
            simp [HQ.out]
        case rest =>
          obtain ⟨rfl, hbU⟩ := hcut
          obtain ⟨U, hU⟩ : ∃ U : World, U = wc := ⟨_, rfl⟩
          subst hU
          clear c1 c3 d0 d1 d2 d3 d4
          have hgU : w.grownBy U (some mm) := gr_on HGW.out (gr_below hbU none) (.inr (fun g e => by cases e))
          have hmU := HMW.out.keep hbU (fun b hb => Nat.lt_of_lt_of_le (HD.out b hb).1 HBW.out.size)
          have HGU := Lib.hid hgU
          have HMU := Lib.hid hmU
          obtain ⟨⟨c1, c3⟩, ⟨d0, d1, d2, d3, d4⟩⟩ := BOXF.out U hbU
          have HBU := Lib.hid hbU
          clear hbU hgU hmU c3
          cases stop with
          | true =>
            go_wp2_with fail
            go_ret
            refine ⟨bs, false, rfl, ?_, by omega, HMU.out, HGU.out⟩
            have h := HSTOP.out
            rw [HMA2.out, if_pos (by simpa using h.symm)]
          | false =>
            have HMA3 : Hid (ans = match findB (bs.map Bd.pair) g.n with | some x => (bs.map Bd.pair, alikeD x t) | none => (bs.map Bd.pair ++ [(g.n, t)], true)) := Lib.hid (by rw [HMA2.out, if_neg (by simpa using HSTOP.out.symm)])
            obtain ⟨w9, hst9, hmap9, hg9⟩ := HMU.out.mp.store Try.underlying70 (by unfold maxLen; have := HLEN.out; omega) hgn (.agg #[.int .i64 t.k, .int .i64 t.n, .string t.s, .int .i64 t.q, .slice at' c' ct])
            have FIN : ∃ bs' ok, Ending.returned (.bool true) = .returned (.bool ok) ∧ ans = (bs'.map Bd.pair, ok) ∧ bs'.length ≤ bs.length + parts g ∧ MapB w9 mm D bs' ∧ w.grownBy w9 (some mm) := by
              have hg : w.grownBy w9 (some mm) := gr_on HGU.out hg9 (.inl rfl)
              have hsl : ∀ (l : List Ty) (ao : Option Addr) (cap : Nat), SlD W D l ao cap → SlD w9 D l ao cap := fun l ao cap h => h.keep fun d hd off => by
                have h1 := (HD.out d hd)
                have h2 : w9.cell? ⟨d, off, none⟩ = w.cell? ⟨d, off, none⟩ := World.cell?_of_block (hg.block d h1.1 (fun e => h1.2 (Option.some.inj e).symm))
                have h3 : W.cell? ⟨d, off, none⟩ = w.cell? ⟨d, off, none⟩ := below_cells HBW.out d h1.1 off
                rw [h2, h3]
              refine ⟨bs ++ [⟨g.n, t, at', ct⟩], true, rfl, ?_, by rw [List.length_append]; have := parts_pos g; simp; omega, ⟨?_, fun b hb => ?_, fun b hb => ?_⟩, hg⟩
              · rw [HMA3.out, HFND.out, List.map_append]; rfl
              · rw [List.length_append]
                refine hmap9.congr fun k _ => ?_
                rw [fB_snoc HFN.out]
                show (if k = g.n then _ else _) = _
                unfold rowOf
                rw [HROWT.out]
              · rcases List.mem_append.1 hb with hb | hb
                · exact hsl _ _ _ (HMW.out.sl b hb)
                · rw [List.mem_singleton] at hb
                  rw [hb]
                  exact hsl _ _ _ HVTW.out
              · rcases List.mem_append.1 hb with hb | hb
                · exact HMW.out.fit b hb
                · rw [List.mem_singleton] at hb
                  rw [hb]
                  exact HFT.out
            have HFIN := Lib.hid FIN
            clear FIN hmap9 hg9 hlook
            go_wp2_with fail
            go_ret
            exact HFIN.out
    · have e0 : (g.k == 0) = false := by simp [hk]
      have HK := Lib.hid hk
      clear hk
      have HMA2 : Hid (ans = if headA g t then matchL (bs.map Bd.pair) g.args t.args else (bs.map Bd.pair, false)) := Lib.hid (by rw [HMA.out, if_neg HK.out])
      by_cases h1 : g.k = t.k
      case neg =>
        have b1 : (g.k != t.k) = true := by simpa using h1
        have H1 := Lib.hid h1
        clear h1
        go_wp2_with fail
        go_ret
        refine ⟨bs, false, rfl, ?_, by omega, HMW.out, HGW.out⟩
        rw [HMA2.out, if_neg (by rw [HH.out]; simp [H1.out])]
      have b1 : (g.k != t.k) = false := by simpa using h1
      have H1 := Lib.hid h1
      clear h1
      by_cases h2 : g.s.toList = t.s.toList
      case neg =>
        have H2 := Lib.hid h2
        go_wp2_with fail
        go_ret
        refine ⟨bs, false, rfl, ?_, by omega, HMW.out, HGW.out⟩
        rw [HMA2.out, if_neg (by rw [HH.out]; simp [H2.out])]
      have H2 := Lib.hid h2
      by_cases h3 : g.n = t.n
      case neg =>
        have b3 : (g.n != t.n) = true := by simpa using h3
        have H3 := Lib.hid h3
        clear h3
        go_wp2_with fail
        go_ret
        refine ⟨bs, false, rfl, ?_, by omega, HMW.out, HGW.out⟩
        rw [HMA2.out, if_neg (by rw [HH.out]; simp [H3.out])]
      have b3 : (g.n != t.n) = false := by simpa using h3
      have H3 := Lib.hid h3
      clear h3
      by_cases h4 : c = c'
      case neg =>
        have b4 : ((c : Int) != (c' : Int)) = true := by simp; omega
        have H4 := Lib.hid h4
        clear h4
        go_wp2_with fail
        go_ret
        refine ⟨bs, false, rfl, ?_, by omega, HMW.out, HGW.out⟩
        rw [HMA2.out, if_neg (by rw [HH.out]; simp [H4.out])]
      subst h4
      have HMA3 : Hid (ans = matchL (bs.map Bd.pair) g.args t.args) := Lib.hid (by rw [HMA2.out, if_pos (by rw [HH.out]; simp [H1.out, H2.out, H3.out])])
      go_upto_region 10 with fail
      clear h2 b1 b3 c0 c1 c2 c3 d0 d1 d2 d3
      go_wp2_with fail
      go_loopw [9, 72] (fun _ i wr => ∃ (j : Nat) (bs' : List Bd), i = .int .i64 (j : Int) ∧ j ≤ c ∧ matchL (bs.map Bd.pair) (g.args.take j) (t.args.take j) = (bs'.map Bd.pair, true) ∧ bs'.length ≤ bs.length + partsL (g.args.take j) ∧ MapB wr mm D bs' ∧ w.grownBy wr (some mm) ∧
        wr.heap[w.heap.size]? = some (.cells #[.int .i64 g.k, .int .i64 g.n, .string g.s, .int .i64 g.q, .slice ag c cg] 33 (0, 0)) ∧ wr.heap[w.heap.size + 1]? = some (.cells #[.int .i64 t.k, .int .i64 t.n, .string t.s, .int .i64 t.q, .slice at' c ct] 33 (0, 0))) (fun _ i _ => c - (intOf i).toNat)
      case atStart => exact ⟨0, bs, rfl, Nat.zero_le _, by simp [matchL], by omega, HMW.out, HGW.out, HROW.out, HROW2.out⟩
      case round =>
        obtain ⟨j, bs', rfl, hj, hml, hbl, hmb, hgr, hr1, hr2⟩ := hrel
        obtain ⟨wo, rfl⟩ : ∃ wo : World, wo = wr := ⟨_, rfl⟩
        have c4 : wo.cell? ⟨w.heap.size, 4, none⟩ = some (.slice ag c cg) := blk_cell hr1 4
        have d4 : wo.cell? ⟨w.heap.size + 1, 4, none⟩ = some (.slice at' c ct) := blk_cell hr2 4
        have HML := Lib.hid hml
        have HBL := Lib.hid hbl
        have HMB := Lib.hid hmb
        have HGR := Lib.hid hgr
        have HR1 := Lib.hid hr1
        have HR2 := Lib.hid hr2
        have hszo := hgr.size
        clear hml hbl hmb hgr hr1 hr2
        by_cases hlt : j < c
        · have hd : decide ((j : Int) < (c : Int)) = true := by simp; omega
          have hjk : j < g.args.length := by rw [← HC.out]; exact hlt
          have hjk2 : j < t.args.length := by rw [← HC'.out]; exact hlt
          have hfar : ∀ b, D b → b < wo.heap.size ∧ mm ≠ b := fun b hb => ⟨Nat.lt_of_lt_of_le (HD.out b hb).1 hszo, (HD.out b hb).2⟩
          have hvr : SlD wo D g.args ag cg := HVG.out.keep fun b hb off => World.cell?_of_block (HGR.out.block b (HD.out b hb).1 (fun e => (HD.out b hb).2 (Option.some.inj e).symm))
          have hvr2 : SlD wo D t.args at' ct := HVT.out.keep fun b hb off => World.cell?_of_block (HGR.out.block b (HD.out b hb).1 (fun e => (HD.out b hb).2 (Option.some.inj e).symm))
          obtain ⟨bb, p, ap, cp, hDb, hix, x0, x1, x2, x3, x4, hs⟩ := arg_cells hvr hjk
          obtain ⟨bb', p', ap', cp', hDb', hix', y0, y1, y2, y3, y4, hs'⟩ := arg_cells hvr2 hjk2
          rw [← HC.out] at hix
          rw [← HC'.out] at hix'
          obtain ⟨a, ha⟩ : ∃ a, a = g.args[j] := ⟨_, rfl⟩
          obtain ⟨a', ha'⟩ : ∃ a', a' = t.args[j] := ⟨_, rfl⟩
          rw [← ha] at x0 x1 x2 x3 x4 hs
          rw [← ha'] at y0 y1 y2 y3 y4 hs'
          have hmem : a ∈ g.args := by rw [ha]; exact List.getElem_mem _
          have hmem' : a' ∈ t.args := by rw [ha']; exact List.getElem_mem _
          have hshu : shapedD a' = true := by
            have h := HSH.out
            rw [shaped_args, Bool.and_eq_true] at h
            exact shapedL_get h.2 hmem'
          have hcall := HIH.out a (by have h1 := HG.out; rw [parts_args] at h1; have := parts_mem hmem; omega) a' D ap ap' cp cp' mm bs' wo.drew hfar (hs.keep fun _ _ _ => rfl) (hs'.keep fun _ _ _ => rfl) ⟨HMB.out.mp.of_same rfl, fun b hb => (HMB.out.sl b hb).keep fun _ _ _ => rfl, HMB.out.fit⟩ (HFG.out.args.get hmem) (HFT.out.args.get hmem') hshu (by
            have h1 := HLEN.out
            rw [parts_args] at h1
            have h2 := partsL_take hjk
            have h3 := partsL_take_le g.args (j + 1)
            have h4 := HBL.out
            rw [← ha] at h2
            omega)
          obtain ⟨res, hres⟩ : ∃ res, res = matchD (bs'.map Bd.pair) a a' := ⟨_, rfl⟩
          obtain ⟨okr, hokr⟩ : ∃ okr, okr = res.2 := ⟨_, rfl⟩
          have hcall2 : Calls Try.prog 38 #[.agg (rowOf a ap cp), .agg (rowOf a' ap' cp'), .map (some mm)] wo.drew fun e w' => e = .returned (.bool okr) ∧ ∃ bs7, res = (bs7.map Bd.pair, okr) ∧ bs7.length ≤ bs'.length + parts a ∧ MapB w' mm D bs7 ∧ wo.drew.grownBy w' (some mm) := hcall.mono (by
            rintro e w' ⟨bs7, ok7, he, h1, h2, h3, h4⟩
            rw [← hres] at h1
            obtain rfl : okr = ok7 := by rw [hokr, h1]
            exact ⟨he, bs7, h1, h2, h3, h4⟩)
          unfold rowOf at hcall2
          have HCALL := Lib.hid hcall2
          have HRES := Lib.hid hres
          have HOKR := Lib.hid hokr
          have HA := Lib.hid ha
          have HA' := Lib.hid ha'
          have z4 : wo.drew.cell? ⟨w.heap.size, 4, none⟩ = some (.slice ag c cg) := c4
          have v4 : wo.drew.cell? ⟨w.heap.size + 1, 4, none⟩ = some (.slice at' c ct) := d4
          have X0 : wo.drew.cell? ⟨bb, p, none⟩ = some (.int .i64 a.k) := x0
          have X1 : wo.drew.cell? ⟨bb, p + 1, none⟩ = some (.int .i64 a.n) := x1
          have X2 : wo.drew.cell? ⟨bb, p + 2, none⟩ = some (.string a.s) := x2
          have X3 : wo.drew.cell? ⟨bb, p + 3, none⟩ = some (.int .i64 a.q) := x3
          have X4 : wo.drew.cell? ⟨bb, p + 4, none⟩ = some (.slice ap a.args.length cp) := x4
          have Y0 : wo.drew.cell? ⟨bb', p', none⟩ = some (.int .i64 a'.k) := y0
          have Y1 : wo.drew.cell? ⟨bb', p' + 1, none⟩ = some (.int .i64 a'.n) := y1
          have Y2 : wo.drew.cell? ⟨bb', p' + 2, none⟩ = some (.string a'.s) := y2
          have Y3 : wo.drew.cell? ⟨bb', p' + 3, none⟩ = some (.int .i64 a'.q) := y3
          have Y4 : wo.drew.cell? ⟨bb', p' + 4, none⟩ = some (.slice ap' a'.args.length cp') := y4
          have hl1o : w.heap.size < wo.heap.size := lt_of_block HR1.out
          have hl2o : w.heap.size + 1 < wo.heap.size := lt_of_block HR2.out
          clear hcall hcall2 hres hokr hvr hvr2 hs hs' ha ha' hmem hmem' hshu hfar x0 x1 x2 x3 x4 y0 y1 y2 y3 y4
          go_upto_region 13 with fail
          refine wp_region_still_tail 11 (by kernel_rfl) (by kernel_rfl) ?_
          simp only [List.take_succ_cons, List.take_zero, List.drop_succ_cons, List.drop_zero]
          change wpStill _ _ wo.drew _ _ _
          iterate 11 still_step
          refine wpStill_nil ?_
          change wpList _ _ _ _ _ wo.drew
          clear X0 X1 X2 X3 X4 Y0 Y1 Y2 Y3 Y4 z4 v4 c4 d4
          cases okr with
          | true =>
            go_wp2_with (first | (go_at_call 38; refine HCALL.out.mono ?_; rintro e w7 ⟨rfl, bs7, hm7, hl7, hmb7, hg7⟩; have HM7 := Lib.hid hm7; have HL7 := Lib.hid hl7; have HMB7 := Lib.hid hmb7; have HG7 := Lib.hid hg7; clear hm7 hl7 hmb7 hg7))
            go_roundw
            case rel =>
              have hg7 : wo.grownBy w7 (some mm) := gr_on (gr_drew wo 1 _) HG7.out (.inl rfl)
              refine ⟨j + 1, bs7, by go_num, hlt, ?_, ?_, HMB7.out, gr_on HGR.out hg7 (.inl rfl), ?_, ?_⟩
              · rw [matchL_take hjk hjk2 _ (by rw [HML.out]), HML.out, ← HA.out, ← HA'.out]
                show matchD (bs'.map Bd.pair) a a' = _
                rw [← HRES.out, HM7.out]
              · rw [partsL_take hjk, ← HA.out]
                have h1 := HBL.out
                have h2 := HL7.out
                omega
              · exact (hg7.block _ hl1o (fun e => map_ne HMB.out.mp HR1.out (Option.some.inj e))).trans HR1.out
              · exact (hg7.block _ hl2o (fun e => map_ne HMB.out.mp HR2.out (Option.some.inj e))).trans HR2.out
            case measure => simp only [intOf]; omega
          | false =>
            go_wp2_with (first | (go_at_call 38; refine HCALL.out.mono ?_; rintro e w7 ⟨rfl, bs7, hm7, hl7, hmb7, hg7⟩; have HM7 := Lib.hid hm7; have HL7 := Lib.hid hl7; have HMB7 := Lib.hid hmb7; have HG7 := Lib.hid hg7; clear hm7 hl7 hmb7 hg7))
            go_ret
            have hg7 : wo.grownBy w7 (some mm) := gr_on (gr_drew wo 1 _) HG7.out (.inl rfl)
            refine ⟨bs7, false, rfl, ?_, ?_, HMB7.out, gr_on HGR.out hg7 (.inl rfl)⟩
            · rw [HMA3.out]
              refine matchL_halt (j := j + 1) _ _ ?_
              rw [matchL_take hjk hjk2 _ (by rw [HML.out]), HML.out, ← HA.out, ← HA'.out]
              show matchD (bs'.map Bd.pair) a a' = _
              rw [← HRES.out, HM7.out]
            · have h1 := HBL.out
              have h2 := HL7.out
              have h3 := partsL_take hjk
              have h4 := partsL_take_le g.args (j + 1)
              rw [← HA.out] at h3
              rw [parts_args]
              omega
        · obtain rfl : j = c := by omega
          have hd : decide ((j : Int) < (j : Int)) = false := by simp
          go_wp2_with fail
          go_ret
          refine ⟨bs', true, rfl, ?_, ?_, HMB.out, HGR.out⟩
          · have h := HML.out
            rw [show g.args.take j = g.args from by rw [HC.out, List.take_length], show t.args.take j = t.args from by rw [HC'.out, List.take_length]] at h
            rw [HMA3.out, h]
          · have h1 := HBL.out
            have h2 := partsL_take_le g.args j
            rw [parts_args]
            omega
end Go.Proofs.Ytdeomphilggokaa
