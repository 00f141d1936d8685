/-
  Proved: the contract of the reference's match. Condition: types that may be; at most 1000000 binds.
-/
import Derived.Test.YtdeomphilggokaaC1
set_option linter.unusedSimpArgs false
set_option linter.unusedVariables false
namespace Go.Proofs.Ytdeomphilggokaa
open Go.RowKit

/-- a row of binds behind what was appended to it -/
structure GrewB (D : Nat → Prop) (w : World) (v : Value) (bs : List Bd) (w' : World) (v' : Value) : Prop where
  own : OwnB 0 w' D v' bs
  gr : w.grownBy w' v.ownBlock
  at' : OnAt w v v'
  fit : ∀ b ∈ bs, Fits b.t
theorem findB_none {l : List (Int × Ty)} {n : Int} (h : ∀ x ∈ l, x.1 ≠ n) : findB l n = none := by
  unfold findB
  rw [List.find?_eq_none.2 (fun x hx => by simpa using h x hx)]; rfl
theorem findB_at {l : List (Int × Ty)} {n : Int} {i : Nat} (hi : i < l.length) (h : ∀ k (h : k < i), (l[k]'(by omega)).1 ≠ n) (e : l[i].1 = n) : findB l n = some l[i].2 := by
  unfold findB
  have hs : l.find? (fun x => decide (x.1 = n)) = some l[i] := by
    rw [List.find?_eq_some_iff_getElem]
    exact ⟨by simpa using e, i, hi, rfl, fun j hj => by simpa using h j hj⟩
  rw [hs]; rfl
theorem matchL_halt : ∀ {a b : List Ty} {j : Nat} (l : List (Int × Ty)) (x : List (Int × Ty)), matchL l (a.take j) (b.take j) = (x, false) → matchL l a b = (x, false)
  | [], b, j, l, x, h => by simp [matchL] at h
  | p :: ps, [], j, l, x, h => by cases j <;> simp [matchL] at h
  | p :: ps, r :: rs, 0, l, x, h => by simp [matchL] at h
  | p :: ps, r :: rs, j + 1, l, x, h => by
    rw [List.take_succ_cons, List.take_succ_cons, matchL] at h
    rw [matchL]
    by_cases e : (matchD l p r).2 = true
    · rw [if_pos e] at h ⊢
      exact matchL_halt _ _ h
    · rw [if_neg e] at h ⊢
      exact h
theorem OwnB.getm {B : Nat} {w : World} {D : Nat → Prop} {v : Value} {bs : List Bd} (h : OwnB B w D v bs) {m : Nat} (hm : m = bs.length) : ∃ ao cap, v = .slice ao m cap ∧ ∀ i (_ : i < m) (h' : i < bs.length), ∃ g, B ≤ g ∧ g < w.heap.size ∧
    (∀ w' : World, (Instr.indexAt 25 (.slice ao m cap) (.int .i64 i)).run Try.prog w' = .ok (.pointer (some ⟨g, i * 6, none⟩)) w') ∧ ∀ j, j < 6 → w.cell? ⟨g, i * 6 + j, none⟩ = bs[i].cells[j]? := by
  subst hm
  obtain ⟨ao, cap, e, h2⟩ := h.get
  exact ⟨ao, cap, e, fun i hi _ => h2 i hi⟩
set_option maxRecDepth 100000 in
set_option maxHeartbeats 8000000 in
theorem rmatch_any : ∀ (f : Nat) (g : Ty), parts g ≤ f → ∀ (t : Ty) (D : Nat → Prop) (ag at' : Option Addr) (cg ct : Nat) (v : Value) (bs : List Bd) (w : World), (∀ b, D b → b < w.heap.size ∧ v.ownBlock ≠ some b) → SlD w D g.args ag cg → SlD w D t.args at' ct → OwnB 0 w D v bs → (∀ b ∈ bs, Fits b.t) →
    Fits g → Fits t → shapedD t = true → bs.length + parts g ≤ 1000000 →
    Calls Try.prog 41 #[v, .agg (rowOf g ag cg), .agg (rowOf t at' ct)] w fun e w' => ∃ v' bs' ok, e = .returned (.tuple #[v', .bool ok]) ∧ matchD (bs.map Bd.pair) g t = (bs'.map Bd.pair, ok) ∧ bs'.length ≤ bs.length + parts g ∧ GrewB D w v bs' w' v' := by
  intro f
  induction f with
  | zero => intro t ht; have := parts_pos t; omega
  | succ f IH =>
    intro g hg t D ag at' cg ct v bs w hD hvg hvt hown hfb hfg hft hsh hlen
    obtain ⟨c, hc⟩ : ∃ c, c = g.args.length := ⟨_, rfl⟩
    obtain ⟨c', hc'⟩ : ∃ c', c' = t.args.length := ⟨_, rfl⟩
    obtain ⟨W0, hW0⟩ : ∃ W0, W0 = w.alloc (.cells (rowOf g ag cg) 33) := ⟨_, rfl⟩
    obtain ⟨hbW0, hlW0, hrow0⟩ := box_at hW0
    obtain ⟨W, hW⟩ : ∃ W, W = W0.alloc (.cells (rowOf t at' ct) 33) := ⟨_, rfl⟩
    obtain ⟨hbW1, hlW1, hrow2⟩ := box_at hW
    have hs0 : W0.heap.size = w.heap.size + 1 := by rw [hW0]; simp
    have hbW := hbW0.trans (hbW1.mono hbW0.size)
    have hrow := blk_below hrow0 hbW1 hlW0
    rw [hs0] at hrow2
    have hl1 : w.heap.size < W.heap.size := lt_of_block hrow
    have hl2 : w.heap.size + 1 < W.heap.size := lt_of_block hrow2
    rw [hW0] at hW
    have hcl : c ≤ 3000000000000 := by rw [hc]; exact hfg.len
    have hcl2 : c' ≤ 3000000000000 := by rw [hc']; exact hft.len
    have hownW := hown.keep hbW (fun b hb => (hD b hb).1)
    have hvtW : SlD W D t.args at' ct := hvt.keep fun b hb off => below_cells hbW b (hD b hb).1 off
    have HEQ : Hid (∀ V : World, Below W.heap.size W V → Calls Try.prog 19 #[.agg (rowOf t at' ct)] V fun e w' => e = .returned (.int .i64 (eqD t)) ∧ Below V.heap.size V w') := Lib.hid (fun V hV =>
      req_any (parts t) t (Nat.le_refl _) D at' ct V (fun b hb => Nat.lt_of_lt_of_le (hD b hb).1 (Nat.le_trans hbW.size hV.size)) (hvtW.keep fun b hb off => below_cells hV b (Nat.lt_of_lt_of_le (hD b hb).1 hbW.size) off) hft hsh)
    have HAL : Hid (∀ (V : World) (b : Bd), Below W.heap.size W V → b ∈ bs → Calls Try.prog 10 #[.agg (rowOf b.t b.ao b.cap), .agg (rowOf t at' ct)] V fun e w' => e = .returned (.bool (alikeD b.t t)) ∧ Below V.heap.size V w') := Lib.hid (fun V b hV hb =>
      ralike_any (parts b.t) b.t (Nat.le_refl _) t D b.ao at' b.cap ct V (fun d hd => Nat.lt_of_lt_of_le (hD d hd).1 (Nat.le_trans hbW.size hV.size)) ((hownW.sl b hb).keep fun d hd off => below_cells hV d (Nat.lt_of_lt_of_le (hD d hd).1 hbW.size) off) (hvtW.keep fun d hd off => below_cells hV d (Nat.lt_of_lt_of_le (hD d hd).1 hbW.size) off) (hfb b hb) hft)
    obtain ⟨va, vc, hvv, _⟩ := hown.get
    obtain ⟨m, hm⟩ : ∃ m, m = bs.length := ⟨_, rfl⟩
    rw [← hm] at hvv
    subst hvv
    have hm9 : m ≤ 1000000 := by rw [hm]; omega
    have hgW : w.grownBy W (Value.slice va m vc).ownBlock := gr_below hbW _
    have HMA : Hid (matchD (bs.map Bd.pair) g t = if g.k = 0 then (if g.q = 1 ∧ eqD t = 0 then (bs.map Bd.pair, false) else match findB (bs.map Bd.pair) g.n with | some x => (bs.map Bd.pair, alikeD x t) | none => (bs.map Bd.pair ++ [(g.n, t)], true)) else if headA g t then matchL (bs.map Bd.pair) g.args t.args else (bs.map Bd.pair, false)) := Lib.hid (match_args _ g t)
    obtain ⟨ans, hans⟩ : ∃ ans, ans = matchD (bs.map Bd.pair) g t := ⟨_, rfl⟩
    rw [← hans] at HMA
    rw [← hans]
    have HH : Hid (headA g t = decide (g.k = t.k ∧ g.s.toList = t.s.toList ∧ g.n = t.n ∧ c = c')) := Lib.hid (by rw [hc, hc']; rfl)
    have HROWT : Hid (t.args.length = c') := Lib.hid hc'.symm
    unfold rowOf at hW hrow hrow2 HEQ
    unfold rowOf
    rw [← hc] at hW hrow
    rw [← hc'] at hW hrow2 HEQ
    rw [← hc, ← hc']
    have HC := Lib.hid hc
    have HC' := Lib.hid hc'
    have HG := Lib.hid hg
    have HFG := Lib.hid hfg
    have HFT := Lib.hid hft
    have HFB := Lib.hid hfb
    have HIH := Lib.hid IH
    have HD := Lib.hid hD
    have HVG := Lib.hid hvg
    have HVT := Lib.hid hvt
    have HVTW := Lib.hid hvtW
    have HOWN := Lib.hid hownW
    have HGW := Lib.hid hgW
    have HBW := Lib.hid hbW
    have HROW := Lib.hid hrow
    have HROW2 := Lib.hid hrow2
    have HLEN := Lib.hid hlen
    have HSH := Lib.hid hsh
    have HM := Lib.hid hm
    have c0 : W.cell? ⟨w.heap.size, 0, none⟩ = some (.int .i64 g.k) := blk_cell hrow 0
    have c1 : W.cell? ⟨w.heap.size, 1, none⟩ = some (.int .i64 g.n) := blk_cell hrow 1
    have c2 : W.cell? ⟨w.heap.size, 2, none⟩ = some (.string g.s) := blk_cell hrow 2
    have c3 : W.cell? ⟨w.heap.size, 3, none⟩ = some (.int .i64 g.q) := blk_cell hrow 3
    have c4 : W.cell? ⟨w.heap.size, 4, none⟩ = some (.slice ag c cg) := blk_cell hrow 4
    have d0 : W.cell? ⟨w.heap.size + 1, 0, none⟩ = some (.int .i64 t.k) := blk_cell hrow2 0
    have d1 : W.cell? ⟨w.heap.size + 1, 1, none⟩ = some (.int .i64 t.n) := blk_cell hrow2 1
    have d2 : W.cell? ⟨w.heap.size + 1, 2, none⟩ = some (.string t.s) := blk_cell hrow2 2
    have d3 : W.cell? ⟨w.heap.size + 1, 3, none⟩ = some (.int .i64 t.q) := blk_cell hrow2 3
    have d4 : W.cell? ⟨w.heap.size + 1, 4, none⟩ = some (.slice at' c' ct) := blk_cell hrow2 4
    clear IH hD hvg hvt hc hc' hg hfg hft hbW hrow hrow2 hbW0 hbW1 hW0 hrow0 hs0 hlW0 hlW1 hans hown hfb hsh hlen hownW hvtW hgW hm
    go_enter Try.func41, Try.ntmps41
    go_upto_region 1 with fail
    rw [← hW]
    have HWW := Lib.hid hW
    clear hW
    generalize Value.agg #[.int .i64 g.k, .int .i64 g.n, .string g.s, .int .i64 g.q, .slice ag c cg] = v0
    generalize hv1 : Value.agg #[.int .i64 t.k, .int .i64 t.n, .string t.s, .int .i64 t.q, .slice at' c' ct] = v1
    clear hv1
    by_cases hk : g.k = 0
    · have e0 : (g.k == 0) = true := by simp [hk]
      have HK := Lib.hid hk
      clear hk
      have HMA2 : Hid (ans = if g.q = 1 ∧ eqD t = 0 then (bs.map Bd.pair, false) else match findB (bs.map Bd.pair) g.n with | some x => (bs.map Bd.pair, alikeD x t) | none => (bs.map Bd.pair ++ [(g.n, t)], true)) := Lib.hid (by rw [HMA.out, if_pos HK.out])
      obtain ⟨stop, hstop⟩ : ∃ stop, stop = decide (g.q = 1 ∧ eqD t = 0) := ⟨_, rfl⟩
      have HSTOP := Lib.hid hstop
      clear hstop
      obtain ⟨r, hr⟩ : ∃ r, r = eqD t := ⟨_, rfl⟩
      have HR := Lib.hid hr
      have HEQ1 := Lib.hid (HEQ.out W (Below.refl _ _))
      rw [← hr] at HEQ1
      clear hr
      go_upto_region 2 with fail
      go_cut [21] from 14 to 21 (fun v wx => v = .bool stop ∧ Below W.heap.size W wx)
      case first =>
        by_cases hq : g.q = 1
        · have e1 : (g.q == 1) = true := by simp [hq]
          have HQ := Lib.hid hq
          clear hq
          go_wp2_with (first | (go_at_call 19; refine HEQ1.out.mono ?_; rintro e w7 ⟨rfl, hb7⟩))
          go_meet
          refine ⟨?_, hb7⟩
          rw [HSTOP.out, ← HR.out, beq_dec]
          simp [HQ.out]
        · have e1 : (g.q == 1) = false := by simp [hq]
          have HQ := Lib.hid hq
          clear hq
          go_wp2_with fail
          go_meet
          refine ⟨?_, Below.refl _ _⟩
          rw [HSTOP.out]
          simp [HQ.out]
      case rest =>
        obtain ⟨rfl, hbU⟩ := hcut
        obtain ⟨U, hU⟩ : ∃ U : World, U = wc := ⟨_, rfl⟩
        subst hU
        have HBU := Lib.hid hbU
        have hgU : w.grownBy U (Value.slice va m vc).ownBlock := gr_on HGW.out (gr_below hbU none) (.inr (fun g e => by cases e))
        have HGU := Lib.hid hgU
        have hlU := hbU.size
        have hoU := HOWN.out.keep hbU (fun b hb => Nat.lt_of_lt_of_le (HD.out b hb).1 HBW.out.size)
        have HOU := Lib.hid hoU
        clear c0 c1 c2 c3 c4 d0 d1 d2 d3 d4 hbU hgU hoU
        cases stop with
        | true =>
          go_wp2_with fail
          go_ret2
          refine ⟨_, bs, false, rfl, ?_, by omega, HOU.out, HGU.out, .inl rfl, HFB.out⟩
          have h := HSTOP.out
          rw [HMA2.out, if_pos (by simpa using h.symm)]
        | false =>
          have HMA3 : Hid (ans = match findB (bs.map Bd.pair) g.n with | some x => (bs.map Bd.pair, alikeD x t) | none => (bs.map Bd.pair ++ [(g.n, t)], true)) := Lib.hid (by rw [HMA2.out, if_neg (by simpa using HSTOP.out.symm)])
          go_wp2_with fail
          go_loopw [8] (fun i wr => ∃ k : Nat, i = .int .i64 (k : Int) ∧ k ≤ m ∧ (∀ q (h : q < k) (h' : q < bs.length), bs[q].n ≠ g.n) ∧ Below U.heap.size U wr) (fun i _ => m - (intOf i).toNat)
          case atStart => exact ⟨0, rfl, Nat.zero_le _, fun q h => by omega, Below.refl _ _⟩
          case round =>
            obtain ⟨k, rfl, hkm, hbef, hbr⟩ := hrel
            obtain ⟨wo, rfl⟩ : ∃ wo : World, wo = wr := ⟨_, rfl⟩
            have hbo : Below W.heap.size W wo := HBU.out.trans (hbr.mono hlU)
            have hr1 := blk_below HROW.out hbo hl1
            have hr2 := blk_below HROW2.out hbo hl2
            have c1 : wo.cell? ⟨w.heap.size, 1, none⟩ = some (.int .i64 g.n) := blk_cell hr1 1
            have d0 : wo.cell? ⟨w.heap.size + 1, 0, none⟩ = some (.int .i64 t.k) := blk_cell hr2 0
            have d1 : wo.cell? ⟨w.heap.size + 1, 1, none⟩ = some (.int .i64 t.n) := blk_cell hr2 1
            have d2 : wo.cell? ⟨w.heap.size + 1, 2, none⟩ = some (.string t.s) := blk_cell hr2 2
            have d3 : wo.cell? ⟨w.heap.size + 1, 3, none⟩ = some (.int .i64 t.q) := blk_cell hr2 3
            have d4 : wo.cell? ⟨w.heap.size + 1, 4, none⟩ = some (.slice at' c' ct) := blk_cell hr2 4
            have hoo := HOWN.out.keep hbo (fun b hb => Nat.lt_of_lt_of_le (HD.out b hb).1 HBW.out.size)
            obtain ⟨va2, vc2, hvv, hget⟩ := hoo.getm HM.out
            cases hvv
            have HBEF := Lib.hid hbef
            have HBR := Lib.hid hbr
            have HBO := Lib.hid hbo
            have HGET := Lib.hid hget
            have HOO := Lib.hid hoo
            clear hbef hbr hbo hget hr1 hr2 hoo
            by_cases hlt : k < m
            · have hkb : k < bs.length := by rw [← HM.out]; exact hlt
              have hlt' : (k : Int) < (m : Int) := by omega
              obtain ⟨gb, _, hgb, hix, hcells⟩ := HGET.out k hlt hkb
              obtain ⟨bd, hbd⟩ : ∃ bd, bd = bs[k] := ⟨_, rfl⟩
              rw [← hbd] at hcells
              have x0 : wo.cell? ⟨gb, k * 6, none⟩ = some (.int .i64 bd.n) := hcells 0 (by omega)
              have x1 : wo.cell? ⟨gb, k * 6 + 1, none⟩ = some (.int .i64 bd.t.k) := hcells 1 (by omega)
              have x2 : wo.cell? ⟨gb, k * 6 + 2, none⟩ = some (.int .i64 bd.t.n) := hcells 2 (by omega)
              have x3 : wo.cell? ⟨gb, k * 6 + 3, none⟩ = some (.string bd.t.s) := hcells 3 (by omega)
              have x4 : wo.cell? ⟨gb, k * 6 + 4, none⟩ = some (.int .i64 bd.t.q) := hcells 4 (by omega)
              have x5 : wo.cell? ⟨gb, k * 6 + 5, none⟩ = some (.slice bd.ao bd.t.args.length bd.cap) := hcells 5 (by omega)
              have HBD := Lib.hid hbd
              have hmem : bd ∈ bs := by rw [hbd]; exact List.getElem_mem _
              have HMEM := Lib.hid hmem
              clear hcells hbd hmem
              by_cases hen : bd.n = g.n
              · have e2 : (bd.n == g.n) = true := by simp [hen]
                have HEN := Lib.hid hen
                clear hen
                go_upto_region 7 with fail
                go_quiet (fail)
                obtain ⟨V, hV⟩ : ∃ V : World, V = wo.drewN nq := ⟨_, rfl⟩
                have hbV : Below wo.heap.size wo V := by rw [hV]; exact below_drewN (Below.refl _ _) _
                have ecell : ∀ p : Addr, V.drew.cell? p = wo.cell? p := fun p => by rw [hV]; rfl
                rw [← hV]
                rw [← ecell] at x1 x2 x3 x4 x5 d0 d1 d2 d3 d4
                obtain ⟨res, hres⟩ : ∃ res, res = alikeD bd.t t := ⟨_, rfl⟩
                have hcall := HAL.out V.drew bd (HBO.out.trans ((hbV.drew).mono HBO.out.size)) HMEM.out
                rw [← hres] at hcall
                unfold rowOf at hcall
                rw [HROWT.out] at hcall
                have HCALL := Lib.hid hcall
                have HRES := Lib.hid hres
                have HBV := Lib.hid hbV
                clear hV hbV ecell hcall hres x0 c1
                go_upto_region 8 with fail
                have k10 : ∀ w' : World, Below V.drew.heap.size V.drew w' → (w'.cell? ⟨gb, k * 6 + 1, none⟩ = some (.int .i64 bd.t.k) ∧ w'.cell? ⟨gb, k * 6 + 2, none⟩ = some (.int .i64 bd.t.n) ∧ w'.cell? ⟨gb, k * 6 + 3, none⟩ = some (.string bd.t.s) ∧ w'.cell? ⟨gb, k * 6 + 4, none⟩ = some (.int .i64 bd.t.q) ∧ w'.cell? ⟨gb, k * 6 + 5, none⟩ = some (.slice bd.ao bd.t.args.length bd.cap) ∧ w'.cell? ⟨w.heap.size + 1, 0, none⟩ = some (.int .i64 t.k) ∧ w'.cell? ⟨w.heap.size + 1, 1, none⟩ = some (.int .i64 t.n) ∧ w'.cell? ⟨w.heap.size + 1, 2, none⟩ = some (.string t.s) ∧ w'.cell? ⟨w.heap.size + 1, 3, none⟩ = some (.int .i64 t.q) ∧ w'.cell? ⟨w.heap.size + 1, 4, none⟩ = some (.slice at' c' ct)) := fun w' h =>
                  have q : ∀ (b o : Nat) (v : Value), V.drew.cell? ⟨b, o, none⟩ = some v → w'.cell? ⟨b, o, none⟩ = some v := fun b o v e => (h.cell (p := ⟨b, o, none⟩) (World.block_lt_of_cell? V.drew _ e)).trans e
                  ⟨q _ _ _ x1, q _ _ _ x2, q _ _ _ x3, q _ _ _ x4, q _ _ _ x5, q _ _ _ d0, q _ _ _ d1, q _ _ _ d2, q _ _ _ d3, q _ _ _ d4⟩
                have K10 := Lib.hid k10
                clear k10
                go_region_held3 (fun w' => w'.cell? ⟨gb, k * 6 + 1, none⟩ = some (.int .i64 bd.t.k) ∧ w'.cell? ⟨gb, k * 6 + 2, none⟩ = some (.int .i64 bd.t.n) ∧ w'.cell? ⟨gb, k * 6 + 3, none⟩ = some (.string bd.t.s) ∧ w'.cell? ⟨gb, k * 6 + 4, none⟩ = some (.int .i64 bd.t.q) ∧ w'.cell? ⟨gb, k * 6 + 5, none⟩ = some (.slice bd.ao bd.t.args.length bd.cap) ∧ w'.cell? ⟨w.heap.size + 1, 0, none⟩ = some (.int .i64 t.k) ∧ w'.cell? ⟨w.heap.size + 1, 1, none⟩ = some (.int .i64 t.n) ∧ w'.cell? ⟨w.heap.size + 1, 2, none⟩ = some (.string t.s) ∧ w'.cell? ⟨w.heap.size + 1, 3, none⟩ = some (.int .i64 t.q) ∧ w'.cell? ⟨w.heap.size + 1, 4, none⟩ = some (.slice at' c' ct))
                  (first | exact ⟨x1, x2, x3, x4, x5, d0, d1, d2, d3, d4⟩ | exact d9)
                  (first | (go_at_call 10; refine HCALL.out.mono ?_; rintro e w7 ⟨rfl, hb7⟩; have d9 := K10.out w7 hb7; have HB7 := Lib.hid hb7; clear hb7))
                go_wp2_with fail
                go_ret2
                have hb9 : Below U.heap.size U w7 := HBR.out.trans (((HBV.out.drew).trans (HB7.out.mono HBV.out.size)).mono HBR.out.size)
                refine ⟨_, bs, res, rfl, ?_, by omega, HOU.out.keep hb9 (fun b hb => Nat.lt_of_lt_of_le (HD.out b hb).1 (Nat.le_trans HBW.out.size hlU)), gr_on HGU.out (gr_below hb9 none) (.inr (fun g e => by cases e)), .inl rfl, HFB.out⟩
                rw [HMA3.out, findB_at (i := k) (by simpa using hkb) (fun q hq => by simp only [List.getElem_map]; exact HBEF.out q hq (by omega)) (by simp only [List.getElem_map]; rw [← HBD.out]; exact HEN.out)]
                show (bs.map Bd.pair, alikeD ((bs.map Bd.pair)[k]'(by simpa using hkb)).2 t) = _
                simp only [List.getElem_map]
                rw [← HBD.out, HRES.out]; rfl
              · have e2 : (bd.n == g.n) = false := by simp [hen]
                have HEN := Lib.hid hen
                clear hen
                go_upto_region 7 with fail
                go_quiet (fail)
                go_wp2_with fail
                go_roundw
                case rel =>
                  refine ⟨k + 1, by go_num, hlt, fun q h h' => ?_, HBR.out.trans ((below_drewN (Below.refl _ _) _).mono HBR.out.size)⟩
                  by_cases e : q < k
                  · exact HBEF.out q e h'
                  · obtain rfl : q = k := by omega
                    rw [← HBD.out]; exact HEN.out
                case measure => simp only [intOf]; omega
            · obtain rfl : k = m := by omega
              have hd : decide ((k : Int) < (k : Int)) = false := by simp
              obtain ⟨i35, hi, hz0, hz1, hz2⟩ := info_parts info35
              have HI := Lib.hid hi
              have hoA : (wo.alloc (.cells #[.int .i64 g.n, .int .i64 t.k, .int .i64 t.n, .string t.s, .int .i64 t.q, .slice at' c' ct] 35)).ownsRow 0 35 6 (.slice va k vc) k (bcells bs) := by
                have h := HOO.out.own.alloc (.cells #[.int .i64 g.n, .int .i64 t.k, .int .i64 t.n, .string t.s, .int .i64 t.q, .slice at' c' ct] 35)
                rw [← HM.out] at h
                exact h
              have HOA := Lib.hid hoA
              have hnew : ([.int .i64 g.n, .int .i64 t.k, .int .i64 t.n, .string t.s, .int .i64 t.q, .slice at' c' ct] : List Value) = (Bd.mk g.n t at' ct).cells := by unfold Bd.cells rowOf; rw [HROWT.out]
              have HNEW := Lib.hid hnew
              have hone : ∀ u ∈ ([.int .i64 g.n, .int .i64 t.k, .int .i64 t.n, .string t.s, .int .i64 t.q, .slice at' c' ct] : List Value), u.oneCell' = true := by rw [hnew]; exact bd_one _
              clear hi hoA hnew
              go_upto_region 10 with (first | (at_builtin; go_must (refine wpList_append3 rfl (.tmp 45) (.tmp 50) 25 25 rfl 0 35 35 i35 _ 6 72 Try.underlying25 Try.underlying25 HI.out hz0 hz1 hz2 rfl (by decide) (.slice va k vc) k (bcells bs) rfl HOA.out (some ⟨wo.heap.size, 0, none⟩) 1 1 [.int .i64 g.n, .int .i64 t.k, .int .i64 t.n, .string t.s, .int .i64 t.q, .slice at' c' ct] rfl rfl (fun _ => ⟨_, rfl, new_cells (c := #[.int .i64 g.n, .int .i64 t.k, .int .i64 t.n, .string t.s, .int .i64 t.q, .slice at' c' ct]) _ (by simp)⟩) hone (by unfold maxLen; omega) (by omega) (Nat.zero_le _) ?_)))
              intro v1' w1 hown1 hgr1 hat1
              have FIN : ∃ v' bs' ok, Ending.returned (.tuple #[v1', .bool true]) = .returned (.tuple #[v', .bool ok]) ∧ ans = (bs'.map Bd.pair, ok) ∧ bs'.length ≤ bs.length + parts g ∧ GrewB D w (.slice va k vc) bs' w1 v' := by
                have hbA : wo.grownBy (wo.alloc (.cells #[.int .i64 g.n, .int .i64 t.k, .int .i64 t.n, .string t.s, .int .i64 t.q, .slice at' c' ct] 35)) none := gr_below (balloc (Below.refl _ _) _) _
                have hg1 : w.grownBy w1 (Value.slice va k vc).ownBlock := gr_on (gr_on (gr_on HGU.out (gr_below HBR.out none) (.inr (fun g e => by cases e))) hbA (.inr (fun g e => by cases e))) hgr1 (.inl rfl)
                refine ⟨v1', bs ++ [⟨g.n, t, at', ct⟩], true, rfl, ?_, by rw [List.length_append]; have := parts_pos g; simp; omega, ⟨?_, ?_⟩, hg1, ?_, ?_⟩
                · rw [HMA3.out, findB_none (fun x hx => ?_), List.map_append]; rfl
                  obtain ⟨b, hb, rfl⟩ := List.mem_map.1 hx
                  obtain ⟨q, hq, rfl⟩ := List.getElem_of_mem hb
                  exact HBEF.out q (by rw [HM.out]; exact hq) hq
                · rw [List.length_append, bcells_append, ← HM.out, bcells, bcells, List.append_nil, ← HNEW.out]
                  exact hown1
                · intro b hb
                  have hsl : ∀ (l : List Ty) (ao : Option Addr) (cap : Nat), SlD W D l ao cap → SlD w1 D l ao cap := fun l ao cap h => h.keep fun d hd off => by
                    have h1 := (HD.out d hd)
                    have h2 : w1.cell? ⟨d, off, none⟩ = w.cell? ⟨d, off, none⟩ := World.cell?_of_block (hg1.block d h1.1 (fun e => h1.2 e.symm))
                    have h3 : W.cell? ⟨d, off, none⟩ = w.cell? ⟨d, off, none⟩ := below_cells HBW.out d h1.1 off
                    rw [h2, h3]
                  rcases List.mem_append.1 hb with hb | hb
                  · exact hsl _ _ _ (HOWN.out.sl b hb)
                  · rw [List.mem_singleton] at hb
                    rw [hb]
                    exact hsl _ _ _ HVTW.out
                · rcases hat1 with e | e
                  · exact .inl e
                  · refine .inr ⟨_, e, ?_⟩
                    have h1 := HBW.out.size
                    have h2 := HBO.out.size
                    simp
                    omega
                · intro b hb
                  rcases List.mem_append.1 hb with hb | hb
                  · exact HFB.out b hb
                  · rw [List.mem_singleton] at hb
                    rw [hb]
                    exact HFT.out
              have HFIN := Lib.hid FIN
              clear FIN hown1 hgr1 hat1
              go_wp2_with fail
              go_ret2
              exact HFIN.out
    · have e0 : (g.k == 0) = false := by simp [hk]
      have HK := Lib.hid hk
      clear hk
      have HMA2 : Hid (ans = if headA g t then matchL (bs.map Bd.pair) g.args t.args else (bs.map Bd.pair, false)) := Lib.hid (by rw [HMA.out, if_neg HK.out])
      by_cases h1 : g.k = t.k
      case neg =>
        have b1 : (g.k != t.k) = true := by simpa using h1
        have H1 := Lib.hid h1
        clear h1
        go_wp2_with fail
        go_ret2
        refine ⟨_, bs, false, rfl, ?_, by omega, HOWN.out, HGW.out, .inl rfl, HFB.out⟩
        rw [HMA2.out, if_neg (by rw [HH.out]; simp [H1.out])]
      have b1 : (g.k != t.k) = false := by simpa using h1
      have H1 := Lib.hid h1
      clear h1
      by_cases h2 : g.s.toList = t.s.toList
      case neg =>
        have H2 := Lib.hid h2
        go_wp2_with fail
        go_ret2
        refine ⟨_, bs, false, rfl, ?_, by omega, HOWN.out, HGW.out, .inl rfl, HFB.out⟩
        rw [HMA2.out, if_neg (by rw [HH.out]; simp [H2.out])]
      have H2 := Lib.hid h2
      by_cases h3 : g.n = t.n
      case neg =>
        have b3 : (g.n != t.n) = true := by simpa using h3
        have H3 := Lib.hid h3
        clear h3
        go_wp2_with fail
        go_ret2
        refine ⟨_, bs, false, rfl, ?_, by omega, HOWN.out, HGW.out, .inl rfl, HFB.out⟩
        rw [HMA2.out, if_neg (by rw [HH.out]; simp [H3.out])]
      have b3 : (g.n != t.n) = false := by simpa using h3
      have H3 := Lib.hid h3
      clear h3
      by_cases h4 : c = c'
      case neg =>
        have b4 : ((c : Int) != (c' : Int)) = true := by simp; omega
        have H4 := Lib.hid h4
        clear h4
        go_wp2_with fail
        go_ret2
        refine ⟨_, bs, false, rfl, ?_, by omega, HOWN.out, HGW.out, .inl rfl, HFB.out⟩
        rw [HMA2.out, if_neg (by rw [HH.out]; simp [H4.out])]
      subst h4
      have HMA3 : Hid (ans = matchL (bs.map Bd.pair) g.args t.args) := Lib.hid (by rw [HMA2.out, if_pos (by rw [HH.out]; simp [H1.out, H2.out, H3.out])])
      go_upto_region 13 with fail
      clear h2 b1 b3 c0 c1 c2 c3 d0 d1 d2 d3
      go_wp2_with fail
      go_loopw [0, 9, 10] (fun v o i wr => ∃ (j : Nat) (bs' : List Bd) (b : Bool), o = .bool b ∧ i = .int .i64 (j : Int) ∧ j ≤ c ∧ matchL (bs.map Bd.pair) (g.args.take j) (t.args.take j) = (bs'.map Bd.pair, b) ∧ bs'.length ≤ bs.length + partsL (g.args.take j) ∧ GrewB D w (.slice va m vc) bs' wr v ∧
        wr.heap[w.heap.size]? = some (.cells #[.int .i64 g.k, .int .i64 g.n, .string g.s, .int .i64 g.q, .slice ag c cg] 33 (0, 0)) ∧ wr.heap[w.heap.size + 1]? = some (.cells #[.int .i64 t.k, .int .i64 t.n, .string t.s, .int .i64 t.q, .slice at' c ct] 33 (0, 0))) (fun _ _ i _ => c - (intOf i).toNat)
      case atStart => exact ⟨0, bs, true, rfl, rfl, Nat.zero_le _, by simp [matchL], by omega, ⟨HOWN.out, HGW.out, .inl rfl, HFB.out⟩, HROW.out, HROW2.out⟩
      case round =>
        obtain ⟨j, bs', b, rfl, rfl, hj, hml, hbl, hgb, hr1, hr2⟩ := hrel
        obtain ⟨wo, rfl⟩ : ∃ wo : World, wo = wr := ⟨_, rfl⟩
        have c4 : wo.cell? ⟨w.heap.size, 4, none⟩ = some (.slice ag c cg) := blk_cell hr1 4
        have d4 : wo.cell? ⟨w.heap.size + 1, 4, none⟩ = some (.slice at' c ct) := blk_cell hr2 4
        obtain ⟨m2, hm2⟩ : ∃ m2, m2 = bs'.length := ⟨_, rfl⟩
        obtain ⟨va2, vc2, hvv, _⟩ := hgb.own.getm hm2
        subst hvv
        have HM2 := Lib.hid hm2
        have HML := Lib.hid hml
        have HBL := Lib.hid hbl
        have HGB := Lib.hid hgb
        have HR1 := Lib.hid hr1
        have HR2 := Lib.hid hr2
        have hszo := hgb.gr.size
        clear hm2 hml hbl hgb hr1 hr2
        by_cases hlt : j < c
        · have hd : decide ((j : Int) < (c : Int)) = true := by simp; omega
          cases b with
          | true =>
            have hjk : j < g.args.length := by rw [← HC.out]; exact hlt
            have hjk2 : j < t.args.length := by rw [← HC'.out]; exact hlt
            have hfar : ∀ b, D b → b < wo.heap.size ∧ (Value.slice va2 m2 vc2).ownBlock ≠ some b := fun b hb => ⟨Nat.lt_of_lt_of_le (HD.out b hb).1 hszo, fun e => by
              rcases HGB.out.at' with e1 | ⟨q, e1, hq⟩
              · exact (HD.out b hb).2 (e1.symm.trans e)
              · have := Option.some.inj (e1.symm.trans e)
                have := (HD.out b hb).1
                omega⟩
            have hvr : SlD wo D g.args ag cg := HVG.out.keep fun b hb off => World.cell?_of_block (HGB.out.gr.block b (HD.out b hb).1 (fun e => (HD.out b hb).2 e.symm))
            have hvr2 : SlD wo D t.args at' ct := HVT.out.keep fun b hb off => World.cell?_of_block (HGB.out.gr.block b (HD.out b hb).1 (fun e => (HD.out b hb).2 e.symm))
            obtain ⟨bb, p, ap, cp, hDb, hix, x0, x1, x2, x3, x4, hs⟩ := arg_cells hvr hjk
            obtain ⟨bb', p', ap', cp', hDb', hix', y0, y1, y2, y3, y4, hs'⟩ := arg_cells hvr2 hjk2
            rw [← HC.out] at hix
            rw [← HC'.out] at hix'
            obtain ⟨a, ha⟩ : ∃ a, a = g.args[j] := ⟨_, rfl⟩
            obtain ⟨a', ha'⟩ : ∃ a', a' = t.args[j] := ⟨_, rfl⟩
            rw [← ha] at x0 x1 x2 x3 x4 hs
            rw [← ha'] at y0 y1 y2 y3 y4 hs'
            have hmem : a ∈ g.args := by rw [ha]; exact List.getElem_mem _
            have hmem' : a' ∈ t.args := by rw [ha']; exact List.getElem_mem _
            have hshu : shapedD a' = true := by
              have h := HSH.out
              rw [shaped_args, Bool.and_eq_true] at h
              exact shapedL_get h.2 hmem'
            have hcall := HIH.out a (by have h1 := HG.out; rw [parts_args] at h1; have := parts_mem hmem; omega) a' D ap ap' cp cp' (.slice va2 m2 vc2) bs' wo.drew hfar (hs.keep fun _ _ _ => rfl) (hs'.keep fun _ _ _ => rfl) ⟨HGB.out.own.own, fun b hb => (HGB.out.own.sl b hb).keep fun _ _ _ => rfl⟩ HGB.out.fit (HFG.out.args.get hmem) (HFT.out.args.get hmem') hshu (by
              have h1 := HLEN.out
              rw [parts_args] at h1
              have h2 := partsL_take hjk
              have h3 := partsL_take_le g.args (j + 1)
              have h4 := HBL.out
              rw [← ha] at h2
              omega)
            unfold rowOf at hcall
            have HCALL := Lib.hid hcall
            have HA := Lib.hid ha
            have HA' := Lib.hid ha'
            have hnb1 := own_ne HR1.out HGB.out.own.own (by decide)
            have hnb2 := own_ne HR2.out HGB.out.own.own (by decide)
            have KEEP : Hid (∀ w' : World, wo.drew.grownBy w' (Value.slice va2 m2 vc2).ownBlock → (w'.cell? ⟨w.heap.size, 4, none⟩ = some (.slice ag c cg) ∧ w'.cell? ⟨w.heap.size + 1, 4, none⟩ = some (.slice at' c ct) ∧ w'.cell? ⟨bb, p, none⟩ = some (.int .i64 a.k) ∧ w'.cell? ⟨bb, p + 1, none⟩ = some (.int .i64 a.n) ∧ w'.cell? ⟨bb, p + 2, none⟩ = some (.string a.s) ∧ w'.cell? ⟨bb, p + 3, none⟩ = some (.int .i64 a.q) ∧ w'.cell? ⟨bb, p + 4, none⟩ = some (.slice ap a.args.length cp) ∧ w'.cell? ⟨bb', p', none⟩ = some (.int .i64 a'.k) ∧ w'.cell? ⟨bb', p' + 1, none⟩ = some (.int .i64 a'.n) ∧ w'.cell? ⟨bb', p' + 2, none⟩ = some (.string a'.s) ∧ w'.cell? ⟨bb', p' + 3, none⟩ = some (.int .i64 a'.q) ∧ w'.cell? ⟨bb', p' + 4, none⟩ = some (.slice ap' a'.args.length cp'))) := Lib.hid (fun w' h =>
              have q : ∀ (b o : Nat) (v : Value), (Value.slice va2 m2 vc2).ownBlock ≠ some b → wo.cell? ⟨b, o, none⟩ = some v → w'.cell? ⟨b, o, none⟩ = some v := fun b o v hne e =>
                (World.cell?_of_block (h.block b (World.block_lt_of_cell? wo _ e) (fun e => hne e.symm))).trans e
              ⟨q _ _ _ hnb1 c4, q _ _ _ hnb2 d4, q _ _ _ (hfar _ hDb).2 x0, q _ _ _ (hfar _ hDb).2 x1, q _ _ _ (hfar _ hDb).2 x2, q _ _ _ (hfar _ hDb).2 x3, q _ _ _ (hfar _ hDb).2 x4, q _ _ _ (hfar _ hDb').2 y0, q _ _ _ (hfar _ hDb').2 y1, q _ _ _ (hfar _ hDb').2 y2, q _ _ _ (hfar _ hDb').2 y3, q _ _ _ (hfar _ hDb').2 y4⟩)
            have HNB := Lib.hid (And.intro hnb1 hnb2)
            have hl1o : w.heap.size < wo.heap.size := lt_of_block HR1.out
            have hl2o : w.heap.size + 1 < wo.heap.size := lt_of_block HR2.out
            have START := Lib.hid (KEEP.out wo.drew (World.grownBy.refl _ _))
            clear hcall hvr hvr2 hs hs' ha ha' hmem hmem' hshu hfar hnb1 hnb2 x0 x1 x2 x3 x4 y0 y1 y2 y3 y4
            go_upto_region 17 with fail
            go_region_held3 (fun w' => w'.cell? ⟨w.heap.size, 4, none⟩ = some (.slice ag c cg) ∧ w'.cell? ⟨w.heap.size + 1, 4, none⟩ = some (.slice at' c ct) ∧ w'.cell? ⟨bb, p, none⟩ = some (.int .i64 a.k) ∧ w'.cell? ⟨bb, p + 1, none⟩ = some (.int .i64 a.n) ∧ w'.cell? ⟨bb, p + 2, none⟩ = some (.string a.s) ∧ w'.cell? ⟨bb, p + 3, none⟩ = some (.int .i64 a.q) ∧ w'.cell? ⟨bb, p + 4, none⟩ = some (.slice ap a.args.length cp) ∧ w'.cell? ⟨bb', p', none⟩ = some (.int .i64 a'.k) ∧ w'.cell? ⟨bb', p' + 1, none⟩ = some (.int .i64 a'.n) ∧ w'.cell? ⟨bb', p' + 2, none⟩ = some (.string a'.s) ∧ w'.cell? ⟨bb', p' + 3, none⟩ = some (.int .i64 a'.q) ∧ w'.cell? ⟨bb', p' + 4, none⟩ = some (.slice ap' a'.args.length cp'))
              (first | exact START.out | exact d9)
              (first | (go_at_call 41; refine HCALL.out.mono ?_; rintro e w7 ⟨v7, bs7, ok7, rfl, hml7, hbl7, hgb7⟩; have d9 := KEEP.out w7 hgb7.gr; have HML7 := Lib.hid hml7; have HBL7 := Lib.hid hbl7; have HGB7 := Lib.hid hgb7; clear hml7 hbl7 hgb7))
            go_wp2_with fail
            go_roundw
            case rel =>
              have hg7 : wo.grownBy w7 (Value.slice va2 m2 vc2).ownBlock := gr_on (gr_drew wo 1 _) HGB7.out.gr (.inl rfl)
              refine ⟨j + 1, bs7, ok7, by go_num, by go_num, hlt, ?_, ?_, ⟨HGB7.out.own, gr_on HGB.out.gr hg7 HGB.out.at'.far, HGB.out.at'.trans HGB7.out.at' hszo, HGB7.out.fit⟩, ?_, ?_⟩
              · rw [matchL_take hjk hjk2 _ (by rw [HML.out]), HML.out, ← HA.out, ← HA'.out]
                exact HML7.out
              · rw [partsL_take hjk, ← HA.out]
                have h1 := HBL.out
                have h2 := HBL7.out
                omega
              · exact (hg7.block _ hl1o (fun e => HNB.out.1 e.symm)).trans HR1.out
              · exact (hg7.block _ hl2o (fun e => HNB.out.2 e.symm)).trans HR2.out
            case measure => simp only [intOf]; omega
          | false =>
            go_wp2_with fail
            go_ret2
            refine ⟨_, bs', false, rfl, ?_, ?_, HGB.out⟩
            · rw [HMA3.out]; exact matchL_halt _ _ HML.out
            · have h1 := HBL.out
              have h2 := partsL_take_le g.args j
              rw [parts_args]
              omega
        · obtain rfl : j = c := by omega
          have hd : decide ((j : Int) < (j : Int)) = false := by simp
          go_wp2_with fail
          go_ret2
          refine ⟨_, bs', b, rfl, ?_, ?_, HGB.out⟩
          · have h := HML.out
            rw [show g.args.take j = g.args from by rw [HC.out, List.take_length], show t.args.take j = t.args from by rw [HC'.out, List.take_length]] at h
            rw [HMA3.out, h]
          · have h1 := HBL.out
            have h2 := partsL_take_le g.args j
            rw [parts_args]
            omega
end Go.Proofs.Ytdeomphilggokaa
