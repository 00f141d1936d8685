/-
  Proved: Compares answers true. Condition: both types fit a machine.
-/
import Derived.Test.YtdeomphilggokaaX1
set_option linter.unusedSimpArgs false
set_option linter.unusedVariables false
namespace Go.Proofs.Ytdeomphilggokaa
open Go.RowKit

theorem rMatch_len (g t : Ty) : (rMatchD g t).1.length ≤ 400 := by
  unfold rMatchD
  split
  · rename_i h
    obtain ⟨hg, ht, hm⟩ := h
    have hk := match_keys g t [] hm
    have hn : (keys (matchD [] g t).1).Nodup := by rw [hk]; exact varsD_nodup g _ (by simp [keys])
    have hp := (outD_perm hn).1.length_eq
    have hpg : parts g ≤ 400 := by unfold ProperD at hg; rw [Bool.and_eq_true, decide_eq_true_eq] at hg; exact hg.1
    have h1 := varsD_len g (keys [])
    rw [hk] at hp
    have h2 : (keys (matchD [] g t).1).length = (matchD [] g t).1.length := by simp [keys]
    rw [hk] at h2
    show (outD (risingD (varsD [] g)) (matchD [] g t).1).length ≤ 400
    have h3 : (keys ([] : List (Int × Ty))) = [] := rfl
    rw [h3] at hp h1 h2
    simp at h1
    omega
  · simp
theorem ex_fits : Fits exL := by
  unfold exL exV exI
  simp [Fits, FitsL, I64]
  exact ⟨by decide, by decide⟩
theorem ex_shown : showD (varsD [] exL) exL 0 = ⟨#[39, 97, 32, 45, 62, 32, 105, 110, 116]⟩ := by
  simp [exL, exV, exI, showD, showL, varsD, varsL, addV, nameD, letD, conD, roundD, arrowS]
  rfl
theorem ex_shaped : shapedD exL = true := by simp [exL, exV, exI, shapedD, shapedL, okT, Ty.k, Ty.n, Ty.s, Ty.q, Ty.args]
theorem ex_parts : parts exL ≤ 400 := by simp [exL, exV, exI, parts, partsL]
/-- the cells of both boxes -/
abbrev CmpBox (w : World) (a b : Ty) (aa ab : Option Addr) (m m' ca cb : Nat) (V : World) : Prop := (V.cell? ⟨w.heap.size, 0, none⟩ = some (.int .i64 a.k) ∧ V.cell? ⟨w.heap.size, 1, none⟩ = some (.int .i64 a.n) ∧ V.cell? ⟨w.heap.size, 2, none⟩ = some (.string a.s) ∧ V.cell? ⟨w.heap.size, 3, none⟩ = some (.int .i64 a.q) ∧ V.cell? ⟨w.heap.size, 4, none⟩ = some (.slice aa m ca)) ∧ V.cell? ⟨w.heap.size + 1, 0, none⟩ = some (.int .i64 b.k) ∧ V.cell? ⟨w.heap.size + 1, 1, none⟩ = some (.int .i64 b.n) ∧ V.cell? ⟨w.heap.size + 1, 2, none⟩ = some (.string b.s) ∧ V.cell? ⟨w.heap.size + 1, 3, none⟩ = some (.int .i64 b.q) ∧ V.cell? ⟨w.heap.size + 1, 4, none⟩ = some (.slice ab m' cb)
set_option maxRecDepth 100000 in
set_option maxHeartbeats 8000000 in
theorem compares_any (a b : Ty) (D : Nat → Prop) (aa ab : Option Addr) (ca cb : Nat) (w : World) (hD : ∀ b, D b → b < w.heap.size) (hva : SlD w D a.args aa ca) (hvb : SlD w D b.args ab cb) (hfa : Fits a) (hfb : Fits b) :
    Calls Try.prog 5 #[.agg (rowOf a aa ca), .agg (rowOf b ab cb)] w fun e w' => e = .returned (.bool true) ∧ Below w.heap.size w w' := by
  obtain ⟨m, hm⟩ : ∃ m, m = a.args.length := ⟨_, rfl⟩
  obtain ⟨m', hm'⟩ : ∃ m', m' = b.args.length := ⟨_, rfl⟩
  obtain ⟨W0, hW0⟩ : ∃ W0, W0 = w.alloc (.cells (rowOf a aa ca) 33) := ⟨_, rfl⟩
  obtain ⟨hbW0, hlW0, hrow0⟩ := box_at hW0
  obtain ⟨W, hW⟩ : ∃ W, W = W0.alloc (.cells (rowOf b ab cb) 33) := ⟨_, rfl⟩
  obtain ⟨hbW1, hlW1, hrow2⟩ := box_at hW
  have hs0 : W0.heap.size = w.heap.size + 1 := by rw [hW0]; simp
  have hbW := hbW0.trans (hbW1.mono hbW0.size)
  have hrow := blk_below hrow0 hbW1 hlW0
  rw [hs0] at hrow2
  have hl1 : w.heap.size < W.heap.size := lt_of_block hrow
  have hl2 : w.heap.size + 1 < W.heap.size := lt_of_block hrow2
  rw [hW0] at hW
  have hkeep : ∀ V : World, Below w.heap.size w V → (∀ b, D b → b < V.heap.size) ∧ SlD V D a.args aa ca ∧ SlD V D b.args ab cb := fun V hV =>
    ⟨fun b hb => Nat.lt_of_lt_of_le (hD b hb) hV.size, hva.keep fun b hb off => below_cells hV b (hD b hb) off, hvb.keep fun b hb off => below_cells hV b (hD b hb) off⟩
  have prop : ∀ t : Ty, ProperD t = true → shapedD t = true ∧ parts t ≤ 400 := fun t h => by
    unfold ProperD at h
    rw [Bool.and_eq_true, decide_eq_true_eq] at h
    exact ⟨h.2, h.1⟩
  have R1 : Hid (∀ V : World, Below w.heap.size w V → Calls Try.prog 11 #[.agg (rowOf a aa ca)] V fun e w' => e = .returned (.bool (ProperD a)) ∧ Below V.heap.size V w') := Lib.hid (fun V hV => rproper_any a D aa ca V (hkeep V hV).1 (hkeep V hV).2.1 hfa)
  have R2 : Hid (∀ V : World, Below w.heap.size w V → Calls Try.prog 11 #[.agg (rowOf b ab cb)] V fun e w' => e = .returned (.bool (ProperD b)) ∧ Below V.heap.size V w') := Lib.hid (fun V hV => rproper_any b D ab cb V (hkeep V hV).1 (hkeep V hV).2.2 hfb)
  have P1 : Hid (∀ V : World, Below w.heap.size w V → Calls Try.prog 13 #[.agg (rowOf a aa ca)] V fun e w' => e = .returned (.bool (ProperD a)) ∧ Below V.heap.size V w') := Lib.hid (fun V hV => pproper_any a D aa ca V (hkeep V hV).1 (hkeep V hV).2.1 hfa)
  have P2 : Hid (∀ V : World, Below w.heap.size w V → Calls Try.prog 13 #[.agg (rowOf b ab cb)] V fun e w' => e = .returned (.bool (ProperD b)) ∧ Below V.heap.size V w') := Lib.hid (fun V hV => pproper_any b D ab cb V (hkeep V hV).1 (hkeep V hV).2.2 hfb)
  have M1 : Hid (∀ V : World, Below w.heap.size w V → Calls Try.prog 14 #[.agg (rowOf a aa ca), .agg (rowOf b ab cb)] V fun e w' => MatchPost D (rMatchD a b).1 (rMatchD a b).2 V e w') := Lib.hid (fun V hV => pMatch_any a b D aa ab ca cb V (hkeep V hV).1 (hkeep V hV).2.1 (hkeep V hV).2.2 hfa hfb)
  have M2 : Hid (∀ V : World, Below w.heap.size w V → Calls Try.prog 15 #[.agg (rowOf a aa ca), .agg (rowOf b ab cb)] V fun e w' => MatchPost D (rMatchD a b).1 (rMatchD a b).2 V e w') := Lib.hid (fun V hV => rMatch_any a b D aa ab ca cb V (hkeep V hV).1 (hkeep V hV).2.1 (hkeep V hV).2.2 hfa hfb)
  have A1 : Hid (∀ V : World, Below w.heap.size w V → Calls Try.prog 17 #[.agg (rowOf a aa ca), .agg (rowOf b ab cb)] V fun e w' => e = .returned (.bool (alikeD a b)) ∧ Below V.heap.size V w') := Lib.hid (fun V hV => palike_any (parts a) a (Nat.le_refl _) b D aa ab ca cb V (hkeep V hV).1 (hkeep V hV).2.1 (hkeep V hV).2.2 hfa hfb)
  have A2 : Hid (∀ V : World, Below w.heap.size w V → Calls Try.prog 10 #[.agg (rowOf a aa ca), .agg (rowOf b ab cb)] V fun e w' => e = .returned (.bool (alikeD a b)) ∧ Below V.heap.size V w') := Lib.hid (fun V hV => ralike_any (parts a) a (Nat.le_refl _) b D aa ab ca cb V (hkeep V hV).1 (hkeep V hV).2.1 (hkeep V hV).2.2 hfa hfb)
  have E1 : Hid (ProperD a = true → ∀ V : World, Below w.heap.size w V → Calls Try.prog 18 #[.agg (rowOf a aa ca)] V fun e w' => e = .returned (.int .i64 (eqD a)) ∧ Below V.heap.size V w') := Lib.hid (fun hp V hV => peq_any (parts a) a (Nat.le_refl _) D aa ca V (hkeep V hV).1 (hkeep V hV).2.1 hfa (prop a hp).1)
  have E2 : Hid (ProperD a = true → ∀ V : World, Below w.heap.size w V → Calls Try.prog 19 #[.agg (rowOf a aa ca)] V fun e w' => e = .returned (.int .i64 (eqD a)) ∧ Below V.heap.size V w') := Lib.hid (fun hp V hV => req_any (parts a) a (Nat.le_refl _) D aa ca V (hkeep V hV).1 (hkeep V hV).2.1 hfa (prop a hp).1)
  have S1 : Hid (ProperD a = true → ∀ V : World, Below w.heap.size w V → Calls Try.prog 12 #[.agg (rowOf a aa ca)] V fun e w' => e = .returned (.string (showD (varsD [] a) a 0)) ∧ Below V.heap.size V w') := Lib.hid (fun hp V hV => pshow_any a D aa ca V (hkeep V hV).1 (hkeep V hV).2.1 hfa (prop a hp).1 (prop a hp).2)
  have S2 : Hid (ProperD a = true → ∀ V : World, Below w.heap.size w V → Calls Try.prog 20 #[.agg (rowOf a aa ca)] V fun e w' => e = .returned (.string (showD (varsD [] a) a 0)) ∧ Below V.heap.size V w') := Lib.hid (fun hp V hV => rShow_any a D aa ca V (hkeep V hV).1 (hkeep V hV).2.1 hfa (prop a hp).1 (prop a hp).2)
  have V1 : Hid (ProperD a = true → ∀ V : World, Below w.heap.size w V → Calls Try.prog 21 #[.agg (rowOf a aa ca)] V fun e w' => ∃ v, e = .returned v ∧ OwnI 0 w' v (varsD [] a) ∧ Below V.heap.size V w') := Lib.hid (fun hp V hV => (variables_any a D aa ca V (hkeep V hV).1 (hkeep V hV).2.1 hfa (prop a hp).1 (by have := (prop a hp).2; omega)).mono (by rintro e w' ⟨v, he, ho, hb⟩; exact ⟨v, he, own_base ho (Nat.zero_le _), hb⟩))
  have V2 : Hid (ProperD a = true → ∀ V : World, Below w.heap.size w V → Calls Try.prog 22 #[.slice none 0 0, .agg (rowOf a aa ca)] V fun e w' => ∃ v, e = .returned v ∧ OwnI 0 w' v (varsD [] a) ∧ Below V.heap.size V w') := Lib.hid (fun hp V hV => (vars_any (parts a) a (Nat.le_refl _) D aa ca (.slice none 0 0) [] V (fun b hb => ⟨(hkeep V hV).1 b hb, by simp [Value.ownBlock]⟩) (hkeep V hV).2.1 (ownI_nil _) hfa (by have := (prop a hp).2; simp; omega)).mono (by rintro e w' ⟨v', he, hgi⟩; exact ⟨v', he, hgi.own, ⟨hgi.gr.os, hgi.gr.tape, hgi.gr.output, hgi.gr.size, fun k hk => hgi.gr.block k hk (by simp [Value.ownBlock])⟩⟩))
  have VL : Hid (ProperD a = true → (varsD [] a).length ≤ 1000) := Lib.hid (fun hp => varsD_bound a (prop a hp).2)
  have LEN := Lib.hid (rMatch_len a b)
  have HDD := Lib.hid hD
  obtain ⟨p, hp⟩ : ∃ p, p = ProperD a := ⟨_, rfl⟩
  obtain ⟨q, hq⟩ : ∃ q, q = ProperD b := ⟨_, rfl⟩
  rw [← hp] at R1 P1 E1 E2 S1 S2 V1 V2 VL
  rw [← hq] at R2 P2
  obtain ⟨x, hx⟩ : ∃ x, x = alikeD a b := ⟨_, rfl⟩
  rw [← hx] at A1 A2
  obtain ⟨y, hy⟩ : ∃ y, y = eqD a := ⟨_, rfl⟩
  rw [← hy] at E1 E2
  obtain ⟨xs, hxs⟩ : ∃ xs, xs = varsD [] a := ⟨_, rfl⟩
  rw [← hxs] at V1 V2 VL S1 S2
  obtain ⟨z, hz⟩ : ∃ z, z = showD xs a 0 := ⟨_, rfl⟩
  rw [← hz] at S1 S2
  obtain ⟨ml, hml⟩ : ∃ ml, ml = (rMatchD a b).1 := ⟨_, rfl⟩
  obtain ⟨mo, hmo⟩ : ∃ mo, mo = (rMatchD a b).2 := ⟨_, rfl⟩
  rw [← hml] at LEN M1 M2
  rw [← hmo] at M1 M2
  unfold rowOf at hW hrow hrow2 R1 R2 P1 P2 M1 M2 A1 A2 E1 E2 S1 S2 V1 V2 ⊢
  rw [← hm] at hW hrow R1 P1 M1 M2 A1 A2 E1 E2 S1 S2 V1 V2 ⊢
  rw [← hm'] at hW hrow2 R2 P2 M1 M2 A1 A2 ⊢
  have BOX : Hid (∀ V : World, Below W.heap.size W V → CmpBox w a b aa ab m m' ca cb V) := Lib.hid (fun V hV => by
    have r1 := blk_below hrow hV hl1
    have r2 := blk_below hrow2 hV hl2
    exact ⟨⟨blk_cell r1 0, blk_cell r1 1, blk_cell r1 2, blk_cell r1 3, blk_cell r1 4⟩, ⟨blk_cell r2 0, blk_cell r2 1, blk_cell r2 2, blk_cell r2 3, blk_cell r2 4⟩⟩)
  have HBW := Lib.hid hbW
  have TOP : Hid (∀ V : World, Below W.heap.size W V → Below w.heap.size w V) := Lib.hid (fun V hV => bthen hbW hV)
  obtain ⟨⟨c0, c1, c2, c3, c4⟩, ⟨d0, d1, d2, d3, d4⟩⟩ := BOX.out W (Below.refl _ _)
  have SHEX : Hid (∀ (V : World) (D' : Nat → Prop) (ao : Option Addr) (cap : Nat), (∀ b, D' b → b < V.heap.size) → SlD V D' exL.args ao cap → Calls Try.prog 12 #[.agg (rowOf exL ao cap)] V fun e w' => e = .returned (.string ⟨#[39, 97, 32, 45, 62, 32, 105, 110, 116]⟩) ∧ Below V.heap.size V w') := Lib.hid (fun V D' ao cap h1 h2 => by
    have h := pshow_any exL D' ao cap V h1 h2 ex_fits ex_shaped ex_parts
    rw [ex_shown] at h
    exact h)
  have EX : Hid (∀ V : World, Below W.heap.size W V → Calls Try.prog 7 #[] V (ExPost V)) := Lib.hid (fun V hV => example_any V)
  clear hW0 hrow0 hbW0 hbW1 hs0 hlW0 hlW1 hrow hrow2 hkeep hva hvb hfa hfb hbW hD hm hm' hp hq hx hy hxs hz hml hmo prop
  have HWW := Lib.hid hW
  clear hW
  go_enter Try.func5, Try.ntmps5
  go_upto_region 1 with fail
  rw [← HWW.out]
  clear HWW
  generalize Value.agg #[.int .i64 a.k, .int .i64 a.n, .string a.s, .int .i64 a.q, .slice aa m ca] = v0
  go_upto_region 2 with (first | (go_at_call 11; refine (R1.out W HBW.out).mono ?_; rintro e w1 ⟨rfl, hb1⟩; have HB1 := Lib.hid hb1; obtain ⟨_, ⟨f0, f1, f2, f3, f4⟩⟩ := BOX.out w1 hb1; clear hb1))
  clear c0 c1 c2 c3 c4 d0 d1 d2 d3 d4
  go_upto_region 3 with (first | (go_at_call 11; refine (R2.out w1 (TOP.out w1 HB1.out)).mono ?_; rintro e w2 ⟨rfl, hb2⟩; have HB2 := Lib.hid (bthen HB1.out hb2); clear hb2))
  clear f0 f1 f2 f3 f4
  go_upto_region 4 with (first | (go_at_call 7; refine (EX.out w2 HB2.out).mono ?_; rintro e w3 hex; obtain ⟨eb, ED, rfl, hpv, hED, hb3⟩ := hex.out; have HPV := Lib.hid hpv; have HED := Lib.hid hED; have HB3 := Lib.hid (bthen HB2.out hb3); clear hex hpv hED hb3))
  obtain ⟨gb, gp, a1, k1, a2, k2, hDb, hix, ⟨x0, x1, x2, x3, x4⟩, _, hs1, _⟩ := pair_cells 1 HPV.out (k := 0) rfl
  have hixa : ∀ w' : World, (Instr.indexAt 22 (.slice (some ⟨eb, 0, none⟩) 1 1) (.int .i64 0)).run Try.prog w' = .ok (.pointer (some ⟨gb, gp, none⟩)) w' := hix
  have HSH := Lib.hid (SHEX.out w3 ED a1 k1 (fun b h => (HED.out b h).2) hs1)
  unfold rowOf at HSH
  clear hix hDb hs1
  go_upto_region 6 with (first
    | (go_at_call 12; refine HSH.out.mono ?_; rintro e w4 ⟨rfl, hb4⟩; have HB4 := Lib.hid (bthen HB3.out hb4); obtain ⟨⟨c0, c1, c2, c3, c4⟩, _⟩ := BOX.out w4 HB4.out; clear hb4)
    | (go_at_call 13; refine (P2.out w5 (TOP.out w5 HB5.out)).mono ?_; rintro e w6 ⟨rfl, hb6⟩; have HB6 := Lib.hid (bthen HB5.out hb6); clear hb6)
    | (go_at_call 13; refine (P1.out w4 (TOP.out w4 HB4.out)).mono ?_; rintro e w5 ⟨rfl, hb5⟩; have HB5 := Lib.hid (bthen HB4.out hb5); obtain ⟨_, ⟨d0, d1, d2, d3, d4⟩⟩ := BOX.out w5 HB5.out; clear hb5))
  clear x0 x1 x2 x3 x4 c0 c1 c2 c3 c4 d0 d1 d2 d3 d4 hixa
  obtain ⟨⟨c0, c1, c2, c3, c4⟩, ⟨d0, d1, d2, d3, d4⟩⟩ := BOX.out w6 HB6.out
  go_upto_region 7 with (first | (go_at_call 14; refine (M1.out w6 (TOP.out w6 HB6.out)).mono ?_; rintro e w7 hm7; obtain ⟨v7, b7, rfl, hp7, ho7, hf7, hb7⟩ := hm7.out; have HM7 := Lib.hid (And.intro hp7 (And.intro ho7 hf7)); have HB67 := Lib.hid hb7; have HB7 := Lib.hid (bthen HB6.out hb7); clear hm7 hp7 ho7 hf7 hb7))
  clear c0 c1 c2 c3 c4 d0 d1 d2 d3 d4
  obtain ⟨⟨c0, c1, c2, c3, c4⟩, ⟨d0, d1, d2, d3, d4⟩⟩ := BOX.out w7 HB7.out
  go_upto_region 8 with (first | (go_at_call 15; refine (M2.out w7 (TOP.out w7 HB7.out)).mono ?_; rintro e w8 hm8; obtain ⟨v8, b8, rfl, hp8, ho8, hf8, hb8⟩ := hm8.out; have HM8 := Lib.hid (And.intro hp8 (And.intro ho8 hf8)); have HB78 := Lib.hid hb8; have HB8 := Lib.hid (bthen HB7.out hb8); clear hm8 hp8 ho8 hf8 hb8))
  clear c0 c1 c2 c3 c4 d0 d1 d2 d3 d4
  have SB : Hid (Calls Try.prog 16 #[v7, v8] w8 fun e w' => e = .returned (.bool true) ∧ Below w8.heap.size w8 w') := Lib.hid (sameBinds_any D v7 v8 b7 b8 w8 (HM7.out.2.1.keep HB78.out (fun b hb => Nat.lt_of_lt_of_le (HDD.out b hb) (TOP.out w7 HB7.out).size)) HM8.out.2.1 (fun b hb => Nat.lt_of_lt_of_le (HDD.out b hb) (TOP.out w8 HB8.out).size) (by rw [HM7.out.1, HM8.out.1]) (by have h1 := congrArg List.length HM7.out.1; rw [List.length_map] at h1; have h2 := LEN.out; omega) HM7.out.2.2 HM8.out.2.2)
  go_upto_region 9 with (first | (go_at_call 16; refine SB.out.mono ?_; rintro e w9 ⟨rfl, hb9⟩; have HB9 := Lib.hid (bthen HB8.out hb9); clear hb9))
  obtain ⟨⟨c0, c1, c2, c3, c4⟩, ⟨d0, d1, d2, d3, d4⟩⟩ := BOX.out w9 HB9.out
  cases p with
  | false =>
    go_wp2_with fail
    go_ret
    exact ⟨rfl, TOP.out w9 HB9.out⟩
  | true =>
    cases q with
    | false =>
      go_wp2_with fail
      go_ret
      exact ⟨rfl, TOP.out w9 HB9.out⟩
    | true =>
      have E1' := Lib.hid (E1.out rfl)
      have E2' := Lib.hid (E2.out rfl)
      have S1' := Lib.hid (S1.out rfl)
      have S2' := Lib.hid (S2.out rfl)
      have V1' := Lib.hid (V1.out rfl)
      have V2' := Lib.hid (V2.out rfl)
      have VL' := Lib.hid (VL.out rfl)
      clear E1 E2 S1 S2 V1 V2 VL
      go_upto_region 13 with fail
      have START := Lib.hid (BOX.out w9.drew HB9.out.drew)
      clear c0 c1 c2 c3 c4 d0 d1 d2 d3 d4
      go_region_held3 (fun w' => (w'.cell? ⟨w.heap.size, 0, none⟩ = some (.int .i64 a.k) ∧ w'.cell? ⟨w.heap.size, 1, none⟩ = some (.int .i64 a.n) ∧ w'.cell? ⟨w.heap.size, 2, none⟩ = some (.string a.s) ∧ w'.cell? ⟨w.heap.size, 3, none⟩ = some (.int .i64 a.q) ∧ w'.cell? ⟨w.heap.size, 4, none⟩ = some (.slice aa m ca)) ∧ w'.cell? ⟨w.heap.size + 1, 0, none⟩ = some (.int .i64 b.k) ∧ w'.cell? ⟨w.heap.size + 1, 1, none⟩ = some (.int .i64 b.n) ∧ w'.cell? ⟨w.heap.size + 1, 2, none⟩ = some (.string b.s) ∧ w'.cell? ⟨w.heap.size + 1, 3, none⟩ = some (.int .i64 b.q) ∧ w'.cell? ⟨w.heap.size + 1, 4, none⟩ = some (.slice ab m' cb))
        (first | exact s15 | exact s14 | exact s13 | exact s12 | exact s11 | exact s10 | exact START.out)
        (first
          | (go_at_call 17; refine (A1.out w9.drew (TOP.out _ HB9.out.drew)).mono ?_; rintro e w10 ⟨rfl, hb10⟩; have HB10 := Lib.hid (bthen HB9.out.drew hb10); have s10 := BOX.out w10 HB10.out; clear hb10)
          | (go_at_call 10; refine (A2.out w10 (TOP.out _ HB10.out)).mono ?_; rintro e w11 ⟨rfl, hb11⟩; have HB11 := Lib.hid (bthen HB10.out hb11); have s11 := BOX.out w11 HB11.out; clear hb11)
          | (go_at_call 18; refine (E1'.out w11 (TOP.out _ HB11.out)).mono ?_; rintro e w12 ⟨rfl, hb12⟩; have HB12 := Lib.hid (bthen HB11.out hb12); have s12 := BOX.out w12 HB12.out; clear hb12)
          | (go_at_call 19; refine (E2'.out w12 (TOP.out _ HB12.out)).mono ?_; rintro e w13 ⟨rfl, hb13⟩; have HB13 := Lib.hid (bthen HB12.out hb13); have s13 := BOX.out w13 HB13.out; clear hb13)
          | (go_at_call 12; refine (S1'.out w13 (TOP.out _ HB13.out)).mono ?_; rintro e w14 ⟨rfl, hb14⟩; have HB14 := Lib.hid (bthen HB13.out hb14); have s14 := BOX.out w14 HB14.out; clear hb14)
          | (go_at_call 20; refine (S2'.out w14 (TOP.out _ HB14.out)).mono ?_; rintro e w15 ⟨rfl, hb15⟩; have HB15 := Lib.hid (bthen HB14.out hb15); have s15 := BOX.out w15 HB15.out; clear hb15))
      obtain ⟨⟨c0, c1, c2, c3, c4⟩, _⟩ := s15
      clear s10 s11 s12 s13 s14
      go_upto_region 16 with (first | (go_at_call 21; refine (V1'.out w15 (TOP.out _ HB15.out)).mono ?_; rintro e w16 ⟨v16, rfl, ho16, hb16⟩; have HO16 := Lib.hid ho16; have HB16b := Lib.hid hb16; have HB16 := Lib.hid (bthen HB15.out hb16); clear ho16 hb16))
      clear c0 c1 c2 c3 c4
      obtain ⟨⟨c0, c1, c2, c3, c4⟩, _⟩ := BOX.out w16 HB16.out
      go_upto_region 17 with (first | (go_at_call 22; refine (V2'.out w16 (TOP.out _ HB16.out)).mono ?_; rintro e w17 ⟨v17, rfl, ho17, hb17⟩; have HO17 := Lib.hid ho17; have HO16b := Lib.hid (HO16.out.carry hb17); have HB17 := Lib.hid (bthen HB16.out hb17); clear ho17 hb17))
      clear c0 c1 c2 c3 c4
      obtain ⟨n, hn⟩ : ∃ n, n = xs.length := ⟨_, rfl⟩
      obtain ⟨a16, k16, rfl, g16⟩ := HO16b.out.getm hn
      obtain ⟨a17, k17, rfl, g17⟩ := HO17.out.getm hn
      have HN := Lib.hid hn
      have G16 := Lib.hid g16
      have G17 := Lib.hid g17
      have hn9 : n ≤ 1000 := by rw [hn]; exact VL'.out
      clear g16 g17 hn HO16 HO16b HO17 HB16b
      go_wp2_with fail
      go_loopw [15] (fun i wr => ∃ j : Nat, i = .int .i64 (j : Int) ∧ j ≤ n ∧ Below w17.heap.size w17 wr) (fun i _ => n - (intOf i).toNat)
      case atStart => exact ⟨0, rfl, Nat.zero_le _, Below.refl _ _⟩
      case round =>
        obtain ⟨j, rfl, hj, hbo⟩ := hrel
        obtain ⟨wo, rfl⟩ : ∃ wo : World, wo = wr := ⟨_, rfl⟩
        have HBO := Lib.hid hbo
        by_cases hlt : j < n
        · have hd : decide ((j : Int) < (n : Int)) = true := by simp; omega
          have hjk : j < xs.length := by rw [← HN.out]; exact hlt
          obtain ⟨g, hao, hgl, hcell⟩ := G16.out j hlt hjk
          obtain ⟨g', hao', hgl', hcell'⟩ := G17.out j hlt hjk
          have hix := index_at Try.underlying47 size3 hao n k16 j hlt
          have hix' := index_at Try.underlying47 size3 hao' n k17 j hlt
          rw [Nat.zero_add, Nat.mul_one] at hix hix'
          obtain ⟨u, hu⟩ : ∃ u, u = xs[j] := ⟨_, rfl⟩
          rw [← hu] at hcell hcell'
          have r1 : wo.cell? ⟨g, j, none⟩ = some (.int .i64 u) := (hbo.cell (p := ⟨g, j, none⟩) hgl).trans hcell
          have r2 : wo.cell? ⟨g', j, none⟩ = some (.int .i64 u) := (hbo.cell (p := ⟨g', j, none⟩) hgl').trans hcell'
          clear hao hao' hcell hcell' hu hbo hgl hgl' hjk
          go_upto_region 22 with fail
          go_quiet (fail)
          go_wp2_with fail
          go_roundw
          case rel => exact ⟨j + 1, by go_num, hlt, HBO.out.trans ((below_drewN (Below.refl _ _) _).mono HBO.out.size)⟩
          case measure => simp only [intOf]; omega
        · obtain rfl : j = n := by omega
          have hd : decide ((j : Int) < (j : Int)) = false := by simp
          go_wp2_with fail
          go_ret
          exact ⟨rfl, TOP.out wo (bthen HB17.out HBO.out)⟩
end Go.Proofs.Ytdeomphilggokaa
