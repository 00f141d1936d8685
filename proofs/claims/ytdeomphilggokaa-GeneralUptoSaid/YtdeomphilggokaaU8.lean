/-
  Proved: the contract of the reference's Solve. Condition: pairs that fit, of at most 200000 parts.
-/
import Derived.Test.YtdeomphilggokaaT6
set_option linter.unusedSimpArgs false
set_option linter.unusedVariables false
namespace Go.Proofs.Ytdeomphilggokaa
open Go.RowKit

/-- what is known of the pair that a walk has in hand -/
structure PairK (B : Nat) (w : World) (D : Nat → Prop) (n : Nat) (ao : Option Addr) (cap j : Nat) (x y : Ty) (gb gp : Nat) (a1 : Option Addr) (k1 : Nat) (a2 : Option Addr) (k2 : Nat) : Prop where
  ix : ∀ w' : World, (Instr.indexAt 22 (.slice ao n cap) (.int .i64 j)).run Try.prog w' = .ok (.pointer (some ⟨gb, gp, none⟩)) w'
  cells : ∀ V : World, Below B w V → (V.cell? ⟨gb, gp, none⟩ = some (.int .i64 x.k) ∧ V.cell? ⟨gb, gp + 1, none⟩ = some (.int .i64 x.n) ∧ V.cell? ⟨gb, gp + 2, none⟩ = some (.string x.s) ∧ V.cell? ⟨gb, gp + 3, none⟩ = some (.int .i64 x.q) ∧ V.cell? ⟨gb, gp + 4, none⟩ = some (.slice a1 x.args.length k1)) ∧ (V.cell? ⟨gb, gp + 5, none⟩ = some (.int .i64 y.k) ∧ V.cell? ⟨gb, gp + 6, none⟩ = some (.int .i64 y.n) ∧ V.cell? ⟨gb, gp + 7, none⟩ = some (.string y.s) ∧ V.cell? ⟨gb, gp + 8, none⟩ = some (.int .i64 y.q) ∧ V.cell? ⟨gb, gp + 9, none⟩ = some (.slice a2 y.args.length k2))
  s1 : ∀ V : World, Below B w V → SlD V D x.args a1 k1
  s2 : ∀ V : World, Below B w V → SlD V D y.args a2 k2
theorem pairK {w : World} {D : Nat → Prop} {l : List (Ty × Ty)} {ao : Option Addr} {B : Nat} (cap : Nat) (h : PairsV w D l ao) (hD : ∀ b, D b → b < B) {j : Nat} {p : Ty × Ty} (hp : l[j]? = some p) : ∃ gb gp a1 k1 a2 k2, PairK B w D l.length ao cap j p.1 p.2 gb gp a1 k1 a2 k2 := by
  obtain ⟨x, y⟩ := p
  obtain ⟨gb, gp, a1, k1, a2, k2, hDb, hix, ⟨x0, x1, x2, x3, x4⟩, ⟨y0, y1, y2, y3, y4⟩, h1, h2⟩ := pair_cells cap h hp
  refine ⟨gb, gp, a1, k1, a2, k2, hix, fun V hV => ?_, fun V hV => h1.keep (cells_D hD hV), fun V hV => h2.keep (cells_D hD hV)⟩
  have q : ∀ (o : Nat) (v : Value), w.cell? ⟨gb, o, none⟩ = some v → V.cell? ⟨gb, o, none⟩ = some v := fun o v e => (cells_D hD hV gb hDb o).trans e
  exact ⟨⟨q _ _ x0, q _ _ x1, q _ _ x2, q _ _ x3, q _ _ x4⟩, ⟨q _ _ y0, q _ _ y1, q _ _ y2, q _ _ y3, q _ _ y4⟩⟩
theorem takeW_stop {α : Type} {p : α → Bool} : ∀ {l : List α} (h : (l.takeWhile p).length < l.length), p (l[(l.takeWhile p).length]'h) = false
  | [], h => by simp at h
  | y :: ys, h => by
    cases hy : p y with
    | false => simp [List.takeWhile_cons, hy]
    | true =>
      have h2 : (ys.takeWhile p).length < ys.length := by
        rw [List.takeWhile_cons, hy] at h
        simpa using h
      have := takeW_stop h2
      simp [List.takeWhile_cons, hy, this]
theorem OwnB.shape {B : Nat} {w : World} {D : Nat → Prop} {v : Value} {bs : List Bd} (h : OwnB B w D v bs) : ∃ ao cap, v = .slice ao bs.length cap := by
  obtain ⟨ao, cap, e, _⟩ := h.get
  exact ⟨ao, cap, e⟩
theorem GrewI.all {B : Nat} {w w' : World} {v v' : Value} {xs ys : List Int} (h : GrewI w v ys w' v') {sb mb me : Nat} {V : List Int} {D : Nat → Prop} {st : St} (hr : ∀ g, v.ownBlock = some g → B ≤ g) (hB : B ≤ w.heap.size) (hR : RU B w sb mb me V D st) (ho : OwnI 0 w v xs) (hD : ∀ b, D b → b < B) : RU B w' sb mb me V D st ∧ Below B w w' ∧ ∀ g, v'.ownBlock = some g → B ≤ g := by
  refine ⟨hR.grow h.gr (ownI_row ho hr) hD hB, grew_none h.gr hB hr, fun g hg => ?_⟩
  rcases h.at' with e | ⟨g', e, hg'⟩
  · rw [e] at hg; exact hr g hg
  · rw [e] at hg
    have := Option.some.inj hg
    omega
theorem qo_in {V : List Int} {t : Ty} (h : ∀ m ∈ occD t, m ∈ V) : ∀ m ∈ qoD t, m ∈ V := fun m hm => h m (qo_occ t m hm)
theorem proper_both {t : Ty} (h : ProperD t = true) : parts t ≤ 400 ∧ shapedD t = true := by
  unfold ProperD at h
  rw [Bool.and_eq_true, decide_eq_true_eq] at h
  exact h
set_option maxRecDepth 100000 in
set_option maxHeartbeats 16000000 in
theorem rsolve_any (l : List (Ty × Ty)) (D : Nat → Prop) (ao : Option Addr) (cap : Nat) (w : World) (hD : ∀ b, D b → b < w.heap.size) (hv : PairsV w D l ao) (hf : ∀ p ∈ l, Fits p.1 ∧ Fits p.2) (hN : ptP l ≤ 200000) :
    Calls Try.prog 23 #[.slice ao l.length cap] w fun e w' => ∃ v, e = .returned (.tuple #[v, .int .i64 (solveT l).2.1, .int .i64 ((solveT l).2.2 : Int)]) ∧ SolveP w (solveT l) v w' := by
  obtain ⟨ans, hans⟩ : ∃ ans, ans = solveT l := ⟨_, rfl⟩
  rw [← hans]
  obtain ⟨n, hn⟩ : ∃ n, n = l.length := ⟨_, rfl⟩
  obtain ⟨B, hB⟩ : ∃ B, B = w.heap.size := ⟨_, rfl⟩
  rw [← hn]
  rw [← hB] at hD
  have hn9 : n ≤ 200000 := by rw [hn]; exact Nat.le_trans (ptP_len l) hN
  obtain ⟨lp, hlp⟩ : ∃ lp, lp = l.takeWhile okP := ⟨_, rfl⟩
  obtain ⟨V, hV⟩ : ∃ V, V = vsP [] lp := ⟨_, rfl⟩
  have hpre : ∃ k, lp = l.take k := ⟨lp.length, by rw [hlp]; exact List.prefix_iff_eq_take.1 (List.takeWhile_prefix _)⟩
  have hptlp : ptP lp ≤ 200000 := by
    obtain ⟨k, hk⟩ := hpre
    rw [hk]; exact Nat.le_trans (ptP_take_le l k) hN
  have hV9 : V.length ≤ 200000 := by
    rw [hV]
    have := vsP_len lp []
    simp at this
    omega
  have hVi : ∀ k ∈ V, I64 k := by
    rw [hV]
    refine vsP_i64 fun p hp => hf p ?_
    obtain ⟨k, hk⟩ := hpre
    rw [hk] at hp
    exact List.mem_of_mem_take hp
  have HNEW := Lib.hid (newsub_any V D (by omega) hVi w)
  have HPK : Hid (∀ (j : Nat) (p : Ty × Ty), l[j]? = some p → ∃ gb gp a1 k1 a2 k2, PairK B w D n ao cap j p.1 p.2 gb gp a1 k1 a2 k2) := Lib.hid (fun j p hp => by rw [hn]; exact pairK cap hv hD hp)
  have HF := Lib.hid hf
  have HD := Lib.hid hD
  have HANS := Lib.hid hans
  have HN := Lib.hid hn
  have HBB := Lib.hid hB
  have HLP := Lib.hid hlp
  have HV := Lib.hid hV
  have HPT : Hid (∀ j, (vsP [] (l.take j)).length ≤ 200000) := Lib.hid (fun j => by
    have h1 := vsP_len (l.take j) []
    have h2 := ptP_take_le l j
    simp at h1
    omega)
  have HQV : Hid (∀ (j : Nat) (p : Ty × Ty), l[j]? = some p → (∀ i (h : i ≤ j) (h' : i < l.length), okP l[i] = true) → (∀ m ∈ occD p.1, m ∈ V) ∧ ∀ m ∈ occD p.2, m ∈ V) := Lib.hid (fun j p hp hb => by
    have hmem : p ∈ lp := by
      obtain ⟨hj, rfl⟩ := List.getElem?_eq_some_iff.1 hp
      have hlen : j < lp.length := by
        rw [hlp]
        rcases Nat.lt_or_ge j (l.takeWhile okP).length with h | h
        · exact h
        · exfalso
          have h3 : ¬ (l.takeWhile okP).length < l.length ∨ (l.takeWhile okP).length < l.length := by omega
          rcases h3 with h3 | h3
          · omega
          · have h4 : okP l[(l.takeWhile okP).length] = false := takeW_stop h3
            rw [hb _ h h3] at h4
            cases h4
      have e : l[j] = lp[j] := by
        have hp2 : lp <+: l := by rw [hlp]; exact List.takeWhile_prefix _
        exact (hp2.getElem hlen).symm
      rw [e]
      exact List.getElem_mem _
    rw [hV]
    exact ⟨fun m hm => vsP_mem (ocP_mem hmem (.inl hm)), fun m hm => vsP_mem (ocP_mem hmem (.inr hm))⟩)
  clear hans hn hB hlp hV hpre hptlp hVi hv hf hD hN
  go_enter Try.func23, Try.ntmps23
  go_upto_region 2 with (first | (go_at_call 47; refine HNEW.out.mono ?_; rintro e w0 h0; obtain ⟨sb, mb, me, rfl, hru0, hb0⟩ := h0.out; have HRU0 := Lib.hid hru0; have HB0 := Lib.hid hb0; clear h0 hru0 hb0))
  rw [← HBB.out] at HRU0 HB0
  go_wp2_with fail
  go_loopw [6, 7, 8, 9] (fun v i _ _ wr => ∃ j : Nat, i = .int .i64 (j : Int) ∧ j ≤ n ∧ (∀ i (h : i < j) (h' : i < l.length), okP l[i] = true) ∧ OwnI 0 wr v (vsP [] (l.take j)) ∧ (∀ g, v.ownBlock = some g → B ≤ g) ∧ RU B wr sb mb me V D ⟨fun _ => none, markE (fun _ => false) (qoP (l.take j))⟩ ∧ Below B w wr) (fun _ i _ _ _ => n - (intOf i).toNat)
  case atStart => exact ⟨0, rfl, Nat.zero_le _, (fun i h => by omega), World.ownsRow_nil _ _ _ _, (fun g h => by cases h), by rw [List.take_zero, qoP, markE_nil]; exact HRU0.out, HB0.out⟩
  case round =>
    obtain ⟨j, rfl, hj, hok, hown, hrow, hru, hbw⟩ := hrel
    obtain ⟨wo, rfl⟩ : ∃ wo : World, wo = wr := ⟨_, rfl⟩
    have HOK := Lib.hid hok
    have HOWN := Lib.hid hown
    have HROW := Lib.hid hrow
    have HRU := Lib.hid hru
    have HBW := Lib.hid hbw
    have hlo : B ≤ wo.heap.size := by have := hbw.size; rw [← HBB.out] at this; exact this
    clear hok hown hrow hru hbw
    by_cases hlt : j < n
    · have hd : decide ((j : Int) < (n : Int)) = true := by simp; omega
      have hjl : j < l.length := by rw [← HN.out]; exact hlt
      obtain ⟨p, hp⟩ : ∃ p, l[j]? = some p := ⟨_, List.getElem?_eq_getElem hjl⟩
      obtain ⟨x, y⟩ := p
      obtain ⟨gb, gp, a1, k1, a2, k2, hpk⟩ := HPK.out j (x, y) hp
      have HK := Lib.hid hpk
      have HP := Lib.hid hp
      have hmem : (x, y) ∈ l := List.mem_of_getElem? hp
      have HFX := Lib.hid (HF.out _ hmem)
      have hix : ∀ w' : World, (Instr.indexAt 22 (.slice ao n cap) (.int .i64 j)).run Try.prog w' = .ok (.pointer (some ⟨gb, gp, none⟩)) w' := hpk.ix
      have CP : Hid (∀ X : World, Below B w X → B ≤ X.heap.size → Calls Try.prog 11 #[.agg #[.int .i64 x.k, .int .i64 x.n, .string x.s, .int .i64 x.q, .slice a1 x.args.length k1]] X fun e w' => e = .returned (.bool (ProperD x)) ∧ Below X.heap.size X w') := Lib.hid (fun X hX hs => rproper_any x D a1 k1 X (fun b hb => Nat.lt_of_lt_of_le (HD.out b hb) hs) (HK.out.s1 X hX) HFX.out.1)
      have CQ : Hid (∀ X : World, Below B w X → B ≤ X.heap.size → Calls Try.prog 11 #[.agg #[.int .i64 y.k, .int .i64 y.n, .string y.s, .int .i64 y.q, .slice a2 y.args.length k2]] X fun e w' => e = .returned (.bool (ProperD y)) ∧ Below X.heap.size X w') := Lib.hid (fun X hX hs => rproper_any y D a2 k2 X (fun b hb => Nat.lt_of_lt_of_le (HD.out b hb) hs) (HK.out.s2 X hX) HFX.out.2)
      have VX : Hid (∀ (X : World) (v : Value) (xs : List Int), Below B w X → B ≤ X.heap.size → OwnI 0 X v xs → (∀ g, v.ownBlock = some g → B ≤ g) → xs.length ≤ 200000 → parts x ≤ 400 → Calls Try.prog 22 #[v, .agg #[.int .i64 x.k, .int .i64 x.n, .string x.s, .int .i64 x.q, .slice a1 x.args.length k1]] X fun e w' => ∃ v', e = .returned v' ∧ GrewI X v (varsD xs x) w' v') := Lib.hid (fun X v xs hX hs ho hr h1 h2 => vars_any (parts x) x (Nat.le_refl _) D a1 k1 v xs X (fun b hb => ⟨Nat.lt_of_lt_of_le (HD.out b hb) hs, fun e => by have := hr b e; have := HD.out b hb; omega⟩) (HK.out.s1 X hX) ho HFX.out.1 (by omega))
      have VY : Hid (∀ (X : World) (v : Value) (xs : List Int), Below B w X → B ≤ X.heap.size → OwnI 0 X v xs → (∀ g, v.ownBlock = some g → B ≤ g) → xs.length ≤ 201000 → parts y ≤ 400 → Calls Try.prog 22 #[v, .agg #[.int .i64 y.k, .int .i64 y.n, .string y.s, .int .i64 y.q, .slice a2 y.args.length k2]] X fun e w' => ∃ v', e = .returned v' ∧ GrewI X v (varsD xs y) w' v') := Lib.hid (fun X v xs hX hs ho hr h1 h2 => vars_any (parts y) y (Nat.le_refl _) D a2 k2 v xs X (fun b hb => ⟨Nat.lt_of_lt_of_le (HD.out b hb) hs, fun e => by have := hr b e; have := HD.out b hb; omega⟩) (HK.out.s2 X hX) ho HFX.out.2 (by omega))
      clear hpk hp hmem
      obtain ⟨⟨x0, x1, x2, x3, x4⟩, ⟨y0, y1, y2, y3, y4⟩⟩ := HK.out.cells wo HBW.out
      go_upto_region 7 with (first | (go_at_call 11; refine (CP.out wo HBW.out hlo).mono ?_; rintro e w1 ⟨rfl, hb1⟩; have HB1 := Lib.hid hb1; clear hb1))
      clear x0 x1 x2 x3 x4 y0 y1 y2 y3 y4
      have HBW1 : Hid (Below B w w1) := Lib.hid (HBW.out.trans (HB1.out.mono hlo))
      have hlo1 : B ≤ w1.heap.size := Nat.le_trans hlo HB1.out.size
      obtain ⟨⟨x0, x1, x2, x3, x4⟩, ⟨y0, y1, y2, y3, y4⟩⟩ := HK.out.cells w1 HBW1.out
      go_upto_region 8 with (first | (go_at_call 11; refine (CQ.out w1 HBW1.out hlo1).mono ?_; rintro e w2 ⟨rfl, hb2⟩; have HB2 := Lib.hid (HB1.out.trans (hb2.mono HB1.out.size)); clear hb2))
      clear x0 x1 x2 x3 x4 y0 y1 y2 y3 y4 CP CQ
      have HBW2 : Hid (Below B w w2) := Lib.hid (HBW.out.trans (HB2.out.mono hlo))
      have hlo2 : B ≤ w2.heap.size := Nat.le_trans hlo HB2.out.size
      obtain ⟨px, hpx⟩ : ∃ px, px = ProperD x := ⟨_, rfl⟩
      obtain ⟨py, hpy⟩ : ∃ py, py = ProperD y := ⟨_, rfl⟩
      rw [← hpx, ← hpy]
      have HPX := Lib.hid hpx
      have HPY := Lib.hid hpy
      have BAD : Hid ((px && py) = false → ∃ v, (Ending.returned (.tuple #[.slice none 0 0, .int .i64 21, .int .i64 (j : Int)])) = .returned (.tuple #[v, .int .i64 ans.2.1, .int .i64 (ans.2.2 : Int)]) ∧ SolveP w ans v w2) := Lib.hid (fun h => by
        have e : ans = ([], 21, j) := by
          have h0 : (l.takeWhile okP).length = j := takeW_at hjl (fun i h => HOK.out i h (by omega)) (by
            have h1 := List.getElem?_eq_some_iff.1 HP.out
            obtain ⟨_, h2⟩ := h1
            rw [h2, okP, ← hpx, ← hpy]; exact h)
          rw [HANS.out, solveT, h0, if_pos hjl]
        rw [e]
        exact ⟨_, rfl, SolveP.nil rfl (by rw [← HBB.out]; exact HBW2.out)⟩)
      clear hpx hpy
      cases px with
      | false =>
        go_wp2_with fail
        go_ret3
        exact BAD.out rfl
      | true =>
        cases py with
        | false =>
          go_wp2_with fail
          go_ret3
          exact BAD.out rfl
        | true =>
          clear BAD
          have HPB := Lib.hid (proper_both HPX.out.symm)
          have HPC := Lib.hid (proper_both HPY.out.symm)
          go_upto_region 10 with fail
          have HRU2 : Hid (RU B w2.drew sb mb me V D ⟨fun _ => none, markE (fun _ => false) (qoP (l.take j))⟩) := Lib.hid (HRU.out.keep HB2.out.drew (fun b hb => Nat.lt_of_lt_of_le (HD.out b hb) hlo))
          have HOW2 := Lib.hid (HOWN.out.carry HB2.out.drew)
          have HBD2 : Hid (Below B w w2.drew) := Lib.hid HBW2.out.drew
          have START := Lib.hid (HK.out.cells w2.drew HBD2.out)
          go_region_held3 (fun X => (X.cell? ⟨gb, gp, none⟩ = some (.int .i64 x.k) ∧ X.cell? ⟨gb, gp + 1, none⟩ = some (.int .i64 x.n) ∧ X.cell? ⟨gb, gp + 2, none⟩ = some (.string x.s) ∧ X.cell? ⟨gb, gp + 3, none⟩ = some (.int .i64 x.q) ∧ X.cell? ⟨gb, gp + 4, none⟩ = some (.slice a1 x.args.length k1)) ∧ (X.cell? ⟨gb, gp + 5, none⟩ = some (.int .i64 y.k) ∧ X.cell? ⟨gb, gp + 6, none⟩ = some (.int .i64 y.n) ∧ X.cell? ⟨gb, gp + 7, none⟩ = some (.string y.s) ∧ X.cell? ⟨gb, gp + 8, none⟩ = some (.int .i64 y.q) ∧ X.cell? ⟨gb, gp + 9, none⟩ = some (.slice a2 y.args.length k2)))
            (first | exact d10 | exact d9 | exact START.out)
            (first
              | (go_at_call 22; refine (VY.out w3 v3 _ HBW3.out hlo3 HG3.out.own HROW3.out hl3 HPC.out.1).mono ?_; rintro e w4 ⟨v4, rfl, hg4⟩; have HG4 := Lib.hid hg4; obtain ⟨q1, q2, q3⟩ := hg4.all HROW3.out hlo3 HRU3.out HG3.out.own HD.out; have HRU4 := Lib.hid q1; have HBW4 := Lib.hid (HBW3.out.trans q2); have HROW4 := Lib.hid q3; have hlo4 : B ≤ w4.heap.size := Nat.le_trans hlo3 q2.size; have d10 := HK.out.cells w4 HBW4.out; clear hg4 q1 q2 q3)
              | (go_at_call 22; refine (VX.out w2.drew _ _ HBD2.out hlo2 HOW2.out HROW.out (HPT.out j) HPB.out.1).mono ?_; rintro e w3 ⟨v3, rfl, hg3⟩; have HG3 := Lib.hid hg3; obtain ⟨q1, q2, q3⟩ := hg3.all HROW.out hlo2 HRU2.out HOW2.out HD.out; have HRU3 := Lib.hid q1; have HBW3 := Lib.hid (HBD2.out.trans q2); have HROW3 := Lib.hid q3; have hlo3 : B ≤ w3.heap.size := Nat.le_trans hlo2 q2.size; have d9 := HK.out.cells w3 HBW3.out; have hl3 : (varsD (vsP [] (l.take j)) x).length ≤ 201000 := (by have h1 := varsD_len x (vsP [] (l.take j)); have h2 := HPT.out j; have h3 := HPB.out.1; omega); clear hg3 q1 q2 q3))
          have HOK1 : Hid (∀ i (h : i < j + 1) (h' : i < l.length), okP l[i] = true) := Lib.hid (fun i h h' => by
            by_cases e : i < j
            · exact HOK.out i e h'
            · obtain rfl : i = j := by omega
              obtain ⟨_, h2⟩ := List.getElem?_eq_some_iff.1 HP.out
              rw [h2, okP, ← HPX.out, ← HPY.out]; rfl)
          obtain ⟨hqx, hqy⟩ := HQV.out j (x, y) HP.out (fun i h h' => HOK1.out i (by omega) h')
          have MX := Lib.hid (rmark_any B sb mb me V D (fun _ => none) (parts x) x (markE (fun _ => false) (qoP (l.take j))) (Nat.le_refl _) HPB.out.2 HFX.out.1 (qo_in hqx) a1 k1 w4 HD.out hlo4 HRU4.out (HK.out.s1 w4 HBW4.out))
          have MY : Hid (∀ X : World, Below B w X → B ≤ X.heap.size → RU B X sb mb me V D ⟨fun _ => none, markE (markE (fun _ => false) (qoP (l.take j))) (qoD x)⟩ → Calls Try.prog 48 #[.pointer (some ⟨sb, 0, none⟩), .agg #[.int .i64 y.k, .int .i64 y.n, .string y.s, .int .i64 y.q, .slice a2 y.args.length k2]] X (MarkR B sb mb me V D (fun _ => none) (markE (markE (markE (fun _ => false) (qoP (l.take j))) (qoD x)) (qoD y)) X)) := Lib.hid (fun X hX hs hr => rmark_any B sb mb me V D (fun _ => none) (parts y) y _ (Nat.le_refl _) HPC.out.2 HFX.out.2 (qo_in hqy) a2 k2 X HD.out hs hr (HK.out.s2 X hX))
          unfold rowOf at MX
          clear hqx hqy d9 d10 START
          obtain ⟨⟨x0, x1, x2, x3, x4⟩, ⟨y0, y1, y2, y3, y4⟩⟩ := HK.out.cells w4 HBW4.out
          go_upto_region 12 with (first | (go_at_call 48; refine MX.out.mono ?_; rintro e w5 h5; obtain rfl := h5.val; have H5 := Lib.hid h5; clear h5))
          clear x0 x1 x2 x3 x4 y0 y1 y2 y3 y4
          have HBW5 : Hid (Below B w w5) := Lib.hid (HBW4.out.trans H5.out.bel)
          have hlo5 : B ≤ w5.heap.size := Nat.le_trans hlo4 H5.out.bel.size
          obtain ⟨⟨x0, x1, x2, x3, x4⟩, ⟨y0, y1, y2, y3, y4⟩⟩ := HK.out.cells w5 HBW5.out
          go_wp2_with (first | (go_at_call 48; refine (MY.out w5 HBW5.out hlo5 H5.out.r).mono ?_; rintro e w6 h6; obtain rfl := h6.val; have H6 := Lib.hid h6; clear h6))
          go_roundw
          case rel =>
            refine ⟨j + 1, by go_num, hlt, HOK1.out, ?_, HROW4.out, ?_, HBW5.out.trans H6.out.bel⟩
            · rw [vsP_take HP.out]
              exact own_carry HG4.out.own fun g c f hb => H6.out.box g c 3 f (H5.out.box g c 3 f hb)
            · have h := H6.out.r
              rw [markE_two, markE_two, ← qoP_take HP.out] at h
              exact h
          case measure => simp only [intOf]; omega
    · obtain rfl : j = n := by omega
      have hd : decide ((j : Int) < (j : Int)) = false := by simp
      have hokl : ∀ p ∈ l, okP p = true := fun p hp => by
        obtain ⟨i, hi, rfl⟩ := List.getElem_of_mem hp
        exact HOK.out i (by rw [HN.out]; exact hi) hi
      have hlen : (l.takeWhile okP).length = l.length := takeW_none hokl
      have hlpl : lp = l := by
        have h := List.prefix_iff_eq_take.1 (List.takeWhile_prefix (l := l) okP)
        rw [HLP.out, h, hlen, List.take_length]
      have hVl : V = vsP [] l := by rw [HV.out, hlpl]
      obtain ⟨R, hR⟩ := solve_run HF.out hokl
      have HANS2 : Hid (ans = if R.2.1 = 0 then outT R.1 l.length (risingD V) [] else ([], R.2.1, R.2.2)) := Lib.hid (by
        rw [HANS.out, solveT, hlen, if_neg (Nat.lt_irrefl _), hR, ← hVl])
      have HWF : Hid (∀ p ∈ l, Wf V (st0 l).e p.1 ∧ Wf V (st0 l).e p.2) := Lib.hid (fun p hp => by rw [hVl]; exact pair_wf HF.out hp (hokl p hp))
      have hown := HOWN.out
      have hru := HRU.out
      rw [HN.out, List.take_length] at hown hru
      rw [← hVl] at hown
      have HOWL := Lib.hid hown
      have HRUL : Hid (RU B wo sb mb me V D (st0 l)) := Lib.hid hru
      have HRR := Lib.hid hR
      have hVn : V.length ≤ 200000 := hV9
      clear hokl hlen hlpl hVl hR hown hru HANS HLP HPT HQV HOWN HOK HV
      clear HNEW HRU0 HB0
      obtain ⟨F, hF⟩ : ∃ F, F = fuelP l := ⟨_, rfl⟩
      rw [← hF] at HRR
      clear hF
      go_wp2_with fail
      go_loopw [10, 11] (fun i _ wr => ∃ (k : Nat) (sj : St), i = .int .i64 (k : Int) ∧ k ≤ j ∧ runT F sj (l.drop k) k = some R ∧ Grown V (st0 l) sj ∧ RU B wr sb mb me V D sj ∧ Below B wo wr ∧ Boxes wo wr) (fun i _ _ => j - (intOf i).toNat)
      case atStart => exact ⟨0, st0 l, rfl, Nat.zero_le _, HRR.out, Grown.refl (st0_ok _ _), HRUL.out, Below.refl _ _, Boxes.refl _⟩
      case round =>
        obtain ⟨k, sj, rfl, hk, hrun, hgr, hru, hbr, hbx⟩ := hrel
        obtain ⟨wp, rfl⟩ : ∃ wp : World, wp = wr := ⟨_, rfl⟩
        have HRUN := Lib.hid hrun
        have HGR := Lib.hid hgr
        have HRUP := Lib.hid hru
        have HBR := Lib.hid hbr
        have HBX := Lib.hid hbx
        have hlop : B ≤ wp.heap.size := Nat.le_trans hlo hbr.size
        have HBWP : Hid (Below B w wp) := Lib.hid (HBW.out.trans hbr)
        clear hrun hgr hru hbr hbx
        by_cases hlt : k < j
        · have hd : decide ((k : Int) < (j : Int)) = true := by simp; omega
          have hkl : k < l.length := by rw [← HN.out]; exact hlt
          obtain ⟨p, hp⟩ : ∃ p, l[k]? = some p := ⟨_, List.getElem?_eq_getElem hkl⟩
          obtain ⟨x, y⟩ := p
          obtain ⟨gb, gp, a1, k1, a2, k2, hpk⟩ := HPK.out k (x, y) hp
          have HK := Lib.hid hpk
          have hix : ∀ w' : World, (Instr.indexAt 22 (.slice ao j cap) (.int .i64 k)).run Try.prog w' = .ok (.pointer (some ⟨gb, gp, none⟩)) w' := hpk.ix
          obtain ⟨s', e', hsame, hor⟩ := run_step hp HRUN.out
          have hwf := HWF.out _ (List.mem_of_getElem? hp)
          have hdr : Below wp.heap.size wp wp.drew := (Below.refl _ _).drew
          have hrk : RK B sb mb me V D sj wp := ⟨HRUP.out, HD.out, hlop, HGR.out.ok⟩
          have HCALL := Lib.hid (rsame_any B sb mb me V D F x y sj (s', e') hsame (hwf.1.more HGR.out.e) (hwf.2.more HGR.out.e) a1 a2 k1 k2 wp.drew (hrk.keep hdr) (HK.out.s1 _ HBWP.out.drew) (HK.out.s2 _ HBWP.out.drew))
          have HGS : Hid (e' = 0 → Grown V (st0 l) s') := Lib.hid (fun h => HGR.out.trans ((same_grown F sj x y hrk.ok (hwf.1.more HGR.out.e) (hwf.2.more HGR.out.e) s' e' hsame).2 h))
          have HOR := Lib.hid hor
          unfold rowOf at HCALL
          have START := Lib.hid (HK.out.cells wp.drew HBWP.out.drew)
          obtain ⟨⟨x0, x1, x2, x3, x4⟩, ⟨y0, y1, y2, y3, y4⟩⟩ := HK.out.cells wp HBWP.out
          clear hpk hp hsame hwf hor hdr hrk
          go_upto_region 16 with fail
          clear x0 x1 x2 x3 x4 y0 y1 y2 y3 y4
          go_cut [11] from 75 to 86 (fun s wx => s = .int .i64 e' ∧ BindR B sb mb me V D (s', e') wp.drew (.returned (.int .i64 e')) wx)
          case first =>
            go_region_held3 (fun X => (X.cell? ⟨gb, gp, none⟩ = some (.int .i64 x.k) ∧ X.cell? ⟨gb, gp + 1, none⟩ = some (.int .i64 x.n) ∧ X.cell? ⟨gb, gp + 2, none⟩ = some (.string x.s) ∧ X.cell? ⟨gb, gp + 3, none⟩ = some (.int .i64 x.q) ∧ X.cell? ⟨gb, gp + 4, none⟩ = some (.slice a1 x.args.length k1)) ∧ (X.cell? ⟨gb, gp + 5, none⟩ = some (.int .i64 y.k) ∧ X.cell? ⟨gb, gp + 6, none⟩ = some (.int .i64 y.n) ∧ X.cell? ⟨gb, gp + 7, none⟩ = some (.string y.s) ∧ X.cell? ⟨gb, gp + 8, none⟩ = some (.int .i64 y.q) ∧ X.cell? ⟨gb, gp + 9, none⟩ = some (.slice a2 y.args.length k2)))
              (first | exact d9 | exact START.out)
              (first | (go_at_call 49; refine HCALL.out.mono ?_; rintro e w7 h7; obtain rfl := h7.val; have d9 := HK.out.cells w7 (HBWP.out.drew.trans h7.bel); have H7 := Lib.hid h7; clear h7))
            go_wp2_with fail
            go_meet
            exact ⟨rfl, H7.out⟩
          case rest =>
          obtain ⟨rfl, h7⟩ := hcut
          obtain ⟨w7, rfl⟩ : ∃ w7 : World, w7 = wc := ⟨_, rfl⟩
          have H7 := Lib.hid h7
          clear h7 START HCALL
          by_cases he : e' = 0
          · have eb : (e' != 0) = false := by simp [he]
            have HE := Lib.hid he
            clear he
            go_wp2_with fail
            go_roundw
            case rel =>
              have h0 : runT F s' (l.drop (k + 1)) (k + 1) = some R := by
                rcases HOR.out with ⟨_, h⟩ | ⟨h, _⟩
                · exact h
                · exact absurd HE.out h
              exact ⟨k + 1, s', by go_num, hlt, h0, HGS.out HE.out, H7.out.r HE.out, HBR.out.trans ((Below.refl B wp).drew.trans H7.out.bel), HBX.out.trans (show Boxes wp w7 from H7.out.box)⟩
            case measure => simp only [intOf]; omega
          · have eb : (e' != 0) = true := by simp [he]
            have HE := Lib.hid he
            clear he
            go_wp2_with fail
            go_ret3
            have h0 : R = (s', e', k) := by
              rcases HOR.out with ⟨h, _⟩ | ⟨_, h⟩
              · exact absurd h HE.out
              · exact h
            have ea : ans = ([], e', k) := by rw [HANS2.out, h0, if_neg HE.out]
            rw [ea]
            exact ⟨_, rfl, SolveP.nil rfl (by rw [← HBB.out]; exact HBWP.out.trans ((Below.refl B wp).drew.trans H7.out.bel))⟩
        · obtain rfl : k = j := by omega
          have hd : decide ((k : Int) < (k : Int)) = false := by simp
          have hR0 : R = (sj, 0, 0) := by
            have h := HRUN.out
            rw [HN.out, List.drop_length, runT] at h
            exact (Option.some.inj h).symm
          have HA3 : Hid (ans = outT sj k (risingD V) []) := Lib.hid (by rw [HANS2.out, hR0, if_pos rfl, ← HN.out])
          have HRIS := Lib.hid (rising_any _ V wp (own_carry HOWL.out fun g c f hb => HBX.out g c 3 f hb) (by omega))
          clear hR0
          go_upto_region 20 with (first | (go_at_call 42; refine HRIS.out.mono ?_; rintro e w8 ⟨v8, rfl, ho8, hb8⟩; have HO8 := Lib.hid ho8; have HB8 := Lib.hid hb8; clear ho8 hb8))
          obtain ⟨ns, hns⟩ : ∃ ns, ns = risingD V := ⟨_, rfl⟩
          rw [← hns] at HO8 HA3
          have HMEM : Hid (∀ (q : Nat) (n0 : Int), ns[q]? = some n0 → n0 ∈ V ∧ I64 n0) := Lib.hid (fun q n0 h => by
            have h1 := List.mem_of_getElem? h
            rw [hns] at h1
            have h2 := (rising_perm V).subset h1
            exact ⟨h2, HRUP.out.i64 n0 h2⟩)
          have hm9 : ns.length ≤ 200000 := by rw [hns, (rising_perm V).length_eq]; exact hVn
          obtain ⟨m, hm⟩ : ∃ m, m = ns.length := ⟨_, rfl⟩
          rw [← hm] at hm9
          have HM := Lib.hid hm
          obtain ⟨a8, c8, rfl, g8⟩ := HO8.out.getm hm
          have HG8 := Lib.hid g8
          have HRK8 : Hid (RK B sb mb me V D sj w8) := Lib.hid ⟨HRUP.out.keep HB8.out (fun b hb => Nat.lt_of_lt_of_le (HD.out b hb) hlop), HD.out, Nat.le_trans hlop HB8.out.size, HGR.out.ok⟩
          have HBW8 : Hid (Below B w w8) := Lib.hid (HBWP.out.trans (HB8.out.mono hlop))
          have hlo8 : B ≤ w8.heap.size := HRK8.out.lo
          clear hns hm g8 HRIS HWF HRUN HBR HBX HRUP HBWP HB8 HOWL HRUL HRR HANS2 HROW HRU HBW hlop
          go_wp2_with fail
          go_loopw [12, 13, 14, 15] (fun v i _ _ wr => ∃ (q : Nat) (bs : List Bd) (Dq : Nat → Prop), i = .int .i64 (q : Int) ∧ q ≤ m ∧ bs.length = q ∧ outT sj k (ns.drop q) (bs.map Bd.pair) = ans ∧ OwnB w8.heap.size wr Dq v bs ∧ (∀ b, Dq b → w8.heap.size ≤ b ∧ b < wr.heap.size ∧ v.ownBlock ≠ some b) ∧ (∀ b ∈ bs, Fits b.t) ∧ Below w8.heap.size w8 wr) (fun _ i _ _ _ => m - (intOf i).toNat)
          case atStart => exact ⟨0, [], fun _ => False, rfl, Nat.zero_le _, rfl, HA3.out.symm, OwnB.nil _ _ _, fun b h => h.elim, fun b h => (by cases h), Below.refl _ _⟩
          case round =>
            obtain ⟨q, bs, Dq, rfl, hq, hbl, hout, hob, hDq, hfb, hbr⟩ := hrel
            obtain ⟨wq, rfl⟩ : ∃ wq : World, wq = wr := ⟨_, rfl⟩
            have HBL := Lib.hid hbl
            have HOUT := Lib.hid hout
            have HOB := Lib.hid hob
            have HDQ := Lib.hid hDq
            have HFB := Lib.hid hfb
            have HBR := Lib.hid hbr
            have HRKQ := Lib.hid (HRK8.out.keep hbr)
            have hszq : w8.heap.size ≤ wq.heap.size := hbr.size
            clear hbl hout hob hDq hfb hbr
            by_cases hltq : q < m
            · have hdq : decide ((q : Int) < (m : Int)) = true := by simp; omega
              have hql : q < ns.length := by rw [← HM.out]; exact hltq
              obtain ⟨oo, oc, hov⟩ := HOB.out.shape
              subst hov
              obtain ⟨g, hao, hgl, hcell⟩ := HG8.out q hltq hql
              have hix := index_at Try.underlying47 size3 hao m c8 q hltq
              rw [Nat.zero_add, Nat.mul_one] at hix
              obtain ⟨n0, hn0⟩ : ∃ n0, ns[q]? = some n0 := ⟨_, List.getElem?_eq_getElem hql⟩
              have hge : ns[q] = n0 := (List.getElem?_eq_some_iff.1 hn0).2
              rw [hge] at hcell
              have HCELL : Hid (∀ X : World, Below w8.heap.size w8 X → X.cell? ⟨g, q, none⟩ = some (.int .i64 n0)) := Lib.hid (fun X hX => (hX.cell (p := ⟨g, q, none⟩) hgl).trans hcell)
              have hc0 := HCELL.out wq HBR.out
              obtain ⟨hnV, hnI⟩ := HMEM.out q n0 hn0
              have HSTEP := Lib.hid (outT_step (s := sj) (N := k) (acc := bs.map Bd.pair) hn0)
              have hwf := bare_wf (V := V) (s := sj) hnV hnI
              obtain ⟨g1, hg1⟩ : ∃ g1, g1 = min (parts (exT sj.b (bareT n0))) 401 := ⟨_, rfl⟩
              have HCG : Hid (∀ X : World, Below wq.heap.size wq X → Calls Try.prog 50 #[.pointer (some ⟨sb, 0, none⟩), .agg #[.int .i64 0, .int .i64 n0, .string ⟨#[]⟩, .int .i64 0, .slice none 0 0], .int .i64 400] X fun e w' => e = .returned (.int .i64 (g1 : Int)) ∧ Below X.heap.size X w') := Lib.hid (fun X hX => rgreat400 B sb mb me V D sj (bareT n0) hwf none 0 X (HRKQ.out.keep hX) (sl_nil rfl) hg1)
              have HCF : Hid (parts (exT sj.b (bareT n0)) ≤ 400 → ∀ X : World, Below wq.heap.size wq X → Calls Try.prog 51 #[.pointer (some ⟨sb, 0, none⟩), .agg #[.int .i64 0, .int .i64 n0, .string ⟨#[]⟩, .int .i64 0, .slice none 0 0]] X (FullP X (markT sj.e (exT sj.b (bareT n0))))) := Lib.hid (fun hp X hX => rfull_any B sb mb me V D sj (parts (exT sj.b (bareT n0))) (bareT n0) (Nat.le_refl _) (by omega) hwf none 0 X (HRKQ.out.keep hX) (sl_nil rfl))
              have HFF : Hid (Fits (markT sj.e (exT sj.b (bareT n0)))) := Lib.hid (full_fits HGR.out.ok (fits_bare hnI))
              obtain ⟨G, hG⟩ : ∃ G, G = markT sj.e (exT sj.b (bareT n0)) := ⟨_, rfl⟩
              rw [← hG] at HCF HFF HSTEP
              obtain ⟨mm, h401⟩ := min401 hg1
              obtain ⟨P, hP⟩ : ∃ P, P = parts (exT sj.b (bareT n0)) := ⟨_, rfl⟩
              rw [← hP] at mm HCF HSTEP
              have HMM := Lib.hid mm
              obtain ⟨Z1, hZ1⟩ : ∃ Z1, Z1 = wq.alloc (.cells #[.int .i64 0, .int .i64 n0, .string ⟨#[]⟩, .int .i64 0, .slice none 0 0] 33) := ⟨_, rfl⟩
              have HBZ1 : Hid (Below wq.heap.size wq Z1) := Lib.hid (by rw [hZ1]; exact balloc (Below.refl _ _) _)
              have hZr : Z1.heap[wq.heap.size]? = some (.cells #[.int .i64 0, .int .i64 n0, .string ⟨#[]⟩, .int .i64 0, .slice none 0 0] 33 (0, 0)) := by rw [hZ1]; exact heap_alloc_new wq _
              have HZR := Lib.hid hZr
              obtain ⟨⟨z0, z1, z2, z3, z4⟩, -⟩ := five_cells hZr
              clear hao hcell hn0 hge hnV hnI hwf hg1 hG hP mm hql hZr
              go_upto_region 25 with fail
              rw [← hZ1]
              clear hZ1 hc0
              by_cases hbig : 400 < g1
              · have hd1 : decide ((400 : Int) < (g1 : Int)) = true := by simp; omega
                have HBIG := Lib.hid hbig
                clear hbig
                go_wp2_with (first | (go_at_call 50; refine (HCG.out Z1 HBZ1.out).mono ?_; rintro e w9 ⟨rfl, hb9⟩; have HB9 := Lib.hid (HBZ1.out.trans (hb9.mono HBZ1.out.size)); clear hb9))
                go_ret3
                have ea : ans = ([], 12, k) := by rw [← HOUT.out, HSTEP.out, if_pos (HMM.out.2 HBIG.out)]
                rw [ea]
                exact ⟨_, rfl, SolveP.nil rfl (by rw [← HBB.out]; exact HBW8.out.trans ((HBR.out.mono hlo8).trans (HB9.out.mono (Nat.le_trans hlo8 hszq))))⟩
              · have hd1 : decide ((400 : Int) < (g1 : Int)) = false := by simp; omega
                have hPle : P ≤ 400 := by
                  rcases Nat.lt_or_ge 400 P with h | h
                  · exact absurd (HMM.out.1 h) hbig
                  · exact h
                have HS2 : Hid (outT sj k (ns.drop (q + 1)) (bs.map Bd.pair ++ [(n0, G)]) = ans) := Lib.hid (by rw [← HOUT.out, HSTEP.out, if_neg (by omega)])
                have HCF2 := Lib.hid (HCF.out hPle)
                clear hbig hPle HCF HSTEP
                go_upto_region 27 with (first | (go_at_call 50; refine (HCG.out Z1 HBZ1.out).mono ?_; rintro e w9 ⟨rfl, hb9⟩; have HB9 := Lib.hid (HBZ1.out.trans (hb9.mono HBZ1.out.size)); have hz9 := blk_below HZR.out hb9 (lt_of_block HZR.out); obtain ⟨⟨k0, k1, k2, k3, k4⟩, -⟩ := five_cells hz9; clear hb9 hz9))
                clear z0 z1 z2 z3 z4
                go_upto_region 28 with (first | (go_at_call 51; refine (HCF2.out w9 HB9.out).mono ?_; rintro e w10 h10; obtain ⟨af, cf, rfl, hsf, hbf⟩ := h10.call; have HSF := Lib.hid hsf; have HB10 := Lib.hid (HB9.out.trans (hbf.mono HB9.out.size)); have hs10 : w9.heap.size ≤ w10.heap.size := hbf.size; unfold rowOf at ⊢; clear h10 hsf hbf))
                obtain ⟨cg, hcg⟩ : ∃ cg, cg = G.args.length := ⟨_, rfl⟩
                rw [← hcg]
                have HCG2 := Lib.hid hcg
                obtain ⟨Z, hZ⟩ : ∃ Z, Z = w10.alloc (.cells #[.int .i64 G.k, .int .i64 G.n, .string G.s, .int .i64 G.q, .slice af cg cf] 33) := ⟨_, rfl⟩
                rw [← hZ]
                have hZr : Z.heap[w10.heap.size]? = some (.cells #[.int .i64 G.k, .int .i64 G.n, .string G.s, .int .i64 G.q, .slice af cg cf] 33 (0, 0)) := by rw [hZ]; exact heap_alloc_new w10 _
                have HBZ : Hid (Below wq.heap.size wq Z) := Lib.hid (by rw [hZ]; exact balloc HB10.out _)
                have HZ10 : Hid (Below w10.heap.size w10 Z ∧ Z.heap.size = w10.heap.size + 1) := Lib.hid ⟨by rw [hZ]; exact balloc (Below.refl _ _) _, by rw [hZ, World.size_alloc]⟩
                obtain ⟨⟨z0, z1, z2, z3, z4⟩, -⟩ := five_cells hZr
                clear hZ hZr hcg k0 k1 k2 k3 k4
                obtain ⟨i35, hi, hz0, hz1, hz2⟩ := info_parts info35
                have HI := Lib.hid hi
                have hcq := HCELL.out Z (bthen' HBR.out HBZ.out hszq)
                have HOA : Hid ((Z.alloc (.cells #[.int .i64 n0, .int .i64 G.k, .int .i64 G.n, .string G.s, .int .i64 G.q, .slice af cg cf] 35)).drew.ownsRow w8.heap.size 35 6 (.slice oo bs.length oc) bs.length (bcells bs)) := Lib.hid ((HOB.out.keep HBZ.out (fun b hb => (HDQ.out b hb).2.1)).own.alloc _)
                have hone : ∀ u ∈ ([.int .i64 n0, .int .i64 G.k, .int .i64 G.n, .string G.s, .int .i64 G.q, .slice af cg cf] : List Value), u.oneCell' = true := by
                  intro u hu
                  simp at hu
                  rcases hu with rfl | rfl | rfl | rfl | rfl | rfl <;> rfl
                have hbl9 : bs.length ≤ 200000 := by rw [HBL.out]; omega
                have hgZ : g < Z.heap.size := by
                  have h1 := World.block_lt_of_cell? Z _ hcq
                  exact h1
                have hZlt : w10.heap.size < Z.heap.size := by rw [HZ10.out.2]; omega
                have hsZ8 : w8.heap.size ≤ Z.heap.size := Nat.le_trans hszq HBZ.out.size
                clear hi
                have FIN : Hid (∀ (gg cp : Nat) (w11 : World), w11.ownsRow w8.heap.size 35 6 (.slice (some ⟨gg, 0, none⟩) (bs.length + 1) cp) (bs.length + 1) (bcells bs ++ [.int .i64 n0, .int .i64 G.k, .int .i64 G.n, .string G.s, .int .i64 G.q, .slice af cg cf]) → (Z.alloc (.cells #[.int .i64 n0, .int .i64 G.k, .int .i64 G.n, .string G.s, .int .i64 G.q, .slice af cg cf] 35)).drew.grownBy w11 (Value.slice oo bs.length oc).ownBlock → ((Value.slice oo bs.length oc).ownBlock = some gg ∨ gg = Z.heap.size + 1) →
                    ∃ (bs' : List Bd) (Dq' : Nat → Prop), bs'.length = q + 1 ∧ outT sj k (ns.drop (q + 1)) (bs'.map Bd.pair) = ans ∧ OwnB w8.heap.size w11 Dq' (.slice (some ⟨gg, 0, none⟩) (bs.length + 1) cp) bs' ∧ (∀ b, Dq' b → w8.heap.size ≤ b ∧ b < w11.heap.size ∧ (Value.slice (some ⟨gg, 0, none⟩) (bs.length + 1) cp).ownBlock ≠ some b) ∧ (∀ b ∈ bs', Fits b.t) ∧ Below w8.heap.size w8 w11) := Lib.hid (by
                  intro gg cp w11 hown1 hgr1 hat1
                  have hcell6 : ([.int .i64 n0, .int .i64 G.k, .int .i64 G.n, .string G.s, .int .i64 G.q, .slice af cg cf] : List Value) = (Bd.mk n0 G af cf).cells := by rw [HCG2.out]; rfl
                  rw [hcell6] at hown1
                  have hb9' := HB9.out.size
                  have hsz10 := HZ10.out.2
                  obtain ⟨r1, r2, r3⟩ := out_grown (Dx := fun b => w9.heap.size ≤ b ∧ b < w10.heap.size) HOB.out HDQ.out hszq HBZ.out (HSF.out.keep fun b hb off => below_cells HZ10.out.1 b hb.2 off) (fun b hb => ⟨by omega, by omega⟩) (balloc (Below.refl _ _) _).drew (by simp [World.size_drew]) hown1 hgr1 hat1
                  refine ⟨_, _, by rw [List.length_append, HBL.out]; rfl, ?_, r1, r2, fun b hb => ?_, HBR.out.trans r3⟩
                  · rw [List.map_append]; exact HS2.out
                  · rcases List.mem_append.1 hb with hb | hb
                    · exact HFB.out b hb
                    · rw [List.mem_singleton] at hb; rw [hb]; exact HFF.out)
                go_region_law ((refine step_append_lies _ (by rfl) _ _ _ (by rfl) w8.heap.size 35 i35 _ 6 72 Try.underlying25 HI.out hz0 hz1 hz2 rfl (by omega) (Value.slice oo bs.length oc) bs.length (bcells bs) (by rfl) HOA.out ⟨Z.heap.size, 0, none⟩ 1 1 [.int .i64 n0, .int .i64 G.k, .int .i64 G.n, .string G.s, .int .i64 G.q, .slice af cg cf] (by rfl) (by rfl) (new_cells_d (c := #[.int .i64 n0, .int .i64 G.k, .int .i64 G.n, .string G.s, .int .i64 G.q, .slice af cg cf]) _ (by simp)) hone (by omega) (by unfold maxLen; omega) (by omega) (by simp; omega) (Z.heap.size + 1) (by simp) ?_; intro gg cp w11 hown1 hgr1 hat1 hlt1; have HFIN := Lib.hid (FIN.out gg cp w11 hown1 hgr1 hat1); clear hown1 hgr1 hat1))
                all_goals
                  go_wp2_with fail
                  go_roundw
                  case rel =>
                    obtain ⟨bs', Dq', h1, h2, h3, h4, h5, h6⟩ := HFIN.out
                    exact ⟨q + 1, bs', Dq', by go_num, hltq, h1, h2, h3, h4, h5, h6⟩
                  case measure => simp only [intOf]; omega
            · obtain rfl : q = m := by omega
              have hdq : decide ((q : Int) < (q : Int)) = false := by simp
              go_wp2_with fail
              go_ret3
              have h := HOUT.out
              rw [HM.out, List.drop_length, outT] at h
              rw [← h]
              exact ⟨_, rfl, Dq, bs, rfl, ⟨own_base HOB.out.own (Nat.zero_le _), HOB.out.sl⟩, (fun b hb => ⟨by rw [← HBB.out]; exact Nat.le_trans hlo8 (HDQ.out b hb).1, (HDQ.out b hb).2.1⟩), HFB.out, by rw [← HBB.out]; exact HBW8.out.trans (HBR.out.mono hlo8)⟩
end Go.Proofs.Ytdeomphilggokaa
