/-
  Proved: the contract of the program's useful. Condition: rows side by side that fit.
-/
import Derived.Test.YtcieoelogocjkaaH4
set_option linter.unusedSimpArgs false
set_option linter.unusedVariables false
namespace Go.Proofs.Ytcieoelogocjkaa
open Go.RowKit Go.Maps

def tailA (ao : Option Addr) (cap : Nat) : Option Addr := if cap = 1 then ao else ao.map (fun x : Addr => x.add 6)
theorem tail_slD {w : World} {D : Nat → Prop} {p : Pt} {ps : List Pt} {ao : Option Addr} {cap : Nat} (h : SlD w D (p :: ps) ao cap) : SlD w D ps (tailA ao cap) (cap - 1) := by
  obtain ⟨b, off, ha, hb, hk⟩ := SlD.tail h
  have h1 := h.1
  simp only [List.length_cons] at h1
  refine ⟨by omega, ?_⟩
  unfold tailA
  by_cases hc : cap = 1
  · have : ps = [] := List.eq_nil_of_length_eq_zero (by omega)
    subst this
    unfold KidsV
    trivial
  · rw [if_neg hc, ha]
    simp only [Option.map_some, Addr.add_lit]
    exact hk
theorem slice1 (T : TypeId) (hT : Try.prog.underlying T = some (.slice 26)) (ai : Option Addr) (m ci : Nat) (h : 1 ≤ m) (hc : m ≤ ci) (w : World) : (Instr.slice T (.slice ai m ci) (some (.int .i64 1)) none none).run Try.prog w = .ok (.slice (tailA ai ci) (m - 1) (ci - 1)) w := by
  have he : Try.prog.elem T = 26 := by simp [Program.elem, hT]
  rw [run_slice_l (ht := by rw [he]; exact hT) (h0 := by omega) (h1 := by omega), he, size26]
  simp [Result.andThen, sliced, tailA]
theorem field0 (a0 a1 a2 a3 a4 a5 : Value) (w : World) : (Instr.field 26 (.agg #[a0, a1, a2, a3, a4, a5]) 0).run Try.prog w = .ok a0 w := by kernel_rfl
theorem MatV.on {w w' : World} {rows : List (List Pt)} {ao : Option Addr} {cap : Nat} (h : MatV w w.heap.size rows ao cap) (hb : Below w.heap.size w w') : MatV w' w'.heap.size rows ao cap := (MatV.keep h hb).mono hb.size
theorem HdsV.get {w : World} {D : Nat → Prop} {L : List Pt} {ao : Option Addr} {cap : Nat} (h : HdsV w D L ao cap) {k : Nat} (hk : k < L.length) :
    ∃ b off, ao = some ⟨b, off, none⟩ ∧ D b ∧ ∀ j u, (hdRow (headOf L[k]))[j]? = some u → w.cell? ⟨b, off + k * 4 + j, none⟩ = some u := by
  obtain ⟨b, off, ha, hb, hc⟩ := h.2 (by omega)
  refine ⟨b, off, ha, hb, fun j u hu => ?_⟩
  have hj : j < 4 := by
    have := (Array.getElem?_eq_some_iff.1 hu).1
    simpa [hdRow] using this
  rw [show off + k * 4 + j = off + (k * 4 + j) from by omega]
  refine hc _ u ?_
  have gen : ∀ (L : List Pt) (k : Nat) (hk : k < L.length), (hdCells L)[k * 4 + j]? = (hdRow (headOf L[k]))[j]? := by
    intro L
    induction L with
    | nil => intro k hk; simp at hk
    | cons x xs ih =>
      intro k hk
      unfold hdCells at *
      rw [List.flatMap_cons]
      cases k with
      | zero =>
        rw [List.getElem?_append_left (by simp [hdRow]; omega)]
        simp
      | succ k =>
        rw [List.getElem?_append_right (by simp [hdRow]; omega)]
        have hl : ((hdRow (headOf x)).toList).length = 4 := by simp [hdRow]
        rw [hl, show (k + 1) * 4 + j - 4 = k * 4 + j from by omega]
        exact ih k (by simpa using hk)
  rw [gen L k hk]
  exact hu
theorem HdsV.keep {w w' : World} {D : Nat → Prop} {L : List Pt} {ao : Option Addr} {cap : Nat} (h : HdsV w D L ao cap) (hb : ∀ b, D b → ∀ off, w'.cell? ⟨b, off, none⟩ = w.cell? ⟨b, off, none⟩) : HdsV w' D L ao cap := by
  refine ⟨h.1, fun h0 => ?_⟩
  obtain ⟨b, off, ha, hd, hc⟩ := h.2 h0
  exact ⟨b, off, ha, hd, fun j u hu => (hb b hd _).trans (hc j u hu)⟩
theorem usefulD_nil (f : Nat) (rows : List (List Pt)) : usefulD (f + 1) rows [] = rows.isEmpty := by rw [usefulD]
theorem usefulD_cons (f : Nat) (rows : List (List Pt)) (p : Pt) (r : List Pt) : usefulD (f + 1) rows (p :: r) =
    if (bare p).k ≠ 0 then usefulD f (rows.filterMap (given (headOf (bare p)))) ((bare p).kids ++ r)
    else if whole (firsts rows) then (firsts rows).any fun q => usefulD f (rows.filterMap (given (headOf q))) (List.replicate (headOf q).c anyP ++ r)
    else usefulD f (rows.filterMap rest1) r := by rw [usefulD]
theorem empty_beq (c : Nat) (rows : List (List Pt)) (h : c = rows.length) : ((c : Int) == 0) = rows.isEmpty := by
  subst h
  cases rows with
  | nil => rfl
  | cons x xs => simp; omega

set_option maxRecDepth 100000 in
set_option maxHeartbeats 8000000 in
theorem puseful_any : ∀ (f : Nat) (rows : List (List Pt)) (q : List Pt), meas rows q < f → ∀ (ao aq : Option Addr) (cap cq : Nat) (w : World), Even q.length rows → ProperL q → FitsR rows → FitsL q → (q ≠ [] → rows.length ≤ 1048576) → meas rows q ≤ 1000000 →
    MatV w w.heap.size rows ao cap → SlV w w.heap.size q aq cq →
    Calls Try.prog 14 #[.slice ao rows.length cap, .slice aq q.length cq] w fun e w' => e = .returned (.bool (usefulD f rows q)) ∧ Below w.heap.size w w' := by
  obtain ⟨i46, hi, hy0, hy1, hy2⟩ := info_parts info46
  have HI46 := Lib.hid hi
  clear hi
  intro f
  induction f with
  | zero => intro rows q h; omega
  | succ f IH =>
    intro rows q hm ao aq cap cq w hE hP hF hFq hR hM hmat hsl
    obtain ⟨n, hn⟩ : ∃ n, n = q.length := ⟨_, rfl⟩
    obtain ⟨len, hlen⟩ : ∃ len, len = rows.length := ⟨_, rfl⟩
    rw [← hn, ← hlen]
    rw [← hlen] at hR
    have hwR : wtR rows ≤ 1000000 := by unfold meas at hM; omega
    have hwq : wtL q ≤ 1000000 := by unfold meas at hM; omega
    have hnb : n ≤ 1000000 := by unfold meas at hM; omega
    have HIH := Lib.hid IH
    have HM := Lib.hid hm
    have HE := Lib.hid hE
    have HP := Lib.hid hP
    have HF := Lib.hid hF
    have HFQ := Lib.hid hFq
    have HMM := Lib.hid hM
    have HMAT := Lib.hid hmat
    have HSL := Lib.hid hsl
    have HN := Lib.hid hn
    have HLEN := Lib.hid hlen
    have HWR := Lib.hid hwR
    have HWQ := Lib.hid hwq
    clear IH hm hE hP hF hFq hM hmat hsl hn hlen hwR hwq
    cases q with
    | nil =>
      have hn0 : ((n : Int) == 0) = true := by rw [HN.out]; rfl
      go_enter Try.func14, Try.ntmps14
      go_wp2_with fail
      go_ret
      exact ⟨by rw [usefulD_nil, empty_beq len rows HLEN.out]; rfl, Below.refl _ _⟩
    | cons p r =>
      have hR := hR (by simp)
      have hn1 : 1 ≤ n := by rw [HN.out]; simp
      have hn0 : ((n : Int) == 0) = false := by simp; omega
      have hpp := properL_cons HP.out
      have hff := fitsL_cons HFQ.out
      have hev : Even (r.length + 1) rows := HE.out
      obtain ⟨q, hq⟩ : ∃ q, q = bare p := ⟨_, rfl⟩
      have hqp : Proper q := by rw [hq]; exact (proper_bare hpp.1).1
      have hqf : Fits q := by rw [hq]; exact fits_bare hff.1
      have hkp : p.kids.length ≤ 1048576 := by
        have h1 := kids_le hpp.1
        have h2 := HWQ.out
        rw [wtL] at h2
        omega
      have hkq : q.kids.length ≤ 1048576 := by
        have h1 := kids_le hqp
        have h2 := (proper_bare hpp.1).2.2.2.1
        have h3 := HWQ.out
        rw [← hq] at h2
        rw [wtL] at h3
        omega
      obtain ⟨b2, off2, row, ha2, hb2, hrow, hpv⟩ := HSL.out.2.get (k := 0) (by simp)
      obtain ⟨aq2, cq2, rfl, hkv⟩ := hpv.row
      have hkv : SlD w (fun b => b < w.heap.size) p.kids aq2 cq2 := hkv
      have hix2 : ∀ w' : World, (Instr.indexAt 46 (.slice aq n cq) (.int .i64 0)).run Try.prog w' = .ok (.pointer (some ⟨b2, off2 + 0 * 6, none⟩)) w' := fun w' => index_at Try.underlying46 size26 ha2 n cq 0 (by omega) w'
      rw [show off2 + 0 * 6 = off2 from by omega] at hix2
      have x0 : w.cell? ⟨b2, off2, none⟩ = some (.int .i64 p.k) := hrow 0 (by omega)
      have x1 : w.cell? ⟨b2, off2 + 1, none⟩ = some (.int .i64 p.n) := hrow 1 (by omega)
      have x2 : w.cell? ⟨b2, off2 + 2, none⟩ = some (.int .i64 p.o) := hrow 2 (by omega)
      have x3 : w.cell? ⟨b2, off2 + 3, none⟩ = some (.int .i64 p.a) := hrow 3 (by omega)
      have x4 : w.cell? ⟨b2, off2 + 4, none⟩ = some (.string p.s) := hrow 4 (by omega)
      have x5 : w.cell? ⟨b2, off2 + 5, none⟩ = some (.slice aq2 p.kids.length cq2) := hrow 5 (by omega)
      have HPP := Lib.hid hpp
      have HFF := Lib.hid hff
      have HEV := Lib.hid hev
      have HQ := Lib.hid hq
      have HQP := Lib.hid hqp
      have HQF := Lib.hid hqf
      have HKV := Lib.hid hkv
      have hud := usefulD_cons f rows p r
      rw [← hq] at hud
      have HUD := Lib.hid hud
      obtain ⟨ans, hans⟩ : ∃ ans, ans = usefulD (f + 1) rows (p :: r) := ⟨_, rfl⟩
      rw [← hans]
      have HANS := Lib.hid hans
      clear hpp hff hev hq hqp hqf hkv ha2 hb2 hrow hpv hud hans
      go_enter Try.func14, Try.ntmps14
      go_wp2_with fail
      refine (pbare_any (fun b => b < w.heap.size) p aq2 cq2 w (fun b hb => hb) HPP.out.1 HKV.out).mono ?_
      rintro e w1 ⟨ab, cb, rfl, hsb, hb1⟩
      rw [← HQ.out] at hsb ⊢
      obtain ⟨W2, hW2⟩ : ∃ W2, W2 = w1.alloc (.cells (rowOf q ab cb) 26) := ⟨_, rfl⟩
      have hb5 : PB W2 w1.heap.size q ab cb := by rw [hW2]; exact heap_alloc_new w1 _
      have hB2 : Below w.heap.size w W2 := by rw [hW2]; exact balloc hb1 _
      have hmat2 : MatV W2 W2.heap.size rows ao cap := HMAT.out.on hB2
      have hsl2 : SlV W2 w.heap.size (p :: r) aq cq := HSL.out.keep hB2
      have c0 : W2.cell? ⟨w1.heap.size, 0, none⟩ = some (.int .i64 q.k) := blk_cell hb5 0
      have c1 : W2.cell? ⟨w1.heap.size, 1, none⟩ = some (.int .i64 q.n) := blk_cell hb5 1
      have c2 : W2.cell? ⟨w1.heap.size, 2, none⟩ = some (.int .i64 q.o) := blk_cell hb5 2
      have c3 : W2.cell? ⟨w1.heap.size, 3, none⟩ = some (.int .i64 q.a) := blk_cell hb5 3
      have c4 : W2.cell? ⟨w1.heap.size, 4, none⟩ = some (.string q.s) := blk_cell hb5 4
      have c5 : W2.cell? ⟨w1.heap.size, 5, none⟩ = some (.slice ab q.kids.length cb) := blk_cell hb5 5
      have l5 := lt_of_block hb5
      have hs1 := hb1.size
      have hs2 := hB2.size
      have HW2 := Lib.hid hW2
      have HB5 := Lib.hid hb5
      have HB2 := Lib.hid hB2
      have HMAT2 := Lib.hid hmat2
      have HSL2 := Lib.hid hsl2
      clear hsb hW2 hb5 hB2 hmat2 hsl2 hb1 x0 x1 x2 x3 x4 x5 hix2
      unfold rowOf
      go_upto_region 4 with fail
      rw [show (w1.alloc (.cells #[.int .i64 q.k, .int .i64 q.n, .int .i64 q.o, .int .i64 q.a, .string q.s, .slice ab q.kids.length cb] 26)) = W2 from HW2.out.symm]
      by_cases hk0 : q.k = 0
      · rw [hk0] at c0
        have hud := HUD.out
        rw [if_neg (by rw [hk0]; decide), ← HANS.out] at hud
        have hk0b : (bare p).k = 0 := by rw [← HQ.out]; exact hk0
        have HK0 := Lib.hid hk0b
        obtain ⟨L, hL⟩ : ∃ L, L = firsts rows := ⟨_, rfl⟩
        rw [← hL] at hud
        have HUD2 := Lib.hid hud
        have HL := Lib.hid hL
        clear hk0 hk0b hud hL
        go_wp2_with fail
        rw [HLEN.out]
        refine (pheads_any r.length rows ao cap W2 HEV.out HF.out HMAT2.out (by rw [← HLEN.out]; exact hR) HWR.out).mono ?_
        rintro e w3 ⟨aL, cL, rfl, hds, hb3⟩
        rw [← HL.out] at hds ⊢
        obtain ⟨lL, hlL⟩ : ∃ lL, lL = L.length := ⟨_, rfl⟩
        rw [← hlL, ← HLEN.out]
        have hlLb : lL ≤ 1048576 := by
          have h1 := firstsG_len rows []
          rw [show firstsG rows [] = L from HL.out.symm, ← hlL, ← HLEN.out] at h1
          simp only [List.length_nil] at h1
          omega
        have hs3 := hb3.size
        have HDS := Lib.hid hds
        have HLL := Lib.hid hlL
        have HB3 := Lib.hid hb3
        have HB03 := Lib.hid (HB2.out.trans (hb3.mono hs2))
        have hs03 := HB03.out.size
        clear hds hlL hb3 c0 c1 c2 c3 c4 c5
        cases hwh : whole L with
        | true =>
          have hud := HUD2.out
          rw [hwh, if_pos rfl] at hud
          have HUD3 := Lib.hid hud
          clear hud hwh
          go_wp2_with fail
          go_loopw [51] (fun i wr => ∃ j : Nat, j ≤ lL ∧ i = .int .i64 j ∧ (∀ x ∈ L.take j, usefulD f (rows.filterMap (given (headOf x))) (List.replicate (headOf x).c anyP ++ r) = false) ∧ Below w3.heap.size w3 wr) (fun i _ => lL - (intOf i).toNat)
          case atStart => exact ⟨0, Nat.zero_le _, rfl, fun x hx => by simp at hx, Below.refl _ _⟩
          case round =>
            obtain ⟨j, hjl, rfl, hno, hbr⟩ := hrel
            have HNO := Lib.hid hno
            have HBR := Lib.hid hbr
            have hsr := hbr.size
            clear hno hbr
            by_cases hlt : j < lL
            · have hd : decide ((j : Int) < (lL : Int)) = true := by simp; omega
              have hjL : j < L.length := by rw [← HLL.out]; exact hlt
              obtain ⟨b, off, ha, hDb, hcell⟩ := (HDS.out.keep (fun b hb => below_cells HBR.out b hb.2)).get hjL
              obtain ⟨x, hx⟩ : ∃ x, x = L[j] := ⟨_, rfl⟩
              have hbx : Begins (headOf x) rows := (firsts_begins (rows := rows) x (by rw [← HL.out, hx]; exact List.getElem_mem hjL)).1
              have htk : L.take (j + 1) = L.take j ++ [x] := by rw [List.take_succ_eq_append_getElem hjL, hx]
              rw [← hx] at hcell
              obtain ⟨h, hh⟩ : ∃ h, h = headOf x := ⟨_, rfl⟩
              rw [← hh] at hcell hbx
              have hix : ∀ w' : World, (Instr.indexAt 54 (.slice aL lL cL) (.int .i64 j)).run Try.prog w' = .ok (.pointer (some ⟨b, off + j * 4, none⟩)) w' := fun w' => index_at Try.underlying54 size51 ha lL cL j hlt w'
              obtain ⟨p0, hp0⟩ : ∃ p0, p0 = off + j * 4 := ⟨_, rfl⟩
              rw [← hp0] at hix hcell
              have e0 : wr.cell? ⟨b, p0, none⟩ = some (.int .i64 h.k) := hcell 0 _ rfl
              have e1 : wr.cell? ⟨b, p0 + 1, none⟩ = some (.int .i64 h.n) := hcell 1 _ rfl
              have e2 : wr.cell? ⟨b, p0 + 2, none⟩ = some (.int .i64 h.c) := hcell 2 _ rfl
              have e3 : wr.cell? ⟨b, p0 + 3, none⟩ = some (.string h.s) := hcell 3 _ rfl
              have hhc : h.c ≤ 1000000 := by
                have h1 := givens_less HEV.out hbx
                have h2 := HWR.out
                omega
              have hgv : given h (p :: r) = some (List.replicate h.c anyP ++ r) := by simp only [given]; rw [if_pos HK0.out]
              have hmeas := meas_each (p := p) HEV.out hbx
              have HBX := Lib.hid hbx
              have HTK := Lib.hid htk
              have HH := Lib.hid hh
              have HHC := Lib.hid hhc
              have HGV := Lib.hid hgv
              have HMEAS := Lib.hid hmeas
              obtain ⟨w4, hw4⟩ : ∃ w4, w4 = wr.alloc (.cells (hdRow h) 51) := ⟨_, rfl⟩
              have hb11 : HB w4 wr.heap.size h := by rw [hw4]; exact heap_alloc_new wr _
              have hB4 : Below wr.heap.size wr w4 := by rw [hw4]; exact balloc (Below.refl _ _) _
              have hs4 := hB4.size
              have l11 := lt_of_block hb11
              have HW4 := Lib.hid hw4
              have HB11 := Lib.hid hb11
              have HB4 := Lib.hid hB4
              clear hcell hx hbx htk hh hhc hgv hmeas hw4 hb11 hB4 ha hDb hp0
              go_wp2_with fail
              rw [show wr.alloc (.cells #[.int .i64 h.k, .int .i64 h.n, .int .i64 h.c, .string h.s] 51) = w4 from HW4.out.symm]
              refine (pgiven_any (fun b => b < w.heap.size) h p r n aq cq w4 HN.out (fun b hb => by omega) HPP.out.1 (((HSL2.out.keep (HB3.out.mono hs2)).keep (HBR.out.mono hs03)).keep (HB4.out.mono (Nat.le_trans hs03 hsr))) (by omega) hkp (by rw [← HQ.out]; exact hkq) (by have := HHC.out; omega)).mono ?_
              intro e w5 hpo
              unfold GivenPost at hpo
              rw [HGV.out] at hpo
              obtain ⟨⟨a5, c5', rfl, hs5⟩, hb5⟩ := hpo
              have hs5' := hb5.size
              have hsx : SlV w5 w5.heap.size (List.replicate h.c anyP ++ r) a5 c5' := SlD.mono hs5 (fun b hb => by rcases hb with hb | hb; omega; exact hb.2)
              have hb115 : HB w5 wr.heap.size h := blk_below HB11.out hb5 l11
              have d0 : w5.cell? ⟨wr.heap.size, 0, none⟩ = some (.int .i64 h.k) := blk_cell hb115 0
              have d1 : w5.cell? ⟨wr.heap.size, 1, none⟩ = some (.int .i64 h.n) := blk_cell hb115 1
              have d2 : w5.cell? ⟨wr.heap.size, 2, none⟩ = some (.int .i64 h.c) := blk_cell hb115 2
              have d3 : w5.cell? ⟨wr.heap.size, 3, none⟩ = some (.string h.s) := blk_cell hb115 3
              have hB35 : Below w3.heap.size w3 w5 := HBR.out.trans ((HB4.out.trans (hb5.mono hs4)).mono hsr)
              obtain ⟨m, hm⟩ : ∃ m, m = (List.replicate h.c anyP ++ r).length := ⟨_, rfl⟩
              rw [← hm]
              have HMX := Lib.hid hm
              have HSX := Lib.hid hsx
              have HB35 := Lib.hid hB35
              clear hs5 hb5 hsx hb115 hB35 hm e0 e1 e2 e3 hix
              go_wp2_with fail
              rw [HLEN.out]
              refine (pgivens_any h r.length rows ao cap w5 HEV.out ((HMAT2.out.on HB3.out).on HB35.out) (by have := HN.out; simp at this; omega) (by rw [← HLEN.out]; exact hR) HWR.out HHC.out).mono ?_
              rintro e w6 ⟨a6, c6, rfl, hmat6, hb6⟩
              have HMAT6 := Lib.hid hmat6
              have HSX6 := Lib.hid (SlV.on HSX.out hb6)
              have HB36 := Lib.hid (HB35.out.trans (hb6.mono (by omega)))
              have hs6 := hb6.size
              have hgok := givens_ok (h := h) HEV.out
              have HGOK := Lib.hid hgok
              have hlen6 : (rows.filterMap (given h)).length ≤ 1048576 := by
                have h1 := List.length_filterMap_le (given h) rows
                rw [← HLEN.out] at h1
                omega
              have HLEN6 := Lib.hid hlen6
              clear hmat6 hb6 hgok hlen6 d0 d1 d2 d3
              go_wp2_with fail
              rw [HMX.out]
              have hev6 : Even (List.replicate h.c anyP ++ r).length (rows.filterMap (given h)) := by
                have h1 := HGOK.out.1
                rw [List.length_append, List.length_replicate]
                exact h1
              refine (HIH.out (rows.filterMap (given h)) (List.replicate h.c anyP ++ r) (by have h1 := HMEAS.out; have h2 := HM.out; omega) a6 a5 c6 c5' w6 hev6 (properL_append (properL_any _) HPP.out.2) (givens_fits HF.out) (fitsL_append (fitsL_any _) HFF.out.2) (fun _ => HLEN6.out) (by have h1 := HMEAS.out; have h2 := HMM.out; omega) HMAT6.out HSX6.out).mono ?_
              rintro e w7 ⟨rfl, hb7⟩
              have HB37 := Lib.hid (HB36.out.trans (hb7.mono (by omega)))
              have hs7 := hb7.size
              rw [← HLEN.out]
              clear hb7 hev6
              cases hu : usefulD f (rows.filterMap (given h)) (List.replicate h.c anyP ++ r) with
              | true =>
                have HU := Lib.hid hu
                clear hu
                go_wp2_with fail
                go_ret
                refine ⟨?_, HB03.out.trans (HB37.out.mono hs03)⟩
                have : ans = true := by
                  rw [HUD3.out, List.any_eq_true]
                  refine ⟨x, ?_, by rw [← HH.out]; exact HU.out⟩
                  have h1 : x ∈ L.take (j + 1) := by rw [HTK.out]; simp
                  exact List.mem_of_mem_take h1
                rw [this]
                rfl
              | false =>
                have HU := Lib.hid hu
                clear hu
                go_wp2_with fail
                go_roundw
                case rel =>
                  refine ⟨j + 1, hlt, by go_num, ?_, HB37.out⟩
                  intro y hy
                  rw [HTK.out] at hy
                  rcases List.mem_append.1 hy with hy | hy
                  · exact HNO.out y hy
                  · simp only [List.mem_singleton] at hy
                    rw [hy, ← HH.out]
                    exact HU.out
                case measure => simp [intOf]; omega
            · have hd : decide ((j : Int) < (lL : Int)) = false := by simp; omega
              go_wp2_with fail
              go_ret
              refine ⟨?_, HB03.out.trans (HBR.out.mono hs03)⟩
              have : ans = false := by
                rw [HUD3.out, Bool.eq_false_iff]
                intro hc
                rw [List.any_eq_true] at hc
                obtain ⟨x, hx, hxu⟩ := hc
                rw [HNO.out x (by rw [show j = L.length from by rw [← HLL.out]; omega, List.take_length]; exact hx)] at hxu
                cases hxu
              rw [this]
              rfl
        | false =>
          have hud := HUD2.out
          rw [hwh, if_neg (by decide)] at hud
          have HUD3 := Lib.hid hud
          have HMAT3 := Lib.hid (HMAT2.out.on HB3.out)
          clear hud hwh
          go_wp2_with fail
          go_loopw [14, 69] (fun o i wr => ∃ k : Nat, k ≤ len ∧ i = .int .i64 k ∧ OutV w3.heap.size wr o ((rows.take k).filterMap rest1) ∧ Below w3.heap.size w3 wr) (fun _ i _ => len - (intOf i).toNat)
          case atStart => exact ⟨0, Nat.zero_le _, rfl, ⟨[], World.ownsRow_nil _ _ _ _, trivial⟩, Below.refl _ _⟩
          case round =>
            obtain ⟨k, hkl, rfl, hout, hbl⟩ := hrel
            have HOUT := Lib.hid hout
            have HBL := Lib.hid hbl
            have hsr := hbl.size
            clear hout hbl
            by_cases hlt : k < len
            · have hd : decide ((k : Int) < (len : Int)) = true := by simp; omega
              have hkr : k < rows.length := by rw [← HLEN.out]; exact hlt
              obtain ⟨b, off, ai, ci, ha, hb, hcell, hsl⟩ := (MatV.keep HMAT3.out HBL.out).get hkr
              have hix : ∀ w' : World, (Instr.indexAt 38 (.slice ao len cap) (.int .i64 k)).run Try.prog w' = .ok (.pointer (some ⟨b, off + k, none⟩)) w' := by intro w'; have h := index_at Try.underlying38 size46 ha len cap k hlt w'; rwa [Nat.mul_one] at h
              rw [Nat.mul_one] at hcell
              obtain ⟨r', hr⟩ : ∃ r', r' = rows[k] := ⟨_, rfl⟩
              rw [← hr] at hcell hsl
              have hmem : r' ∈ rows := by rw [hr]; exact List.getElem_mem hkr
              obtain ⟨p', ps', rfl⟩ : ∃ p ps, r' = p :: ps := by
                have := (HE.out r' hmem).1
                cases r' with
                | nil => simp at this
                | cons p ps => exact ⟨p, ps, rfl⟩
              obtain ⟨m, hm⟩ : ∃ m, m = (p' :: ps').length := ⟨_, rfl⟩
              rw [← hm] at hcell
              have hm1 : 1 ≤ m := by rw [hm]; simp
              have hm2 : m - 1 = ps'.length := by rw [hm]; simp
              have hmci : m ≤ ci := by rw [hm]; exact hsl.1
              obtain ⟨b2', off2', row, ha2, hb2, hrow, hpv⟩ := hsl.2.get (k := 0) (by simp)
              obtain ⟨aq', cq', rfl, hkq'⟩ := hpv.row
              have hkq' : SlD wr (fun b => b < w3.heap.size) p'.kids aq' cq' := hkq'
              have hix2 : ∀ w' : World, (Instr.indexAt 46 (.slice ai m ci) (.int .i64 0)).run Try.prog w' = .ok (.pointer (some ⟨b2', off2' + 0 * 6, none⟩)) w' := fun w' => index_at Try.underlying46 size26 ha2 m ci 0 (by omega) w'
              rw [show off2' + 0 * 6 = off2' from by omega] at hix2
              have x0 : wr.cell? ⟨b2', off2', none⟩ = some (.int .i64 p'.k) := hrow 0 (by omega)
              have x1 : wr.cell? ⟨b2', off2' + 1, none⟩ = some (.int .i64 p'.n) := hrow 1 (by omega)
              have x2 : wr.cell? ⟨b2', off2' + 2, none⟩ = some (.int .i64 p'.o) := hrow 2 (by omega)
              have x3 : wr.cell? ⟨b2', off2' + 3, none⟩ = some (.int .i64 p'.a) := hrow 3 (by omega)
              have x4 : wr.cell? ⟨b2', off2' + 4, none⟩ = some (.string p'.s) := hrow 4 (by omega)
              have x5 : wr.cell? ⟨b2', off2' + 5, none⟩ = some (.slice aq' p'.kids.length cq') := hrow 5 (by omega)
              have hpr := properL_cons (HE.out _ hmem).2
              have htf := take_fm hkr rest1
              rw [← hr] at htf
              have HPR := Lib.hid hpr
              have HTF := Lib.hid htf
              have HKQ' := Lib.hid hkq'
              have HSL' := Lib.hid hsl
              have HM2 := Lib.hid hm2
              clear ha hr hm hmem hsl ha2 hrow hpv hkq' hpr htf hb hb2 hm2
              go_wp2_with fail
              refine (pbare_any (fun b => b < w3.heap.size) p' aq' cq' wr (fun b hb => by omega) HPR.out.1 HKQ'.out).mono ?_
              rintro e w4 ⟨ab', cb', rfl, _, hb4⟩
              obtain ⟨q', hq'⟩ : ∃ q', q' = bare p' := ⟨_, rfl⟩
              rw [← hq']
              have HQ' := Lib.hid hq'
              have HB4 := Lib.hid hb4
              have hs4 := hb4.size
              have hfld : ∀ w' : World, (Instr.field 26 (.agg #[.int .i64 q'.k, .int .i64 q'.n, .int .i64 q'.o, .int .i64 q'.a, .string q'.s, .slice ab' q'.kids.length cb']) 0).run Try.prog w' = .ok (.int .i64 q'.k) w' := fun w' => field0 _ _ _ _ _ _ w'
              clear hq' hb4 x0 x1 x2 x3 x4 x5 hix hix2 hcell
              unfold rowOf
              by_cases hk0 : q'.k = 0
              · have hr1 : rest1 (p' :: ps') = some ps' := by simp only [rest1]; rw [← HQ'.out, if_pos hk0]
                have hkb : (q'.k == 0) = true := by simp [hk0]
                have htf := HTF.out
                rw [hr1] at htf
                obtain ⟨xs0, hox0, _⟩ := HOUT.out
                obtain ⟨xs, hox, hsx⟩ := HOUT.out.on HB4.out
                obtain ⟨Lo, hLo⟩ : ∃ Lo, Lo = (rows.take k).filterMap rest1 := ⟨_, rfl⟩
                rw [← hLo] at hox hsx htf hox0
                obtain ⟨lk, hlk⟩ : ∃ lk, lk = Lo.length := ⟨_, rfl⟩
                rw [← hlk] at hox hox0
                have hlkb : lk ≤ 1048576 := by
                  have h1 := List.length_filterMap_le rest1 (rows.take k)
                  rw [← hLo, ← hlk, List.length_take] at h1
                  omega
                have hslT := tail_slD (HSL'.out.keep (below_cells (HB4.out.mono hsr)))
                have hsD : SlD w4 (fun b => b < w4.heap.size ∧ Value.ownBlock u14 ≠ some b) ps' (tailA ai ci) (ci - 1) := hslT.mono fun b hb => by
                  refine ⟨by omega, fun e => ?_⟩
                  have := hox0.lt b e
                  omega
                have hB34 : Below w3.heap.size w3 w4 := HBL.out.trans (HB4.out.mono hsr)
                have hlt14 : ∀ g, Value.ownBlock u14 = some g → w3.heap.size ≤ g := fun g e => (hox0.lt g e).1
                obtain ⟨at', hat'⟩ : ∃ at', at' = tailA ai ci := ⟨_, rfl⟩
                rw [← hat'] at hsD
                have hslr : ∀ w' : World, (Instr.slice 46 (.slice ai m ci) (some (.int .i64 1)) none none).run Try.prog w' = .ok (.slice at' (m - 1) (ci - 1)) w' := by rw [hat']; exact slice1 46 Try.underlying46 ai m ci hm1 hmci
                have HOX := Lib.hid hox
                have HSX := Lib.hid hsx
                have HLK := Lib.hid hlk
                have HTF2 := Lib.hid htf
                have HSD := Lib.hid hsD
                have HB34 := Lib.hid hB34
                have HLT14 := Lib.hid hlt14
                have hs34 := hB34.size
                clear hox hsx hlk htf hsD hB34 hlt14 hox0 hslT hr1 hLo hk0 hat'
                go_wp2_with (first | (at_builtin; go_must (refine wpList_append3 rfl (.tmp 79) (.tmp 82) 38 38 rfl w3.heap.size 46 46 i46 _ 1 24 Try.underlying38 Try.underlying38 HI46.out hy0 hy1 hy2 rfl (by decide) u14 lk xs rfl (HOX.out.alloc _) (some ⟨w4.heap.size, 0, none⟩) 1 1 [.slice at' (m - 1) (ci - 1)] rfl rfl (fun _ => ⟨_, rfl, new_cells (c := #[.slice at' (m - 1) (ci - 1)]) _ rfl⟩) (by simp [Value.oneCell']) (by unfold maxLen; omega) (by omega) (by simp; omega) ?_; intro v5 w5 hown5 hg5 hat5)))
                go_roundw
                case rel =>
                  refine ⟨k + 1, hlt, by go_num, ?_, ?_⟩
                  · rw [HTF2.out]
                    rw [HM2.out] at hown5
                    exact OutV.snoc HLK.out HOX.out HSX.out HSD.out hown5 hg5 hat5
                  · exact (HB34.out.alloc hs34 _).grown hg5 (by simp; omega) (fun g e => HLT14.out g e)
                case measure => simp [intOf]; omega
              · have hr1 : rest1 (p' :: ps') = none := by simp only [rest1]; rw [← HQ'.out, if_neg hk0]
                have hkb : (q'.k == 0) = false := by simp [hk0]
                have htf := HTF.out
                rw [hr1] at htf
                have HTF2 := Lib.hid htf
                clear hk0 hr1 htf
                go_wp2_with fail
                go_roundw
                case rel =>
                  refine ⟨k + 1, hlt, by go_num, ?_, HBL.out.trans (HB4.out.mono hsr)⟩
                  rw [HTF2.out]
                  simpa using HOUT.out.on HB4.out
                case measure => simp [intOf]; omega
            · have hd : decide ((k : Int) < (len : Int)) = false := by simp; omega
              have hk : k = rows.length := by rw [← HLEN.out]; omega
              obtain ⟨xs, hox, hsx⟩ := HOUT.out
              rw [hk, List.take_length] at hox hsx
              obtain ⟨a5, c5', rfl⟩ := own_slice hox
              have hmat := mat_own (D := fun b => b < wr.heap.size) hox (fun b _ h => h) (hsx.mono fun b h => h.1) rfl
              have hn2 : n - 1 = r.length := by rw [HN.out]; simp
              have hncq : n ≤ cq := by rw [HN.out]; exact HSL.out.1
              have hslr : ∀ w' : World, (Instr.slice 46 (.slice aq n cq) (some (.int .i64 1)) none none).run Try.prog w' = .ok (.slice (tailA aq cq) (n - 1) (cq - 1)) w' := slice1 46 Try.underlying46 aq n cq hn1 hncq
              have hro := rest1_ok HEV.out
              have hlen6 : (rows.filterMap rest1).length ≤ 1048576 := by
                have h1 := List.length_filterMap_le rest1 rows
                rw [← HLEN.out] at h1
                omega
              have hB0r : Below W2.heap.size W2 wr := HB3.out.trans (HBL.out.mono hs3)
              have hsT : SlV wr wr.heap.size r (tailA aq cq) (cq - 1) := (tail_slD ((HSL2.out.keep (HB3.out.mono hs2)).keep (HBL.out.mono hs03))).mono (fun b hb => by omega)
              have hme := meas_rest (p := p) HEV.out
              have HMATR := Lib.hid hmat
              have HN2 := Lib.hid hn2
              have HRO := Lib.hid hro
              have HLEN6 := Lib.hid hlen6
              have HST := Lib.hid hsT
              have HME := Lib.hid hme
              obtain ⟨at', hat'⟩ : ∃ at', at' = tailA aq cq := ⟨_, rfl⟩
              rw [← hat'] at hslr
              have HAT := Lib.hid hat'
              have hst2 := HST.out
              rw [← hat'] at hst2
              have HST2 := Lib.hid hst2
              have HB0R := Lib.hid hB0r
              clear hk hox hsx hmat hn2 hro hlen6 hB0r hsT hme hat' hst2
              go_wp2_with fail
              rw [HN2.out]
              refine (HIH.out (rows.filterMap rest1) r (by have h1 := HME.out; have h2 := HM.out; omega) a5 at' c5' (cq - 1) wr HRO.out.1 HPP.out.2 (rests1_fits HF.out) HFF.out.2 (fun _ => HLEN6.out) (by have h1 := HME.out; have h2 := HMM.out; omega) HMATR.out HST2.out).mono ?_
              rintro e w7 ⟨rfl, hb7⟩
              have HB37 := Lib.hid (HBL.out.trans (hb7.mono hsr))
              clear hb7
              go_wp2_with fail
              go_ret
              exact ⟨by rw [HUD3.out]; rfl, HB03.out.trans (HB37.out.mono hs03)⟩
      · have hkb : (q.k != 0) = true := by simp [hk0]
        obtain ⟨h, hh⟩ : ∃ h, h = headOf q := ⟨_, rfl⟩
        have hgv : given h (p :: r) = some (q.kids ++ r) := by simp only [given]; rw [← HQ.out, if_neg hk0, if_pos hh.symm]
        have hud := HUD.out
        rw [if_pos hk0, ← hh, ← HANS.out] at hud
        have hhc : h.c ≤ 1000000 := by
          have h1 := (proper_bare HPP.out.1).2.2.2.1
          have h2 := kids_le HQP.out
          have h3 := HWQ.out
          rw [← HQ.out] at h1
          rw [wtL] at h3
          rw [hh]
          show q.kids.length ≤ 1000000
          omega
        have hmeas : meas (rows.filterMap (given h)) (q.kids ++ r) < meas rows (p :: r) := by
          have := meas_head HEV.out HPP.out.1 (by rw [← HQ.out]; exact hk0)
          rw [← HQ.out, ← hh] at this
          exact this
        have HUD2 := Lib.hid hud
        have HGV := Lib.hid hgv
        have HH := Lib.hid hh
        have HHC := Lib.hid hhc
        have HMEAS := Lib.hid hmeas
        clear hk0 hh hgv hud hhc hmeas
        go_wp2_with fail
        refine (phead_any q ab cb W2 hkq).mono ?_
        rintro e w3 ⟨rfl, hb3⟩
        rw [← HH.out]
        have HB3 := Lib.hid hb3
        have hs3 := hb3.size
        clear hb3
        go_wp2_with fail
        refine (pgiven_any (fun b => b < w.heap.size) h p r n aq cq w3 HN.out (fun b hb => by omega) HPP.out.1 ((HSL2.out.keep (HB3.out.mono hs2))) (by omega) hkp (by rw [← HQ.out]; exact hkq) (by have := HHC.out; omega)).mono ?_
        intro e w4 hpo
        unfold GivenPost at hpo
        rw [HGV.out] at hpo
        obtain ⟨⟨a4, c4', rfl, hs4⟩, hb4⟩ := hpo
        have hs4' := hb4.size
        have hB4 : Below W2.heap.size W2 w4 := HB3.out.trans (hb4.mono hs3)
        have hpb4 : PB w4 w1.heap.size q ab cb := blk_below HB5.out hB4 l5
        have hsx : SlV w4 w4.heap.size (q.kids ++ r) a4 c4' := SlD.mono hs4 (fun b hb => by rcases hb with hb | hb; omega; exact hb.2)
        have d0 : w4.cell? ⟨w1.heap.size, 0, none⟩ = some (.int .i64 q.k) := blk_cell hpb4 0
        have d1 : w4.cell? ⟨w1.heap.size, 1, none⟩ = some (.int .i64 q.n) := blk_cell hpb4 1
        have d2 : w4.cell? ⟨w1.heap.size, 2, none⟩ = some (.int .i64 q.o) := blk_cell hpb4 2
        have d3 : w4.cell? ⟨w1.heap.size, 3, none⟩ = some (.int .i64 q.a) := blk_cell hpb4 3
        have d4 : w4.cell? ⟨w1.heap.size, 4, none⟩ = some (.string q.s) := blk_cell hpb4 4
        have d5 : w4.cell? ⟨w1.heap.size, 5, none⟩ = some (.slice ab q.kids.length cb) := blk_cell hpb4 5
        obtain ⟨m, hm⟩ : ∃ m, m = (q.kids ++ r).length := ⟨_, rfl⟩
        rw [← hm]
        have HMX := Lib.hid hm
        have HB4 := Lib.hid hB4
        have HSX := Lib.hid hsx
        clear hm hs4 hb4 hB4 hpb4 hsx c0 c1 c2 c3 c4 c5
        go_wp2_with fail
        refine (phead_any q ab cb w4 hkq).mono ?_
        rintro e w5 ⟨rfl, hb5⟩
        rw [← HH.out]
        have HB5' := Lib.hid (HB4.out.trans (hb5.mono (Nat.le_trans hs3 hs4')))
        have HSX5 := Lib.hid (SlV.on HSX.out hb5)
        have hs5 := hb5.size
        clear hb5 d0 d1 d2 d3 d4 d5
        go_wp2_with fail
        rw [HLEN.out]
        refine (pgivens_any h r.length rows ao cap w5 HEV.out (HMAT2.out.on HB5'.out) (by have := HN.out; simp at this; omega) (by rw [← HLEN.out]; exact hR) HWR.out HHC.out).mono ?_
        rintro e w6 ⟨a6, c6, rfl, hmat6, hb6⟩
        have HMAT6 := Lib.hid hmat6
        have HSX6 := Lib.hid (SlV.on HSX5.out hb6)
        have HB6 := Lib.hid (HB5'.out.trans (hb6.mono (by omega)))
        have hs6 := hb6.size
        have hgok := givens_ok (h := h) HEV.out
        have HGOK := Lib.hid hgok
        have hlen6 : (rows.filterMap (given h)).length ≤ 1048576 := by
          have h1 := List.length_filterMap_le (given h) rows
          rw [← HLEN.out] at h1
          omega
        have HLEN6 := Lib.hid hlen6
        clear hmat6 hb6 hgok hlen6
        go_wp2_with fail
        rw [HMX.out]
        have hev6 : Even (q.kids ++ r).length (rows.filterMap (given h)) := by
          have h1 := HGOK.out.1
          rw [HH.out] at h1 ⊢
          rw [List.length_append]
          exact h1
        refine (HIH.out (rows.filterMap (given h)) (q.kids ++ r) (by have h1 := HMEAS.out; have h2 := HM.out; omega) a6 a4 c6 c4' w6 hev6 (properL_append HQP.out.kids HPP.out.2) (givens_fits HF.out) (fitsL_append HQF.out.kids HFF.out.2) (fun _ => HLEN6.out) (by have h1 := HMEAS.out; have h2 := HMM.out; omega) HMAT6.out HSX6.out).mono ?_
        rintro e w7 ⟨rfl, hb7⟩
        have HB7 := Lib.hid (HB6.out.trans (hb7.mono (by omega)))
        clear hb7 hev6
        go_wp2_with fail
        go_ret
        exact ⟨by rw [HUD2.out]; rfl, HB2.out.trans (HB7.out.mono hs2)⟩
end Go.Proofs.Ytcieoelogocjkaa
