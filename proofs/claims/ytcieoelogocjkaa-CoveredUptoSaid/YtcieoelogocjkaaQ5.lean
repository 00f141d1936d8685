/-
  Proved: the contract of the reference's useful. Condition: rows side by side that fit.
-/
import Derived.Test.YtcieoelogocjkaaQ3
import Derived.Test.YtcieoelogocjkaaQ4
set_option linter.unusedSimpArgs false
set_option linter.unusedVariables false
namespace Go.Proofs.Ytcieoelogocjkaa
open Go.RowKit

/-- what a slice of rows that one builds holds, the patterns below N -/
def OutD (e : TypeId) (B N : Nat) (w : World) (v : Value) (L : List (List Pt)) : Prop := ∃ xs, w.ownsRow B e 1 v L.length xs ∧ SlvL w (fun b => b < N) L xs
theorem OutD.on {e : TypeId} {B N : Nat} {w w' : World} {v : Value} {L : List (List Pt)} (h : OutD e B N w v L) (hb : Below w.heap.size w w') (hN : N ≤ w.heap.size) : OutD e B N w' v L := by
  obtain ⟨xs, h1, h2⟩ := h
  exact ⟨xs, own_on h1 hb, h2.keep fun b h => below_cells hb b (Nat.lt_of_lt_of_le h hN)⟩
theorem own_set6 {w : World} {B n e size b : Nat} {v : Value} {xs : List Value} {p q : Pt} {ap aq : Option Addr} {cp cq : Nat} (h : w.ownsRow B e size v n xs) (hp : PB w b p ap cp) (he : 26 ≠ e) : (set6 w b q aq cq).ownsRow B e size v n xs := by
  have h0 := own_set h hp he 0 (.int .i64 q.k)
  have b0 := blk_set hp 0 (.int .i64 q.k)
  have h1 := own_set h0 b0 he 1 (.int .i64 q.n)
  have b1 := blk_set b0 1 (.int .i64 q.n)
  have h2 := own_set h1 b1 he 2 (.int .i64 q.o)
  have b2 := blk_set b1 2 (.int .i64 q.o)
  have h3 := own_set h2 b2 he 3 (.int .i64 q.a)
  have b3 := blk_set b2 3 (.int .i64 q.a)
  have h4 := own_set h3 b3 he 4 (.string q.s)
  have b4 := blk_set b3 4 (.string q.s)
  exact own_set h4 b4 he 5 (.slice aq q.kids.length cq)
theorem size_set6 (w : World) (b : Nat) (q : Pt) (aq : Option Addr) (cq : Nat) : (set6 w b q aq cq).heap.size = w.heap.size := by simp [set6, World.setCell]
theorem SlV.upto {w : World} {N : Nat} {l : List Pt} {a : Option Addr} {c : Nat} (h : SlV w N l a c) (hN : N ≤ w.heap.size) : SlV w w.heap.size l a c := SlV.mono h hN

set_option maxRecDepth 100000 in
set_option maxHeartbeats 8000000 in
theorem ruseful_any : ∀ (f : Nat) (rows : List (List Pt)) (q : List Pt), meas rows q < f → ∀ (ao aq : Option Addr) (cap cq : Nat) (w : World), Even q.length rows → ProperL q → FitsR rows → FitsL q → (q ≠ [] → rows.length ≤ 1048576) → meas rows q ≤ 1000000 →
    MatV w w.heap.size rows ao cap → SlV w w.heap.size q aq cq →
    Calls Try.prog 20 #[.slice ao rows.length cap, .slice aq q.length cq] w fun e w' => e = .returned (.bool (usefulD f rows q)) ∧ Below w.heap.size w w' := by
  obtain ⟨i46, hi, hy0, hy1, hy2⟩ := info_parts info23
  have HI46 := Lib.hid hi
  clear hi
  intro f
  induction f with
  | zero => intro rows q h; omega
  | succ f IH =>
    intro rows q hm ao aq cap cq w hE hP hF hFq hR hM hmat hsl
    obtain ⟨n, hn⟩ : ∃ n, n = q.length := ⟨_, rfl⟩
    obtain ⟨len, hlen⟩ : ∃ len, len = rows.length := ⟨_, rfl⟩
    rw [← hn, ← hlen]
    rw [← hlen] at hR
    have hwR : wtR rows ≤ 1000000 := by unfold meas at hM; omega
    have hwq : wtL q ≤ 1000000 := by unfold meas at hM; omega
    have hnb : n ≤ 1000000 := by unfold meas at hM; omega
    have HIH := Lib.hid IH
    have HM := Lib.hid hm
    have HE := Lib.hid hE
    have HP := Lib.hid hP
    have HF := Lib.hid hF
    have HFQ := Lib.hid hFq
    have HMM := Lib.hid hM
    have HMAT := Lib.hid hmat
    have HSL := Lib.hid hsl
    have HN := Lib.hid hn
    have HLEN := Lib.hid hlen
    have HWR := Lib.hid hwR
    have HWQ := Lib.hid hwq
    clear IH hm hE hP hF hFq hM hmat hsl hn hlen hwR hwq
    cases q with
    | nil =>
      have hn0 : ((n : Int) == 0) = true := by rw [HN.out]; rfl
      go_enter Try.func20, Try.ntmps20
      go_wp2_with fail
      go_ret
      exact ⟨by rw [usefulD_nil, empty_beq len rows HLEN.out]; rfl, Below.refl _ _⟩
    | cons p r =>
      have hR := hR (by simp)
      have hn1 : 1 ≤ n := by rw [HN.out]; simp
      have hn0 : ((n : Int) == 0) = false := by simp; omega
      have hpp := properL_cons HP.out
      have hff := fitsL_cons HFQ.out
      have hev : Even (r.length + 1) rows := HE.out
      obtain ⟨q, hq⟩ : ∃ q, q = bare p := ⟨_, rfl⟩
      have hqp : Proper q := by rw [hq]; exact (proper_bare hpp.1).1
      have hqf : Fits q := by rw [hq]; exact fits_bare hff.1
      have hkp : p.kids.length ≤ 1048576 := by
        have h1 := kids_le hpp.1
        have h2 := HWQ.out
        rw [wtL] at h2
        omega
      have hkq : q.kids.length ≤ 1048576 := by
        have h1 := kids_le hqp
        have h2 := (proper_bare hpp.1).2.2.2.1
        have h3 := HWQ.out
        rw [← hq] at h2
        rw [wtL] at h3
        omega
      obtain ⟨b2, off2, row, ha2, hb2, hrow, hpv⟩ := HSL.out.2.get (k := 0) (by simp)
      obtain ⟨aq2, cq2, rfl, hkv⟩ := hpv.row
      have hkv : SlD w (fun b => b < w.heap.size) p.kids aq2 cq2 := hkv
      have hix2 : ∀ w' : World, (Instr.indexAt 23 (.slice aq n cq) (.int .i64 0)).run Try.prog w' = .ok (.pointer (some ⟨b2, off2 + 0 * 6, none⟩)) w' := fun w' => index_at Try.underlying23 size26 ha2 n cq 0 (by omega) w'
      rw [show off2 + 0 * 6 = off2 from by omega] at hix2
      have x0 : w.cell? ⟨b2, off2, none⟩ = some (.int .i64 p.k) := hrow 0 (by omega)
      have x1 : w.cell? ⟨b2, off2 + 1, none⟩ = some (.int .i64 p.n) := hrow 1 (by omega)
      have x2 : w.cell? ⟨b2, off2 + 2, none⟩ = some (.int .i64 p.o) := hrow 2 (by omega)
      have x3 : w.cell? ⟨b2, off2 + 3, none⟩ = some (.int .i64 p.a) := hrow 3 (by omega)
      have x4 : w.cell? ⟨b2, off2 + 4, none⟩ = some (.string p.s) := hrow 4 (by omega)
      have x5 : w.cell? ⟨b2, off2 + 5, none⟩ = some (.slice aq2 p.kids.length cq2) := hrow 5 (by omega)
      have HPP := Lib.hid hpp
      have HFF := Lib.hid hff
      have HEV := Lib.hid hev
      have HQ := Lib.hid hq
      have HQP := Lib.hid hqp
      have HQF := Lib.hid hqf
      have HKV := Lib.hid hkv
      have hud := usefulD_cons f rows p r
      rw [← hq] at hud
      have HUD := Lib.hid hud
      obtain ⟨ans, hans⟩ : ∃ ans, ans = usefulD (f + 1) rows (p :: r) := ⟨_, rfl⟩
      rw [← hans]
      have HANS := Lib.hid hans
      clear hpp hff hev hq hqp hqf hkv ha2 hb2 hrow hpv hud hans
      go_enter Try.func20, Try.ntmps20
      go_wp2_with fail
      refine (rbare_any (fun b => b < w.heap.size) p aq2 cq2 w (fun b hb => hb) HPP.out.1 HKV.out).mono ?_
      rintro e w1 ⟨ab, cb, rfl, hsb, hb1⟩
      rw [← HQ.out] at hsb ⊢
      obtain ⟨W2, hW2⟩ : ∃ W2, W2 = w1.alloc (.cells (rowOf q ab cb) 26) := ⟨_, rfl⟩
      have hb5 : PB W2 w1.heap.size q ab cb := by rw [hW2]; exact heap_alloc_new w1 _
      have hB2 : Below w.heap.size w W2 := by rw [hW2]; exact balloc hb1 _
      have hmat2 : MatV W2 W2.heap.size rows ao cap := HMAT.out.on hB2
      have hsl2 : SlV W2 w.heap.size (p :: r) aq cq := HSL.out.keep hB2
      have c0 : W2.cell? ⟨w1.heap.size, 0, none⟩ = some (.int .i64 q.k) := blk_cell hb5 0
      have c1 : W2.cell? ⟨w1.heap.size, 1, none⟩ = some (.int .i64 q.n) := blk_cell hb5 1
      have c2 : W2.cell? ⟨w1.heap.size, 2, none⟩ = some (.int .i64 q.o) := blk_cell hb5 2
      have c3 : W2.cell? ⟨w1.heap.size, 3, none⟩ = some (.int .i64 q.a) := blk_cell hb5 3
      have c4 : W2.cell? ⟨w1.heap.size, 4, none⟩ = some (.string q.s) := blk_cell hb5 4
      have c5 : W2.cell? ⟨w1.heap.size, 5, none⟩ = some (.slice ab q.kids.length cb) := blk_cell hb5 5
      have l5 := lt_of_block hb5
      have hs1 := hb1.size
      have hs2 := hB2.size
      have HW2 := Lib.hid hW2
      have HB5 := Lib.hid hb5
      have HB2 := Lib.hid hB2
      have HMAT2 := Lib.hid hmat2
      have HSL2 := Lib.hid hsl2
      clear hsb hW2 hb5 hB2 hmat2 hsl2 hb1 x0 x1 x2 x3 x4 x5 hix2
      unfold rowOf
      go_upto_region 4 with fail
      rw [show (w1.alloc (.cells #[.int .i64 q.k, .int .i64 q.n, .int .i64 q.o, .int .i64 q.a, .string q.s, .slice ab q.kids.length cb] 26)) = W2 from HW2.out.symm]
      by_cases hk0 : q.k = 0
      · rw [hk0] at c0
        have hud := HUD.out
        rw [if_neg (by rw [hk0]; decide), ← HANS.out] at hud
        have hk0b : (bare p).k = 0 := by rw [← HQ.out]; exact hk0
        have HK0 := Lib.hid hk0b
        obtain ⟨L, hL⟩ : ∃ L, L = firsts rows := ⟨_, rfl⟩
        rw [← hL] at hud
        have HUD2 := Lib.hid hud
        have HL := Lib.hid hL
        clear hk0 hk0b hud hL
        go_wp2_with fail
        rw [HLEN.out]
        refine (rfirsts_any r.length rows ao cap W2 HEV.out HMAT2.out (by rw [← HLEN.out]; exact hR) HWR.out).mono ?_
        rintro e w3 ⟨aL, cL, rfl, hds, hb3⟩
        rw [← HL.out] at hds ⊢
        have hLf : ∀ x ∈ L, Fits x := by rw [HL.out]; exact firsts_fits HF.out
        have hLb : ∀ x ∈ L, Begins (headOf x) rows := by rw [HL.out]; exact fun x hx => (firsts_begins x hx).1
        have hlLb : L.length ≤ 1048576 := by
          have h1 := firstsG_len rows []
          rw [show firstsG rows [] = L from HL.out.symm, ← HLEN.out] at h1
          simp only [List.length_nil] at h1
          omega
        have hs3 := hb3.size
        have HLF := Lib.hid hLf
        have HLB := Lib.hid hLb
        have HDS := Lib.hid hds
        have HLLB := Lib.hid hlLb
        have HB3 := Lib.hid hb3
        have HB03 := Lib.hid (HB2.out.trans (hb3.mono hs2))
        have hs03 := HB03.out.size
        have HMAT3 := Lib.hid (HMAT2.out.on HB3.out)
        have HPB3 := Lib.hid (blk_below HB5.out HB3.out l5)
        clear hds hlLb hb3 c0 c1 c2 c3 c4 c5 hLf hLb
        go_wp2_with fail
        refine (rwhole_any (fun b => b < w3.heap.size) L aL cL w3 HDS.out HLLB.out HLF.out).mono ?_
        rintro e w3' ⟨rfl, hw3'⟩
        have hw3s := hw3'.symm
        subst hw3s
        clear hw3'
        rw [← HLEN.out]
        obtain ⟨lL, hlL⟩ : ∃ lL, lL = L.length := ⟨_, rfl⟩
        rw [← hlL]
        have hlLb : lL ≤ 1048576 := by rw [hlL]; exact HLLB.out
        have HLL := Lib.hid hlL
        clear hlL
        cases hwh : whole L with
        | true =>
          have hud := HUD2.out
          rw [hwh, if_pos rfl] at hud
          have HUD3 := Lib.hid hud
          clear hud hwh
          go_wp2_with fail
          go_loopw [10] (fun i wr => ∃ j : Nat, j ≤ lL ∧ i = .int .i64 j ∧ (∀ x ∈ L.take j, usefulD f (rows.filterMap (given (headOf x))) (List.replicate (headOf x).c anyP ++ r) = false) ∧ Below w3.heap.size w3 wr) (fun i _ => lL - (intOf i).toNat)
          case atStart => exact ⟨0, Nat.zero_le _, rfl, fun x hx => by simp at hx, Below.refl _ _⟩
          case round =>
            obtain ⟨j, hjl, rfl, hno, hbr⟩ := hrel
            have HNO := Lib.hid hno
            have HBR := Lib.hid hbr
            have hsr := hbr.size
            clear hno hbr
            by_cases hlt : j < lL
            · have hd : decide ((j : Int) < (lL : Int)) = true := by simp; omega
              have hjL : j < L.length := by rw [← HLL.out]; exact hlt
              obtain ⟨b, off, row, ha, hDb, hrow, hpv⟩ := (SlV.keep HDS.out HBR.out).2.get (k := j) hjL
              obtain ⟨ax, cx, rfl, hkx⟩ := hpv.row
              obtain ⟨x, hx⟩ : ∃ x, x = L[j] := ⟨_, rfl⟩
              rw [← hx] at hrow hkx
              have hxm : x ∈ L := by rw [hx]; exact List.getElem_mem hjL
              have hbx : Begins (headOf x) rows := HLB.out x hxm
              have htk : L.take (j + 1) = L.take j ++ [x] := by rw [List.take_succ_eq_append_getElem hjL, hx]
              obtain ⟨h, hh⟩ : ∃ h, h = headOf x := ⟨_, rfl⟩
              rw [← hh] at hbx
              have hix : ∀ w' : World, (Instr.indexAt 23 (.slice aL lL cL) (.int .i64 j)).run Try.prog w' = .ok (.pointer (some ⟨b, off + j * 6, none⟩)) w' := fun w' => index_at Try.underlying23 size26 ha lL cL j hlt w'
              rw [Nat.zero_add] at hrow
              obtain ⟨p0, hp0⟩ : ∃ p0, p0 = off + j * 6 := ⟨_, rfl⟩
              rw [← hp0] at hix hrow
              have e0 : wr.cell? ⟨b, p0, none⟩ = some (.int .i64 x.k) := hrow 0 (by omega)
              have e1 : wr.cell? ⟨b, p0 + 1, none⟩ = some (.int .i64 x.n) := hrow 1 (by omega)
              have e2 : wr.cell? ⟨b, p0 + 2, none⟩ = some (.int .i64 x.o) := hrow 2 (by omega)
              have e3 : wr.cell? ⟨b, p0 + 3, none⟩ = some (.int .i64 x.a) := hrow 3 (by omega)
              have e4 : wr.cell? ⟨b, p0 + 4, none⟩ = some (.string x.s) := hrow 4 (by omega)
              have e5 : wr.cell? ⟨b, p0 + 5, none⟩ = some (.slice ax x.kids.length cx) := hrow 5 (by omega)
              have hhc : h.c ≤ 1000000 := by
                have h1 := givens_less HEV.out hbx
                have h2 := HWR.out
                omega
              have hxc : x.kids.length ≤ 1000000 := by rw [hh] at hhc; exact hhc
              have hgv : given h (p :: r) = some (List.replicate h.c anyP ++ r) := by simp only [given]; rw [if_pos HK0.out]
              have hmeas := meas_each (p := p) HEV.out hbx
              have hbw3 : b < w3.heap.size := hDb
              have HBX := Lib.hid hbx
              have HTK := Lib.hid htk
              have HH := Lib.hid hh
              have HHC := Lib.hid hhc
              have HGV := Lib.hid hgv
              have HMEAS := Lib.hid hmeas
              have HXM := Lib.hid hxm
              clear hrow hpv hkx hx hbx htk hh hhc hgv hmeas ha hDb hp0 hxm hjL
              go_wp2_with fail
              refine (rrest_any (fun b => b < w.heap.size) x ax cx p r n aq cq wr HN.out (fun b hb => by omega) HPP.out.1 ((HSL2.out.keep (HB3.out.mono hs2)).keep (HBR.out.mono hs03)) (by omega) hkp (by rw [← HQ.out]; exact hkq) (by omega)).mono ?_
              rintro e w5 ⟨⟨a5, n5, c5', bo, rfl, hres⟩, hb5⟩
              rw [← HH.out, HGV.out] at hres
              obtain ⟨hbo, hn5, hs5⟩ : bo = true ∧ n5 = (List.replicate h.c anyP ++ r).length ∧ SlD w5 (fun b => b < w.heap.size ∨ (wr.heap.size ≤ b ∧ b < w5.heap.size)) (List.replicate h.c anyP ++ r) a5 c5' := hres
              have hs5' := hb5.size
              have hsx : SlV w5 w5.heap.size (List.replicate h.c anyP ++ r) a5 c5' := SlD.mono hs5 (fun b hb => by rcases hb with hb | hb; omega; exact hb.2)
              have ecell : ∀ o, w5.cell? ⟨b, o, none⟩ = wr.cell? ⟨b, o, none⟩ := fun o => hb5.cell (p := ⟨b, o, none⟩) (by show b < _; omega)
              have d0 := (ecell p0).trans e0
              have d1 := (ecell (p0 + 1)).trans e1
              have d2 := (ecell (p0 + 2)).trans e2
              have d3 := (ecell (p0 + 3)).trans e3
              have d4 := (ecell (p0 + 4)).trans e4
              have d5 := (ecell (p0 + 5)).trans e5
              have hB35 : Below w3.heap.size w3 w5 := HBR.out.trans (hb5.mono hsr)
              have HMX := Lib.hid hn5
              have HSX := Lib.hid hsx
              have HB35 := Lib.hid hB35
              clear hbo hn5 hs5 hb5 hsx hB35 e0 e1 e2 e3 e4 e5 ecell
              go_wp2_with fail
              rw [HLEN.out]
              refine (rrests_any x ax cx r.length rows ao cap w5 HEV.out (HMAT3.out.on HB35.out) (by have := HN.out; simp at this; omega) (by rw [← HLEN.out]; exact hR) HWR.out hxc).mono ?_
              rintro e w6 ⟨a6, c6, rfl, hmat6, hb6⟩
              rw [← HH.out] at hmat6 ⊢
              have HMAT6 := Lib.hid hmat6
              have HSX6 := Lib.hid (SlV.on HSX.out hb6)
              have HB36 := Lib.hid (HB35.out.trans (hb6.mono (by omega)))
              have hs6 := hb6.size
              have hgok := givens_ok (h := h) HEV.out
              have HGOK := Lib.hid hgok
              have hlen6 : (rows.filterMap (given h)).length ≤ 1048576 := by
                have h1 := List.length_filterMap_le (given h) rows
                rw [← HLEN.out] at h1
                omega
              have HLEN6 := Lib.hid hlen6
              clear hmat6 hb6 hgok hlen6 d0 d1 d2 d3 d4 d5 hix
              go_wp2_with fail
              rw [HMX.out]
              have hev6 : Even (List.replicate h.c anyP ++ r).length (rows.filterMap (given h)) := by
                have h1 := HGOK.out.1
                rw [List.length_append, List.length_replicate]
                exact h1
              refine (HIH.out (rows.filterMap (given h)) (List.replicate h.c anyP ++ r) (by have h1 := HMEAS.out; have h2 := HM.out; omega) a6 a5 c6 c5' w6 hev6 (properL_append (properL_any _) HPP.out.2) (givens_fits HF.out) (fitsL_append (fitsL_any _) HFF.out.2) (fun _ => HLEN6.out) (by have h1 := HMEAS.out; have h2 := HMM.out; omega) HMAT6.out HSX6.out).mono ?_
              rintro e w7 ⟨rfl, hb7⟩
              have HB37 := Lib.hid (HB36.out.trans (hb7.mono (by omega)))
              have hs7 := hb7.size
              rw [← HLEN.out]
              clear hb7 hev6
              cases hu : usefulD f (rows.filterMap (given h)) (List.replicate h.c anyP ++ r) with
              | true =>
                have HU := Lib.hid hu
                clear hu
                go_wp2_with fail
                go_ret
                refine ⟨?_, HB03.out.trans (HB37.out.mono hs03)⟩
                have : ans = true := by
                  rw [HUD3.out, List.any_eq_true]
                  refine ⟨x, ?_, by rw [← HH.out]; exact HU.out⟩
                  have h1 : x ∈ L.take (j + 1) := by rw [HTK.out]; simp
                  exact List.mem_of_mem_take h1
                rw [this]
                rfl
              | false =>
                have HU := Lib.hid hu
                clear hu
                go_wp2_with fail
                go_roundw
                case rel =>
                  refine ⟨j + 1, hlt, by go_num, ?_, HB37.out⟩
                  intro y hy
                  rw [HTK.out] at hy
                  rcases List.mem_append.1 hy with hy | hy
                  · exact HNO.out y hy
                  · simp only [List.mem_singleton] at hy
                    rw [hy, ← HH.out]
                    exact HU.out
                case measure => simp [intOf]; omega
            · have hd : decide ((j : Int) < (lL : Int)) = false := by simp; omega
              go_wp2_with fail
              go_ret
              refine ⟨?_, HB03.out.trans (HBR.out.mono hs03)⟩
              have : ans = false := by
                rw [HUD3.out, Bool.eq_false_iff]
                intro hc
                rw [List.any_eq_true] at hc
                obtain ⟨x, hx, hxu⟩ := hc
                rw [HNO.out x (by rw [show j = L.length from by rw [← HLL.out]; omega, List.take_length]; exact hx)] at hxu
                cases hxu
              rw [this]
              rfl
        | false =>
          have hud := HUD2.out
          rw [hwh, if_neg (by decide)] at hud
          have HUD3 := Lib.hid hud
          clear hud hwh
          go_wp2_with fail
          go_loopw [14, 15] (fun o i wr => ∃ k : Nat, k ≤ len ∧ i = .int .i64 k ∧ OutD 23 w3.heap.size w.heap.size wr o ((rows.take k).filterMap rest1) ∧ (∃ q1 a1 k1, PB wr w1.heap.size q1 a1 k1) ∧ Below w.heap.size w wr ∧ w3.heap.size ≤ wr.heap.size) (fun _ i _ => len - (intOf i).toNat)
          case atStart => exact ⟨0, Nat.zero_le _, rfl, ⟨[], World.ownsRow_nil _ _ _ _, trivial⟩, ⟨_, _, _, HPB3.out⟩, HB03.out, Nat.le_refl _⟩
          case round =>
            obtain ⟨k, hkl, rfl, hout, ⟨q1, a1, k1, hpb⟩, hbl, hsr⟩ := hrel
            have HOUT := Lib.hid hout
            have HBL := Lib.hid hbl
            have HPB := Lib.hid hpb
            have hszr := hbl.size
            clear hout hbl hpb
            by_cases hlt : k < len
            · have hd : decide ((k : Int) < (len : Int)) = true := by simp; omega
              have hkr : k < rows.length := by rw [← HLEN.out]; exact hlt
              obtain ⟨b, off, ai, ci, ha, hb, hcell, hsl⟩ := (MatV.keep HMAT.out HBL.out).get hkr
              have hix : ∀ w' : World, (Instr.indexAt 22 (.slice ao len cap) (.int .i64 k)).run Try.prog w' = .ok (.pointer (some ⟨b, off + k, none⟩)) w' := by intro w'; have h := index_at Try.underlying22 size23 ha len cap k hlt w'; rwa [Nat.mul_one] at h
              rw [Nat.mul_one] at hcell
              obtain ⟨r', hr⟩ : ∃ r', r' = rows[k] := ⟨_, rfl⟩
              rw [← hr] at hcell hsl
              have hmem : r' ∈ rows := by rw [hr]; exact List.getElem_mem hkr
              obtain ⟨p', ps', rfl⟩ : ∃ p ps, r' = p :: ps := by
                have := (HE.out r' hmem).1
                cases r' with
                | nil => simp at this
                | cons p ps => exact ⟨p, ps, rfl⟩
              obtain ⟨m, hm⟩ : ∃ m, m = (p' :: ps').length := ⟨_, rfl⟩
              rw [← hm] at hcell
              have hm1 : 1 ≤ m := by rw [hm]; simp
              have hm2 : m - 1 = ps'.length := by rw [hm]; simp
              have hmci : m ≤ ci := by rw [hm]; exact hsl.1
              obtain ⟨b2', off2', row, ha2, hb2, hrow, hpv⟩ := hsl.2.get (k := 0) (by simp)
              obtain ⟨aq', cq', rfl, hkq'⟩ := hpv.row
              have hkq' : SlD wr (fun b => b < w.heap.size) p'.kids aq' cq' := hkq'
              have hix2 : ∀ w' : World, (Instr.indexAt 23 (.slice ai m ci) (.int .i64 0)).run Try.prog w' = .ok (.pointer (some ⟨b2', off2' + 0 * 6, none⟩)) w' := fun w' => index_at Try.underlying23 size26 ha2 m ci 0 (by omega) w'
              rw [show off2' + 0 * 6 = off2' from by omega] at hix2
              have x0 : wr.cell? ⟨b2', off2', none⟩ = some (.int .i64 p'.k) := hrow 0 (by omega)
              have x1 : wr.cell? ⟨b2', off2' + 1, none⟩ = some (.int .i64 p'.n) := hrow 1 (by omega)
              have x2 : wr.cell? ⟨b2', off2' + 2, none⟩ = some (.int .i64 p'.o) := hrow 2 (by omega)
              have x3 : wr.cell? ⟨b2', off2' + 3, none⟩ = some (.int .i64 p'.a) := hrow 3 (by omega)
              have x4 : wr.cell? ⟨b2', off2' + 4, none⟩ = some (.string p'.s) := hrow 4 (by omega)
              have x5 : wr.cell? ⟨b2', off2' + 5, none⟩ = some (.slice aq' p'.kids.length cq') := hrow 5 (by omega)
              have hpr := properL_cons (HE.out _ hmem).2
              have htf := take_fm hkr rest1
              rw [← hr] at htf
              have hbw : b < w.heap.size := hb
              have HPR := Lib.hid hpr
              have HTF := Lib.hid htf
              have HKQ' := Lib.hid hkq'
              have HSL' := Lib.hid hsl
              have HM2 := Lib.hid hm2
              clear ha hr hm hmem hsl ha2 hrow hpv hkq' hpr htf hb hb2 hm2
              go_wp2_with fail
              refine (rbare_any (fun b => b < w.heap.size) p' aq' cq' wr (fun b hb => by omega) HPR.out.1 HKQ'.out).mono ?_
              rintro e w4 ⟨ab', cb', rfl, _, hb4⟩
              obtain ⟨q', hq'⟩ : ∃ q', q' = bare p' := ⟨_, rfl⟩
              rw [← hq']
              have HQ' := Lib.hid hq'
              have hs4 := hb4.size
              have hpb4 : PB w4 w1.heap.size q1 a1 k1 := blk_below HPB.out hb4 (lt_of_block HPB.out)
              have c0 : w4.cell? ⟨w1.heap.size, 0, none⟩ = some (.int .i64 q1.k) := blk_cell hpb4 0
              have c1 : w4.cell? ⟨w1.heap.size, 1, none⟩ = some (.int .i64 q1.n) := blk_cell hpb4 1
              have c2 : w4.cell? ⟨w1.heap.size, 2, none⟩ = some (.int .i64 q1.o) := blk_cell hpb4 2
              have c3 : w4.cell? ⟨w1.heap.size, 3, none⟩ = some (.int .i64 q1.a) := blk_cell hpb4 3
              have c4 : w4.cell? ⟨w1.heap.size, 4, none⟩ = some (.string q1.s) := blk_cell hpb4 4
              have c5 : w4.cell? ⟨w1.heap.size, 5, none⟩ = some (.slice a1 q1.kids.length k1) := blk_cell hpb4 5
              have f0 := blk_free hpb4 0
              have f1 := blk_free hpb4 1
              have f2 := blk_free hpb4 2
              have f3 := blk_free hpb4 3
              have f4 := blk_free hpb4 4
              have f5 := blk_free hpb4 5
              have l4 := lt_of_block hpb4
              obtain ⟨W5, hW5⟩ : ∃ W5, W5 = set6 w4 w1.heap.size q' ab' cb' := ⟨_, rfl⟩
              have hB5 : Below w.heap.size wr W5 := by rw [hW5]; exact below_set6 (hb4.mono hszr) hs1
              have hpb5 : PB W5 w1.heap.size q' ab' cb' := by rw [hW5]; exact hpb4.set
              have hs5 : w4.heap.size = W5.heap.size := by rw [hW5, size_set6]
              have hout5 : OutD 23 w3.heap.size w.heap.size W5 u14 ((rows.take k).filterMap rest1) := by
                obtain ⟨xs, ho1, ho2⟩ := HOUT.out.on hb4 hszr
                refine ⟨xs, by rw [hW5]; exact own_set6 ho1 hpb4 (by decide), SlvL.keep (fun d hd off => ?_) ho2⟩
                rw [hW5]
                exact below_cells (below_set6 (q := q') (aq := ab') (cq := cb') (Below.refl w.heap.size w4) hs1) d hd off
              have hcell5 : W5.cell? ⟨b, off + k, none⟩ = some (.slice ai m ci) := (below_cells hB5 b hbw (off + k)).trans hcell
              have g0 : W5.cell? ⟨w1.heap.size, 0, none⟩ = some (.int .i64 q'.k) := blk_cell hpb5 0
              have hslT := tail_slD (HSL'.out.keep (below_cells hB5))
              have hs5' : W5.heap.size = w4.heap.size := hs5.symm
              have HS5 := Lib.hid hs5'
              have HW5 := Lib.hid hW5
              have HB5W := Lib.hid hB5
              have HPB5 := Lib.hid hpb5
              have HOUT5 := Lib.hid hout5
              have HSLT := Lib.hid hslT
              have hle5 : wr.heap.size ≤ W5.heap.size := by omega
              clear hq' hb4 x0 x1 x2 x3 x4 x5 hix2 hcell hpb4 hW5 hB5 hpb5 hout5 hslT hs5 hs5'
              unfold rowOf
              go_upto_region 23 with fail
              have hee := HW5.out
              unfold set6 at hee
              rw [← hee]
              clear hee c0 c1 c2 c3 c4 c5 f0 f1 f2 f3 f4 f5
              by_cases hk0 : q'.k = 0
              · have hr1 : rest1 (p' :: ps') = some ps' := by simp only [rest1]; rw [← HQ'.out, if_pos hk0]
                rw [hk0] at g0
                have htf := HTF.out
                rw [hr1] at htf
                obtain ⟨xs, hox, hsx⟩ := HOUT5.out
                obtain ⟨Lo, hLo⟩ : ∃ Lo, Lo = (rows.take k).filterMap rest1 := ⟨_, rfl⟩
                rw [← hLo] at hox hsx htf
                obtain ⟨lk, hlk⟩ : ∃ lk, lk = Lo.length := ⟨_, rfl⟩
                rw [← hlk] at hox
                have hlkb : lk ≤ 1048576 := by
                  have h1 := List.length_filterMap_le rest1 (rows.take k)
                  rw [← hLo, ← hlk, List.length_take] at h1
                  omega
                have hlt14 : ∀ g, Value.ownBlock u14 = some g → w3.heap.size ≤ g := fun g e => (hox.lt g e).1
                have hne5 : Value.ownBlock u14 ≠ some w1.heap.size := own_ne HPB5.out hox (by decide)
                obtain ⟨at', hat'⟩ : ∃ at', at' = tailA ai ci := ⟨_, rfl⟩
                have hslr : ∀ w' : World, (Instr.slice 23 (.slice ai m ci) (some (.int .i64 1)) none none).run Try.prog w' = .ok (.slice at' (m - 1) (ci - 1)) w' := by rw [hat']; exact slice1 23 Try.underlying23 ai m ci hm1 hmci
                have hslT := HSLT.out
                rw [← hat'] at hslT
                have HOX := Lib.hid hox
                have HSX := Lib.hid hsx
                have HLK := Lib.hid hlk
                have HTF2 := Lib.hid htf
                have HLT14 := Lib.hid hlt14
                have HNE5 := Lib.hid hne5
                have HST := Lib.hid hslT
                clear hox hsx hlk htf hlt14 hne5 hslT hr1 hLo hk0 hat'
                go_wp2_with (first | (at_builtin; go_must (refine wpList_append3 rfl (.tmp 85) (.tmp 91) 22 22 rfl w3.heap.size 23 23 i46 _ 1 24 Try.underlying22 Try.underlying22 HI46.out hy0 hy1 hy2 rfl (by decide) u14 lk xs rfl (HOX.out.alloc _) (some ⟨W5.heap.size, 0, none⟩) 1 1 [.slice at' (m - 1) (ci - 1)] rfl rfl (fun _ => ⟨_, rfl, new_cells (c := #[.slice at' (m - 1) (ci - 1)]) _ rfl⟩) (by simp [Value.oneCell']) (by unfold maxLen; omega) (by omega) (by simp; omega) ?_; intro v5 w5 hown5 hg5 hat5)))
                go_roundw
                case rel =>
                  have hg5s := hg5.size
                  rw [World.size_alloc] at hg5s
                  have hB6 : Below w.heap.size W5 w5 := ((Below.refl _ _).alloc (by omega) _).grown hg5 (by simp; omega) (fun g e => by have := HLT14.out g e; omega)
                  refine ⟨k + 1, hlt, by go_num, ?_, ⟨_, _, _, blk_grown (blk_alloc HPB5.out _) hg5 HNE5.out⟩, HBL.out.trans (HB5W.out.trans hB6), by omega⟩
                  rw [HTF2.out]
                  rw [HM2.out] at hown5
                  refine ⟨xs ++ [.slice at' ps'.length (ci - 1)], ?_, (SlvL.keep (fun d hd off => below_cells hB6 d hd off) HSX.out).snoc ⟨_, _, rfl, HST.out.keep (fun d hd off => below_cells hB6 d hd off)⟩⟩
                  rw [Option.toList_some, List.length_append, ← HLK.out]
                  exact hown5
                case measure => simp [intOf]; omega
              · have hr1 : rest1 (p' :: ps') = none := by simp only [rest1]; rw [← HQ'.out, if_neg hk0]
                have hkb : (q'.k == 0) = false := by simp [hk0]
                have htf := HTF.out
                rw [hr1] at htf
                have HTF2 := Lib.hid htf
                clear hk0 hr1 htf
                go_wp2_with fail
                go_roundw
                case rel =>
                  refine ⟨k + 1, hlt, by go_num, ?_, ⟨_, _, _, HPB5.out⟩, HBL.out.trans HB5W.out, by omega⟩
                  rw [HTF2.out]
                  simpa using HOUT5.out
                case measure => simp [intOf]; omega
            · have hd : decide ((k : Int) < (len : Int)) = false := by simp; omega
              have hk : k = rows.length := by rw [← HLEN.out]; omega
              obtain ⟨xs, hox, hsx⟩ := HOUT.out
              rw [hk, List.take_length] at hox hsx
              obtain ⟨a5, c5', rfl⟩ := own_slice hox
              have hmat := mat_own (D := fun b => b < wr.heap.size) hox (fun b _ h => h) (hsx.mono fun b h => by omega) rfl
              have hn2 : n - 1 = r.length := by rw [HN.out]; simp
              have hncq : n ≤ cq := by rw [HN.out]; exact HSL.out.1
              have hro := rest1_ok HEV.out
              have hlen6 : (rows.filterMap rest1).length ≤ 1048576 := by
                have h1 := List.length_filterMap_le rest1 rows
                rw [← HLEN.out] at h1
                omega
              obtain ⟨at', hat'⟩ : ∃ at', at' = tailA aq cq := ⟨_, rfl⟩
              have hslr : ∀ w' : World, (Instr.slice 23 (.slice aq n cq) (some (.int .i64 1)) none none).run Try.prog w' = .ok (.slice at' (n - 1) (cq - 1)) w' := by rw [hat']; exact slice1 23 Try.underlying23 aq n cq hn1 hncq
              have hsT : SlV wr wr.heap.size r at' (cq - 1) := by rw [hat']; exact (tail_slD (SlV.keep HSL.out HBL.out)).mono (fun b hb => by omega)
              have hme := meas_rest (p := p) HEV.out
              have HMATR := Lib.hid hmat
              have HN2 := Lib.hid hn2
              have HRO := Lib.hid hro
              have HLEN6 := Lib.hid hlen6
              have HST := Lib.hid hsT
              have HME := Lib.hid hme
              clear hk hox hsx hmat hn2 hro hlen6 hsT hme hat'
              go_wp2_with fail
              rw [HN2.out]
              refine (HIH.out (rows.filterMap rest1) r (by have h1 := HME.out; have h2 := HM.out; omega) a5 at' c5' (cq - 1) wr HRO.out.1 HPP.out.2 (rests1_fits HF.out) HFF.out.2 (fun _ => HLEN6.out) (by have h1 := HME.out; have h2 := HMM.out; omega) HMATR.out HST.out).mono ?_
              rintro e w7 ⟨rfl, hb7⟩
              have HB7 := Lib.hid (HBL.out.trans (hb7.mono hszr))
              clear hb7
              go_wp2_with fail
              go_ret
              exact ⟨by rw [HUD3.out]; rfl, HB7.out⟩
      · have hkb : (q.k != 0) = true := by simp [hk0]
        obtain ⟨h, hh⟩ : ∃ h, h = headOf q := ⟨_, rfl⟩
        have hgv : given h (p :: r) = some (q.kids ++ r) := by simp only [given]; rw [← HQ.out, if_neg hk0, if_pos hh.symm]
        have hud := HUD.out
        rw [if_pos hk0, ← hh, ← HANS.out] at hud
        have hhc : h.c ≤ 1000000 := by
          have h1 := (proper_bare HPP.out.1).2.2.2.1
          have h2 := kids_le HQP.out
          have h3 := HWQ.out
          rw [← HQ.out] at h1
          rw [wtL] at h3
          rw [hh]
          show q.kids.length ≤ 1000000
          omega
        have hmeas : meas (rows.filterMap (given h)) (q.kids ++ r) < meas rows (p :: r) := by
          have := meas_head HEV.out HPP.out.1 (by rw [← HQ.out]; exact hk0)
          rw [← HQ.out, ← hh] at this
          exact this
        have HUD2 := Lib.hid hud
        have HGV := Lib.hid hgv
        have HH := Lib.hid hh
        have HHC := Lib.hid hhc
        have HMEAS := Lib.hid hmeas
        clear hk0 hh hgv hud hhc hmeas
        go_wp2_with fail
        refine (rrest_any (fun b => b < w.heap.size) q ab cb p r n aq cq W2 HN.out (fun b hb => by omega) HPP.out.1 HSL2.out (by omega) hkp (by rw [← HQ.out]; exact hkq) hkq).mono ?_
        rintro e w4 ⟨⟨a4, n4, c4', bo, rfl, hres⟩, hb4⟩
        rw [← HH.out, HGV.out] at hres
        obtain ⟨hbo, hn4, hs4⟩ : bo = true ∧ n4 = (q.kids ++ r).length ∧ SlD w4 (fun b => b < w.heap.size ∨ (W2.heap.size ≤ b ∧ b < w4.heap.size)) (q.kids ++ r) a4 c4' := hres
        have hs4' := hb4.size
        have hpb4 : PB w4 w1.heap.size q ab cb := blk_below HB5.out hb4 l5
        have hsx : SlV w4 w4.heap.size (q.kids ++ r) a4 c4' := SlD.mono hs4 (fun b hb => by rcases hb with hb | hb; omega; exact hb.2)
        have d0 : w4.cell? ⟨w1.heap.size, 0, none⟩ = some (.int .i64 q.k) := blk_cell hpb4 0
        have d1 : w4.cell? ⟨w1.heap.size, 1, none⟩ = some (.int .i64 q.n) := blk_cell hpb4 1
        have d2 : w4.cell? ⟨w1.heap.size, 2, none⟩ = some (.int .i64 q.o) := blk_cell hpb4 2
        have d3 : w4.cell? ⟨w1.heap.size, 3, none⟩ = some (.int .i64 q.a) := blk_cell hpb4 3
        have d4 : w4.cell? ⟨w1.heap.size, 4, none⟩ = some (.string q.s) := blk_cell hpb4 4
        have d5 : w4.cell? ⟨w1.heap.size, 5, none⟩ = some (.slice ab q.kids.length cb) := blk_cell hpb4 5
        have HMX := Lib.hid hn4
        have HB5' := Lib.hid hb4
        have HSX5 := Lib.hid hsx
        clear hbo hn4 hs4 hb4 hpb4 hsx c0 c1 c2 c3 c4 c5
        go_wp2_with fail
        rw [HLEN.out]
        refine (rrests_any q ab cb r.length rows ao cap w4 HEV.out (HMAT2.out.on HB5'.out) (by have := HN.out; simp at this; omega) (by rw [← HLEN.out]; exact hR) HWR.out (by have h1 := HHC.out; rw [HH.out] at h1; exact h1)).mono ?_
        rintro e w6 ⟨a6, c6, rfl, hmat6, hb6⟩
        rw [← HH.out] at hmat6 ⊢
        have HMAT6 := Lib.hid hmat6
        have HSX6 := Lib.hid (SlV.on HSX5.out hb6)
        have HB6 := Lib.hid (HB5'.out.trans (hb6.mono (by omega)))
        have hs6 := hb6.size
        have hgok := givens_ok (h := h) HEV.out
        have HGOK := Lib.hid hgok
        have hlen6 : (rows.filterMap (given h)).length ≤ 1048576 := by
          have h1 := List.length_filterMap_le (given h) rows
          rw [← HLEN.out] at h1
          omega
        have HLEN6 := Lib.hid hlen6
        clear hmat6 hb6 hgok hlen6 d0 d1 d2 d3 d4 d5
        go_wp2_with fail
        rw [HMX.out]
        have hev6 : Even (q.kids ++ r).length (rows.filterMap (given h)) := by
          have h1 := HGOK.out.1
          rw [HH.out] at h1 ⊢
          rw [List.length_append]
          exact h1
        refine (HIH.out (rows.filterMap (given h)) (q.kids ++ r) (by have h1 := HMEAS.out; have h2 := HM.out; omega) a6 a4 c6 c4' w6 hev6 (properL_append HQP.out.kids HPP.out.2) (givens_fits HF.out) (fitsL_append HQF.out.kids HFF.out.2) (fun _ => HLEN6.out) (by have h1 := HMEAS.out; have h2 := HMM.out; omega) HMAT6.out HSX6.out).mono ?_
        rintro e w7 ⟨rfl, hb7⟩
        have HB7 := Lib.hid (HB6.out.trans (hb7.mono (by omega)))
        clear hb7 hev6
        go_wp2_with fail
        go_ret
        exact ⟨by rw [HUD2.out]; rfl, HB2.out.trans (HB7.out.mono hs2)⟩
end Go.Proofs.Ytcieoelogocjkaa
