/-
  Proved: the contract of the reference's name. Condition: at most 1000 numbers, the variable's among them.
-/
import Derived.Test.YtdeomphilggokaaS8
set_option linter.unusedSimpArgs false
set_option linter.unusedVariables false
namespace Go.Proofs.Ytdeomphilggokaa
open Go.RowKit

def abcS : ByteArray := ⟨#[97, 98, 99, 100, 101, 102, 103, 104, 105, 106, 107, 108, 109, 110, 111, 112, 113, 114, 115, 116, 117, 118, 119, 120, 121, 122]⟩
theorem abc_cut (r : Nat) (h : r < 26) : abcS.extract r (r + 1) = ⟨#[UInt8.ofNat (97 + r)]⟩ := by
  have hh : r = 0 ∨ r = 1 ∨ r = 2 ∨ r = 3 ∨ r = 4 ∨ r = 5 ∨ r = 6 ∨ r = 7 ∨ r = 8 ∨ r = 9 ∨ r = 10 ∨ r = 11 ∨ r = 12 ∨ r = 13 ∨ r = 14 ∨ r = 15 ∨ r = 16 ∨ r = 17 ∨ r = 18 ∨ r = 19 ∨ r = 20 ∨ r = 21 ∨ r = 22 ∨ r = 23 ∨ r = 24 ∨ r = 25 := by omega
  rcases hh with rfl | rfl | rfl | rfl | rfl | rfl | rfl | rfl | rfl | rfl | rfl | rfl | rfl | rfl | rfl | rfl | rfl | rfl | rfl | rfl | rfl | rfl | rfl | rfl | rfl | rfl <;> rfl
theorem idx_here {xs : List Int} {n : Int} {j : Nat} (hj : j < xs.length) (hn : xs[j] = n) (h : n ∉ xs.take j) : xs.idxOf n = j := by
  have e : xs = xs.take j ++ n :: xs.drop (j + 1) := by
    rw [← hn, List.getElem_cons_drop, List.take_append_drop]
  rw [e, List.idxOf_append, if_neg h]
  simp
  omega
set_option maxRecDepth 100000 in
set_option maxHeartbeats 4000000 in
theorem rname_any (t : Ty) (ao : Option Addr) (cap : Nat) (v : Value) (L : List Int) (w : World) (hL : OwnI 0 w v L) (hl : L.length ≤ 1000) (hn : t.n ∈ L) :
    Calls Try.prog 63 #[.agg (rowOf t ao cap), v] w fun e w' => e = .returned (.string (nameD L t.n t.q)) ∧ Below w.heap.size w w' := by
  obtain ⟨W, hW⟩ : ∃ W, W = w.alloc (.cells (rowOf t ao cap) 33) := ⟨_, rfl⟩
  obtain ⟨hbW, hlW, hrow⟩ := box_at hW
  obtain ⟨va, vc, rfl, hget⟩ := (hL.carry hbW).get
  obtain ⟨m, hm⟩ : ∃ m, m = L.length := ⟨_, rfl⟩
  rw [← hm] at hl
  rw [← hm]
  obtain ⟨n, hnn⟩ : ∃ n, n = t.n := ⟨_, rfl⟩
  rw [← hnn] at hn
  rw [← hnn]
  obtain ⟨q, hq⟩ : ∃ q, q = t.q := ⟨_, rfl⟩
  rw [← hq]
  have c1 : W.cell? ⟨w.heap.size, 1, none⟩ = some (.int .i64 n) := by rw [hnn]; exact blk_cell hrow 1
  have c3 : W.cell? ⟨w.heap.size, 3, none⟩ = some (.int .i64 q) := by rw [hq]; exact blk_cell hrow 3
  have hp : w.heap.size < W.heap.size := hlW
  have HM := Lib.hid hm
  have HG := Lib.hid hget
  have HN := Lib.hid hn
  have HBW := Lib.hid hbW
  obtain ⟨ans, hans⟩ : ∃ ans, ans = nameD L n q := ⟨_, rfl⟩
  rw [← hans]
  have HANS := Lib.hid hans
  unfold rowOf at hW ⊢
  have HWW := Lib.hid hW
  clear hm hget hn hbW hW hL hrow hnn hq hans hlW
  go_enter Try.func63, Try.ntmps63
  go_upto_region 1 with fail
  rw [← HWW.out]
  generalize Value.agg #[.int .i64 t.k, .int .i64 t.n, .string t.s, .int .i64 t.q, .slice ao t.args.length cap] = v0
  go_wp2_with fail
  go_loopw [5] (fun i wr => ∃ j : Nat, i = .int .i64 (j : Int) ∧ j < m ∧ n ∉ L.take j ∧ Below W.heap.size W wr) (fun i _ => m - (intOf i).toNat)
  case atStart =>
    refine ⟨0, rfl, ?_, by simp, Below.refl _ _⟩
    rw [HM.out]
    exact List.length_pos_of_mem HN.out
  case round =>
    obtain ⟨j, rfl, hlt, hno, hb⟩ := hrel
    obtain ⟨wo, rfl⟩ : ∃ wo : World, wo = wr := ⟨_, rfl⟩
    have HNO := Lib.hid hno
    have HB := Lib.hid hb
    have hjk : j < L.length := by rw [← HM.out]; exact hlt
    obtain ⟨g, hao, _, hcell⟩ := HG.out j hjk
    have hix := index_at Try.underlying47 size3 hao m vc j hlt
    rw [Nat.zero_add, Nat.mul_one] at hix
    obtain ⟨x, hx⟩ : ∃ x, x = L[j] := ⟨_, rfl⟩
    rw [← hx] at hcell
    have HX := Lib.hid hx
    have r0 : wo.cell? ⟨g, j, none⟩ = some (.int .i64 x) := (hb.cell (p := ⟨g, j, none⟩) (World.block_lt_of_cell? W _ hcell)).trans hcell
    have r1 : wo.cell? ⟨w.heap.size, 1, none⟩ = some (.int .i64 n) := (hb.cell (p := ⟨w.heap.size, 1, none⟩) hp).trans c1
    have HC3 := Lib.hid c3
    have hc3 : ∀ V : World, Below wo.heap.size wo V → V.cell? ⟨w.heap.size, 3, none⟩ = some (.int .i64 q) := fun V hV => ((hb.trans (hV.mono hb.size)).cell (p := ⟨w.heap.size, 3, none⟩) hp).trans HC3.out
    have HK3 := Lib.hid hc3
    clear hx hao hno hcell c1 c3 hc3 hb
    by_cases hxn : x = n
    · have e : (x != n) = false := by simp [hxn]
      have hidx : L.idxOf n = j := idx_here hjk (by rw [← HX.out, hxn]) HNO.out
      obtain ⟨r, hr⟩ : ∃ r, r = j % 26 := ⟨_, rfl⟩
      obtain ⟨z, hz⟩ : ∃ z, z = j / 26 := ⟨_, rfl⟩
      have hr26 : r < 26 := by omega
      have er : (j : Int).tmod 26 = (r : Int) := by rw [Int.tmod_eq_emod_of_nonneg (by omega)]; omega
      have ez : (j : Int).tdiv 26 = (z : Int) := by rw [Int.tdiv_eq_ediv_of_nonneg (by omega)]; omega
      have wr1 : IntKind.i64.wrap (r : Int) = (r : Int) := wrap_small _ (by omega) (by omega)
      have wz1 : IntKind.i64.wrap (z : Int) = (z : Int) := wrap_small _ (by omega) (by omega)
      have wr2 : IntKind.i64.wrap ((r : Int) + 1) = (r : Int) + 1 := wrap_small _ (by omega) (by omega)
      have b1 : (r : Int) + 1 ≤ 26 := by omega
      have b2 : (0 : Int) ≤ (r : Int) + 1 := by omega
      have b3 : (r : Int) ≤ (r : Int) + 1 := by omega
      have HCUT := Lib.hid (abc_cut r hr26)
      obtain ⟨s1, hs1⟩ : ∃ s, s = digD z := ⟨_, rfl⟩
      have hs19 : s1.size ≤ 1001 := by rw [hs1]; have := digD_size z z (Nat.le_refl _); omega
      have hll : letD j = if j < 26 then abcS.extract r (r + 1) else abcS.extract r (r + 1) ++ s1 := by
        rw [letD, HCUT.out, hs1, hr, hz]
      have hll9 : (letD j).size ≤ 1100 := by have := letD_size j; omega
      have HLL := Lib.hid hll
      have hnm : ans = (if q = 1 then ⟨#[39, 39]⟩ else ⟨#[39]⟩) ++ letD j := by rw [HANS.out, nameD, hidx]
      have HNM := Lib.hid hnm
      have HCALL := Lib.hid (fun V : World => rdigits_any z (by omega) V)
      rw [← hs1] at HCALL
      have hsz26 : (abcS.extract r (r + 1)).size = 1 := by rw [HCUT.out]; rfl
      have FIN : Hid (∀ V : World, Below wo.heap.size wo V → ∀ s, s = ans → (Ending.returned (Value.string s) = .returned (.string ans) ∧ Below w.heap.size w V)) := Lib.hid (fun V hV s hs => by
        rw [hs]
        exact ⟨rfl, HBW.out.trans ((HB.out.mono HBW.out.size).trans (hV.mono (Nat.le_trans HBW.out.size HB.out.size)))⟩)
      clear hxn hidx hr hz hs1 hll hnm hll9
      unfold abcS at HLL hsz26 HCUT
      have hz1 : ¬ 9223372036854775807 < 1 + s1.size := by omega
      have gq : wo.cell? ⟨w.heap.size, 3, none⟩ = some (.int .i64 q) := HK3.out wo (Below.refl _ _)
      by_cases h26 : j < 26
      · have hd26 : decide ((26 : Int) ≤ (j : Int)) = false := by simp; omega
        have HLS := Lib.hid HLL.out
        rw [if_pos h26] at HLS
        clear h26
        by_cases hq1 : q = 1
        · have e1 : (q == 1) = true := by simp [hq1]
          have HE := Lib.hid HNM.out
          rw [if_pos hq1] at HE
          clear hq1
          go_upto_region 2 with fail
          go_quiet (fail)
          generalize hVV : wo.drewN _ = V
          have HV : Hid (Below wo.heap.size wo V) := Lib.hid (by rw [← hVV]; exact below_drewN (Below.refl _ _) _)
          have g3 := HK3.out V HV.out
          clear hVV
          go_wp2_with fail
          go_ret
          exact FIN.out _ HV.out _ (by rw [HE.out, HLS.out])
        · have e1 : (q == 1) = false := by simp [hq1]
          have HE := Lib.hid HNM.out
          rw [if_neg hq1] at HE
          clear hq1
          go_upto_region 2 with fail
          go_quiet (fail)
          generalize hVV : wo.drewN _ = V
          have HV : Hid (Below wo.heap.size wo V) := Lib.hid (by rw [← hVV]; exact below_drewN (Below.refl _ _) _)
          have g3 := HK3.out V HV.out
          clear hVV
          go_wp2_with fail
          go_ret
          exact FIN.out _ HV.out _ (by rw [HE.out, HLS.out])
      · have hd26 : decide ((26 : Int) ≤ (j : Int)) = true := by simp; omega
        have HLS := Lib.hid HLL.out
        rw [if_neg h26] at HLS
        have hz2 : ¬ 9223372036854775807 < 1 + (1 + s1.size) := by omega
        have hz3 : ¬ 9223372036854775807 < 2 + (1 + s1.size) := by omega
        clear h26
        by_cases hq1 : q = 1
        · have e1 : (q == 1) = true := by simp [hq1]
          have HE := Lib.hid HNM.out
          rw [if_pos hq1] at HE
          clear hq1
          go_upto_region 2 with fail
          go_quiet (fail)
          generalize hVV : wo.drewN _ = V
          have HV : Hid (Below wo.heap.size wo V) := Lib.hid (by rw [← hVV]; exact below_drewN (Below.refl _ _) _)
          clear hVV
          go_wp2_with (first | (go_at_call 88; refine (HCALL.out V).mono ?_; rintro e w7 ⟨rfl, hb7⟩; have HB7 := Lib.hid (HV.out.trans (hb7.mono HV.out.size)); have g3 := HK3.out w7 HB7.out; clear hb7))
          go_ret
          exact FIN.out _ HB7.out _ (by rw [HE.out, HLS.out])
        · have e1 : (q == 1) = false := by simp [hq1]
          have HE := Lib.hid HNM.out
          rw [if_neg hq1] at HE
          clear hq1
          go_upto_region 2 with fail
          go_quiet (fail)
          generalize hVV : wo.drewN _ = V
          have HV : Hid (Below wo.heap.size wo V) := Lib.hid (by rw [← hVV]; exact below_drewN (Below.refl _ _) _)
          clear hVV
          go_wp2_with (first | (go_at_call 88; refine (HCALL.out V).mono ?_; rintro e w7 ⟨rfl, hb7⟩; have HB7 := Lib.hid (HV.out.trans (hb7.mono HV.out.size)); have g3 := HK3.out w7 HB7.out; clear hb7))
          go_ret
          exact FIN.out _ HB7.out _ (by rw [HE.out, HLS.out])
    · have e : (x != n) = true := by simp [hxn]
      have HXN := Lib.hid hxn
      have hj2 : j + 1 < m := by
        rcases Nat.lt_or_ge (j + 1) m with h | h
        · exact h
        · exfalso
          have hall : L.take (j + 1) = L := by rw [List.take_of_length_le]; rw [← HM.out]; omega
          have h1 := HN.out
          rw [← hall, List.take_succ_eq_append_getElem hjk, List.mem_append, List.mem_singleton] at h1
          rcases h1 with h1 | h1
          · exact HNO.out h1
          · exact hxn (by rw [HX.out]; exact h1.symm)
      have hbd : Below W.heap.size W wo := HB.out
      clear hxn
      go_upto_region 2 with fail
      go_quiet (fail)
      go_wp2_with fail
      go_roundw
      case rel =>
        refine ⟨j + 1, by go_num, hj2, ?_, HB.out.trans ((below_drewN (Below.refl _ _) _).mono HB.out.size)⟩
        rw [List.take_succ_eq_append_getElem hjk, List.mem_append, not_or]
        refine ⟨HNO.out, ?_⟩
        rw [List.mem_singleton, ← HX.out]
        exact fun h => HXN.out h.symm
      case measure => simp only [intOf]; omega
end Go.Proofs.Ytdeomphilggokaa
