/-
  Proved: the contracts of both Equalities. Condition: types that may be.
-/
import Derived.Test.YtdeomphilggokaaA7
import Derived.Test.YtdeomphilggokaaA6
set_option linter.unusedSimpArgs false
set_option linter.unusedVariables false
namespace Go.Proofs.Ytdeomphilggokaa
open Go.RowKit

theorem eq_args (t : Ty) : eqD t = if t.k = 0 then t.q else if t.k = 3 ∨ (t.k = 1 ∧ t.q = 0) then 0 else if t.k = 1 ∧ t.q = 2 then 1 else if eqL t.args then 1 else 0 := by cases t; rw [eqD]; rfl
theorem ok_kind {t : Ty} (h : okT t = true) : t.k = 0 ∨ (t.k = 1 ∧ t.q = 0) ∨ (t.k = 1 ∧ t.q = 1) ∨ (t.k = 1 ∧ t.q = 2) ∨ t.k = 2 ∨ t.k = 3 := by
  unfold okT at h
  by_cases h0 : t.k = 0
  · exact .inl h0
  by_cases h1 : t.k = 1
  · rw [if_neg h0, if_pos h1, decide_eq_true_eq] at h
    have h2 : t.q = 0 ∨ t.q = 1 ∨ t.q = 2 := by omega
    rcases h2 with h2 | h2 | h2
    · exact .inr (.inl ⟨h1, h2⟩)
    · exact .inr (.inr (.inl ⟨h1, h2⟩))
    · exact .inr (.inr (.inr (.inl ⟨h1, h2⟩)))
  by_cases h2 : t.k = 2
  · exact .inr (.inr (.inr (.inr (.inl h2))))
  by_cases h3 : t.k = 3
  · exact .inr (.inr (.inr (.inr (.inr h3))))
  rw [if_neg h0, if_neg h1, if_neg h2, if_neg h3] at h
  cases h
theorem eqL_append : ∀ (l r : List Ty), eqL (l ++ r) = (eqL l && eqL r)
  | [], r => by simp [eqL]
  | p :: ps, r => by rw [List.cons_append, eqL, eqL, eqL_append ps r, Bool.and_assoc]
theorem eqL_take {l : List Ty} {j : Nat} (h : j < l.length) : eqL (l.take (j + 1)) = (eqL (l.take j) && decide (eqD l[j] ≠ 0)) := by
  rw [List.take_succ_eq_append_getElem h, eqL_append, eqL, eqL, Bool.and_true]
theorem eqL_cut {l : List Ty} {j : Nat} (h : j < l.length) (e : eqD l[j] = 0) : eqL l = false := by
  have h1 := eqL_append (l.take (j + 1)) (l.drop (j + 1))
  rw [List.take_append_drop, eqL_take h, e] at h1
  simpa using h1
theorem shapedL_get : ∀ {l : List Ty}, shapedL l = true → ∀ {t : Ty}, t ∈ l → shapedD t = true
  | p :: ps, h, t, ht => by
    rw [shapedL, Bool.and_eq_true] at h
    rcases List.mem_cons.1 ht with rfl | ht
    · exact h.1
    · exact shapedL_get h.2 ht
set_option maxRecDepth 100000 in
set_option maxHeartbeats 4000000 in
theorem peq_any : ∀ (f : Nat) (t : Ty), parts t ≤ f → ∀ (D : Nat → Prop) (ao : Option Addr) (cap : Nat) (w : World), (∀ b, D b → b < w.heap.size) → SlD w D t.args ao cap → Fits t → shapedD t = true →
    Calls Try.prog 18 #[.agg (rowOf t ao cap)] w fun e w' => e = .returned (.int .i64 (eqD t)) ∧ Below w.heap.size w w' := by
  intro f
  induction f with
  | zero => intro t ht; have := parts_pos t; omega
  | succ f IH =>
    intro t ht D ao cap w hD hv hfit hsh
    obtain ⟨c, hc⟩ : ∃ c, c = t.args.length := ⟨_, rfl⟩
    obtain ⟨W, hW⟩ : ∃ W, W = w.alloc (.cells (rowOf t ao cap) 33) := ⟨_, rfl⟩
    obtain ⟨hbW, hlW, hrow⟩ := box_at hW
    have hcl : c ≤ 3000000000000 := by rw [hc]; exact hfit.len
    obtain ⟨hok, hsl⟩ : okT t = true ∧ shapedL t.args = true := by rw [shaped_args, Bool.and_eq_true] at hsh; exact hsh
    have heq := eq_args t
    have hkind := ok_kind hok
    obtain ⟨ans, hans⟩ : ∃ ans, ans = eqD t := ⟨_, rfl⟩
    rw [← hans]
    rw [← hans] at heq
    unfold rowOf at hW hrow
    unfold rowOf
    rw [← hc] at hW hrow
    rw [← hc]
    have HC := Lib.hid hc
    have HT := Lib.hid ht
    have HFIT := Lib.hid hfit
    have HIH := Lib.hid IH
    have HD := Lib.hid hD
    have HV := Lib.hid hv
    have HBW := Lib.hid hbW
    have HROW := Lib.hid hrow
    have HSL := Lib.hid hsl
    have HEQ := Lib.hid heq
    have HKIND := Lib.hid hkind
    have c0 : W.cell? ⟨w.heap.size, 0, none⟩ = some (.int .i64 t.k) := blk_cell hrow 0
    have c3 : W.cell? ⟨w.heap.size, 3, none⟩ = some (.int .i64 t.q) := blk_cell hrow 3
    have c4 : W.cell? ⟨w.heap.size, 4, none⟩ = some (.slice ao c cap) := blk_cell hrow 4
    clear IH hD hv hc ht hfit hbW hrow hok hsl heq hkind hsh hans
    go_enter Try.func18, Try.ntmps18
    go_upto_region 1 with fail
    rw [← hW]
    have HWW := Lib.hid hW
    clear hW
    generalize Value.agg #[.int .i64 t.k, .int .i64 t.n, .string t.s, .int .i64 t.q, .slice ao c cap] = v0
    rcases HKIND.out with hk | ⟨hk, hq⟩ | ⟨hk, hq⟩ | ⟨hk, hq⟩ | hk | hk
    · -- a variable
      have HK := Lib.hid hk
      have e0 : (t.k == 0) = true := by simp [hk]
      have e1 : (t.k == 1) = false := by simp [hk]
      have e2 : (t.k == 2) = false := by simp [hk]
      have e3 : (t.k == 3) = false := by simp [hk]
      clear hk
      go_wp2_with fail
      go_ret
      refine ⟨?_, HBW.out⟩
      have e : ans = t.q := by rw [HEQ.out]; simp [HK.out]
      exact congrArg (fun n : Int => Ending.returned (.int .i64 n)) e.symm
    · have HQ := Lib.hid hq
      have HK := Lib.hid hk
      have e0 : (t.k == 0) = false := by simp [hk]
      have e1 : (t.k == 1) = true := by simp [hk]
      have e2 : (t.k == 2) = false := by simp [hk]
      have e3 : (t.k == 3) = false := by simp [hk]
      clear hk
      rw [hq] at c3
      clear hq
      go_wp2_with fail
      go_ret
      refine ⟨?_, HBW.out⟩
      have e : ans = 0 := by rw [HEQ.out]; simp [HK.out, HQ.out]
      exact congrArg (fun n : Int => Ending.returned (.int .i64 n)) e.symm
    · have HE2 : Hid (ans = if eqL t.args then 1 else 0) := Lib.hid (by rw [HEQ.out]; simp [hk, hq])
      have HK := Lib.hid hk
      have e0 : (t.k == 0) = false := by simp [hk]
      have e1 : (t.k == 1) = true := by simp [hk]
      have e2 : (t.k == 2) = false := by simp [hk]
      have e3 : (t.k == 3) = false := by simp [hk]
      clear hk
      rw [hq] at c3
      clear hq
      go_wp2_with fail
      go_loopw [4, 24] (fun _ i wr => ∃ j : Nat, i = .int .i64 (j : Int) ∧ j ≤ c ∧ eqL (t.args.take j) = true ∧ Below W.heap.size W wr) (fun _ i _ => c - (intOf i).toNat)
      case atStart => exact ⟨0, rfl, Nat.zero_le _, by simp [eqL], Below.refl _ _⟩
      case round =>
        obtain ⟨j, rfl, hj, hal, hbr⟩ := hrel
        obtain ⟨wo, rfl⟩ : ∃ wo : World, wo = wr := ⟨_, rfl⟩
        have hrow := blk_below HROW.out hbr hlW
        have c4' : wo.cell? ⟨w.heap.size, 4, none⟩ = some (.slice ao c cap) := blk_cell hrow 4
        have HBR := Lib.hid hbr
        have HAL := Lib.hid hal
        clear hbr hrow hal
        by_cases hlt : j < c
        · have hd : decide ((j : Int) < (c : Int)) = true := by simp; omega
          have hjk : j < t.args.length := by rw [← HC.out]; exact hlt
          have hbo : Below w.heap.size w wo := HBW.out.trans (HBR.out.mono (Nat.le_of_lt hlW))
          have hvr : SlD wo D t.args ao cap := HV.out.keep fun b hb off => below_cells hbo b (HD.out b hb) off
          obtain ⟨b, p, ap, cp, hDb, hix, x0, x1, x2, x3, x4, hs⟩ := arg_cells hvr hjk
          rw [← HC.out] at hix
          obtain ⟨u, hu⟩ : ∃ u, u = t.args[j] := ⟨_, rfl⟩
          rw [← hu] at x0 x1 x2 x3 x4 hs
          have hmem : u ∈ t.args := by rw [hu]; exact List.getElem_mem _
          have hcall : ∀ V : World, Below wo.heap.size wo V → Calls Try.prog 18 #[.agg (rowOf u ap cp)] V fun e w' => e = .returned (.int .i64 (eqD u)) ∧ Below V.heap.size V w' := fun V hV =>
            HIH.out u (by have h1 := HT.out; rw [parts_args] at h1; have := parts_mem hmem; omega) D ap cp V (fun b hb => Nat.lt_of_lt_of_le (HD.out b hb) (Nat.le_trans hbo.size hV.size)) (hs.keep fun b hb off => below_cells hV b (Nat.lt_of_lt_of_le (HD.out b hb) hbo.size) off) (HFIT.out.args.get hmem) (shapedL_get HSL.out hmem)
          obtain ⟨res, hres⟩ : ∃ res, res = eqD u := ⟨_, rfl⟩
          rw [← hres] at hcall
          unfold rowOf at hcall
          have HCALL := Lib.hid hcall
          have HU := Lib.hid hu
          have HRES := Lib.hid hres
          clear hcall hvr hs hu hmem hbo hres
          by_cases hr : res = 0
          · subst hr
            go_upto_region 12 with fail
            obtain ⟨V, hV⟩ : ∃ V, V = wo.alloc (.cells #[.int .i64 u.k, .int .i64 u.n, .string u.s, .int .i64 u.q, .slice ap u.args.length cp] 33) := ⟨_, rfl⟩
            have hbV : Below wo.heap.size wo V := by rw [hV]; exact balloc (Below.refl _ _) _
            have hrV : V.heap[wo.heap.size]? = some (.cells #[.int .i64 u.k, .int .i64 u.n, .string u.s, .int .i64 u.q, .slice ap u.args.length cp] 33 (0, 0)) := by rw [hV]; exact heap_alloc_new wo _
            rw [← hV]
            have v0' : V.cell? ⟨wo.heap.size, 0, none⟩ = some (.int .i64 u.k) := blk_cell hrV 0
            have v1' : V.cell? ⟨wo.heap.size, 1, none⟩ = some (.int .i64 u.n) := blk_cell hrV 1
            have v2' : V.cell? ⟨wo.heap.size, 2, none⟩ = some (.string u.s) := blk_cell hrV 2
            have v3' : V.cell? ⟨wo.heap.size, 3, none⟩ = some (.int .i64 u.q) := blk_cell hrV 3
            have v4' : V.cell? ⟨wo.heap.size, 4, none⟩ = some (.slice ap u.args.length cp) := blk_cell hrV 4
            have HC9 := Lib.hid (HCALL.out V hbV)
            have HBV := Lib.hid hbV
            clear hV hbV hrV
            go_wp2_with (first | (go_at_call 18; refine HC9.out.mono ?_; rintro e w7 ⟨rfl, hb7'⟩; have hb7 := HBV.out.trans (hb7'.mono HBV.out.size)))
            go_ret
            refine ⟨?_, HBW.out.trans ((HBR.out.trans (hb7.mono HBR.out.size)).mono (Nat.le_of_lt hlW))⟩
            have e : ans = 0 := by
              rw [HE2.out, eqL_cut hjk (by rw [← HU.out]; exact HRES.out.symm)]; rfl
            exact congrArg (fun n : Int => Ending.returned (.int .i64 n)) e.symm
          · have er : (res == 0) = false := by simp [hr]
            have HR := Lib.hid hr
            clear hr
            go_upto_region 12 with fail
            obtain ⟨V, hV⟩ : ∃ V, V = wo.alloc (.cells #[.int .i64 u.k, .int .i64 u.n, .string u.s, .int .i64 u.q, .slice ap u.args.length cp] 33) := ⟨_, rfl⟩
            have hbV : Below wo.heap.size wo V := by rw [hV]; exact balloc (Below.refl _ _) _
            have hrV : V.heap[wo.heap.size]? = some (.cells #[.int .i64 u.k, .int .i64 u.n, .string u.s, .int .i64 u.q, .slice ap u.args.length cp] 33 (0, 0)) := by rw [hV]; exact heap_alloc_new wo _
            rw [← hV]
            have v0' : V.cell? ⟨wo.heap.size, 0, none⟩ = some (.int .i64 u.k) := blk_cell hrV 0
            have v1' : V.cell? ⟨wo.heap.size, 1, none⟩ = some (.int .i64 u.n) := blk_cell hrV 1
            have v2' : V.cell? ⟨wo.heap.size, 2, none⟩ = some (.string u.s) := blk_cell hrV 2
            have v3' : V.cell? ⟨wo.heap.size, 3, none⟩ = some (.int .i64 u.q) := blk_cell hrV 3
            have v4' : V.cell? ⟨wo.heap.size, 4, none⟩ = some (.slice ap u.args.length cp) := blk_cell hrV 4
            have HC9 := Lib.hid (HCALL.out V hbV)
            have HBV := Lib.hid hbV
            clear hV hbV hrV
            go_wp2_with (first | (go_at_call 18; refine HC9.out.mono ?_; rintro e w7 ⟨rfl, hb7'⟩; have hb7 := HBV.out.trans (hb7'.mono HBV.out.size)))
            go_roundw
            case rel =>
              refine ⟨j + 1, by go_num, hlt, ?_, HBR.out.trans (hb7.mono HBR.out.size)⟩
              rw [eqL_take hjk, HAL.out, ← HU.out, ← HRES.out]
              simp [HR.out]
            case measure => simp only [intOf]; omega
        · obtain rfl : j = c := by omega
          have hd : decide ((j : Int) < (j : Int)) = false := by simp
          go_wp2_with fail
          go_ret
          refine ⟨?_, HBW.out.trans (HBR.out.mono (Nat.le_of_lt hlW))⟩
          have h1 := HAL.out
          rw [HC.out, List.take_length] at h1
          have e : ans = 1 := by rw [HE2.out, h1]; rfl
          exact congrArg (fun n : Int => Ending.returned (.int .i64 n)) e.symm
    · have HQ := Lib.hid hq
      have HK := Lib.hid hk
      have e0 : (t.k == 0) = false := by simp [hk]
      have e1 : (t.k == 1) = true := by simp [hk]
      have e2 : (t.k == 2) = false := by simp [hk]
      have e3 : (t.k == 3) = false := by simp [hk]
      clear hk
      rw [hq] at c3
      clear hq
      go_wp2_with fail
      go_ret
      refine ⟨?_, HBW.out⟩
      have e : ans = 1 := by rw [HEQ.out]; simp [HK.out, HQ.out]
      exact congrArg (fun n : Int => Ending.returned (.int .i64 n)) e.symm
    · have HE2 : Hid (ans = if eqL t.args then 1 else 0) := Lib.hid (by rw [HEQ.out]; simp [hk])
      have HK := Lib.hid hk
      have e0 : (t.k == 0) = false := by simp [hk]
      have e1 : (t.k == 1) = false := by simp [hk]
      have e2 : (t.k == 2) = true := by simp [hk]
      have e3 : (t.k == 3) = false := by simp [hk]
      clear hk
      go_wp2_with fail
      go_loopw [4, 24] (fun _ i wr => ∃ j : Nat, i = .int .i64 (j : Int) ∧ j ≤ c ∧ eqL (t.args.take j) = true ∧ Below W.heap.size W wr) (fun _ i _ => c - (intOf i).toNat)
      case atStart => exact ⟨0, rfl, Nat.zero_le _, by simp [eqL], Below.refl _ _⟩
      case round =>
        obtain ⟨j, rfl, hj, hal, hbr⟩ := hrel
        obtain ⟨wo, rfl⟩ : ∃ wo : World, wo = wr := ⟨_, rfl⟩
        have hrow := blk_below HROW.out hbr hlW
        have c4' : wo.cell? ⟨w.heap.size, 4, none⟩ = some (.slice ao c cap) := blk_cell hrow 4
        have HBR := Lib.hid hbr
        have HAL := Lib.hid hal
        clear hbr hrow hal
        by_cases hlt : j < c
        · have hd : decide ((j : Int) < (c : Int)) = true := by simp; omega
          have hjk : j < t.args.length := by rw [← HC.out]; exact hlt
          have hbo : Below w.heap.size w wo := HBW.out.trans (HBR.out.mono (Nat.le_of_lt hlW))
          have hvr : SlD wo D t.args ao cap := HV.out.keep fun b hb off => below_cells hbo b (HD.out b hb) off
          obtain ⟨b, p, ap, cp, hDb, hix, x0, x1, x2, x3, x4, hs⟩ := arg_cells hvr hjk
          rw [← HC.out] at hix
          obtain ⟨u, hu⟩ : ∃ u, u = t.args[j] := ⟨_, rfl⟩
          rw [← hu] at x0 x1 x2 x3 x4 hs
          have hmem : u ∈ t.args := by rw [hu]; exact List.getElem_mem _
          have hcall : ∀ V : World, Below wo.heap.size wo V → Calls Try.prog 18 #[.agg (rowOf u ap cp)] V fun e w' => e = .returned (.int .i64 (eqD u)) ∧ Below V.heap.size V w' := fun V hV =>
            HIH.out u (by have h1 := HT.out; rw [parts_args] at h1; have := parts_mem hmem; omega) D ap cp V (fun b hb => Nat.lt_of_lt_of_le (HD.out b hb) (Nat.le_trans hbo.size hV.size)) (hs.keep fun b hb off => below_cells hV b (Nat.lt_of_lt_of_le (HD.out b hb) hbo.size) off) (HFIT.out.args.get hmem) (shapedL_get HSL.out hmem)
          obtain ⟨res, hres⟩ : ∃ res, res = eqD u := ⟨_, rfl⟩
          rw [← hres] at hcall
          unfold rowOf at hcall
          have HCALL := Lib.hid hcall
          have HU := Lib.hid hu
          have HRES := Lib.hid hres
          clear hcall hvr hs hu hmem hbo hres
          by_cases hr : res = 0
          · subst hr
            go_upto_region 12 with fail
            obtain ⟨V, hV⟩ : ∃ V, V = wo.alloc (.cells #[.int .i64 u.k, .int .i64 u.n, .string u.s, .int .i64 u.q, .slice ap u.args.length cp] 33) := ⟨_, rfl⟩
            have hbV : Below wo.heap.size wo V := by rw [hV]; exact balloc (Below.refl _ _) _
            have hrV : V.heap[wo.heap.size]? = some (.cells #[.int .i64 u.k, .int .i64 u.n, .string u.s, .int .i64 u.q, .slice ap u.args.length cp] 33 (0, 0)) := by rw [hV]; exact heap_alloc_new wo _
            rw [← hV]
            have v0' : V.cell? ⟨wo.heap.size, 0, none⟩ = some (.int .i64 u.k) := blk_cell hrV 0
            have v1' : V.cell? ⟨wo.heap.size, 1, none⟩ = some (.int .i64 u.n) := blk_cell hrV 1
            have v2' : V.cell? ⟨wo.heap.size, 2, none⟩ = some (.string u.s) := blk_cell hrV 2
            have v3' : V.cell? ⟨wo.heap.size, 3, none⟩ = some (.int .i64 u.q) := blk_cell hrV 3
            have v4' : V.cell? ⟨wo.heap.size, 4, none⟩ = some (.slice ap u.args.length cp) := blk_cell hrV 4
            have HC9 := Lib.hid (HCALL.out V hbV)
            have HBV := Lib.hid hbV
            clear hV hbV hrV
            go_wp2_with (first | (go_at_call 18; refine HC9.out.mono ?_; rintro e w7 ⟨rfl, hb7'⟩; have hb7 := HBV.out.trans (hb7'.mono HBV.out.size)))
            go_ret
            refine ⟨?_, HBW.out.trans ((HBR.out.trans (hb7.mono HBR.out.size)).mono (Nat.le_of_lt hlW))⟩
            have e : ans = 0 := by
              rw [HE2.out, eqL_cut hjk (by rw [← HU.out]; exact HRES.out.symm)]; rfl
            exact congrArg (fun n : Int => Ending.returned (.int .i64 n)) e.symm
          · have er : (res == 0) = false := by simp [hr]
            have HR := Lib.hid hr
            clear hr
            go_upto_region 12 with fail
            obtain ⟨V, hV⟩ : ∃ V, V = wo.alloc (.cells #[.int .i64 u.k, .int .i64 u.n, .string u.s, .int .i64 u.q, .slice ap u.args.length cp] 33) := ⟨_, rfl⟩
            have hbV : Below wo.heap.size wo V := by rw [hV]; exact balloc (Below.refl _ _) _
            have hrV : V.heap[wo.heap.size]? = some (.cells #[.int .i64 u.k, .int .i64 u.n, .string u.s, .int .i64 u.q, .slice ap u.args.length cp] 33 (0, 0)) := by rw [hV]; exact heap_alloc_new wo _
            rw [← hV]
            have v0' : V.cell? ⟨wo.heap.size, 0, none⟩ = some (.int .i64 u.k) := blk_cell hrV 0
            have v1' : V.cell? ⟨wo.heap.size, 1, none⟩ = some (.int .i64 u.n) := blk_cell hrV 1
            have v2' : V.cell? ⟨wo.heap.size, 2, none⟩ = some (.string u.s) := blk_cell hrV 2
            have v3' : V.cell? ⟨wo.heap.size, 3, none⟩ = some (.int .i64 u.q) := blk_cell hrV 3
            have v4' : V.cell? ⟨wo.heap.size, 4, none⟩ = some (.slice ap u.args.length cp) := blk_cell hrV 4
            have HC9 := Lib.hid (HCALL.out V hbV)
            have HBV := Lib.hid hbV
            clear hV hbV hrV
            go_wp2_with (first | (go_at_call 18; refine HC9.out.mono ?_; rintro e w7 ⟨rfl, hb7'⟩; have hb7 := HBV.out.trans (hb7'.mono HBV.out.size)))
            go_roundw
            case rel =>
              refine ⟨j + 1, by go_num, hlt, ?_, HBR.out.trans (hb7.mono HBR.out.size)⟩
              rw [eqL_take hjk, HAL.out, ← HU.out, ← HRES.out]
              simp [HR.out]
            case measure => simp only [intOf]; omega
        · obtain rfl : j = c := by omega
          have hd : decide ((j : Int) < (j : Int)) = false := by simp
          go_wp2_with fail
          go_ret
          refine ⟨?_, HBW.out.trans (HBR.out.mono (Nat.le_of_lt hlW))⟩
          have h1 := HAL.out
          rw [HC.out, List.take_length] at h1
          have e : ans = 1 := by rw [HE2.out, h1]; rfl
          exact congrArg (fun n : Int => Ending.returned (.int .i64 n)) e.symm
    · have HK := Lib.hid hk
      have e0 : (t.k == 0) = false := by simp [hk]
      have e1 : (t.k == 1) = false := by simp [hk]
      have e2 : (t.k == 2) = false := by simp [hk]
      have e3 : (t.k == 3) = true := by simp [hk]
      clear hk
      go_wp2_with fail
      go_ret
      refine ⟨?_, HBW.out⟩
      have e : ans = 0 := by rw [HEQ.out]; simp [HK.out]
      exact congrArg (fun n : Int => Ending.returned (.int .i64 n)) e.symm
set_option maxRecDepth 100000 in
set_option maxHeartbeats 4000000 in
theorem req_any : ∀ (f : Nat) (t : Ty), parts t ≤ f → ∀ (D : Nat → Prop) (ao : Option Addr) (cap : Nat) (w : World), (∀ b, D b → b < w.heap.size) → SlD w D t.args ao cap → Fits t → shapedD t = true →
    Calls Try.prog 19 #[.agg (rowOf t ao cap)] w fun e w' => e = .returned (.int .i64 (eqD t)) ∧ Below w.heap.size w w' := by
  intro f
  induction f with
  | zero => intro t ht; have := parts_pos t; omega
  | succ f IH =>
    intro t ht D ao cap w hD hv hfit hsh
    obtain ⟨c, hc⟩ : ∃ c, c = t.args.length := ⟨_, rfl⟩
    obtain ⟨W, hW⟩ : ∃ W, W = w.alloc (.cells (rowOf t ao cap) 33) := ⟨_, rfl⟩
    obtain ⟨hbW, hlW, hrow⟩ := box_at hW
    have hcl : c ≤ 3000000000000 := by rw [hc]; exact hfit.len
    obtain ⟨hok, hsl⟩ : okT t = true ∧ shapedL t.args = true := by rw [shaped_args, Bool.and_eq_true] at hsh; exact hsh
    have heq := eq_args t
    have hkind := ok_kind hok
    obtain ⟨ans, hans⟩ : ∃ ans, ans = eqD t := ⟨_, rfl⟩
    rw [← hans]
    rw [← hans] at heq
    unfold rowOf at hW hrow
    unfold rowOf
    rw [← hc] at hW hrow
    rw [← hc]
    have HC := Lib.hid hc
    have HT := Lib.hid ht
    have HFIT := Lib.hid hfit
    have HIH := Lib.hid IH
    have HD := Lib.hid hD
    have HV := Lib.hid hv
    have HBW := Lib.hid hbW
    have HROW := Lib.hid hrow
    have HSL := Lib.hid hsl
    have HEQ := Lib.hid heq
    have HKIND := Lib.hid hkind
    have c0 : W.cell? ⟨w.heap.size, 0, none⟩ = some (.int .i64 t.k) := blk_cell hrow 0
    have c3 : W.cell? ⟨w.heap.size, 3, none⟩ = some (.int .i64 t.q) := blk_cell hrow 3
    have c4 : W.cell? ⟨w.heap.size, 4, none⟩ = some (.slice ao c cap) := blk_cell hrow 4
    clear IH hD hv hc ht hfit hbW hrow hok hsl heq hkind hsh hans
    go_enter Try.func19, Try.ntmps19
    go_upto_region 1 with fail
    rw [← hW]
    have HWW := Lib.hid hW
    clear hW
    generalize Value.agg #[.int .i64 t.k, .int .i64 t.n, .string t.s, .int .i64 t.q, .slice ao c cap] = v0
    rcases HKIND.out with hk | ⟨hk, hq⟩ | ⟨hk, hq⟩ | ⟨hk, hq⟩ | hk | hk
    · -- a variable
      have HK := Lib.hid hk
      have e0 : (t.k == 0) = true := by simp [hk]
      have e1 : (t.k == 1) = false := by simp [hk]
      have e2 : (t.k == 2) = false := by simp [hk]
      have e3 : (t.k == 3) = false := by simp [hk]
      clear hk
      go_wp2_with fail
      go_ret
      refine ⟨?_, HBW.out⟩
      have e : ans = t.q := by rw [HEQ.out]; simp [HK.out]
      exact congrArg (fun n : Int => Ending.returned (.int .i64 n)) e.symm
    · have HQ := Lib.hid hq
      have HK := Lib.hid hk
      have e0 : (t.k == 0) = false := by simp [hk]
      have e1 : (t.k == 1) = true := by simp [hk]
      have e2 : (t.k == 2) = false := by simp [hk]
      have e3 : (t.k == 3) = false := by simp [hk]
      clear hk
      rw [hq] at c3
      clear hq
      go_wp2_with fail
      go_ret
      refine ⟨?_, HBW.out⟩
      have e : ans = 0 := by rw [HEQ.out]; simp [HK.out, HQ.out]
      exact congrArg (fun n : Int => Ending.returned (.int .i64 n)) e.symm
    · have HE2 : Hid (ans = if eqL t.args then 1 else 0) := Lib.hid (by rw [HEQ.out]; simp [hk, hq])
      have HK := Lib.hid hk
      have e0 : (t.k == 0) = false := by simp [hk]
      have e1 : (t.k == 1) = true := by simp [hk]
      have e2 : (t.k == 2) = false := by simp [hk]
      have e3 : (t.k == 3) = false := by simp [hk]
      clear hk
      rw [hq] at c3
      clear hq
      go_wp2_with fail
      go_loopw [3, 4] (fun i _ wr => ∃ j : Nat, i = .int .i64 (j : Int) ∧ j ≤ c ∧ eqL (t.args.take j) = true ∧ Below W.heap.size W wr) (fun i _ _ => c - (intOf i).toNat)
      case atStart => exact ⟨0, rfl, Nat.zero_le _, by simp [eqL], Below.refl _ _⟩
      case round =>
        obtain ⟨j, rfl, hj, hal, hbr⟩ := hrel
        obtain ⟨wo, rfl⟩ : ∃ wo : World, wo = wr := ⟨_, rfl⟩
        have hrow := blk_below HROW.out hbr hlW
        have c4' : wo.cell? ⟨w.heap.size, 4, none⟩ = some (.slice ao c cap) := blk_cell hrow 4
        have HBR := Lib.hid hbr
        have HAL := Lib.hid hal
        clear hbr hrow hal
        by_cases hlt : j < c
        · have hd : decide ((j : Int) < (c : Int)) = true := by simp; omega
          have hjk : j < t.args.length := by rw [← HC.out]; exact hlt
          have hbo : Below w.heap.size w wo := HBW.out.trans (HBR.out.mono (Nat.le_of_lt hlW))
          have hvr : SlD wo D t.args ao cap := HV.out.keep fun b hb off => below_cells hbo b (HD.out b hb) off
          obtain ⟨b, p, ap, cp, hDb, hix, x0, x1, x2, x3, x4, hs⟩ := arg_cells hvr hjk
          rw [← HC.out] at hix
          obtain ⟨u, hu⟩ : ∃ u, u = t.args[j] := ⟨_, rfl⟩
          rw [← hu] at x0 x1 x2 x3 x4 hs
          have hmem : u ∈ t.args := by rw [hu]; exact List.getElem_mem _
          have hcall : ∀ V : World, Below wo.heap.size wo V → Calls Try.prog 19 #[.agg (rowOf u ap cp)] V fun e w' => e = .returned (.int .i64 (eqD u)) ∧ Below V.heap.size V w' := fun V hV =>
            HIH.out u (by have h1 := HT.out; rw [parts_args] at h1; have := parts_mem hmem; omega) D ap cp V (fun b hb => Nat.lt_of_lt_of_le (HD.out b hb) (Nat.le_trans hbo.size hV.size)) (hs.keep fun b hb off => below_cells hV b (Nat.lt_of_lt_of_le (HD.out b hb) hbo.size) off) (HFIT.out.args.get hmem) (shapedL_get HSL.out hmem)
          obtain ⟨res, hres⟩ : ∃ res, res = eqD u := ⟨_, rfl⟩
          rw [← hres] at hcall
          unfold rowOf at hcall
          have HCALL := Lib.hid hcall
          have HU := Lib.hid hu
          have HRES := Lib.hid hres
          clear hcall hvr hs hu hmem hbo hres
          by_cases hr : res = 0
          · subst hr
            have HC9 := Lib.hid (HCALL.out wo (Below.refl _ _))
            go_wp2_with (first | (go_at_call 19; refine HC9.out.mono ?_; rintro e w7 ⟨rfl, hb7⟩))
            go_ret
            refine ⟨?_, HBW.out.trans ((HBR.out.trans (hb7.mono HBR.out.size)).mono (Nat.le_of_lt hlW))⟩
            have e : ans = 0 := by
              rw [HE2.out, eqL_cut hjk (by rw [← HU.out]; exact HRES.out.symm)]; rfl
            exact congrArg (fun n : Int => Ending.returned (.int .i64 n)) e.symm
          · have er : (res == 0) = false := by simp [hr]
            have HR := Lib.hid hr
            clear hr
            have HC9 := Lib.hid (HCALL.out wo (Below.refl _ _))
            go_wp2_with (first | (go_at_call 19; refine HC9.out.mono ?_; rintro e w7 ⟨rfl, hb7⟩))
            go_roundw
            case rel =>
              refine ⟨j + 1, by go_num, hlt, ?_, HBR.out.trans (hb7.mono HBR.out.size)⟩
              rw [eqL_take hjk, HAL.out, ← HU.out, ← HRES.out]
              simp [HR.out]
            case measure => simp only [intOf]; omega
        · obtain rfl : j = c := by omega
          have hd : decide ((j : Int) < (j : Int)) = false := by simp
          go_wp2_with fail
          go_ret
          refine ⟨?_, HBW.out.trans (HBR.out.mono (Nat.le_of_lt hlW))⟩
          have h1 := HAL.out
          rw [HC.out, List.take_length] at h1
          have e : ans = 1 := by rw [HE2.out, h1]; rfl
          exact congrArg (fun n : Int => Ending.returned (.int .i64 n)) e.symm
    · have HQ := Lib.hid hq
      have HK := Lib.hid hk
      have e0 : (t.k == 0) = false := by simp [hk]
      have e1 : (t.k == 1) = true := by simp [hk]
      have e2 : (t.k == 2) = false := by simp [hk]
      have e3 : (t.k == 3) = false := by simp [hk]
      clear hk
      rw [hq] at c3
      clear hq
      go_wp2_with fail
      go_ret
      refine ⟨?_, HBW.out⟩
      have e : ans = 1 := by rw [HEQ.out]; simp [HK.out, HQ.out]
      exact congrArg (fun n : Int => Ending.returned (.int .i64 n)) e.symm
    · have HE2 : Hid (ans = if eqL t.args then 1 else 0) := Lib.hid (by rw [HEQ.out]; simp [hk])
      have HK := Lib.hid hk
      have e0 : (t.k == 0) = false := by simp [hk]
      have e1 : (t.k == 1) = false := by simp [hk]
      have e2 : (t.k == 2) = true := by simp [hk]
      have e3 : (t.k == 3) = false := by simp [hk]
      clear hk
      go_wp2_with fail
      go_loopw [3, 4] (fun i _ wr => ∃ j : Nat, i = .int .i64 (j : Int) ∧ j ≤ c ∧ eqL (t.args.take j) = true ∧ Below W.heap.size W wr) (fun i _ _ => c - (intOf i).toNat)
      case atStart => exact ⟨0, rfl, Nat.zero_le _, by simp [eqL], Below.refl _ _⟩
      case round =>
        obtain ⟨j, rfl, hj, hal, hbr⟩ := hrel
        obtain ⟨wo, rfl⟩ : ∃ wo : World, wo = wr := ⟨_, rfl⟩
        have hrow := blk_below HROW.out hbr hlW
        have c4' : wo.cell? ⟨w.heap.size, 4, none⟩ = some (.slice ao c cap) := blk_cell hrow 4
        have HBR := Lib.hid hbr
        have HAL := Lib.hid hal
        clear hbr hrow hal
        by_cases hlt : j < c
        · have hd : decide ((j : Int) < (c : Int)) = true := by simp; omega
          have hjk : j < t.args.length := by rw [← HC.out]; exact hlt
          have hbo : Below w.heap.size w wo := HBW.out.trans (HBR.out.mono (Nat.le_of_lt hlW))
          have hvr : SlD wo D t.args ao cap := HV.out.keep fun b hb off => below_cells hbo b (HD.out b hb) off
          obtain ⟨b, p, ap, cp, hDb, hix, x0, x1, x2, x3, x4, hs⟩ := arg_cells hvr hjk
          rw [← HC.out] at hix
          obtain ⟨u, hu⟩ : ∃ u, u = t.args[j] := ⟨_, rfl⟩
          rw [← hu] at x0 x1 x2 x3 x4 hs
          have hmem : u ∈ t.args := by rw [hu]; exact List.getElem_mem _
          have hcall : ∀ V : World, Below wo.heap.size wo V → Calls Try.prog 19 #[.agg (rowOf u ap cp)] V fun e w' => e = .returned (.int .i64 (eqD u)) ∧ Below V.heap.size V w' := fun V hV =>
            HIH.out u (by have h1 := HT.out; rw [parts_args] at h1; have := parts_mem hmem; omega) D ap cp V (fun b hb => Nat.lt_of_lt_of_le (HD.out b hb) (Nat.le_trans hbo.size hV.size)) (hs.keep fun b hb off => below_cells hV b (Nat.lt_of_lt_of_le (HD.out b hb) hbo.size) off) (HFIT.out.args.get hmem) (shapedL_get HSL.out hmem)
          obtain ⟨res, hres⟩ : ∃ res, res = eqD u := ⟨_, rfl⟩
          rw [← hres] at hcall
          unfold rowOf at hcall
          have HCALL := Lib.hid hcall
          have HU := Lib.hid hu
          have HRES := Lib.hid hres
          clear hcall hvr hs hu hmem hbo hres
          by_cases hr : res = 0
          · subst hr
            have HC9 := Lib.hid (HCALL.out wo (Below.refl _ _))
            go_wp2_with (first | (go_at_call 19; refine HC9.out.mono ?_; rintro e w7 ⟨rfl, hb7⟩))
            go_ret
            refine ⟨?_, HBW.out.trans ((HBR.out.trans (hb7.mono HBR.out.size)).mono (Nat.le_of_lt hlW))⟩
            have e : ans = 0 := by
              rw [HE2.out, eqL_cut hjk (by rw [← HU.out]; exact HRES.out.symm)]; rfl
            exact congrArg (fun n : Int => Ending.returned (.int .i64 n)) e.symm
          · have er : (res == 0) = false := by simp [hr]
            have HR := Lib.hid hr
            clear hr
            have HC9 := Lib.hid (HCALL.out wo (Below.refl _ _))
            go_wp2_with (first | (go_at_call 19; refine HC9.out.mono ?_; rintro e w7 ⟨rfl, hb7⟩))
            go_roundw
            case rel =>
              refine ⟨j + 1, by go_num, hlt, ?_, HBR.out.trans (hb7.mono HBR.out.size)⟩
              rw [eqL_take hjk, HAL.out, ← HU.out, ← HRES.out]
              simp [HR.out]
            case measure => simp only [intOf]; omega
        · obtain rfl : j = c := by omega
          have hd : decide ((j : Int) < (j : Int)) = false := by simp
          go_wp2_with fail
          go_ret
          refine ⟨?_, HBW.out.trans (HBR.out.mono (Nat.le_of_lt hlW))⟩
          have h1 := HAL.out
          rw [HC.out, List.take_length] at h1
          have e : ans = 1 := by rw [HE2.out, h1]; rfl
          exact congrArg (fun n : Int => Ending.returned (.int .i64 n)) e.symm
    · have HK := Lib.hid hk
      have e0 : (t.k == 0) = false := by simp [hk]
      have e1 : (t.k == 1) = false := by simp [hk]
      have e2 : (t.k == 2) = false := by simp [hk]
      have e3 : (t.k == 3) = true := by simp [hk]
      clear hk
      go_wp2_with fail
      go_ret
      refine ⟨?_, HBW.out⟩
      have e : ans = 0 := by rw [HEQ.out]; simp [HK.out]
      exact congrArg (fun n : Int => Ending.returned (.int .i64 n)) e.symm
end Go.Proofs.Ytdeomphilggokaa
