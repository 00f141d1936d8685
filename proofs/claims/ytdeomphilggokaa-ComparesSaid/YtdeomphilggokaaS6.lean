/-
  Proved: the contract of show at a tuple, that of its arguments given. Condition: a type that may be, of at most 400 parts.
-/
import Derived.Test.YtdeomphilggokaaS5
set_option linter.unusedSimpArgs false
set_option linter.unusedVariables false
namespace Go.Proofs.Ytdeomphilggokaa
open Go.RowKit

theorem varsL_end {xs : List Int} {l : List Ty} {j : Nat} {u : Ty} (hj : l[j]? = some u) : varsL xs (l.take (j + 1)) = varsD (varsL xs (l.take j)) u := by
  obtain ⟨h, rfl⟩ := List.getElem?_eq_some_iff.1 hj
  exact varsL_take h xs
theorem varsL_part (xs : List Int) (l : List Ty) (j : Nat) : ∃ R, varsL xs l = varsL xs (l.take j) ++ R := by
  obtain ⟨R, hR⟩ := varsL_pre (l.drop j) (varsL xs (l.take j))
  refine ⟨R, ?_⟩
  rw [← hR, ← varsL_append, List.take_append_drop]
theorem join_end (sep : ByteArray) (L : List Int) (c : Int) {l : List Ty} {j : Nat} {u : Ty} (hj : l[j]? = some u) : joinB sep ((showL L l c).take (j + 1)) = if j = 0 then showD L u c else (joinB sep ((showL L l c).take j) ++ sep) ++ showD L u c := by
  obtain ⟨h, rfl⟩ := List.getElem?_eq_some_iff.1 hj
  exact join_take sep L c h
theorem parts_args_le {t : Ty} {n : Nat} (h : parts t ≤ n) : partsL t.args ≤ n := by rw [parts_args] at h; omega
set_option maxRecDepth 100000 in
set_option maxHeartbeats 4000000 in
theorem show_tuple (f : Nat) (IH : ShowAt f) (t : Ty) (ht : parts t ≤ f + 1) (hk : t.k = 2) (B : Nat) (D : Nat → Prop) (ao : Option Addr) (cap m4 mm : Nat) (xs L R : List Int) (least : Int) (w : World) (hD : ∀ b, D b → b < B) (hB : B ≤ w.heap.size) (hv : SlD w D t.args ao cap) (hfit : Fits t) (hsh : shapedD t = true) (hst : NamSt B w m4 mm xs) (hL : varsD xs t ++ R = L) (hL9 : L.length ≤ 1000) (hp : parts t ≤ 400) :
    Calls Try.prog 34 #[.agg (rowOf t ao cap), .int .i64 least, nameFn m4] w (NamPost B w m4 mm (varsD xs t) (showD L t least)) := by
  obtain ⟨W, hW⟩ : ∃ W, W = w.alloc (.cells (rowOf t ao cap) 33) := ⟨_, rfl⟩
  obtain ⟨hbW, hlW, hrow⟩ := box_at hW
  have hvs : varsD xs t = varsL xs t.args := by rw [vars_args, if_neg (by omega)]
  obtain ⟨ss, hss⟩ : ∃ ss, ss = joinB starS (showL L t.args 2) := ⟨_, rfl⟩
  obtain ⟨rr, hrr⟩ : ∃ rr, rr = roundD (decide (1 < least)) ss := ⟨_, rfl⟩
  have hshow : showD L t least = rr := by rw [show_args, if_neg (by omega), if_neg (by omega), if_pos hk, hrr, hss]
  rw [hshow, hvs]
  rw [hvs] at hL
  have hB' : Below B w W := hbW.mono hB
  have hfull : joinB starS ((showL L t.args 2).take t.args.length) = ss := by rw [hss, ← showL_len L 2 t.args, List.take_length]
  have y3 : ss.size ≤ 4611686018427387904 := by
    have := join_small hL9 hfit.args (parts_args_le hp) 2 starS (by decide) t.args.length
    rw [hfull] at this
    omega
  have HR : Hid (∀ w8 : World, Calls Try.prog 56 #[.bool (decide (1 < least)), .string ss] w8 fun e w' => e = .returned (.string rr) ∧ w' = w8) := Lib.hid (fun w8 => by rw [hrr]; exact round_any _ _ w8 y3)
  have HARG := Lib.hid (fun (j : Nat) (u : Ty) (hj : t.args[j]? = some u) (wo : World) (hbo : Below B W wo) (hso : NamSt B wo m4 mm (varsL xs (t.args.take j))) => by
    obtain ⟨R1, hR1⟩ := varsL_part xs t.args (j + 1)
    rw [varsL_end hj] at hR1
    exact arg_call IH ht hD hB hv hfit hsh (hB'.trans hbo) hso hj (R := R1 ++ R) (by rw [← List.append_assoc, ← hR1]; exact hL) hL9 hp 2)
  have HZ := Lib.hid (fun (j : Nat) => join_small hL9 hfit.args (parts_args_le hp) 2 starS (by decide) j)
  have HZ1 := Lib.hid (fun (u : Ty) (hu : u ∈ t.args) => showD_small hL9 (hfit.args.get hu) (parts_le hu hp) 2)
  have HA := Lib.hid (fun e w' (h : NamPost B W m4 mm (varsL xs t.args) rr e w') => h.after hbW hB)
  obtain ⟨c, hc⟩ : ∃ c, c = t.args.length := ⟨_, rfl⟩
  have hcl : c ≤ 3000000000000 := by rw [hc]; exact hfit.len
  rw [← hc] at HARG hfull
  unfold rowOf at hW hrow ⊢
  rw [← hc] at hW hrow ⊢
  have HC := Lib.hid hc
  have HFULL := Lib.hid hfull
  have HS := Lib.hid (hst.keep hbW)
  have hBW : B ≤ W.heap.size := Nat.le_trans hB hbW.size
  have c0 : W.cell? ⟨w.heap.size, 0, none⟩ = some (.int .i64 t.k) := blk_cell hrow 0
  have c1 : W.cell? ⟨w.heap.size, 1, none⟩ = some (.int .i64 t.n) := blk_cell hrow 1
  have c2 : W.cell? ⟨w.heap.size, 2, none⟩ = some (.string t.s) := blk_cell hrow 2
  have c3 : W.cell? ⟨w.heap.size, 3, none⟩ = some (.int .i64 t.q) := blk_cell hrow 3
  have c4 : W.cell? ⟨w.heap.size, 4, none⟩ = some (.slice ao c cap) := blk_cell hrow 4
  have e0 : (t.k == 0) = false := by simp [hk]
  have e3 : (t.k == 3) = false := by simp [hk]
  have e2 : (t.k == 2) = true := by simp [hk]
  clear hk hbW hlW hrow hvs hshow hL hL9 hst hfit hB hB' hc hss hrr y3 hfull hD hv hsh ht hp IH
  go_enter Try.func34, Try.ntmps34
  go_upto_region 1 with fail
  rw [← hW]
  clear hW
  generalize Value.agg #[.int .i64 t.k, .int .i64 t.n, .string t.s, .int .i64 t.q, .slice ao c cap] = v0
  go_wp2_with fail
  go_loopw [8, 9, 10, 46] (fun s _ _ i wr => ∃ j : Nat, s = .string (joinB starS ((showL L t.args 2).take j)) ∧ i = .int .i64 (j : Int) ∧ j ≤ c ∧ NamSt B wr m4 mm (varsL xs (t.args.take j)) ∧ Below B W wr ∧ ∀ (b : Nat) (c : Array Value) (t : TypeId) (f : Nat × Nat), W.heap[b]? = some (.cells c t f) → wr.heap[b]? = some (.cells c t f)) (fun _ _ _ i _ => c - (intOf i).toNat)
  case atStart => exact ⟨0, rfl, rfl, Nat.zero_le _, HS.out, Below.refl _ _, fun _ _ _ _ h => h⟩
  case round =>
    obtain ⟨j, rfl, rfl, hj, hso, hbo, hbx⟩ := hrel
    obtain ⟨wo, rfl⟩ : ∃ wo : World, wo = wr := ⟨_, rfl⟩
    obtain ⟨cur, hcur⟩ : ∃ cur, cur = joinB starS ((showL L t.args 2).take j) := ⟨_, rfl⟩
    rw [← hcur]
    have HCUR := Lib.hid hcur
    have HSO := Lib.hid hso
    have HBO := Lib.hid hbo
    have HBXO := Lib.hid hbx
    have hBo : B ≤ wo.heap.size := Nat.le_trans hBW hbo.size
    by_cases hlt : j < c
    · have hd : decide ((j : Int) < (c : Int)) = true := by simp; omega
      have hjk : j < t.args.length := by rw [← HC.out]; exact hlt
      obtain ⟨u, hu⟩ : ∃ u, t.args[j]? = some u := ⟨_, List.getElem?_eq_getElem hjk⟩
      obtain ⟨b, p, ap, cp, hDb, hix, x0, x1, x2, x3, x4, hcall⟩ := HARG.out j u hu wo hbo hso
      obtain ⟨V, hV⟩ : ∃ V, V = wo.alloc (.cells (rowOf u ap cp) 33) := ⟨_, rfl⟩
      obtain ⟨hbV, hlV, hrV⟩ := box_at hV
      have hcall := hcall V hbV
      have y0 : cur.size ≤ 112590000000000000 := by rw [hcur]; exact HZ.out j
      have y1 := HZ1.out u (List.mem_of_getElem? hu)
      obtain ⟨s0, hs0⟩ : ∃ s, s = showD L u 2 := ⟨_, rfl⟩
      rw [← hs0] at y1
      have y2 : ¬ 9223372036854775807 < cur.size + 3 := by omega
      have y3 : ¬ 9223372036854775807 < cur.size + 3 + s0.size := by omega
      have y4 : ¬ 9223372036854775807 < cur.size + s0.size := by omega
      unfold rowOf at hcall hV hrV
      have HCALL := Lib.hid hcall
      have HU := Lib.hid hu
      have HS0 := Lib.hid hs0
      have v0' : V.cell? ⟨wo.heap.size, 0, none⟩ = some (.int .i64 u.k) := blk_cell hrV 0
      have v1' : V.cell? ⟨wo.heap.size, 1, none⟩ = some (.int .i64 u.n) := blk_cell hrV 1
      have v2' : V.cell? ⟨wo.heap.size, 2, none⟩ = some (.string u.s) := blk_cell hrV 2
      have v3' : V.cell? ⟨wo.heap.size, 3, none⟩ = some (.int .i64 u.q) := blk_cell hrV 3
      have v4' : V.cell? ⟨wo.heap.size, 4, none⟩ = some (.slice ap u.args.length cp) := blk_cell hrV 4
      have HVV := Lib.hid hV
      have HJ : Hid (joinB starS ((showL L t.args 2).take (j + 1)) = if j = 0 then s0 else (cur ++ starS) ++ s0) := Lib.hid (by rw [join_end starS L 2 hu, hcur, hs0])
      have HVS : Hid (varsL xs (t.args.take (j + 1)) = varsD (varsL xs (t.args.take j)) u) := Lib.hid (varsL_end hu)
      clear hcall hu hbV hrV hV hcur hso hbo hbx hs0 hDb
      by_cases hj0 : j = 0
      · have hd2 : ¬ 0 < j := by omega
        have HJ0 := Lib.hid hj0
        have HCE : Hid (cur = ⟨#[]⟩) := Lib.hid (by rw [HCUR.out, hj0]; rfl)
        clear hj0
        go_upto_region 12 with fail
        rw [← HVV.out]
        go_wp2_with (first | (go_at_call 34; refine HCALL.out.mono ?_; rintro e w7 h7; obtain rfl := h7.e; have H7 := Lib.hid h7; clear h7; rw [← HS0.out]))
        go_roundw
        case rel =>
          refine ⟨j + 1, ?_, by go_num, hlt, ?_, HBO.out.trans H7.out.bel, fun b c t f h => H7.out.box b c t f (HBXO.out b c t f h)⟩
          · exact congrArg Value.string (by rw [HJ.out, if_pos HJ0.out, HCE.out, empty_add])
          · rw [HVS.out]; exact H7.out.st
        case measure => simp only [intOf]; omega
      · have hd2 : 0 < j := by omega
        have HJ0 := Lib.hid hj0
        clear hj0
        go_upto_region 12 with fail
        rw [← HVV.out]
        go_wp2_with (first | (go_at_call 34; refine HCALL.out.mono ?_; rintro e w7 h7; obtain rfl := h7.e; have H7 := Lib.hid h7; clear h7; rw [← HS0.out]))
        go_roundw
        case rel =>
          refine ⟨j + 1, ?_, by go_num, hlt, ?_, HBO.out.trans H7.out.bel, fun b c t f h => H7.out.box b c t f (HBXO.out b c t f h)⟩
          · exact congrArg Value.string (by rw [HJ.out, if_neg HJ0.out]; rfl)
          · rw [HVS.out]; exact H7.out.st
        case measure => simp only [intOf]; omega
    · obtain rfl : j = c := by omega
      have hd : decide ((j : Int) < (j : Int)) = false := by simp
      have hc2 : cur = ss := by rw [hcur, HFULL.out]
      rw [hc2]
      clear hcur hc2 hso hbo hbx
      go_wp2_with (first | (go_at_call 56; refine (HR.out _).mono ?_; rintro e w9 ⟨rfl, rfl⟩))
      go_ret
      have h1 := HSO.out
      rw [HC.out, List.take_length] at h1
      exact HA.out _ _ ⟨rfl, h1, HBO.out, HBXO.out⟩
end Go.Proofs.Ytdeomphilggokaa
