/-
  Proved: the contract of show at a constructor's type, that of its arguments given. Condition: a type that may be, of at most 400 parts.
-/
import Derived.Test.YtdeomphilggokaaS6
import Derived.Deep.RegionHeld3
set_option linter.unusedSimpArgs false
set_option linter.unusedVariables false
namespace Go.Proofs.Ytdeomphilggokaa
open Go.RowKit

theorem Fits.s {t : Ty} (h : Fits t) : t.s.size ≤ 140737488355328 := by cases t; unfold Fits at h; exact h.1.2.2.1
set_option maxRecDepth 100000 in
set_option maxHeartbeats 4000000 in
theorem show_con0 (t : Ty) (hk : t.k = 1) (hlen : t.args.length = 0) (B : Nat) (D : Nat → Prop) (ao : Option Addr) (cap m4 mm : Nat) (xs L : List Int) (least : Int) (w : World) (hB : B ≤ w.heap.size) (hst : NamSt B w m4 mm xs) :
    Calls Try.prog 34 #[.agg (rowOf t ao cap), .int .i64 least, nameFn m4] w (NamPost B w m4 mm (varsD xs t) (showD L t least)) := by
  obtain ⟨W, hW⟩ : ∃ W, W = w.alloc (.cells (rowOf t ao cap) 33) := ⟨_, rfl⟩
  obtain ⟨hbW, hlW, hrow⟩ := box_at hW
  have hnil : t.args = [] := List.eq_nil_of_length_eq_zero hlen
  have hvs : varsD xs t = xs := by rw [vars_args, if_neg (by omega), hnil]; simp [varsL]
  have hshow : showD L t least = t.s := by
    rw [show_args, if_neg (by omega), if_neg (by omega), if_neg (by omega), con_none L t.s hlen]
  rw [hshow, hvs]
  have HA := Lib.hid (NamPost.after (B := B) (w := w) (W := W) (m4 := m4) (mm := mm) (xs := xs) (s := t.s) (e := .returned (.string t.s)) (w' := W) ⟨rfl, hst.keep hbW, Below.refl _ _, fun _ _ _ _ h => h⟩ hbW hB)
  unfold rowOf at hW hrow ⊢
  rw [hlen] at hW hrow ⊢
  have c0 : W.cell? ⟨w.heap.size, 0, none⟩ = some (.int .i64 t.k) := blk_cell hrow 0
  have c2 : W.cell? ⟨w.heap.size, 2, none⟩ = some (.string t.s) := blk_cell hrow 2
  have c4 : W.cell? ⟨w.heap.size, 4, none⟩ = some (.slice ao 0 cap) := blk_cell hrow 4
  have e0 : (t.k == 0) = false := by simp [hk]
  have e3 : (t.k == 3) = false := by simp [hk]
  have e2 : (t.k == 2) = false := by simp [hk]
  clear hk hbW hlW hrow hvs hshow hst hB hnil hlen
  go_enter Try.func34, Try.ntmps34
  go_upto_region 1 with fail
  rw [← hW]
  clear hW
  generalize Value.agg #[.int .i64 t.k, .int .i64 t.n, .string t.s, .int .i64 t.q, .slice ao 0 cap] = v0
  go_wp2_with fail
  go_ret
  exact HA.out
set_option maxRecDepth 100000 in
set_option maxHeartbeats 4000000 in
theorem show_con1 (f : Nat) (IH : ShowAt f) (t : Ty) (ht : parts t ≤ f + 1) (hk : t.k = 1) (hlen : t.args.length = 1) (B : Nat) (D : Nat → Prop) (ao : Option Addr) (cap m4 mm : Nat) (xs L R : List Int) (least : Int) (w : World) (hD : ∀ b, D b → b < B) (hB : B ≤ w.heap.size) (hv : SlD w D t.args ao cap) (hfit : Fits t) (hsh : shapedD t = true) (hst : NamSt B w m4 mm xs) (hL : varsD xs t ++ R = L) (hL9 : L.length ≤ 1000) (hp : parts t ≤ 400) :
    Calls Try.prog 34 #[.agg (rowOf t ao cap), .int .i64 least, nameFn m4] w (NamPost B w m4 mm (varsD xs t) (showD L t least)) := by
  obtain ⟨W, hW⟩ : ∃ W, W = w.alloc (.cells (rowOf t ao cap) 33) := ⟨_, rfl⟩
  obtain ⟨hbW, hlW, hrow⟩ := box_at hW
  obtain ⟨u, hargs⟩ : ∃ u, t.args = [u] := by
    match t.args, hlen with
    | [a], _ => exact ⟨a, rfl⟩
  have hvs : varsD xs t = varsD xs u := by
    rw [vars_args, if_neg (by omega), hargs]
    simp [varsL]
  have hshow : showD L t least = (showD L u 2 ++ blankS) ++ t.s := by
    rw [show_args, if_neg (by omega), if_neg (by omega), if_neg (by omega), con_one L t.s hlen]
    simp [hargs]
  have hB' : Below B w W := hbW.mono hB
  obtain ⟨b, p, ap, cp, hb, hix, x0, x1, x2, x3, x4, hcall⟩ := arg_call IH ht hD hB hv hfit hsh hB' (hst.keep hbW) (j := 0) (u := u) (by rw [hargs]; rfl) (R := R) (by rw [← hvs]; exact hL) hL9 hp 2
  have hcall := hcall W.drew (Below.refl _ _).drew
  have hmem0 : u ∈ t.args := by rw [hargs]; simp
  have z0 := showD_small hL9 (hfit.args.get hmem0) (parts_le hmem0 hp) 2
  have zs : t.s.size ≤ 140737488355328 := hfit.s
  rw [hshow, hvs]
  obtain ⟨s0, hs0⟩ : ∃ s, s = showD L u 2 := ⟨_, rfl⟩
  rw [← hs0] at z0
  rw [← hs0]
  rw [hlen] at hix
  have hixa : ∀ w' : World, (Instr.indexAt 31 (.slice ao 1 cap) (.int .i64 0)).run Try.prog w' = .ok (.pointer (some ⟨b, p, none⟩)) w' := hix
  have q1 : ∀ w' : World, (Op.stringOp .add s0 ⟨#[32]⟩).run Try.prog w' = .ok (.string (s0 ++ blankS)) w' := fun w' => run_string_add_sum w' _ _ (by show s0.size + 1 ≤ _; omega)
  have q2 : ∀ w' : World, (Op.stringOp .add (s0 ++ blankS) t.s).run Try.prog w' = .ok (.string ((s0 ++ blankS) ++ t.s)) w' := fun w' => run_string_add_sum w' _ _ (by rw [ByteArray.size_append]; show s0.size + 1 + t.s.size ≤ _; omega)
  have HS0 := Lib.hid hs0
  have HK := Lib.hid (fun (w7 : World) (h7 : NamPost B W m4 mm (varsD xs u) (showD L u 2) (.returned (.string (showD L u 2))) w7) => (show NamPost B w m4 mm (varsD xs u) ((s0 ++ blankS) ++ t.s) (.returned (.string ((s0 ++ blankS) ++ t.s))) w7 from (NamPost.mk rfl h7.st h7.bel h7.box).after hbW hB))
  unfold rowOf at hW hrow hcall ⊢
  rw [hlen] at hW hrow ⊢
  have HC := Lib.hid hcall
  have HROW := Lib.hid hrow
  have c0 : W.cell? ⟨w.heap.size, 0, none⟩ = some (.int .i64 t.k) := blk_cell hrow 0
  have c2 : W.cell? ⟨w.heap.size, 2, none⟩ = some (.string t.s) := blk_cell hrow 2
  have c4 : W.cell? ⟨w.heap.size, 4, none⟩ = some (.slice ao 1 cap) := blk_cell hrow 4
  have KEEP : Hid (∀ w' : World, Below B W w' → (∀ (b : Nat) (c : Array Value) (t : TypeId) (f : Nat × Nat), W.heap[b]? = some (.cells c t f) → w'.heap[b]? = some (.cells c t f)) → w'.cell? ⟨w.heap.size, 2, none⟩ = some (.string t.s) ∧ w'.cell? ⟨w.heap.size, 4, none⟩ = some (.slice ao 1 cap) ∧ w'.cell? ⟨b, p, none⟩ = some (.int .i64 u.k) ∧ w'.cell? ⟨b, p + 1, none⟩ = some (.int .i64 u.n) ∧ w'.cell? ⟨b, p + 2, none⟩ = some (.string u.s) ∧ w'.cell? ⟨b, p + 3, none⟩ = some (.int .i64 u.q) ∧ w'.cell? ⟨b, p + 4, none⟩ = some (.slice ap u.args.length cp)) := Lib.hid (fun w' h hbox =>
    have q : ∀ (o : Nat) (v : Value), W.cell? ⟨b, o, none⟩ = some v → w'.cell? ⟨b, o, none⟩ = some v := fun o v e => (h.cell (p := ⟨b, o, none⟩) hb).trans e
    ⟨blk_cell (hbox _ _ _ _ HROW.out) 2, blk_cell (hbox _ _ _ _ HROW.out) 4, q _ _ x0, q _ _ x1, q _ _ x2, q _ _ x3, q _ _ x4⟩)
  have e0 : (t.k == 0) = false := by simp [hk]
  have e3 : (t.k == 3) = false := by simp [hk]
  have e2 : (t.k == 2) = false := by simp [hk]
  have START := Lib.hid (KEEP.out W.drew (Below.refl _ _).drew (fun _ _ _ _ h => h))
  clear hk hbW hlW hrow hvs hshow hL hL9 hst hfit hB hB' hcall hmem0 hargs hs0 hlen hD hv hsh ht hp IH hb hix x0 x1 x2 x3 x4
  go_enter Try.func34, Try.ntmps34
  go_upto_region 1 with fail
  rw [← hW]
  clear hW
  generalize Value.agg #[.int .i64 t.k, .int .i64 t.n, .string t.s, .int .i64 t.q, .slice ao 1 cap] = v0
  go_upto_region 21 with fail
  clear c0 c2 c4
  go_region_held3 (fun w' => w'.cell? ⟨w.heap.size, 2, none⟩ = some (.string t.s) ∧ w'.cell? ⟨w.heap.size, 4, none⟩ = some (.slice ao 1 cap) ∧ w'.cell? ⟨b, p, none⟩ = some (.int .i64 u.k) ∧ w'.cell? ⟨b, p + 1, none⟩ = some (.int .i64 u.n) ∧ w'.cell? ⟨b, p + 2, none⟩ = some (.string u.s) ∧ w'.cell? ⟨b, p + 3, none⟩ = some (.int .i64 u.q) ∧ w'.cell? ⟨b, p + 4, none⟩ = some (.slice ap u.args.length cp))
    (first | exact START.out | exact d9)
    (first | (go_at_call 34; refine HC.out.mono ?_; rintro e w7 h7; obtain rfl := h7.e; have d9 := KEEP.out w7 h7.bel (fun b c t f hc => h7.box b c t f hc); have H7 := Lib.hid h7; clear h7; rw [← HS0.out]))
  go_wp2_with fail
  go_ret
  exact HK.out _ H7.out
set_option maxRecDepth 100000 in
set_option maxHeartbeats 4000000 in
theorem show_con2 (f : Nat) (IH : ShowAt f) (t : Ty) (ht : parts t ≤ f + 1) (hk : t.k = 1) (hlen2 : 2 ≤ t.args.length) (B : Nat) (D : Nat → Prop) (ao : Option Addr) (cap m4 mm : Nat) (xs L R : List Int) (least : Int) (w : World) (hD : ∀ b, D b → b < B) (hB : B ≤ w.heap.size) (hv : SlD w D t.args ao cap) (hfit : Fits t) (hsh : shapedD t = true) (hst : NamSt B w m4 mm xs) (hL : varsD xs t ++ R = L) (hL9 : L.length ≤ 1000) (hp : parts t ≤ 400) :
    Calls Try.prog 34 #[.agg (rowOf t ao cap), .int .i64 least, nameFn m4] w (NamPost B w m4 mm (varsD xs t) (showD L t least)) := by
  obtain ⟨W, hW⟩ : ∃ W, W = w.alloc (.cells (rowOf t ao cap) 33) := ⟨_, rfl⟩
  obtain ⟨hbW, hlW, hrow⟩ := box_at hW
  have hvs : varsD xs t = varsL xs t.args := by rw [vars_args, if_neg (by omega)]
  obtain ⟨ss, hss⟩ : ∃ ss, ss = joinB commaS (showL L t.args 0) := ⟨_, rfl⟩
  obtain ⟨rr, hrr⟩ : ∃ rr, rr = ((⟨#[40]⟩ ++ ss) ++ closeS) ++ t.s := ⟨_, rfl⟩
  have hshow : showD L t least = rr := by rw [show_args, if_neg (by omega), if_neg (by omega), if_neg (by omega), con_many L t.s hlen2, hrr, hss]
  rw [hshow, hvs]
  rw [hvs] at hL
  have hB' : Below B w W := hbW.mono hB
  have hfull : joinB commaS ((showL L t.args 0).take t.args.length) = ss := by rw [hss, ← showL_len L 0 t.args, List.take_length]
  have y3 : ss.size ≤ 112590000000000000 := by
    have := join_small hL9 hfit.args (parts_args_le hp) 0 commaS (by decide) t.args.length
    rw [hfull] at this
    omega
  have zs : t.s.size ≤ 140737488355328 := hfit.s
  have o1 : ¬ 9223372036854775807 < 1 + ss.size := by omega
  have o2 : ¬ 9223372036854775807 < 1 + ss.size + 2 := by omega
  have o3 : ¬ 9223372036854775807 < 1 + ss.size + 2 + t.s.size := by omega
  have HARG := Lib.hid (fun (j : Nat) (u : Ty) (hj : t.args[j]? = some u) (wo : World) (hbo : Below B W wo) (hso : NamSt B wo m4 mm (varsL xs (t.args.take j))) => by
    obtain ⟨R1, hR1⟩ := varsL_part xs t.args (j + 1)
    rw [varsL_end hj] at hR1
    exact arg_call IH ht hD hB hv hfit hsh (hB'.trans hbo) hso hj (R := R1 ++ R) (by rw [← List.append_assoc, ← hR1]; exact hL) hL9 hp 0)
  have HZ := Lib.hid (fun (j : Nat) => join_small hL9 hfit.args (parts_args_le hp) 0 commaS (by decide) j)
  have HZ1 := Lib.hid (fun (u : Ty) (hu : u ∈ t.args) => showD_small hL9 (hfit.args.get hu) (parts_le hu hp) 0)
  have HA := Lib.hid (fun e w' (h : NamPost B W m4 mm (varsL xs t.args) rr e w') => h.after hbW hB)
  have HRR := Lib.hid hrr
  obtain ⟨c, hc⟩ : ∃ c, c = t.args.length := ⟨_, rfl⟩
  have hcl : c ≤ 3000000000000 := by rw [hc]; exact hfit.len
  have hc2n : 2 ≤ c := by rw [hc]; exact hlen2
  have f0 : (c == 0) = false := by simp; omega
  have f1 : (c == 1) = false := by simp; omega
  have g0 : ((c : Int) == 0) = false := by simp; omega
  have g1 : ((c : Int) == 1) = false := by simp; omega
  rw [← hc] at HARG hfull
  unfold rowOf at hW hrow ⊢
  rw [← hc] at hW hrow ⊢
  have HROW := Lib.hid hrow
  have HC := Lib.hid hc
  have HFULL := Lib.hid hfull
  have HS := Lib.hid (hst.keep hbW)
  have hBW : B ≤ W.heap.size := Nat.le_trans hB hbW.size
  have c0 : W.cell? ⟨w.heap.size, 0, none⟩ = some (.int .i64 t.k) := blk_cell hrow 0
  have c1 : W.cell? ⟨w.heap.size, 1, none⟩ = some (.int .i64 t.n) := blk_cell hrow 1
  have c2 : W.cell? ⟨w.heap.size, 2, none⟩ = some (.string t.s) := blk_cell hrow 2
  have c3 : W.cell? ⟨w.heap.size, 3, none⟩ = some (.int .i64 t.q) := blk_cell hrow 3
  have c4 : W.cell? ⟨w.heap.size, 4, none⟩ = some (.slice ao c cap) := blk_cell hrow 4
  have e0 : (t.k == 0) = false := by simp [hk]
  have e3 : (t.k == 3) = false := by simp [hk]
  have e2 : (t.k == 2) = false := by simp [hk]
  clear hk hbW hlW hrow hvs hshow hL hL9 hst hfit hB hB' hc hss hrr y3 hfull hD hv hsh ht hp IH hlen2 hc2n
  go_enter Try.func34, Try.ntmps34
  go_upto_region 1 with fail
  rw [← hW]
  clear hW
  generalize Value.agg #[.int .i64 t.k, .int .i64 t.n, .string t.s, .int .i64 t.q, .slice ao c cap] = v0
  go_wp2_with fail
  go_loopw [11, 12, 13, 87] (fun s _ _ i wr => ∃ j : Nat, s = .string (joinB commaS ((showL L t.args 0).take j)) ∧ i = .int .i64 (j : Int) ∧ j ≤ c ∧ NamSt B wr m4 mm (varsL xs (t.args.take j)) ∧ Below B W wr ∧ ∀ (b : Nat) (c : Array Value) (t : TypeId) (f : Nat × Nat), W.heap[b]? = some (.cells c t f) → wr.heap[b]? = some (.cells c t f)) (fun _ _ _ i _ => c - (intOf i).toNat)
  case atStart => exact ⟨0, rfl, rfl, Nat.zero_le _, HS.out, Below.refl _ _, fun _ _ _ _ h => h⟩
  case round =>
    obtain ⟨j, rfl, rfl, hj, hso, hbo, hbx⟩ := hrel
    obtain ⟨wo, rfl⟩ : ∃ wo : World, wo = wr := ⟨_, rfl⟩
    obtain ⟨cur, hcur⟩ : ∃ cur, cur = joinB commaS ((showL L t.args 0).take j) := ⟨_, rfl⟩
    rw [← hcur]
    have HCUR := Lib.hid hcur
    have HSO := Lib.hid hso
    have HBO := Lib.hid hbo
    have HBXO := Lib.hid hbx
    have hBo : B ≤ wo.heap.size := Nat.le_trans hBW hbo.size
    by_cases hlt : j < c
    · have hd : decide ((j : Int) < (c : Int)) = true := by simp; omega
      have hjk : j < t.args.length := by rw [← HC.out]; exact hlt
      obtain ⟨u, hu⟩ : ∃ u, t.args[j]? = some u := ⟨_, List.getElem?_eq_getElem hjk⟩
      obtain ⟨b, p, ap, cp, hDb, hix, x0, x1, x2, x3, x4, hcall⟩ := HARG.out j u hu wo hbo hso
      obtain ⟨V, hV⟩ : ∃ V, V = wo.alloc (.cells (rowOf u ap cp) 33) := ⟨_, rfl⟩
      obtain ⟨hbV, hlV, hrV⟩ := box_at hV
      have hcall := hcall V hbV
      have y0 : cur.size ≤ 112590000000000000 := by rw [hcur]; exact HZ.out j
      have y1 := HZ1.out u (List.mem_of_getElem? hu)
      obtain ⟨s0, hs0⟩ : ∃ s, s = showD L u 0 := ⟨_, rfl⟩
      rw [← hs0] at y1
      have y2 : ¬ 9223372036854775807 < cur.size + 2 := by omega
      have y3 : ¬ 9223372036854775807 < cur.size + 2 + s0.size := by omega
      have y4 : ¬ 9223372036854775807 < cur.size + s0.size := by omega
      unfold rowOf at hcall hV hrV
      have HCALL := Lib.hid hcall
      have HU := Lib.hid hu
      have HS0 := Lib.hid hs0
      have v0' : V.cell? ⟨wo.heap.size, 0, none⟩ = some (.int .i64 u.k) := blk_cell hrV 0
      have v1' : V.cell? ⟨wo.heap.size, 1, none⟩ = some (.int .i64 u.n) := blk_cell hrV 1
      have v2' : V.cell? ⟨wo.heap.size, 2, none⟩ = some (.string u.s) := blk_cell hrV 2
      have v3' : V.cell? ⟨wo.heap.size, 3, none⟩ = some (.int .i64 u.q) := blk_cell hrV 3
      have v4' : V.cell? ⟨wo.heap.size, 4, none⟩ = some (.slice ap u.args.length cp) := blk_cell hrV 4
      have HVV := Lib.hid hV
      have HJ : Hid (joinB commaS ((showL L t.args 0).take (j + 1)) = if j = 0 then s0 else (cur ++ commaS) ++ s0) := Lib.hid (by rw [join_end commaS L 0 hu, hcur, hs0])
      have HVS : Hid (varsL xs (t.args.take (j + 1)) = varsD (varsL xs (t.args.take j)) u) := Lib.hid (varsL_end hu)
      clear hcall hu hbV hrV hV hcur hso hbo hbx hs0 hDb
      by_cases hj0 : j = 0
      · have hd2 : ¬ 0 < j := by omega
        have HJ0 := Lib.hid hj0
        have HCE : Hid (cur = ⟨#[]⟩) := Lib.hid (by rw [HCUR.out, hj0]; rfl)
        clear hj0
        go_upto_region 26 with fail
        rw [← HVV.out]
        go_wp2_with (first | (go_at_call 34; refine HCALL.out.mono ?_; rintro e w7 h7; obtain rfl := h7.e; have H7 := Lib.hid h7; clear h7; rw [← HS0.out]))
        go_roundw
        case rel =>
          refine ⟨j + 1, ?_, by go_num, hlt, ?_, HBO.out.trans H7.out.bel, fun b c t f h => H7.out.box b c t f (HBXO.out b c t f h)⟩
          · exact congrArg Value.string (by rw [HJ.out, if_pos HJ0.out, HCE.out, empty_add])
          · rw [HVS.out]; exact H7.out.st
        case measure => simp only [intOf]; omega
      · have hd2 : 0 < j := by omega
        have HJ0 := Lib.hid hj0
        clear hj0
        go_upto_region 26 with fail
        rw [← HVV.out]
        go_wp2_with (first | (go_at_call 34; refine HCALL.out.mono ?_; rintro e w7 h7; obtain rfl := h7.e; have H7 := Lib.hid h7; clear h7; rw [← HS0.out]))
        go_roundw
        case rel =>
          refine ⟨j + 1, ?_, by go_num, hlt, ?_, HBO.out.trans H7.out.bel, fun b c t f h => H7.out.box b c t f (HBXO.out b c t f h)⟩
          · exact congrArg Value.string (by rw [HJ.out, if_neg HJ0.out]; rfl)
          · rw [HVS.out]; exact H7.out.st
        case measure => simp only [intOf]; omega
    · obtain rfl : j = c := by omega
      have hd : decide ((j : Int) < (j : Int)) = false := by simp
      have hc2 : cur = ss := by rw [hcur, HFULL.out]
      rw [hc2]
      have hrw := hbx _ _ _ _ HROW.out
      have r2 : wo.cell? ⟨w.heap.size, 2, none⟩ = some (.string t.s) := blk_cell hrw 2
      clear hcur hc2 hso hbo hbx hrw
      go_wp2_with fail
      go_ret
      have h1 := HSO.out
      rw [HC.out, List.take_length] at h1
      have hfin := HA.out _ _ ⟨rfl, h1, HBO.out, HBXO.out⟩
      rw [HRR.out] at hfin ⊢
      exact hfin
end Go.Proofs.Ytdeomphilggokaa
