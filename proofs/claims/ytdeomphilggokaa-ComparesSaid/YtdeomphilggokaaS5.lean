/-
  Proved: the contract of show at a variable and at an arrow, that of its arguments given. Condition: a type that may be, of at most 400 parts.
-/
import Derived.Test.YtdeomphilggokaaS4
set_option linter.unusedSimpArgs false
set_option linter.unusedVariables false
namespace Go.Proofs.Ytdeomphilggokaa
open Go.RowKit

abbrev nameFn (m4 : Nat) : Value := .func (.func 35) #[] #[.pointer (some ⟨m4, 0, none⟩)]
theorem addV_pre (xs : List Int) (n : Int) : ∃ R, addV xs n = xs ++ R := by
  unfold addV
  split
  · exact ⟨[], by simp⟩
  · exact ⟨[n], rfl⟩
mutual
theorem vars_pre : ∀ (t : Ty) (xs : List Int), ∃ R, varsD xs t = xs ++ R
  | .mk k n s q args, xs => by
    rw [varsD]
    split
    · exact addV_pre xs n
    · exact varsL_pre args xs
theorem varsL_pre : ∀ (l : List Ty) (xs : List Int), ∃ R, varsL xs l = xs ++ R
  | [], xs => ⟨[], by simp [varsL]⟩
  | p :: ps, xs => by
    obtain ⟨R, h1⟩ := vars_pre p xs
    obtain ⟨R2, h2⟩ := varsL_pre ps (varsD xs p)
    exact ⟨R ++ R2, by rw [varsL, h2, h1, List.append_assoc]⟩
end
theorem mem_addV (xs : List Int) (n : Int) : n ∈ addV xs n := by
  unfold addV
  split
  · assumption
  · simp
theorem nameD_more {L xs R : List Int} {n : Int} (q : Int) (h : addV xs n ++ R = L) : nameD (addV xs n) n q = nameD L n q := by
  rw [← h, nameD, nameD, List.idxOf_append, if_pos (mem_addV xs n)]
theorem NamPost.after {B : Nat} {w W : World} {m4 mm : Nat} {xs : List Int} {s : ByteArray} {e : Ending} {w' : World} (h : NamPost B W m4 mm xs s e w') (hb : Below w.heap.size w W) (hB : B ≤ w.heap.size) : NamPost B w m4 mm xs s e w' :=
  ⟨h.e, h.st, (hb.mono hB).trans h.bel, fun b c t f hc => h.box b c t f (blk_below hc hb (lt_of_block hc))⟩
/-- the contract of show at all types of so many parts -/
def ShowAt (f : Nat) : Prop := ∀ (t : Ty), parts t ≤ f → ∀ (B : Nat) (D : Nat → Prop) (ao : Option Addr) (cap m4 mm : Nat) (xs L R : List Int) (least : Int) (w : World), (∀ b, D b → b < B) → B ≤ w.heap.size → SlD w D t.args ao cap → Fits t → shapedD t = true → NamSt B w m4 mm xs → varsD xs t ++ R = L → L.length ≤ 1000 → parts t ≤ 400 →
    Calls Try.prog 34 #[.agg (rowOf t ao cap), .int .i64 least, nameFn m4] w (NamPost B w m4 mm (varsD xs t) (showD L t least))
set_option maxRecDepth 100000 in
set_option maxHeartbeats 4000000 in
theorem show_var (t : Ty) (hk : t.k = 0) (B : Nat) (ao : Option Addr) (cap m4 mm : Nat) (xs L R : List Int) (least : Int) (w : World) (hB : B ≤ w.heap.size) (hfit : Fits t) (hst : NamSt B w m4 mm xs) (hL : varsD xs t ++ R = L) (hL9 : L.length ≤ 1000) :
    Calls Try.prog 34 #[.agg (rowOf t ao cap), .int .i64 least, nameFn m4] w (NamPost B w m4 mm (varsD xs t) (showD L t least)) := by
  obtain ⟨W, hW⟩ : ∃ W, W = w.alloc (.cells (rowOf t ao cap) 33) := ⟨_, rfl⟩
  obtain ⟨hbW, hlW, hrow⟩ := box_at hW
  have hv : varsD xs t = addV xs t.n := by rw [vars_args, if_pos hk]
  have hxl : xs.length ≤ 1000 := by
    obtain ⟨Q, hQ⟩ := vars_pre t xs
    rw [← hL, hQ] at hL9
    simp at hL9
    omega
  have HC := Lib.hid (pname_any B W m4 mm xs (hst.keep hbW) t ao cap hfit.n hxl (Nat.le_trans hB hbW.size))
  have hs : nameD (addV xs t.n) t.n t.q = showD L t least := by
    rw [show_args, if_pos hk]
    rw [hv] at hL
    exact nameD_more t.q hL
  rw [hs, ← hv] at HC
  have HA := Lib.hid (fun e w' (h : NamPost B W m4 mm (varsD xs t) (showD L t least) e w') => h.after hbW hB)
  obtain ⟨c, hc⟩ : ∃ c, c = t.args.length := ⟨_, rfl⟩
  obtain ⟨ss, hss⟩ : ∃ ss, ss = showD L t least := ⟨_, rfl⟩
  rw [← hss] at HC HA ⊢
  unfold rowOf at hW hrow HC ⊢
  rw [← hc] at hW hrow HC ⊢
  have c0 : W.cell? ⟨w.heap.size, 0, none⟩ = some (.int .i64 t.k) := blk_cell hrow 0
  have c1 : W.cell? ⟨w.heap.size, 1, none⟩ = some (.int .i64 t.n) := blk_cell hrow 1
  have c2 : W.cell? ⟨w.heap.size, 2, none⟩ = some (.string t.s) := blk_cell hrow 2
  have c3 : W.cell? ⟨w.heap.size, 3, none⟩ = some (.int .i64 t.q) := blk_cell hrow 3
  have c4 : W.cell? ⟨w.heap.size, 4, none⟩ = some (.slice ao c cap) := blk_cell hrow 4
  have e0 : (t.k == 0) = true := by simp [hk]
  clear hk hbW hlW hrow hv hs hL hL9 hst hc hss hxl hfit hB
  go_enter Try.func34, Try.ntmps34
  go_upto_region 1 with fail
  rw [← hW]
  clear hW
  generalize Value.agg #[.int .i64 t.k, .int .i64 t.n, .string t.s, .int .i64 t.q, .slice ao c cap] = v0
  go_wp2_with (first | (go_at_call 35; refine HC.out.mono ?_; rintro e w7 h7; have H7 := Lib.hid (HA.out _ _ h7); obtain ⟨rfl, _, _, _⟩ := h7))
  go_ret
  exact H7.out
theorem shaped_arrow {t : Ty} (h : shapedD t = true) (hk : t.k = 3) : t.args.length = 2 := by
  rw [shaped_args, Bool.and_eq_true] at h
  have h1 := h.1
  unfold okT at h1
  rw [if_neg (by omega), if_neg (by omega), if_neg (by omega), if_pos hk, decide_eq_true_eq] at h1
  exact h1.1
theorem shaped_mem {t : Ty} (h : shapedD t = true) {u : Ty} (hu : u ∈ t.args) : shapedD u = true := by
  rw [shaped_args, Bool.and_eq_true] at h
  exact shapedL_get h.2 hu
theorem parts_kid {t u : Ty} (h : u ∈ t.args) : parts u < parts t := by
  have h1 := parts_mem h
  rw [parts_args t]
  omega
theorem parts_le {t u : Ty} (h : u ∈ t.args) {n : Nat} (ht : parts t ≤ n) : parts u ≤ n := Nat.le_trans (Nat.le_of_lt (parts_kid h)) ht
theorem pre_len {xs R L : List Int} {n : Nat} (h : xs ++ R = L) (hL : L.length ≤ n) : xs.length ≤ n := by
  rw [← h, List.length_append] at hL
  omega
/-- an argument as show reads it, and what the inner call gives -/
theorem arg_call {f : Nat} (IH : ShowAt f) {t : Ty} (ht : parts t ≤ f + 1) {B : Nat} {D : Nat → Prop} {ao : Option Addr} {cap m4 mm : Nat} {xs L : List Int} {w W : World} (hD : ∀ b, D b → b < B) (hB : B ≤ w.heap.size) (hv : SlD w D t.args ao cap) (hfit : Fits t) (hsh : shapedD t = true) (hb : Below B w W) (hst : NamSt B W m4 mm xs) {j : Nat} {u : Ty} (hj : t.args[j]? = some u) {R : List Int} (hL : varsD xs u ++ R = L) (hL9 : L.length ≤ 1000) (hp : parts t ≤ 400) (least : Int) :
    ∃ b p ap cp, b < B ∧ (∀ w' : World, (Instr.indexAt 31 (.slice ao t.args.length cap) (.int .i64 j)).run Try.prog w' = .ok (.pointer (some ⟨b, p, none⟩)) w') ∧
      W.cell? ⟨b, p, none⟩ = some (.int .i64 u.k) ∧ W.cell? ⟨b, p + 1, none⟩ = some (.int .i64 u.n) ∧ W.cell? ⟨b, p + 2, none⟩ = some (.string u.s) ∧ W.cell? ⟨b, p + 3, none⟩ = some (.int .i64 u.q) ∧ W.cell? ⟨b, p + 4, none⟩ = some (.slice ap u.args.length cp) ∧
      ∀ V : World, Below W.heap.size W V → Calls Try.prog 34 #[.agg (rowOf u ap cp), .int .i64 least, nameFn m4] V (NamPost B W m4 mm (varsD xs u) (showD L u least)) := by
  obtain ⟨hjl, rfl⟩ := List.getElem?_eq_some_iff.1 hj
  have hvr : SlD W D t.args ao cap := hv.keep fun b hD' off => below_cells hb b (hD b hD') off
  obtain ⟨b, p, ap, cp, hDb, hix, x0, x1, x2, x3, x4, hs⟩ := arg_cells hvr hjl
  have hmem : t.args[j] ∈ t.args := List.getElem_mem _
  have hBW : B ≤ W.heap.size := Nat.le_trans hB hb.size
  refine ⟨b, p, ap, cp, hD b hDb, hix, x0, x1, x2, x3, x4, fun V hV => ?_⟩
  refine (IH _ (by have := parts_kid hmem; omega) B D ap cp m4 mm xs L R least V hD (Nat.le_trans hBW hV.size) (hs.keep fun b hD' off => below_cells hV b (Nat.lt_of_lt_of_le (hD b hD') hBW) off) (hfit.args.get hmem) (shaped_mem hsh hmem) (hst.keep hV) hL hL9 (parts_le hmem hp)).mono ?_
  intro e w' h
  exact h.after hV hBW
set_option maxRecDepth 100000 in
set_option maxHeartbeats 4000000 in
theorem show_arrow (f : Nat) (IH : ShowAt f) (t : Ty) (ht : parts t ≤ f + 1) (hk : t.k = 3) (B : Nat) (D : Nat → Prop) (ao : Option Addr) (cap m4 mm : Nat) (xs L R : List Int) (least : Int) (w : World) (hD : ∀ b, D b → b < B) (hB : B ≤ w.heap.size) (hv : SlD w D t.args ao cap) (hfit : Fits t) (hsh : shapedD t = true) (hst : NamSt B w m4 mm xs) (hL : varsD xs t ++ R = L) (hL9 : L.length ≤ 1000) (hp : parts t ≤ 400) :
    Calls Try.prog 34 #[.agg (rowOf t ao cap), .int .i64 least, nameFn m4] w (NamPost B w m4 mm (varsD xs t) (showD L t least)) := by
  obtain ⟨W, hW⟩ : ∃ W, W = w.alloc (.cells (rowOf t ao cap) 33) := ⟨_, rfl⟩
  obtain ⟨hbW, hlW, hrow⟩ := box_at hW
  have h2 := shaped_arrow hsh hk
  obtain ⟨u, u1, hargs⟩ : ∃ u u1, t.args = [u, u1] := by
    match t.args, h2 with
    | [a, b], _ => exact ⟨a, b, rfl⟩
  have hvs : varsD xs t = varsD (varsD xs u) u1 := by
    rw [vars_args, if_neg (by omega), hargs]
    simp [varsL]
  have hshow : showD L t least = roundD (decide (0 < least)) ((showD L u 1 ++ arrowS) ++ showD L u1 0) := by
    rw [show_args, if_neg (by omega), if_pos hk, hargs]
    simp [showL]
  obtain ⟨R1, hR1⟩ := vars_pre u1 (varsD xs u)
  have hB' : Below B w W := hbW.mono hB
  obtain ⟨b, p, ap, cp, hb, hix, x0, x1, x2, x3, x4, hcall⟩ := arg_call IH ht hD hB hv hfit hsh hB' (hst.keep hbW) (j := 0) (u := u) (by rw [hargs]; rfl) (R := R1 ++ R) (by rw [← List.append_assoc, ← hR1, ← hvs]; exact hL) hL9 hp 1
  have hcall := hcall W (Below.refl _ _)
  have hmem1 : u1 ∈ t.args := by rw [hargs]; simp
  have hmem0 : u ∈ t.args := by rw [hargs]; simp
  have z0 := showD_small hL9 (hfit.args.get hmem0) (parts_le hmem0 hp) 1
  have z1 := showD_small hL9 (hfit.args.get hmem1) (parts_le hmem1 hp) 0
  have HSEC := Lib.hid (fun (w7 : World) (hb7 : Below B W w7) (hst7 : NamSt B w7 m4 mm (varsD xs u)) => arg_call IH ht hD hB hv hfit hsh (hB'.trans hb7) hst7 (j := 1) (u := u1) (by rw [hargs]; rfl) (R := R) (by rw [← hvs]; exact hL) hL9 hp 0)
  rw [hshow, hvs]
  obtain ⟨s0, hs0⟩ : ∃ s, s = showD L u 1 := ⟨_, rfl⟩
  obtain ⟨s1, hs1⟩ : ∃ s, s = showD L u1 0 := ⟨_, rfl⟩
  rw [← hs0] at z0
  rw [← hs1] at z1
  rw [← hs0, ← hs1]
  obtain ⟨c, hc⟩ : ∃ c, c = t.args.length := ⟨_, rfl⟩
  rw [h2] at hix HSEC hc
  have hixa : ∀ w' : World, (Instr.indexAt 31 (.slice ao 2 cap) (.int .i64 0)).run Try.prog w' = .ok (.pointer (some ⟨b, p, none⟩)) w' := hix
  have y1 : ¬ 9223372036854775807 < s0.size + 4 := by omega
  have y2 : ¬ 9223372036854775807 < s0.size + 4 + s1.size := by omega
  have y3 : ((s0 ++ arrowS) ++ s1).size ≤ 4611686018427387904 := by
    rw [ByteArray.size_append, ByteArray.size_append]
    have : arrowS.size = 4 := rfl
    omega
  obtain ⟨rr, hrr⟩ : ∃ rr, rr = roundD (decide (0 < least)) ((s0 ++ arrowS) ++ s1) := ⟨_, rfl⟩
  rw [← hrr]
  have HR : Hid (∀ w8 : World, Calls Try.prog 56 #[.bool (decide (0 < least)), .string ((s0 ++ arrowS) ++ s1)] w8 fun e w' => e = .returned (.string rr) ∧ w' = w8) := Lib.hid (fun w8 => by rw [hrr]; exact round_any _ _ w8 y3)
  have HS0 := Lib.hid hs0
  have HS1 := Lib.hid hs1
  have HK := Lib.hid (fun (w7 w8 : World) (h7 : NamPost B W m4 mm (varsD xs u) (showD L u 1) (.returned (.string (showD L u 1))) w7) (h8 : NamPost B w7 m4 mm (varsD (varsD xs u) u1) (showD L u1 0) (.returned (.string (showD L u1 0))) w8) => (show NamPost B w m4 mm (varsD (varsD xs u) u1) rr (.returned (.string rr)) w8 from (NamPost.mk rfl h8.st (h7.bel.trans h8.bel) (fun b c t f hc => h8.box b c t f (h7.box b c t f hc))).after hbW hB))
  unfold rowOf at hW hrow hcall ⊢
  rw [h2] at hW hrow ⊢
  have HC := Lib.hid hcall
  have HROW := Lib.hid hrow
  have c0 : W.cell? ⟨w.heap.size, 0, none⟩ = some (.int .i64 t.k) := blk_cell hrow 0
  have c1 : W.cell? ⟨w.heap.size, 1, none⟩ = some (.int .i64 t.n) := blk_cell hrow 1
  have c2 : W.cell? ⟨w.heap.size, 2, none⟩ = some (.string t.s) := blk_cell hrow 2
  have c3 : W.cell? ⟨w.heap.size, 3, none⟩ = some (.int .i64 t.q) := blk_cell hrow 3
  have c4 : W.cell? ⟨w.heap.size, 4, none⟩ = some (.slice ao 2 cap) := blk_cell hrow 4
  have e0 : (t.k == 0) = false := by simp [hk]
  have e3 : (t.k == 3) = true := by simp [hk]
  clear hk hbW hlW hrow hvs hshow hL hL9 hst hfit hB hB' hc hR1 hcall hmem1 hmem0 hargs hs0 hs1 h2 hD hv hsh ht hp IH hb hix hrr
  go_enter Try.func34, Try.ntmps34
  go_upto_region 1 with fail
  rw [← hW]
  clear hW
  generalize Value.agg #[.int .i64 t.k, .int .i64 t.n, .string t.s, .int .i64 t.q, .slice ao 2 cap] = v0
  go_upto_region 6 with (first | (go_at_call 34; refine HC.out.mono ?_; rintro e w7 h7; obtain rfl := h7.e; have H7 := Lib.hid h7; clear h7))
  rw [← HS0.out]
  obtain ⟨b', p', ap', cp', hb', hix', x0', x1', x2', x3', x4', hcall'⟩ := HSEC.out w7 H7.out.bel H7.out.st
  have HC' := Lib.hid (hcall' w7 (Below.refl _ _))
  have hixb : ∀ w' : World, (Instr.indexAt 31 (.slice ao 2 cap) (.int .i64 1)).run Try.prog w' = .ok (.pointer (some ⟨b', p', none⟩)) w' := hix'
  have hrow7 := H7.out.box _ _ _ _ HROW.out
  have d4 : w7.cell? ⟨w.heap.size, 4, none⟩ = some (.slice ao 2 cap) := blk_cell hrow7 4
  clear hcall' hrow7 hix' hb'
  unfold rowOf at HC'
  go_wp2_with (first | (go_at_call 34; refine HC'.out.mono ?_; rintro e w8 h8; obtain rfl := h8.e; have H8 := Lib.hid h8; clear h8; rw [← HS1.out]) | (go_at_call 56; refine (HR.out _).mono ?_; rintro e w9 ⟨rfl, rfl⟩))
  go_ret
  exact HK.out _ _ H7.out H8.out
end Go.Proofs.Ytdeomphilggokaa
