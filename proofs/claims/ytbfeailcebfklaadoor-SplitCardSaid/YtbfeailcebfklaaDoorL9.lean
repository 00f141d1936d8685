/-
  Proved: the contract of the reference's Token at signs, and everywhere. Conditions: a text of at most 4000 bytes.
-/
import Derived.Test.YtbfeailcebfklaaDoorL8
set_option linter.unusedSimpArgs false
set_option linter.unusedVariables false
namespace Go.Proofs.YtbfeailcebfklaaDoor
open Go.RowKit

def mk2 (p : Nat × Nat) : ByteArray := ⟨#[UInt8.ofNat p.1, UInt8.ofNat p.2]⟩
def mk1 (a : Nat) : ByteArray := ⟨#[UInt8.ofNat a]⟩
theorem signB_eq : signB = pairL.map mk2 ++ signL.map mk1 := by decide +kernel
theorem atD_mk2 (s : ByteArray) (i : Nat) (p : Nat × Nat) (h1 : p.1 < 256) (h2 : p.2 < 256) : atD s i (mk2 p) = decide (i + 2 ≤ s.size ∧ (bt s i, bt s (i + 1)) = p) := by
  unfold mk2
  rw [atD_two]
  have e1 : (UInt8.ofNat p.1).toNat = p.1 := by simp; omega
  have e2 : (UInt8.ofNat p.2).toNat = p.2 := by simp; omega
  rw [e1, e2]
  unfold hasD
  obtain ⟨a, b⟩ := p
  simp
theorem cut_one (s : ByteArray) (k : Nat) (h : k + 1 ≤ s.size) : cut s k (k + 1) = ⟨#[s[k]]⟩ := by
  have hz := sizeL s
  apply ByteArray.ext
  apply Array.ext'
  have h1 : k < s.data.toList.length := by omega
  simp only [cut, ByteArray.data_extract, Array.toList_extract]
  rw [List.extract_eq_take_drop, List.drop_eq_getElem_cons h1, show k + 1 - k = 1 from by omega]
  rfl
theorem atD_mk1 (s : ByteArray) (i a : Nat) (ha : a < 256) (hi : i < s.size) : atD s i (mk1 a) = decide (bt s i = a) := by
  have e : (mk1 a).size = 1 := rfl
  unfold atD
  rw [e, cut_one s i (by omega), ← bt_get s i hi, decide_eq_decide]
  constructor
  · intro h
    have h2 : s[i] = UInt8.ofNat a := by have := h.2; unfold mk1 at this; injection this with this; simpa using this
    rw [h2]; simp; omega
  · intro h
    refine ⟨by omega, ?_⟩
    rw [← h]; simp [mk1]
theorem find_pairs (s : ByteArray) (i : Nat) (L : List (Nat × Nat)) (hL : ∀ p ∈ L, p.1 < 256 ∧ p.2 < 256) : (L.map mk2).find? (fun t => atD s i t) = if i + 2 ≤ s.size ∧ (bt s i, bt s (i + 1)) ∈ L then some (mk2 (bt s i, bt s (i + 1))) else none := by
  induction L with
  | nil => simp
  | cons p L ih =>
    have h := hL p (by simp)
    rw [List.map_cons, List.find?_cons, atD_mk2 s i p h.1 h.2]
    by_cases hp : i + 2 ≤ s.size ∧ (bt s i, bt s (i + 1)) = p
    · rw [decide_eq_true hp, if_pos ⟨hp.1, by rw [hp.2]; simp⟩, hp.2]
    · rw [decide_eq_false hp, ih (fun q hq => hL q (by simp [hq]))]
      by_cases h3 : i + 2 ≤ s.size ∧ (bt s i, bt s (i + 1)) ∈ L
      · rw [if_pos h3, if_pos ⟨h3.1, List.mem_cons_of_mem _ h3.2⟩]
      · rw [if_neg h3, if_neg]
        rintro ⟨h4, h5⟩
        rcases List.mem_cons.1 h5 with h6 | h6
        · exact hp ⟨h4, h6⟩
        · exact h3 ⟨h4, h6⟩
theorem find_signs (s : ByteArray) (i : Nat) (hi : i < s.size) (L : List Nat) (hL : ∀ p ∈ L, p < 256) : (L.map mk1).find? (fun t => atD s i t) = if bt s i ∈ L then some (mk1 (bt s i)) else none := by
  induction L with
  | nil => simp
  | cons p L ih =>
    have h := hL p (by simp)
    rw [List.map_cons, List.find?_cons, atD_mk1 s i p h hi]
    by_cases hp : bt s i = p
    · rw [decide_eq_true hp, if_pos (by rw [hp]; simp), hp]
    · rw [decide_eq_false hp, ih (fun q hq => hL q (by simp [hq]))]
      by_cases h3 : bt s i ∈ L
      · rw [if_pos h3, if_pos (List.mem_cons_of_mem _ h3)]
      · rw [if_neg h3, if_neg]
        intro h5
        rcases List.mem_cons.1 h5 with h6 | h6
        · exact hp h6
        · exact h3 h6
theorem mk2_cut (s : ByteArray) (i : Nat) (h : i + 2 ≤ s.size) : mk2 (bt s i, bt s (i + 1)) = cut s i (i + 2) := by
  rw [cut_two s i h, ← bt_get s i (by omega), ← bt_get s (i + 1) (by omega)]
  simp [mk2]
theorem mk1_cut (s : ByteArray) (i : Nat) (h : i < s.size) : mk1 (bt s i) = cut s i (i + 1) := by
  rw [cut_one s i (by omega), ← bt_get s i (by omega)]
  simp [mk1]
theorem tokD_sign {s : ByteArray} {i : Nat} (hi : i < s.size) (h1 : dig (bt s i) = false) (h2 : bt s i ≠ 34) (h3 : bt s i ≠ 39) (h4 : small (bt s i) = false) (h5 : great (bt s i) = false) (h6 : bt s i ≠ 95) :
    tokD s i = match signB.find? (fun t => atD s i t) with
      | some t => some ((7, i, t, 0), i + t.size)
      | none => none := by
  rw [signB_eq, List.find?_append, find_pairs s i pairL (by decide), find_signs s i hi signL (by decide)]
  unfold tokD
  rw [if_neg (by simp [h1]), if_neg h2, if_neg h3, if_neg (by simp [h4, h5, h6])]
  by_cases hp : i + 2 ≤ s.size ∧ (bt s i, bt s (i + 1)) ∈ pairL
  · rw [if_pos hp, if_pos hp, mk2_cut s i hp.1]
    have e : (cut s i (i + 2)).size = 2 := by rw [cut_two s i hp.1]; rfl
    simp only [Option.some_or, e]
  · rw [if_neg hp, if_neg hp]
    by_cases hq : bt s i ∈ signL
    · rw [if_pos hq, if_pos hq, mk1_cut s i hi]
      have e : (cut s i (i + 1)).size = 1 := by rw [cut_one s i (by omega)]; rfl
      simp only [Option.none_or, e]
    · rw [if_neg hq, if_neg hq]
      rfl
theorem find_drop (s : ByteArray) (i : Nat) (L : List ByteArray) (k : Nat) (h : k < L.length) : (L.drop k).find? (fun t => atD s i t) = if atD s i (L.getD k ByteArray.empty) then some (L.getD k ByteArray.empty) else (L.drop (k + 1)).find? (fun t => atD s i t) := by
  have e : L.getD k ByteArray.empty = L[k] := by rw [List.getD_eq_getElem?_getD, List.getElem?_eq_getElem h]; rfl
  rw [List.drop_eq_getElem_cons h, List.find?_cons, e]
  cases atD s i L[k] <;> rfl
theorem sign_size (k : Nat) (hk : k < 28) : (signB.getD k ByteArray.empty).size ≤ 2 := by
  have h : ∀ k : Fin 28, (signB.getD k ByteArray.empty).size ≤ 2 := by decide +kernel
  exact h ⟨k, hk⟩
abbrev S47 (b bs k : Nat) (kd a n : Int) (x y : ByteArray) (W : World) : Prop :=
  W.cell? ⟨b, 0, none⟩ = some (.int .i64 kd) ∧ W.cell? ⟨b, 1, none⟩ = some (.int .i64 a) ∧ W.cell? ⟨b, 2, none⟩ = some (.string x) ∧ W.cell? ⟨b, 3, none⟩ = some (.int .i64 n) ∧ W.cell? ⟨bs, k, none⟩ = some (.string y)
theorem S47.drew {b bs k : Nat} {kd a n : Int} {x y : ByteArray} {W : World} (h : S47 b bs k kd a n x y W) : S47 b bs k kd a n x y W.drew := h
theorem S47.set {b bs k : Nat} {kd a n : Int} {x y : ByteArray} {W : World} (h : S47 b bs k kd a n x y W) (q i : Nat) (u : Value) (h1 : q ≠ b) (h2 : q ≠ bs) : S47 b bs k kd a n x y (W.setCell ⟨q, i, none⟩ u) :=
  ⟨(World.cell?_setCell_far W _ _ u h1).trans h.1, (World.cell?_setCell_far W _ _ u h1).trans h.2.1, (World.cell?_setCell_far W _ _ u h1).trans h.2.2.1, (World.cell?_setCell_far W _ _ u h1).trans h.2.2.2.1, (World.cell?_setCell_far W _ _ u h2).trans h.2.2.2.2⟩

set_option maxRecDepth 100000 in
set_option maxHeartbeats 4000000 in
theorem rtok_sign (s : ByteArray) (i0 : Nat) (w : World) (hs : s.size ≤ 4000) (hi : i0 < s.size) (h1 : dig (bt s i0) = false) (h2 : bt s i0 ≠ 34) (h3 : bt s i0 ≠ 39) (h4 : small (bt s i0) = false) (h5 : great (bt s i0) = false) (h6 : bt s i0 ≠ 95) :
    Calls Tryd.prog 15 #[.string s, .int .i64 i0] w (RTokPost s i0 w) := by
  have k0 : (0 : Int) ≤ (i0 : Int) := by omega
  have k1 : (i0 : Int) < (s.size : Int) := by omega
  obtain ⟨W, hW⟩ : ∃ W, W = (w.alloc (.cells #[.int .i64 0, .int .i64 0, .string ⟨#[]⟩, .int .i64 0] 30)).alloc (.cells #[.int .i64 0, .int .i64 i0, .string ⟨#[]⟩, .int .i64 0] 30) := ⟨_, rfl⟩
  have hts : TS w W 0 i0 ⟨#[]⟩ 0 := by rw [hW]; exact TS.start w i0
  have HW := Lib.hid hW
  have HTS := Lib.hid hts
  clear hW hts
  obtain ⟨c, hcb⟩ : ∃ c, c = bt s i0 := ⟨_, rfl⟩
  have hck := bt_eq hi hcb
  have HCB := Lib.hid hcb
  have hT := tokD_sign hi h1 h2 h3 h4 h5 h6
  rw [← hcb] at h1 h2 h3 h4 h5 h6
  have e34 : ((c : Int) == 34) = false := by simp; omega
  have e39 : ((c : Int) == 39) = false := by simp; omega
  have e95 : ((c : Int) == 95) = false := by simp; omega
  have HTT := Lib.hid hT
  clear hcb h2 h3 h6 hT
  go_enter Tryd.func15, Tryd.ntmps15
  go_wp2_with fail
  rw [← HW.out]
  refine (digit_any _ _).mono ?_
  rintro e w' ⟨rfl, rfl⟩
  go_wp2_with fail
  refine (small_any _ _).mono ?_
  rintro e w' ⟨rfl, rfl⟩
  go_wp2_with fail
  refine (great_any _ _).mono ?_
  rintro e w' ⟨rfl, rfl⟩
  go_wp2_with fail
  refine (signs_any _).mono ?_
  rintro e w5 ⟨rfl, hw5⟩
  have hts5 : TS w w5 0 i0 ⟨#[]⟩ 0 := by rw [hw5]; exact HTS.out.below (balloc (Below.refl _ _) _)
  have hsa : StrsAt w5 W.heap.size signB := by rw [hw5]; exact signs_at W
  have hWs := lt_of_block HTS.out.t
  obtain ⟨bs, hbs⟩ : ∃ bs, bs = W.heap.size := ⟨_, rfl⟩
  rw [← hbs] at hsa hWs ⊢
  have HT5 := Lib.hid hts5
  have HSA := Lib.hid hsa
  clear hts5 hsa hw5 hbs h1 h4 h5 e34 e39 e95 hck k0 k1
  go_wp2_with fail
  go_loop [14] (fun i => ∃ k : Nat, k ≤ 28 ∧ i = .int .i64 k ∧ (signB.drop k).find? (fun t => atD s i0 t) = signB.find? (fun t => atD s i0 t)) (fun i => 28 - (intOf i).toNat)
  case atStart => exact ⟨0, by omega, rfl, rfl⟩
  case round =>
    obtain ⟨k, hk, rfl, hc⟩ := hrel
    have HC := Lib.hid hc
    clear hc
    have r0 : w5.cell? ⟨w.heap.size, 0, none⟩ = some (.int .i64 0) := blk_cell HT5.out.r 0
    have r1 : w5.cell? ⟨w.heap.size, 1, none⟩ = some (.int .i64 0) := blk_cell HT5.out.r 1
    have r2 : w5.cell? ⟨w.heap.size, 2, none⟩ = some (.string ⟨#[]⟩) := blk_cell HT5.out.r 2
    have r3 : w5.cell? ⟨w.heap.size, 3, none⟩ = some (.int .i64 0) := blk_cell HT5.out.r 3
    have y0 := blk_free HT5.out.r 0
    have y1 := blk_free HT5.out.r 1
    have y2 := blk_free HT5.out.r 2
    have y3 := blk_free HT5.out.r 3
    have a0 : w5.cell? ⟨w.heap.size + 1, 0, none⟩ = some (.int .i64 0) := blk_cell HT5.out.t 0
    have a1 : w5.cell? ⟨w.heap.size + 1, 1, none⟩ = some (.int .i64 i0) := blk_cell HT5.out.t 1
    have a2 : w5.cell? ⟨w.heap.size + 1, 2, none⟩ = some (.string ⟨#[]⟩) := blk_cell HT5.out.t 2
    have a3 : w5.cell? ⟨w.heap.size + 1, 3, none⟩ = some (.int .i64 0) := blk_cell HT5.out.t 3
    have z0 := blk_free HT5.out.t 0
    have z1 := blk_free HT5.out.t 1
    have z2 := blk_free HT5.out.t 2
    have z3 := blk_free HT5.out.t 3
    have hl2 : w.heap.size < w5.heap.size := lt_of_block HT5.out.r
    have hl3 : w.heap.size + 1 < w5.heap.size := lt_of_block HT5.out.t
    by_cases hlt : k < 28
    · have k0 : (0 : Int) ≤ (k : Int) := by omega
      have k1 : (k : Int) < 28 := by omega
      have hcell := HSA.out k hlt
      have hst := find_drop s i0 signB k hlt
      have hsz := sign_size k hlt
      generalize signB.getD k ByteArray.empty = x at hcell hst hsz
      have HST := Lib.hid hst
      clear hst
      cases hx : atD s i0 x with
      | true =>
        have hfd : signB.find? (fun t => atD s i0 t) = some x := by rw [← HC.out, HST.out, if_pos hx]
        have hT := HTT.out
        rw [hfd] at hT
        have HTK := Lib.hid hT
        have hxs : (0 : Int) ≤ (x.size : Int) := by omega
        clear hT hfd
        go_wp2_with fail
        refine (at_any s i0 x _ hs (by omega) (by omega)).mono ?_
        rintro e w' ⟨rfl, rfl⟩
        clear a1 a3 r0 r1 r2 r3 z1 z3
        go_upto_region 47 with fail
        have hts6 := (HT5.out.setk 7).setx x
        have hcell6 : ((w5.setCell ⟨w.heap.size + 1, 0, none⟩ (.int .i64 7)).setCell ⟨w.heap.size + 1, 2, none⟩ (.string x)).cell? ⟨bs, k, none⟩ = some (.string x) :=
          (World.cell?_setCell_far _ _ _ _ (by simp; omega)).trans ((World.cell?_setCell_far _ _ _ _ (by simp; omega)).trans hcell)
        clear a0 a2 z0 z2 hl2 hl3 hcell y0 y1 y2 y3
        generalize (w5.setCell ⟨w.heap.size + 1, 0, none⟩ (.int .i64 7)).setCell ⟨w.heap.size + 1, 2, none⟩ (.string x) = w6 at hts6 hcell6 ⊢
        have HT6 := Lib.hid hts6
        have hS : S47 (w.heap.size + 1) bs k 7 i0 0 x x w6 := ⟨blk_cell hts6.t 0, blk_cell hts6.t 1, blk_cell hts6.t 2, blk_cell hts6.t 3, hcell6⟩
        clear hts6 hcell6
        have r0 : w6.cell? ⟨w.heap.size, 0, none⟩ = some (.int .i64 0) := blk_cell HT6.out.r 0
        have r1 : w6.cell? ⟨w.heap.size, 1, none⟩ = some (.int .i64 0) := blk_cell HT6.out.r 1
        have r2 : w6.cell? ⟨w.heap.size, 2, none⟩ = some (.string ⟨#[]⟩) := blk_cell HT6.out.r 2
        have r3 : w6.cell? ⟨w.heap.size, 3, none⟩ = some (.int .i64 0) := blk_cell HT6.out.r 3
        have y0 := blk_free HT6.out.r 0
        have y1 := blk_free HT6.out.r 1
        have y2 := blk_free HT6.out.r 2
        have y3 := blk_free HT6.out.r 3
        have hl2 : w.heap.size < w6.heap.size := lt_of_block HT6.out.r
        have hl3 : w.heap.size + 1 < w6.heap.size := lt_of_block HT6.out.t
        have hwx : IntKind.i64.wrap ((i0 : Int) + x.size) = i0 + x.size := IntWalk.i64_in _ (by omega)
        go_region_held3 (fun w' => S47 (w.heap.size + 1) bs k 7 i0 0 x x w')
          (repeat (first | exact hS | apply S47.drew | (refine S47.set ?_ _ _ _ (by omega) (by omega))))
          (fail)
        all_goals go_wp2_with fail
        all_goals
          refine bodyPost_ret (v := .tuple #[.agg #[.int .i64 7, .int .i64 i0, .string x, .int .i64 0], .int .i64 ((i0 : Int) + x.size)]) (by simp [results, Tryd.results15, go_sem, *]) rfl ?_
          refine ⟨?_, ?_⟩
          · rw [HTK.out]; rfl
          · repeat (first | exact HT6.out.b | apply Below.drew | refine Below.setCell ?_ (by simp) _)
      | false =>
        go_wp2_with fail
        refine (at_any s i0 x _ hs (by omega) (by omega)).mono ?_
        rintro e w' ⟨rfl, rfl⟩
        go_wp2_with fail
        go_round
        case rel => exact ⟨k + 1, by omega, by go_num, by rw [← HC.out, HST.out, if_neg (by simp [hx])]⟩
        case measure => simp [intOf]; omega
    · obtain rfl : k = 28 := by omega
      have hfd : signB.find? (fun t => atD s i0 t) = none := by rw [← HC.out]; rfl
      have hT := HTT.out
      rw [hfd] at hT
      have HTK := Lib.hid hT
      clear hT hfd
      go_wp2_with fail
      refine bodyPost_ret (v := .tuple #[.agg #[.int .i64 0, .int .i64 i0, .string ⟨#[]⟩, .int .i64 0], .int .i64 (-1)]) (by simp [results, Tryd.results15, go_sem, *]) rfl ?_
      refine ⟨?_, ?_⟩
      · rw [HTK.out]; exact ⟨_, _, _, _, rfl⟩
      · repeat (first | exact HT5.out.b | refine Below.setCell ?_ (by simp) _)

theorem rtok_any (s : ByteArray) (i0 : Nat) (w : World) (hs : s.size ≤ 4000) (hi : i0 < s.size) : Calls Tryd.prog 15 #[.string s, .int .i64 i0] w (RTokPost s i0 w) := by
  cases h1 : dig (bt s i0) with
  | true => exact rtok_digit s i0 w hs hi h1
  | false =>
    by_cases h2 : bt s i0 = 34
    · exact rtok_text s i0 w hs hi h2
    · by_cases h3 : bt s i0 = 39
      · exact rtok_var s i0 w hs hi h3
      · by_cases hn : small (bt s i0) = true ∨ great (bt s i0) = true ∨ bt s i0 = 95
        · exact rtok_name s i0 w hs hi hn
        · simp only [not_or, Bool.not_eq_true] at hn
          exact rtok_sign s i0 w hs hi h1 h2 h3 hn.1 hn.2.1 hn.2.2

end Go.Proofs.YtbfeailcebfklaaDoor
