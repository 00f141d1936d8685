/-
  Proved: the contracts of letters and of the function that Show hands to show. Condition: at most 1000 names.
-/
import Derived.Test.YtdeomphilggokaaS2
set_option linter.unusedSimpArgs false
set_option linter.unusedVariables false
namespace Go.Proofs.Ytdeomphilggokaa
open Go.RowKit Go.Maps

/-- the letters of a number -/
def letD (n : Nat) : ByteArray := if n < 26 then ⟨#[UInt8.ofNat (97 + n % 26)]⟩ else ⟨#[UInt8.ofNat (97 + n % 26)]⟩ ++ digD (n / 26)
theorem letD_size (n : Nat) : (letD n).size ≤ n + 3 := by
  unfold letD
  split
  · show 1 ≤ n + 3
    omega
  · rw [ByteArray.size_append]
    have h1 := digD_size (n / 26) (n / 26) (Nat.le_refl _)
    have h2 : (⟨#[UInt8.ofNat (97 + n % 26)]⟩ : ByteArray).size = 1 := rfl
    omega
set_option maxRecDepth 100000 in
set_option maxHeartbeats 4000000 in
theorem letters_any (n : Nat) (h : n < 2600) (w : World) : Calls Try.prog 36 #[.int .i64 (n : Int)] w fun e w' => e = .returned (.string (letD n)) ∧ Below w.heap.size w w' := by
  obtain ⟨q, hq⟩ : ∃ q, q = n / 26 := ⟨_, rfl⟩
  obtain ⟨c, hc⟩ : ∃ c, c = 97 + n % 26 := ⟨_, rfl⟩
  obtain ⟨r, hr⟩ : ∃ r, r = n % 26 := ⟨_, rfl⟩
  have eq : (n : Int).tdiv 26 = (q : Int) := by rw [Int.tdiv_eq_ediv_of_nonneg (by omega)]; omega
  have er : (n : Int).tmod 26 = (r : Int) := by rw [Int.tmod_eq_emod_of_nonneg (by omega)]; omega
  have hcr : (97 : Int) + (r : Int) = (c : Int) := by omega
  have wq : IntKind.i64.wrap (q : Int) = (q : Int) := wrap_small _ (by omega) (by omega)
  have wr : IntKind.i64.wrap (r : Int) = (r : Int) := wrap_small _ (by omega) (by omega)
  have wc : IntKind.i64.wrap (c : Int) = (c : Int) := wrap_small _ (by omega) (by omega)
  have wu : IntKind.u8.wrap (c : Int) = (c : Int) := by rw [IntKind.wrap_u8]; omega
  obtain ⟨s, hs⟩ : ∃ s, s = digD q := ⟨_, rfl⟩
  have hs9 : s.size ≤ 1001 := by rw [hs]; have := digD_size q q (Nat.le_refl _); omega
  have hz : ¬ 9223372036854775807 < 1 + s.size := by omega
  have hconv := conv_one w c (by omega)
  have G1 : Hid (Calls Try.prog 57 #[.int .i64 (q : Int)] (w.alloc (.cells #[.int .u8 (c : Int)] 5)) fun e w' => e = .returned (.string s) ∧ Below w.heap.size w w') := (pdigits_any q (by omega) _).mono (by
    rintro e w' ⟨rfl, hb⟩
    rw [hs]
    have h0 : Below w.heap.size w (w.alloc (.cells #[.int .u8 (c : Int)] 5)) := balloc (Below.refl _ _) _
    exact ⟨rfl, h0.trans (hb.mono h0.size)⟩)
  have HQ := Lib.hid hq
  have HCC := Lib.hid hc
  have HS := Lib.hid hs
  by_cases hn : n < 26
  · have hd : decide ((n : Int) < 26) = true := by simp; omega
    have HN := Lib.hid hn
    clear h hq hr hs hc hn
    go_enter Try.func36, Try.ntmps36
    go_wp2_with fail
    go_ret
    refine ⟨?_, balloc (Below.refl _ _) _⟩
    exact congrArg (fun s => Ending.returned (Value.string s)) (by rw [letD, if_pos HN.out, ← HCC.out])
  · have hd : decide ((n : Int) < 26) = false := by simp; omega
    have HN := Lib.hid hn
    clear h hq hr hs hc hn
    go_enter Try.func36, Try.ntmps36
    go_wp2_with (first | (go_at_call 57; refine G1.out.mono ?_; rintro e w7 ⟨rfl, hb7⟩))
    go_ret
    refine ⟨?_, hb7⟩
    exact congrArg (fun s => Ending.returned (Value.string s)) (by rw [letD, if_neg HN.out, ← HCC.out, ← HQ.out, ← HS.out])
/-- the name of a number by its place -/
def nameF (xs : List Int) (k : Int) : Option Value := if k ∈ xs then some (.string (letD (xs.idxOf k))) else none
/-- block b holds the names of the numbers of a list -/
def MapS (w : World) (b : Nat) (xs : List Int) : Prop := ∃ D, w.ownsMap Try.prog 3 hR b xs.length D ∧ (∀ k, I64 k → fOf D k = nameF xs k) ∧ Tidy D ∧ size D = xs.length ∧ ∀ k, I64 k → has D (.int .i64 k) = decide (k ∈ xs)
theorem MapS.f {w : World} {b : Nat} {xs : List Int} (h : MapS w b xs) : MapF w b xs.length (nameF xs) := by
  obtain ⟨D, h1, h2, _⟩ := h
  exact ⟨D, h1, h2⟩
theorem MapS.made (w : World) : MapS (w.alloc (.map #[] 0)) w.heap.size [] := ⟨_, World.ownsMap_made w _ _ _, fun k _ => by simp [fOf, nameF, DataW.atKey], tidy_empty, rfl, fun k _ => by simp [has_eq]⟩
theorem MapS.of_same {w w' : World} {b : Nat} {xs : List Int} (h : MapS w b xs) (e : w'.heap[b]? = w.heap[b]?) : MapS w' b xs := by
  obtain ⟨D, ⟨es, clock, hb, F, hs, hD⟩, hf⟩ := h
  exact ⟨D, ⟨es, clock, e.trans hb, F, hs, hD⟩, hf⟩
theorem MapS.len {w : World} {b : Nat} {xs : List Int} (h : MapS w b xs) (ty : TypeId) : (Builtin.len_ #[64] ty #[.map (some b)]).run Try.prog w = .ok (.int .i64 xs.length) w := by
  obtain ⟨D, h1, _, _, h2, _⟩ := h
  rw [← h2]
  exact h1.len Try.underlying64 ty
theorem nameF_snoc {xs : List Int} {n : Int} (hn : n ∉ xs) (k : Int) : nameF (xs ++ [n]) k = if k = n then some (.string (letD xs.length)) else nameF xs k := by
  unfold nameF
  by_cases e : k = n
  · subst e
    rw [if_pos (by simp), if_pos rfl, List.idxOf_append, if_neg hn]
    simp
  · rw [if_neg e]
    by_cases hk : k ∈ xs
    · rw [if_pos (by simp [hk]), if_pos hk, List.idxOf_append, if_pos hk]
    · rw [if_neg (by simp [hk, e]), if_neg hk]
theorem MapS.store {w : World} {b : Nat} {xs : List Int} (h : MapS w b xs) (hl : xs.length < maxLen) {n : Int} (hn : n ∉ xs) (hi : I64 n) :
    ∃ w', (Instr.mapUpdate 64 (.map (some b)) (.int .i64 n) (.string (letD xs.length))).run Try.prog w = .ok () w' ∧ MapS w' b (xs ++ [n]) ∧ w.grownBy w' (some b) := by
  obtain ⟨D, h1, hf, htd, hsz, hhas⟩ := h
  obtain ⟨w', hrun, hown, ht'⟩ := h1.store law3 Try.underlying64 hl (key3 hi) (show hR (.string (letD xs.length)) = some (.held (some (.string (letD xs.length))), []) from rfl)
  refine ⟨w', hrun, ⟨_, by rw [List.length_append]; exact hown, fun j hj => ?_, htd.put (law3.key (key3 hi)) _, ?_, fun j hj => ?_⟩, ht'.grown⟩
  · rw [nameF_snoc hn]
    unfold fOf
    by_cases e : j = n
    · subst e
      rw [if_pos rfl, atKey_put_same h1.isMap (law3.key (key3 hj))]
    · rw [if_neg e, atKey_put_other (by simpa using e)]
      exact hf j hj
  · rw [size_put htd, hhas n hi, List.length_append]
    simp [hn, hsz]
  · by_cases e : j = n
    · subst e
      rw [has_put_same h1.isMap (law3.key (key3 hj))]
      simp
    · rw [has_put_other (by simpa using e), hhas j hj]
      simp [e]
/-- a variable's name -/
def nameD (L : List Int) (n q : Int) : ByteArray := (if q = 1 then ⟨#[39, 39]⟩ else ⟨#[39]⟩) ++ letD (L.idxOf n)
/-- what Show keeps in memory, all of it at B or above -/
structure NamSt (B : Nat) (w : World) (m4 mm : Nat) (xs : List Int) : Prop where
  m : w.heap[m4]? = some (.cells #[.map (some mm)] 64 (0, 0))
  mp : MapS w mm xs
  b1 : B ≤ m4
  b2 : B ≤ mm
theorem MapS.lt {w : World} {b : Nat} {xs : List Int} (h : MapS w b xs) : b < w.heap.size := h.f.lt
theorem NamSt.keep {B : Nat} {w w' : World} {m4 mm : Nat} {xs : List Int} (h : NamSt B w m4 mm xs) (hb : Below w.heap.size w w') : NamSt B w' m4 mm xs :=
  ⟨blk_below h.m hb (lt_of_block h.m), h.mp.of_same (hb.block _ h.mp.lt), h.b1, h.b2⟩
/-- what a name leaves: all cells stand as they stood -/
structure NamPost (B : Nat) (w : World) (m4 mm : Nat) (xs : List Int) (s : ByteArray) (e : Ending) (w' : World) : Prop where
  e : e = .returned (.string s)
  st : NamSt B w' m4 mm xs
  bel : Below B w w'
  box : ∀ (b : Nat) (c : Array Value) (t : TypeId) (f : Nat × Nat), w.heap[b]? = some (.cells c t f) → w'.heap[b]? = some (.cells c t f)
theorem zero9 (w : World) : (zeroValue 9).run Try.prog w = .ok (.string ⟨#[]⟩) w := by kernel_rfl
set_option maxRecDepth 100000 in
set_option maxHeartbeats 4000000 in
theorem pname_any (B : Nat) (w : World) (m4 mm : Nat) (xs : List Int) (h : NamSt B w m4 mm xs) (t : Ty) (ao : Option Addr) (cap : Nat) (hn : I64 t.n) (hlen : xs.length ≤ 1000) (hB : B ≤ w.heap.size) :
    Calls Try.prog 35 #[.agg (rowOf t ao cap), .pointer (some ⟨m4, 0, none⟩)] w (NamPost B w m4 mm (addV xs t.n) (nameD (addV xs t.n) t.n t.q)) := by
  obtain ⟨W, hW⟩ : ∃ W, W = w.alloc (.cells (rowOf t ao cap) 33) := ⟨_, rfl⟩
  obtain ⟨hbW, hlW, hrow⟩ := box_at hW
  have hS := h.keep hbW
  obtain ⟨n, hnn⟩ : ∃ n, n = t.n := ⟨_, rfl⟩
  rw [← hnn] at hn
  rw [← hnn]
  obtain ⟨q, hq⟩ : ∃ q, q = t.q := ⟨_, rfl⟩
  rw [← hq]
  have c1 : W.cell? ⟨w.heap.size, 1, none⟩ = some (.int .i64 n) := by rw [hnn]; exact blk_cell hrow 1
  have c3 : W.cell? ⟨w.heap.size, 3, none⟩ = some (.int .i64 q) := by rw [hq]; exact blk_cell hrow 3
  have q0 : W.cell? ⟨m4, 0, none⟩ = some (.map (some mm)) := blk_cell hS.m 0
  have hl1 := (hS.mp.f.look Try.underlying64 (zero9 W) hn).2
  have hbox0 : ∀ (b : Nat) (c : Array Value) (t : TypeId) (f : Nat × Nat), w.heap[b]? = some (.cells c t f) → W.heap[b]? = some (.cells c t f) := fun b c t f h => blk_below h hbW (lt_of_block h)
  obtain ⟨ss, hss⟩ : ∃ ss, ss = letD ((addV xs n).idxOf n) := ⟨_, rfl⟩
  have hidx : (addV xs n).idxOf n ≤ 1001 := by
    have h1 := addV_len xs n
    have h2 := List.idxOf_le_length (a := n) (l := addV xs n)
    omega
  have hss9 : ss.size ≤ 2000 := by rw [hss]; have := letD_size ((addV xs n).idxOf n); omega
  have z1 : ¬ 9223372036854775807 < 1 + ss.size := by omega
  have z2 : ¬ 9223372036854775807 < 2 + ss.size := by omega
  have hmk : nameD (addV xs n) n q = (if q = 1 then ⟨#[39, 39]⟩ else ⟨#[39]⟩) ++ ss := by rw [nameD, hss]
  have HMK := Lib.hid hmk
  by_cases hx : n ∈ xs
  · have hadd : addV xs n = xs := by rw [addV, if_pos hx]
    rw [hadd] at hss
    rw [nameF, if_pos hx, ← hss] at hl1
    have FIN : ∀ s, s = nameD (addV xs n) n q → NamPost B w m4 mm (addV xs n) (nameD (addV xs n) n q) (.returned (.string s)) W := by
      intro s hs
      rw [← hs, hadd]
      exact ⟨rfl, hS, hbW.mono hB, hbox0⟩
    have HFIN := Lib.hid FIN
    clear FIN
    by_cases h1 : q = 1
    · have e1 : (q == 1) = true := by simp [h1]
      have H1 := Lib.hid h1
      unfold rowOf at hW ⊢
      clear hS hbW hrow h hnn hq hbox0 hss hidx hss9 hmk hx hadd hn hlen h1
      go_enter Try.func35, Try.ntmps35
      go_upto_region 1 with fail
      rw [← hW]
      clear hW
      go_wp2_with fail
      go_ret
      exact HFIN.out _ (by rw [HMK.out, if_pos H1.out])
    · have e1 : (q == 1) = false := by simp [h1]
      have H1 := Lib.hid h1
      unfold rowOf at hW ⊢
      clear hS hbW hrow h hnn hq hbox0 hss hidx hss9 hmk hx hadd hn hlen h1
      go_enter Try.func35, Try.ntmps35
      go_upto_region 1 with fail
      rw [← hW]
      clear hW
      go_wp2_with fail
      go_ret
      exact HFIN.out _ (by rw [HMK.out, if_neg H1.out])
  · have hadd : addV xs n = xs ++ [n] := by rw [addV, if_neg hx]
    have hss2 : ss = letD xs.length := by
      rw [hss, hadd, List.idxOf_append, if_neg hx]
      simp
    rw [nameF, if_neg hx] at hl1
    obtain ⟨m, hm⟩ : ∃ m, m = xs.length := ⟨_, rfl⟩
    rw [← hm] at hss2
    have hlenrun := hS.mp.len 3
    rw [← hm] at hlenrun
    have hcall := letters_any m (by omega) W
    rw [← hss2] at hcall
    have HC := Lib.hid hcall
    have HST : Hid (∀ w7 : World, Below W.heap.size W w7 → ∃ w9, (Instr.mapUpdate 64 (.map (some mm)) (.int .i64 n) (.string ss)).run Try.prog w7 = .ok () w9 ∧ w9.cell? ⟨w.heap.size, 3, none⟩ = some (.int .i64 q) ∧ ∀ s, s = nameD (addV xs n) n q → NamPost B w m4 mm (addV xs n) (nameD (addV xs n) n q) (.returned (.string s)) w9) := Lib.hid (by
      intro w7 hb7
      have hS7 := hS.keep hb7
      obtain ⟨w9, hrun, hmap, hg⟩ := hS7.mp.store (by unfold maxLen; omega) hx hn
      rw [← hm, ← hss2] at hrun
      have hc9 : ∀ (b : Nat) (c : Array Value) (t : TypeId) (f : Nat × Nat), W.heap[b]? = some (.cells c t f) → w9.heap[b]? = some (.cells c t f) := fun b c t f h => by
        have h7 := blk_below h hb7 (lt_of_block h)
        exact (hg.block b (lt_of_block h7) (fun e => map_ne hS7.mp.f h7 (Option.some.inj e))).trans h7
      refine ⟨w9, hrun, ?_, fun s hs => ?_⟩
      · rw [hq]; exact blk_cell (hc9 _ _ _ _ hrow) 3
      · rw [← hs, hadd]
        refine ⟨rfl, ⟨hc9 _ _ _ _ hS.m, hmap, hS.b1, hS.b2⟩, ?_, fun b c t f h => hc9 b c t f (hbox0 b c t f h)⟩
        have hBW : B ≤ W.heap.size := Nat.le_trans hB hbW.size
        exact ((hbW.mono hB).trans (hb7.mono hBW)).trans (grown_below hg (Nat.le_trans hBW hb7.size) hS.b2))
    have HS := Lib.hid hS
    have HBW := Lib.hid hbW
    have HROW := Lib.hid hrow
    have hp1 : w.heap.size < W.heap.size := hlW
    have hp2 : m4 < W.heap.size := lt_of_block hS.m
    by_cases h1 : q = 1
    · have e1 : (q == 1) = true := by simp [h1]
      have H1 := Lib.hid h1
      unfold rowOf at hW ⊢
      clear hS hbW hrow h hnn hq hbox0 hss hss2 hidx hss9 hmk hx hadd hn hlen h1 hm hcall
      go_enter Try.func35, Try.ntmps35
      go_upto_region 1 with fail
      rw [← hW]
      clear hW
      go_upto_region 4 with (first | (go_at_call 36; refine HC.out.mono ?_; rintro e w7 ⟨rfl, hb7⟩; obtain ⟨w9, hrun9, hc39, hfin⟩ := HST.out w7 hb7; have HFIN := Lib.hid hfin; have r1 : w7.cell? ⟨m4, 0, none⟩ = some (.map (some mm)) := (hb7.cell (p := ⟨m4, 0, none⟩) hp2).trans q0; have r2 : w7.cell? ⟨w.heap.size, 1, none⟩ = some (.int .i64 n) := (hb7.cell (p := ⟨w.heap.size, 1, none⟩) hp1).trans c1; clear hfin hb7))
      go_wp2_with fail
      go_ret
      exact HFIN.out _ (by rw [HMK.out, if_pos H1.out])
    · have e1 : (q == 1) = false := by simp [h1]
      have H1 := Lib.hid h1
      unfold rowOf at hW ⊢
      clear hS hbW hrow h hnn hq hbox0 hss hss2 hidx hss9 hmk hx hadd hn hlen h1 hm hcall
      go_enter Try.func35, Try.ntmps35
      go_upto_region 1 with fail
      rw [← hW]
      clear hW
      go_upto_region 4 with (first | (go_at_call 36; refine HC.out.mono ?_; rintro e w7 ⟨rfl, hb7⟩; obtain ⟨w9, hrun9, hc39, hfin⟩ := HST.out w7 hb7; have HFIN := Lib.hid hfin; have r1 : w7.cell? ⟨m4, 0, none⟩ = some (.map (some mm)) := (hb7.cell (p := ⟨m4, 0, none⟩) hp2).trans q0; have r2 : w7.cell? ⟨w.heap.size, 1, none⟩ = some (.int .i64 n) := (hb7.cell (p := ⟨w.heap.size, 1, none⟩) hp1).trans c1; clear hfin hb7))
      go_wp2_with fail
      go_ret
      exact HFIN.out _ (by rw [HMK.out, if_neg H1.out])
end Go.Proofs.Ytdeomphilggokaa
