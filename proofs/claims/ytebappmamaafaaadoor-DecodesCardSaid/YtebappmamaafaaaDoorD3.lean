/-
  Proved: the contract of the program's reader of a function. Conditions: the table of forms; a text of at most 2^62 bytes.
-/
import Derived.Test.YtebappmamaafaaaDoorD2
set_option linter.unusedSimpArgs false
set_option linter.unusedVariables false
namespace Go.Proofs.YtebappmamaafaaaDoor
open Go.RowKit

def opn (x : Ic) (j : Nat) : Int := if j = 0 then x.1 else if j = 1 then x.2.1 else x.2.2
def setN (x : Ic) (j : Nat) (v : Int) : Ic := if j = 0 then (v, x.2.1, x.2.2) else if j = 1 then (x.1, v, x.2.2) else (x.1, x.2.1, v)
theorem opn_set (x : Ic) (j : Nat) (v : Int) (hj : j < 3) (i : Nat) (hi : i < 3) : opn (setN x j v) i = if i = j then v else opn x i := by
  rcases (by omega : j = 0 ∨ j = 1 ∨ j = 2) with rfl | rfl | rfl <;> rcases (by omega : i = 0 ∨ i = 1 ∨ i = 2) with rfl | rfl | rfl <;> rfl
/-- the first k of the three numbers are read -/
def Nums (s : ByteArray) (a k : Nat) (x : Ic) : Prop := ∀ j, j < k → ∃ v, numB s (a + 2 * j) 2 = some v ∧ opn x j = (v : Int)
theorem Nums.next {s : ByteArray} {a k : Nat} {x : Ic} (h : Nums s a k x) (hk : k < 3) {v : Nat} (hv : numB s (a + 2 * k) 2 = some v) : Nums s a (k + 1) (setN x k v) := by
  intro j hj
  by_cases he : j = k
  · subst he
    exact ⟨v, hv, by rw [opn_set _ _ _ hk _ hk, if_pos rfl]⟩
  · obtain ⟨u, hu, ho⟩ := h j (by omega)
    exact ⟨u, hu, by rw [opn_set _ _ _ hk _ (by omega), if_neg he]; exact ho⟩
theorem Nums.none {s : ByteArray} {a k : Nat} {x : Ic} (h : Nums s a k x) (hk : k < 3) (hv : numB s (a + 2 * k) 2 = none) : funD s a = .inl (endF s) := by
  unfold funD
  rcases (by omega : k = 0 ∨ k = 1 ∨ k = 2) with rfl | rfl | rfl
  · rw [show a + 2 * 0 = a from rfl] at hv
    rw [hv]
  · obtain ⟨u, hu, _⟩ := h 0 (by omega)
    rw [show a + 2 * 0 = a from rfl] at hu
    rw [hu]
    simp only
    rw [show a + 2 * 1 = a + 2 from rfl] at hv
    rw [hv]
  · obtain ⟨u, hu, _⟩ := h 0 (by omega)
    obtain ⟨u1, hu1, _⟩ := h 1 (by omega)
    rw [show a + 2 * 0 = a from rfl] at hu
    rw [show a + 2 * 1 = a + 2 from rfl] at hu1
    rw [hu]
    simp only
    rw [hu1]
    simp only
    rw [show a + 2 * 2 = a + 4 from rfl] at hv
    rw [hv]
theorem Nums.all {s : ByteArray} {a : Nat} {x : Ic} (h : Nums s a 3 x) : ∃ n : Nat, x.2.2 = n ∧ n < 65536 ∧ funD s a = match inssD s n [] (a + 6) with
    | .inl e => .inl e
    | .inr (l, a') => .inr ((x.1, x.2.1, l), a') := by
  obtain ⟨u, hu, h1⟩ := h 0 (by omega)
  obtain ⟨u1, hu1, h2⟩ := h 1 (by omega)
  obtain ⟨u2, hu2, h3⟩ := h 2 (by omega)
  rw [show a + 2 * 0 = a from rfl] at hu
  rw [show a + 2 * 1 = a + 2 from rfl] at hu1
  rw [show a + 2 * 2 = a + 4 from rfl] at hu2
  refine ⟨u2, h3, (numB_lt hu2).1, ?_⟩
  have e1 : x.1 = (u : Int) := h1
  have e2 : x.2.1 = (u1 : Int) := h2
  unfold funD
  rw [hu, e1, e2]
  simp only
  rw [hu1]
  simp only
  rw [hu2]
  rfl
/-- the three numbers' block -/
abbrev S9 (bl : Nat) (x : Ic) (W : World) : Prop := W.heap[bl]? = some (.cells #[.int .i64 x.1, .int .i64 x.2.1, .int .i64 x.2.2] 119 (0, 0))
theorem S9.cell {bl : Nat} {x : Ic} {W : World} (h : S9 bl x W) {k : Nat} (hk : k < 3) : W.cell? ⟨bl, k, Option.none⟩ = some (.int .i64 (opn x k)) ∧ W.frozen? ⟨bl, k, Option.none⟩ = false := by
  refine ⟨?_, blk_free h _⟩
  rw [blk_cell h]
  rcases (by omega : k = 0 ∨ k = 1 ∨ k = 2) with rfl | rfl | rfl <;> rfl
theorem S9.set {bl : Nat} {x : Ic} {W : World} (h : S9 bl x W) {k : Nat} (hk : k < 3) (v : Int) : S9 bl (setN x k v) (W.setCell ⟨bl, k, Option.none⟩ (.int .i64 v)) := by
  have := blk_set h k (.int .i64 v)
  unfold S9 setN
  rcases (by omega : k = 0 ∨ k = 1 ∨ k = 2) with rfl | rfl | rfl <;> exact this
/-- the function's block -/
abbrev S48 (bf : Nat) (fr sl : Int) (v : Value) (W : World) : Prop := W.heap[bf]? = some (.cells #[.int .i64 fr, .int .i64 sl, v] 48 (0, 0))
def fval (fr sl : Int) (v : Value) : Value := .agg #[.int .i64 fr, .int .i64 sl, v]
def FunDPost (p : Nat) (s : ByteArray) (a : Nat) (w : World) (e : Ending) (w' : World) : Prop :=
  match funD s a with
  | .inl f => ∃ fr sl ao n cap b a', e = .returned (.tuple #[fval fr sl (.slice ao n cap), errv b]) ∧ RStep w w' p s a' ∧ a' ≤ s.size ∧ ErrAt w' b f
  | .inr (f, a') => ∃ ao cap, e = .returned (.tuple #[fval f.1 f.2.1 (.slice ao f.2.2.length cap), .nilIface]) ∧ RStep w w' p s a' ∧ a' ≤ s.size ∧ w'.ownsRow w.heap.size 50 3 (.slice ao f.2.2.length cap) f.2.2.length (f.2.2.flatMap insRow)
theorem inssD_step (s : ByteArray) (n : Nat) (l : List Ic) (a : Nat) : inssD s (n + 1) l a = match insD s a with
    | .inl f => .inl f
    | .inr (x, a') => inssD s n (l ++ [x]) a' := rfl
theorem info50 : (Tryd.prog.info? 50).map (fun i => (i.zero, i.size, i.bytes)) = some (some (.agg #[.int .i64 0, .int .i64 0, .int .i64 0]), 3, 24) := by kernel_rfl
/-- an owned row behind a step that touches no block of its element type -/
theorem own_keep {w w' : World} {B : Nat} {v : Value} {n e size : Nat} {xs : List Value} {row : Option Nat} (h : w.ownsRow B e size v n xs) (hg : w.grownBy w' row) (hq : ∀ q, row = some q → ∃ c t f, w.heap[q]? = some (.cells c t f) ∧ t ≠ e) : w'.ownsRow B e size v n xs := by
  refine own_carry h fun g c f hb => ?_
  have hlt := lt_of_block hb
  rw [hg.block g hlt ?_]
  · exact hb
  · intro hr
    obtain ⟨c', t, f', hb', ht⟩ := hq g hr.symm
    rw [hb] at hb'
    cases hb'
    exact ht rfl

theorem own_set {W : World} {B : Nat} {v : Value} {n e size : Nat} {xs : List Value} (h : W.ownsRow B e size v n xs) {b t : Nat} {c : Array Value} {f : Nat × Nat} (hb : W.heap[b]? = some (.cells c t f)) (ht : t ≠ e) (i : Nat) (u : Value) : (W.setCell ⟨b, i, Option.none⟩ u).ownsRow B e size v n xs :=
  own_keep h (gr_set W b i u) (fun q hq => by cases hq; exact ⟨_, _, _, hb, ht⟩)
theorem own_set3 {W : World} {B : Nat} {v : Value} {n e size : Nat} {xs : List Value} (h : W.ownsRow B e size v n xs) {b t : Nat} {c : Array Value} {f : Nat × Nat} (hb : W.heap[b]? = some (.cells c t f)) (ht : t ≠ e) (u1 u2 u3 : Value) : (((W.setCell ⟨b, 0, Option.none⟩ u1).setCell ⟨b, 1, Option.none⟩ u2).setCell ⟨b, 2, Option.none⟩ u3).ownsRow B e size v n xs :=
  own_set (own_set (own_set h hb ht _ _) (blk_set hb _ _) ht _ _) (blk_set (blk_set hb _ _) _ _) ht _ _
theorem gr_own {w W W' : World} {p : Nat} {row : Option Nat} (h : w.grownBy W (some p)) (hg : W.grownBy W' row) (hrow : ∀ g, row = some g → w.heap.size ≤ g) : w.grownBy W' (some p) :=
  ⟨hg.os.trans h.os, hg.tape.trans h.tape, hg.output.trans h.output, Nat.le_trans h.size hg.size, fun k hk hne => (hg.block k (Nat.lt_of_lt_of_le hk h.size) (fun e => by have := hrow k e.symm; omega)).trans (h.block k hk hne)⟩
/-- what region 9 reads -/
abbrev T9 (bl : Nat) (x : Ic) (W : World) : Prop := W.cell? ⟨bl, 0, Option.none⟩ = some (.int .i64 x.1) ∧ W.cell? ⟨bl, 1, Option.none⟩ = some (.int .i64 x.2.1)
theorem T9.drew {bl : Nat} {x : Ic} {W : World} (h : T9 bl x W) : T9 bl x W.drew := h
theorem T9.set {bl : Nat} {x : Ic} {W : World} (h : T9 bl x W) (b i : Nat) (v : Value) (hb : b ≠ bl) : T9 bl x (W.setCell ⟨b, i, Option.none⟩ v) := ⟨(World.cell?_setCell_far W _ _ v hb).trans h.1, (World.cell?_setCell_far W _ _ v hb).trans h.2⟩
theorem new_ins {w : World} (x : Ic) (n : Nat) (hn : n = w.heap.size) : ∀ (j : Nat) (u : Value), (insRow x)[j]? = some u → (w.alloc (.cells #[.int .i64 x.1, .int .i64 x.2.1, .int .i64 x.2.2] 50)).cell? ((⟨n, 0, Option.none⟩ : Addr).add j) = some u :=
  fun j u h => new_cells n hn j u h
theorem ins_ones (x : Ic) : ∀ u ∈ insRow x, u.oneCell' = true := by
  intro u hu
  simp [insRow] at hu
  rcases hu with rfl | rfl | rfl <;> rfl

set_option maxRecDepth 100000 in
set_option maxHeartbeats 4000000 in
theorem pfunD_any (p : Nat) (s : ByteArray) (a : Nat) (w : World) (hr : Rdr w p s a) (ha : a ≤ s.size) (hs : s.size ≤ 4611686018427387904) (hF : Forms w) :
    Calls Tryd.prog 42 #[.pointer (some ⟨p, 0, Option.none⟩)] w (FunDPost p s a w) := by
  have hp0 := forms_ne hr hF
  have HR := Lib.hid hr
  have HF := Lib.hid hF
  have hlt := hr.lt
  have hx := blk_alloc (heap_alloc_new w (.cells #[.int .i64 0, .int .i64 0, .slice Option.none 0 0] 48)) (.cells #[.int .i64 0, .int .i64 0, .int .i64 0] 119)
  have hl := heap_alloc_new (w.alloc (.cells #[.int .i64 0, .int .i64 0, .slice Option.none 0 0] 48)) (.cells #[.int .i64 0, .int .i64 0, .int .i64 0] 119)
  rw [World.size_alloc] at hl
  have HX := Lib.hid hx
  have HL := Lib.hid hl
  clear hr hF hx hl
  go_enter Tryd.func42, Tryd.ntmps42
  go_wp2_with fail
  go_loopw [3, 8] (fun e i wr => ∃ (k : Nat) (x : Ic), k ≤ 3 ∧ i = .int .i64 k ∧ e = .nilIface ∧ Nums s a k x ∧ a + 2 * k ≤ s.size ∧ S9 (w.heap.size + 1) x wr ∧ S48 w.heap.size 0 0 (.slice Option.none 0 0) wr ∧ RStep w wr p s (a + 2 * k)) (fun _ i _ => 3 - (intOf i).toNat)
  case atStart => exact ⟨0, (0, 0, 0), by omega, rfl, rfl, fun j hj => by omega, ha, HL.out, HX.out, ((RStep.start HR.out).alloc _).alloc _⟩
  case round =>
    obtain ⟨k, x, hk, rfl, rfl, hnum, hle, h9, h48, hst⟩ := hrel
    have hsz := hst.gr.size
    have hwl : w.heap.size + 1 < wr.heap.size := lt_of_block h9
    by_cases hk3 : k < 3
    · have HN := Lib.hid hnum
      have H9 := Lib.hid h9
      have H48 := Lib.hid h48
      have HST := Lib.hid hst
      clear hnum h9 h48 hst
      go_wp2_with fail
      refine (number_any p s (a + 2 * k) 2 _ HST.out.rd hle hs (by omega)).mono ?_
      intro e w4 hpost
      unfold NumPost at hpost
      cases hn : numB s (a + 2 * k) 2 with
      | none =>
        rw [hn] at hpost
        obtain ⟨b, rfl, hst, her, hb⟩ := hpost
        have hres := HN.out.none hk3 hn
        have HRES := Lib.hid hres
        have h9 := blk_grown H9.out hst.gr (by simp; omega)
        have h48 := blk_grown H48.out hst.gr (by simp; omega)
        have HST2 := Lib.hid (HST.out.trans hst)
        have HER := Lib.hid her
        obtain ⟨l0, z0⟩ := S9.cell h9 hk3
        have x0 : w4.cell? ⟨w.heap.size, 0, Option.none⟩ = some (.int .i64 0) := blk_cell h48 0
        have x1 : w4.cell? ⟨w.heap.size, 1, Option.none⟩ = some (.int .i64 0) := blk_cell h48 1
        have x2 : w4.cell? ⟨w.heap.size, 2, Option.none⟩ = some (.slice Option.none 0 0) := blk_cell h48 2
        have y0 := blk_free h48 0
        have y1 := blk_free h48 1
        have y2 := blk_free h48 2
        have k1 : (0 : Int) ≤ (k : Int) := by omega
        have k2 : (k : Int) < 3 := by omega
        have hs4 := hst.gr.size
        have hb1 : b ≠ w.heap.size := by omega
        have hb2 : b ≠ w.heap.size + 1 := by omega
        have lx : w.heap.size < w4.heap.size := by omega
        clear hn hres h9 h48 hst her
        go_wp2_with fail
        refine bodyPost_ret (v := .tuple #[fval 0 0 (.slice Option.none 0 0), errv b]) (by simp [results, Tryd.results42, go_sem, *]; rfl) rfl ?_
        unfold FunDPost
        rw [HRES.out]
        exact ⟨_, _, _, _, _, b, a + 2 * k, rfl, (HST2.out.set _ _ _ hlt (by omega)).set3 _ _ _ _ hlt (by omega), hle, (HER.out.set hb2 _ _).set3 hb1 _ _ _⟩
      | some v =>
        rw [hn] at hpost
        obtain ⟨rfl, hst⟩ := hpost
        have hle2 := (numB_lt hn).2
        have HN2 := Lib.hid (HN.out.next hk3 hn)
        have h9 := blk_grown H9.out hst.gr (by simp; omega)
        have h48 := blk_grown H48.out hst.gr (by simp; omega)
        have HST2 := Lib.hid (HST.out.trans hst)
        obtain ⟨l0, z0⟩ := S9.cell h9 hk3
        have H92 := Lib.hid (S9.set h9 hk3 v)
        have H482 := Lib.hid (blk_set_ne h48 (by omega : w.heap.size ≠ w.heap.size + 1) k (.int .i64 v))
        have k1 : (0 : Int) ≤ (k : Int) := by omega
        have k2 : (k : Int) < 3 := by omega
        clear hn h9 h48 hst
        go_wp2_with fail
        go_roundw
        case rel => exact ⟨k + 1, _, by omega, by go_num, rfl, HN2.out, by omega, H92.out, H482.out, HST2.out.set _ _ _ hlt (by omega)⟩
        case measure => simp [intOf]; omega
    · obtain rfl : k = 3 := by omega
      rw [show ((3 : Nat) : Int) = 3 from rfl]
      obtain ⟨N, hN, hN2, hfd⟩ := hnum.all
      have hT : T9 (w.heap.size + 1) x wr := ⟨blk_cell h9 0, blk_cell h9 1⟩
      have z0 := blk_free h48 0
      have z1 := blk_free h48 1
      have x0 : wr.cell? ⟨w.heap.size, 0, Option.none⟩ = some (.int .i64 0) := blk_cell h48 0
      have x1 : wr.cell? ⟨w.heap.size, 1, Option.none⟩ = some (.int .i64 0) := blk_cell h48 1
      have HFD := Lib.hid hfd
      have HN := Lib.hid hN
      have H9 := Lib.hid h9
      have H48 := Lib.hid h48
      have HST := Lib.hid hst
      have lx : w.heap.size < wr.heap.size := by omega
      clear hfd hN hnum h9 h48 hst
      go_upto_region 9 with fail
      go_cut [] (fun wx => S48 w.heap.size x.1 x.2.1 (.slice Option.none 0 0) wx ∧ S9 (w.heap.size + 1) x wx ∧ RStep w wx p s (a + 2 * 3))
      case first =>
        go_region_held3 (fun w' => T9 (w.heap.size + 1) x w')
          (repeat (first | exact hT | apply T9.drew | (refine T9.set ?_ _ _ _ (by simp))))
          (fail)
        all_goals go_wp2_with fail
        all_goals go_meet
        exact ⟨blk_set (blk_set H48.out 0 _) 1 _, blk_set_ne (blk_set_ne H9.out (by omega) _ _) (by omega) _ _, ((HST.out.set _ _ _ hlt (by omega)).set _ _ _ hlt (by omega)).drew⟩
      case rest =>
        obtain ⟨h48, h9, hst⟩ := hcut
        obtain ⟨wq, hwq⟩ : ∃ wq : World, wq = wc := ⟨_, rfl⟩
        subst hwq
        have c2 : wq.cell? ⟨w.heap.size + 1, 2, Option.none⟩ = some (.int .i64 N) := by rw [blk_cell h9, ← HN.out]; rfl
        have hown0 : wq.ownsRow w.heap.size 50 3 (.slice Option.none 0 0) ([] : List Ic).length (([] : List Ic).flatMap insRow) := ⟨rfl, .inl ⟨rfl, rfl⟩⟩
        obtain ⟨i0, hi, hz0, hz1, hz2⟩ := info_parts info50
        have HI := Lib.hid hi
        have HST2 := Lib.hid hst
        have H482 := Lib.hid h48
        have HOWN0 := Lib.hid hown0
        clear z0 z1 x0 x1 hT hown0 h48 h9 hst hi
        go_wp2_with fail
        clear c2
        go_loopw [31] (fun i wr => ∃ (l : List Ic) (ao : Option Addr) (cap a' : Nat), l.length ≤ N ∧ i = .int .i64 l.length ∧ a' ≤ s.size ∧ S48 w.heap.size x.1 x.2.1 (.slice ao l.length cap) wr ∧ wr.ownsRow w.heap.size 50 3 (.slice ao l.length cap) l.length (l.flatMap insRow) ∧ RStep w wr p s a' ∧ inssD s (N - l.length) l a' = inssD s N [] (a + 6)) (fun i _ => N - (intOf i).toNat)
        case atStart => exact ⟨[], _, 0, a + 2 * 3, Nat.zero_le _, rfl, by omega, H482.out, HOWN0.out, HST2.out, rfl⟩
        case round =>
          obtain ⟨l, ao, cap, a', hk, rfl, ha', h48, hown, hst, hgo⟩ := hrel
          have hwl : w.heap.size < wr.heap.size := lt_of_block h48
          by_cases hkn : l.length < N
          · have hstp := inssD_step s (N - (l.length + 1)) l a'
            rw [show N - (l.length + 1) + 1 = N - l.length from by omega, hgo] at hstp
            have HGO := Lib.hid hstp
            have H48 := Lib.hid h48
            have HOWN := Lib.hid hown
            have HST := Lib.hid hst
            have hF2 := HF.out.grown hst.gr hp0
            have HF2 := Lib.hid hF2
            clear hstp hgo h48 hown hst hF2
            go_wp2_with fail
            refine (pinsD_any p s a' _ HST.out.rd ha' hs HF2.out).mono ?_
            intro e w4 hpost
            unfold InsPost at hpost
            cases hn : insD s a' with
            | inl f =>
              rw [hn] at hpost
              obtain ⟨y, b, a2, rfl, hst, ha2, her⟩ := hpost
              have hres : funD s a = .inl f := by
                have h1 := HGO.out
                rw [hn] at h1
                rw [HFD.out, h1]
              have HRES := Lib.hid hres
              have HST3 := Lib.hid (HST.out.trans hst)
              have h48 := blk_grown H48.out hst.gr (by simp; omega)
              have x0 : w4.cell? ⟨w.heap.size, 0, Option.none⟩ = some (.int .i64 x.1) := blk_cell h48 0
              have x1 : w4.cell? ⟨w.heap.size, 1, Option.none⟩ = some (.int .i64 x.2.1) := blk_cell h48 1
              have x2 : w4.cell? ⟨w.heap.size, 2, Option.none⟩ = some (.slice ao l.length cap) := blk_cell h48 2
              have y0 := blk_free h48 0
              have y1 := blk_free h48 1
              have y2 := blk_free h48 2
              have lx : w.heap.size < w4.heap.size := lt_of_block h48
              have HER := Lib.hid her
              have hbx : b ≠ w.heap.size := fun e => by rw [e] at her; unfold ErrAt at her; rw [her] at h48; simp at h48
              clear hn hres hst her h48
              unfold xval
              go_wp2_with fail
              refine bodyPost_ret (v := .tuple #[fval x.1 x.2.1 (.slice ao l.length cap), errv b]) (by simp [results, Tryd.results42, go_sem, *]; rfl) rfl ?_
              unfold FunDPost
              rw [HRES.out]
              exact ⟨_, _, ao, l.length, cap, b, a2, rfl, (HST3.out.set3 _ _ _ _ hlt (by omega)).alloc _, ha2, blk_alloc (HER.out.set3 hbx _ _ _) _⟩
            | inr r =>
              obtain ⟨y, a2⟩ := r
              rw [hn] at hpost
              obtain ⟨rfl, hst, ha2⟩ := hpost
              have hgo2 : inssD s (N - (l.length + 1)) (l ++ [y]) a2 = inssD s N [] (a + 6) := by
                have h1 := HGO.out
                rw [hn] at h1
                exact h1.symm
              have HGO2 := Lib.hid hgo2
              have HST3 := Lib.hid (HST.out.trans hst)
              have h48 := blk_grown H48.out hst.gr (by simp; omega)
              have HX4 := Lib.hid h48
              have HOWN4 := Lib.hid (own_keep HOWN.out hst.gr (fun q hq => by cases hq; exact ⟨_, _, _, HST.out.rd, by decide⟩))
              have x2 : w4.cell? ⟨w.heap.size, 2, Option.none⟩ = some (.slice ao l.length cap) := blk_cell h48 2
              have y2 := blk_free h48 2
              have lx : w.heap.size < w4.heap.size := lt_of_block h48
              have hs4 := hst.gr.size
              have hgs := HST.out.gr.size
              clear hn hgo2 hst h48
              unfold xval
              go_wp2_with (first | (at_builtin; go_must (refine wpList_append_own _ rfl (.tmp 43) (.tmp 45) 46 rfl w.heap.size 50 i0 (.agg #[.int .i64 0, .int .i64 0, .int .i64 0]) 3 24 Tryd.underlying46 HI.out hz0 hz1 hz2 rfl (by decide) (.slice ao l.length cap) l.length (l.flatMap insRow) rfl ((HOWN4.out.alloc _).alloc _) ⟨w4.heap.size + 1, 0, Option.none⟩ 1 1 (insRow y) rfl rfl (new_ins y _ (by simp)) (ins_ones y) (by unfold maxLen; omega) (by omega) (by simp; omega) ?_)))
              intro v' w5 hown5 hg5 hnil
              obtain ⟨g', cap', hv'⟩ := own_shape hown5 hnil
              rw [hv'] at hown5 ⊢
              clear hnil hv'
              have hne := own_ne HX4.out HOWN4.out (by decide)
              have hnp := own_ne HST3.out.rd HOWN4.out (by decide)
              have h5 := blk_grown (blk_alloc (blk_alloc HX4.out _) _) hg5 hne
              have hrd5 := blk_grown (blk_alloc (blk_alloc HST3.out.rd _) _) hg5 hnp
              have hst5 : RStep w w5 p s a2 := ⟨hrd5, gr_own ((HST3.out.alloc _).alloc _).gr hg5 (fun g hg => (HOWN4.out.lt g hg).1)⟩
              have x25 : w5.cell? ⟨w.heap.size, 2, Option.none⟩ = some (.slice ao l.length cap) := blk_cell h5 2
              have y25 := blk_free h5 2
              have HX5 := Lib.hid h5
              have HST5 := Lib.hid hst5
              have HOWN5 := Lib.hid hown5
              have hl : (l ++ [y]).length = l.length + 1 := by simp
              have hfm : (l ++ [y]).flatMap insRow = l.flatMap insRow ++ insRow y := by simp
              have HLL := Lib.hid hl
              have HFM := Lib.hid hfm
              clear hne hnp h5 hrd5 hst5 hown5 hg5 hl hfm x2 y2
              go_wp2_with fail
              go_roundw
              case rel =>
                refine ⟨l ++ [y], some ⟨g', 0, Option.none⟩, cap', a2, ?_, ?_, ha2, ?_, ?_, ?_, ?_⟩
                · rw [HLL.out]; omega
                · rw [HLL.out]; go_num
                · rw [HLL.out]; exact blk_set HX5.out 2 _
                · rw [HLL.out, HFM.out]; exact own_set HOWN5.out HX5.out (by decide) _ _
                · exact HST5.out.set _ _ _ hlt (by omega)
                · rw [HLL.out]; exact HGO2.out
              case measure => simp [intOf]; omega
          · obtain rfl : N = l.length := by omega
            have hres : funD s a = .inr ((x.1, x.2.1, l), a') := by
              rw [HFD.out, ← hgo]
              simp [inssD]
            have HRES := Lib.hid hres
            have HOWN := Lib.hid hown
            have HST := Lib.hid hst
            have x0 : wr.cell? ⟨w.heap.size, 0, Option.none⟩ = some (.int .i64 x.1) := blk_cell h48 0
            have x1 : wr.cell? ⟨w.heap.size, 1, Option.none⟩ = some (.int .i64 x.2.1) := blk_cell h48 1
            have x2 : wr.cell? ⟨w.heap.size, 2, Option.none⟩ = some (.slice ao l.length cap) := blk_cell h48 2
            have y0 := blk_free h48 0
            have y1 := blk_free h48 1
            have y2 := blk_free h48 2
            have HX3 := Lib.hid h48
            clear hres hgo hown hst h48
            go_wp2_with fail
            refine bodyPost_ret (v := .tuple #[fval x.1 x.2.1 (.slice ao l.length cap), .nilIface]) (by simp [results, Tryd.results42, go_sem, *]; rfl) rfl ?_
            unfold FunDPost
            rw [HRES.out]
            refine ⟨ao, cap, rfl, HST.out.set3 _ _ _ _ hlt (by omega), ha', own_set3 HOWN.out HX3.out (by decide) _ _ _⟩

end Go.Proofs.YtebappmamaafaaaDoor
