/-
  Proved: the contract of the law's pair (in alike). Condition: the cells say the same under a pairing that is one to one.
-/
import Derived.Test.YtidjfmkclabagaaD1
set_option linter.unusedSimpArgs false
set_option linter.unusedVariables false
namespace Go.Proofs.Ytidjfmkclabagaa
open Go.RowKit

abbrev Pr := Nat × Nat
def fTo (td : List Pr) (k : Int) : Option Value := (td.find? fun x => decide ((x.1 : Int) = k)).map fun x => .int .i64 x.2
def fBk (td : List Pr) (k : Int) : Option Value := (td.find? fun x => decide ((x.2 : Int) = k)).map fun x => .int .i64 x.1
def pv2 : List Pr → List Value
  | [] => []
  | x :: l => .int .i64 x.1 :: .int .i64 x.2 :: pv2 l
theorem pv2_len : ∀ l : List Pr, (pv2 l).length = l.length * 2
  | [] => rfl
  | x :: l => by rw [pv2, List.length_cons, List.length_cons, pv2_len l, List.length_cons]; omega
theorem pv2_append : ∀ a b : List Pr, pv2 (a ++ b) = pv2 a ++ pv2 b
  | [], _ => rfl
  | x :: a, b => by rw [List.cons_append, pv2, pv2, pv2_append a b]; rfl
theorem pv2_get0 : ∀ {l : List Pr} {i : Nat} (h : i < l.length), (pv2 l)[i * 2]? = some (.int .i64 l[i].1)
  | x :: l, 0, _ => rfl
  | x :: l, i + 1, h => by
    rw [show (i + 1) * 2 = i * 2 + 1 + 1 by omega, pv2, List.getElem?_cons_succ, List.getElem?_cons_succ]
    exact pv2_get0 (l := l) (by simpa using h)
theorem pv2_get1 : ∀ {l : List Pr} {i : Nat} (h : i < l.length), (pv2 l)[i * 2 + 1]? = some (.int .i64 l[i].2)
  | x :: l, 0, _ => rfl
  | x :: l, i + 1, h => by
    rw [show (i + 1) * 2 + 1 = (i * 2 + 1) + 1 + 1 by omega, pv2, List.getElem?_cons_succ, List.getElem?_cons_succ]
    exact pv2_get1 (l := l) (by simpa using h)
/-- a pairing that is one to one -/
structure One (ρ : Nat → Nat → Prop) : Prop where
  inj1 : ∀ a b b', ρ a b → ρ a b' → b = b'
  inj2 : ∀ a a' b, ρ a b → ρ a' b → a = a'
  lt : ∀ a b, ρ a b → a < 1000000 ∧ b < 100000000000000
/-- two cells say the same -/
def CSim (ρ : Nat → Nat → Prop) (c d : C) : Prop := c.p = d.p ∧ I64 c.n ∧ I64 d.n ∧ (c.p = false → c.n = d.n) ∧ (c.p = true → ∃ a b : Nat, c.n = a ∧ d.n = b ∧ ρ a b)
structure PairSt (w : World) (B : Nat) (td : List Pr) (bt bb bd mt mk : Nat) : Prop where
  t : w.heap[bt]? = some (.cells #[.map (some mt)] 57 (0, 0))
  b : w.heap[bb]? = some (.cells #[.map (some mk)] 57 (0, 0))
  d : ∃ v, w.heap[bd]? = some (.cells #[v] 58 (0, 0)) ∧ w.ownsRow B 60 2 v td.length (pv2 td)
  mT : MapF w mt td.length (fTo td)
  mB : MapF w mk td.length (fBk td)
  ne : mt ≠ mk
  ne2 : bt ≠ bb
  ht : B ≤ bt
  hb : B ≤ bb
  hd : B ≤ bd
  hmt : B ≤ mt
  hmk : B ≤ mk
inductive PairPost (ρ : Nat → Nat → Prop) (B : Nat) (td : List Pr) (c : C) (bt bb bd mt mk : Nat) (w : World) (e : Ending) (w' : World) : Prop
  | mk (new : List Pr) : e = .returned (.bool true) → PairSt w' B (td ++ new) bt bb bd mt mk → (∀ x ∈ new, ρ x.1 x.2) → (td ++ new).Nodup → Below B w w' → (∀ (b : Nat) (c : Array Value) (f : Nat × Nat), w.heap[b]? = some (.cells c 51 f) → w'.heap[b]? = some (.cells c 51 f)) → PairPost ρ B td c bt bb bd mt mk w e w'
theorem find_to {ρ : Nat → Nat → Prop} (hρ : One ρ) {td : List Pr} (ht : ∀ x ∈ td, ρ x.1 x.2) {a b : Nat} (h : ρ a b) : fTo td a = if (a, b) ∈ td then some (.int .i64 b) else none := by
  unfold fTo
  by_cases hm : (a, b) ∈ td
  · rw [if_pos hm]
    cases hf : td.find? (fun x => decide ((x.1 : Int) = (a : Int))) with
    | none => exact absurd (List.find?_eq_none.1 hf _ hm) (by simp)
    | some x =>
      have h1 := List.find?_some hf
      have h2 := List.mem_of_find?_eq_some hf
      have e : x.1 = a := Int.ofNat.inj (of_decide_eq_true h1)
      have := hρ.inj1 a x.2 b (by rw [← e]; exact ht x h2) h
      simp [this]
  · rw [if_neg hm]
    cases hf : td.find? (fun x => decide ((x.1 : Int) = (a : Int))) with
    | none => rfl
    | some x =>
      have h1 := List.find?_some hf
      have h2 := List.mem_of_find?_eq_some hf
      have e : x.1 = a := Int.ofNat.inj (of_decide_eq_true h1)
      have e2 := hρ.inj1 a x.2 b (by rw [← e]; exact ht x h2) h
      exact absurd (show (a, b) ∈ td by rw [← e, ← e2]; exact h2) hm
theorem find_bk {ρ : Nat → Nat → Prop} (hρ : One ρ) {td : List Pr} (ht : ∀ x ∈ td, ρ x.1 x.2) {a b : Nat} (h : ρ a b) : fBk td b = if (a, b) ∈ td then some (.int .i64 a) else none := by
  unfold fBk
  by_cases hm : (a, b) ∈ td
  · rw [if_pos hm]
    cases hf : td.find? (fun x => decide ((x.2 : Int) = (b : Int))) with
    | none => exact absurd (List.find?_eq_none.1 hf _ hm) (by simp)
    | some x =>
      have h1 := List.find?_some hf
      have h2 := List.mem_of_find?_eq_some hf
      have e : x.2 = b := Int.ofNat.inj (of_decide_eq_true h1)
      have := hρ.inj2 x.1 a b (by rw [← e]; exact ht x h2) h
      simp [this]
  · rw [if_neg hm]
    cases hf : td.find? (fun x => decide ((x.2 : Int) = (b : Int))) with
    | none => rfl
    | some x =>
      have h1 := List.find?_some hf
      have h2 := List.mem_of_find?_eq_some hf
      have e : x.2 = b := Int.ofNat.inj (of_decide_eq_true h1)
      have e2 := hρ.inj2 x.1 a b (by rw [← e]; exact ht x h2) h
      exact absurd (show (a, b) ∈ td by rw [← e, ← e2]; exact h2) hm
theorem fTo_snoc {td : List Pr} {a b : Nat} (hn : fTo td a = none) (k : Int) : fTo (td ++ [(a, b)]) k = if k = (a : Int) then some (.int .i64 b) else fTo td k := by
  unfold fTo at hn ⊢
  rw [List.find?_append]
  by_cases e : k = (a : Int)
  · subst e
    rw [if_pos rfl]
    have : td.find? (fun x => decide ((x.1 : Int) = (a : Int))) = none := by simpa using hn
    rw [this]; simp
  · rw [if_neg e]
    have : List.find? (fun x : Pr => decide ((x.1 : Int) = k)) [(a, b)] = none := by simp; exact fun h => e h.symm
    rw [this]; simp
theorem fBk_snoc {td : List Pr} {a b : Nat} (hn : fBk td b = none) (k : Int) : fBk (td ++ [(a, b)]) k = if k = (b : Int) then some (.int .i64 a) else fBk td k := by
  unfold fBk at hn ⊢
  rw [List.find?_append]
  by_cases e : k = (b : Int)
  · subst e
    rw [if_pos rfl]
    have : td.find? (fun x => decide ((x.2 : Int) = (b : Int))) = none := by simpa using hn
    rw [this]; simp
  · rw [if_neg e]
    have : List.find? (fun x : Pr => decide ((x.2 : Int) = k)) [(a, b)] = none := by simp; exact fun h => e h.symm
    rw [this]; simp
theorem zero3 (w : World) : (zeroValue 3).run Try.prog w = .ok (.int .i64 0) w := by kernel_rfl
theorem info60 : (Try.prog.info? 60).map (fun i => (i.zero, i.size, i.bytes)) = some (some (.agg #[.int .i64 0, .int .i64 0]), 2, 16) := by kernel_rfl
theorem PairSt.keep {w w' : World} {B : Nat} {td : List Pr} {bt bb bd mt mk : Nat} (h : PairSt w B td bt bb bd mt mk) (hb : Below w.heap.size w w') : PairSt w' B td bt bb bd mt mk := by
  obtain ⟨v, h1, h2⟩ := h.d
  exact ⟨blk_below h.t hb (lt_of_block h.t), blk_below h.b hb (lt_of_block h.b), ⟨v, blk_below h1 hb (lt_of_block h1), own_keep h2 (gr_below hb none) (fun q hq => by cases hq)⟩,
    h.mT.of_same (hb.block _ h.mT.lt), h.mB.of_same (hb.block _ h.mB.lt), h.ne, h.ne2, h.ht, h.hb, h.hd, h.hmt, h.hmk⟩
set_option maxRecDepth 100000 in
set_option maxHeartbeats 8000000 in
theorem pair_any (ρ : Nat → Nat → Prop) (hρ : One ρ) (w : World) (B : Nat) (td : List Pr) (bt bb bd mt mk : Nat) (h : PairSt w B td bt bb bd mt mk) (ht : ∀ x ∈ td, ρ x.1 x.2) (hnd : td.Nodup) (htl : td.length ≤ 2000000) (c d : C) (hcd : CSim ρ c d) :
    Calls Try.prog 16 #[cval c, cval d, .pointer (some ⟨bt, 0, none⟩), .pointer (some ⟨bb, 0, none⟩), .pointer (some ⟨bd, 0, none⟩)] w (PairPost ρ B td c bt bb bd mt mk w) := by
  obtain ⟨c0, c1⟩ := c
  obtain ⟨d0, d1⟩ := d
  obtain ⟨e0, hI1, hI2, hnum, hptr⟩ := hcd
  simp only at e0 hI1 hI2 hnum hptr
  subst e0
  have HP := Lib.hid hptr
  have H := Lib.hid h
  have HT := Lib.hid ht
  have HND := Lib.hid hnd
  have HR := Lib.hid hρ
  clear h ht hnd hρ hptr
  have hbW : Below w.heap.size w ((w.alloc (.cells #[.bool c0, .int .i64 c1] 49)).alloc (.cells #[.bool c0, .int .i64 d1] 49)) := balloc (balloc (Below.refl _ _) _) _
  cases c0 with
  | false =>
    obtain rfl := hnum rfl
    have HBW := Lib.hid hbW
    clear hbW
    go_enter Try.func16, Try.ntmps16
    go_wp2_with fail
    go_ret
    have hh := H.out.keep HBW.out
    exact .mk [] rfl (by rw [List.append_nil]; exact hh) (fun x hx => by simp at hx) (by rw [List.append_nil]; exact HND.out) (HBW.out.mono (by have := lt_of_block H.out.t; have := H.out.ht; omega)) (fun b c f h => blk_below h HBW.out (lt_of_block h))
  | true =>
    obtain ⟨a, b, ha, hb, hab⟩ := HP.out rfl
    subst ha hb
    have hto := find_to HR.out HT.out hab
    have hbk := find_bk HR.out HT.out hab
    obtain ⟨W, hW⟩ : ∃ W, W = (w.alloc (.cells #[.bool true, .int .i64 (a : Int)] 49)).alloc (.cells #[.bool true, .int .i64 (b : Int)] 49) := ⟨_, rfl⟩
    rw [← hW] at hbW
    have hxA : W.heap[w.heap.size]? = some (.cells #[.bool true, .int .i64 (a : Int)] 49 (0, 0)) := by rw [hW]; exact blk_alloc (heap_alloc_new w _) _
    have hxB : W.heap[w.heap.size + 1]? = some (.cells #[.bool true, .int .i64 (b : Int)] 49 (0, 0)) := by
      rw [hW]
      have h := heap_alloc_new (w.alloc (.cells #[.bool true, .int .i64 (a : Int)] 49)) (.cells #[.bool true, .int .i64 (b : Int)] 49)
      rw [World.size_alloc] at h
      exact h
    have hW2 := H.out.keep hbW
    have q1 : W.cell? ⟨w.heap.size, 0, none⟩ = some (.bool true) := blk_cell hxA 0
    have q2 : W.cell? ⟨w.heap.size, 1, none⟩ = some (.int .i64 a) := blk_cell hxA 1
    have q3 : W.cell? ⟨w.heap.size + 1, 0, none⟩ = some (.bool true) := blk_cell hxB 0
    have q4 : W.cell? ⟨w.heap.size + 1, 1, none⟩ = some (.int .i64 b) := blk_cell hxB 1
    have q5 : W.cell? ⟨bt, 0, none⟩ = some (.map (some mt)) := blk_cell hW2.t 0
    have q6 : W.cell? ⟨bb, 0, none⟩ = some (.map (some mk)) := blk_cell hW2.b 0
    have hl1 := (hW2.mT.look Try.underlying57 (zero3 W) hI1).2
    have hl2 := (hW2.mB.look Try.underlying57 (zero3 W) hI2).2
    rw [hto] at hl1
    rw [hbk] at hl2
    have HBW := Lib.hid hbW
    have HW2 := Lib.hid hW2
    have HXA := Lib.hid hxA
    have HXB := Lib.hid hxB
    have HAB := Lib.hid hab
    by_cases hm : (a, b) ∈ td
    · rw [if_pos hm] at hl1 hl2
      clear hto hbk hbW hW2 hxA hxB hab
      go_enter Try.func16, Try.ntmps16
      go_upto_region 1 with fail
      rw [← hW]
      clear hW
      go_wp2_with fail
      go_ret
      exact .mk [] rfl (by rw [List.append_nil]; exact HW2.out) (fun x hx => by simp at hx) (by rw [List.append_nil]; exact HND.out) (HBW.out.mono (by have := lt_of_block H.out.t; have := H.out.ht; omega)) (fun b c f h => blk_below h HBW.out (lt_of_block h))
    · rw [if_neg hm] at hl1 hl2 hto hbk
      obtain ⟨i60, hi, hz0, hz1, hz2⟩ := info_parts info60
      have HI := Lib.hid hi
      obtain ⟨w9, hst9, hmap9, hg9⟩ := hW2.mT.store Try.underlying57 (by unfold maxLen; omega) hI1 (.int .i64 b)
      have hmb9 : MapF w9 mk td.length (fBk td) := hW2.mB.of_same (hg9.block _ hW2.mB.lt (fun e => hW2.ne (Option.some.inj e).symm))
      obtain ⟨w10, hst10, hmap10, hg10⟩ := hmb9.store Try.underlying57 (by unfold maxLen; omega) hI2 (.int .i64 a)
      have hc9 : ∀ (b : Nat) (c : Array Value) (t : TypeId) (f : Nat × Nat), W.heap[b]? = some (.cells c t f) → w9.heap[b]? = some (.cells c t f) := fun b c t f h =>
        (hg9.block b (lt_of_block h) (fun e => map_ne hW2.mT h (Option.some.inj e))).trans h
      have hc10 : ∀ (b : Nat) (c : Array Value) (t : TypeId) (f : Nat × Nat), W.heap[b]? = some (.cells c t f) → w10.heap[b]? = some (.cells c t f) := fun b c t f h =>
        (hg10.block b (lt_of_block (hc9 b c t f h)) (fun e => map_ne hmb9 (hc9 b c t f h) (Option.some.inj e))).trans (hc9 b c t f h)
      obtain ⟨v, hv, hown⟩ := hW2.d
      have r1 : w9.cell? ⟨bb, 0, none⟩ = some (.map (some mk)) := blk_cell (hc9 _ _ _ _ hW2.b) 0
      have r2 : w9.cell? ⟨w.heap.size, 1, none⟩ = some (.int .i64 a) := blk_cell (hc9 _ _ _ _ hxA) 1
      have r3 : w9.cell? ⟨w.heap.size + 1, 1, none⟩ = some (.int .i64 b) := blk_cell (hc9 _ _ _ _ hxB) 1
      have s1 : w10.cell? ⟨bd, 0, none⟩ = some v := blk_cell (hc10 _ _ _ _ hv) 0
      have s2 : w10.cell? ⟨w.heap.size, 1, none⟩ = some (.int .i64 a) := blk_cell (hc10 _ _ _ _ hxA) 1
      have s3 : w10.cell? ⟨w.heap.size + 1, 1, none⟩ = some (.int .i64 b) := blk_cell (hc10 _ _ _ _ hxB) 1
      have hw10 : Keeps (fun x => x = mt ∨ x = mk) W w10 := ((Keeps.refl _ W).grown hg9 (fun g e => .inl (.inl (Option.some.inj e).symm))).trans ((Keeps.refl _ w9).grown hg10 (fun g e => .inl (.inr (Option.some.inj e).symm)))
      have hB0 := hW2.ht
      have hBW : B ≤ w10.heap.size := by have := lt_of_block hW2.t; have := hw10.size; omega
      have hown10 : w10.ownsRow B 60 2 v td.length (pv2 td) := own_carry hown fun g c f h => hc10 g c 60 f h
      have hownA : (w10.alloc (.cells #[.int .i64 (a : Int), .int .i64 (b : Int)] 60)).ownsRow B 60 2 v td.length (pv2 td) := own_keep hown10 (gr_below (balloc (Below.refl _ _) _) none) (fun q hq => by cases hq)
      have hvd : v.ownBlock ≠ some bd := by
        intro e
        rcases hown.2 with ⟨rfl, _⟩ | ⟨g, cap, cur, rfl, _, h1, _⟩
        · cases e
        · obtain rfl : g = bd := by simpa [Value.ownBlock] using e
          rw [hv] at h1
          simp at h1
      have hlv := lt_of_block (hc10 _ _ _ _ hv)
      have s4 : ∀ w11 : World, (w10.alloc (.cells #[.int .i64 (a : Int), .int .i64 (b : Int)] 60)).grownBy w11 v.ownBlock → w11.heap[bd]? = some (.cells #[v] 58 (0, 0)) := fun w11 hg => (hg.block bd (by rw [World.size_alloc]; omega) (fun e => hvd e.symm)).trans (blk_alloc (hc10 _ _ _ _ hv) _)
      have hmT10 : MapF w10 mt (td.length + 1) (fTo (td ++ [(a, b)])) := (hmap9.of_same (hg10.block _ hmap9.lt (fun e => hW2.ne (Option.some.inj e)))).congr fun k _ => (fTo_snoc hto k).symm
      have hmB10 : MapF w10 mk (td.length + 1) (fBk (td ++ [(a, b)])) := hmap10.congr fun k _ => (fBk_snoc hbk k).symm
      have HMT10 := Lib.hid hmT10
      have HMB10 := Lib.hid hmB10
      have HC10 := Lib.hid hc10
      have HW10 := Lib.hid hw10
      have HOWNA := Lib.hid hownA
      have HVD := Lib.hid hvd
      have HS4 := Lib.hid s4
      have HV := Lib.hid hv
      clear hto hbk hbW hW2 hxA hxB hab hi hmap9 hg9 hmb9 hmap10 hg10 hc9 hc10 hv hown hw10 hown10 hownA hvd s4 hmT10 hmB10
      go_enter Try.func16, Try.ntmps16
      go_upto_region 1 with fail
      rw [← hW]
      clear hW
      go_wp2_with (first | (at_builtin; go_must (refine wpList_append_lies _ rfl _ _ _ rfl B 60 i60 _ 2 16 Try.underlying58 HI.out hz0 hz1 hz2 rfl (by decide) v td.length (pv2 td) rfl HOWNA.out ⟨w10.heap.size, 0, none⟩ 1 1 [.int .i64 (a : Int), .int .i64 (b : Int)] rfl rfl (new_cells (c := #[.int .i64 (a : Int), .int .i64 (b : Int)]) _ (by simp)) (by simp [Value.oneCell']) (by omega) (by unfold maxLen; omega) (by omega) (by simp; omega) (w10.heap.size + 1) (by simp) ?_; intro gg cap w11 hown11 hg11 hat11 hlt11; have u1 := HS4.out w11 hg11; have u2 := blk_cell u1 0; have u3 := blk_free u1 0)))
      go_ret
      have hpn := HND.out
      have hk11 : Keeps (fun x => v.ownBlock = some x) w10 w11 := ((Keeps.refl _ w10).alloc _).grown hg11 (fun g e => .inl e)
      have hk12 : Keeps (fun x => v.ownBlock = some x ∨ x = bd) w10 (w11.setCell ⟨bd, 0, none⟩ (.slice (some ⟨gg, 0, none⟩) (td.length + 1) cap)) := (hk11.mono (fun x h => .inl h)).set (.inl (.inr rfl)) _ _
      have hlm := HMT10.out.lt
      have hlb := HMB10.out.lt
      have hW := HW2.out
      have hmv : ∀ x, v.ownBlock = some x → ∃ c f, W.heap[x]? = some (.cells c 60 f) ∧ B ≤ x := by
        intro x e
        obtain ⟨v', hv', hown'⟩ := hW.d
        have hvv : v' = v := by have h := hv'.symm.trans HV.out; simp at h; exact h
        subst hvv
        rcases hown'.2 with ⟨rfl, _⟩ | ⟨g, cap, cur, rfl, hBg, h1, _⟩
        · cases e
        · obtain rfl : g = x := by simpa [Value.ownBlock] using e
          exact ⟨_, _, h1, hBg⟩
      have hnm : ∀ x n f, MapF W x n f → ¬ (v.ownBlock = some x ∨ x = bd) := by
        intro x n f hm
        rintro (e | e)
        · obtain ⟨c, f', h, _⟩ := hmv x e
          exact map_ne hm h rfl
        · exact map_ne hm HV.out e.symm
      refine .mk [(a, b)] rfl ⟨?_, ?_, ⟨_, blk_set u1 0 _, ?_⟩, ?_, ?_, hW.ne, hW.ne2, hW.ht, hW.hb, hW.hd, hW.hmt, hW.hmk⟩ ?_ ?_ ?_ ?_
      · refine hk12.blk (HC10.out _ _ _ _ hW.t) ?_
        rintro (e | e)
        · obtain ⟨c, f', h, _⟩ := hmv bt e
          rw [hW.t] at h; simp at h
        · subst e
          have h := hW.t.symm.trans HV.out
          simp at h
      · refine hk12.blk (HC10.out _ _ _ _ hW.b) ?_
        rintro (e | e)
        · obtain ⟨c, f', h, _⟩ := hmv bb e
          rw [hW.b] at h; simp at h
        · subst e
          have h := hW.b.symm.trans HV.out
          simp at h
      · have h : w11.ownsRow B 60 2 (.slice (some ⟨gg, 0, none⟩) (td.length + 1) cap) (td ++ [(a, b)]).length (pv2 (td ++ [(a, b)])) := by
          rw [List.length_append, List.length_singleton, pv2_append]; exact hown11
        refine ownsRow_setCell_other h ?_ _
        intro e
        have e' : gg = bd := by simpa [Value.ownBlock] using e
        subst e'
        rcases hat11 with h | h
        · exact HVD.out h
        · omega
      · rw [List.length_append, List.length_singleton]
        exact HMT10.out.of_same (hk12.block _ hlm (hnm _ _ _ hW.mT))
      · rw [List.length_append, List.length_singleton]
        exact HMB10.out.of_same (hk12.block _ hlb (hnm _ _ _ hW.mB))
      · intro x hx
        simp at hx
        subst hx
        exact HAB.out
      · rw [List.nodup_append]
        exact ⟨hpn, by simp, fun x hx y hy e => by simp at hy; subst hy; subst e; exact hm hx⟩
      · have l0 := lt_of_block H.out.t
        have l1 := H.out.ht
        have k : Keeps (fun x => x = mt ∨ x = mk ∨ v.ownBlock = some x ∨ x = bd) W (w11.setCell ⟨bd, 0, none⟩ (.slice (some ⟨gg, 0, none⟩) (td.length + 1) cap)) :=
          (HW10.out.mono (fun x h => by rcases h with h | h; exact .inl h; exact .inr (.inl h))).trans (hk12.mono (fun x h => .inr (.inr h)))
        have l2 := HBW.out.size
        have k2 : Below B W (w11.setCell ⟨bd, 0, none⟩ (.slice (some ⟨gg, 0, none⟩) (td.length + 1) cap)) := k.below (by omega) (fun x h => by
          rcases h with h | h | h | h
          · rw [h]; exact hW.hmt
          · rw [h]; exact hW.hmk
          · obtain ⟨c, f', _, h2⟩ := hmv x h; exact h2
          · rw [h]; exact hW.hd)
        exact (HBW.out.mono (by omega)).trans k2
      · intro b' c f h
        have h1 := blk_below h HBW.out (lt_of_block h)
        refine hk12.blk (HC10.out _ _ _ _ h1) ?_
        rintro (e | e)
        · obtain ⟨c', f', h2, _⟩ := hmv b' e
          rw [h1] at h2; simp at h2
        · subst e
          have h2 := h1.symm.trans HV.out
          simp at h2
end Go.Proofs.Ytidjfmkclabagaa
