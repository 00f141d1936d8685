/-
  Proved: the contract of the reference's told. Conditions: a place below the slice's length.
-/
import Derived.Test.YtebappmamaafaaaDoorK2
namespace Go.Proofs.YtebappmamaafaaaDoor
open Go.RowKit

/-- block lb holds what is known ahead of the n instructions -/
def LK (w : World) (lb n : Nat) (K : Nat → Option (Int × Int)) : Prop :=
  ∃ cs : Array Value, w.heap[lb]? = some (.cells cs 94 (0, 0)) ∧ cs.size = n * 3 ∧ ∀ j, j < n → cs[j * 3]? = some (.bool (K j).isSome) ∧ cs[j * 3 + 1]? = some (.int .i64 ((K j).getD (0, 0)).1) ∧ cs[j * 3 + 2]? = some (.int .i64 ((K j).getD (0, 0)).2)
theorem LK.carry {w w' : World} {lb n : Nat} {K : Nat → Option (Int × Int)} (h : LK w lb n K) (hc : w'.heap[lb]? = w.heap[lb]?) : LK w' lb n K := by
  obtain ⟨cs, hb, rest⟩ := h
  exact ⟨cs, hc.trans hb, rest⟩
theorem LK.lt {w : World} {lb n : Nat} {K : Nat → Option (Int × Int)} (h : LK w lb n K) : lb < w.heap.size := by
  obtain ⟨cs, hb, _⟩ := h
  exact lt_of_block hb
theorem LK.set {w : World} {lb n : Nat} {K : Nat → Option (Int × Int)} (h : LK w lb n K) (p : Nat) (s : Int × Int) :
    LK (((w.setCell ⟨lb, p * 3, none⟩ (.bool true)).setCell ⟨lb, p * 3 + 1, none⟩ (.int .i64 s.1)).setCell ⟨lb, p * 3 + 2, none⟩ (.int .i64 s.2)) lb n (updK K p s) := by
  obtain ⟨cs, hb, hs, hj⟩ := h
  refine ⟨_, blk_set (blk_set (blk_set hb _ _) _ _) _ _, by simp [hs], fun j hlt => ?_⟩
  obtain ⟨h0, h1, h2⟩ := hj j hlt
  by_cases he : j = p
  · subst he
    have l0 : j * 3 < cs.size := by omega
    have l1 : j * 3 + 1 < cs.size := by omega
    have l2 : j * 3 + 2 < cs.size := by omega
    refine ⟨?_, ?_, ?_⟩
    · rw [Array.getElem?_setIfInBounds_ne (by omega), Array.getElem?_setIfInBounds_ne (by omega), Array.getElem?_setIfInBounds_self_of_lt l0]; simp [updK]
    · rw [Array.getElem?_setIfInBounds_ne (by omega), Array.getElem?_setIfInBounds_self_of_lt (by simpa using l1)]; simp [updK]
    · rw [Array.getElem?_setIfInBounds_self_of_lt (by simpa using l2)]; simp [updK]
  · refine ⟨?_, ?_, ?_⟩
    · rw [Array.getElem?_setIfInBounds_ne (by omega), Array.getElem?_setIfInBounds_ne (by omega), Array.getElem?_setIfInBounds_ne (by omega), h0]; simp [updK, he]
    · rw [Array.getElem?_setIfInBounds_ne (by omega), Array.getElem?_setIfInBounds_ne (by omega), Array.getElem?_setIfInBounds_ne (by omega), h1]; simp [updK, he]
    · rw [Array.getElem?_setIfInBounds_ne (by omega), Array.getElem?_setIfInBounds_ne (by omega), Array.getElem?_setIfInBounds_ne (by omega), h2]; simp [updK, he]

theorem grown_set (w : World) (b i : Nat) (v : Value) : w.grownBy (w.setCell ⟨b, i, none⟩ v) (some b) :=
  ⟨rfl, rfl, rfl, by simp [World.setCell], fun k _ hne => Below.heap_setCell _ _ _ _ (fun e => hne (by rw [e]))⟩
theorem grown_drewN (w : World) (n : Nat) (row : Option Nat) : w.grownBy (w.drewN n) row := ⟨rfl, rfl, rfl, Nat.le_refl _, fun _ _ _ => rfl⟩

def RtoldPost (lb n p : Nat) (s : Int × Int) (i : Nat) (K : Nat → Option (Int × Int)) (w : World) (e : Ending) (w' : World) : Prop :=
  e = .returned (.bool (toldK K p s i).isSome) ∧ (∃ K', LK w' lb n K' ∧ ∀ KK, toldK K p s i = some KK → K' = KK) ∧ w.grownBy w' (some lb)

theorem rtold_any (lb n cap p i : Nat) (s : Int × Int) (K : Nat → Option (Int × Int)) (w : World) (hm : LK w lb n K) (hp : p < n) (hn : n ≤ 9223372036854775807) (hi : i ≤ 9223372036854775807) :
    Calls Tryd.prog 38 #[.slice (some ⟨lb, 0, none⟩) n cap, .int .i64 p, .agg #[.bool true, .int .i64 s.1, .int .i64 s.2], .int .i64 i] w (RtoldPost lb n p s i K w) := by
  have hlt := hm.lt
  have HM := Lib.hid hm
  obtain ⟨cs, hb, hs, hj⟩ := hm
  obtain ⟨h0, h1, h2⟩ := hj p hp
  have hbb := Below.heap_alloc w (.cells #[.bool true, .int .i64 s.1, .int .i64 s.2] 94) lb hlt
  rw [hb] at hbb
  have c0 : w.cell? ⟨lb, p * 3, none⟩ = some (.bool (K p).isSome) := by rw [blk_cell hb]; exact h0
  have c1 : w.cell? ⟨lb, p * 3 + 1, none⟩ = some (.int .i64 ((K p).getD (0, 0)).1) := by rw [blk_cell hb]; exact h1
  have c2 : w.cell? ⟨lb, p * 3 + 2, none⟩ = some (.int .i64 ((K p).getD (0, 0)).2) := by rw [blk_cell hb]; exact h2
  have f0 := blk_free hb (p * 3)
  have f1 := blk_free hb (p * 3 + 1)
  have f2 := blk_free hb (p * 3 + 2)
  have HA := Lib.hid (World.grownBy_alloc w (.cells #[.bool true, .int .i64 s.1, .int .i64 s.2] 94) (some lb))
  clear hj h0 h1 h2 hbb hb hs
  cases hk : K p with
  | none =>
    have HK := Lib.hid hk
    rw [hk] at c0 c1 c2
    clear hk
    go_enter Tryd.func38, Tryd.ntmps38
    go_wp2
    go_ret
    refine ⟨congrArg (fun x => Ending.returned (Value.bool x)) ?_, ⟨updK K p s, ?_, ?_⟩, ?_⟩
    · unfold toldK
      rw [HK.out]
      by_cases hip : i < p <;> simp [hip]
    · exact (HM.out.set p s).carry (Below.heap_alloc _ _ _ (by simp [World.setCell]; omega))
    · intro KK hKK
      unfold toldK at hKK
      rw [HK.out] at hKK
      by_cases hip : i < p
      · simpa [hip] using hKK
      · simp [hip] at hKK
    · exact grown_trans (grown_trans (grown_trans (grown_set _ _ _ _) (grown_set _ _ _ _)) (grown_set _ _ _ _)) (World.grownBy_alloc _ _ _)
  | some o =>
    have HK := Lib.hid hk
    rw [hk] at c0 c1 c2
    clear hk
    have c1' : w.cell? ⟨lb, p * 3 + 1, none⟩ = some (.int .i64 o.1) := c1
    have c2' : w.cell? ⟨lb, p * 3 + 2, none⟩ = some (.int .i64 o.2) := c2
    clear c1 c2
    have hp0 : (0 : Int) ≤ (p : Int) := Int.natCast_nonneg _
    have hp1 : (p : Int) < (n : Int) := by omega
    by_cases ho : o = s
    · subst ho
      have ht : toldK K p o i = some K := by unfold toldK; rw [HK.out]; simp
      have HT := Lib.hid ht
      clear ht
      go_enter Tryd.func38, Tryd.ntmps38
      go_wp2
      go_quiet (fail)
      go_wp2
      go_ret
      exact ⟨congrArg (fun x => Ending.returned (Value.bool x)) (by rw [HT.out]; simp), ⟨K, HM.out.carry (Below.heap_alloc _ _ _ hlt), fun KK h => by rw [HT.out] at h; exact Option.some.inj h⟩, grown_trans HA.out (grown_drewN _ _ _)⟩
    · have ht : toldK K p s i = none := by unfold toldK; rw [HK.out]; simp [ho]
      have HT := Lib.hid ht
      have hdec : (o.1 == s.1) = false ∨ ((o.1 == s.1) = true ∧ (o.2 == s.2) = false) := by
        by_cases h1 : o.1 = s.1
        · by_cases h2 : o.2 = s.2
          · exact absurd (Prod.ext h1 h2) ho
          · exact .inr ⟨by simpa using h1, by simpa using h2⟩
        · exact .inl (by simpa using h1)
      clear ht ho
      rcases hdec with h | ⟨h, h'⟩
      all_goals
        go_enter Tryd.func38, Tryd.ntmps38
        go_wp2
        go_quiet (fail)
        go_wp2
        go_ret
        exact ⟨congrArg (fun x => Ending.returned (Value.bool x)) (by rw [HT.out]; first | rfl | (simp [*]; done) | (simp; done)), ⟨K, HM.out.carry (Below.heap_alloc _ _ _ hlt), fun KK h => by rw [HT.out] at h; cases h⟩, grown_trans HA.out (grown_drewN _ _ _)⟩

end Go.Proofs.YtebappmamaafaaaDoor
