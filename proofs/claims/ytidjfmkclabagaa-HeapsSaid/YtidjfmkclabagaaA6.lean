/-
  Proved: the contract of New. No condition.
-/
import Derived.Test.YtidjfmkclabagaaA5
set_option linter.unusedSimpArgs false
set_option linter.unusedVariables false
namespace Go.Proofs.Ytidjfmkclabagaa
open Go.RowKit

theorem made_two (n : Nat) : madeCells #[Value.bool false, Value.int .i64 0] (n * 2) = cvA (List.replicate n zc) := by
  apply Array.toList_inj.1
  apply List.ext_getElem?
  intro i
  by_cases hi : i < n * 2
  · have hc : (madeCells #[Value.bool false, Value.int .i64 0] (n * 2)).toList[i]? = some (if i % 2 = 0 then Value.bool false else Value.int .i64 0) := by
      rw [Array.getElem?_toList]
      simp only [madeCells, Array.getElem?_map, Array.getElem?_range, hi, if_true]
      rcases Nat.mod_two_eq_zero_or_one i with h | h <;> simp [h]
    rw [hc]
    show _ = (cv (List.replicate n zc))[i]?
    rcases Nat.mod_two_eq_zero_or_one i with h | h
    · have e : i = (i / 2) * 2 := by omega
      rw [if_pos h, e, cv_get0 (l := List.replicate n zc) (by simp; omega)]
      simp [zc]
    · have e : i = (i / 2) * 2 + 1 := by omega
      rw [if_neg (by omega), e, cv_get1 (l := List.replicate n zc) (by simp; omega)]
      simp [zc]
  · rw [List.getElem?_eq_none (by simp [madeCells]; omega)]
    show none = (cv (List.replicate n zc))[i]?
    rw [List.getElem?_eq_none (by rw [cv_len]; simp; omega)]
theorem info49 : (Try.prog.info? 49).map (fun i => (i.zero, i.size, i.bytes)) = some (some (.agg #[.bool false, .int .i64 0]), 2, 16) := by kernel_rfl
theorem make_cells (n : Nat) (hn : n ≤ 10000000) (w : World) : (Instr.makeSlice 32 (.int .i64 n) (.int .i64 n)).run Try.prog w = .ok (.slice (some ⟨w.heap.size, 0, none⟩) n n) (w.alloc (.cells (cvA (List.replicate n zc)) 49)) := by
  obtain ⟨i, hi, h1, h2, h3⟩ := info_parts info49
  have h := run_make (P := Try.prog) w 32 49 i _ Try.underlying32 hi h1 .i64 .i64 n n (by omega) (by omega) (by rw [h3]; omega) (by omega)
  rw [h]
  simp only [Int.toNat_natCast, h2, Value.cells]
  rw [made_two]
inductive NewPost (c : Int) (w : World) (e : Ending) (w' : World) : Prop
  | bad : c < 0 ∨ 1000000 < c → e = .returned (.tuple #[.pointer none, .int .i64 21]) → w' = w → NewPost c w e w'
  | new (n : Nat) (g : Hp) : c = n → n ≤ 1000000 → e = .returned (.tuple #[.pointer (some ⟨g.hb, 0, none⟩), .int .i64 0]) → HpAt w' g → g.sz = n → g.nx = 0 → w.heap.size ≤ g.hb → w.heap.size ≤ g.ub → w.heap.size ≤ g.sb → Below w.heap.size w w' → NewPost c w e w'
theorem new_fin (n : Nat) (hn : n ≤ 1000000) (w : World) (ub sb : Nat) (h : (ub = w.heap.size ∧ sb = w.heap.size + 1) ∨ (ub = w.heap.size + 1 ∧ sb = w.heap.size)) :
    NewPost n w (.returned (.tuple #[.pointer (some ⟨w.heap.size + 1 + 1, 0, none⟩), .int .i64 0])) (((w.alloc (.cells (cvA (List.replicate n zc)) 49)).alloc (.cells (cvA (List.replicate n zc)) 49)).alloc (.cells #[.slice (some ⟨ub, 0, none⟩) n n, .slice (some ⟨sb, 0, none⟩) n n, .int .i64 0] 42)).drew := by
  obtain ⟨W, hW⟩ : ∃ W, W = ((w.alloc (.cells (cvA (List.replicate n zc)) 49)).alloc (.cells (cvA (List.replicate n zc)) 49)).alloc (.cells #[.slice (some ⟨ub, 0, none⟩) n n, .slice (some ⟨sb, 0, none⟩) n n, .int .i64 0] 42) := ⟨_, rfl⟩
  rw [← hW]
  have a1 : Cells W w.heap.size (List.replicate n zc) := by rw [hW]; exact blk_alloc (blk_alloc (heap_alloc_new w _) _) _
  have a2 : Cells W (w.heap.size + 1) (List.replicate n zc) := by
    rw [hW]
    have h := heap_alloc_new (w.alloc (.cells (cvA (List.replicate n zc)) 49)) (.cells (cvA (List.replicate n zc)) 49)
    rw [World.size_alloc] at h
    exact blk_alloc h _
  have a3 : W.heap[w.heap.size + 1 + 1]? = some (.cells #[.slice (some ⟨ub, 0, none⟩) n n, .slice (some ⟨sb, 0, none⟩) n n, .int .i64 0] 42 (0, 0)) := by
    rw [hW]
    have h := heap_alloc_new ((w.alloc (.cells (cvA (List.replicate n zc)) 49)).alloc (.cells (cvA (List.replicate n zc)) 49)) (.cells #[.slice (some ⟨ub, 0, none⟩) n n, .slice (some ⟨sb, 0, none⟩) n n, .int .i64 0] 42)
    rwa [World.size_alloc, World.size_alloc] at h
  have hb : Below w.heap.size w W := by rw [hW]; exact balloc (balloc (balloc (Below.refl _ _) _) _) _
  have hu : Cells W ub (List.replicate n zc) := by rcases h with ⟨rfl, rfl⟩ | ⟨rfl, rfl⟩ <;> assumption
  have hs : Cells W sb (List.replicate n zc) := by rcases h with ⟨rfl, rfl⟩ | ⟨rfl, rfl⟩ <;> assumption
  have hne : ub ≠ sb := by rcases h with ⟨h1, h2⟩ | ⟨h1, h2⟩ <;> omega
  have hlb : w.heap.size ≤ ub ∧ w.heap.size ≤ sb := by rcases h with ⟨h1, h2⟩ | ⟨h1, h2⟩ <;> omega
  refine .new n { hb := w.heap.size + 1 + 1, ub := ub, sb := sb, sz := n, us := List.replicate n zc, nx := 0 } rfl hn rfl ⟨a3, hu, ⟨_, hs, by simp⟩, by simp, hne, Nat.zero_le _, hn⟩ rfl rfl (by simp only; omega) hlb.1 hlb.2 hb.drew
set_option maxRecDepth 100000 in
set_option maxHeartbeats 8000000 in
theorem new_any (c : Int) (w : World) : Calls Try.prog 4 #[.int .i64 c] w (NewPost c w) := by
  go_enter Try.func4, Try.ntmps4
  by_cases h1 : c < 0
  · go_wp2_with fail
    go_ret2
    exact .bad (.inl h1) rfl rfl
  · by_cases h2 : 1000000 < c
    · go_wp2_with fail
      go_ret2
      exact .bad (.inr h2) rfl rfl
    · obtain ⟨n, rfl⟩ : ∃ n : Nat, c = (n : Int) := ⟨c.toNat, by omega⟩
      have hm := make_cells n (by omega)
      have hn : n ≤ 1000000 := by omega
      go_upto_region 3 with fail
      go_region
      all_goals
        go_wp2_with fail
        go_ret2
        first
          | exact new_fin n hn w (w.heap.size + 1) w.heap.size (.inr ⟨rfl, rfl⟩)
          | exact new_fin n hn w w.heap.size (w.heap.size + 1) (.inl ⟨rfl, rfl⟩)
end Go.Proofs.Ytidjfmkclabagaa
