/-
  Proved: the contract of show and of Show. Condition: a type that may be, of at most 400 parts.
-/
import Derived.Test.YtdeomphilggokaaS7
set_option linter.unusedSimpArgs false
set_option linter.unusedVariables false
namespace Go.Proofs.Ytdeomphilggokaa
open Go.RowKit

theorem shaped_kind {t : Ty} (h : shapedD t = true) : t.k = 0 ∨ t.k = 1 ∨ t.k = 2 ∨ t.k = 3 := by
  cases t with
  | mk k n s q args =>
    rw [shapedD] at h
    simp only [Bool.and_eq_true] at h
    have h1 := h.1
    unfold okT at h1
    show k = 0 ∨ k = 1 ∨ k = 2 ∨ k = 3
    simp only [Ty.k] at h1
    by_cases h0 : k = 0
    · exact .inl h0
    · by_cases h2 : k = 1
      · exact .inr (.inl h2)
      · by_cases h3 : k = 2
        · exact .inr (.inr (.inl h3))
        · by_cases h4 : k = 3
          · exact .inr (.inr (.inr h4))
          · simp [h0, h2, h3, h4] at h1
theorem show_any : ∀ f : Nat, ShowAt f
  | 0 => by
    intro t ht
    have := parts_pos t
    omega
  | f + 1 => by
    have IH := show_any f
    intro t ht B D ao cap m4 mm xs L R least w hD hB hv hfit hsh hst hL hL9 hp
    rcases shaped_kind hsh with hk | hk | hk | hk
    · exact show_var t hk B ao cap m4 mm xs L R least w hB hfit hst hL hL9
    · by_cases h0 : t.args.length = 0
      · exact show_con0 t hk h0 B D ao cap m4 mm xs L least w hB hst
      · by_cases h1 : t.args.length = 1
        · exact show_con1 f IH t ht hk h1 B D ao cap m4 mm xs L R least w hD hB hv hfit hsh hst hL hL9 hp
        · exact show_con2 f IH t ht hk (by omega) B D ao cap m4 mm xs L R least w hD hB hv hfit hsh hst hL hL9 hp
    · exact show_tuple f IH t ht hk B D ao cap m4 mm xs L R least w hD hB hv hfit hsh hst hL hL9 hp
    · exact show_arrow f IH t ht hk B D ao cap m4 mm xs L R least w hD hB hv hfit hsh hst hL hL9 hp
theorem show_start (w : World) (t : Ty) (ao : Option Addr) (cap : Nat) {X : World} (hX : X = ((w.alloc (.cells (rowOf t ao cap) 33)).alloc (.map #[] 0)).alloc (.cells #[.map (some (w.heap.size + 1))] 64)) :
    NamSt w.heap.size X (w.heap.size + 1 + 1) (w.heap.size + 1) [] ∧ Below w.heap.size w X ∧ X.heap[w.heap.size]? = some (.cells (rowOf t ao cap) 33 (0, 0)) := by
  obtain ⟨w1, h1⟩ : ∃ w1, w1 = w.alloc (.cells (rowOf t ao cap) 33) := ⟨_, rfl⟩
  obtain ⟨w2, h2⟩ : ∃ w2, w2 = w1.alloc (.map #[] 0) := ⟨_, rfl⟩
  rw [← h1, ← h2] at hX
  have s1 : w1.heap.size = w.heap.size + 1 := by rw [h1]; simp
  have s2 : w2.heap.size = w.heap.size + 1 + 1 := by rw [h2, World.size_alloc, s1]
  have b1 : w1.heap[w.heap.size]? = some (.cells (rowOf t ao cap) 33 (0, 0)) := by rw [h1]; exact heap_alloc_new w _
  have b3 : MapS w2 (w.heap.size + 1) [] := by rw [h2, ← s1]; exact MapS.made w1
  have b4 : X.heap[w.heap.size + 1 + 1]? = some (.cells #[.map (some (w.heap.size + 1))] 64 (0, 0)) := by rw [hX, ← s2]; exact heap_alloc_new w2 _
  have hb : Below w.heap.size w X := by
    rw [hX, h2, h1]
    exact balloc (balloc (balloc (Below.refl _ _) _) _) _
  refine ⟨⟨b4, ?_, by omega, by omega⟩, hb, ?_⟩
  · exact b3.of_same (by rw [hX]; exact Below.heap_alloc _ _ _ (by omega))
  · rw [hX]
    exact blk_alloc (by rw [h2]; exact blk_alloc b1 _) _
theorem varsD_bound (t : Ty) (h : parts t ≤ 400) : (varsD [] t).length ≤ 1000 := by
  have := varsD_len t []
  simp at this
  omega
set_option maxRecDepth 100000 in
set_option maxHeartbeats 4000000 in
theorem pshow_any (t : Ty) (D : Nat → Prop) (ao : Option Addr) (cap : Nat) (w : World) (hD : ∀ b, D b → b < w.heap.size) (hv : SlD w D t.args ao cap) (hfit : Fits t) (hsh : shapedD t = true) (hp : parts t ≤ 400) :
    Calls Try.prog 12 #[.agg (rowOf t ao cap)] w fun e w' => e = .returned (.string (showD (varsD [] t) t 0)) ∧ Below w.heap.size w w' := by
  obtain ⟨c, hc⟩ : ∃ c, c = t.args.length := ⟨_, rfl⟩
  obtain ⟨X, hX⟩ : ∃ X, X = ((w.alloc (.cells (rowOf t ao cap) 33)).alloc (.map #[] 0)).alloc (.cells #[.map (some (w.heap.size + 1))] 64) := ⟨_, rfl⟩
  obtain ⟨hst, hbX, hrow⟩ := show_start w t ao cap hX
  have HW := Lib.hid (show_any (parts t) t (Nat.le_refl _) w.heap.size D ao cap _ _ [] (varsD [] t) [] 0 X hD hbX.size (hv.keep fun b hb off => below_cells hbX b (hD b hb) off) hfit hsh hst (by simp) (varsD_bound t hp) hp)
  obtain ⟨ans, hans⟩ : ∃ ans, ans = showD (varsD [] t) t 0 := ⟨_, rfl⟩
  rw [← hans] at HW ⊢
  unfold rowOf at hX hrow HW ⊢
  rw [← hc] at hX hrow HW ⊢
  have c0 : X.cell? ⟨w.heap.size, 0, none⟩ = some (.int .i64 t.k) := blk_cell hrow 0
  have c1 : X.cell? ⟨w.heap.size, 1, none⟩ = some (.int .i64 t.n) := blk_cell hrow 1
  have c2 : X.cell? ⟨w.heap.size, 2, none⟩ = some (.string t.s) := blk_cell hrow 2
  have c3 : X.cell? ⟨w.heap.size, 3, none⟩ = some (.int .i64 t.q) := blk_cell hrow 3
  have c4 : X.cell? ⟨w.heap.size, 4, none⟩ = some (.slice ao c cap) := blk_cell hrow 4
  have HBX := Lib.hid hbX
  have HXX := Lib.hid hX
  clear hX hst hbX hrow hans hv hfit hsh hc hp
  have hmm := @run_makeMap Try.prog
  go_enter Try.func12, Try.ntmps12
  go_upto_region 2 with fail
  rw [← HXX.out]
  clear hmm
  obtain ⟨m4, hm4⟩ : ∃ x, x = w.heap.size + 1 + 1 := ⟨_, rfl⟩
  obtain ⟨mm, hmm⟩ : ∃ x, x = w.heap.size + 1 := ⟨_, rfl⟩
  rw [← hm4]
  rw [← hm4, ← hmm] at HW
  clear hm4 hmm
  go_wp2_with (first | (go_at_call 34; refine HW.out.mono ?_; rintro e w7 h7; obtain rfl := h7.e; have HB7 := Lib.hid h7.bel; clear h7))
  go_ret
  exact ⟨rfl, HBX.out.trans HB7.out⟩
end Go.Proofs.Ytdeomphilggokaa
