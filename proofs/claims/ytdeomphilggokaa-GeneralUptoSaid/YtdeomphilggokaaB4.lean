/-
  Proved: the contract of Variables. Condition: a type that may be, of at most 400 parts.
-/
import Derived.Test.YtdeomphilggokaaB3
set_option linter.unusedSimpArgs false
set_option linter.unusedVariables false
namespace Go.Proofs.Ytdeomphilggokaa
open Go.RowKit

theorem var_start (w : World) (t : Ty) (ao : Option Addr) (cap : Nat) {X : World} (hX : X = (((w.alloc (.cells (rowOf t ao cap) 33)).alloc (.cells #[.slice none 0 0] 47)).alloc (.map #[] 0)).alloc (.cells #[.map (some (w.heap.size + 1 + 1))] 77)) :
    VarSt w.heap.size X (w.heap.size + 1 + 1 + 1) (w.heap.size + 1 + 1) (w.heap.size + 1) [] ∧ Below w.heap.size w X ∧ X.heap[w.heap.size]? = some (.cells (rowOf t ao cap) 33 (0, 0)) := by
  obtain ⟨w1, h1⟩ : ∃ w1, w1 = w.alloc (.cells (rowOf t ao cap) 33) := ⟨_, rfl⟩
  obtain ⟨w2, h2⟩ : ∃ w2, w2 = w1.alloc (.cells #[.slice none 0 0] 47) := ⟨_, rfl⟩
  obtain ⟨w3, h3⟩ : ∃ w3, w3 = w2.alloc (.map #[] 0) := ⟨_, rfl⟩
  rw [← h1, ← h2, ← h3] at hX
  have s1 : w1.heap.size = w.heap.size + 1 := by rw [h1]; simp
  have s2 : w2.heap.size = w.heap.size + 1 + 1 := by rw [h2, World.size_alloc, s1]
  have s3 : w3.heap.size = w.heap.size + 1 + 1 + 1 := by rw [h3, World.size_alloc, s2]
  have b1 : w1.heap[w.heap.size]? = some (.cells (rowOf t ao cap) 33 (0, 0)) := by rw [h1]; exact heap_alloc_new w _
  have b2 : w2.heap[w.heap.size + 1]? = some (.cells #[.slice none 0 0] 47 (0, 0)) := by rw [h2, ← s1]; exact heap_alloc_new w1 _
  have b3 : MapF w3 (w.heap.size + 1 + 1) 0 (fun _ => none) := by rw [h3, ← s2]; exact MapF.made w2
  have b4 : X.heap[w.heap.size + 1 + 1 + 1]? = some (.cells #[.map (some (w.heap.size + 1 + 1))] 77 (0, 0)) := by rw [hX, ← s3]; exact heap_alloc_new w3 _
  have hb : Below w.heap.size w X := by
    rw [hX, h3, h2, h1]
    exact balloc (balloc (balloc (balloc (Below.refl _ _) _) _) _) _
  refine ⟨⟨b4, ?_, ⟨_, ?_, World.ownsRow_nil _ _ _ _⟩, by omega, by omega, by omega⟩, hb, ?_⟩
  · have h5 : X.heap[w.heap.size + 1 + 1]? = w3.heap[w.heap.size + 1 + 1]? := by rw [hX]; exact Below.heap_alloc _ _ _ (by omega)
    exact (b3.of_same h5).congr (fun k _ => by simp [cntF])
  · rw [hX]
    exact blk_alloc (by rw [h3]; exact blk_alloc b2 _) _
  · rw [hX]
    exact blk_alloc (by rw [h3]; exact blk_alloc (by rw [h2]; exact blk_alloc b1 _) _) _
set_option maxRecDepth 100000 in
set_option maxHeartbeats 4000000 in
theorem variables_any (t : Ty) (D : Nat → Prop) (ao : Option Addr) (cap : Nat) (w : World) (hD : ∀ b, D b → b < w.heap.size) (hv : SlD w D t.args ao cap) (hfit : Fits t) (hsh : shapedD t = true) (hp : parts t ≤ 1000) :
    Calls Try.prog 21 #[.agg (rowOf t ao cap)] w fun e w' => ∃ v, e = .returned v ∧ OwnI w.heap.size w' v (varsD [] t) ∧ Below w.heap.size w w' := by
  obtain ⟨c, hc⟩ : ∃ c, c = t.args.length := ⟨_, rfl⟩
  obtain ⟨X, hX⟩ : ∃ X, X = (((w.alloc (.cells (rowOf t ao cap) 33)).alloc (.cells #[.slice none 0 0] 47)).alloc (.map #[] 0)).alloc (.cells #[.map (some (w.heap.size + 1 + 1))] 77) := ⟨_, rfl⟩
  obtain ⟨hst, hbX, hrow⟩ := var_start w t ao cap hX
  have HW := Lib.hid (walkV_any (parts t) t (Nat.le_refl _) w.heap.size D ao cap _ _ _ [] X hD hbX.size (hv.keep fun b hb off => below_cells hbX b (hD b hb) off) hfit hsh hst (by simp; omega))
  obtain ⟨ans, hans⟩ : ∃ ans, ans = varsD [] t := ⟨_, rfl⟩
  rw [← hans]
  rw [vars_occ] at hans
  unfold rowOf at hX hrow HW
  unfold rowOf
  rw [← hc] at hX hrow HW
  rw [← hc]
  have c0 : X.cell? ⟨w.heap.size, 0, none⟩ = some (.int .i64 t.k) := blk_cell hrow 0
  have c1 : X.cell? ⟨w.heap.size, 1, none⟩ = some (.int .i64 t.n) := blk_cell hrow 1
  have c2 : X.cell? ⟨w.heap.size, 2, none⟩ = some (.string t.s) := blk_cell hrow 2
  have c3 : X.cell? ⟨w.heap.size, 3, none⟩ = some (.int .i64 t.q) := blk_cell hrow 3
  have c4 : X.cell? ⟨w.heap.size, 4, none⟩ = some (.slice ao c cap) := blk_cell hrow 4
  have HANS := Lib.hid hans
  have HBX := Lib.hid hbX
  have HXX := Lib.hid hX
  clear hX hst hbX hrow hans hv hfit hsh hc
  have hmm := @run_makeMap Try.prog
  go_enter Try.func21, Try.ntmps21
  go_upto_region 3 with fail
  rw [← HXX.out]
  clear hmm
  obtain ⟨m4, hm4⟩ : ∃ x, x = w.heap.size + 1 + 1 + 1 := ⟨_, rfl⟩
  obtain ⟨mm, hmm⟩ : ∃ x, x = w.heap.size + 1 + 1 := ⟨_, rfl⟩
  obtain ⟨l3, hl3⟩ : ∃ x, x = w.heap.size + 1 := ⟨_, rfl⟩
  rw [← hm4, ← hmm, ← hl3]
  rw [← hm4, ← hmm, ← hl3] at HW
  clear hm4 hmm hl3
  go_upto_region 4 with (first | (go_at_call 25; refine HW.out.mono ?_; rintro e w7 ⟨rfl, hst7, hb7, hbx7⟩; obtain ⟨v, hl, hown⟩ := hst7.l; have d : w7.cell? ⟨l3, 0, none⟩ = some v := blk_cell hl 0; have HOWN := Lib.hid hown; have HB7 := Lib.hid hb7; clear hst7 hb7 hbx7 hl hown))
  go_wp2_with fail
  go_ret
  refine ⟨v, rfl, ?_, HBX.out.trans HB7.out⟩
  have h := HOWN.out
  rw [List.nil_append, ← HANS.out] at h
  exact h
end Go.Proofs.Ytdeomphilggokaa
