/-
  Proved: the contract of the law's fitted, for every pattern of at most 1048576 parts. Condition: what fits a machine.
-/
import Derived.Test.YtcieoelogocjkaaZ6
set_option linter.unusedSimpArgs false
set_option linter.unusedVariables false
namespace Go.Proofs.Ytcieoelogocjkaa
open Go.RowKit Srt

set_option maxRecDepth 100000 in
set_option maxHeartbeats 8000000 in
/-- of nothing a name is made -/
theorem var_any (s : Srt) : FitCB anyP s false 1 := by
  intro ao cap w hv
  obtain ⟨W, hW⟩ : ∃ W, W = (w.alloc (.cells (rowOf anyP ao cap) 26)).alloc (.cells #[.int .i64 0, .int .i64 0, .int .i64 0, .int .i64 0, .string ⟨#[]⟩, .slice none 0 0] 26) := ⟨_, rfl⟩
  have e1 := heap_alloc_new w (.cells (rowOf anyP ao cap) 26)
  have e2 := heap_alloc_new (w.alloc (.cells (rowOf anyP ao cap) 26)) (.cells #[.int .i64 0, .int .i64 0, .int .i64 0, .int .i64 0, .string ⟨#[]⟩, .slice none 0 0] 26)
  rw [World.size_alloc] at e2
  have h1 : PB W w.heap.size anyP ao cap := by rw [hW]; exact blk_alloc e1 _
  have h2 : PB W (w.heap.size + 1) anyP none 0 := by rw [hW]; exact e2
  have h3 : Below w.heap.size w W := by rw [hW]; exact balloc (balloc (Below.refl _ _) _) _
  have l2 : w.heap.size + 1 < W.heap.size := lt_of_block h2
  have c0 : W.cell? ⟨w.heap.size, 0, none⟩ = some (.int .i64 0) := blk_cell h1 0
  have c1 : W.cell? ⟨w.heap.size, 1, none⟩ = some (.int .i64 0) := blk_cell h1 1
  have z0 : W.cell? ⟨w.heap.size + 1, 0, none⟩ = some (.int .i64 0) := blk_cell h2 0
  have z1 : W.cell? ⟨w.heap.size + 1, 1, none⟩ = some (.int .i64 0) := blk_cell h2 1
  have z2 : W.cell? ⟨w.heap.size + 1, 2, none⟩ = some (.int .i64 0) := blk_cell h2 2
  have z3 : W.cell? ⟨w.heap.size + 1, 3, none⟩ = some (.int .i64 0) := blk_cell h2 3
  have z4 : W.cell? ⟨w.heap.size + 1, 4, none⟩ = some (.string ⟨#[]⟩) := blk_cell h2 4
  have z5 : W.cell? ⟨w.heap.size + 1, 5, none⟩ = some (.slice none 0 0) := blk_cell h2 5
  have f0 := blk_free h2 0
  have f1 := blk_free h2 1
  have f2 := blk_free h2 2
  have f3 := blk_free h2 3
  have f4 := blk_free h2 4
  have f5 := blk_free h2 5
  obtain ⟨i0, hi0⟩ : ∃ i0, i0 = sI s := ⟨_, rfl⟩
  have HW := Lib.hid hW
  have H2 := Lib.hid h2
  have H3 := Lib.hid h3
  rw [← hi0]
  have lw : w.heap.size < W.heap.size := by omega
  have hne : w.heap.size ≠ w.heap.size + 1 := by omega
  clear hW h1 h2 h3 e1 e2 hi0
  unfold rowOf
  go_enter Try.func9, Try.ntmps9
  go_upto_region 1 with fail
  rw [show (w.alloc (.cells #[.int .i64 anyP.k, .int .i64 anyP.n, .int .i64 anyP.o, .int .i64 anyP.a, .string anyP.s, .slice ao anyP.kids.length cap] 26)).alloc (.cells #[.int .i64 0, .int .i64 0, .int .i64 0, .int .i64 0, .string ⟨#[]⟩, .slice none 0 0] 26) = W from HW.out.symm]
  go_wp2_with fail
  refine Calls.mono (pick_any 0 4 W (by omega) (by omega) (by omega) (by omega)) ?_
  rintro e w' ⟨rfl, rfl⟩
  rw [show pickD 0 4 = 0 from by decide]
  go_wp2_with fail
  have hfin := fit_fin (s := s) (w := w) (lo := w'.heap.size) (t := .mk 1 0 0 0 ⟨#[]⟩ []) (a := none) (c := 0) H2.out (by exact ⟨Nat.le_refl _, by unfold Pt.kids KidsV; trivial⟩) l2 H3.out (good_var s (by unfold I64; omega))
  refine bodyPost_ret (v := .agg (rowOf (.mk 1 0 0 0 ⟨#[]⟩ []) none 0)) (res_pat (fn := Try.f9) (t := 6) Try.results9 rfl hfin.1) rfl ?_
  exact hfin.2

theorem fitted_any (value : Bool) : ∀ (f : Nat) (p : Pt) (s : Srt), s ≠ s6 → Fits p → 8 * parts p + rk s ≤ f → parts p ≤ 1048576 → FitCB p s value (bd p s)
  | 0, p, s, _, _, hm, _ => by have := parts_pos p; omega
  | f + 1, p, s, hs, hp, hm, hsz => fitted_f f value (fun p' s' h1 h2 h3 h4 => fitted_any value f p' s' h1 h2 h3 h4) (fun hv s' => var_any s') p s hs hp hm hsz (fun _ => trivial)
theorem fitted_fits {p : Pt} {s : Srt} (value : Bool) (hs : s ≠ s6) (hp : Fits p) (hsz : parts p ≤ 1048576) : FitCB p s value 16777216 :=
  (fitted_any value _ p s hs hp (Nat.le_refl _) hsz).mono (Nat.le_trans (bd_le p s) (by omega))
end Go.Proofs.Ytcieoelogocjkaa
