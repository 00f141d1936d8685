/-
  Proved: the contract of the program's headOf. No condition.
-/
import Derived.Test.YtcieoelogocjkaaB1
import Derived.Deep.DeepCutAuto
import Derived.Deep.CutBlock
set_option linter.unusedSimpArgs false
set_option linter.unusedVariables false
namespace Go.Proofs.Ytcieoelogocjkaa
open Go.RowKit

def hdRow (h : Hd) : Array Value := #[.int .i64 h.k, .int .i64 h.n, .int .i64 h.c, .string h.s]
abbrev HB (W : World) (b : Nat) (h : Hd) : Prop := W.heap[b]? = some (.cells (hdRow h) 51 (0, 0))
abbrev set4 (W : World) (b : Nat) (h : Hd) : World :=
  (((W.setCell ⟨b, 0, none⟩ (.int .i64 h.k)).setCell ⟨b, 1, none⟩ (.int .i64 h.n)).setCell ⟨b, 2, none⟩ (.int .i64 h.c)).setCell ⟨b, 3, none⟩ (.string h.s)
theorem HB.set {W : World} {b : Nat} {h g : Hd} (hb : HB W b h) : HB (set4 W b g) b g := blk_set (blk_set (blk_set (blk_set hb 0 _) 1 _) 2 _) 3 _
theorem below_set4 {N : Nat} {w W : World} {b : Nat} {h : Hd} (hh : Below N w W) (hb : N ≤ b) : Below N w (set4 W b h) :=
  (((hh.setCell (p := ⟨b, 0, none⟩) hb _).setCell (p := ⟨b, 1, none⟩) hb _).setCell (p := ⟨b, 2, none⟩) hb _).setCell (p := ⟨b, 3, none⟩) hb _
theorem res_hd {fn : Func} {t : Tmp} (h : fn.results = #[.cell t 51]) {tmps : Array Value} {w : World} {b : Nat} {p : Hd} (ht : tmps.getD t undef = .pointer (some ⟨b, 0, none⟩)) (hb : HB w b p) :
    (results fn tmps).run Try.prog w = .ok (.agg (hdRow p)) w :=
  results_cell_row (h := h) _ _ b 51 _ (0, 0) _ ht hb Try.underlying51 rfl (by kernel_rfl)
def hd0 : Hd := ⟨0, 0, 0, ⟨#[]⟩⟩

set_option maxRecDepth 100000 in
set_option maxHeartbeats 4000000 in
theorem phead_any (p : Pt) (ao : Option Addr) (cap : Nat) (w : World) (hl : p.kids.length ≤ 1048576) :
    Calls Try.prog 23 #[.agg (rowOf p ao cap)] w fun e w' => e = .returned (.agg (hdRow (headOf p))) ∧ Below w.heap.size w w' := by
  obtain ⟨k, n, o, a, s, kids⟩ := p
  obtain ⟨c, hc⟩ : ∃ c, c = kids.length := ⟨_, rfl⟩
  have HC := Lib.hid hc
  simp only [Pt.kids] at hl
  unfold rowOf
  simp only [Pt.k, Pt.n, Pt.o, Pt.a, Pt.s, Pt.kids]
  rw [← hc] at hl ⊢
  clear hc
  go_enter Try.func23, Try.ntmps23
  go_upto_region 2 with fail
  obtain ⟨W, hW⟩ : ∃ W, W = ((w.alloc (.cells #[.int .i64 k, .int .i64 n, .int .i64 o, .int .i64 a, .string s, .slice ao c cap] 26)).alloc (.cells #[.int .i64 0, .int .i64 0, .int .i64 0, .string ⟨#[]⟩] 51)).alloc (.cells #[.int .i64 k, .int .i64 n, .int .i64 c, .string ⟨#[]⟩] 51) := ⟨_, rfl⟩
  have e1 := heap_alloc_new w (.cells #[.int .i64 k, .int .i64 n, .int .i64 o, .int .i64 a, .string s, .slice ao c cap] 26)
  have e2 := heap_alloc_new (w.alloc (.cells #[.int .i64 k, .int .i64 n, .int .i64 o, .int .i64 a, .string s, .slice ao c cap] 26)) (.cells #[.int .i64 0, .int .i64 0, .int .i64 0, .string ⟨#[]⟩] 51)
  have e3 := heap_alloc_new ((w.alloc (.cells #[.int .i64 k, .int .i64 n, .int .i64 o, .int .i64 a, .string s, .slice ao c cap] 26)).alloc (.cells #[.int .i64 0, .int .i64 0, .int .i64 0, .string ⟨#[]⟩] 51)) (.cells #[.int .i64 k, .int .i64 n, .int .i64 c, .string ⟨#[]⟩] 51)
  rw [World.size_alloc] at e2
  rw [World.size_alloc, World.size_alloc] at e3
  have h1 : W.heap[w.heap.size]? = some (.cells #[.int .i64 k, .int .i64 n, .int .i64 o, .int .i64 a, .string s, .slice ao c cap] 26 (0, 0)) := by rw [hW]; exact blk_alloc (blk_alloc e1 _) _
  have h2 : HB W (w.heap.size + 1) hd0 := by rw [hW]; exact blk_alloc e2 _
  have h3 : HB W (w.heap.size + 1 + 1) ⟨k, n, c, ⟨#[]⟩⟩ := by rw [hW]; exact e3
  have h4 : Below w.heap.size w W := by rw [hW]; exact balloc (balloc (balloc (Below.refl _ _) _) _) _
  rw [← hW]
  clear e1 e2 e3 hW
  have c0 : W.cell? ⟨w.heap.size, 0, none⟩ = some (.int .i64 k) := blk_cell h1 0
  have c4 : W.cell? ⟨w.heap.size, 4, none⟩ = some (.string s) := blk_cell h1 4
  have z0 : W.cell? ⟨w.heap.size + 1, 0, none⟩ = some (.int .i64 0) := blk_cell h2 0
  have z1 : W.cell? ⟨w.heap.size + 1, 1, none⟩ = some (.int .i64 0) := blk_cell h2 1
  have z2 : W.cell? ⟨w.heap.size + 1, 2, none⟩ = some (.int .i64 0) := blk_cell h2 2
  have z3 : W.cell? ⟨w.heap.size + 1, 3, none⟩ = some (.string ⟨#[]⟩) := blk_cell h2 3
  have y0 : W.cell? ⟨w.heap.size + 1 + 1, 0, none⟩ = some (.int .i64 k) := blk_cell h3 0
  have y1 : W.cell? ⟨w.heap.size + 1 + 1, 1, none⟩ = some (.int .i64 n) := blk_cell h3 1
  have y2 : W.cell? ⟨w.heap.size + 1 + 1, 2, none⟩ = some (.int .i64 c) := blk_cell h3 2
  have y3 : W.cell? ⟨w.heap.size + 1 + 1, 3, none⟩ = some (.string ⟨#[]⟩) := blk_cell h3 3
  have f0 := blk_free h2 0
  have f1 := blk_free h2 1
  have f2 := blk_free h2 2
  have f3 := blk_free h2 3
  have g1 := blk_free h3 1
  have g3 := blk_free h3 3
  have lw := lt_of_block h3
  have l2 := lt_of_block h2
  have H2 := Lib.hid h2
  have H4 := Lib.hid h4
  clear h1 h2 h3 h4
  have hres : ∀ (n' : Int) (s' : ByteArray), (if k = 5 then 0 else n) = n' → (if k = 4 then s else ⟨#[]⟩) = s' → headOf (.mk k n o a s kids) = ⟨k, n', c, s'⟩ := by
    intro n' s' h1 h2
    rw [HC.out]
    subst h1 h2
    rfl
  have HRES := Lib.hid hres
  clear hres
  by_cases hk4 : k = 4
  · subst hk4
    go_wp2_with fail
    have hblk : HB (set4 (W.setCell ⟨w.heap.size + 1 + 1, 3, none⟩ (.string s)) (w.heap.size + 1) ⟨4, n, c, s⟩) (w.heap.size + 1) ⟨4, n, c, s⟩ := HB.set (h := hd0) (blk_set_ne H2.out (by omega) _ _)
    refine bodyPost_ret (v := .agg (hdRow ⟨4, n, c, s⟩)) ?_ rfl ?_
    · exact res_hd (fn := Try.f23) (t := 2) Try.results23 rfl hblk
    · exact ⟨by rw [HRES.out n s (by simp [*]) (by simp [*])], below_set4 (h := ⟨4, n, c, s⟩) (H4.out.setCell (p := ⟨w.heap.size + 1 + 1, 3, none⟩) (by simp; omega) _) (by omega)⟩
  by_cases hk5 : k = 5
  · subst hk5
    go_wp2_with fail
    have hblk : HB (set4 (W.setCell ⟨w.heap.size + 1 + 1, 1, none⟩ (.int .i64 0)) (w.heap.size + 1) ⟨5, 0, c, ⟨#[]⟩⟩) (w.heap.size + 1) ⟨5, 0, c, ⟨#[]⟩⟩ := HB.set (h := hd0) (blk_set_ne H2.out (by omega) _ _)
    refine bodyPost_ret (v := .agg (hdRow ⟨5, 0, c, ⟨#[]⟩⟩)) ?_ rfl ?_
    · exact res_hd (fn := Try.f23) (t := 2) Try.results23 rfl hblk
    · exact ⟨by rw [HRES.out 0 ⟨#[]⟩ (by simp [*]) (by simp [*])], below_set4 (h := ⟨5, 0, c, ⟨#[]⟩⟩) (H4.out.setCell (p := ⟨w.heap.size + 1 + 1, 1, none⟩) (by simp; omega) _) (by omega)⟩
  · have d4 : decide (k = 4) = false := by simp [hk4]
    have d5 : decide (k = 5) = false := by simp [hk5]
    go_wp2_with fail
    have hblk : HB (set4 (W) (w.heap.size + 1) ⟨k, n, c, ⟨#[]⟩⟩) (w.heap.size + 1) ⟨k, n, c, ⟨#[]⟩⟩ := HB.set (h := hd0) (H2.out)
    refine bodyPost_ret (v := .agg (hdRow ⟨k, n, c, ⟨#[]⟩⟩)) ?_ rfl ?_
    · exact res_hd (fn := Try.f23) (t := 2) Try.results23 rfl hblk
    · exact ⟨by rw [HRES.out n ⟨#[]⟩ (by simp [*]) (by simp [*])], below_set4 (h := ⟨k, n, c, ⟨#[]⟩⟩) (H4.out) (by omega)⟩
end Go.Proofs.Ytcieoelogocjkaa
