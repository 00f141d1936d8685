/-
  Proved: the contract of the law's kid. No condition.
-/
import Derived.Test.YtcieoelogocjkaaC1
set_option linter.unusedSimpArgs false
set_option linter.unusedVariables false
namespace Go.Proofs.Ytcieoelogocjkaa
open Go.RowKit

def kidD (p : Pt) (i : Nat) : Pt := p.kids.getD i anyP
set_option maxRecDepth 100000 in
set_option maxHeartbeats 4000000 in
theorem kid_any (D : Nat → Prop) (p : Pt) (i : Nat) (ao : Option Addr) (cap : Nat) (w : World) (hD : ∀ b, D b → b < w.heap.size) (hv : SlD w D p.kids ao cap) (hi : i ≤ 100) (hl : p.kids.length ≤ 1048576) :
    Calls Try.prog 15 #[.agg (rowOf p ao cap), .int .i64 i] w fun e w' => ∃ a c, e = .returned (.agg (rowOf (kidD p i) a c)) ∧ SlD w D (kidD p i).kids a c ∧ Below w.heap.size w w' := by
  obtain ⟨k, n, o, a, s, kids⟩ := p
  obtain ⟨c, hc⟩ : ∃ c, c = kids.length := ⟨_, rfl⟩
  simp only [Pt.kids] at hv hl
  rw [← hc] at hl
  have HC := Lib.hid hc
  have HD := Lib.hid hD
  have HV := Lib.hid hv
  rw [show rowOf (.mk k n o a s kids) ao cap = #[.int .i64 k, .int .i64 n, .int .i64 o, .int .i64 a, .string s, .slice ao c cap] from by rw [hc]; rfl]
  obtain ⟨r, hr⟩ : ∃ r, r = kidD (.mk k n o a s kids) i := ⟨_, rfl⟩
  rw [← hr]
  have HR := Lib.hid hr
  obtain ⟨W, hW⟩ : ∃ W, W = (w.alloc (.cells #[.int .i64 k, .int .i64 n, .int .i64 o, .int .i64 a, .string s, .slice ao c cap] 26)).alloc (.cells #[.int .i64 0, .int .i64 0, .int .i64 0, .int .i64 0, .string ⟨#[]⟩, .slice none 0 0] 26) := ⟨_, rfl⟩
  have e1 := heap_alloc_new w (.cells #[.int .i64 k, .int .i64 n, .int .i64 o, .int .i64 a, .string s, .slice ao c cap] 26)
  have e2 := heap_alloc_new (w.alloc (.cells #[.int .i64 k, .int .i64 n, .int .i64 o, .int .i64 a, .string s, .slice ao c cap] 26)) (.cells #[.int .i64 0, .int .i64 0, .int .i64 0, .int .i64 0, .string ⟨#[]⟩, .slice none 0 0] 26)
  rw [World.size_alloc] at e2
  have h1 : W.heap[w.heap.size]? = some (.cells #[.int .i64 k, .int .i64 n, .int .i64 o, .int .i64 a, .string s, .slice ao c cap] 26 (0, 0)) := by rw [hW]; exact blk_alloc e1 _
  have h2 : PB W (w.heap.size + 1) anyP none 0 := by rw [hW]; exact e2
  have h3 : Below w.heap.size w W := by rw [hW]; exact balloc (balloc (Below.refl _ _) _) _
  have c5 : W.cell? ⟨w.heap.size, 5, none⟩ = some (.slice ao c cap) := blk_cell h1 5
  have z0 : W.cell? ⟨w.heap.size + 1, 0, none⟩ = some (.int .i64 0) := blk_cell h2 0
  have z1 : W.cell? ⟨w.heap.size + 1, 1, none⟩ = some (.int .i64 0) := blk_cell h2 1
  have z2 : W.cell? ⟨w.heap.size + 1, 2, none⟩ = some (.int .i64 0) := blk_cell h2 2
  have z3 : W.cell? ⟨w.heap.size + 1, 3, none⟩ = some (.int .i64 0) := blk_cell h2 3
  have z4 : W.cell? ⟨w.heap.size + 1, 4, none⟩ = some (.string ⟨#[]⟩) := blk_cell h2 4
  have z5 : W.cell? ⟨w.heap.size + 1, 5, none⟩ = some (.slice none 0 0) := blk_cell h2 5
  have g0 := blk_free h2 0
  have g1 := blk_free h2 1
  have g2 := blk_free h2 2
  have g3 := blk_free h2 3
  have g4 := blk_free h2 4
  have g5 := blk_free h2 5
  have lz := lt_of_block h2
  have HW := Lib.hid hW
  have H2 := Lib.hid h2
  have H3 := Lib.hid h3
  clear hD hv hc hW h1 h2 h3 e1 e2 hr
  go_enter Try.func15, Try.ntmps15
  go_upto_region 1 with fail
  rw [← HW.out]
  by_cases hlt : i < c
  · have hd : decide ((i : Int) < (c : Int)) = true := by simp; omega
    have hik : i < kids.length := by rw [← HC.out]; exact hlt
    obtain ⟨b, off, row, ha, hb, hrow, hpv⟩ := HV.out.2.get (k := i) hik
    have hb : b < w.heap.size := HD.out b hb
    obtain ⟨aq, cq, rfl, hkq⟩ := hpv.row
    have hrk : r = kids[i] := by rw [HR.out]; unfold kidD; simp only [Pt.kids]; rw [List.getD_eq_getElem?_getD, List.getElem?_eq_getElem hik]; rfl
    rw [← hrk] at hrow hkq
    rw [Nat.zero_add] at hrow
    have hix : ∀ w' : World, (Instr.indexAt 23 (.slice ao c cap) (.int .i64 i)).run Try.prog w' = .ok (.pointer (some ⟨b, off + i * 6, none⟩)) w' := fun w' => index_at Try.underlying23 size26 ha c cap i hlt w'
    obtain ⟨p0, hp0⟩ : ∃ p0, p0 = off + i * 6 := ⟨_, rfl⟩
    rw [← hp0] at hix hrow
    have x0 : W.cell? ⟨b, p0, none⟩ = some (.int .i64 r.k) := (H3.out.cell (p := ⟨b, _, none⟩) hb).trans (hrow 0 (by omega))
    have x1 : W.cell? ⟨b, p0 + 1, none⟩ = some (.int .i64 r.n) := (H3.out.cell (p := ⟨b, _, none⟩) hb).trans (hrow 1 (by omega))
    have x2 : W.cell? ⟨b, p0 + 2, none⟩ = some (.int .i64 r.o) := (H3.out.cell (p := ⟨b, _, none⟩) hb).trans (hrow 2 (by omega))
    have x3 : W.cell? ⟨b, p0 + 3, none⟩ = some (.int .i64 r.a) := (H3.out.cell (p := ⟨b, _, none⟩) hb).trans (hrow 3 (by omega))
    have x4 : W.cell? ⟨b, p0 + 4, none⟩ = some (.string r.s) := (H3.out.cell (p := ⟨b, _, none⟩) hb).trans (hrow 4 (by omega))
    have x5 : W.cell? ⟨b, p0 + 5, none⟩ = some (.slice aq r.kids.length cq) := (H3.out.cell (p := ⟨b, _, none⟩) hb).trans (hrow 5 (by omega))
    have hbne : ¬ b = w.heap.size + 1 := by omega
    have HKQ := Lib.hid hkq
    clear ha hrow hpv hkq hrk hp0 hik
    go_wp2_with fail
    have hblk : PB (set6 W (w.heap.size + 1) r aq cq) (w.heap.size + 1) r aq cq := H2.out.set
    refine bodyPost_ret (v := .agg (rowOf r aq cq)) ?_ rfl ?_
    · exact res_pat (fn := Try.f15) (t := 4) Try.results15 rfl hblk
    · exact ⟨aq, cq, rfl, HKQ.out, below_set6 (q := r) (aq := aq) (cq := cq) H3.out (by omega)⟩
  · have hd : decide ((i : Int) < (c : Int)) = false := by simp; omega
    have hrk : r = anyP := by rw [HR.out]; unfold kidD; simp only [Pt.kids]; rw [List.getD_eq_getElem?_getD, List.getElem?_eq_none (by rw [← HC.out]; omega)]; rfl
    subst hrk
    go_wp2_with fail
    have hblk : PB (set6 W (w.heap.size + 1) anyP none 0) (w.heap.size + 1) anyP none 0 := H2.out.set
    refine bodyPost_ret (v := .agg (rowOf anyP none 0)) ?_ rfl ?_
    · exact res_pat (fn := Try.f15) (t := 4) Try.results15 rfl hblk
    · exact ⟨none, 0, rfl, ⟨Nat.le_refl _, by unfold anyP Pt.kids KidsV; trivial⟩, below_set6 (q := anyP) (aq := none) (cq := 0) H3.out (by omega)⟩
end Go.Proofs.Ytcieoelogocjkaa
