/-
  Proved: the contract of the reference's bare. Condition: a pattern that may be.
-/
import Derived.Test.YtcieoelogocjkaaB1
import Derived.Deep.DeepCutAuto
import Derived.Deep.CutBlock
set_option linter.unusedSimpArgs false
set_option linter.unusedVariables false
namespace Go.Proofs.Ytcieoelogocjkaa
open Go.RowKit

set_option maxRecDepth 100000 in
set_option maxHeartbeats 4000000 in
theorem rbare_f : ∀ (f : Nat) (D : Nat → Prop) (p : Pt), parts p ≤ f → ∀ (ao : Option Addr) (cap : Nat) (w : World), (∀ b, D b → b < w.heap.size) → Proper p → SlD w D p.kids ao cap →
    Calls Try.prog 26 #[.agg (rowOf p ao cap)] w fun e w' => ∃ ao' cap', e = .returned (.agg (rowOf (bare p) ao' cap')) ∧ SlD w D (bare p).kids ao' cap' ∧ Below w.heap.size w w' := by
  intro f D
  induction f with
  | zero => intro p hp; cases p; rw [parts] at hp; omega
  | succ f IH =>
    intro p hp ao cap w hD hpr hv
    obtain ⟨k, n, o, a, s, kids⟩ := p
    obtain ⟨c, hc⟩ : ∃ c, c = kids.length := ⟨_, rfl⟩
    simp only [Pt.kids] at hv
    have HC := Lib.hid hc
    have HP := Lib.hid hp
    have HPR := Lib.hid hpr
    have HIH := Lib.hid IH
    have HD := Lib.hid hD
    have HV := Lib.hid hv
    rw [show rowOf (.mk k n o a s kids) ao cap = #[.int .i64 k, .int .i64 n, .int .i64 o, .int .i64 a, .string s, .slice ao c cap] from by rw [hc]; rfl]
    obtain ⟨W, hW⟩ : ∃ W, W = (w.alloc (.cells #[.int .i64 k, .int .i64 n, .int .i64 o, .int .i64 a, .string s, .slice ao c cap] 26)).alloc (.cells #[.int .i64 0, .int .i64 0, .int .i64 0, .int .i64 0, .string ⟨#[]⟩, .slice none 0 0] 26) := ⟨_, rfl⟩
    have e1 := heap_alloc_new w (.cells #[.int .i64 k, .int .i64 n, .int .i64 o, .int .i64 a, .string s, .slice ao c cap] 26)
    have e2 := heap_alloc_new (w.alloc (.cells #[.int .i64 k, .int .i64 n, .int .i64 o, .int .i64 a, .string s, .slice ao c cap] 26)) (.cells #[.int .i64 0, .int .i64 0, .int .i64 0, .int .i64 0, .string ⟨#[]⟩, .slice none 0 0] 26)
    rw [World.size_alloc] at e2
    have h1 : W.heap[w.heap.size]? = some (.cells #[.int .i64 k, .int .i64 n, .int .i64 o, .int .i64 a, .string s, .slice ao c cap] 26 (0, 0)) := by rw [hW]; exact blk_alloc e1 _
    have h2 : PB W (w.heap.size + 1) anyP none 0 := by rw [hW]; exact e2
    have h3 : Below w.heap.size w W := by rw [hW]; exact balloc (balloc (Below.refl _ _) _) _
    have c0 : W.cell? ⟨w.heap.size, 0, none⟩ = some (.int .i64 k) := blk_cell h1 0
    have c1 : W.cell? ⟨w.heap.size, 1, none⟩ = some (.int .i64 n) := blk_cell h1 1
    have c2 : W.cell? ⟨w.heap.size, 2, none⟩ = some (.int .i64 o) := blk_cell h1 2
    have c3 : W.cell? ⟨w.heap.size, 3, none⟩ = some (.int .i64 a) := blk_cell h1 3
    have c4 : W.cell? ⟨w.heap.size, 4, none⟩ = some (.string s) := blk_cell h1 4
    have c5 : W.cell? ⟨w.heap.size, 5, none⟩ = some (.slice ao c cap) := blk_cell h1 5
    have HW := Lib.hid hW
    have H2 := Lib.hid h2
    have H3 := Lib.hid h3
    clear IH hD hv hpr hc hp hW h1 h2 h3 e1 e2
    go_enter Try.func26, Try.ntmps26
    go_upto_region 1 with fail
    rw [← HW.out]
    by_cases hk2 : k = 2
    · subst hk2
      obtain ⟨q, hq, hpq⟩ := proper_as HPR.out rfl
      simp only [Pt.kids] at hq
      subst hq
      obtain ⟨b, off, row, ha, hb, hrow, hpv⟩ := HV.out.2.get (k := 0) (by simp)
      have hb : b < w.heap.size := HD.out b hb
      obtain ⟨aq, cq, rfl, hkq⟩ := hpv.row
      have hc1 : c = 1 := HC.out
      subst hc1
      have hix : ∀ w' : World, (Instr.indexAt 23 (.slice ao 1 cap) (.int .i64 0)).run Try.prog w' = .ok (.pointer (some ⟨b, off + 0 * 6, none⟩)) w' := fun w' => index_at Try.underlying23 size26 ha 1 cap 0 (by omega) w'
      rw [show off + 0 * 6 = off from by omega] at hix
      have x0 : W.cell? ⟨b, off, none⟩ = some (.int .i64 q.k) := (H3.out.cell (p := ⟨b, _, none⟩) hb).trans (hrow 0 (by omega))
      have x1 : W.cell? ⟨b, off + 1, none⟩ = some (.int .i64 q.n) := (H3.out.cell (p := ⟨b, _, none⟩) hb).trans (hrow 1 (by omega))
      have x2 : W.cell? ⟨b, off + 2, none⟩ = some (.int .i64 q.o) := (H3.out.cell (p := ⟨b, _, none⟩) hb).trans (hrow 2 (by omega))
      have x3 : W.cell? ⟨b, off + 3, none⟩ = some (.int .i64 q.a) := (H3.out.cell (p := ⟨b, _, none⟩) hb).trans (hrow 3 (by omega))
      have x4 : W.cell? ⟨b, off + 4, none⟩ = some (.string q.s) := (H3.out.cell (p := ⟨b, _, none⟩) hb).trans (hrow 4 (by omega))
      have x5 : W.cell? ⟨b, off + 5, none⟩ = some (.slice aq q.kids.length cq) := (H3.out.cell (p := ⟨b, _, none⟩) hb).trans (hrow 5 (by omega))
      have HKQ : Hid (SlD w D q.kids aq cq) := Lib.hid hkq
      have HPQ := Lib.hid hpq
      clear ha hrow hpv hkq hpq
      go_wp2_with fail
      refine (HIH.out q (by have h1 := HP.out; have h2 := parts_kid (p := .mk 2 n o a s [q]) rfl; omega) aq cq W (fun d hd => Nat.lt_of_lt_of_le (HD.out d hd) H3.out.size) HPQ.out (HKQ.out.keep fun d hd off => below_cells H3.out d (HD.out d hd) off)).mono ?_
      rintro e w2 ⟨a2, k2, rfl, hs2, hb2⟩
      obtain ⟨r, hr⟩ : ∃ r, r = bare q := ⟨_, rfl⟩
      rw [← hr] at hs2 ⊢
      have hz : PB w2 (w.heap.size + 1) anyP none 0 := blk_below H2.out hb2 (lt_of_block H2.out)
      have z0 : w2.cell? ⟨w.heap.size + 1, 0, none⟩ = some (.int .i64 0) := blk_cell hz 0
      have z1 : w2.cell? ⟨w.heap.size + 1, 1, none⟩ = some (.int .i64 0) := blk_cell hz 1
      have z2 : w2.cell? ⟨w.heap.size + 1, 2, none⟩ = some (.int .i64 0) := blk_cell hz 2
      have z3 : w2.cell? ⟨w.heap.size + 1, 3, none⟩ = some (.int .i64 0) := blk_cell hz 3
      have z4 : w2.cell? ⟨w.heap.size + 1, 4, none⟩ = some (.string ⟨#[]⟩) := blk_cell hz 4
      have z5 : w2.cell? ⟨w.heap.size + 1, 5, none⟩ = some (.slice none 0 0) := blk_cell hz 5
      have g0 := blk_free hz 0
      have g1 := blk_free hz 1
      have g2 := blk_free hz 2
      have g3 := blk_free hz 3
      have g4 := blk_free hz 4
      have g5 := blk_free hz 5
      have lz := lt_of_block hz
      have HZ := Lib.hid hz
      have HS2 := Lib.hid hs2
      have HB2 := Lib.hid (H3.out.trans (hb2.mono H3.out.size))
      have HR := Lib.hid hr
      clear hz hs2 hb2 hr x0 x1 x2 x3 x4 x5 c0 c1 c2 c3 c4 c5
      unfold rowOf
      go_wp2_with fail
      have hblk : PB (set6 w2 (w.heap.size + 1) r a2 k2) (w.heap.size + 1) r a2 k2 := HZ.out.set
      refine bodyPost_ret (v := .agg (rowOf r a2 k2)) ?_ rfl ?_
      · exact res_pat (fn := Try.f26) (t := 2) Try.results26 rfl hblk
      · rw [bare_as (p := .mk 2 n o a s [q]) rfl, show bareL (Pt.mk 2 n o a s [q]).kids = bare q from rfl, ← HR.out]
        refine ⟨a2, k2, rfl, HS2.out.keep fun d hd off => (below_cells H3.out d (HD.out d hd) off).symm, below_set6 (q := r) (aq := a2) (cq := k2) HB2.out (by omega)⟩
    · have z0 : W.cell? ⟨w.heap.size + 1, 0, none⟩ = some (.int .i64 0) := blk_cell H2.out 0
      have z1 : W.cell? ⟨w.heap.size + 1, 1, none⟩ = some (.int .i64 0) := blk_cell H2.out 1
      have z2 : W.cell? ⟨w.heap.size + 1, 2, none⟩ = some (.int .i64 0) := blk_cell H2.out 2
      have z3 : W.cell? ⟨w.heap.size + 1, 3, none⟩ = some (.int .i64 0) := blk_cell H2.out 3
      have z4 : W.cell? ⟨w.heap.size + 1, 4, none⟩ = some (.string ⟨#[]⟩) := blk_cell H2.out 4
      have z5 : W.cell? ⟨w.heap.size + 1, 5, none⟩ = some (.slice none 0 0) := blk_cell H2.out 5
      have g0 := blk_free H2.out 0
      have g1 := blk_free H2.out 1
      have g2 := blk_free H2.out 2
      have g3 := blk_free H2.out 3
      have g4 := blk_free H2.out 4
      have g5 := blk_free H2.out 5
      have lz := lt_of_block H2.out
      have hb2 : (k == 2) = false := by simp [hk2]
      by_cases hk1 : k = 1
      · subst hk1
        clear hk2 hb2
        go_wp2_with fail
        have hblk : PB (set6 W (w.heap.size + 1) anyP none 0) (w.heap.size + 1) anyP none 0 := H2.out.set
        refine bodyPost_ret (v := .agg (rowOf anyP none 0)) ?_ rfl ?_
        · exact res_pat (fn := Try.f26) (t := 2) Try.results26 rfl hblk
        · rw [bare_var (p := .mk 1 n o a s kids) rfl]
          exact ⟨none, 0, rfl, ⟨Nat.le_refl _, by unfold KidsV anyP Pt.kids; trivial⟩, below_set6 (q := anyP) (aq := none) (cq := 0) H3.out (by omega)⟩
      · have hb1 : (k == 1) = false := by simp [hk1]
        have HK1 := Lib.hid hk1
        have HK2 := Lib.hid hk2
        clear hk1 hk2
        go_wp2_with fail
        have hrw : (.slice ao c cap : Value) = .slice ao kids.length cap := by rw [HC.out]
        have hblk : PB (set6 W (w.heap.size + 1) (.mk k n o a s kids) ao cap) (w.heap.size + 1) (.mk k n o a s kids) ao cap := H2.out.set
        rw [hrw]
        refine bodyPost_ret (v := .agg (rowOf (.mk k n o a s kids) ao cap)) ?_ rfl ?_
        · exact res_pat (fn := Try.f26) (t := 2) Try.results26 rfl hblk
        · rw [bare_self (p := .mk k n o a s kids) HK2.out HK1.out]
          exact ⟨ao, cap, rfl, HV.out, below_set6 (q := .mk k n o a s kids) (aq := ao) (cq := cap) H3.out (by omega)⟩
theorem rbare_any (D : Nat → Prop) (p : Pt) (ao : Option Addr) (cap : Nat) (w : World) (hD : ∀ b, D b → b < w.heap.size) (hp : Proper p) (hv : SlD w D p.kids ao cap) :
    Calls Try.prog 26 #[.agg (rowOf p ao cap)] w fun e w' => ∃ ao' cap', e = .returned (.agg (rowOf (bare p) ao' cap')) ∧ SlD w D (bare p).kids ao' cap' ∧ Below w.heap.size w w' :=
  rbare_f (parts p) D p (Nat.le_refl _) ao cap w hD hp hv
end Go.Proofs.Ytcieoelogocjkaa
