/-
  Proved: the contract of the program's bare. Condition: a pattern that may be.
-/
import Derived.Test.YtcieoelogocjkaaV
import Derived.Deep.LoopGhost
set_option linter.unusedSimpArgs false
set_option linter.unusedVariables false
namespace Go.Proofs.Ytcieoelogocjkaa
open Go.RowKit

/-- the place of an element, where the slice's address is known by an equation that the walk does not see -/
theorem index_at {P : Program} {t e : TypeId} {sz : Nat} (ht : P.underlying t = some (.slice e)) (hs : ∀ w : World, (sizeOf e).run P w = .ok sz w) {ao : Option Addr} {b off : Nat} (ha : ao = some ⟨b, off, none⟩) (n cp k : Nat) (hk : k < n) (w : World) :
    (Instr.indexAt t (.slice ao n cp) (.int .i64 k)).run P w = .ok (.pointer (some ⟨b, off + k * sz, none⟩)) w := by
  subst ha
  have he : P.elem t = e := by simp [Program.elem, ht]
  rw [run_indexAt_slice (h := by rw [he]; exact ht), if_pos (by omega), he, hs]
  simp [Result.andThen, Addr.add_lit]
theorem size26 (w : World) : (sizeOf 26).run Try.prog w = .ok 6 w := by kernel_rfl
/-- a row of a pattern as the cells of a variable -/
def rowOf (p : Pt) (ao : Option Addr) (cap : Nat) : Array Value := #[.int .i64 p.k, .int .i64 p.n, .int .i64 p.o, .int .i64 p.a, .string p.s, .slice ao p.kids.length cap]
theorem PatV.row {w : World} {D : Nat → Prop} {p : Pt} {row : List Value} (h : PatV w D p row) : ∃ ao cap, row = (rowOf p ao cap).toList ∧ SlD w D p.kids ao cap := by
  cases p
  unfold PatV at h
  obtain ⟨ao, cap, hr, hc, hk⟩ := h
  exact ⟨ao, cap, hr, hc, hk⟩
theorem PatV.mk' {w : World} {D : Nat → Prop} {p : Pt} {ao : Option Addr} {cap : Nat} (h : SlD w D p.kids ao cap) : PatV w D p (rowOf p ao cap).toList := by
  cases p
  unfold PatV
  exact ⟨ao, cap, rfl, h.1, h.2⟩
theorem bare_as {p : Pt} (hk : p.k = 2) : bare p = bareL p.kids := by
  cases p with
  | mk k n o a s kids => simp only [Pt.k] at hk; subst hk; rw [bare, if_pos rfl]; rfl
theorem bare_var {p : Pt} (hk : p.k = 1) : bare p = anyP := by
  cases p with
  | mk k n o a s kids => simp only [Pt.k] at hk; subst hk; rw [bare, if_neg (by decide), if_pos rfl]
theorem bare_self {p : Pt} (h2 : p.k ≠ 2) (h1 : p.k ≠ 1) : bare p = p := by
  cases p with
  | mk k n o a s kids => simp only [Pt.k] at h1 h2; rw [bare, if_neg h2, if_neg h1]
theorem proper_as {p : Pt} (h : Proper p) (hk : p.k = 2) : ∃ q, p.kids = [q] ∧ Proper q := by
  cases p with
  | mk k n o a s kids =>
    simp only [Pt.k] at hk
    subst hk
    unfold Proper at h
    obtain ⟨h1, h2⟩ := h
    have h3 : kids.length = 1 := of_decide_eq_true (show decide (kids.length = 1) = true from h1)
    match kids, h3, h2 with
    | [q], _, h2 => unfold ProperL at h2; exact ⟨q, rfl, h2.1⟩

theorem parts_kid {p q : Pt} (h : p.kids = [q]) : parts q < parts p := by
  cases p with
  | mk k n o a s kids =>
    simp only [Pt.kids] at h
    subst h
    simp [parts, partsL]
abbrev PB (W : World) (b : Nat) (p : Pt) (ao : Option Addr) (cap : Nat) : Prop := W.heap[b]? = some (.cells (rowOf p ao cap) 26 (0, 0))

/-- a pattern laid into a variable of six cells -/
abbrev set6 (W : World) (b : Nat) (p : Pt) (ao : Option Addr) (cap : Nat) : World :=
  (((((W.setCell ⟨b, 0, none⟩ (.int .i64 p.k)).setCell ⟨b, 1, none⟩ (.int .i64 p.n)).setCell ⟨b, 2, none⟩ (.int .i64 p.o)).setCell ⟨b, 3, none⟩ (.int .i64 p.a)).setCell ⟨b, 4, none⟩ (.string p.s)).setCell ⟨b, 5, none⟩ (.slice ao p.kids.length cap)
theorem PB.set {W : World} {b : Nat} {p q : Pt} {ao aq : Option Addr} {cap cq : Nat} (h : PB W b p ao cap) : PB (set6 W b q aq cq) b q aq cq :=
  blk_set (blk_set (blk_set (blk_set (blk_set (blk_set h 0 _) 1 _) 2 _) 3 _) 4 _) 5 _
theorem PB.set_ne {W : World} {b c : Nat} {p q : Pt} {ao aq : Option Addr} {cap cq : Nat} (h : PB W c p ao cap) (hne : c ≠ b) : PB (set6 W b q aq cq) c p ao cap :=
  blk_set_ne (blk_set_ne (blk_set_ne (blk_set_ne (blk_set_ne (blk_set_ne h hne _ _) hne _ _) hne _ _) hne _ _) hne _ _) hne _ _
theorem below_set6 {N : Nat} {w W : World} {b : Nat} {q : Pt} {aq : Option Addr} {cq : Nat} (h : Below N w W) (hb : N ≤ b) : Below N w (set6 W b q aq cq) :=
  (((((h.setCell (p := ⟨b, 0, none⟩) hb _).setCell (p := ⟨b, 1, none⟩) hb _).setCell (p := ⟨b, 2, none⟩) hb _).setCell (p := ⟨b, 3, none⟩) hb _).setCell (p := ⟨b, 4, none⟩) hb _).setCell (p := ⟨b, 5, none⟩) hb _
theorem res_pat {fn : Func} {t : Tmp} (h : fn.results = #[.cell t 26]) {tmps : Array Value} {w : World} {b : Nat} {p : Pt} {ao : Option Addr} {cap : Nat} (ht : tmps.getD t undef = .pointer (some ⟨b, 0, none⟩)) (hb : PB w b p ao cap) :
    (results fn tmps).run Try.prog w = .ok (.agg (rowOf p ao cap)) w :=
  results_cell_row (h := h) _ _ b 26 _ (0, 0) _ ht hb Try.underlying26 rfl (by kernel_rfl)

set_option maxRecDepth 100000 in
set_option maxHeartbeats 4000000 in
theorem pbare_any (D : Nat → Prop) (p : Pt) (ao : Option Addr) (cap : Nat) (w : World) (hD : ∀ b, D b → b < w.heap.size) (hp : Proper p) (hv : SlD w D p.kids ao cap) :
    Calls Try.prog 21 #[.agg (rowOf p ao cap)] w fun e w' => ∃ ao' cap', e = .returned (.agg (rowOf (bare p) ao' cap')) ∧ SlD w D (bare p).kids ao' cap' ∧ Below w.heap.size w w' := by
  have HP := Lib.hid hp
  have HV := Lib.hid hv
  have HD := Lib.hid hD
  clear hp hv hD
  go_enter Try.func21, Try.ntmps21
  obtain ⟨W, hW⟩ : ∃ W, W = (w.alloc (.cells (rowOf p ao cap) 26)).alloc (.cells #[.int .i64 0, .int .i64 0, .int .i64 0, .int .i64 0, .string ⟨#[]⟩, .slice none 0 0] 26) := ⟨_, rfl⟩
  have h1 : PB W w.heap.size p ao cap := by rw [hW]; exact blk_alloc (heap_alloc_new w _) _
  have h2 : PB W (w.heap.size + 1) anyP none 0 := by
    rw [hW]
    have e := heap_alloc_new (w.alloc (.cells (rowOf p ao cap) 26)) (.cells #[.int .i64 0, .int .i64 0, .int .i64 0, .int .i64 0, .string ⟨#[]⟩, .slice none 0 0] 26)
    rw [World.size_alloc] at e
    exact e
  have h3 : Below w.heap.size w W := by rw [hW]; exact balloc (balloc (Below.refl _ _) _) _
  have HW := Lib.hid hW
  have H1 := Lib.hid h1
  have H2 := Lib.hid h2
  have H3 := Lib.hid h3
  clear hW h1 h2 h3
  unfold rowOf
  go_wp2_with fail
  rw [show ((w.alloc (.cells #[.int .i64 p.k, .int .i64 p.n, .int .i64 p.o, .int .i64 p.a, .string p.s, .slice ao p.kids.length cap] 26)).alloc (.cells #[.int .i64 0, .int .i64 0, .int .i64 0, .int .i64 0, .string ⟨#[]⟩, .slice none 0 0] 26)) = W from HW.out.symm]
  go_loopg [] (parts p) (fun gk wr => ∃ (p' : Pt) (ao' : Option Addr) (cap' : Nat), parts p' ≤ gk ∧ Proper p' ∧ bare p' = bare p ∧ PB wr w.heap.size p' ao' cap' ∧ PB wr (w.heap.size + 1) anyP none 0 ∧ SlD w D p'.kids ao' cap' ∧ Below w.heap.size w wr)
  case atStart => exact ⟨p, ao, cap, Nat.le_refl _, HP.out, rfl, H1.out, H2.out, HV.out, H3.out⟩
  case round =>
    clear H1 H2 H3 HV HP HW
    obtain ⟨⟨k, n, o, a, s, kids⟩, ao', cap', hpg, hp', hb', hc, hz, hkv, hbl⟩ := hrel
    have c0 : wr.cell? ⟨w.heap.size, 0, none⟩ = some (.int .i64 k) := blk_cell hc 0
    have c1 : wr.cell? ⟨w.heap.size, 1, none⟩ = some (.int .i64 n) := blk_cell hc 1
    have c2 : wr.cell? ⟨w.heap.size, 2, none⟩ = some (.int .i64 o) := blk_cell hc 2
    have c3 : wr.cell? ⟨w.heap.size, 3, none⟩ = some (.int .i64 a) := blk_cell hc 3
    have c4 : wr.cell? ⟨w.heap.size, 4, none⟩ = some (.string s) := blk_cell hc 4
    have c5 : wr.cell? ⟨w.heap.size, 5, none⟩ = some (.slice ao' kids.length cap') := blk_cell hc 5
    have f0 := blk_free hc 0
    have f1 := blk_free hc 1
    have f2 := blk_free hc 2
    have f3 := blk_free hc 3
    have f4 := blk_free hc 4
    have f5 := blk_free hc 5
    have lw := lt_of_block hc
    have HPG := Lib.hid hpg
    have HP' := Lib.hid hp'
    have HB' := Lib.hid hb'
    have HC := Lib.hid hc
    have HZ := Lib.hid hz
    have HKV := Lib.hid hkv
    have HBL := Lib.hid hbl
    clear hpg hp' hb' hc hz hkv hbl
    by_cases hk2 : k = 2
    · subst hk2
      obtain ⟨q, hq, hpq⟩ := proper_as HP'.out rfl
      simp only [Pt.kids] at hq
      subst hq
      obtain ⟨b, off, row, ha, hb, hrow, hpv⟩ := HKV.out.2.get (k := 0) (by simp [Pt.kids])
      have hb : b < w.heap.size := HD.out b hb
      obtain ⟨aq, cq, rfl, hkq⟩ := hpv.row
      have hix : ∀ w' : World, (Instr.indexAt 23 (.slice ao' 1 cap') (.int .i64 0)).run Try.prog w' = .ok (.pointer (some ⟨b, off + 0 * 6, none⟩)) w' := fun w' => index_at Try.underlying23 size26 ha 1 cap' 0 (by omega) w'
      have x0 : wr.cell? ⟨b, off, none⟩ = some (.int .i64 q.k) := (HBL.out.cell (p := ⟨b, _, none⟩) hb).trans (hrow 0 (by omega))
      have x1 : wr.cell? ⟨b, off + 1, none⟩ = some (.int .i64 q.n) := (HBL.out.cell (p := ⟨b, _, none⟩) hb).trans (hrow 1 (by omega))
      have x2 : wr.cell? ⟨b, off + 2, none⟩ = some (.int .i64 q.o) := (HBL.out.cell (p := ⟨b, _, none⟩) hb).trans (hrow 2 (by omega))
      have x3 : wr.cell? ⟨b, off + 3, none⟩ = some (.int .i64 q.a) := (HBL.out.cell (p := ⟨b, _, none⟩) hb).trans (hrow 3 (by omega))
      have x4 : wr.cell? ⟨b, off + 4, none⟩ = some (.string q.s) := (HBL.out.cell (p := ⟨b, _, none⟩) hb).trans (hrow 4 (by omega))
      have x5 : wr.cell? ⟨b, off + 5, none⟩ = some (.slice aq q.kids.length cq) := (HBL.out.cell (p := ⟨b, _, none⟩) hb).trans (hrow 5 (by omega))
      have hbne : ¬ b = w.heap.size := by omega
      rw [show off + 0 * 6 = off from by omega] at hix
      have HKQ := Lib.hid hkq
      have HPQ := Lib.hid hpq
      clear ha hrow hpv hkq hpq
      go_wp2_with fail
      go_roundg (parts q)
      case measure => exact Nat.lt_of_lt_of_le (parts_kid rfl) HPG.out
      case rel => exact ⟨q, aq, cq, Nat.le_refl _, HPQ.out, (by rw [← HB'.out, bare_as (p := Pt.mk 2 n o a s [q]) rfl]; rfl), HC.out.set, HZ.out.set_ne (by omega), HKQ.out, below_set6 HBL.out (Nat.le_refl _)⟩
    · by_cases hk1 : k = 1
      · subst hk1
        have z0 : wr.cell? ⟨w.heap.size + 1, 0, none⟩ = some (.int .i64 0) := blk_cell HZ.out 0
        have z1 : wr.cell? ⟨w.heap.size + 1, 1, none⟩ = some (.int .i64 0) := blk_cell HZ.out 1
        have z2 : wr.cell? ⟨w.heap.size + 1, 2, none⟩ = some (.int .i64 0) := blk_cell HZ.out 2
        have z3 : wr.cell? ⟨w.heap.size + 1, 3, none⟩ = some (.int .i64 0) := blk_cell HZ.out 3
        have z4 : wr.cell? ⟨w.heap.size + 1, 4, none⟩ = some (.string ⟨#[]⟩) := blk_cell HZ.out 4
        have z5 : wr.cell? ⟨w.heap.size + 1, 5, none⟩ = some (.slice none 0 0) := blk_cell HZ.out 5
        have g0 := blk_free HZ.out 0
        have g1 := blk_free HZ.out 1
        have g2 := blk_free HZ.out 2
        have g3 := blk_free HZ.out 3
        have g4 := blk_free HZ.out 4
        have g5 := blk_free HZ.out 5
        have lz := lt_of_block HZ.out
        go_wp2_with fail
        have hblk : PB (set6 wr (w.heap.size + 1) anyP none 0) (w.heap.size + 1) anyP none 0 := HZ.out.set
        refine bodyPost_ret (v := .agg (rowOf anyP none 0)) ?_ rfl ?_
        · exact res_pat (fn := Try.f21) (t := 2) Try.results21 rfl hblk
        refine ⟨none, 0, ?_, ?_, below_set6 (q := anyP) (aq := none) (cq := 0) HBL.out (by omega)⟩
        · rw [← HB'.out, bare_var (p := Pt.mk 1 n o a s kids) rfl]; rfl
        · rw [← HB'.out, bare_var (p := Pt.mk 1 n o a s kids) rfl]; exact ⟨Nat.le_refl _, by unfold KidsV anyP Pt.kids; trivial⟩
      · have z0 : wr.cell? ⟨w.heap.size + 1, 0, none⟩ = some (.int .i64 0) := blk_cell HZ.out 0
        have z1 : wr.cell? ⟨w.heap.size + 1, 1, none⟩ = some (.int .i64 0) := blk_cell HZ.out 1
        have z2 : wr.cell? ⟨w.heap.size + 1, 2, none⟩ = some (.int .i64 0) := blk_cell HZ.out 2
        have z3 : wr.cell? ⟨w.heap.size + 1, 3, none⟩ = some (.int .i64 0) := blk_cell HZ.out 3
        have z4 : wr.cell? ⟨w.heap.size + 1, 4, none⟩ = some (.string ⟨#[]⟩) := blk_cell HZ.out 4
        have z5 : wr.cell? ⟨w.heap.size + 1, 5, none⟩ = some (.slice none 0 0) := blk_cell HZ.out 5
        have g0 := blk_free HZ.out 0
        have g1 := blk_free HZ.out 1
        have g2 := blk_free HZ.out 2
        have g3 := blk_free HZ.out 3
        have g4 := blk_free HZ.out 4
        have g5 := blk_free HZ.out 5
        have lz := lt_of_block HZ.out
        have h2 : decide (k = 2) = false := by simp [hk2]
        have h1 : decide (k = 1) = false := by simp [hk1]
        go_wp2_with fail
        have hblk : PB (set6 wr (w.heap.size + 1) (.mk k n o a s kids) ao' cap') (w.heap.size + 1) (.mk k n o a s kids) ao' cap' := HZ.out.set
        refine bodyPost_ret (v := .agg (rowOf (.mk k n o a s kids) ao' cap')) ?_ rfl ?_
        · exact res_pat (fn := Try.f21) (t := 2) Try.results21 rfl hblk
        refine ⟨ao', cap', ?_, ?_, below_set6 (q := .mk k n o a s kids) (aq := ao') (cq := cap') HBL.out (by omega)⟩
        · rw [← HB'.out, bare_self (p := Pt.mk k n o a s kids) hk2 hk1]; rfl
        · rw [← HB'.out, bare_self (p := Pt.mk k n o a s kids) hk2 hk1]; exact HKV.out
end Go.Proofs.Ytcieoelogocjkaa
