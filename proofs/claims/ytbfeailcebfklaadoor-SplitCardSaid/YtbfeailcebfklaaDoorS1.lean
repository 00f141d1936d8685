/-
  Proved: how tokens read in memory; the contract of same at two slices of the same tokens. No condition.
-/
import Derived.Test.YtbfeailcebfklaaDoorM1
set_option linter.unusedSimpArgs false
set_option linter.unusedVariables false
namespace Go.Proofs.YtbfeailcebfklaaDoor
open Go.RowKit

/-- the slice at 'ao' holds these rows, in blocks below N -/
def RowsAt (w : World) (N : Nat) (ao : Option Addr) (sz : Nat) (rows : List (List Value)) : Prop :=
  ∀ i, i < rows.length → ∃ b off, ao = some ⟨b, off, none⟩ ∧ b < N ∧ ∀ j, j < sz → w.cell? ⟨b, off + i * sz + j, none⟩ = (rows.getD i [])[j]?
theorem RowsAt.below {w w' : World} {N : Nat} {ao : Option Addr} {sz : Nat} {rows : List (List Value)} (h : RowsAt w N ao sz rows) (hb : Below N w w') : RowsAt w' N ao sz rows := by
  intro i hi
  obtain ⟨b, off, e, hlt, hc⟩ := h i hi
  exact ⟨b, off, e, hlt, fun j hj => (hb.cell (p := ⟨b, _, none⟩) hlt).trans (hc j hj)⟩
theorem RowsAt.mono {w : World} {N N' : Nat} {ao : Option Addr} {sz : Nat} {rows : List (List Value)} (h : RowsAt w N ao sz rows) (hN : N ≤ N') : RowsAt w N' ao sz rows := by
  intro i hi
  obtain ⟨b, off, e, hlt, hc⟩ := h i hi
  exact ⟨b, off, e, by omega, hc⟩
theorem flatten_get (sz : Nat) (rows : List (List Value)) (h : ∀ r ∈ rows, r.length = sz) (i j : Nat) (hi : i < rows.length) (hj : j < sz) : rows.flatten[i * sz + j]? = (rows.getD i [])[j]? := by
  induction rows generalizing i with
  | nil => simp at hi
  | cons r rows ih =>
    have hr := h r (by simp)
    rw [List.flatten_cons]
    cases i with
    | zero =>
      rw [Nat.zero_mul, Nat.zero_add, List.getElem?_append_left (by omega)]
      rfl
    | succ i =>
      rw [Nat.succ_mul, List.getElem?_append_right (by omega), hr, show i * sz + sz + j - sz = i * sz + j from by omega]
      exact ih (fun r hr => h r (by simp [hr])) i (by simpa using hi)
theorem rows_own {W : World} {B e sz n cap : Nat} {ao : Option Addr} {xs : List Value} (h : W.ownsRow B e sz (.slice ao n cap) n xs) (rows : List (List Value)) (hn : rows.length = n) (hrow : ∀ r ∈ rows, r.length = sz) (hx : xs = rows.flatten) : RowsAt W W.heap.size ao sz rows := by
  intro i hi
  rcases h.2 with ⟨_, h0⟩ | ⟨g, cap', cur, hv, _, hgg, _, _, _, ht⟩
  · omega
  · cases hv
    refine ⟨g, 0, rfl, lt_of_block hgg, fun j hj => ?_⟩
    have hlt : i * sz + j < n * sz := by
      have : (i + 1) * sz ≤ n * sz := Nat.mul_le_mul_right _ (by omega)
      rw [Nat.succ_mul] at this
      omega
    rw [blk_cell hgg, Nat.zero_add, ← flatten_get sz rows hrow i j hi hj, ← hx, ← ht, List.getElem?_take, if_pos hlt, Array.getElem?_toList]
theorem toks_own {W : World} {B : Nat} {a : Option Addr} {cap : Nat} {l : List Tok} (h : W.ownsRow B 30 4 (.slice a l.length cap) l.length (l.flatMap tokRow)) : RowsAt W W.heap.size a 4 (l.map tokRow) :=
  rows_own h _ (by simp) (by intro r hr; obtain ⟨t, _, rfl⟩ := List.mem_map.1 hr; rfl) rfl
/-- the place of an element, where the slice's address is known by an equation that the walk does not see -/
theorem index_at {P : Program} {t e : TypeId} {sz : Nat} (ht : P.underlying t = some (.slice e)) (hs : ∀ w : World, (sizeOf e).run P w = .ok sz w) {ao : Option Addr} {b off : Nat} (ha : ao = some ⟨b, off, none⟩) (n cp k : Nat) (hk : k < n) (w : World) :
    (Instr.indexAt t (.slice ao n cp) (.int .i64 k)).run P w = .ok (.pointer (some ⟨b, off + k * sz, none⟩)) w := by
  subst ha
  have he : P.elem t = e := by simp [Program.elem, ht]
  rw [run_indexAt_slice (h := by rw [he]; exact ht), if_pos (by omega), he, hs]
  simp [Result.andThen, Addr.add_lit]
theorem size30 (w : World) : (sizeOf 30).run Tryd.prog w = .ok 4 w := by kernel_rfl

set_option maxRecDepth 100000 in
set_option maxHeartbeats 2000000 in
theorem same_any (l : List Tok) (a b : Option Addr) (ca cb : Nat) (w : World) (ha : RowsAt w w.heap.size a 4 (l.map tokRow)) (hb : RowsAt w w.heap.size b 4 (l.map tokRow)) (hl : l.length ≤ 100000) :
    Calls Tryd.prog 11 #[.slice a l.length ca, .slice b l.length cb] w fun e w' => e = .returned (.bool true) ∧ Below w.heap.size w w' := by
  have HA := Lib.hid ha
  have HB := Lib.hid hb
  clear ha hb
  go_enter Tryd.func11, Tryd.ntmps11
  go_wp2_with fail
  go_loopw [5] (fun i wr => ∃ k : Nat, k ≤ l.length ∧ i = .int .i64 k ∧ Below w.heap.size w wr) (fun i _ => l.length - (intOf i).toNat)
  case atStart => exact ⟨0, Nat.zero_le _, rfl, Below.refl _ _⟩
  case round =>
    obtain ⟨k, hk, rfl, hbl⟩ := hrel
    have HBL := Lib.hid hbl
    clear hbl
    by_cases hlt : k < l.length
    · have hd : decide ((k : Int) < (l.length : Int)) = true := by simp; omega
      have k0 : (0 : Int) ≤ (k : Int) := by omega
      have k1 : (k : Int) < (l.length : Int) := by omega
      obtain ⟨g1, o1, e1, _, c1⟩ := (HA.out.below HBL.out) k (by simpa using hlt)
      obtain ⟨g2, o2, e2, _, c2⟩ := (HB.out.below HBL.out) k (by simpa using hlt)
      have hix1 := fun w' => index_at Tryd.underlying23 size30 e1 l.length ca k hlt w'
      have hix2 := fun w' => index_at Tryd.underlying23 size30 e2 l.length cb k hlt w'
      obtain ⟨⟨t1, t2, t3, t4⟩, ht⟩ : ∃ t : Tok, l[k] = t := ⟨_, rfl⟩
      have hrow : (l.map tokRow).getD k [] = [.int .i64 t1, .int .i64 t2, .string t3, .int .i64 t4] := by
        rw [List.getD_eq_getElem?_getD, List.getElem?_map, List.getElem?_eq_getElem hlt, ht]; rfl
      rw [hrow] at c1 c2
      have x0 := c1 0 (by omega)
      have x1 := c1 1 (by omega)
      have x2 := c1 2 (by omega)
      have x3 := c1 3 (by omega)
      have y0 := c2 0 (by omega)
      have y1 := c2 1 (by omega)
      have y2 := c2 2 (by omega)
      have y3 := c2 3 (by omega)
      simp only [List.getElem?_cons_zero, List.getElem?_cons_succ, Nat.add_zero] at x0 x1 x2 x3 y0 y1 y2 y3
      clear c1 c2 e1 e2 hrow ht
      generalize o1 + k * 4 = p1 at *
      generalize o2 + k * 4 = p2 at *
      go_wp2_with fail
      go_quiet (fail)
      go_wp2_with fail
      go_roundw
      case rel => exact ⟨k + 1, by omega, by go_num, bdrewN HBL.out _⟩
      case measure => simp [intOf]; omega
    · have hd : decide ((k : Int) < (l.length : Int)) = false := by simp; omega
      go_wp2_with fail
      go_ret
      exact ⟨rfl, HBL.out⟩

end Go.Proofs.YtbfeailcebfklaaDoor
