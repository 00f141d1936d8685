/-
  Proved: the rows of a slice of patterns, out of memory and back. No condition.
-/
import Derived.Test.YtcieoelogocjkaaA1
import Derived.Test.YtcieoelogocjkaaB2
set_option linter.unusedSimpArgs false
set_option linter.unusedVariables false
namespace Go.Proofs.Ytcieoelogocjkaa
open Go.RowKit

/-- the rows of these patterns -/
def RowsOf (w : World) (D : Nat → Prop) : List Pt → List (List Value) → Prop
  | [], [] => True
  | p :: ps, r :: rs => PatV w D p r ∧ RowsOf w D ps rs
  | _, _ => False
theorem RowsOf.len {w : World} {D : Nat → Prop} : ∀ {l : List Pt} {rs : List (List Value)}, RowsOf w D l rs → rs.length = l.length
  | [], [], _ => rfl
  | p :: ps, r :: rs, h => by simp [RowsOf.len h.2]
theorem RowsOf.append {w : World} {D : Nat → Prop} : ∀ {l l' : List Pt} {rs rs' : List (List Value)}, RowsOf w D l rs → RowsOf w D l' rs' → RowsOf w D (l ++ l') (rs ++ rs')
  | [], _, [], _, _, h' => h'
  | p :: ps, _, r :: rs, _, h, h' => ⟨h.1, h.2.append h'⟩
theorem RowsOf.keep {w w' : World} {D : Nat → Prop} (hb : ∀ b, D b → ∀ off, w'.cell? ⟨b, off, none⟩ = w.cell? ⟨b, off, none⟩) : ∀ {l : List Pt} {rs : List (List Value)}, RowsOf w D l rs → RowsOf w' D l rs
  | [], [], _ => trivial
  | p :: ps, r :: rs, h => ⟨h.1.keep hb, h.2.keep hb⟩
theorem RowsOf.mono {w : World} {D D' : Nat → Prop} (hN : ∀ b, D b → D' b) : ∀ {l : List Pt} {rs : List (List Value)}, RowsOf w D l rs → RowsOf w D' l rs
  | [], [], _ => trivial
  | p :: ps, r :: rs, h => ⟨h.1.mono hN, h.2.mono hN⟩
abbrev RowsN (w : World) (N : Nat) (l : List Pt) (rs : List (List Value)) : Prop := RowsOf w (fun b => b < N) l rs
theorem RowsN.keep {w w' : World} {N : Nat} {l : List Pt} {rs : List (List Value)} (h : RowsN w N l rs) (hb : Below N w w') : RowsN w' N l rs := RowsOf.keep (below_cells hb) h
theorem RowsN.mono {w : World} {N N' : Nat} {l : List Pt} {rs : List (List Value)} (h : RowsN w N l rs) (hN : N ≤ N') : RowsN w N' l rs := RowsOf.mono (fun b hb => Nat.lt_of_lt_of_le hb hN) h
theorem PatV.six {w : World} {D : Nat → Prop} {p : Pt} {r : List Value} (h : PatV w D p r) : r.length = 6 ∧ ∀ u ∈ r, u.oneCell' = true := by
  obtain ⟨ao, cap, rfl, _⟩ := h.row
  exact ⟨rfl, by simp [rowOf, Value.oneCell']⟩
theorem RowsOf.flat {w : World} {D : Nat → Prop} : ∀ {l : List Pt} {rs : List (List Value)}, RowsOf w D l rs → rs.flatten.length = l.length * 6 ∧ ∀ u ∈ rs.flatten, u.oneCell' = true
  | [], [], _ => ⟨rfl, by simp⟩
  | p :: ps, r :: rs, h => by
    have h1 := h.1.six
    have h2 := RowsOf.flat h.2
    refine ⟨by simp only [List.flatten_cons, List.length_append, List.length_cons, h1.1, h2.1]; omega, ?_⟩
    intro u hu
    rw [List.flatten_cons] at hu
    rcases List.mem_append.1 hu with hu | hu
    · exact h1.2 u hu
    · exact h2.2 u hu
theorem KidsV.rows {w : World} {D : Nat → Prop} : ∀ {l : List Pt} {ao : Option Addr} {i : Nat}, KidsV w D l ao i →
    ∃ rs, RowsOf w D l rs ∧ (0 < l.length → ∃ b off, ao = some ⟨b, off, none⟩ ∧ D b ∧ ∀ j u, rs.flatten[j]? = some u → w.cell? ⟨b, off + i * 6 + j, none⟩ = some u)
  | [], _, _, _ => ⟨[], trivial, fun h => by simp at h⟩
  | p :: ps, ao, i, h => by
    unfold KidsV at h
    obtain ⟨⟨b, off, row, ha, hb, hc, hp⟩, ht⟩ := h
    obtain ⟨rs, hr, hcell⟩ := KidsV.rows ht
    refine ⟨row :: rs, ⟨hp, hr⟩, fun _ => ⟨b, off, ha, hb, fun j u hu => ?_⟩⟩
    have h6 := hp.six.1
    rw [List.flatten_cons] at hu
    by_cases hj : j < 6
    · rw [List.getElem?_append_left (by omega)] at hu
      rw [hc j hj, hu]
    · rw [List.getElem?_append_right (by omega), h6] at hu
      have hps : 0 < ps.length := by
        cases ps with
        | nil =>
          have := hr.len
          cases rs with
          | nil => simp at hu
          | cons _ _ => simp at this
        | cons _ _ => simp
      obtain ⟨b', off', ha', _, hc'⟩ := hcell hps
      rw [ha] at ha'
      cases ha'
      have := hc' (j - 6) u hu
      rw [show off + (i + 1) * 6 + (j - 6) = off + i * 6 + j from by omega] at this
      exact this
theorem kids_of_rows {w : World} {D : Nat → Prop} {b off : Nat} (hb : D b) : ∀ {l : List Pt} {rs : List (List Value)} {i : Nat}, RowsOf w D l rs → (∀ j u, rs.flatten[j]? = some u → w.cell? ⟨b, off + i * 6 + j, none⟩ = some u) → KidsV w D l (some ⟨b, off, none⟩) i
  | [], [], _, _, _ => by unfold KidsV; trivial
  | p :: ps, r :: rs, i, h, hc => by
    have h6 := h.1.six.1
    unfold KidsV
    refine ⟨⟨b, off, r, rfl, hb, fun j hj => ?_, h.1⟩, kids_of_rows hb h.2 fun j u hu => ?_⟩
    · have hlt : j < r.length := by omega
      rw [List.getElem?_eq_getElem hlt]
      refine hc j _ ?_
      rw [List.flatten_cons, List.getElem?_append_left hlt, List.getElem?_eq_getElem hlt]
    · have := hc (j + 6) u (by rw [List.flatten_cons, List.getElem?_append_right (by omega), h6, Nat.add_sub_cancel]; exact hu)
      rw [show off + (i + 1) * 6 + j = off + i * 6 + (j + 6) from by omega]
      exact this
/-- what one owns, as a slice of patterns -/
theorem slv_own {D : Nat → Prop} {w : World} {B n cap : Nat} {ao : Option Addr} {xs : List Value} {l : List Pt} {rs : List (List Value)} (h : w.ownsRow B 26 6 (.slice ao n cap) n xs) (hD : ∀ b, B ≤ b → b < w.heap.size → D b) (hx : xs = rs.flatten) (hr : RowsOf w D l rs) (hn : l.length = n) : SlD w D l ao cap := by
  rcases h.2 with ⟨hv, h0⟩ | ⟨g, cap', cur, hv, hBg, hgg, hnc, _, _, ht⟩
  · cases hv
    have : l = [] := List.eq_nil_of_length_eq_zero (by omega)
    subst this
    exact ⟨Nat.zero_le _, by unfold KidsV; trivial⟩
  · cases hv
    refine ⟨by omega, kids_of_rows (D := D) (hD g hBg (lt_of_block hgg)) hr fun j u hu => ?_⟩
    rw [blk_cell hgg]
    rw [← hx, ← ht] at hu
    have hlt : j < n * 6 := by
      have := (List.getElem?_eq_some_iff.1 hu).1
      simp only [List.length_take] at this
      omega
    rw [List.getElem?_take, if_pos hlt, Array.getElem?_toList] at hu
    simpa using hu
/-- the rest of a slice, cut behind its first element -/
theorem SlD.tail {w : World} {D : Nat → Prop} {p : Pt} {ps : List Pt} {ao : Option Addr} {cap : Nat} (h : SlD w D (p :: ps) ao cap) : ∃ b off, ao = some ⟨b, off, none⟩ ∧ D b ∧ KidsV w D ps (some ⟨b, off + 6, none⟩) 0 := by
  obtain ⟨rs, hr, hc⟩ := h.2.rows
  obtain ⟨b, off, ha, hb, hcell⟩ := hc (by simp)
  cases rs with
  | nil => exact absurd hr (by simp [RowsOf])
  | cons r rs =>
    refine ⟨b, off, ha, hb, kids_of_rows hb hr.2 fun j u hu => ?_⟩
    have h6 := hr.1.six.1
    have := hcell (j + 6) u (by rw [List.flatten_cons, List.getElem?_append_right (by omega), h6, Nat.add_sub_cancel]; exact hu)
    rw [show off + 6 + 0 * 6 + j = off + 0 * 6 + (j + 6) from by omega]
    exact this
def anyRow : List Value := (rowOf anyP none 0).toList
theorem any_rows (w : World) (D : Nat → Prop) : ∀ (c : Nat), RowsOf w D (List.replicate c anyP) (List.replicate c anyRow)
  | 0 => trivial
  | c + 1 => ⟨PatV.mk' ⟨Nat.le_refl _, by unfold anyP Pt.kids KidsV; trivial⟩, any_rows w D c⟩
/-- 'make([]T, n, c)' -/
theorem wpList_make2 {P : Program} (w : World) {ops : Array Oper} {rest : List Oper} {o : Oper} {a : Act} {Q : Exit → Act → World → Prop}
    (hg : o.guard = none) (l c : Operand) (t : TypeId) (hop : o.op = Op.makeSlice t l c)
    (base : Nat) (e : TypeId) (i : TypeInfo) (z : Value) (size : Nat) (h1 : P.underlying t = some (.slice e)) (h2 : P.info? e = some i) (h3 : i.zero = some z) (h4 : i.size = size)
    (kl kc : IntKind) (L C : Int) (n m : Nat) (hl : a.eval l = .int kl L) (hc : a.eval c = .int kc C) (hL : L = (n : Int)) (hC : C = (m : Int)) (hnm : n ≤ m) (b2 : i.bytes * m ≤ 281474976710656) (b3 : m ≤ maxLen) (b4 : base ≤ w.heap.size)
    (hK : ∀ w', w'.ownsRow base e size (.slice (some ⟨w.heap.size, 0, none⟩) n m) n ((madeCells z.cells (m * size)).toList.take (n * size)) → w.grownBy w' none → wpList P ops Q rest (a.put o.dst (.slice (some ⟨w.heap.size, 0, none⟩) n m)) w') :
    wpList P ops Q (o :: rest) a w := by
  subst h4 hL hC
  refine wpList_plain hg fun K hK' => ?_
  have h63 : m ≤ 9223372036854775807 := by simpa [maxLen] using b3
  have hb' : (i.bytes : Int) * (m : Int) ≤ 281474976710656 := by
    have h : ((i.bytes * m : Nat) : Int) ≤ 281474976710656 := by omega
    rwa [Int.natCast_mul] at h
  have hr := run_make (P := P) w t e i z h1 h2 h3 kl kc n m (by omega) (by omega) hb' (by omega)
  simp only [Int.toNat_natCast] at hr
  unfold Oper.wp
  simp [execOp, hop, hl, hc, hr, Result.andThen]
  refine hK' _ _ (hK _ ⟨?_, .inr ⟨w.heap.size, m, madeCells z.cells (m * i.size), rfl, b4, heap_alloc_new w _, hnm, b3, size_madeCells _ _, rfl⟩⟩ (World.grownBy_alloc w _ none))
  rw [List.length_take, Array.length_toList, size_madeCells, Nat.min_eq_left]
  exact Nat.mul_le_mul_right _ hnm
theorem made_any (n m : Nat) (h : n ≤ m) : (madeCells #[.int .i64 0, .int .i64 0, .int .i64 0, .int .i64 0, .string ⟨#[]⟩, .slice none 0 0] (m * 6)).toList.take (n * 6) = (List.replicate n anyRow).flatten := by
  apply List.ext_getElem?
  intro j
  rw [List.getElem?_take]
  have hlen : (List.replicate n anyRow).flatten.length = n * 6 := by simp [anyRow, rowOf, List.length_flatten]
  by_cases hj : j < n * 6
  · rw [if_pos hj, Array.getElem?_toList]
    have hjm : j < m * 6 := Nat.lt_of_lt_of_le hj (Nat.mul_le_mul_right _ h)
    have hval : ∀ (n j : Nat), j < n * 6 → (List.replicate n anyRow).flatten[j]? = anyRow[j % 6]? := by
      intro n
      induction n with
      | zero => intro j hj; omega
      | succ n ih =>
        intro j hj
        rw [List.replicate_succ, List.flatten_cons]
        by_cases h6 : j < 6
        · rw [List.getElem?_append_left (by simpa [anyRow, rowOf] using h6), Nat.mod_eq_of_lt h6]
        · rw [List.getElem?_append_right (by simp [anyRow, rowOf]; omega), show j - anyRow.length = j - 6 from rfl, ih (j - 6) (by omega)]
          rw [show j % 6 = (j - 6) % 6 from by omega]
    rw [hval n j hj]
    simp only [madeCells, Array.getElem?_map, Array.getElem?_range, hjm, if_true]
    show some ((#[.int .i64 0, .int .i64 0, .int .i64 0, .int .i64 0, .string ⟨#[]⟩, .slice none 0 0] : Array Value)[j % 6]!) = anyRow[j % 6]?
    have h6 : j % 6 < 6 := Nat.mod_lt _ (by omega)
    generalize j % 6 = r at h6
    match r, h6 with
    | 0, _ => rfl
    | 1, _ => rfl
    | 2, _ => rfl
    | 3, _ => rfl
    | 4, _ => rfl
    | 5, _ => rfl
  · rw [if_neg hj, List.getElem?_eq_none (by omega)]
end Go.Proofs.Ytcieoelogocjkaa
