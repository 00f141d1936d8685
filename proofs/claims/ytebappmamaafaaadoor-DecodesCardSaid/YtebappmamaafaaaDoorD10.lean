/-
  Proved: the walk of the law Round. Conditions: a code of weight at most 2^20, a text of at most 2^20 bytes; the tables.
-/
import Derived.Test.YtebappmamaafaaaDoorD6
import Derived.Test.YtebappmamaafaaaDoorD7
import Derived.Test.YtebappmamaafaaaDoorD9
import Derived.Deep.DeepCutAuto
import Derived.Deep.CutBlock
set_option linter.unusedSimpArgs false
set_option linter.unusedVariables false
namespace Go.Proofs.YtebappmamaafaaaDoor
open Go.RowKit

theorem penc_cb (c : Cd) : penc c = if (cb c.ct).2 = true then ([], 17) else if 4000000 < (cb c.ct).1.length then ([], 1) else ((cb c.ct).1, 0) := by unfold penc; rw [pbytes_cb]
theorem penc_dec {c : Cd} (h : (penc c).2 = 0) : codeD ⟨(penc c).1.toArray⟩ = .inr c.ct := by
  rw [penc_cb] at h ⊢
  split at h
  · cases h
  · split at h
    · cases h
    · rename_i h1 h2
      rw [if_neg h1, if_neg h2]
      exact code_enc (by simpa using h1) (by omega)
theorem dec_penc {s : ByteArray} {c : Cd} (h : codeD s = .inr c.ct) : penc c = (s.data.toList, 0) := by
  obtain ⟨h1, h2, h3⟩ := code_dec h
  rw [penc_cb, if_neg (by rw [h1]; simp), if_neg (by rw [h2, sizeL]; omega), h2]
theorem wgt_cb (c : Cd) (hb : (cb c.ct).2 = false) : wgt c ≤ (cb c.ct).1.length := by
  have h1 : ∀ l : List ByteArray, (l.map fun s => s.size + 1).sum ≤ (l.flatMap fun x => (tb x).1).length := by
    intro l
    induction l with
    | nil => simp
    | cons x l ih =>
      simp only [List.map_cons, List.sum_cons, List.flatMap_cons, List.length_append, tb, List.length_cons, sizeL] at ih ⊢
      omega
  have h3 : ∀ l : List Ic, (l.any fun x => (ib x).2) = false → l.length ≤ (l.flatMap fun x => (ib x).1).length := by
    intro l
    induction l with
    | nil => simp
    | cons x l ih =>
      intro h
      simp only [List.any_cons, Bool.or_eq_false_iff] at h
      have hx : 1 ≤ (ib x).1.length := by
        have h0 := h.1
        unfold ib pinsB at h0 ⊢
        split
        · rename_i hh; rw [if_pos hh] at h0; cases h0
        · simp
      have := ih h.2
      simp only [List.length_cons, List.flatMap_cons, List.length_append]
      omega
  have h4 : ∀ l : List Fn, ((l.map fct).any fun x => (fb x).2) = false → (l.map fun f => f.ins.length + 1).sum ≤ ((l.map fct).flatMap fun x => (fb x).1).length := by
    intro l
    induction l with
    | nil => simp
    | cons x l ih =>
      intro h
      simp only [List.map_cons, List.any_cons, Bool.or_eq_false_iff] at h
      have h0 := h.1
      simp only [fb, fct, Bool.or_eq_false_iff] at h0
      have hx := h3 x.ins h0.2
      have := ih h.2
      simp only [List.map_cons, List.sum_cons, List.flatMap_cons, List.length_append]
      have e : (fb (fct x)).1.length = 6 + (x.ins.flatMap fun x => (ib x).1).length := by simp [fb, fct, twoB]; omega
      omega
  simp only [cb, Bool.or_eq_false_iff] at hb
  have a1 := h1 c.texts
  have a2 := h4 c.funs hb.2
  unfold wgt
  simp only [cb, Cd.ct, List.length_append]
  omega
theorem same_ct {c d : Cd} (h : c.ct = d.ct) : SameCd c d := by
  unfold Cd.ct at h
  simp only [Prod.mk.injEq] at h
  obtain ⟨h1, h2⟩ := h
  have hl : c.funs.length = d.funs.length := by have := congrArg List.length h2; simpa using this
  refine ⟨h1, hl, fun i hi => ?_⟩
  have e : (c.funs.map fct)[i]? = (d.funs.map fct)[i]? := by rw [h2]
  rw [List.getElem?_map, List.getElem?_map, List.getElem?_eq_getElem hi, List.getElem?_eq_getElem (by omega)] at e
  simp only [Option.map_some, Option.some.injEq] at e
  have e1 : c.funs.getD i nofn = c.funs[i] := by rw [List.getD_eq_getElem?_getD, List.getElem?_eq_getElem hi]; rfl
  have e2 : d.funs.getD i nofn = d.funs[i] := by rw [List.getD_eq_getElem?_getD, List.getElem?_eq_getElem (by omega)]; rfl
  rw [e1, e2]
  unfold fct at e
  simp only [Prod.mk.injEq] at e
  exact e
theorem wgt_ct {c d : Cd} (h : c.ct = d.ct) : wgt c = wgt d := by
  obtain ⟨h1, h2⟩ := Prod.mk.inj h
  have h2' : c.funs.map fct = d.funs.map fct := h2
  have e : ∀ l : List Fn, (l.map fun f => f.ins.length + 1) = (l.map fct).map fun f => f.2.2.length + 1 := by intro l; simp [fct]
  have h1' : c.texts = d.texts := h1
  unfold wgt
  rw [e, e, h2', h1']
theorem wgt_lens {c : Cd} (h : wgt c ≤ 1048576) : c.texts.length ≤ 4611686018427387904 ∧ c.funs.length ≤ 4611686018427387904 ∧ ∀ f ∈ c.funs, f.ins.length ≤ 4611686018427387904 := by
  have a1 := len_le_sum c.texts (fun s => s.size)
  have a2 := len_le_sum c.funs (fun f => f.ins.length)
  unfold wgt at h
  refine ⟨by omega, by omega, fun f hf => ?_⟩
  obtain ⟨i, hi, rfl⟩ := List.getElem_of_mem hf
  have a3 := fun_le c.funs i hi
  have e1 : c.funs.getD i nofn = c.funs[i] := by rw [List.getD_eq_getElem?_getD, List.getElem?_eq_getElem hi]; rfl
  rw [e1] at a3
  omega

/-! a fault has a kind -/
theorem opsD_kind (s : ByteArray) (l : List UInt8) : ∀ (i : Nat) (x : Ic) (a : Nat) (f : Int × Int), opsD s l i x a = .inl f → f.1 ≠ 0 := by
  induction l with
  | nil => intro i x a f h; cases h
  | cons k l ih =>
    intro i x a f h
    unfold opsD at h
    split at h
    · split at h
      · cases h; simp [endF]
      · split at h
        · cases h; simp [endF]
        · exact ih _ _ _ _ h
    · split at h
      · cases h; simp [endF]
      · exact ih _ _ _ _ h
theorem insD_kind {s : ByteArray} {a : Nat} {f : Int × Int} (h : insD s a = .inl f) : f.1 ≠ 0 := by
  unfold insD at h
  split at h
  · cases h; simp [endF]
  · split at h
    · cases h; simp [endF]
    · exact opsD_kind _ _ _ _ _ _ h
theorem inssD_kind (s : ByteArray) (n : Nat) : ∀ (l : List Ic) (a : Nat) (f : Int × Int), inssD s n l a = .inl f → f.1 ≠ 0 := by
  induction n with
  | zero => intro l a f h; cases h
  | succ n ih =>
    intro l a f h
    unfold inssD at h
    split at h
    · rename_i hx; cases h; exact insD_kind hx
    · exact ih _ _ _ h
theorem funD_kind {s : ByteArray} {a : Nat} {f : Int × Int} (h : funD s a = .inl f) : f.1 ≠ 0 := by
  unfold funD at h
  split at h
  · cases h; simp [endF]
  · split at h
    · cases h; simp [endF]
    · split at h
      · cases h; simp [endF]
      · split at h
        · rename_i hx; cases h; exact inssD_kind _ _ _ _ _ hx
        · cases h
theorem funsD_kind (s : ByteArray) (n : Nat) : ∀ (l : List Fc) (a : Nat) (f : Int × Int), funsD s n l a = .inl f → f.1 ≠ 0 := by
  induction n with
  | zero => intro l a f h; cases h
  | succ n ih =>
    intro l a f h
    unfold funsD at h
    split at h
    · rename_i hx; cases h; exact funD_kind hx
    · exact ih _ _ _ h
theorem textsD_kind (s : ByteArray) (n : Nat) : ∀ (l : List ByteArray) (a : Nat) (f : Int × Int), textsD s n l a = .inl f → f.1 ≠ 0 := by
  induction n with
  | zero => intro l a f h; cases h
  | succ n ih =>
    intro l a f h
    unfold textsD at h
    split at h
    · cases h; simp [endF]
    · split at h
      · cases h; simp [endF]
      · split at h
        · exact ih _ _ _ h
        · cases h; simp [endF]
theorem headD_kind (s : ByteArray) (l : List UInt8) : ∀ (i : Nat) (f : Int × Int), headD s l i = some f → f.1 ≠ 0 := by
  induction l with
  | nil => intro i f h; cases h
  | cons k l ih =>
    intro i f h
    unfold headD at h
    split at h
    · cases h; simp
    · split at h
      · exact ih _ _ h
      · cases h; simp
theorem codeD_kind {s : ByteArray} {f : Int × Int} (h : codeD s = .inl f) : f.1 ≠ 0 := by
  unfold codeD at h
  split at h
  · cases h; simp [endF]
  · split at h
    · rename_i hx; cases h; exact headD_kind _ _ _ _ hx
    · split at h
      · cases h; simp [endF]
      · split at h
        · rename_i hx; cases h; exact textsD_kind _ _ _ _ _ hx
        · split at h
          · cases h; simp [endF]
          · split at h
            · rename_i hx; cases h; exact funsD_kind _ _ _ _ _ hx
            · split at h
              · cases h; simp
              · cases h

end Go.Proofs.YtebappmamaafaaaDoor
