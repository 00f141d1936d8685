/-
  Proved: a head as a map's key. No condition.
-/
import Derived.Test.YtcieoelogocjkaaH2
import Derived.Test.YtcieoelogocjkaaB2
import Derived.Test.YtcieoelogocjkaaF
import Derived.DeepKeys4
set_option linter.unusedSimpArgs false
set_option linter.unusedVariables false
namespace Go.Proofs.Ytcieoelogocjkaa
open Go.RowKit Go.Maps

theorem laidOut : laidOutB Try.prog = true := by kernel_rfl
theorem row51 : (51 : TypeId) < Try.prog.types.size := of_decide_eq_true (by kernel_rfl)
theorem wide51 : (match Try.prog.underlying 51 with | some (.array _ _) | some (.struct _) => true | _ => false) = true := by kernel_rfl
theorem law51 : Keyed Try.prog 51 := Keyed.of_law (deep_law_laid laidOut (m := 3) (by omega) row51 (by kernel_rfl) wide51)
theorem law3 : Keyed Try.prog 3 := int_keyed Try.underlying3
theorem zero3 (w : World) : (zeroValue 3).run Try.prog w = .ok (.int .i64 0) w := by kernel_rfl
theorem keyType51 : Try.prog.keyType 51 = true := by kernel_rfl
theorem cells51 : Try.prog.cellsOf 51 = 4 := by kernel_rfl
theorem cells3 : Try.prog.cellsOf 3 = 1 := by kernel_rfl
theorem cells9 : Try.prog.cellsOf 9 = 1 := by kernel_rfl
theorem sizes : ∃ d, Try.prog.types.size + 1 = d + 2 := by have h : (51 : Nat) < Try.prog.types.size := row51; exact ⟨Try.prog.types.size - 1, by omega⟩
def hkl (h : Hd) : Lit := .string (keyBytes [.int .i64 h.k, .int .i64 h.n, .int .i64 h.c, .string h.s.data.toList])
theorem wf64 {x : Int} (h : I64 x) : (Lit.int .i64 x).wf = true := WalkArith.wf_i64 h
theorem keyHd (h : Hd) (hk : I64 h.k) (hn : I64 h.n) (hc : h.c ≤ 2000000000000) (hs : h.s.size ≤ maxLen) : keyOf Try.prog 51 (.agg (hdRow h)) = some (hkl h) := by
  have hfm : (Value.agg (hdRow h)).formed Try.prog 51 = true := by simp [Value.formed, Try.underlying51, cells51, hdRow]
  have hw1 := wf64 hk
  have hw2 := wf64 hn
  have hw3 : (Lit.int .i64 (h.c : Int)).wf = true := wf64 (by unfold I64; omega)
  obtain ⟨d, hd⟩ := sizes
  unfold keyOf
  simp only [Try.underlying51, keyType51, hfm, Bool.and_self, if_true, hd]
  simp [Program.keyLits, Try.underlying51, cells51, Try.underlying3, Try.underlying9, cells3, cells9, Function.comp_def, hdRow, Value.cells, hw1, hw2, hw3, hs, hkl]
/-- a head that fits -/
def FitH (h : Hd) : Prop := I64 h.k ∧ I64 h.n ∧ h.c ≤ 2000000000000 ∧ h.s.size ≤ maxLen
theorem FitH.key {h : Hd} (hf : FitH h) : keyOf Try.prog 51 (.agg (hdRow h)) = some (hkl h) := keyHd h hf.1 hf.2.1 hf.2.2.1 hf.2.2.2
theorem fitH_of {p : Pt} (h : Fits p) : FitH (headOf p) := by
  have hi := h.ints
  refine ⟨hi.1, ?_, h.len, ?_⟩
  · show I64 (if p.k = 5 then 0 else p.n)
    split
    · unfold I64; omega
    · exact hi.2.1
  · show (if p.k = 4 then p.s else ⟨#[]⟩).size ≤ maxLen
    split
    · exact hi.2.2.2.2
    · exact Nat.zero_le _
theorem hkl_inj {h h' : Hd} (hf : FitH h) (hf' : FitH h') (he : hkl h = hkl h') : h = h' := by
  have h1 := hf.key
  have h2 := hf'.key
  rw [← he] at h2
  have h3 := law51.inj h1 h2
  simp only [hdRow, Value.agg.injEq] at h3
  cases h with | mk k n c s =>
  cases h' with | mk k' n' c' s' =>
  simp at h3
  obtain ⟨e1, e2, e3, e4⟩ := h3
  subst e1 e2 e4
  have : c = c' := by omega
  subst this
  rfl
/-- how often each head was met -/
def SeenOk (D : DataW Unit) (L : List Pt) (k : Nat) : Prop :=
  ∀ h : Hd, FitH h → ∃ c : Nat, D.atKey (hkl h) (.lit (.int .i64 0)) = .lit (.int .i64 c) ∧ c ≤ k ∧ (0 < c ↔ L.any (fun q => decide (headOf q = h)) = true)
theorem SeenOk.start : SeenOk (.map []) [] 0 := fun h _ => ⟨0, rfl, Nat.le_refl _, by simp⟩
theorem SeenOk.keep {D : DataW Unit} {L : List Pt} {k : Nat} (h : SeenOk D L k) : SeenOk D L (k + 1) := fun x hx => by
  obtain ⟨c, h1, h2, h3⟩ := h x hx
  exact ⟨c, h1, by omega, h3⟩
theorem SeenOk.step {D : DataW Unit} {L : List Pt} {k c : Nat} {q : Pt} (h : SeenOk D L k) (hD : IsMap D) (hf : FitH (headOf q)) (hc : D.atKey (hkl (headOf q)) (.lit (.int .i64 0)) = .lit (.int .i64 c)) :
    SeenOk (D.put (hkl (headOf q)) (.lit (.int .i64 ((c : Int) + 1)))) (if 0 < c then L else L ++ [q]) (k + 1) := by
  intro x hx
  by_cases e : x = headOf q
  · subst e
    refine ⟨c + 1, ?_, ?_, ?_⟩
    · rw [atKey_put_same hD (law51.key hf.key)]
      simp
    · obtain ⟨c', h1, h2, _⟩ := h _ hf
      rw [hc] at h1
      simp only [DataW.lit.injEq, Lit.int.injEq, true_and] at h1
      omega
    · have : (if 0 < c then L else L ++ [q]).any (fun q' => decide (headOf q' = headOf q)) = true := by
        split
        · rename_i h0
          obtain ⟨c', h1, _, h3⟩ := h _ hf
          rw [hc] at h1
          simp only [DataW.lit.injEq, Lit.int.injEq, true_and] at h1
          exact h3.1 (by omega)
        · simp
      exact ⟨fun _ => this, fun _ => by omega⟩
  · obtain ⟨c', h1, h2, h3⟩ := h x hx
    refine ⟨c', ?_, by omega, ?_⟩
    · rw [atKey_put_other (fun e' => e (hkl_inj hx hf e'))]; exact h1
    · rw [h3]
      split
      · rfl
      · rw [List.any_append]
        have e2 : decide (headOf q = x) = false := by simpa using fun e' : headOf q = x => e e'.symm
        simp [e2]
theorem SeenOk.at {D : DataW Unit} {L : List Pt} {k : Nat} {h : Hd} {c : Int} (hs : SeenOk D L k) (hf : FitH h) (hc : D.atKey (hkl h) (.lit (.int .i64 0)) = .lit (.int .i64 c)) :
    ∃ c' : Nat, c = (c' : Int) ∧ c' ≤ k ∧ (0 < c' ↔ L.any (fun q => decide (headOf q = h)) = true) := by
  obtain ⟨c', h1, h2, h3⟩ := hs h hf
  rw [hc] at h1
  simp only [DataW.lit.injEq, Lit.int.injEq, true_and] at h1
  exact ⟨c', h1, h2, h3⟩
/-- the firsts of one row more -/
def addF (l : List Pt) (q : Pt) : List Pt := if q.k = 0 then l else if l.any (fun x => decide (headOf x = headOf q)) = true then l else l ++ [q]
theorem firstsG_snoc : ∀ (rs : List (List Pt)) (p : Pt) (ps : List Pt) (l : List Pt), firstsG (rs ++ [p :: ps]) l = addF (firstsG rs l) (bare p)
  | [], p, ps, l => by
    rw [List.nil_append, firstsG]
    unfold addF
    simp only [firstsG]
  | [] :: rs, p, ps, l => by
    rw [List.cons_append, firstsG, firstsG]; exact firstsG_snoc rs p ps l
  | (x :: xs) :: rs, p, ps, l => by
    rw [List.cons_append, firstsG, firstsG]
    split
    · exact firstsG_snoc rs p ps l
    · split
      · exact firstsG_snoc rs p ps l
      · exact firstsG_snoc rs p ps _
theorem firsts_snoc {rows : List (List Pt)} {k : Nat} (hk : k < rows.length) {p : Pt} {ps : List Pt} (hr : rows[k] = p :: ps) : firsts (rows.take (k + 1)) = addF (firsts (rows.take k)) (bare p) := by
  rw [List.take_succ_eq_append_getElem hk, hr]
  exact firstsG_snoc _ p ps []
end Go.Proofs.Ytcieoelogocjkaa
