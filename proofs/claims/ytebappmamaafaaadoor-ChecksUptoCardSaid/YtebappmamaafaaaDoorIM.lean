/-
  Proved: laws for a map keyed by int whose elements are of whatever type: what a look-up gives, what a store of a new key leaves. No condition.
-/
import Derived.Test.YtebappmamaafaaaDoorW
import GoSem.Instr.MapEntry
namespace Go.Proofs.YtebappmamaafaaaDoor
open Go.RowKit

def keyIs (n : Int) (e : MapEntry) : Bool := match e.key with | .int _ m => n == m | _ => false
/-- block b is a map that holds f -/
def IMapAt (w : World) (b : Nat) (f : Int → Option Value) : Prop :=
  ∃ (es : Array MapEntry) (clock : Nat), w.heap[b]? = some (.map es clock) ∧ (∀ e ∈ es.toList, ∃ n, e.key = .int .i64 n) ∧ ∀ n, f n = (es.toList.find? (keyIs n)).map (·.val)

theorem findNow_int (n : Int) (l : List MapEntry) (h : ∀ e ∈ l, ∃ m, e.key = .int .i64 m) (i : Nat) :
    ∃ r, Instr.findNow (.int .i64) (.int .i64 n) l i = some r ∧ r.map (·.2) = (l.find? (keyIs n)).map (·.val) := by
  induction l generalizing i with
  | nil => exact ⟨none, rfl, rfl⟩
  | cons e l ih =>
    obtain ⟨m, hm⟩ := h e (by simp)
    obtain ⟨r, h1, h2⟩ := ih (fun e' he' => h e' (by simp [he'])) (i + 1)
    by_cases hnm : n = m
    · subst hnm
      exact ⟨some (i, e.val), by simp [Instr.findNow, Instr.sameNow, hm], by simp [List.find?_cons, keyIs, hm]⟩
    · refine ⟨r, ?_, ?_⟩
      · have hb : (n == m) = false := by simp [hnm]
        simp [Instr.findNow, Instr.sameNow, hm, hb, h1]
      · have hk : keyIs n e = false := by simp [keyIs, hm, hnm]
        rw [List.find?_cons, hk]
        exact h2

section
variable {P : Program} {w : World} {b : Nat} {f : Int → Option Value}

theorem run_checkKey_int {k : TypeId} (hk : P.underlying k = some (.int .i64)) (c : Bool) (m : Nat) (n : Int) : (Instr.checkKey c (m + 1) k (.int .i64 n)).run P w = .ok () w := by
  simp [Instr.checkKey, run_underlying hk]

theorem IMapAt.lookup (h : IMapAt w b f) {t k e : TypeId} (ht : P.underlying t = some (.map k e)) (hk : P.underlying k = some (.int .i64)) {z : Value} (hz : (zeroValue e).run P w = .ok z w) (n : Int) (c : Bool) :
    (Instr.lookup t (.map (some b)) (.int .i64 n) c).run P w = .ok (if c then .tuple #[(f n).getD z, .bool (f n).isSome] else (f n).getD z) w := by
  obtain ⟨es, clock, hb, hes, hf⟩ := h
  obtain ⟨r, h1, h2⟩ := findNow_int n es.toList hes 0
  rw [hf, ← h2]
  cases r with
  | none => simp [Instr.lookup, Instr.findKey, run_underlying ht, run_underlying hk, getObj, Sem.run, hb, run_checkKey_int hk, h1, hz]
  | some x => simp [Instr.lookup, Instr.findKey, run_underlying ht, run_underlying hk, getObj, Sem.run, hb, run_checkKey_int hk, h1]
theorem IMapAt.store (h : IMapAt w b f) {t k e : TypeId} (ht : P.underlying t = some (.map k e)) (hk : P.underlying k = some (.int .i64)) (n : Int) (hn : f n = none) (v : Value) :
    ∃ w', (Instr.mapUpdate t (.map (some b)) (.int .i64 n) v).run P w = .ok () w' ∧ IMapAt w' b (fun m => if m = n then some v else f m) ∧ w.grownBy w' (some b) ∧ w'.heap.size = w.heap.size := by
  obtain ⟨es, clock, hb, hes, hf⟩ := h
  obtain ⟨r, h1, h2⟩ := findNow_int n es.toList hes 0
  rw [hf] at hn
  rw [hn] at h2
  have hr : r = none := by cases r <;> simp at h2 ⊢
  subst hr
  have hlt := (Array.getElem?_eq_some_iff.1 hb).1
  refine ⟨{ w with heap := w.heap.setIfInBounds b (.map (es.push { key := .int .i64 n, val := v, born := clock }) (clock + 1)) }, ?_, ?_, ?_, by simp⟩
  · simp [Instr.mapUpdate, Instr.findKey, run_underlying ht, run_underlying hk, getObj, setObj, Sem.run, hb, run_checkKey_int hk, h1]
  · refine ⟨es.push { key := .int .i64 n, val := v, born := clock }, clock + 1, by simp [hlt], ?_, ?_⟩
    · intro x hx
      simp at hx
      rcases hx with hx | rfl
      · exact hes x (by simpa using hx)
      · exact ⟨n, rfl⟩
    · intro m
      rw [Array.toList_push, List.find?_append]
      by_cases hm : m = n
      · subst hm
        have hnone : es.toList.find? (keyIs m) = none := by simpa using hn
        simp [hnone, keyIs]
      · have hk2 : keyIs m { key := .int .i64 n, val := v, born := clock } = false := by simp [keyIs, hm]
        simp only [List.find?_cons, hk2, List.find?_nil, Option.or_none, if_neg hm]
        exact hf m
  · exact ⟨rfl, rfl, rfl, by simp, fun j hj hne => by
      have : j ≠ b := fun e => hne (by rw [e])
      simp [Ne.symm this]⟩

/-- what a map holds stays where its block stands -/
theorem IMapAt.carry {w' : World} (h : IMapAt w b f) (hc : w'.heap[b]? = w.heap[b]?) : IMapAt w' b f := by
  obtain ⟨es, clock, hb, rest⟩ := h
  exact ⟨es, clock, hc.trans hb, rest⟩
theorem IMapAt.lt (h : IMapAt w b f) : b < w.heap.size := by
  obtain ⟨es, clock, hb, _⟩ := h
  exact lt_of_block hb

theorem wpList_lookup_im (w : World) {ops : Array Oper} {rest : List Oper} {o : Oper} {a : Act} {Q : Exit → Act → World → Prop} (hg : o.guard = none) (m x : Operand) (t : TypeId) (c : Bool) (hop : o.op = Op.lookup t m x c)
    {k e : TypeId} (ht : P.underlying t = some (.map k e)) (hk : P.underlying k = some (.int .i64)) {z : Value} (hz : (zeroValue e).run P w = .ok z w) (b : Nat) (f : Int → Option Value) (n : Int)
    (hm : a.eval m = .map (some b)) (hx : a.eval x = .int .i64 n) (hI : IMapAt w b f)
    (hK : wpList P ops Q rest (a.put o.dst (if c then .tuple #[(f n).getD z, .bool (f n).isSome] else (f n).getD z)) w) : wpList P ops Q (o :: rest) a w := by
  refine wpList_plain hg fun K' hK' => ?_
  have hrun := hI.lookup ht hk hz n c
  unfold Oper.wp
  simp [execOp, hop, hm, hx, hrun, Result.andThen]
  exact hK' _ _ (by simpa using hK)

theorem wpList_store_im (w : World) {ops : Array Oper} {rest : List Oper} {o : Oper} {a : Act} {Q : Exit → Act → World → Prop} (hg : o.guard = none) (m x v : Operand) (t : TypeId) (hop : o.op = Op.mapUpdate t m x v)
    {k e : TypeId} (ht : P.underlying t = some (.map k e)) (hk : P.underlying k = some (.int .i64)) (b : Nat) (f : Int → Option Value) (n : Int) (u : Value)
    (hm : a.eval m = .map (some b)) (hx : a.eval x = .int .i64 n) (hv : a.eval v = u) (hI : IMapAt w b f) (hn : f n = none)
    (hK : ∀ w', IMapAt w' b (fun m => if m = n then some u else f m) → w.grownBy w' (some b) → w'.heap.size = w.heap.size → wpList P ops Q rest (a.put o.dst undef) w') : wpList P ops Q (o :: rest) a w := by
  refine wpList_plain hg fun K' hK' => ?_
  obtain ⟨w', hrun, h1, h2, h3⟩ := hI.store ht hk n hn u
  unfold Oper.wp
  simp [execOp, hop, hm, hx, hv, hrun, Result.andThen]
  exact hK' _ _ (hK w' h1 h2 h3)
end
end Go.Proofs.YtebappmamaafaaaDoor
