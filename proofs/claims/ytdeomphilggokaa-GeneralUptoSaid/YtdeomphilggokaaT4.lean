/-
  Proved: a map keyed by numbers with its list of keys; how both programs keep what they know of variables. No condition.
-/
import Derived.Test.YtdeomphilggokaaT1
set_option linter.unusedSimpArgs false
set_option linter.unusedVariables false
namespace Go.Proofs.Ytdeomphilggokaa
open Go.RowKit Go.Maps

theorem nodup_len : ∀ (xs V : List Int), xs.Nodup → (∀ x ∈ xs, x ∈ V) → xs.length ≤ V.length
  | [], V, _, _ => Nat.zero_le _
  | x :: xs, V, hn, h => by
    rw [List.nodup_cons] at hn
    have hx := h x (by simp)
    have h1 := nodup_len xs (V.erase x) hn.2 fun y hy => (List.mem_erase_of_ne (fun e : y = x => hn.1 (by rw [← e]; exact hy))).2 (h y (by simp [hy]))
    rw [List.length_erase_of_mem hx] at h1
    have := List.length_pos_of_mem hx
    simp
    omega
/-- block b holds a map of these keys, which says f -/
def MapX (w : World) (b : Nat) (xs : List Int) (f : Int → Option Value) : Prop := ∃ D, w.ownsMap Try.prog 3 hR b xs.length D ∧ (∀ k, I64 k → fOf D k = f k) ∧ Tidy D ∧ size D = xs.length ∧ ∀ k, I64 k → has D (.int .i64 k) = decide (k ∈ xs)
theorem MapX.f {w : World} {b : Nat} {xs : List Int} {f : Int → Option Value} (h : MapX w b xs f) : MapF w b xs.length f := by
  obtain ⟨D, h1, h2, _⟩ := h
  exact ⟨D, h1, h2⟩
theorem MapX.made (w : World) : MapX (w.alloc (.map #[] 0)) w.heap.size [] (fun _ => none) := ⟨_, World.ownsMap_made w _ _ _, fun k _ => by simp [fOf, DataW.atKey], tidy_empty, rfl, fun k _ => by simp [has_eq]⟩
theorem MapX.of_same {w w' : World} {b : Nat} {xs : List Int} {f : Int → Option Value} (h : MapX w b xs f) (e : w'.heap[b]? = w.heap[b]?) : MapX w' b xs f := by
  obtain ⟨D, ⟨es, clock, hb, F, hs, hD⟩, hf⟩ := h
  exact ⟨D, ⟨es, clock, e.trans hb, F, hs, hD⟩, hf⟩
theorem MapX.congr {w : World} {b : Nat} {xs : List Int} {f f' : Int → Option Value} (h : MapX w b xs f) (e : ∀ k, I64 k → f k = f' k) : MapX w b xs f' := by
  obtain ⟨D, h1, h2, h3⟩ := h
  exact ⟨D, h1, fun k hk => (h2 k hk).trans (e k hk), h3⟩
theorem MapX.lt {w : World} {b : Nat} {xs : List Int} {f : Int → Option Value} (h : MapX w b xs f) : b < w.heap.size := h.f.lt
theorem owns_tight {w : World} {b n : Nat} {D : DataW (Option Value)} (h : w.ownsMap Try.prog 3 hR b n D) {m : Nat} (hm : size D ≤ m) : w.ownsMap Try.prog 3 hR b m D := by
  obtain ⟨es, clock, hb, F, hs, rfl⟩ := h
  refine ⟨es, clock, hb, F, ?_, rfl⟩
  simpa [Maps.size, length_sorted] using hm
theorem fOf_put {w : World} {b n : Nat} {D : DataW (Option Value)} (h1 : w.ownsMap Try.prog 3 hR b n D) {f : Int → Option Value} (hf : ∀ k, I64 k → fOf D k = f k) {k : Int} (hk : I64 k) (v : Value) : ∀ j, I64 j → fOf (D.put (.int .i64 k) (.held (some v))) j = if j = k then some v else f j := by
  intro j hj
  unfold fOf
  by_cases e : j = k
  · subst e
    rw [if_pos rfl, atKey_put_same h1.isMap (law3.key (key3 hj))]
  · rw [if_neg e, atKey_put_other (by simpa using e)]
    exact hf j hj
theorem MapX.new {w : World} {b : Nat} {xs : List Int} {f : Int → Option Value} (h : MapX w b xs f) {t e : TypeId} (ht : Try.prog.underlying t = some (.map 3 e)) (hl : xs.length < maxLen) {k : Int} (hk : I64 k) (hn : k ∉ xs) (v : Value) :
    ∃ w', (Instr.mapUpdate t (.map (some b)) (.int .i64 k) v).run Try.prog w = .ok () w' ∧ MapX w' b (xs ++ [k]) (fun j => if j = k then some v else f j) ∧ w.grownBy w' (some b) := by
  obtain ⟨D, h1, hf, htd, hsz, hhas⟩ := h
  obtain ⟨w', hrun, hown, ht'⟩ := h1.store law3 ht hl (key3 hk) (show hR v = some (.held (some v), []) from rfl)
  refine ⟨w', hrun, ⟨_, by rw [List.length_append]; exact hown, fOf_put h1 hf hk v, htd.put (law3.key (key3 hk)) _, ?_, fun j hj => ?_⟩, ht'.grown⟩
  · rw [size_put htd, hhas k hk, List.length_append]
    simp [hn, hsz]
  · by_cases e : j = k
    · subst e
      rw [has_put_same h1.isMap (law3.key (key3 hj))]
      simp
    · rw [has_put_other (by simpa using e), hhas j hj]
      simp [e]
theorem MapX.again {w : World} {b : Nat} {xs : List Int} {f : Int → Option Value} (h : MapX w b xs f) {t e : TypeId} (ht : Try.prog.underlying t = some (.map 3 e)) (hl : xs.length < maxLen) {k : Int} (hk : I64 k) (hn : k ∈ xs) (v : Value) :
    ∃ w', (Instr.mapUpdate t (.map (some b)) (.int .i64 k) v).run Try.prog w = .ok () w' ∧ MapX w' b xs (fun j => if j = k then some v else f j) ∧ w.grownBy w' (some b) := by
  obtain ⟨D, h1, hf, htd, hsz, hhas⟩ := h
  obtain ⟨w', hrun, hown, ht'⟩ := h1.store law3 ht hl (key3 hk) (show hR v = some (.held (some v), []) from rfl)
  have hs : size (D.put (.int .i64 k) (.held (some v))) = xs.length := by
    rw [size_put htd, hhas k hk]
    simp [hn, hsz]
  refine ⟨w', hrun, ⟨_, owns_tight hown (Nat.le_of_eq hs), fOf_put h1 hf hk v, htd.put (law3.key (key3 hk)) _, hs, fun j hj => ?_⟩, ht'.grown⟩
  by_cases e : j = k
  · subst e
    rw [has_put_same h1.isMap (law3.key (key3 hj))]
    simp [hn]
  · rw [has_put_other (by simpa using e), hhas j hj]

/-- a type bound, and where its arguments lie -/
structure Bt where
  t : Ty
  ao : Option Addr
  cap : Nat
def Bt.val (b : Bt) : Value := .agg (rowOf b.t b.ao b.cap)
/-- the reference's maps -/
structure RU (B : Nat) (w : World) (sb mb me : Nat) (V : List Int) (D : Nat → Prop) (st : St) : Prop where
  s : w.heap[sb]? = some (.cells #[.map (some mb), .map (some me)] 104 (0, 0))
  by' : ∃ (ks : List Int) (bt : Int → Option Bt), MapX w mb ks (fun k => (bt k).map Bt.val) ∧ ks.Nodup ∧ (∀ k ∈ ks, k ∈ V) ∧ (∀ k, bt k ≠ none → k ∈ ks) ∧ ∀ k, st.b k = (bt k).map Bt.t ∧ ∀ x, bt k = some x → SlD w D x.t.args x.ao x.cap
  eq : ∃ ks, MapX w me ks (fun k => if st.e k = true then some (.int .i64 1) else none) ∧ ks.Nodup ∧ (∀ k ∈ ks, k ∈ V) ∧ ∀ k, st.e k = true → k ∈ ks
  low : B ≤ sb ∧ B ≤ mb ∧ B ≤ me ∧ mb ≠ me
  vs : V.length ≤ 1000000000000
  i64 : ∀ k ∈ V, I64 k
theorem RU.keep {B : Nat} {w w' : World} {sb mb me : Nat} {V : List Int} {D : Nat → Prop} {st : St} (h : RU B w sb mb me V D st) (hb : Below w.heap.size w w') (hD : ∀ b, D b → b < w.heap.size) : RU B w' sb mb me V D st := by
  obtain ⟨ks, bt, h1, h2, h3, h4, h5⟩ := h.by'
  obtain ⟨ke, g1, g2⟩ := h.eq
  exact ⟨blk_below h.s hb (lt_of_block h.s), ⟨ks, bt, h1.of_same (hb.block _ h1.lt), h2, h3, h4, fun k => ⟨(h5 k).1, fun x hx => ((h5 k).2 x hx).keep fun b hb' off => below_cells hb b (hD b hb') off⟩⟩, ⟨ke, g1.of_same (hb.block _ g1.lt), g2⟩, h.low, h.vs, h.i64⟩
/-- a variable's cells -/
def vcells (x : Bt) (bd eb : Bool) : Array Value := #[.bool bd, .int .i64 x.t.k, .int .i64 x.t.n, .string x.t.s, .int .i64 x.t.q, .slice x.ao x.t.args.length x.cap, .bool eb, .int .i64 0]
/-- a variable as the program keeps it -/
def VarC (w : World) (D : Nat → Prop) (p : Nat) (ob : Option Ty) (eb : Bool) : Prop := ∃ x : Bt, w.heap[p]? = some (.cells (vcells x ob.isSome eb) 58 (0, 0)) ∧ ∀ y, ob = some y → y = x.t ∧ SlD w D x.t.args x.ao x.cap
theorem VarC.keep {w w' : World} {D : Nat → Prop} {p : Nat} {ob : Option Ty} {eb : Bool} (h : VarC w D p ob eb) (hb : w'.heap[p]? = w.heap[p]?) (hD : ∀ b, D b → ∀ off, w'.cell? ⟨b, off, none⟩ = w.cell? ⟨b, off, none⟩) : VarC w' D p ob eb := by
  obtain ⟨x, h1, h2⟩ := h
  exact ⟨x, hb.trans h1, fun y hy => ⟨(h2 y hy).1, (h2 y hy).2.keep hD⟩⟩
def ptrF (V : List Int) (pl : Int → Nat) (k : Int) : Option Value := if k ∈ V then some (.pointer (some ⟨pl k, 0, none⟩)) else none
/-- the program's map of variables -/
structure PU (B : Nat) (w : World) (ub m : Nat) (V : List Int) (pl : Int → Nat) (D : Nat → Prop) (st : St) : Prop where
  u : w.heap[ub]? = some (.cells #[.map (some m), .int .i64 0] 84 (0, 0))
  mp : MapX w m V (ptrF V pl)
  var : ∀ k ∈ V, VarC w D (pl k) (st.b k) (st.e k)
  inj : ∀ k ∈ V, ∀ j ∈ V, pl k = pl j → k = j
  low : B ≤ ub ∧ B ≤ m ∧ ∀ k ∈ V, B ≤ pl k
  vs : V.length ≤ 1000000000000
  i64 : ∀ k ∈ V, I64 k
theorem PU.keep {B : Nat} {w w' : World} {ub m : Nat} {V : List Int} {pl : Int → Nat} {D : Nat → Prop} {st : St} (h : PU B w ub m V pl D st) (hb : Below w.heap.size w w') (hD : ∀ b, D b → b < w.heap.size) : PU B w' ub m V pl D st :=
  ⟨blk_below h.u hb (lt_of_block h.u), h.mp.of_same (hb.block _ h.mp.lt), fun k hk => (h.var k hk).keep (by obtain ⟨x, h1, _⟩ := h.var k hk; exact hb.block _ (lt_of_block h1)) (fun b hb' off => below_cells hb b (hD b hb') off), h.inj, h.low, h.vs, h.i64⟩
theorem PU.at' {B : Nat} {w : World} {ub m : Nat} {V : List Int} {pl : Int → Nat} {D : Nat → Prop} {st : St} (h : PU B w ub m V pl D st) {k : Int} (hk : k ∈ V) : ∃ x : Bt, w.heap[pl k]? = some (.cells (vcells x (st.b k).isSome (st.e k)) 58 (0, 0)) ∧ ∀ y, st.b k = some y → y = x.t ∧ SlD w D x.t.args x.ao x.cap := h.var k hk
end Go.Proofs.Ytdeomphilggokaa
