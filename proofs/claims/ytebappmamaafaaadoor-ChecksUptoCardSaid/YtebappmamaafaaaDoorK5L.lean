/-
  Proved: small facts for the walks of both fun (what lies in memory at a round). No condition.
-/
import Derived.Test.YtebappmamaafaaaDoorK4
import Derived.Deep.DeepCutAuto
import Derived.Deep.CutBlock
namespace Go.Proofs.YtebappmamaafaaaDoor
open Go.RowKit

theorem fv_cell {w : World} {b : Nat} {f : Fn} (h : w.heap[b]? = some (.cells #[.int .i64 f.free, .int .i64 f.slots, .slice f.ao f.ins.length f.cap] 48 (0, 0))) :
    w.cell? ⟨b, 0, none⟩ = some (.int .i64 f.free) ∧ w.cell? ⟨b, 1, none⟩ = some (.int .i64 f.slots) ∧ w.cell? ⟨b, 2, none⟩ = some (.slice f.ao f.ins.length f.cap) := ⟨blk_cell h 0, blk_cell h 1, blk_cell h 2⟩
theorem cv_cell {w : World} {b : Nat} {c : Cd} (h : w.heap[b]? = some (.cells #[.slice c.ta c.texts.length c.tc, .slice c.fa c.funs.length c.fc] 25 (0, 0))) :
    w.cell? ⟨b, 0, none⟩ = some (.slice c.ta c.texts.length c.tc) ∧ w.cell? ⟨b, 1, none⟩ = some (.slice c.fa c.funs.length c.fc) := ⟨blk_cell h 0, blk_cell h 1⟩

theorem im_new {w : World} : IMapAt (w.alloc (.map #[] 0)) w.heap.size (fun _ => none) := ⟨#[], 0, heap_alloc_new w _, by simp, by simp⟩
theorem encK_zero : (fun m : Int => if m = 0 then some (Value.agg #[.int .i64 0, .int .i64 0]) else none) = encK K0 := by
  funext m
  unfold encK K0
  by_cases h : m = 0
  · subst h; rfl
  · rw [if_neg h]
    by_cases h0 : 0 ≤ m
    · rw [if_pos h0, if_neg (by omega)]; rfl
    · rw [if_neg h0]
theorem wpList_insert_im {P : Program} (w : World) {ops : Array Oper} {rest : List Oper} {o : Oper} {a : Act} {Q : Exit → Act → World → Prop} (hg : o.guard = none) (m x v : Operand) (t : TypeId) (hop : o.op = Op.insert t m x v)
    {k e : TypeId} (ht : P.underlying t = some (.map k e)) (hk : P.underlying k = some (.int .i64)) (b : Nat) (f : Int → Option Value) (n : Int) (u : Value)
    (hm : a.eval m = .map (some b)) (hx : a.eval x = .int .i64 n) (hv : a.eval v = u) (hI : IMapAt w b f) (hn : f n = none)
    (hK : ∀ w', IMapAt w' b (fun m => if m = n then some u else f m) → w.grownBy w' (some b) → w'.heap.size = w.heap.size → wpList P ops Q rest (a.put o.dst undef) w') : wpList P ops Q (o :: rest) a w := by
  refine wpList_plain hg fun K' hK' => ?_
  obtain ⟨w', hrun, h1, h2, h3⟩ := hI.store ht hk n hn u
  unfold Oper.wp
  simp [execOp, hop, hm, hx, hv, hrun, Result.andThen]
  exact hK' _ _ (hK w' h1 h2 h3)
theorem single_le {α : Type} (l : List α) (g : α → Nat) {x : α} (h : x ∈ l) : g x ≤ (l.map g).sum := by
  induction l with
  | nil => cases h
  | cons y l ih =>
    rcases List.mem_cons.1 h with rfl | h
    · simp
    · have := ih h
      simp only [List.map_cons, List.sum_cons]
      omega
theorem ins_wgt {c : Cd} {f : Fn} (hf : f ∈ c.funs) (hw : wgt c ≤ 1048576) : f.ins.length ≤ 1048576 := by
  have h2 := single_le c.funs (fun f => f.ins.length + 1) hf
  unfold wgt at hw
  omega
/-- an instruction of a function, as it lies in memory -/
theorem ins_at {w w' : World} {c : Cd} {f : Fn} (hc : CodeAt w w.heap.size c) (hf : f ∈ c.funs) (hb : Below w.heap.size w w') {k : Nat} (hk : k < f.ins.length) {x : Int × Int × Int} (hx : x = f.ins.getD k (0, 0, 0)) :
    x ∈ f.ins ∧ (in64 x.1 ∧ in64 x.2.1 ∧ in64 x.2.2) ∧ ∃ b off, b < w.heap.size ∧ w'.cell? ⟨b, off + k * 3, none⟩ = some (.int .i64 x.1) ∧ w'.cell? ⟨b, off + k * 3 + 1, none⟩ = some (.int .i64 x.2.1) ∧ w'.cell? ⟨b, off + k * 3 + 2, none⟩ = some (.int .i64 x.2.2) ∧
      ∀ W : World, (Instr.indexAt 46 (.slice f.ao f.ins.length f.cap) (.int .i64 k)).run Tryd.prog W = .ok (.pointer (some ⟨b, off + k * 3, none⟩)) W := by
  subst hx
  have hxm : f.ins.getD k (0, 0, 0) ∈ f.ins := by
    have e : (f.ins.getD k (0, 0, 0)) = f.ins[k] := by rw [List.getD_eq_getElem?_getD, List.getElem?_eq_getElem hk]; rfl
    rw [e]; exact List.getElem_mem _
  obtain ⟨b, off, hta, hbN, hcell⟩ := hc.ins f hf k (by simpa using hk)
  have hrow : (f.ins.map insRow).getD k [] = insRow (f.ins.getD k (0, 0, 0)) := by simp [List.getD, hk]
  rw [hrow] at hcell
  have hca : ∀ i, i < 3 → w'.cell? ⟨b, off + k * 3 + i, none⟩ = (insRow (f.ins.getD k (0, 0, 0)))[i]? := fun i hi => (hb.cell (p := ⟨b, off + k * 3 + i, none⟩) hbN).trans (hcell i hi)
  exact ⟨hxm, (hc.wf f hf).2.2 _ hxm, b, off, hbN, hca 0 (by omega), hca 1 (by omega), hca 2 (by omega), index_at Tryd.underlying46 size50 hta f.ins.length f.cap k hk⟩

def InvK (k : Nat) (K : KK) : Prop := ∀ j s, K j = some s → (0 ≤ s.1 ∧ s.1 ≤ 5000) ∧ (0 ≤ s.2 ∧ s.2 ≤ (k : Int))
theorem InvK.zero : InvK 0 K0 := by
  intro j s h
  unfold K0 at h
  split at h
  · cases h; decide
  · cases h
/-- what operands and Encode let by of an instruction -/
theorem ins_facts {c : Cd} {f : Fn} {main : Bool} {op a b : Int} (hi : InsOk (op, a, b)) (hz : opOf c f main (op, a, b) = 0) (hok : FunsOk c) :
    (op = 13 → 0 < a ∧ a < c.funs.length) ∧ (op = 12 → 0 ≤ a ∧ a < 15) ∧ (op = 18 ∨ op = 19 ∨ op = 20 → 0 ≤ a ∧ a < f.ins.length) ∧ (0 ≤ tkB (frOf c a) op a b ∧ tkB (frOf c a) op a b ≤ 65535) ∧ (0 ≤ ptB op ∧ ptB op ≤ 1) := by
  obtain ⟨h1, h2, h3⟩ := hi
  simp only at h1 h2 h3
  have hpt : 0 ≤ ptB op ∧ ptB op ≤ 1 := by unfold ptB; split <;> decide
  have h13 : op = 13 → 0 < a ∧ a < c.funs.length := by
    intro e; subst e
    simp [opOf, opB] at hz
    omega
  have hfr : op = 13 → 0 ≤ frOf c a ∧ frOf c a ≤ 65535 := by
    intro e
    obtain ⟨m1, m2⟩ := h13 e
    have hlt : a.toNat < c.funs.length := by omega
    have e2 : (c.funs.getD a.toNat nofn) = c.funs[a.toNat] := by rw [List.getD_eq_getElem?_getD, List.getElem?_eq_getElem hlt]; rfl
    unfold frOf
    rw [e2]
    exact (hok _ (List.getElem_mem hlt)).1
  refine ⟨h13, ?_, ?_, ?_, hpt⟩
  · intro e; subst e
    simp [opOf, opB] at hz
    have := h3 (by decide) (by decide)
    omega
  · intro e
    have h4 := h3 (by omega) (by omega)
    rcases e with e | e | e <;> subst e <;> simp [opOf, opB] at hz <;> omega
  · unfold tkB
    split
    · omega
    · split
      · rename_i e; have := h3 (by omega) (by omega); omega
      · split
        · rename_i e; exact hfr e
        · split
          · omega
          · split
            · split <;> omega
            · omega

/-- the world in the second loop's round -/
structure St (wo W : World) (m bx bn bj : Nat) (K : KK) (op oa ob : Int) (nx jx : Int × Int) : Prop where
  im : IMapAt W m (encK K)
  gr : wo.grownBy W (some m)
  x : W.heap[bx]? = some (.cells #[.int .i64 op, .int .i64 oa, .int .i64 ob] 50 (0, 0))
  n : W.heap[bn]? = some (.cells #[.int .i64 nx.1, .int .i64 nx.2] 85 (0, 0))
  j : W.heap[bj]? = some (.cells #[.int .i64 jx.1, .int .i64 jx.2] 85 (0, 0))
  ne : bx ≠ m ∧ bn ≠ m ∧ bj ≠ m
theorem St.grown {wo W W' : World} {m bx bn bj : Nat} {K K' : KK} {op oa ob : Int} {nx jx : Int × Int} (h : St wo W m bx bn bj K op oa ob nx jx) (hI : IMapAt W' m (encK K')) (hg : W.grownBy W' (some m)) : St wo W' m bx bn bj K' op oa ob nx jx :=
  ⟨hI, grown_trans h.gr hg, blk_grown h.x hg (fun e => h.ne.1 (by cases e; rfl)), blk_grown h.n hg (fun e => h.ne.2.1 (by cases e; rfl)), blk_grown h.j hg (fun e => h.ne.2.2 (by cases e; rfl)), h.ne⟩
theorem St.below {wo W W' : World} {m bx bn bj : Nat} {K : KK} {op oa ob : Int} {nx jx : Int × Int} (h : St wo W m bx bn bj K op oa ob nx jx) (hb : Below W.heap.size W W') : St wo W' m bx bn bj K op oa ob nx jx :=
  h.grown (h.im.carry (hb.block _ h.im.lt)) ⟨hb.os, hb.tape, hb.output, hb.size, fun k hk _ => hb.block k hk⟩
theorem St.cells {wo W : World} {m bx bn bj : Nat} {K : KK} {op oa ob : Int} {nx jx : Int × Int} (h : St wo W m bx bn bj K op oa ob nx jx) :
    (W.cell? ⟨bx, 0, none⟩ = some (.int .i64 op) ∧ W.cell? ⟨bx, 1, none⟩ = some (.int .i64 oa) ∧ W.cell? ⟨bx, 2, none⟩ = some (.int .i64 ob)) ∧
    (W.cell? ⟨bn, 0, none⟩ = some (.int .i64 nx.1) ∧ W.cell? ⟨bn, 1, none⟩ = some (.int .i64 nx.2)) ∧ (W.cell? ⟨bj, 0, none⟩ = some (.int .i64 jx.1) ∧ W.cell? ⟨bj, 1, none⟩ = some (.int .i64 jx.2)) ∧
    (bx < W.heap.size ∧ bn < W.heap.size ∧ bj < W.heap.size ∧ m < W.heap.size) :=
  ⟨⟨blk_cell h.x 0, blk_cell h.x 1, blk_cell h.x 2⟩, ⟨blk_cell h.n 0, blk_cell h.n 1⟩, ⟨blk_cell h.j 0, blk_cell h.j 1⟩, lt_of_block h.x, lt_of_block h.n, lt_of_block h.j, h.im.lt⟩
theorem InvK.mono {k : Nat} {K : KK} (h : InvK k K) : InvK (k + 1) K := fun j s e => ⟨(h j s e).1, (h j s e).2.1, by have := (h j s e).2.2; omega⟩
theorem InvK.told {k p i : Nat} {K K' : KK} {s : Int × Int} (h : InvK k K) (hs : (0 ≤ s.1 ∧ s.1 ≤ 5000) ∧ (0 ≤ s.2 ∧ s.2 ≤ (k : Int))) (ht : toldK K p s i = some K') : InvK k K' := by
  unfold toldK at ht
  split at ht
  · split at ht
    · cases ht
      intro j r hr
      unfold updK at hr
      split at hr
      · cases hr; exact hs
      · exact h j r hr
    · cases ht
  · split at ht
    · cases ht; exact h
    · cases ht
/-- the end of a round: what follows -/
theorem St.ends {wo W w : World} {m bx bn bj : Nat} {K : KK} {op oa ob : Int} {nx jx : Int × Int} (h : St wo W m bx bn bj K op oa ob nx jx) (hb : Below w.heap.size w wo) (hm : w.heap.size ≤ m) (hw : w.heap.size ≤ wo.heap.size) : Below w.heap.size w W :=
  hb.grown h.gr hw (fun k hk => by cases hk; exact hm)

theorem SignsAt.below {w w' : World} (h : SignsAt w) (hb : Below w.heap.size w w') : SignsAt w' := fun k hk => (hb.cell (p := ⟨2, k, none⟩) (World.block_lt_of_cell? w _ (h k hk))).trans (h k hk)
end Go.Proofs.YtebappmamaafaaaDoor
