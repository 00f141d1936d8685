/-
  Proved: one cell out of a row (two appends onto a fresh row), as a step of a region that draws. No condition.
-/
import Derived.Test.YtidjfmkclabagaaE5
import Derived.Deep.RegionHeldLaw
set_option linter.unusedSimpArgs false
set_option linter.unusedVariables false
namespace Go.Proofs.Ytidjfmkclabagaa
open Go.RowKit

theorem step_app {P : Program} {ops : Array Oper} {o : Oper} {a : Act} {w : World} {K : Act → World → Prop} {Q : Exit → Act → World → Prop} {E : Prop} (hgd : o.guard = none) (s x : Operand) (t : TypeId)
    (ho : o.op = .call { callee := .builtin .append, args := #[s, x], argTypes := #[t, t] })
    (base : Nat) (e : TypeId) (i : TypeInfo) (z : Value) (size bytes : Nat) (ht : P.underlying t = some (.slice e)) (hi : P.info? e = some i) (hz : i.zero = some z)
    (hsize : i.size = size) (hby : i.bytes = bytes) (hzs : z.cells.size = size) (hsz : 0 < size)
    (g0 n c0 : Nat) (xs : List Value) (hs : a.eval s = .slice (some ⟨g0, 0, none⟩) n c0) (hown : w.ownsRow base e size (.slice (some ⟨g0, 0, none⟩) n c0) n xs)
    (ad : Addr) (m c : Nat) (news : List Value) (hx : a.eval x = .slice (some ad) m c) (hl : news.length = m * size) (hnews : ∀ j u, news[j]? = some u → w.cell? (ad.add j) = some u) (h1 : ∀ u ∈ news, u.oneCell' = true)
    (h63 : n + m ≤ maxLen) (hbytes : (n + m) * bytes ≤ 140737488355328) (hbase : base ≤ w.heap.size)
    (h : ∀ g cap w', w'.ownsRow base e size (.slice (some ⟨g, 0, none⟩) (n + m) cap) (n + m) (xs ++ news) → w.grownBy w' (some g0) → (g = g0 ∨ g = w.heap.size) → g < w'.heap.size → K (a.put o.dst (.slice (some ⟨g, 0, none⟩) (n + m) cap)) w') :
    if Region.wanted o (yielded ops a.tmps) = true then Oper.wp P o a w K Q else E := by
  by_cases hm : m = 0
  · subst hm
    have hn : news = [] := List.eq_nil_of_length_eq_zero (by simpa using hl)
    subst hn
    have hw : Region.wanted o (yielded ops a.tmps) = true := by simp [Region.wanted, hgd]
    rw [if_pos hw]
    have hr := run_append_zero (P := P) (w := w) base t o.type e i size ht hi _ n xs hown (some ad) c
    unfold Oper.wp execOp
    simp only [ho, resolve, invoke, builtin, Sem.run_bind, Sem.run_pure, Result.andThen_ok, List.map_toArray, List.map_cons, List.map_nil, hs, hx, hr]
    exact h g0 c0 w (by simpa using hown) (World.grownBy.refl _ _) (.inl rfl) (hown.lt g0 rfl).2
  · refine step_append_lies w hgd s x t ho base e i z size bytes ht hi hz hsize hby hzs hsz _ n xs hs hown ad m c news hx hl hnews h1 (by omega) h63 hbytes hbase w.heap.size rfl ?_
    intro g cap w' h2 h3 h4 h5
    exact h g cap w' h2 h3 (by rcases h4 with h4 | h4; exact .inl (Option.some.inj h4).symm; exact .inr h4) h5
/-- where a slice's end begins -/
def tailAt (pb cap i : Nat) : Addr := if cap = i + 1 then ⟨pb, 0, none⟩ else ⟨pb, (i + 1) * 2, none⟩
theorem head_slice (pb n cap i : Nat) (hi : i < n) (hc : n ≤ cap) (w : World) : (Instr.slice 32 (.slice (some ⟨pb, 0, none⟩) n cap) none (some (.int .i64 (i : Int))) none).run Try.prog w = .ok (.slice (some ⟨pb, 0, none⟩) i cap) w := by
  rw [run_slice_h w 32 (some ⟨pb, 0, none⟩) n cap Try.underlying32 .i64 (i : Int) (by omega) (by omega)]
  have he : (sizeOf (Try.prog.elem 32)).run Try.prog w = .ok 2 w := size49 w
  rw [he]
  simp [sliced, Result.andThen, Addr.add]
theorem tail_slice (pb n cap i : Nat) (hi : i < n) (hc : n ≤ cap) (w : World) : (Instr.slice 32 (.slice (some ⟨pb, 0, none⟩) n cap) (some (.int .i64 ((i : Int) + 1))) none none).run Try.prog w = .ok (.slice (some (tailAt pb cap i)) (n - (i + 1)) (cap - (i + 1))) w := by
  rw [run_slice_l w 32 (some ⟨pb, 0, none⟩) n cap Try.underlying32 .i64 ((i : Int) + 1) (by omega) (by omega)]
  have he : (sizeOf (Try.prog.elem 32)).run Try.prog w = .ok 2 w := size49 w
  have e : ((i : Int) + 1).toNat = i + 1 := by omega
  rw [he]
  simp only [Result.andThen, sliced, e, tailAt]
  by_cases h : cap = i + 1
  · simp [h]
  · simp [h, Addr.add]
theorem rsim_out {ρ : Nat → Nat → Prop} {p q : List C} (h : RSim ρ p q) (i : Nat) : RSim ρ (p.take i ++ p.drop (i + 1)) (q.take i ++ q.drop (i + 1)) := by
  have e := h.len
  refine ⟨by simp only [List.length_append, List.length_take, List.length_drop]; omega, fun j hj hj' => ?_⟩
  simp only [List.length_append, List.length_take, List.length_drop] at hj hj'
  by_cases hji : j < i
  · rw [List.getElem_append_left (by simp; omega), List.getElem_append_left (by simp; omega), List.getElem_take, List.getElem_take]
    exact h.c j (by omega) (by omega)
  · have l1 : (p.take i).length = i := by simp; omega
    have l2 : (q.take i).length = i := by simp; omega
    rw [List.getElem_append_right (by omega), List.getElem_append_right (by omega), List.getElem_drop, List.getElem_drop]
    simp only [l1, l2]
    exact h.c _ _ _
/-- what both appends read -/
theorem head_news {w : World} {pb cap : Nat} {l : List C} (h : Rw w (.slice (some ⟨pb, 0, none⟩) l.length cap) l) (i : Nat) : ∀ j u, (cv (l.take i))[j]? = some u → w.cell? ((⟨pb, 0, none⟩ : Addr).add j) = some u := by
  intro j u hu
  rcases h.2 with ⟨h0, _⟩ | ⟨g, cap, cur, h0, hB, hg, hc, hm, hs, ht⟩
  · cases h0
  · simp only [Value.slice.injEq, Option.some.injEq, Addr.mk.injEq] at h0
    obtain ⟨⟨rfl, _⟩, _, rfl⟩ := h0
    have e : (⟨pb, 0, none⟩ : Addr).add j = ⟨pb, j, none⟩ := by unfold Addr.add; split <;> simp_all
    rw [e, blk_cell hg]
    rw [← cv_take, ← ht] at hu
    rw [List.take_take, List.getElem?_take] at hu
    split at hu
    · simpa using hu
    · cases hu
theorem tail_news {w : World} {pb cap : Nat} {l : List C} (h : Rw w (.slice (some ⟨pb, 0, none⟩) l.length cap) l) (i : Nat) (hi : i < l.length) : ∀ j u, (cv (l.drop (i + 1)))[j]? = some u → w.cell? ((tailAt pb cap i).add j) = some u := by
  intro j u hu
  rcases h.2 with ⟨h0, _⟩ | ⟨g, cap, cur, h0, hB, hg, hc, hm, hs, ht⟩
  · cases h0
  · simp only [Value.slice.injEq, Option.some.injEq, Addr.mk.injEq] at h0
    obtain ⟨⟨rfl, _⟩, _, rfl⟩ := h0
    rw [← cv_drop, ← ht, List.getElem?_drop, List.getElem?_take] at hu
    split at hu
    · rename_i hlt
      unfold tailAt
      by_cases hce : cap = i + 1
      · omega
      · rw [if_neg hce]
        have e : (⟨pb, (i + 1) * 2, none⟩ : Addr).add j = ⟨pb, (i + 1) * 2 + j, none⟩ := by unfold Addr.add; split <;> simp_all
        rw [e, blk_cell hg]
        simpa using hu
    · cases hu
end Go.Proofs.Ytidjfmkclabagaa
