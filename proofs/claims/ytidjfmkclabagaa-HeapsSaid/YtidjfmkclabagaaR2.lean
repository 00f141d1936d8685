/-
  Proved: the contract of the iterator World.roots: it yields a pointer to each root, one behind the other. Condition: what its premises say.
-/
import Derived.Test.YtidjfmkclabagaaR1
set_option linter.unusedSimpArgs false
set_option linter.unusedVariables false
namespace Go.Proofs.Ytidjfmkclabagaa
open Go.RowKit
attribute [local go_sem] Oper.semAt_some

/-- the roots' slice of a world, at block wb -/
def RootsRow (wb : Nat) (ao : Option Addr) (N cap : Nat) (W : World) : Prop := ∃ a b c, W.heap[wb]? = some (.cells #[a, b, .slice ao N cap, c] 34 (0, 0))
set_option maxRecDepth 100000 in
set_option maxHeartbeats 4000000 in
theorem roots_any (n : Nat) (hn : 1 ≤ n) (wb pb N cap : Nat) (ao : Option Addr) (hao : 0 < N → ao = some ⟨pb, 0, none⟩) (hN : N ≤ 1000000000000000) (l : Nat) (J : Nat → World → Prop) (W : World) (hRow : ∀ k W1, J k W1 → RootsRow wb ao N cap W1)
    (hY : ∀ k W1, k < N → J k W1 → YieldAt Fence.wide (n - 1) Try.prog l #[.pointer (some ⟨pb, k * 2, none⟩)] W1 fun e W' => e = .returned (.bool true) ∧ J (k + 1) W') (h0 : J 0 W) :
    CallsIn Fence.wide n Try.prog 10 #[.pointer (some ⟨wb, 0, none⟩), .func (.yield l) #[] #[]] W fun e W' => (∃ v, e = .returned v) ∧ J N W' := by
  have HY := Lib.hid hY
  have HR := Lib.hid hRow
  clear hY hRow
  refine callsIn_of_wp Try.func10 rfl trivial ?_ rfl
  simp only [Try.ntmps10, List.size_toArray, List.length_cons, List.length_nil, Nat.reduceAdd, Nat.reduceSub, Array.replicate_succ, Array.replicate_zero, List.push_toArray, List.append_toArray, List.nil_append, List.cons_append]
  gi_wp2
  gi_loopw [4] (fun i wr => ∃ k : Nat, k ≤ N ∧ i = .int .i64 k ∧ J k wr) (fun i _ => N - (intOf i).toNat)
  case atStart => exact ⟨0, Nat.zero_le _, rfl, h0⟩
  case round =>
    obtain ⟨k, hk, rfl, hJ⟩ := hrel
    obtain ⟨va, vb, vc, hrow⟩ := HR.out k wr hJ
    have c2 : wr.cell? ⟨wb, 2, none⟩ = some (.slice ao N cap) := blk_cell hrow 2
    by_cases hlt : k < N
    · have hd : decide ((k : Int) < (N : Int)) = true := by simp; omega
      have hx : ∀ w' : World, (Instr.indexAt 32 (.slice ao N cap) (.int .i64 k)).run Try.prog w' = .ok (.pointer (some ⟨pb, k * 2, none⟩)) w' := by
        intro w'
        have h := index_at Try.underlying32 size49 (hao (by omega)) N cap k hlt w'
        rwa [Nat.zero_add] at h
      obtain ⟨fn, tmps, assign, body, hy, hR⟩ := HY.out k wr hlt hJ
      clear hrow
      gi_wp2
      refine hR.mono ?_
      rintro e W3 ⟨rfl, hJ3⟩
      gi_wp2
      go_roundw
      case rel => exact ⟨k + 1, hlt, by go_num, hJ3⟩
      case measure => simp [intOf]; omega
    · have hd : decide ((k : Int) < (N : Int)) = false := by simp; omega
      obtain rfl : k = N := by omega
      clear hrow
      gi_wp2
      go_end0
      exact ⟨⟨_, rfl⟩, hJ⟩
end Go.Proofs.Ytidjfmkclabagaa
