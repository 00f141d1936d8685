/-
  Proved: the contract of the law's count. Condition: what fits a machine.
-/
import Derived.Test.YtcieoelogocjkaaS3
set_option linter.unusedSimpArgs false
set_option linter.unusedVariables false
namespace Go.Proofs.Ytcieoelogocjkaa
open Go.RowKit

theorem partsL_take {l : List Pt} {j : Nat} (hj : j < l.length) : partsL (l.take (j + 1)) = partsL (l.take j) + parts l[j] := by
  rw [List.take_succ_eq_append_getElem hj]
  have app : ∀ (a b : List Pt), partsL (a ++ b) = partsL a + partsL b := by
    intro a b
    induction a with
    | nil => simp [partsL]
    | cons x xs ih => rw [List.cons_append, partsL, partsL, ih]; omega
  rw [app]
  simp [partsL]
set_option maxRecDepth 100000 in
set_option maxHeartbeats 4000000 in
theorem count_any : ∀ (f : Nat) (p : Pt), parts p ≤ f → ∀ (ao : Option Addr) (cap : Nat) (w : World), SlV w w.heap.size p.kids ao cap → parts p ≤ 1000000000 →
    Calls Try.prog 10 #[.agg (rowOf p ao cap)] w fun e w' => e = .returned (.int .i64 (parts p)) ∧ Below w.heap.size w w' := by
  intro f
  induction f with
  | zero => intro p hp; cases p; rw [parts] at hp; omega
  | succ f IH =>
    intro p hp ao cap w hv hpb
    obtain ⟨k, n, o, a, s, kids⟩ := p
    obtain ⟨c, hc⟩ : ∃ c, c = kids.length := ⟨_, rfl⟩
    simp only [Pt.kids] at hv
    have hcb : c ≤ 1000000000 := by
      have := len_partsL kids
      rw [parts] at hpb
      omega
    have HC := Lib.hid hc
    have HP := Lib.hid hp
    have HPB := Lib.hid hpb
    have HIH := Lib.hid IH
    have HV := Lib.hid hv
    rw [show rowOf (.mk k n o a s kids) ao cap = #[.int .i64 k, .int .i64 n, .int .i64 o, .int .i64 a, .string s, .slice ao c cap] from by rw [hc]; rfl]
    obtain ⟨ans, hans⟩ : ∃ ans : Nat, ans = parts (.mk k n o a s kids) := ⟨_, rfl⟩
    rw [← hans]
    have HANS := Lib.hid hans
    obtain ⟨W, hW⟩ : ∃ W, W = w.alloc (.cells #[.int .i64 k, .int .i64 n, .int .i64 o, .int .i64 a, .string s, .slice ao c cap] 26) := ⟨_, rfl⟩
    have hrow : W.heap[w.heap.size]? = some (.cells #[.int .i64 k, .int .i64 n, .int .i64 o, .int .i64 a, .string s, .slice ao c cap] 26 (0, 0)) := by rw [hW]; exact heap_alloc_new w _
    have hBW : Below w.heap.size w W := by rw [hW]; exact balloc (Below.refl _ _) _
    have lW : w.heap.size < W.heap.size := lt_of_block hrow
    have HW := Lib.hid hW
    have HROW := Lib.hid hrow
    have HBW := Lib.hid hBW
    clear IH hv hc hp hpb hW hrow hBW hans
    go_enter Try.func10, Try.ntmps10
    go_upto_region 1 with fail
    rw [← HW.out]
    go_wp2_with fail
    go_loopw [3, 4] (fun v i wr => ∃ j : Nat, j ≤ c ∧ i = .int .i64 j ∧ v = .int .i64 ((1 + partsL (kids.take j) : Nat) : Int) ∧ Below W.heap.size W wr) (fun _ i _ => c - (intOf i).toNat)
    case atStart => exact ⟨0, Nat.zero_le _, rfl, rfl, Below.refl _ _⟩
    case round =>
      obtain ⟨j, hj, rfl, rfl, hbr⟩ := hrel
      have HBR := Lib.hid hbr
      have hsr := hbr.size
      have y5 : wr.cell? ⟨w.heap.size, 5, none⟩ = some (.slice ao c cap) := (hbr.cell (p := ⟨w.heap.size, _, none⟩) lW).trans (blk_cell HROW.out 5)
      obtain ⟨m, hm⟩ : ∃ m, m = 1 + partsL (kids.take j) := ⟨_, rfl⟩
      rw [← hm]
      have HM := Lib.hid hm
      clear hbr hm
      by_cases hlt : j < c
      · have hd : decide ((j : Int) < (c : Int)) = true := by simp; omega
        have hjk : j < kids.length := by rw [← HC.out]; exact hlt
        obtain ⟨q, hq⟩ : ∃ q, q = kids[j] := ⟨_, rfl⟩
        obtain ⟨g, off, row, ha, hDg, hrow, hpv⟩ := (HV.out.keep (HBW.out.trans (HBR.out.mono (Nat.le_of_lt lW)))).2.get (k := j) hjk
        obtain ⟨aq, cq, rfl, hkq⟩ := hpv.row
        rw [← hq] at hrow hkq
        have hix : ∀ w' : World, (Instr.indexAt 23 (.slice ao c cap) (.int .i64 j)).run Try.prog w' = .ok (.pointer (some ⟨g, off + j * 6, none⟩)) w' := fun w' => index_at Try.underlying23 size26 ha c cap j hlt w'
        rw [Nat.zero_add] at hrow
        obtain ⟨p0, hp0⟩ : ∃ p0, p0 = off + j * 6 := ⟨_, rfl⟩
        rw [← hp0] at hix hrow
        have x0 : wr.cell? ⟨g, p0, none⟩ = some (.int .i64 q.k) := hrow 0 (by omega)
        have x1 : wr.cell? ⟨g, p0 + 1, none⟩ = some (.int .i64 q.n) := hrow 1 (by omega)
        have x2 : wr.cell? ⟨g, p0 + 2, none⟩ = some (.int .i64 q.o) := hrow 2 (by omega)
        have x3 : wr.cell? ⟨g, p0 + 3, none⟩ = some (.int .i64 q.a) := hrow 3 (by omega)
        have x4 : wr.cell? ⟨g, p0 + 4, none⟩ = some (.string q.s) := hrow 4 (by omega)
        have x5 : wr.cell? ⟨g, p0 + 5, none⟩ = some (.slice aq q.kids.length cq) := hrow 5 (by omega)
        have htk := partsL_take hjk
        rw [← hq] at htk
        have hall : partsL (kids.take (j + 1)) ≤ partsL kids := by
          have app : ∀ (a b : List Pt), partsL (a ++ b) = partsL a + partsL b := by
            intro a b
            induction a with
            | nil => simp [partsL]
            | cons x xs ih => rw [List.cons_append, partsL, partsL, ih]; omega
          have := app (kids.take (j + 1)) (kids.drop (j + 1))
          rw [List.take_append_drop] at this
          omega
        have hpart : parts q ≤ f ∧ parts q ≤ 1000000000 ∧ m + parts q ≤ 1000000000 := by
          have h1 := HP.out
          have h2 := HPB.out
          rw [parts] at h1 h2
          have h3 := HM.out
          omega
        obtain ⟨pq, hpq⟩ : ∃ pq, pq = parts q := ⟨_, rfl⟩
        have hmp : m + pq ≤ 1000000000 := by rw [hpq]; exact hpart.2.2
        have HPT := Lib.hid hpart
        have HTK := Lib.hid htk
        have HKQ := Lib.hid (SlD.mono hkq (fun b hb => Nat.lt_of_lt_of_le (show b < w.heap.size from hb) (Nat.le_trans (Nat.le_of_lt lW) hsr)))
        have HPQ := Lib.hid hpq
        clear ha hrow hpv hkq hq hp0 hDg htk hall hpart hpq hjk
        go_wp2_with fail
        refine (HIH.out q HPT.out.1 aq cq wr HKQ.out HPT.out.2.1).mono ?_
        rintro e w3 ⟨rfl, hb3⟩
        rw [← HPQ.out]
        have HB3 := Lib.hid (HBR.out.trans (hb3.mono hsr))
        clear hb3 x0 x1 x2 x3 x4 x5 y5 hix
        go_wp2_with fail
        go_roundw
        case rel =>
          refine ⟨j + 1, hlt, by go_num, ?_, HB3.out⟩
          rw [HTK.out, HM.out, HPQ.out]
          congr 1
          omega
        case measure => simp [intOf]; omega
      · have hd : decide ((j : Int) < (c : Int)) = false := by simp; omega
        have hans : m = ans := by rw [HM.out, HANS.out, show j = kids.length from by rw [← HC.out]; omega, List.take_length, parts]
        have HA := Lib.hid hans
        clear hans
        go_wp2_with fail
        go_ret
        exact ⟨by rw [HA.out]; rfl, HBW.out.trans (HBR.out.mono (Nat.le_of_lt lW))⟩
end Go.Proofs.Ytcieoelogocjkaa
