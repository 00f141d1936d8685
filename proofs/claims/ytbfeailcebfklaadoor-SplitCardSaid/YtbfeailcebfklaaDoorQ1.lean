/-
  Proved: the contracts of the scanner's has and while. Conditions: the table of sorts, a text of at most 4000 bytes below 128.
-/
import Derived.Test.YtbfeailcebfklaaDoorL5
import Derived.Test.YtbfeailcebfklaaDoorW
import Derived.Deep.DeepCutAuto
import Derived.Deep.CutBlock
import Derived.Deep.RegionHeld3
set_option linter.unusedSimpArgs false
set_option linter.unusedVariables false
namespace Go.Proofs.YtbfeailcebfklaaDoor
open Go.RowKit

/-- the scanner -/
def Scan (w : World) (b : Nat) (s : ByteArray) (i : Nat) : Prop := w.heap[b]? = some (.cells #[.string s, .int .i64 i] 36 (0, 0))
/-- the table of sorts -/
def Sorts (w : World) : Prop := ∀ k, k < 128 → w.cell? ⟨0, k, none⟩ = some (.int .i64 (srt k))
abbrev pv (b : Nat) : Value := .pointer (some ⟨b, 0, none⟩)
theorem Scan.lt {w : World} {b : Nat} {s : ByteArray} {i : Nat} (h : Scan w b s i) : b < w.heap.size := lt_of_block h
theorem Scan.below {w w' : World} {b : Nat} {s : ByteArray} {i : Nat} (h : Scan w b s i) (hb : Below w.heap.size w w') : Scan w' b s i := blk_below h hb h.lt
theorem Scan.set {w : World} {b : Nat} {s : ByteArray} {i : Nat} (h : Scan w b s i) (i' : Int) (k : Nat) (hk : i' = k) : Scan (w.setCell ⟨b, 1, none⟩ (.int .i64 i')) b s k := by
  subst hk; exact blk_set h 1 _
theorem Scan.drew {w : World} {b : Nat} {s : ByteArray} {i : Nat} (h : Scan w b s i) (n : Nat) : Scan (w.drewN n) b s i := h
def atOf (w : World) (b : Nat) : Nat := match w.cell? ⟨b, 1, none⟩ with | some (.int _ i) => i.toNat | _ => 0
theorem Scan.at {w : World} {b : Nat} {s : ByteArray} {i : Nat} (h : Scan w b s i) : atOf w b = i := by
  have r1 : w.cell? ⟨b, 1, none⟩ = some (.int .i64 i) := blk_cell h 1
  unfold atOf; rw [r1]; simp

theorem has_any (s t : ByteArray) (b i : Nat) (w : World) (hsc : Scan w b s i) (hs : s.size ≤ 4000) (hi : i ≤ s.size) (ht : t.size ≤ 4000) :
    Calls Tryd.prog 17 #[pv b, .string t] w fun e w' => e = .returned (.bool (atD s i t)) ∧ Below w.heap.size w w' := by
  have hlt := hsc.lt
  have r0 : w.cell? ⟨b, 0, none⟩ = some (.string s) := blk_cell hsc 0
  have r1 : w.cell? ⟨b, 1, none⟩ = some (.int .i64 i) := blk_cell hsc 1
  clear hsc
  have hw1 : IntKind.i64.wrap ((s.size : Int) - (i : Int)) = (s.size : Int) - i := IntWalk.i64_in _ (by omega)
  by_cases h : i + t.size ≤ s.size
  · have hd : decide ((t.size : Int) ≤ (s.size : Int) - (i : Int)) = true := by simp; omega
    have hd2 : decide ((s.size : Int) - (i : Int) < (t.size : Int)) = false := by simp; omega
    have hw2 : IntKind.i64.wrap ((i : Int) + t.size) = i + t.size := IntWalk.i64_in _ (by omega)
    have h0 : (0 : Int) ≤ (i : Int) := by omega
    have h1 : (i : Int) ≤ (i : Int) + t.size := by omega
    have h2 : (i : Int) + t.size ≤ (s.size : Int) := by omega
    go_enter Tryd.func17, Tryd.ntmps17
    go_wp2_with fail
    go_quiet (fail)
    go_wp2_with fail
    go_ret
    refine ⟨ret_bool ?_, (by exact bdrewN (Below.refl _ _) _)⟩
    rw [str_eq, Bool.eq_iff_iff]
    simp [atD, cut, h]
  · have hd : decide ((t.size : Int) ≤ (s.size : Int) - (i : Int)) = false := by simp; omega
    have hd2 : decide ((s.size : Int) - (i : Int) < (t.size : Int)) = true := by simp; omega
    go_enter Tryd.func17, Tryd.ntmps17
    go_wp2_with fail
    go_quiet (fail)
    go_wp2_with fail
    go_ret
    refine ⟨ret_bool ?_, (by exact bdrewN (Below.refl _ _) _)⟩
    simp [atD, h]

def inL (L : List Nat) (c : Nat) : Bool := L.any fun k => decide (c = k)
theorem inL_take (L : List Nat) (c k : Nat) (h : k < L.length) : inL (L.take (k + 1)) c = (inL (L.take k) c || decide (c = L.getD k 0)) := by
  unfold inL
  rw [List.take_succ_eq_append_getElem h, List.any_append]
  simp [List.getD, h]
def IntsAt (w : World) (q : Nat) (L : List Nat) : Prop := ∀ k, k < L.length → w.cell? ⟨q, k, none⟩ = some (.int .i64 (L.getD k 0 : Nat))
/-- nothing that a step needs is changed by what it does -/
theorem gr_cell {w w' : World} {b q k : Nat} {v : Value} (h : w.grownBy w' (some b)) (hne : q ≠ b) (hc : w.cell? ⟨q, k, none⟩ = some v) : w'.cell? ⟨q, k, none⟩ = some v := by
  have hl := World.block_lt_of_cell? w _ hc
  have e : w'.heap[q]? = w.heap[q]? := h.block q hl (fun e => hne (Option.some.inj e))
  unfold World.cell? at hc ⊢
  simp only at hc ⊢
  rw [e]
  exact hc
theorem gr_refl (w : World) (row : Option Nat) : w.grownBy w row := ⟨rfl, rfl, rfl, Nat.le_refl _, fun _ _ _ => rfl⟩

set_option maxRecDepth 100000 in
set_option maxHeartbeats 2000000 in
theorem while_any (s : ByteArray) (b q i0 : Nat) (L : List Nat) (p : Nat → Bool) (w : World) (hsc : Scan w b s i0) (hs : s.size ≤ 4000) (hi : i0 ≤ s.size) (hso : Sorts w) (hA : ∀ k, k < s.size → bt s k < 128) (hL : IntsAt w q L) (hq : q ≠ b) (hb : 0 ≠ b) (hn : L.length ≤ 4000) (hp : ∀ c, c < 128 → inL L (srt c) = p c) :
    Calls Tryd.prog 16 #[pv b, .slice (some ⟨q, 0, none⟩) L.length L.length] w fun e w' => e = .returned (.tuple #[]) ∧ Scan w' b s (whD s p i0) ∧ w.grownBy w' (some b) := by
  have HSC := Lib.hid hsc
  have HSO := Lib.hid hso
  have HL := Lib.hid hL
  have HP := Lib.hid hp
  clear hsc hso hL hp
  go_enter Tryd.func16, Tryd.ntmps16
  go_wp2_with fail
  go_loopw [] (fun wr => ∃ i : Nat, i ≤ s.size ∧ Scan wr b s i ∧ w.grownBy wr (some b) ∧ whD s p i = whD s p i0) (fun wr => s.size - atOf wr b)
  case atStart => exact ⟨i0, hi, HSC.out, gr_refl _ _, rfl⟩
  case round =>
    obtain ⟨i, hi, hsc, hgr, hst⟩ := hrel
    have r0 : wr.cell? ⟨b, 0, none⟩ = some (.string s) := blk_cell hsc 0
    have r1 : wr.cell? ⟨b, 1, none⟩ = some (.int .i64 i) := blk_cell hsc 1
    have z1 : wr.frozen? ⟨b, 1, none⟩ = false := blk_free hsc 1
    have hbl := hsc.lt
    have hat := hsc.at
    by_cases hlt : i < s.size
    · have h0 : (0 : Int) ≤ (i : Int) := by omega
      have h1 : (i : Int) < (s.size : Int) := by omega
      obtain ⟨c, hcb⟩ : ∃ c, c = bt s i := ⟨_, rfl⟩
      have hck := bt_eq hlt hcb
      have hc := hA i hlt
      rw [← hcb] at hc
      have hsr : wr.cell? ⟨0, c, none⟩ = some (.int .i64 (srt c)) := gr_cell hgr hb (HSO.out c hc)
      have HGR := Lib.hid hgr
      have HST := Lib.hid hst
      have HS := Lib.hid hsc
      have HC := Lib.hid hcb
      have HAT := Lib.hid hat
      clear hgr hst hsc hcb hat
      have c0 : (0 : Int) ≤ (c : Int) := by omega
      have c1 : (c : Int) < 128 := by omega
      go_wp2_with fail
      go_quiet (fail)
      go_wp2_with fail
      have hs1 := HS.out.drew nq
      have hg1 := gr_trans HGR.out (gr_drew wr nq (some b))
      clear HGR HS r0 r1 z1 hbl hsr
      generalize wr.drewN nq = w1 at hs1 hg1 ⊢
      have r0 : w1.cell? ⟨b, 0, none⟩ = some (.string s) := blk_cell hs1 0
      have r1 : w1.cell? ⟨b, 1, none⟩ = some (.int .i64 i) := blk_cell hs1 1
      have hsr : w1.cell? ⟨0, c, none⟩ = some (.int .i64 (srt c)) := gr_cell hg1 hb (HSO.out c hc)
      have hbl := hs1.lt
      have HS1 := Lib.hid hs1
      have HG1 := Lib.hid hg1
      clear hs1 hg1
      go_quiet (fail)
      go_wp2_with fail
      have hs2 := HS1.out.drew nq
      have hg2 := gr_trans HG1.out (gr_drew w1 nq (some b))
      clear HG1 HS1 r0 r1 hbl hsr
      generalize w1.drewN nq = w2 at hs2 hg2 ⊢
      have r0 : w2.cell? ⟨b, 0, none⟩ = some (.string s) := blk_cell hs2 0
      have r1 : w2.cell? ⟨b, 1, none⟩ = some (.int .i64 i) := blk_cell hs2 1
      have z1 : w2.frozen? ⟨b, 1, none⟩ = false := blk_free hs2 1
      have hbl : b < w2.heap.size := hs2.lt
      have HS2 := Lib.hid hs2
      have HG2 := Lib.hid hg2
      clear hs2 hg2 hck
      generalize hz : srt c = z
      have HZ := Lib.hid hz
      clear hz
      go_loop [5, 31] (fun v j => ∃ k : Nat, k ≤ L.length ∧ j = .int .i64 k ∧ v = .bool (inL (L.take k) z)) (fun _ j => L.length - (intOf j).toNat)
      case atStart => exact ⟨0, Nat.zero_le _, rfl, rfl⟩
      case round =>
        obtain ⟨k, hk, rfl, rfl⟩ := hrel
        by_cases hk2 : k < L.length
        · have hcell := gr_cell HG2.out hq (HL.out k hk2)
          have htk := inL_take L z k hk2
          generalize L.getD k 0 = g at hcell htk
          have HTK := Lib.hid htk
          clear htk
          have k0 : (0 : Int) ≤ (k : Int) := by omega
          have k1 : (k : Int) < (L.length : Int) := by omega
          cases hv : inL (L.take k) z with
          | true =>
            have HV := Lib.hid hv
            clear hv
            go_wp2_with fail
            go_round
            case rel => exact ⟨k + 1, by omega, by go_num, by rw [HTK.out, HV.out]; rfl⟩
            case measure => simp [intOf]; omega
          | false =>
            have HV := Lib.hid hv
            clear hv
            go_wp2_with fail
            go_round
            case rel => exact ⟨k + 1, by omega, by go_num, by rw [HTK.out, HV.out, Bool.false_or]; congr 1; rw [Bool.eq_iff_iff]; simp; omega⟩
            case measure => simp [intOf]; omega
        · obtain rfl : k = L.length := by omega
          have hpc := HP.out c hc
          rw [HZ.out] at hpc
          have k1 : ¬ (L.length : Int) < (L.length : Int) := by omega
          rw [List.take_length, hpc]
          have HPC := Lib.hid hpc
          clear hpc
          cases hv : p c with
          | true =>
            have hst := whD_step (s := s) (p := p) hlt (by rw [← HC.out]; exact hv)
            have HST2 := Lib.hid hst
            have hwx : IntKind.i64.wrap ((i : Int) + 1) = i + 1 := IntWalk.i64_in _ (by omega)
            clear hst
            go_wp2_with fail
            go_roundw
            case rel => exact ⟨i + 1, by omega, HS2.out.set _ _ (by push_cast; rfl), gr_trans HG2.out (gr_set _ _ _ _), by rw [← HST2.out]; exact HST.out⟩
            case measure => rw [(HS2.out.set _ (i + 1) (by push_cast; rfl)).at, HAT.out]; omega
          | false =>
            have hst := whD_stop (s := s) (p := p) hlt (by rw [← HC.out]; exact hv)
            have HST2 := Lib.hid hst
            clear hst
            go_wp2_with fail
            refine bodyPost_ret (results_none rfl _ _ _) rfl ?_
            exact ⟨rfl, by rw [← HST.out, HST2.out]; exact HS2.out, HG2.out⟩
    · have h1 : ¬ (i : Int) < (s.size : Int) := by omega
      have hend := whD_end (s := s) (p := p) (i := i) (by omega)
      rw [hend] at hst
      have HST := Lib.hid hst
      have HGR := Lib.hid hgr
      have HS := Lib.hid hsc
      clear hst hgr hsc hend hat
      have hd : decide ((i : Int) < (s.size : Int)) = false := by simp; omega
      go_wp2_with fail
      go_quiet (fail)
      go_wp2_with fail
      go_end0
      exact ⟨rfl, by rw [← HST.out]; exact HS.out.drew _, gr_trans HGR.out (gr_drew _ _ _)⟩

end Go.Proofs.YtbfeailcebfklaaDoor
