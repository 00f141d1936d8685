/-
  Proved: the contract of the reference's proper. Condition: at most 150 parts are left.
-/
import Derived.Test.YtcieoelogocjkaaP1
set_option linter.unusedSimpArgs false
set_option linter.unusedVariables false
namespace Go.Proofs.Ytcieoelogocjkaa
open Go.RowKit

mutual
/-- what the reference's proper answers -/
def refP : Pt → Int → Int
  | .mk k n o a s kids, left => if okP (.mk k n o a s kids) = true then refL kids (left - 1) else -1
def refL : List Pt → Int → Int
  | [], left => left
  | p :: ps, left => if 0 ≤ left then refL ps (refP p left) else left
end
mutual
theorem refP_le : ∀ (p : Pt) (left : Int), 0 ≤ left → refP p left ≤ left ∧ -1 ≤ refP p left
  | .mk k n o a s kids, left, h => by
    rw [refP]
    split
    · have := refL_le kids (left - 1) (by omega); omega
    · omega
theorem refL_le : ∀ (l : List Pt) (left : Int), -1 ≤ left → refL l left ≤ left ∧ -1 ≤ refL l left
  | [], left, h => by rw [refL]; omega
  | p :: ps, left, h => by
    rw [refL]
    split
    · rename_i h0
      have h1 := refP_le p left h0
      have h2 := refL_le ps (refP p left) h1.2
      omega
    · omega
end

set_option maxRecDepth 100000 in
set_option maxHeartbeats 4000000 in
theorem rproper_any : ∀ (f : Nat) (p : Pt), parts p ≤ f → ∀ (D : Nat → Prop) (ao : Option Addr) (cap : Nat) (left : Int) (w : World), (∀ c, D c → c < w.heap.size) → SlD w D p.kids ao cap → 0 ≤ left → left ≤ 150 → Fits p →
    Calls Try.prog 19 #[.agg (rowOf p ao cap), .int .i64 left] w fun e w' => e = .returned (.int .i64 (refP p left)) ∧ Below w.heap.size w w' := by
  intro f
  induction f with
  | zero => intro p hp; cases p; rw [parts] at hp; omega
  | succ f IH =>
    intro p hp D ao cap left w hD hv h0 h150 hfit
    obtain ⟨k, n, o, a, s, kids⟩ := p
    obtain ⟨c, hc⟩ : ∃ c, c = kids.length := ⟨_, rfl⟩
    have hkl := hfit.len
    simp only [Pt.kids] at hkl hv
    have HC := Lib.hid hc
    have HP := Lib.hid hp
    have HFIT := Lib.hid hfit
    have HIH := Lib.hid IH
    have HD := Lib.hid hD
    have HV := Lib.hid hv
    rw [← hc] at hkl
    unfold rowOf
    simp only [Pt.k, Pt.n, Pt.o, Pt.a, Pt.s, Pt.kids]
    rw [← hc]
    obtain ⟨W1, hW⟩ : ∃ W1, W1 = w.alloc (.cells #[.int .i64 k, .int .i64 n, .int .i64 o, .int .i64 a, .string s, .slice ao c cap] 26) := ⟨_, rfl⟩
    have hrow : W1.heap[w.heap.size]? = some (.cells #[.int .i64 k, .int .i64 n, .int .i64 o, .int .i64 a, .string s, .slice ao c cap] 26 (0, 0)) := by rw [hW]; exact heap_alloc_new w _
    have hBW : Below w.heap.size w W1 := by rw [hW]; exact balloc (Below.refl _ _) _
    have c0 : W1.cell? ⟨w.heap.size, 0, none⟩ = some (.int .i64 k) := blk_cell hrow 0
    have c1 : W1.cell? ⟨w.heap.size, 1, none⟩ = some (.int .i64 n) := blk_cell hrow 1
    have c2 : W1.cell? ⟨w.heap.size, 2, none⟩ = some (.int .i64 o) := blk_cell hrow 2
    have c5 : W1.cell? ⟨w.heap.size, 5, none⟩ = some (.slice ao c cap) := blk_cell hrow 5
    have HW := Lib.hid hW
    have HROW := Lib.hid hrow
    have HBW := Lib.hid hBW
    clear IH hD hv hc hp hfit hW hrow hBW
    go_enter Try.func19, Try.ntmps19
    go_upto_region 1 with fail
    rw [← HW.out]
    go_upto_block 0 with fail
    obtain ⟨ok, hok⟩ : ∃ ok, ok = okP (.mk k n o a s kids) := ⟨_, rfl⟩
    have HOK := Lib.hid hok
    clear hok
    go_cut [6] (fun v wx => v = .bool ok ∧ wx = W1)
    case first =>
      by_cases hk0 : k = 0
      · subst hk0
        go_wp2_with fail
        go_meet
        refine ⟨?_, rfl⟩
        rw [HOK.out, show okP (.mk 0 n o a s kids) = decide (kids.length = 0) from rfl, ← HC.out, beq0]
      by_cases hk1 : k = 1
      · subst hk1
        go_wp2_with fail
        go_meet
        refine ⟨?_, rfl⟩
        rw [HOK.out, show okP (.mk 1 n o a s kids) = decide (kids.length = 0) from rfl, ← HC.out, beq0]
      by_cases hk3 : k = 3
      · subst hk3
        go_wp2_with fail
        go_meet
        refine ⟨?_, rfl⟩
        rw [HOK.out, show okP (.mk 3 n o a s kids) = decide (kids.length = 0) from rfl, ← HC.out, beq0]
      by_cases hk4 : k = 4
      · subst hk4
        go_wp2_with fail
        go_meet
        refine ⟨?_, rfl⟩
        rw [HOK.out, show okP (.mk 4 n o a s kids) = decide (kids.length = 0) from rfl, ← HC.out, beq0]
      by_cases hk2 : k = 2
      · subst hk2
        go_wp2_with fail
        go_meet
        refine ⟨?_, rfl⟩
        rw [HOK.out, show okP (.mk 2 n o a s kids) = decide (kids.length = 1) from rfl, ← HC.out, beq1]
      by_cases hk5 : k = 5
      · subst hk5
        go_wp2_with fail
        go_meet
        refine ⟨?_, rfl⟩
        rw [HOK.out, show okP (.mk 5 n o a s kids) = decide (kids.length ≠ 1) from rfl, ← HC.out, bne1]
      by_cases hk7 : k = 7
      · subst hk7
        go_wp2_with fail
        go_meet
        refine ⟨?_, rfl⟩
        rw [HOK.out, show okP (.mk 7 n o a s kids) = decide (kids.length ≤ 1) from rfl, ← HC.out, ble1]
      by_cases hk6 : k = 6
      · subst hk6
        have he : okP (.mk 6 n o a s kids) = decide (c ≤ 1 ∧ 0 ≤ n ∧ n < o) := by rw [HC.out]; rfl
        have HE := Lib.hid he
        clear he
        by_cases h1 : c ≤ 1
        · have d1 : decide ((c : Int) ≤ 1) = true := by simp; omega
          by_cases h2 : 0 ≤ n
          · have d2 : decide ((0 : Int) ≤ n) = true := by simp; omega
            go_wp2_with fail
            go_meet
            refine ⟨?_, rfl⟩
            rw [HOK.out, HE.out]
            simp [h1, h2]
          · have d2 : decide ((0 : Int) ≤ n) = false := by simp; omega
            go_wp2_with fail
            go_meet
            refine ⟨?_, rfl⟩
            rw [HOK.out, HE.out]
            simp [h1]
            omega
        · have d1 : decide ((c : Int) ≤ 1) = false := by simp; omega
          go_wp2_with fail
          go_meet
          refine ⟨?_, rfl⟩
          rw [HOK.out, HE.out]
          simp [h1]
      have d0 : (k == 0) = false := by simp [hk0]
      have d1 : (k == 1) = false := by simp [hk1]
      have d2 : (k == 2) = false := by simp [hk2]
      have d3 : (k == 3) = false := by simp [hk3]
      have d4 : (k == 4) = false := by simp [hk4]
      have d5 : (k == 5) = false := by simp [hk5]
      have d6 : (k == 6) = false := by simp [hk6]
      have d7 : (k == 7) = false := by simp [hk7]
      have he : okP (.mk k n o a s kids) = false := by simp [okP, Pt.k, *]
      have HE := Lib.hid he
      clear he hk0 hk1 hk2 hk3 hk4 hk5 hk6 hk7
      go_wp2_with fail
      go_meet
      exact ⟨by rw [HOK.out, HE.out], rfl⟩
    case rest =>
      obtain ⟨rfl, rfl⟩ := hcut
      clear c0 c1 c2
      have hpl1 : refP (.mk k n o a s kids) left = if ok = true then refL kids (left - 1) else -1 := by rw [refP, ← HOK.out]
      have HPL1 := Lib.hid hpl1
      have lW1 : w.heap.size < wc.heap.size := lt_of_block HROW.out
      clear hpl1
      cases hok : ok with
      | false =>
        subst hok
        go_wp2_with fail
        go_ret
        exact ⟨by rw [HPL1.out]; rfl, HBW.out⟩
      | true =>
        subst hok
        have hpl2 : refP (.mk k n o a s kids) left = refL kids (left - 1) := HPL1.out.trans (if_pos rfl)
        have HPL2 := Lib.hid hpl2
        clear hpl2
        go_wp2_with fail
        go_loopw [1, 7] (fun v i wr => ∃ (j : Nat) (l' : Int), j ≤ c ∧ v = .int .i64 l' ∧ i = .int .i64 j ∧ refL kids (left - 1) = refL (kids.drop j) l' ∧ -1 ≤ l' ∧ l' ≤ 150 ∧ Below wc.heap.size wc wr) (fun _ i _ => c - (intOf i).toNat)
        case atStart => exact ⟨0, left - 1, Nat.zero_le _, rfl, rfl, rfl, by omega, by omega, Below.refl _ _⟩
        case round =>
          obtain ⟨j, l', hj, rfl, rfl, hpe, hl1, hl2, hbr⟩ := hrel
          have HPE := Lib.hid hpe
          have HBR := Lib.hid hbr
          have hszr := hbr.size
          have y5 : wr.cell? ⟨w.heap.size, 5, none⟩ = some (.slice ao c cap) := (hbr.cell (p := ⟨w.heap.size, _, none⟩) lW1).trans (blk_cell HROW.out 5)
          clear hpe hbr
          by_cases hlt : j < c
          · have hd : decide ((j : Int) < (c : Int)) = true := by simp; omega
            have hjk : j < kids.length := by rw [← HC.out]; exact hlt
            obtain ⟨q, hq⟩ : ∃ q, q = kids[j] := ⟨_, rfl⟩
            have hdrop : kids.drop j = q :: kids.drop (j + 1) := by rw [hq]; exact List.drop_eq_getElem_cons hjk
            have hpe := HPE.out
            rw [hdrop, refL] at hpe
            by_cases hl0 : 0 ≤ l'
            · have hd2 : decide ((0 : Int) ≤ l') = true := by simp; omega
              rw [if_pos hl0] at hpe
              have hvr : SlD wr D kids ao cap := HV.out.keep fun d hd' off => (below_cells HBR.out d (Nat.lt_trans (HD.out d hd') lW1) off).trans (below_cells HBW.out d (HD.out d hd') off)
              obtain ⟨g, off, row, ha, hDg, hrow, hpv⟩ := hvr.2.get (k := j) hjk
              obtain ⟨aq, cq, rfl, hkq⟩ := hpv.row
              rw [← hq] at hrow hkq
              have hix : ∀ w' : World, (Instr.indexAt 23 (.slice ao c cap) (.int .i64 j)).run Try.prog w' = .ok (.pointer (some ⟨g, off + j * 6, none⟩)) w' := fun w' => index_at Try.underlying23 size26 ha c cap j hlt w'
              rw [Nat.zero_add] at hrow
              obtain ⟨p0, hp0⟩ : ∃ p0, p0 = off + j * 6 := ⟨_, rfl⟩
              rw [← hp0] at hix hrow
              have x0 : wr.cell? ⟨g, p0, none⟩ = some (.int .i64 q.k) := hrow 0 (by omega)
              have x1 : wr.cell? ⟨g, p0 + 1, none⟩ = some (.int .i64 q.n) := hrow 1 (by omega)
              have x2 : wr.cell? ⟨g, p0 + 2, none⟩ = some (.int .i64 q.o) := hrow 2 (by omega)
              have x3 : wr.cell? ⟨g, p0 + 3, none⟩ = some (.int .i64 q.a) := hrow 3 (by omega)
              have x4 : wr.cell? ⟨g, p0 + 4, none⟩ = some (.string q.s) := hrow 4 (by omega)
              have x5 : wr.cell? ⟨g, p0 + 5, none⟩ = some (.slice aq q.kids.length cq) := hrow 5 (by omega)
              have hpart : parts q ≤ f ∧ Fits q := by
                have h1 := HP.out
                rw [parts] at h1
                have h3 := parts_mem (l := kids) (p := q) (by rw [hq]; exact List.getElem_mem _)
                exact ⟨by omega, fitsL_get HFIT.out.kids (by rw [hq]; exact List.getElem_mem _)⟩
              have hle := refP_le q l' hl0
              have HPT := Lib.hid hpart
              have HPE2 := Lib.hid hpe
              have HKQ := Lib.hid hkq
              have HL0 := Lib.hid hl0
              clear ha hrow hpv hkq hq hp0 hdrop hpe hvr hDg hpart hl0 hjk
              go_wp2_with fail
              refine (HIH.out q HPT.out.1 D aq cq l' wr (fun d hd' => Nat.lt_of_lt_of_le (Nat.lt_trans (HD.out d hd') lW1) hszr) HKQ.out HL0.out hl2 HPT.out.2).mono ?_
              rintro e w3 ⟨rfl, hb3⟩
              obtain ⟨l2, hl2'⟩ : ∃ l2, l2 = refP q l' := ⟨_, rfl⟩
              rw [← hl2'] at hle ⊢
              have hpe3 := HPE2.out
              rw [← hl2'] at hpe3
              have HPE3 := Lib.hid hpe3
              have HB3 := Lib.hid (HBR.out.trans (hb3.mono hszr))
              clear hb3 hl2' hpe3 x0 x1 x2 x3 x4 x5 y5 hix
              go_wp2_with fail
              go_roundw
              case rel => exact ⟨j + 1, l2, hlt, rfl, by go_num, HPE3.out, hle.2, by omega, HB3.out⟩
              case measure => simp [intOf]; omega
            · have hd2 : decide ((0 : Int) ≤ l') = false := by simp; omega
              rw [if_neg hl0] at hpe
              have HPE2 := Lib.hid hpe
              clear hpe hdrop hq
              go_wp2_with fail
              go_ret
              exact ⟨by rw [HPL2.out, HPE2.out]; rfl, HBW.out.trans (HBR.out.mono (Nat.le_of_lt lW1))⟩
          · have hd : decide ((j : Int) < (c : Int)) = false := by simp; omega
            have hjc : j = kids.length := by rw [← HC.out]; omega
            have hfin := HPE.out
            rw [hjc, List.drop_length, refL] at hfin
            have HFIN := Lib.hid hfin
            clear hfin hjc
            go_wp2_with fail
            go_ret
            exact ⟨by rw [HPL2.out, HFIN.out]; rfl, HBW.out.trans (HBR.out.mono (Nat.le_of_lt lW1))⟩
end Go.Proofs.Ytcieoelogocjkaa
