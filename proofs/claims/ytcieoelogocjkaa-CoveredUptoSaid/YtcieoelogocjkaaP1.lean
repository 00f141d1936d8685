/-
  Proved: the contract of the program's proper. Condition: at most 150 parts are left.
-/
import Derived.Test.YtcieoelogocjkaaG2
import Derived.Test.YtcieoelogocjkaaF
import Derived.Deep.DeepCutAuto
import Derived.Deep.CutBlock
set_option linter.unusedSimpArgs false
set_option linter.unusedVariables false
namespace Go.Proofs.Ytcieoelogocjkaa
open Go.RowKit

mutual
/-- may a pattern be, and how many parts are left behind it -/
def propP : Pt → Nat → Bool × Nat
  | .mk k n o a s kids, left => propL kids (okP (.mk k n o a s kids)) (left - 1)
def propL : List Pt → Bool → Nat → Bool × Nat
  | [], ok, left => (ok, left)
  | p :: ps, ok, left => if ok = true ∧ 0 < left then propL ps (propP p left).1 (propP p left).2 else propL ps false left
end
mutual
theorem propP_le : ∀ (p : Pt) (left : Nat), (propP p left).2 ≤ left
  | .mk k n o a s kids, left => by rw [propP]; have := propL_le kids (okP (.mk k n o a s kids)) (left - 1); omega
theorem propL_le : ∀ (l : List Pt) (ok : Bool) (left : Nat), (propL l ok left).2 ≤ left
  | [], ok, left => by rw [propL]; exact Nat.le_refl _
  | p :: ps, ok, left => by
    rw [propL]
    split
    · have h1 := propP_le p left
      have h2 := propL_le ps (propP p left).1 (propP p left).2
      omega
    · exact propL_le ps false left
end
theorem propL_append (l l' : List Pt) : ∀ (ok : Bool) (left : Nat), propL (l ++ l') ok left = propL l' (propL l ok left).1 (propL l ok left).2 := by
  induction l with
  | nil => intro ok left; rw [List.nil_append, propL]
  | cons p ps ih =>
    intro ok left
    rw [List.cons_append, propL, propL]
    split
    · exact ih _ _
    · exact ih _ _

theorem parts_mem {l : List Pt} {p : Pt} (h : p ∈ l) : parts p ≤ partsL l := by
  induction l with
  | nil => simp at h
  | cons x xs ih =>
    rw [partsL]
    rcases List.mem_cons.1 h with rfl | h
    · omega
    · have := ih h; omega
theorem len_partsL : ∀ (l : List Pt), l.length ≤ partsL l
  | [] => by simp
  | .mk k n o a s kids :: ps => by rw [partsL, parts]; have := len_partsL ps; simp only [List.length_cons]; omega
theorem kids_parts (p : Pt) : p.kids.length ≤ parts p := by cases p with | mk k n o a s kids => rw [parts]; have := len_partsL kids; simp only [Pt.kids]; omega
theorem beq0 (c : Nat) : (((c : Int) == 0) : Bool) = decide (c = 0) := by rw [Bool.eq_iff_iff]; simp
theorem beq1 (c : Nat) : (((c : Int) == 1) : Bool) = decide (c = 1) := by rw [Bool.eq_iff_iff]; simp; omega
theorem bne1 (c : Nat) : (((c : Int) != 1) : Bool) = decide (c ≠ 1) := by rw [Bool.eq_iff_iff]; simp; omega
theorem ble1 (c : Nat) : decide ((c : Int) ≤ 1) = decide (c ≤ 1) := by rw [Bool.eq_iff_iff]; simp; omega
set_option maxRecDepth 100000 in
set_option maxHeartbeats 4000000 in
theorem pproper_any : ∀ (f : Nat) (p : Pt), parts p ≤ f → ∀ (D : Nat → Prop) (ao : Option Addr) (cap b left : Nat) (w : World), (∀ c, D c → c < w.heap.size ∧ c ≠ b) → SlD w D p.kids ao cap → w.heap[b]? = some (.cells #[.int .i64 left] 3 (0, 0)) → 0 < left → left ≤ 150 → Fits p →
    Calls Try.prog 13 #[.agg (rowOf p ao cap), .pointer (some ⟨b, 0, none⟩)] w fun e w' => e = .returned (.bool (propP p left).1) ∧ w'.heap[b]? = some (.cells #[.int .i64 ((propP p left).2 : Nat)] 3 (0, 0)) ∧ w.grownBy w' (some b) := by
  intro f
  induction f with
  | zero => intro p hp; cases p; rw [parts] at hp; omega
  | succ f IH =>
    intro p hp D ao cap b left w hD hv hb h0 h150 hfit
    obtain ⟨k, n, o, a, s, kids⟩ := p
    obtain ⟨c, hc⟩ : ∃ c, c = kids.length := ⟨_, rfl⟩
    have hkl := hfit.len
    simp only [Pt.kids] at hkl hv
    have HC := Lib.hid hc
    have HP := Lib.hid hp
    have HFIT := Lib.hid hfit
    have HIH := Lib.hid IH
    have HD := Lib.hid hD
    have HV := Lib.hid hv
    have HB := Lib.hid hb
    rw [← hc] at hkl
    unfold rowOf
    simp only [Pt.k, Pt.n, Pt.o, Pt.a, Pt.s, Pt.kids]
    rw [← hc]
    obtain ⟨W, hW⟩ : ∃ W, W = w.alloc (.cells #[.int .i64 k, .int .i64 n, .int .i64 o, .int .i64 a, .string s, .slice ao c cap] 26) := ⟨_, rfl⟩
    have hrow : W.heap[w.heap.size]? = some (.cells #[.int .i64 k, .int .i64 n, .int .i64 o, .int .i64 a, .string s, .slice ao c cap] 26 (0, 0)) := by rw [hW]; exact heap_alloc_new w _
    have hbW : W.heap[b]? = some (.cells #[.int .i64 left] 3 (0, 0)) := by rw [hW]; exact blk_alloc hb _
    have hlb : b < w.heap.size := lt_of_block hb
    have y0 : W.cell? ⟨b, 0, none⟩ = some (.int .i64 left) := blk_cell hbW 0
    have z0 := blk_free hbW 0
    have lb : b < W.heap.size := lt_of_block hbW
    have HW := Lib.hid hW
    have HROW := Lib.hid hrow
    have HBW := Lib.hid hbW
    clear IH hD hv hb hc hp hfit hW hrow hbW
    go_enter Try.func13, Try.ntmps13
    go_upto_region 1 with fail
    rw [← HW.out]
    go_upto_region 2 with fail
    obtain ⟨l1, hl1⟩ : ∃ l1, l1 = left - 1 := ⟨_, rfl⟩
    have hli : (left : Int) - 1 = (l1 : Int) := by omega
    obtain ⟨W1, hW1⟩ : ∃ W1, W1 = W.setCell ⟨b, 0, none⟩ (.int .i64 ((left : Int) - 1)) := ⟨_, rfl⟩
    have hb1 : W1.heap[b]? = some (.cells #[.int .i64 l1] 3 (0, 0)) := by rw [hW1, ← hli]; exact blk_set HBW.out 0 _
    have hr1 : W1.heap[w.heap.size]? = some (.cells #[.int .i64 k, .int .i64 n, .int .i64 o, .int .i64 a, .string s, .slice ao c cap] 26 (0, 0)) := by rw [hW1]; exact blk_set_ne HROW.out (by omega) _ _
    have hg1 : w.grownBy W1 (some b) := by
      rw [hW1, HW.out]
      exact gr_trans (gr_below ((Below.refl _ _).alloc (Nat.le_refl _) _) _) (gr_set _ _ _ _)
    rw [← hW1]
    have c0 : W1.cell? ⟨w.heap.size, 0, none⟩ = some (.int .i64 k) := blk_cell hr1 0
    have c1 : W1.cell? ⟨w.heap.size, 1, none⟩ = some (.int .i64 n) := blk_cell hr1 1
    have c2 : W1.cell? ⟨w.heap.size, 2, none⟩ = some (.int .i64 o) := blk_cell hr1 2
    have c5 : W1.cell? ⟨w.heap.size, 5, none⟩ = some (.slice ao c cap) := blk_cell hr1 5
    have HL1 := Lib.hid hl1
    have HB1 := Lib.hid hb1
    have HR1 := Lib.hid hr1
    have HG1 := Lib.hid hg1
    clear y0 z0 lb hl1 hli hW1 hb1 hr1 hg1 HROW HBW HW
    go_upto_block 0 with fail
    obtain ⟨ok, hok⟩ : ∃ ok, ok = okP (.mk k n o a s kids) := ⟨_, rfl⟩
    have HOK := Lib.hid hok
    clear hok
    go_cut [6] (fun v wx => v = .bool ok ∧ wx = W1)
    case first =>
      by_cases hk0 : k = 0
      · subst hk0
        go_wp2_with fail
        go_meet
        refine ⟨?_, rfl⟩
        rw [HOK.out, show okP (.mk 0 n o a s kids) = decide (kids.length = 0) from rfl, ← HC.out, beq0]
      by_cases hk1 : k = 1
      · subst hk1
        go_wp2_with fail
        go_meet
        refine ⟨?_, rfl⟩
        rw [HOK.out, show okP (.mk 1 n o a s kids) = decide (kids.length = 0) from rfl, ← HC.out, beq0]
      by_cases hk3 : k = 3
      · subst hk3
        go_wp2_with fail
        go_meet
        refine ⟨?_, rfl⟩
        rw [HOK.out, show okP (.mk 3 n o a s kids) = decide (kids.length = 0) from rfl, ← HC.out, beq0]
      by_cases hk4 : k = 4
      · subst hk4
        go_wp2_with fail
        go_meet
        refine ⟨?_, rfl⟩
        rw [HOK.out, show okP (.mk 4 n o a s kids) = decide (kids.length = 0) from rfl, ← HC.out, beq0]
      by_cases hk2 : k = 2
      · subst hk2
        go_wp2_with fail
        go_meet
        refine ⟨?_, rfl⟩
        rw [HOK.out, show okP (.mk 2 n o a s kids) = decide (kids.length = 1) from rfl, ← HC.out, beq1]
      by_cases hk5 : k = 5
      · subst hk5
        go_wp2_with fail
        go_meet
        refine ⟨?_, rfl⟩
        rw [HOK.out, show okP (.mk 5 n o a s kids) = decide (kids.length ≠ 1) from rfl, ← HC.out, bne1]
      by_cases hk7 : k = 7
      · subst hk7
        go_wp2_with fail
        go_meet
        refine ⟨?_, rfl⟩
        rw [HOK.out, show okP (.mk 7 n o a s kids) = decide (kids.length ≤ 1) from rfl, ← HC.out, ble1]
      by_cases hk6 : k = 6
      · subst hk6
        have he : okP (.mk 6 n o a s kids) = decide (c ≤ 1 ∧ 0 ≤ n ∧ n < o) := by rw [HC.out]; rfl
        have HE := Lib.hid he
        clear he
        by_cases h1 : c ≤ 1
        · have d1 : decide ((c : Int) ≤ 1) = true := by simp; omega
          by_cases h2 : 0 ≤ n
          · have d2 : decide ((0 : Int) ≤ n) = true := by simp; omega
            go_wp2_with fail
            go_meet
            refine ⟨?_, rfl⟩
            rw [HOK.out, HE.out]
            simp [h1, h2]
          · have d2 : decide ((0 : Int) ≤ n) = false := by simp; omega
            go_wp2_with fail
            go_meet
            refine ⟨?_, rfl⟩
            rw [HOK.out, HE.out]
            simp [h1]
            omega
        · have d1 : decide ((c : Int) ≤ 1) = false := by simp; omega
          go_wp2_with fail
          go_meet
          refine ⟨?_, rfl⟩
          rw [HOK.out, HE.out]
          simp [h1]
      have d0 : (k == 0) = false := by simp [hk0]
      have d1 : (k == 1) = false := by simp [hk1]
      have d2 : (k == 2) = false := by simp [hk2]
      have d3 : (k == 3) = false := by simp [hk3]
      have d4 : (k == 4) = false := by simp [hk4]
      have d5 : (k == 5) = false := by simp [hk5]
      have d6 : (k == 6) = false := by simp [hk6]
      have d7 : (k == 7) = false := by simp [hk7]
      have he : okP (.mk k n o a s kids) = false := by simp [okP, Pt.k, *]
      have HE := Lib.hid he
      clear he hk0 hk1 hk2 hk3 hk4 hk5 hk6 hk7
      go_wp2_with fail
      go_meet
      exact ⟨by rw [HOK.out, HE.out], rfl⟩
    case rest =>
      obtain ⟨rfl, rfl⟩ := hcut
      clear c0 c1 c2
      have hpl1 : propP (.mk k n o a s kids) left = propL kids ok l1 := by rw [propP, ← HOK.out, ← HL1.out]
      have HPL1 := Lib.hid hpl1
      have HBC := HB1
      have lW1 : w.heap.size < wc.heap.size := lt_of_block HR1.out
      clear hpl1
      go_wp2_with fail
      go_loopw [6, 57] (fun v i wr => ∃ (j : Nat) (ok' : Bool) (l' : Nat), j ≤ c ∧ v = .bool ok' ∧ i = .int .i64 j ∧ propL kids ok l1 = propL (kids.drop j) ok' l' ∧ l' ≤ 150 ∧ wr.heap[b]? = some (.cells #[.int .i64 l'] 3 (0, 0)) ∧ w.grownBy wr (some b)) (fun _ i _ => c - (intOf i).toNat)
      case atStart => exact ⟨0, ok, l1, Nat.zero_le _, rfl, rfl, rfl, by have := HL1.out; omega, HBC.out, HG1.out⟩
      case round =>
        obtain ⟨j, ok', l', hj, rfl, rfl, hpe, hl', hbr, hgr⟩ := hrel
        have HPE := Lib.hid hpe
        have HBR := Lib.hid hbr
        have HGR := Lib.hid hgr
        have hszr := hgr.size
        have y0 : wr.cell? ⟨b, 0, none⟩ = some (.int .i64 l') := blk_cell hbr 0
        clear hpe hbr hgr
        by_cases hlt : j < c
        · have hd : decide ((j : Int) < (c : Int)) = true := by simp; omega
          have hjk : j < kids.length := by rw [← HC.out]; exact hlt
          have hvr : SlD wr D kids ao cap := HV.out.keep fun d hd' off => grown_cells HGR.out (HD.out d hd').1 (fun e => (HD.out d hd').2 (Option.some.inj e).symm) off
          obtain ⟨g, off, row, ha, hDg, hrow, hpv⟩ := hvr.2.get (k := j) hjk
          obtain ⟨aq, cq, rfl, hkq⟩ := hpv.row
          obtain ⟨q, hq⟩ : ∃ q, q = kids[j] := ⟨_, rfl⟩
          rw [← hq] at hrow hkq
          have hix : ∀ w' : World, (Instr.indexAt 23 (.slice ao c cap) (.int .i64 j)).run Try.prog w' = .ok (.pointer (some ⟨g, off + j * 6, none⟩)) w' := fun w' => index_at Try.underlying23 size26 ha c cap j hlt w'
          rw [Nat.zero_add] at hrow
          obtain ⟨p0, hp0⟩ : ∃ p0, p0 = off + j * 6 := ⟨_, rfl⟩
          rw [← hp0] at hix hrow
          have x0 : wr.cell? ⟨g, p0, none⟩ = some (.int .i64 q.k) := hrow 0 (by omega)
          have x1 : wr.cell? ⟨g, p0 + 1, none⟩ = some (.int .i64 q.n) := hrow 1 (by omega)
          have x2 : wr.cell? ⟨g, p0 + 2, none⟩ = some (.int .i64 q.o) := hrow 2 (by omega)
          have x3 : wr.cell? ⟨g, p0 + 3, none⟩ = some (.int .i64 q.a) := hrow 3 (by omega)
          have x4 : wr.cell? ⟨g, p0 + 4, none⟩ = some (.string q.s) := hrow 4 (by omega)
          have x5 : wr.cell? ⟨g, p0 + 5, none⟩ = some (.slice aq q.kids.length cq) := hrow 5 (by omega)
          have hdrop : kids.drop j = q :: kids.drop (j + 1) := by rw [hq]; exact List.drop_eq_getElem_cons hjk
          have hpe := HPE.out
          rw [hdrop] at hpe
          have HPE2 := Lib.hid hpe
          have HKQ := Lib.hid hkq
          have hlbr : b < wr.heap.size := lt_of_block HBR.out
          have hc9 : c ≤ 2000000000000 := hkl
          have HQ := Lib.hid hq
          have HDG := Lib.hid hDg
          clear ha hrow hpv hkq hq hp0 hdrop hpe hvr hDg
          go_upto_region 21 with fail
          obtain ⟨w2, hw2⟩ : ∃ w2, w2 = wr.alloc (.cells #[.int .i64 q.k, .int .i64 q.n, .int .i64 q.o, .int .i64 q.a, .string q.s, .slice aq q.kids.length cq] 26) := ⟨_, rfl⟩
          have hB2 : Below wr.heap.size wr w2 := by rw [hw2]; exact balloc (Below.refl _ _) _
          have hr2 : PB w2 wr.heap.size q aq cq := by rw [hw2]; exact heap_alloc_new wr _
          rw [← hw2]
          have hb2 : w2.heap[b]? = some (.cells #[.int .i64 l'] 3 (0, 0)) := blk_below HBR.out hB2 hlbr
          have hg2 : w.grownBy w2 (some b) := gr_trans HGR.out (gr_below hB2 _)
          have u0 : w2.cell? ⟨wr.heap.size, 0, none⟩ = some (.int .i64 q.k) := blk_cell hr2 0
          have u1 : w2.cell? ⟨wr.heap.size, 1, none⟩ = some (.int .i64 q.n) := blk_cell hr2 1
          have u2 : w2.cell? ⟨wr.heap.size, 2, none⟩ = some (.int .i64 q.o) := blk_cell hr2 2
          have u3 : w2.cell? ⟨wr.heap.size, 3, none⟩ = some (.int .i64 q.a) := blk_cell hr2 3
          have u4 : w2.cell? ⟨wr.heap.size, 4, none⟩ = some (.string q.s) := blk_cell hr2 4
          have u5' : w2.cell? ⟨wr.heap.size, 5, none⟩ = some (.slice aq q.kids.length cq) := blk_cell hr2 5
          have v0 : w2.cell? ⟨b, 0, none⟩ = some (.int .i64 l') := blk_cell hb2 0
          have HB2 := Lib.hid hB2
          have HBB2 := Lib.hid hb2
          have HG2 := Lib.hid hg2
          clear hw2 hr2 hb2 hg2 hB2 x0 x1 x2 x3 x4 x5 y0 hix
          cases hok : ok' with
          | false =>
            subst hok
            have hpe := HPE2.out
            rw [propL, if_neg (by simp)] at hpe
            have HPE3 := Lib.hid hpe
            clear hpe
            go_wp2_with fail
            go_roundw
            case rel => exact ⟨j + 1, false, l', hlt, rfl, by go_num, HPE3.out, hl', HBB2.out, HG2.out⟩
            case measure => simp [intOf]; omega
          | true =>
            subst hok
            by_cases hl0 : 0 < l'
            · have hd3 : decide ((0 : Int) < (l' : Int)) = true := by simp; omega
              have hpe := HPE2.out
              rw [propL, if_pos ⟨rfl, hl0⟩] at hpe
              have HPE3 := Lib.hid hpe
              have hpart : parts q ≤ f ∧ Fits q := by
                have h1 := HP.out
                rw [parts] at h1
                have h3 := parts_mem (l := kids) (p := q) (by rw [HQ.out]; exact List.getElem_mem _)
                exact ⟨by omega, fitsL_get HFIT.out.kids (by rw [HQ.out]; exact List.getElem_mem _)⟩
              have HPT := Lib.hid hpart
              clear hpe hpart
              go_wp2_with fail
              refine (HIH.out q HPT.out.1 D aq cq b l' w2 (fun d hd' => ⟨Nat.lt_of_lt_of_le (HD.out d hd').1 HG2.out.size, (HD.out d hd').2⟩) (HKQ.out.keep fun d hd' off => below_cells HB2.out d (Nat.lt_of_lt_of_le (HD.out d hd').1 hszr) off) HBB2.out hl0 hl' HPT.out.2).mono ?_
              rintro e w3 ⟨rfl, hb3, hg3⟩
              have HB3 := Lib.hid hb3
              have HG3 := Lib.hid (gr_trans HG2.out hg3)
              have hle := propP_le q l'
              clear hb3 hg3 u0 u1 u2 u3 u4 u5' v0
              go_wp2_with fail
              go_roundw
              case rel => exact ⟨j + 1, _, _, hlt, rfl, by go_num, HPE3.out, by omega, HB3.out, HG3.out⟩
              case measure => simp [intOf]; omega
            · have hd3 : decide ((0 : Int) < (l' : Int)) = false := by simp; omega
              have hpe := HPE2.out
              rw [propL, if_neg (by intro h; exact hl0 h.2)] at hpe
              have HPE3 := Lib.hid hpe
              clear hpe
              go_wp2_with fail
              go_roundw
              case rel => exact ⟨j + 1, false, l', hlt, rfl, by go_num, HPE3.out, hl', HBB2.out, HG2.out⟩
              case measure => simp [intOf]; omega
        · have hd : decide ((j : Int) < (c : Int)) = false := by simp; omega
          have hjc : j = kids.length := by rw [← HC.out]; omega
          have hfin := HPE.out
          rw [hjc, List.drop_length, propL] at hfin
          have HFIN := Lib.hid hfin
          clear hfin hjc
          go_wp2_with fail
          go_ret
          rw [HPL1.out, HFIN.out]
          exact ⟨rfl, HBR.out, HGR.out⟩
end Go.Proofs.Ytcieoelogocjkaa
