/-
  Proved: the contract of the program's proper. Condition: at most 400 parts are left.
-/
import Derived.Test.YtdeomphilggokaaA2
set_option linter.unusedSimpArgs false
set_option linter.unusedVariables false
namespace Go.Proofs.Ytdeomphilggokaa
open Go.RowKit

theorem grown_cells {w w' : World} {b : Nat} (h : w.grownBy w' (some b)) {d : Nat} (hd : d < w.heap.size) (hne : d ≠ b) (off : Nat) : w'.cell? ⟨d, off, none⟩ = w.cell? ⟨d, off, none⟩ :=
  World.cell?_of_block (h.block d hd (fun e => hne (Option.some.inj e)))
/-- what proper leaves: its answer, how many parts are left -/
structure PropPost (t : Ty) (b L : Nat) (w : World) (e : Ending) (w' : World) : Prop where
  out : ∃ (r : Bool) (L' : Int), e = .returned (.bool r) ∧ (r = true ↔ parts t ≤ L ∧ shapedD t = true) ∧ (r = true → L' = (L : Int) - parts t) ∧ w'.heap[b]? = some (.cells #[.int .i64 L'] 3 (0, 0)) ∧ w.grownBy w' (some b)
set_option maxRecDepth 100000 in
set_option maxHeartbeats 4000000 in
theorem proper_any : ∀ (f : Nat) (t : Ty), parts t ≤ f → ∀ (D : Nat → Prop) (ao : Option Addr) (cap b L : Nat) (w : World), (∀ d, D d → d < w.heap.size ∧ d ≠ b) → SlD w D t.args ao cap → w.heap[b]? = some (.cells #[.int .i64 (L : Int)] 3 (0, 0)) → L ≤ 400 → Fits t →
    Calls Try.prog 37 #[.agg (rowOf t ao cap), .pointer (some ⟨b, 0, none⟩)] w (PropPost t b L w) := by
  intro f
  induction f with
  | zero => intro t ht; have := parts_pos t; omega
  | succ f IH =>
    intro t ht D ao cap b L w hD hv hb hL hfit
    obtain ⟨c, hc⟩ : ∃ c, c = t.args.length := ⟨_, rfl⟩
    obtain ⟨W, hW⟩ : ∃ W, W = w.alloc (.cells (rowOf t ao cap) 33) := ⟨_, rfl⟩
    obtain ⟨hbW, hlW, hrow⟩ := box_at hW
    have hcl : c ≤ 3000000000000 := by rw [hc]; exact hfit.len
    have HOK : Hid (okT t = if t.k = 0 then decide (c = 0 ∧ t.s.toList = [] ∧ (t.q = 0 ∨ t.q = 1)) else if t.k = 1 then decide (0 ≤ t.q ∧ t.q ≤ 2) else if t.k = 2 then decide (2 ≤ c ∧ t.s.toList = [] ∧ t.n = 0 ∧ t.q = 0) else if t.k = 3 then decide (c = 2 ∧ t.s.toList = [] ∧ t.n = 0 ∧ t.q = 0) else false) := Lib.hid (by rw [hc]; rfl)
    unfold rowOf at hW hrow
    unfold rowOf
    rw [← hc] at hW hrow
    rw [← hc]
    have hlb : b < w.heap.size := lt_of_block hb
    have hb0 := blk_below hb hbW hlb
    have y0 : W.cell? ⟨b, 0, none⟩ = some (.int .i64 (L : Int)) := blk_cell hb0 0
    have z0 := blk_free hb0 0
    have HC := Lib.hid hc
    have HT := Lib.hid ht
    have HFIT := Lib.hid hfit
    have HIH := Lib.hid IH
    have HD := Lib.hid hD
    have HV := Lib.hid hv
    have HBW := Lib.hid hbW
    have HROW := Lib.hid hrow
    have HB0 := Lib.hid hb0
    have lb : b < W.heap.size := by omega
    clear IH hD hv hc ht hfit hbW hrow hb hb0
    go_enter Try.func37, Try.ntmps37
    go_upto_region 1 with fail
    rw [← hW]
    have HWW := Lib.hid hW
    clear hW
    generalize Value.agg #[.int .i64 t.k, .int .i64 t.n, .string t.s, .int .i64 t.q, .slice ao c cap] = v0
    go_upto_region 2 with fail
    obtain ⟨W1, hW1⟩ : ∃ W1, W1 = W.setCell ⟨b, 0, none⟩ (.int .i64 ((L : Int) - 1)) := ⟨_, rfl⟩
    have hb1 : W1.heap[b]? = some (.cells #[.int .i64 ((L : Int) - 1)] 3 (0, 0)) := by rw [hW1]; exact blk_set HB0.out 0 _
    have hr1 : W1.heap[w.heap.size]? = some (.cells #[.int .i64 t.k, .int .i64 t.n, .string t.s, .int .i64 t.q, .slice ao c cap] 33 (0, 0)) := by rw [hW1]; exact blk_set_ne HROW.out (by omega) _ _
    have hg1 : w.grownBy W1 (some b) := by rw [hW1]; exact gr_trans (gr_below HBW.out _) (gr_set _ _ _ _)
    rw [← hW1]
    have y1 : W1.cell? ⟨b, 0, none⟩ = some (.int .i64 ((L : Int) - 1)) := blk_cell hb1 0
    have HG1 := Lib.hid hg1
    have HB1 := Lib.hid hb1
    have HR1 := Lib.hid hr1
    clear hW1 hb1 hg1 y0 z0
    by_cases hL0 : L = 0
    · subst hL0
      have d : decide (((0 : Nat) : Int) - 1 < 0) = true := by simp
      clear hr1
      go_wp2_with fail
      go_ret
      exact ⟨false, _, rfl, by have := parts_pos t; simp; omega, (fun h => by cases h), HB1.out, HG1.out⟩
    · have d : decide ((L : Int) - 1 < 0) = false := by simp; omega
      have c0 : W1.cell? ⟨w.heap.size, 0, none⟩ = some (.int .i64 t.k) := blk_cell hr1 0
      have c1 : W1.cell? ⟨w.heap.size, 1, none⟩ = some (.int .i64 t.n) := blk_cell hr1 1
      have c2 : W1.cell? ⟨w.heap.size, 2, none⟩ = some (.string t.s) := blk_cell hr1 2
      have c3 : W1.cell? ⟨w.heap.size, 3, none⟩ = some (.int .i64 t.q) := blk_cell hr1 3
      have c4 : W1.cell? ⟨w.heap.size, 4, none⟩ = some (.slice ao c cap) := blk_cell hr1 4
      clear hr1
      go_upto_block 0 with fail
      obtain ⟨ok, hok⟩ : ∃ ok, ok = okT t := ⟨_, rfl⟩
      have HO := Lib.hid hok
      clear hok
      go_cut [6] (fun v wx => v = .bool ok ∧ wx = W1)
      case first =>
        by_cases hk0 : t.k = 0
        · have he : okT t = decide (c = 0 ∧ t.s.toList = [] ∧ (t.q = 0 ∨ t.q = 1)) := by rw [HOK.out, if_pos hk0]
          have e0 : (t.k == 0) = true := by simp [hk0]
          have HE := Lib.hid he
          clear hk0 he
          by_cases h1 : c = 0
          · have dh1 : (((c : Int) == 0) : Bool) = true := by simp; omega
            have H1 := Lib.hid h1
            clear h1
            by_cases h2 : t.s.toList = []
            · have dh2 : t.s.toList.isEmpty = true := by rw [h2]; rfl
              have H2 := Lib.hid h2
              clear h2
              by_cases h3 : t.q = 0
              · have dh3 : (t.q == 0) = true := by simp [h3]
                have H3 := Lib.hid h3
                clear h3
                go_wp2_with fail
                go_meet
                refine ⟨?_, rfl⟩
                rw [HO.out, HE.out]; simp [H1.out, H2.out, H3.out]
              · have dh3 : (t.q == 0) = false := by simp [h3]
                have H3 := Lib.hid h3
                clear h3
                go_wp2_with fail
                go_meet
                refine ⟨?_, rfl⟩
                rw [HO.out, HE.out]; simp [H1.out, H2.out, H3.out, beq_dec]
            · have dh2 : t.s.toList.isEmpty = false := by simpa using h2
              have H2 := Lib.hid h2
              clear h2
              go_wp2_with fail
              go_meet
              refine ⟨?_, rfl⟩
              rw [HO.out, HE.out]; simp [H2.out]
          · have dh1 : (((c : Int) == 0) : Bool) = false := by simp; omega
            have H1 := Lib.hid h1
            clear h1
            go_wp2_with fail
            go_meet
            refine ⟨?_, rfl⟩
            rw [HO.out, HE.out]; simp [H1.out]
        by_cases hk1 : t.k = 1
        · have he : okT t = decide (0 ≤ t.q ∧ t.q ≤ 2) := by rw [HOK.out, if_neg hk0, if_pos hk1]
          have e0 : (t.k == 0) = false := by simp [hk0]
          have e1 : (t.k == 1) = true := by simp [hk1]
          have HE := Lib.hid he
          clear hk0 hk1 he
          by_cases h3 : 0 ≤ t.q
          · have dh3 : decide ((0 : Int) ≤ t.q) = true := by simp; omega
            have H3 := Lib.hid h3
            clear h3
            go_wp2_with fail
            go_meet
            refine ⟨?_, rfl⟩
            rw [HO.out, HE.out]; simp [H3.out]
          · have dh3 : decide ((0 : Int) ≤ t.q) = false := by simp; omega
            have H3 := Lib.hid h3
            clear h3
            go_wp2_with fail
            go_meet
            refine ⟨?_, rfl⟩
            rw [HO.out, HE.out]; have := H3.out; simp; omega
        by_cases hk2 : t.k = 2
        · have he : okT t = decide (2 ≤ c ∧ t.s.toList = [] ∧ t.n = 0 ∧ t.q = 0) := by rw [HOK.out, if_neg hk0, if_neg hk1, if_pos hk2]
          have e0 : (t.k == 0) = false := by simp [hk0]
          have e1 : (t.k == 1) = false := by simp [hk1]
          have e2 : (t.k == 2) = true := by simp [hk2]
          have HE := Lib.hid he
          clear hk0 hk1 hk2 he
          by_cases h1 : 2 ≤ c
          · have dh1 : decide ((2 : Int) ≤ (c : Int)) = true := by simp; omega
            have H1 := Lib.hid h1
            clear h1
            by_cases h2 : t.s.toList = []
            · have dh2 : t.s.toList.isEmpty = true := by rw [h2]; rfl
              have H2 := Lib.hid h2
              clear h2
              by_cases h4 : t.n = 0
              · have dh4 : (t.n == 0) = true := by simp [h4]
                have H4 := Lib.hid h4
                clear h4
                go_wp2_with fail
                go_meet
                refine ⟨?_, rfl⟩
                rw [HO.out, HE.out]; simp [H1.out, H2.out, H4.out, beq_dec]
              · have dh4 : (t.n == 0) = false := by simp [h4]
                have H4 := Lib.hid h4
                clear h4
                go_wp2_with fail
                go_meet
                refine ⟨?_, rfl⟩
                rw [HO.out, HE.out]; simp [H4.out]
            · have dh2 : t.s.toList.isEmpty = false := by simpa using h2
              have H2 := Lib.hid h2
              clear h2
              go_wp2_with fail
              go_meet
              refine ⟨?_, rfl⟩
              rw [HO.out, HE.out]; simp [H2.out]
          · have dh1 : decide ((2 : Int) ≤ (c : Int)) = false := by simp; omega
            have H1 := Lib.hid h1
            clear h1
            go_wp2_with fail
            go_meet
            refine ⟨?_, rfl⟩
            rw [HO.out, HE.out]; simp [H1.out]
        by_cases hk3 : t.k = 3
        · have he : okT t = decide (c = 2 ∧ t.s.toList = [] ∧ t.n = 0 ∧ t.q = 0) := by rw [HOK.out, if_neg hk0, if_neg hk1, if_neg hk2, if_pos hk3]
          have e0 : (t.k == 0) = false := by simp [hk0]
          have e1 : (t.k == 1) = false := by simp [hk1]
          have e2 : (t.k == 2) = false := by simp [hk2]
          have e3 : (t.k == 3) = true := by simp [hk3]
          have HE := Lib.hid he
          clear hk0 hk1 hk2 hk3 he
          by_cases h1 : c = 2
          · have dh1 : (((c : Int) == 2) : Bool) = true := by simp; omega
            have H1 := Lib.hid h1
            clear h1
            by_cases h2 : t.s.toList = []
            · have dh2 : t.s.toList.isEmpty = true := by rw [h2]; rfl
              have H2 := Lib.hid h2
              clear h2
              by_cases h4 : t.n = 0
              · have dh4 : (t.n == 0) = true := by simp [h4]
                have H4 := Lib.hid h4
                clear h4
                go_wp2_with fail
                go_meet
                refine ⟨?_, rfl⟩
                rw [HO.out, HE.out]; simp [H1.out, H2.out, H4.out, beq_dec]
              · have dh4 : (t.n == 0) = false := by simp [h4]
                have H4 := Lib.hid h4
                clear h4
                go_wp2_with fail
                go_meet
                refine ⟨?_, rfl⟩
                rw [HO.out, HE.out]; simp [H4.out]
            · have dh2 : t.s.toList.isEmpty = false := by simpa using h2
              have H2 := Lib.hid h2
              clear h2
              go_wp2_with fail
              go_meet
              refine ⟨?_, rfl⟩
              rw [HO.out, HE.out]; simp [H2.out]
          · have dh1 : (((c : Int) == 2) : Bool) = false := by simp; omega
            have H1 := Lib.hid h1
            clear h1
            go_wp2_with fail
            go_meet
            refine ⟨?_, rfl⟩
            rw [HO.out, HE.out]; simp [H1.out]
        have he : okT t = false := by rw [HOK.out, if_neg hk0, if_neg hk1, if_neg hk2, if_neg hk3]
        have HE := Lib.hid he
        have d0 : (t.k == 0) = false := by simp [hk0]
        have d1 : (t.k == 1) = false := by simp [hk1]
        have d2 : (t.k == 2) = false := by simp [hk2]
        have d3 : (t.k == 3) = false := by simp [hk3]
        clear hk0 hk1 hk2 hk3 he
        go_wp2_with fail
        go_meet
        refine ⟨?_, rfl⟩
        rw [HO.out, HE.out]
      case rest =>
        obtain ⟨rfl, rfl⟩ := hcut
        obtain ⟨W1, hWc⟩ : ∃ W1 : World, W1 = wc := ⟨_, rfl⟩
        subst hWc
        have hl1 : w.heap.size < W1.heap.size := lt_of_block HR1.out
        clear c0 c1 c2 c3 c4 y1
        go_wp2_with fail
        go_loopw [6, 7] (fun v i wr => ∃ (j : Nat) (r : Bool) (L' : Int), v = .bool r ∧ i = .int .i64 (j : Int) ∧ j ≤ c ∧ (r = true ↔ okT t = true ∧ 1 + partsL (t.args.take j) ≤ L ∧ shapedL (t.args.take j) = true) ∧ (r = true → L' = (L : Int) - 1 - partsL (t.args.take j)) ∧ wr.heap[b]? = some (.cells #[.int .i64 L'] 3 (0, 0)) ∧ w.grownBy wr (some b) ∧ wr.heap[w.heap.size]? = some (.cells #[.int .i64 t.k, .int .i64 t.n, .string t.s, .int .i64 t.q, .slice ao c cap] 33 (0, 0))) (fun _ i _ => c - (intOf i).toNat)
        case atStart => exact ⟨0, ok, _, rfl, rfl, Nat.zero_le _, by rw [HO.out]; simp [partsL, shapedL]; omega, fun _ => by simp [partsL], HB1.out, HG1.out, HR1.out⟩
        case round =>
          obtain ⟨j, r, L', rfl, rfl, hj, hiff, hL', hbr, hgr, hrr⟩ := hrel
          obtain ⟨wo, rfl⟩ : ∃ wo : World, wo = wr := ⟨_, rfl⟩
          have c4 : wo.cell? ⟨w.heap.size, 4, none⟩ = some (.slice ao c cap) := blk_cell hrr 4
          have HBR := Lib.hid hbr
          have HGR := Lib.hid hgr
          have HRR := Lib.hid hrr
          have HIF := Lib.hid hiff
          have HL' := Lib.hid hL'
          have hsz := hgr.size
          clear hbr hgr hrr hiff hL'
          by_cases hlt : j < c
          · have hd : decide ((j : Int) < (c : Int)) = true := by simp; omega
            cases r with
            | true =>
              have hjk : j < t.args.length := by rw [← HC.out]; exact hlt
              have hvr : SlD wo D t.args ao cap := HV.out.keep fun d hd' off => grown_cells HGR.out (HD.out d hd').1 (HD.out d hd').2 off
              obtain ⟨bb, p, ap, cp, hDb, hix, x0, x1, x2, x3, x4, hs⟩ := arg_cells hvr hjk
              rw [← HC.out] at hix
              obtain ⟨u, hu⟩ : ∃ u, u = t.args[j] := ⟨_, rfl⟩
              rw [← hu] at x0 x1 x2 x3 x4 hs
              have hmem : u ∈ t.args := by rw [hu]; exact List.getElem_mem _
              obtain ⟨i1, i2, i3⟩ := HIF.out.1 rfl
              obtain ⟨L2, hL2⟩ : ∃ L2, L2 = L - 1 - partsL (t.args.take j) := ⟨_, rfl⟩
              have hcell : wo.heap[b]? = some (.cells #[.int .i64 (L2 : Int)] 3 (0, 0)) := by
                rw [HBR.out, HL'.out rfl, show (L2 : Int) = (L : Int) - 1 - partsL (t.args.take j) by omega]
              have hcall := HIH.out u (by have h1 := HT.out; rw [parts_args] at h1; have := parts_mem hmem; omega) D ap cp b L2 wo (fun d hd' => ⟨Nat.lt_of_lt_of_le (HD.out d hd').1 hsz, (HD.out d hd').2⟩) hs hcell (by omega) (HFIT.out.args.get hmem)
              unfold rowOf at hcall
              have HCALL := Lib.hid hcall
              have HU := Lib.hid hu
              have H2 := Lib.hid hL2
              have HI := Lib.hid (And.intro i1 (And.intro i2 i3))
              have hne : w.heap.size < wo.heap.size := lt_of_block HRR.out
              clear hcall hvr hs hu hmem hcell hL2 i1 i2 i3
              go_wp2_with (first | (go_at_call 37; refine HCALL.out.mono ?_; rintro e w7 ⟨r7, L7, rfl, hif7, hL7, hb7, hg7⟩; have HIF7 := Lib.hid hif7; have HL7 := Lib.hid hL7; have HB7 := Lib.hid hb7; have HG7 := Lib.hid hg7; clear hif7 hL7 hb7 hg7))
              go_roundw
              case rel =>
                obtain ⟨i1, i2, i3⟩ := HI.out
                refine ⟨j + 1, r7, L7, by go_num, by go_num, hlt, ?_, ?_, HB7.out, gr_trans HGR.out HG7.out, ?_⟩
                · rw [HIF7.out, partsL_take hjk, shapedL_take hjk, ← HU.out]
                  have := H2.out
                  simp [i1, i3]
                  omega
                · intro h7
                  rw [HL7.out h7, partsL_take hjk, ← HU.out]
                  have := H2.out
                  omega
                · exact (HG7.out.block _ hne (fun e => by have := Option.some.inj e; omega)).trans HRR.out
              case measure => simp only [intOf]; omega
            | false =>
              go_wp2_with fail
              go_ret
              refine ⟨false, L', rfl, ?_, fun h => by (cases h), HBR.out, HGR.out⟩
              have h1 := HIF.out
              rw [shaped_args, parts_args]
              refine ⟨(fun h => by cases h), fun h => ?_⟩
              obtain ⟨h2, h3⟩ := h
              rw [Bool.and_eq_true] at h3
              refine h1.2 ⟨h3.1, ?_, ?_⟩
              · have := partsL_take_le t.args j
                omega
              · cases hs : shapedL (t.args.take j) with
                | true => rfl
                | false => have := shapedL_cut j hs; rw [h3.2] at this; cases this
          · obtain rfl : j = c := by omega
            have hd : decide ((j : Int) < (j : Int)) = false := by simp
            go_wp2_with fail
            go_ret
            have h1 := HIF.out
            have h2 := HL'.out
            rw [HC.out, List.take_length] at h1 h2
            refine ⟨r, L', rfl, ?_, ?_, HBR.out, HGR.out⟩
            · rw [h1, shaped_args, parts_args, Bool.and_eq_true]
              constructor
              · rintro ⟨a, b, c⟩; exact ⟨b, a, c⟩
              · rintro ⟨a, b, c⟩; exact ⟨b, a, c⟩
            · intro hr
              rw [h2 hr, parts_args]
              omega
end Go.Proofs.Ytdeomphilggokaa
