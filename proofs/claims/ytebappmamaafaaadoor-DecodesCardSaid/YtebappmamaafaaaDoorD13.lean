/-
  Proved: the contract of the reference's reader of an instruction. Conditions: a text of at most 2^62 bytes.
-/
import Derived.Test.YtebappmamaafaaaDoorD12
import Derived.Test.YtebappmamaafaaaDoorE2
set_option linter.unusedSimpArgs false
set_option linter.unusedVariables false
namespace Go.Proofs.YtebappmamaafaaaDoor
open Go.RowKit

def RInsPost (p : Nat) (s : ByteArray) (a : Nat) (w : World) (e : Ending) (w' : World) : Prop :=
  match insD s a with
  | .inl g => ∃ x a', e = .returned (xval x) ∧ RS w w' p s a' g ∧ a' ≤ s.size
  | .inr (x, a') => e = .returned (xval x) ∧ RS w w' p s a' (0, 0) ∧ a' ≤ s.size
theorem RS.set {w W : World} {p : Nat} {s : ByteArray} {a : Nat} {f : Int × Int} (h : RS w W p s a f) (b i : Nat) (v : Value) (hp : p < w.heap.size) (hb : w.heap.size ≤ b) : RS w (W.setCell ⟨b, i, none⟩ v) p s a f :=
  ⟨blk_set_ne h.rd (by omega) _ _, gr_far h.gr _ _ _ hb⟩
theorem RS.set3 {w W : World} {p : Nat} {s : ByteArray} {a : Nat} {f : Int × Int} (h : RS w W p s a f) (b : Nat) (u v z : Value) (hp : p < w.heap.size) (hb : w.heap.size ≤ b) : RS w (((W.setCell ⟨b, 0, none⟩ u).setCell ⟨b, 1, none⟩ v).setCell ⟨b, 2, none⟩ z) p s a f :=
  ((h.set b 0 u hp hb).set b 1 v hp hb).set b 2 z hp hb
theorem RS.alloc {w W : World} {p : Nat} {s : ByteArray} {a : Nat} {f : Int × Int} (h : RS w W p s a f) (o : Obj) : RS w (W.alloc o) p s a f := ⟨blk_alloc h.rd o, gr_trans h.gr (World.grownBy_alloc _ _ _)⟩
/-- the loop's world -/
structure LR (w W : World) (p : Nat) (s : ByteArray) (bz bx : Nat) (x : Ic) (a : Nat) (g : Int × Int) : Prop where
  zs : SX bz (0, 0, 0) W
  xs : SX bx x W
  st : RS w W p s a g
  ne : w.heap.size ≤ bz ∧ bz < bx ∧ p < w.heap.size
theorem LR.step {w W W' : World} {p : Nat} {s : ByteArray} {bz bx : Nat} {x : Ic} {a a' : Nat} {g g' : Int × Int} (h : LR w W p s bz bx x a g) (h' : RS W W' p s a' g') : LR w W' p s bz bx x a' g' := by
  obtain ⟨n1, n2, n3⟩ := h.ne
  exact ⟨blk_grown h.zs h'.gr (by simp; omega), blk_grown h.xs h'.gr (by simp; omega), h.st.trans h', h.ne⟩
theorem LR.setx {w W : World} {p : Nat} {s : ByteArray} {bz bx : Nat} {x : Ic} {a i : Nat} {g : Int × Int} (h : LR w W p s bz bx x a g) (hi : i < 2) (v : Int) : LR w (W.setCell ⟨bx, 1 + i, none⟩ (.int .i64 v)) p s bz bx (setOp x i v) a g := by
  obtain ⟨n1, n2, n3⟩ := h.ne
  refine ⟨blk_set_ne h.zs (by omega) _ _, ?_, h.st.set _ _ _ n3 (by omega), h.ne⟩
  have := blk_set h.xs (1 + i) (.int .i64 v)
  unfold SX setOp
  rcases (by omega : i = 0 ∨ i = 1) with rfl | rfl <;> exact this
def RRel (s : ByteArray) (p : Nat) (w : World) (bz bx : Nat) (f : List UInt8) (a : Nat) (i : Value) (wr : World) : Prop :=
  ∃ (k : Nat) (x : Ic) (a' : Nat) (g : Int × Int), i = .int .i64 k ∧ k ≤ f.length ∧ a' ≤ s.size ∧ LR w wr p s bz bx x a' g ∧ ((g = (0, 0) ∧ opsD s (f.drop k) k x a' = insD s a) ∨ (g.1 ≠ 0 ∧ insD s a = .inl g))

/-- behind an operand is read -/
def RMid (s : ByteArray) (p : Nat) (w : World) (bz bx : Nat) (f : List UInt8) (a k : Nat) (x : Ic) (o : Value) (wx : World) : Prop :=
  ∃ (sv : Int) (a2 : Nat) (g2 : Int × Int), o = .int .i64 sv ∧ LR w wx p s bz bx x a2 g2 ∧ a2 ≤ s.size ∧ ((g2 = (0, 0) ∧ opsD s (f.drop (k + 1)) (k + 1) (setOp x k sv) a2 = insD s a) ∨ (g2.1 ≠ 0 ∧ insD s a = .inl g2))
theorem sgn_hi (v : Nat) (hv : v < 4294967296) (h : true = decide ((2147483648 : Int) ≤ (v : Int))) : wrap64 ((v : Int) - 4294967296) = sgn v := by
  have h2 := of_decide_eq_true h.symm
  unfold sgn wrap64
  rw [if_pos (by omega)]
  omega
theorem sgn_lo (v : Nat) (h : false = decide ((2147483648 : Int) ≤ (v : Int))) : (v : Int) = sgn v := by
  have h2 := of_decide_eq_false h.symm
  unfold sgn
  rw [if_neg (by omega)]
theorem byte_at (f : List UInt8) (k : Nat) (hk : k < f.length) (h : k < (ByteArray.mk f.toArray).size) : (ByteArray.mk f.toArray)[k]'h = f.getD k 0 := by
  simp [ByteArray.getElem_eq_getElem_data, List.getD, hk]
theorem formB_ok (op : Int) : (formB op).1.length ≤ 2 ∧ ∀ k, k < (formB op).1.length → (formB op).1.getD k 0 = 105 ∨ (formB op).1.getD k 0 = 110 := by
  rcases formB_cases op with h | h | h | h | h <;> rw [h] <;> refine ⟨by decide, ?_⟩ <;> intro k hk <;> simp at hk
  · subst hk; simp
  · subst hk; simp
  · rcases (by omega : k = 0 ∨ k = 1) with h | h <;> subst h <;> simp

set_option maxRecDepth 100000 in
set_option maxHeartbeats 8000000 in
theorem rinsD_any (p : Nat) (s : ByteArray) (a : Nat) (w : World) (h : RRd w p s a (0, 0)) (ha : a ≤ s.size) (hs : s.size ≤ 4611686018427387904) :
    Calls Tryd.prog 27 #[.pointer (some ⟨p, 0, none⟩)] w (RInsPost p s a w) := by
  have H := Lib.hid h
  have hlt := h.lt
  have r1 : w.cell? ⟨p, 1, none⟩ = some (.int .i64 a) := blk_cell h 1
  have hz := heap_alloc_new w (.cells #[.int .i64 0, .int .i64 0, .int .i64 0] 50)
  have HZ : Hid (SX w.heap.size (0, 0, 0) (w.alloc (.cells #[.int .i64 0, .int .i64 0, .int .i64 0] 50))) := hz
  clear h hz
  go_enter Tryd.func27, Tryd.ntmps27
  go_wp2_with fail
  refine (rnum_any p s a 1 (0, 0) _ (blk_alloc H.out _) ha hs (by omega)).mono ?_
  intro e w1 hpost
  unfold RNumPost at hpost
  rw [if_pos rfl] at hpost
  obtain ⟨op, g, a1, he, hst, ha1, hfm, hop⟩ : ∃ (op : Nat) (g : Int × Int) (a1 : Nat), e = .returned (.int .i64 op) ∧ RS (w.alloc (.cells #[.int .i64 0, .int .i64 0, .int .i64 0] 50)) w1 p s a1 g ∧ a1 ≤ s.size ∧
      ((g = (0, 0) ∧ a1 = a + 1 ∧ numB s a 1 = some op) ∨ (g = endF s ∧ op = 0 ∧ insD s a = .inl (endF s))) ∧ op < 256 := by
    cases hn : numB s a 1 with
    | none =>
      rw [hn] at hpost
      obtain ⟨rfl, hst⟩ := hpost
      exact ⟨0, endF s, a, rfl, hst, ha, .inr ⟨rfl, rfl, by unfold insD; rw [hn]⟩, by omega⟩
    | some v =>
      rw [hn] at hpost
      obtain ⟨rfl, hst⟩ := hpost
      obtain ⟨hv, hle⟩ := numB_lt hn
      exact ⟨v, (0, 0), a + 1, rfl, hst, hle, .inl ⟨rfl, rfl, rfl⟩, hv⟩
  subst he
  have hs1 := hst.gr.size
  rw [World.size_alloc] at hs1
  have hx2 := heap_alloc_new w1 (.cells #[.int .i64 op, .int .i64 0, .int .i64 0] 50)
  have hz2 : SX w.heap.size (0, 0, 0) (w1.alloc (.cells #[.int .i64 op, .int .i64 0, .int .i64 0] 50)) := blk_alloc (blk_grown HZ.out hst.gr (by simp; omega)) _
  have hlr : LR w (w1.alloc (.cells #[.int .i64 op, .int .i64 0, .int .i64 0] 50)) p s w.heap.size w1.heap.size (op, 0, 0) a1 g := ⟨hz2, hx2, (((RS.start H.out).alloc _).trans hst).alloc _, Nat.le_refl _, by omega, hlt⟩
  obtain ⟨w2, hw2⟩ : ∃ w2, w2 = w1.alloc (.cells #[.int .i64 op, .int .i64 0, .int .i64 0] 50) := ⟨_, rfl⟩
  have hs2 : w1.heap.size < w2.heap.size := by rw [hw2]; simp
  rw [← hw2] at hlr
  have HLR := Lib.hid hlr
  have HFM := Lib.hid hfm
  have HW2 := Lib.hid hw2
  clear hst hx2 hz2 hlr hfm hw2 r1 hpost
  go_upto_region 3 with fail
  rw [← HW2.out]
  have x0 : w2.cell? ⟨w1.heap.size, 0, none⟩ = some (.int .i64 op) := blk_cell HLR.out.xs 0
  obtain ⟨f, ok, hf⟩ : ∃ f ok, formB (op : Int) = (f, ok) := ⟨_, _, rfl⟩
  have hfo := formB_ok (op : Int)
  rw [hf] at hfo
  have HF := Lib.hid hf
  have HFO := Lib.hid hfo
  have hfl := hfo.1
  simp only at hfl
  clear hf hfo
  go_wp2_with fail
  refine (form_lit HF.out _).mono ?_
  rintro e w3 ⟨rfl, rfl⟩
  clear x0
  go_upto_if 23 with fail
  go_cut [] (fun wx => RRel s p w w.heap.size w1.heap.size f a (.int .i64 0) wx)
  case first =>
    cases ok with
    | true =>
      go_wp2_with fail
      go_meet
      refine ⟨0, (op, 0, 0), a1, g, rfl, Nat.zero_le _, ha1, HLR.out, ?_⟩
      rcases HFM.out with ⟨rfl, rfl, hn⟩ | ⟨rfl, rfl, hi⟩
      · refine .inl ⟨rfl, ?_⟩
        unfold insD
        rw [hn]
        have h26 : ¬ 26 ≤ op := by
          intro h26
          have := form_out (op := (op : Int)) (.inr (by omega))
          rw [HF.out] at this
          cases this
        simp only [h26, if_false]
        rw [HF.out]
        rfl
      · exact .inr ⟨by simp [endF], hi⟩
    | false =>
      go_wp2_with fail
      refine (rfail_any p s a1 g 18 a _ HLR.out.st.rd).mono ?_
      rintro e w4 ⟨rfl, hst⟩
      have HL4 := Lib.hid (HLR.out.step hst)
      clear hst
      go_wp2_with fail
      go_meet
      refine ⟨0, (op, 0, 0), a1, _, rfl, Nat.zero_le _, ha1, HL4.out, .inr ?_⟩
      rcases HFM.out with ⟨rfl, rfl, hn⟩ | ⟨rfl, rfl, hi⟩
      · have h26 : 26 ≤ op := by
          rcases Nat.lt_or_ge op 26 with hlt | hge
          · have hin := form_in (op := (op : Int)) (by omega)
            rcases formB_cases (op : Int) with h | h | h | h | h <;> rw [HF.out] at h <;> cases h
            rw [HF.out] at hin
            exact absurd rfl hin
          · exact hge
        refine ⟨by simp [fst0], ?_⟩
        unfold insD
        rw [hn]
        simp [h26, fst0]
      · have : formB ((0 : Nat) : Int) = ([105], true) := by decide
        rw [HF.out] at this
        cases this
  case rest =>
    have HRR := Lib.hid hcut
    clear hcut
    obtain ⟨wq, hwq⟩ : ∃ wq : World, wq = wc := ⟨_, rfl⟩
    subst hwq
    go_wp2_with fail
    go_loopw [7] (fun i wr => RRel s p w w.heap.size w1.heap.size f a i wr) (fun i _ => f.length - (intOf i).toNat)
    case atStart => exact HRR.out
    case round =>
      obtain ⟨k, x, a', g, rfl, hk, ha', hlr, hgo⟩ := hrel
      obtain ⟨n1, n2, n3⟩ := hlr.ne
      have hpl : p < wr.heap.size := hlr.st.rd.lt
      have c1 : wr.cell? ⟨p, 1, none⟩ = some (.int .i64 a') := blk_cell hlr.st.rd 1
      have c2 : wr.cell? ⟨p, 2, none⟩ = some (.int .i64 g.1) := blk_cell hlr.st.rd 2
      obtain ⟨x0, x1, x2⟩ := SX.s3 hlr.xs
      obtain ⟨y0, y1, y2⟩ := SX.s3 hlr.zs
      obtain ⟨z0, z1, z2⟩ := SX.z3 hlr.zs
      have l1 : w.heap.size < wr.heap.size := lt_of_block hlr.zs
      have l2 : w1.heap.size < wr.heap.size := lt_of_block hlr.xs
      rcases hgo with ⟨rfl, hgo⟩ | ⟨hg, hres⟩
      · by_cases hkf : k < f.length
        · have hst := opsD_step s f k x a' hkf
          rw [hst] at hgo
          have hk2 : k < 2 := by omega
          have HGO := Lib.hid hgo
          have HL := Lib.hid hlr
          have hki : k < (ByteArray.mk f.toArray).size := by show k < f.toArray.size; simpa using hkf
          clear hst hgo hlr x0 x1 x2 y0 y1 y2 z0 z1 z2
          go_upto_if 48 with fail
          go_cut [8] (fun o wx => RMid s p w w.heap.size w1.heap.size f a k x o wx)
          case first =>
            rcases HFO.out.2 k hkf with hc | hc
            · have hb5 : ((((ByteArray.mk f.toArray)[k]'hki).toNat : Int) == 105) = true := by rw [byte_at f k hkf hki, hc]; rfl
              have hgo := HGO.out
              rw [if_pos hc] at hgo
              have HGO2 := Lib.hid hgo
              clear hc hgo
              go_wp2_with fail
              refine (rnum_any p s a' 4 (0, 0) _ HL.out.st.rd ha' hs (by omega)).mono ?_
              intro e w4 hpost
              unfold RNumPost at hpost
              rw [if_pos rfl] at hpost
              obtain ⟨v, g', a2, he, hst, ha2, hfm, hv⟩ : ∃ (v : Nat) (g' : Int × Int) (a2 : Nat), e = .returned (.int .i64 v) ∧ RS wr w4 p s a2 g' ∧ a2 ≤ s.size ∧
                  ((g' = (0, 0) ∧ a2 = a' + 4 ∧ numB s a' 4 = some v) ∨ (g' = endF s ∧ v = 0 ∧ insD s a = .inl (endF s))) ∧ v < 4294967296 := by
                cases hn : numB s a' 4 with
                | none =>
                  rw [hn] at hpost
                  obtain ⟨rfl, hst⟩ := hpost
                  exact ⟨0, endF s, a', rfl, hst, ha', .inr ⟨rfl, rfl, by have := HGO2.out; rw [hn] at this; exact this.symm⟩, by omega⟩
                | some v =>
                  rw [hn] at hpost
                  obtain ⟨rfl, hst⟩ := hpost
                  obtain ⟨hv, hle⟩ := numB_lt hn
                  exact ⟨v, (0, 0), a' + 4, rfl, hst, hle, .inl ⟨rfl, rfl, rfl⟩, hv⟩
              subst he
              have HL4 := Lib.hid (HL.out.step hst)
              have HFM2 := Lib.hid hfm
              clear hst hfm hpost
              go_upto_if 52 with fail
              go_cut [8] (fun o wx => o = .int .i64 (sgn v) ∧ wx = w4)
              case first =>
                obtain ⟨bb, hbb⟩ : ∃ bb, bb = decide ((2147483648 : Int) ≤ (v : Int)) := ⟨_, rfl⟩
                rw [← hbb]
                have HBB := Lib.hid hbb
                have HV := Lib.hid hv
                clear hbb hv
                cases bb with
                | true =>
                  go_wp2_with fail
                  go_meet
                  exact ⟨congrArg (fun n => Value.int .i64 n) (sgn_hi v HV.out HBB.out), rfl⟩
                | false =>
                  go_wp2_with fail
                  go_meet
                  exact ⟨congrArg (fun n => Value.int .i64 n) (sgn_lo v HBB.out), rfl⟩
              case rest =>
                obtain ⟨rfl, rfl⟩ := hcut
                obtain ⟨sv, hsv⟩ : ∃ sv, sv = sgn v := ⟨_, rfl⟩
                rw [← hsv]
                have HSV := Lib.hid hsv
                clear hsv
                by_cases hbig : 1000000000 < sv ∨ sv < -1000000000
                · have hdd : decide (1000000000 < sv) = true ∨ (decide (1000000000 < sv) = false ∧ decide (sv < -1000000000) = true) := by
                    by_cases h1 : 1000000000 < sv
                    · exact .inl (by simpa using h1)
                    · exact .inr ⟨by simpa using h1, by simp; omega⟩
                  have HBIG := Lib.hid hbig
                  clear hbig
                  rcases hdd with d1 | ⟨d1, d2⟩
                  all_goals
                    go_wp2_with fail
                    refine (rfail_any p s a2 g' 17 a' _ HL4.out.st.rd).mono ?_
                    rintro e w5 ⟨rfl, hst⟩
                    have HL5 := Lib.hid (HL4.out.step hst)
                    clear hst
                    go_wp2_with fail
                    go_meet
                    refine ⟨sv, a2, _, rfl, HL5.out, ha2, .inr ?_⟩
                    rcases HFM2.out with ⟨rfl, rfl, hn⟩ | ⟨rfl, rfl, hi⟩
                    · refine ⟨by simp [fst0], ?_⟩
                      have h1 := HGO2.out
                      rw [hn] at h1
                      simp only [← HSV.out] at h1
                      rw [if_pos HBIG.out] at h1
                      rw [← h1]
                      simp [fst0]
                    · exfalso
                      have h1 := HBIG.out
                      rw [HSV.out] at h1
                      simp [sgn] at h1
                · have d1 : decide (1000000000 < sv) = false := by simp; omega
                  have d2 : decide (sv < -1000000000) = false := by simp; omega
                  have HBIG := Lib.hid hbig
                  clear hbig
                  go_wp2_with fail
                  go_meet
                  refine ⟨sv, a2, g', rfl, HL4.out, ha2, ?_⟩
                  rcases HFM2.out with ⟨rfl, rfl, hn⟩ | ⟨rfl, rfl, hi⟩
                  · refine .inl ⟨rfl, ?_⟩
                    have h1 := HGO2.out
                    rw [hn] at h1
                    simp only [← HSV.out] at h1
                    rw [if_neg HBIG.out] at h1
                    exact h1
                  · exact .inr ⟨by simp [endF], hi⟩
            · have hb5 : ((((ByteArray.mk f.toArray)[k]'hki).toNat : Int) == 105) = false := by rw [byte_at f k hkf hki, hc]; rfl
              have hgo := HGO.out
              rw [if_neg (by rw [hc]; decide)] at hgo
              have HGO2 := Lib.hid hgo
              clear hc hgo
              go_wp2_with fail
              refine (rnum_any p s a' 2 (0, 0) _ HL.out.st.rd ha' hs (by omega)).mono ?_
              intro e w4 hpost
              unfold RNumPost at hpost
              rw [if_pos rfl] at hpost
              cases hn : numB s a' 2 with
              | none =>
                rw [hn] at hpost
                obtain ⟨rfl, hst⟩ := hpost
                have HL4 := Lib.hid (HL.out.step hst)
                have hres : insD s a = .inl (endF s) := by have := HGO2.out; rw [hn] at this; exact this.symm
                have HRES := Lib.hid hres
                clear hst hn hres
                go_wp2_with fail
                go_meet
                exact ⟨0, a', endF s, rfl, HL4.out, ha', .inr ⟨by simp [endF], HRES.out⟩⟩
              | some v =>
                rw [hn] at hpost
                obtain ⟨rfl, hst⟩ := hpost
                have hle := (numB_lt hn).2
                have HL4 := Lib.hid (HL.out.step hst)
                have hres := HGO2.out
                rw [hn] at hres
                have HRES := Lib.hid hres
                clear hst hn hres
                go_wp2_with fail
                go_meet
                exact ⟨v, a' + 2, (0, 0), rfl, HL4.out, hle, .inl ⟨rfl, HRES.out⟩⟩
          case rest =>
            obtain ⟨sv, a2, g2, rfl, hl4, ha2, hgo⟩ := hcut
            obtain ⟨x0, x1, x2⟩ := SX.s3 hl4.xs
            obtain ⟨z0, z1, z2⟩ := SX.z3 hl4.xs
            have HL4 := Lib.hid hl4
            have HGO2 := Lib.hid hgo
            have l3 : w1.heap.size < wc.heap.size := lt_of_block hl4.xs
            clear hl4 hgo c1 c2
            rcases (by omega : k = 0 ∨ k = 1) with rfl | rfl
            all_goals
              go_wp2_with fail
              go_roundw
              case rel => exact ⟨_, _, a2, g2, by first | rfl | go_num, by omega, ha2, HL4.out.setx (by omega) sv, HGO2.out⟩
              case measure => simp [intOf]; omega
        · obtain rfl : k = f.length := by omega
          have hres : insD s a = .inr (x, a') := by rw [← hgo]; simp [opsD]
          have HRES := Lib.hid hres
          have HL := Lib.hid hlr
          clear hres hgo hlr
          go_wp2_with fail
          refine bodyPost_ret (v := xval x) (by simp [results, Tryd.results27, go_sem, *]; rfl) rfl ?_
          unfold RInsPost
          rw [HRES.out]
          exact ⟨rfl, HL.out.st.set3 _ _ _ _ hlt (Nat.le_refl _), ha'⟩
      · have HRES := Lib.hid hres
        have HL := Lib.hid hlr
        have gb : (g.1 == 0) = false := by simpa using hg
        clear hres hlr hg
        by_cases hkf : k < f.length
        all_goals
          go_wp2_with fail
          refine bodyPost_ret (v := xval x) (by simp [results, Tryd.results27, go_sem, *]; rfl) rfl ?_
          unfold RInsPost
          rw [HRES.out]
          exact ⟨x, a', rfl, HL.out.st.set3 _ _ _ _ hlt (Nat.le_refl _), ha'⟩

end Go.Proofs.YtebappmamaafaaaDoor
