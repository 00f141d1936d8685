/-
  Proved: what is written of a code is read as it was, what is read is written as it was: on the functions that Encode and Decode compute. No condition.
-/
import Derived.Test.YtebappmamaafaaaDoorD8
import Derived.Test.YtebappmamaafaaaDoorD4
set_option linter.unusedSimpArgs false
set_option linter.unusedVariables false
namespace Go.Proofs.YtebappmamaafaaaDoor

def ib (x : Ic) : List UInt8 × Bool := pinsB x.1 x.2.1 x.2.2
theorem pinss_take (l : List Ic) : ∀ k, k ≤ l.length → pinss l k = ((l.take k).flatMap fun x => (ib x).1, (l.take k).any fun x => (ib x).2) := by
  intro k
  induction k with
  | zero => intro _; simp [pinss]
  | succ k ih =>
    intro hk
    have e : l.getD k (0, 0, 0) = l[k] := by rw [List.getD_eq_getElem?_getD, List.getElem?_eq_getElem (by omega)]; rfl
    rw [pinss, ih (by omega), List.take_succ_eq_append_getElem (by omega), e, List.flatMap_append, List.any_append]
    simp only [List.flatMap_cons, List.flatMap_nil, List.append_nil, List.any_cons, List.any_nil, Bool.or_false, ib]
theorem pinss_all (l : List Ic) : pinss l l.length = (l.flatMap fun x => (ib x).1, l.any fun x => (ib x).2) := by
  rw [pinss_take l _ (Nat.le_refl _), List.take_length]
theorem inss_enc (s : ByteArray) : ∀ (l acc : List Ic) (p : Nat), (l.any fun x => (ib x).2) = false → At s p (l.flatMap fun x => (ib x).1) → inssD s l.length acc p = .inr (acc ++ l, p + (l.flatMap fun x => (ib x).1).length) := by
  intro l
  induction l with
  | nil => intro acc p _ _; simp [inssD]
  | cons x l ih =>
    intro acc p hb h
    simp only [List.any_cons, Bool.or_eq_false_iff] at hb
    rw [List.flatMap_cons] at h
    obtain ⟨h1, h2⟩ := At.app.1 h
    have hx := ins_enc (op := x.1) (a := x.2.1) (b := x.2.2) hb.1 h1
    have hr := ih (acc ++ [x]) _ hb.2 h2
    rw [List.length_cons, inssD, hx]
    simp only
    have e : (p + (pinsB x.1 x.2.1 x.2.2).1.length) = p + (ib x).1.length := rfl
    rw [e, hr]
    simp [Nat.add_assoc]
theorem inss_dec (s : ByteArray) : ∀ (n : Nat) (acc : List Ic) (p : Nat) (r : List Ic) (p' : Nat), p ≤ s.size → inssD s n acc p = .inr (r, p') → ∃ l, l.length = n ∧ r = acc ++ l ∧ (l.any fun x => (ib x).2) = false ∧ At s p (l.flatMap fun x => (ib x).1) ∧ p' = p + (l.flatMap fun x => (ib x).1).length := by
  intro n
  induction n with
  | zero => intro acc p r p' hp h; cases h; exact ⟨[], rfl, by simp, rfl, At.nil hp, rfl⟩
  | succ n ih =>
    intro acc p r p' hp h
    rw [inssD] at h
    split at h
    · cases h
    · rename_i x a' hx
      obtain ⟨h1, h2, h3⟩ := ins_dec hx
      have hle := h2.le
      obtain ⟨l, g1, g2, g3, g4, g5⟩ := ih _ _ _ _ (by omega) h
      refine ⟨x :: l, by simp [g1], by simp [g2], ?_, ?_, ?_⟩
      · simp only [List.any_cons, Bool.or_eq_false_iff]; exact ⟨h1, g3⟩
      · rw [List.flatMap_cons]; exact At.app.2 ⟨h2, by rw [h3] at g4; exact g4⟩
      · rw [List.flatMap_cons, List.length_append, g5, h3]; simp only [ib]; omega

/-! functions -/
def fb (f : Fc) : List UInt8 × Bool :=
  (twoB f.1 ++ twoB f.2.1 ++ twoB f.2.2.length ++ (f.2.2.flatMap fun x => (ib x).1), !fitsB f.1 || !fitsB f.2.1 || !fitsB f.2.2.length || (f.2.2.any fun x => (ib x).2))
theorem pfun_fb (f : Fn) : pfun f = fb (fct f) := by unfold pfun fb fct; rw [pinss_all]
theorem fun_enc {s : ByteArray} {p : Nat} {f : Fc} (hb : (fb f).2 = false) (h : At s p (fb f).1) : funD s p = .inr (f, p + (fb f).1.length) := by
  obtain ⟨fr, sl, l⟩ := f
  simp only [fb, Bool.or_eq_false_iff, Bool.not_eq_false'] at hb
  obtain ⟨⟨⟨b1, b2⟩, b3⟩, b4⟩ := hb
  simp only [fb] at h
  obtain ⟨h123, h4⟩ := At.app.1 h
  obtain ⟨h12, h3⟩ := At.app.1 h123
  obtain ⟨h1, h2⟩ := At.app.1 h12
  have n1 := num_two h1 (fits_iff.1 b1).1 (fits_iff.1 b1).2
  have n2 := num_two h2 (fits_iff.1 b2).1 (fits_iff.1 b2).2
  have n3 := num_two h3 (fits_iff.1 b3).1 (fits_iff.1 b3).2
  have hr := inss_enc s l [] _ b4 h4
  simp only [List.length_append, show ∀ v, (twoB v).length = 2 from fun _ => rfl] at n2 n3 hr
  unfold funD
  rw [n1]
  simp only
  rw [n2]
  simp only
  rw [show p + 4 = p + (2 + 2) from rfl, n3]
  simp only [Int.toNat_natCast]
  rw [show p + 6 = p + (2 + 2 + 2) from rfl, hr]
  have e1 := (fits_iff.1 b1).1
  have e2 := (fits_iff.1 b2).1
  simp [fb, twoB]
  omega
theorem fun_dec {s : ByteArray} {p p' : Nat} {f : Fc} (h : funD s p = .inr (f, p')) : (fb f).2 = false ∧ At s p (fb f).1 ∧ p' = p + (fb f).1.length := by
  unfold funD at h
  split at h
  · cases h
  · rename_i v1 n1
    split at h
    · cases h
    · rename_i v2 n2
      split at h
      · cases h
      · rename_i v3 n3
        split at h
        · cases h
        · rename_i l a' hl
          cases h
          obtain ⟨t1, u1⟩ := two_of n1
          obtain ⟨t2, u2⟩ := two_of n2
          obtain ⟨t3, u3⟩ := two_of n3
          have hle := t3.le
          rw [show (twoB (v3 : Int)).length = 2 from rfl] at hle
          obtain ⟨l', g1, g2, g3, g4, g5⟩ := inss_dec s _ _ _ _ _ (by omega) hl
          simp only [List.nil_append] at g2
          subst g2
          have e3 : ((l.length : Nat) : Int) = v3 := by rw [g1]
          refine ⟨?_, ?_, ?_⟩
          · simp only [fb, Bool.or_eq_false_iff, Bool.not_eq_false']
            exact ⟨⟨⟨fits_iff.2 (by omega), fits_iff.2 (by omega)⟩, fits_iff.2 (by omega)⟩, g3⟩
          · simp only [fb]
            rw [e3]
            exact At.app.2 ⟨At.app.2 ⟨At.app.2 ⟨t1, t2⟩, t3⟩, g4⟩
          · simp only [fb, List.length_append, show ∀ v, (twoB v).length = 2 from fun _ => rfl]
            omega
theorem funs_enc (s : ByteArray) : ∀ (l acc : List Fc) (p : Nat), (l.any fun x => (fb x).2) = false → At s p (l.flatMap fun x => (fb x).1) → funsD s l.length acc p = .inr (acc ++ l, p + (l.flatMap fun x => (fb x).1).length) := by
  intro l
  induction l with
  | nil => intro acc p _ _; simp [funsD]
  | cons x l ih =>
    intro acc p hb h
    simp only [List.any_cons, Bool.or_eq_false_iff] at hb
    rw [List.flatMap_cons] at h
    obtain ⟨h1, h2⟩ := At.app.1 h
    rw [List.length_cons, funsD, fun_enc hb.1 h1]
    simp only
    rw [ih (acc ++ [x]) _ hb.2 h2]
    simp [Nat.add_assoc]
theorem funs_dec (s : ByteArray) : ∀ (n : Nat) (acc : List Fc) (p : Nat) (r : List Fc) (p' : Nat), p ≤ s.size → funsD s n acc p = .inr (r, p') → ∃ l, l.length = n ∧ r = acc ++ l ∧ (l.any fun x => (fb x).2) = false ∧ At s p (l.flatMap fun x => (fb x).1) ∧ p' = p + (l.flatMap fun x => (fb x).1).length := by
  intro n
  induction n with
  | zero => intro acc p r p' hp h; cases h; exact ⟨[], rfl, by simp, rfl, At.nil hp, rfl⟩
  | succ n ih =>
    intro acc p r p' hp h
    rw [funsD] at h
    split at h
    · cases h
    · rename_i x a' hx
      obtain ⟨h1, h2, h3⟩ := fun_dec hx
      have hle := h2.le
      obtain ⟨l, g1, g2, g3, g4, g5⟩ := ih _ _ _ _ (by omega) h
      refine ⟨x :: l, by simp [g1], by simp [g2], ?_, ?_, ?_⟩
      · simp only [List.any_cons, Bool.or_eq_false_iff]; exact ⟨h1, g3⟩
      · rw [List.flatMap_cons]; exact At.app.2 ⟨h2, by rw [h3] at g4; exact g4⟩
      · rw [List.flatMap_cons, List.length_append, g5, h3]; omega
theorem pfuns_take (l : List Fn) : ∀ k, k ≤ l.length → pfuns l k = (((l.take k).map fct).flatMap fun x => (fb x).1, ((l.take k).map fct).any fun x => (fb x).2) := by
  intro k
  induction k with
  | zero => intro _; simp [pfuns]
  | succ k ih =>
    intro hk
    have e : l.getD k nofn = l[k] := by rw [List.getD_eq_getElem?_getD, List.getElem?_eq_getElem (by omega)]; rfl
    rw [pfuns, ih (by omega), List.take_succ_eq_append_getElem (by omega), e, pfun_fb, List.map_append, List.flatMap_append, List.any_append]
    simp only [List.map_cons, List.map_nil, List.flatMap_cons, List.flatMap_nil, List.append_nil, List.any_cons, List.any_nil, Bool.or_false]
theorem pfuns_all (l : List Fn) : pfuns l l.length = ((l.map fct).flatMap fun x => (fb x).1, (l.map fct).any fun x => (fb x).2) := by
  rw [pfuns_take l _ (Nat.le_refl _), List.take_length]

/-! texts -/
def tb (t : ByteArray) : List UInt8 × Bool := (lo t.size :: t.data.toList, decide (200 < (t.size : Int)))
theorem ptexts_take (l : List ByteArray) : ∀ k, k ≤ l.length → ptexts l k = ((l.take k).flatMap fun x => (tb x).1, (l.take k).any fun x => (tb x).2) := by
  intro k
  induction k with
  | zero => intro _; simp [ptexts]
  | succ k ih =>
    intro hk
    have e : l.getD k ByteArray.empty = l[k] := by rw [List.getD_eq_getElem?_getD, List.getElem?_eq_getElem (by omega)]; rfl
    rw [ptexts, ih (by omega), List.take_succ_eq_append_getElem (by omega), e, List.flatMap_append, List.any_append]
    simp only [List.flatMap_cons, List.flatMap_nil, List.append_nil, List.any_cons, List.any_nil, Bool.or_false, tb]
theorem ptexts_all (l : List ByteArray) : ptexts l l.length = (l.flatMap fun x => (tb x).1, l.any fun x => (tb x).2) := by
  rw [ptexts_take l _ (Nat.le_refl _), List.take_length]
theorem ba_eq (t : ByteArray) : (⟨t.data.toList.toArray⟩ : ByteArray) = t := by cases t; simp
theorem texts_enc (s : ByteArray) : ∀ (l acc : List ByteArray) (p : Nat), (l.any fun x => (tb x).2) = false → At s p (l.flatMap fun x => (tb x).1) → textsD s l.length acc p = .inr (acc ++ l, p + (l.flatMap fun x => (tb x).1).length) := by
  intro l
  induction l with
  | nil => intro acc p _ _; simp [textsD]
  | cons x l ih =>
    intro acc p hb h
    simp only [List.any_cons, Bool.or_eq_false_iff] at hb
    rw [List.flatMap_cons] at h
    obtain ⟨h1, h2⟩ := At.app.1 h
    have hsz : x.size ≤ 200 := by have := hb.1; simp only [tb, decide_eq_false_iff_not] at this; omega
    simp only [tb] at h1
    obtain ⟨h3, h4⟩ := At.cons.1 h1
    have n1 := num_one h3 (by omega) (by omega)
    rw [Int.toNat_natCast] at n1
    have hc : cutB s (p + 1) x.size = x.data.toList := by have := h4.eq; rwa [sizeL] at this
    have hle := h4.le
    rw [sizeL] at hle
    rw [List.length_cons, textsD, n1]
    simp only
    rw [if_neg (by omega), if_pos hle, hc, ba_eq]
    have hlen : (tb x).1.length = 1 + x.size := by simp [tb, sizeL]; omega
    rw [hlen, ← Nat.add_assoc] at h2
    rw [ih (acc ++ [x]) _ hb.2 h2]
    simp only [List.flatMap_cons, List.length_append, hlen]
    simp [Nat.add_assoc]
theorem texts_dec (s : ByteArray) : ∀ (n : Nat) (acc : List ByteArray) (p : Nat) (r : List ByteArray) (p' : Nat), p ≤ s.size → textsD s n acc p = .inr (r, p') → ∃ l, l.length = n ∧ r = acc ++ l ∧ (l.any fun x => (tb x).2) = false ∧ At s p (l.flatMap fun x => (tb x).1) ∧ p' = p + (l.flatMap fun x => (tb x).1).length := by
  intro n
  induction n with
  | zero => intro acc p r p' hp h; cases h; exact ⟨[], rfl, by simp, rfl, At.nil hp, rfl⟩
  | succ n ih =>
    intro acc p r p' hp h
    rw [textsD] at h
    split at h
    · cases h
    · rename_i k hk
      split at h
      · cases h
      · rename_i h200
        split at h
        · rename_i hle
          obtain ⟨t1, u1⟩ := one_of hk
          obtain ⟨l, g1, g2, g3, g4, g5⟩ := ih _ _ _ _ (by omega) h
          have hcl := cutB_len s (p + 1) k hle
          have hsz : (⟨(cutB s (p + 1) k).toArray⟩ : ByteArray).size = k := by
            show (cutB s (p + 1) k).toArray.size = k
            simp [hcl]
          refine ⟨⟨(cutB s (p + 1) k).toArray⟩ :: l, by simp [g1], by simp [g2], ?_, ?_, ?_⟩
          · simp only [List.any_cons, Bool.or_eq_false_iff]
            exact ⟨by simp only [tb, hsz]; simp; omega, g3⟩
          · rw [List.flatMap_cons]
            refine At.app.2 ⟨?_, ?_⟩
            · simp only [tb, hsz]
              exact At.cons.2 ⟨t1, At.cut hle⟩
            · simp only [tb, List.length_cons, hcl]
              rw [show p + (k + 1) = p + 1 + k from by omega]
              exact g4
          · rw [List.flatMap_cons, List.length_append, g5]
            simp only [tb, List.length_cons, hcl]
            omega
        · cases h

/-! codes -/
theorem head_iff (s : ByteArray) : headD s headB 0 = none ↔ At s 0 [77, 76, 49] := by
  have hz := sizeL s
  have key : ∀ k, k < s.size → s.data.toList.getD k 0 = s.data.toList[k]! := by
    intro k hk
    rw [List.getD_eq_getElem?_getD, List.getElem?_eq_getElem (by omega)]
    simp [getElem!_pos, hz, hk]
  unfold headB At cutB
  match hq : s.data.toList with
  | [] => rw [hq] at hz; simp [headD, ← hz]
  | [x] => rw [hq] at hz; simp [headD, ← hz, hq]; by_cases h1 : x = 77 <;> simp [h1]
  | [x, y] => rw [hq] at hz; simp [headD, ← hz, hq]; by_cases h1 : x = 77 <;> by_cases h2 : y = 76 <;> simp [h1, h2]
  | x :: y :: z :: r =>
    rw [hq] at hz
    simp only [List.length_cons] at hz
    have e0 : ¬ 0 = s.size := by omega
    have e1 : ¬ 0 + 1 = s.size := by omega
    have e2 : ¬ 0 + 1 + 1 = s.size := by omega
    simp only [headD, e0, e1, e2, if_false, hq]
    simp
    by_cases h1 : x = 77
    · by_cases h2 : y = 76
      · by_cases h3 : z = 49
        · simp [h1, h2, h3]; omega
        · simp [h1, h2, h3]
      · simp [h1, h2]
    · simp [h1]
def cb (c : Cc) : List UInt8 × Bool :=
  ([77, 76, 49] ++ twoB c.1.length ++ (c.1.flatMap fun x => (tb x).1) ++ twoB c.2.length ++ (c.2.flatMap fun x => (fb x).1),
   !fitsB c.1.length || (c.1.any fun x => (tb x).2) || !fitsB c.2.length || (c.2.any fun x => (fb x).2))
theorem pbytes_cb (c : Cd) : pbytes c = cb c.ct := by
  unfold pbytes cb Cd.ct
  rw [ptexts_all, pfuns_all]
  simp
theorem At.all (l : List UInt8) : At ⟨l.toArray⟩ 0 l := by
  have hz : (ByteArray.mk l.toArray).size = l.length := by show l.toArray.size = _; simp
  exact ⟨by omega, by simp [cutB]⟩
theorem At.whole {s : ByteArray} {l : List UInt8} (h : At s 0 l) (hl : l.length = s.size) : s.data.toList = l := by
  have h2 := h.eq
  unfold cutB at h2
  rw [List.drop_zero, List.take_of_length_le (by rw [sizeL]; omega)] at h2
  exact h2
theorem code_enc {c : Cc} (hb : (cb c).2 = false) (hl : (cb c).1.length ≤ 4000000) : codeD ⟨(cb c).1.toArray⟩ = .inr c := by
  obtain ⟨ts, fs⟩ := c
  have hat := At.all (cb (ts, fs)).1
  have hz : (ByteArray.mk (cb (ts, fs)).1.toArray).size = (cb (ts, fs)).1.length := by show (cb (ts, fs)).1.toArray.size = _; simp
  generalize hs : (⟨(cb (ts, fs)).1.toArray⟩ : ByteArray) = s at *
  simp only [cb, Bool.or_eq_false_iff, Bool.not_eq_false'] at hb
  obtain ⟨⟨⟨b1, b2⟩, b3⟩, b4⟩ := hb
  have hlen : s.size = (cb (ts, fs)).1.length := hz
  simp only [cb] at hat
  obtain ⟨h1234, h5⟩ := At.app.1 hat
  obtain ⟨h123, h4⟩ := At.app.1 h1234
  obtain ⟨h12, h3⟩ := At.app.1 h123
  obtain ⟨h1, h2⟩ := At.app.1 h12
  have two : ∀ v, (twoB v).length = 2 := fun _ => rfl
  simp only [List.length_append, two, List.length_cons, List.length_nil, Nat.zero_add] at h2 h3 h4 h5
  have n2 := num_two h2 (fits_iff.1 b1).1 (fits_iff.1 b1).2
  have n4 := num_two h4 (fits_iff.1 b3).1 (fits_iff.1 b3).2
  have t3 := texts_enc s ts [] _ b2 h3
  have f5 := funs_enc s fs [] _ b4 h5
  rw [Int.toNat_natCast] at n2 n4
  unfold codeD
  rw [if_neg (by omega), (head_iff s).2 h1]
  simp only
  rw [n2]
  simp only
  rw [t3]
  simp only [List.nil_append]
  rw [show 1 + 1 + 1 + 2 + (ts.flatMap fun x => (tb x).1).length = 5 + (ts.flatMap fun x => (tb x).1).length from by omega] at n4 f5 ⊢
  rw [n4]
  simp only
  rw [f5]
  simp only [List.nil_append]
  rw [if_neg]
  rw [hlen]
  simp only [cb, List.length_append, two, List.length_cons, List.length_nil]
  omega
theorem code_dec {s : ByteArray} {c : Cc} (h : codeD s = .inr c) : (cb c).2 = false ∧ (cb c).1 = s.data.toList ∧ s.size ≤ 4000000 := by
  unfold codeD at h
  split at h
  · cases h
  · rename_i hbig
    split at h
    · cases h
    · rename_i hhd
      have h1 := (head_iff s).1 hhd
      split at h
      · cases h
      · rename_i n n2
        obtain ⟨t2, u2⟩ := two_of n2
        have hle2 := t2.le
        rw [show (twoB (n : Int)).length = 2 from rfl] at hle2
        split at h
        · cases h
        · rename_i ts a ht
          obtain ⟨ts', g1, g2, g3, g4, g5⟩ := texts_dec s _ _ _ _ _ (by omega) ht
          simp only [List.nil_append] at g2
          subst g2
          split at h
          · cases h
          · rename_i m n4
            obtain ⟨t4, u4⟩ := two_of n4
            have hle4 := t4.le
            rw [show (twoB (m : Int)).length = 2 from rfl] at hle4
            split at h
            · cases h
            · rename_i fs a' hf
              obtain ⟨fs', k1, k2, k3, k4, k5⟩ := funs_dec s _ _ _ _ _ (by omega) hf
              simp only [List.nil_append] at k2
              subst k2
              split at h
              · cases h
              · rename_i hend
                cases h
                have e1 : ((ts.length : Nat) : Int) = n := by rw [g1]
                have e2 : ((fs.length : Nat) : Int) = m := by rw [k1]
                have two : ∀ v, (twoB v).length = 2 := fun _ => rfl
                have hle5 := k4.le
                have hat : At s 0 (cb (ts, fs)).1 := by
                  simp only [cb]
                  rw [e1, e2]
                  refine At.app.2 ⟨At.app.2 ⟨At.app.2 ⟨At.app.2 ⟨h1, t2⟩, ?_⟩, ?_⟩, ?_⟩
                  · exact g4
                  · simp only [List.length_append, two, List.length_cons, List.length_nil]
                    rw [g5] at t4
                    rw [show 0 + (0 + 1 + 1 + 1 + 2 + (ts.flatMap fun x => (tb x).1).length) = 5 + (ts.flatMap fun x => (tb x).1).length from by omega]
                    exact t4
                  · simp only [List.length_append, two, List.length_cons, List.length_nil]
                    rw [g5] at k4
                    rw [show 0 + (0 + 1 + 1 + 1 + 2 + (ts.flatMap fun x => (tb x).1).length + 2) = 5 + (ts.flatMap fun x => (tb x).1).length + 2 from by omega]
                    exact k4
                have hlen : (cb (ts, fs)).1.length = s.size := by
                  simp only [cb, List.length_append, two, List.length_cons, List.length_nil]
                  omega
                refine ⟨?_, (At.whole hat hlen).symm, by omega⟩
                simp only [cb, Bool.or_eq_false_iff, Bool.not_eq_false']
                exact ⟨⟨⟨fits_iff.2 (by omega), g3⟩, fits_iff.2 (by omega)⟩, k3⟩

end Go.Proofs.YtebappmamaafaaaDoor
