/-
  Proved: what is written is read as it was, what is read is written as it was: on the functions that Encode and Decode compute. No condition.
-/
import Derived.Test.YtebappmamaafaaaDoorD1
import Derived.Test.YtebappmamaafaaaDoorE6
set_option linter.unusedSimpArgs false
set_option linter.unusedVariables false
namespace Go.Proofs.YtebappmamaafaaaDoor

/-- these bytes stand in the text from here on -/
def At (s : ByteArray) (a : Nat) (l : List UInt8) : Prop := a + l.length ≤ s.size ∧ cutB s a l.length = l
theorem sizeL (s : ByteArray) : s.data.toList.length = s.size := Array.length_toList
theorem At.nil {s : ByteArray} {a : Nat} (h : a ≤ s.size) : At s a [] := ⟨h, by simp [cutB]⟩
theorem At.app {s : ByteArray} {a : Nat} {l l' : List UInt8} : At s a (l ++ l') ↔ At s a l ∧ At s (a + l.length) l' := by
  have hz := sizeL s
  unfold At cutB
  constructor
  · rintro ⟨h1, h2⟩
    rw [List.length_append] at h1 h2
    have e1 : (s.data.toList.drop a).take l.length = l := by
      have := congrArg (List.take l.length) h2
      rw [List.take_take, Nat.min_eq_left (by omega)] at this
      rw [this]; simp
    have e2 : (s.data.toList.drop (a + l.length)).take l'.length = l' := by
      have := congrArg (List.drop l.length) h2
      rw [List.drop_take, List.drop_drop] at this
      simpa using this
    exact ⟨⟨by omega, e1⟩, ⟨by omega, e2⟩⟩
  · rintro ⟨⟨h1, h2⟩, ⟨h3, h4⟩⟩
    refine ⟨by rw [List.length_append]; omega, ?_⟩
    rw [List.length_append, List.take_add, List.drop_drop, h2, h4]
theorem At.cut {s : ByteArray} {a n : Nat} (h : a + n ≤ s.size) : At s a (cutB s a n) := by
  have := cutB_len s a n h
  exact ⟨by omega, by rw [this]⟩
theorem At.eq {s : ByteArray} {a : Nat} {l : List UInt8} (h : At s a l) : cutB s a l.length = l := h.2
theorem At.le {s : ByteArray} {a : Nat} {l : List UInt8} (h : At s a l) : a + l.length ≤ s.size := h.1

theorem lo_byte (b : UInt8) : lo (b.toNat : Int) = b := by
  have := b.toNat_lt
  unfold lo
  rw [show ((b.toNat : Int) % 256).toNat = b.toNat from by omega]
  exact UInt8.ofNat_toNat
theorem lo_toNat (n : Int) (h0 : 0 ≤ n) (h1 : n < 256) : (lo n).toNat = n.toNat := by
  unfold lo
  rw [show n % 256 = n from by omega]
  rw [UInt8.toNat_ofNat']
  omega
theorem lo_toNat_mod (n : Int) : ((lo n).toNat : Int) = n % 256 := by
  unfold lo
  rw [UInt8.toNat_ofNat']
  omega

/-! numbers -/
theorem num_at {s : ByteArray} {a : Nat} {l : List UInt8} (h : At s a l) : numB s a l.length = some (beN l) := by
  unfold numB
  rw [if_pos h.1, h.2]
theorem num_one {s : ByteArray} {a : Nat} {v : Int} (h : At s a [lo v]) (h0 : 0 ≤ v) (h1 : v < 256) : numB s a 1 = some v.toNat := by
  have := num_at h
  rw [show ([lo v] : List UInt8).length = 1 from rfl] at this
  rw [this]
  simp [beN, lo_toNat v h0 h1]
theorem num_two {s : ByteArray} {a : Nat} {v : Int} (h : At s a (twoB v)) (h0 : 0 ≤ v) (h1 : v ≤ 65535) : numB s a 2 = some v.toNat := by
  have := num_at h
  rw [show (twoB v).length = 2 from rfl] at this
  rw [this]
  have e1 := lo_toNat_mod (v / 256)
  have e2 := lo_toNat_mod v
  simp only [beN, twoB, List.foldl_cons, List.foldl_nil, Option.some.injEq]
  omega
theorem sum4 (n1 n2 n3 n4 : Nat) (v : Int) (e1 : (n1 : Int) = v / 16777216 % 256) (e2 : (n2 : Int) = v / 65536 % 256) (e3 : (n3 : Int) = v / 256 % 256) (e4 : (n4 : Int) = v % 256) (h0 : -1000000000 ≤ v) (h1 : v ≤ 1000000000) :
    sgn ((((0 * 256 + n1) * 256 + n2) * 256 + n3) * 256 + n4) = v := by
  unfold sgn
  by_cases hc : 2147483648 ≤ (((0 * 256 + n1) * 256 + n2) * 256 + n3) * 256 + n4
  · rw [if_pos hc]; omega
  · rw [if_neg hc]; omega
set_option maxRecDepth 100000 in
theorem num_four {s : ByteArray} {a : Nat} {v : Int} (h : At s a (fourB v)) (h0 : -1000000000 ≤ v) (h1 : v ≤ 1000000000) : ∃ n, numB s a 4 = some n ∧ sgn n = v := by
  have := num_at h
  rw [show (fourB v).length = 4 from rfl] at this
  refine ⟨_, this, ?_⟩
  have e1 := lo_toNat_mod (v / 16777216)
  have e2 := lo_toNat_mod (v / 65536)
  have e3 := lo_toNat_mod (v / 256)
  have e4 := lo_toNat_mod v
  simp only [beN, fourB, List.foldl_cons, List.foldl_nil]
  exact sum4 _ _ _ _ v e1 e2 e3 e4 h0 h1
theorem one_of {s : ByteArray} {a v : Nat} (h : numB s a 1 = some v) : At s a [lo (v : Int)] ∧ v < 256 := by
  unfold numB at h
  split at h
  · rename_i hle
    cases h
    have hl := cutB_len s a 1 hle
    have hc := At.cut hle
    match hq : cutB s a 1, hl with
    | [b], _ =>
      rw [hq] at hc
      have hb := b.toNat_lt
      simp only [beN, List.foldl_cons, List.foldl_nil, Nat.zero_mul, Nat.zero_add]
      rw [lo_byte]
      exact ⟨hc, hb⟩
  · cases h
theorem two_of {s : ByteArray} {a v : Nat} (h : numB s a 2 = some v) : At s a (twoB (v : Int)) ∧ v ≤ 65535 := by
  unfold numB at h
  split at h
  · rename_i hle
    cases h
    have hl := cutB_len s a 2 hle
    have hc := At.cut hle
    match hq : cutB s a 2, hl with
    | [b, d], _ =>
      rw [hq] at hc
      have hb := b.toNat_lt
      have hd := d.toNat_lt
      have e : twoB ((beN [b, d] : Nat) : Int) = [b, d] := by
        simp only [beN, List.foldl_cons, List.foldl_nil, Nat.zero_mul, Nat.zero_add, twoB]
        rw [show (((b.toNat * 256 + d.toNat : Nat) : Int) / 256) = (b.toNat : Int) from by omega, lo_byte]
        congr 1
        have : lo ((b.toNat * 256 + d.toNat : Nat) : Int) = lo (d.toNat : Int) := by
          unfold lo
          rw [show ((b.toNat * 256 + d.toNat : Nat) : Int) % 256 = (d.toNat : Int) % 256 from by omega]
        rw [this, lo_byte]
      refine ⟨by rw [e]; exact hc, ?_⟩
      simp only [beN, List.foldl_cons, List.foldl_nil]
      omega
  · cases h
theorem four_of {s : ByteArray} {a v : Nat} (h : numB s a 4 = some v) : At s a (fourB (sgn v)) := by
  unfold numB at h
  split at h
  · rename_i hle
    cases h
    have hl := cutB_len s a 4 hle
    have hc := At.cut hle
    match hq : cutB s a 4, hl with
    | [b, d, f, g], _ =>
      rw [hq] at hc
      have hb := b.toNat_lt
      have hd := d.toNat_lt
      have hf := f.toNat_lt
      have hg := g.toNat_lt
      have e : fourB (sgn (beN [b, d, f, g])) = [b, d, f, g] := by
        have key : ∀ (n : Int) (x : UInt8), n % 256 = (x.toNat : Int) → lo n = x := by
          intro n x hx
          have : lo n = lo (x.toNat : Int) := by
            have hx2 := x.toNat_lt
            unfold lo
            rw [hx, show (x.toNat : Int) % 256 = (x.toNat : Int) from by omega]
          rw [this, lo_byte]
        have hv : beN [b, d, f, g] = ((b.toNat * 256 + d.toNat) * 256 + f.toNat) * 256 + g.toNat := by simp [beN]
        rw [hv]
        unfold fourB
        rw [key _ b (by unfold sgn; split <;> omega), key _ d (by unfold sgn; split <;> omega), key _ f (by unfold sgn; split <;> omega), key _ g (by unfold sgn; split <;> omega)]
      rw [e]; exact hc
  · cases h

/-! instructions -/
theorem pins_form {op a b : Int} (h : ¬ (op < 0 ∨ 26 ≤ op)) :
    (formB op = ([105], true) ∧ pinsB op a b = (lo op :: fourB a, (decide (1000000000 < a) || decide (a < -1000000000)) || !(b == 0))) ∨
    (formB op = ([110], true) ∧ pinsB op a b = (lo op :: twoB a, !fitsB a || !(b == 0))) ∨
    (formB op = ([110, 110], true) ∧ pinsB op a b = (lo op :: (twoB a ++ twoB b), !fitsB a || !fitsB b)) ∨
    (formB op = ([], true) ∧ pinsB op a b = ([lo op], !(a == 0) || !(b == 0))) := by
  have z2 : ∀ n, zbad a b n 2 = ((false || (decide (n ≤ 0) && !(a == 0))) || (decide (n ≤ 1) && !(b == 0))) := fun _ => rfl
  rcases formB_cases op with hf | hf | hf | hf | hf
  · exact .inl ⟨hf, by rw [pinsB, if_neg h, hf]; simp [prefP, stepP, opnd, z2]⟩
  · exact .inr (.inl ⟨hf, by rw [pinsB, if_neg h, hf]; simp [prefP, stepP, opnd, z2]⟩)
  · exact .inr (.inr (.inl ⟨hf, by rw [pinsB, if_neg h, hf]; simp [prefP, stepP, opnd, z2]⟩))
  · exact .inr (.inr (.inr ⟨hf, by rw [pinsB, if_neg h, hf]; simp [prefP, z2]⟩))
  · exact absurd hf (form_in h)
theorem fits_iff {n : Int} : fitsB n = true ↔ 0 ≤ n ∧ n ≤ 65535 := by unfold fitsB; simp
theorem At.cons {s : ByteArray} {a : Nat} {x : UInt8} {l : List UInt8} : At s a (x :: l) ↔ At s a [x] ∧ At s (a + 1) l := by
  have := At.app (s := s) (a := a) (l := [x]) (l' := l)
  simpa using this
theorem ins_enc {s : ByteArray} {p : Nat} {op a b : Int} (hb : (pinsB op a b).2 = false) (h : At s p (pinsB op a b).1) : insD s p = .inr ((op, a, b), p + (pinsB op a b).1.length) := by
  have ho : ¬ (op < 0 ∨ 26 ≤ op) := by
    intro hh
    rw [pinsB, if_pos hh] at hb
    cases hb
  have hop : ((op.toNat : Nat) : Int) = op := by omega
  have hn : ∀ l, At s p (lo op :: l) → numB s p 1 = some op.toNat := fun l h => num_one (At.cons.1 h).1 (by omega) (by omega)
  have h26 : ¬ 26 ≤ op.toNat := by omega
  rcases pins_form (a := a) (b := b) ho with ⟨hf, hp⟩ | ⟨hf, hp⟩ | ⟨hf, hp⟩ | ⟨hf, hp⟩ <;> rw [hp] at hb h ⊢ <;> simp only at hb h ⊢
  · simp at hb
    obtain ⟨v, hv, hs⟩ := num_four (At.cons.1 h).2 (by omega) (by omega)
    unfold insD
    rw [hn _ h]
    simp only [h26, if_false, hop, hf]
    simp only [opsD, if_true, hv, hs]
    rw [if_neg (by omega)]
    have : b = 0 := hb.2
    subst this
    simp [setOp, fourB]
  · simp at hb
    have hv := num_two (At.cons.1 h).2 (fits_iff.1 hb.1).1 (fits_iff.1 hb.1).2
    unfold insD
    rw [hn _ h]
    simp only [h26, if_false, hop, hf]
    have ha := (fits_iff.1 hb.1).1
    have : b = 0 := hb.2
    subst this
    simp [opsD, hv, setOp, twoB]
    omega
  · simp at hb
    obtain ⟨h1, h2⟩ := At.app.1 (At.cons.1 h).2
    have hv := num_two h1 (fits_iff.1 hb.1).1 (fits_iff.1 hb.1).2
    have hu := num_two h2 (fits_iff.1 hb.2).1 (fits_iff.1 hb.2).2
    rw [show (twoB a).length = 2 from rfl] at hu
    have ha := (fits_iff.1 hb.1).1
    have hc := (fits_iff.1 hb.2).1
    unfold insD
    rw [hn _ h]
    simp only [h26, if_false, hop, hf]
    simp [opsD, hv, hu, setOp, twoB]
    omega
  · simp at hb
    unfold insD
    rw [hn _ h]
    simp only [h26, if_false, hop, hf]
    simp [opsD, hb.1, hb.2]
theorem ins_dec {s : ByteArray} {p p' : Nat} {x : Ic} (h : insD s p = .inr (x, p')) : (pinsB x.1 x.2.1 x.2.2).2 = false ∧ At s p (pinsB x.1 x.2.1 x.2.2).1 ∧ p' = p + (pinsB x.1 x.2.1 x.2.2).1.length := by
  unfold insD at h
  split at h
  · cases h
  · rename_i op hop
    obtain ⟨hat, hlt⟩ := one_of hop
    split at h
    · cases h
    · rename_i h26
      have ho : ¬ ((op : Int) < 0 ∨ 26 ≤ (op : Int)) := by omega
      rcases formB_cases (op : Int) with hf | hf | hf | hf | hf
      · rw [hf] at h
        simp only [opsD, if_true] at h
        split at h
        · cases h
        · rename_i v hv
          split at h
          · cases h
          · rename_i hb
            cases h
            rcases pins_form (a := sgn v) (b := 0) ho with ⟨hf2, hp⟩ | ⟨hf2, hp⟩ | ⟨hf2, hp⟩ | ⟨hf2, hp⟩ <;> rw [hf] at hf2 <;> simp at hf2
            simp only [setOp, if_true]
            rw [hp]
            refine ⟨by simp; omega, At.cons.2 ⟨hat, four_of hv⟩, by simp [fourB]⟩
      · rw [hf] at h
        simp only [opsD] at h
        rw [if_neg (by decide)] at h
        split at h
        · cases h
        · rename_i v hv
          cases h
          have hv2 := two_of hv
          rcases pins_form (a := (v : Int)) (b := 0) ho with ⟨hf2, hp⟩ | ⟨hf2, hp⟩ | ⟨hf2, hp⟩ | ⟨hf2, hp⟩ <;> rw [hf] at hf2 <;> simp at hf2
          simp only [setOp, if_true]
          rw [hp]
          refine ⟨by simp [fits_iff]; omega, At.cons.2 ⟨hat, hv2.1⟩, by simp [twoB]⟩
      · rw [hf] at h
        simp only [opsD] at h
        rw [if_neg (by decide)] at h
        split at h
        · cases h
        · rename_i v hv
          rw [if_neg (by decide)] at h
          split at h
          · cases h
          · rename_i u hu
            cases h
            have hv2 := two_of hv
            have hu2 := two_of hu
            rcases pins_form (a := (v : Int)) (b := (u : Int)) ho with ⟨hf2, hp⟩ | ⟨hf2, hp⟩ | ⟨hf2, hp⟩ | ⟨hf2, hp⟩ <;> rw [hf] at hf2 <;> simp at hf2
            simp only [setOp, if_true, Nat.zero_add, Nat.one_ne_zero, if_false]
            rw [hp]
            refine ⟨by simp [fits_iff]; omega, At.cons.2 ⟨hat, At.app.2 ⟨hv2.1, hu2.1⟩⟩, by simp [twoB]⟩
      · rw [hf] at h
        simp only [opsD] at h
        cases h
        rcases pins_form (a := 0) (b := 0) ho with ⟨hf2, hp⟩ | ⟨hf2, hp⟩ | ⟨hf2, hp⟩ | ⟨hf2, hp⟩ <;> rw [hf] at hf2 <;> simp at hf2
        rw [hp]
        exact ⟨by simp, hat, rfl⟩
      · exact absurd hf (form_in ho)

end Go.Proofs.YtebappmamaafaaaDoor
