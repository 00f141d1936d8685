/-
  Proved: the contract of the reference's ins (an instruction's bytes). Conditions: numbers within int.
-/
import Derived.Test.YtebappmamaafaaaDoorE1
set_option linter.unusedSimpArgs false
set_option linter.unusedVariables false
namespace Go.Proofs.YtebappmamaafaaaDoor
open Go.RowKit

theorem form_lit {op : Int} {f : List UInt8} {ok : Bool} (h : formB op = (f, ok)) (w : World) : Calls Tryd.prog 29 #[.int .i64 op] w fun e w' => e = .returned (.tuple #[.string ⟨f.toArray⟩, .bool ok]) ∧ w = w' :=
  (form_any op w).mono fun e w' ⟨he, hw⟩ => ⟨by rw [he, h], hw⟩

theorem big1_any (v : Int) (w : World) (h1 : -9223372036854775808 ≤ v) (h2 : v ≤ 9223372036854775807) :
    Calls Tryd.prog 19 #[.int .i64 v, .int .i64 1] w fun e w' => e = .returned (.string ⟨#[lo v]⟩) ∧ Below w.heap.size w w' :=
  (big_any v 1 w (by decide) h1 h2).mono fun e w' ⟨he, hw⟩ => ⟨by rw [he, big1], hw⟩

def fourB (v : Int) : List UInt8 := [lo (v / 16777216), lo (v / 65536), lo (v / 256), lo v]
theorem big4 (v : Int) : bigB v 4 = fourB v := by simp [bigB, fourB]
theorem big4_any (v : Int) (w : World) (h1 : -9223372036854775808 ≤ v) (h2 : v ≤ 9223372036854775807) :
    Calls Tryd.prog 19 #[.int .i64 v, .int .i64 4] w fun e w' => e = .returned (.string ⟨#[lo (v / 16777216), lo (v / 65536), lo (v / 256), lo v]⟩) ∧ Below w.heap.size w w' :=
  (big_any v 4 w (by decide) h1 h2).mono fun e w' ⟨he, hw⟩ => ⟨by rw [he, big4]; rfl, hw⟩
theorem rtwo_lit (n : Int) (w : World) (h1 : -9223372036854775808 ≤ n) (h2 : n ≤ 9223372036854775807) :
    Calls Tryd.prog 18 #[.int .i64 n] w fun e w' => e = .returned (.tuple #[.string ⟨#[lo (n / 256), lo n]⟩, .bool (fitsB n)]) ∧ Below w.heap.size w w' := rtwo_any n w h1 h2

/-- the reference's step over one operand -/
def stepR (f : List UInt8) (i : Nat) (v : Int) (x : List UInt8 × Bool) : List UInt8 × Bool :=
  if x.2 = true then
    match f[i]? with
    | none => (x.1, v == 0)
    | some c => if c = 105 then (x.1 ++ fourB v, decide (v ≤ 1000000000) && decide (-1000000000 ≤ v)) else (x.1 ++ twoB v, fitsB v)
  else x
def rinsB (op a b : Int) : List UInt8 × Bool :=
  stepR (formB op).1 1 b (stepR (formB op).1 0 a ([lo op], (formB op).2))

def RinsPost (op a b : Int) (w : World) (e : Ending) (w' : World) : Prop := e = .returned (.tuple #[.string ⟨(rinsB op a b).1.toArray⟩, .bool (rinsB op a b).2]) ∧ Below w.heap.size w w'

theorem formB_cases (op : Int) : formB op = ([105], true) ∨ formB op = ([110], true) ∨ formB op = ([110, 110], true) ∨ formB op = ([], true) ∨ formB op = ([], false) := by
  unfold formB
  by_cases h1 : op = 0 ∨ op = 9
  · rw [if_pos h1]; simp
  rw [if_neg h1]
  by_cases h2 : op = 1 ∨ op = 2 ∨ op = 4 ∨ op = 5 ∨ op = 6 ∨ op = 8 ∨ op = 10 ∨ op = 12 ∨ op = 13 ∨ op = 18 ∨ op = 19 ∨ op = 20 ∨ op = 24
  · rw [if_pos h2]; simp
  rw [if_neg h2]
  by_cases h3 : op = 7 ∨ op = 14 ∨ op = 23
  · rw [if_pos h3]; simp
  rw [if_neg h3]
  by_cases h4 : op = 3 ∨ op = 11 ∨ op = 15 ∨ op = 16 ∨ op = 17 ∨ op = 21 ∨ op = 22 ∨ op = 25
  · rw [if_pos h4]; simp
  rw [if_neg h4]; simp

theorem rins_1 (op a b : Int) (w : World) (o1 : -9223372036854775808 ≤ op) (o2 : op ≤ 9223372036854775807) (a1 : -9223372036854775808 ≤ a) (a2 : a ≤ 9223372036854775807) (b1 : -9223372036854775808 ≤ b) (b2 : b ≤ 9223372036854775807) (h : formB op = ([105], true)) (h1 : 1000000000 < a) :
    Calls Tryd.prog 20 #[.agg #[.int .i64 op, .int .i64 a, .int .i64 b]] w (RinsPost op a b w) := by
  have hfin : rinsB op a b = ([lo op] ++ fourB a, false) := by
    rw [rinsB, h]
    simp [stepR, show ¬ (a ≤ 1000000000) by omega]
  have HF := Lib.hid (form_lit h)
  have HE := Lib.hid hfin
  clear h hfin
  go_enter Tryd.func20, Tryd.ntmps20
  go_wp2_with (first
        | (go_at_call 29; (with_reducible refine (HF.out _).mono ?_); rintro e w1 ⟨rfl, rfl⟩)
        | (go_at_call 19; (with_reducible refine (big1_any _ _ o1 o2).mono ?_); rintro e w1 ⟨rfl, hb1⟩; obtain ⟨hc1, hf1⟩ := bcell hb1; have hs1 := hb1.size)
        | (go_at_call 19; (with_reducible refine (big4_any _ _ a1 a2).mono ?_); rintro e w2 ⟨rfl, hb2⟩; obtain ⟨hc2, hf2⟩ := bcell hb2; have hs2 := hb2.size)
        | (go_at_call 18; (with_reducible refine (rtwo_lit a _ a1 a2).mono ?_); rintro e w2 ⟨rfl, hb2⟩; obtain ⟨hc2, hf2⟩ := bcell hb2; have hs2 := hb2.size)
        | (go_at_call 18; (with_reducible refine (rtwo_lit b _ b1 b2).mono ?_); rintro e w3 ⟨rfl, hb3⟩; obtain ⟨hc3, hf3⟩ := bcell hb3; have hs3 := hb3.size))
  refine wp_loop_rounds 3 ?_
  repeat any_goals (rw [rounds_succ]; go_wp2_with (first
        | (go_at_call 29; (with_reducible refine (HF.out _).mono ?_); rintro e w1 ⟨rfl, rfl⟩)
        | (go_at_call 19; (with_reducible refine (big1_any _ _ o1 o2).mono ?_); rintro e w1 ⟨rfl, hb1⟩; obtain ⟨hc1, hf1⟩ := bcell hb1; have hs1 := hb1.size)
        | (go_at_call 19; (with_reducible refine (big4_any _ _ a1 a2).mono ?_); rintro e w2 ⟨rfl, hb2⟩; obtain ⟨hc2, hf2⟩ := bcell hb2; have hs2 := hb2.size)
        | (go_at_call 18; (with_reducible refine (rtwo_lit a _ a1 a2).mono ?_); rintro e w2 ⟨rfl, hb2⟩; obtain ⟨hc2, hf2⟩ := bcell hb2; have hs2 := hb2.size)
        | (go_at_call 18; (with_reducible refine (rtwo_lit b _ b1 b2).mono ?_); rintro e w3 ⟨rfl, hb3⟩; obtain ⟨hc3, hf3⟩ := bcell hb3; have hs3 := hb3.size)))
  all_goals
    go_ret2
    refine ⟨by rw [HE.out]; rfl, ?_⟩
    exact (by repeat' (first | exact Below.refl _ _ | refine balloc ?_ _ | refine bthen ?_ (by assumption)))

theorem rins_2 (op a b : Int) (w : World) (o1 : -9223372036854775808 ≤ op) (o2 : op ≤ 9223372036854775807) (a1 : -9223372036854775808 ≤ a) (a2 : a ≤ 9223372036854775807) (b1 : -9223372036854775808 ≤ b) (b2 : b ≤ 9223372036854775807) (h : formB op = ([105], true)) (h1 : a < -1000000000) :
    Calls Tryd.prog 20 #[.agg #[.int .i64 op, .int .i64 a, .int .i64 b]] w (RinsPost op a b w) := by
  have hfin : rinsB op a b = ([lo op] ++ fourB a, false) := by
    rw [rinsB, h]
    simp [stepR, show ¬ (-1000000000 ≤ a) by omega]
  have HF := Lib.hid (form_lit h)
  have HE := Lib.hid hfin
  clear h hfin
  have hd : decide (-1000000000 ≤ a) = false := by simp; omega
  go_enter Tryd.func20, Tryd.ntmps20
  go_wp2_with (first
        | (go_at_call 29; (with_reducible refine (HF.out _).mono ?_); rintro e w1 ⟨rfl, rfl⟩)
        | (go_at_call 19; (with_reducible refine (big1_any _ _ o1 o2).mono ?_); rintro e w1 ⟨rfl, hb1⟩; obtain ⟨hc1, hf1⟩ := bcell hb1; have hs1 := hb1.size)
        | (go_at_call 19; (with_reducible refine (big4_any _ _ a1 a2).mono ?_); rintro e w2 ⟨rfl, hb2⟩; obtain ⟨hc2, hf2⟩ := bcell hb2; have hs2 := hb2.size)
        | (go_at_call 18; (with_reducible refine (rtwo_lit a _ a1 a2).mono ?_); rintro e w2 ⟨rfl, hb2⟩; obtain ⟨hc2, hf2⟩ := bcell hb2; have hs2 := hb2.size)
        | (go_at_call 18; (with_reducible refine (rtwo_lit b _ b1 b2).mono ?_); rintro e w3 ⟨rfl, hb3⟩; obtain ⟨hc3, hf3⟩ := bcell hb3; have hs3 := hb3.size))
  refine wp_loop_rounds 3 ?_
  repeat any_goals (rw [rounds_succ]; go_wp2_with (first
        | (go_at_call 29; (with_reducible refine (HF.out _).mono ?_); rintro e w1 ⟨rfl, rfl⟩)
        | (go_at_call 19; (with_reducible refine (big1_any _ _ o1 o2).mono ?_); rintro e w1 ⟨rfl, hb1⟩; obtain ⟨hc1, hf1⟩ := bcell hb1; have hs1 := hb1.size)
        | (go_at_call 19; (with_reducible refine (big4_any _ _ a1 a2).mono ?_); rintro e w2 ⟨rfl, hb2⟩; obtain ⟨hc2, hf2⟩ := bcell hb2; have hs2 := hb2.size)
        | (go_at_call 18; (with_reducible refine (rtwo_lit a _ a1 a2).mono ?_); rintro e w2 ⟨rfl, hb2⟩; obtain ⟨hc2, hf2⟩ := bcell hb2; have hs2 := hb2.size)
        | (go_at_call 18; (with_reducible refine (rtwo_lit b _ b1 b2).mono ?_); rintro e w3 ⟨rfl, hb3⟩; obtain ⟨hc3, hf3⟩ := bcell hb3; have hs3 := hb3.size)))
  all_goals
    go_ret2
    refine ⟨by rw [HE.out]; rfl, ?_⟩
    exact (by repeat' (first | exact Below.refl _ _ | refine balloc ?_ _ | refine bthen ?_ (by assumption)))

theorem rins_3 (op a b : Int) (w : World) (o1 : -9223372036854775808 ≤ op) (o2 : op ≤ 9223372036854775807) (a1 : -9223372036854775808 ≤ a) (a2 : a ≤ 9223372036854775807) (b1 : -9223372036854775808 ≤ b) (b2 : b ≤ 9223372036854775807) (h : formB op = ([105], true)) (h1 : a ≤ 1000000000) (h2 : -1000000000 ≤ a) :
    Calls Tryd.prog 20 #[.agg #[.int .i64 op, .int .i64 a, .int .i64 b]] w (RinsPost op a b w) := by
  have hfin : rinsB op a b = ([lo op] ++ fourB a, b == 0) := by
    rw [rinsB, h]
    simp [stepR, h1, h2]
  have HF := Lib.hid (form_lit h)
  have HE := Lib.hid hfin
  clear h hfin
  go_enter Tryd.func20, Tryd.ntmps20
  go_wp2_with (first
        | (go_at_call 29; (with_reducible refine (HF.out _).mono ?_); rintro e w1 ⟨rfl, rfl⟩)
        | (go_at_call 19; (with_reducible refine (big1_any _ _ o1 o2).mono ?_); rintro e w1 ⟨rfl, hb1⟩; obtain ⟨hc1, hf1⟩ := bcell hb1; have hs1 := hb1.size)
        | (go_at_call 19; (with_reducible refine (big4_any _ _ a1 a2).mono ?_); rintro e w2 ⟨rfl, hb2⟩; obtain ⟨hc2, hf2⟩ := bcell hb2; have hs2 := hb2.size)
        | (go_at_call 18; (with_reducible refine (rtwo_lit a _ a1 a2).mono ?_); rintro e w2 ⟨rfl, hb2⟩; obtain ⟨hc2, hf2⟩ := bcell hb2; have hs2 := hb2.size)
        | (go_at_call 18; (with_reducible refine (rtwo_lit b _ b1 b2).mono ?_); rintro e w3 ⟨rfl, hb3⟩; obtain ⟨hc3, hf3⟩ := bcell hb3; have hs3 := hb3.size))
  refine wp_loop_rounds 3 ?_
  repeat any_goals (rw [rounds_succ]; go_wp2_with (first
        | (go_at_call 29; (with_reducible refine (HF.out _).mono ?_); rintro e w1 ⟨rfl, rfl⟩)
        | (go_at_call 19; (with_reducible refine (big1_any _ _ o1 o2).mono ?_); rintro e w1 ⟨rfl, hb1⟩; obtain ⟨hc1, hf1⟩ := bcell hb1; have hs1 := hb1.size)
        | (go_at_call 19; (with_reducible refine (big4_any _ _ a1 a2).mono ?_); rintro e w2 ⟨rfl, hb2⟩; obtain ⟨hc2, hf2⟩ := bcell hb2; have hs2 := hb2.size)
        | (go_at_call 18; (with_reducible refine (rtwo_lit a _ a1 a2).mono ?_); rintro e w2 ⟨rfl, hb2⟩; obtain ⟨hc2, hf2⟩ := bcell hb2; have hs2 := hb2.size)
        | (go_at_call 18; (with_reducible refine (rtwo_lit b _ b1 b2).mono ?_); rintro e w3 ⟨rfl, hb3⟩; obtain ⟨hc3, hf3⟩ := bcell hb3; have hs3 := hb3.size)))
  all_goals
    go_ret2
    refine ⟨by rw [HE.out]; rfl, ?_⟩
    exact (by repeat' (first | exact Below.refl _ _ | refine balloc ?_ _ | refine bthen ?_ (by assumption)))

theorem rins_4 (op a b : Int) (w : World) (o1 : -9223372036854775808 ≤ op) (o2 : op ≤ 9223372036854775807) (a1 : -9223372036854775808 ≤ a) (a2 : a ≤ 9223372036854775807) (b1 : -9223372036854775808 ≤ b) (b2 : b ≤ 9223372036854775807) (h : formB op = ([110], true)) (hf : fitsB a = true) :
    Calls Tryd.prog 20 #[.agg #[.int .i64 op, .int .i64 a, .int .i64 b]] w (RinsPost op a b w) := by
  have hfin : rinsB op a b = ([lo op] ++ twoB a, b == 0) := by
    rw [rinsB, h]
    simp [stepR, hf]
  have HF := Lib.hid (form_lit h)
  have HE := Lib.hid hfin
  clear h hfin
  go_enter Tryd.func20, Tryd.ntmps20
  go_wp2_with (first
        | (go_at_call 29; (with_reducible refine (HF.out _).mono ?_); rintro e w1 ⟨rfl, rfl⟩)
        | (go_at_call 19; (with_reducible refine (big1_any _ _ o1 o2).mono ?_); rintro e w1 ⟨rfl, hb1⟩; obtain ⟨hc1, hf1⟩ := bcell hb1; have hs1 := hb1.size)
        | (go_at_call 19; (with_reducible refine (big4_any _ _ a1 a2).mono ?_); rintro e w2 ⟨rfl, hb2⟩; obtain ⟨hc2, hf2⟩ := bcell hb2; have hs2 := hb2.size)
        | (go_at_call 18; (with_reducible refine (rtwo_lit a _ a1 a2).mono ?_); rintro e w2 ⟨rfl, hb2⟩; obtain ⟨hc2, hf2⟩ := bcell hb2; have hs2 := hb2.size)
        | (go_at_call 18; (with_reducible refine (rtwo_lit b _ b1 b2).mono ?_); rintro e w3 ⟨rfl, hb3⟩; obtain ⟨hc3, hf3⟩ := bcell hb3; have hs3 := hb3.size))
  refine wp_loop_rounds 3 ?_
  repeat any_goals (rw [rounds_succ]; go_wp2_with (first
        | (go_at_call 29; (with_reducible refine (HF.out _).mono ?_); rintro e w1 ⟨rfl, rfl⟩)
        | (go_at_call 19; (with_reducible refine (big1_any _ _ o1 o2).mono ?_); rintro e w1 ⟨rfl, hb1⟩; obtain ⟨hc1, hf1⟩ := bcell hb1; have hs1 := hb1.size)
        | (go_at_call 19; (with_reducible refine (big4_any _ _ a1 a2).mono ?_); rintro e w2 ⟨rfl, hb2⟩; obtain ⟨hc2, hf2⟩ := bcell hb2; have hs2 := hb2.size)
        | (go_at_call 18; (with_reducible refine (rtwo_lit a _ a1 a2).mono ?_); rintro e w2 ⟨rfl, hb2⟩; obtain ⟨hc2, hf2⟩ := bcell hb2; have hs2 := hb2.size)
        | (go_at_call 18; (with_reducible refine (rtwo_lit b _ b1 b2).mono ?_); rintro e w3 ⟨rfl, hb3⟩; obtain ⟨hc3, hf3⟩ := bcell hb3; have hs3 := hb3.size)))
  all_goals
    go_ret2
    refine ⟨by rw [HE.out]; rfl, ?_⟩
    exact (by repeat' (first | exact Below.refl _ _ | refine balloc ?_ _ | refine bthen ?_ (by assumption)))

theorem rins_5 (op a b : Int) (w : World) (o1 : -9223372036854775808 ≤ op) (o2 : op ≤ 9223372036854775807) (a1 : -9223372036854775808 ≤ a) (a2 : a ≤ 9223372036854775807) (b1 : -9223372036854775808 ≤ b) (b2 : b ≤ 9223372036854775807) (h : formB op = ([110], true)) (hf : fitsB a = false) :
    Calls Tryd.prog 20 #[.agg #[.int .i64 op, .int .i64 a, .int .i64 b]] w (RinsPost op a b w) := by
  have hfin : rinsB op a b = ([lo op] ++ twoB a, false) := by
    rw [rinsB, h]
    simp [stepR, hf]
  have HF := Lib.hid (form_lit h)
  have HE := Lib.hid hfin
  clear h hfin
  go_enter Tryd.func20, Tryd.ntmps20
  go_wp2_with (first
        | (go_at_call 29; (with_reducible refine (HF.out _).mono ?_); rintro e w1 ⟨rfl, rfl⟩)
        | (go_at_call 19; (with_reducible refine (big1_any _ _ o1 o2).mono ?_); rintro e w1 ⟨rfl, hb1⟩; obtain ⟨hc1, hf1⟩ := bcell hb1; have hs1 := hb1.size)
        | (go_at_call 19; (with_reducible refine (big4_any _ _ a1 a2).mono ?_); rintro e w2 ⟨rfl, hb2⟩; obtain ⟨hc2, hf2⟩ := bcell hb2; have hs2 := hb2.size)
        | (go_at_call 18; (with_reducible refine (rtwo_lit a _ a1 a2).mono ?_); rintro e w2 ⟨rfl, hb2⟩; obtain ⟨hc2, hf2⟩ := bcell hb2; have hs2 := hb2.size)
        | (go_at_call 18; (with_reducible refine (rtwo_lit b _ b1 b2).mono ?_); rintro e w3 ⟨rfl, hb3⟩; obtain ⟨hc3, hf3⟩ := bcell hb3; have hs3 := hb3.size))
  refine wp_loop_rounds 3 ?_
  repeat any_goals (rw [rounds_succ]; go_wp2_with (first
        | (go_at_call 29; (with_reducible refine (HF.out _).mono ?_); rintro e w1 ⟨rfl, rfl⟩)
        | (go_at_call 19; (with_reducible refine (big1_any _ _ o1 o2).mono ?_); rintro e w1 ⟨rfl, hb1⟩; obtain ⟨hc1, hf1⟩ := bcell hb1; have hs1 := hb1.size)
        | (go_at_call 19; (with_reducible refine (big4_any _ _ a1 a2).mono ?_); rintro e w2 ⟨rfl, hb2⟩; obtain ⟨hc2, hf2⟩ := bcell hb2; have hs2 := hb2.size)
        | (go_at_call 18; (with_reducible refine (rtwo_lit a _ a1 a2).mono ?_); rintro e w2 ⟨rfl, hb2⟩; obtain ⟨hc2, hf2⟩ := bcell hb2; have hs2 := hb2.size)
        | (go_at_call 18; (with_reducible refine (rtwo_lit b _ b1 b2).mono ?_); rintro e w3 ⟨rfl, hb3⟩; obtain ⟨hc3, hf3⟩ := bcell hb3; have hs3 := hb3.size)))
  all_goals
    go_ret2
    refine ⟨by rw [HE.out]; rfl, ?_⟩
    exact (by repeat' (first | exact Below.refl _ _ | refine balloc ?_ _ | refine bthen ?_ (by assumption)))

theorem rins_6 (op a b : Int) (w : World) (o1 : -9223372036854775808 ≤ op) (o2 : op ≤ 9223372036854775807) (a1 : -9223372036854775808 ≤ a) (a2 : a ≤ 9223372036854775807) (b1 : -9223372036854775808 ≤ b) (b2 : b ≤ 9223372036854775807) (h : formB op = ([110, 110], true)) (hf : fitsB a = true) :
    Calls Tryd.prog 20 #[.agg #[.int .i64 op, .int .i64 a, .int .i64 b]] w (RinsPost op a b w) := by
  have hfin : rinsB op a b = ([lo op] ++ twoB a ++ twoB b, fitsB b) := by
    rw [rinsB, h]
    simp [stepR, hf]
  have HF := Lib.hid (form_lit h)
  have HE := Lib.hid hfin
  clear h hfin
  go_enter Tryd.func20, Tryd.ntmps20
  go_wp2_with (first
        | (go_at_call 29; (with_reducible refine (HF.out _).mono ?_); rintro e w1 ⟨rfl, rfl⟩)
        | (go_at_call 19; (with_reducible refine (big1_any _ _ o1 o2).mono ?_); rintro e w1 ⟨rfl, hb1⟩; obtain ⟨hc1, hf1⟩ := bcell hb1; have hs1 := hb1.size)
        | (go_at_call 19; (with_reducible refine (big4_any _ _ a1 a2).mono ?_); rintro e w2 ⟨rfl, hb2⟩; obtain ⟨hc2, hf2⟩ := bcell hb2; have hs2 := hb2.size)
        | (go_at_call 18; (with_reducible refine (rtwo_lit a _ a1 a2).mono ?_); rintro e w2 ⟨rfl, hb2⟩; obtain ⟨hc2, hf2⟩ := bcell hb2; have hs2 := hb2.size)
        | (go_at_call 18; (with_reducible refine (rtwo_lit b _ b1 b2).mono ?_); rintro e w3 ⟨rfl, hb3⟩; obtain ⟨hc3, hf3⟩ := bcell hb3; have hs3 := hb3.size))
  refine wp_loop_rounds 3 ?_
  repeat any_goals (rw [rounds_succ]; go_wp2_with (first
        | (go_at_call 29; (with_reducible refine (HF.out _).mono ?_); rintro e w1 ⟨rfl, rfl⟩)
        | (go_at_call 19; (with_reducible refine (big1_any _ _ o1 o2).mono ?_); rintro e w1 ⟨rfl, hb1⟩; obtain ⟨hc1, hf1⟩ := bcell hb1; have hs1 := hb1.size)
        | (go_at_call 19; (with_reducible refine (big4_any _ _ a1 a2).mono ?_); rintro e w2 ⟨rfl, hb2⟩; obtain ⟨hc2, hf2⟩ := bcell hb2; have hs2 := hb2.size)
        | (go_at_call 18; (with_reducible refine (rtwo_lit a _ a1 a2).mono ?_); rintro e w2 ⟨rfl, hb2⟩; obtain ⟨hc2, hf2⟩ := bcell hb2; have hs2 := hb2.size)
        | (go_at_call 18; (with_reducible refine (rtwo_lit b _ b1 b2).mono ?_); rintro e w3 ⟨rfl, hb3⟩; obtain ⟨hc3, hf3⟩ := bcell hb3; have hs3 := hb3.size)))
  all_goals
    go_ret2
    refine ⟨by rw [HE.out]; rfl, ?_⟩
    exact (by repeat' (first | exact Below.refl _ _ | refine balloc ?_ _ | refine bthen ?_ (by assumption)))

theorem rins_7 (op a b : Int) (w : World) (o1 : -9223372036854775808 ≤ op) (o2 : op ≤ 9223372036854775807) (a1 : -9223372036854775808 ≤ a) (a2 : a ≤ 9223372036854775807) (b1 : -9223372036854775808 ≤ b) (b2 : b ≤ 9223372036854775807) (h : formB op = ([110, 110], true)) (hf : fitsB a = false) :
    Calls Tryd.prog 20 #[.agg #[.int .i64 op, .int .i64 a, .int .i64 b]] w (RinsPost op a b w) := by
  have hfin : rinsB op a b = ([lo op] ++ twoB a, false) := by
    rw [rinsB, h]
    simp [stepR, hf]
  have HF := Lib.hid (form_lit h)
  have HE := Lib.hid hfin
  clear h hfin
  go_enter Tryd.func20, Tryd.ntmps20
  go_wp2_with (first
        | (go_at_call 29; (with_reducible refine (HF.out _).mono ?_); rintro e w1 ⟨rfl, rfl⟩)
        | (go_at_call 19; (with_reducible refine (big1_any _ _ o1 o2).mono ?_); rintro e w1 ⟨rfl, hb1⟩; obtain ⟨hc1, hf1⟩ := bcell hb1; have hs1 := hb1.size)
        | (go_at_call 19; (with_reducible refine (big4_any _ _ a1 a2).mono ?_); rintro e w2 ⟨rfl, hb2⟩; obtain ⟨hc2, hf2⟩ := bcell hb2; have hs2 := hb2.size)
        | (go_at_call 18; (with_reducible refine (rtwo_lit a _ a1 a2).mono ?_); rintro e w2 ⟨rfl, hb2⟩; obtain ⟨hc2, hf2⟩ := bcell hb2; have hs2 := hb2.size)
        | (go_at_call 18; (with_reducible refine (rtwo_lit b _ b1 b2).mono ?_); rintro e w3 ⟨rfl, hb3⟩; obtain ⟨hc3, hf3⟩ := bcell hb3; have hs3 := hb3.size))
  refine wp_loop_rounds 3 ?_
  repeat any_goals (rw [rounds_succ]; go_wp2_with (first
        | (go_at_call 29; (with_reducible refine (HF.out _).mono ?_); rintro e w1 ⟨rfl, rfl⟩)
        | (go_at_call 19; (with_reducible refine (big1_any _ _ o1 o2).mono ?_); rintro e w1 ⟨rfl, hb1⟩; obtain ⟨hc1, hf1⟩ := bcell hb1; have hs1 := hb1.size)
        | (go_at_call 19; (with_reducible refine (big4_any _ _ a1 a2).mono ?_); rintro e w2 ⟨rfl, hb2⟩; obtain ⟨hc2, hf2⟩ := bcell hb2; have hs2 := hb2.size)
        | (go_at_call 18; (with_reducible refine (rtwo_lit a _ a1 a2).mono ?_); rintro e w2 ⟨rfl, hb2⟩; obtain ⟨hc2, hf2⟩ := bcell hb2; have hs2 := hb2.size)
        | (go_at_call 18; (with_reducible refine (rtwo_lit b _ b1 b2).mono ?_); rintro e w3 ⟨rfl, hb3⟩; obtain ⟨hc3, hf3⟩ := bcell hb3; have hs3 := hb3.size)))
  all_goals
    go_ret2
    refine ⟨by rw [HE.out]; rfl, ?_⟩
    exact (by repeat' (first | exact Below.refl _ _ | refine balloc ?_ _ | refine bthen ?_ (by assumption)))

theorem rins_8 (op a b : Int) (w : World) (o1 : -9223372036854775808 ≤ op) (o2 : op ≤ 9223372036854775807) (a1 : -9223372036854775808 ≤ a) (a2 : a ≤ 9223372036854775807) (b1 : -9223372036854775808 ≤ b) (b2 : b ≤ 9223372036854775807) (h : formB op = ([], true)) (hz : (a == 0) = true) :
    Calls Tryd.prog 20 #[.agg #[.int .i64 op, .int .i64 a, .int .i64 b]] w (RinsPost op a b w) := by
  have hfin : rinsB op a b = ([lo op], b == 0) := by
    rw [rinsB, h]
    simp [stepR, show a = 0 by simpa using hz]
  have HF := Lib.hid (form_lit h)
  have HE := Lib.hid hfin
  clear h hfin
  go_enter Tryd.func20, Tryd.ntmps20
  go_wp2_with (first
        | (go_at_call 29; (with_reducible refine (HF.out _).mono ?_); rintro e w1 ⟨rfl, rfl⟩)
        | (go_at_call 19; (with_reducible refine (big1_any _ _ o1 o2).mono ?_); rintro e w1 ⟨rfl, hb1⟩; obtain ⟨hc1, hf1⟩ := bcell hb1; have hs1 := hb1.size)
        | (go_at_call 19; (with_reducible refine (big4_any _ _ a1 a2).mono ?_); rintro e w2 ⟨rfl, hb2⟩; obtain ⟨hc2, hf2⟩ := bcell hb2; have hs2 := hb2.size)
        | (go_at_call 18; (with_reducible refine (rtwo_lit a _ a1 a2).mono ?_); rintro e w2 ⟨rfl, hb2⟩; obtain ⟨hc2, hf2⟩ := bcell hb2; have hs2 := hb2.size)
        | (go_at_call 18; (with_reducible refine (rtwo_lit b _ b1 b2).mono ?_); rintro e w3 ⟨rfl, hb3⟩; obtain ⟨hc3, hf3⟩ := bcell hb3; have hs3 := hb3.size))
  refine wp_loop_rounds 3 ?_
  repeat any_goals (rw [rounds_succ]; go_wp2_with (first
        | (go_at_call 29; (with_reducible refine (HF.out _).mono ?_); rintro e w1 ⟨rfl, rfl⟩)
        | (go_at_call 19; (with_reducible refine (big1_any _ _ o1 o2).mono ?_); rintro e w1 ⟨rfl, hb1⟩; obtain ⟨hc1, hf1⟩ := bcell hb1; have hs1 := hb1.size)
        | (go_at_call 19; (with_reducible refine (big4_any _ _ a1 a2).mono ?_); rintro e w2 ⟨rfl, hb2⟩; obtain ⟨hc2, hf2⟩ := bcell hb2; have hs2 := hb2.size)
        | (go_at_call 18; (with_reducible refine (rtwo_lit a _ a1 a2).mono ?_); rintro e w2 ⟨rfl, hb2⟩; obtain ⟨hc2, hf2⟩ := bcell hb2; have hs2 := hb2.size)
        | (go_at_call 18; (with_reducible refine (rtwo_lit b _ b1 b2).mono ?_); rintro e w3 ⟨rfl, hb3⟩; obtain ⟨hc3, hf3⟩ := bcell hb3; have hs3 := hb3.size)))
  all_goals
    go_ret2
    refine ⟨by rw [HE.out]; rfl, ?_⟩
    exact (by repeat' (first | exact Below.refl _ _ | refine balloc ?_ _ | refine bthen ?_ (by assumption)))

theorem rins_9 (op a b : Int) (w : World) (o1 : -9223372036854775808 ≤ op) (o2 : op ≤ 9223372036854775807) (a1 : -9223372036854775808 ≤ a) (a2 : a ≤ 9223372036854775807) (b1 : -9223372036854775808 ≤ b) (b2 : b ≤ 9223372036854775807) (h : formB op = ([], true)) (hz : (a == 0) = false) :
    Calls Tryd.prog 20 #[.agg #[.int .i64 op, .int .i64 a, .int .i64 b]] w (RinsPost op a b w) := by
  have hfin : rinsB op a b = ([lo op], false) := by
    rw [rinsB, h]
    simp [stepR, hz]
  have HF := Lib.hid (form_lit h)
  have HE := Lib.hid hfin
  clear h hfin
  go_enter Tryd.func20, Tryd.ntmps20
  go_wp2_with (first
        | (go_at_call 29; (with_reducible refine (HF.out _).mono ?_); rintro e w1 ⟨rfl, rfl⟩)
        | (go_at_call 19; (with_reducible refine (big1_any _ _ o1 o2).mono ?_); rintro e w1 ⟨rfl, hb1⟩; obtain ⟨hc1, hf1⟩ := bcell hb1; have hs1 := hb1.size)
        | (go_at_call 19; (with_reducible refine (big4_any _ _ a1 a2).mono ?_); rintro e w2 ⟨rfl, hb2⟩; obtain ⟨hc2, hf2⟩ := bcell hb2; have hs2 := hb2.size)
        | (go_at_call 18; (with_reducible refine (rtwo_lit a _ a1 a2).mono ?_); rintro e w2 ⟨rfl, hb2⟩; obtain ⟨hc2, hf2⟩ := bcell hb2; have hs2 := hb2.size)
        | (go_at_call 18; (with_reducible refine (rtwo_lit b _ b1 b2).mono ?_); rintro e w3 ⟨rfl, hb3⟩; obtain ⟨hc3, hf3⟩ := bcell hb3; have hs3 := hb3.size))
  refine wp_loop_rounds 3 ?_
  repeat any_goals (rw [rounds_succ]; go_wp2_with (first
        | (go_at_call 29; (with_reducible refine (HF.out _).mono ?_); rintro e w1 ⟨rfl, rfl⟩)
        | (go_at_call 19; (with_reducible refine (big1_any _ _ o1 o2).mono ?_); rintro e w1 ⟨rfl, hb1⟩; obtain ⟨hc1, hf1⟩ := bcell hb1; have hs1 := hb1.size)
        | (go_at_call 19; (with_reducible refine (big4_any _ _ a1 a2).mono ?_); rintro e w2 ⟨rfl, hb2⟩; obtain ⟨hc2, hf2⟩ := bcell hb2; have hs2 := hb2.size)
        | (go_at_call 18; (with_reducible refine (rtwo_lit a _ a1 a2).mono ?_); rintro e w2 ⟨rfl, hb2⟩; obtain ⟨hc2, hf2⟩ := bcell hb2; have hs2 := hb2.size)
        | (go_at_call 18; (with_reducible refine (rtwo_lit b _ b1 b2).mono ?_); rintro e w3 ⟨rfl, hb3⟩; obtain ⟨hc3, hf3⟩ := bcell hb3; have hs3 := hb3.size)))
  all_goals
    go_ret2
    refine ⟨by rw [HE.out]; rfl, ?_⟩
    exact (by repeat' (first | exact Below.refl _ _ | refine balloc ?_ _ | refine bthen ?_ (by assumption)))

theorem rins_10 (op a b : Int) (w : World) (o1 : -9223372036854775808 ≤ op) (o2 : op ≤ 9223372036854775807) (a1 : -9223372036854775808 ≤ a) (a2 : a ≤ 9223372036854775807) (b1 : -9223372036854775808 ≤ b) (b2 : b ≤ 9223372036854775807) (h : formB op = ([], false)) :
    Calls Tryd.prog 20 #[.agg #[.int .i64 op, .int .i64 a, .int .i64 b]] w (RinsPost op a b w) := by
  have hfin : rinsB op a b = ([lo op], false) := by
    rw [rinsB, h]
    simp [stepR, show true = true from rfl]
  have HF := Lib.hid (form_lit h)
  have HE := Lib.hid hfin
  clear h hfin
  go_enter Tryd.func20, Tryd.ntmps20
  go_wp2_with (first
        | (go_at_call 29; (with_reducible refine (HF.out _).mono ?_); rintro e w1 ⟨rfl, rfl⟩)
        | (go_at_call 19; (with_reducible refine (big1_any _ _ o1 o2).mono ?_); rintro e w1 ⟨rfl, hb1⟩; obtain ⟨hc1, hf1⟩ := bcell hb1; have hs1 := hb1.size)
        | (go_at_call 19; (with_reducible refine (big4_any _ _ a1 a2).mono ?_); rintro e w2 ⟨rfl, hb2⟩; obtain ⟨hc2, hf2⟩ := bcell hb2; have hs2 := hb2.size)
        | (go_at_call 18; (with_reducible refine (rtwo_lit a _ a1 a2).mono ?_); rintro e w2 ⟨rfl, hb2⟩; obtain ⟨hc2, hf2⟩ := bcell hb2; have hs2 := hb2.size)
        | (go_at_call 18; (with_reducible refine (rtwo_lit b _ b1 b2).mono ?_); rintro e w3 ⟨rfl, hb3⟩; obtain ⟨hc3, hf3⟩ := bcell hb3; have hs3 := hb3.size))
  refine wp_loop_rounds 3 ?_
  repeat any_goals (rw [rounds_succ]; go_wp2_with (first
        | (go_at_call 29; (with_reducible refine (HF.out _).mono ?_); rintro e w1 ⟨rfl, rfl⟩)
        | (go_at_call 19; (with_reducible refine (big1_any _ _ o1 o2).mono ?_); rintro e w1 ⟨rfl, hb1⟩; obtain ⟨hc1, hf1⟩ := bcell hb1; have hs1 := hb1.size)
        | (go_at_call 19; (with_reducible refine (big4_any _ _ a1 a2).mono ?_); rintro e w2 ⟨rfl, hb2⟩; obtain ⟨hc2, hf2⟩ := bcell hb2; have hs2 := hb2.size)
        | (go_at_call 18; (with_reducible refine (rtwo_lit a _ a1 a2).mono ?_); rintro e w2 ⟨rfl, hb2⟩; obtain ⟨hc2, hf2⟩ := bcell hb2; have hs2 := hb2.size)
        | (go_at_call 18; (with_reducible refine (rtwo_lit b _ b1 b2).mono ?_); rintro e w3 ⟨rfl, hb3⟩; obtain ⟨hc3, hf3⟩ := bcell hb3; have hs3 := hb3.size)))
  all_goals
    go_ret2
    refine ⟨by rw [HE.out]; rfl, ?_⟩
    exact (by repeat' (first | exact Below.refl _ _ | refine balloc ?_ _ | refine bthen ?_ (by assumption)))

theorem rins_any (op a b : Int) (w : World) (o1 : -9223372036854775808 ≤ op) (o2 : op ≤ 9223372036854775807) (a1 : -9223372036854775808 ≤ a) (a2 : a ≤ 9223372036854775807) (b1 : -9223372036854775808 ≤ b) (b2 : b ≤ 9223372036854775807) :
    Calls Tryd.prog 20 #[.agg #[.int .i64 op, .int .i64 a, .int .i64 b]] w (RinsPost op a b w) := by
  rcases formB_cases op with h | h | h | h | h
  · rcases (by omega : 1000000000 < a ∨ a < -1000000000 ∨ (a ≤ 1000000000 ∧ -1000000000 ≤ a)) with h1 | h1 | ⟨h1, h2⟩
    · exact rins_1 op a b w o1 o2 a1 a2 b1 b2 h h1
    · exact rins_2 op a b w o1 o2 a1 a2 b1 b2 h h1
    · exact rins_3 op a b w o1 o2 a1 a2 b1 b2 h h1 h2
  · cases hf : fitsB a
    · exact rins_5 op a b w o1 o2 a1 a2 b1 b2 h hf
    · exact rins_4 op a b w o1 o2 a1 a2 b1 b2 h hf
  · cases hf : fitsB a
    · exact rins_7 op a b w o1 o2 a1 a2 b1 b2 h hf
    · exact rins_6 op a b w o1 o2 a1 a2 b1 b2 h hf
  · cases hf : (a == 0)
    · exact rins_9 op a b w o1 o2 a1 a2 b1 b2 h hf
    · exact rins_8 op a b w o1 o2 a1 a2 b1 b2 h hf
  · exact rins_10 op a b w o1 o2 a1 a2 b1 b2 h

end Go.Proofs.YtebappmamaafaaaDoor
