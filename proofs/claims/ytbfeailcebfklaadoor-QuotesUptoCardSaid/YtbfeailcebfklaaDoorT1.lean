/-
  Proved: mlcorelaw1.Quotes returns true for every text of at most 1048576 bytes. Condition: the table of sorts.
-/
import Derived.Test.YtbfeailcebfklaaDoorS2
import Derived.Test.YtbfeailcebfklaaDoorR2
set_option linter.unusedSimpArgs false
set_option linter.unusedVariables false
namespace Go.Proofs.YtbfeailcebfklaaDoor
open Go.RowKit

theorem quote_an : quoteD ⟨#[97, 10]⟩ = ⟨#[34, 97, 92, 110, 34]⟩ := by decide +kernel
set_option maxRecDepth 100000 in
set_option maxHeartbeats 4000000 in
theorem quotes_any (s : ByteArray) (w : World) (hso : Sorts w) (h0 : 0 < w.heap.size) (hs : s.size ≤ 1048576) : Calls Tryd.prog 5 #[.string s] w fun e w' => e = .returned (.bool true) ∧ Below w.heap.size w w' := by
  have HSO := Lib.hid hso
  clear hso
  have hlx := lex_quote s
  have HLX := Lib.hid hlx
  clear hlx
  go_enter Tryd.func5, Tryd.ntmps5
  go_wp2_with fail
  refine (pquote_any s w hs).mono ?_
  rintro e w1 ⟨rfl, hb1⟩
  have HB1 := Lib.hid hb1
  clear hb1
  obtain ⟨q, hq⟩ : ∃ q, q = quoteD s := ⟨_, rfl⟩
  rw [← hq]
  have HQ := Lib.hid hq
  clear hq
  go_wp2_with fail
  refine (rquote_any s w1 hs).mono ?_
  rintro e w2 ⟨rfl, hb2⟩
  rw [← HQ.out]
  have HB2 := Lib.hid (bthen HB1.out hb2)
  clear hb2
  go_wp2_with fail
  refine (pquote_any ⟨#[97, 10]⟩ w2 (by decide)).mono ?_
  rintro e w3 ⟨rfl, hb3⟩
  rw [quote_an]
  have HB3 := Lib.hid (bthen HB2.out hb3)
  clear hb3
  go_wp2_with fail
  have hlq := HLX.out
  rw [← HQ.out] at hlq
  have HLQ := Lib.hid hlq
  clear hlq
  refine (ptoks_any q w3 (HSO.out.below HB3.out h0) (Nat.lt_of_lt_of_le h0 HB3.out.size)).mono ?_
  intro e w4 hp
  unfold LexPost at hp
  rw [HLQ.out] at hp
  clear HLX HLQ
  by_cases hbig : 4000 < q.size
  · rw [if_pos hbig] at hp
    obtain ⟨a, cap, rfl, ho, hb4⟩ := hp
    have hd : decide ((4000 : Int) < (q.size : Int)) = true := by simp; omega
    have HB4 := Lib.hid (bthen HB3.out hb4)
    clear ho hb4
    go_wp2_with fail
    go_ret
    exact ⟨rfl, balloc HB4.out _⟩
  · rw [if_neg hbig] at hp
    have hd : decide ((4000 : Int) < (q.size : Int)) = false := by simp; omega
    by_cases h2 : s.size ≤ 200
    · rw [if_pos h2] at hp
      obtain ⟨a, cap, rfl, ho, hb4⟩ := hp
      have hd2 : decide ((200 : Int) < (s.size : Int)) = false := by simp; omega
      obtain ⟨g, cap', hv⟩ := own_shape ho (by intro h; injection h with _ h _; cases h)
      cases hv
      have hr := toks_own (ho.alloc (.cells #[.int .i64 0, .int .i64 0] 26))
      obtain ⟨b0, o0, e0, hb0, c0⟩ := hr 0 (by simp)
      cases e0
      obtain ⟨b1, o1, e1, _, c1⟩ := hr 1 (by simp)
      cases e1
      have x0 := c0 0 (by omega)
      have x2 := c0 2 (by omega)
      have x5 := c1 1 (by omega)
      simp only [tokRow, List.map_cons, List.map_nil, List.getD_cons_zero, List.getD_cons_succ, List.getElem?_cons_zero, List.getElem?_cons_succ, Nat.zero_mul, Nat.zero_add, Nat.add_zero, Nat.one_mul, Nat.reduceAdd] at x0 x2 x5
      have HB4 := Lib.hid (bthen HB3.out hb4)
      have l0 : g < w4.heap.size := by
        obtain ⟨c, fz, hc⟩ := own_row ho g rfl
        exact lt_of_block hc
      clear ho hb4 c0 c1 hr hb0
      go_wp2_with fail
      go_ret
      exact ⟨rfl, balloc HB4.out _⟩
    · rw [if_neg h2] at hp
      obtain ⟨a, cap, rfl, ho, hb4⟩ := hp
      have hd2 : decide ((200 : Int) < (s.size : Int)) = true := by simp; omega
      have HB4 := Lib.hid (bthen HB3.out hb4)
      clear ho hb4
      go_wp2_with fail
      go_ret
      exact ⟨rfl, balloc HB4.out _⟩

end Go.Proofs.YtbfeailcebfklaaDoor
