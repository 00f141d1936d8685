/-
  Proved: what is quoted is read back, in plain Lean. No condition.
-/
import Derived.Test.YtbfeailcebfklaaDoorL1
set_option linter.unusedSimpArgs false
set_option linter.unusedVariables false
namespace Go.Proofs.YtbfeailcebfklaaDoor

/-- how a byte of a string is written -/
def esc (b : UInt8) : List UInt8 :=
  if b.toNat = 10 then [92, 110] else if b.toNat = 9 then [92, 116] else if b.toNat = 34 ∨ b.toNat = 92 then [92, b]
  else if b.toNat < 32 ∨ 126 < b.toNat then [92, UInt8.ofNat (48 + b.toNat / 100), UInt8.ofNat (48 + b.toNat / 10 % 10), UInt8.ofNat (48 + b.toNat % 10)] else [b]
def quoteL (l : List UInt8) : List UInt8 := 34 :: (l.flatMap esc ++ [34])
def quoteD (s : ByteArray) : ByteArray := ⟨(quoteL s.data.toList).toArray⟩

theorem btL (l : List UInt8) (k : Nat) : bt ⟨l.toArray⟩ k = (l.getD k 0).toNat := rfl
theorem bt_app (p x : List UInt8) (k : Nat) : bt ⟨(p ++ x).toArray⟩ (p.length + k) = bt ⟨x.toArray⟩ k := by
  rw [btL, btL, List.getD_eq_getElem?_getD, List.getD_eq_getElem?_getD, List.getElem?_append_right (by omega)]
  simp
theorem bt_app0 (p x : List UInt8) : bt ⟨(p ++ x).toArray⟩ p.length = bt ⟨x.toArray⟩ 0 := bt_app p x 0
theorem sizeA (l : List UInt8) : (⟨l.toArray⟩ : ByteArray).size = l.length := by simp [ByteArray.size]
theorem esc_cases (b : UInt8) : (b.toNat = 10 ∧ esc b = [92, 110]) ∨ (b.toNat = 9 ∧ esc b = [92, 116]) ∨ ((b.toNat = 34 ∨ b.toNat = 92) ∧ esc b = [92, b]) ∨
    ((b.toNat < 32 ∨ 126 < b.toNat) ∧ esc b = [92, UInt8.ofNat (48 + b.toNat / 100), UInt8.ofNat (48 + b.toNat / 10 % 10), UInt8.ofNat (48 + b.toNat % 10)] ∧ b.toNat ≠ 10 ∧ b.toNat ≠ 9) ∨
    (32 ≤ b.toNat ∧ b.toNat ≤ 126 ∧ b.toNat ≠ 34 ∧ b.toNat ≠ 92 ∧ esc b = [b]) := by
  unfold esc
  repeat' split
  all_goals simp_all
  all_goals omega
theorem esc_ok (b : UInt8) : ∀ x ∈ esc b, okB x.toNat = true := by
  have hb := UInt8.toNat_lt b
  intro x hx
  rcases esc_cases b with ⟨h, e⟩ | ⟨h, e⟩ | ⟨h, e⟩ | ⟨h, e, h2⟩ | ⟨h, h2, h3, h4, e⟩ <;> rw [e] at hx <;> simp at hx
  · rcases hx with rfl | rfl <;> decide
  · rcases hx with rfl | rfl <;> decide
  · rcases hx with rfl | rfl
    · decide
    · rcases h with h | h <;> rw [h] <;> decide
  · rcases hx with rfl | rfl | rfl | rfl
    · decide
    all_goals (simp [okB]; omega)
  · subst hx; simp [okB]; omega
theorem badD_none {s : ByteArray} (i : Nat) : (∀ k, i ≤ k → k < s.size → okB (bt s k) = true) → badD s i = none := by
  induction i using badD.induct s with
  | case1 i h hp ih => intro hk; rw [badD, dif_pos h, if_pos hp]; exact ih fun k h1 h2 => hk k (by omega) h2
  | case2 i h hp => intro hk; exact absurd (hk i (by omega) h) hp
  | case3 i h => intro hk; rw [badD, dif_neg h]
theorem quote_ok (l : List UInt8) : ∀ x ∈ quoteL l, okB x.toNat = true := by
  intro x hx
  simp only [quoteL, List.mem_cons, List.mem_append, List.mem_flatMap, List.not_mem_nil, or_false] at hx
  rcases hx with rfl | ⟨b, _, hb⟩ | rfl
  · decide
  · exact esc_ok b x hb
  · decide
theorem dig_of {n : Nat} (h : n < 10) : dig (48 + n) = true := by simp [dig]; omega
theorem textD_read (r : List UInt8) : ∀ (p l : List UInt8), textD ⟨(p ++ (r.flatMap esc ++ [34])).toArray⟩ p.length l = if (l ++ r).length ≤ 200 then some (l ++ r, (p ++ (r.flatMap esc ++ [34])).length) else none := by
  induction r with
  | nil =>
    intro p l
    have h1 : p.length < (⟨(p ++ ([].flatMap esc ++ [34])).toArray⟩ : ByteArray).size := by rw [sizeA]; simp
    rw [textD_quote h1 (by rw [bt_app0]; rfl)]
    simp
  | cons b r ih =>
    intro p l
    have hb := UInt8.toNat_lt b
    obtain ⟨q, hq⟩ : ∃ q : List UInt8, q = p ++ ((b :: r).flatMap esc ++ [34]) := ⟨_, rfl⟩
    obtain ⟨z, hz⟩ : ∃ z : List UInt8, z = r.flatMap esc ++ [34] := ⟨_, rfl⟩
    have hq2 : q = p ++ (esc b ++ z) := by rw [hq, hz]; simp
    have hz1 : 0 < z.length := by rw [hz]; simp
    have hsz : (⟨q.toArray⟩ : ByteArray).size = p.length + (esc b).length + z.length := by rw [sizeA, hq2]; simp; omega
    have hbt : ∀ k, bt ⟨q.toArray⟩ (p.length + k) = ((esc b ++ z).getD k 0).toNat := by intro k; rw [hq2, bt_app, btL]
    have hgo : textD ⟨q.toArray⟩ (p.length + (esc b).length) (l ++ [b]) = if (l ++ b :: r).length ≤ 200 then some (l ++ b :: r, q.length) else none := by
      have h := ih (p ++ esc b) (l ++ [b])
      have e : p ++ esc b ++ (r.flatMap esc ++ [34]) = q := by rw [hq]; simp
      rw [e] at h
      simpa using h
    rw [← hq]
    rw [← hgo]
    have h0 := hbt 0
    have h1 := hbt 1
    have h2 := hbt 2
    have h3 := hbt 3
    have e1 : ∀ n : Nat, p.length + 1 + n = p.length + (1 + n) := fun n => by omega
    clear hq hq2 hgo ih hbt
    rcases esc_cases b with ⟨h, e⟩ | ⟨h, e⟩ | ⟨h, e⟩ | ⟨h, e, h5, h6⟩ | ⟨h, h5, h6, h7, e⟩ <;> rw [e] at h0 h1 h2 h3 hsz ⊢ <;> simp at h0 h1 h2 h3 hsz ⊢
    · have hb2 : b = UInt8.ofNat 10 := by rw [← h]; simp
      rw [hb2]
      refine textD_esc (by omega) h0 ?_
      unfold escD
      rw [if_pos (by omega), if_pos h1]
    · have hb2 : b = UInt8.ofNat 9 := by rw [← h]; simp
      rw [hb2]
      refine textD_esc (by omega) h0 ?_
      unfold escD
      rw [if_pos (by omega), if_neg (by omega), if_pos h1]
    · have hb2 : b = UInt8.ofNat b.toNat := by simp
      rw [hb2]
      refine textD_esc (by omega) h0 ?_
      unfold escD
      rw [if_pos (by omega), if_neg (by omega), if_neg (by omega), if_pos (by omega), h1]
    · have hb2 : b = UInt8.ofNat b.toNat := by simp
      rw [hb2]
      refine textD_esc (by omega) h0 ?_
      have g1 : bt ⟨q.toArray⟩ (p.length + 1) = 48 + b.toNat / 100 := by rw [h1]; omega
      have g2 : bt ⟨q.toArray⟩ (p.length + 1 + 1) = 48 + b.toNat / 10 % 10 := by rw [h2]; omega
      have g3 : bt ⟨q.toArray⟩ (p.length + 1 + 2) = 48 + b.toNat % 10 := by rw [h3]; omega
      unfold escD
      rw [g1, g2, g3]
      rw [if_pos (by omega), if_neg (by omega), if_neg (by omega), if_neg (by omega), if_pos ⟨by omega, dig_of (by omega), dig_of (by omega), dig_of (by omega)⟩, if_pos (by omega)]
      congr 2
      omega
    · have hb2 : UInt8.ofNat b.toNat = b := by simp
      rw [textD_byte (by omega) (by omega) (by omega) (by omega), h0, hb2]
theorem quote_size (s : ByteArray) : 2 ≤ (quoteD s).size := by rw [quoteD, sizeA]; simp [quoteL]
/-- what is quoted is read back -/
theorem lex_quote (s : ByteArray) : lexD (quoteD s) = if 4000 < (quoteD s).size then ([], (1, 0)) else if s.size ≤ 200 then ([(2, 0, s, 0), (0, (quoteD s).size, ByteArray.empty, 0)], (0, 0)) else ([], (3, 0)) := by
  unfold lexD
  split
  · rfl
  · rw [badD_none 0 (by
      intro k _ hk
      rw [quoteD] at hk ⊢
      rw [sizeA] at hk
      rw [btL, List.getD_eq_getElem?_getD, List.getElem?_eq_getElem hk]
      exact quote_ok _ _ (List.getElem_mem hk))]
    simp only
    have hq := quote_size s
    have h0 : bt (quoteD s) 0 = 34 := rfl
    have hg : gapD (quoteD s) 0 = (0, true) := gapD_stop (by simp [hasD, h0]) (fun _ => by rw [h0]; rfl)
    have ht := textD_read s.data.toList [34] []
    have hl : s.data.toList.length = s.size := sizeL s
    have e : ([34] ++ (s.data.toList.flatMap esc ++ [34])) = quoteL s.data.toList := rfl
    rw [e] at ht
    have ht2 : textD (quoteD s) 1 [] = if s.size ≤ 200 then some (s.data.toList, (quoteD s).size) else none := by
      rw [← hl, quoteD, sizeA]; simpa using ht
    have hs : (⟨s.data.toList.toArray⟩ : ByteArray) = s := rfl
    by_cases h : s.size ≤ 200
    · rw [if_pos h] at ht2 ⊢
      have htk : tokD (quoteD s) 0 = some ((2, 0, s, 0), (quoteD s).size) := by
        unfold tokD
        rw [if_neg (by simp [dig, h0]), if_pos h0, ht2]
      rw [toksD_some (by omega) hg (by omega) htk, toksD_end (gapD_end (by omega))]
      rfl
    · rw [if_neg h] at ht2 ⊢
      have htk : tokD (quoteD s) 0 = none := by
        unfold tokD
        rw [if_neg (by simp [dig, h0]), if_pos h0, ht2]
      rw [toksD_none hg (by omega) htk]

end Go.Proofs.YtbfeailcebfklaaDoor
