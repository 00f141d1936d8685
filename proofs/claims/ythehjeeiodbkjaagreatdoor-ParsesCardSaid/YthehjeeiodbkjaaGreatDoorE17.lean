/-
  Proved: Proved: what the lexer leaves is as the reader asks for it. No condition.. Conditions: .
-/
import Derived.Test.YthehjeeiodbkjaaGreatDoorE15
import Derived.Test.YthehjeeiodbkjaaGreatDoorE01
set_option linter.unusedSimpArgs false
set_option linter.unusedVariables false
set_option maxRecDepth 100000
set_option maxHeartbeats 16000000
namespace Go.Proofs.YthehjeeiodbkjaaGreatDoor
open Go.RowKit
/-- a token as the lexer leaves it -/
structure TkOk (t : Tok) : Prop where
 k : t.1 ≤ 7
 a : t.2.1 ≤ 100000
 q : t.2.2.2 ≤ 1000000000
 s : t.2.2.1.size ≤ 4000
 word : t.1 = 6 → t.2.2.1 ∈ wordsA
 sign : t.1 = 7 → t.2.2.1 ∈ signsA
 upper : t.1 = 4 → 0 < t.2.2.1.size ∧ bt t.2.2.1 0 ≤ 90
theorem cut_size (s : ByteArray) (i j : Nat) : (cut s i j).size ≤ s.size := by
 unfold cut
 rw [ByteArray.size_extract]
 omega
theorem textD_len (s : ByteArray) : ∀ (n i : Nat) (l b : List UInt8) (j : Nat), s.size - i ≤ n → textD s i l = some (b, j) → b.length ≤ 200
 | 0, i, l, b, j, hn, h => by
  rw [textD, dif_neg (by omega)] at h
  cases h
 | n + 1, i, l, b, j, hn, h => by
  rw [textD] at h
  split at h
  · rename_i hi
    split at h
    · split at h
      · rename_i hl; cases h; exact hl
      · cases h
    · split at h
      · cases h
      · split at h
        · split at h
          · split at h
            · exact textD_len s n _ _ b j (by omega) h
            · cases h
          · cases h
        · exact textD_len s n _ _ b j (by omega) h
  · cases h
theorem word_in {t : ByteArray} (h : isWordD t = true) : t ∈ wordsA := by
 have e : wordL.map String.toUTF8 = wordsA := by decide +kernel
 rw [← e]
 unfold isWordD at h
 rw [List.any_eq_true] at h
 obtain ⟨w, hw, he⟩ := h
 exact List.mem_map.2 ⟨w, hw, of_decide_eq_true he⟩
theorem ext_toList (s : ByteArray) (i j : Nat) : (cut s i j).data.toList = (s.data.toList.drop i).take (j - i) := by
 unfold cut
 simp only [ByteArray.data_extract, Array.toList_extract, List.extract_eq_take_drop]
theorem bt_drop (s : ByteArray) (i : Nat) (h : i < s.size) : s.data.toList.drop i = UInt8.ofNat (bt s i) :: s.data.toList.drop (i + 1) := by
 have h2 : i < s.data.toList.length := by rw [Array.length_toList]; exact h
 rw [List.drop_eq_getElem_cons h2]
 congr 1
 unfold bt
 rw [List.getD_eq_getElem?_getD, List.getElem?_eq_getElem h2]
 simp
theorem ba_list {a : ByteArray} {l : List UInt8} (h : a.data.toList = l) : a = ⟨l.toArray⟩ := by
 cases a
 simp only [ByteArray.mk.injEq]
 exact Array.ext' h
theorem cut1 (s : ByteArray) (i : Nat) (h : i < s.size) : cut s i (i + 1) = ⟨#[UInt8.ofNat (bt s i)]⟩ := by
 refine ba_list (l := [UInt8.ofNat (bt s i)]) ?_
 rw [ext_toList, bt_drop s i h, show i + 1 - i = 1 from by omega]
 rfl
theorem cut2 (s : ByteArray) (i : Nat) (h : i + 2 ≤ s.size) : cut s i (i + 2) = ⟨#[UInt8.ofNat (bt s i), UInt8.ofNat (bt s (i + 1))]⟩ := by
 refine ba_list (l := [UInt8.ofNat (bt s i), UInt8.ofNat (bt s (i + 1))]) ?_
 rw [ext_toList, bt_drop s i (by omega), bt_drop s (i + 1) (by omega), show i + 2 - i = 2 from by omega]
 rfl
theorem any_mem {l : List ByteArray} {x : ByteArray} (h : (l.any fun y => decide (y = x)) = true) : x ∈ l := by
 rw [List.any_eq_true] at h
 obtain ⟨y, hy, he⟩ := h
 rw [← of_decide_eq_true he]
 exact hy
theorem sign1 : ∀ c ∈ signL, (⟨#[UInt8.ofNat c]⟩ : ByteArray) ∈ signsA := by
 have h : (signL.all fun c => signsA.any fun y => decide (y = ⟨#[UInt8.ofNat c]⟩)) = true := by decide +kernel
 intro c hc
 exact any_mem (List.all_eq_true.1 h c hc)
theorem sign2 : ∀ p ∈ pairL, (⟨#[UInt8.ofNat p.1, UInt8.ofNat p.2]⟩ : ByteArray) ∈ signsA := by
 have h : (pairL.all fun p => signsA.any fun y => decide (y = ⟨#[UInt8.ofNat p.1, UInt8.ofNat p.2]⟩)) = true := by decide +kernel
 intro c hc
 exact any_mem (List.all_eq_true.1 h c hc)
theorem bt_in {s : ByteArray} {i : Nat} (h : bt s i ≠ 0) : i < s.size := by
 by_cases hi : i < s.size
 · exact hi
 · refine absurd ?_ h
   unfold bt
   rw [List.getD_eq_getElem?_getD, List.getElem?_eq_none (by rw [Array.length_toList]; exact Nat.le_of_not_lt hi)]
   rfl
theorem whD_pos {s : ByteArray} {p : Nat → Bool} {i : Nat} (h : i < s.size) (hp : p (bt s i) = true) : i < whD s p i := by
 have hge : ∀ n i, s.size - i ≤ n → i ≤ whD s p i := by
  intro n
  induction n with
  | zero => intro i hn; rw [whD, dif_neg (by omega)]; exact Nat.le_refl _
  | succ n ih =>
   intro i hn
   rw [whD]
   split
   · split
     · have := ih (i + 1) (by omega); omega
     · exact Nat.le_refl _
   · exact Nat.le_refl _
 rw [whD, dif_pos h, if_pos hp]
 exact hge _ (i + 1) (Nat.le_refl _)
theorem tokD_ok {s : ByteArray} {i j : Nat} {t : Tok} (hs : s.size ≤ 4000) (hi : i ≤ s.size) (h : tokD s i = some (t, j)) : TkOk t := by
 have hc := fun a b => Nat.le_trans (cut_size s a b) hs
 unfold tokD at h
 split at h
 · split at h
   · rename_i h1
     cases h
     exact ⟨by show 1 ≤ 7; omega, by show i ≤ _; omega, h1, by show ByteArray.empty.size ≤ _; decide, fun e => (by cases e), fun e => (by cases e), fun e => (by cases e)⟩
   · cases h
 · split at h
   · split at h
     · rename_i b j' he
       cases h
       have hl := textD_len s _ _ _ b j (Nat.le_refl _) he
       exact ⟨by show 2 ≤ 7; omega, by show i ≤ _; omega, Nat.zero_le _, by show b.toArray.size ≤ _; rw [List.size_toArray]; omega, fun e => (by cases e), fun e => (by cases e), fun e => (by cases e)⟩
     · cases h
   · split at h
     · have h9 : ∃ f, (if f < varD s f f ∧ varD s f f - f ≤ 20 then some ((5, i, cut s i (varD s f f), 0), varD s f f) else none) = some (t, j) := ⟨_, h⟩
       clear h
       obtain ⟨f, h⟩ := h9
       split at h
       · cases h
         exact ⟨by show 5 ≤ 7; omega, by show i ≤ _; omega, Nat.zero_le _, hc _ _, fun e => (by cases e), fun e => (by cases e), fun e => (by cases e)⟩
       · cases h
     · split at h
       · rename_i hn
         by_cases hle : whD s inName i - i ≤ 20
         · have h9 : some (((if cut s i (whD s inName i) = ⟨#[95]⟩ then 7 else if isWordD (cut s i (whD s inName i)) = true then 6 else if great (bt s i) = true then 4 else 3, i, cut s i (whD s inName i), 0) : Tok), whD s inName i) = some (t, j) := by rw [← h]; exact (if_pos hle).symm
           cases h9
           clear h
           by_cases h95 : cut s i (whD s inName i) = ⟨#[95]⟩
           · rw [if_pos h95]
             exact ⟨by show 7 ≤ 7; omega, by show i ≤ _; omega, Nat.zero_le _, hc _ _, fun e => (by cases e), fun _ => by show cut _ _ _ ∈ _; rw [h95]; exact any_mem (by decide +kernel), fun e => (by cases e)⟩
           · rw [if_neg h95]
             by_cases hw : isWordD (cut s i (whD s inName i)) = true
             · rw [if_pos hw]
               exact ⟨by show 6 ≤ 7; omega, by show i ≤ _; omega, Nat.zero_le _, hc _ _, fun _ => word_in hw, fun e => (by cases e), fun e => (by cases e)⟩
             · rw [if_neg hw]
               by_cases hg : great (bt s i) = true
               · rw [if_pos hg]
                 have hb : 65 ≤ bt s i ∧ bt s i ≤ 90 := by simpa [great] using hg
                 have hlt : i < s.size := bt_in (by omega)
                 have hwp : i < whD s inName i := whD_pos hlt (by simp [inName, hg])
                 have hl : (cut s i (whD s inName i)).data.toList = UInt8.ofNat (bt s i) :: (s.data.toList.drop (i + 1)).take (whD s inName i - i - 1) := by
                  rw [ext_toList, bt_drop s i hlt]
                  obtain ⟨m, hm⟩ : ∃ m, whD s inName i - i = m + 1 := ⟨whD s inName i - i - 1, by omega⟩
                  rw [hm]
                  rfl
                 refine ⟨by show 4 ≤ 7; omega, by show i ≤ _; omega, Nat.zero_le _, hc _ _, fun e => (by cases e), fun e => (by cases e), fun _ => ⟨?_, ?_⟩⟩
                 · show 0 < (cut s i (whD s inName i)).data.size
                   rw [← Array.length_toList, hl]
                   simp
                 · show bt (cut s i (whD s inName i)) 0 ≤ 90
                   have e : bt (cut s i (whD s inName i)) 0 = (UInt8.ofNat (bt s i)).toNat := by
                    unfold bt
                    rw [show (cut s i (whD s inName i)).data.toList = _ from hl]
                    rfl
                   rw [e]
                   have := bt_lt s i
                   simp
                   omega
               · rw [if_neg hg]
                 exact ⟨by show 3 ≤ 7; omega, by show i ≤ _; omega, Nat.zero_le _, hc _ _, fun e => (by cases e), fun e => (by cases e), fun e => (by cases e)⟩
         · exact absurd (h.symm.trans (if_neg hle)) (by intro e; cases e)
       · split at h
         · rename_i hp
           cases h
           refine ⟨by show 7 ≤ 7; omega, by show i ≤ _; omega, Nat.zero_le _, hc _ _, fun e => (by cases e), fun _ => ?_, fun e => (by cases e)⟩
           show cut s i (i + 2) ∈ signsA
           rw [cut2 s i hp.1]
           exact sign2 _ hp.2
         · split at h
           · rename_i hsg
             cases h
             have hlt : i < s.size := bt_in (fun e => by rw [e] at hsg; exact absurd hsg (by decide))
             refine ⟨by show 7 ≤ 7; omega, by show i ≤ _; omega, Nat.zero_le _, hc _ _, fun e => (by cases e), fun _ => ?_, fun e => (by cases e)⟩
             show cut s i (i + 1) ∈ signsA
             rw [cut1 s i hlt]
             exact sign1 _ hsg
           · cases h
/-- what toksD leaves -/
theorem toksD_ok (s : ByteArray) (hs : s.size ≤ 4000) : ∀ (n i : Nat) (l : List Tok), s.size - i ≤ n → i ≤ s.size → l.length ≤ i → (∀ t ∈ l, TkOk t) →
 (toksD s i l).1.length ≤ 4001 ∧ (∀ t ∈ (toksD s i l).1, TkOk t) ∧ (((toksD s i l).2.1 = 3 ∧ (toksD s i l).2.2 ≤ 4000) ∨ (toksD s i l).2 = (0, 0) ∧ ∃ m, (toksD s i l).1 = m ++ [(0, s.size, ByteArray.empty, 0)]) := by
 intro n
 induction n with
 | zero =>
  intro i l hn hi hl hall
  have hg := gapD_ge (s := s) i hi
  cases hb : gapD s i with
  | mk j b =>
   rw [hb] at hg
   cases b with
   | false => rw [toksD_bad hb]; exact ⟨by show l.length ≤ _; omega, hall, .inl ⟨rfl, by have := hg.2; show j ≤ _; omega⟩⟩
   | true =>
    have hj : j = s.size := by have := hg.1; have := hg.2; simp only at *; omega
    rw [hj] at hb
    rw [toksD_end hb]
    refine ⟨by rw [List.length_append]; show l.length + 1 ≤ _; omega, fun t ht => ?_, .inr ⟨rfl, l, rfl⟩⟩
    rcases List.mem_append.1 ht with h | h
    · exact hall t h
    · rw [List.mem_singleton] at h
      subst h
      exact ⟨Nat.zero_le _, by show s.size ≤ _; omega, Nat.zero_le _, by show ByteArray.empty.size ≤ _; decide, fun e => (by cases e), fun e => (by cases e), fun e => (by cases e)⟩
 | succ n ih =>
  intro i l hn hi hl hall
  have hg := gapD_ge (s := s) i hi
  cases hb : gapD s i with
  | mk j b =>
   rw [hb] at hg
   cases b with
   | false => rw [toksD_bad hb]; exact ⟨by show l.length ≤ _; omega, hall, .inl ⟨rfl, by have := hg.2; show j ≤ _; omega⟩⟩
   | true =>
    have hg1 : i ≤ j := hg.1
    have hg2 : j ≤ s.size := hg.2
    by_cases hj : j = s.size
    · rw [hj] at hb
      rw [toksD_end hb]
      refine ⟨by rw [List.length_append]; show l.length + 1 ≤ _; omega, fun t ht => ?_, .inr ⟨rfl, l, rfl⟩⟩
      rcases List.mem_append.1 ht with h | h
      · exact hall t h
      · rw [List.mem_singleton] at h
        subst h
        exact ⟨Nat.zero_le _, by show s.size ≤ _; omega, Nat.zero_le _, by show ByteArray.empty.size ≤ _; decide, fun e => (by cases e), fun e => (by cases e), fun e => (by cases e)⟩
    · cases ht : tokD s j with
      | none => rw [toksD_none hb hj ht]; exact ⟨by show l.length ≤ _; omega, hall, .inl ⟨rfl, by show j ≤ _; omega⟩⟩
      | some r =>
       obtain ⟨t, k⟩ := r
       rw [toksD_some hi hb hj ht]
       obtain ⟨h1, h2⟩ := tokD_lt (by omega) ht
       refine ih k (l ++ [t]) (by omega) h2 (by rw [List.length_append]; show l.length + 1 ≤ _; omega) fun u hu => ?_
       rcases List.mem_append.1 hu with h | h
       · exact hall u h
       · rw [List.mem_singleton] at h
         subst h
         exact tokD_ok hs (by omega) ht
/-- a text's tokens, as a source -/
def srcD (s : ByteArray) : Src := ⟨(lexD s).1, (lexD s).2.1, (lexD s).2.2⟩
theorem lexD_long {s : ByteArray} (h : 4000 < s.size) : lexD s = ([], (1, 0)) := by unfold lexD; rw [if_pos h]
theorem badD_le (s : ByteArray) : ∀ (n i k : Nat), s.size - i ≤ n → badD s i = some k → k ≤ s.size
 | 0, i, k, hn, h => by rw [badD, dif_neg (by omega)] at h; cases h
 | n + 1, i, k, hn, h => by
  rw [badD] at h
  split at h
  · split at h
    · exact badD_le s n (i + 1) k (by omega) h
    · cases h; omega
  · cases h
/-- the fault: too long, a byte, a token, or none -/
theorem lexD_cases (s : ByteArray) : ((lexD s).2.1 = 1 ∨ (lexD s).2.1 = 2) ∧ (lexD s).2.2 ≤ 4000 ∨ ((lexD s).2.1 ≠ 1 ∧ (lexD s).2.1 ≠ 2) ∧ SrcOk (srcD s) := by
 by_cases hbig : 4000 < s.size
 · rw [lexD_long hbig]
   exact .inl ⟨.inl rfl, by decide⟩
 · have e : lexD s = match badD s 0 with | some i => ([], (2, i)) | none => toksD s 0 [] := by unfold lexD; rw [if_neg hbig]; rfl
   cases hb : badD s 0 with
   | some i =>
    rw [hb] at e
    rw [e]
    exact .inl ⟨.inr rfl, by have := badD_le s _ 0 i (Nat.le_refl _) hb; show i ≤ _; omega⟩
   | none =>
    rw [hb] at e
    have e2 : lexD s = toksD s 0 [] := e
    obtain ⟨h1, h2, h3⟩ := toksD_ok s (by omega) s.size 0 [] (by omega) (Nat.zero_le _) (Nat.zero_le _) (fun t h => by cases h)
    rw [← e2] at h1 h2 h3
    refine .inr ⟨?_, ?_⟩
    · rcases h3 with h | ⟨h, -⟩
      · rw [h.1]; decide
      · rw [h]; decide
    · refine ⟨by show (lexD s).1.length ≤ _; omega, fun t ht => ⟨(h2 t ht).k, (h2 t ht).a, (h2 t ht).q, (h2 t ht).s⟩, ?_, ?_, fun t ht => (h2 t ht).word, fun t ht => (h2 t ht).sign, fun t ht => (h2 t ht).upper, fun h0 => ?_⟩
      · show (lexD s).2.1 ≤ 100
        rcases h3 with h | ⟨h, -⟩
        · rw [h.1]; decide
        · rw [h]; decide
      · show (lexD s).2.2 ≤ 100000
        rcases h3 with h | ⟨h, -⟩
        · have := h.2; omega
        · rw [h]; decide
      · have h0' : (lexD s).2.1 = 0 := h0
        rcases h3 with h | ⟨h, m, hm⟩
        · rw [h.1] at h0'; cases h0'
        · show 0 < (lexD s).1.length ∧ (srcD s).K ((lexD s).1.length - 1) = 0
          rw [hm]
          refine ⟨by simp, ?_⟩
          unfold Src.K srcD
          rw [hm]
          simp
end Go.Proofs.YthehjeeiodbkjaaGreatDoor
