/-
  Proved: what the lexer leaves is as the reader asks for it; the contract of the reference's text; the contract of the reference's Token at digits; the contract of the reference's Token at strings and type variables; the contract of the reference's Token at names; the contract of the reference's Token at signs, and everywhere; the contract of the reference's Tokens; the tokens of two texts side by side, in plain Lean; the contracts of the scanner's has and while; the contract of the scanner's gap. Conditions: a text of at most 4000 bytes; the table of sorts, a text of at most 4000 bytes below 128.
-/
import Derived.Test.YthehjeeiodbkjaaGreatDoorA02
import Derived.Test.YthehjeeiodbkjaaGreatDoorA05
import Derived.Test.YthehjeeiodbkjaaGreatDoorA01
import Derived.Deep.DeepCutAuto
import Derived.Deep.CutBlock
import Derived.StillTailTactics
import Derived.Deep.RegionHeld3
import Derived.BigRegion
import Derived.ScopeJumps
import Derived.WalkMore
set_option linter.unusedSimpArgs false
set_option linter.unusedVariables false
set_option maxRecDepth 100000
set_option maxHeartbeats 16000000
namespace Go.Proofs.YthehjeeiodbkjaaGreatDoor
open Go.RowKit
structure TkOk (t : Tok) : Prop where
 k : t.1 ≤ 7
 a : t.2.1 ≤ 100000
 q : t.2.2.2 ≤ 1000000000
 s : t.2.2.1.size ≤ 4000
 word : t.1 = 6 → t.2.2.1 ∈ wordsA
 sign : t.1 = 7 → t.2.2.1 ∈ signsA
 upper : t.1 = 4 → 0 < t.2.2.1.size ∧ bt t.2.2.1 0 ≤ 90
theorem cut_size (s : ByteArray) (i j : Nat) : (cut s i j).size ≤ s.size := by
 unfold cut
 rw [ByteArray.size_extract]
 omega
theorem textD_len (s : ByteArray) : ∀ (n i : Nat) (l b : List UInt8) (j : Nat), s.size - i ≤ n → textD s i l = some (b, j) → b.length ≤ 200
 | 0, i, l, b, j, hn, h => by
  rw [textD, dif_neg (by omega)] at h
  cases h
 | n + 1, i, l, b, j, hn, h => by
  rw [textD] at h
  split at h
  · rename_i hi
    split at h
    · split at h
      · rename_i hl; cases h; exact hl
      · cases h
    · split at h
      · cases h
      · split at h
        · split at h
          · split at h
            · exact textD_len s n _ _ b j (by omega) h
            · cases h
          · cases h
        · exact textD_len s n _ _ b j (by omega) h
  · cases h
theorem word_in {t : ByteArray} (h : isWordD t = true) : t ∈ wordsA := by
 have e : wordL.map String.toUTF8 = wordsA := by decide +kernel
 rw [← e]
 unfold isWordD at h
 rw [List.any_eq_true] at h
 obtain ⟨w, hw, he⟩ := h
 exact List.mem_map.2 ⟨w, hw, of_decide_eq_true he⟩
theorem ext_toList (s : ByteArray) (i j : Nat) : (cut s i j).data.toList = (s.data.toList.drop i).take (j - i) := by
 unfold cut
 simp only [ByteArray.data_extract, Array.toList_extract, List.extract_eq_take_drop]
theorem bt_drop (s : ByteArray) (i : Nat) (h : i < s.size) : s.data.toList.drop i = UInt8.ofNat (bt s i) :: s.data.toList.drop (i + 1) := by
 have h2 : i < s.data.toList.length := by rw [Array.length_toList]; exact h
 rw [List.drop_eq_getElem_cons h2]
 congr 1
 unfold bt
 rw [List.getD_eq_getElem?_getD, List.getElem?_eq_getElem h2]
 simp
theorem ba_list {a : ByteArray} {l : List UInt8} (h : a.data.toList = l) : a = ⟨l.toArray⟩ := by
 cases a
 simp only [ByteArray.mk.injEq]
 exact Array.ext' h
theorem cut1 (s : ByteArray) (i : Nat) (h : i < s.size) : cut s i (i + 1) = ⟨#[UInt8.ofNat (bt s i)]⟩ := by
 refine ba_list (l := [UInt8.ofNat (bt s i)]) ?_
 rw [ext_toList, bt_drop s i h, show i + 1 - i = 1 from by omega]
 rfl
theorem cut2 (s : ByteArray) (i : Nat) (h : i + 2 ≤ s.size) : cut s i (i + 2) = ⟨#[UInt8.ofNat (bt s i), UInt8.ofNat (bt s (i + 1))]⟩ := by
 refine ba_list (l := [UInt8.ofNat (bt s i), UInt8.ofNat (bt s (i + 1))]) ?_
 rw [ext_toList, bt_drop s i (by omega), bt_drop s (i + 1) (by omega), show i + 2 - i = 2 from by omega]
 rfl
theorem any_mem {l : List ByteArray} {x : ByteArray} (h : (l.any fun y => decide (y = x)) = true) : x ∈ l := by
 rw [List.any_eq_true] at h
 obtain ⟨y, hy, he⟩ := h
 rw [← of_decide_eq_true he]
 exact hy
theorem sign1 : ∀ c ∈ signL, (⟨#[UInt8.ofNat c]⟩ : ByteArray) ∈ signsA := by
 have h : (signL.all fun c => signsA.any fun y => decide (y = ⟨#[UInt8.ofNat c]⟩)) = true := by decide +kernel
 intro c hc
 exact any_mem (List.all_eq_true.1 h c hc)
theorem sign2 : ∀ p ∈ pairL, (⟨#[UInt8.ofNat p.1, UInt8.ofNat p.2]⟩ : ByteArray) ∈ signsA := by
 have h : (pairL.all fun p => signsA.any fun y => decide (y = ⟨#[UInt8.ofNat p.1, UInt8.ofNat p.2]⟩)) = true := by decide +kernel
 intro c hc
 exact any_mem (List.all_eq_true.1 h c hc)
theorem bt_in {s : ByteArray} {i : Nat} (h : bt s i ≠ 0) : i < s.size := by
 by_cases hi : i < s.size
 · exact hi
 · refine absurd ?_ h
   unfold bt
   rw [List.getD_eq_getElem?_getD, List.getElem?_eq_none (by rw [Array.length_toList]; exact Nat.le_of_not_lt hi)]
   rfl
theorem whD_pos {s : ByteArray} {p : Nat → Bool} {i : Nat} (h : i < s.size) (hp : p (bt s i) = true) : i < whD s p i := by
 have hge : ∀ n i, s.size - i ≤ n → i ≤ whD s p i := by
  intro n
  induction n with
  | zero => intro i hn; rw [whD, dif_neg (by omega)]; exact Nat.le_refl _
  | succ n ih =>
   intro i hn
   rw [whD]
   split
   · split
     · have := ih (i + 1) (by omega); omega
     · exact Nat.le_refl _
   · exact Nat.le_refl _
 rw [whD, dif_pos h, if_pos hp]
 exact hge _ (i + 1) (Nat.le_refl _)
theorem tokD_ok {s : ByteArray} {i j : Nat} {t : Tok} (hs : s.size ≤ 4000) (hi : i ≤ s.size) (h : tokD s i = some (t, j)) : TkOk t := by
 have hc := fun a b => Nat.le_trans (cut_size s a b) hs
 unfold tokD at h
 split at h
 · split at h
   · rename_i h1
     cases h
     exact ⟨by show 1 ≤ 7; omega, by show i ≤ _; omega, h1, by show ByteArray.empty.size ≤ _; decide, fun e => (by cases e), fun e => (by cases e), fun e => (by cases e)⟩
   · cases h
 · split at h
   · split at h
     · rename_i b j' he
       cases h
       have hl := textD_len s _ _ _ b j (Nat.le_refl _) he
       exact ⟨by show 2 ≤ 7; omega, by show i ≤ _; omega, Nat.zero_le _, by show b.toArray.size ≤ _; rw [List.size_toArray]; omega, fun e => (by cases e), fun e => (by cases e), fun e => (by cases e)⟩
     · cases h
   · split at h
     · have h9 : ∃ f, (if f < varD s f f ∧ varD s f f - f ≤ 20 then some ((5, i, cut s i (varD s f f), 0), varD s f f) else none) = some (t, j) := ⟨_, h⟩
       clear h
       obtain ⟨f, h⟩ := h9
       split at h
       · cases h
         exact ⟨by show 5 ≤ 7; omega, by show i ≤ _; omega, Nat.zero_le _, hc _ _, fun e => (by cases e), fun e => (by cases e), fun e => (by cases e)⟩
       · cases h
     · split at h
       · rename_i hn
         by_cases hle : whD s inName i - i ≤ 20
         · have h9 : some (((if cut s i (whD s inName i) = ⟨#[95]⟩ then 7 else if isWordD (cut s i (whD s inName i)) = true then 6 else if great (bt s i) = true then 4 else 3, i, cut s i (whD s inName i), 0) : Tok), whD s inName i) = some (t, j) := by rw [← h]; exact (if_pos hle).symm
           cases h9
           clear h
           by_cases h95 : cut s i (whD s inName i) = ⟨#[95]⟩
           · rw [if_pos h95]
             exact ⟨by show 7 ≤ 7; omega, by show i ≤ _; omega, Nat.zero_le _, hc _ _, fun e => (by cases e), fun _ => by show cut _ _ _ ∈ _; rw [h95]; exact any_mem (by decide +kernel), fun e => (by cases e)⟩
           · rw [if_neg h95]
             by_cases hw : isWordD (cut s i (whD s inName i)) = true
             · rw [if_pos hw]
               exact ⟨by show 6 ≤ 7; omega, by show i ≤ _; omega, Nat.zero_le _, hc _ _, fun _ => word_in hw, fun e => (by cases e), fun e => (by cases e)⟩
             · rw [if_neg hw]
               by_cases hg : great (bt s i) = true
               · rw [if_pos hg]
                 have hb : 65 ≤ bt s i ∧ bt s i ≤ 90 := by simpa [great] using hg
                 have hlt : i < s.size := bt_in (by omega)
                 have hwp : i < whD s inName i := whD_pos hlt (by simp [inName, hg])
                 have hl : (cut s i (whD s inName i)).data.toList = UInt8.ofNat (bt s i) :: (s.data.toList.drop (i + 1)).take (whD s inName i - i - 1) := by
                  rw [ext_toList, bt_drop s i hlt]
                  obtain ⟨m, hm⟩ : ∃ m, whD s inName i - i = m + 1 := ⟨whD s inName i - i - 1, by omega⟩
                  rw [hm]
                  rfl
                 refine ⟨by show 4 ≤ 7; omega, by show i ≤ _; omega, Nat.zero_le _, hc _ _, fun e => (by cases e), fun e => (by cases e), fun _ => ⟨?_, ?_⟩⟩
                 · show 0 < (cut s i (whD s inName i)).data.size
                   rw [← Array.length_toList, hl]
                   simp
                 · show bt (cut s i (whD s inName i)) 0 ≤ 90
                   have e : bt (cut s i (whD s inName i)) 0 = (UInt8.ofNat (bt s i)).toNat := by
                    unfold bt
                    rw [show (cut s i (whD s inName i)).data.toList = _ from hl]
                    rfl
                   rw [e]
                   have := bt_lt s i
                   simp
                   omega
               · rw [if_neg hg]
                 exact ⟨by show 3 ≤ 7; omega, by show i ≤ _; omega, Nat.zero_le _, hc _ _, fun e => (by cases e), fun e => (by cases e), fun e => (by cases e)⟩
         · exact absurd (h.symm.trans (if_neg hle)) (by intro e; cases e)
       · split at h
         · rename_i hp
           cases h
           refine ⟨by show 7 ≤ 7; omega, by show i ≤ _; omega, Nat.zero_le _, hc _ _, fun e => (by cases e), fun _ => ?_, fun e => (by cases e)⟩
           show cut s i (i + 2) ∈ signsA
           rw [cut2 s i hp.1]
           exact sign2 _ hp.2
         · split at h
           · rename_i hsg
             cases h
             have hlt : i < s.size := bt_in (fun e => by rw [e] at hsg; exact absurd hsg (by decide))
             refine ⟨by show 7 ≤ 7; omega, by show i ≤ _; omega, Nat.zero_le _, hc _ _, fun e => (by cases e), fun _ => ?_, fun e => (by cases e)⟩
             show cut s i (i + 1) ∈ signsA
             rw [cut1 s i hlt]
             exact sign1 _ hsg
           · cases h
theorem toksD_ok (s : ByteArray) (hs : s.size ≤ 4000) : ∀ (n i : Nat) (l : List Tok), s.size - i ≤ n → i ≤ s.size → l.length ≤ i → (∀ t ∈ l, TkOk t) →
 (toksD s i l).1.length ≤ 4001 ∧ (∀ t ∈ (toksD s i l).1, TkOk t) ∧ (((toksD s i l).2.1 = 3 ∧ (toksD s i l).2.2 ≤ 4000) ∨ (toksD s i l).2 = (0, 0) ∧ ∃ m, (toksD s i l).1 = m ++ [(0, s.size, ByteArray.empty, 0)]) := by
 intro n
 induction n with
 | zero =>
  intro i l hn hi hl hall
  have hg := gapD_ge (s := s) i hi
  cases hb : gapD s i with
  | mk j b =>
   rw [hb] at hg
   cases b with
   | false => rw [toksD_bad hb]; exact ⟨by show l.length ≤ _; omega, hall, .inl ⟨rfl, by have := hg.2; show j ≤ _; omega⟩⟩
   | true =>
    have hj : j = s.size := by have := hg.1; have := hg.2; simp only at *; omega
    rw [hj] at hb
    rw [toksD_end hb]
    refine ⟨by rw [List.length_append]; show l.length + 1 ≤ _; omega, fun t ht => ?_, .inr ⟨rfl, l, rfl⟩⟩
    rcases List.mem_append.1 ht with h | h
    · exact hall t h
    · rw [List.mem_singleton] at h
      subst h
      exact ⟨Nat.zero_le _, by show s.size ≤ _; omega, Nat.zero_le _, by show ByteArray.empty.size ≤ _; decide, fun e => (by cases e), fun e => (by cases e), fun e => (by cases e)⟩
 | succ n ih =>
  intro i l hn hi hl hall
  have hg := gapD_ge (s := s) i hi
  cases hb : gapD s i with
  | mk j b =>
   rw [hb] at hg
   cases b with
   | false => rw [toksD_bad hb]; exact ⟨by show l.length ≤ _; omega, hall, .inl ⟨rfl, by have := hg.2; show j ≤ _; omega⟩⟩
   | true =>
    have hg1 : i ≤ j := hg.1
    have hg2 : j ≤ s.size := hg.2
    by_cases hj : j = s.size
    · rw [hj] at hb
      rw [toksD_end hb]
      refine ⟨by rw [List.length_append]; show l.length + 1 ≤ _; omega, fun t ht => ?_, .inr ⟨rfl, l, rfl⟩⟩
      rcases List.mem_append.1 ht with h | h
      · exact hall t h
      · rw [List.mem_singleton] at h
        subst h
        exact ⟨Nat.zero_le _, by show s.size ≤ _; omega, Nat.zero_le _, by show ByteArray.empty.size ≤ _; decide, fun e => (by cases e), fun e => (by cases e), fun e => (by cases e)⟩
    · cases ht : tokD s j with
      | none => rw [toksD_none hb hj ht]; exact ⟨by show l.length ≤ _; omega, hall, .inl ⟨rfl, by show j ≤ _; omega⟩⟩
      | some r =>
       obtain ⟨t, k⟩ := r
       rw [toksD_some hi hb hj ht]
       obtain ⟨h1, h2⟩ := tokD_lt (by omega) ht
       refine ih k (l ++ [t]) (by omega) h2 (by rw [List.length_append]; show l.length + 1 ≤ _; omega) fun u hu => ?_
       rcases List.mem_append.1 hu with h | h
       · exact hall u h
       · rw [List.mem_singleton] at h
         subst h
         exact tokD_ok hs (by omega) ht
def srcD (s : ByteArray) : Src := ⟨(lexD s).1, (lexD s).2.1, (lexD s).2.2⟩
theorem lexD_long {s : ByteArray} (h : 4000 < s.size) : lexD s = ([], (1, 0)) := by unfold lexD; rw [if_pos h]
theorem badD_le (s : ByteArray) : ∀ (n i k : Nat), s.size - i ≤ n → badD s i = some k → k ≤ s.size
 | 0, i, k, hn, h => by rw [badD, dif_neg (by omega)] at h; cases h
 | n + 1, i, k, hn, h => by
  rw [badD] at h
  split at h
  · split at h
    · exact badD_le s n (i + 1) k (by omega) h
    · cases h; omega
  · cases h
theorem lexD_cases (s : ByteArray) : ((lexD s).2.1 = 1 ∨ (lexD s).2.1 = 2) ∧ (lexD s).2.2 ≤ 4000 ∨ ((lexD s).2.1 ≠ 1 ∧ (lexD s).2.1 ≠ 2) ∧ SrcOk (srcD s) := by
 by_cases hbig : 4000 < s.size
 · rw [lexD_long hbig]
   exact .inl ⟨.inl rfl, by decide⟩
 · have e : lexD s = match badD s 0 with | some i => ([], (2, i)) | none => toksD s 0 [] := by unfold lexD; rw [if_neg hbig]; rfl
   cases hb : badD s 0 with
   | some i =>
    rw [hb] at e
    rw [e]
    exact .inl ⟨.inr rfl, by have := badD_le s _ 0 i (Nat.le_refl _) hb; show i ≤ _; omega⟩
   | none =>
    rw [hb] at e
    have e2 : lexD s = toksD s 0 [] := e
    obtain ⟨h1, h2, h3⟩ := toksD_ok s (by omega) s.size 0 [] (by omega) (Nat.zero_le _) (Nat.zero_le _) (fun t h => by cases h)
    rw [← e2] at h1 h2 h3
    refine .inr ⟨?_, ?_⟩
    · rcases h3 with h | ⟨h, -⟩
      · rw [h.1]; decide
      · rw [h]; decide
    · refine ⟨by show (lexD s).1.length ≤ _; omega, fun t ht => ⟨(h2 t ht).k, (h2 t ht).a, (h2 t ht).q, (h2 t ht).s⟩, ?_, ?_, fun t ht => (h2 t ht).word, fun t ht => (h2 t ht).sign, fun t ht => (h2 t ht).upper, fun h0 => ?_⟩
      · show (lexD s).2.1 ≤ 100
        rcases h3 with h | ⟨h, -⟩
        · rw [h.1]; decide
        · rw [h]; decide
      · show (lexD s).2.2 ≤ 100000
        rcases h3 with h | ⟨h, -⟩
        · have := h.2; omega
        · rw [h]; decide
      · have h0' : (lexD s).2.1 = 0 := h0
        rcases h3 with h | ⟨h, m, hm⟩
        · rw [h.1] at h0'; cases h0'
        · show 0 < (lexD s).1.length ∧ (srcD s).K ((lexD s).1.length - 1) = 0
          rw [hm]
          refine ⟨by simp, ?_⟩
          unfold Src.K srcD
          rw [hm]
          simp
theorem bt_eq {s : ByteArray} {k c : Nat} (h : k < s.size) (hc : c = bt s k) : (s[k]'h).toNat = c := by rw [hc, bt_get]
def tokV (t : Tok) : Value := .agg #[.int .i64 t.1, .int .i64 t.2.1, .string t.2.2.1, .int .i64 t.2.2.2]
abbrev TokB (W : World) (b : Nat) (k a : Int) (x : ByteArray) (n : Int) : Prop := W.heap[b]? = some (.cells #[.int .i64 k, .int .i64 a, .string x, .int .i64 n] 59 (0, 0))
theorem isWord_among (t : ByteArray) : isWordD t = amongD wordB t := by
 have h : wordL.map String.toUTF8 = wordB := by decide +kernel
 unfold isWordD amongD
 rw [← h, List.any_map]
 rfl
theorem tokD_text {s : ByteArray} {i : Nat} (h : bt s i = 34) : tokD s i = match textD s (i + 1) [] with
 | some (b, j) => some ((2, i, ⟨b.toArray⟩, 0), j)
 | none => none := by
 unfold tokD
 rw [if_neg (by simp [dig, h]), if_pos h]
 rfl
theorem tokD_var {s : ByteArray} {i : Nat} (h : bt s i = 39) : tokD s i = if vfD s i < varD s (vfD s i) (vfD s i) ∧ varD s (vfD s i) (vfD s i) - vfD s i ≤ 20 then some ((5, i, cut s i (varD s (vfD s i) (vfD s i)), 0), varD s (vfD s i) (vfD s i)) else none := by
 unfold tokD
 rw [if_neg (by simp [dig, h]), if_neg (by omega), if_pos h]
 rfl
def nameK (s : ByteArray) (i : Nat) (t : ByteArray) : Nat := if t = ⟨#[95]⟩ then 7 else if isWordD t then 6 else if great (bt s i) then 4 else 3
theorem tokD_name {s : ByteArray} {i : Nat} (h : small (bt s i) = true ∨ great (bt s i) = true ∨ bt s i = 95) : tokD s i = if whD s inName i - i ≤ 20 then some ((nameK s i (cut s i (whD s inName i)), i, cut s i (whD s inName i), 0), whD s inName i) else none := by
 have h1 : dig (bt s i) = false ∧ bt s i ≠ 34 ∧ bt s i ≠ 39 := by
  rcases h with h | h | h
  · simp [small] at h; simp [dig]; omega
  · simp [great] at h; simp [dig]; omega
  · simp [dig, h]
 have h2 : (small (bt s i) || great (bt s i) || decide (bt s i = 95)) = true := by
  rcases h with h | h | h <;> simp [h]
 unfold tokD
 rw [if_neg (by simp [h1.1]), if_neg h1.2.1, if_neg h1.2.2, if_pos h2]
 rfl
def mk1 (a : Nat) : ByteArray := ⟨#[UInt8.ofNat a]⟩
theorem cut_one (s : ByteArray) (k : Nat) (h : k + 1 ≤ s.size) : cut s k (k + 1) = ⟨#[s[k]]⟩ := by
 have hz := sizeL s
 apply ByteArray.ext
 apply Array.ext'
 have h1 : k < s.data.toList.length := by omega
 simp only [cut, ByteArray.data_extract, Array.toList_extract]
 rw [List.extract_eq_take_drop, List.drop_eq_getElem_cons h1, show k + 1 - k = 1 from by omega]
 rfl
theorem atD_mk1 (s : ByteArray) (i a : Nat) (ha : a < 256) (hi : i < s.size) : atD s i (mk1 a) = decide (bt s i = a) := by
 have e : (mk1 a).size = 1 := rfl
 unfold atD
 rw [e, cut_one s i (by omega), ← bt_get s i hi, decide_eq_decide]
 constructor
 · intro h
   have h2 : s[i] = UInt8.ofNat a := by have := h.2; unfold mk1 at this; injection this with this; simpa using this
   rw [h2]; simp; omega
 · intro h
   refine ⟨by omega, ?_⟩
   rw [← h]; simp [mk1]
theorem info59 : (Tryz.prog.info? 59).map (fun i => (i.zero, i.size, i.bytes)) = some (some (.agg #[.int .i64 0, .int .i64 0, .string ⟨#[]⟩, .int .i64 0]), 4, 40) := by kernel_rfl
def tokRow (t : Tok) : List Value := [.int .i64 t.1, .int .i64 t.2.1, .string t.2.2.1, .int .i64 t.2.2.2]
def LexPost (s : ByteArray) (w : World) (e : Ending) (w' : World) : Prop :=
 ∃ a cap, e = .returned (.tuple #[.slice a (lexD s).1.length cap, .agg #[.int .i64 (lexD s).2.1, .int .i64 (lexD s).2.2]]) ∧
  w'.ownsRow w.heap.size 59 4 (.slice a (lexD s).1.length cap) (lexD s).1.length ((lexD s).1.flatMap tokRow) ∧ Below w.heap.size w w'
theorem LexPost.mk' {s : ByteArray} {w w' : World} {e : Ending} {l : List Tok} {f : Nat × Nat} {a : Option Addr} {cap : Nat} (h : lexD s = (l, f)) (he : e = .returned (.tuple #[.slice a l.length cap, .agg #[.int .i64 f.1, .int .i64 f.2]]))
 (ho : w'.ownsRow w.heap.size 59 4 (.slice a l.length cap) l.length (l.flatMap tokRow)) (hb : Below w.heap.size w w') : LexPost s w e w' := by
 unfold LexPost
 rw [h]
 exact ⟨a, cap, he, ho, hb⟩
theorem tok_ones (a b d : Int) (x : ByteArray) : ∀ u ∈ ([.int .i64 a, .int .i64 b, .string x, .int .i64 d] : List Value), u.oneCell' = true := by
 intro u hu
 simp only [List.mem_cons, List.not_mem_nil, or_false] at hu
 rcases hu with rfl | rfl | rfl | rfl <;> rfl
abbrev FltB (W : World) (b : Nat) : Prop := W.heap[b]? = some (.cells #[.int .i64 0, .int .i64 0] 29 (0, 0))
theorem okB_cases (c : Nat) : okB c = true ↔ (c = 9 ∨ c = 10 ∨ (32 ≤ c ∧ c ≤ 126)) := by simp [okB]
theorem badD_step {s : ByteArray} {i : Nat} (h : i < s.size) (ho : okB (bt s i) = true) : badD s i = badD s (i + 1) := by rw [badD, dif_pos h, if_pos ho]
theorem badD_here {s : ByteArray} {i : Nat} (h : i < s.size) (ho : okB (bt s i) = false) : badD s i = some i := by rw [badD, dif_pos h, if_neg (by simp [ho])]
theorem badD_end {s : ByteArray} {i : Nat} (h : s.size ≤ i) : badD s i = none := by rw [badD, dif_neg (by omega)]
theorem badD_all {s : ByteArray} (i : Nat) : badD s i = none → ∀ k, i ≤ k → k < s.size → okB (bt s k) = true := by
 induction i using badD.induct s with
 | case1 i h hp ih =>
  intro hn k h1 h2
  rw [badD, dif_pos h, if_pos hp] at hn
  by_cases e : k = i
  · rw [e]; exact hp
  · exact ih hn k (by omega) h2
 | case2 i h hp => intro hn; rw [badD, dif_pos h, if_neg hp] at hn; cases hn
 | case3 i h => intro hn k h1 h2; omega
def Scan (w : World) (b : Nat) (s : ByteArray) (i : Nat) : Prop := w.heap[b]? = some (.cells #[.string s, .int .i64 i] 56 (0, 0))
def Sorts (w : World) : Prop := ∀ k, k < 128 → w.cell? ⟨1, k, none⟩ = some (.int .i64 (srt k))
abbrev pv (b : Nat) : Value := .pointer (some ⟨b, 0, none⟩)
theorem Scan.lt {w : World} {b : Nat} {s : ByteArray} {i : Nat} (h : Scan w b s i) : b < w.heap.size := lt_of_block h
theorem Scan.below {w w' : World} {b : Nat} {s : ByteArray} {i : Nat} (h : Scan w b s i) (hb : Below w.heap.size w w') : Scan w' b s i := blk_below h hb h.lt
theorem Scan.set {w : World} {b : Nat} {s : ByteArray} {i : Nat} (h : Scan w b s i) (i' : Int) (k : Nat) (hk : i' = k) : Scan (w.setCell ⟨b, 1, none⟩ (.int .i64 i')) b s k := by
 subst hk; exact blk_set h 1 _
theorem Scan.drew {w : World} {b : Nat} {s : ByteArray} {i : Nat} (h : Scan w b s i) (n : Nat) : Scan (w.drewN n) b s i := h
def atOf (w : World) (b : Nat) : Nat := match w.cell? ⟨b, 1, none⟩ with | some (.int _ i) => i.toNat | _ => 0
theorem Scan.at {w : World} {b : Nat} {s : ByteArray} {i : Nat} (h : Scan w b s i) : atOf w b = i := by
 have r1 : w.cell? ⟨b, 1, none⟩ = some (.int .i64 i) := blk_cell h 1
 unfold atOf; rw [r1]; simp
theorem lhas_any (s t : ByteArray) (b i : Nat) (w : World) (hsc : Scan w b s i) (hs : s.size ≤ 4000) (hi : i ≤ s.size) (ht : t.size ≤ 4000) :
 Calls Tryz.prog 67 #[pv b, .string t] w fun e w' => e = .returned (.bool (atD s i t)) ∧ Below w.heap.size w w' := by
 have hlt := hsc.lt
 have r0 : w.cell? ⟨b, 0, none⟩ = some (.string s) := blk_cell hsc 0
 have r1 : w.cell? ⟨b, 1, none⟩ = some (.int .i64 i) := blk_cell hsc 1
 clear hsc
 have hw1 : IntKind.i64.wrap ((s.size : Int) - (i : Int)) = (s.size : Int) - i := IntWalk.i64_in _ (by omega)
 by_cases h : i + t.size ≤ s.size
 · have hd : decide ((t.size : Int) ≤ (s.size : Int) - (i : Int)) = true := by simp; omega
   have hd2 : decide ((s.size : Int) - (i : Int) < (t.size : Int)) = false := by simp; omega
   have hw2 : IntKind.i64.wrap ((i : Int) + t.size) = i + t.size := IntWalk.i64_in _ (by omega)
   have h0 : (0 : Int) ≤ (i : Int) := by omega
   have h1 : (i : Int) ≤ (i : Int) + t.size := by omega
   have h2 : (i : Int) + t.size ≤ (s.size : Int) := by omega
   go_enter Tryz.func67, Tryz.ntmps67
   go_wp2_with fail
   go_quiet (fail)
   go_wp2_with fail
   go_ret
   refine ⟨ret_bool ?_, (by exact bdrewN (Below.refl _ _) _)⟩
   rw [str_eq, Bool.eq_iff_iff]
   simp [atD, cut, h]
 · have hd : decide ((t.size : Int) ≤ (s.size : Int) - (i : Int)) = false := by simp; omega
   have hd2 : decide ((s.size : Int) - (i : Int) < (t.size : Int)) = true := by simp; omega
   go_enter Tryz.func67, Tryz.ntmps67
   go_wp2_with fail
   go_quiet (fail)
   go_wp2_with fail
   go_ret
   refine ⟨ret_bool ?_, (by exact bdrewN (Below.refl _ _) _)⟩
   simp [atD, h]
def inL (L : List Nat) (c : Nat) : Bool := L.any fun k => decide (c = k)
theorem inL_take (L : List Nat) (c k : Nat) (h : k < L.length) : inL (L.take (k + 1)) c = (inL (L.take k) c || decide (c = L.getD k 0)) := by
 unfold inL
 rw [List.take_succ_eq_append_getElem h, List.any_append]
 simp [List.getD, h]
def IntsAt (w : World) (q : Nat) (L : List Nat) : Prop := ∀ k, k < L.length → w.cell? ⟨q, k, none⟩ = some (.int .i64 (L.getD k 0 : Nat))
theorem gr_cell {w w' : World} {b q k : Nat} {v : Value} (h : w.grownBy w' (some b)) (hne : q ≠ b) (hc : w.cell? ⟨q, k, none⟩ = some v) : w'.cell? ⟨q, k, none⟩ = some v := by
 have hl := World.block_lt_of_cell? w _ hc
 have e : w'.heap[q]? = w.heap[q]? := h.block q hl (fun e => hne (Option.some.inj e))
 unfold World.cell? at hc ⊢
 simp only at hc ⊢
 rw [e]
 exact hc
theorem gr_refl (w : World) (row : Option Nat) : w.grownBy w row := ⟨rfl, rfl, rfl, Nat.le_refl _, fun _ _ _ => rfl⟩
theorem while_any (s : ByteArray) (b q i0 : Nat) (L : List Nat) (p : Nat → Bool) (w : World) (hsc : Scan w b s i0) (hs : s.size ≤ 4000) (hi : i0 ≤ s.size) (hso : Sorts w) (hA : ∀ k, k < s.size → bt s k < 128) (hL : IntsAt w q L) (hq : q ≠ b) (hb : 1 ≠ b) (hn : L.length ≤ 4000) (hp : ∀ c, c < 128 → inL L (srt c) = p c) :
 Calls Tryz.prog 66 #[pv b, .slice (some ⟨q, 0, none⟩) L.length L.length] w fun e w' => e = .returned (.tuple #[]) ∧ Scan w' b s (whD s p i0) ∧ w.grownBy w' (some b) := by
 have HSC := lh hsc
 have HSO := lh hso
 have HL := lh hL
 have HP := lh hp
 clear hsc hso hL hp
 go_enter Tryz.func66, Tryz.ntmps66
 go_wp2_with fail
 go_loopw [] (fun wr => ∃ i : Nat, i ≤ s.size ∧ Scan wr b s i ∧ w.grownBy wr (some b) ∧ whD s p i = whD s p i0) (fun wr => s.size - atOf wr b)
 case atStart => exact ⟨i0, hi, HSC.out, gr_refl _ _, rfl⟩
 case round =>
  obtain ⟨i, hi, hsc, hgr, hst⟩ := hrel
  have r0 : wr.cell? ⟨b, 0, none⟩ = some (.string s) := blk_cell hsc 0
  have r1 : wr.cell? ⟨b, 1, none⟩ = some (.int .i64 i) := blk_cell hsc 1
  have z1 : wr.frozen? ⟨b, 1, none⟩ = false := blk_free hsc 1
  have hbl := hsc.lt
  have hat := hsc.at
  by_cases hlt : i < s.size
  · have h0 : (0 : Int) ≤ (i : Int) := by omega
    have h1 : (i : Int) < (s.size : Int) := by omega
    obtain ⟨c, hcb⟩ : ∃ c, c = bt s i := ⟨_, rfl⟩
    have hck := bt_eq hlt hcb
    have hc := hA i hlt
    rw [← hcb] at hc
    have hsr : wr.cell? ⟨1, c, none⟩ = some (.int .i64 (srt c)) := gr_cell hgr hb (HSO.out c hc)
    have HGR := lh hgr
    have HST := lh hst
    have HS := lh hsc
    have HC := lh hcb
    have HAT := lh hat
    clear hgr hst hsc hcb hat
    have c0 : (0 : Int) ≤ (c : Int) := by omega
    have c1 : (c : Int) < 128 := by omega
    go_wp2_with fail
    go_quiet (fail)
    go_wp2_with fail
    have hs1 := HS.out.drew nq
    have hg1 := gr_trans HGR.out (gr_drew wr nq (some b))
    clear HGR HS r0 r1 z1 hbl hsr
    generalize wr.drewN nq = w1 at hs1 hg1 ⊢
    have r0 : w1.cell? ⟨b, 0, none⟩ = some (.string s) := blk_cell hs1 0
    have r1 : w1.cell? ⟨b, 1, none⟩ = some (.int .i64 i) := blk_cell hs1 1
    have hsr : w1.cell? ⟨1, c, none⟩ = some (.int .i64 (srt c)) := gr_cell hg1 hb (HSO.out c hc)
    have hbl := hs1.lt
    have HS1 := lh hs1
    have HG1 := lh hg1
    clear hs1 hg1
    go_quiet (fail)
    go_wp2_with fail
    have hs2 := HS1.out.drew nq
    have hg2 := gr_trans HG1.out (gr_drew w1 nq (some b))
    clear HG1 HS1 r0 r1 hbl hsr
    generalize w1.drewN nq = w2 at hs2 hg2 ⊢
    have r0 : w2.cell? ⟨b, 0, none⟩ = some (.string s) := blk_cell hs2 0
    have r1 : w2.cell? ⟨b, 1, none⟩ = some (.int .i64 i) := blk_cell hs2 1
    have z1 : w2.frozen? ⟨b, 1, none⟩ = false := blk_free hs2 1
    have hbl : b < w2.heap.size := hs2.lt
    have HS2 := lh hs2
    have HG2 := lh hg2
    clear hs2 hg2 hck
    generalize hz : srt c = z
    have HZ := lh hz
    clear hz
    go_loop [5, 31] (fun v j => ∃ k : Nat, k ≤ L.length ∧ j = .int .i64 k ∧ v = .bool (inL (L.take k) z)) (fun _ j => L.length - (intOf j).toNat)
    case atStart => exact ⟨0, Nat.zero_le _, rfl, rfl⟩
    case round =>
     obtain ⟨k, hk, rfl, rfl⟩ := hrel
     by_cases hk2 : k < L.length
     · have hcell := gr_cell HG2.out hq (HL.out k hk2)
       have htk := inL_take L z k hk2
       generalize L.getD k 0 = g at hcell htk
       have HTK := lh htk
       clear htk
       have k0 : (0 : Int) ≤ (k : Int) := by omega
       have k1 : (k : Int) < (L.length : Int) := by omega
       cases hv : inL (L.take k) z with
       | true =>
        have HV := lh hv
        clear hv
        go_wp2_with fail
        go_round
        case rel => exact ⟨k + 1, by omega, by go_num, by rw [HTK.out, HV.out]; rfl⟩
        case measure => simp [intOf]; omega
       | false =>
        have HV := lh hv
        clear hv
        go_wp2_with fail
        go_round
        case rel => exact ⟨k + 1, by omega, by go_num, by rw [HTK.out, HV.out, Bool.false_or]; congr 1; rw [Bool.eq_iff_iff]; simp; omega⟩
        case measure => simp [intOf]; omega
     · obtain rfl : k = L.length := by omega
       have hpc := HP.out c hc
       rw [HZ.out] at hpc
       have k1 : ¬ (L.length : Int) < (L.length : Int) := by omega
       rw [List.take_length, hpc]
       have HPC := lh hpc
       clear hpc
       cases hv : p c with
       | true =>
        have hst := whD_step (s := s) (p := p) hlt (by rw [← HC.out]; exact hv)
        have HST2 := lh hst
        have hwx : IntKind.i64.wrap ((i : Int) + 1) = i + 1 := IntWalk.i64_in _ (by omega)
        clear hst
        go_wp2_with fail
        go_roundw
        case rel => exact ⟨i + 1, by omega, HS2.out.set _ _ (by push_cast; rfl), gr_trans HG2.out (gr_set _ _ _ _), by rw [← HST2.out]; exact HST.out⟩
        case measure => rw [(HS2.out.set _ (i + 1) (by push_cast; rfl)).at, HAT.out]; omega
       | false =>
        have hst := whD_stop (s := s) (p := p) hlt (by rw [← HC.out]; exact hv)
        have HST2 := lh hst
        clear hst
        go_wp2_with fail
        refine bodyPost_ret (results_none rfl _ _ _) rfl ?_
        exact ⟨rfl, by rw [← HST.out, HST2.out]; exact HS2.out, HG2.out⟩
  · have h1 : ¬ (i : Int) < (s.size : Int) := by omega
    have hend := whD_end (s := s) (p := p) (i := i) (by omega)
    rw [hend] at hst
    have HST := lh hst
    have HGR := lh hgr
    have HS := lh hsc
    clear hst hgr hsc hend hat
    have hd : decide ((i : Int) < (s.size : Int)) = false := by simp; omega
    go_wp2_with fail
    go_quiet (fail)
    go_wp2_with fail
    go_end0
    exact ⟨rfl, by rw [← HST.out]; exact HS.out.drew _, gr_trans HGR.out (gr_drew _ _ _)⟩
theorem Scan.facts {w : World} {b : Nat} {s : ByteArray} {i : Nat} (h : Scan w b s i) : w.cell? ⟨b, 0, none⟩ = some (.string s) ∧ w.cell? ⟨b, 1, none⟩ = some (.int .i64 i) ∧ w.frozen? ⟨b, 1, none⟩ = false ∧ b < w.heap.size :=
 ⟨blk_cell h 0, blk_cell h 1, blk_free h 1, h.lt⟩
theorem Sorts.gr {w w' : World} {b : Nat} (h : Sorts w) (hg : w.grownBy w' (some b)) (hb : 1 ≠ b) : Sorts w' := fun k hk => gr_cell hg hb (h k hk)
theorem ints_new (w : World) (L : List Nat) (c : Array Value) (t : TypeId) (h : c = (L.map fun (k : Nat) => (Value.int .i64 k : Value)).toArray) : IntsAt (w.alloc (.cells c t)) w.heap.size L := by
 subst h
 intro k hk
 rw [World.cell?_alloc_at _ _ _ _ rfl]
 simp [hk]
theorem whD_not (s : ByteArray) (p : Nat → Bool) (i : Nat) : whD s p i < s.size → p (bt s (whD s p i)) = false := by
 induction i using whD.induct s p with
 | case1 i h hp ih => rw [whD_step h hp]; exact ih
 | case2 i h hp => rw [whD_stop h (by simpa using hp)]; intro _; simpa using hp
 | case3 i h => rw [whD_end (by omega)]; intro h2; exact absurd h2 h
theorem has2 (s : ByteArray) (b i : Nat) (a c : UInt8) (w : World) (hsc : Scan w b s i) (hs : s.size ≤ 4000) (hi : i ≤ s.size) :
 Calls Tryz.prog 67 #[pv b, .string ⟨#[a, c]⟩] w fun e w' => e = .returned (.bool (hasD s i a.toNat c.toNat)) ∧ Below w.heap.size w w' := by
 rw [← atD_two]
 exact lhas_any s _ b i w hsc hs hi (by show 2 ≤ _; omega)
theorem has_open (s : ByteArray) (b i : Nat) (w : World) (hsc : Scan w b s i) (hs : s.size ≤ 4000) (hi : i ≤ s.size) :
 Calls Tryz.prog 67 #[pv b, .string ⟨#[40, 42]⟩] w fun e w' => e = .returned (.bool (hasD s i 40 42)) ∧ Below w.heap.size w w' := has2 s b i 40 42 w hsc hs hi
theorem has_close (s : ByteArray) (b i : Nat) (w : World) (hsc : Scan w b s i) (hs : s.size ≤ 4000) (hi : i ≤ s.size) :
 Calls Tryz.prog 67 #[pv b, .string ⟨#[42, 41]⟩] w fun e w' => e = .returned (.bool (hasD s i 42 41)) ∧ Below w.heap.size w w' := has2 s b i 42 41 w hsc hs hi
theorem wp_again {P : Program} {a : Act} {w : World} {Q : Exit → Act → World → Prop} {rest : Code} {l : Nat} (J : Act → World → Prop) (μ : Act → World → Nat) (start : J a w)
 (pass : ∀ a w, J a w → rest.wp P (Exit.jump l (fun a' w' => J a' w' ∧ μ a' w' < μ a w) Q) a w) : (Code.scope ((Code.label l).seq rest)).wp P Q a w :=
 wp_scope_jumps l J μ (by simp [findLabel]) (wp_seq (wp_label (wp_mono (pass a w start) (by
  intro e a w h
  cases e <;> first | exact h | exact ⟨h.1, h.2.1⟩)))) (fun a w h => wp_seq (wp_skip (pass a w h)))
theorem blank_sort : ∀ c, c < 128 → inL [1] (srt c) = blank c := by decide +kernel
theorem gap_any (s : ByteArray) (b i0 : Nat) (w : World) (hsc : Scan w b s i0) (hs : s.size ≤ 4000) (hi : i0 ≤ s.size) (hso : Sorts w) (hA : ∀ k, k < s.size → bt s k < 128) (hb : 1 ≠ b) :
 Calls Tryz.prog 32 #[pv b] w fun e w' => e = .returned (.bool (gapD s i0).2) ∧ Scan w' b s (gapD s i0).1 ∧ w.grownBy w' (some b) := by
 have HSC := lh hsc
 have HSO := lh hso
 clear hsc hso
 go_enter Tryz.func32, Tryz.ntmps32
 go_wp2_with fail
 refine wp_again (fun a' wr => (∃ (u1 u2 u3 u4 u5 u6 u7 u8 u9 u10 u11 u12 u13 u14 u15 u16 u17 u18 u19 u20 u21 u22 u23 u24 u25 u26 u27 u28 u29 u30 u31 u32 u33 u34 u35 u36 u37 u38 u39 u40 u41 u42 u43 u44 u45 u46 u47 u48 u49 u50 u51 u52 u53 u54 u55 u56 u57 u58 u59 u60 u61 : Value), a' = { tmps := #[pv b, u1, u2, u3, u4, u5, u6, u7, u8, u9, u10, u11, u12, u13, u14, u15, u16, u17, u18, u19, u20, u21, u22, u23, u24, u25, u26, u27, u28, u29, u30, u31, u32, u33, u34, u35, u36, u37, u38, u39, u40, u41, u42, u43, u44, u45, u46, u47, u48, u49, u50, u51, u52, u53, u54, u55, u56, u57, u58, u59, u60, u61], defers := [] }) ∧ ∃ k : Nat, k ≤ s.size ∧ Scan wr b s k ∧ w.grownBy wr (some b) ∧ gapD s k = gapD s i0) (fun _ wr => s.size - atOf wr b) ?_ ?_
 · refine ⟨⟨_, _, _, _, _, _, _, _, _, _, _, _, _, _, _, _, _, _, _, _, _, _, _, _, _, _, _, _, _, _, _, _, _, _, _, _, _, _, _, _, _, _, _, _, _, _, _, _, _, _, _, _, _, _, _, _, _, _, _, _, _, rfl⟩, i0, hi, HSC.out, gr_refl _ _, rfl⟩
 · rintro a' wr ⟨⟨u1, u2, u3, u4, u5, u6, u7, u8, u9, u10, u11, u12, u13, u14, u15, u16, u17, u18, u19, u20, u21, u22, u23, u24, u25, u26, u27, u28, u29, u30, u31, u32, u33, u34, u35, u36, u37, u38, u39, u40, u41, u42, u43, u44, u45, u46, u47, u48, u49, u50, u51, u52, u53, u54, u55, u56, u57, u58, u59, u60, u61, rfl⟩, k, hk, hsc, hgr, hc⟩
   have hat := hsc.at
   obtain ⟨r0, r1, z1, hbl⟩ := hsc.facts
   have HS := lh hsc
   have HG := lh hgr
   have HC := lh hc
   have HAT0 := lh hat
   clear hsc hgr hc hat
   go_wp2_with fail
   refine (while_any s b wr.heap.size k [1] blank _ (blk_alloc HS.out _) hs hk ((HSO.out.gr HG.out hb).gr (World.grownBy_alloc wr _ (some b)) hb) hA (ints_new wr [1] _ _ rfl) (by omega) hb (by decide) blank_sort).mono ?_
   rintro e w1 ⟨rfl, hs1, hg1⟩
   have hg1' := gr_trans (gr_trans HG.out (World.grownBy_alloc wr _ (some b))) hg1
   have hwh := whD_ge s blank k
   have hno := whD_not s blank k
   have hgw := gapD_wh (s := s) k
   rw [HC.out] at hgw
   generalize whD s blank k = k1 at hs1 hwh hno hgw
   have hk1 := hwh.2 hk
   clear r0 r1 z1 hbl hg1 HS HG
   obtain ⟨r0, r1, z1, hbl⟩ := hs1.facts
   have HS := lh hs1
   have HG := lh hg1'
   have HGW := lh hgw
   clear hs1 hg1' hgw
   go_wp2_with fail
   refine (has_open s b k1 _ HS.out hs hk1).mono ?_
   rintro e w2 ⟨rfl, hb2⟩
   have hs2 := HS.out.below hb2
   have hg2 := gr_trans HG.out (gr_below hb2 (some b))
   clear r0 r1 z1 hbl HS HG hb2
   obtain ⟨r0, r1, z1, hbl⟩ := hs2.facts
   have HS := lh hs2
   have HG := lh hg2
   clear hs2 hg2
   cases hh : hasD s k1 40 42 with
   | false =>
    have hst := gapD_stop hh hno
    rw [← HGW.out] at hst
    have HST := lh hst
    clear hst hno
    go_wp2_with fail
    simp only [Exit.jump]
    go_ret
    rw [HST.out]
    exact ⟨rfl, HS.out, HG.out⟩
   | true =>
    have HH := lh hh
    have hk2 := (hasD_pos hh).1
    clear hh hno
    go_wp2_with fail
    go_loopw [4] (fun o wr => ∃ k' q : Nat, k' ≤ s.size ∧ q ≤ k' ∧ Scan wr b s k' ∧ w.grownBy wr (some b) ∧ o = .int .i64 q ∧ ((k' = k1 ∧ q = 0) ∨ 1 ≤ q) ∧ comD s k' q = comD s k1 0) (fun _ wr => s.size - atOf wr b)
    case atStart => exact ⟨k1, 0, hk1, by omega, HS.out, HG.out, rfl, .inl ⟨rfl, rfl⟩, rfl⟩
    case round =>
     obtain ⟨k', q, hk', hq, hsc, hgr, rfl, hor, hcm⟩ := hrel
     have hat := hsc.at
     have hlw : k ≤ k1 := hwh.1
     obtain ⟨r0, r1, z1, hbl⟩ := hsc.facts
     have HS := lh hsc
     have HG := lh hgr
     have HC := lh hcm
     have HOR := lh hor
     have HAT := lh hat
     clear hsc hgr hcm hor hat
     by_cases hlt : k' < s.size
     · have hd : decide ((k' : Int) < (s.size : Int)) = true := by simp; omega
       go_wp2_with fail
       go_quiet (fail)
       go_wp2_with fail
       have hs3 := HS.out.drew nq
       have hg3 := gr_trans HG.out (gr_drew wr nq (some b))
       clear HS HG r0 r1 z1 hbl hd
       generalize wr.drewN nq = w3 at hs3 hg3 ⊢
       refine (has_open s b k' _ hs3 hs hk').mono ?_
       rintro e w4 ⟨rfl, hb4⟩
       have hs4 := hs3.below hb4
       have hg4 := gr_trans hg3 (gr_below hb4 (some b))
       clear hs3 hg3 hb4
       obtain ⟨r0, r1, z1, hbl⟩ := hs4.facts
       have HS4 := lh hs4
       have HG4 := lh hg4
       cases hb1 : hasD s k' 40 42 with
       | true =>
        have hst := comD_open (o := q) hlt hb1
        have HST := lh hst
        have hp := (hasD_pos hb1).1
        have hz : ((q : Int) + 1 == 0) = false := by simp; omega
        have hwx : IntKind.i64.wrap ((k' : Int) + 2) = k' + 2 := IntWalk.i64_in _ (by omega)
        have hwq : IntKind.i64.wrap ((q : Int) + 1) = q + 1 := IntWalk.i64_in _ (by omega)
        clear hst hs4 hg4 hb1
        go_wp2_with fail
        go_roundw
        case rel => exact ⟨k' + 2, q + 1, by omega, by omega, HS4.out.set _ _ (by push_cast; rfl), gr_trans HG4.out (gr_set _ _ _ _), by push_cast; rfl, .inr (by omega), by rw [← HST.out]; exact HC.out⟩
        case measure => rw [(HS4.out.set _ (k' + 2) (by push_cast; rfl)).at, HAT.out]; omega
       | false =>
        have hq1 : 1 ≤ q := by
         rcases HOR.out with ⟨rfl, _⟩ | h
         · have := HH.out; rw [hb1] at this; cases this
         · exact h
        have HB1 := lh hb1
        clear hs4 hg4 hb1
        go_wp2_with fail
        refine (has_close s b k' _ HS4.out hs hk').mono ?_
        rintro e w5 ⟨rfl, hb5⟩
        have hs5 := HS4.out.below hb5
        have hg5 := gr_trans HG4.out (gr_below hb5 (some b))
        clear HS4 HG4 r0 r1 z1 hbl hb5
        obtain ⟨r0, r1, z1, hbl⟩ := hs5.facts
        have HS5 := lh hs5
        have HG5 := lh hg5
        clear hs5 hg5
        cases he : hasD s k' 42 41 with
        | true =>
         have hst := comD_close (o := q) hlt he
         have hp := (hasD_pos he).1
         have hwx : IntKind.i64.wrap ((k' : Int) + 2) = k' + 2 := IntWalk.i64_in _ (by omega)
         have hwq : IntKind.i64.wrap ((q : Int) - 1) = q - 1 := IntWalk.i64_in _ (by omega)
         clear he
         by_cases h1 : q = 1
         · subst h1
           rw [if_pos rfl, HC.out] at hst
           have hgc := gapD_com HH.out hst
           have hlt2 := comD_lt _ _ hst
           have HGC := lh hgc
           clear hst hgc
           go_wp2_with fail
           go_step3
           simp only [Exit.then, Exit.inBlock, Exit.jump]
           refine ⟨rfl, ⟨⟨_, _, _, _, _, _, _, _, _, _, _, _, _, _, _, _, _, _, _, _, _, _, _, _, _, _, _, _, _, _, _, _, _, _, _, _, _, _, _, _, _, _, _, _, _, _, _, _, _, _, _, _, _, _, _, _, _, _, _, _, _, rfl⟩, k' + 2, by omega, HS5.out.set _ _ (by push_cast; rfl), gr_trans HG5.out (gr_set _ _ _ _), by rw [← HGC.out, ← HGW.out]⟩, ?_⟩
           rw [(HS5.out.set _ (k' + 2) (by push_cast; rfl)).at, HAT0.out]; omega
         · have hz : ((q : Int) - 1 == 0) = false := by simp; omega
           rw [if_neg h1] at hst
           have HST := lh hst
           have H1 := lh h1
           clear h1 hst
           go_wp2_with fail
           go_roundw
           case rel => exact ⟨k' + 2, q - 1, by omega, by omega, HS5.out.set _ _ (by push_cast; rfl), gr_trans HG5.out (gr_set _ _ _ _), by rw [show ((q - 1 : Nat) : Int) = (q : Int) - 1 from by omega], .inr (by have := H1.out; omega), by rw [← HST.out]; exact HC.out⟩
           case measure => rw [(HS5.out.set _ (k' + 2) (by push_cast; rfl)).at, HAT.out]; omega
        | false =>
         have hst := comD_else (o := q) hlt HB1.out he
         rw [if_neg (by omega)] at hst
         have HST := lh hst
         have hz : ((q : Int) == 0) = false := by simp; omega
         have hwx : IntKind.i64.wrap ((k' : Int) + 1) = k' + 1 := IntWalk.i64_in _ (by omega)
         clear hst he
         go_wp2_with fail
         go_roundw
         case rel => exact ⟨k' + 1, q, by omega, by omega, HS5.out.set _ _ (by push_cast; rfl), gr_trans HG5.out (gr_set _ _ _ _), rfl, .inr hq1, by rw [← HST.out]; exact HC.out⟩
         case measure => rw [(HS5.out.set _ (k' + 1) (by push_cast; rfl)).at, HAT.out]; omega
     · have hd : decide ((k' : Int) < (s.size : Int)) = false := by simp; omega
       have hst := comD_end (s := s) (i := k') (o := q) (by omega)
       rw [HC.out] at hst
       have hgb := gapD_bad HH.out hst
       rw [← HGW.out] at hgb
       have HST := lh hgb
       clear hst hgb
       go_wp2_with fail
       go_quiet (fail)
       go_wp2_with fail
       simp only [Exit.jump]
       go_ret
       rw [HST.out]
       exact ⟨rfl, (HS.out.drew _).set _ _ rfl, gr_trans (gr_trans HG.out (gr_drew _ _ _)) (gr_set _ _ _ _)⟩
end Go.Proofs.YthehjeeiodbkjaaGreatDoor
