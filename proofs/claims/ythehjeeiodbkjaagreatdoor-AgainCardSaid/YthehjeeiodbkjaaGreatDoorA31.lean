/-
  Proved: the tokens that the lexer tells are names, numbers and strings by themselves; no reader goes beyond the last token; no fault has the kind 0; with fewer levels left, the same is read, or it is too deep. Conditions: where the lexer has no fault, the last token is the end.
-/
import Derived.Test.YthehjeeiodbkjaaGreatDoorA01
import Derived.Test.YthehjeeiodbkjaaGreatDoorA26
import Derived.Test.YthehjeeiodbkjaaGreatDoorA25
import Derived.Test.YthehjeeiodbkjaaGreatDoorA05
set_option linter.unusedSimpArgs false
set_option linter.unusedVariables false
set_option linter.unusedSectionVars false
set_option maxRecDepth 100000
set_option maxHeartbeats 16000000
namespace Go.Proofs.YthehjeeiodbkjaaGreatDoor
open Go.RowKit
theorem cut_sizz {s : ByteArray} {i j : Nat} (h : j ≤ s.size) : (cut s i j).size = j - i := by
 unfold cut
 rw [ByteArray.size_extract]; omega
theorem cut_bt {s : ByteArray} {i j k : Nat} (h : j ≤ s.size) (hk : k < j - i) : bt (cut s i j) k = bt s (i + k) := by
 unfold bt cut
 rw [ByteArray.data_extract, Array.toList_extract, List.extract_eq_take_drop, List.getD_eq_getElem?_getD, List.getElem?_take_of_lt hk, List.getElem?_drop, ← List.getD_eq_getElem?_getD]
theorem cut_all (s : ByteArray) : cut s 0 s.size = s := by
 unfold cut; simp
theorem whD_in {s : ByteArray} {p : Nat → Bool} (i : Nat) : ∀ k, i ≤ k → k < whD s p i → p (bt s k) = true := by
 induction i using whD.induct s p with
 | case1 i h hp ih =>
  intro k h1 h2
  rw [whD_step h hp] at h2
  by_cases e : k = i
  · rw [e]; exact hp
  · exact ih k (by omega) h2
 | case2 i h hp => intro k h1 h2; rw [whD_stop h (by simpa using hp)] at h2; omega
 | case3 i h => intro k h1 h2; rw [whD_end (by omega)] at h2; omega
theorem whD_to {s : ByteArray} {p : Nat → Bool} (i : Nat) : i ≤ s.size → (∀ k, i ≤ k → k < s.size → p (bt s k) = true) → whD s p i = s.size := by
 induction i using whD.induct s p with
 | case1 i h hp ih => intro h0 hk; rw [whD_step h hp]; exact ih (by omega) fun k h1 h2 => hk k (by omega) h2
 | case2 i h hp => intro h0 hk; exact absurd (hk i (by omega) h) hp
 | case3 i h => intro h0 hk; rw [whD_end (by omega)]; omega
theorem varD_in {s : ByteArray} {f : Nat} (i : Nat) : ∀ k, i ≤ k → k < varD s f i → (small (bt s k) || (decide (f < k) && dig (bt s k))) = true := by
 induction i using varD.induct s f with
 | case1 i h hp ih =>
  intro k h1 h2
  rw [varD_step h hp] at h2
  by_cases e : k = i
  · rw [e]; exact hp
  · exact ih k (by omega) h2
 | case2 i h hp => intro k h1 h2; rw [varD_stop (fun _ => by simpa using hp)] at h2; omega
 | case3 i h => intro k h1 h2; rw [varD_stop (fun h3 => absurd h3 h)] at h2; omega
theorem varD_to {s : ByteArray} {f : Nat} (i : Nat) : i ≤ s.size → (∀ k, i ≤ k → k < s.size → (small (bt s k) || (decide (f < k) && dig (bt s k))) = true) → varD s f i = s.size := by
 induction i using varD.induct s f with
 | case1 i h hp ih => intro h0 hk; rw [varD_step h hp]; exact ih (by omega) fun k h1 h2 => hk k (by omega) h2
 | case2 i h hp => intro h0 hk; exact absurd (hk i (by omega) h) hp
 | case3 i h => intro h0 hk; rw [varD_stop (fun h3 => absurd h3 h)]; omega
theorem inName_ok {c : Nat} (h : inName c = true) : okB c = true := by
 simp [inName, dig, small, great] at h
 simp [okB]; omega
theorem size_get {s : ByteArray} {b : UInt8} (h : b ∈ s.data.toList) : ∃ k, k < s.size ∧ bt s k = b.toNat := by
 obtain ⟨k, hk, e⟩ := List.mem_iff_getElem.1 h
 refine ⟨k, by rw [← sizeL]; exact hk, ?_⟩
 unfold bt
 rw [List.getD_eq_getElem?_getD, List.getElem?_eq_getElem hk, e]; rfl
structure Gtk (t : Tok) : Prop where
 lo : t.1 = 3 → Nm 3 t.2.2.1
 up : t.1 = 4 → Nm 4 t.2.2.1
 va : t.1 = 5 → Nm 5 t.2.2.1
 num : t.1 = 1 → t.2.2.2 ≤ 1000000000
 str : t.1 = 2 → t.2.2.1.size ≤ 200
 sz : t.2.2.1.size ≤ 4000
theorem nm_name {s : ByteArray} {i : Nat} (hi : i < s.size) (h : (small (bt s i) || great (bt s i) || decide (bt s i = 95)) = true) (hl : whD s inName i - i ≤ 20) (k : Nat) (hk : k = (if cut s i (whD s inName i) = ⟨#[95]⟩ then 7 else if isWordD (cut s i (whD s inName i)) then 6 else if great (bt s i) then 4 else 3)) : Wt (cut s i (whD s inName i)) k (cut s i (whD s inName i)) 0 ∧ 0 < (cut s i (whD s inName i)).size ∧ ∀ b ∈ (cut s i (whD s inName i)).data.toList, inName b.toNat = true := by
 have hin : inName (bt s i) = true := by
  simp at h
  rcases h with (h | h) | h <;> simp [inName, h]
 have hw := whD_ge s inName i
 have hw1 : i < whD s inName i := by
  rw [whD_step hi hin]
  have := (whD_ge s inName (i + 1)).1
  omega
 have hw2 := hw.2 (by omega)
 have ha := whD_in (s := s) (p := inName) i
 generalize whD s inName i = j at *
 obtain ⟨u, hu⟩ : ∃ u, u = cut s i j := ⟨_, rfl⟩
 have hs : u.size = j - i := by rw [hu]; exact cut_sizz hw2
 have hb : ∀ m, m < u.size → bt u m = bt s (i + m) := fun m hm => by rw [hu]; exact cut_bt hw2 (by omega)
 rw [← hu] at hk ⊢
 have h0 : bt u 0 = bt s i := hb 0 (by omega)
 have hall : ∀ m, m < u.size → inName (bt u m) = true := fun m hm => by rw [hb m hm]; exact ha _ (by omega) (by omega)
 have h00 : (97 ≤ bt u 0 ∧ bt u 0 ≤ 122 ∨ 65 ≤ bt u 0 ∧ bt u 0 ≤ 90) ∨ bt u 0 = 95 := by rw [h0]; simpa [small, great] using h
 refine ⟨?_, by omega, ?_⟩
 · refine lex_one (by omega) (by omega) (fun m hm => inName_ok (hall m hm)) ?_ ?_ ?_
   · simp [hasD]; omega
   · simp [blank]; omega
   · unfold tokD
     rw [if_neg (by simp [dig]; omega), if_neg (by omega), if_neg (by omega), if_pos (by rw [h0]; exact h), whD_to 0 (by omega) (fun m _ hm => hall m hm)]
     simp only
     rw [if_pos (by omega), cut_all, hk, h0]
 · intro b hbm
   obtain ⟨m, hm, e⟩ := size_get hbm
   rw [← e]; exact hall m hm
theorem nm_var {s : ByteArray} {i f : Nat} (hi : i < s.size) (h : bt s i = 39) (hf : f = if tokD.hasQ s (i + 1) then i + 2 else i + 1) (hl : f < varD s f f ∧ varD s f f - f ≤ 20) : Nm 5 (cut s i (varD s f f)) := by
 have hf2 : i < f ∧ f ≤ i + 2 := by rw [hf]; split <;> omega
 have hfs : f ≤ s.size := by
  rw [hf]; split
  · rename_i hq; simp [tokD.hasQ] at hq; omega
  · omega
 have hv := (varD_ge (s := s) f f).2 hfs
 have ha := varD_in (s := s) (f := f) f
 generalize varD s f f = j at *
 obtain ⟨u, hu⟩ : ∃ u, u = cut s i j := ⟨_, rfl⟩
 have hs : u.size = j - i := by rw [hu]; exact cut_sizz hv
 have hb : ∀ m, m < u.size → bt u m = bt s (i + m) := fun m hm => by rw [hu]; exact cut_bt hv (by omega)
 rw [← hu]
 have h0 : bt u 0 = 39 := by rw [hb 0 (by omega)]; exact h
 have hq : tokD.hasQ u 1 = tokD.hasQ s (i + 1) := by
  unfold tokD.hasQ
  rw [hb 1 (by omega), decide_eq_decide]
  constructor <;> rintro ⟨h1, h2⟩ <;> exact ⟨by omega, h2⟩
 have hfu : (if tokD.hasQ u 1 then 2 else 1) = f - i := by rw [hq, hf]; split <;> omega
 have hall : ∀ m, f - i ≤ m → m < u.size → (small (bt u m) || (decide (f - i < m) && dig (bt u m))) = true := by
  intro m h1 hm
  have h2 := ha (i + m) (by omega) (by omega)
  rw [hb m hm, show decide (f - i < m) = decide (f < i + m) by rw [decide_eq_decide]; omega]
  exact h2
 have hlow : ∀ m, m < f - i → bt u m = 39 := by
  intro m hm
  by_cases e : m = 0
  · rw [e]; exact h0
  · have e1 : m = 1 := by omega
    have hq1 : tokD.hasQ s (i + 1) = true := by
     cases hc : tokD.hasQ s (i + 1) with
     | true => rfl
     | false => rw [hc] at hf; simp at hf; omega
    simp [tokD.hasQ] at hq1
    rw [e1, hb 1 (by omega)]; exact hq1.2
 have hin : ∀ m, m < u.size → inName (bt u m) = true := by
  intro m hm
  by_cases e : m < f - i
  · rw [hlow m e]; rfl
  · have := hall m (by omega) hm
    simp at this
    rcases this with h | ⟨_, h⟩ <;> simp [inName, h]
 refine ⟨?_, by omega, ?_⟩
 · refine lex_one (by omega) (by omega) (fun m hm => inName_ok (hin m hm)) ?_ ?_ ?_
   · simp [hasD]; omega
   · rw [h0]; rfl
   · unfold tokD
     rw [if_neg (by rw [h0]; decide), if_neg (by omega), if_pos h0]
     simp only [Nat.zero_add]
     rw [hfu, varD_to (f - i) (by omega) hall, if_pos (by omega), cut_all]
 · intro b hbm
   obtain ⟨m, hm, e⟩ := size_get hbm
   rw [← e]; exact hin m hm
theorem kind4 (a b c : Prop) [Decidable a] [Decidable b] [Decidable c] : 2 < (if a then 7 else if b then 6 else if c then 4 else 3) ∧ (if a then 7 else if b then 6 else if c then 4 else 3) ≠ 5 := by
 by_cases ha : a <;> by_cases hb : b <;> by_cases hc : c <;> simp [ha, hb, hc]
theorem tokD_good {s : ByteArray} {i : Nat} (hs : s.size ≤ 4000) (hi : i < s.size) {t : Tok} {j : Nat} (h : tokD s i = some (t, j)) : Gtk t := by
 have hc : ∀ a b, (cut s a b).size ≤ 4000 := by intro a b; unfold cut; rw [ByteArray.size_extract]; omega
 unfold tokD at h
 split at h
 · split at h
   · cases h; exact ⟨by simp, by simp, by simp, fun _ => by assumption, by simp, by simp⟩
   · cases h
 split at h
 · split at h
   · rename_i b j2 ht
     cases h
     have := (textD_lt _ _ ht).2.2
     refine ⟨by simp, by simp, by simp, by simp, fun _ => by rw [sizeA]; omega, by rw [sizeA]; omega⟩
   · cases h
 split at h
 · rename_i h3
   have hgo : ∀ f, f = (if tokD.hasQ s (i + 1) then i + 2 else i + 1) → (if f < varD s f f ∧ varD s f f - f ≤ 20 then some (((5, i, cut s i (varD s f f), 0) : Tok), varD s f f) else none) = some (t, j) → Gtk t := by
    intro f hf hq
    by_cases h4 : f < varD s f f ∧ varD s f f - f ≤ 20
    · rw [if_pos h4] at hq
      cases hq
      exact ⟨by simp, by simp, fun _ => nm_var hi h3 hf h4, by simp, by simp, hc _ _⟩
    · rw [if_neg h4] at hq; cases hq
   exact hgo _ rfl h
 split at h
 · rename_i h4
   simp only at h
   split at h
   · rename_i h5
     have hn := nm_name hi h4 h5 _ rfl
     cases h
     refine ⟨fun e => ?_, fun e => ?_, fun e => ?_, fun e => ?_, fun e => ?_, hc _ _⟩
     · simp only at e; rw [e] at hn; exact ⟨hn.1, hn.2.1, hn.2.2⟩
     · simp only at e; rw [e] at hn; exact ⟨hn.1, hn.2.1, hn.2.2⟩
     all_goals (exfalso; simp only at e; have h9 := kind4 (cut s i (whD s inName i) = ⟨#[95]⟩) (isWordD (cut s i (whD s inName i)) = true) (great (bt s i) = true); omega)
   · cases h
 split at h
 · cases h; exact ⟨by simp, by simp, by simp, by simp, by simp, hc _ _⟩
 split at h
 · cases h; exact ⟨by simp, by simp, by simp, by simp, by simp, hc _ _⟩
 · cases h
theorem toksD_good {s : ByteArray} (hs : s.size ≤ 4000) (i : Nat) (l : List Tok) : i ≤ s.size → (∀ t ∈ l, Gtk t) → ∀ t ∈ (toksD s i l).1, Gtk t := by
 obtain ⟨m, hm⟩ : ∃ m, m = s.size - i := ⟨_, rfl⟩
 induction m using Nat.strongRecOn generalizing i l with
 | ind m IH =>
  intro hi hl
  have hge := gapD_ge (s := s) i hi
  cases hg : gapD s i with
  | mk k ok =>
   rw [hg] at hge
   simp only at hge
   cases ok with
   | false => rw [toksD_bad hg]; exact hl
   | true =>
    by_cases hk : k = s.size
    · subst hk
      rw [toksD_end hg]
      intro t ht
      rcases List.mem_append.1 ht with ht | ht
      · exact hl t ht
      · rw [List.mem_singleton.1 ht]; exact ⟨by simp, by simp, by simp, by simp, by simp, by simp⟩
    · cases ht : tokD s k with
      | none => rw [toksD_none hg hk ht]; exact hl
      | some r =>
       obtain ⟨tk, z⟩ := r
       have hz := tokD_lt (by omega) ht
       rw [toksD_some hi hg hk ht]
       refine IH (s.size - z) (by omega) z _ rfl hz.2 ?_
       intro t h1
       rcases List.mem_append.1 h1 with h1 | h1
       · exact hl t h1
       · rw [List.mem_singleton.1 h1]; exact tokD_good hs (by omega) ht
theorem lex_good (s : ByteArray) : ∀ t ∈ (lexD s).1, Gtk t := by
 unfold lexD
 split
 · simp
 · rename_i h
   split
   · simp
   · exact toksD_good (by omega) 0 [] (by omega) (by simp)
theorem good_src {P : Src} (h : ∀ t ∈ P.toks, Gtk t) : GoodT P ∧ ∀ i, (P.T i).size ≤ 4000 := by
 have hg : ∀ i : Nat, (∃ t : Tok, P.toks[i]? = some t ∧ Gtk t) ∨ P.toks[i]? = none := by
  intro i
  cases e : P.toks[i]? with
  | none => exact .inr rfl
  | some t => exact .inl ⟨t, rfl, h t (List.mem_iff_getElem?.2 ⟨i, e⟩)⟩
 refine ⟨⟨?_, ?_, ?_, ?_, ?_⟩, ?_⟩ <;> intro i <;> rcases hg i with ⟨t, e, g⟩ | e <;> simp only [Src.K, Src.T, Src.N, e]
 · intro h; exact g.lo (by omega)
 · intro h; omega
 · intro h; exact g.up (by omega)
 · intro h; omega
 · intro h; exact g.va (by omega)
 · intro h; omega
 · intro h; exact g.num (by omega)
 · intro h; omega
 · intro h; exact g.str (by omega)
 · intro h; omega
 · exact g.sz
 · decide
def In (P : Src) (i : Nat) : Prop := P.fk ≠ 0 ∨ i + 1 ≤ P.toks.length
def EndOk (P : Src) : Prop := P.fk = 0 → ∀ i, i + 1 = P.toks.length → P.K i = 0
def Z (P : Src) {α : Type} : Res α → Prop
 | .ok _ j => In P j
 | .bad k _ => k ≠ 0
def Sz (P : Src) {α : Type} (m : M α) : Prop := ∀ i, In P i → Z P (m i)
section
variable {P : Src}
theorem Z.ok {α : Type} {x : α} {j : Nat} (h : In P j) : Z P (.ok x j) := h
theorem Z.fail {α : Type} {e i : Nat} (h : In P i) (he : e ≠ 0) : Z P (failD (α := α) P e i) := by
 unfold failD
 by_cases c : P.K i = -1
 · rw [if_pos c]
   rcases h with h | h
   · exact h
   · exfalso
     unfold Src.K at c
     rw [List.getElem?_eq_getElem (by omega)] at c
     simp at c
 · rw [if_neg c]; exact he
theorem Z.ite {α : Type} {c : Prop} [Decidable c] {r s : Res α} (h1 : c → Z P r) (h2 : ¬ c → Z P s) : Z P (if c then r else s) := by
 by_cases h : c
 · rw [if_pos h]; exact h1 h
 · rw [if_neg h]; exact h2 h
theorem Z.iteM {α : Type} {c : Prop} [Decidable c] {r s : M α} {j : Nat} (h1 : c → Z P (r j)) (h2 : ¬ c → Z P (s j)) : Z P ((if c then r else s) j) := by
 by_cases h : c
 · rw [if_pos h]; exact h1 h
 · rw [if_neg h]; exact h2 h
theorem Z.bind {α β : Type} {m : M α} {f : α → M β} {i : Nat} (hm : Z P (m i)) (h : ∀ x j, In P j → Z P (f x j)) : Z P ((m >>= f) i) := by
 cases hx : m i with
 | bad a n => rw [bind_bad hx]; rw [hx] at hm; exact hm
 | ok x j => rw [bind_ok hx]; rw [hx] at hm; exact h x j hm
variable (HE : EndOk P)
include HE
theorem in_next {i : Nat} (h : In P i) (hk : 1 ≤ P.K i) : In P (i + 1) := by
 rcases h with h | h
 · exact .inl h
 · by_cases e : P.fk = 0
   · by_cases e2 : i + 1 = P.toks.length
     · have := HE e i e2; omega
     · exact .inr (by omega)
   · exact .inl e
theorem in_is {i : Nat} {s : ByteArray} (c : isD P s i = true) (h : In P i) : In P (i + 1) := by
 unfold isD at c; simp at c
 exact in_next HE h (by omega)
theorem in_one {i : Nat} {l : List ByteArray} (c : oneD P l i = true) (h : In P i) : In P (i + 1) := by
 unfold oneD at c
 simp only [Bool.and_eq_true, decide_eq_true_eq] at c
 exact in_next HE h (by omega)
theorem in_or {i : Nat} {s t : ByteArray} (c : isD P s i = true ∨ isD P t i = true) (h : In P i) : In P (i + 1) := c.elim (fun c => in_is HE c h) (fun c => in_is HE c h)
theorem in_k {i : Nat} {k : Int} (c : P.K i = k) (h : In P i) (hk : 1 ≤ k := by decide) : In P (i + 1) := in_next HE h (by omega)
end
theorem zinL {p : Prop} (h : p := by first | assumption | exact in_is (by assumption) (by assumption) (by assumption) | exact in_or (by assumption) (by assumption) (by assumption) | exact in_k (by assumption) (by assumption) (by assumption) | exact in_one (by assumption) (by assumption) (by assumption)) : p := h
section
variable {P : Src} (HE : EndOk P)
include HE
theorem sz_kind (k : Int) (hk : 1 ≤ k := by decide) : Sz P (kindD P k) := fun i h => by
 unfold kindD
 exact Z.ite (fun c => in_k HE c h hk) (fun _ => Z.fail h (by decide))
theorem sz_must (s : ByteArray) : Sz P (mustD P s) := fun i h => by
 unfold mustD
 exact Z.ite (fun c => in_is HE c h) (fun _ => Z.fail h (by decide))
theorem sz_eat (s : ByteArray) : Sz P (eatD P s) := fun i h => by
 unfold eatD
 exact Z.ite (fun c => in_is HE c h) (fun _ => h)
theorem sz_pathL (last : Nat) : ∀ (f : Nat) (s : ByteArray), Sz P (pathL P last f s)
 | 0, s => fun i h => Z.fail h (by decide)
 | f + 1, s => fun i h => by
  show Z P (if P.K i = 3 ∧ last ≠ 4 then Res.ok (s ++ P.T i, 3) (i + 1) else if P.K i ≠ 4 then failD P 4 i else if isD P s_dot (i + 1) = true then pathL P last f (s ++ P.T i ++ s_dot) (i + 2) else if last = 3 then failD P 4 (i + 1) else .ok (s ++ P.T i, 4) (i + 1))
  refine Z.ite (fun c => in_k HE c.1 h) (fun _ => Z.ite (fun _ => Z.fail h (by decide)) (fun c => ?_))
  have h1 := in_k HE (Decidable.not_not.1 c) h
  exact Z.ite (fun c => sz_pathL last f _ _ (in_is HE c h1)) (fun _ => Z.ite (fun _ => Z.fail h1 (by decide)) (fun _ => h1))
theorem sz_path (last : Nat) : Sz P (pathD P last) := sz_pathL HE last _ _
omit HE in
theorem sz_many {α : Type} (c : Nat → Bool) {item : M α} (h : ∀ i, In P i → c i = true → Z P (item i)) : ∀ (f : Nat) (acc : List α), Sz P (manyL c item f acc)
 | 0, acc => fun i hi => hi
 | f + 1, acc => fun i hi => by
  show Z P (if c i = true then (item >>= fun x => manyL c item f (acc ++ [x])) i else .ok acc i)
  exact Z.ite (fun e => Z.bind (h i hi e) fun x j hj => sz_many c h f _ j hj) (fun _ => hi)
theorem sz_sep {α : Type} {item : M α} (s : ByteArray) (h : Sz P item) : ∀ (f : Nat) (acc : List α), Sz P (sepL P item s f acc)
 | 0, acc => fun i hi => hi
 | f + 1, acc => fun i hi => by
  show Z P (if isD P s i = true then (item >>= fun x => sepL P item s f (acc ++ [x])) (i + 1) else .ok acc i)
  exact Z.ite (fun e => Z.bind (h _ (in_is HE e hi)) fun x j hj => sz_sep s h f _ j hj) (fun _ => hi)
theorem sz_row {α : Type} {item : M α} (s : ByteArray) (h : Sz P item) : Sz P (rowD P item s) := fun i hi => by
 show Z P ((item >>= fun x => sepL P item s (P.toks.length + 1) [x]) i)
 exact Z.bind (h i hi) fun x j hj => sz_sep HE s h _ _ j hj
end
structure RZ (P : Src) (R : Rec) : Prop where
 go : ∀ nt, nt ≠ .dec → Sz P (R.go nt)
 dec : ∀ w i, In P i → oneD P (startsL w) i = true → Z P (R.go .dec i)
 deep : Sz P R.deep
theorem zzL {p : Prop} (h : p := by repeat' first | assumption | exact Z.fail zinL (by decide) | exact Z.ok zinL | exact Z.ret zinL | exact Z.pure zinL | (refine Z.ite (fun _ => ?_) (fun _ => ?_)) | (refine Z.iteM (fun _ => ?_) (fun _ => ?_)) | (refine Z.bind (by first | exact sz_kind (by assumption) _ (by decide) _ zinL | exact sz_must (by assumption) _ _ zinL | exact sz_eat (by assumption) _ _ zinL | exact sz_path (by assumption) _ _ zinL | assumption | exact (by assumption : Sz _ _) _ zinL | exact RZ.go (by assumption) _ (by intro h; cases h) _ zinL | exact RZ.deep (by assumption) _ zinL | exact sz_row (by assumption) _ (by first | assumption | exact RZ.go (by assumption) _ (by intro h; cases h)) _ zinL) (fun _ _ _ => ?_)) | exact RZ.go (by assumption) _ (by intro h; cases h) _ zinL) : p := h
section
variable (P : Src) (R : Rec) (HE : EndOk P) (HR : RZ P R)
include HE HR
theorem sz_appL (a : Nat) : ∀ (f : Nat) (l : List Ty), Sz P (appL P a f l)
 | 0, l => fun i h => Z.fail h (by decide)
 | f + 1, l => fun i h => by
  show Z P (if l.length ≠ 1 ∨ P.K i = 3 ∨ P.K i = 4 then (pathD P 3 >>= fun p => appL P a f [.mk 31 a p.1 0 l]) i else .ok (l.headD default) i)
  exact Z.ite (fun _ => Z.bind (sz_path HE 3 i h) fun p j hj => sz_appL a f _ j hj) (fun _ => h)
theorem sz_applied : Sz P (appliedB P R) := fun i hi => by
 unfold appliedB
 refine Z.ite (fun c => sz_appL P R HE HR _ _ _ _ (in_k HE c hi)) (fun _ => Z.ite (fun c => ?_) (fun _ => sz_appL P R HE HR _ _ _ _ hi))
 exact Z.bind (sz_row HE s_com (HR.go .typ (by intro h; cases h)) _ (in_is HE c hi)) fun l j hj => Z.bind (sz_must HE _ _ hj) fun _ k hk => sz_appL P R HE HR _ _ _ _ hk
theorem sz_arrow : Sz P (arrowB P R) := fun i hi => by
 have h := sz_applied P R HE HR
 unfold arrowB
 exact zzL
theorem sz_roundPat (a : Nat) : Sz P (roundPatB P R a) := fun i hi => by
 unfold roundPatB
 refine Z.ite (fun c => in_is HE c hi) (fun _ => Z.ite (fun c => ?_) (fun _ => ?_))
 · have h2 : In P (i + 2) := in_k HE c.2.1 (in_k HE c.1 hi)
   exact zzL
 · exact zzL
theorem sz_apat : Sz P (apatB P R) := fun i hi => by
 unfold apatB
 refine Z.ite (fun c => in_is HE c hi) (fun _ => Z.ite (fun c => in_k HE c hi) (fun _ => Z.ite (fun c => in_k HE c hi) (fun _ => Z.ite (fun c => ?_) (fun _ => Z.ite (fun c => in_k HE c hi) (fun _ => Z.ite (fun c => ?_) (fun _ => Z.ite (fun c => in_or HE c hi) (fun _ => Z.ite (fun c => ?_) (fun _ => Z.ite (fun c => ?_) (fun _ => Z.fail hi (by decide))))))))))
 · have h1 := in_is HE c hi
   exact Z.ite (fun c => in_k HE c h1) (fun _ => Z.fail h1 (by decide))
 · exact zzL
 · have h1 := in_is HE c hi
   exact zzL
 · exact sz_roundPat P R HE HR _ _ (in_is HE c hi)
theorem sz_cpat : Sz P (cpatB P R) := fun i hi => by
 have h := sz_apat P R HE HR
 unfold cpatB
 refine Z.bind (h i hi) fun n j hj => ?_
 exact zzL
theorem sz_pat : Sz P (patB P R) := fun i hi => by
 have h := sz_cpat P R HE HR
 unfold patB
 exact zzL
theorem sz_decs (k : Nat) : Sz P (decsB P R k) := sz_many _ (fun i h1 h2 => HR.dec k i h1 h2) _ _
theorem sz_con : Sz P (conB P R) := fun i hi => by
 unfold conB
 exact zzL
theorem sz_one : Sz P (oneB P) := fun i hi => by
 unfold oneB
 exact zzL
theorem sz_head (k : Int) (a : Nat) : Sz P (headB P k a) := fun i hi => by
 have h := sz_one P R HE HR
 unfold headB
 exact zzL
theorem sz_dbind : Sz P (dbindB P R) := fun i hi => by
 have h := sz_con P R HE HR
 have h2 := sz_head P R HE HR 39 (P.A i)
 unfold dbindB
 refine Z.bind (h2 i hi) fun n j hj => ?_
 exact zzL
theorem sz_data (a : Nat) : Sz P (dataB P R a) := fun i hi => by
 have h := sz_dbind P R HE HR
 unfold dataB
 exact zzL
theorem sz_fbind : Sz P (fbindB P R) := fun i hi => by
 have h := sz_apat P R HE HR
 unfold fbindB
 refine Z.bind (sz_kind HE 3 (by decide) i hi) fun s j hj => Z.bind (h j hj) fun p j2 hj2 => Z.bind (sz_many _ (fun i h1 _ => h i h1) _ _ j2 hj2) fun l j3 hj3 => ?_
 exact zzL
theorem sz_body : Sz P (bodyB P R) := fun i hi => by
 have h := sz_decs P R HE HR 1
 unfold bodyB
 exact zzL
theorem sz_ann : Sz P (annB P R) := fun i hi => by
 unfold annB
 exact zzL
theorem sz_structure (a : Nat) : Sz P (structureB P R a) := fun i hi => by
 have h := sz_body P R HE HR
 have h2 := sz_ann P R HE HR
 unfold structureB
 refine Z.bind (sz_kind HE 4 (by decide) i hi) fun s j hj => Z.bind (h2 j hj) fun g j2 hj2 => Z.bind (sz_must HE _ _ hj2) fun _ j3 hj3 => Z.bind (h j3 hj3) fun b j4 hj4 => hj4
theorem sz_dec (i : Nat) (hi0 : In P i) (w : Nat) (c : oneD P (startsL w) i = true) : Z P (decB P R i) := by
 have hi := in_one HE c hi0
 have h1 := sz_fbind P R HE HR
 have h2 := sz_data P R HE HR (P.A i) (i + 1) hi
 have h3 := sz_con P R HE HR (i + 1) hi
 have h4 := sz_structure P R HE HR (P.A i) (i + 1) hi
 have h5 := sz_head P R HE HR 37 (P.A i) (i + 1) hi
 unfold decB
 exact zzL
theorem sz_spec : Sz P (specB P R) := fun i hi => by
 have h2 := sz_data P R HE HR (P.A i)
 have h3 := sz_con P R HE HR
 have h5 := sz_head P R HE HR 50 (P.A i)
 unfold specB
 refine Z.ite (fun _ => ?_) (fun _ => Z.ite (fun _ => ?_) (fun _ => Z.ite (fun c => h2 _ (in_is HE c hi)) (fun _ => Z.ite (fun _ => ?_) (fun _ => Z.ite (fun _ => ?_) (fun _ => Z.fail hi (by decide))))))
 · exact zzL
 · exact zzL
 · exact zzL
 · exact zzL
theorem sz_specs : ∀ (f : Nat) (acc : List Ty), Sz P (specsL P R f acc)
 | 0, acc => fun i hi => hi
 | f + 1, acc => fun i hi => by
  show Z P (if isD P w_end i = true then .ok acc (i + 1) else (specB P R >>= fun x => specsL P R f (acc ++ [x])) i)
  exact Z.ite (fun c => in_is HE c hi) (fun _ => Z.bind (sz_spec P R HE HR i hi) fun x j hj => sz_specs f _ j hj)
theorem sz_sigs : Sz P (sigsB P R) := fun i hi => by
 have h := sz_specs P R HE HR (P.toks.length + 1) []
 unfold sigsB
 exact zzL
theorem sz_rule : Sz P (ruleB P R) := fun i hi => by
 unfold ruleB
 exact zzL
theorem sz_rules (k : Int) (a : Nat) (w : ByteArray) : Sz P (rulesB P R k a w) := fun i hi => by
 have h := sz_rule P R HE HR
 unfold rulesB
 exact zzL
theorem sz_round (a : Nat) : Sz P (roundB P R a) := fun i hi => by
 unfold roundB
 exact zzL
theorem sz_atom : Sz P (atomB P R) := fun i hi => by
 have h1 := sz_round P R HE HR (P.A i)
 have h2 := sz_decs P R HE HR 2
 have h3 := sz_rules P R HE HR 10 (P.A i) w_of
 have h4 := sz_rules P R HE HR 11 (P.A i) w_with
 unfold atomB
 refine Z.ite (fun c => in_k HE c hi) (fun _ => Z.ite (fun c => in_k HE c hi) (fun _ => Z.ite (fun _ => Z.bind (sz_path HE 0 i hi) fun p j hj => hj) (fun _ => Z.ite (fun c => in_or HE c hi) (fun _ => Z.ite (fun c => h1 _ (in_is HE c hi)) (fun _ => Z.ite (fun _ => ?_) (fun _ => Z.ite (fun _ => ?_) (fun _ => Z.ite (fun c => h3 _ (in_is HE c hi)) (fun _ => Z.ite (fun c => h4 _ (in_is HE c hi)) (fun _ => Z.fail hi (by decide))))))))))
 · exact zzL
 · exact zzL
theorem sz_prefixL : ∀ (f : Nat), Sz P (prefixL P R f)
 | 0 => fun i h => Z.fail h (by decide)
 | f + 1 => fun i hi => by
  show Z P (if isD P s_ti i = true ∨ isD P s_ex i = true then (prefixL P R f >>= fun n => ret (.mk 18 (P.A i) (P.T i) 0 [n])) (i + 1) else atomB P R i)
  exact Z.ite (fun c => Z.bind (sz_prefixL f _ (in_or HE c hi)) fun n j hj => hj) (fun _ => sz_atom P R HE HR i hi)
theorem sz_applyL : ∀ (f : Nat) (n : Ty), Sz P (applyL P R f n)
 | 0, n => fun i hi => hi
 | f + 1, n => fun i hi => by
  show Z P (if beginsB P i = true then (prefixB P R >>= fun b => applyL P R f (.mk 8 n.n ⟨#[]⟩ 0 [n, b])) i else .ok n i)
  exact Z.ite (fun _ => Z.bind (sz_prefixL P R HE HR _ i hi) fun x j hj => sz_applyL f _ j hj) (fun _ => hi)
theorem sz_apply : Sz P (applyB P R) := fun i hi => by
 show Z P ((prefixB P R >>= fun n => applyL P R (P.toks.length + 1) n) i)
 exact Z.bind (sz_prefixL P R HE HR _ i hi) fun n j hj => sz_applyL P R HE HR _ _ j hj
omit HR in
theorem sz_col (k : Nat) {item : M Ty} (h : Sz P item) : ∀ (f : Nat) (acc : List (ByteArray × Ty)), Sz P (colL P k item f acc)
 | 0, acc => fun i hi => hi
 | f + 1, acc => fun i hi => by
  show Z P (if (acc.length = 0 ∨ neverB k = false) ∧ oneD P (lvL k) i = true then (item >>= fun x => colL P k item f (acc ++ [(P.T i, x)])) (i + 1) else .ok acc i)
  exact Z.ite (fun c => Z.bind (h _ (in_one HE c.2 hi)) fun x j hj => sz_col k h f _ j hj) (fun _ => hi)
theorem sz_bet : ∀ (k : Nat), Sz P (betB P R k)
 | 0 => sz_apply P R HE HR
 | k + 1 => fun i hi => by
  show Z P ((betB P R k >>= fun a => colL P (k + 1) (betB P R k) (P.toks.length + 1) [] >>= fun l => (pure (if k + 1 = 3 then foldR a l else foldLd a l) : M Ty)) i)
  exact Z.bind (sz_bet k i hi) fun a j hj => Z.bind (sz_col P HE (k + 1) (sz_bet k) _ _ j hj) fun l j2 hj2 => hj2
theorem sz_open : Sz P (openB P R) := fun i hi => by
 have h := sz_apat P R HE HR
 have h2 := sz_bet P R HE HR 7 i hi
 unfold openB
 exact zzL
end
theorem sz_rec (P : Src) (HE : EndOk P) : ∀ g, RZ P ⟨readS P g, failD P 5⟩ ∧ RZ P (recS P g)
 | 0 => by
  have h : ∀ nt, Sz P (readS P 0 nt) := fun nt i hi => Z.fail hi (by decide)
  have hd : Sz P (failD (α := Ty) P 5) := fun i hi => Z.fail hi (by decide)
  exact ⟨⟨fun nt _ => h nt, fun w i hi _ => h .dec i hi, hd⟩, ⟨fun nt _ => h nt, fun w i hi _ => h .dec i hi, hd⟩⟩
 | g + 1 => by
  have IH := (sz_rec P HE g)
  have h : ∀ nt, nt ≠ .dec → Sz P (readS P (g + 1) nt) := fun nt hn => by
   rw [readS_succ]
   cases nt with
   | exp => exact sz_open P _ HE IH.2
   | pat => exact sz_pat P _ HE IH.2
   | typ => exact sz_arrow P _ HE IH.2
   | dec => exact absurd rfl hn
   | sig => exact sz_sigs P _ HE IH.2
  have h2 : ∀ w i, In P i → oneD P (startsL w) i = true → Z P (readS P (g + 1) .dec i) := fun w i hi c => by
   rw [readS_succ]; exact sz_dec P _ HE IH.2 i hi w c
  exact ⟨⟨h, h2, fun i hi => Z.fail hi (by decide)⟩, ⟨h, h2, fun i hi => IH.1.go .exp (by intro h; cases h) i hi⟩⟩
theorem top_kind {P : Src} (HE : EndOk P) (h0 : In P 0) (k a q : Nat) (h : topD P q = .bad k a) : k ≠ 0 := by
 have hw : ∀ {m : M Ty}, Sz P m → ∀ {k a}, wholeD P m = .bad k a → k ≠ 0 := by
  intro m hm k a h
  have hz := hm 0 h0
  unfold wholeD at h
  cases hx : m 0 with
  | bad k2 a2 => rw [hx] at h hz; cases h; exact hz
  | ok n j =>
   rw [hx] at h hz
   rcases ite_inv h with ⟨c, h⟩ | ⟨c, h⟩
   · cases h
   · have h2 : Z P (failD (α := Ty) P 4 j) := Z.fail hz (by decide)
     rw [h] at h2; exact h2
 have hg := (sz_rec P HE 60)
 unfold topD at h
 split at h
 · exact hw (m := decsB P (recS P 60) 0 >>= fun l => ret (.mk 0 0 ⟨#[]⟩ 0 l)) (fun i hi => Z.bind (sz_decs P _ HE hg.2 0 i hi) fun x j hj => hj) h
 split at h
 · exact hw (hg.1.go .exp (by intro h; cases h)) h
 split at h
 · exact hw (hg.1.go .pat (by intro h; cases h)) h
 · exact hw (hg.1.go .typ (by intro h; cases h)) h
def Q (P : Src) {α : Type} (b : Nat) (r r' : Res α) : Prop := Lo r' b ∧ (r = r' ∨ (∃ a, r = .bad 5 a) ∨ ∀ x j, r' = .ok x j → P.toks.length ≤ j)
def Sq (P : Src) {α : Type} (m m' : M α) : Prop := ∀ i, Q P (i + 1) (m i) (m' i)
section
variable {P : Src}
theorem Q.same {α : Type} {r : Res α} {b : Nat} (h : Lo r b) : Q P b r r := ⟨h, .inl rfl⟩
theorem Q.ok {α : Type} {x : α} {j b : Nat} (h : b ≤ j) : Q P b (.ok x j) (.ok x j) := .same (.ok h)
theorem Q.ret {α : Type} {x : α} {j b : Nat} (h : b ≤ j) : Q P b ((ret x : M α) j) ((ret x : M α) j) := .same (.ret h)
theorem Q.pure {α : Type} {x : α} {j b : Nat} (h : b ≤ j) : Q P b ((pure x : M α) j) ((pure x : M α) j) := .same (.pure h)
theorem Q.fail {α : Type} (e i b : Nat) : Q P b (failD (α := α) P e i) (failD P e i) := .same (.fail _ _ _ _)
theorem Q.ite {α : Type} {c : Prop} [Decidable c] {r s r' s' : Res α} {b : Nat} (h1 : c → Q P b r r') (h2 : ¬ c → Q P b s s') : Q P b (if c then r else s) (if c then r' else s') := by
 by_cases h : c
 · rw [if_pos h, if_pos h]; exact h1 h
 · rw [if_neg h, if_neg h]; exact h2 h
theorem Q.iteM {α : Type} {c : Prop} [Decidable c] {r s r' s' : M α} {b j : Nat} (h1 : c → Q P b (r j) (r' j)) (h2 : ¬ c → Q P b (s j) (s' j)) : Q P b ((if c then r else s) j) ((if c then r' else s') j) := by
 by_cases h : c
 · rw [if_pos h, if_pos h]; exact h1 h
 · rw [if_neg h, if_neg h]; exact h2 h
theorem Q.bind {α β : Type} {m m' : M α} {f f' : α → M β} {i b c : Nat} (hb : b ≤ c) (hm : Q P c (m i) (m' i)) (h : ∀ x j, c ≤ j → Q P j (f x j) (f' x j)) : Q P b ((m >>= f) i) ((m' >>= f') i) := by
 refine ⟨Lo.bind hm.1 fun x j hj => ((h x j hj).1.up (by omega)), ?_⟩
 rcases hm.2 with e | ⟨a, e⟩ | e
 · cases hx : m' i with
   | bad a n => rw [bind_bad hx, bind_bad (e.trans hx)]; exact .inl rfl
   | ok x j => rw [bind_ok hx, bind_ok (e.trans hx)]; exact (h x j (hm.1 x j hx)).2
 · rw [bind_bad e]; exact .inr (.inl ⟨a, rfl⟩)
 · refine .inr (.inr fun y k h1 => ?_)
   cases hx : m' i with
   | bad a n => rw [bind_bad hx] at h1; cases h1
   | ok x j =>
    rw [bind_ok hx] at h1
    have := e x j hx
    have := (h x j (hm.1 x j hx)).1 y k h1
    omega
theorem Q.up {α : Type} {r r' : Res α} {b c : Nat} (h : Q P c r r') (hb : b ≤ c) : Q P b r r' := ⟨h.1.up hb, h.2⟩
theorem sq_same {α : Type} {m : M α} (h : St m) : Sq P m m := fun i => .same (h i)
theorem q_many {α : Type} (c : Nat → Bool) {item item' : M α} (h : Sq P item item') : ∀ (f : Nat) (acc : List α) (i : Nat), Q P i (manyL c item f acc i) (manyL c item' f acc i)
 | 0, acc, i => Q.ret (Nat.le_refl _)
 | f + 1, acc, i => by
  show Q P i (if c i = true then (item >>= fun x => manyL c item f (acc ++ [x])) i else .ok acc i) (if c i = true then (item' >>= fun x => manyL c item' f (acc ++ [x])) i else .ok acc i)
  exact Q.ite (fun _ => Q.bind (by omega) (h i) fun x j hj => q_many c h f _ j) (fun _ => Q.ok (Nat.le_refl _))
theorem q_sep {α : Type} {item item' : M α} (s : ByteArray) (h : Sq P item item') : ∀ (f : Nat) (acc : List α) (i : Nat), Q P i (sepL P item s f acc i) (sepL P item' s f acc i)
 | 0, acc, i => Q.ret (Nat.le_refl _)
 | f + 1, acc, i => by
  show Q P i (if isD P s i = true then (item >>= fun x => sepL P item s f (acc ++ [x])) (i + 1) else .ok acc i) (if isD P s i = true then (item' >>= fun x => sepL P item' s f (acc ++ [x])) (i + 1) else .ok acc i)
  exact Q.ite (fun _ => Q.bind (by omega) (h (i + 1)) fun x j hj => q_sep s h f _ j) (fun _ => Q.ok (Nat.le_refl _))
theorem sq_row {α : Type} {item item' : M α} (s : ByteArray) (h : Sq P item item') : Sq P (rowD P item s) (rowD P item' s) := fun i => by
 show Q P _ ((item >>= fun x => sepL P item s (P.toks.length + 1) [x]) i) ((item' >>= fun x => sepL P item' s (P.toks.length + 1) [x]) i)
 exact Q.bind (Nat.le_refl _) (h i) fun x j hj => q_sep s h _ _ j
structure RQ (P : Src) (R R' : Rec) : Prop where
 go : ∀ nt, Sq P (R.go nt) (R'.go nt)
 deep : Sq P R.deep R'.deep
 st : StR R'
theorem qq {α : Type} {x y : Res α} {n : Nat} (h : Q P n x y := by repeat' first | exact Q.up (by assumption) (by omega) | exact Q.fail _ _ _ | exact Q.ok (by omega) | exact Q.ret (by omega) | exact Q.pure (by omega) | (refine Q.ite (fun _ => ?_) (fun _ => ?_)) | (refine Q.iteM (fun _ => ?_) (fun _ => ?_)) | (refine Q.bind ?_ (by first | exact Q.same (st_kind _ _ _) | exact Q.same (st_must _ _ _) | exact Q.same (mo_eat _ _ _) | exact Q.same (st_path _ _ _) | assumption | exact (by assumption : Sq _ _ _) _ | exact RQ.go (by assumption) _ _ | exact RQ.deep (by assumption) _ | exact sq_row _ (by first | assumption | exact RQ.go (by assumption) _) _) (fun _ _ _ => ?_)) | omega | exact (RQ.go (by assumption) _ _).up (by omega) | exact (RQ.deep (by assumption) _).up (by omega)) : Q P n x y := h
end
section
variable (P : Src) (R R' : Rec) (HR : RQ P R R')
include HR
theorem sq_applied : Sq P (appliedB P R) (appliedB P R') := fun i => by
 have h0 := st_applied P R' HR.st i
 unfold appliedB at h0 ⊢
 refine ⟨h0, ?_⟩
 by_cases c : P.K i = 5
 · rw [if_pos c, if_pos c]; exact .inl rfl
 rw [if_neg c, if_neg c]
 by_cases c : isD P s_lp i = true
 · rw [if_pos c, if_pos c]
   exact (Q.bind (b := i) (by omega) (sq_row s_com (HR.go .typ) (i + 1)) fun l j hj => Q.bind (by omega) (Q.same (st_must P s_rp j)) fun _ k hk => Q.same (mo_appL P R' HR.st _ _ _ _)).2
 · rw [if_neg c, if_neg c]; exact .inl rfl
theorem sq_arrow : Sq P (arrowB P R) (arrowB P R') := fun i => by
 have h := sq_applied P R R' HR
 unfold arrowB
 exact qq
theorem sq_roundPat (a : Nat) : Sq P (roundPatB P R a) (roundPatB P R' a) := fun i => by
 unfold roundPatB
 exact qq
theorem sq_apat : Sq P (apatB P R) (apatB P R') := fun i => by
 have h := sq_roundPat P R R' HR (P.A i) (i + 1)
 unfold apatB
 exact qq
theorem sq_cpat : Sq P (cpatB P R) (cpatB P R') := fun i => by
 have h := sq_apat P R R' HR
 unfold cpatB
 refine Q.bind (Nat.le_refl _) (h i) fun n j hj => ?_
 exact qq
theorem sq_pat : Sq P (patB P R) (patB P R') := fun i => by
 have h := sq_cpat P R R' HR
 unfold patB
 exact qq
theorem q_decs (k i : Nat) : Q P i (decsB P R k i) (decsB P R' k i) := q_many _ (HR.go .dec) _ _ _
theorem sq_con : Sq P (conB P R) (conB P R') := fun i => by
 unfold conB
 exact qq
theorem sq_head (k : Int) (a : Nat) : Sq P (headB P k a) (headB P k a) := sq_same (st_head P k a)
theorem sq_dbind : Sq P (dbindB P R) (dbindB P R') := fun i => by
 have h := sq_con P R R' HR
 have h2 := sq_head P R R' HR 39 (P.A i)
 unfold dbindB
 refine Q.bind (Nat.le_refl _) (h2 i) fun n j hj => ?_
 exact qq
theorem sq_data (a : Nat) : Sq P (dataB P R a) (dataB P R' a) := fun i => by
 have h := sq_dbind P R R' HR
 unfold dataB
 exact qq
theorem sq_fbind : Sq P (fbindB P R) (fbindB P R') := fun i => by
 have h := sq_apat P R R' HR
 unfold fbindB
 refine Q.bind (Nat.le_refl _) (Q.same (st_kind P 3 i)) fun s j hj => Q.bind (by omega) (h j) fun p j2 hj2 => Q.bind (by omega) (q_many _ h _ _ j2) fun l j3 hj3 => ?_
 exact qq
theorem sq_body : Sq P (bodyB P R) (bodyB P R') := fun i => by
 have h := q_decs P R R' HR 1 (i + 1)
 unfold bodyB
 exact qq
theorem q_ann (i : Nat) : Q P i (annB P R i) (annB P R' i) := by
 unfold annB
 exact qq
theorem sq_structure (a : Nat) : Sq P (structureB P R a) (structureB P R' a) := fun i => by
 have h := sq_body P R R' HR
 unfold structureB
 refine Q.bind (Nat.le_refl _) (Q.same (st_kind P 4 i)) fun s j hj => Q.bind (Nat.le_refl _) (q_ann P R R' HR j) fun g j2 hj2 => Q.bind (by omega) (Q.same (st_must P _ _)) fun _ j3 hj3 => Q.bind (by omega) (h j3) fun b j4 hj4 => Q.pure (by omega)
theorem sq_dec : Sq P (decB P R) (decB P R') := fun i => by
 have h1 := sq_fbind P R R' HR
 have h2 := sq_data P R R' HR (P.A i) (i + 1)
 have h3 := sq_con P R R' HR (i + 1)
 have h4 := sq_structure P R R' HR (P.A i) (i + 1)
 have h5 := sq_head P R R' HR 37 (P.A i) (i + 1)
 unfold decB
 exact qq
theorem sq_spec : Sq P (specB P R) (specB P R') := fun i => by
 have h2 := sq_data P R R' HR (P.A i) (i + 1)
 have h3 := sq_con P R R' HR (i + 1)
 have h5 := sq_head P R R' HR 50 (P.A i) (i + 1)
 unfold specB
 exact qq
theorem q_specs : ∀ (f : Nat) (acc : List Ty) (i : Nat), Q P i (specsL P R f acc i) (specsL P R' f acc i)
 | 0, acc, i => Q.ret (Nat.le_refl _)
 | f + 1, acc, i => by
  show Q P i (if isD P w_end i = true then .ok acc (i + 1) else (specB P R >>= fun x => specsL P R f (acc ++ [x])) i) (if isD P w_end i = true then .ok acc (i + 1) else (specB P R' >>= fun x => specsL P R' f (acc ++ [x])) i)
  exact Q.ite (fun _ => Q.ok (by omega)) (fun _ => Q.bind (by omega) (sq_spec P R R' HR i) fun x j hj => q_specs f _ j)
theorem sq_sigs : Sq P (sigsB P R) (sigsB P R') := fun i => by
 have h := q_specs P R R' HR (P.toks.length + 1) [] (i + 1)
 unfold sigsB
 exact qq
theorem sq_rule : Sq P (ruleB P R) (ruleB P R') := fun i => by
 unfold ruleB
 exact qq
theorem sq_rules (k : Int) (a : Nat) (w : ByteArray) : Sq P (rulesB P R k a w) (rulesB P R' k a w) := fun i => by
 have h := sq_rule P R R' HR
 unfold rulesB
 exact qq
theorem sq_round (a : Nat) : Sq P (roundB P R a) (roundB P R' a) := fun i => by
 unfold roundB
 exact qq
theorem sq_atom : Sq P (atomB P R) (atomB P R') := fun i => by
 have h1 := sq_round P R R' HR (P.A i) (i + 1)
 have h2 := q_decs P R R' HR 2 (i + 1)
 have h3 := sq_rules P R R' HR 10 (P.A i) w_of (i + 1)
 have h4 := sq_rules P R R' HR 11 (P.A i) w_with (i + 1)
 unfold atomB
 exact qq
theorem sq_prefixL : ∀ (f : Nat), Sq P (prefixL P R f) (prefixL P R' f)
 | 0 => fun i => Q.fail _ _ _
 | f + 1 => fun i => by
  show Q P _ (if isD P s_ti i = true ∨ isD P s_ex i = true then (prefixL P R f >>= fun n => ret (.mk 18 (P.A i) (P.T i) 0 [n])) (i + 1) else atomB P R i) (if isD P s_ti i = true ∨ isD P s_ex i = true then (prefixL P R' f >>= fun n => ret (.mk 18 (P.A i) (P.T i) 0 [n])) (i + 1) else atomB P R' i)
  exact Q.ite (fun _ => Q.bind (by omega) (sq_prefixL f (i + 1)) fun n j hj => Q.ret (by omega)) (fun _ => sq_atom P R R' HR i)
theorem sq_prefix : Sq P (prefixB P R) (prefixB P R') := sq_prefixL P R R' HR _
theorem q_applyL : ∀ (f : Nat) (n : Ty) (i : Nat), Q P i (applyL P R f n i) (applyL P R' f n i)
 | 0, n, i => Q.ret (Nat.le_refl _)
 | f + 1, n, i => by
  show Q P i (if beginsB P i = true then (prefixB P R >>= fun b => applyL P R f (.mk 8 n.n ⟨#[]⟩ 0 [n, b])) i else .ok n i) (if beginsB P i = true then (prefixB P R' >>= fun b => applyL P R' f (.mk 8 n.n ⟨#[]⟩ 0 [n, b])) i else .ok n i)
  exact Q.ite (fun _ => Q.bind (by omega) (sq_prefix P R R' HR i) fun x j hj => q_applyL f _ j) (fun _ => Q.ok (Nat.le_refl _))
theorem sq_apply : Sq P (applyB P R) (applyB P R') := fun i => by
 show Q P _ ((prefixB P R >>= fun n => applyL P R (P.toks.length + 1) n) i) ((prefixB P R' >>= fun n => applyL P R' (P.toks.length + 1) n) i)
 exact Q.bind (Nat.le_refl _) (sq_prefix P R R' HR i) fun n j hj => q_applyL P R R' HR _ _ j
omit HR in
theorem q_col (k : Nat) {item item' : M Ty} (h : Sq P item item') : ∀ (f : Nat) (acc : List (ByteArray × Ty)) (i : Nat), Q P i (colL P k item f acc i) (colL P k item' f acc i)
 | 0, acc, i => Q.ret (Nat.le_refl _)
 | f + 1, acc, i => by
  show Q P i (if (acc.length = 0 ∨ neverB k = false) ∧ oneD P (lvL k) i = true then (item >>= fun x => colL P k item f (acc ++ [(P.T i, x)])) (i + 1) else .ok acc i) (if (acc.length = 0 ∨ neverB k = false) ∧ oneD P (lvL k) i = true then (item' >>= fun x => colL P k item' f (acc ++ [(P.T i, x)])) (i + 1) else .ok acc i)
  exact Q.ite (fun _ => Q.bind (by omega) (h (i + 1)) fun x j hj => q_col k h f _ j) (fun _ => Q.ok (Nat.le_refl _))
theorem sq_bet : ∀ (k : Nat), Sq P (betB P R k) (betB P R' k)
 | 0 => sq_apply P R R' HR
 | k + 1 => fun i => by
  show Q P _ ((betB P R k >>= fun a => colL P (k + 1) (betB P R k) (P.toks.length + 1) [] >>= fun l => (pure (if k + 1 = 3 then foldR a l else foldLd a l) : M Ty)) i) ((betB P R' k >>= fun a => colL P (k + 1) (betB P R' k) (P.toks.length + 1) [] >>= fun l => (pure (if k + 1 = 3 then foldR a l else foldLd a l) : M Ty)) i)
  exact Q.bind (Nat.le_refl _) (sq_bet k i) fun a j hj => Q.bind (by omega) (q_col P (k + 1) (sq_bet k) _ _ j) fun l j2 hj2 => Q.pure (by omega)
theorem sq_open : Sq P (openB P R) (openB P R') := fun i => by
 have h := sq_apat P R R' HR (i + 1)
 have h2 := sq_bet P R R' HR 7 i
 unfold openB
 exact qq
theorem sq_step : ∀ nt, Sq P (stepB P R nt) (stepB P R' nt)
 | .exp => sq_open P R R' HR
 | .pat => sq_pat P R R' HR
 | .typ => sq_arrow P R R' HR
 | .dec => sq_dec P R R' HR
 | .sig => sq_sigs P R R' HR
end
theorem sq_deep {P : Src} {m : M Ty} (h : St m) : Sq P (failD P 5) m := fun i => by
 refine ⟨h i, ?_⟩
 unfold failD
 by_cases c : P.K i = -1
 · rw [if_pos c]
   refine .inr (.inr fun x j e => ?_)
   have := h i x j e
   unfold Src.K at c
   cases e2 : P.toks[i]? with
   | none => have := List.getElem?_eq_none_iff.1 e2; omega
   | some t => rw [e2] at c; simp at c
 · rw [if_neg c]; exact .inr (.inl ⟨_, rfl⟩)
theorem sq_rec (P : Src) : ∀ g d, (∀ nt, Sq P (readS P g nt) (readS P (g + d) nt)) ∧ RQ P (recS P g) (recS P (g + d))
 | 0, d => by
  have h : ∀ nt, Sq P (readS P 0 nt) (readS P (0 + d) nt) := fun nt => sq_deep ((st_rec P _).1 nt)
  exact ⟨h, ⟨h, sq_deep (st_rec P _).2.deep, (st_rec P _).2⟩⟩
 | g + 1, d => by
  have e : g + 1 + d = (g + d) + 1 := by omega
  have h : ∀ nt, Sq P (readS P (g + 1) nt) (readS P (g + 1 + d) nt) := fun nt => by rw [e, readS_succ, readS_succ]; exact sq_step P _ _ (sq_rec P g d).2 nt
  exact ⟨h, ⟨h, by rw [e]; exact (sq_rec P g d).1 .exp, (st_rec P _).2⟩⟩
end Go.Proofs.YthehjeeiodbkjaaGreatDoor
