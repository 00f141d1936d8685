/-
  Proved: in plain Lean: moving things one by one into a new half keeps what they say. No condition.
-/
import Derived.Test.YtidjfmkclabagaaC
set_option linter.unusedSimpArgs false
set_option linter.unusedVariables false
namespace Go.Proofs.Ytidjfmkclabagaa

def gt (l : List C) (i : Nat) : C := l.getD i zc
theorem gt_get {l : List C} {i : Nat} (h : i < l.length) : l[i] = gt l i := by unfold gt; simp [List.getD, h]
theorem gt_set {l : List C} {i : Nat} (h : i < l.length) (c : C) (j : Nat) : gt (l.set i c) j = if j = i then c else gt l j := by
  unfold gt List.getD
  rw [List.getElem?_set]
  by_cases hj : j = i
  · subst hj; simp [h]
  · rw [if_neg hj, if_neg (fun e => hj e.symm)]
/-- some cells laid over others, from a place on -/
def spl : List C → Nat → List C → List C
  | l, _, [] => l
  | l, o, c :: cs => spl (l.set o c) (o + 1) cs
theorem spl_len : ∀ (cs : List C) (l : List C) (o : Nat), (spl l o cs).length = l.length
  | [], _, _ => rfl
  | c :: cs, l, o => by rw [spl, spl_len cs]; simp
theorem gt_spl : ∀ (cs : List C) (l : List C) (o : Nat), o + cs.length ≤ l.length → ∀ y, gt (spl l o cs) y = if o ≤ y ∧ y < o + cs.length then gt cs (y - o) else gt l y
  | [], l, o, _, y => by
    rw [spl, if_neg]
    simp only [List.length_nil]; omega
  | c :: cs, l, o, h, y => by
    simp only [List.length_cons] at h ⊢
    rw [spl, gt_spl cs _ _ (by simp; omega), gt_set (by omega)]
    by_cases h1 : y = o
    · subst h1
      rw [if_neg (by omega), if_pos rfl, if_pos (by omega), Nat.sub_self]
      rfl
    · by_cases h2 : o + 1 ≤ y ∧ y < o + 1 + cs.length
      · rw [if_pos h2, if_pos (by omega), show y - o = (y - (o + 1)) + 1 by omega]
        rfl
      · rw [if_neg h2, if_neg h1, if_neg (by omega)]
theorem Cells.sets {b : Nat} : ∀ (cs : List C) (o : Nat) {w : World} {l : List C}, Cells w b l → o + cs.length ≤ l.length → Cells (w.setCells b (o * 2) (cv cs)) b (spl l o cs)
  | [], _, _, _, h, _ => h
  | c :: cs, o, w, l, h, hl => by
    simp only [List.length_cons] at hl
    rw [cv, World.setCells, World.setCells, spl, show o * 2 + 1 + 1 = (o + 1) * 2 by omega]
    exact Cells.sets cs (o + 1) (h.set (by omega) c) (by simp; omega)

/-- how many fields a thing has -/
def ln (us : List C) (a : Nat) : Nat := (gt us a).n.toNat / 524288
/-- how many cells some things take -/
def T (us : List C) : List Nat → Nat
  | [] => 0
  | a :: A => 1 + ln us a + T us A
/-- where a thing has gone to -/
def off (us : List C) : List Nat → Nat → Nat
  | [], _ => 0
  | x :: A, a => if x = a then 0 else 1 + ln us x + off us A a
theorem T_app (us : List C) : ∀ (A B : List Nat), T us (A ++ B) = T us A + T us B
  | [], _ => by simp [T]
  | a :: A, B => by rw [List.cons_append, T, T, T_app us A B]; omega
theorem off_app {us : List C} {a : Nat} : ∀ {A : List Nat} (B : List Nat), a ∈ A → off us (A ++ B) a = off us A a
  | x :: A, B, h => by
    rw [List.cons_append, off, off]
    by_cases hx : x = a
    · rw [if_pos hx, if_pos hx]
    · rw [if_neg hx, if_neg hx, off_app B (by rcases List.mem_cons.1 h with h | h; exact absurd h.symm hx; exact h)]
theorem off_new {us : List C} {a : Nat} : ∀ {A : List Nat} (B : List Nat), a ∉ A → off us (A ++ a :: B) a = T us A
  | [], B, _ => by rw [List.nil_append, off, if_pos rfl, T]
  | x :: A, B, h => by
    simp only [List.mem_cons, not_or] at h
    rw [List.cons_append, off, if_neg (fun e => h.1 e.symm), off_new B h.2, T]
theorem off_lt {us : List C} {a : Nat} : ∀ {A : List Nat}, a ∈ A → off us A a + 1 + ln us a ≤ T us A
  | x :: A, h => by
    rw [off, T]
    by_cases hx : x = a
    · rw [if_pos hx, hx]; omega
    · rw [if_neg hx]
      have := off_lt (us := us) (A := A) (a := a) (by rcases List.mem_cons.1 h with h | h; exact absurd h.symm hx; exact h)
      omega
theorem off_dis {us : List C} {a b : Nat} : ∀ {A : List Nat}, a ∈ A → b ∈ A → a ≠ b → off us A a + 1 + ln us a ≤ off us A b ∨ off us A b + 1 + ln us b ≤ off us A a
  | x :: A, ha, hb, hne => by
    rw [off, off]
    by_cases hx : x = a
    · have hxb : ¬ x = b := fun e => hne (hx.symm.trans e)
      rw [if_pos hx, if_neg hxb, hx]; left; omega
    · by_cases hxb : x = b
      · rw [if_neg hx, if_pos hxb, hxb]; right; omega
      · rw [if_neg hx, if_neg hxb]
        have := off_dis (us := us) (A := A) (by rcases List.mem_cons.1 ha with h | h; exact absurd h.symm hx; exact h) (by rcases List.mem_cons.1 hb with h | h; exact absurd h.symm hxb; exact h) hne
        omega
/-- a cell behind the move -/
def ph (us : List C) (A : List Nat) (c : C) : C := if c.p then ⟨true, off us A c.n.toNat⟩ else c
/-- the things of a heap, as far as one may come to them -/
structure Things (us : List C) (D : Nat → Prop) (nx : Nat) : Prop where
  num : ∀ a, D a → (gt us a).p = false ∧ 0 ≤ (gt us a).n ∧ (gt us a).n < 4611686018427387904
  fit : ∀ a, D a → a + 1 + ln us a ≤ nx
  dis : ∀ a, D a → ∀ a', D a' → a ≠ a' → a + 1 + ln us a ≤ a' ∨ a' + 1 + ln us a' ≤ a
  clo : ∀ a, D a → ∀ i, i < ln us a → (gt us (a + 1 + i)).p = true → ∃ a' : Nat, D a' ∧ (gt us (a + 1 + i)).n = a'
/-- what can be reached -/
inductive Rch (us : List C) (roots : List C) : Nat → Prop
  | root {c : C} {a : Nat} : c ∈ roots → c.p = true → c.n = a → Rch us roots a
  | fld {a i a' : Nat} : Rch us roots a → i < ln us a → (gt us (a + 1 + i)).p = true → (gt us (a + 1 + i)).n = a' → Rch us roots a'
theorem rch_in {us roots : List C} {D : Nat → Prop} {nx : Nat} (h : Things us D nx) (hr : ∀ c ∈ roots, c.p = true → ∃ a : Nat, D a ∧ c.n = a) : ∀ {a : Nat}, Rch us roots a → D a := by
  intro a ha
  induction ha with
  | root hc hp hn =>
    obtain ⟨a', h1, h2⟩ := hr _ hc hp
    have : a' = _ := Int.ofNat.inj (h2.symm.trans hn)
    rw [← this]; exact h1
  | fld _ hi hp hn ih =>
    obtain ⟨a', h1, h2⟩ := h.clo _ ih _ hi hp
    have : a' = _ := Int.ofNat.inj (h2.symm.trans hn)
    rw [← this]; exact h1
theorem nodup_lt : ∀ (N : Nat) (l : List Nat), l.Nodup → (∀ x ∈ l, x < N) → l.length ≤ N
  | 0, l, _, h => by
    cases l with
    | nil => simp
    | cons x l => have := h x (by simp); omega
  | N + 1, l, hd, h => by
    by_cases hN : N ∈ l
    · have h1 := nodup_lt N (l.erase N) (hd.erase N) (fun x hx => by
        have h2 := (hd.mem_erase_iff.1 hx)
        have := h x h2.2
        have := h2.1
        omega)
      rw [List.length_erase_of_mem hN] at h1
      omega
    · have := nodup_lt N l hd (fun x hx => by
        have h2 := h x hx
        have : x ≠ N := fun e => hN (e ▸ hx)
        omega)
      omega
theorem T_room {us : List C} {D : Nat → Prop} {nx : Nat} (h : Things us D nx) {A : List Nat} (hn : A.Nodup) (hs : ∀ a ∈ A, D a) : T us A ≤ nx := by
  have key : ∀ (A : List Nat), A.Nodup → (∀ a ∈ A, D a) → ∃ l : List Nat, l.length = T us A ∧ l.Nodup ∧ ∀ x ∈ l, x < nx ∧ ∃ a ∈ A, a ≤ x ∧ x < a + 1 + ln us a := by
    intro A
    induction A with
    | nil => intro _ _; exact ⟨[], rfl, List.nodup_nil, fun x hx => by simp at hx⟩
    | cons a A ih =>
      intro hn hs
      have hn' := List.nodup_cons.1 hn
      obtain ⟨l, h1, h2, h3⟩ := ih hn'.2 (fun x hx => hs x (by simp [hx]))
      refine ⟨List.range' a (1 + ln us a) ++ l, by rw [List.length_append, List.length_range', h1, T], ?_, ?_⟩
      · rw [List.nodup_append]
        refine ⟨List.nodup_range' .., h2, ?_⟩
        intro x hx y hy e
        subst e
        obtain ⟨_, a', ha', hx1, hx2⟩ := h3 x hy
        have hne : a ≠ a' := fun e => hn'.1 (e ▸ ha')
        have hx3 := List.mem_range'_1.1 hx
        rcases h.dis a (hs a (by simp)) a' (hs a' (by simp [ha'])) hne with h4 | h4 <;> omega
      · intro x hx
        rcases List.mem_append.1 hx with hx | hx
        · have hx3 := List.mem_range'_1.1 hx
          have := h.fit a (hs a (by simp))
          exact ⟨by omega, a, by simp, by omega, by omega⟩
        · obtain ⟨h4, a', ha', h5⟩ := h3 x hx
          exact ⟨h4, a', by simp [ha'], h5⟩
  obtain ⟨l, h1, h2, h3⟩ := key A hn hs
  have := nodup_lt nx l h2 (fun x hx => (h3 x hx).1)
  omega

/-- while things are moved: A has been moved, in that order; what lies below s has been gone over -/
structure MSt (us roots : List C) (D : Nat → Prop) (A : List Nat) (sz s : Nat) (od nw : List C) (nx : Nat) : Prop where
  ol : od.length = sz
  nl : nw.length = sz
  nd : A.Nodup
  sub : ∀ a ∈ A, Rch us roots a
  nx : nx = T us A
  od : ∀ x, x < sz → gt od x = if x ∈ A then ⟨true, off us A x⟩ else gt us x
  hd : ∀ a ∈ A, gt nw (off us A a) = gt us a
  fd : ∀ a ∈ A, ∀ j, j < ln us a → gt nw (off us A a + 1 + j) = if off us A a + 1 + j < s then ph us A (gt us (a + 1 + j)) else gt us (a + 1 + j)
  dn : ∀ a ∈ A, ∀ j, j < ln us a → off us A a + 1 + j < s → (gt us (a + 1 + j)).p = true → ∃ a' ∈ A, (gt us (a + 1 + j)).n = ((a' : Nat) : Int)
theorem ph_app {us : List C} {A : List Nat} (B : List Nat) {c : C} (h : c.p = true → ∃ a' ∈ A, c.n = ((a' : Nat) : Int)) : ph us (A ++ B) c = ph us A c := by
  unfold ph
  cases hp : c.p with
  | false => rfl
  | true =>
    obtain ⟨a', h1, h2⟩ := h hp
    rw [if_pos rfl, if_pos rfl, h2, Int.toNat_natCast, off_app B h1]
theorem mst_start {us roots : List C} {D : Nat → Prop} {sz : Nat} {nw : List C} (hl : us.length = sz) (hn : nw.length = sz) : MSt us roots D [] sz 0 us nw 0 :=
  ⟨hl, hn, List.nodup_nil, fun a h => by simp at h, rfl, fun x _ => by simp, fun a h => by simp at h, fun a h => by simp at h, fun a h => by simp at h⟩
/-- one thing more -/
theorem mst_new {us roots : List C} {D : Nat → Prop} {A : List Nat} {sz s nx nx0 : Nat} {od nw : List C} (hT : Things us D nx0) (h0 : nx0 ≤ sz) (hr : ∀ c ∈ roots, c.p = true → ∃ a : Nat, D a ∧ c.n = a) (h : MSt us roots D A sz s od nw nx) {a : Nat} (ha : Rch us roots a) (hnew : a ∉ A) (hs : s ≤ nx) :
    MSt us roots D (A ++ [a]) sz s (od.set a ⟨true, nx⟩) (spl nw nx ((od.drop a).take (1 + ln us a))) (nx + (1 + ln us a)) ∧ nx + (1 + ln us a) ≤ sz ∧ a + (1 + ln us a) ≤ sz ∧ off us (A ++ [a]) a = nx ∧ gt od a = gt us a := by
  have hDa := rch_in hT hr ha
  have hfit := hT.fit a hDa
  have hnd : (A ++ [a]).Nodup := by
    rw [List.nodup_append]
    exact ⟨h.nd, by simp, fun x hx y hy e => by simp at hy; subst hy; subst e; exact hnew hx⟩
  have hsub : ∀ x ∈ A ++ [a], Rch us roots x := fun x hx => by
    rcases List.mem_append.1 hx with hx | hx
    · exact h.sub x hx
    · simp at hx; subst hx; exact ha
  have hTn : T us (A ++ [a]) = nx + (1 + ln us a) := by rw [T_app, h.nx, T, T, Nat.add_zero]
  have hroom : nx + (1 + ln us a) ≤ sz := by rw [← hTn]; exact Nat.le_trans (T_room hT hnd (fun x hx => rch_in hT hr (hsub x hx))) h0
  have hoff : off us (A ++ [a]) a = nx := by rw [off_new [] hnew, h.nx]
  have hlen : ((od.drop a).take (1 + ln us a)).length = 1 + ln us a := by simp [h.ol]; omega
  have hgod : ∀ j, j ≤ ln us a → gt od (a + j) = gt us (a + j) := by
    intro j hj
    rw [h.od _ (by omega), if_neg]
    intro hm
    have hDm := rch_in hT hr (h.sub _ hm)
    by_cases e : a = a + j
    · rw [← e] at hm; exact hnew hm
    · rcases hT.dis a hDa _ hDm e with h1 | h1 <;> omega
  have hcp : ∀ j, j ≤ ln us a → gt ((od.drop a).take (1 + ln us a)) j = gt us (a + j) := by
    intro j hj
    rw [← hgod j hj]
    unfold gt List.getD
    rw [List.getElem?_take, if_pos (by omega), List.getElem?_drop]
  have hspl : ∀ y, gt (spl nw nx ((od.drop a).take (1 + ln us a))) y = if nx ≤ y ∧ y < nx + (1 + ln us a) then gt us (a + (y - nx)) else gt nw y := by
    intro y
    rw [gt_spl _ _ _ (by rw [hlen, h.nl]; exact hroom), hlen]
    by_cases hy : nx ≤ y ∧ y < nx + (1 + ln us a)
    · rw [if_pos hy, if_pos hy, hcp _ (by omega)]
    · rw [if_neg hy, if_neg hy]
  have hold : ∀ x ∈ A, off us (A ++ [a]) x = off us A x ∧ off us A x + 1 + ln us x ≤ nx := fun x hx => ⟨off_app [a] hx, by rw [h.nx]; exact off_lt hx⟩
  refine ⟨⟨by simp [h.ol], by rw [spl_len]; exact h.nl, hnd, hsub, hTn.symm, ?_, ?_, ?_, ?_⟩, hroom, by omega, hoff, by have := hgod 0 (Nat.zero_le _); simpa using this⟩
  · intro x hx
    rw [gt_set (by rw [h.ol]; omega)]
    by_cases e : x = a
    · rw [if_pos e, if_pos (by simp [e]), e, hoff]
    · rw [if_neg e, h.od x hx]
      by_cases hm : x ∈ A
      · rw [if_pos hm, if_pos (by simp [hm]), (hold x hm).1]
      · rw [if_neg hm, if_neg (by simp [hm, e])]
  · intro x hx
    rw [hspl]
    rcases List.mem_append.1 hx with hx | hx
    · have := hold x hx
      rw [this.1, if_neg (by omega)]
      exact h.hd x hx
    · simp at hx; subst hx
      rw [hoff, if_pos (by omega), Nat.sub_self]
      rfl
  · intro x hx j hj
    rw [hspl]
    rcases List.mem_append.1 hx with hx | hx
    · have := hold x hx
      rw [this.1, if_neg (by omega), h.fd x hx j hj]
      by_cases hlt : off us A x + 1 + j < s
      · rw [if_pos hlt, if_pos hlt, ph_app [a] (h.dn x hx j hj hlt)]
      · rw [if_neg hlt, if_neg hlt]
    · simp at hx; subst hx
      rw [hoff, if_pos (by omega), if_neg (by omega), show x + (nx + 1 + j - nx) = x + 1 + j by omega]
  · intro x hx j hj hlt hp
    rcases List.mem_append.1 hx with hx | hx
    · have := hold x hx
      rw [this.1] at hlt
      obtain ⟨a', h1, h2⟩ := h.dn x hx j hj hlt hp
      exact ⟨a', by simp [h1], h2⟩
    · simp at hx; subst hx
      rw [hoff] at hlt
      omega
/-- a field gone over -/
theorem mst_field {us roots : List C} {D : Nat → Prop} {A : List Nat} {sz s nx : Nat} {od nw : List C} (h : MSt us roots D A sz s od nw nx) (hsz : nx ≤ sz) {a j : Nat} (ha : a ∈ A) (hj : j < ln us a) (hs : s = off us A a + 1 + j)
    (hx : (gt us (a + 1 + j)).p = true → ∃ a' ∈ A, (gt us (a + 1 + j)).n = ((a' : Nat) : Int)) : MSt us roots D A sz (s + 1) od (nw.set s (ph us A (gt us (a + 1 + j)))) nx := by
  have hlt := off_lt (us := us) ha
  have hb : s < nw.length := by have := h.nx; have := h.nl; omega
  refine ⟨h.ol, by simp [h.nl], h.nd, h.sub, h.nx, h.od, ?_, ?_, ?_⟩
  · intro x hxA
    rw [gt_set hb, if_neg, h.hd x hxA]
    by_cases e : a = x
    · rw [← e]; omega
    · rcases off_dis (us := us) ha hxA e with h1 | h1 <;> omega
  · intro x hxA i hi
    rw [gt_set hb]
    by_cases e : off us A x + 1 + i = s
    · have hxa : x = a := by
        by_cases e2 : a = x
        · exact e2.symm
        · rcases off_dis (us := us) ha hxA e2 with h1 | h1 <;> omega
      subst hxa
      have : i = j := by omega
      subst this
      rw [if_pos e, if_pos (by omega)]
    · rw [if_neg e, h.fd x hxA i hi]
      by_cases hlt2 : off us A x + 1 + i < s
      · rw [if_pos hlt2, if_pos (by omega)]
      · rw [if_neg hlt2, if_neg (by omega)]
  · intro x hxA i hi hlt2 hp
    by_cases e : off us A x + 1 + i = s
    · have hxa : x = a := by
        by_cases e2 : a = x
        · exact e2.symm
        · rcases off_dis (us := us) ha hxA e2 with h1 | h1 <;> omega
      subst hxa
      have : i = j := by omega
      subst this
      exact hx hp
    · exact h.dn x hxA i hi (by omega) hp
/-- a thing's first cell gone over -/
theorem mst_head {us roots : List C} {D : Nat → Prop} {A : List Nat} {sz s nx : Nat} {od nw : List C} (h : MSt us roots D A sz s od nw nx) {a : Nat} (ha : a ∈ A) (hs : s = off us A a) : MSt us roots D A sz (s + 1) od nw nx := by
  have key : ∀ x ∈ A, ∀ i, i < ln us x → off us A x + 1 + i ≠ s := by
    intro x hxA i hi e
    by_cases e2 : a = x
    · subst e2; omega
    · rcases off_dis (us := us) ha hxA e2 with h1 | h1 <;> omega
  refine ⟨h.ol, h.nl, h.nd, h.sub, h.nx, h.od, h.hd, ?_, ?_⟩
  · intro x hxA i hi
    have := key x hxA i hi
    rw [h.fd x hxA i hi]
    by_cases hlt2 : off us A x + 1 + i < s
    · rw [if_pos hlt2, if_pos (by omega)]
    · rw [if_neg hlt2, if_neg (by omega)]
  · intro x hxA i hi hlt2 hp
    have := key x hxA i hi
    exact h.dn x hxA i hi (by omega) hp
theorem off_at {us : List C} {a : Nat} {A1 A2 : List Nat} (h : (A1 ++ a :: A2).Nodup) : off us (A1 ++ a :: A2) a = T us A1 := by
  rw [List.nodup_append] at h
  exact off_new A2 (fun hm => h.2.2 a hm a (by simp) rfl)
end Go.Proofs.Ytidjfmkclabagaa
