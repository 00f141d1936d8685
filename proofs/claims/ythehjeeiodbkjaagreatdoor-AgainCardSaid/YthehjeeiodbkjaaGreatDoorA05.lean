/-
  Proved: whatever is read lies behind the place where it began: every thing read takes at least one token; how the document's reader stands in memory, what it answers from any state; the contract of its now; the steps of what the lexer computes, and that each goes on; the contracts of the reference's small functions: digit, small, great, inName, blank, at, comment, Gap, name, variable; the contracts of the reference's name, variable, Among, words, signs; the contracts of the reference's words, signs, Among. Conditions: the reader as it stands in memory; places inside the text; a text of at most 4000 bytes; the list as it stands in memory.
-/
import Derived.Test.YthehjeeiodbkjaaGreatDoorA01
import Derived.Test.YthehjeeiodbkjaaGreatDoorA04
import Derived.Test.YthehjeeiodbkjaaGreatDoorChecked
import Derived.WalkKit
import Derived.IntWalk
import Derived.Lib.Hide
import Derived.Deep.QuietTactic
import Derived.BigQuiet
import Derived.Deep.DeepCutAuto
import Derived.Deep.CutBlock
set_option linter.unusedSimpArgs false
set_option linter.unusedVariables false
set_option linter.unusedSectionVars false
set_option maxRecDepth 100000
set_option maxHeartbeats 16000000
namespace Go.Proofs.YthehjeeiodbkjaaGreatDoor
open Go.RowKit
def Lo {α : Type} (r : Res α) (b : Nat) : Prop := ∀ x j, r = .ok x j → b ≤ j
def St {α : Type} (m : M α) : Prop := ∀ i, Lo (m i) (i + 1)
theorem Lo.ok {α : Type} {x : α} {j b : Nat} (h : b ≤ j) : Lo (.ok x j) b := fun y k e => by cases e; exact h
theorem Lo.ret {α : Type} {x : α} {j b : Nat} (h : b ≤ j) : Lo ((ret x : M α) j) b := fun y k e => by cases e; exact h
theorem Lo.pure {α : Type} {x : α} {j b : Nat} (h : b ≤ j) : Lo ((pure x : M α) j) b := fun y k e => by cases e; exact h
theorem Lo.fail {α : Type} (P : Src) (e i b : Nat) : Lo (failD (α := α) P e i) b := fun y k h => by
 unfold failD at h
 split at h <;> cases h
theorem Lo.ite {α : Type} {c : Prop} [Decidable c] {r s : Res α} {b : Nat} (h1 : c → Lo r b) (h2 : ¬ c → Lo s b) : Lo (if c then r else s) b := by
 by_cases h : c
 · rw [if_pos h]; exact h1 h
 · rw [if_neg h]; exact h2 h
theorem Lo.iteM {α : Type} {c : Prop} [Decidable c] {r s : M α} {b j : Nat} (h1 : c → Lo (r j) b) (h2 : ¬ c → Lo (s j) b) : Lo ((if c then r else s) j) b := by
 by_cases h : c
 · rw [if_pos h]; exact h1 h
 · rw [if_neg h]; exact h2 h
theorem Lo.bind {α β : Type} {m : M α} {f : α → M β} {i b c : Nat} (hm : Lo (m i) c) (h : ∀ x j, c ≤ j → Lo (f x j) b) : Lo ((m >>= f) i) b := fun y k e => by
 cases hx : m i with
 | bad a n => rw [bind_bad hx] at e; cases e
 | ok x j => rw [bind_ok hx] at e; exact h x j (hm x j hx) y k e
theorem Lo.up {α : Type} {r : Res α} {b c : Nat} (h : Lo r c) (hb : b ≤ c) : Lo r b := fun x j e => Nat.le_trans hb (h x j e)
theorem st_kind (P : Src) (k : Int) : St (kindD P k) := fun i => by
 unfold kindD
 exact Lo.ite (fun _ => Lo.ok (Nat.le_refl _)) (fun _ => Lo.fail _ _ _ _)
theorem st_must (P : Src) (s : ByteArray) : St (mustD P s) := fun i => by
 unfold mustD
 exact Lo.ite (fun _ => Lo.ok (Nat.le_refl _)) (fun _ => Lo.fail _ _ _ _)
theorem mo_eat (P : Src) (s : ByteArray) (i : Nat) : Lo (eatD P s i) i := by
 unfold eatD
 exact Lo.ite (fun _ => Lo.ok (Nat.le_succ _)) (fun _ => Lo.ok (Nat.le_refl _))
theorem st_pathL (P : Src) (last : Nat) : ∀ (f : Nat) (s : ByteArray), St (pathL P last f s)
 | 0, s => fun i => Lo.fail _ _ _ _
 | f + 1, s => fun i => by
  show Lo (if P.K i = 3 ∧ last ≠ 4 then Res.ok (s ++ P.T i, 3) (i + 1) else if P.K i ≠ 4 then failD P 4 i else if isD P s_dot (i + 1) = true then pathL P last f (s ++ P.T i ++ s_dot) (i + 2) else if last = 3 then failD P 4 (i + 1) else .ok (s ++ P.T i, 4) (i + 1)) _
  exact Lo.ite (fun _ => Lo.ok (Nat.le_refl _)) (fun _ => Lo.ite (fun _ => Lo.fail _ _ _ _) (fun _ => Lo.ite (fun _ => (st_pathL P last f _ (i + 2)).up (by omega)) (fun _ => Lo.ite (fun _ => Lo.fail _ _ _ _) (fun _ => Lo.ok (Nat.le_refl _)))))
theorem st_path (P : Src) (last : Nat) : St (pathD P last) := st_pathL P last _ _
theorem mo_many {α : Type} (c : Nat → Bool) (item : M α) (h : St item) : ∀ (f : Nat) (acc : List α) (i : Nat), Lo (manyL c item f acc i) i
 | 0, acc, i => Lo.ret (Nat.le_refl _)
 | f + 1, acc, i => by
  show Lo (if c i = true then (item >>= fun x => manyL c item f (acc ++ [x])) i else .ok acc i) i
  exact Lo.ite (fun _ => Lo.bind (h i) fun x j hj => (mo_many c item h f _ j).up (by omega)) (fun _ => Lo.ok (Nat.le_refl _))
theorem mo_sep {α : Type} (P : Src) (item : M α) (s : ByteArray) (h : St item) : ∀ (f : Nat) (acc : List α) (i : Nat), Lo (sepL P item s f acc i) i
 | 0, acc, i => Lo.ret (Nat.le_refl _)
 | f + 1, acc, i => by
  show Lo (if isD P s i = true then (item >>= fun x => sepL P item s f (acc ++ [x])) (i + 1) else .ok acc i) i
  exact Lo.ite (fun _ => Lo.bind (h (i + 1)) fun x j hj => (mo_sep P item s h f _ j).up (by omega)) (fun _ => Lo.ok (Nat.le_refl _))
theorem st_row {α : Type} (P : Src) (item : M α) (s : ByteArray) (h : St item) : St (rowD P item s) := fun i => by
 show Lo ((item >>= fun x => sepL P item s (P.toks.length + 1) [x]) i) _
 exact Lo.bind (h i) fun x j hj => (mo_sep P item s h _ _ j).up (by omega)
structure StR (R : Rec) : Prop where
 go : ∀ nt, St (R.go nt)
 deep : St R.deep
theorem lo {α : Type} {x : Res α} {n : Nat} (h : Lo x n := by repeat' first | exact Lo.up (by assumption) (by omega) | exact Lo.fail _ _ _ _ | exact Lo.ok (by omega) | exact Lo.ret (by omega) | exact Lo.pure (by omega) | (refine Lo.ite (fun _ => ?_) (fun _ => ?_)) | (refine Lo.iteM (fun _ => ?_) (fun _ => ?_)) | (refine Lo.bind (by first | exact st_kind _ _ _ | exact st_must _ _ _ | exact mo_eat _ _ _ | exact st_path _ _ _ | assumption | exact (by assumption : St _) _ | exact StR.go (by assumption) _ _ | exact StR.deep (by assumption) _ | exact st_row _ _ _ (by first | assumption | exact StR.go (by assumption) _) _) (fun _ _ _ => ?_)) | exact (StR.go (by assumption) _ _).up (by omega) | exact (StR.deep (by assumption) _).up (by omega)) : Lo x n := h
section
variable (P : Src) (R : Rec) (HR : StR R)
include HR
theorem mo_appL (a : Nat) : ∀ (f : Nat) (l : List Ty) (i : Nat), Lo (appL P a f l i) i
 | 0, l, i => Lo.fail _ _ _ _
 | f + 1, l, i => by
  show Lo (if l.length ≠ 1 ∨ P.K i = 3 ∨ P.K i = 4 then (pathD P 3 >>= fun p => appL P a f [.mk 31 a p.1 0 l]) i else .ok (l.headD default) i) i
  exact Lo.ite (fun _ => Lo.bind (st_path P 3 i) fun p j hj => (mo_appL a f _ j).up (by omega)) (fun _ => Lo.ok (Nat.le_refl _))
theorem st_applied : St (appliedB P R) := fun i => by
 show Lo (if P.K i = 5 then appL P (P.A i) (P.toks.length + 1) [.mk 30 (P.A i) (P.T i) 0 []] (i + 1) else if isD P s_lp i = true then (rowD P (R.go .typ) s_com >>= fun l => mustD P s_rp >>= fun _ => appL P (P.A i) (P.toks.length + 1) l) (i + 1) else appL P (P.A i) (P.toks.length + 1) [] i) _
 refine Lo.ite (fun _ => mo_appL P R HR _ _ _ _) (fun _ => Lo.ite (fun _ => ?_) (fun _ => ?_))
 · exact Lo.bind (st_row P _ _ (HR.go .typ) _) fun l j hj => Lo.bind (st_must P _ _) fun _ k hk => (mo_appL P R HR _ _ _ _).up (by omega)
 · show Lo (if ([] : List Ty).length ≠ 1 ∨ P.K i = 3 ∨ P.K i = 4 then (pathD P 3 >>= fun p => appL P (P.A i) P.toks.length [.mk 31 (P.A i) p.1 0 []]) i else .ok (([] : List Ty).headD default) i) _
   rw [if_pos (.inl (by simp))]
   exact Lo.bind (st_path P 3 i) fun p j hj => (mo_appL P R HR _ _ _ j).up (by omega)
theorem st_arrow : St (arrowB P R) := fun i => by
 have h := st_applied P R HR
 unfold arrowB
 exact lo
theorem st_roundPat (a : Nat) : St (roundPatB P R a) := fun i => by
 unfold roundPatB
 exact lo
theorem st_apat : St (apatB P R) := fun i => by
 have h := st_roundPat P R HR (P.A i) (i + 1)
 unfold apatB
 exact lo
theorem st_cpat : St (cpatB P R) := fun i => by
 have h := st_apat P R HR
 unfold cpatB
 refine Lo.bind (h i) fun n j hj => ?_
 exact lo
theorem st_pat : St (patB P R) := fun i => by
 have h := st_cpat P R HR
 unfold patB
 exact lo
theorem mo_decs (k i : Nat) : Lo (decsB P R k i) i := mo_many _ _ (HR.go .dec) _ _ _
theorem st_con : St (conB P R) := fun i => by
 unfold conB
 exact lo
omit HR in
theorem st_one : St (oneB P) := fun i => by
 unfold oneB
 exact Lo.bind (st_kind P 5 i) fun s j hj => Lo.pure (by omega)
omit HR in
theorem st_head (k : Int) (a : Nat) : St (headB P k a) := fun i => by
 have h := st_one P
 unfold headB
 exact lo
theorem st_dbind : St (dbindB P R) := fun i => by
 have h := st_con P R HR
 have h2 := st_head P 39 (P.A i)
 unfold dbindB
 refine Lo.bind (h2 i) fun n j hj => ?_
 exact lo
theorem st_data (a : Nat) : St (dataB P R a) := fun i => by
 have h := st_dbind P R HR
 unfold dataB
 exact lo
theorem st_fbind : St (fbindB P R) := fun i => by
 have h := st_apat P R HR
 unfold fbindB
 refine Lo.bind (st_kind P 3 i) fun s j hj => Lo.bind (h j) fun p j2 hj2 => Lo.bind (mo_many _ _ h _ _ j2) fun l j3 hj3 => ?_
 exact lo
theorem st_body : St (bodyB P R) := fun i => by
 have h := mo_decs P R HR 1
 unfold bodyB
 repeat' first | exact Lo.up (by assumption) (by omega) | exact Lo.fail _ _ _ _ | exact Lo.ok (by omega) | exact Lo.ret (by omega) | exact Lo.pure (by omega) | (refine Lo.ite (fun _ => ?_) (fun _ => ?_)) | (refine Lo.iteM (fun _ => ?_) (fun _ => ?_)) | (refine Lo.bind (by first | exact st_kind _ _ _ | exact st_must _ _ _ | exact mo_eat _ _ _ | exact st_path _ _ _ | assumption | exact (by assumption : St _) _ | exact StR.go (by assumption) _ _ | exact StR.deep (by assumption) _ | exact st_row _ _ _ (by first | assumption | exact StR.go (by assumption) _) _) (fun _ _ _ => ?_)) | exact (StR.go (by assumption) _ _).up (by omega) | exact (StR.deep (by assumption) _).up (by omega)
 exact Lo.bind (h (i + 1)) fun l j hj => Lo.bind (st_must P _ _) fun _ k hk => Lo.pure (by omega)
theorem mo_ann (i : Nat) : Lo (annB P R i) i := by
 unfold annB
 exact lo
theorem st_structure (a : Nat) : St (structureB P R a) := fun i => by
 have h := st_body P R HR
 unfold structureB
 refine Lo.bind (st_kind P 4 i) fun s j hj => Lo.bind (mo_ann P R HR j) fun g j2 hj2 => Lo.bind (st_must P _ _) fun _ j3 hj3 => Lo.bind (h j3) fun b j4 hj4 => Lo.pure (by omega)
theorem st_dec : St (decB P R) := fun i => by
 have h1 := st_fbind P R HR
 have h2 := st_data P R HR (P.A i) (i + 1)
 have h3 := st_con P R HR (i + 1)
 have h4 := st_structure P R HR (P.A i) (i + 1)
 have h5 := st_head P 37 (P.A i) (i + 1)
 unfold decB
 exact lo
theorem st_spec : St (specB P R) := fun i => by
 have h2 := st_data P R HR (P.A i) (i + 1)
 have h3 := st_con P R HR (i + 1)
 have h5 := st_head P 50 (P.A i) (i + 1)
 unfold specB
 exact lo
theorem mo_specs : ∀ (f : Nat) (acc : List Ty) (i : Nat), Lo (specsL P R f acc i) i
 | 0, acc, i => Lo.ret (Nat.le_refl _)
 | f + 1, acc, i => by
  show Lo (if isD P w_end i = true then .ok acc (i + 1) else (specB P R >>= fun x => specsL P R f (acc ++ [x])) i) i
  exact Lo.ite (fun _ => Lo.ok (by omega)) (fun _ => Lo.bind (st_spec P R HR i) fun x j hj => (mo_specs f _ j).up (by omega))
theorem st_sigs : St (sigsB P R) := fun i => by
 have h := mo_specs P R HR (P.toks.length + 1) [] (i + 1)
 unfold sigsB
 exact lo
theorem st_rule : St (ruleB P R) := fun i => by
 unfold ruleB
 exact lo
theorem st_rules (k : Int) (a : Nat) (w : ByteArray) : St (rulesB P R k a w) := fun i => by
 have h := st_rule P R HR
 unfold rulesB
 exact lo
theorem st_round (a : Nat) : St (roundB P R a) := fun i => by
 unfold roundB
 exact lo
theorem st_atom : St (atomB P R) := fun i => by
 have h1 := st_round P R HR (P.A i) (i + 1)
 have h2 := mo_decs P R HR 2 (i + 1)
 have h3 := st_rules P R HR 10 (P.A i) w_of (i + 1)
 have h4 := st_rules P R HR 11 (P.A i) w_with (i + 1)
 unfold atomB
 exact lo
theorem st_prefixL : ∀ (f : Nat), St (prefixL P R f)
 | 0 => fun i => Lo.fail _ _ _ _
 | f + 1 => fun i => by
  show Lo (if isD P s_ti i = true ∨ isD P s_ex i = true then (prefixL P R f >>= fun n => ret (.mk 18 (P.A i) (P.T i) 0 [n])) (i + 1) else atomB P R i) _
  exact Lo.ite (fun _ => Lo.bind (st_prefixL f (i + 1)) fun n j hj => Lo.ret (by omega)) (fun _ => st_atom P R HR i)
theorem st_prefix : St (prefixB P R) := st_prefixL P R HR _
theorem mo_applyL : ∀ (f : Nat) (n : Ty) (i : Nat), Lo (applyL P R f n i) i
 | 0, n, i => Lo.ret (Nat.le_refl _)
 | f + 1, n, i => by
  show Lo (if beginsB P i = true then (prefixB P R >>= fun b => applyL P R f (.mk 8 n.n ⟨#[]⟩ 0 [n, b])) i else .ok n i) i
  exact Lo.ite (fun _ => Lo.bind (st_prefix P R HR i) fun x j hj => (mo_applyL f _ j).up (by omega)) (fun _ => Lo.ok (Nat.le_refl _))
theorem st_apply : St (applyB P R) := fun i => by
 show Lo ((prefixB P R >>= fun n => applyL P R (P.toks.length + 1) n) i) _
 exact Lo.bind (st_prefix P R HR i) fun n j hj => (mo_applyL P R HR _ _ j).up (by omega)
omit HR in
theorem mo_col (k : Nat) (item : M Ty) (h : St item) : ∀ (f : Nat) (acc : List (ByteArray × Ty)) (i : Nat), Lo (colL P k item f acc i) i
 | 0, acc, i => Lo.ret (Nat.le_refl _)
 | f + 1, acc, i => by
  show Lo (if (acc.length = 0 ∨ neverB k = false) ∧ oneD P (lvL k) i = true then (item >>= fun x => colL P k item f (acc ++ [(P.T i, x)])) (i + 1) else .ok acc i) i
  exact Lo.ite (fun _ => Lo.bind (h (i + 1)) fun x j hj => (mo_col k item h f _ j).up (by omega)) (fun _ => Lo.ok (Nat.le_refl _))
theorem st_bet : ∀ (k : Nat), St (betB P R k)
 | 0 => st_apply P R HR
 | k + 1 => fun i => by
  show Lo ((betB P R k >>= fun a => colL P (k + 1) (betB P R k) (P.toks.length + 1) [] >>= fun l => (pure (if k + 1 = 3 then foldR a l else foldLd a l) : M Ty)) i) _
  exact Lo.bind (st_bet k i) fun a j hj => Lo.bind (mo_col P (k + 1) _ (st_bet k) _ _ j) fun l j2 hj2 => Lo.pure (by omega)
theorem st_open : St (openB P R) := fun i => by
 have h := st_apat P R HR (i + 1)
 have h2 := st_bet P R HR 7 i
 unfold openB
 exact lo
theorem st_step : ∀ nt, St (stepB P R nt)
 | .exp => st_open P R HR
 | .pat => st_pat P R HR
 | .typ => st_arrow P R HR
 | .dec => st_dec P R HR
 | .sig => st_sigs P R HR
end
theorem st_fail {α : Type} (P : Src) (e : Nat) : St (failD (α := α) P e) := fun i => Lo.fail _ _ _ _
theorem st_rec (P : Src) : ∀ g, (∀ nt, St (readS P g nt)) ∧ StR (recS P g)
 | 0 => by
  have h : ∀ nt, St (readS P 0 nt) := fun nt => st_fail P 5
  exact ⟨h, ⟨h, st_fail P 5⟩⟩
 | g + 1 => by
  have h : ∀ nt, St (readS P (g + 1) nt) := fun nt => by rw [readS_succ]; exact st_step P _ (st_rec P g).2 nt
  exact ⟨h, ⟨h, (st_rec P g).1 .exp⟩⟩
def failK (P : Src) (e i : Nat) : Nat := if P.K i = -1 then P.fk else e
def failA (P : Src) (i : Nat) : Nat := if P.K i = -1 then P.fa else P.A i
theorem failD_at {α : Type} (P : Src) (e i : Nat) : (failD P e i : Res α) = .bad (failK P e i) (failA P i) := by
 unfold failD failK failA
 by_cases h : P.K i = -1
 · rw [if_pos h, if_pos h, if_pos h]
 · rw [if_neg h, if_neg h, if_neg h]
theorem sizeL (s : ByteArray) : s.data.toList.length = s.size := Array.length_toList
theorem whD_step {s : ByteArray} {p : Nat → Bool} {i : Nat} (h : i < s.size) (hp : p (bt s i) = true) : whD s p i = whD s p (i + 1) := by
 rw [whD, dif_pos h, if_pos hp]
theorem whD_stop {s : ByteArray} {p : Nat → Bool} {i : Nat} (h : i < s.size) (hp : p (bt s i) = false) : whD s p i = i := by
 rw [whD, dif_pos h, if_neg (by simp [hp])]
theorem whD_end {s : ByteArray} {p : Nat → Bool} {i : Nat} (h : s.size ≤ i) : whD s p i = i := by
 rw [whD, dif_neg (by omega)]
theorem whD_ge (s : ByteArray) (p : Nat → Bool) (i : Nat) : i ≤ whD s p i ∧ (i ≤ s.size → whD s p i ≤ s.size) := by
 induction i using whD.induct s p with
 | case1 i h hp ih => rw [whD_step h hp]; omega
 | case2 i h hp => rw [whD_stop h (by simpa using hp)]; omega
 | case3 i h => rw [whD_end (by omega)]; omega
theorem hasD_pos {s : ByteArray} {i a b : Nat} (h : hasD s i a b = true) : i + 2 ≤ s.size ∧ bt s i = a ∧ bt s (i + 1) = b := by simpa [hasD] using h
theorem comD_open {s : ByteArray} {i o : Nat} (h : i < s.size) (h1 : hasD s i 40 42 = true) : comD s i o = comD s (i + 2) (o + 1) := by rw [comD, dif_pos h, if_pos h1]
theorem comD_close {s : ByteArray} {i o : Nat} (h : i < s.size) (h1 : hasD s i 42 41 = true) : comD s i o = if o = 1 then some (i + 2) else comD s (i + 2) (o - 1) := by
 have h2 : hasD s i 40 42 = false := by
  have := hasD_pos h1
  simp [hasD]; omega
 rw [comD, dif_pos h, if_neg (by simp [h2]), if_pos h1]
theorem comD_else {s : ByteArray} {i o : Nat} (h : i < s.size) (h1 : hasD s i 40 42 = false) (h2 : hasD s i 42 41 = false) : comD s i o = if o = 0 then some (i + 1) else comD s (i + 1) o := by
 rw [comD, dif_pos h, if_neg (by simp [h1]), if_neg (by simp [h2])]
theorem comD_end {s : ByteArray} {i o : Nat} (h : s.size ≤ i) : comD s i o = none := by rw [comD, dif_neg (by omega)]
theorem comD_lt {s : ByteArray} (i o : Nat) : ∀ {j : Nat}, comD s i o = some j → i < j ∧ j ≤ s.size := by
 induction i, o using comD.induct s with
 | case1 i o h h1 ih =>
  intro j hj
  rw [comD_open h h1] at hj
  have := ih hj
  omega
 | case2 i h h1 h2 =>
  intro j hj
  have := hasD_pos h2
  rw [comD_close h h2] at hj
  simp at hj
  omega
 | case3 i o h h1 h2 h3 ih =>
  intro j hj
  rw [comD_close h h2, if_neg h3] at hj
  have := ih hj
  omega
 | case4 i h h1 h2 =>
  intro j hj
  rw [comD_else h (by simpa using h1) (by simpa using h2)] at hj
  simp at hj
  omega
 | case5 i o h h1 h2 h3 ih =>
  intro j hj
  rw [comD_else h (by simpa using h1) (by simpa using h2), if_neg h3] at hj
  have := ih hj
  omega
 | case6 i o h =>
  intro j hj
  rw [comD_end (by omega)] at hj
  cases hj
theorem gapD_end {s : ByteArray} {i : Nat} (h : s.size ≤ i) : gapD s i = (i, true) := by rw [gapD, dif_neg (by omega)]
theorem gapD_com {s : ByteArray} {i j : Nat} (h : hasD s i 40 42 = true) (hc : comD s i 0 = some j) : gapD s i = gapD s j := by
 have h1 := hasD_pos h
 have h2 := comD_lt _ _ hc
 rw [gapD, dif_pos (by omega), if_pos h]
 split
 · rename_i k hk
   rw [hc] at hk
   cases hk
   rw [dif_pos (by omega)]
 · rename_i hk
   rw [hc] at hk
   cases hk
theorem gapD_bad {s : ByteArray} {i : Nat} (h : hasD s i 40 42 = true) (hc : comD s i 0 = none) : gapD s i = (i, false) := by
 have h1 := hasD_pos h
 rw [gapD, dif_pos (by omega), if_pos h]
 split
 · rename_i k hk
   rw [hc] at hk
   cases hk
 · rfl
theorem gapD_blank {s : ByteArray} {i : Nat} (h : i < s.size) (h1 : blank (bt s i) = true) : gapD s i = gapD s (i + 1) := by
 have h2 : hasD s i 40 42 = false := by
  simp only [blank, decide_eq_true_eq] at h1
  simp [hasD]; omega
 rw [gapD, dif_pos h, if_neg (by simp [h2]), if_pos h1]
theorem gapD_stop {s : ByteArray} {i : Nat} (h2 : hasD s i 40 42 = false) (h1 : i < s.size → blank (bt s i) = false) : gapD s i = (i, true) := by
 by_cases h : i < s.size
 · rw [gapD, dif_pos h, if_neg (by simp [h2]), if_neg (by simp [h1 h])]
 · exact gapD_end (by omega)
theorem gapD_wh {s : ByteArray} (i : Nat) : gapD s i = gapD s (whD s blank i) := by
 induction i using whD.induct s blank with
 | case1 i h hp ih => rw [whD_step h hp, ← ih, gapD_blank h hp]
 | case2 i h hp => rw [whD_stop h (by simpa using hp)]
 | case3 i h => rw [whD_end (by omega)]
theorem gapD_ge {s : ByteArray} (i : Nat) : i ≤ s.size → i ≤ (gapD s i).1 ∧ (gapD s i).1 ≤ s.size := by
 induction i using gapD.induct s with
 | case1 i h h1 j hc hlt ih =>
  intro hi
  have := comD_lt _ _ hc
  rw [gapD_com h1 hc]
  have := ih (by omega)
  omega
 | case2 i h h1 j hc hlt => exact absurd (comD_lt _ _ hc).1 hlt
 | case3 i h h1 hc => intro hi; rw [gapD_bad h1 hc]; simp; omega
 | case4 i h h1 h2 ih =>
  intro hi
  rw [gapD_blank h h2]
  have := ih (by omega)
  omega
 | case5 i h h1 h2 => intro hi; rw [gapD_stop (by simpa using h1) (fun _ => by simpa using h2)]; simp; omega
 | case6 i h => intro hi; rw [gapD_end (by omega)]; simp; omega
theorem numD_step {s : ByteArray} {i n : Nat} (h : i < s.size) (hd : dig (bt s i) = true) : numD s i n = numD s (i + 1) (min (10 * n + (bt s i - 48)) 1000000001) := by rw [numD, dif_pos h, if_pos hd]
theorem numD_stop {s : ByteArray} {i n : Nat} (h : i < s.size → dig (bt s i) = false) : numD s i n = (n, i) := by
 rw [numD]
 split
 · rename_i h1; rw [if_neg (by simp [h h1])]
 · rfl
theorem numD_wh {s : ByteArray} (i : Nat) : ∀ n, (numD s i n).2 = whD s dig i := by
 induction i using whD.induct s dig with
 | case1 i h hp ih => intro n; rw [numD_step h hp, whD_step h hp, ih]
 | case2 i h hp => intro n; rw [whD_stop h (by simpa using hp), numD_stop (fun _ => by simpa using hp)]
 | case3 i h => intro n; rw [whD_end (by omega), numD_stop (fun h1 => absurd h1 h)]
theorem textD_quote {s : ByteArray} {i : Nat} {l : List UInt8} (h : i < s.size) (h1 : bt s i = 34) : textD s i l = if l.length ≤ 200 then some (l, i + 1) else none := by rw [textD, dif_pos h, if_pos h1]
theorem textD_low {s : ByteArray} {i : Nat} {l : List UInt8} (h : i < s.size) (h1 : bt s i < 32) : textD s i l = none := by rw [textD, dif_pos h, if_neg (by omega), if_pos h1]
theorem textD_esc {s : ByteArray} {i v j : Nat} {l : List UInt8} (h : i < s.size) (h1 : bt s i = 92) (he : escD s (i + 1) = some (v, j)) : textD s i l = textD s j (l ++ [UInt8.ofNat v]) := by
 rw [textD, dif_pos h, if_neg (by omega), if_neg (by omega), if_pos h1]
 split
 · rename_i v' j' he'
   rw [he] at he'
   cases he'
   rw [dif_pos (by have := escD_lt he; omega)]
 · rename_i he'
   rw [he] at he'
   cases he'
theorem textD_bad {s : ByteArray} {i : Nat} {l : List UInt8} (h : i < s.size) (h1 : bt s i = 92) (he : escD s (i + 1) = none) : textD s i l = none := by
 rw [textD, dif_pos h, if_neg (by omega), if_neg (by omega), if_pos h1]
 split
 · rename_i v' j' he'
   rw [he] at he'
   cases he'
 · rfl
theorem textD_byte {s : ByteArray} {i : Nat} {l : List UInt8} (h : i < s.size) (h1 : bt s i ≠ 34) (h2 : 32 ≤ bt s i) (h3 : bt s i ≠ 92) : textD s i l = textD s (i + 1) (l ++ [UInt8.ofNat (bt s i)]) := by
 rw [textD, dif_pos h, if_neg h1, if_neg (by omega), if_neg h3]
theorem textD_end {s : ByteArray} {i : Nat} {l : List UInt8} (h : s.size ≤ i) : textD s i l = none := by rw [textD, dif_neg (by omega)]
theorem textD_lt {s : ByteArray} (i : Nat) (l : List UInt8) : ∀ {r : List UInt8} {j : Nat}, textD s i l = some (r, j) → i < j ∧ j ≤ s.size ∧ r.length ≤ 200 := by
 induction i, l using textD.induct s with
 | case1 i l h h1 h2 => intro r j hr; rw [textD_quote h h1, if_pos h2] at hr; cases hr; omega
 | case2 i l h h1 h2 => intro r j hr; rw [textD_quote h h1, if_neg h2] at hr; cases hr
 | case3 i l h h1 h2 => intro r j hr; rw [textD_low h h2] at hr; cases hr
 | case4 i l h h1 h2 h3 v j' he hlt ih => intro r j hr; rw [textD_esc h h3 he] at hr; have := ih hr; have := escD_lt he; omega
 | case5 i l h h1 h2 h3 v j' he hlt => exact absurd (by have := escD_lt he; omega) hlt
 | case6 i l h h1 h2 h3 he => intro r j hr; rw [textD_bad h h3 he] at hr; cases hr
 | case7 i l h h1 h2 h3 ih => intro r j hr; rw [textD_byte h h1 (by omega) h3] at hr; have := ih hr; omega
 | case8 i l h => intro r j hr; rw [textD_end (by omega)] at hr; cases hr
theorem varD_step {s : ByteArray} {f i : Nat} (h : i < s.size) (hp : (small (bt s i) || (decide (f < i) && dig (bt s i))) = true) : varD s f i = varD s f (i + 1) := by rw [varD, dif_pos h, if_pos hp]
theorem varD_stop {s : ByteArray} {f i : Nat} (h : i < s.size → (small (bt s i) || (decide (f < i) && dig (bt s i))) = false) : varD s f i = i := by
 rw [varD]
 split
 · rename_i h1; rw [if_neg (by simpa using h h1)]
 · rfl
theorem varD_ge {s : ByteArray} (f i : Nat) : i ≤ varD s f i ∧ (i ≤ s.size → varD s f i ≤ s.size) := by
 induction i using varD.induct s f with
 | case1 i h hp ih => rw [varD_step h hp]; omega
 | case2 i h hp => rw [varD_stop (fun _ => by simpa using hp)]; omega
 | case3 i h => rw [varD_stop (fun h1 => absurd h1 h)]; omega
theorem tokD_lt {s : ByteArray} {i : Nat} {t : Tok} {j : Nat} (hi : i < s.size) (h : tokD s i = some (t, j)) : i < j ∧ j ≤ s.size := by
 unfold tokD at h
 split at h
 · rename_i hd
   have h1 := numD_wh (s := s) i 0
   have h2 := whD_ge s dig (i + 1)
   rw [whD_step hi hd] at h1
   split at h
   · cases h; omega
   · cases h
 · split at h
   · split at h
     · rename_i b j' hb
       have := textD_lt _ _ hb
       cases h; omega
     · cases h
   · split at h
     · have hgo : ∀ f, i < f → f ≤ s.size → (if f < varD s f f ∧ varD s f f - f ≤ 20 then some (((5, i, cut s i (varD s f f), 0) : Tok), varD s f f) else none) = some (t, j) → i < j ∧ j ≤ s.size := by
        intro f hf hfs hq
        have h3 := varD_ge (s := s) f f
        split at hq
        · simp only [Option.some.injEq, Prod.mk.injEq] at hq
          omega
        · cases hq
       by_cases hh : tokD.hasQ s (i + 1) = true
       · rw [if_pos hh] at h
         have h4 : i + 1 < s.size := by simp [tokD.hasQ] at hh; omega
         exact hgo _ (by omega) (by omega) h
       · rw [if_neg hh] at h
         exact hgo _ (by omega) (by omega) h
     · split at h
       · rename_i hn
         have h2 := whD_ge s inName (i + 1)
         have h1 := whD_step (s := s) (p := inName) hi (by simp only [inName, Bool.or_eq_true] at hn ⊢; rcases hn with (h | h) | h <;> simp [h])
         have hgo : ∀ (k : Nat), (if whD s inName i - i ≤ 20 then some (((k, i, cut s i (whD s inName i), 0) : Tok), whD s inName i) else none) = some (t, j) → i < j ∧ j ≤ s.size := by
          intro k hq
          split at hq
          · simp only [Option.some.injEq, Prod.mk.injEq] at hq
            omega
          · cases hq
         exact hgo _ h
       · split at h
         · rename_i hp
           simp only [Option.some.injEq, Prod.mk.injEq] at h
           omega
         · split at h
           · simp only [Option.some.injEq, Prod.mk.injEq] at h
             omega
           · cases h
theorem toksD_bad {s : ByteArray} {i j : Nat} {l : List Tok} (h : gapD s i = (j, false)) : toksD s i l = (l, (3, j)) := by rw [toksD, h]
theorem toksD_end {s : ByteArray} {i : Nat} {l : List Tok} (h : gapD s i = (s.size, true)) : toksD s i l = (l ++ [(0, s.size, ByteArray.empty, 0)], (0, 0)) := by rw [toksD, h]; simp
theorem toksD_none {s : ByteArray} {i j : Nat} {l : List Tok} (h : gapD s i = (j, true)) (hj : j ≠ s.size) (ht : tokD s j = none) : toksD s i l = (l, (3, j)) := by
 rw [toksD, h]; simp only; rw [if_neg hj, ht]
theorem toksD_some {s : ByteArray} {i j k : Nat} {t : Tok} {l : List Tok} (hi : i ≤ s.size) (h : gapD s i = (j, true)) (hj : j ≠ s.size) (ht : tokD s j = some (t, k)) : toksD s i l = toksD s k (l ++ [t]) := by
 have h1 := gapD_ge (s := s) i hi
 rw [h] at h1
 simp only at h1
 have h2 := tokD_lt (by omega) ht
 rw [toksD, h]
 simp only
 rw [if_neg hj, ht]
 simp only
 rw [dif_pos ⟨by omega, h2.2⟩]
theorem ret_bool {a b : Bool} (h : a = b) : Ending.returned (.bool a) = .returned (.bool b) := by rw [h]
theorem str_eq (a b : ByteArray) : (a.toList == b.toList) = decide (a = b) := by
 rw [Bool.eq_iff_iff]
 simp only [beq_iff_eq, decide_eq_true_eq, ByteArray.toList_eq]
 constructor
 · intro h
   exact ByteArray.ext (Array.ext' h)
 · intro h; rw [h]
def atD (s : ByteArray) (i : Nat) (t : ByteArray) : Bool := decide (i + t.size ≤ s.size ∧ cut s i (i + t.size) = t)
theorem cut_two (s : ByteArray) (k : Nat) (h : k + 2 ≤ s.size) : cut s k (k + 2) = ⟨#[s[k], s[k + 1]]⟩ := by
 have hz := sizeL s
 apply ByteArray.ext
 apply Array.ext'
 have h1 : k < s.data.toList.length := by omega
 have h2 : k + 1 < s.data.toList.length := by omega
 simp only [cut, ByteArray.data_extract, Array.toList_extract]
 rw [List.extract_eq_take_drop, List.drop_eq_getElem_cons h1, show k + 2 - k = 2 from by omega, List.drop_eq_getElem_cons h2]
 rfl
theorem u8_eq (a b : UInt8) : a = b ↔ a.toNat = b.toNat := UInt8.toNat_inj.symm
theorem atD_two (s : ByteArray) (k : Nat) (a b : UInt8) : atD s k ⟨#[a, b]⟩ = hasD s k a.toNat b.toNat := by
 have e : (⟨#[a, b]⟩ : ByteArray).size = 2 := rfl
 unfold atD hasD
 rw [e]
 by_cases h : k + 2 ≤ s.size
 · rw [cut_two s k h, ← bt_get s k (by omega), ← bt_get s (k + 1) (by omega), Bool.eq_iff_iff]
   simp [u8_eq, h]
 · simp [h]
def vfD (s : ByteArray) (i : Nat) : Nat := if tokD.hasQ s (i + 1) then i + 2 else i + 1
def wordB : List ByteArray := [⟨#[97, 110, 100]⟩, ⟨#[97, 110, 100, 97, 108, 115, 111]⟩, ⟨#[97, 115]⟩, ⟨#[99, 97, 115, 101]⟩, ⟨#[100, 97, 116, 97]⟩, ⟨#[101, 108, 115, 101]⟩, ⟨#[101, 110, 100]⟩, ⟨#[101, 120, 99, 101, 112, 116, 105, 111, 110]⟩, ⟨#[102, 97, 108, 115, 101]⟩, ⟨#[102, 110]⟩, ⟨#[102, 117, 110]⟩, ⟨#[105, 102]⟩, ⟨#[105, 110]⟩, ⟨#[108, 101, 116]⟩, ⟨#[111, 102]⟩, ⟨#[111, 112, 101, 110]⟩, ⟨#[111, 114, 101, 108, 115, 101]⟩, ⟨#[114, 97, 105, 115, 101]⟩, ⟨#[115, 105, 103]⟩, ⟨#[115, 105, 103, 110, 97, 116, 117, 114, 101]⟩, ⟨#[115, 116, 114, 117, 99, 116]⟩, ⟨#[115, 116, 114, 117, 99, 116, 117, 114, 101]⟩, ⟨#[116, 104, 101, 110]⟩, ⟨#[116, 114, 117, 101]⟩, ⟨#[116, 114, 121]⟩, ⟨#[116, 121, 112, 101]⟩, ⟨#[118, 97, 108]⟩, ⟨#[119, 105, 116, 104]⟩]
def amongD (l : List ByteArray) (s : ByteArray) : Bool := l.any fun x => decide (x = s)
end Go.Proofs.YthehjeeiodbkjaaGreatDoor
