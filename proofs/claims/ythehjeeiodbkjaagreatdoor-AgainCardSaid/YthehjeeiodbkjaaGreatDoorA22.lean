/-
  Proved: no tree that is read has more than a million parts side by side; the contract of the law's Same. Conditions: both trees fit, as trees that are read do.
-/
import Derived.Test.YthehjeeiodbkjaaGreatDoorA01
import Derived.Test.YthehjeeiodbkjaaGreatDoorA05
import Derived.Test.YthehjeeiodbkjaaGreatDoorA03
import Derived.StillTailTactics
set_option linter.unusedSimpArgs false
set_option linter.unusedVariables false
set_option linter.unusedSectionVars false
set_option maxRecDepth 100000
set_option maxHeartbeats 16000000
namespace Go.Proofs.YthehjeeiodbkjaaGreatDoor
open Go.RowKit
mutual
def Fit : Ty → Prop
 | .mk _ _ _ _ args => args.length ≤ 1000000 ∧ FitL args
def FitL : List Ty → Prop
 | [] => True
 | p :: ps => Fit p ∧ FitL ps
end
theorem Fit.args {x : Ty} (h : Fit x) : x.args.length ≤ 1000000 ∧ FitL x.args := by cases x; rw [Fit] at h; exact h
theorem FitL.app : ∀ {l r : List Ty}, FitL l → FitL r → FitL (l ++ r)
 | [], r, _, h => h
 | p :: ps, r, h1, h2 => by rw [FitL] at h1; rw [List.cons_append, FitL]; exact ⟨h1.1, FitL.app h1.2 h2⟩
theorem FitL.get : ∀ {l : List Ty} {x : Ty}, FitL l → x ∈ l → Fit x
 | p :: ps, x, h, hm => by
  rw [FitL] at h
  rcases List.mem_cons.1 hm with rfl | h2
  · exact h.1
  · exact FitL.get h.2 h2
theorem FitL.nil : FitL [] := by rw [FitL]; exact trivial
theorem FitL.one {a : Ty} (h : Fit a) : FitL [a] := by rw [FitL]; exact ⟨h, FitL.nil⟩
theorem FitL.two {a b : Ty} (h : Fit a) (h2 : Fit b) : FitL [a, b] := by rw [FitL]; exact ⟨h, FitL.one h2⟩
theorem FitL.three {a b c : Ty} (h : Fit a) (h2 : Fit b) (h3 : Fit c) : FitL [a, b, c] := by rw [FitL]; exact ⟨h, FitL.two h2 h3⟩
theorem FitL.cons {a : Ty} {l : List Ty} (h : Fit a) (h2 : FitL l) : FitL (a :: l) := by rw [FitL]; exact ⟨h, h2⟩
section
variable {k n q : Int} {s : ByteArray}
theorem fit_l {l : List Ty} (h : l.length ≤ 1000000) (h2 : FitL l) : Fit (.mk k n s q l) := by rw [Fit]; exact ⟨h, h2⟩
theorem fit0 : Fit (.mk k n s q []) := fit_l (Nat.zero_le _) FitL.nil
theorem fit1 {a : Ty} (h : Fit a) : Fit (.mk k n s q [a]) := fit_l (show 1 ≤ 1000000 by omega) (FitL.one h)
theorem fit2 {a b : Ty} (h : Fit a) (h2 : Fit b) : Fit (.mk k n s q [a, b]) := fit_l (show 2 ≤ 1000000 by omega) (FitL.two h h2)
theorem fit3 {a b c : Ty} (h : Fit a) (h2 : Fit b) (h3 : Fit c) : Fit (.mk k n s q [a, b, c]) := fit_l (show 3 ≤ 1000000 by omega) (FitL.three h h2 h3)
end
theorem fit_default : Fit default := fit0
def FL (l : List Ty) : Prop := l.length ≤ 200100 ∧ FitL l
section
variable {k n q : Int} {s : ByteArray}
theorem fitr {l : List Ty} (h : FL l) : Fit (.mk k n s q l) := fit_l (by have := h.1; omega) h.2
theorem fitc {a : Ty} {l : List Ty} (ha : Fit a) (h : FL l) : Fit (.mk k n s q (a :: l)) := fit_l (by have := h.1; rw [List.length_cons]; omega) (FitL.cons ha h.2)
theorem fita {l r : List Ty} (h : FL l) (h2 : FL r) : Fit (.mk k n s q (l ++ r)) := fit_l (by have := h.1; have := h2.1; rw [List.length_append]; omega) (h.2.app h2.2)
theorem fitb {a : Ty} {l : List Ty} (h : FL l) (ha : Fit a) : Fit (.mk k n s q (l ++ [a])) := fit_l (by have := h.1; rw [List.length_append]; show _ + 1 ≤ _; omega) (h.2.app (FitL.one ha))
end
def Po {α : Type} (r : Res α) (Q : α → Prop) : Prop := ∀ x j, r = .ok x j → Q x
def Ft (m : M Ty) : Prop := ∀ i, Po (m i) Fit
def FtL (m : M (List Ty)) : Prop := ∀ i, Po (m i) FL
theorem Po.any {α : Type} (r : Res α) : Po r fun _ => True := fun _ _ _ => trivial
theorem Po.ok {α : Type} {x : α} {j : Nat} {Q : α → Prop} (h : Q x) : Po (.ok x j) Q := fun y k e => by cases e; exact h
theorem Po.ret {α : Type} {x : α} {j : Nat} {Q : α → Prop} (h : Q x) : Po ((ret x : M α) j) Q := fun y k e => by cases e; exact h
theorem Po.pure {α : Type} {x : α} {j : Nat} {Q : α → Prop} (h : Q x) : Po ((pure x : M α) j) Q := fun y k e => by cases e; exact h
theorem Po.fail {α : Type} (P : Src) (e i : Nat) (Q : α → Prop) : Po (failD (α := α) P e i) Q := fun y k h => by
 unfold failD at h
 split at h <;> cases h
theorem Po.ite {α : Type} {c : Prop} [Decidable c] {r s : Res α} {Q : α → Prop} (h1 : c → Po r Q) (h2 : ¬ c → Po s Q) : Po (if c then r else s) Q := by
 by_cases h : c
 · rw [if_pos h]; exact h1 h
 · rw [if_neg h]; exact h2 h
theorem Po.iteM {α : Type} {c : Prop} [Decidable c] {r s : M α} {j : Nat} {Q : α → Prop} (h1 : c → Po (r j) Q) (h2 : ¬ c → Po (s j) Q) : Po ((if c then r else s) j) Q := by
 by_cases h : c
 · rw [if_pos h]; exact h1 h
 · rw [if_neg h]; exact h2 h
theorem Po.bind {α β : Type} {m : M α} {f : α → M β} {i : Nat} {Q1 : α → Prop} {Q : β → Prop} (hm : Po (m i) Q1) (h : ∀ x j, Q1 x → Po (f x j) Q) : Po ((m >>= f) i) Q := fun y k e => by
 cases hx : m i with
 | bad a n => rw [bind_bad hx] at e; cases e
 | ok x j => rw [bind_ok hx] at e; exact h x j (hm x j hx) y k e
theorem po_sep {P : Src} {item : M Ty} {s : ByteArray} (h : Ft item) : ∀ (f : Nat) (acc : List Ty) (i : Nat), acc.length + f ≤ 200100 → FitL acc → Po (sepL P item s f acc i) FL
 | 0, acc, i, hl, ha => Po.ret ⟨by omega, ha⟩
 | f + 1, acc, i, hl, ha => by
  show Po (if isD P s i = true then (item >>= fun x => sepL P item s f (acc ++ [x])) (i + 1) else .ok acc i) FL
  exact Po.ite (fun _ => Po.bind (h (i + 1)) fun x j hx => po_sep h f _ j (by rw [List.length_append]; show _ + 1 + _ ≤ _; omega) (ha.app (FitL.one hx))) (fun _ => Po.ok ⟨by omega, ha⟩)
theorem po_many {c : Nat → Bool} {item : M Ty} (h : Ft item) : ∀ (f : Nat) (acc : List Ty) (i : Nat), acc.length + f ≤ 200100 → FitL acc → Po (manyL c item f acc i) FL
 | 0, acc, i, hl, ha => Po.ret ⟨by omega, ha⟩
 | f + 1, acc, i, hl, ha => by
  show Po (if c i = true then (item >>= fun x => manyL c item f (acc ++ [x])) i else .ok acc i) FL
  exact Po.ite (fun _ => Po.bind (h i) fun x j hx => po_many h f _ j (by rw [List.length_append]; show _ + 1 + _ ≤ _; omega) (ha.app (FitL.one hx))) (fun _ => Po.ok ⟨by omega, ha⟩)
theorem po_row {P : Src} (hN : P.toks.length ≤ 100000) {item : M Ty} {s : ByteArray} (h : Ft item) : FtL (rowD P item s) := fun i => by
 show Po ((item >>= fun x => sepL P item s (P.toks.length + 1) [x]) i) FL
 exact Po.bind (h i) fun x j hx => po_sep h _ _ j (by show 1 + _ ≤ _; omega) (FitL.one hx)
structure FtR (R : Rec) : Prop where
 go : ∀ nt, Ft (R.go nt)
 deep : Ft R.deep
theorem FL.one {a : Ty} (h : Fit a) : FL [a] := ⟨show 1 ≤ 200100 by omega, FitL.one h⟩
theorem FL.nil : FL [] := ⟨Nat.zero_le _, FitL.nil⟩
theorem FL.head {l : List Ty} (h : FL l) : Fit (l.headD default) := by
 cases l with
 | nil => exact fit_default
 | cons x xs => have := h.2; rw [FitL] at this; exact this.1
theorem fitL {p : Prop} (h : p := by first | exact fit0 | assumption | exact fit1 (by assumption) | exact fit2 (by assumption) (by assumption) | exact fit3 (by assumption) (by assumption) (by assumption) | exact fitr (by assumption) | exact fitc (by assumption) (by assumption) | exact fitb (by assumption) (by assumption) | exact fitb (by assumption) (fit2 (by assumption) (by assumption)) | exact fita (by assumption) (by assumption) | exact fitr (Fit.args (by assumption))) : p := h
section
variable (P : Src) (R : Rec) (HR : FtR R) (hN : P.toks.length ≤ 100000)
include HR hN
theorem ft_appL (a : Nat) : ∀ (f : Nat) (l : List Ty) (i : Nat), FL l → Po (appL P a f l i) Fit
 | 0, l, i, _ => Po.fail _ _ _ _
 | f + 1, l, i, h => by
  show Po (if l.length ≠ 1 ∨ P.K i = 3 ∨ P.K i = 4 then (pathD P 3 >>= fun p => appL P a f [.mk 31 a p.1 0 l]) i else .ok (l.headD default) i) Fit
  exact Po.ite (fun _ => Po.bind (Po.any _) fun p j _ => ft_appL a f _ j (FL.one (fitr h))) (fun _ => Po.ok h.head)
theorem ft_applied : Ft (appliedB P R) := fun i => by
 show Po (if P.K i = 5 then appL P (P.A i) (P.toks.length + 1) [.mk 30 (P.A i) (P.T i) 0 []] (i + 1) else if isD P s_lp i = true then (rowD P (R.go .typ) s_com >>= fun l => mustD P s_rp >>= fun _ => appL P (P.A i) (P.toks.length + 1) l) (i + 1) else appL P (P.A i) (P.toks.length + 1) [] i) _
 exact Po.ite (fun _ => ft_appL P R HR hN _ _ _ _ (FL.one fit0)) (fun _ => Po.ite (fun _ => Po.bind (po_row hN (HR.go .typ) _) fun l j hl => Po.bind (Po.any _) fun _ k _ => ft_appL P R HR hN _ _ _ _ hl) (fun _ => ft_appL P R HR hN _ _ _ _ FL.nil))
theorem ft_arrow : Ft (arrowB P R) := fun i => by
 have h := ft_applied P R HR hN
 refine Po.bind (po_row hN h i) fun l j hl => ?_
 have hn : Fit (if l.length > 1 then .mk 32 (l.headD default).n ⟨#[]⟩ 0 l else l.headD default : Ty) := by
  by_cases h9 : l.length > 1
  · rw [if_pos h9]; exact fitr hl
  · rw [if_neg h9]; exact hl.head
 refine Po.bind (Po.any _) fun t j2 _ => ?_
 refine Po.iteM (fun _ => Po.bind (HR.go .typ _) fun r j3 hr => Po.pure (fit2 hn hr)) (fun _ => Po.pure hn)
theorem ft_roundPat (a : Nat) : Ft (roundPatB P R a) := fun i => by
 unfold roundPatB
 repeat' (first | exact Po.fail _ _ _ _ | exact Po.ok fitL | exact Po.ret fitL | exact Po.pure fitL | exact HR.go _ _ | exact HR.deep _ | (refine Po.ite (fun _ => ?_) (fun _ => ?_)) | (refine Po.iteM (fun _ => ?_) (fun _ => ?_)) | (refine Po.bind (by first | exact HR.go _ _ | exact HR.deep _ | exact po_row hN (by first | exact HR.go _) _ | exact Po.any _) (fun _ _ _ => ?_)))
theorem ft_apat : Ft (apatB P R) := fun i => by
 unfold apatB
 repeat' (first | exact Po.fail _ _ _ _ | exact Po.ok fitL | exact Po.ret fitL | exact Po.pure fitL | exact HR.go _ _ | exact HR.deep _ | exact ft_roundPat P R HR hN _ | exact ft_roundPat P R HR hN _ _ | (refine Po.ite (fun _ => ?_) (fun _ => ?_)) | (refine Po.iteM (fun _ => ?_) (fun _ => ?_)) | (refine Po.bind (by first | exact HR.go _ _ | exact HR.deep _ | exact po_row hN (by first | exact HR.go _ | exact ft_roundPat P R HR hN _) _ | exact ft_roundPat P R HR hN _ | exact ft_roundPat P R HR hN _ _ | exact Po.any _) (fun _ _ _ => ?_)))
theorem ft_cpat : Ft (cpatB P R) := fun i => by
 have h := ft_apat P R HR hN
 unfold cpatB
 refine Po.bind (h i) fun n j hn => ?_
 exact Po.ite (fun _ => Po.bind (h j) fun p j2 hp => Po.ret (fit1 hp)) (fun _ => Po.ok hn)
omit HR hN in
theorem ft_conses : ∀ (l : List Ty), FitL l → Fit (consesD l)
 | [], _ => fit_default
 | [p], h => by rw [FitL] at h; exact h.1
 | p :: q :: r, h => by
  rw [FitL] at h
  show Fit (.mk 27 p.n ⟨#[]⟩ 0 [p, consesD (q :: r)])
  exact fit2 h.1 (ft_conses (q :: r) h.2)
theorem ft_pat : Ft (patB P R) := fun i => by
 unfold patB
 exact Po.bind (po_row hN (ft_cpat P R HR hN) i) fun l j hl => Po.pure (ft_conses l hl.2)
theorem ft_decs (k : Nat) : FtL (decsB P R k) := fun i => po_many (HR.go .dec) _ _ i (by show 0 + _ ≤ _; omega) FitL.nil
theorem ft_con : Ft (conB P R) := fun i => by
 unfold conB
 repeat' (first | exact Po.fail _ _ _ _ | exact Po.ok fitL | exact Po.ret fitL | exact Po.pure fitL | exact HR.go _ _ | exact HR.deep _ | (refine Po.ite (fun _ => ?_) (fun _ => ?_)) | (refine Po.iteM (fun _ => ?_) (fun _ => ?_)) | (refine Po.bind (by first | exact HR.go _ _ | exact HR.deep _ | exact po_row hN (by first | exact HR.go _) _ | exact Po.any _) (fun _ _ _ => ?_)))
omit HR hN in
theorem ft_one : Ft (oneB P) := fun i => by
 unfold oneB
 exact Po.bind (Po.any _) fun s j _ => Po.pure fit0
theorem ft_headL (k : Int) (a : Nat) (i : Nat) : Po (headB P k a i) fun x => FL x.args := by
 unfold headB
 refine Po.ite (fun _ => ?_) (fun _ => Po.ite (fun _ => ?_) (fun _ => ?_))
 · exact Po.bind (ft_one P _) fun v j hv => Po.bind (Po.any _) fun s j2 _ => Po.pure (FL.one hv)
 · exact Po.bind (po_row hN (ft_one P) _) fun l j hl => Po.bind (Po.any _) fun _ j2 _ => Po.bind (Po.any _) fun s j3 _ => Po.pure hl
 · exact Po.bind (Po.any _) fun s j3 _ => Po.pure FL.nil
theorem ft_dbind : Ft (dbindB P R) := fun i => by
 unfold dbindB
 exact Po.bind (ft_headL P R HR hN 39 (P.A i) i) fun n j hn => Po.bind (Po.any _) fun _ j2 _ => Po.bind (po_row hN (ft_con P R HR hN) _) fun l j3 hl => Po.pure (fita hn hl)
theorem ft_data (a : Nat) : Ft (dataB P R a) := fun i => by
 unfold dataB
 repeat' (first | exact Po.fail _ _ _ _ | exact Po.ok fitL | exact Po.ret fitL | exact Po.pure fitL | exact HR.go _ _ | exact HR.deep _ | exact ft_dbind P R HR hN | exact ft_dbind P R HR hN _ | (refine Po.ite (fun _ => ?_) (fun _ => ?_)) | (refine Po.iteM (fun _ => ?_) (fun _ => ?_)) | (refine Po.bind (by first | exact HR.go _ _ | exact HR.deep _ | exact po_row hN (by first | exact HR.go _ | exact ft_dbind P R HR hN) _ | exact ft_dbind P R HR hN | exact ft_dbind P R HR hN _ | exact Po.any _) (fun _ _ _ => ?_)))
theorem ft_fbind : Ft (fbindB P R) := fun i => by
 have h := ft_apat P R HR hN
 unfold fbindB
 refine Po.bind (Po.any _) fun s j _ => Po.bind (h j) fun p j2 hp => Po.bind (po_many h _ _ j2 (by show 1 + _ ≤ _; omega) (FitL.one hp)) fun l j3 hl => Po.bind (Po.any _) fun c j4 _ => ?_
 refine Po.iteM (fun _ => Po.bind (HR.go .typ _) fun t j5 ht => Po.bind (Po.any _) fun _ j6 _ => Po.bind (HR.deep _) fun e j7 he => Po.pure (fitb hl (fit2 he ht))) (fun _ => Po.bind (Po.any _) fun _ j6 _ => Po.bind (HR.go .exp _) fun e j7 he => Po.pure (fitb hl he))
theorem ft_body : Ft (bodyB P R) := fun i => by
 unfold bodyB
 exact Po.ite (fun _ => Po.bind (ft_decs P R HR hN 1 _) fun l j hl => Po.bind (Po.any _) fun _ k hk => Po.pure (fitr hl)) (fun _ => Po.bind (Po.any _) fun p j _ => Po.ret fit0)
theorem ft_ann (i : Nat) : Po (annB P R i) fun g => FL g.2 := by
 unfold annB
 exact Po.ite (fun _ => Po.bind (HR.go .sig _) fun g j hg => Po.ret (FL.one hg)) (fun _ => Po.ite (fun _ => Po.bind (HR.go .sig _) fun g j hg => Po.ret (FL.one hg)) (fun _ => Po.ok FL.nil))
theorem ft_structure (a : Nat) : Ft (structureB P R a) := fun i => by
 unfold structureB
 exact Po.bind (Po.any _) fun s j _ => Po.bind (ft_ann P R HR hN j) fun g j2 hg => Po.bind (Po.any _) fun _ j3 _ => Po.bind (ft_body P R HR hN j3) fun b j4 hb => Po.pure (fitb hg hb)
theorem ft_type (k : Int) (a i : Nat) : Po ((headB P k a >>= fun n => mustD P s_eq >>= fun _ => R.go .typ >>= fun t => (pure (.mk n.k n.n n.s n.q (n.args ++ [t])) : M Ty)) i) Fit :=
 Po.bind (ft_headL P R HR hN k a i) fun n j hn => Po.bind (Po.any _) fun _ j2 _ => Po.bind (HR.go .typ _) fun t j3 ht => Po.pure (fitb hn ht)
theorem ft_exn (a i : Nat) : Po ((conB P R >>= fun c => (pure (.mk 41 a c.s c.q c.args) : M Ty)) i) Fit :=
 Po.bind (ft_con P R HR hN i) fun c j hc => Po.pure (fit_l hc.args.1 hc.args.2)
theorem ft_dec : Ft (decB P R) := fun i => by
 unfold decB
 refine Po.ite (fun _ => ?_) (fun _ => Po.ite (fun _ => ?_) (fun _ => Po.ite (fun _ => ft_type P R HR hN 37 _ _) (fun _ => Po.ite (fun _ => ft_data P R HR hN _ _) (fun _ => Po.ite (fun _ => ft_exn P R HR hN _ _) (fun _ => Po.ite (fun _ => ft_structure P R HR hN _ _) (fun _ => Po.ite (fun _ => ?_) (fun _ => ?_)))))))
 · exact Po.bind (HR.go .pat _) fun p j hp => Po.bind (Po.any _) fun _ j2 _ => Po.bind (HR.go .exp _) fun e j3 he => Po.pure (fit2 hp he)
 · exact Po.bind (po_row hN (ft_fbind P R HR hN) _) fun l j hl => Po.pure (fitr hl)
 · exact Po.bind (Po.any _) fun s j _ => Po.bind (Po.any _) fun _ j2 _ => Po.bind (HR.go .sig _) fun g j3 hg => Po.pure (fit1 hg)
 · exact Po.bind (Po.any _) fun p j _ => Po.pure fit0
theorem ft_spec : Ft (specB P R) := fun i => by
 unfold specB
 refine Po.ite (fun _ => ?_) (fun _ => Po.ite (fun _ => ?_) (fun _ => Po.ite (fun _ => ft_data P R HR hN _ _) (fun _ => Po.ite (fun _ => ft_exn P R HR hN _ _) (fun _ => Po.ite (fun _ => ?_) (fun _ => Po.fail _ _ _ _)))))
 · exact Po.bind (Po.any _) fun s j _ => Po.bind (Po.any _) fun _ j2 _ => Po.bind (HR.go .typ _) fun g j3 hg => Po.pure (fit1 hg)
 · exact Po.bind (ft_headL P R HR hN 50 _ _) fun n j hn => Po.bind (Po.any _) fun e j2 _ => Po.iteM (fun _ => Po.bind (HR.go .typ _) fun t j3 ht => Po.pure (fitb hn ht)) (fun _ => Po.pure (by cases n; exact fitr hn))
 · exact Po.bind (Po.any _) fun s j _ => Po.bind (Po.any _) fun _ j2 _ => Po.bind (HR.go .sig _) fun g j3 hg => Po.pure (fit1 hg)
theorem ft_specs : ∀ (f : Nat) (acc : List Ty) (i : Nat), acc.length + f ≤ 200100 → FitL acc → Po (specsL P R f acc i) FL
 | 0, acc, i, hl, ha => Po.ret ⟨by omega, ha⟩
 | f + 1, acc, i, hl, ha => by
  show Po (if isD P w_end i = true then .ok acc (i + 1) else (specB P R >>= fun x => specsL P R f (acc ++ [x])) i) FL
  exact Po.ite (fun _ => Po.ok ⟨by omega, ha⟩) (fun _ => Po.bind (ft_spec P R HR hN i) fun x j hx => ft_specs f _ j (by rw [List.length_append]; show _ + 1 + _ ≤ _; omega) (ha.app (FitL.one hx)))
theorem ft_sigs : Ft (sigsB P R) := fun i => by
 unfold sigsB
 exact Po.ite (fun _ => Po.bind (ft_specs P R HR hN _ _ _ (by show 0 + _ ≤ _; omega) FitL.nil) fun l j hl => Po.pure (fitr hl)) (fun _ => Po.bind (Po.any _) fun s j _ => Po.pure fit0)
theorem ft_rule : Ft (ruleB P R) := fun i => by
 unfold ruleB
 repeat' (first | exact Po.fail _ _ _ _ | exact Po.ok fitL | exact Po.ret fitL | exact Po.pure fitL | exact HR.go _ _ | exact HR.deep _ | (refine Po.ite (fun _ => ?_) (fun _ => ?_)) | (refine Po.iteM (fun _ => ?_) (fun _ => ?_)) | (refine Po.bind (by first | exact HR.go _ _ | exact HR.deep _ | exact po_row hN (by first | exact HR.go _) _ | exact Po.any _) (fun _ _ _ => ?_)))
theorem ft_rules (k : Int) (a : Nat) (w : ByteArray) : Ft (rulesB P R k a w) := fun i => by
 unfold rulesB
 exact Po.bind (HR.go .exp _) fun e j he => Po.bind (Po.any _) fun _ j2 _ => Po.bind (po_row hN (ft_rule P R HR hN) _) fun l j3 hl => Po.bind (Po.any _) fun _ j4 _ => Po.pure (fitc he hl)
theorem ft_round (a : Nat) : Ft (roundB P R a) := fun i => by
 unfold roundB
 repeat' (first | exact Po.fail _ _ _ _ | exact Po.ok fitL | exact Po.ret fitL | exact Po.pure fitL | exact HR.go _ _ | exact HR.deep _ | (refine Po.ite (fun _ => ?_) (fun _ => ?_)) | (refine Po.iteM (fun _ => ?_) (fun _ => ?_)) | (refine Po.bind (by first | exact HR.go _ _ | exact HR.deep _ | exact po_row hN (by first | exact HR.go _) _ | exact Po.any _) (fun _ _ _ => ?_)))
theorem ft_atom : Ft (atomB P R) := fun i => by
 unfold atomB
 refine Po.ite (fun _ => Po.ok fit0) (fun _ => Po.ite (fun _ => Po.ok fit0) (fun _ => Po.ite (fun _ => Po.bind (Po.any _) fun p j _ => Po.ret fit0) (fun _ => Po.ite (fun _ => Po.ok fit0) (fun _ => Po.ite (fun _ => ft_round P R HR hN _ _) (fun _ => Po.ite (fun _ => ?_) (fun _ => Po.ite (fun _ => ?_) (fun _ => Po.ite (fun _ => ft_rules P R HR hN _ _ _ _) (fun _ => Po.ite (fun _ => ft_rules P R HR hN _ _ _ _) (fun _ => Po.fail _ _ _ _)))))))))
 · exact Po.bind (Po.any _) fun e j _ => Po.iteM (fun _ => Po.pure fit0) (fun _ => Po.bind (po_row hN (HR.go .exp) _) fun l j2 hl => Po.bind (Po.any _) fun _ j3 _ => Po.pure (fitr hl))
 · exact Po.bind (ft_decs P R HR hN 2 _) fun l j hl => Po.bind (Po.any _) fun _ j2 _ => Po.bind (HR.go .exp _) fun e j3 he => Po.bind (Po.any _) fun _ j4 _ => Po.pure (fitb hl he)
theorem ft_prefixL : ∀ (f : Nat), Ft (prefixL P R f)
 | 0 => fun i => Po.fail _ _ _ _
 | f + 1 => fun i => by
  show Po (if isD P s_ti i = true ∨ isD P s_ex i = true then (prefixL P R f >>= fun n => ret (.mk 18 (P.A i) (P.T i) 0 [n])) (i + 1) else atomB P R i) _
  exact Po.ite (fun _ => Po.bind (ft_prefixL f (i + 1)) fun n j hn => Po.ret (fit1 hn)) (fun _ => ft_atom P R HR hN i)
theorem ft_prefix : Ft (prefixB P R) := ft_prefixL P R HR hN _
theorem ft_applyL : ∀ (f : Nat) (n : Ty) (i : Nat), Fit n → Po (applyL P R f n i) Fit
 | 0, n, i, h => Po.ret h
 | f + 1, n, i, h => by
  show Po (if beginsB P i = true then (prefixB P R >>= fun b => applyL P R f (.mk 8 n.n ⟨#[]⟩ 0 [n, b])) i else .ok n i) Fit
  exact Po.ite (fun _ => Po.bind (ft_prefix P R HR hN i) fun x j hx => ft_applyL f _ j (fit2 h hx)) (fun _ => Po.ok h)
theorem ft_apply : Ft (applyB P R) := fun i => by
 show Po ((prefixB P R >>= fun n => applyL P R (P.toks.length + 1) n) i) _
 exact Po.bind (ft_prefix P R HR hN i) fun n j hn => ft_applyL P R HR hN _ _ j hn
omit HR hN in
theorem ft_join (s : ByteArray) {a b : Ty} (ha : Fit a) (hb : Fit b) : Fit (joinD s a b) := by
 unfold joinD
 split
 · exact fit2 ha hb
 · split <;> exact fit2 ha hb
omit HR hN in
theorem ft_foldL : ∀ (l : List (ByteArray × Ty)) (a : Ty), Fit a → (∀ p ∈ l, Fit p.2) → Fit (foldLd a l)
 | [], a, h, _ => h
 | p :: l, a, h, hl => ft_foldL l _ (ft_join p.1 h (hl p (by simp))) (fun q hq => hl q (by simp [hq]))
omit HR hN in
theorem ft_foldR : ∀ (l : List (ByteArray × Ty)) (a : Ty), Fit a → (∀ p ∈ l, Fit p.2) → Fit (foldR a l)
 | [], a, h, _ => h
 | (s, b) :: l, a, h, hl => ft_join s h (ft_foldR l b (hl (s, b) (by simp)) (fun q hq => hl q (by simp [hq])))
omit HR hN in
theorem ft_col (k : Nat) (item : M Ty) (h : Ft item) : ∀ (f : Nat) (acc : List (ByteArray × Ty)) (i : Nat), (∀ p ∈ acc, Fit p.2) → Po (colL P k item f acc i) fun l => ∀ p ∈ l, Fit p.2
 | 0, acc, i, ha => Po.ret ha
 | f + 1, acc, i, ha => by
  show Po (if (acc.length = 0 ∨ neverB k = false) ∧ oneD P (lvL k) i = true then (item >>= fun x => colL P k item f (acc ++ [(P.T i, x)])) (i + 1) else .ok acc i) _
  exact Po.ite (fun _ => Po.bind (h (i + 1)) fun x j hx => ft_col k item h f _ j (fun p hp => by
   rcases List.mem_append.1 hp with h9 | h9
   · exact ha p h9
   · rw [List.mem_singleton] at h9; subst h9; exact hx)) (fun _ => Po.ok ha)
theorem ft_bet : ∀ (k : Nat), Ft (betB P R k)
 | 0 => ft_apply P R HR hN
 | k + 1 => fun i => by
  show Po ((betB P R k >>= fun a => colL P (k + 1) (betB P R k) (P.toks.length + 1) [] >>= fun l => (pure (if k + 1 = 3 then foldR a l else foldLd a l) : M Ty)) i) _
  refine Po.bind (ft_bet k i) fun a j ha => Po.bind (ft_col P (k + 1) _ (ft_bet k) _ _ j (fun p hp => by cases hp)) fun l j2 hl => Po.pure ?_
  by_cases h9 : k + 1 = 3
  · rw [if_pos h9]; exact ft_foldR l a ha hl
  · rw [if_neg h9]; exact ft_foldL l a ha hl
theorem ft_open : Ft (openB P R) := fun i => by
 unfold openB
 refine Po.ite (fun _ => ?_) (fun _ => Po.ite (fun _ => ?_) (fun _ => Po.ite (fun _ => ?_) (fun _ => ft_bet P R HR hN 7 _)))
 · exact Po.bind (ft_apat P R HR hN _) fun p j hp => Po.bind (Po.any _) fun _ j2 _ => Po.bind (HR.go .exp _) fun e j3 he => Po.pure (fit2 hp he)
 · exact Po.bind (HR.go .exp _) fun a j ha => Po.bind (Po.any _) fun _ j2 _ => Po.bind (HR.go .exp _) fun b j3 hb => Po.bind (Po.any _) fun _ j4 _ => Po.bind (HR.go .exp _) fun c j5 hc => Po.pure (fit3 ha hb hc)
 · exact Po.bind (HR.go .exp _) fun e j he => Po.pure (fit1 he)
theorem ft_step : ∀ nt, Ft (stepB P R nt)
 | .exp => ft_open P R HR hN
 | .pat => ft_pat P R HR hN
 | .typ => ft_arrow P R HR hN
 | .dec => ft_dec P R HR hN
 | .sig => ft_sigs P R HR hN
end
theorem ft_fail (P : Src) (e : Nat) : Ft (failD P e) := fun i => Po.fail _ _ _ _
theorem ft_rec (P : Src) (hN : P.toks.length ≤ 100000) : ∀ g, (∀ nt, Ft (readS P g nt)) ∧ FtR (recS P g)
 | 0 => by
  have h : ∀ nt, Ft (readS P 0 nt) := fun nt => ft_fail P 5
  exact ⟨h, ⟨h, ft_fail P 5⟩⟩
 | g + 1 => by
  have ih := ft_rec P hN g
  have h : ∀ nt, Ft (readS P (g + 1) nt) := fun nt => by
   rw [readS_succ]
   exact ft_step P _ ih.2 hN nt
  exact ⟨h, ⟨h, ih.1 .exp⟩⟩
def headS (pl : Bool) (t u : Ty) : Bool := decide (t.k = u.k ∧ t.s.toList = u.s.toList ∧ t.q = u.q ∧ t.args.length = u.args.length ∧ (pl = true → t.n = u.n))
mutual
def sameD (pl : Bool) : Ty → Ty → Bool
 | .mk k n s q args, .mk k' n' s' q' args' => headS pl (.mk k n s q args) (.mk k' n' s' q' args') && sameL pl args args'
def sameL (pl : Bool) : List Ty → List Ty → Bool
 | [], _ => true
 | _ :: _, [] => true
 | p :: ps, r :: rs => sameD pl p r && sameL pl ps rs
end
theorem sameL_take (pl : Bool) : ∀ {l r : List Ty} {j : Nat} (h : j < l.length) (h' : j < r.length), sameL pl (l.take (j + 1)) (r.take (j + 1)) = (sameL pl (l.take j) (r.take j) && sameD pl l[j] r[j])
 | p :: ps, r :: rs, 0, _, _ => by simp [sameL]
 | p :: ps, r :: rs, j + 1, h, h' => by
  rw [List.take_succ_cons, List.take_succ_cons, List.take_succ_cons, List.take_succ_cons, sameL, sameL, sameL_take pl (by simpa using h) (by simpa using h'), Bool.and_assoc]
  rfl
theorem sameL_cut (pl : Bool) : ∀ (l r : List Ty) (j : Nat) (h : j < l.length) (h' : j < r.length), sameD pl l[j] r[j] = false → sameL pl l r = false
 | p :: ps, r :: rs, 0, _, _, e => by rw [sameL]; simp only [List.getElem_cons_zero] at e; rw [e]; rfl
 | p :: ps, r :: rs, j + 1, h, h', e => by
  rw [sameL, sameL_cut pl ps rs j (by simpa using h) (by simpa using h') (by simpa using e), Bool.and_false]
theorem sameD_args (pl : Bool) (t u : Ty) : sameD pl t u = (headS pl t u && sameL pl t.args u.args) := by cases t; cases u; rw [sameD]; rfl
theorem lsame_any (pl : Bool) : ∀ (f : Nat) (t : Ty), parts t ≤ f → ∀ (u : Ty) (D : Nat → Prop) (ao aq : Option Addr) (cap cq : Nat) (w : World), (∀ b, D b → b < w.heap.size) → SlD w D t.args ao cap → SlD w D u.args aq cq → Fit t → Fit u →
 Calls Tryz.prog 14 #[.agg (rowOf t ao cap), .agg (rowOf u aq cq), .bool pl] w fun e w' => e = .returned (.bool (sameD pl t u)) ∧ Below w.heap.size w w' := by
 intro f
 induction f with
 | zero => intro t ht; have := parts_pos t; omega
 | succ f IH =>
  intro t ht u D ao aq cap cq w hD hv hv2 hfit hfit2
  obtain ⟨c, hc⟩ : ∃ c, c = t.args.length := ⟨_, rfl⟩
  obtain ⟨c', hc'⟩ : ∃ c', c' = u.args.length := ⟨_, rfl⟩
  obtain ⟨W0, hW0⟩ : ∃ W0, W0 = w.alloc (.cells (rowOf t ao cap) 26) := ⟨_, rfl⟩
  obtain ⟨hbW0, hlW0, hrow0⟩ := box_at hW0
  obtain ⟨W, hW⟩ : ∃ W, W = W0.alloc (.cells (rowOf u aq cq) 26) := ⟨_, rfl⟩
  obtain ⟨hbW1, hlW1, hrow2⟩ := box_at hW
  have hs0 : W0.heap.size = w.heap.size + 1 := by rw [hW0]; simp
  have hbW := hbW0.trans (hbW1.mono hbW0.size)
  have hrow := blk_below hrow0 hbW1 hlW0
  rw [hs0] at hrow2
  have hl1 : w.heap.size < W.heap.size := lt_of_block hrow
  have hl2 : w.heap.size + 1 < W.heap.size := lt_of_block hrow2
  rw [hW0] at hW
  have hcl : c ≤ 1000000 := by rw [hc]; exact hfit.args.1
  have hcl2 : c' ≤ 1000000 := by rw [hc']; exact hfit2.args.1
  obtain ⟨ans, hans⟩ : ∃ ans, ans = sameD pl t u := ⟨_, rfl⟩
  rw [← hans]
  have hans2 := hans
  rw [sameD_args] at hans2
  have HANS : Hid (ans = (headS pl t u && sameL pl t.args u.args)) := lh hans2
  have HH : Hid (headS pl t u = decide (t.k = u.k ∧ t.s.toList = u.s.toList ∧ t.q = u.q ∧ c = c' ∧ (pl = true → t.n = u.n))) := lh (by rw [hc, hc']; rfl)
  unfold rowOf at hW hrow hrow2
  unfold rowOf
  rw [← hc] at hW hrow
  rw [← hc'] at hW hrow2
  rw [← hc, ← hc']
  have HC := lh hc
  have HC' := lh hc'
  have HT := lh ht
  have HFIT := lh hfit
  have HFIT2 := lh hfit2
  have HIH := lh IH
  have HD := lh hD
  have HV := lh hv
  have HV2 := lh hv2
  have HBW := lh hbW
  have HROW := lh hrow
  have HROW2 := lh hrow2
  have c0 : W.cell? ⟨w.heap.size, 0, none⟩ = some (.int .i64 t.k) := blk_cell hrow 0
  have c1 : W.cell? ⟨w.heap.size, 1, none⟩ = some (.int .i64 t.n) := blk_cell hrow 1
  have c2 : W.cell? ⟨w.heap.size, 2, none⟩ = some (.string t.s) := blk_cell hrow 2
  have c3 : W.cell? ⟨w.heap.size, 3, none⟩ = some (.int .i64 t.q) := blk_cell hrow 3
  have c4 : W.cell? ⟨w.heap.size, 4, none⟩ = some (.slice ao c cap) := blk_cell hrow 4
  have d0 : W.cell? ⟨w.heap.size + 1, 0, none⟩ = some (.int .i64 u.k) := blk_cell hrow2 0
  have d1 : W.cell? ⟨w.heap.size + 1, 1, none⟩ = some (.int .i64 u.n) := blk_cell hrow2 1
  have d2 : W.cell? ⟨w.heap.size + 1, 2, none⟩ = some (.string u.s) := blk_cell hrow2 2
  have d3 : W.cell? ⟨w.heap.size + 1, 3, none⟩ = some (.int .i64 u.q) := blk_cell hrow2 3
  have d4 : W.cell? ⟨w.heap.size + 1, 4, none⟩ = some (.slice aq c' cq) := blk_cell hrow2 4
  clear IH hD hv hv2 hc hc' ht hfit hfit2 hbW hrow hrow2 hbW0 hbW1 hW0 hrow0 hs0 hlW0 hlW1 hans hans2
  go_enter Tryz.func14, Tryz.ntmps14
  go_upto_region 1 with fail
  rw [← hW]
  have HWW := lh hW
  clear hW
  generalize Value.agg #[.int .i64 t.k, .int .i64 t.n, .string t.s, .int .i64 t.q, .slice ao c cap] = v0
  generalize Value.agg #[.int .i64 u.k, .int .i64 u.n, .string u.s, .int .i64 u.q, .slice aq c' cq] = v1
  by_cases h1 : t.k = u.k
  case neg =>
   have b1 : (t.k != u.k) = true := by simpa using h1
   have H1 := lh h1
   clear h1
   go_wp2_with fail
   go_ret
   exact ⟨by rw [HANS.out, HH.out]; simp [H1.out], HBW.out⟩
  have b1 : (t.k != u.k) = false := by simpa using h1
  have H1 := lh h1
  clear h1
  by_cases h2 : t.s.toList = u.s.toList
  case neg =>
   have H2 := lh h2
   go_wp2_with fail
   go_ret
   exact ⟨by rw [HANS.out, HH.out]; simp [H2.out], HBW.out⟩
  have H2 := lh h2
  by_cases h5 : t.q = u.q
  case neg =>
   have b5 : (t.q != u.q) = true := by simpa using h5
   have H5 := lh h5
   clear h5
   go_wp2_with fail
   go_ret
   exact ⟨by rw [HANS.out, HH.out]; simp [H5.out], HBW.out⟩
  have b5 : (t.q != u.q) = false := by simpa using h5
  have H5 := lh h5
  clear h5
  by_cases h4 : c = c'
  case neg =>
   have b4 : ((c : Int) != (c' : Int)) = true := by simp; omega
   have H4 := lh h4
   clear h4
   go_wp2_with fail
   go_ret
   exact ⟨by rw [HANS.out, HH.out]; simp [H4.out], HBW.out⟩
  subst h4
  have blen : ((c : Int) != (c : Int)) = false := by simp
  have HPL : Hid (headS pl t u = decide (pl = true → t.n = u.n)) := lh (by rw [HH.out]; simp [H1.out, H2.out, H5.out])
  cases hpl : pl with
  | false =>
   subst hpl
   have HH2 : Hid (ans = sameL false t.args u.args) := lh (by rw [HANS.out, HPL.out]; simp)
   go_upto_region 3 with fail
   clear h2 b1 b5 blen c0 c1 c2 c3 d0 d1 d2 d3
   go_wp2_with fail
   go_loopw [7] (fun i wr => ∃ j : Nat, i = .int .i64 (j : Int) ∧ j ≤ c ∧ sameL false (t.args.take j) (u.args.take j) = true ∧ Below W.heap.size W wr) (fun i _ => c - (intOf i).toNat)
   case atStart => exact ⟨0, rfl, Nat.zero_le _, by simp [sameL], Below.refl _ _⟩
   case round =>
    obtain ⟨j, rfl, hj, hal, hbr⟩ := hrel
    obtain ⟨wo, rfl⟩ : ∃ wo : World, wo = wr := ⟨_, rfl⟩
    have hrow := blk_below HROW.out hbr hl1
    have hrow2 := blk_below HROW2.out hbr hl2
    have c4 : wo.cell? ⟨w.heap.size, 4, none⟩ = some (.slice ao c cap) := blk_cell hrow 4
    have d4 : wo.cell? ⟨w.heap.size + 1, 4, none⟩ = some (.slice aq c cq) := blk_cell hrow2 4
    have HBR := lh hbr
    have HAL := lh hal
    clear hbr hrow hrow2 hal
    by_cases hlt : j < c
    · have hd : decide ((j : Int) < (c : Int)) = true := by simp; omega
      have hjk : j < t.args.length := by rw [← HC.out]; exact hlt
      have hjk2 : j < u.args.length := by rw [← HC'.out]; exact hlt
      have hbo : Below w.heap.size w wo := HBW.out.trans (HBR.out.mono (Nat.le_of_lt hl1))
      have hvr : SlD wo D t.args ao cap := HV.out.keep fun b hb off => below_cells hbo b (HD.out b hb) off
      have hvr2 : SlD wo D u.args aq cq := HV2.out.keep fun b hb off => below_cells hbo b (HD.out b hb) off
      obtain ⟨b, p, ap, cp, hDb, hix, x0, x1, x2, x3, x4, hs⟩ := arg_cells hvr hjk
      obtain ⟨b', p', ap', cp', hDb', hix', y0, y1, y2, y3, y4, hs'⟩ := arg_cells hvr2 hjk2
      rw [← HC.out] at hix
      rw [← HC'.out] at hix'
      obtain ⟨a, ha⟩ : ∃ a, a = t.args[j] := ⟨_, rfl⟩
      obtain ⟨a', ha'⟩ : ∃ a', a' = u.args[j] := ⟨_, rfl⟩
      rw [← ha] at x0 x1 x2 x3 x4 hs
      rw [← ha'] at y0 y1 y2 y3 y4 hs'
      have hmem : a ∈ t.args := by rw [ha]; exact List.getElem_mem _
      have hmem' : a' ∈ u.args := by rw [ha']; exact List.getElem_mem _
      have hcall := HIH.out a (by have h1 := HT.out; rw [parts_args] at h1; have := parts_mem hmem; omega) a' D ap ap' cp cp' wo.drew (fun b hb => Nat.lt_of_lt_of_le (HD.out b hb) hbo.size) (hs.keep fun _ _ _ => rfl) (hs'.keep fun _ _ _ => rfl) (HFIT.out.args.2.get hmem) (HFIT2.out.args.2.get hmem')
      obtain ⟨res, hres⟩ : ∃ res, res = sameD false a a' := ⟨_, rfl⟩
      rw [← hres] at hcall
      unfold rowOf at hcall
      have HCALL := lh hcall
      have HA := lh ha
      have HA' := lh ha'
      have HRES := lh hres
      have z4 : wo.drew.cell? ⟨w.heap.size, 4, none⟩ = some (.slice ao c cap) := c4
      have v4 : wo.drew.cell? ⟨w.heap.size + 1, 4, none⟩ = some (.slice aq c cq) := d4
      have X0 : wo.drew.cell? ⟨b, p, none⟩ = some (.int .i64 a.k) := x0
      have X1 : wo.drew.cell? ⟨b, p + 1, none⟩ = some (.int .i64 a.n) := x1
      have X2 : wo.drew.cell? ⟨b, p + 2, none⟩ = some (.string a.s) := x2
      have X3 : wo.drew.cell? ⟨b, p + 3, none⟩ = some (.int .i64 a.q) := x3
      have X4 : wo.drew.cell? ⟨b, p + 4, none⟩ = some (.slice ap a.args.length cp) := x4
      have Y0 : wo.drew.cell? ⟨b', p', none⟩ = some (.int .i64 a'.k) := y0
      have Y1 : wo.drew.cell? ⟨b', p' + 1, none⟩ = some (.int .i64 a'.n) := y1
      have Y2 : wo.drew.cell? ⟨b', p' + 2, none⟩ = some (.string a'.s) := y2
      have Y3 : wo.drew.cell? ⟨b', p' + 3, none⟩ = some (.int .i64 a'.q) := y3
      have Y4 : wo.drew.cell? ⟨b', p' + 4, none⟩ = some (.slice ap' a'.args.length cp') := y4
      clear hcall hvr hvr2 hs hs' ha ha' hmem hmem' hbo hres x0 x1 x2 x3 x4 y0 y1 y2 y3 y4
      go_upto_region 6 with fail
      refine wp_region_still_tail 11 (by kernel_rfl) (by kernel_rfl) ?_
      simp only [List.take_succ_cons, List.take_zero, List.drop_succ_cons, List.drop_zero]
      change wpStill _ _ wo.drew _ _ _
      iterate 11 still_step
      refine wpStill_nil ?_
      change wpList _ _ _ _ _ wo.drew
      clear X0 X1 X2 X3 X4 Y0 Y1 Y2 Y3 Y4 z4 v4 c4 d4
      cases hr : res with
      | true =>
       subst hr
       go_wp2_with (first | (go_at_call 14; refine HCALL.out.mono ?_; rintro e w7 ⟨rfl, hb7⟩))
       go_roundw
       case rel =>
        refine ⟨j + 1, by go_num, hlt, ?_, HBR.out.drew.trans (hb7.mono HBR.out.size)⟩
        rw [sameL_take false hjk hjk2, HAL.out, ← HA.out, ← HA'.out, ← HRES.out]; rfl
       case measure => simp only [intOf]; omega
      | false =>
       subst hr
       go_wp2_with (first | (go_at_call 14; refine HCALL.out.mono ?_; rintro e w7 ⟨rfl, hb7⟩))
       go_ret
       refine ⟨?_, HBW.out.trans ((HBR.out.drew.trans (hb7.mono HBR.out.size)).mono (Nat.le_of_lt hl1))⟩
       have e : ans = false := by
        rw [HH2.out]
        exact sameL_cut false _ _ j hjk hjk2 (by rw [← HA.out, ← HA'.out]; exact HRES.out.symm)
       exact congrArg (fun b : Bool => Ending.returned (.bool b)) e.symm
    · obtain rfl : j = c := by omega
      have hd : decide ((j : Int) < (j : Int)) = false := by simp
      go_wp2_with fail
      go_ret
      refine ⟨?_, HBW.out.trans (HBR.out.mono (Nat.le_of_lt hl1))⟩
      have h1 := HAL.out
      rw [show t.args.take j = t.args from by rw [HC.out, List.take_length], show u.args.take j = u.args from by rw [HC'.out, List.take_length], ← HH2.out] at h1
      exact congrArg (fun b : Bool => Ending.returned (.bool b)) h1.symm
  | true =>
   subst hpl
   by_cases h3 : t.n = u.n
   case neg =>
    have b3 : (t.n != u.n) = true := by simpa using h3
    have H3 := lh h3
    clear h3
    go_wp2_with fail
    go_ret
    exact ⟨by rw [HANS.out, HPL.out]; simp [H3.out], HBW.out⟩
   have b3 : (t.n != u.n) = false := by simpa using h3
   have H3 := lh h3
   clear h3
   have HH2 : Hid (ans = sameL true t.args u.args) := lh (by rw [HANS.out, HPL.out]; simp [H3.out])
   go_upto_region 3 with fail
   clear h2 b1 b5 blen b3 c0 c1 c2 c3 d0 d1 d2 d3
   go_wp2_with fail
   go_loopw [7] (fun i wr => ∃ j : Nat, i = .int .i64 (j : Int) ∧ j ≤ c ∧ sameL true (t.args.take j) (u.args.take j) = true ∧ Below W.heap.size W wr) (fun i _ => c - (intOf i).toNat)
   case atStart => exact ⟨0, rfl, Nat.zero_le _, by simp [sameL], Below.refl _ _⟩
   case round =>
    obtain ⟨j, rfl, hj, hal, hbr⟩ := hrel
    obtain ⟨wo, rfl⟩ : ∃ wo : World, wo = wr := ⟨_, rfl⟩
    have hrow := blk_below HROW.out hbr hl1
    have hrow2 := blk_below HROW2.out hbr hl2
    have c4 : wo.cell? ⟨w.heap.size, 4, none⟩ = some (.slice ao c cap) := blk_cell hrow 4
    have d4 : wo.cell? ⟨w.heap.size + 1, 4, none⟩ = some (.slice aq c cq) := blk_cell hrow2 4
    have HBR := lh hbr
    have HAL := lh hal
    clear hbr hrow hrow2 hal
    by_cases hlt : j < c
    · have hd : decide ((j : Int) < (c : Int)) = true := by simp; omega
      have hjk : j < t.args.length := by rw [← HC.out]; exact hlt
      have hjk2 : j < u.args.length := by rw [← HC'.out]; exact hlt
      have hbo : Below w.heap.size w wo := HBW.out.trans (HBR.out.mono (Nat.le_of_lt hl1))
      have hvr : SlD wo D t.args ao cap := HV.out.keep fun b hb off => below_cells hbo b (HD.out b hb) off
      have hvr2 : SlD wo D u.args aq cq := HV2.out.keep fun b hb off => below_cells hbo b (HD.out b hb) off
      obtain ⟨b, p, ap, cp, hDb, hix, x0, x1, x2, x3, x4, hs⟩ := arg_cells hvr hjk
      obtain ⟨b', p', ap', cp', hDb', hix', y0, y1, y2, y3, y4, hs'⟩ := arg_cells hvr2 hjk2
      rw [← HC.out] at hix
      rw [← HC'.out] at hix'
      obtain ⟨a, ha⟩ : ∃ a, a = t.args[j] := ⟨_, rfl⟩
      obtain ⟨a', ha'⟩ : ∃ a', a' = u.args[j] := ⟨_, rfl⟩
      rw [← ha] at x0 x1 x2 x3 x4 hs
      rw [← ha'] at y0 y1 y2 y3 y4 hs'
      have hmem : a ∈ t.args := by rw [ha]; exact List.getElem_mem _
      have hmem' : a' ∈ u.args := by rw [ha']; exact List.getElem_mem _
      have hcall := HIH.out a (by have h1 := HT.out; rw [parts_args] at h1; have := parts_mem hmem; omega) a' D ap ap' cp cp' wo.drew (fun b hb => Nat.lt_of_lt_of_le (HD.out b hb) hbo.size) (hs.keep fun _ _ _ => rfl) (hs'.keep fun _ _ _ => rfl) (HFIT.out.args.2.get hmem) (HFIT2.out.args.2.get hmem')
      obtain ⟨res, hres⟩ : ∃ res, res = sameD true a a' := ⟨_, rfl⟩
      rw [← hres] at hcall
      unfold rowOf at hcall
      have HCALL := lh hcall
      have HA := lh ha
      have HA' := lh ha'
      have HRES := lh hres
      have z4 : wo.drew.cell? ⟨w.heap.size, 4, none⟩ = some (.slice ao c cap) := c4
      have v4 : wo.drew.cell? ⟨w.heap.size + 1, 4, none⟩ = some (.slice aq c cq) := d4
      have X0 : wo.drew.cell? ⟨b, p, none⟩ = some (.int .i64 a.k) := x0
      have X1 : wo.drew.cell? ⟨b, p + 1, none⟩ = some (.int .i64 a.n) := x1
      have X2 : wo.drew.cell? ⟨b, p + 2, none⟩ = some (.string a.s) := x2
      have X3 : wo.drew.cell? ⟨b, p + 3, none⟩ = some (.int .i64 a.q) := x3
      have X4 : wo.drew.cell? ⟨b, p + 4, none⟩ = some (.slice ap a.args.length cp) := x4
      have Y0 : wo.drew.cell? ⟨b', p', none⟩ = some (.int .i64 a'.k) := y0
      have Y1 : wo.drew.cell? ⟨b', p' + 1, none⟩ = some (.int .i64 a'.n) := y1
      have Y2 : wo.drew.cell? ⟨b', p' + 2, none⟩ = some (.string a'.s) := y2
      have Y3 : wo.drew.cell? ⟨b', p' + 3, none⟩ = some (.int .i64 a'.q) := y3
      have Y4 : wo.drew.cell? ⟨b', p' + 4, none⟩ = some (.slice ap' a'.args.length cp') := y4
      clear hcall hvr hvr2 hs hs' ha ha' hmem hmem' hbo hres x0 x1 x2 x3 x4 y0 y1 y2 y3 y4
      go_upto_region 6 with fail
      refine wp_region_still_tail 11 (by kernel_rfl) (by kernel_rfl) ?_
      simp only [List.take_succ_cons, List.take_zero, List.drop_succ_cons, List.drop_zero]
      change wpStill _ _ wo.drew _ _ _
      iterate 11 still_step
      refine wpStill_nil ?_
      change wpList _ _ _ _ _ wo.drew
      clear X0 X1 X2 X3 X4 Y0 Y1 Y2 Y3 Y4 z4 v4 c4 d4
      cases hr : res with
      | true =>
       subst hr
       go_wp2_with (first | (go_at_call 14; refine HCALL.out.mono ?_; rintro e w7 ⟨rfl, hb7⟩))
       go_roundw
       case rel =>
        refine ⟨j + 1, by go_num, hlt, ?_, HBR.out.drew.trans (hb7.mono HBR.out.size)⟩
        rw [sameL_take true hjk hjk2, HAL.out, ← HA.out, ← HA'.out, ← HRES.out]; rfl
       case measure => simp only [intOf]; omega
      | false =>
       subst hr
       go_wp2_with (first | (go_at_call 14; refine HCALL.out.mono ?_; rintro e w7 ⟨rfl, hb7⟩))
       go_ret
       refine ⟨?_, HBW.out.trans ((HBR.out.drew.trans (hb7.mono HBR.out.size)).mono (Nat.le_of_lt hl1))⟩
       have e : ans = false := by
        rw [HH2.out]
        exact sameL_cut true _ _ j hjk hjk2 (by rw [← HA.out, ← HA'.out]; exact HRES.out.symm)
       exact congrArg (fun b : Bool => Ending.returned (.bool b)) e.symm
    · obtain rfl : j = c := by omega
      have hd : decide ((j : Int) < (j : Int)) = false := by simp
      go_wp2_with fail
      go_ret
      refine ⟨?_, HBW.out.trans (HBR.out.mono (Nat.le_of_lt hl1))⟩
      have h1 := HAL.out
      rw [show t.args.take j = t.args from by rw [HC.out, List.take_length], show u.args.take j = u.args from by rw [HC'.out, List.take_length], ← HH2.out] at h1
      exact congrArg (fun b : Bool => Ending.returned (.bool b)) h1.symm
end Go.Proofs.YthehjeeiodbkjaaGreatDoor
