/-
  Proved: of typed patterns and values: where a value is matched by a row and by none of some others, the row is useful. No condition.
-/
import Derived.Test.YtcieoelogocjkaaS0
set_option linter.unusedSimpArgs false
set_option linter.unusedVariables false
namespace Go.Proofs.Ytcieoelogocjkaa

mutual
/-- does a value match? -/
def M : Pt → Pt → Bool
  | .mk k n _ _ _ kids, v => if k = 0 ∨ k = 1 then true else if k = 2 then M1 kids v else decide (k = v.k ∧ n = v.n) && ML kids v.kids
def M1 : List Pt → Pt → Bool
  | [], _ => true
  | p :: _, v => M p v
def ML : List Pt → List Pt → Bool
  | [], [] => true
  | p :: ps, v :: vs => M p v && ML ps vs
  | [], _ :: _ => false
  | _ :: _, [] => false
end
inductive Srt where | s0 | s1 | s2 | s3 | s4 | s5 | s6
deriving DecidableEq
open Srt
/-- how many constructors a sort has (0: it has none) -/
def ofS : Srt → Int | s0 => 0 | s1 => 2 | s2 => 2 | s3 => 2 | s4 => 0 | s5 => 3 | s6 => 0
def tupK : Srt → List Srt | s4 => [s1, s2] | s6 => [s1, s3] | _ => []
def conK : Srt → Int → List Srt
  | s2, n => if n = 1 then [s0] else []
  | s3, n => if n = 1 then [s6] else []
  | s5, n => if n = 1 then [s1] else if n = 2 then [s4] else []
  | _, _ => []
/-- the sorts of what is inside -/
def inK (s : Srt) (k n : Int) : List Srt := if k = 5 then tupK s else if k = 6 then conK s n else []
mutual
def Pty : Srt → Pt → Prop
  | s, .mk k n o _ _ kids => (k = 0 ∧ kids = []) ∨ (k = 1 ∧ kids = []) ∨ (k = 2 ∧ PtyL [s] kids) ∨ (k = 3 ∧ s = s0 ∧ kids = []) ∨ (k = 5 ∧ n = 0 ∧ tupK s ≠ [] ∧ PtyL (tupK s) kids) ∨ (k = 6 ∧ 0 ≤ n ∧ n < ofS s ∧ o = ofS s ∧ PtyL (conK s n) kids)
def PtyL : List Srt → List Pt → Prop
  | [], [] => True
  | s :: ss, p :: ps => Pty s p ∧ PtyL ss ps
  | [], _ :: _ => False
  | _ :: _, [] => False
end
/-- a value of a sort -/
def Vhd (s : Srt) (v : Pt) : Prop := (v.k = 3 ∧ s = s0) ∨ (v.k = 5 ∧ v.n = 0 ∧ tupK s ≠ []) ∨ (v.k = 6 ∧ 0 ≤ v.n ∧ v.n < ofS s)
mutual
def Vty : Srt → Pt → Prop
  | s, .mk k n o a t kids => Vhd s (.mk k n o a t kids) ∧ VtyL (inK s k n) kids
def VtyL : List Srt → List Pt → Prop
  | [], [] => True
  | s :: ss, p :: ps => Vty s p ∧ VtyL ss ps
  | [], _ :: _ => False
  | _ :: _, [] => False
end
theorem Vty.hd {s : Srt} {v : Pt} (h : Vty s v) : Vhd s v := by cases v; unfold Vty at h; exact h.1
theorem Vty.kids {s : Srt} {v : Pt} (h : Vty s v) : VtyL (inK s v.k v.n) v.kids := by cases v; unfold Vty at h; exact h.2
theorem VtyL.len : ∀ {ss : List Srt} {vs : List Pt}, VtyL ss vs → vs.length = ss.length
  | [], [], _ => rfl
  | s :: ss, v :: vs, h => by unfold VtyL at h; simp [VtyL.len h.2]
theorem VtyL.app : ∀ {ss ss' : List Srt} {vs vs' : List Pt}, VtyL ss vs → VtyL ss' vs' → VtyL (ss ++ ss') (vs ++ vs')
  | [], _, [], _, _, h' => h'
  | s :: ss, _, v :: vs, _, h, h' => by unfold VtyL at h; rw [List.cons_append, List.cons_append]; unfold VtyL; exact ⟨h.1, h.2.app h'⟩
theorem PtyL.len : ∀ {ss : List Srt} {ps : List Pt}, PtyL ss ps → ps.length = ss.length
  | [], [], _ => rfl
  | s :: ss, v :: vs, h => by unfold PtyL at h; simp [PtyL.len h.2]
theorem PtyL.app : ∀ {ss ss' : List Srt} {vs vs' : List Pt}, PtyL ss vs → PtyL ss' vs' → PtyL (ss ++ ss') (vs ++ vs')
  | [], _, [], _, _, h' => h'
  | s :: ss, _, v :: vs, _, h, h' => by unfold PtyL at h; rw [List.cons_append, List.cons_append]; unfold PtyL; exact ⟨h.1, h.2.app h'⟩
theorem pty_any (s : Srt) : Pty s anyP := by unfold anyP Pty; exact .inl ⟨rfl, rfl⟩
theorem ptyL_any : ∀ (ss : List Srt), PtyL ss (List.replicate ss.length anyP)
  | [] => by simp only [List.length_nil, List.replicate]; unfold PtyL; trivial
  | s :: ss => by rw [List.length_cons, List.replicate_succ]; unfold PtyL; exact ⟨pty_any s, ptyL_any ss⟩
theorem ptyL_cons {s : Srt} {ss : List Srt} {p : Pt} {ps : List Pt} (h : PtyL (s :: ss) (p :: ps)) : Pty s p ∧ PtyL ss ps := by unfold PtyL at h; exact h
theorem conK_len (s : Srt) (n : Int) : (conK s n).length ≤ 1 := by
  unfold conK
  split
  · split <;> simp
  · split <;> simp
  · split
    · simp
    · split <;> simp
  · simp
theorem tupK_len (s : Srt) : (tupK s).length ≠ 1 := by cases s <;> simp [tupK]
mutual
theorem pty_proper : ∀ {s : Srt} {p : Pt}, Pty s p → Proper p
  | s, .mk k n o a t kids, h => by
    unfold Pty at h
    unfold Proper
    rcases h with ⟨rfl, rfl⟩ | ⟨rfl, rfl⟩ | ⟨rfl, h⟩ | ⟨rfl, _, rfl⟩ | ⟨rfl, _, _, h⟩ | ⟨rfl, h0, h1, h2, h⟩
    · exact ⟨rfl, by unfold ProperL; trivial⟩
    · exact ⟨rfl, by unfold ProperL; trivial⟩
    · refine ⟨?_, pty_properL h⟩
      show decide (kids.length = 1) = true
      rw [h.len]; rfl
    · exact ⟨rfl, by unfold ProperL; trivial⟩
    · refine ⟨?_, pty_properL h⟩
      show decide (kids.length ≠ 1) = true
      rw [h.len]
      simp [tupK_len]
    · refine ⟨?_, pty_properL h⟩
      show decide (kids.length ≤ 1 ∧ 0 ≤ n ∧ n < o) = true
      have := conK_len s n
      rw [h.len]
      simp only [decide_eq_true_eq]
      omega
theorem pty_properL : ∀ {ss : List Srt} {ps : List Pt}, PtyL ss ps → ProperL ps
  | [], [], _ => by unfold ProperL; trivial
  | s :: ss, p :: ps, h => by unfold PtyL at h; unfold ProperL; exact ⟨pty_proper h.1, pty_properL h.2⟩
end
mutual
theorem m_bare : ∀ {s : Srt} {p : Pt}, Pty s p → (∀ v, M (bare p) v = M p v) ∧ Pty s (bare p)
  | s, .mk k n o a t kids, h => by
    rw [bare]
    by_cases h2 : k = 2
    · rw [if_pos h2]
      subst h2
      have hk : PtyL [s] kids := by
        unfold Pty at h
        rcases h with ⟨h, _⟩ | ⟨h, _⟩ | ⟨_, h⟩ | ⟨h, _⟩ | ⟨h, _⟩ | ⟨h, _⟩
        · omega
        · omega
        · exact h
        · omega
        · omega
        · omega
      have := m_bareL hk
      refine ⟨fun v => ?_, this.2⟩
      rw [this.1 v, M, if_neg (by omega), if_pos rfl]
    · rw [if_neg h2]
      by_cases h1 : k = 1
      · rw [if_pos h1]
        refine ⟨fun v => ?_, pty_any s⟩
        unfold anyP
        rw [M, M, if_pos (.inl rfl), if_pos (.inr h1)]
      · rw [if_neg h1]
        exact ⟨fun _ => rfl, h⟩
theorem m_bareL : ∀ {s : Srt} {l : List Pt}, PtyL [s] l → (∀ v, M (bareL l) v = M1 l v) ∧ Pty s (bareL l)
  | s, p :: ps, h => by
    unfold PtyL at h
    rw [bareL]
    have := m_bare h.1
    exact ⟨fun v => by rw [this.1 v, M1], this.2⟩
end
/-- a bare pattern that asks for something -/
theorem bare_form {s : Srt} {p : Pt} (h : Pty s p) (h0 : (bare p).k ≠ 0) : Vhd s (bare p) ∧ PtyL (inK s (bare p).k (bare p).n) (bare p).kids ∧ ((bare p).k = 6 → (bare p).o = ofS s) := by
  have hb := (m_bare h).2
  have hp := proper_bare (pty_proper h)
  cases hq : bare p with
  | mk k n o a t kids =>
  rw [hq] at hb h0 hp
  unfold Pty at hb
  rcases hb with ⟨hk, _⟩ | ⟨hk, _⟩ | ⟨hk, _⟩ | ⟨rfl, hs, rfl⟩ | ⟨rfl, hn, ht, h⟩ | ⟨rfl, h1, h2, h3, h⟩
  · exact absurd hk h0
  · exact absurd hk hp.2.1
  · exact absurd hk hp.2.2.1
  · exact ⟨.inl ⟨rfl, hs⟩, by simp only [inK, Pt.k, Pt.kids]; unfold PtyL; trivial, fun h => by cases h⟩
  · exact ⟨.inr (.inl ⟨rfl, hn, ht⟩), h, fun h => by cases h⟩
  · exact ⟨.inr (.inr ⟨rfl, h1, h2⟩), h, fun _ => h3⟩
theorem m_any (v : Pt) : M anyP v = true := by unfold anyP; rw [M, if_pos (.inl rfl)]
theorem m_zero {p : Pt} (h : p.k = 0) (v : Pt) : M p v = true := by
  cases p with | mk k n o a t kids => rw [M, if_pos (.inl h)]
theorem m_form {p : Pt} (h0 : p.k ≠ 0) (h1 : p.k ≠ 1) (h2 : p.k ≠ 2) (v : Pt) : M p v = (decide (p.k = v.k ∧ p.n = v.n) && ML p.kids v.kids) := by
  cases p with | mk k n o a t kids =>
  simp only [Pt.k] at h0 h1 h2
  rw [M, if_neg (by rintro (h | h); exact h0 h; exact h1 h), if_neg h2]
  rfl
theorem ml_app : ∀ {l vs l' vs' : List Pt}, l.length = vs.length → ML (l ++ l') (vs ++ vs') = (ML l vs && ML l' vs')
  | [], [], l', vs', _ => by rw [List.nil_append, List.nil_append, ML]; simp
  | p :: ps, v :: vs, l', vs', h => by
    rw [List.cons_append, List.cons_append, ML, ML, ml_app (by simpa using h), Bool.and_assoc]
theorem ml_any : ∀ {vs : List Pt}, ML (List.replicate vs.length anyP) vs = true
  | [] => by simp only [List.length_nil, List.replicate]; rw [ML]
  | v :: vs => by rw [List.length_cons, List.replicate_succ, ML, m_any, ml_any]; rfl
/-- a head that a value has -/
def HasHd (h : Hd) (v : Pt) : Prop := h.k = v.k ∧ h.n = v.n ∧ h.c = v.kids.length
/-- what a row asks of the rest of a value that has the head -/
theorem given_ml {s : Srt} {ss : List Srt} {h : Hd} {v : Pt} {vs : List Pt} {r l : List Pt} (hv : Vty s v) (hh : HasHd h v) (hr : PtyL (s :: ss) r) (hg : given h r = some l) :
    ML l (v.kids ++ vs) = ML r (v :: vs) ∧ PtyL (inK s v.k v.n ++ ss) l := by
  match r, hr with
  | p :: ps, hr =>
    have hp := ptyL_cons hr
    have hb := m_bare hp.1
    simp only [given] at hg
    have hlen := hv.kids.len
    split at hg
    · rename_i h0
      cases hg
      refine ⟨?_, ?_⟩
      · rw [ml_app (by simp [hh.2.2]), hh.2.2, ml_any, ML, ← hb.1, m_zero h0]
      · refine PtyL.app ?_ hp.2
        rw [hh.2.2, hlen]
        exact ptyL_any _
    · rename_i h0
      split at hg
      · rename_i he
        cases hg
        have hbf := bare_form hp.1 h0
        have hpb := proper_bare (pty_proper hp.1)
        have hc : (bare p).kids.length = v.kids.length := by
          have : (headOf (bare p)).c = h.c := by rw [he]
          rw [hh.2.2] at this
          exact this
        have hk : (bare p).k = v.k := by
          have : (headOf (bare p)).k = h.k := by rw [he]
          rw [hh.1] at this
          exact this
        have hn : (bare p).n = v.n := by
          have h1 : (headOf (bare p)).n = h.n := by rw [he]
          rw [hh.2.1] at h1
          have h2 : (headOf (bare p)).n = if (bare p).k = 5 then 0 else (bare p).n := rfl
          rw [h2] at h1
          split at h1
          · rename_i h5
            rcases hbf.1 with ⟨h3, _⟩ | ⟨_, h3, _⟩ | ⟨h3, _⟩
            · omega
            · omega
            · omega
          · exact h1
        refine ⟨?_, ?_⟩
        · rw [ml_app hc, ML, ← hb.1, m_form h0 hpb.2.1 hpb.2.2.1, hk, hn]
          simp
        · have := hbf.2.1
          rw [hk, hn] at this
          exact this.app hp.2
      · cases hg
theorem head_has {s : Srt} {p v : Pt} (hp : Pty s p) (h0 : (bare p).k ≠ 0) (hk : (bare p).k = v.k) (hn : (bare p).n = v.n) (hc : (bare p).kids.length = v.kids.length) : HasHd (headOf (bare p)) v := by
  refine ⟨hk, ?_, hc⟩
  have hbf := (bare_form hp h0).1
  show (if (bare p).k = 5 then 0 else (bare p).n) = v.n
  split
  · rcases hbf with ⟨h3, _⟩ | ⟨_, h3, _⟩ | ⟨h3, _⟩
    · omega
    · omega
    · omega
  · exact hn
theorem rest_ml {s : Srt} {ss : List Srt} {v : Pt} {vs : List Pt} {r l : List Pt} (hr : PtyL (s :: ss) r) (hg : rest1 r = some l) : ML l vs = ML r (v :: vs) ∧ PtyL ss l := by
  match r, hr with
  | p :: ps, hr =>
    have hp := ptyL_cons hr
    have hb := m_bare hp.1
    simp only [rest1] at hg
    split at hg
    · rename_i h0
      cases hg
      exact ⟨by rw [ML, ← hb.1, m_zero h0]; rfl, hp.2⟩
    · cases hg
/-- what is first in a column, bare, is of its sort -/
theorem firsts_of {s : Srt} {ss : List Srt} {rows : List (List Pt)} (hr : ∀ r ∈ rows, PtyL (s :: ss) r) : ∀ x ∈ firsts rows, ∃ p, Pty s p ∧ x = bare p ∧ (bare p).k ≠ 0 := by
  have h1 : ∀ x ∈ firsts rows, ∃ p, Pty s p ∧ x = bare p := firstsG_all rows [] (fun p ps h => ⟨p, (ptyL_cons (hr _ h)).1, rfl⟩) (fun q h => by simp at h)
  intro x hx
  obtain ⟨p, hp, rfl⟩ := h1 x hx
  exact ⟨p, hp, rfl, (firsts_begins _ hx).2⟩

theorem vty_con {s : Srt} {v : Pt} (hv : Vty s v) (hs : 0 < ofS s) : v.k = 6 ∧ 0 ≤ v.n ∧ v.n < ofS s := by
  rcases hv.hd with ⟨_, rfl⟩ | ⟨_, _, h⟩ | h
  · simp [ofS] at hs
  · cases s <;> simp [tupK, ofS] at h hs
  · exact h
theorem vty_tup {s : Srt} {v : Pt} (hv : Vty s v) (hs : tupK s ≠ []) : v.k = 5 ∧ v.n = 0 := by
  rcases hv.hd with ⟨_, rfl⟩ | ⟨h1, h2, _⟩ | ⟨_, h1, h2⟩
  · simp [tupK] at hs
  · exact ⟨h1, h2⟩
  · cases s <;> simp [tupK, ofS] at h1 h2 hs <;> omega
/-- where each value begins with one of them, this one does -/
theorem whole_has {s : Srt} {ss : List Srt} {rows : List (List Pt)} {v : Pt} (hr : ∀ r ∈ rows, PtyL (s :: ss) r) (hv : Vty s v) (hw : whole (firsts rows) = true) : ∃ x ∈ firsts rows, HasHd (headOf x) v := by
  have hof := firsts_of hr
  cases hL : firsts rows with
  | nil => rw [hL] at hw; cases hw
  | cons y ys =>
    rw [hL] at hw hof
    obtain ⟨p, hp, rfl, h0⟩ := hof y (by simp)
    have hbf := bare_form hp h0
    unfold whole at hw
    simp only at hw
    by_cases h5 : (bare p).k = 5
    · have ht : tupK s ≠ [] := by
        rcases hbf.1 with ⟨h, _⟩ | ⟨_, _, h⟩ | ⟨h, _⟩
        · omega
        · exact h
        · omega
      have hvt := vty_tup hv ht
      have h1 := hbf.2.1.len
      have h2 := hv.kids.len
      rw [h5] at h1
      rw [hvt.1] at h2
      have hn : (bare p).n = 0 := by
        rcases hbf.1 with ⟨h, _⟩ | ⟨_, h, _⟩ | ⟨h, _⟩
        · omega
        · exact h
        · omega
      exact ⟨bare p, by simp, head_has hp h0 (by rw [h5, hvt.1]) (by rw [hn, hvt.2]) (by rw [h1, h2]; rfl)⟩
    · rw [if_neg h5] at hw
      split at hw
      · rename_i h6
        have hpos : 0 < ofS s := by
          rcases hbf.1 with ⟨h, _⟩ | ⟨h, _⟩ | ⟨_, h1, h2⟩
          · omega
          · omega
          · omega
        have hvc := vty_con hv hpos
        rw [hbf.2.2 h6, List.all_eq_true] at hw
        have := hw v.n.toNat (List.mem_range.2 (by omega))
        rw [List.any_eq_true] at this
        obtain ⟨x, hx, hxx⟩ := this
        have hxx := of_decide_eq_true hxx
        obtain ⟨p', hp', rfl, h0'⟩ := hof x hx
        have hbf' := bare_form hp' h0'
        have hn' : (bare p').n = v.n := by omega
        have h1 := hbf'.2.1.len
        have h2 := hv.kids.len
        rw [hxx.1, hn'] at h1
        rw [hvc.1] at h2
        exact ⟨bare p', hx, head_has hp' h0' (by rw [hxx.1, hvc.1]) hn' (by rw [h1, h2])⟩
      · cases hw
/-- THE LAW -/
theorem complete : ∀ (f : Nat) (rows : List (List Pt)) (q : List Pt) (ss : List Srt) (vs : List Pt), meas rows q < f → (∀ r ∈ rows, PtyL ss r) → PtyL ss q → VtyL ss vs → ML q vs = true → (∀ r ∈ rows, ML r vs = false) → usefulD f rows q = true
  | 0, _, _, _, _, hm, _, _, _, _, _ => by omega
  | f + 1, rows, [], ss, vs, hm, hr, hq, hv, hmq, hno => by
    rw [usefulD]
    have hs : ss = [] := by cases ss with | nil => rfl | cons s ss => unfold PtyL at hq; exact absurd hq (by simp)
    subst hs
    have hvs : vs = [] := by cases vs with | nil => rfl | cons v vs => unfold VtyL at hv; exact absurd hv (by simp)
    subst hvs
    cases rows with
    | nil => rfl
    | cons r rs =>
      have h1 := hr r (by simp)
      have h2 := hno r (by simp)
      cases r with
      | nil => rw [ML] at h2; cases h2
      | cons p ps => unfold PtyL at h1; exact absurd h1 (by simp)
  | f + 1, rows, p :: r, [], vs, hm, hr, hq, hv, hmq, hno => by unfold PtyL at hq; exact absurd hq (by simp)
  | f + 1, rows, p :: r, s :: ss, [], hm, hr, hq, hv, hmq, hno => by unfold VtyL at hv; exact absurd hv (by simp)
  | f + 1, rows, p :: r, s :: ss, v :: vs, hm, hr, hq, hv, hmq, hno => by
    have hpq := ptyL_cons hq
    have hvv : Vty s v ∧ VtyL ss vs := by unfold VtyL at hv; exact hv
    have hE : Even (r.length + 1) rows := fun x hx => ⟨by rw [(hr x hx).len, List.length_cons, hpq.2.len], pty_properL (hr x hx)⟩
    have hpp := pty_proper hpq.1
    have hmm : M p v = true ∧ ML r vs = true := by
      rw [ML, Bool.and_eq_true] at hmq
      exact hmq
    have hb := m_bare hpq.1
    rw [usefulD]
    by_cases h0 : (bare p).k = 0
    · rw [if_neg (by simp [h0])]
      cases hw : whole (firsts rows) with
      | true =>
        rw [if_pos rfl]
        obtain ⟨x, hx, hh⟩ := whole_has hr hvv.1 hw
        rw [List.any_eq_true]
        refine ⟨x, hx, ?_⟩
        refine complete f _ _ (inK s v.k v.n ++ ss) (v.kids ++ vs) ?_ ?_ ?_ (hvv.1.kids.app hvv.2) ?_ ?_
        · have := meas_each (p := p) hE (firsts_begins x hx).1
          omega
        · intro l hl
          obtain ⟨r', hr', hg⟩ := List.mem_filterMap.1 hl
          exact (given_ml (vs := vs) hvv.1 hh (hr r' hr') hg).2
        · refine PtyL.app ?_ hpq.2
          rw [hh.2.2, hvv.1.kids.len]
          exact ptyL_any _
        · rw [ml_app (by simp [hh.2.2]), hh.2.2, ml_any, hmm.2]
          rfl
        · intro l hl
          obtain ⟨r', hr', hg⟩ := List.mem_filterMap.1 hl
          rw [(given_ml (vs := vs) hvv.1 hh (hr r' hr') hg).1]
          exact hno r' hr'
      | false =>
        rw [if_neg (by simp)]
        refine complete f _ _ ss vs ?_ ?_ hpq.2 hvv.2 hmm.2 ?_
        · have := meas_rest (p := p) hE
          omega
        · intro l hl
          obtain ⟨r', hr', hg⟩ := List.mem_filterMap.1 hl
          exact (rest_ml (v := v) (vs := vs) (hr r' hr') hg).2
        · intro l hl
          obtain ⟨r', hr', hg⟩ := List.mem_filterMap.1 hl
          rw [(rest_ml (v := v) (vs := vs) (hr r' hr') hg).1]
          exact hno r' hr'
    · rw [if_pos h0]
      have hpb := proper_bare hpp
      have hmb := hmm.1
      rw [← hb.1, m_form h0 hpb.2.1 hpb.2.2.1, Bool.and_eq_true, decide_eq_true_eq] at hmb
      have hbf := bare_form hpq.1 h0
      have hlen : (bare p).kids.length = v.kids.length := by
        have h1 := hbf.2.1.len
        have h2 := hvv.1.kids.len
        rw [hmb.1.1, hmb.1.2] at h1
        rw [h1, h2]
      have hh := head_has hpq.1 h0 hmb.1.1 hmb.1.2 hlen
      refine complete f _ _ (inK s v.k v.n ++ ss) (v.kids ++ vs) ?_ ?_ ?_ (hvv.1.kids.app hvv.2) ?_ ?_
      · have := meas_head hE hpp h0
        omega
      · intro l hl
        obtain ⟨r', hr', hg⟩ := List.mem_filterMap.1 hl
        exact (given_ml (vs := vs) hvv.1 hh (hr r' hr') hg).2
      · have := hbf.2.1
        rw [hmb.1.1, hmb.1.2] at this
        exact this.app hpq.2
      · rw [ml_app hlen, hmb.2, hmm.2]
        rfl
      · intro l hl
        obtain ⟨r', hr', hg⟩ := List.mem_filterMap.1 hl
        rw [(given_ml (vs := vs) hvv.1 hh (hr r' hr') hg).1]
        exact hno r' hr'
end Go.Proofs.Ytcieoelogocjkaa
