/-
  Proved: what is read follows the grammar. Conditions: the tokens are what their kinds say.
-/
import Derived.Test.YthehjeeiodbkjaaGreatDoorA01
import Derived.Test.YthehjeeiodbkjaaGreatDoorA24
set_option linter.unusedSimpArgs false
set_option linter.unusedVariables false
set_option linter.unusedSectionVars false
set_option maxRecDepth 100000
set_option maxHeartbeats 16000000
namespace Go.Proofs.YthehjeeiodbkjaaGreatDoor
open Go.RowKit
structure GoodT (P : Src) : Prop where
 lo : ∀ i, P.K i = 3 → Nm 3 (P.T i)
 up : ∀ i, P.K i = 4 → Nm 4 (P.T i)
 va : ∀ i, P.K i = 5 → Nm 5 (P.T i)
 num : ∀ i, P.K i = 1 → P.N i ≤ 1000000000
 str : ∀ i, P.K i = 2 → (P.T i).size ≤ 200
def Ph (P : Src) : Nat → Nat
 | 0 => 0
 | i + 1 => Ph P i + 32 + 8 * (P.T i).size
theorem Ph.s (P : Src) (i : Nat) : Ph P (i + 1) = Ph P i + 32 + 8 * (P.T i).size := rfl
theorem szs : w_and.size = 3 ∧ w_andalso.size = 7 ∧ w_as.size = 2 ∧ w_case.size = 4 ∧ w_data.size = 4 ∧ w_else.size = 4 ∧ w_end.size = 3 ∧ w_exception.size = 9 ∧ w_false.size = 5 ∧ w_fn.size = 2 ∧ w_fun.size = 3 ∧ w_if.size = 2 ∧ w_in.size = 2 ∧ w_let.size = 3 ∧ w_of.size = 2 ∧ w_open.size = 4 ∧ w_orelse.size = 6 ∧ w_raise.size = 5 ∧ w_sig.size = 3 ∧ w_signature.size = 9 ∧ w_struct.size = 6 ∧ w_structure.size = 9 ∧ w_then.size = 4 ∧ w_true.size = 4 ∧ w_try.size = 3 ∧ w_type.size = 4 ∧ w_val.size = 3 ∧ w_with.size = 4 ∧ s_lp.size = 1 ∧ s_rp.size = 1 ∧ s_lb.size = 1 ∧ s_rb.size = 1 ∧ s_com.size = 1 ∧ s_sem.size = 1 ∧ s_col.size = 1 ∧ s_bar.size = 1 ∧ s_eq.size = 1 ∧ s_lt.size = 1 ∧ s_gt.size = 1 ∧ s_pl.size = 1 ∧ s_mi.size = 1 ∧ s_st.size = 1 ∧ s_sl.size = 1 ∧ s_pc.size = 1 ∧ s_ca.size = 1 ∧ s_ti.size = 1 ∧ s_ex.size = 1 ∧ s_dot.size = 1 ∧ s_arr.size = 2 ∧ s_to.size = 2 ∧ s_asg.size = 2 ∧ s_cons.size = 2 ∧ s_opq.size = 2 ∧ s_ne.size = 2 ∧ s_le.size = 2 ∧ s_ge.size = 2 ∧ s_us.size = 1 := by decide
theorem dgL_len : ∀ (k n : Nat), n < 10 ^ k → 0 < k → (dgL n).length ≤ k
 | k + 1, n, h, _ => by
  unfold dgL
  by_cases hn : n < 10
  · rw [dif_pos hn]; simp
  · rw [dif_neg hn]
    have hk : 0 < k := by
     cases k with
     | zero => simp at h; omega
     | succ k => omega
    have := dgL_len k (n / 10) (by rw [Nat.pow_succ] at h; omega) hk
    simp; omega
theorem dgW_le {n : Nat} (h : n ≤ 1000000000) : (dgW n).size ≤ 10 := by
 unfold dgW
 rw [sizeA]
 exact dgL_len 10 n (by omega) (by omega)
theorem quoteD_le (s : ByteArray) : (quoteD s).size ≤ 4 * s.size + 2 := by
 unfold quoteD
 rw [sizeA]
 have : ∀ l : List UInt8, (l.flatMap esc).length ≤ 4 * l.length := by
  intro l
  induction l with
  | nil => simp
  | cons x l ih =>
   have h : (esc x).length ≤ 4 := by unfold esc; split; simp; split; simp; split; simp; split <;> simp
   simp only [List.flatMap_cons, List.length_append, List.length_cons]; omega
 have h := this s.data.toList
 have e : s.data.toList.length = s.size := by rw [Array.length_toList]; rfl
 simp only [quoteL, List.length_cons, List.length_append, List.length_nil]; omega
theorem jz {p : Prop} (h : p := by simp only [jl, jl_app, szs, Ph.s] at *; omega) : p := h
theorem notin {x : ByteArray} {l : List ByteArray} (h : ∀ y ∈ l, y ≠ x) : x ∉ l := fun hx => h x hx rfl
theorem bind_invv {α β : Type} {m : M α} {f : α → M β} {i k : Nat} {y : β} (h : (m >>= f) i = .ok y k) : ∃ x j, m i = .ok x j ∧ f x j = .ok y k := by
 cases hx : m i with
 | bad a n => rw [bind_bad hx] at h; cases h
 | ok x j => rw [bind_ok hx] at h; exact ⟨x, j, rfl, h⟩
theorem pure_inv {α : Type} {x y : α} {i j : Nat} (h : (pure x : M α) i = .ok y j) : x = y ∧ i = j := by cases h; exact ⟨rfl, rfl⟩
theorem ret_inv {α : Type} {x y : α} {i j : Nat} (h : (ret x : M α) i = .ok y j) : x = y ∧ i = j := by cases h; exact ⟨rfl, rfl⟩
theorem ok_inv {α : Type} {x y : α} {i j : Nat} (h : Res.ok x i = .ok y j) : x = y ∧ i = j := by cases h; exact ⟨rfl, rfl⟩
theorem iteM_inv {α : Type} {c : Prop} [Decidable c] {a b : M α} {i : Nat} {r : Res α} (h : (if c then a else b) i = r) : (c ∧ a i = r) ∨ (¬ c ∧ b i = r) := by
 by_cases hc : c
 · rw [if_pos hc] at h; exact .inl ⟨hc, h⟩
 · rw [if_neg hc] at h; exact .inr ⟨hc, h⟩
theorem ite_inv {α : Type} {c : Prop} [Decidable c] {a b r : Res α} (h : (if c then a else b) = r) : (c ∧ a = r) ∨ (¬ c ∧ b = r) := by
 by_cases hc : c
 · rw [if_pos hc] at h; exact .inl ⟨hc, h⟩
 · rw [if_neg hc] at h; exact .inr ⟨hc, h⟩
theorem fail_inv {α : Type} {P : Src} {e i j : Nat} {x : α} (h : failD P e i = .ok x j) : False := by
 unfold failD at h
 split at h <;> cases h
theorem kind_inv {P : Src} {k : Int} {i j : Nat} {s : ByteArray} (h : kindD P k i = .ok s j) : P.K i = k ∧ s = P.T i ∧ Ph P j = Ph P i + 32 + 8 * s.size := by
 rcases ite_inv h with ⟨c, h⟩ | ⟨c, h⟩
 · cases h; exact ⟨c, rfl, rfl⟩
 · exact (fail_inv h).elim
theorem must_invv {P : Src} {s : ByteArray} {i j : Nat} {u : Unit} (h : mustD P s i = .ok u j) : Ph P i + 32 ≤ Ph P j := by
 rcases ite_inv h with ⟨c, h⟩ | ⟨c, h⟩
 · cases h; rw [Ph.s]; omega
 · exact (fail_inv h).elim
theorem eat_inv {P : Src} {s : ByteArray} {i j : Nat} {b : Bool} (h : eatD P s i = .ok b j) : Ph P i ≤ Ph P j ∧ (b = true → Ph P i + 32 ≤ Ph P j) := by
 rcases ite_inv h with ⟨c, h⟩ | ⟨c, h⟩ <;> cases h
 · rw [Ph.s]; exact ⟨by omega, fun _ => by omega⟩
 · exact ⟨Nat.le_refl _, fun h => by cases h⟩
theorem isD_text {P : Src} {s : ByteArray} {i : Nat} (h : isD P s i = true) : P.T i = s := by
 unfold isD at h
 simp only [Bool.and_eq_true, decide_eq_true_eq] at h
 exact h.2
theorem oneD_text {P : Src} {l : List ByteArray} {i : Nat} (h : oneD P l i = true) : P.T i ∈ l := by
 unfold oneD at h
 simp only [Bool.and_eq_true, decide_eq_true_eq, List.any_eq_true] at h
 obtain ⟨-, s, hs, e⟩ := h
 rw [e]; exact hs
theorem ex_to {g l n ws} (h : D (.ex l) g [n] ws) {l' g' b m : Nat} (hl : l' ≤ l) (hg : g ≤ g') (hb : jl ws + m ≤ b) : ∃ ws, D (.ex l') g' [n] ws ∧ jl ws + m ≤ b := by
 cases h with
 | ex_np hd hk hh => exact ⟨_, .ex_np hd (by omega) (by omega), hb⟩
 | @ex_par _ _ k _ _ _ hd hk hh => by_cases c : l' ≤ k; exact ⟨_, .ex_np hd c (by omega), jz⟩; exact ⟨_, .ex_par hd (by omega) (by omega), hb⟩
theorem ex_lift {g n ws} (h : D (.ex 0) g [n] ws) (l : Nat) {g' b m : Nat} (hg : g < g') (hb : jl ws + 4 + m ≤ b) : ∃ ws, D (.ex l) g' [n] ws ∧ jl ws + m ≤ b := by
 cases h with
 | @ex_np _ _ k _ _ _ hd hk hh => by_cases c : l ≤ k; exact ⟨_, .ex_np hd c (by omega), by omega⟩; exact ⟨_, .ex_par hd (by omega) (by omega), jz⟩
 | ex_par hd hk hh => omega
theorem pt_to {g l n ws} (h : D (.pt l) g [n] ws) {l' g' b m : Nat} (hl : l' ≤ l) (hg : g ≤ g') (hb : jl ws + m ≤ b) : ∃ ws, D (.pt l') g' [n] ws ∧ jl ws + m ≤ b := by
 cases h with
 | pt_np hd hk hh => exact ⟨_, .pt_np hd (by omega) (by omega), hb⟩
 | @pt_par _ _ k _ _ _ hd hk hh => by_cases c : l' ≤ k; exact ⟨_, .pt_np hd c (by omega), jz⟩; exact ⟨_, .pt_par hd (by omega) (by omega), hb⟩
theorem pt_lift {g n ws} (h : D (.pt 0) g [n] ws) (l : Nat) {g' b m : Nat} (hg : g < g') (hb : jl ws + 4 + m ≤ b) : ∃ ws, D (.pt l) g' [n] ws ∧ jl ws + m ≤ b := by
 cases h with
 | @pt_np _ _ k _ _ _ hd hk hh => by_cases c : l ≤ k; exact ⟨_, .pt_np hd c (by omega), by omega⟩; exact ⟨_, .pt_par hd (by omega) (by omega), jz⟩
 | pt_par hd hk hh => omega
theorem ty_to {g l n ws} (h : D (.ty l) g [n] ws) {l' g' b m : Nat} (hl : l' ≤ l) (hg : g ≤ g') (hb : jl ws + m ≤ b) : ∃ ws, D (.ty l') g' [n] ws ∧ jl ws + m ≤ b := by
 cases h with
 | ty_np hd hk hh => exact ⟨_, .ty_np hd (by omega) (by omega), hb⟩
 | @ty_par _ _ k _ _ _ hd hk hh => by_cases c : l' ≤ k; exact ⟨_, .ty_np hd c (by omega), jz⟩; exact ⟨_, .ty_par hd (by omega) (by omega), hb⟩
theorem ty_lift {g n ws} (h : D (.ty 0) g [n] ws) (l : Nat) {g' b m : Nat} (hg : g < g') (hb : jl ws + 4 + m ≤ b) : ∃ ws, D (.ty l) g' [n] ws ∧ jl ws + m ≤ b := by
 cases h with
 | @ty_np _ _ k _ _ _ hd hk hh => by_cases c : l ≤ k; exact ⟨_, .ty_np hd c (by omega), by omega⟩; exact ⟨_, .ty_par hd (by omega) (by omega), jz⟩
 | ty_par hd hk hh => omega
theorem row_snoc {c : Cat} {s : ByteArray} {g : Nat} {x : Ty} {vs : List ByteArray} (hx : D c g [x] vs) : ∀ {l : List Ty} {ws : List ByteArray}, D (.row c s) g l ws → ∃ us, D (.row c s) g (l ++ [x]) us ∧ jl us = jl ws + s.size + 1 + jl vs
 | [], ws, h => by cases h
 | [y], ws, h => by
  cases h with
  | row1 h => exact ⟨_, .rowS h (.row1 hx), jz⟩
 | y :: z :: l, ws, h => by
  cases h with
  | rowS h h2 =>
   obtain ⟨us, h3, h4⟩ := row_snoc hx h2
   exact ⟨_, .rowS h h3, jz⟩
theorem many_snoc {c : Cat} {g : Nat} {x : Ty} {vs : List ByteArray} (hx : D c g [x] vs) : ∀ {l : List Ty} {ws : List ByteArray}, D (.many c) g l ws → ∃ us, D (.many c) g (l ++ [x]) us ∧ jl us = jl ws + jl vs
 | [], ws, h => by
  cases h
  exact ⟨_, .mcons hx .mnil, jz⟩
 | y :: l, ws, h => by
  cases h with
  | mcons h h2 =>
   obtain ⟨us, h3, h4⟩ := many_snoc hx h2
   exact ⟨_, .mcons h h3, jz⟩
theorem sep_all {P : Src} {item : M Ty} {t s : ByteArray} {c : Cat} {g : Nat} (hs : s.size ≤ 9) (hi : ∀ i n j, item i = .ok n j → ∃ ws, D c g [n] ws ∧ jl ws + Ph P i ≤ Ph P j) : ∀ (f : Nat) (acc : List Ty) (i : Nat) {l : List Ty} {j m : Nat} {ws : List ByteArray}, sepL P item t f acc i = .ok l j → D (.row c s) g acc ws → jl ws + m ≤ Ph P i → ∃ ws, D (.row c s) g l ws ∧ jl ws + m ≤ Ph P j
 | 0, acc, i, l, j, m, ws, h, ha, hm => by obtain ⟨rfl, rfl⟩ := ret_inv h; exact ⟨_, ha, hm⟩
 | f + 1, acc, i, l, j, m, ws, h, ha, hm => by
  rcases ite_inv h with ⟨c, h⟩ | ⟨c, h⟩
  · obtain ⟨x, k, h1, h⟩ := bind_invv h
    obtain ⟨vs, hx, hp⟩ := hi _ _ _ h1
    rw [Ph.s] at hp
    obtain ⟨us, h2, h3⟩ := row_snoc hx ha
    exact sep_all hs hi f _ _ (m := m) h h2 (by omega)
  · obtain ⟨rfl, rfl⟩ := ok_inv h; exact ⟨_, ha, hm⟩
theorem row_inv {P : Src} {item : M Ty} {t : ByteArray} (s : ByteArray) {c : Cat} {g : Nat} (hs : s.size ≤ 9) (hi : ∀ i n j, item i = .ok n j → ∃ ws, D c g [n] ws ∧ jl ws + Ph P i ≤ Ph P j) {i j : Nat} {l : List Ty} (h : rowD P item t i = .ok l j) : ∃ x r ws, l = x :: r ∧ D (.row c s) g (x :: r) ws ∧ jl ws + Ph P i ≤ Ph P j := by
 obtain ⟨x, k, h1, h⟩ := bind_invv (show (item >>= fun x => sepL P item t (P.toks.length + 1) [x]) i = _ from h)
 obtain ⟨vs, hx, hp⟩ := hi _ _ _ h1
 obtain ⟨ws, h2, h3⟩ := sep_all hs hi _ _ _ (m := Ph P i) h (.row1 hx) (by omega)
 cases l with
 | nil => cases h2
 | cons y r => exact ⟨y, r, ws, rfl, h2, h3⟩
theorem many_inv {P : Src} {item : M Ty} {c : Nat → Bool} {C : Cat} {g : Nat} (hi : ∀ i n j, c i = true → item i = .ok n j → ∃ ws, D C g [n] ws ∧ jl ws + Ph P i ≤ Ph P j) : ∀ (f : Nat) (acc : List Ty) (i : Nat) {l : List Ty} {j m : Nat} {ws : List ByteArray}, manyL c item f acc i = .ok l j → D (.many C) g acc ws → jl ws + m ≤ Ph P i → acc.length ≤ l.length ∧ ∃ ws, D (.many C) g l ws ∧ jl ws + m ≤ Ph P j
 | 0, acc, i, l, j, m, ws, h, ha, hm => by obtain ⟨rfl, rfl⟩ := ret_inv h; exact ⟨Nat.le_refl _, _, ha, hm⟩
 | f + 1, acc, i, l, j, m, ws, h, ha, hm => by
  rcases ite_inv h with ⟨c1, h⟩ | ⟨c1, h⟩
  · obtain ⟨x, k, h1, h⟩ := bind_invv h
    obtain ⟨vs, hx, hp⟩ := hi _ _ _ c1 h1
    obtain ⟨us, h2, h3⟩ := many_snoc hx ha
    obtain ⟨h4, h5⟩ := many_inv hi f _ _ (m := m) h h2 (by omega)
    exact ⟨by simp at h4; omega, h5⟩
  · obtain ⟨rfl, rfl⟩ := ok_inv h; exact ⟨Nat.le_refl _, _, ha, hm⟩
theorem ba_assoc (a b c : ByteArray) : a ++ b ++ c = a ++ (b ++ c) := by ext1; simp [ByteArray.data_append, Array.append_assoc]
theorem ba_nil (a : ByteArray) : e_ ++ a = a := by ext1; simp [ByteArray.data_append]
section
variable {P : Src} (H : GoodT P)
include H
theorem pathL_inv (last : Nat) : ∀ (f : Nat) (s : ByteArray) (i : Nat) {p : ByteArray × Nat} {j : Nat}, pathL P last f s i = .ok p j → ∃ t ws, p.1 = s ++ t ∧ PathW p.2 t ws ∧ (last = 4 → p.2 = 4) ∧ (last = 3 → p.2 = 3) ∧ jl ws + Ph P i ≤ Ph P j
 | 0, s, i, p, j, h => (fail_inv h).elim
 | f + 1, s, i, p, j, h => by
  rcases ite_inv h with ⟨c, h⟩ | ⟨c, h⟩
  · obtain ⟨rfl, rfl⟩ := ok_inv h
    exact ⟨_, _, rfl, .low (H.lo i c.1), fun e => absurd e c.2, fun _ => rfl, jz⟩
  · rcases ite_inv h with ⟨c1, h⟩ | ⟨c1, h⟩
    · exact (fail_inv h).elim
    · have hu : P.K i = 4 := Decidable.not_not.1 c1
      rcases ite_inv h with ⟨c2, h⟩ | ⟨c2, h⟩
      · obtain ⟨t, ws, e, hp, h1, h2, hb⟩ := pathL_inv last f _ _ h
        exact ⟨_, _, by rw [e, ba_assoc, ba_assoc, ← ba_assoc (P.T i)], .more (H.up i hu) hp, h1, h2, jz⟩
      · rcases ite_inv h with ⟨c3, h⟩ | ⟨c3, h⟩
        · exact (fail_inv h).elim
        · obtain ⟨rfl, rfl⟩ := ok_inv h
          exact ⟨_, _, rfl, .up (H.up i hu), fun _ => rfl, fun e => absurd e c3, jz⟩
theorem path_inv {last i : Nat} {p : ByteArray × Nat} {j : Nat} (h : pathD P last i = .ok p j) : ∃ ws, PathW p.2 p.1 ws ∧ (last = 4 → p.2 = 4) ∧ (last = 3 → p.2 = 3) ∧ jl ws + Ph P i ≤ Ph P j := by
 obtain ⟨t, ws, e, h⟩ := pathL_inv H last _ _ _ h
 rw [ba_nil] at e
 rw [e]; exact ⟨ws, h⟩
omit H in
theorem path_kind {k : Nat} {s : ByteArray} {ws : List ByteArray} (h : PathW k s ws) : k = 3 ∨ k = 4 := by
 induction h with
 | low _ => exact .inl rfl
 | up _ => exact .inr rfl
 | more _ _ ih => exact ih
structure RG (P : Src) (R : Rec) (g : Nat) : Prop where
 exp : ∀ {i n j}, R.go .exp i = .ok n j → ∃ h, g = h + 1 ∧ ∃ ws, D (.ex 0) h [n] ws ∧ jl ws + Ph P i ≤ Ph P j
 pat : ∀ {i n j}, R.go .pat i = .ok n j → ∃ h, g = h + 1 ∧ ∃ ws, D (.pt 0) h [n] ws ∧ jl ws + Ph P i ≤ Ph P j
 typ : ∀ {i n j}, R.go .typ i = .ok n j → ∃ h, g = h + 1 ∧ ∃ ws, D (.ty 0) h [n] ws ∧ jl ws + Ph P i ≤ Ph P j
 dec : ∀ {i n j} w, oneD P (startsL w) i = true → R.go .dec i = .ok n j → ∃ h, g = h + 1 ∧ ∃ ws, D (.dec w) h [n] ws ∧ jl ws + Ph P i ≤ Ph P j
 sig : ∀ {i n j}, R.go .sig i = .ok n j → ∃ h, g = h + 1 ∧ ∃ ws, D .sig h [n] ws ∧ jl ws + Ph P i ≤ Ph P j
 deep : ∀ {i n j}, R.deep i = .ok n j → ∃ h, g = h + 2 ∧ ∃ ws, D (.ex 0) h [n] ws ∧ jl ws + Ph P i ≤ Ph P j
variable {R : Rec} {g : Nat} (G : RG P R g)
include G
omit H in
theorem rows_in {nt : NT} {c : Cat} (hc : ∀ {i n j}, R.go nt i = .ok n j → ∃ h, g = h + 1 ∧ ∃ ws, D c h [n] ws ∧ jl ws + Ph P i ≤ Ph P j) (s : ByteArray) (hs : s.size ≤ 9) {t : ByteArray} {i j : Nat} {l : List Ty} (h : rowD P (R.go nt) t i = .ok l j) : ∃ h x r ws, g = h + 1 ∧ l = x :: r ∧ D (.row c s) h (x :: r) ws ∧ jl ws + Ph P i ≤ Ph P j := by
 obtain ⟨x, k, h1, -⟩ := bind_invv (show (R.go nt >>= fun x => sepL P (R.go nt) t (P.toks.length + 1) [x]) i = _ from h)
 obtain ⟨h0, rfl, -⟩ := hc h1
 obtain ⟨x, r, ws, e, h2, h3⟩ := row_inv s hs (c := c) (g := h0) (fun i n j hi => by
  obtain ⟨h9, e9, h5⟩ := hc hi
  obtain rfl : h0 = h9 := by omega
  exact h5) h
 exact ⟨h0, x, r, ws, rfl, e, h2, h3⟩
theorem appL_inv (a : Nat) : ∀ (f : Nat) (l : List Ty) (i m : Nat) {n : Ty} {j : Nat}, appL P a f l i = .ok n j → ((l = [] ∧ m ≤ Ph P i) ∨ (∃ x ws, l = [x] ∧ D (.ty 2) g [x] ws ∧ jl ws + m ≤ Ph P i) ∨ ∃ h x y r ws, g = h + 1 ∧ l = x :: y :: r ∧ D (.row (.ty 0) s_com) h (x :: y :: r) ws ∧ jl ws + 4 + m ≤ Ph P i) → ∃ ws, D (.ty 2) g [n] ws ∧ jl ws + m ≤ Ph P j
 | 0, l, i, m, n, j, h, hl => (fail_inv h).elim
 | f + 1, l, i, m, n, j, h, hl => by
  rcases ite_inv h with ⟨c, h⟩ | ⟨c, h⟩
  · obtain ⟨p, k, h1, h⟩ := bind_invv h
    obtain ⟨ws, hp, -, h3, hb⟩ := path_inv H h1
    rw [h3 rfl] at hp
    refine appL_inv a f _ _ m h (.inr (.inl ?_))
    rcases hl with ⟨rfl, hm⟩ | ⟨x, xw, rfl, hx, hm⟩ | ⟨h, x, y, r, xw, rfl, rfl, hx, hm⟩
    · exact ⟨_, _, rfl, .ty_np (.t_con hp) (Nat.le_refl _) (Nat.le_refl _), jz⟩
    · exact ⟨_, _, rfl, .ty_np (.t_one hx hp) (Nat.le_refl _) (Nat.le_refl _), jz⟩
    · exact ⟨_, _, rfl, .ty_np (.t_more hx hp) (Nat.le_refl _) (Nat.le_refl _), jz⟩
  · have c1 : l.length = 1 := by
     by_cases c1 : l.length = 1
     · exact c1
     · exact absurd (.inl c1) c
    rcases hl with ⟨rfl, hm⟩ | ⟨x, xw, rfl, hx, hm⟩ | ⟨h, x, y, r, xw, rfl, rfl, hx, hm⟩
    · simp at c1
    · obtain ⟨rfl, rfl⟩ := ok_inv h; exact ⟨_, hx, hm⟩
    · simp at c1
theorem applied_inv {i : Nat} {n : Ty} {j : Nat} (h : appliedB P R i = .ok n j) : ∃ ws, D (.ty 2) g [n] ws ∧ jl ws + Ph P i ≤ Ph P j := by
 rcases ite_inv h with ⟨c, h⟩ | ⟨c, h⟩
 · exact appL_inv H G _ _ _ _ _ h (.inr (.inl ⟨_, _, rfl, .ty_np (.t_var (H.va i c)) (Nat.le_refl _) (Nat.le_refl g), jz⟩))
 · rcases ite_inv h with ⟨c1, h⟩ | ⟨c1, h⟩
   · obtain ⟨l, k, h1, h⟩ := bind_invv h
     obtain ⟨u, k2, hm, h⟩ := bind_invv h
     have hm := must_invv hm
     obtain ⟨h0, x, r, ws, rfl, rfl, hx, hb⟩ := rows_in G G.typ s_com (by decide) h1
     refine appL_inv H G _ _ _ _ _ h (.inr ?_)
     cases r with
     | nil =>
      cases hx with
      | row1 hx =>
      obtain ⟨ws, h3, h4⟩ := ty_lift hx 2 (Nat.lt_succ_self _) (m := Ph P i) (b := Ph P k2) jz
      exact .inl ⟨x, _, rfl, h3, h4⟩
     | cons y r => exact .inr ⟨h0, x, y, r, ws, rfl, rfl, hx, jz⟩
   · exact appL_inv H G _ _ _ _ _ h (.inl ⟨rfl, Nat.le_refl _⟩)
theorem arrow_inv {i : Nat} {n : Ty} {j : Nat} (h : arrowB P R i = .ok n j) : ∃ ws, D (.ty 0) g [n] ws ∧ jl ws + Ph P i ≤ Ph P j := by
 obtain ⟨l, k, h1, h⟩ := bind_invv h
 obtain ⟨x, r, ws, rfl, hx, hb⟩ := row_inv s_st (by decide) (fun i n j hi => applied_inv H G hi) h1
 have hm : ∃ ws, D (.ty 1) g [if (x :: r).length > 1 then .mk 32 ((x :: r).headD default).n ⟨#[]⟩ 0 (x :: r) else (x :: r).headD default] ws ∧ jl ws + Ph P i ≤ Ph P k := by
  cases r with
  | nil =>
   cases hx with
   | row1 hx => simpa using ty_to hx (l' := 1) (by omega) (Nat.le_refl _) hb
  | cons y r =>
   rw [if_pos (by simp)]
   exact ⟨_, .ty_np (.t_tup hx) (Nat.le_refl _) (Nat.le_refl _), hb⟩
 generalize (if (x :: r).length > 1 then Ty.mk 32 ((x :: r).headD default).n ⟨#[]⟩ 0 (x :: r) else (x :: r).headD default) = m at h hm
 obtain ⟨ws, hm, hb2⟩ := hm
 obtain ⟨t, k2, h2, h⟩ := bind_invv h
 have h2 := eat_inv h2
 rcases iteM_inv h with ⟨c, h⟩ | ⟨c, h⟩
 · obtain ⟨y, k3, h3, h⟩ := bind_invv h
   obtain ⟨h0, rfl, vs, hy, hb3⟩ := G.typ h3
   obtain ⟨rfl, rfl⟩ := pure_inv h
   have h4 := h2.2 c
   exact ⟨_, .ty_np (.t_arr hm hy) (Nat.le_refl _) (Nat.le_refl _), jz⟩
 · obtain ⟨rfl, rfl⟩ := pure_inv h
   exact ty_to hm (by omega) (Nat.le_refl _) (by omega)
theorem roundPat_inv {a i m : Nat} (hm0 : m + 32 ≤ Ph P i) {n : Ty} {j : Nat} (h : roundPatB P R a i = .ok n j) : ∃ ws, D (.pt 2) g [n] ws ∧ jl ws + m ≤ Ph P j := by
 have np : ∀ {n ws}, D (.p0 2) g [n] ws → jl ws + m ≤ Ph P j → ∃ ws, D (.pt 2) g [n] ws ∧ jl ws + m ≤ Ph P j := fun h hb => ⟨_, .pt_np h (Nat.le_refl _) (Nat.le_refl _), hb⟩
 rcases ite_inv h with ⟨c, h⟩ | ⟨c, h⟩
 · obtain ⟨rfl, rfl⟩ := ok_inv h
   exact np .p_unit jz
 · rcases ite_inv h with ⟨c1, h⟩ | ⟨c1, h⟩
   · obtain ⟨p, k, h1, h⟩ := bind_invv h
     obtain ⟨u, k2, hm, h⟩ := bind_invv h
     have hm := must_invv hm
     obtain ⟨rfl, rfl⟩ := pure_inv h
     obtain ⟨h0, rfl, ws, hp, hb⟩ := G.pat h1
     exact np (.p_as (H.lo i c1.1) hp) jz
   · obtain ⟨p, k, h1, h⟩ := bind_invv h
     obtain ⟨h0, rfl, ws, hp, hb⟩ := G.pat h1
     obtain ⟨b, k2, h2, h⟩ := bind_invv h
     have h2 := eat_inv h2
     rcases iteM_inv h with ⟨c2, h⟩ | ⟨c2, h⟩
     · obtain ⟨l, k, h1, h⟩ := bind_invv h
       obtain ⟨u, k3, hm, h⟩ := bind_invv h
       have hm := must_invv hm
       obtain ⟨rfl, rfl⟩ := pure_inv h
       obtain ⟨h9, x, r, vs, e, rfl, hx, hb2⟩ := rows_in G G.pat s_com (by decide) h1
       obtain rfl : h0 = h9 := by omega
       have h4 := h2.2 c2
       exact np (.p_tup (.rowS hp hx)) jz
     · obtain ⟨b2, k3, h3, h⟩ := bind_invv h
       have h3 := eat_inv h3
       rcases iteM_inv h with ⟨c3, h⟩ | ⟨c3, h⟩
       · obtain ⟨t, k, h1, h⟩ := bind_invv h
         obtain ⟨u, k4, hm, h⟩ := bind_invv h
         have hm := must_invv hm
         obtain ⟨rfl, rfl⟩ := pure_inv h
         obtain ⟨h9, e, tw, ht, hb2⟩ := G.typ h1
         obtain rfl : h0 = h9 := by omega
         have h4 := h3.2 c3
         exact np (.p_has hp ht) jz
       · obtain ⟨u, k4, hm, h⟩ := bind_invv h
         have hm := must_invv hm
         obtain ⟨rfl, rfl⟩ := pure_inv h
         exact pt_lift hp 2 (Nat.lt_succ_self _) (by omega)
omit H G in
theorem tf_of {i : Nat} (h : isD P w_true i = true ∨ isD P w_false i = true) : P.T i = w_true ∨ P.T i = w_false := by
 rcases h with h | h
 · exact .inl (isD_text h)
 · exact .inr (isD_text h)
theorem apat_inv {i : Nat} {n : Ty} {j : Nat} (h : apatB P R i = .ok n j) : (∃ ws, D (.pt 2) g [n] ws ∧ jl ws + Ph P i ≤ Ph P j) ∧ (P.K i = 4 → ∃ a s ws, n = .mk 24 a s 0 [] ∧ PathW 4 s ws ∧ jl ws + Ph P i ≤ Ph P j) := by
 have np : ∀ {n ws}, D (.p0 2) g [n] ws → jl ws + Ph P i ≤ Ph P j → ∃ ws, D (.pt 2) g [n] ws ∧ jl ws + Ph P i ≤ Ph P j := fun h hb => ⟨_, .pt_np h (Nat.le_refl _) (Nat.le_refl _), hb⟩
 have nk : ∀ {s}, isD P s i = true → P.K i = 4 → False := by
  intro s h1 h2
  unfold isD at h1
  simp [h2] at h1
 rcases ite_inv h with ⟨c, h⟩ | ⟨c, h⟩
 · obtain ⟨rfl, rfl⟩ := ok_inv h; exact ⟨np .p_any jz, fun e => (nk c e).elim⟩
 rcases ite_inv h with ⟨c, h⟩ | ⟨c, h⟩
 · obtain ⟨rfl, rfl⟩ := ok_inv h; exact ⟨np (.p_var (H.lo i c)) jz, fun e => by omega⟩
 rcases ite_inv h with ⟨c, h⟩ | ⟨c, h⟩
 · obtain ⟨rfl, rfl⟩ := ok_inv h
   have := dgW_le (H.num i c)
   exact ⟨np (.p_int (H.num i c)) jz, fun e => by omega⟩
 rcases ite_inv h with ⟨c, h⟩ | ⟨c, h⟩
 · refine ⟨?_, fun e => (nk c e).elim⟩
   rcases ite_inv h with ⟨c, h⟩ | ⟨c, h⟩
   · obtain ⟨rfl, rfl⟩ := ok_inv h
     have h9 := dgW_le (H.num _ c)
     have h8 := Ph.s P (i + 1)
     by_cases hz : P.N (i + 1) = 0
     · rw [hz] at h9 ⊢; exact np (.p_int (N := 0) (by omega)) jz
     · exact np (.p_neg (by omega) (H.num _ c)) jz
   · exact (fail_inv h).elim
 rcases ite_inv h with ⟨c, h⟩ | ⟨c, h⟩
 · obtain ⟨rfl, rfl⟩ := ok_inv h
   have := quoteD_le (P.T i)
   exact ⟨np (.p_str (H.str i c)) jz, fun e => by omega⟩
 rcases ite_inv h with ⟨c, h⟩ | ⟨c, h⟩
 · obtain ⟨p, k, h1, h⟩ := bind_invv h
   obtain ⟨rfl, rfl⟩ := ret_inv h
   obtain ⟨ws, hp, h2, -, hb⟩ := path_inv H h1
   rw [h2 rfl] at hp
   exact ⟨np (.p_con hp) hb, fun _ => ⟨_, _, _, rfl, hp, hb⟩⟩
 rcases ite_inv h with ⟨c, h⟩ | ⟨c, h⟩
 · obtain ⟨rfl, rfl⟩ := ok_inv h
   exact ⟨np (.p_tf (tf_of c)) jz, fun e => by rcases c with c | c <;> exact (nk c e).elim⟩
 rcases ite_inv h with ⟨c, h⟩ | ⟨c, h⟩
 · refine ⟨?_, fun e => (nk c e).elim⟩
   obtain ⟨b, k, h2, h⟩ := bind_invv h
   have h2 := eat_inv h2
   rcases iteM_inv h with ⟨c, h⟩ | ⟨c, h⟩
   · obtain ⟨rfl, rfl⟩ := pure_inv h
     have h4 := h2.2 c
     exact np .p_nil jz
   · obtain ⟨l, k, h1, h⟩ := bind_invv h
     obtain ⟨u, k2, hm, h⟩ := bind_invv h
     have hm := must_invv hm
     obtain ⟨rfl, rfl⟩ := pure_inv h
     obtain ⟨h0, x, r, ws, rfl, rfl, hx, hb⟩ := rows_in G G.pat s_com (by decide) h1
     exact np (.p_list hx) jz
 rcases ite_inv h with ⟨c, h⟩ | ⟨c, h⟩
 · exact ⟨roundPat_inv H G (by rw [Ph.s]; omega) h, fun e => (nk c e).elim⟩
 · exact (fail_inv h).elim
theorem cpat_inv {i : Nat} {n : Ty} {j : Nat} (h : cpatB P R i = .ok n j) : ∃ ws, D (.pt 1) g [n] ws ∧ jl ws + Ph P i ≤ Ph P j := by
 obtain ⟨m, k, h1, h⟩ := bind_invv h
 obtain ⟨⟨mw, hm, hmb⟩, hu⟩ := apat_inv H G h1
 rcases ite_inv h with ⟨c, h⟩ | ⟨c, h⟩
 · obtain ⟨p, k2, h2, h⟩ := bind_invv h
   obtain ⟨rfl, rfl⟩ := ret_inv h
   obtain ⟨a, s, ws, rfl, hs, hb⟩ := hu c.1
   obtain ⟨⟨pw, hp, hpb⟩, -⟩ := apat_inv H G h2
   exact ⟨_, .pt_np (.p_arg hs hp) (Nat.le_refl _) (Nat.le_refl _), jz⟩
 · obtain ⟨rfl, rfl⟩ := ok_inv h
   exact pt_to hm (by omega) (Nat.le_refl _) hmb
omit H G in
theorem conses_inv : ∀ {l : List Ty} {ws : List ByteArray} {m b : Nat}, D (.row (.pt 1) s_cons) g l ws → jl ws + m ≤ b → ∃ ws, D (.pt 0) g [consesD l] ws ∧ jl ws + m ≤ b
 | [], ws, m, b, h, _ => by cases h
 | [x], ws, m, b, h, hb => by
  cases h with
  | row1 h => exact pt_to h (by omega) (Nat.le_refl _) hb
 | x :: y :: l, _, m, b, h, hb => by
  cases h with
  | @rowS _ _ _ _ _ _ xw yw h h1 =>
  obtain ⟨vs, h2, hb2⟩ := conses_inv (m := 0) (b := jl yw) h1 (by omega)
  exact ⟨_, .pt_np (.p_cons h h2) (Nat.le_refl _) (Nat.le_refl _), jz⟩
theorem pat_inv {i : Nat} {n : Ty} {j : Nat} (h : patB P R i = .ok n j) : ∃ ws, D (.pt 0) g [n] ws ∧ jl ws + Ph P i ≤ Ph P j := by
 obtain ⟨l, k, h1, h⟩ := bind_invv h
 obtain ⟨rfl, rfl⟩ := pure_inv h
 obtain ⟨x, r, ws, rfl, hx, hb⟩ := row_inv s_cons (by decide) (fun i n j hi => cpat_inv H G hi) h1
 exact conses_inv hx hb
omit H in
theorem decs_inv {w i : Nat} {l : List Ty} {j : Nat} (h : decsB P R w i = .ok l j) : (l = [] ∧ Ph P i ≤ Ph P j ∨ ∃ h, g = h + 1) ∧ ∀ h, g = h + 1 → ∃ ws, D (.many (.dec w)) h l ws ∧ jl ws + Ph P i ≤ Ph P j := by
 constructor
 · rcases ite_inv (show (if oneD P (startsL w) i = true then (R.go .dec >>= fun x => manyL (oneD P (startsL w)) (R.go .dec) P.toks.length ([] ++ [x])) i else Res.ok [] i) = .ok l j from h) with ⟨c, h⟩ | ⟨c, h⟩
   · obtain ⟨x, k, h1, -⟩ := bind_invv h
     obtain ⟨h0, e, -⟩ := G.dec w c h1
     exact .inr ⟨h0, e⟩
   · obtain ⟨rfl, rfl⟩ := ok_inv h; exact .inl ⟨rfl, Nat.le_refl _⟩
 · rintro h0 rfl
   obtain ⟨-, ws, h1, h2⟩ := many_inv (m := Ph P i) (C := .dec w) (g := h0) (fun i n j hc hi => by
    obtain ⟨h2, e, h3⟩ := G.dec w hc hi
    obtain rfl : h0 = h2 := by omega
    exact h3) _ _ _ h .mnil (by simp [jl])
   exact ⟨ws, h1, h2⟩
theorem con_inv {i : Nat} {n : Ty} {j : Nat} (h : conB P R i = .ok n j) : ∃ s l, Nm 4 s ∧ n = .mk 40 (P.A i) s 0 l ∧ (l = [] ∧ s.size + 32 + Ph P i ≤ Ph P j ∨ ∃ h t tw, g = h + 1 ∧ l = [t] ∧ D (.ty 0) h [t] tw ∧ s.size + 64 + jl tw + Ph P i ≤ Ph P j) := by
 obtain ⟨s, k, h1, h⟩ := bind_invv h
 obtain ⟨hk, rfl, hkp⟩ := kind_inv h1
 obtain ⟨o, k2, h2, h⟩ := bind_invv h
 have h2 := eat_inv h2
 rcases iteM_inv h with ⟨c, h⟩ | ⟨c, h⟩
 · obtain ⟨t, k3, h3, h⟩ := bind_invv h
   obtain ⟨rfl, rfl⟩ := pure_inv h
   obtain ⟨h0, e, tw, ht, hb⟩ := G.typ h3
   have h4 := h2.2 c
   exact ⟨_, _, H.up i hk, rfl, .inr ⟨_, _, _, e, rfl, ht, by omega⟩⟩
 · obtain ⟨rfl, rfl⟩ := pure_inv h
   exact ⟨_, _, H.up i hk, rfl, .inl ⟨rfl, by omega⟩⟩
theorem con_inv2 {i : Nat} {n : Ty} {j : Nat} (h : conB P R i = .ok n j) : ∃ ws, D .con g [n] ws ∧ jl ws + Ph P i ≤ Ph P j := by
 obtain ⟨s, l, hs, rfl, ⟨rfl, hb⟩ | ⟨h0, t, tw, rfl, rfl, ht, hb⟩⟩ := con_inv H G h
 · exact ⟨_, .con0 hs, jz⟩
 · exact ⟨_, .con1 hs ht, jz⟩
theorem exn_inv {a i m : Nat} (hm : m + 32 ≤ Ph P i) {n : Ty} {j : Nat} (h : conB P R i = .ok n j) : ∃ ws, D .dx g [.mk 41 a n.s n.q n.args] ws ∧ jl ws + m ≤ Ph P j := by
 obtain ⟨s, l, hs, rfl, ⟨rfl, hb⟩ | ⟨h0, t, tw, rfl, rfl, ht, hb⟩⟩ := con_inv H G h
 · show ∃ ws, D .dx g [.mk 41 a s 0 []] ws ∧ _
   exact ⟨_, .dx_exn0 hs, jz⟩
 · show ∃ ws, D .dx (h0 + 1) [.mk 41 a s 0 [t]] ws ∧ _
   exact ⟨_, .dx_exn1 hs ht, jz⟩
omit G in
theorem one_inv {i : Nat} {n : Ty} {j : Nat} (h : oneB P i = .ok n j) : ∃ ws, D .tv g [n] ws ∧ jl ws + Ph P i ≤ Ph P j := by
 obtain ⟨s, k, h1, h⟩ := bind_invv h
 obtain ⟨hk, rfl, hkp⟩ := kind_inv h1
 obtain ⟨rfl, rfl⟩ := pure_inv h
 exact ⟨_, .tv (H.va i hk), jz⟩
omit G in
theorem head_inv {k : Int} {a i : Nat} {n : Ty} {j : Nat} (h : headB P k a i = .ok n j) : ∃ s l ws, n = .mk k a s l.length l ∧ D (.head s) g l ws ∧ jl ws + Ph P i ≤ Ph P j := by
 rcases ite_inv h with ⟨c, h⟩ | ⟨c, h⟩
 · obtain ⟨v, k1, h1, h⟩ := bind_invv h
   obtain ⟨s, k2, h2, h⟩ := bind_invv h
   obtain ⟨rfl, rfl⟩ := pure_inv h
   obtain ⟨hk, rfl, hkp⟩ := kind_inv h2
   obtain ⟨vw, hv, hb⟩ := one_inv H (g := g) h1
   exact ⟨_, [v], _, rfl, .h_one (H.lo _ hk) hv, jz⟩
 rcases ite_inv h with ⟨c1, h⟩ | ⟨c1, h⟩
 · obtain ⟨l, k1, h1, h⟩ := bind_invv h
   obtain ⟨u, k2, hm, h⟩ := bind_invv h
   have hm := must_invv hm
   obtain ⟨s, k3, h3, h⟩ := bind_invv h
   obtain ⟨rfl, rfl⟩ := pure_inv h
   obtain ⟨hk, rfl, hkp⟩ := kind_inv h3
   obtain ⟨x, r, ws, rfl, hx, hb⟩ := row_inv s_com (by decide) (fun i n j hi => one_inv H (g := g) hi) h1
   cases r with
   | nil =>
    cases hx with
    | row1 hx => exact ⟨_, [x], _, rfl, .h_one (H.lo _ hk) hx, jz⟩
   | cons y r => exact ⟨_, _, _, rfl, .h_more (H.lo _ hk) hx, jz⟩
 · obtain ⟨s, k2, h2, h⟩ := bind_invv h
   obtain ⟨rfl, rfl⟩ := pure_inv h
   obtain ⟨hk, rfl, hkp⟩ := kind_inv h2
   exact ⟨_, [], _, rfl, .h_none (H.lo _ hk), jz⟩
theorem dbind_inv {i : Nat} {n : Ty} {j : Nat} (h : dbindB P R i = .ok n j) : ∃ ws, D .db g [n] ws ∧ jl ws + Ph P i ≤ Ph P j := by
 obtain ⟨m, k, h1, h⟩ := bind_invv h
 obtain ⟨s, v, hw, rfl, hv, hb⟩ := head_inv H (g := g) h1
 obtain ⟨u, k2, hm, h⟩ := bind_invv h
 have hm := must_invv hm
 obtain ⟨l, k3, h3, h⟩ := bind_invv h
 obtain ⟨rfl, rfl⟩ := pure_inv h
 obtain ⟨x, r, ws, rfl, hx, hb2⟩ := row_inv s_bar (by decide) (fun i n j hi => con_inv2 H G hi) h3
 exact ⟨_, .db hv hx, jz⟩
theorem data_inv {a i m : Nat} (hm : m + 32 ≤ Ph P i) {n : Ty} {j : Nat} (h : dataB P R a i = .ok n j) : ∃ ws, D .dx g [n] ws ∧ jl ws + m ≤ Ph P j := by
 obtain ⟨l, k3, h3, h⟩ := bind_invv h
 obtain ⟨rfl, rfl⟩ := pure_inv h
 obtain ⟨x, r, ws, rfl, hx, hb2⟩ := row_inv w_and (by decide) (fun i n j hi => dbind_inv H G hi) h3
 exact ⟨_, .dx_data hx, jz⟩
theorem fbind_inv {i : Nat} {n : Ty} {j : Nat} (h : fbindB P R i = .ok n j) : ∃ ws, D .fb g [n] ws ∧ jl ws + Ph P i ≤ Ph P j := by
 obtain ⟨s, k, h1, h⟩ := bind_invv h
 obtain ⟨hk, rfl, hkp⟩ := kind_inv h1
 obtain ⟨p, k2, h2, h⟩ := bind_invv h
 obtain ⟨l, k3, h3, h⟩ := bind_invv h
 obtain ⟨⟨pw, hp, hpb⟩, -⟩ := apat_inv H G h2
 obtain ⟨hl, lw, hlw, hlb⟩ := many_inv (m := Ph P k) (C := .pt 2) (g := g) (fun i n j hc hi => (apat_inv H G hi).1) _ _ _ h3 (.mcons hp .mnil) jz
 cases l with
 | nil => simp at hl
 | cons x r =>
  obtain ⟨c, k4, h4, h⟩ := bind_invv h
  have h4 := eat_inv h4
  rcases iteM_inv h with ⟨c, h⟩ | ⟨c, h⟩
  · obtain ⟨t, k5, h5, h⟩ := bind_invv h
    obtain ⟨u, k6, hm, h⟩ := bind_invv h
    have hm := must_invv hm
    obtain ⟨e, k7, h7, h⟩ := bind_invv h
    obtain ⟨rfl, rfl⟩ := pure_inv h
    obtain ⟨g1, e1, tw, ht, htb⟩ := G.typ h5
    obtain ⟨g2, e2, ew, he, heb⟩ := G.deep h7
    obtain rfl : g1 = g2 + 1 := by omega
    subst e2
    exact ⟨_, .fb_has trivial (H.lo _ hk) hlw he ht, jz⟩
  · obtain ⟨u, k6, hm, h⟩ := bind_invv h
    have hm := must_invv hm
    obtain ⟨e, k7, h7, h⟩ := bind_invv h
    obtain ⟨rfl, rfl⟩ := pure_inv h
    obtain ⟨g1, rfl, ew, he, heb⟩ := G.exp h7
    exact ⟨_, .fb (H.lo _ hk) hlw he, jz⟩
theorem body_inv {i : Nat} {n : Ty} {j : Nat} (h : bodyB P R i = .ok n j) : ∃ ws, D .body g [n] ws ∧ jl ws + Ph P i ≤ Ph P j := by
 rcases ite_inv h with ⟨c, h⟩ | ⟨c, h⟩
 · obtain ⟨l, k, h1, h⟩ := bind_invv h
   obtain ⟨u, k2, hm, h⟩ := bind_invv h
   have hm := must_invv hm
   obtain ⟨rfl, rfl⟩ := pure_inv h
   obtain ⟨h2, h3⟩ := decs_inv G h1
   cases l with
   | nil =>
    rcases h2 with h2 | ⟨h0, rfl⟩
    · have h2 := h2.2
      exact ⟨_, .b_nil, jz⟩
    · obtain ⟨ws, h4, h5⟩ := h3 h0 rfl
      exact ⟨_, .b_nil, jz⟩
   | cons x l =>
    obtain ⟨h0, rfl⟩ := h2.resolve_left (by simp)
    obtain ⟨ws, h4, h5⟩ := h3 h0 rfl
    exact ⟨_, .b_str h4, jz⟩
 · obtain ⟨p, k, h1, h⟩ := bind_invv h
   obtain ⟨rfl, rfl⟩ := ret_inv h
   obtain ⟨ws, hp, h2, -, hb⟩ := path_inv H h1
   rw [h2 rfl] at hp
   exact ⟨_, .b_path hp, hb⟩
theorem structure_inv {a i w m : Nat} (hm : m + 32 ≤ Ph P i) (hw : w ≤ 1) {n : Ty} {j : Nat} (h : structureB P R a i = .ok n j) : ∃ ws, D (.dec w) g [n] ws ∧ jl ws + m ≤ Ph P j := by
 obtain ⟨s, k, h1, h⟩ := bind_invv h
 obtain ⟨hk, rfl, hkp⟩ := kind_inv h1
 have hs := H.up _ hk
 obtain ⟨x, k2, h2, h⟩ := bind_invv h
 obtain ⟨u, k3, h3, h⟩ := bind_invv h
 have h3 := must_invv h3
 obtain ⟨b, k4, h4, h⟩ := bind_invv h
 obtain ⟨rfl, rfl⟩ := pure_inv h
 obtain ⟨bw, hb, hbb⟩ := body_inv H G h4
 rcases ite_inv h2 with ⟨c, h2⟩ | ⟨c, h2⟩
 · obtain ⟨y, k5, h5, h2⟩ := bind_invv h2
   obtain ⟨rfl, rfl⟩ := ret_inv h2
   obtain ⟨h0, rfl, ws, hx, hxb⟩ := G.sig h5
   exact ⟨_, .d_str1 (N := 1) hw hs (.inl ⟨rfl, rfl⟩) hx hb, jz⟩
 rcases ite_inv h2 with ⟨c1, h2⟩ | ⟨c1, h2⟩
 · obtain ⟨y, k5, h5, h2⟩ := bind_invv h2
   obtain ⟨rfl, rfl⟩ := ret_inv h2
   obtain ⟨h0, rfl, ws, hx, hxb⟩ := G.sig h5
   exact ⟨_, .d_str1 (N := 2) hw hs (.inr ⟨rfl, rfl⟩) hx hb, jz⟩
 · obtain ⟨rfl, rfl⟩ := ok_inv h2
   exact ⟨_, .d_str0 hw hs hb, jz⟩
theorem dec_inv {w i : Nat} (hw : oneD P (startsL w) i = true) {n : Ty} {j : Nat} (h : decB P R i = .ok n j) : ∃ ws, D (.dec w) g [n] ws ∧ jl ws + Ph P i ≤ Ph P j := by
 have ht := oneD_text hw
 have hP : Ph P i + 32 ≤ Ph P (i + 1) := by rw [Ph.s]; omega
 have h2 : ∀ s, P.T i = s → s ∉ startsL 2 → w ≤ 1 := by
  intro s e hs
  rw [e] at ht
  have h3 : s ∉ startsL w ∨ w ≤ 1 := by
   by_cases c : w ≤ 1
   · exact .inr c
   · have e : startsL w = startsL 2 := by unfold startsL; rw [if_neg (by omega), if_neg (by omega)]; rfl
     rw [e]; exact .inl hs
  exact h3.resolve_left fun h => h ht
 rcases ite_inv h with ⟨c, h⟩ | ⟨c1, h⟩
 · obtain ⟨p, k, h1, h⟩ := bind_invv h
   obtain ⟨u, k2, hm, h⟩ := bind_invv h
   have hm := must_invv hm
   obtain ⟨e, k3, h3, h⟩ := bind_invv h
   obtain ⟨rfl, rfl⟩ := pure_inv h
   obtain ⟨h0, rfl, pw, hp, hb⟩ := G.pat h1
   obtain ⟨h9, e2, ew, he, hb2⟩ := G.exp h3
   obtain rfl : h0 = h9 := by omega
   exact ⟨_, .d_val hp he, jz⟩
 rcases ite_inv h with ⟨c, h⟩ | ⟨c2, h⟩
 · obtain ⟨l, k3, h3, h⟩ := bind_invv h
   obtain ⟨rfl, rfl⟩ := pure_inv h
   obtain ⟨x, r, ws, rfl, hx, hb2⟩ := row_inv w_and (by decide) (fun i n j hi => fbind_inv H G hi) h3
   exact ⟨_, .d_fun hx, jz⟩
 rcases ite_inv h with ⟨c, h⟩ | ⟨c3, h⟩
 · obtain ⟨m, k, h1, h⟩ := bind_invv h
   obtain ⟨u, k2, hm, h⟩ := bind_invv h
   have hm := must_invv hm
   obtain ⟨t, k3, h3, h⟩ := bind_invv h
   obtain ⟨rfl, rfl⟩ := pure_inv h
   obtain ⟨h0, rfl, tw, ht, hb⟩ := G.typ h3
   obtain ⟨s, l, lw, rfl, hl, hb2⟩ := head_inv H (g := h0) h1
   exact ⟨_, .d_type (h2 _ c (notin (by decide))) hl ht, jz⟩
 rcases ite_inv h with ⟨c, h⟩ | ⟨c4, h⟩
 · obtain ⟨ws, hd, hb⟩ := data_inv H G hP h
   exact ⟨_, .d_dx (.inr (h2 _ c (notin (by decide)))) hd, hb⟩
 rcases ite_inv h with ⟨c, h⟩ | ⟨c5, h⟩
 · obtain ⟨m, k, h1, h⟩ := bind_invv h
   obtain ⟨rfl, rfl⟩ := pure_inv h
   obtain ⟨ws, hd, hb⟩ := exn_inv (a := P.A i) H G hP h1
   exact ⟨_, .d_dx (.inl rfl) hd, hb⟩
 rcases ite_inv h with ⟨c, h⟩ | ⟨c6, h⟩
 · exact structure_inv H G hP (h2 _ c (notin (by decide))) h
 rcases ite_inv h with ⟨c, h⟩ | ⟨c7, h⟩
 · obtain ⟨s, k, h1, h⟩ := bind_invv h
   obtain ⟨hk, rfl, hkp⟩ := kind_inv h1
   obtain ⟨u, k2, hm, h⟩ := bind_invv h
   have hm := must_invv hm
   obtain ⟨x, k3, h3, h⟩ := bind_invv h
   obtain ⟨rfl, rfl⟩ := pure_inv h
   obtain ⟨h0, rfl, xw, hx, hb⟩ := G.sig h3
   have h4 : w = 0 := by
    by_cases c0 : w = 0
    · exact c0
    · have h5 : P.T i ∉ startsL w := by
       by_cases c1 : w = 1
       · rw [c1, c]; exact notin (by decide)
       · have e : startsL w = startsL 2 := by unfold startsL; rw [if_neg (by omega), if_neg (by omega)]; rfl
         rw [e, c]; exact notin (by decide)
      exact absurd ht h5
   exact ⟨_, .d_sig h4 (H.up _ hk) hx, jz⟩
 · obtain ⟨p, k, h1, h⟩ := bind_invv h
   obtain ⟨rfl, rfl⟩ := pure_inv h
   obtain ⟨ws, hp, h3, -, hb⟩ := path_inv H h1
   rw [h3 rfl] at hp
   exact ⟨_, .d_open hp, jz⟩
theorem spec_inv {i : Nat} {n : Ty} {j : Nat} (h : specB P R i = .ok n j) : ∃ ws, D .spec g [n] ws ∧ jl ws + Ph P i ≤ Ph P j := by
 have hP : Ph P i + 32 ≤ Ph P (i + 1) := by rw [Ph.s]; omega
 rcases ite_inv h with ⟨c, h⟩ | ⟨c1, h⟩
 · obtain ⟨s, k, h1, h⟩ := bind_invv h
   obtain ⟨hk, rfl, hkp⟩ := kind_inv h1
   obtain ⟨u, k2, hm, h⟩ := bind_invv h
   have hm := must_invv hm
   obtain ⟨t, k3, h3, h⟩ := bind_invv h
   obtain ⟨rfl, rfl⟩ := pure_inv h
   obtain ⟨h0, rfl, tw, ht, hb⟩ := G.typ h3
   exact ⟨_, .sp_val (H.lo _ hk) ht, jz⟩
 rcases ite_inv h with ⟨c, h⟩ | ⟨c2, h⟩
 · obtain ⟨m, k, h1, h⟩ := bind_invv h
   obtain ⟨e, k2, h2, h⟩ := bind_invv h
   have h2 := eat_inv h2
   rcases iteM_inv h with ⟨c, h⟩ | ⟨c, h⟩
   · obtain ⟨t, k3, h3, h⟩ := bind_invv h
     obtain ⟨rfl, rfl⟩ := pure_inv h
     obtain ⟨h0, rfl, tw, ht, hb⟩ := G.typ h3
     obtain ⟨s, l, lw, rfl, hl, hb2⟩ := head_inv H (g := h0) h1
     have h4 := h2.2 c
     exact ⟨_, .sp_type1 hl ht, jz⟩
   · obtain ⟨rfl, rfl⟩ := pure_inv h
     obtain ⟨s, l, lw, rfl, hl, hb2⟩ := head_inv H (g := g) h1
     exact ⟨_, .sp_type hl, jz⟩
 rcases ite_inv h with ⟨c, h⟩ | ⟨c3, h⟩
 · obtain ⟨ws, hd, hb⟩ := data_inv H G hP h
   exact ⟨_, .sp_dx hd, hb⟩
 rcases ite_inv h with ⟨c, h⟩ | ⟨c4, h⟩
 · obtain ⟨m, k, h1, h⟩ := bind_invv h
   obtain ⟨rfl, rfl⟩ := pure_inv h
   obtain ⟨ws, hd, hb⟩ := exn_inv (a := P.A i) H G hP h1
   exact ⟨_, .sp_dx hd, hb⟩
 rcases ite_inv h with ⟨c, h⟩ | ⟨c5, h⟩
 · obtain ⟨s, k, h1, h⟩ := bind_invv h
   obtain ⟨hk, rfl, hkp⟩ := kind_inv h1
   obtain ⟨u, k2, hm, h⟩ := bind_invv h
   have hm := must_invv hm
   obtain ⟨x, k3, h3, h⟩ := bind_invv h
   obtain ⟨rfl, rfl⟩ := pure_inv h
   obtain ⟨h0, rfl, xw, hx, hb⟩ := G.sig h3
   exact ⟨_, .sp_str (H.up _ hk) hx, jz⟩
 · exact (fail_inv h).elim
theorem specs_inv : ∀ (f : Nat) (acc : List Ty) (i : Nat) {l : List Ty} {j m : Nat} {ws : List ByteArray}, specsL P R f acc i = .ok l j → D (.many .spec) g acc ws → jl ws + m ≤ Ph P i → ∃ ws, D (.many .spec) g l ws ∧ jl ws + m ≤ Ph P j
 | 0, acc, i, l, j, m, ws, h, ha, hm => by obtain ⟨rfl, rfl⟩ := ret_inv h; exact ⟨_, ha, hm⟩
 | f + 1, acc, i, l, j, m, ws, h, ha, hm => by
  rcases ite_inv h with ⟨c, h⟩ | ⟨c, h⟩
  · obtain ⟨rfl, rfl⟩ := ok_inv h; exact ⟨_, ha, by rw [Ph.s]; omega⟩
  · obtain ⟨x, k, h1, h⟩ := bind_invv h
    obtain ⟨vs, hx, hp⟩ := spec_inv H G h1
    obtain ⟨us, h2, h3⟩ := many_snoc hx ha
    exact specs_inv f _ _ h h2 (by omega)
theorem sigs_inv {i : Nat} {n : Ty} {j : Nat} (h : sigsB P R i = .ok n j) : ∃ ws, D .sig g [n] ws ∧ jl ws + Ph P i ≤ Ph P j := by
 rcases ite_inv h with ⟨c, h⟩ | ⟨c, h⟩
 · obtain ⟨l, k, h1, h⟩ := bind_invv h
   obtain ⟨rfl, rfl⟩ := pure_inv h
   obtain ⟨ws, h2, h3⟩ := specs_inv H G _ _ _ (m := Ph P i + 16) h1 .mnil jz
   exact ⟨_, .s_body h2, jz⟩
 · obtain ⟨s, k, h1, h⟩ := bind_invv h
   obtain ⟨hk, rfl, hkp⟩ := kind_inv h1
   obtain ⟨rfl, rfl⟩ := pure_inv h
   exact ⟨_, .s_name (H.up _ hk), jz⟩
theorem rule_inv {i : Nat} {n : Ty} {j : Nat} (h : ruleB P R i = .ok n j) : ∃ ws, D .rule g [n] ws ∧ jl ws + Ph P i ≤ Ph P j := by
 obtain ⟨p, k, h1, h⟩ := bind_invv h
 obtain ⟨u, k2, hm, h⟩ := bind_invv h
 have hm := must_invv hm
 obtain ⟨e, k3, h3, h⟩ := bind_invv h
 obtain ⟨rfl, rfl⟩ := pure_inv h
 obtain ⟨h0, rfl, pw, hp, hb⟩ := G.pat h1
 obtain ⟨h9, e2, ew, he, hb2⟩ := G.exp h3
 obtain rfl : h0 = h9 := by omega
 exact ⟨_, .rule hp he, jz⟩
theorem rules_inv {k : Int} {a i m : Nat} (hm0 : m + 32 ≤ Ph P i) {w : ByteArray} {n : Ty} {j : Nat} (hw : k = 10 ∧ w = w_of ∨ k = 11 ∧ w = w_with) (h : rulesB P R k a w i = .ok n j) : ∃ ws, D (.e0 10) g [n] ws ∧ jl ws + m ≤ Ph P j := by
 obtain ⟨e, k1, h1, h⟩ := bind_invv h
 obtain ⟨u, k2, hm, h⟩ := bind_invv h
 have hm := must_invv hm
 obtain ⟨l, k3, h3, h⟩ := bind_invv h
 obtain ⟨u2, k4, hm2, h⟩ := bind_invv h
 have hm2 := must_invv hm2
 obtain ⟨rfl, rfl⟩ := pure_inv h
 obtain ⟨h0, rfl, ew, he, hb⟩ := G.exp h1
 obtain ⟨x, r, ws, rfl, hx, hb2⟩ := row_inv s_bar (by decide) (fun i n j hi => rule_inv H G hi) h3
 rcases hw with ⟨rfl, -⟩ | ⟨rfl, -⟩
 · exact ⟨_, .e_case he hx, jz⟩
 · exact ⟨_, .e_try he hx, jz⟩
theorem round_invv {a i m : Nat} (hm0 : m + 32 ≤ Ph P i) {n : Ty} {j : Nat} (h : roundB P R a i = .ok n j) : ∃ ws, D (.ex 9) g [n] ws ∧ jl ws + m ≤ Ph P j := by
 have np : ∀ {n ws}, D (.e0 10) g [n] ws → jl ws + m ≤ Ph P j → ∃ ws, D (.ex 9) g [n] ws ∧ jl ws + m ≤ Ph P j := fun h hb => ⟨_, .ex_np h (by omega) (Nat.le_refl _), hb⟩
 rcases ite_inv h with ⟨c, h⟩ | ⟨c, h⟩
 · obtain ⟨rfl, rfl⟩ := ok_inv h
   exact np .e_unit jz
 obtain ⟨p, k, h1, h⟩ := bind_invv h
 obtain ⟨h0, rfl, ws, hp, hb⟩ := G.exp h1
 obtain ⟨b, k2, h2, h⟩ := bind_invv h
 have h2 := eat_inv h2
 rcases iteM_inv h with ⟨c2, h⟩ | ⟨c2, h⟩
 · obtain ⟨l, k, h1, h⟩ := bind_invv h
   obtain ⟨u, k3, hm, h⟩ := bind_invv h
   have hm := must_invv hm
   obtain ⟨rfl, rfl⟩ := pure_inv h
   obtain ⟨h9, x, r, vs, e, rfl, hx, hb2⟩ := rows_in G G.exp s_com (by decide) h1
   obtain rfl : h0 = h9 := by omega
   have h4 := h2.2 c2
   exact np (.e_tup (.rowS hp hx)) jz
 obtain ⟨b2, k3, h3, h⟩ := bind_invv h
 have h3 := eat_inv h3
 rcases iteM_inv h with ⟨c3, h⟩ | ⟨c3, h⟩
 · obtain ⟨l, k, h1, h⟩ := bind_invv h
   obtain ⟨u, k3, hm, h⟩ := bind_invv h
   have hm := must_invv hm
   obtain ⟨rfl, rfl⟩ := pure_inv h
   obtain ⟨h9, x, r, vs, e, rfl, hx, hb2⟩ := rows_in G G.exp s_sem (by decide) h1
   obtain rfl : h0 = h9 := by omega
   have h4 := h3.2 c3
   exact np (.e_seq (.rowS hp hx)) jz
 obtain ⟨b3, k4, h5, h⟩ := bind_invv h
 have h5 := eat_inv h5
 rcases iteM_inv h with ⟨c4, h⟩ | ⟨c4, h⟩
 · obtain ⟨t, k, h1, h⟩ := bind_invv h
   obtain ⟨u, k2, hm, h⟩ := bind_invv h
   have hm := must_invv hm
   obtain ⟨rfl, rfl⟩ := pure_inv h
   obtain ⟨h9, e, tw, ht, hb2⟩ := G.typ h1
   obtain rfl : h0 = h9 := by omega
   have h4 := h5.2 c4
   exact np (.e_has hp ht) jz
 · obtain ⟨u, k2, hm, h⟩ := bind_invv h
   have hm := must_invv hm
   obtain ⟨rfl, rfl⟩ := pure_inv h
   exact ex_lift hp 9 (Nat.lt_succ_self _) (by omega)
theorem atom_inv {i : Nat} {n : Ty} {j : Nat} (h : atomB P R i = .ok n j) : ∃ ws, D (.ex 9) g [n] ws ∧ jl ws + Ph P i ≤ Ph P j := by
 have np : ∀ {n ws}, D (.e0 10) g [n] ws → jl ws + Ph P i ≤ Ph P j → ∃ ws, D (.ex 9) g [n] ws ∧ jl ws + Ph P i ≤ Ph P j := fun h hb => ⟨_, .ex_np h (by omega) (Nat.le_refl _), hb⟩
 have hP : Ph P i + 32 ≤ Ph P (i + 1) := by rw [Ph.s]; omega
 rcases ite_inv h with ⟨c, h⟩ | ⟨c1, h⟩
 · obtain ⟨rfl, rfl⟩ := ok_inv h
   have := dgW_le (H.num i c)
   exact np (.e_int (H.num i c)) jz
 rcases ite_inv h with ⟨c, h⟩ | ⟨c2, h⟩
 · obtain ⟨rfl, rfl⟩ := ok_inv h
   have := quoteD_le (P.T i)
   exact np (.e_str (H.str i c)) jz
 rcases ite_inv h with ⟨c, h⟩ | ⟨c3, h⟩
 · obtain ⟨p, k, h1, h⟩ := bind_invv h
   obtain ⟨rfl, rfl⟩ := ret_inv h
   obtain ⟨ws, hp, -, -, hb⟩ := path_inv H h1
   have e : (if p.2 = 3 then (3 : Int) else 4) = (p.2 : Int) := by rcases path_kind hp with e | e <;> rw [e] <;> rfl
   rw [e]
   exact np (.e_path hp) hb
 rcases ite_inv h with ⟨c, h⟩ | ⟨c4, h⟩
 · obtain ⟨rfl, rfl⟩ := ok_inv h; exact np (.e_tf (tf_of c)) jz
 rcases ite_inv h with ⟨c, h⟩ | ⟨c5, h⟩
 · exact round_invv H G hP h
 rcases ite_inv h with ⟨c, h⟩ | ⟨c6, h⟩
 · obtain ⟨b, k, h2, h⟩ := bind_invv h
   have h2 := eat_inv h2
   rcases iteM_inv h with ⟨c, h⟩ | ⟨c, h⟩
   · obtain ⟨rfl, rfl⟩ := pure_inv h
     have h4 := h2.2 c
     exact np .e_nil jz
   · obtain ⟨l, k, h1, h⟩ := bind_invv h
     obtain ⟨u, k2, hm, h⟩ := bind_invv h
     have hm := must_invv hm
     obtain ⟨rfl, rfl⟩ := pure_inv h
     obtain ⟨h0, x, r, ws, rfl, rfl, hx, hb⟩ := rows_in G G.exp s_com (by decide) h1
     exact np (.e_list hx) jz
 rcases ite_inv h with ⟨c, h⟩ | ⟨c7, h⟩
 · obtain ⟨l, k, h1, h⟩ := bind_invv h
   obtain ⟨u, k2, hm, h⟩ := bind_invv h
   have hm := must_invv hm
   obtain ⟨e, k3, h3, h⟩ := bind_invv h
   obtain ⟨u2, k4, hm2, h⟩ := bind_invv h
   have hm2 := must_invv hm2
   obtain ⟨rfl, rfl⟩ := pure_inv h
   obtain ⟨h0, rfl, ew, he, hb⟩ := G.exp h3
   obtain ⟨lw, hl, hb2⟩ := (decs_inv G h1).2 h0 rfl
   exact np (.e_let hl he) jz
 rcases ite_inv h with ⟨c, h⟩ | ⟨c8, h⟩
 · obtain ⟨ws, h2, hb⟩ := rules_inv H G hP (.inl ⟨rfl, rfl⟩) h; exact np h2 hb
 rcases ite_inv h with ⟨c, h⟩ | ⟨c9, h⟩
 · obtain ⟨ws, h2, hb⟩ := rules_inv H G hP (.inr ⟨rfl, rfl⟩) h; exact np h2 hb
 · exact (fail_inv h).elim
theorem prefixL_inv : ∀ (f : Nat) {i : Nat} {n : Ty} {j : Nat}, prefixL P R f i = .ok n j → ∃ ws, D (.ex 9) g [n] ws ∧ jl ws + Ph P i ≤ Ph P j
 | 0, i, n, j, h => (fail_inv h).elim
 | f + 1, i, n, j, h => by
  rcases ite_inv h with ⟨c, h⟩ | ⟨c, h⟩
  · obtain ⟨m, k, h1, h⟩ := bind_invv h
    obtain ⟨rfl, rfl⟩ := ret_inv h
    obtain ⟨ws, hm, hb⟩ := prefixL_inv f h1
    have ht : P.T i = s_ti ∨ P.T i = s_ex := by
     rcases c with c | c
     · exact .inl (isD_text c)
     · exact .inr (isD_text c)
    exact ⟨_, .ex_np (.e_un ht hm) (Nat.le_refl _) (Nat.le_refl _), jz⟩
  · exact atom_inv H G h
theorem applyL_inv : ∀ (f : Nat) (m : Ty) {i : Nat} {n : Ty} {j b : Nat}, applyL P R f m i = .ok n j → (∃ ws, D (.ex 8) g [m] ws ∧ jl ws + b ≤ Ph P i) → ∃ ws, D (.ex 8) g [n] ws ∧ jl ws + b ≤ Ph P j
 | 0, m, i, n, j, b, h, hm => by obtain ⟨rfl, rfl⟩ := ret_inv h; exact hm
 | f + 1, m, i, n, j, b, h, hm => by
  rcases ite_inv h with ⟨c, h⟩ | ⟨c, h⟩
  · obtain ⟨x, k, h1, h⟩ := bind_invv h
    obtain ⟨xw, hx, hxb⟩ := prefixL_inv H G _ h1
    obtain ⟨mw, hm, hmb⟩ := hm
    exact applyL_inv f _ h ⟨_, .ex_np (.e_app hm hx) (Nat.le_refl _) (Nat.le_refl _), jz⟩
  · obtain ⟨rfl, rfl⟩ := ok_inv h; exact hm
theorem apply_inv {i : Nat} {n : Ty} {j : Nat} (h : applyB P R i = .ok n j) : ∃ ws, D (.ex 8) g [n] ws ∧ jl ws + Ph P i ≤ Ph P j := by
 obtain ⟨m, k, h1, h⟩ := bind_invv h
 obtain ⟨mw, hm, hb⟩ := prefixL_inv H G _ h1
 exact applyL_inv H G _ _ h (ex_to hm (by omega) (Nat.le_refl _) hb)
inductive Co (k L g : Nat) : List (ByteArray × Ty) → Nat → Prop
 | nil : Co k L g [] 0
 | cons {s x ws l b} : s ∈ lvL k → D (.ex L) g [x] ws → Co k L g l b → Co k L g ((s, x) :: l) (jl ws + 8 + b)
omit H G in
theorem Co.snoc {k L : Nat} {s : ByteArray} {x : Ty} {ws : List ByteArray} (hs : s ∈ lvL k) (hx : D (.ex L) g [x] ws) : ∀ {l : List (ByteArray × Ty)} {b : Nat}, Co k L g l b → Co k L g (l ++ [(s, x)]) (b + (jl ws + 8))
 | _, _, .nil => by have := Co.cons hs hx .nil; simpa using this
 | _, _, .cons h h2 h3 => by have := Co.cons h h2 (h3.snoc hs hx); rw [Nat.add_assoc]; exact this
omit H G in
theorem col_inv {k L : Nat} {item : M Ty} (hi : ∀ i n j, item i = .ok n j → ∃ ws, D (.ex L) g [n] ws ∧ jl ws + Ph P i ≤ Ph P j) : ∀ (f : Nat) (acc : List (ByteArray × Ty)) (i : Nat) {l : List (ByteArray × Ty)} {j b m : Nat}, colL P k item f acc i = .ok l j → Co k L g acc b → b + m ≤ Ph P i → (neverB k = true → acc.length ≤ 1) → (∃ b, Co k L g l b ∧ b + m ≤ Ph P j) ∧ (neverB k = true → l.length ≤ 1)
 | 0, acc, i, l, j, b, m, h, ha, hm, hn => by obtain ⟨rfl, rfl⟩ := ret_inv h; exact ⟨⟨_, ha, hm⟩, hn⟩
 | f + 1, acc, i, l, j, b, m, h, ha, hm, hn => by
  rcases ite_inv h with ⟨c, h⟩ | ⟨c, h⟩
  · obtain ⟨x, k, h1, h⟩ := bind_invv h
    obtain ⟨ws, hx, hb⟩ := hi _ _ _ h1
    rw [Ph.s] at hb
    refine col_inv hi f _ _ (m := m) h (ha.snoc (oneD_text c.2) hx) (by omega) ?_
    intro hk
    rcases c.1 with c | c
    · simp [c]
    · rw [hk] at c; cases c
  · obtain ⟨rfl, rfl⟩ := ok_inv h; exact ⟨⟨_, ha, hm⟩, hn⟩
def lA (L : Nat) : Nat := if L = 2 ∨ L = 3 ∨ L = 6 ∨ L = 7 then L else L + 1
def lB (L : Nat) : Nat := if L = 5 then L else L + 1
omit H G in
theorem joinD_ok {L : Nat} (h1 : 1 ≤ L) (h7 : L ≤ 7) {s : ByteArray} (hs : s ∈ lvL (8 - L)) {x y : Ty} {a b : Nat} (hx : ∃ ws, D (.ex (lA L)) g [x] ws ∧ jl ws ≤ a) (hy : ∃ ws, D (.ex (lB L)) g [y] ws ∧ jl ws ≤ b) : ∃ ws, D (.ex L) g [joinD s x y] ws ∧ jl ws ≤ a + b + 8 := by
 obtain ⟨xw, hx, ha⟩ := hx
 obtain ⟨yw, hy, hb⟩ := hy
 by_cases h2 : L = 2
 · subst h2
   simp [lvL] at hs; subst hs
   exact ⟨_, .ex_np (.e_or hx hy) (Nat.le_refl _) (Nat.le_refl _), jz⟩
 by_cases h3 : L = 3
 · subst h3
   simp [lvL] at hs; subst hs
   exact ⟨_, .ex_np (.e_and hx hy) (Nat.le_refl _) (Nat.le_refl _), jz⟩
 have ho : s ∈ opL L ∧ s ≠ w_andalso ∧ s ≠ w_orelse ∧ s.size ≤ 7 := by
  have : L = 1 ∨ L = 4 ∨ L = 5 ∨ L = 6 ∨ L = 7 := by omega
  rcases this with rfl | rfl | rfl | rfl | rfl <;> (refine ⟨hs, ?_⟩; revert s; decide)
 have e : joinD s x y = .mk 18 x.n s 0 [x, y] := by unfold joinD; rw [if_neg ho.2.1, if_neg ho.2.2.1]
 rw [e]
 have ea : lA L = opA L := by unfold lA opA; split <;> split <;> omega
 have eb : lB L = opB L := rfl
 rw [ea] at hx
 rw [eb] at hy
 have h9 := ho.2.2.2
 exact ⟨_, .ex_np (.e_op ho.1 hx hy) (Nat.le_refl _) (Nat.le_refl _), jz⟩
omit H G in
theorem foldL_ok {L : Nat} (h1 : 1 ≤ L) (h7 : L ≤ 7) (h5 : L ≠ 5) : ∀ (l : List (ByteArray × Ty)) (a : Ty) {b c : Nat}, Co (8 - L) (L + 1) g l b → (neverB (8 - L) = true → l.length ≤ 1) → (∃ ws, D (.ex (L + 1)) g [a] ws ∧ jl ws ≤ c) ∨ ((∃ ws, D (.ex L) g [a] ws ∧ jl ws ≤ c) ∧ (neverB (8 - L) = true → l = [])) → ∃ ws, D (.ex L) g [foldLd a l] ws ∧ jl ws ≤ c + b
 | [], a, _, c, .nil, _, ha => by
  rcases ha with ⟨ws, ha, hc⟩ | ⟨ha, -⟩
  · exact ex_to (m := 0) ha (by omega) (Nat.le_refl _) (by omega)
  · exact ha
 | _ :: r, a, _, c, .cons (s := s) (x := x) (ws := xw) (b := b2) hs hx hr, hn, ha => by
  show ∃ ws, D (.ex L) g [foldLd (joinD s a x) r] ws ∧ _
  obtain ⟨jw, hj, hjb⟩ := joinD_ok (g := g) (L := L) (a := c) (b := jl xw) h1 h7 hs (x := a) (y := x) (by
   by_cases hc : L = 2 ∨ L = 3 ∨ L = 6 ∨ L = 7
   · have e : lA L = L := if_pos hc
     rw [e]
     rcases ha with ⟨ws, ha, hc⟩ | ⟨ha, -⟩
     · exact ex_to (m := 0) ha (by omega) (Nat.le_refl _) (by omega)
     · exact ha
   · have e : lA L = L + 1 := if_neg hc
     rw [e]
     rcases ha with ha | ⟨-, ha⟩
     · exact ha
     · have hne : neverB (8 - L) = true := by unfold neverB; simp; omega
       cases ha hne) (by
   have e : lB L = L + 1 := if_neg h5
   rw [e]; exact ⟨_, hx, Nat.le_refl _⟩)
  obtain ⟨ws, h3, h4⟩ := foldL_ok h1 h7 h5 r (joinD s a x) hr (fun h => by have := hn h; simp at this; simp [this]) (.inr ⟨⟨_, hj, hjb⟩, fun h => by have := hn h; simpa using this⟩)
  exact ⟨ws, h3, by omega⟩
omit H G in
theorem foldR_ok : ∀ (l : List (ByteArray × Ty)) (a : Ty) {b c : Nat}, Co 3 6 g l b → (∃ ws, D (.ex 6) g [a] ws ∧ jl ws ≤ c) → ∃ ws, D (.ex 5) g [foldR a l] ws ∧ jl ws ≤ c + b
 | [], a, _, c, .nil, ⟨ws, ha, hc⟩ => ex_to (m := 0) ha (by omega) (Nat.le_refl _) (by omega)
 | _ :: r, a, _, c, .cons (s := s) (x := x) (ws := xw) (b := b2) hs hx hr, ha => by
  obtain ⟨ws, h3, h4⟩ := joinD_ok (L := 5) (by omega) (by omega) hs ha (foldR_ok r x hr ⟨_, hx, Nat.le_refl _⟩)
  exact ⟨ws, h3, by omega⟩
theorem bet_inv : ∀ (k : Nat), k ≤ 7 → ∀ {i : Nat} {n : Ty} {j : Nat}, betB P R k i = .ok n j → ∃ ws, D (.ex (8 - k)) g [n] ws ∧ jl ws + Ph P i ≤ Ph P j
 | 0, _, i, n, j, h => apply_inv H G h
 | k + 1, hk, i, n, j, h => by
  obtain ⟨a, k1, h1, h⟩ := bind_invv h
  obtain ⟨l, k2, h2, h⟩ := bind_invv h
  have ha := bet_inv k (by omega) h1
  have e : 8 - k = 8 - (k + 1) + 1 := by omega
  have e2 : 8 - (8 - (k + 1)) = k + 1 := by omega
  rw [e] at ha
  obtain ⟨aw, ha, hab⟩ := ha
  obtain ⟨⟨b, hl, hb⟩, hn⟩ := col_inv (L := 8 - (k + 1) + 1) (g := g) (m := Ph P k1) (fun i n j hi => by rw [← e]; exact bet_inv k (by omega) hi) _ _ _ h2 .nil (by omega) (by simp)
  obtain ⟨rfl, rfl⟩ := pure_inv h
  by_cases h3 : k + 1 = 3
  · rw [if_pos h3]
    obtain rfl : k = 2 := by omega
    obtain ⟨ws, h4, h5⟩ := foldR_ok l a hl ⟨aw, ha, Nat.le_refl _⟩
    exact ⟨ws, h4, by omega⟩
  · rw [if_neg h3]
    obtain ⟨ws, h4, h5⟩ := foldL_ok (L := 8 - (k + 1)) (by omega) (by omega) (by omega) l a (by rw [e2]; exact hl) (by rw [e2]; exact hn) (.inl ⟨aw, ha, Nat.le_refl _⟩)
    exact ⟨ws, h4, by omega⟩
theorem open_inv {i : Nat} {n : Ty} {j : Nat} (h : openB P R i = .ok n j) : ∃ ws, D (.ex 0) g [n] ws ∧ jl ws + Ph P i ≤ Ph P j := by
 rcases ite_inv h with ⟨c, h⟩ | ⟨c, h⟩
 · obtain ⟨p, k, h1, h⟩ := bind_invv h
   obtain ⟨u, k2, hm, h⟩ := bind_invv h
   have hm := must_invv hm
   obtain ⟨e, k3, h3, h⟩ := bind_invv h
   obtain ⟨rfl, rfl⟩ := pure_inv h
   obtain ⟨⟨pw, hp, hpb⟩, -⟩ := apat_inv H G h1
   obtain ⟨h9, rfl, ew, he, hb⟩ := G.exp h3
   exact ⟨_, .ex_np (.e_fn hp he) (Nat.le_refl _) (Nat.le_refl _), jz⟩
 rcases ite_inv h with ⟨c, h⟩ | ⟨c, h⟩
 · obtain ⟨x, k, h1, h⟩ := bind_invv h
   obtain ⟨u, k2, hm, h⟩ := bind_invv h
   have hm := must_invv hm
   obtain ⟨y, k3, h3, h⟩ := bind_invv h
   obtain ⟨u, k4, hm2, h⟩ := bind_invv h
   have hm2 := must_invv hm2
   obtain ⟨z, k5, h5, h⟩ := bind_invv h
   obtain ⟨rfl, rfl⟩ := pure_inv h
   obtain ⟨h7, rfl, xw, hx, hb⟩ := G.exp h1
   obtain ⟨h8, e8, yw, hy, hb2⟩ := G.exp h3
   obtain ⟨h9, e9, zw, hz, hb3⟩ := G.exp h5
   obtain rfl : h7 = h8 := by omega
   obtain rfl : h7 = h9 := by omega
   exact ⟨_, .ex_np (.e_if hx hy hz) (Nat.le_refl _) (Nat.le_refl _), jz⟩
 rcases ite_inv h with ⟨c, h⟩ | ⟨c, h⟩
 · obtain ⟨x, k, h1, h⟩ := bind_invv h
   obtain ⟨rfl, rfl⟩ := pure_inv h
   obtain ⟨h7, rfl, xw, hx, hb⟩ := G.exp h1
   exact ⟨_, .ex_np (.e_raise hx) (Nat.le_refl _) (Nat.le_refl _), jz⟩
 · obtain ⟨ws, h2, hb⟩ := bet_inv H G 7 (by omega) h
   exact ex_to h2 (by omega) (Nat.le_refl _) hb
end
section
variable {P : Src} (H : GoodT P)
include H
theorem rg_all : ∀ g, RG P (recS P g) g
 | 0 => ⟨fun h => (fail_inv h).elim, fun h => (fail_inv h).elim, fun h => (fail_inv h).elim, fun w _ h => (fail_inv h).elim, fun h => (fail_inv h).elim, fun h => (fail_inv h).elim⟩
 | g + 1 => by
  have G := rg_all g
  have e : ∀ nt i, (recS P (g + 1)).go nt i = stepB P (recS P g) nt i := fun nt i => congrFun (readS_succ P g nt) i
  refine ⟨fun {i n j} h => ⟨g, rfl, open_inv H G (by rw [e] at h; exact h)⟩, fun {i n j} h => ⟨g, rfl, pat_inv H G (by rw [e] at h; exact h)⟩, fun {i n j} h => ⟨g, rfl, arrow_inv H G (by rw [e] at h; exact h)⟩, fun {i n j} w hw h => ⟨g, rfl, dec_inv H G hw (by rw [e] at h; exact h)⟩, fun {i n j} h => ⟨g, rfl, sigs_inv H G (by rw [e] at h; exact h)⟩, fun {i n j} h => ?_⟩
  obtain ⟨h0, e0, hw⟩ := G.exp (show (recS P g).go .exp i = .ok n j from h)
  exact ⟨h0, by omega, hw⟩
omit H in
theorem whole_inv {m : M Ty} {n : Ty} {j : Nat} (h : wholeD P m = .ok n j) : m 0 = .ok n j ∧ P.K j = 0 := by
 unfold wholeD at h
 split at h
 · cases h
 · rename_i hm
   rcases ite_inv h with ⟨c, h⟩ | ⟨c, h⟩
   · cases h; exact ⟨hm, c⟩
   · exact (fail_inv h).elim
omit H in
theorem Ph_le (hT : ∀ i, (P.T i).size ≤ 4000) : ∀ j, Ph P j ≤ j * 32032
 | 0 => Nat.le_refl _
 | j + 1 => by have := hT j; have := Ph_le hT j; rw [Ph.s]; omega
theorem top_inv {k : Nat} {n : Ty} {j : Nat} (h : topD P k = .ok n j) : P.K j = 0 ∧ ∃ ws, TopG k n ws ∧ jl ws ≤ Ph P j := by
 unfold TopG
 have e : ∀ {nt}, readS P 60 nt = stepB P (recS P 59) nt := readS_succ P 59 _
 rcases ite_inv h with ⟨c, h⟩ | ⟨c, h⟩
 · obtain ⟨h, h0⟩ := whole_inv h
   obtain ⟨l, k1, h1, h⟩ := bind_invv h
   obtain ⟨rfl, rfl⟩ := ret_inv h
   obtain ⟨ws, hw, hb⟩ := (decs_inv (rg_all H 60) h1).2 59 rfl
   exact ⟨h0, ws, by rw [if_pos c]; exact ⟨l, rfl, hw⟩, by omega⟩
 rcases ite_inv h with ⟨c1, h⟩ | ⟨c1, h⟩
 · obtain ⟨h, h0⟩ := whole_inv h
   rw [e] at h
   obtain ⟨ws, hw, hb⟩ := open_inv H (rg_all H 59) h
   exact ⟨h0, ws, by rw [if_neg c, if_pos c1]; exact hw, by omega⟩
 rcases ite_inv h with ⟨c2, h⟩ | ⟨c2, h⟩
 · obtain ⟨h, h0⟩ := whole_inv h
   rw [e] at h
   obtain ⟨ws, hw, hb⟩ := pat_inv H (rg_all H 59) h
   exact ⟨h0, ws, by rw [if_neg c, if_neg c1, if_pos c2]; exact hw, by omega⟩
 · obtain ⟨h, h0⟩ := whole_inv h
   rw [e] at h
   obtain ⟨ws, hw, hb⟩ := arrow_inv H (rg_all H 59) h
   exact ⟨h0, ws, by rw [if_neg c, if_neg c1, if_neg c2]; exact hw, by omega⟩
end
end Go.Proofs.YthehjeeiodbkjaaGreatDoor
