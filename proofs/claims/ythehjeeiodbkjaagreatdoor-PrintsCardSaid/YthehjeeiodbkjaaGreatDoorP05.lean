/-
  Proved: what is read follows the grammar; what the lexer leaves is as the reader asks for it; the contracts of the reference's put, round, path and digits: words joined by blanks; the contracts of the reader's fail, is, eat, must, kind. Conditions: the tokens are what their kinds say; words that are not empty; few bytes; the reader as it stands in memory.
-/
import Derived.Test.YthehjeeiodbkjaaGreatDoorP01
import Derived.Test.YthehjeeiodbkjaaGreatDoorP04
import Derived.Test.YthehjeeiodbkjaaGreatDoorP03
set_option linter.unusedSimpArgs false
set_option linter.unusedVariables false
set_option linter.unusedSectionVars false
set_option maxRecDepth 100000
set_option maxHeartbeats 16000000
namespace Go.Proofs.YthehjeeiodbkjaaGreatDoor
open Go.RowKit
structure GoodT (P : Src) : Prop where
 lo : ∀ i, P.K i = 3 → Nm 3 (P.T i)
 up : ∀ i, P.K i = 4 → Nm 4 (P.T i)
 va : ∀ i, P.K i = 5 → Nm 5 (P.T i)
 num : ∀ i, P.K i = 1 → P.N i ≤ 1000000000
 str : ∀ i, P.K i = 2 → (P.T i).size ≤ 200
def Ph (P : Src) : Nat → Nat
 | 0 => 0
 | i + 1 => Ph P i + 32 + 8 * (P.T i).size
theorem Ph.s (P : Src) (i : Nat) : Ph P (i + 1) = Ph P i + 32 + 8 * (P.T i).size := rfl
theorem szs : w_and.size = 3 ∧ w_andalso.size = 7 ∧ w_as.size = 2 ∧ w_case.size = 4 ∧ w_data.size = 4 ∧ w_else.size = 4 ∧ w_end.size = 3 ∧ w_exception.size = 9 ∧ w_false.size = 5 ∧ w_fn.size = 2 ∧ w_fun.size = 3 ∧ w_if.size = 2 ∧ w_in.size = 2 ∧ w_let.size = 3 ∧ w_of.size = 2 ∧ w_open.size = 4 ∧ w_orelse.size = 6 ∧ w_raise.size = 5 ∧ w_sig.size = 3 ∧ w_signature.size = 9 ∧ w_struct.size = 6 ∧ w_structure.size = 9 ∧ w_then.size = 4 ∧ w_true.size = 4 ∧ w_try.size = 3 ∧ w_type.size = 4 ∧ w_val.size = 3 ∧ w_with.size = 4 ∧ s_lp.size = 1 ∧ s_rp.size = 1 ∧ s_lb.size = 1 ∧ s_rb.size = 1 ∧ s_com.size = 1 ∧ s_sem.size = 1 ∧ s_col.size = 1 ∧ s_bar.size = 1 ∧ s_eq.size = 1 ∧ s_lt.size = 1 ∧ s_gt.size = 1 ∧ s_pl.size = 1 ∧ s_mi.size = 1 ∧ s_st.size = 1 ∧ s_sl.size = 1 ∧ s_pc.size = 1 ∧ s_ca.size = 1 ∧ s_ti.size = 1 ∧ s_ex.size = 1 ∧ s_dot.size = 1 ∧ s_arr.size = 2 ∧ s_to.size = 2 ∧ s_asg.size = 2 ∧ s_cons.size = 2 ∧ s_opq.size = 2 ∧ s_ne.size = 2 ∧ s_le.size = 2 ∧ s_ge.size = 2 ∧ s_us.size = 1 := by decide
theorem dgL_len : ∀ (k n : Nat), n < 10 ^ k → 0 < k → (dgL n).length ≤ k
 | k + 1, n, h, _ => by
  unfold dgL
  by_cases hn : n < 10
  · rw [dif_pos hn]; simp
  · rw [dif_neg hn]
    have hk : 0 < k := by
     cases k with
     | zero => simp at h; omega
     | succ k => omega
    have := dgL_len k (n / 10) (by rw [Nat.pow_succ] at h; omega) hk;simp; omega
theorem dgW_le {n : Nat} (h : n ≤ 1000000000) : (dgW n).size ≤ 10 := by
 unfold dgW;rw [sizeA];exact dgL_len 10 n (by omega) (by omega)
theorem quoteD_le (s : ByteArray) : (qC s).size ≤ 4 * s.size + 2 := by
 unfold qC;rw [sizeA]
 have : ∀ l : List UInt8, (l.flatMap esc).length ≤ 4 * l.length := by
  intro l
  induction l with
  | nil => simp
  | cons x l ih =>
   have h : (esc x).length ≤ 4 := (by unfold esc; split; simp; split; simp; split; simp; split <;> simp);simp only [List.flatMap_cons, List.length_append, List.length_cons]; omega
 have h := this s.data.toList;have e : s.data.toList.length = s.size := by rw [Array.length_toList]; rfl
 simp only [quoteL, List.length_cons, List.length_append, List.length_nil]; omega
theorem jz {p : Prop} (h : p := by simp only [jl, jL, szs, Ph.s] at *; omega) : p := h
theorem notin {x : ByteArray} {l : List ByteArray} (h : ∀ y ∈ l, y ≠ x) : x ∉ l := fun hx => h x hx rfl
theorem jc {α β : Type} {m : M α} {f : α → M β} {i k : Nat} {y : β} (h : (m >>= f) i = .ok y k) : ∃ x j, m i = .ok x j ∧ f x j = .ok y k := by
 cases hx : m i with
 | bad a n => rw [ke hx] at h; cases h
 | ok x j => rw [kq hx] at h; exact ⟨x, j, rfl, h⟩
theorem jx {α : Type} {x y : α} {i j : Nat} (h : (pure x : M α) i = .ok y j) : x = y ∧ i = j := by cases h; exact ⟨rfl, rfl⟩
theorem kY {α : Type} {x y : α} {i j : Nat} (h : (ret x : M α) i = .ok y j) : x = y ∧ i = j := by cases h; exact ⟨rfl, rfl⟩
theorem ks {α : Type} {x y : α} {i j : Nat} (h : Res.ok x i = .ok y j) : x = y ∧ i = j := by cases h; exact ⟨rfl, rfl⟩
theorem kU {α : Type} {c : Prop} [Decidable c] {a b : M α} {i : Nat} {r : Res α} (h : (if c then a else b) i = r) : (c ∧ a i = r) ∨ (¬ c ∧ b i = r) := by
 by_cases hc : c
 · rw [if_pos hc] at h; exact .inl ⟨hc, h⟩
 · rw [if_neg hc] at h; exact .inr ⟨hc, h⟩
theorem jp {α : Type} {c : Prop} [Decidable c] {a b r : Res α} (h : (if c then a else b) = r) : (c ∧ a = r) ∨ (¬ c ∧ b = r) := by
 by_cases hc : c
 · rw [if_pos hc] at h; exact .inl ⟨hc, h⟩
 · rw [if_neg hc] at h; exact .inr ⟨hc, h⟩
theorem kc {α : Type} {P : Src} {e i j : Nat} {x : α} (h : jE P e i = .ok x j) : False := by
 unfold jE at h;split at h <;> cases h
theorem kP {P : Src} {k : Int} {i j : Nat} {s : ByteArray} (h : jI P k i = .ok s j) : P.K i = k ∧ s = P.T i ∧ Ph P j = Ph P i + 32 + 8 * s.size := by
 rcases jp h with ⟨c, h⟩ | ⟨c, h⟩
 · cases h; exact ⟨c, rfl, rfl⟩
 · exact (kc h).elim
theorem jD {P : Src} {s : ByteArray} {i j : Nat} {u : Unit} (h : jm P s i = .ok u j) : Ph P i + 32 ≤ Ph P j := by
 rcases jp h with ⟨c, h⟩ | ⟨c, h⟩
 · cases h; rw [Ph.s]; omega
 · exact (kc h).elim
theorem qy {P : Src} {s : ByteArray} {i j : Nat} {b : Bool} (h : kn P s i = .ok b j) : Ph P i ≤ Ph P j ∧ (b = true → Ph P i + 32 ≤ Ph P j) := by
 rcases jp h with ⟨c, h⟩ | ⟨c, h⟩ <;> cases h
 · rw [Ph.s]; exact ⟨by omega, fun _ => by omega⟩
 · exact ⟨Nat.le_refl _, fun h => by cases h⟩
theorem isD_text {P : Src} {s : ByteArray} {i : Nat} (h : isD P s i = true) : P.T i = s := by
 unfold isD at h;simp only [Bool.and_eq_true, decide_eq_true_eq] at h;exact h.2
theorem oneD_text {P : Src} {l : List ByteArray} {i : Nat} (h : jK P l i = true) : P.T i ∈ l := by
 unfold jK at h;simp only [Bool.and_eq_true, decide_eq_true_eq, List.any_eq_true] at h;obtain ⟨-, s, hs, e⟩ := h;rw [e]; exact hs
theorem ex_to {g l n ws} (h : D (.ex l) g [n] ws) {l' g' b m : Nat} (hl : l' ≤ l) (hg : g ≤ g') (hb : jl ws + m ≤ b) : ∃ ws, D (.ex l') g' [n] ws ∧ jl ws + m ≤ b := by
 cases h with
 | ex_np hd hk hh => exact ⟨_, .ex_np hd (by omega) (by omega), hb⟩
 | @ex_par _ _ k _ _ _ hd hk hh => by_cases c : l' ≤ k; exact ⟨_, .ex_np hd c (by omega), jz⟩; exact ⟨_, .ex_par hd (by omega) (by omega), hb⟩
theorem ex_lift {g n ws} (h : D (.ex 0) g [n] ws) (l : Nat) {g' b m : Nat} (hg : g < g') (hb : jl ws + 4 + m ≤ b) : ∃ ws, D (.ex l) g' [n] ws ∧ jl ws + m ≤ b := by
 cases h with
 | @ex_np _ _ k _ _ _ hd hk hh => by_cases c : l ≤ k; exact ⟨_, .ex_np hd c (by omega), by omega⟩; exact ⟨_, .ex_par hd (by omega) (by omega), jz⟩
 | ex_par hd hk hh => omega
theorem pt_to {g l n ws} (h : D (.pt l) g [n] ws) {l' g' b m : Nat} (hl : l' ≤ l) (hg : g ≤ g') (hb : jl ws + m ≤ b) : ∃ ws, D (.pt l') g' [n] ws ∧ jl ws + m ≤ b := by
 cases h with
 | pt_np hd hk hh => exact ⟨_, .pt_np hd (by omega) (by omega), hb⟩
 | @pt_par _ _ k _ _ _ hd hk hh => by_cases c : l' ≤ k; exact ⟨_, .pt_np hd c (by omega), jz⟩; exact ⟨_, .pt_par hd (by omega) (by omega), hb⟩
theorem pt_lift {g n ws} (h : D (.pt 0) g [n] ws) (l : Nat) {g' b m : Nat} (hg : g < g') (hb : jl ws + 4 + m ≤ b) : ∃ ws, D (.pt l) g' [n] ws ∧ jl ws + m ≤ b := by
 cases h with
 | @pt_np _ _ k _ _ _ hd hk hh => by_cases c : l ≤ k; exact ⟨_, .pt_np hd c (by omega), by omega⟩; exact ⟨_, .pt_par hd (by omega) (by omega), jz⟩
 | pt_par hd hk hh => omega
theorem ty_to {g l n ws} (h : D (.ty l) g [n] ws) {l' g' b m : Nat} (hl : l' ≤ l) (hg : g ≤ g') (hb : jl ws + m ≤ b) : ∃ ws, D (.ty l') g' [n] ws ∧ jl ws + m ≤ b := by
 cases h with
 | ty_np hd hk hh => exact ⟨_, .ty_np hd (by omega) (by omega), hb⟩
 | @ty_par _ _ k _ _ _ hd hk hh => by_cases c : l' ≤ k; exact ⟨_, .ty_np hd c (by omega), jz⟩; exact ⟨_, .ty_par hd (by omega) (by omega), hb⟩
theorem ty_lift {g n ws} (h : D (.ty 0) g [n] ws) (l : Nat) {g' b m : Nat} (hg : g < g') (hb : jl ws + 4 + m ≤ b) : ∃ ws, D (.ty l) g' [n] ws ∧ jl ws + m ≤ b := by
 cases h with
 | @ty_np _ _ k _ _ _ hd hk hh => by_cases c : l ≤ k; exact ⟨_, .ty_np hd c (by omega), by omega⟩; exact ⟨_, .ty_par hd (by omega) (by omega), jz⟩
 | ty_par hd hk hh => omega
theorem row_snoc {c : Cat} {s : ByteArray} {g : Nat} {x : Ty} {vs : List ByteArray} (hx : D c g [x] vs) : ∀ {l : List Ty} {ws : List ByteArray}, D (.row c s) g l ws → ∃ us, D (.row c s) g (l ++ [x]) us ∧ jl us = jl ws + s.size + 1 + jl vs
 | [], ws, h => by cases h
 | [y], ws, h => by
  cases h with
  | row1 h => exact ⟨_, .rowS h (.row1 hx), jz⟩
 | y :: z :: l, ws, h => by
  cases h with
  | rowS h h2 =>
   obtain ⟨us, h3, h4⟩ := row_snoc hx h2
   exact ⟨_, .rowS h h3, jz⟩
theorem many_snoc {c : Cat} {g : Nat} {x : Ty} {vs : List ByteArray} (hx : D c g [x] vs) : ∀ {l : List Ty} {ws : List ByteArray}, D (.many c) g l ws → ∃ us, D (.many c) g (l ++ [x]) us ∧ jl us = jl ws + jl vs
 | [], ws, h => by
  cases h
  exact ⟨_, .mcons hx .mnil, jz⟩
 | y :: l, ws, h => by
  cases h with
  | mcons h h2 =>
   obtain ⟨us, h3, h4⟩ := many_snoc hx h2
   exact ⟨_, .mcons h h3, jz⟩
theorem sep_all {P : Src} {item : M Ty} {t s : ByteArray} {c : Cat} {g : Nat} (hs : s.size ≤ 9) (hi : ∀ i n j, item i = .ok n j → ∃ ws, D c g [n] ws ∧ jl ws + Ph P i ≤ Ph P j) : ∀ (f : Nat) (acc : List Ty) (i : Nat) {l : List Ty} {j m : Nat} {ws : List ByteArray}, ku P item t f acc i = .ok l j → D (.row c s) g acc ws → jl ws + m ≤ Ph P i → ∃ ws, D (.row c s) g l ws ∧ jl ws + m ≤ Ph P j
 | 0, acc, i, l, j, m, ws, h, ha, hm => by obtain ⟨rfl, rfl⟩ := kY h; exact ⟨_, ha, hm⟩
 | f + 1, acc, i, l, j, m, ws, h, ha, hm => by
  rcases jp h with ⟨c, h⟩ | ⟨c, h⟩
  · obtain ⟨x, k, h1, h⟩ := jc h
    obtain ⟨vs, hx, hp⟩ := hi _ _ _ h1
    rw [Ph.s] at hp
    obtain ⟨us, h2, h3⟩ := row_snoc hx ha
    exact sep_all hs hi f _ _ (m := m) h h2 (by omega)
  · obtain ⟨rfl, rfl⟩ := ks h; exact ⟨_, ha, hm⟩
theorem vB {P : Src} {item : M Ty} {t : ByteArray} (s : ByteArray) {c : Cat} {g : Nat} (hs : s.size ≤ 9) (hi : ∀ i n j, item i = .ok n j → ∃ ws, D c g [n] ws ∧ jl ws + Ph P i ≤ Ph P j) {i j : Nat} {l : List Ty} (h : jZ P item t i = .ok l j) : ∃ x r ws, l = x :: r ∧ D (.row c s) g (x :: r) ws ∧ jl ws + Ph P i ≤ Ph P j := by
 obtain ⟨x, k, h1, h⟩ := jc (show (item >>= fun x => ku P item t (P.toks.length + 1) [x]) i = _ from h);obtain ⟨vs, hx, hp⟩ := hi _ _ _ h1;obtain ⟨ws, h2, h3⟩ := sep_all hs hi _ _ _ (m := Ph P i) h (.row1 hx) (by omega)
 cases l with
 | nil => cases h2
 | cons y r => exact ⟨y, r, ws, rfl, h2, h3⟩
theorem many_inv {P : Src} {item : M Ty} {c : Nat → Bool} {C : Cat} {g : Nat} (hi : ∀ i n j, c i = true → item i = .ok n j → ∃ ws, D C g [n] ws ∧ jl ws + Ph P i ≤ Ph P j) : ∀ (f : Nat) (acc : List Ty) (i : Nat) {l : List Ty} {j m : Nat} {ws : List ByteArray}, qg c item f acc i = .ok l j → D (.many C) g acc ws → jl ws + m ≤ Ph P i → acc.length ≤ l.length ∧ ∃ ws, D (.many C) g l ws ∧ jl ws + m ≤ Ph P j
 | 0, acc, i, l, j, m, ws, h, ha, hm => by obtain ⟨rfl, rfl⟩ := kY h; exact ⟨Nat.le_refl _, _, ha, hm⟩
 | f + 1, acc, i, l, j, m, ws, h, ha, hm => by
  rcases jp h with ⟨c1, h⟩ | ⟨c1, h⟩
  · obtain ⟨x, k, h1, h⟩ := jc h
    obtain ⟨vs, hx, hp⟩ := hi _ _ _ c1 h1
    obtain ⟨us, h2, h3⟩ := many_snoc hx ha
    obtain ⟨h4, h5⟩ := many_inv hi f _ _ (m := m) h h2 (by omega)
    exact ⟨by simp at h4; omega, h5⟩
  · obtain ⟨rfl, rfl⟩ := ks h; exact ⟨Nat.le_refl _, _, ha, hm⟩
theorem ba_assoc (a b c : ByteArray) : a ++ b ++ c = a ++ (b ++ c) := by ext1; simp [ByteArray.data_append, Array.append_assoc]
theorem ba_nil (a : ByteArray) : e_ ++ a = a := by ext1; simp [ByteArray.data_append]
section
variable {P : Src} (H : GoodT P)
include H
theorem pathL_inv (last : Nat) : ∀ (f : Nat) (s : ByteArray) (i : Nat) {p : ByteArray × Nat} {j : Nat}, yg P last f s i = .ok p j → ∃ t ws, p.1 = s ++ t ∧ PathW p.2 t ws ∧ (last = 4 → p.2 = 4) ∧ (last = 3 → p.2 = 3) ∧ jl ws + Ph P i ≤ Ph P j
 | 0, s, i, p, j, h => (kc h).elim
 | f + 1, s, i, p, j, h => by
  rcases jp h with ⟨c, h⟩ | ⟨c, h⟩
  · obtain ⟨rfl, rfl⟩ := ks h
    exact ⟨_, _, rfl, .low (H.lo i c.1), fun e => absurd e c.2, fun _ => rfl, jz⟩
  · rcases jp h with ⟨c1, h⟩ | ⟨c1, h⟩
    · exact (kc h).elim
    · have hu : P.K i = 4 := Decidable.not_not.1 c1
      rcases jp h with ⟨c2, h⟩ | ⟨c2, h⟩
      · obtain ⟨t, ws, e, hp, h1, h2, hb⟩ := pathL_inv last f _ _ h
        exact ⟨_, _, by rw [e, ba_assoc, ba_assoc, ← ba_assoc (P.T i)], .more (H.up i hu) hp, h1, h2, jz⟩
      · rcases jp h with ⟨c3, h⟩ | ⟨c3, h⟩
        · exact (kc h).elim
        · obtain ⟨rfl, rfl⟩ := ks h
          exact ⟨_, _, rfl, .up (H.up i hu), fun _ => rfl, fun e => absurd e c3, jz⟩
theorem path_inv {last i : Nat} {p : ByteArray × Nat} {j : Nat} (h : ki P last i = .ok p j) : ∃ ws, PathW p.2 p.1 ws ∧ (last = 4 → p.2 = 4) ∧ (last = 3 → p.2 = 3) ∧ jl ws + Ph P i ≤ Ph P j := by
 obtain ⟨t, ws, e, h⟩ := pathL_inv H last _ _ _ h;rw [ba_nil] at e;rw [e]; exact ⟨ws, h⟩
omit H in
theorem path_kind {k : Nat} {s : ByteArray} {ws : List ByteArray} (h : PathW k s ws) : k = 3 ∨ k = 4 := by
 induction h with
 | low _ => exact .inl rfl
 | up _ => exact .inr rfl
 | more _ _ ih => exact ih
structure RG (P : Src) (R : Rec) (g : Nat) : Prop where
 exp : ∀ {i n j}, R.go .exp i = .ok n j → ∃ h, g = h + 1 ∧ ∃ ws, D (.ex 0) h [n] ws ∧ jl ws + Ph P i ≤ Ph P j
 pat : ∀ {i n j}, R.go .pat i = .ok n j → ∃ h, g = h + 1 ∧ ∃ ws, D (.pt 0) h [n] ws ∧ jl ws + Ph P i ≤ Ph P j
 typ : ∀ {i n j}, R.go .typ i = .ok n j → ∃ h, g = h + 1 ∧ ∃ ws, D (.ty 0) h [n] ws ∧ jl ws + Ph P i ≤ Ph P j
 dec : ∀ {i n j} w, jK P (jv w) i = true → R.go .dec i = .ok n j → ∃ h, g = h + 1 ∧ ∃ ws, D (.dec w) h [n] ws ∧ jl ws + Ph P i ≤ Ph P j
 sig : ∀ {i n j}, R.go .sig i = .ok n j → ∃ h, g = h + 1 ∧ ∃ ws, D .sig h [n] ws ∧ jl ws + Ph P i ≤ Ph P j
 deep : ∀ {i n j}, R.deep i = .ok n j → ∃ h, g = h + 2 ∧ ∃ ws, D (.ex 0) h [n] ws ∧ jl ws + Ph P i ≤ Ph P j
variable {R : Rec} {g : Nat} (G : RG P R g)
include G
omit H in
theorem rows_in {nt : NT} {c : Cat} (hc : ∀ {i n j}, R.go nt i = .ok n j → ∃ h, g = h + 1 ∧ ∃ ws, D c h [n] ws ∧ jl ws + Ph P i ≤ Ph P j) (s : ByteArray) (hs : s.size ≤ 9) {t : ByteArray} {i j : Nat} {l : List Ty} (h : jZ P (R.go nt) t i = .ok l j) : ∃ h x r ws, g = h + 1 ∧ l = x :: r ∧ D (.row c s) h (x :: r) ws ∧ jl ws + Ph P i ≤ Ph P j := by
 obtain ⟨x, k, h1, -⟩ := jc (show (R.go nt >>= fun x => ku P (R.go nt) t (P.toks.length + 1) [x]) i = _ from h);obtain ⟨h0, rfl, -⟩ := hc h1
 obtain ⟨x, r, ws, e, h2, h3⟩ := vB s hs (c := c) (g := h0) (fun i n j hi => by
  obtain ⟨h9, e9, h5⟩ := hc hi;obtain rfl : h0 = h9 := by omega
  exact h5) h
 exact ⟨h0, x, r, ws, rfl, e, h2, h3⟩
theorem appL_inv (a : Nat) : ∀ (f : Nat) (l : List Ty) (i m : Nat) {n : Ty} {j : Nat}, kX P a f l i = .ok n j → ((l = [] ∧ m ≤ Ph P i) ∨ (∃ x ws, l = [x] ∧ D (.ty 2) g [x] ws ∧ jl ws + m ≤ Ph P i) ∨ ∃ h x y r ws, g = h + 1 ∧ l = x :: y :: r ∧ D (.row (.ty 0) s_com) h (x :: y :: r) ws ∧ jl ws + 4 + m ≤ Ph P i) → ∃ ws, D (.ty 2) g [n] ws ∧ jl ws + m ≤ Ph P j
 | 0, l, i, m, n, j, h, hl => (kc h).elim
 | f + 1, l, i, m, n, j, h, hl => by
  rcases jp h with ⟨c, h⟩ | ⟨c, h⟩
  · obtain ⟨p, k, h1, h⟩ := jc h
    obtain ⟨ws, hp, -, h3, hb⟩ := path_inv H h1
    rw [h3 rfl] at hp
    refine appL_inv a f _ _ m h (.inr (.inl ?_))
    rcases hl with ⟨rfl, hm⟩ | ⟨x, xw, rfl, hx, hm⟩ | ⟨h, x, y, r, xw, rfl, rfl, hx, hm⟩
    · exact ⟨_, _, rfl, .ty_np (.t_con hp) (Nat.le_refl _) (Nat.le_refl _), jz⟩
    · exact ⟨_, _, rfl, .ty_np (.t_one hx hp) (Nat.le_refl _) (Nat.le_refl _), jz⟩
    · exact ⟨_, _, rfl, .ty_np (.t_more hx hp) (Nat.le_refl _) (Nat.le_refl _), jz⟩
  · have c1 : l.length = 1 := by
     by_cases c1 : l.length = 1
     · exact c1
     · exact absurd (.inl c1) c
    rcases hl with ⟨rfl, hm⟩ | ⟨x, xw, rfl, hx, hm⟩ | ⟨h, x, y, r, xw, rfl, rfl, hx, hm⟩
    · simp at c1
    · obtain ⟨rfl, rfl⟩ := ks h; exact ⟨_, hx, hm⟩
    · simp at c1
theorem applied_inv {i : Nat} {n : Ty} {j : Nat} (h : kK P R i = .ok n j) : ∃ ws, D (.ty 2) g [n] ws ∧ jl ws + Ph P i ≤ Ph P j := by
 rcases jp h with ⟨c, h⟩ | ⟨c, h⟩
 · exact appL_inv H G _ _ _ _ _ h (.inr (.inl ⟨_, _, rfl, .ty_np (.t_var (H.va i c)) (Nat.le_refl _) (Nat.le_refl g), jz⟩))
 · rcases jp h with ⟨c1, h⟩ | ⟨c1, h⟩
   · obtain ⟨l, k, h1, h⟩ := jc h;obtain ⟨u, k2, hm, h⟩ := jc h;have hm := jD hm;obtain ⟨h0, x, r, ws, rfl, rfl, hx, hb⟩ := rows_in G G.typ s_com (by decide) h1;refine appL_inv H G _ _ _ _ _ h (.inr ?_)
     cases r with
     | nil =>
      cases hx with
      | row1 hx =>
      obtain ⟨ws, h3, h4⟩ := ty_lift hx 2 (Nat.lt_succ_self _) (m := Ph P i) (b := Ph P k2) jz;exact .inl ⟨x, _, rfl, h3, h4⟩
     | cons y r => exact .inr ⟨h0, x, y, r, ws, rfl, rfl, hx, jz⟩
   · exact appL_inv H G _ _ _ _ _ h (.inl ⟨rfl, Nat.le_refl _⟩)
theorem arrow_inv {i : Nat} {n : Ty} {j : Nat} (h : arrowB P R i = .ok n j) : ∃ ws, D (.ty 0) g [n] ws ∧ jl ws + Ph P i ≤ Ph P j := by
 obtain ⟨l, k, h1, h⟩ := jc h;obtain ⟨x, r, ws, rfl, hx, hb⟩ := vB s_st (by decide) (fun i n j hi => applied_inv H G hi) h1
 have hm : ∃ ws, D (.ty 1) g [if (x :: r).length > 1 then .mk 32 ((x :: r).headD default).n ⟨#[]⟩ 0 (x :: r) else (x :: r).headD default] ws ∧ jl ws + Ph P i ≤ Ph P k := by
  cases r with
  | nil =>
   cases hx with
   | row1 hx => simpa using ty_to hx (l' := 1) (by omega) (Nat.le_refl _) hb
  | cons y r =>
   rw [if_pos (by simp)];exact ⟨_, .ty_np (.t_tup hx) (Nat.le_refl _) (Nat.le_refl _), hb⟩
 generalize (if (x :: r).length > 1 then Ty.mk 32 ((x :: r).headD default).n ⟨#[]⟩ 0 (x :: r) else (x :: r).headD default) = m at h hm;obtain ⟨ws, hm, hb2⟩ := hm;obtain ⟨t, k2, h2, h⟩ := jc h;have h2 := qy h2;rcases kU h with ⟨c, h⟩ | ⟨c, h⟩
 · obtain ⟨y, k3, h3, h⟩ := jc h;obtain ⟨h0, rfl, vs, hy, hb3⟩ := G.typ h3;obtain ⟨rfl, rfl⟩ := jx h;have h4 := h2.2 c;exact ⟨_, .ty_np (.t_arr hm hy) (Nat.le_refl _) (Nat.le_refl _), jz⟩
 · obtain ⟨rfl, rfl⟩ := jx h;exact ty_to hm (by omega) (Nat.le_refl _) (by omega)
theorem roundPat_inv {a i m : Nat} (hm0 : m + 32 ≤ Ph P i) {n : Ty} {j : Nat} (h : qa P R a i = .ok n j) : ∃ ws, D (.pt 2) g [n] ws ∧ jl ws + m ≤ Ph P j := by
 have np : ∀ {n ws}, D (.p0 2) g [n] ws → jl ws + m ≤ Ph P j → ∃ ws, D (.pt 2) g [n] ws ∧ jl ws + m ≤ Ph P j := fun h hb => ⟨_, .pt_np h (Nat.le_refl _) (Nat.le_refl _), hb⟩
 rcases jp h with ⟨c, h⟩ | ⟨c, h⟩
 · obtain ⟨rfl, rfl⟩ := ks h;exact np .p_unit jz
 · rcases jp h with ⟨c1, h⟩ | ⟨c1, h⟩
   · obtain ⟨p, k, h1, h⟩ := jc h;obtain ⟨u, k2, hm, h⟩ := jc h;have hm := jD hm;obtain ⟨rfl, rfl⟩ := jx h;obtain ⟨h0, rfl, ws, hp, hb⟩ := G.pat h1;exact np (.p_as (H.lo i c1.1) hp) jz
   · obtain ⟨p, k, h1, h⟩ := jc h;obtain ⟨h0, rfl, ws, hp, hb⟩ := G.pat h1;obtain ⟨b, k2, h2, h⟩ := jc h;have h2 := qy h2;rcases kU h with ⟨c2, h⟩ | ⟨c2, h⟩
     · obtain ⟨l, k, h1, h⟩ := jc h;obtain ⟨u, k3, hm, h⟩ := jc h;have hm := jD hm;obtain ⟨rfl, rfl⟩ := jx h;obtain ⟨h9, x, r, vs, e, rfl, hx, hb2⟩ := rows_in G G.pat s_com (by decide) h1;obtain rfl : h0 = h9 := by omega
       have h4 := h2.2 c2;exact np (.p_tup (.rowS hp hx)) jz
     · obtain ⟨b2, k3, h3, h⟩ := jc h;have h3 := qy h3;rcases kU h with ⟨c3, h⟩ | ⟨c3, h⟩
       · obtain ⟨t, k, h1, h⟩ := jc h;obtain ⟨u, k4, hm, h⟩ := jc h;have hm := jD hm;obtain ⟨rfl, rfl⟩ := jx h;obtain ⟨h9, e, tw, ht, hb2⟩ := G.typ h1;obtain rfl : h0 = h9 := by omega
         have h4 := h3.2 c3;exact np (.p_has hp ht) jz
       · obtain ⟨u, k4, hm, h⟩ := jc h;have hm := jD hm;obtain ⟨rfl, rfl⟩ := jx h;exact pt_lift hp 2 (Nat.lt_succ_self _) (by omega)
omit H G in
theorem tf_of {i : Nat} (h : isD P w_true i = true ∨ isD P w_false i = true) : P.T i = w_true ∨ P.T i = w_false := by
 rcases h with h | h
 · exact .inl (isD_text h)
 · exact .inr (isD_text h)
theorem apat_inv {i : Nat} {n : Ty} {j : Nat} (h : jR P R i = .ok n j) : (∃ ws, D (.pt 2) g [n] ws ∧ jl ws + Ph P i ≤ Ph P j) ∧ (P.K i = 4 → ∃ a s ws, n = .mk 24 a s 0 [] ∧ PathW 4 s ws ∧ jl ws + Ph P i ≤ Ph P j) := by
 have np : ∀ {n ws}, D (.p0 2) g [n] ws → jl ws + Ph P i ≤ Ph P j → ∃ ws, D (.pt 2) g [n] ws ∧ jl ws + Ph P i ≤ Ph P j := fun h hb => ⟨_, .pt_np h (Nat.le_refl _) (Nat.le_refl _), hb⟩
 have nk : ∀ {s}, isD P s i = true → P.K i = 4 → False := by
  intro s h1 h2;unfold isD at h1;simp [h2] at h1
 rcases jp h with ⟨c, h⟩ | ⟨c, h⟩
 · obtain ⟨rfl, rfl⟩ := ks h; exact ⟨np .p_any jz, fun e => (nk c e).elim⟩
 rcases jp h with ⟨c, h⟩ | ⟨c, h⟩
 · obtain ⟨rfl, rfl⟩ := ks h; exact ⟨np (.p_var (H.lo i c)) jz, fun e => by omega⟩
 rcases jp h with ⟨c, h⟩ | ⟨c, h⟩
 · obtain ⟨rfl, rfl⟩ := ks h;have := dgW_le (H.num i c);exact ⟨np (.p_int (H.num i c)) jz, fun e => by omega⟩
 rcases jp h with ⟨c, h⟩ | ⟨c, h⟩
 · refine ⟨?_, fun e => (nk c e).elim⟩;rcases jp h with ⟨c, h⟩ | ⟨c, h⟩
   · obtain ⟨rfl, rfl⟩ := ks h;have h9 := dgW_le (H.num _ c);have h8 := Ph.s P (i + 1)
     by_cases hz : P.N (i + 1) = 0
     · rw [hz] at h9 ⊢; exact np (.p_int (N := 0) (by omega)) jz
     · exact np (.p_neg (by omega) (H.num _ c)) jz
   · exact (kc h).elim
 rcases jp h with ⟨c, h⟩ | ⟨c, h⟩
 · obtain ⟨rfl, rfl⟩ := ks h;have := quoteD_le (P.T i);exact ⟨np (.p_str (H.str i c)) jz, fun e => by omega⟩
 rcases jp h with ⟨c, h⟩ | ⟨c, h⟩
 · obtain ⟨p, k, h1, h⟩ := jc h;obtain ⟨rfl, rfl⟩ := kY h;obtain ⟨ws, hp, h2, -, hb⟩ := path_inv H h1;rw [h2 rfl] at hp;exact ⟨np (.p_con hp) hb, fun _ => ⟨_, _, _, rfl, hp, hb⟩⟩
 rcases jp h with ⟨c, h⟩ | ⟨c, h⟩
 · obtain ⟨rfl, rfl⟩ := ks h;exact ⟨np (.p_tf (tf_of c)) jz, fun e => by rcases c with c | c <;> exact (nk c e).elim⟩
 rcases jp h with ⟨c, h⟩ | ⟨c, h⟩
 · refine ⟨?_, fun e => (nk c e).elim⟩;obtain ⟨b, k, h2, h⟩ := jc h;have h2 := qy h2;rcases kU h with ⟨c, h⟩ | ⟨c, h⟩
   · obtain ⟨rfl, rfl⟩ := jx h;have h4 := h2.2 c;exact np .p_nil jz
   · obtain ⟨l, k, h1, h⟩ := jc h;obtain ⟨u, k2, hm, h⟩ := jc h;have hm := jD hm;obtain ⟨rfl, rfl⟩ := jx h;obtain ⟨h0, x, r, ws, rfl, rfl, hx, hb⟩ := rows_in G G.pat s_com (by decide) h1;exact np (.p_list hx) jz
 rcases jp h with ⟨c, h⟩ | ⟨c, h⟩
 · exact ⟨roundPat_inv H G (by rw [Ph.s]; omega) h, fun e => (nk c e).elim⟩
 · exact (kc h).elim
theorem cpat_inv {i : Nat} {n : Ty} {j : Nat} (h : kr P R i = .ok n j) : ∃ ws, D (.pt 1) g [n] ws ∧ jl ws + Ph P i ≤ Ph P j := by
 obtain ⟨m, k, h1, h⟩ := jc h;obtain ⟨⟨mw, hm, hmb⟩, hu⟩ := apat_inv H G h1;rcases jp h with ⟨c, h⟩ | ⟨c, h⟩
 · obtain ⟨p, k2, h2, h⟩ := jc h;obtain ⟨rfl, rfl⟩ := kY h;obtain ⟨a, s, ws, rfl, hs, hb⟩ := hu c.1;obtain ⟨⟨pw, hp, hpb⟩, -⟩ := apat_inv H G h2;exact ⟨_, .pt_np (.p_arg hs hp) (Nat.le_refl _) (Nat.le_refl _), jz⟩
 · obtain ⟨rfl, rfl⟩ := ks h;exact pt_to hm (by omega) (Nat.le_refl _) hmb
omit H G in
theorem conses_inv : ∀ {l : List Ty} {ws : List ByteArray} {m b : Nat}, D (.row (.pt 1) s_cons) g l ws → jl ws + m ≤ b → ∃ ws, D (.pt 0) g [qt l] ws ∧ jl ws + m ≤ b
 | [], ws, m, b, h, _ => by cases h
 | [x], ws, m, b, h, hb => by
  cases h with
  | row1 h => exact pt_to h (by omega) (Nat.le_refl _) hb
 | x :: y :: l, _, m, b, h, hb => by
  cases h with
  | @rowS _ _ _ _ _ _ xw yw h h1 =>
  obtain ⟨vs, h2, hb2⟩ := conses_inv (m := 0) (b := jl yw) h1 (by omega)
  exact ⟨_, .pt_np (.p_cons h h2) (Nat.le_refl _) (Nat.le_refl _), jz⟩
theorem pat_inv {i : Nat} {n : Ty} {j : Nat} (h : vI P R i = .ok n j) : ∃ ws, D (.pt 0) g [n] ws ∧ jl ws + Ph P i ≤ Ph P j := by
 obtain ⟨l, k, h1, h⟩ := jc h;obtain ⟨rfl, rfl⟩ := jx h;obtain ⟨x, r, ws, rfl, hx, hb⟩ := vB s_cons (by decide) (fun i n j hi => cpat_inv H G hi) h1;exact conses_inv hx hb
omit H in
theorem decs_inv {w i : Nat} {l : List Ty} {j : Nat} (h : qm P R w i = .ok l j) : (l = [] ∧ Ph P i ≤ Ph P j ∨ ∃ h, g = h + 1) ∧ ∀ h, g = h + 1 → ∃ ws, D (.many (.dec w)) h l ws ∧ jl ws + Ph P i ≤ Ph P j := by
 constructor
 · rcases jp (show (if jK P (jv w) i = true then (R.go .dec >>= fun x => qg (jK P (jv w)) (R.go .dec) P.toks.length ([] ++ [x])) i else Res.ok [] i) = .ok l j from h) with ⟨c, h⟩ | ⟨c, h⟩
   · obtain ⟨x, k, h1, -⟩ := jc h;obtain ⟨h0, e, -⟩ := G.dec w c h1;exact .inr ⟨h0, e⟩
   · obtain ⟨rfl, rfl⟩ := ks h; exact .inl ⟨rfl, Nat.le_refl _⟩
 · rintro h0 rfl
   obtain ⟨-, ws, h1, h2⟩ := many_inv (m := Ph P i) (C := .dec w) (g := h0) (fun i n j hc hi => by
    obtain ⟨h2, e, h3⟩ := G.dec w hc hi;obtain rfl : h0 = h2 := by omega
    exact h3) _ _ _ h .mnil (by simp [jl])
   exact ⟨ws, h1, h2⟩
theorem con_inv {i : Nat} {n : Ty} {j : Nat} (h : conB P R i = .ok n j) : ∃ s l, Nm 4 s ∧ n = .mk 40 (P.A i) s 0 l ∧ (l = [] ∧ s.size + 32 + Ph P i ≤ Ph P j ∨ ∃ h t tw, g = h + 1 ∧ l = [t] ∧ D (.ty 0) h [t] tw ∧ s.size + 64 + jl tw + Ph P i ≤ Ph P j) := by
 obtain ⟨s, k, h1, h⟩ := jc h;obtain ⟨hk, rfl, hkp⟩ := kP h1;obtain ⟨o, k2, h2, h⟩ := jc h;have h2 := qy h2;rcases kU h with ⟨c, h⟩ | ⟨c, h⟩
 · obtain ⟨t, k3, h3, h⟩ := jc h;obtain ⟨rfl, rfl⟩ := jx h;obtain ⟨h0, e, tw, ht, hb⟩ := G.typ h3;have h4 := h2.2 c;exact ⟨_, _, H.up i hk, rfl, .inr ⟨_, _, _, e, rfl, ht, by omega⟩⟩
 · obtain ⟨rfl, rfl⟩ := jx h;exact ⟨_, _, H.up i hk, rfl, .inl ⟨rfl, by omega⟩⟩
theorem con_inv2 {i : Nat} {n : Ty} {j : Nat} (h : conB P R i = .ok n j) : ∃ ws, D .con g [n] ws ∧ jl ws + Ph P i ≤ Ph P j := by
 obtain ⟨s, l, hs, rfl, ⟨rfl, hb⟩ | ⟨h0, t, tw, rfl, rfl, ht, hb⟩⟩ := con_inv H G h
 · exact ⟨_, .con0 hs, jz⟩
 · exact ⟨_, .con1 hs ht, jz⟩
theorem exn_inv {a i m : Nat} (hm : m + 32 ≤ Ph P i) {n : Ty} {j : Nat} (h : conB P R i = .ok n j) : ∃ ws, D .dx g [.mk 41 a n.s n.q n.args] ws ∧ jl ws + m ≤ Ph P j := by
 obtain ⟨s, l, hs, rfl, ⟨rfl, hb⟩ | ⟨h0, t, tw, rfl, rfl, ht, hb⟩⟩ := con_inv H G h
 · show ∃ ws, D .dx g [.mk 41 a s 0 []] ws ∧ _
   exact ⟨_, .dx_exn0 hs, jz⟩
 · show ∃ ws, D .dx (h0 + 1) [.mk 41 a s 0 [t]] ws ∧ _
   exact ⟨_, .dx_exn1 hs ht, jz⟩
omit G in
theorem one_inv {i : Nat} {n : Ty} {j : Nat} (h : oneB P i = .ok n j) : ∃ ws, D .tv g [n] ws ∧ jl ws + Ph P i ≤ Ph P j := by
 obtain ⟨s, k, h1, h⟩ := jc h;obtain ⟨hk, rfl, hkp⟩ := kP h1;obtain ⟨rfl, rfl⟩ := jx h;exact ⟨_, .tv (H.va i hk), jz⟩
omit G in
theorem head_inv {k : Int} {a i : Nat} {n : Ty} {j : Nat} (h : qT P k a i = .ok n j) : ∃ s l ws, n = .mk k a s l.length l ∧ D (.head s) g l ws ∧ jl ws + Ph P i ≤ Ph P j := by
 rcases jp h with ⟨c, h⟩ | ⟨c, h⟩
 · obtain ⟨v, k1, h1, h⟩ := jc h;obtain ⟨s, k2, h2, h⟩ := jc h;obtain ⟨rfl, rfl⟩ := jx h;obtain ⟨hk, rfl, hkp⟩ := kP h2;obtain ⟨vw, hv, hb⟩ := one_inv H (g := g) h1;exact ⟨_, [v], _, rfl, .h_one (H.lo _ hk) hv, jz⟩
 rcases jp h with ⟨c1, h⟩ | ⟨c1, h⟩
 · obtain ⟨l, k1, h1, h⟩ := jc h;obtain ⟨u, k2, hm, h⟩ := jc h;have hm := jD hm;obtain ⟨s, k3, h3, h⟩ := jc h;obtain ⟨rfl, rfl⟩ := jx h;obtain ⟨hk, rfl, hkp⟩ := kP h3;obtain ⟨x, r, ws, rfl, hx, hb⟩ := vB s_com (by decide) (fun i n j hi => one_inv H (g := g) hi) h1
   cases r with
   | nil =>
    cases hx with
    | row1 hx => exact ⟨_, [x], _, rfl, .h_one (H.lo _ hk) hx, jz⟩
   | cons y r => exact ⟨_, _, _, rfl, .h_more (H.lo _ hk) hx, jz⟩
 · obtain ⟨s, k2, h2, h⟩ := jc h;obtain ⟨rfl, rfl⟩ := jx h;obtain ⟨hk, rfl, hkp⟩ := kP h2;exact ⟨_, [], _, rfl, .h_none (H.lo _ hk), jz⟩
theorem dbind_inv {i : Nat} {n : Ty} {j : Nat} (h : vr P R i = .ok n j) : ∃ ws, D .db g [n] ws ∧ jl ws + Ph P i ≤ Ph P j := by
 obtain ⟨m, k, h1, h⟩ := jc h;obtain ⟨s, v, hw, rfl, hv, hb⟩ := head_inv H (g := g) h1;obtain ⟨u, k2, hm, h⟩ := jc h;have hm := jD hm;obtain ⟨l, k3, h3, h⟩ := jc h;obtain ⟨rfl, rfl⟩ := jx h;obtain ⟨x, r, ws, rfl, hx, hb2⟩ := vB s_bar (by decide) (fun i n j hi => con_inv2 H G hi) h3;exact ⟨_, .db hv hx, jz⟩
theorem data_inv {a i m : Nat} (hm : m + 32 ≤ Ph P i) {n : Ty} {j : Nat} (h : yj P R a i = .ok n j) : ∃ ws, D .dx g [n] ws ∧ jl ws + m ≤ Ph P j := by
 obtain ⟨l, k3, h3, h⟩ := jc h;obtain ⟨rfl, rfl⟩ := jx h;obtain ⟨x, r, ws, rfl, hx, hb2⟩ := vB w_and (by decide) (fun i n j hi => dbind_inv H G hi) h3;exact ⟨_, .dx_data hx, jz⟩
theorem fbind_inv {i : Nat} {n : Ty} {j : Nat} (h : kC P R i = .ok n j) : ∃ ws, D .fb g [n] ws ∧ jl ws + Ph P i ≤ Ph P j := by
 obtain ⟨s, k, h1, h⟩ := jc h;obtain ⟨hk, rfl, hkp⟩ := kP h1;obtain ⟨p, k2, h2, h⟩ := jc h;obtain ⟨l, k3, h3, h⟩ := jc h;obtain ⟨⟨pw, hp, hpb⟩, -⟩ := apat_inv H G h2;obtain ⟨hl, lw, hlw, hlb⟩ := many_inv (m := Ph P k) (C := .pt 2) (g := g) (fun i n j hc hi => (apat_inv H G hi).1) _ _ _ h3 (.mcons hp .mnil) jz
 cases l with
 | nil => simp at hl
 | cons x r =>
  obtain ⟨c, k4, h4, h⟩ := jc h;have h4 := qy h4;rcases kU h with ⟨c, h⟩ | ⟨c, h⟩
  · obtain ⟨t, k5, h5, h⟩ := jc h;obtain ⟨u, k6, hm, h⟩ := jc h;have hm := jD hm;obtain ⟨e, k7, h7, h⟩ := jc h;obtain ⟨rfl, rfl⟩ := jx h;obtain ⟨g1, e1, tw, ht, htb⟩ := G.typ h5;obtain ⟨g2, e2, ew, he, heb⟩ := G.deep h7;obtain rfl : g1 = g2 + 1 := by omega
    subst e2;exact ⟨_, .fb_has trivial (H.lo _ hk) hlw he ht, jz⟩
  · obtain ⟨u, k6, hm, h⟩ := jc h;have hm := jD hm;obtain ⟨e, k7, h7, h⟩ := jc h;obtain ⟨rfl, rfl⟩ := jx h;obtain ⟨g1, rfl, ew, he, heb⟩ := G.exp h7;exact ⟨_, .fb (H.lo _ hk) hlw he, jz⟩
theorem body_inv {i : Nat} {n : Ty} {j : Nat} (h : yf P R i = .ok n j) : ∃ ws, D .body g [n] ws ∧ jl ws + Ph P i ≤ Ph P j := by
 rcases jp h with ⟨c, h⟩ | ⟨c, h⟩
 · obtain ⟨l, k, h1, h⟩ := jc h;obtain ⟨u, k2, hm, h⟩ := jc h;have hm := jD hm;obtain ⟨rfl, rfl⟩ := jx h;obtain ⟨h2, h3⟩ := decs_inv G h1
   cases l with
   | nil =>
    rcases h2 with h2 | ⟨h0, rfl⟩
    · have h2 := h2.2;exact ⟨_, .b_nil, jz⟩
    · obtain ⟨ws, h4, h5⟩ := h3 h0 rfl;exact ⟨_, .b_nil, jz⟩
   | cons x l =>
    obtain ⟨h0, rfl⟩ := h2.resolve_left (by simp);obtain ⟨ws, h4, h5⟩ := h3 h0 rfl;exact ⟨_, .b_str h4, jz⟩
 · obtain ⟨p, k, h1, h⟩ := jc h;obtain ⟨rfl, rfl⟩ := kY h;obtain ⟨ws, hp, h2, -, hb⟩ := path_inv H h1;rw [h2 rfl] at hp;exact ⟨_, .b_path hp, hb⟩
theorem structure_inv {a i w m : Nat} (hm : m + 32 ≤ Ph P i) (hw : w ≤ 1) {n : Ty} {j : Nat} (h : kH P R a i = .ok n j) : ∃ ws, D (.dec w) g [n] ws ∧ jl ws + m ≤ Ph P j := by
 obtain ⟨s, k, h1, h⟩ := jc h;obtain ⟨hk, rfl, hkp⟩ := kP h1;have hs := H.up _ hk;obtain ⟨x, k2, h2, h⟩ := jc h;obtain ⟨u, k3, h3, h⟩ := jc h;have h3 := jD h3;obtain ⟨b, k4, h4, h⟩ := jc h;obtain ⟨rfl, rfl⟩ := jx h;obtain ⟨bw, hb, hbb⟩ := body_inv H G h4;rcases jp h2 with ⟨c, h2⟩ | ⟨c, h2⟩
 · obtain ⟨y, k5, h5, h2⟩ := jc h2;obtain ⟨rfl, rfl⟩ := kY h2;obtain ⟨h0, rfl, ws, hx, hxb⟩ := G.sig h5;exact ⟨_, .d_str1 (N := 1) hw hs (.inl ⟨rfl, rfl⟩) hx hb, jz⟩
 rcases jp h2 with ⟨c1, h2⟩ | ⟨c1, h2⟩
 · obtain ⟨y, k5, h5, h2⟩ := jc h2;obtain ⟨rfl, rfl⟩ := kY h2;obtain ⟨h0, rfl, ws, hx, hxb⟩ := G.sig h5;exact ⟨_, .d_str1 (N := 2) hw hs (.inr ⟨rfl, rfl⟩) hx hb, jz⟩
 · obtain ⟨rfl, rfl⟩ := ks h2;exact ⟨_, .d_str0 hw hs hb, jz⟩
theorem dec_inv {w i : Nat} (hw : jK P (jv w) i = true) {n : Ty} {j : Nat} (h : qZ P R i = .ok n j) : ∃ ws, D (.dec w) g [n] ws ∧ jl ws + Ph P i ≤ Ph P j := by
 have ht := oneD_text hw;have hP : Ph P i + 32 ≤ Ph P (i + 1) := by rw [Ph.s]; omega
 have h2 : ∀ s, P.T i = s → s ∉ jv 2 → w ≤ 1 := by
  intro s e hs;rw [e] at ht
  have h3 : s ∉ jv w ∨ w ≤ 1 := by
   by_cases c : w ≤ 1
   · exact .inr c
   · have e : jv w = jv 2 := (by unfold jv; rw [if_neg (by omega), if_neg (by omega)]; rfl);rw [e]; exact .inl hs
  exact h3.resolve_left fun h => h ht
 rcases jp h with ⟨c, h⟩ | ⟨c1, h⟩
 · obtain ⟨p, k, h1, h⟩ := jc h;obtain ⟨u, k2, hm, h⟩ := jc h;have hm := jD hm;obtain ⟨e, k3, h3, h⟩ := jc h;obtain ⟨rfl, rfl⟩ := jx h;obtain ⟨h0, rfl, pw, hp, hb⟩ := G.pat h1;obtain ⟨h9, e2, ew, he, hb2⟩ := G.exp h3;obtain rfl : h0 = h9 := by omega
   exact ⟨_, .d_val hp he, jz⟩
 rcases jp h with ⟨c, h⟩ | ⟨c2, h⟩
 · obtain ⟨l, k3, h3, h⟩ := jc h;obtain ⟨rfl, rfl⟩ := jx h;obtain ⟨x, r, ws, rfl, hx, hb2⟩ := vB w_and (by decide) (fun i n j hi => fbind_inv H G hi) h3;exact ⟨_, .d_fun hx, jz⟩
 rcases jp h with ⟨c, h⟩ | ⟨c3, h⟩
 · obtain ⟨m, k, h1, h⟩ := jc h;obtain ⟨u, k2, hm, h⟩ := jc h;have hm := jD hm;obtain ⟨t, k3, h3, h⟩ := jc h;obtain ⟨rfl, rfl⟩ := jx h;obtain ⟨h0, rfl, tw, ht, hb⟩ := G.typ h3;obtain ⟨s, l, lw, rfl, hl, hb2⟩ := head_inv H (g := h0) h1;exact ⟨_, .d_type (h2 _ c (notin (by decide))) hl ht, jz⟩
 rcases jp h with ⟨c, h⟩ | ⟨c4, h⟩
 · obtain ⟨ws, hd, hb⟩ := data_inv H G hP h;exact ⟨_, .d_dx (.inr (h2 _ c (notin (by decide)))) hd, hb⟩
 rcases jp h with ⟨c, h⟩ | ⟨c5, h⟩
 · obtain ⟨m, k, h1, h⟩ := jc h;obtain ⟨rfl, rfl⟩ := jx h;obtain ⟨ws, hd, hb⟩ := exn_inv (a := P.A i) H G hP h1;exact ⟨_, .d_dx (.inl rfl) hd, hb⟩
 rcases jp h with ⟨c, h⟩ | ⟨c6, h⟩
 · exact structure_inv H G hP (h2 _ c (notin (by decide))) h
 rcases jp h with ⟨c, h⟩ | ⟨c7, h⟩
 · obtain ⟨s, k, h1, h⟩ := jc h;obtain ⟨hk, rfl, hkp⟩ := kP h1;obtain ⟨u, k2, hm, h⟩ := jc h;have hm := jD hm;obtain ⟨x, k3, h3, h⟩ := jc h;obtain ⟨rfl, rfl⟩ := jx h;obtain ⟨h0, rfl, xw, hx, hb⟩ := G.sig h3
   have h4 : w = 0 := by
    by_cases c0 : w = 0
    · exact c0
    · have h5 : P.T i ∉ jv w := by
       by_cases c1 : w = 1
       · rw [c1, c]; exact notin (by decide)
       · have e : jv w = jv 2 := (by unfold jv; rw [if_neg (by omega), if_neg (by omega)]; rfl);rw [e, c]; exact notin (by decide)
      exact absurd ht h5
   exact ⟨_, .d_sig h4 (H.up _ hk) hx, jz⟩
 · obtain ⟨p, k, h1, h⟩ := jc h;obtain ⟨rfl, rfl⟩ := jx h;obtain ⟨ws, hp, h3, -, hb⟩ := path_inv H h1;rw [h3 rfl] at hp;exact ⟨_, .d_open hp, jz⟩
theorem spec_inv {i : Nat} {n : Ty} {j : Nat} (h : ky P R i = .ok n j) : ∃ ws, D .spec g [n] ws ∧ jl ws + Ph P i ≤ Ph P j := by
 have hP : Ph P i + 32 ≤ Ph P (i + 1) := by rw [Ph.s]; omega
 rcases jp h with ⟨c, h⟩ | ⟨c1, h⟩
 · obtain ⟨s, k, h1, h⟩ := jc h;obtain ⟨hk, rfl, hkp⟩ := kP h1;obtain ⟨u, k2, hm, h⟩ := jc h;have hm := jD hm;obtain ⟨t, k3, h3, h⟩ := jc h;obtain ⟨rfl, rfl⟩ := jx h;obtain ⟨h0, rfl, tw, ht, hb⟩ := G.typ h3;exact ⟨_, .sp_val (H.lo _ hk) ht, jz⟩
 rcases jp h with ⟨c, h⟩ | ⟨c2, h⟩
 · obtain ⟨m, k, h1, h⟩ := jc h;obtain ⟨e, k2, h2, h⟩ := jc h;have h2 := qy h2;rcases kU h with ⟨c, h⟩ | ⟨c, h⟩
   · obtain ⟨t, k3, h3, h⟩ := jc h;obtain ⟨rfl, rfl⟩ := jx h;obtain ⟨h0, rfl, tw, ht, hb⟩ := G.typ h3;obtain ⟨s, l, lw, rfl, hl, hb2⟩ := head_inv H (g := h0) h1;have h4 := h2.2 c;exact ⟨_, .sp_type1 hl ht, jz⟩
   · obtain ⟨rfl, rfl⟩ := jx h;obtain ⟨s, l, lw, rfl, hl, hb2⟩ := head_inv H (g := g) h1;exact ⟨_, .sp_type hl, jz⟩
 rcases jp h with ⟨c, h⟩ | ⟨c3, h⟩
 · obtain ⟨ws, hd, hb⟩ := data_inv H G hP h;exact ⟨_, .sp_dx hd, hb⟩
 rcases jp h with ⟨c, h⟩ | ⟨c4, h⟩
 · obtain ⟨m, k, h1, h⟩ := jc h;obtain ⟨rfl, rfl⟩ := jx h;obtain ⟨ws, hd, hb⟩ := exn_inv (a := P.A i) H G hP h1;exact ⟨_, .sp_dx hd, hb⟩
 rcases jp h with ⟨c, h⟩ | ⟨c5, h⟩
 · obtain ⟨s, k, h1, h⟩ := jc h;obtain ⟨hk, rfl, hkp⟩ := kP h1;obtain ⟨u, k2, hm, h⟩ := jc h;have hm := jD hm;obtain ⟨x, k3, h3, h⟩ := jc h;obtain ⟨rfl, rfl⟩ := jx h;obtain ⟨h0, rfl, xw, hx, hb⟩ := G.sig h3;exact ⟨_, .sp_str (H.up _ hk) hx, jz⟩
 · exact (kc h).elim
theorem specs_inv : ∀ (f : Nat) (acc : List Ty) (i : Nat) {l : List Ty} {j m : Nat} {ws : List ByteArray}, kT P R f acc i = .ok l j → D (.many .spec) g acc ws → jl ws + m ≤ Ph P i → ∃ ws, D (.many .spec) g l ws ∧ jl ws + m ≤ Ph P j
 | 0, acc, i, l, j, m, ws, h, ha, hm => by obtain ⟨rfl, rfl⟩ := kY h; exact ⟨_, ha, hm⟩
 | f + 1, acc, i, l, j, m, ws, h, ha, hm => by
  rcases jp h with ⟨c, h⟩ | ⟨c, h⟩
  · obtain ⟨rfl, rfl⟩ := ks h; exact ⟨_, ha, by rw [Ph.s]; omega⟩
  · obtain ⟨x, k, h1, h⟩ := jc h
    obtain ⟨vs, hx, hp⟩ := spec_inv H G h1
    obtain ⟨us, h2, h3⟩ := many_snoc hx ha
    exact specs_inv f _ _ h h2 (by omega)
theorem sigs_inv {i : Nat} {n : Ty} {j : Nat} (h : sigsB P R i = .ok n j) : ∃ ws, D .sig g [n] ws ∧ jl ws + Ph P i ≤ Ph P j := by
 rcases jp h with ⟨c, h⟩ | ⟨c, h⟩
 · obtain ⟨l, k, h1, h⟩ := jc h;obtain ⟨rfl, rfl⟩ := jx h;obtain ⟨ws, h2, h3⟩ := specs_inv H G _ _ _ (m := Ph P i + 16) h1 .mnil jz;exact ⟨_, .s_body h2, jz⟩
 · obtain ⟨s, k, h1, h⟩ := jc h;obtain ⟨hk, rfl, hkp⟩ := kP h1;obtain ⟨rfl, rfl⟩ := jx h;exact ⟨_, .s_name (H.up _ hk), jz⟩
theorem rule_inv {i : Nat} {n : Ty} {j : Nat} (h : ruleB P R i = .ok n j) : ∃ ws, D .rule g [n] ws ∧ jl ws + Ph P i ≤ Ph P j := by
 obtain ⟨p, k, h1, h⟩ := jc h;obtain ⟨u, k2, hm, h⟩ := jc h;have hm := jD hm;obtain ⟨e, k3, h3, h⟩ := jc h;obtain ⟨rfl, rfl⟩ := jx h;obtain ⟨h0, rfl, pw, hp, hb⟩ := G.pat h1;obtain ⟨h9, e2, ew, he, hb2⟩ := G.exp h3;obtain rfl : h0 = h9 := by omega
 exact ⟨_, .rule hp he, jz⟩
theorem rules_inv {k : Int} {a i m : Nat} (hm0 : m + 32 ≤ Ph P i) {w : ByteArray} {n : Ty} {j : Nat} (hw : k = 10 ∧ w = w_of ∨ k = 11 ∧ w = w_with) (h : vc P R k a w i = .ok n j) : ∃ ws, D (.e0 10) g [n] ws ∧ jl ws + m ≤ Ph P j := by
 obtain ⟨e, k1, h1, h⟩ := jc h;obtain ⟨u, k2, hm, h⟩ := jc h;have hm := jD hm;obtain ⟨l, k3, h3, h⟩ := jc h;obtain ⟨u2, k4, hm2, h⟩ := jc h;have hm2 := jD hm2;obtain ⟨rfl, rfl⟩ := jx h;obtain ⟨h0, rfl, ew, he, hb⟩ := G.exp h1;obtain ⟨x, r, ws, rfl, hx, hb2⟩ := vB s_bar (by decide) (fun i n j hi => rule_inv H G hi) h3;rcases hw with ⟨rfl, -⟩ | ⟨rfl, -⟩
 · exact ⟨_, .e_case he hx, jz⟩
 · exact ⟨_, .e_try he hx, jz⟩
theorem round_invv {a i m : Nat} (hm0 : m + 32 ≤ Ph P i) {n : Ty} {j : Nat} (h : vX P R a i = .ok n j) : ∃ ws, D (.ex 9) g [n] ws ∧ jl ws + m ≤ Ph P j := by
 have np : ∀ {n ws}, D (.e0 10) g [n] ws → jl ws + m ≤ Ph P j → ∃ ws, D (.ex 9) g [n] ws ∧ jl ws + m ≤ Ph P j := fun h hb => ⟨_, .ex_np h (by omega) (Nat.le_refl _), hb⟩
 rcases jp h with ⟨c, h⟩ | ⟨c, h⟩
 · obtain ⟨rfl, rfl⟩ := ks h;exact np .e_unit jz
 obtain ⟨p, k, h1, h⟩ := jc h;obtain ⟨h0, rfl, ws, hp, hb⟩ := G.exp h1;obtain ⟨b, k2, h2, h⟩ := jc h;have h2 := qy h2;rcases kU h with ⟨c2, h⟩ | ⟨c2, h⟩
 · obtain ⟨l, k, h1, h⟩ := jc h;obtain ⟨u, k3, hm, h⟩ := jc h;have hm := jD hm;obtain ⟨rfl, rfl⟩ := jx h;obtain ⟨h9, x, r, vs, e, rfl, hx, hb2⟩ := rows_in G G.exp s_com (by decide) h1;obtain rfl : h0 = h9 := by omega
   have h4 := h2.2 c2;exact np (.e_tup (.rowS hp hx)) jz
 obtain ⟨b2, k3, h3, h⟩ := jc h;have h3 := qy h3;rcases kU h with ⟨c3, h⟩ | ⟨c3, h⟩
 · obtain ⟨l, k, h1, h⟩ := jc h;obtain ⟨u, k3, hm, h⟩ := jc h;have hm := jD hm;obtain ⟨rfl, rfl⟩ := jx h;obtain ⟨h9, x, r, vs, e, rfl, hx, hb2⟩ := rows_in G G.exp s_sem (by decide) h1;obtain rfl : h0 = h9 := by omega
   have h4 := h3.2 c3;exact np (.e_seq (.rowS hp hx)) jz
 obtain ⟨b3, k4, h5, h⟩ := jc h;have h5 := qy h5;rcases kU h with ⟨c4, h⟩ | ⟨c4, h⟩
 · obtain ⟨t, k, h1, h⟩ := jc h;obtain ⟨u, k2, hm, h⟩ := jc h;have hm := jD hm;obtain ⟨rfl, rfl⟩ := jx h;obtain ⟨h9, e, tw, ht, hb2⟩ := G.typ h1;obtain rfl : h0 = h9 := by omega
   have h4 := h5.2 c4;exact np (.e_has hp ht) jz
 · obtain ⟨u, k2, hm, h⟩ := jc h;have hm := jD hm;obtain ⟨rfl, rfl⟩ := jx h;exact ex_lift hp 9 (Nat.lt_succ_self _) (by omega)
theorem atom_inv {i : Nat} {n : Ty} {j : Nat} (h : kp P R i = .ok n j) : ∃ ws, D (.ex 9) g [n] ws ∧ jl ws + Ph P i ≤ Ph P j := by
 have np : ∀ {n ws}, D (.e0 10) g [n] ws → jl ws + Ph P i ≤ Ph P j → ∃ ws, D (.ex 9) g [n] ws ∧ jl ws + Ph P i ≤ Ph P j := fun h hb => ⟨_, .ex_np h (by omega) (Nat.le_refl _), hb⟩
 have hP : Ph P i + 32 ≤ Ph P (i + 1) := by rw [Ph.s]; omega
 rcases jp h with ⟨c, h⟩ | ⟨c1, h⟩
 · obtain ⟨rfl, rfl⟩ := ks h;have := dgW_le (H.num i c);exact np (.e_int (H.num i c)) jz
 rcases jp h with ⟨c, h⟩ | ⟨c2, h⟩
 · obtain ⟨rfl, rfl⟩ := ks h;have := quoteD_le (P.T i);exact np (.e_str (H.str i c)) jz
 rcases jp h with ⟨c, h⟩ | ⟨c3, h⟩
 · obtain ⟨p, k, h1, h⟩ := jc h;obtain ⟨rfl, rfl⟩ := kY h;obtain ⟨ws, hp, -, -, hb⟩ := path_inv H h1;have e : (if p.2 = 3 then (3 : Int) else 4) = (p.2 : Int) := by rcases path_kind hp with e | e <;> rw [e] <;> rfl
   rw [e];exact np (.e_path hp) hb
 rcases jp h with ⟨c, h⟩ | ⟨c4, h⟩
 · obtain ⟨rfl, rfl⟩ := ks h; exact np (.e_tf (tf_of c)) jz
 rcases jp h with ⟨c, h⟩ | ⟨c5, h⟩
 · exact round_invv H G hP h
 rcases jp h with ⟨c, h⟩ | ⟨c6, h⟩
 · obtain ⟨b, k, h2, h⟩ := jc h;have h2 := qy h2;rcases kU h with ⟨c, h⟩ | ⟨c, h⟩
   · obtain ⟨rfl, rfl⟩ := jx h;have h4 := h2.2 c;exact np .e_nil jz
   · obtain ⟨l, k, h1, h⟩ := jc h;obtain ⟨u, k2, hm, h⟩ := jc h;have hm := jD hm;obtain ⟨rfl, rfl⟩ := jx h;obtain ⟨h0, x, r, ws, rfl, rfl, hx, hb⟩ := rows_in G G.exp s_com (by decide) h1;exact np (.e_list hx) jz
 rcases jp h with ⟨c, h⟩ | ⟨c7, h⟩
 · obtain ⟨l, k, h1, h⟩ := jc h;obtain ⟨u, k2, hm, h⟩ := jc h;have hm := jD hm;obtain ⟨e, k3, h3, h⟩ := jc h;obtain ⟨u2, k4, hm2, h⟩ := jc h;have hm2 := jD hm2;obtain ⟨rfl, rfl⟩ := jx h;obtain ⟨h0, rfl, ew, he, hb⟩ := G.exp h3;obtain ⟨lw, hl, hb2⟩ := (decs_inv G h1).2 h0 rfl;exact np (.e_let hl he) jz
 rcases jp h with ⟨c, h⟩ | ⟨c8, h⟩
 · obtain ⟨ws, h2, hb⟩ := rules_inv H G hP (.inl ⟨rfl, rfl⟩) h; exact np h2 hb
 rcases jp h with ⟨c, h⟩ | ⟨c9, h⟩
 · obtain ⟨ws, h2, hb⟩ := rules_inv H G hP (.inr ⟨rfl, rfl⟩) h; exact np h2 hb
 · exact (kc h).elim
theorem prefixL_inv : ∀ (f : Nat) {i : Nat} {n : Ty} {j : Nat}, qk P R f i = .ok n j → ∃ ws, D (.ex 9) g [n] ws ∧ jl ws + Ph P i ≤ Ph P j
 | 0, i, n, j, h => (kc h).elim
 | f + 1, i, n, j, h => by
  rcases jp h with ⟨c, h⟩ | ⟨c, h⟩
  · obtain ⟨m, k, h1, h⟩ := jc h
    obtain ⟨rfl, rfl⟩ := kY h
    obtain ⟨ws, hm, hb⟩ := prefixL_inv f h1
    have ht : P.T i = s_ti ∨ P.T i = s_ex := by
     rcases c with c | c
     · exact .inl (isD_text c)
     · exact .inr (isD_text c)
    exact ⟨_, .ex_np (.e_un ht hm) (Nat.le_refl _) (Nat.le_refl _), jz⟩
  · exact atom_inv H G h
theorem applyL_inv : ∀ (f : Nat) (m : Ty) {i : Nat} {n : Ty} {j b : Nat}, qr P R f m i = .ok n j → (∃ ws, D (.ex 8) g [m] ws ∧ jl ws + b ≤ Ph P i) → ∃ ws, D (.ex 8) g [n] ws ∧ jl ws + b ≤ Ph P j
 | 0, m, i, n, j, b, h, hm => by obtain ⟨rfl, rfl⟩ := kY h; exact hm
 | f + 1, m, i, n, j, b, h, hm => by
  rcases jp h with ⟨c, h⟩ | ⟨c, h⟩
  · obtain ⟨x, k, h1, h⟩ := jc h
    obtain ⟨xw, hx, hxb⟩ := prefixL_inv H G _ h1
    obtain ⟨mw, hm, hmb⟩ := hm
    exact applyL_inv f _ h ⟨_, .ex_np (.e_app hm hx) (Nat.le_refl _) (Nat.le_refl _), jz⟩
  · obtain ⟨rfl, rfl⟩ := ks h; exact hm
theorem apply_inv {i : Nat} {n : Ty} {j : Nat} (h : applyB P R i = .ok n j) : ∃ ws, D (.ex 8) g [n] ws ∧ jl ws + Ph P i ≤ Ph P j := by
 obtain ⟨m, k, h1, h⟩ := jc h;obtain ⟨mw, hm, hb⟩ := prefixL_inv H G _ h1;exact applyL_inv H G _ _ h (ex_to hm (by omega) (Nat.le_refl _) hb)
inductive Co (k L g : Nat) : List (ByteArray × Ty) → Nat → Prop
 | nil : Co k L g [] 0
 | cons {s x ws l b} : s ∈ lvL k → D (.ex L) g [x] ws → Co k L g l b → Co k L g ((s, x) :: l) (jl ws + 8 + b)
omit H G in
theorem Co.snoc {k L : Nat} {s : ByteArray} {x : Ty} {ws : List ByteArray} (hs : s ∈ lvL k) (hx : D (.ex L) g [x] ws) : ∀ {l : List (ByteArray × Ty)} {b : Nat}, Co k L g l b → Co k L g (l ++ [(s, x)]) (b + (jl ws + 8))
 | _, _, .nil => by have := Co.cons hs hx .nil; simpa using this
 | _, _, .cons h h2 h3 => by have := Co.cons h h2 (h3.snoc hs hx); rw [Nat.add_assoc]; exact this
omit H G in
theorem col_inv {k L : Nat} {item : M Ty} (hi : ∀ i n j, item i = .ok n j → ∃ ws, D (.ex L) g [n] ws ∧ jl ws + Ph P i ≤ Ph P j) : ∀ (f : Nat) (acc : List (ByteArray × Ty)) (i : Nat) {l : List (ByteArray × Ty)} {j b m : Nat}, jW P k item f acc i = .ok l j → Co k L g acc b → b + m ≤ Ph P i → (qd k = true → acc.length ≤ 1) → (∃ b, Co k L g l b ∧ b + m ≤ Ph P j) ∧ (qd k = true → l.length ≤ 1)
 | 0, acc, i, l, j, b, m, h, ha, hm, hn => by obtain ⟨rfl, rfl⟩ := kY h; exact ⟨⟨_, ha, hm⟩, hn⟩
 | f + 1, acc, i, l, j, b, m, h, ha, hm, hn => by
  rcases jp h with ⟨c, h⟩ | ⟨c, h⟩
  · obtain ⟨x, k, h1, h⟩ := jc h
    obtain ⟨ws, hx, hb⟩ := hi _ _ _ h1
    rw [Ph.s] at hb
    refine col_inv hi f _ _ (m := m) h (ha.snoc (oneD_text c.2) hx) (by omega) ?_
    intro hk
    rcases c.1 with c | c
    · simp [c]
    · rw [hk] at c; cases c
  · obtain ⟨rfl, rfl⟩ := ks h; exact ⟨⟨_, ha, hm⟩, hn⟩
def lA (L : Nat) : Nat := if L = 2 ∨ L = 3 ∨ L = 6 ∨ L = 7 then L else L + 1
def lB (L : Nat) : Nat := if L = 5 then L else L + 1
omit H G in
theorem joinD_ok {L : Nat} (h1 : 1 ≤ L) (h7 : L ≤ 7) {s : ByteArray} (hs : s ∈ lvL (8 - L)) {x y : Ty} {a b : Nat} (hx : ∃ ws, D (.ex (lA L)) g [x] ws ∧ jl ws ≤ a) (hy : ∃ ws, D (.ex (lB L)) g [y] ws ∧ jl ws ≤ b) : ∃ ws, D (.ex L) g [kG s x y] ws ∧ jl ws ≤ a + b + 8 := by
 obtain ⟨xw, hx, ha⟩ := hx;obtain ⟨yw, hy, hb⟩ := hy
 by_cases h2 : L = 2
 · subst h2;simp [lvL] at hs; subst hs
   exact ⟨_, .ex_np (.e_or hx hy) (Nat.le_refl _) (Nat.le_refl _), jz⟩
 by_cases h3 : L = 3
 · subst h3;simp [lvL] at hs; subst hs
   exact ⟨_, .ex_np (.e_and hx hy) (Nat.le_refl _) (Nat.le_refl _), jz⟩
 have ho : s ∈ opL L ∧ s ≠ w_andalso ∧ s ≠ w_orelse ∧ s.size ≤ 7 := by
  have : L = 1 ∨ L = 4 ∨ L = 5 ∨ L = 6 ∨ L = 7 := by omega
  rcases this with rfl | rfl | rfl | rfl | rfl <;> (refine ⟨hs, ?_⟩; revert s; decide)
 have e : kG s x y = .mk 18 x.n s 0 [x, y] := by unfold kG; rw [if_neg ho.2.1, if_neg ho.2.2.1]
 rw [e];have ea : lA L = opA L := by unfold lA opA; split <;> split <;> omega
 have eb : lB L = opB L := rfl;rw [ea] at hx;rw [eb] at hy;have h9 := ho.2.2.2;exact ⟨_, .ex_np (.e_op ho.1 hx hy) (Nat.le_refl _) (Nat.le_refl _), jz⟩
omit H G in
theorem foldL_ok {L : Nat} (h1 : 1 ≤ L) (h7 : L ≤ 7) (h5 : L ≠ 5) : ∀ (l : List (ByteArray × Ty)) (a : Ty) {b c : Nat}, Co (8 - L) (L + 1) g l b → (qd (8 - L) = true → l.length ≤ 1) → (∃ ws, D (.ex (L + 1)) g [a] ws ∧ jl ws ≤ c) ∨ ((∃ ws, D (.ex L) g [a] ws ∧ jl ws ≤ c) ∧ (qd (8 - L) = true → l = [])) → ∃ ws, D (.ex L) g [jJ a l] ws ∧ jl ws ≤ c + b
 | [], a, _, c, .nil, _, ha => by
  rcases ha with ⟨ws, ha, hc⟩ | ⟨ha, -⟩
  · exact ex_to (m := 0) ha (by omega) (Nat.le_refl _) (by omega)
  · exact ha
 | _ :: r, a, _, c, .cons (s := s) (x := x) (ws := xw) (b := b2) hs hx hr, hn, ha => by
  show ∃ ws, D (.ex L) g [jJ (kG s a x) r] ws ∧ _
  obtain ⟨jw, hj, hjb⟩ := joinD_ok (g := g) (L := L) (a := c) (b := jl xw) h1 h7 hs (x := a) (y := x) (by
   by_cases hc : L = 2 ∨ L = 3 ∨ L = 6 ∨ L = 7
   · have e : lA L = L := if_pos hc
     rw [e]
     rcases ha with ⟨ws, ha, hc⟩ | ⟨ha, -⟩
     · exact ex_to (m := 0) ha (by omega) (Nat.le_refl _) (by omega)
     · exact ha
   · have e : lA L = L + 1 := if_neg hc
     rw [e]
     rcases ha with ha | ⟨-, ha⟩
     · exact ha
     · have hne : qd (8 - L) = true := by unfold qd; simp; omega
       cases ha hne) (by
   have e : lB L = L + 1 := if_neg h5
   rw [e]; exact ⟨_, hx, Nat.le_refl _⟩)
  obtain ⟨ws, h3, h4⟩ := foldL_ok h1 h7 h5 r (kG s a x) hr (fun h => by have := hn h; simp at this; simp [this]) (.inr ⟨⟨_, hj, hjb⟩, fun h => by have := hn h; simpa using this⟩)
  exact ⟨ws, h3, by omega⟩
omit H G in
theorem foldR_ok : ∀ (l : List (ByteArray × Ty)) (a : Ty) {b c : Nat}, Co 3 6 g l b → (∃ ws, D (.ex 6) g [a] ws ∧ jl ws ≤ c) → ∃ ws, D (.ex 5) g [vn a l] ws ∧ jl ws ≤ c + b
 | [], a, _, c, .nil, ⟨ws, ha, hc⟩ => ex_to (m := 0) ha (by omega) (Nat.le_refl _) (by omega)
 | _ :: r, a, _, c, .cons (s := s) (x := x) (ws := xw) (b := b2) hs hx hr, ha => by
  obtain ⟨ws, h3, h4⟩ := joinD_ok (L := 5) (by omega) (by omega) hs ha (foldR_ok r x hr ⟨_, hx, Nat.le_refl _⟩)
  exact ⟨ws, h3, by omega⟩
theorem bet_inv : ∀ (k : Nat), k ≤ 7 → ∀ {i : Nat} {n : Ty} {j : Nat}, jF P R k i = .ok n j → ∃ ws, D (.ex (8 - k)) g [n] ws ∧ jl ws + Ph P i ≤ Ph P j
 | 0, _, i, n, j, h => apply_inv H G h
 | k + 1, hk, i, n, j, h => by
  obtain ⟨a, k1, h1, h⟩ := jc h
  obtain ⟨l, k2, h2, h⟩ := jc h
  have ha := bet_inv k (by omega) h1
  have e : 8 - k = 8 - (k + 1) + 1 := by omega
  have e2 : 8 - (8 - (k + 1)) = k + 1 := by omega
  rw [e] at ha
  obtain ⟨aw, ha, hab⟩ := ha
  obtain ⟨⟨b, hl, hb⟩, hn⟩ := col_inv (L := 8 - (k + 1) + 1) (g := g) (m := Ph P k1) (fun i n j hi => by rw [← e]; exact bet_inv k (by omega) hi) _ _ _ h2 .nil (by omega) (by simp)
  obtain ⟨rfl, rfl⟩ := jx h
  by_cases h3 : k + 1 = 3
  · rw [if_pos h3]
    obtain rfl : k = 2 := by omega
    obtain ⟨ws, h4, h5⟩ := foldR_ok l a hl ⟨aw, ha, Nat.le_refl _⟩
    exact ⟨ws, h4, by omega⟩
  · rw [if_neg h3]
    obtain ⟨ws, h4, h5⟩ := foldL_ok (L := 8 - (k + 1)) (by omega) (by omega) (by omega) l a (by rw [e2]; exact hl) (by rw [e2]; exact hn) (.inl ⟨aw, ha, Nat.le_refl _⟩)
    exact ⟨ws, h4, by omega⟩
theorem open_inv {i : Nat} {n : Ty} {j : Nat} (h : openB P R i = .ok n j) : ∃ ws, D (.ex 0) g [n] ws ∧ jl ws + Ph P i ≤ Ph P j := by
 rcases jp h with ⟨c, h⟩ | ⟨c, h⟩
 · obtain ⟨p, k, h1, h⟩ := jc h;obtain ⟨u, k2, hm, h⟩ := jc h;have hm := jD hm;obtain ⟨e, k3, h3, h⟩ := jc h;obtain ⟨rfl, rfl⟩ := jx h;obtain ⟨⟨pw, hp, hpb⟩, -⟩ := apat_inv H G h1;obtain ⟨h9, rfl, ew, he, hb⟩ := G.exp h3;exact ⟨_, .ex_np (.e_fn hp he) (Nat.le_refl _) (Nat.le_refl _), jz⟩
 rcases jp h with ⟨c, h⟩ | ⟨c, h⟩
 · obtain ⟨x, k, h1, h⟩ := jc h;obtain ⟨u, k2, hm, h⟩ := jc h;have hm := jD hm;obtain ⟨y, k3, h3, h⟩ := jc h;obtain ⟨u, k4, hm2, h⟩ := jc h;have hm2 := jD hm2;obtain ⟨z, k5, h5, h⟩ := jc h;obtain ⟨rfl, rfl⟩ := jx h;obtain ⟨h7, rfl, xw, hx, hb⟩ := G.exp h1;obtain ⟨h8, e8, yw, hy, hb2⟩ := G.exp h3;obtain ⟨h9, e9, zw, hz, hb3⟩ := G.exp h5;obtain rfl : h7 = h8 := by omega
   obtain rfl : h7 = h9 := by omega
   exact ⟨_, .ex_np (.e_if hx hy hz) (Nat.le_refl _) (Nat.le_refl _), jz⟩
 rcases jp h with ⟨c, h⟩ | ⟨c, h⟩
 · obtain ⟨x, k, h1, h⟩ := jc h;obtain ⟨rfl, rfl⟩ := jx h;obtain ⟨h7, rfl, xw, hx, hb⟩ := G.exp h1;exact ⟨_, .ex_np (.e_raise hx) (Nat.le_refl _) (Nat.le_refl _), jz⟩
 · obtain ⟨ws, h2, hb⟩ := bet_inv H G 7 (by omega) h;exact ex_to h2 (by omega) (Nat.le_refl _) hb
end
section
variable {P : Src} (H : GoodT P)
include H
theorem rg_all : ∀ g, RG P (jf P g) g
 | 0 => ⟨fun h => (kc h).elim, fun h => (kc h).elim, fun h => (kc h).elim, fun w _ h => (kc h).elim, fun h => (kc h).elim, fun h => (kc h).elim⟩
 | g + 1 => by
  have G := rg_all g
  have e : ∀ nt i, (jf P (g + 1)).go nt i = stepB P (jf P g) nt i := fun nt i => congrFun (kA P g nt) i
  refine ⟨fun {i n j} h => ⟨g, rfl, open_inv H G (by rw [e] at h; exact h)⟩, fun {i n j} h => ⟨g, rfl, pat_inv H G (by rw [e] at h; exact h)⟩, fun {i n j} h => ⟨g, rfl, arrow_inv H G (by rw [e] at h; exact h)⟩, fun {i n j} w hw h => ⟨g, rfl, dec_inv H G hw (by rw [e] at h; exact h)⟩, fun {i n j} h => ⟨g, rfl, sigs_inv H G (by rw [e] at h; exact h)⟩, fun {i n j} h => ?_⟩
  obtain ⟨h0, e0, hw⟩ := G.exp (show (jf P g).go .exp i = .ok n j from h)
  exact ⟨h0, by omega, hw⟩
omit H in
theorem whole_inv {m : M Ty} {n : Ty} {j : Nat} (h : vu P m = .ok n j) : m 0 = .ok n j ∧ P.K j = 0 := by
 unfold vu at h;split at h
 · cases h
 · rename_i hm
   rcases jp h with ⟨c, h⟩ | ⟨c, h⟩
   · cases h; exact ⟨hm, c⟩
   · exact (kc h).elim
omit H in
theorem Ph_le (hT : ∀ i, (P.T i).size ≤ 4000) : ∀ j, Ph P j ≤ j * 32032
 | 0 => Nat.le_refl _
 | j + 1 => by have := hT j; have := Ph_le hT j; rw [Ph.s]; omega
theorem top_inv {k : Nat} {n : Ty} {j : Nat} (h : topD P k = .ok n j) : P.K j = 0 ∧ ∃ ws, TopG k n ws ∧ jl ws ≤ Ph P j := by
 unfold TopG;have e : ∀ {nt}, jt P 60 nt = stepB P (jf P 59) nt := kA P 59 _;rcases jp h with ⟨c, h⟩ | ⟨c, h⟩
 · obtain ⟨h, h0⟩ := whole_inv h;obtain ⟨l, k1, h1, h⟩ := jc h;obtain ⟨rfl, rfl⟩ := kY h;obtain ⟨ws, hw, hb⟩ := (decs_inv (rg_all H 60) h1).2 59 rfl;exact ⟨h0, ws, by rw [if_pos c]; exact ⟨l, rfl, hw⟩, by omega⟩
 rcases jp h with ⟨c1, h⟩ | ⟨c1, h⟩
 · obtain ⟨h, h0⟩ := whole_inv h;rw [e] at h;obtain ⟨ws, hw, hb⟩ := open_inv H (rg_all H 59) h;exact ⟨h0, ws, by rw [if_neg c, if_pos c1]; exact hw, by omega⟩
 rcases jp h with ⟨c2, h⟩ | ⟨c2, h⟩
 · obtain ⟨h, h0⟩ := whole_inv h;rw [e] at h;obtain ⟨ws, hw, hb⟩ := pat_inv H (rg_all H 59) h;exact ⟨h0, ws, by rw [if_neg c, if_neg c1, if_pos c2]; exact hw, by omega⟩
 · obtain ⟨h, h0⟩ := whole_inv h;rw [e] at h;obtain ⟨ws, hw, hb⟩ := arrow_inv H (rg_all H 59) h;exact ⟨h0, ws, by rw [if_neg c, if_neg c1, if_neg c2]; exact hw, by omega⟩
end
structure TkOk (t : Tok) : Prop where
 k : t.1 ≤ 7
 a : t.2.1 ≤ 100000
 q : t.2.2.2 ≤ 1000000000
 s : t.2.2.1.size ≤ 4000
 word : t.1 = 6 → t.2.2.1 ∈ kO
 sign : t.1 = 7 → t.2.2.1 ∈ signsA
 upper : t.1 = 4 → 0 < t.2.2.1.size ∧ bt t.2.2.1 0 ≤ 90
theorem cut_size (s : ByteArray) (i j : Nat) : (cut s i j).size ≤ s.size := by
 unfold cut;rw [ByteArray.size_extract];omega
theorem textD_len (s : ByteArray) : ∀ (n i : Nat) (l b : List UInt8) (j : Nat), s.size - i ≤ n → textD s i l = some (b, j) → b.length ≤ 200
 | 0, i, l, b, j, hn, h => by
  rw [textD, dif_neg (by omega)] at h
  cases h
 | n + 1, i, l, b, j, hn, h => by
  rw [textD] at h
  split at h
  · rename_i hi
    split at h
    · split at h
      · rename_i hl; cases h; exact hl
      · cases h
    · split at h
      · cases h
      · split at h
        · split at h
          · split at h
            · exact textD_len s n _ _ b j (by omega) h
            · cases h
          · cases h
        · exact textD_len s n _ _ b j (by omega) h
  · cases h
theorem word_in {t : ByteArray} (h : qM t = true) : t ∈ kO := by
 have e : wordL.map String.toUTF8 = kO := by decide +kernel
 rw [← e];unfold qM at h;rw [List.any_eq_true] at h;obtain ⟨w, hw, he⟩ := h;exact List.mem_map.2 ⟨w, hw, of_decide_eq_true he⟩
theorem ext_toList (s : ByteArray) (i j : Nat) : (cut s i j).data.toList = (s.data.toList.drop i).take (j - i) := by
 unfold cut;simp only [ByteArray.data_extract, Array.toList_extract, List.extract_eq_take_drop]
theorem bt_drop (s : ByteArray) (i : Nat) (h : i < s.size) : s.data.toList.drop i = UInt8.ofNat (bt s i) :: s.data.toList.drop (i + 1) := by
 have h2 : i < s.data.toList.length := by rw [Array.length_toList]; exact h
 rw [List.drop_eq_getElem_cons h2]
 congr 1
 unfold bt;rw [List.getD_eq_getElem?_getD, List.getElem?_eq_getElem h2];simp
theorem ba_list {a : ByteArray} {l : List UInt8} (h : a.data.toList = l) : a = ⟨l.toArray⟩ := by
 cases a
 simp only [ByteArray.mk.injEq];exact Array.ext' h
theorem cut1 (s : ByteArray) (i : Nat) (h : i < s.size) : cut s i (i + 1) = ⟨#[UInt8.ofNat (bt s i)]⟩ := by
 refine ba_list (l := [UInt8.ofNat (bt s i)]) ?_;rw [ext_toList, bt_drop s i h, show i + 1 - i = 1 from by omega];rfl
theorem cut2 (s : ByteArray) (i : Nat) (h : i + 2 ≤ s.size) : cut s i (i + 2) = ⟨#[UInt8.ofNat (bt s i), UInt8.ofNat (bt s (i + 1))]⟩ := by
 refine ba_list (l := [UInt8.ofNat (bt s i), UInt8.ofNat (bt s (i + 1))]) ?_;rw [ext_toList, bt_drop s i (by omega), bt_drop s (i + 1) (by omega), show i + 2 - i = 2 from by omega];rfl
theorem any_mem {l : List ByteArray} {x : ByteArray} (h : (l.any fun y => decide (y = x)) = true) : x ∈ l := by
 rw [List.any_eq_true] at h;obtain ⟨y, hy, he⟩ := h;rw [← of_decide_eq_true he];exact hy
theorem sign1 : ∀ c ∈ signL, (⟨#[UInt8.ofNat c]⟩ : ByteArray) ∈ signsA := by
 have h : (signL.all fun c => signsA.any fun y => decide (y = ⟨#[UInt8.ofNat c]⟩)) = true := by decide +kernel
 intro c hc;exact any_mem (List.all_eq_true.1 h c hc)
theorem sign2 : ∀ p ∈ pairL, (⟨#[UInt8.ofNat p.1, UInt8.ofNat p.2]⟩ : ByteArray) ∈ signsA := by
 have h : (pairL.all fun p => signsA.any fun y => decide (y = ⟨#[UInt8.ofNat p.1, UInt8.ofNat p.2]⟩)) = true := by decide +kernel
 intro c hc;exact any_mem (List.all_eq_true.1 h c hc)
theorem bt_in {s : ByteArray} {i : Nat} (h : bt s i ≠ 0) : i < s.size := by
 by_cases hi : i < s.size
 · exact hi
 · refine absurd ?_ h;unfold bt;rw [List.getD_eq_getElem?_getD, List.getElem?_eq_none (by rw [Array.length_toList]; exact Nat.le_of_not_lt hi)];rfl
theorem whD_pos {s : ByteArray} {p : Nat → Bool} {i : Nat} (h : i < s.size) (hp : p (bt s i) = true) : i < whD s p i := by
 have hge : ∀ n i, s.size - i ≤ n → i ≤ whD s p i := by
  intro n
  induction n with
  | zero => intro i hn; rw [whD, dif_neg (by omega)]; exact Nat.le_refl _
  | succ n ih =>
   intro i hn;rw [whD];split
   · split
     · have := ih (i + 1) (by omega); omega
     · exact Nat.le_refl _
   · exact Nat.le_refl _
 rw [whD, dif_pos h, if_pos hp];exact hge _ (i + 1) (Nat.le_refl _)
theorem tokD_ok {s : ByteArray} {i j : Nat} {t : Tok} (hs : s.size ≤ 4000) (hi : i ≤ s.size) (h : tokD s i = some (t, j)) : TkOk t := by
 have hc := fun a b => Nat.le_trans (cut_size s a b) hs
 unfold tokD at h;split at h
 · split at h
   · rename_i h1
     cases h
     exact ⟨by show 1 ≤ 7; omega, by show i ≤ _; omega, h1, by show ByteArray.empty.size ≤ _; decide, fun e => (by cases e), fun e => (by cases e), fun e => (by cases e)⟩
   · cases h
 · split at h
   · split at h
     · rename_i b j' he
       cases h
       have hl := textD_len s _ _ _ b j (Nat.le_refl _) he;exact ⟨by show 2 ≤ 7; omega, by show i ≤ _; omega, Nat.zero_le _, by show b.toArray.size ≤ _; rw [List.size_toArray]; omega, fun e => (by cases e), fun e => (by cases e), fun e => (by cases e)⟩
     · cases h
   · split at h
     · have h9 : ∃ f, (if f < varD s f f ∧ varD s f f - f ≤ 20 then some ((5, i, cut s i (varD s f f), 0), varD s f f) else none) = some (t, j) := ⟨_, h⟩;clear h;obtain ⟨f, h⟩ := h9;split at h
       · cases h
         exact ⟨by show 5 ≤ 7; omega, by show i ≤ _; omega, Nat.zero_le _, hc _ _, fun e => (by cases e), fun e => (by cases e), fun e => (by cases e)⟩
       · cases h
     · split at h
       · rename_i hn
         by_cases hle : whD s jB i - i ≤ 20
         · have h9 : some (((if cut s i (whD s jB i) = ⟨#[95]⟩ then 7 else if qM (cut s i (whD s jB i)) = true then 6 else if kB (bt s i) = true then 4 else 3, i, cut s i (whD s jB i), 0) : Tok), whD s jB i) = some (t, j) := by rw [← h]; exact (if_pos hle).symm
           cases h9
           clear h
           by_cases h95 : cut s i (whD s jB i) = ⟨#[95]⟩
           · rw [if_pos h95];exact ⟨by show 7 ≤ 7; omega, by show i ≤ _; omega, Nat.zero_le _, hc _ _, fun e => (by cases e), fun _ => by show cut _ _ _ ∈ _; rw [h95]; exact any_mem (by decide +kernel), fun e => (by cases e)⟩
           · rw [if_neg h95]
             by_cases hw : qM (cut s i (whD s jB i)) = true
             · rw [if_pos hw];exact ⟨by show 6 ≤ 7; omega, by show i ≤ _; omega, Nat.zero_le _, hc _ _, fun _ => word_in hw, fun e => (by cases e), fun e => (by cases e)⟩
             · rw [if_neg hw]
               by_cases hg : kB (bt s i) = true
               · rw [if_pos hg];have hb : 65 ≤ bt s i ∧ bt s i ≤ 90 := by simpa [kB] using hg
                 have hlt : i < s.size := bt_in (by omega);have hwp : i < whD s jB i := whD_pos hlt (by simp [jB, hg])
                 have hl : (cut s i (whD s jB i)).data.toList = UInt8.ofNat (bt s i) :: (s.data.toList.drop (i + 1)).take (whD s jB i - i - 1) := by
                  rw [ext_toList, bt_drop s i hlt];obtain ⟨m, hm⟩ : ∃ m, whD s jB i - i = m + 1 := ⟨whD s jB i - i - 1, by omega⟩
                  rw [hm];rfl
                 refine ⟨by show 4 ≤ 7; omega, by show i ≤ _; omega, Nat.zero_le _, hc _ _, fun e => (by cases e), fun e => (by cases e), fun _ => ⟨?_, ?_⟩⟩
                 · show 0 < (cut s i (whD s jB i)).data.size
                   rw [← Array.length_toList, hl];simp
                 · show bt (cut s i (whD s jB i)) 0 ≤ 90
                   have e : bt (cut s i (whD s jB i)) 0 = (UInt8.ofNat (bt s i)).toNat := by
                    unfold bt;rw [show (cut s i (whD s jB i)).data.toList = _ from hl];rfl
                   rw [e];have := bt_lt s i;simp
                   omega
               · rw [if_neg hg];exact ⟨by show 3 ≤ 7; omega, by show i ≤ _; omega, Nat.zero_le _, hc _ _, fun e => (by cases e), fun e => (by cases e), fun e => (by cases e)⟩
         · exact absurd (h.symm.trans (if_neg hle)) (by intro e; cases e)
       · split at h
         · rename_i hp
           cases h
           refine ⟨by show 7 ≤ 7; omega, by show i ≤ _; omega, Nat.zero_le _, hc _ _, fun e => (by cases e), fun _ => ?_, fun e => (by cases e)⟩
           show cut s i (i + 2) ∈ signsA
           rw [cut2 s i hp.1];exact sign2 _ hp.2
         · split at h
           · rename_i hsg
             cases h
             have hlt : i < s.size := bt_in (fun e => by rw [e] at hsg; exact absurd hsg (by decide));refine ⟨by show 7 ≤ 7; omega, by show i ≤ _; omega, Nat.zero_le _, hc _ _, fun e => (by cases e), fun _ => ?_, fun e => (by cases e)⟩
             show cut s i (i + 1) ∈ signsA
             rw [cut1 s i hlt];exact sign1 _ hsg
           · cases h
theorem toksD_ok (s : ByteArray) (hs : s.size ≤ 4000) : ∀ (n i : Nat) (l : List Tok), s.size - i ≤ n → i ≤ s.size → l.length ≤ i → (∀ t ∈ l, TkOk t) →
 (qc s i l).1.length ≤ 4001 ∧ (∀ t ∈ (qc s i l).1, TkOk t) ∧ (((qc s i l).2.1 = 3 ∧ (qc s i l).2.2 ≤ 4000) ∨ (qc s i l).2 = (0, 0) ∧ ∃ m, (qc s i l).1 = m ++ [(0, s.size, ByteArray.empty, 0)]) := by
 intro n
 induction n with
 | zero =>
  intro i l hn hi hl hall;have hg := gapD_ge (s := s) i hi
  cases hb : gapD s i with
  | mk j b =>
   rw [hb] at hg
   cases b with
   | false => rw [toksD_bad hb]; exact ⟨by show l.length ≤ _; omega, hall, .inl ⟨rfl, by have := hg.2; show j ≤ _; omega⟩⟩
   | true =>
    have hj : j = s.size := (by have := hg.1; have := hg.2; simp only at *; omega);rw [hj] at hb;rw [vK hb];refine ⟨by rw [List.length_append]; show l.length + 1 ≤ _; omega, fun t ht => ?_, .inr ⟨rfl, l, rfl⟩⟩;rcases List.mem_append.1 ht with h | h
    · exact hall t h
    · rw [List.mem_singleton] at h;subst h;exact ⟨Nat.zero_le _, by show s.size ≤ _; omega, Nat.zero_le _, by show ByteArray.empty.size ≤ _; decide, fun e => (by cases e), fun e => (by cases e), fun e => (by cases e)⟩
 | succ n ih =>
  intro i l hn hi hl hall;have hg := gapD_ge (s := s) i hi
  cases hb : gapD s i with
  | mk j b =>
   rw [hb] at hg
   cases b with
   | false => rw [toksD_bad hb]; exact ⟨by show l.length ≤ _; omega, hall, .inl ⟨rfl, by have := hg.2; show j ≤ _; omega⟩⟩
   | true =>
    have hg1 : i ≤ j := hg.1;have hg2 : j ≤ s.size := hg.2
    by_cases hj : j = s.size
    · rw [hj] at hb;rw [vK hb];refine ⟨by rw [List.length_append]; show l.length + 1 ≤ _; omega, fun t ht => ?_, .inr ⟨rfl, l, rfl⟩⟩;rcases List.mem_append.1 ht with h | h
      · exact hall t h
      · rw [List.mem_singleton] at h;subst h;exact ⟨Nat.zero_le _, by show s.size ≤ _; omega, Nat.zero_le _, by show ByteArray.empty.size ≤ _; decide, fun e => (by cases e), fun e => (by cases e), fun e => (by cases e)⟩
    · cases ht : tokD s j with
      | none => rw [toksD_none hb hj ht]; exact ⟨by show l.length ≤ _; omega, hall, .inl ⟨rfl, by show j ≤ _; omega⟩⟩
      | some r =>
       obtain ⟨t, k⟩ := r;rw [ye hi hb hj ht];obtain ⟨h1, h2⟩ := tokD_lt (by omega) ht;refine ih k (l ++ [t]) (by omega) h2 (by rw [List.length_append]; show l.length + 1 ≤ _; omega) fun u hu => ?_
       rcases List.mem_append.1 hu with h | h
       · exact hall u h
       · rw [List.mem_singleton] at h;subst h;exact tokD_ok hs (by omega) ht
def qA (s : ByteArray) : Src := ⟨(jH s).1, (jH s).2.1, (jH s).2.2⟩
theorem lexD_long {s : ByteArray} (h : 4000 < s.size) : jH s = ([], (1, 0)) := by unfold jH; rw [if_pos h]
theorem badD_le (s : ByteArray) : ∀ (n i k : Nat), s.size - i ≤ n → badD s i = some k → k ≤ s.size
 | 0, i, k, hn, h => by rw [badD, dif_neg (by omega)] at h; cases h
 | n + 1, i, k, hn, h => by
  rw [badD] at h
  split at h
  · split at h
    · exact badD_le s n (i + 1) k (by omega) h
    · cases h; omega
  · cases h
theorem lexD_cases (s : ByteArray) : ((jH s).2.1 = 1 ∨ (jH s).2.1 = 2) ∧ (jH s).2.2 ≤ 4000 ∨ ((jH s).2.1 ≠ 1 ∧ (jH s).2.1 ≠ 2) ∧ SrcOk (qA s) := by
 by_cases hbig : 4000 < s.size
 · rw [lexD_long hbig];exact .inl ⟨.inl rfl, by decide⟩
 · have e : jH s = match badD s 0 with | some i => ([], (2, i)) | none => qc s 0 [] := by unfold jH; rw [if_neg hbig]; rfl
   cases hb : badD s 0 with
   | some i =>
    rw [hb] at e;rw [e];exact .inl ⟨.inr rfl, by have := badD_le s _ 0 i (Nat.le_refl _) hb; show i ≤ _; omega⟩
   | none =>
    rw [hb] at e;have e2 : jH s = qc s 0 [] := e;obtain ⟨h1, h2, h3⟩ := toksD_ok s (by omega) s.size 0 [] (by omega) (Nat.zero_le _) (Nat.zero_le _) (fun t h => by cases h);rw [← e2] at h1 h2 h3;refine .inr ⟨?_, ?_⟩
    · rcases h3 with h | ⟨h, -⟩
      · rw [h.1]; decide
      · rw [h]; decide
    · refine ⟨by show (jH s).1.length ≤ _; omega, fun t ht => ⟨(h2 t ht).k, (h2 t ht).a, (h2 t ht).q, (h2 t ht).s⟩, ?_, ?_, fun t ht => (h2 t ht).word, fun t ht => (h2 t ht).sign, fun t ht => (h2 t ht).upper, fun h0 => ?_⟩
      · show (jH s).2.1 ≤ 100
        rcases h3 with h | ⟨h, -⟩
        · rw [h.1]; decide
        · rw [h]; decide
      · show (jH s).2.2 ≤ 100000
        rcases h3 with h | ⟨h, -⟩
        · have := h.2; omega
        · rw [h]; decide
      · have h0' : (jH s).2.1 = 0 := h0;rcases h3 with h | ⟨h, m, hm⟩
        · rw [h.1] at h0'; cases h0'
        · show 0 < (jH s).1.length ∧ (qA s).K ((jH s).1.length - 1) = 0
          rw [hm];refine ⟨by simp, ?_⟩;unfold Src.K qA;rw [hm];simp
theorem qz (ws : List ByteArray) : rnd true ws = s_lp :: (ws ++ [s_rp]) := rfl
theorem rnd_f (ws : List ByteArray) : rnd false ws = ws := rfl
def tx (ws : List ByteArray) : ByteArray := ⟨(jb ws).toArray⟩
structure Wz (ws : List ByteArray) : Prop where
 ne : ∀ w ∈ ws, 0 < w.size
 le : jl ws ≤ 4000000000
theorem jb_two : ∀ (xs ys : List ByteArray), xs ≠ [] → ys ≠ [] → jb (xs ++ ys) = jb xs ++ 32 :: jb ys
 | [], _, h, _ => absurd rfl h
 | [w], y :: r, _, _ => rfl
 | w :: x :: r, ys, _, h => by
  have h2 := jb_two (x :: r) ys (by simp) h
  show w.data.toList ++ 32 :: jb (x :: (r ++ ys)) = (w.data.toList ++ 32 :: jb (x :: r)) ++ 32 :: jb ys
  rw [show x :: (r ++ ys) = (x :: r) ++ ys from rfl, h2]
  simp
theorem tx_size (ws : List ByteArray) : (tx ws).size = (jb ws).length := by unfold tx; rfl
theorem Wz.size {ws : List ByteArray} (h : Wz ws) : (tx ws).size ≤ 4000000000 := by rw [tx_size]; have := jb_len ws; have := h.le; omega
theorem Wz.left {xs ys : List ByteArray} (h : Wz (xs ++ ys)) : Wz xs := ⟨fun w hw => h.ne w (List.mem_append_left _ hw), by have := h.le; rw [jL] at this; omega⟩
theorem Wz.right {xs ys : List ByteArray} (h : Wz (xs ++ ys)) : Wz ys := ⟨fun w hw => h.ne w (List.mem_append_right _ hw), by have := h.le; rw [jL] at this; omega⟩
theorem tx_nil : tx [] = ⟨#[]⟩ := rfl
theorem ya (w : ByteArray) : tx [w] = w := by show (⟨w.data.toList.toArray⟩ : ByteArray) = w; simp
theorem jb_pos {ws : List ByteArray} (h : ∀ w ∈ ws, 0 < w.size) (h0 : ws ≠ []) : jb ws ≠ [] := by
 cases ws with
 | nil => exact absurd rfl h0
 | cons w r =>
  have h1 : w.data.toList ≠ [] := fun e => by
   have h2 := h w (by simp);rw [← ba_len, e] at h2;simp at h2
  cases r with
  | nil => exact h1
  | cons x r => simp [jb]
theorem tx_list (ws : List ByteArray) : (tx ws).toList = jb ws := by unfold tx; simp [ByteArray.toList_eq]
theorem tx_two {xs ys : List ByteArray} (hx : xs ≠ []) (hy : ys ≠ []) : tx xs ++ ⟨#[32]⟩ ++ tx ys = tx (xs ++ ys) := by
 unfold tx;rw [jb_two xs ys hx hy];apply ByteArray.ext
 simp [ByteArray.data_append]
theorem wput_any (xs ys : List ByteArray) (hx : Wz xs) (hy : Wz ys) (w : World) : Calls Tryz.prog 25 #[.string (tx xs), .string (tx ys)] w fun e w' => e = .returned (.string (tx (xs ++ ys))) ∧ w' = w := by
 have hsx := hx.size;have hsy := hy.size
 by_cases hx0 : xs = []
 · subst hx0;have e1 : ((tx []).toList == []) = true := (by rw [tx_list]; rfl);have e2 : tx [] ++ tx ys = tx ys := (by rw [tx_nil]; apply ByteArray.ext; simp [ByteArray.data_append]);have e3 : (tx [] ++ tx ys).size = (tx ys).size := (by rw [e2]);rw [List.nil_append];have E2 := lh e2;generalize tx [] = A at *
   generalize tx ys = B at *
   have hz : A.size + B.size ≤ 8000000000 := (by omega);clear hx hy e2 e3;go_enter Tryz.func25, Tryz.ntmps25
   go_wp2_with fail
   go_ret
   exact ⟨by rw [E2.out]; rfl, rfl⟩
 have e1 : ((tx xs).toList == []) = false := by rw [tx_list]; have := jb_pos hx.ne hx0; simpa using this
 by_cases hy0 : ys = []
 · subst hy0;have e4 : ((tx []).toList == []) = true := (by rw [tx_list]; rfl);have e2 : tx xs ++ tx [] = tx xs := (by rw [tx_nil]; apply ByteArray.ext; simp [ByteArray.data_append]);rw [List.append_nil];have E2 := lh e2;generalize tx [] = B at *
   generalize tx xs = A at *
   have hz : A.size + B.size ≤ 8000000000 := (by omega);clear hx hy e2;go_enter Tryz.func25, Tryz.ntmps25
   go_wp2_with fail
   go_ret
   exact ⟨by rw [E2.out]; rfl, rfl⟩
 have e4 : ((tx ys).toList == []) = false := by rw [tx_list]; have := jb_pos hy.ne hy0; simpa using this
 have E2 := lh (tx_two hx0 hy0);generalize tx (xs ++ ys) = C at *
 generalize tx ys = B at *
 generalize tx xs = A at *
 have hz : A.size + 1 + B.size ≤ 8000000001 := by omega
 clear hx hy hx0 hy0;go_enter Tryz.func25, Tryz.ntmps25
 go_wp2_with fail
 go_ret
 exact ⟨by rw [E2.out]; rfl, rfl⟩
theorem sz_lit (l : List UInt8) : (ByteArray.mk l.toArray).size = l.length := rfl
theorem Wz.nil : Wz [] := ⟨(fun w h => by cases h), (by simp [jl])⟩
class IsTx (a : ByteArray) (ws : outParam (List ByteArray)) : Prop where
 eq : a = tx ws
instance (priority := low) isTxOne (s : ByteArray) : IsTx s [s] := ⟨(ya s).symm⟩
instance isTxNil : IsTx ⟨#[]⟩ [] := ⟨rfl⟩
instance (priority := high) isTxTx (ws : List ByteArray) : IsTx (tx ws) ws := ⟨rfl⟩
structure Pt (xs ts : List ByteArray) : Prop where
 m : ∀ w ∈ xs, w ∈ ts
 l : jl xs ≤ jl ts
theorem Wz.pt {xs ts : List ByteArray} (h : Wz ts) (p : Pt xs ts) : Wz xs := ⟨fun w hw => h.ne w (p.m w hw), Nat.le_trans p.l h.le⟩
theorem kl {a b : ByteArray} {xs ys ts : List ByteArray} {w : World} {R : Ending → World → Prop} (HW : Hid (Wz ts)) [ha : IsTx a xs] [hb : IsTx b ys] (k : R (.returned (.string (tx (xs ++ ys)))) w)
 (hp : Pt (xs ++ ys) ts := by exact ⟨(by intro w hw; (try simp only [qz, rnd_f] at hw ⊢); grind), (by (try simp only [jl, jL, qz, rnd_f, sz_lit, List.length_cons, List.length_nil]) <;> omega)⟩) : Calls Tryz.prog 25 #[.string a, .string b] w R := by
 have h := HW.out.pt hp;rw [ha.eq, hb.eq];exact (wput_any xs ys h.left h.right w).mono (by rintro e w' ⟨rfl, rfl⟩; exact k)
theorem wround_any (b : Bool) (ws : List ByteArray) (h : Wz (rnd b ws)) (w : World) : Calls Tryz.prog 61 #[.bool b, .string (tx ws)] w fun e w' => e = .returned (.string (tx (rnd b ws))) ∧ w' = w := by
 have HW := lh h;clear h
 cases b with
 | false =>
  go_enter Tryz.func61, Tryz.ntmps61
  go_wp2_with fail
  go_ret
  exact ⟨rfl, rfl⟩
 | true =>
  go_enter Tryz.func61, Tryz.ntmps61
  go_wp2_with (go_at_call 25; refine kl HW ?_)
  go_ret
  exact ⟨rfl, rfl⟩
theorem vH {a : ByteArray} {b : Bool} {xs ts : List ByteArray} {w : World} {R : Ending → World → Prop} (HW : Hid (Wz ts)) [ha : IsTx a xs] (k : R (.returned (.string (tx (rnd b xs)))) w)
 (hp : Pt (rnd b xs) ts := by exact ⟨(by intro w hw; (try simp only [qz, rnd_f] at hw ⊢); grind), (by (try simp only [jl, jL, qz, rnd_f, sz_lit, List.length_cons, List.length_nil]) <;> omega)⟩) : Calls Tryz.prog 61 #[.bool b, .string a] w R := by
 rw [ha.eq];exact (wround_any b xs (HW.out.pt hp) w).mono (by rintro e w' ⟨rfl, rfl⟩; exact k)
abbrev tens : ByteArray := ⟨#[48, 49, 50, 51, 52, 53, 54, 55, 56, 57]⟩
theorem tens_at (n : Nat) (h : n < 10) : tens.extract n (n + 1) = ⟨#[UInt8.ofNat (48 + n)]⟩ := by
 have : ∀ n : Fin 10, tens.extract n (n + 1) = ⟨#[UInt8.ofNat (48 + n)]⟩ := by decide +kernel
 exact this ⟨n, h⟩
theorem dgW_lt {n : Nat} (h : n < 10) : dgW n = ⟨#[UInt8.ofNat (48 + n)]⟩ := by unfold dgW; rw [dgL, dif_pos h]
theorem dgW_ge {n : Nat} (h : ¬ n < 10) : dgW n = dgW (n / 10) ++ ⟨#[UInt8.ofNat (48 + n % 10)]⟩ := by
 unfold dgW;rw [dgL, dif_neg h];apply ByteArray.ext
 simp [ByteArray.data_append]
theorem wdig_any : ∀ (n : Nat), n ≤ 1000000000 → ∀ w : World, Calls Tryz.prog 113 #[.int .i64 n] w fun e w' => e = .returned (.string (dgW n)) ∧ Below w.heap.size w w' := by
 intro n
 induction n using Nat.strongRecOn with
 | _ n ih =>
  intro hn w
  by_cases h9 : n < 10
  · have hd : decide ((n : Int) < 10) = true := (by simp; omega);have b0 : (0 : Int) ≤ (n : Int) := (by omega);have b1 : (n : Int) + 1 ≤ 10 := (by omega);have e1 := tens_at n h9;rw [← dgW_lt h9] at e1;have E1 := lh e1;clear ih e1 h9;go_enter Tryz.func113, Tryz.ntmps113
    go_wp2_with fail
    go_ret
    exact ⟨by rw [← E1.out]; rfl, Below.refl _ _⟩
  · have hd : decide ((n : Int) < 10) = false := (by simp; omega);have H1 := lh (ih (n / 10) (by omega) (by omega));obtain ⟨m, hm⟩ : ∃ m, m = n % 10 := ⟨_, rfl⟩
    obtain ⟨q, hq⟩ : ∃ q, q = n / 10 := ⟨_, rfl⟩
    have e0 : Int.tdiv (n : Int) 10 = (q : Int) := (by subst hq; rfl);have e1 : Int.tmod (n : Int) 10 = (m : Int) := (by subst hm; rfl);have h10 : m < 10 := (by omega);have e2 := tens_at m h10;have e3 := dgW_ge h9;rw [← hq] at H1 e3;rw [← hm] at e3;have z1 := dgW_le (n := q) (by omega);have b0 : (0 : Int) ≤ (m : Int) := (by omega);have b1 : (m : Int) + 1 ≤ 10 := (by omega);have hw1 : IntKind.i64.wrap (q : Int) = q := IntWalk.i64_in _ (by omega);have hw2 : IntKind.i64.wrap ((m : Int) + 1) = m + 1 := IntWalk.i64_in _ (by omega)
    have hsl : ∀ w' : World, (Instr.slice 9 (.string tens) (some (.int .i64 (m : Int))) (some (.int .i64 ((m : Int) + 1))) none).run Tryz.prog w' = .ok (.string (tens.extract m (m + 1))) w' := fun w' => by
     simp [Instr.slice, go_sem, b0, b1]
     intro h; omega
    have z2 : (tens.extract m (m + 1)).size = 1 := (by rw [e2]; rfl);have hadd : ∀ w' : World, (Op.stringOp .add (dgW q) (tens.extract m (m + 1))).run Tryz.prog w' = .ok (.string (dgW q ++ tens.extract m (m + 1))) w' := fun w' => run_string_add_sum w' _ _ (by rw [z2]; omega)
    have E2 := lh e2;have E3 := lh e3;clear ih e2 e3 h9 hm hq;go_enter Tryz.func113, Tryz.ntmps113
    go_upto_region 3 with fail
    go_region_held3 (fun _ => True) (first | exact trivial) (first | (go_at_call 113; refine (H1.out _).mono ?_; rintro e w1 ⟨rfl, hb⟩; have HB := lh hb; clear hb))
    go_wp2_with fail
    go_ret
    exact ⟨by rw [E3.out, E2.out]; rfl, (show Below w.heap.size w w.drew from bdrewN (Below.refl _ _) 1).trans HB.out⟩
def pthL (l : List UInt8) : List UInt8 := l.flatMap fun c => if c = 46 then [32, 46, 32] else [c]
theorem pthL_no : ∀ {l : List UInt8}, (46 : UInt8) ∉ l → pthL l = l
 | [], _ => rfl
 | c :: l, h => by
  have h1 : c ≠ 46 := fun e => h (by simp [e])
  have h2 := pthL_no (l := l) fun e => h (List.mem_cons_of_mem _ e)
  unfold pthL at *
  rw [List.flatMap_cons, if_neg h1, h2]; rfl
theorem pthL_path {k : Nat} {s : ByteArray} {ws : List ByteArray} (h : PathW k s ws) : pthL s.data.toList = jb ws := by
 induction h with
 | low h => exact pthL_no (nm_no h).1
 | up h => exact pthL_no (nm_no h).1
 | @more k s t ws h hp ih =>
  obtain ⟨x, r, rfl⟩ := pathW_cons hp;have e : (s ++ s_dot ++ t).data.toList = s.data.toList ++ 46 :: t.data.toList := by simp [ByteArray.data_append]
  have h1 := pthL_no (nm_no h).1;unfold pthL at *
  rw [e, List.flatMap_append, h1, List.flatMap_cons, ih];simp [jb]
structure PathR (s : ByteArray) (ws : List ByteArray) : Prop where
 e : pthL s.data.toList = jb ws
 l : s.size ≤ 4000000000
theorem PathT.r {s : ByteArray} {ws : List ByteArray} (h : PathT s ws) (hw : Wz ws) : PathR s ws := by
 refine ⟨?_, by have := h.len; have := hw.le; omega⟩;rcases h with ⟨k, h⟩ | ⟨rfl | rfl, rfl⟩
 · exact pthL_path h
 · decide +kernel
 · decide +kernel
theorem Nm.r {k : Nat} {s : ByteArray} (h : Nm k s) (hw : Wz [s]) : PathR s [s] := ⟨pthL_no (nm_no h).1, by have := hw.le; simp only [jl] at this; omega⟩
theorem pthL_step (s : ByteArray) (i : Nat) (h : i < s.size) : pthL (s.data.toList.take (i + 1)) = pthL (s.data.toList.take i) ++ if bt s i = 46 then [32, 46, 32] else [UInt8.ofNat (bt s i)] := by
 have hl : i < s.data.toList.length := by rw [ba_len]; exact h
 have hb : s.data.toList[i] = UInt8.ofNat (bt s i) := by unfold bt; simp [List.getD, List.getElem?_eq_getElem hl]
 rw [List.take_succ_eq_append_getElem hl, hb];unfold pthL;rw [List.flatMap_append, List.flatMap_cons, List.flatMap_nil, List.append_nil]
 congr 1
 by_cases h9 : bt s i = 46
 · rw [if_pos h9, if_pos (by rw [h9]; rfl)]
 · rw [if_neg h9, if_neg fun e => h9 (by have := congrArg UInt8.toNat e; simp at this; have := bt_lt s i; omega)]
theorem wpath_any (s : ByteArray) (ws : List ByteArray) (h : PathR s ws) (w : World) : Calls Tryz.prog 115 #[.string s] w fun e w' => e = .returned (.string (tx ws)) ∧ w' = w := by
 have HE : Hid (tx ws = ⟨(pthL s.data.toList).toArray⟩) := lh (by unfold tx; rw [h.e]);have hl := h.l;clear h;go_enter Tryz.func115, Tryz.ntmps115
 go_wp2_with fail
 go_loop [3, 4] (fun v i => ∃ (k : Nat) (o : ByteArray), k ≤ s.size ∧ i = .int .i64 k ∧ v = .string o ∧ Hid (o = ⟨(pthL (s.data.toList.take k)).toArray⟩) ∧ o.size ≤ 3 * k) (fun _ i => s.size - (intOf i).toNat)
 case atStart => exact ⟨0, ⟨#[]⟩, Nat.zero_le _, rfl, rfl, lh rfl, Nat.le_refl 0⟩
 case round =>
  obtain ⟨k, o, hk, rfl, rfl, HO, ho⟩ := hrel
  by_cases hlt : k < s.size
  · have hd : decide ((k : Int) < (s.size : Int)) = true := (by simp; omega);have k0 : (0 : Int) ≤ (k : Int) := (by omega);have k1 : (k : Int) < (s.size : Int) := (by omega);have k2 : (k : Int) + 1 ≤ (s.size : Int) := (by omega);obtain ⟨c, hcb⟩ : ∃ c, c = bt s k := ⟨_, rfl⟩
    have hck := qo hlt hcb
    have hex : s.extract k (k + 1) = ⟨#[UInt8.ofNat c]⟩ := by
     rw [hcb];apply ByteArray.ext
     apply Array.toList_inj.1
     have h1 := bt_drop s k hlt;rw [ByteArray.data_extract, Array.toList_extract];simp [List.extract, h1]
    have hst := pthL_step s k hlt;rw [← hcb, ← show o.data.toList = pthL (s.data.toList.take k) by rw [HO.out]] at hst;have HST := lh hst;have HEX := lh hex;have hz1 : (s.extract k (k + 1)).size = 1 := (by rw [hex]; rfl);clear hst hex hcb
    by_cases h46 : c = 46
    · have e1 : ((c : Int) == 46) = true := (by simp [h46]);go_wp2_with fail
      go_round
      case rel => exact ⟨k + 1, _, by omega, by go_num, rfl, lh (by rw [HST.out, if_pos h46]; apply ByteArray.ext; simp [ByteArray.data_append]), by rw [ByteArray.size_append]; show o.size + 3 ≤ _; omega⟩
      case measure => simp [intOf]; omega
    · have e1 : ((c : Int) == 46) = false := (by simp; omega);go_wp2_with fail
      go_round
      case rel => exact ⟨k + 1, _, by omega, by go_num, rfl, lh (by rw [HST.out, if_neg h46, HEX.out]; apply ByteArray.ext; apply Array.toList_inj.1; simp [ByteArray.data_append]), by rw [ByteArray.size_append, hz1]; omega⟩
      case measure => simp [intOf]; omega
  · have hd : decide ((k : Int) < (s.size : Int)) = false := (by simp; omega);go_wp2_with fail
    go_ret
    exact ⟨by rw [HE.out, HO.out, List.take_of_length_le (by rw [ba_len]; omega)]; rfl, rfl⟩
theorem jU {w : World} {b : Nat} {v0 v1 v2 v3 : Value} (h : w.heap[b]? = some (.cells #[v0, v1, v2, v3] 59 (0, 0))) : w.cell? ⟨b, 0, none⟩ = some v0 ∧ w.cell? ⟨b, 1, none⟩ = some v1 ∧ w.cell? ⟨b, 2, none⟩ = some v2 ∧ w.cell? ⟨b, 3, none⟩ = some v3 :=
 ⟨ja h 0, ja h 1, ja h 2, ja h 3⟩
def slipV (k a : Nat) : List PanicEntry := [{ v := .iface 65 (.agg #[.int .i64 (k : Int), .int .i64 (a : Int)]), recovered := false }]
theorem failD_eq {α : Type} (P : Src) (k i : Nat) : ∃ x y, (jE P k i : Res α) = .bad x y ∧ ((P.K i = -1 ∧ x = P.fk ∧ y = P.fa) ∨ (P.K i ≠ -1 ∧ x = k ∧ y = P.A i)) := by
 unfold jE;split
 · exact ⟨_, _, rfl, .inl ⟨by assumption, rfl, rfl⟩⟩
 · exact ⟨_, _, rfl, .inr ⟨by assumption, rfl, rfl⟩⟩
theorem fail_any (E : Env) (w : World) (i d k : Nat) (h : Rd E w i d) : Calls Tryz.prog 36 #[pr E, .int .i64 (k : Int)] w fun e w' => (∃ x y, (jE E.P k i : Res Unit) = .bad x y ∧ e = .panicked (slipV x y)) ∧ Below w.heap.size w w' := by
 have HNOW := lh (now_any E w i d h);have H := lh h;obtain ⟨x, y, hf, hc⟩ := failD_eq (α := Unit) E.P k i;have HF := lh hf;unfold qb at HNOW;unfold pr at HNOW ⊢;clear h hf;go_enter Tryz.func36, Tryz.ntmps36
 go_upto_region 1 with (first | (go_at_call 35; refine HNOW.out.mono ?_; rintro e w1 ⟨rfl, hb1⟩; have HB1 := lh hb1; clear hb1))
 obtain ⟨W, hW⟩ : ∃ W, W = w1.alloc (.cells #[.int .i64 (E.P.K i), .int .i64 (E.P.A i : Int), .string (E.P.T i), .int .i64 (E.P.N i : Int)] 59) := ⟨_, rfl⟩
 have hbW : Below w.heap.size w W := by rw [hW]; exact jk HB1.out _
 have hrW : W.heap[w1.heap.size]? = some (.cells #[.int .i64 (E.P.K i), .int .i64 (E.P.A i : Int), .string (E.P.T i), .int .i64 (E.P.N i : Int)] 59 (0, 0)) := by rw [hW]; exact heap_alloc_new w1 _
 rw [← hW];obtain ⟨c0, c1, c2, c3⟩ := jU hrW;obtain ⟨⟨r0, r1, r2, r3, r4⟩, -⟩ := (H.out.keep hbW).cells;replace r3 : W.cell? ⟨E.rb, 2 + 1, none⟩ = some (.int .i64 (E.P.fa : Int)) := r3;have HBW := lh hbW;clear hW hbW hrW;rcases hc with ⟨hk, rfl, rfl⟩ | ⟨hk, rfl, rfl⟩
 · have e1 : (E.P.K i == -1) = true := (by simp [hk]);go_wp2_with fail
   exact ⟨rfl, ⟨_, _, HF.out, rfl⟩, HBW.out⟩
 · have e1 : (E.P.K i == -1) = false := (by simp [hk]);go_wp2_with fail
   exact ⟨rfl, ⟨_, _, HF.out, rfl⟩, HBW.out⟩
theorem ba_eq {a b : ByteArray} : a.toList = b.toList ↔ a = b := by
 constructor
 · intro h;have h2 : a.data.toList = b.data.toList := by rw [← ByteArray.toList_eq, ← ByteArray.toList_eq]; exact h
   cases a; cases b
   simp only [ByteArray.mk.injEq];exact Array.ext' h2
 · intro h; rw [h]
theorem isD_at {P : Src} {s : ByteArray} {i : Nat} (h : isD P s i = true) : (P.K i = 6 ∨ P.K i = 7) ∧ P.T i = s := by
 unfold isD at h
 simpa using h
theorem K_lt {P : Src} {i : Nat} (h : P.K i ≠ -1) : i < P.toks.length := by
 by_cases hi : i < P.toks.length
 · exact hi
 · exact absurd (Src.out' hi).1 h
theorem isD_lt {P : Src} {s : ByteArray} {i : Nat} (h : isD P s i = true) : i < P.toks.length := K_lt (by have := (isD_at h).1; omega)
theorem qs {w w1 W : World} {v0 v1 v2 v3 : Value} (hW : W = w1.alloc (.cells #[v0, v1, v2, v3] 59)) (hb : Below w.heap.size w w1) : Below w.heap.size w W ∧ W.heap[w1.heap.size]? = some (.cells #[v0, v1, v2, v3] 59 (0, 0)) := by
 rw [hW];exact ⟨jk hb _, heap_alloc_new w1 _⟩
theorem is_any (E : Env) (w : World) (i d : Nat) (s : ByteArray) (h : Rd E w i d) : Calls Tryz.prog 73 #[pr E, .string s] w fun e w' => e = .returned (.bool (isD E.P s i)) ∧ Below w.heap.size w w' := by
 have HNOW := lh (now_any E w i d h);have H := lh h;obtain ⟨b, hb⟩ : ∃ b, b = isD E.P s i := ⟨_, rfl⟩
 rw [← hb];have HB := lh hb;unfold qb at HNOW;unfold pr at HNOW ⊢;clear h hb;go_enter Tryz.func73, Tryz.ntmps73
 go_upto_region 2 with (first | (go_at_call 35; refine HNOW.out.mono ?_; rintro e w1 ⟨rfl, hb1⟩; have HB1 := lh hb1; clear hb1))
 obtain ⟨W, hW⟩ : ∃ W, W = w1.alloc (.cells #[.int .i64 (E.P.K i), .int .i64 (E.P.A i : Int), .string (E.P.T i), .int .i64 (E.P.N i : Int)] 59) := ⟨_, rfl⟩
 obtain ⟨hbW, hrW⟩ := qs hW HB1.out;rw [← hW];obtain ⟨c0, c1, c2, c3⟩ := jU hrW;have HBW := lh hbW;clear hW hbW hrW
 by_cases hT : (E.P.T i).toList = s.toList
 · have HT : Hid (E.P.T i = s) := lh (ba_eq.1 hT)
   by_cases h7 : E.P.K i = 7
   · have e7 : (E.P.K i == 7) = true := (by simp [h7]);have HK := lh h7;clear h7;go_wp2_with fail
     go_ret
     exact ⟨by rw [HB.out]; simp [isD, HK.out, HT.out], HBW.out⟩
   · have e7 : (E.P.K i == 7) = false := by simp [h7]
     by_cases h6 : E.P.K i = 6
     · have e6 : (E.P.K i == 6) = true := (by simp [h6]);have HK := lh h6;clear h7 h6;go_wp2_with fail
       go_ret
       exact ⟨by rw [HB.out]; simp [isD, HK.out, HT.out], HBW.out⟩
     · have e6 : (E.P.K i == 6) = false := (by simp [h6]);have HK := lh h6;have HK7 := lh h7;clear h7 h6;go_wp2_with fail
       go_ret
       exact ⟨by rw [HB.out]; simp [isD, HK.out, HK7.out], HBW.out⟩
 · have HT : Hid (¬ E.P.T i = s) := lh (fun e => hT (ba_eq.2 e));have hb9 : b = false := (by rw [HB.out]; simp [isD, HT.out]);have HB9 := lh hb9;clear hb9
   by_cases h7 : E.P.K i = 7
   · have e7 : (E.P.K i == 7) = true := (by simp [h7]);clear h7;go_wp2_with fail
     go_ret
     exact ⟨by rw [HB9.out]; first | rfl | simp [hT], HBW.out⟩
   · have e7 : (E.P.K i == 7) = false := by simp [h7]
     by_cases h6 : E.P.K i = 6
     · have e6 : (E.P.K i == 6) = true := (by simp [h6]);clear h7 h6;go_wp2_with fail
       go_ret
       exact ⟨by rw [HB9.out]; first | rfl | simp [hT], HBW.out⟩
     · have e6 : (E.P.K i == 6) = false := (by simp [h6]);clear h7 h6;go_wp2_with fail
       go_ret
       exact ⟨by rw [HB9.out]; first | rfl | simp [hT], HBW.out⟩
theorem Rd.seti {E : Env} {w : World} {i d : Nat} (h : Rd E w i d) {j : Nat} (hj : j ≤ E.P.toks.length) : Rd E (w.setCell ⟨E.rb, 1, none⟩ (.int .i64 (j : Int))) j d := by
 refine ⟨jy h.row 1 _, fun k hk => ?_, ⟨h.low.1, ?_⟩, h.ok, hj, h.d60, h.gl.of (fun k => World.cell?_of_block (a := ⟨0, k, none⟩) (jg rfl (by have := h.g2; show 0 ≠ E.rb; omega) 1 _)) (fun k => World.cell?_of_block (a := ⟨2, k, none⟩) (jg rfl (by have := h.g2; show 2 ≠ E.rb; omega) 1 _)), h.g2⟩
 · obtain ⟨b, off, h1, h2, h3, h4⟩ := h.tk k hk;exact ⟨b, off, h1, h2, h3, fun j hj => (World.cell?_of_block (a := ⟨b, _, none⟩) (jg rfl h2 1 _)).trans (h4 j hj)⟩
 · rw [World.size_setCell]; exact h.low.2
theorem Rd.setd {E : Env} {w : World} {i d : Nat} (h : Rd E w i d) {d' : Nat} (hd : d' ≤ 60) : Rd E (w.setCell ⟨E.rb, 4, none⟩ (.int .i64 (d' : Int))) i d' := by
 refine ⟨jy h.row 4 _, fun k hk => ?_, ⟨h.low.1, ?_⟩, h.ok, h.le, hd, h.gl.of (fun k => World.cell?_of_block (a := ⟨0, k, none⟩) (jg rfl (by have := h.g2; show 0 ≠ E.rb; omega) 4 _)) (fun k => World.cell?_of_block (a := ⟨2, k, none⟩) (jg rfl (by have := h.g2; show 2 ≠ E.rb; omega) 4 _)), h.g2⟩
 · obtain ⟨b, off, h1, h2, h3, h4⟩ := h.tk k hk;exact ⟨b, off, h1, h2, h3, fun j hj => (World.cell?_of_block (a := ⟨b, _, none⟩) (jg rfl h2 4 _)).trans (h4 j hj)⟩
 · rw [World.size_setCell]; exact h.low.2
theorem eat_any (E : Env) (w : World) (i d : Nat) (s : ByteArray) (h : Rd E w i d) : Calls Tryz.prog 38 #[pr E, .string s] w fun e w' => e = .returned (.bool (isD E.P s i)) ∧ Rd E w' (if isD E.P s i = true then i + 1 else i) d ∧ w.grownBy w' (some E.rb) := by
 have HIS := lh (is_any E w i d s h);have H := lh h;have hi9 : i ≤ 100000 := Nat.le_trans h.le h.ok.len;have HLT := lh (fun hb => isD_lt (P := E.P) (s := s) (i := i) hb);obtain ⟨b, hb⟩ : ∃ b, b = isD E.P s i := ⟨_, rfl⟩
 rw [← hb] at HIS HLT ⊢;unfold pr at HIS ⊢;clear h hb;go_enter Tryz.func38, Tryz.ntmps38
 cases b with
 | true =>
  have hlt := HLT.out rfl;go_upto_region 2 with (first | (go_at_call 73; refine HIS.out.mono ?_; rintro e w1 ⟨rfl, hb1⟩; have HB1 := lh hb1; obtain ⟨⟨r0, r1, r2, r3, r4⟩, ⟨z0, z1, z2, z3, z4⟩⟩ := (H.out.keep hb1).cells; clear hb1))
  go_wp2_with fail
  go_ret
  have hr := (H.out.keep HB1.out).seti (j := i + 1) (by omega);exact ⟨rfl, by simpa using hr, jr (ji HB1.out _) (jX _ _ _ _)⟩
 | false =>
  go_wp2_with (first | (go_at_call 73; refine HIS.out.mono ?_; rintro e w1 ⟨rfl, hb1⟩; have HB1 := lh hb1; clear hb1))
  go_ret
  exact ⟨rfl, by simpa using H.out.keep HB1.out, ji HB1.out _⟩
def PPost {α : Type} (E : Env) (d : Nat) (w : World) (T : Res α) (Q : α → Value → World → Prop) (e : Ending) (w' : World) : Prop :=
 w.grownBy w' (some E.rb) ∧ ((∃ x j v, T = .ok x j ∧ e = .returned v ∧ Q x v w' ∧ Rd E w' j d) ∨ (∃ k a, T = .bad k a ∧ e = .panicked (slipV k a) ∧ ∃ i', Rd E w' i' d))
theorem PPost.ok {α : Type} {E : Env} {d : Nat} {w w' : World} {T : Res α} {Q : α → Value → World → Prop} {x : α} {j : Nat} {v : Value} (hg : w.grownBy w' (some E.rb)) (hT : T = .ok x j) (hQ : Q x v w') (hr : Rd E w' j d) : PPost E d w T Q (.returned v) w' := ⟨hg, .inl ⟨x, j, v, hT, rfl, hQ, hr⟩⟩
theorem PPost.bad {α : Type} {E : Env} {d i' : Nat} {w w' : World} {T : Res α} {Q : α → Value → World → Prop} {k a : Nat} (hg : w.grownBy w' (some E.rb)) (hT : T = .bad k a) (hr : Rd E w' i' d) : PPost E d w T Q (.panicked (slipV k a)) w' := ⟨hg, .inr ⟨k, a, hT, rfl, _, hr⟩⟩
theorem must_any (E : Env) (w : World) (i d : Nat) (s : ByteArray) (h : Rd E w i d) : Calls Tryz.prog 40 #[pr E, .string s] w (PPost E d w (jm E.P s i) fun _ _ _ => True) := by
 have HE := lh (eat_any E w i d s h);obtain ⟨T, hT⟩ : ∃ T, T = jm E.P s i := ⟨_, rfl⟩
 rw [← hT];have hT2 : T = if isD E.P s i then .ok () (i + 1) else jE E.P 4 i := hT;have HT := lh hT2;have HFA : Hid (∀ w1, Rd E w1 i d → Calls Tryz.prog 36 #[pr E, .int .i64 4] w1 fun e w' => (∃ x y, (jE E.P 4 i : Res Unit) = .bad x y ∧ e = .panicked (slipV x y)) ∧ Below w1.heap.size w1 w') := lh (fun w1 h1 => fail_any E w1 i d 4 h1);obtain ⟨b, hb⟩ : ∃ b, b = isD E.P s i := ⟨_, rfl⟩
 rw [← hb] at HE HT;unfold pr at HE HFA ⊢;clear h hT hT2 hb;go_enter Tryz.func40, Tryz.ntmps40
 cases b with
 | true =>
  go_wp2_with (first | (go_at_call 38; refine HE.out.mono ?_; rintro e w1 ⟨rfl, hr1, hg1⟩; have HR1 := lh hr1; have HG1 := lh hg1; clear hr1 hg1))
  have hr : Rd E w1 (i + 1) d := by simpa using HR1.out
  have ht : T = .ok () (i + 1) := by simpa using HT.out
  first | go_end0 | refine bodyPost_ret (results_none rfl _ _ _) rfl ?_
  exact PPost.ok HG1.out ht trivial hr
 | false =>
  go_wp2_with (first | (go_at_call 38; refine HE.out.mono ?_; rintro e w1 ⟨rfl, hr1, hg1⟩; have HR1 : Hid (Rd E w1 i d) := lh (by simpa using hr1); have HG1 := lh hg1; clear hr1 hg1) | (go_at_call 36; refine (HFA.out w1 HR1.out).mono ?_; rintro e w2 ⟨⟨x, y, hx, rfl⟩, hb2⟩; have HX := lh hx; have HB2 := lh hb2; clear hx hb2))
  have ht : T = jE E.P 4 i := by simpa using HT.out
  rw [HX.out] at ht;exact ⟨rfl, PPost.bad (jr HG1.out (ji HB2.out _)) ht (HR1.out.keep HB2.out)⟩
end Go.Proofs.YthehjeeiodbkjaaGreatDoor
