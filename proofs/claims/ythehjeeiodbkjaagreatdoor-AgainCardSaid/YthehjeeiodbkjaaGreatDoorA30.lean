/-
  Proved: the grammar is the same one level higher; without a fun whose body has a type, it needs no level more; with one, it needs some; the contract of the law's typed. Conditions: the tree fits, as trees that are read do.
-/
import Derived.Test.YthehjeeiodbkjaaGreatDoorA01
import Derived.Test.YthehjeeiodbkjaaGreatDoorA29
import Derived.Test.YthehjeeiodbkjaaGreatDoorA22
set_option linter.unusedSimpArgs false
set_option linter.unusedVariables false
set_option maxRecDepth 100000
set_option maxHeartbeats 16000000
namespace Go.Proofs.YthehjeeiodbkjaaGreatDoor
open Go.RowKit
mutual
def typT : Ty → Bool
 | .mk k _ _ _ l => (decide (k = 36) && (match l.getLast? with | some m => decide (m.k = 19) | none => false)) || typL l
def typL : List Ty → Bool
 | [] => false
 | x :: r => typT x || typL r
end
theorem typL_app : ∀ (a b : List Ty), typL (a ++ b) = (typL a || typL b)
 | [], b => by simp [typL]
 | x :: a, b => by simp [typL, typL_app a b, Bool.or_assoc]
theorem typT_kids {k a : Int} {s : ByteArray} {q : Int} {l : List Ty} (h : typT (.mk k a s q l) = false) : typL l = false := by
 rw [typT] at h
 simp only [Bool.or_eq_false_iff] at h
 exact h.2
theorem typL_one {n : Ty} : typL [n] = typT n := by simp [typL]
theorem typL_mk {k a : Int} {s : ByteArray} {q : Int} {l : List Ty} (h : typL [.mk k a s q l] = false) : typL l = false := typT_kids (by rw [typL_one] at h; exact h)
theorem typL_cons {n : Ty} {l : List Ty} : typL (n :: l) = (typL [n] || typL l) := by simp [typL]
theorem DX.some {X : Prop} {c : Cat} {g : Nat} {l : List Ty} {ws : List ByteArray} (h : DX X c g l ws) : ∃ m, ∀ G, m ≤ G → DX False c G l ws := by
 induction h with
 | row1 h0 j0 => obtain ⟨m0, i0⟩ := j0; exact ⟨m0 + 0, fun G hG => .row1 (i0 _ (by omega))⟩
 | rowS h0 h1 j0 j1 => obtain ⟨m0, i0⟩ := j0; obtain ⟨m1, i1⟩ := j1; exact ⟨m0 + m1 + 0, fun G hG => .rowS (i0 _ (by omega)) (i1 _ (by omega))⟩
 | mnil  =>  exact ⟨0 + 0, fun G hG => .mnil ⟩
 | mcons h0 h1 j0 j1 => obtain ⟨m0, i0⟩ := j0; obtain ⟨m1, i1⟩ := j1; exact ⟨m0 + m1 + 0, fun G hG => .mcons (i0 _ (by omega)) (i1 _ (by omega))⟩
 | e_int h0 =>  exact ⟨0 + 0, fun G hG => .e_int h0⟩
 | e_str h0 =>  exact ⟨0 + 0, fun G hG => .e_str h0⟩
 | e_path h0 =>  exact ⟨0 + 0, fun G hG => .e_path h0⟩
 | e_tf h0 =>  exact ⟨0 + 0, fun G hG => .e_tf h0⟩
 | e_unit  =>  exact ⟨0 + 0, fun G hG => .e_unit ⟩
 | e_tup h0 j0 => obtain ⟨m0, i0⟩ := j0; exact ⟨m0 + 1, fun G hG => by obtain ⟨H, rfl⟩ : ∃ H, G = H + 1 := ⟨G - 1, by omega⟩; exact .e_tup (i0 _ (by omega))⟩
 | e_seq h0 j0 => obtain ⟨m0, i0⟩ := j0; exact ⟨m0 + 1, fun G hG => by obtain ⟨H, rfl⟩ : ∃ H, G = H + 1 := ⟨G - 1, by omega⟩; exact .e_seq (i0 _ (by omega))⟩
 | e_nil  =>  exact ⟨0 + 0, fun G hG => .e_nil ⟩
 | e_list h0 j0 => obtain ⟨m0, i0⟩ := j0; exact ⟨m0 + 1, fun G hG => by obtain ⟨H, rfl⟩ : ∃ H, G = H + 1 := ⟨G - 1, by omega⟩; exact .e_list (i0 _ (by omega))⟩
 | e_app h0 h1 j0 j1 => obtain ⟨m0, i0⟩ := j0; obtain ⟨m1, i1⟩ := j1; exact ⟨m0 + m1 + 0, fun G hG => .e_app (i0 _ (by omega)) (i1 _ (by omega))⟩
 | e_fn h0 h1 j0 j1 => obtain ⟨m0, i0⟩ := j0; obtain ⟨m1, i1⟩ := j1; exact ⟨m0 + m1 + 1, fun G hG => by obtain ⟨H, rfl⟩ : ∃ H, G = H + 1 := ⟨G - 1, by omega⟩; exact .e_fn (i0 _ (by omega)) (i1 _ (by omega))⟩
 | e_if h0 h1 h2 j0 j1 j2 => obtain ⟨m0, i0⟩ := j0; obtain ⟨m1, i1⟩ := j1; obtain ⟨m2, i2⟩ := j2; exact ⟨m0 + m1 + m2 + 1, fun G hG => by obtain ⟨H, rfl⟩ : ∃ H, G = H + 1 := ⟨G - 1, by omega⟩; exact .e_if (i0 _ (by omega)) (i1 _ (by omega)) (i2 _ (by omega))⟩
 | e_raise h0 j0 => obtain ⟨m0, i0⟩ := j0; exact ⟨m0 + 1, fun G hG => by obtain ⟨H, rfl⟩ : ∃ H, G = H + 1 := ⟨G - 1, by omega⟩; exact .e_raise (i0 _ (by omega))⟩
 | e_case h0 h1 j0 j1 => obtain ⟨m0, i0⟩ := j0; obtain ⟨m1, i1⟩ := j1; exact ⟨m0 + m1 + 1, fun G hG => by obtain ⟨H, rfl⟩ : ∃ H, G = H + 1 := ⟨G - 1, by omega⟩; exact .e_case (i0 _ (by omega)) (i1 _ (by omega))⟩
 | e_try h0 h1 j0 j1 => obtain ⟨m0, i0⟩ := j0; obtain ⟨m1, i1⟩ := j1; exact ⟨m0 + m1 + 1, fun G hG => by obtain ⟨H, rfl⟩ : ∃ H, G = H + 1 := ⟨G - 1, by omega⟩; exact .e_try (i0 _ (by omega)) (i1 _ (by omega))⟩
 | e_let h0 h1 j0 j1 => obtain ⟨m0, i0⟩ := j0; obtain ⟨m1, i1⟩ := j1; exact ⟨m0 + m1 + 1, fun G hG => by obtain ⟨H, rfl⟩ : ∃ H, G = H + 1 := ⟨G - 1, by omega⟩; exact .e_let (i0 _ (by omega)) (i1 _ (by omega))⟩
 | e_has h0 h1 j0 j1 => obtain ⟨m0, i0⟩ := j0; obtain ⟨m1, i1⟩ := j1; exact ⟨m0 + m1 + 1, fun G hG => by obtain ⟨H, rfl⟩ : ∃ H, G = H + 1 := ⟨G - 1, by omega⟩; exact .e_has (i0 _ (by omega)) (i1 _ (by omega))⟩
 | e_or h0 h1 j0 j1 => obtain ⟨m0, i0⟩ := j0; obtain ⟨m1, i1⟩ := j1; exact ⟨m0 + m1 + 0, fun G hG => .e_or (i0 _ (by omega)) (i1 _ (by omega))⟩
 | e_and h0 h1 j0 j1 => obtain ⟨m0, i0⟩ := j0; obtain ⟨m1, i1⟩ := j1; exact ⟨m0 + m1 + 0, fun G hG => .e_and (i0 _ (by omega)) (i1 _ (by omega))⟩
 | e_op h0 h1 h2 j1 j2 => obtain ⟨m1, i1⟩ := j1; obtain ⟨m2, i2⟩ := j2; exact ⟨m1 + m2 + 0, fun G hG => .e_op h0 (i1 _ (by omega)) (i2 _ (by omega))⟩
 | e_un h0 h1 j1 => obtain ⟨m1, i1⟩ := j1; exact ⟨m1 + 0, fun G hG => .e_un h0 (i1 _ (by omega))⟩
 | ex_np h0 h1 h2 j0 => obtain ⟨m0, i0⟩ := j0; exact ⟨m0, fun G hG => .ex_np (i0 m0 (Nat.le_refl _)) h1 hG⟩
 | ex_par h0 h1 h2 j0 => obtain ⟨m0, i0⟩ := j0; exact ⟨m0 + 1, fun G hG => .ex_par (i0 m0 (Nat.le_refl _)) h1 (by omega)⟩
 | rule h0 h1 j0 j1 => obtain ⟨m0, i0⟩ := j0; obtain ⟨m1, i1⟩ := j1; exact ⟨m0 + m1 + 1, fun G hG => by obtain ⟨H, rfl⟩ : ∃ H, G = H + 1 := ⟨G - 1, by omega⟩; exact .rule (i0 _ (by omega)) (i1 _ (by omega))⟩
 | p_any  =>  exact ⟨0 + 0, fun G hG => .p_any ⟩
 | p_var h0 =>  exact ⟨0 + 0, fun G hG => .p_var h0⟩
 | p_int h0 =>  exact ⟨0 + 0, fun G hG => .p_int h0⟩
 | p_neg h0 h1 =>  exact ⟨0 + 0, fun G hG => .p_neg h0 h1⟩
 | p_str h0 =>  exact ⟨0 + 0, fun G hG => .p_str h0⟩
 | p_con h0 =>  exact ⟨0 + 0, fun G hG => .p_con h0⟩
 | p_tf h0 =>  exact ⟨0 + 0, fun G hG => .p_tf h0⟩
 | p_arg h0 h1 j1 => obtain ⟨m1, i1⟩ := j1; exact ⟨m1 + 0, fun G hG => .p_arg h0 (i1 _ (by omega))⟩
 | p_unit  =>  exact ⟨0 + 0, fun G hG => .p_unit ⟩
 | p_tup h0 j0 => obtain ⟨m0, i0⟩ := j0; exact ⟨m0 + 1, fun G hG => by obtain ⟨H, rfl⟩ : ∃ H, G = H + 1 := ⟨G - 1, by omega⟩; exact .p_tup (i0 _ (by omega))⟩
 | p_nil  =>  exact ⟨0 + 0, fun G hG => .p_nil ⟩
 | p_list h0 j0 => obtain ⟨m0, i0⟩ := j0; exact ⟨m0 + 1, fun G hG => by obtain ⟨H, rfl⟩ : ∃ H, G = H + 1 := ⟨G - 1, by omega⟩; exact .p_list (i0 _ (by omega))⟩
 | p_cons h0 h1 j0 j1 => obtain ⟨m0, i0⟩ := j0; obtain ⟨m1, i1⟩ := j1; exact ⟨m0 + m1 + 0, fun G hG => .p_cons (i0 _ (by omega)) (i1 _ (by omega))⟩
 | p_as h0 h1 j1 => obtain ⟨m1, i1⟩ := j1; exact ⟨m1 + 1, fun G hG => by obtain ⟨H, rfl⟩ : ∃ H, G = H + 1 := ⟨G - 1, by omega⟩; exact .p_as h0 (i1 _ (by omega))⟩
 | p_has h0 h1 j0 j1 => obtain ⟨m0, i0⟩ := j0; obtain ⟨m1, i1⟩ := j1; exact ⟨m0 + m1 + 1, fun G hG => by obtain ⟨H, rfl⟩ : ∃ H, G = H + 1 := ⟨G - 1, by omega⟩; exact .p_has (i0 _ (by omega)) (i1 _ (by omega))⟩
 | pt_np h0 h1 h2 j0 => obtain ⟨m0, i0⟩ := j0; exact ⟨m0, fun G hG => .pt_np (i0 m0 (Nat.le_refl _)) h1 hG⟩
 | pt_par h0 h1 h2 j0 => obtain ⟨m0, i0⟩ := j0; exact ⟨m0 + 1, fun G hG => .pt_par (i0 m0 (Nat.le_refl _)) h1 (by omega)⟩
 | t_var h0 =>  exact ⟨0 + 0, fun G hG => .t_var h0⟩
 | t_con h0 =>  exact ⟨0 + 0, fun G hG => .t_con h0⟩
 | t_one h0 h1 j0 => obtain ⟨m0, i0⟩ := j0; exact ⟨m0 + 0, fun G hG => .t_one (i0 _ (by omega)) h1⟩
 | t_more h0 h1 j0 => obtain ⟨m0, i0⟩ := j0; exact ⟨m0 + 1, fun G hG => by obtain ⟨H, rfl⟩ : ∃ H, G = H + 1 := ⟨G - 1, by omega⟩; exact .t_more (i0 _ (by omega)) h1⟩
 | t_tup h0 j0 => obtain ⟨m0, i0⟩ := j0; exact ⟨m0 + 0, fun G hG => .t_tup (i0 _ (by omega))⟩
 | t_arr h0 h1 j0 j1 => obtain ⟨m0, i0⟩ := j0; obtain ⟨m1, i1⟩ := j1; exact ⟨m0 + m1 + 1, fun G hG => by obtain ⟨H, rfl⟩ : ∃ H, G = H + 1 := ⟨G - 1, by omega⟩; exact .t_arr (i0 _ (by omega)) (i1 _ (by omega))⟩
 | ty_np h0 h1 h2 j0 => obtain ⟨m0, i0⟩ := j0; exact ⟨m0, fun G hG => .ty_np (i0 m0 (Nat.le_refl _)) h1 hG⟩
 | ty_par h0 h1 h2 j0 => obtain ⟨m0, i0⟩ := j0; exact ⟨m0 + 1, fun G hG => .ty_par (i0 m0 (Nat.le_refl _)) h1 (by omega)⟩
 | d_val h0 h1 j0 j1 => obtain ⟨m0, i0⟩ := j0; obtain ⟨m1, i1⟩ := j1; exact ⟨m0 + m1 + 1, fun G hG => by obtain ⟨H, rfl⟩ : ∃ H, G = H + 1 := ⟨G - 1, by omega⟩; exact .d_val (i0 _ (by omega)) (i1 _ (by omega))⟩
 | d_fun h0 j0 => obtain ⟨m0, i0⟩ := j0; exact ⟨m0 + 0, fun G hG => .d_fun (i0 _ (by omega))⟩
 | fb h0 h1 h2 j1 j2 => obtain ⟨m1, i1⟩ := j1; obtain ⟨m2, i2⟩ := j2; exact ⟨m1 + m2 + 1, fun G hG => by obtain ⟨H, rfl⟩ : ∃ H, G = H + 1 := ⟨G - 1, by omega⟩; exact .fb h0 (i1 _ (by omega)) (i2 _ (by omega))⟩
 | fb_has h0 h1 h2 h3 h4 j2 j3 j4 => obtain ⟨m2, i2⟩ := j2; obtain ⟨m3, i3⟩ := j3; obtain ⟨m4, i4⟩ := j4; exact ⟨m2 + m3 + m4 + 2, fun G hG => by obtain ⟨H, rfl⟩ : ∃ H, G = H + 2 := ⟨G - 2, by omega⟩; exact .fb h1 (i2 _ (by omega)) (.ex_np (.e_has (i3 H (by omega)) (i4 H (by omega))) (Nat.zero_le _) (Nat.le_refl _))⟩
 | d_type h0 h1 h2 j1 j2 => obtain ⟨m1, i1⟩ := j1; obtain ⟨m2, i2⟩ := j2; exact ⟨m1 + m2 + 1, fun G hG => by obtain ⟨H, rfl⟩ : ∃ H, G = H + 1 := ⟨G - 1, by omega⟩; exact .d_type h0 (i1 _ (by omega)) (i2 _ (by omega))⟩
 | d_dx h0 h1 j1 => obtain ⟨m1, i1⟩ := j1; exact ⟨m1 + 0, fun G hG => .d_dx h0 (i1 _ (by omega))⟩
 | dx_data h0 j0 => obtain ⟨m0, i0⟩ := j0; exact ⟨m0 + 0, fun G hG => .dx_data (i0 _ (by omega))⟩
 | dx_exn0 h0 =>  exact ⟨0 + 0, fun G hG => .dx_exn0 h0⟩
 | dx_exn1 h0 h1 j1 => obtain ⟨m1, i1⟩ := j1; exact ⟨m1 + 1, fun G hG => by obtain ⟨H, rfl⟩ : ∃ H, G = H + 1 := ⟨G - 1, by omega⟩; exact .dx_exn1 h0 (i1 _ (by omega))⟩
 | db h0 h1 j0 j1 => obtain ⟨m0, i0⟩ := j0; obtain ⟨m1, i1⟩ := j1; exact ⟨m0 + m1 + 0, fun G hG => .db (i0 _ (by omega)) (i1 _ (by omega))⟩
 | con0 h0 =>  exact ⟨0 + 0, fun G hG => .con0 h0⟩
 | con1 h0 h1 j1 => obtain ⟨m1, i1⟩ := j1; exact ⟨m1 + 1, fun G hG => by obtain ⟨H, rfl⟩ : ∃ H, G = H + 1 := ⟨G - 1, by omega⟩; exact .con1 h0 (i1 _ (by omega))⟩
 | d_str0 h0 h1 h2 j2 => obtain ⟨m2, i2⟩ := j2; exact ⟨m2 + 0, fun G hG => .d_str0 h0 h1 (i2 _ (by omega))⟩
 | d_str1 h0 h1 h2 h3 h4 j3 j4 => obtain ⟨m3, i3⟩ := j3; obtain ⟨m4, i4⟩ := j4; exact ⟨m3 + m4 + 1, fun G hG => by obtain ⟨H, rfl⟩ : ∃ H, G = H + 1 := ⟨G - 1, by omega⟩; exact .d_str1 h0 h1 h2 (i3 _ (by omega)) (i4 _ (by omega))⟩
 | d_sig h0 h1 h2 j2 => obtain ⟨m2, i2⟩ := j2; exact ⟨m2 + 1, fun G hG => by obtain ⟨H, rfl⟩ : ∃ H, G = H + 1 := ⟨G - 1, by omega⟩; exact .d_sig h0 h1 (i2 _ (by omega))⟩
 | d_open h0 =>  exact ⟨0 + 0, fun G hG => .d_open h0⟩
 | b_nil  =>  exact ⟨0 + 0, fun G hG => .b_nil ⟩
 | b_str h0 j0 => obtain ⟨m0, i0⟩ := j0; exact ⟨m0 + 1, fun G hG => by obtain ⟨H, rfl⟩ : ∃ H, G = H + 1 := ⟨G - 1, by omega⟩; exact .b_str (i0 _ (by omega))⟩
 | b_path h0 =>  exact ⟨0 + 0, fun G hG => .b_path h0⟩
 | s_body h0 j0 => obtain ⟨m0, i0⟩ := j0; exact ⟨m0 + 0, fun G hG => .s_body (i0 _ (by omega))⟩
 | s_name h0 =>  exact ⟨0 + 0, fun G hG => .s_name h0⟩
 | sp_val h0 h1 j1 => obtain ⟨m1, i1⟩ := j1; exact ⟨m1 + 1, fun G hG => by obtain ⟨H, rfl⟩ : ∃ H, G = H + 1 := ⟨G - 1, by omega⟩; exact .sp_val h0 (i1 _ (by omega))⟩
 | sp_type h0 j0 => obtain ⟨m0, i0⟩ := j0; exact ⟨m0 + 0, fun G hG => .sp_type (i0 _ (by omega))⟩
 | sp_type1 h0 h1 j0 j1 => obtain ⟨m0, i0⟩ := j0; obtain ⟨m1, i1⟩ := j1; exact ⟨m0 + m1 + 1, fun G hG => by obtain ⟨H, rfl⟩ : ∃ H, G = H + 1 := ⟨G - 1, by omega⟩; exact .sp_type1 (i0 _ (by omega)) (i1 _ (by omega))⟩
 | sp_dx h0 j0 => obtain ⟨m0, i0⟩ := j0; exact ⟨m0 + 0, fun G hG => .sp_dx (i0 _ (by omega))⟩
 | sp_str h0 h1 j1 => obtain ⟨m1, i1⟩ := j1; exact ⟨m1 + 1, fun G hG => by obtain ⟨H, rfl⟩ : ∃ H, G = H + 1 := ⟨G - 1, by omega⟩; exact .sp_str h0 (i1 _ (by omega))⟩
 | tv h0 =>  exact ⟨0 + 0, fun G hG => .tv h0⟩
 | h_none h0 =>  exact ⟨0 + 0, fun G hG => .h_none h0⟩
 | h_one h0 h1 j1 => obtain ⟨m1, i1⟩ := j1; exact ⟨m1 + 0, fun G hG => .h_one h0 (i1 _ (by omega))⟩
 | h_more h0 h1 j1 => obtain ⟨m1, i1⟩ := j1; exact ⟨m1 + 0, fun G hG => .h_more h0 (i1 _ (by omega))⟩
theorem tynL {p : Prop} (h : p := by first | assumption | (simp_all [typL, typL_app]; done) | (simp only [typL, typL_app, Bool.or_eq_false_iff, List.cons_append] at *; simp_all)) : p := h
theorem DX.un {X : Prop} {c : Cat} {g : Nat} {l : List Ty} {ws : List ByteArray} (h : DX X c g l ws) : typL l = false → DX False c g l ws := by
 induction h with
 | row1 h0 i0 => intro h; exact .row1 (i0 h)
 | rowS h0 h1 i0 i1 => intro h; rw [typL_cons, Bool.or_eq_false_iff] at h; exact .rowS (i0 h.1) (i1 h.2)
 | mnil  => intro h; exact .mnil 
 | mcons h0 h1 i0 i1 => intro h; rw [typL_cons, Bool.or_eq_false_iff] at h; exact .mcons (i0 h.1) (i1 h.2)
 | e_int h0 => intro h; replace h := typL_mk h; exact .e_int h0
 | e_str h0 => intro h; replace h := typL_mk h; exact .e_str h0
 | e_path h0 => intro h; replace h := typL_mk h; exact .e_path h0
 | e_tf h0 => intro h; replace h := typL_mk h; exact .e_tf h0
 | e_unit  => intro h; replace h := typL_mk h; exact .e_unit 
 | e_tup h0 i0 => intro h; replace h := typL_mk h; exact .e_tup (i0 tynL)
 | e_seq h0 i0 => intro h; replace h := typL_mk h; exact .e_seq (i0 tynL)
 | e_nil  => intro h; replace h := typL_mk h; exact .e_nil 
 | e_list h0 i0 => intro h; replace h := typL_mk h; exact .e_list (i0 tynL)
 | e_app h0 h1 i0 i1 => intro h; replace h := typL_mk h; exact .e_app (i0 tynL) (i1 tynL)
 | e_fn h0 h1 i0 i1 => intro h; replace h := typL_mk h; exact .e_fn (i0 tynL) (i1 tynL)
 | e_if h0 h1 h2 i0 i1 i2 => intro h; replace h := typL_mk h; exact .e_if (i0 tynL) (i1 tynL) (i2 tynL)
 | e_raise h0 i0 => intro h; replace h := typL_mk h; exact .e_raise (i0 tynL)
 | e_case h0 h1 i0 i1 => intro h; replace h := typL_mk h; exact .e_case (i0 tynL) (i1 tynL)
 | e_try h0 h1 i0 i1 => intro h; replace h := typL_mk h; exact .e_try (i0 tynL) (i1 tynL)
 | e_let h0 h1 i0 i1 => intro h; replace h := typL_mk h; exact .e_let (i0 tynL) (i1 tynL)
 | e_has h0 h1 i0 i1 => intro h; replace h := typL_mk h; exact .e_has (i0 tynL) (i1 tynL)
 | e_or h0 h1 i0 i1 => intro h; replace h := typL_mk h; exact .e_or (i0 tynL) (i1 tynL)
 | e_and h0 h1 i0 i1 => intro h; replace h := typL_mk h; exact .e_and (i0 tynL) (i1 tynL)
 | e_op h0 h1 h2 i1 i2 => intro h; replace h := typL_mk h; exact .e_op h0 (i1 tynL) (i2 tynL)
 | e_un h0 h1 i1 => intro h; replace h := typL_mk h; exact .e_un h0 (i1 tynL)
 | ex_np h0 h1 h2 i0 => intro h; exact .ex_np (i0 h) h1 h2
 | ex_par h0 h1 h2 i0 => intro h; exact .ex_par (i0 h) h1 h2
 | rule h0 h1 i0 i1 => intro h; replace h := typL_mk h; exact .rule (i0 tynL) (i1 tynL)
 | p_any  => intro h; replace h := typL_mk h; exact .p_any 
 | p_var h0 => intro h; replace h := typL_mk h; exact .p_var h0
 | p_int h0 => intro h; replace h := typL_mk h; exact .p_int h0
 | p_neg h0 h1 => intro h; replace h := typL_mk h; exact .p_neg h0 h1
 | p_str h0 => intro h; replace h := typL_mk h; exact .p_str h0
 | p_con h0 => intro h; replace h := typL_mk h; exact .p_con h0
 | p_tf h0 => intro h; replace h := typL_mk h; exact .p_tf h0
 | p_arg h0 h1 i1 => intro h; replace h := typL_mk h; exact .p_arg h0 (i1 tynL)
 | p_unit  => intro h; replace h := typL_mk h; exact .p_unit 
 | p_tup h0 i0 => intro h; replace h := typL_mk h; exact .p_tup (i0 tynL)
 | p_nil  => intro h; replace h := typL_mk h; exact .p_nil 
 | p_list h0 i0 => intro h; replace h := typL_mk h; exact .p_list (i0 tynL)
 | p_cons h0 h1 i0 i1 => intro h; replace h := typL_mk h; exact .p_cons (i0 tynL) (i1 tynL)
 | p_as h0 h1 i1 => intro h; replace h := typL_mk h; exact .p_as h0 (i1 tynL)
 | p_has h0 h1 i0 i1 => intro h; replace h := typL_mk h; exact .p_has (i0 tynL) (i1 tynL)
 | pt_np h0 h1 h2 i0 => intro h; exact .pt_np (i0 h) h1 h2
 | pt_par h0 h1 h2 i0 => intro h; exact .pt_par (i0 h) h1 h2
 | t_var h0 => intro h; replace h := typL_mk h; exact .t_var h0
 | t_con h0 => intro h; replace h := typL_mk h; exact .t_con h0
 | t_one h0 h1 i0 => intro h; replace h := typL_mk h; exact .t_one (i0 tynL) h1
 | t_more h0 h1 i0 => intro h; replace h := typL_mk h; exact .t_more (i0 tynL) h1
 | t_tup h0 i0 => intro h; replace h := typL_mk h; exact .t_tup (i0 tynL)
 | t_arr h0 h1 i0 i1 => intro h; replace h := typL_mk h; exact .t_arr (i0 tynL) (i1 tynL)
 | ty_np h0 h1 h2 i0 => intro h; exact .ty_np (i0 h) h1 h2
 | ty_par h0 h1 h2 i0 => intro h; exact .ty_par (i0 h) h1 h2
 | d_val h0 h1 i0 i1 => intro h; replace h := typL_mk h; exact .d_val (i0 tynL) (i1 tynL)
 | d_fun h0 i0 => intro h; replace h := typL_mk h; exact .d_fun (i0 tynL)
 | fb h0 h1 h2 i1 i2 => intro h; replace h := typL_mk h; exact .fb h0 (i1 tynL) (i2 tynL)
 | fb_has => intro h; exfalso; rw [typL_one, typT, List.getLast?_concat] at h; simp [Ty.k] at h
 | d_type h0 h1 h2 i1 i2 => intro h; replace h := typL_mk h; exact .d_type h0 (i1 tynL) (i2 tynL)
 | d_dx h0 h1 i1 => intro h; exact .d_dx h0 (i1 h)
 | dx_data h0 i0 => intro h; replace h := typL_mk h; exact .dx_data (i0 tynL)
 | dx_exn0 h0 => intro h; replace h := typL_mk h; exact .dx_exn0 h0
 | dx_exn1 h0 h1 i1 => intro h; replace h := typL_mk h; exact .dx_exn1 h0 (i1 tynL)
 | db h0 h1 i0 i1 => intro h; replace h := typL_mk h; exact .db (i0 tynL) (i1 tynL)
 | con0 h0 => intro h; replace h := typL_mk h; exact .con0 h0
 | con1 h0 h1 i1 => intro h; replace h := typL_mk h; exact .con1 h0 (i1 tynL)
 | d_str0 h0 h1 h2 i2 => intro h; replace h := typL_mk h; exact .d_str0 h0 h1 (i2 tynL)
 | d_str1 h0 h1 h2 h3 h4 i3 i4 => intro h; replace h := typL_mk h; exact .d_str1 h0 h1 h2 (i3 tynL) (i4 tynL)
 | d_sig h0 h1 h2 i2 => intro h; replace h := typL_mk h; exact .d_sig h0 h1 (i2 tynL)
 | d_open h0 => intro h; replace h := typL_mk h; exact .d_open h0
 | b_nil  => intro h; replace h := typL_mk h; exact .b_nil 
 | b_str h0 i0 => intro h; replace h := typL_mk h; exact .b_str (i0 tynL)
 | b_path h0 => intro h; replace h := typL_mk h; exact .b_path h0
 | s_body h0 i0 => intro h; replace h := typL_mk h; exact .s_body (i0 tynL)
 | s_name h0 => intro h; replace h := typL_mk h; exact .s_name h0
 | sp_val h0 h1 i1 => intro h; replace h := typL_mk h; exact .sp_val h0 (i1 tynL)
 | sp_type h0 i0 => intro h; replace h := typL_mk h; exact .sp_type (i0 tynL)
 | sp_type1 h0 h1 i0 i1 => intro h; replace h := typL_mk h; exact .sp_type1 (i0 tynL) (i1 tynL)
 | sp_dx h0 i0 => intro h; exact .sp_dx (i0 h)
 | sp_str h0 h1 i1 => intro h; replace h := typL_mk h; exact .sp_str h0 (i1 tynL)
 | tv h0 => intro h; replace h := typL_mk h; exact .tv h0
 | h_none h0 => intro h; exact .h_none h0
 | h_one h0 h1 i1 => intro h; exact .h_one h0 (i1 h)
 | h_more h0 h1 i1 => intro h; exact .h_more h0 (i1 h)
def headT (t : Ty) : Bool := decide (t.k = 36) && (match t.args.getLast? with | some m => decide (m.k = 19) | none => false)
theorem typT_args (t : Ty) : typT t = (headT t || typL t.args) := by cases t; rw [typT]; rfl
theorem headT_get {t : Ty} (h : t.args.length - 1 < t.args.length) : headT t = (decide (t.k = 36) && decide (t.args[t.args.length - 1].k = 19)) := by
 unfold headT
 rw [List.getLast?_eq_getElem?, List.getElem?_eq_getElem h]
theorem typL_take {l : List Ty} {j : Nat} (h : j < l.length) : typL (l.take (j + 1)) = (typL (l.take j) || typT l[j]) := by
 rw [List.take_succ_eq_append_getElem h, typL_app, typL_one]
theorem typL_cut {l : List Ty} {j : Nat} (h : j < l.length) (hc : typT l[j] = true) : typL l = true := by
 have e : l = l.take (j + 1) ++ l.drop (j + 1) := (List.take_append_drop _ _).symm
 rw [e, typL_app, typL_take h, hc]; simp
theorem typed_any : ∀ (f : Nat) (t : Ty), parts t ≤ f → ∀ (D : Nat → Prop) (ao : Option Addr) (cap : Nat) (w : World), (∀ b, D b → b < w.heap.size) → SlD w D t.args ao cap → Fit t →
 Calls Tryz.prog 13 #[.agg (rowOf t ao cap)] w fun e w' => e = .returned (.bool (typT t)) ∧ Below w.heap.size w w' := by
 intro f
 induction f with
 | zero => intro t ht; have := parts_pos t; omega
 | succ f IH =>
  intro t ht D ao cap w hD hv hfit
  obtain ⟨c, hc⟩ : ∃ c, c = t.args.length := ⟨_, rfl⟩
  obtain ⟨W, hW⟩ : ∃ W, W = w.alloc (.cells (rowOf t ao cap) 26) := ⟨_, rfl⟩
  obtain ⟨hbW, hlW, hrow⟩ := box_at hW
  have hl1 : w.heap.size < W.heap.size := lt_of_block hrow
  have hcl : c ≤ 1000000 := by rw [hc]; exact hfit.args.1
  obtain ⟨ans, hans⟩ : ∃ ans, ans = typT t := ⟨_, rfl⟩
  rw [← hans]
  rw [typT_args] at hans
  have HANS : Hid (ans = (headT t || typL t.args)) := lh hans
  unfold rowOf at hW hrow
  unfold rowOf
  rw [← hc] at hW hrow
  rw [← hc]
  have HC := lh hc
  have HT := lh ht
  have HFIT := lh hfit
  have HIH := lh IH
  have HD := lh hD
  have HV := lh hv
  have HBW := lh hbW
  have HROW := lh hrow
  have c0 : W.cell? ⟨w.heap.size, 0, none⟩ = some (.int .i64 t.k) := blk_cell hrow 0
  have c4 : W.cell? ⟨w.heap.size, 4, none⟩ = some (.slice ao c cap) := blk_cell hrow 4
  clear IH hD hv hc ht hfit hbW hrow hlW hans
  go_enter Tryz.func13, Tryz.ntmps13
  go_upto_region 1 with fail
  rw [← hW]
  have HWW := lh hW
  clear hW
  generalize Value.agg #[.int .i64 t.k, .int .i64 t.n, .string t.s, .int .i64 t.q, .slice ao c cap] = v0
  by_cases hk : t.k = 36
  case neg =>
   have b1 : (t.k == 36) = false := by simpa using hk
   have HH : Hid (headT t = false) := lh (by unfold headT; simp [hk])
   clear hk
   go_upto_region 4 with fail
   clear b1 c0
   go_wp2_with fail
   go_loopw [4] (fun i wr => ∃ j : Nat, i = .int .i64 (j : Int) ∧ j ≤ c ∧ typL (t.args.take j) = false ∧ Below W.heap.size W wr) (fun i _ => c - (intOf i).toNat)
   case atStart => exact ⟨0, rfl, Nat.zero_le _, by simp [typL], Below.refl _ _⟩
   case round =>
    obtain ⟨j, rfl, hj, hal, hbr⟩ := hrel
    obtain ⟨wo, rfl⟩ : ∃ wo : World, wo = wr := ⟨_, rfl⟩
    have hrow := blk_below HROW.out hbr hl1
    have c4 : wo.cell? ⟨w.heap.size, 4, none⟩ = some (.slice ao c cap) := blk_cell hrow 4
    have HBR := lh hbr
    have HAL := lh hal
    clear hbr hrow hal
    by_cases hlt : j < c
    · have hd : decide ((j : Int) ≤ (c : Int) - 1) = true := by simp; omega
      have hjk : j < t.args.length := by rw [← HC.out]; exact hlt
      have hbo : Below w.heap.size w wo := HBW.out.trans (HBR.out.mono (Nat.le_of_lt hl1))
      have hvr : SlD wo D t.args ao cap := HV.out.keep fun b hb off => below_cells hbo b (HD.out b hb) off
      obtain ⟨b, p, ap, cp, hDb, hix, x0, x1, x2, x3, x4, hs⟩ := arg_cells hvr hjk
      rw [← HC.out] at hix
      obtain ⟨a, ha⟩ : ∃ a, a = t.args[j] := ⟨_, rfl⟩
      rw [← ha] at x0 x1 x2 x3 x4 hs
      have hmem : a ∈ t.args := by rw [ha]; exact List.getElem_mem _
      have hcall := HIH.out a (by have h1 := HT.out; rw [parts_args] at h1; have := parts_mem hmem; omega) D ap cp wo (fun b hb => Nat.lt_of_lt_of_le (HD.out b hb) hbo.size) hs (HFIT.out.args.2.get hmem)
      obtain ⟨res, hres⟩ : ∃ res, res = typT a := ⟨_, rfl⟩
      rw [← hres] at hcall
      unfold rowOf at hcall
      have HCALL := lh hcall
      have HA := lh ha
      have HRES := lh hres
      clear hcall hvr hs ha hmem hbo hres
      cases hr : res with
      | false =>
       subst hr
       go_wp2_with (first | (go_at_call 13; refine HCALL.out.mono ?_; rintro e w7 ⟨rfl, hb7⟩))
       go_roundw
       case rel =>
        refine ⟨j + 1, by go_num, hlt, ?_, HBR.out.trans (hb7.mono HBR.out.size)⟩
        rw [typL_take hjk, HAL.out, ← HA.out, ← HRES.out]; rfl
       case measure => simp only [intOf]; omega
      | true =>
       subst hr
       go_wp2_with (first | (go_at_call 13; refine HCALL.out.mono ?_; rintro e w7 ⟨rfl, hb7⟩))
       go_ret
       refine ⟨?_, HBW.out.trans ((HBR.out.trans (hb7.mono HBR.out.size)).mono (Nat.le_of_lt hl1))⟩
       have e : ans = true := by
        rw [HANS.out, typL_cut hjk (by rw [← HA.out]; exact HRES.out.symm)]; simp
       exact congrArg (fun b : Bool => Ending.returned (.bool b)) e.symm
    · obtain rfl : j = c := by omega
      have hd : decide ((j : Int) ≤ (j : Int) - 1) = false := by simp; omega
      go_wp2_with fail
      go_ret
      refine ⟨?_, HBW.out.trans (HBR.out.mono (Nat.le_of_lt hl1))⟩
      have h1 := HAL.out
      rw [show t.args.take j = t.args from by rw [HC.out, List.take_length]] at h1
      have e : ans = false := by rw [HANS.out, HH.out, h1]; rfl
      exact congrArg (fun b : Bool => Ending.returned (.bool b)) e.symm
  have b1 : (t.k == 36) = true := by simpa using hk
  by_cases h0 : c = 0
  · have hg : decide ((0 : Int) ≤ (c : Int) - 1) = false := by simp; omega
    have hg1 : decide ((1 : Int) ≤ (c : Int)) = false := by simp; omega
    have hg2 : decide (1 ≤ c) = false := by simp; omega
    have hg3 : decide (0 < c) = false := by simp; omega
    have hg4 : decide ((0 : Int) < (c : Int)) = false := by simp; omega
    have hg5 : decide ((c : Int) - 1 < 0) = true := by simp; omega
    have HH : Hid (headT t = false) := lh (by
     have : t.args = [] := List.eq_nil_of_length_eq_zero (by rw [← HC.out]; exact h0)
     unfold headT; rw [this]; simp)
    clear hk h0
    go_upto_region 4 with fail
    clear b1 c0 hg hg1 hg2 hg3 hg4 hg5
    go_wp2_with fail
    go_loopw [4] (fun i wr => ∃ j : Nat, i = .int .i64 (j : Int) ∧ j ≤ c ∧ typL (t.args.take j) = false ∧ Below W.heap.size W wr) (fun i _ => c - (intOf i).toNat)
    case atStart => exact ⟨0, rfl, Nat.zero_le _, by simp [typL], Below.refl _ _⟩
    case round =>
     obtain ⟨j, rfl, hj, hal, hbr⟩ := hrel
     obtain ⟨wo, rfl⟩ : ∃ wo : World, wo = wr := ⟨_, rfl⟩
     have hrow := blk_below HROW.out hbr hl1
     have c4 : wo.cell? ⟨w.heap.size, 4, none⟩ = some (.slice ao c cap) := blk_cell hrow 4
     have HBR := lh hbr
     have HAL := lh hal
     clear hbr hrow hal
     by_cases hlt : j < c
     · have hd : decide ((j : Int) ≤ (c : Int) - 1) = true := by simp; omega
       have hjk : j < t.args.length := by rw [← HC.out]; exact hlt
       have hbo : Below w.heap.size w wo := HBW.out.trans (HBR.out.mono (Nat.le_of_lt hl1))
       have hvr : SlD wo D t.args ao cap := HV.out.keep fun b hb off => below_cells hbo b (HD.out b hb) off
       obtain ⟨b, p, ap, cp, hDb, hix, x0, x1, x2, x3, x4, hs⟩ := arg_cells hvr hjk
       rw [← HC.out] at hix
       obtain ⟨a, ha⟩ : ∃ a, a = t.args[j] := ⟨_, rfl⟩
       rw [← ha] at x0 x1 x2 x3 x4 hs
       have hmem : a ∈ t.args := by rw [ha]; exact List.getElem_mem _
       have hcall := HIH.out a (by have h1 := HT.out; rw [parts_args] at h1; have := parts_mem hmem; omega) D ap cp wo (fun b hb => Nat.lt_of_lt_of_le (HD.out b hb) hbo.size) hs (HFIT.out.args.2.get hmem)
       obtain ⟨res, hres⟩ : ∃ res, res = typT a := ⟨_, rfl⟩
       rw [← hres] at hcall
       unfold rowOf at hcall
       have HCALL := lh hcall
       have HA := lh ha
       have HRES := lh hres
       clear hcall hvr hs ha hmem hbo hres
       cases hr : res with
       | false =>
        subst hr
        go_wp2_with (first | (go_at_call 13; refine HCALL.out.mono ?_; rintro e w7 ⟨rfl, hb7⟩))
        go_roundw
        case rel =>
         refine ⟨j + 1, by go_num, hlt, ?_, HBR.out.trans (hb7.mono HBR.out.size)⟩
         rw [typL_take hjk, HAL.out, ← HA.out, ← HRES.out]; rfl
        case measure => simp only [intOf]; omega
       | true =>
        subst hr
        go_wp2_with (first | (go_at_call 13; refine HCALL.out.mono ?_; rintro e w7 ⟨rfl, hb7⟩))
        go_ret
        refine ⟨?_, HBW.out.trans ((HBR.out.trans (hb7.mono HBR.out.size)).mono (Nat.le_of_lt hl1))⟩
        have e : ans = true := by
         rw [HANS.out, typL_cut hjk (by rw [← HA.out]; exact HRES.out.symm)]; simp
        exact congrArg (fun b : Bool => Ending.returned (.bool b)) e.symm
     · obtain rfl : j = c := by omega
       have hd : decide ((j : Int) ≤ (j : Int) - 1) = false := by simp; omega
       go_wp2_with fail
       go_ret
       refine ⟨?_, HBW.out.trans (HBR.out.mono (Nat.le_of_lt hl1))⟩
       have h1 := HAL.out
       rw [show t.args.take j = t.args from by rw [HC.out, List.take_length]] at h1
       have e : ans = false := by rw [HANS.out, HH.out, h1]; rfl
       exact congrArg (fun b : Bool => Ending.returned (.bool b)) e.symm
  · have hp1 : 1 ≤ c := by omega
    have hp2 : (1 : Int) ≤ (c : Int) := by omega
    have hp3 : (0 : Int) ≤ (c : Int) - 1 := by omega
    have hp4 : (c : Int) - 1 ≥ 0 := by omega
    have hg : decide ((0 : Int) ≤ (c : Int) - 1) = true := by simp; omega
    have hg1 : decide ((1 : Int) ≤ (c : Int)) = true := by simp; omega
    have hg2 : decide (1 ≤ c) = true := by simp; omega
    have hg3 : decide (0 < c) = true := by simp; omega
    have hg4 : decide ((0 : Int) < (c : Int)) = true := by simp; omega
    have hg5 : decide ((c : Int) - 1 < 0) = false := by simp; omega
    have hjk : t.args.length - 1 < t.args.length := by rw [← HC.out]; omega
    have hvr : SlD W D t.args ao cap := HV.out.keep fun b hb off => below_cells HBW.out b (HD.out b hb) off
    obtain ⟨b, p, ap, cp, hDb, hix, x0, -, -, -, -, -⟩ := arg_cells hvr hjk
    have hm := headT_get hjk
    rw [← HC.out] at hix
    rw [show ((c - 1 : Nat) : Int) = (c : Int) - 1 by omega] at hix
    obtain ⟨a, ha⟩ : ∃ a, a = t.args[t.args.length - 1] := ⟨_, rfl⟩
    rw [← ha] at x0 hm
    by_cases h19 : a.k = 19
    · have b2 : (a.k == 19) = true := by simpa using h19
      have HH : Hid (headT t = true) := lh (by rw [hm]; simp [hk, h19])
      clear hk h0 hm ha h19 hvr
      go_wp2_with fail
      go_ret
      exact ⟨by rw [HANS.out, HH.out]; simp, HBW.out⟩
    · have b2 : (a.k == 19) = false := by simpa using h19
      have HH : Hid (headT t = false) := lh (by rw [hm]; simp [h19])
      clear hk h0 hm ha h19 hvr
      go_upto_region 4 with fail
      clear b1 c0 hg hg1 hg2 hg3 hg4 hg5 b2 x0 hix
      go_wp2_with fail
      go_loopw [4] (fun i wr => ∃ j : Nat, i = .int .i64 (j : Int) ∧ j ≤ c ∧ typL (t.args.take j) = false ∧ Below W.heap.size W wr) (fun i _ => c - (intOf i).toNat)
      case atStart => exact ⟨0, rfl, Nat.zero_le _, by simp [typL], Below.refl _ _⟩
      case round =>
       obtain ⟨j, rfl, hj, hal, hbr⟩ := hrel
       obtain ⟨wo, rfl⟩ : ∃ wo : World, wo = wr := ⟨_, rfl⟩
       have hrow := blk_below HROW.out hbr hl1
       have c4 : wo.cell? ⟨w.heap.size, 4, none⟩ = some (.slice ao c cap) := blk_cell hrow 4
       have HBR := lh hbr
       have HAL := lh hal
       clear hbr hrow hal
       by_cases hlt : j < c
       · have hd : decide ((j : Int) ≤ (c : Int) - 1) = true := by simp; omega
         have hjk : j < t.args.length := by rw [← HC.out]; exact hlt
         have hbo : Below w.heap.size w wo := HBW.out.trans (HBR.out.mono (Nat.le_of_lt hl1))
         have hvr : SlD wo D t.args ao cap := HV.out.keep fun b hb off => below_cells hbo b (HD.out b hb) off
         obtain ⟨b, p, ap, cp, hDb, hix, x0, x1, x2, x3, x4, hs⟩ := arg_cells hvr hjk
         rw [← HC.out] at hix
         obtain ⟨a, ha⟩ : ∃ a, a = t.args[j] := ⟨_, rfl⟩
         rw [← ha] at x0 x1 x2 x3 x4 hs
         have hmem : a ∈ t.args := by rw [ha]; exact List.getElem_mem _
         have hcall := HIH.out a (by have h1 := HT.out; rw [parts_args] at h1; have := parts_mem hmem; omega) D ap cp wo (fun b hb => Nat.lt_of_lt_of_le (HD.out b hb) hbo.size) hs (HFIT.out.args.2.get hmem)
         obtain ⟨res, hres⟩ : ∃ res, res = typT a := ⟨_, rfl⟩
         rw [← hres] at hcall
         unfold rowOf at hcall
         have HCALL := lh hcall
         have HA := lh ha
         have HRES := lh hres
         clear hcall hvr hs ha hmem hbo hres
         cases hr : res with
         | false =>
          subst hr
          go_wp2_with (first | (go_at_call 13; refine HCALL.out.mono ?_; rintro e w7 ⟨rfl, hb7⟩))
          go_roundw
          case rel =>
           refine ⟨j + 1, by go_num, hlt, ?_, HBR.out.trans (hb7.mono HBR.out.size)⟩
           rw [typL_take hjk, HAL.out, ← HA.out, ← HRES.out]; rfl
          case measure => simp only [intOf]; omega
         | true =>
          subst hr
          go_wp2_with (first | (go_at_call 13; refine HCALL.out.mono ?_; rintro e w7 ⟨rfl, hb7⟩))
          go_ret
          refine ⟨?_, HBW.out.trans ((HBR.out.trans (hb7.mono HBR.out.size)).mono (Nat.le_of_lt hl1))⟩
          have e : ans = true := by
           rw [HANS.out, typL_cut hjk (by rw [← HA.out]; exact HRES.out.symm)]; simp
          exact congrArg (fun b : Bool => Ending.returned (.bool b)) e.symm
       · obtain rfl : j = c := by omega
         have hd : decide ((j : Int) ≤ (j : Int) - 1) = false := by simp; omega
         go_wp2_with fail
         go_ret
         refine ⟨?_, HBW.out.trans (HBR.out.mono (Nat.le_of_lt hl1))⟩
         have h1 := HAL.out
         rw [show t.args.take j = t.args from by rw [HC.out, List.take_length]] at h1
         have e : ans = false := by rw [HANS.out, HH.out, h1]; rfl
         exact congrArg (fun b : Bool => Ending.returned (.bool b)) e.symm
end Go.Proofs.YthehjeeiodbkjaaGreatDoor
