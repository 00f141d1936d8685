/-
  Proved: what follows the grammar is printed as its words; what follows the grammar is printed by the reference as its words; the contract of the program's Print: it answers the words, a qn between; the contract of the program's Print at whatever one of the four readers reads; what stands while a reader reads on, in one bundle: the variables of a call, the nodes that were read, the rows of its own, each apart from what the others may turn; the steps of a walk over the document's reader, as lemmas on what stands. Conditions: the printer as it stands in memory; the tree in memory; the contract of any on that tree; at most 4000000000 bytes; the tree in memory; its words' bytes; what each names.
-/
import Derived.Test.YthehjeeiodbkjaaGreatDoorP01
import Derived.Test.YthehjeeiodbkjaaGreatDoorP09
import Derived.Test.YthehjeeiodbkjaaGreatDoorP10
import Derived.Test.YthehjeeiodbkjaaGreatDoorP05
import Derived.Test.YthehjeeiodbkjaaGreatDoorP08
import Derived.Test.YthehjeeiodbkjaaGreatDoorP04
import Derived.Test.YthehjeeiodbkjaaGreatDoorP06
import Derived.Test.YthehjeeiodbkjaaGreatDoorP07
set_option linter.unusedSimpArgs false
set_option linter.unusedVariables false
set_option linter.unusedSectionVars false
set_option maxRecDepth 100000
set_option maxHeartbeats 16000000
namespace Go.Proofs.YthehjeeiodbkjaaGreatDoor
open Go.RowKit
def PS1 : Cat → Ty → List ByteArray → Prop
 | .e0 k, n, ws => CX n k ws ∧ LV n k
 | .ex k, n, ws => CF 43 (some (.int .i64 k)) n ws
 | .rule, n, ws => CF 46 none n ws
 | .p0 k, n, ws => ∀ m : Nat, CF 44 (some (.int .i64 m)) n (rnd (decide (k < m)) ws)
 | .pt k, n, ws => CF 44 (some (.int .i64 k)) n ws
 | .t0 k, n, ws => ∀ m : Nat, CF 45 (some (.int .i64 m)) n (rnd (decide (k < m)) ws)
 | .ty k, n, ws => CF 45 (some (.int .i64 k)) n ws
 | .dec _, n, ws => CF 48 none n ws
 | .dx, n, ws => CF 48 none n ws ∧ (n.k = 38 ∨ n.k = 41)
 | .fb, n, ws => CF 48 none n ws
 | .db, n, ws => CF 48 none n ws
 | .con, n, ws => CF 48 none n ws
 | .body, n, ws => CF 47 none n ws
 | .sig, n, ws => CF 47 none n ws
 | .spec, n, ws => CF 47 none n ws
 | .tv, n, ws => ws = [n.s]
 | _, _, _ => True
def isMany : Cat → Bool
 | .many _ => true
 | .row c _ => isMany c
 | _ => false
theorem vU {k : Nat} {s : ByteArray} {ws : List ByteArray} (h : PathW k s ws) : ws ≠ [] := by cases h <;> simp
def PD : Cat → List Ty → List ByteArray → Prop
 | .row c s, l, ws => RowC (PS1 c) s l ws
 | .many c, l, ws => isMany c = false → ManyC (PS1 c) l ws
 | .head s, l, ws => ∀ (k a : Int) (r : List Ty), CF 98 none (.mk k a s l.length (l ++ r)) ws
 | c, l, ws => ∀ n, l = [n] → PS1 c n ws
theorem PD.one {c : Cat} {n : Ty} {ws : List ByteArray} (h : PD c [n] ws) : PS1 c n ws := by
 cases c <;> first | exact trivial | exact h n rfl
theorem DX.ne {c : Cat} {g : Nat} {l : List Ty} {ws : List ByteArray} (h : D c g l ws) : isMany c = false → ws ≠ [] := by
 induction h with
 | row1 _ ih => exact ih
 | ex_np _ _ _ ih => exact fun _ => ih rfl
 | pt_np _ _ _ ih => exact fun _ => ih rfl
 | ty_np _ _ _ ih => exact fun _ => ih rfl
 | d_dx _ _ ih => exact fun _ => ih rfl
 | sp_dx _ ih => exact fun _ => ih rfl
 | t_tup _ ih => exact fun _ => ih rfl
 | mnil => exact fun h => by simp [isMany] at h
 | mcons => exact fun h => by simp [isMany] at h
 | e_path hp => exact fun _ => vU hp
 | p_con hp => exact fun _ => vU hp
 | t_con hp => exact fun _ => vU hp
 | b_path hp => exact fun _ => vU hp
 | e_app _ _ ih _ => intro _ e; exact ih rfl (List.append_eq_nil_iff.1 e).1
 | p_arg hp _ _ => intro _ e; exact vU hp (List.append_eq_nil_iff.1 e).1
 | t_one _ hp _ => intro _ e; exact vU hp (List.append_eq_nil_iff.1 e).2
 | _ => intro _; simp
theorem dec1 (k : Nat) (m : Nat) : decide ((k : Int) < (m : Int)) = decide (k < m) := decide_eq_decide.2 (by omega)
theorem rowc1 {P : Ty → List ByteArray → Prop} {s : ByteArray} {n : Ty} {ws : List ByteArray} (h : P n ws) : RowC P s [n] ws := ⟨[ws], rfl, rfl, fun i hi _ => by
 cases i with
 | zero => exact h
 | succ i => simp at hi⟩
theorem rowcS {P : Ty → List ByteArray → Prop} {s : ByteArray} {n m : Ty} {l : List Ty} {ws vs : List ByteArray} (h : P n ws) (h2 : RowC P s (m :: l) vs) : RowC P s (n :: m :: l) (ws ++ s :: vs) := by
 obtain ⟨wss, hl, rfl, hp⟩ := h2.ex
 cases wss with
 | nil => simp at hl
 | cons w r =>
  refine ⟨ws :: w :: r, by simp at hl ⊢; omega, rfl, fun i hi hi2 => ?_⟩
  cases i with
  | zero => exact h
  | succ i => exact hp i (by simpa using hi) (by simpa using hi2)
theorem manycS {P : Ty → List ByteArray → Prop} {n : Ty} {l : List Ty} {ws vs : List ByteArray} (h : P n ws) (h0 : ws ≠ []) (h2 : ManyC P l vs) : ManyC P (n :: l) (ws ++ vs) := by
 obtain ⟨wss, hl, rfl, hp⟩ := h2.ex;refine ⟨ws :: wss, by simp; omega, rfl, fun i hi hi2 => ?_⟩
 cases i with
 | zero => exact ⟨h, h0⟩
 | succ i => exact hp i (by simpa using hi) (by simpa using hi2)
theorem rowc0 {P : Ty → List ByteArray → Prop} {s : ByteArray} : RowC P s [] [] := ⟨[], rfl, rfl, fun i hi => by simp at hi⟩
theorem manyc0 {P : Ty → List ByteArray → Prop} : ManyC P [] [] := ⟨[], rfl, rfl, fun i hi => by simp at hi⟩
theorem manyc1 {P : Ty → List ByteArray → Prop} {n : Ty} {ws : List ByteArray} (h : P n ws) (h0 : ws ≠ []) : ManyC P [n] ws := by have := manycS h h0 manyc0; simpa using this
theorem cx {k a q : Int} {s : ByteArray} {K : List Ty} {ws : List ByteArray} (hk : k ≠ 17 ∧ k ≠ 16 ∧ k ≠ 18 ∧ k ≠ 8 ∧ k ≠ 7 ∧ k ≠ 9 ∧ k ≠ 13) (h : CF 86 none (.mk k a s q K) ws) : CX (.mk k a s q K) 10 ws ∧ LV (.mk k a s q K) 10 := ⟨⟨fun m1 m2 m3 hS => x_cl hk h m1 m2 hS⟩, lv_at hk⟩
theorem rndF {k l : Nat} {ws : List ByteArray} (h : l ≤ k) : rnd (decide (k < l)) ws = ws := by rw [decide_eq_false (by omega)]; rfl
theorem rndT {k l : Nat} {ws : List ByteArray} (h : k < l) : rnd (decide (k < l)) ws = s_lp :: (ws ++ [s_rp]) := by rw [decide_eq_true h]; rfl
theorem p27 {a q : Int} {s : ByteArray} {K : List Ty} {ws : List ByteArray} (h : CPX (.mk 27 a s q K) ws) : PS1 (.p0 0) (.mk 27 a s q K) ws := fun m => pat_cons h
theorem p24 {a q : Int} {s : ByteArray} {x : Ty} {ws : List ByteArray} (h : CPX (.mk 24 a s q [x]) ws) : PS1 (.p0 1) (.mk 24 a s q [x]) ws := fun m => by rw [← dec1]; exact pat_arg h
theorem p24n {a q : Int} {s : ByteArray} {ws : List ByteArray} (h : CPX (.mk 24 a s q []) ws) : PS1 (.p0 2) (.mk 24 a s q []) ws := fun m => by rw [← dec1]; exact pat_nul h
theorem p2 {k a q : Int} {s : ByteArray} {K : List Ty} {ws : List ByteArray} (hk : k ≠ 27 ∧ k ≠ 24) (h : CPX (.mk k a s q K) ws) : PS1 (.p0 2) (.mk k a s q K) ws := fun m => by rw [← dec1]; exact pat_at hk h
theorem t2 {k a q : Int} {s : ByteArray} {K : List Ty} {ws : List ByteArray} (hk : k ≠ 33 ∧ k ≠ 32) (h : CTX (.mk k a s q K) ws) : PS1 (.t0 2) (.mk k a s q K) ws := fun m => by rw [← dec1]; exact typ_at hk h
def sg : Cat → Bool
 | .row _ _ | .many _ | .head _ => false
 | _ => true
theorem pd1 {c : Cat} {n : Ty} {ws : List ByteArray} (hc : sg c = true) (h : PS1 c n ws) : PD c [n] ws := by
 cases c <;> first | (simp [sg] at hc; done) | exact fun m e => by cases e; exact h
theorem rnd_has (a b : List ByteArray) (s : ByteArray) : rnd true (a ++ s :: b) = s_lp :: (a ++ s :: (b ++ [s_rp])) := by simp [rnd]
theorem rnd_app (a b : List ByteArray) : rnd true a ++ b = s_lp :: (a ++ s_rp :: b) := by simp [rnd]
theorem q_con0 {a : Int} {s : ByteArray} {ws : List ByteArray} (hp : PathT s ws) : CPX (.mk 24 a s 0 []) ws := ⟨fun m1 m2 m3 hS => by rw [← List.append_nil ws]; exact q_con hp manyc0 m1 m2 m3 hS⟩
theorem tvs {K : List Ty} {ws : List ByteArray} (h : RowC (PS1 .tv) s_com K ws) : RowC (fun x w => w = [x.s]) s_com K ws := h
theorem printD {c : Cat} {g : Nat} {l : List Ty} {ws : List ByteArray} (h : D c g l ws) : PD c l ws := by
 induction h with
 | row1 h ih => exact rowc1 ih.one
 | rowS h h2 ih ih2 => exact rowcS ih.one ih2
 | mnil => exact fun _ => manyc0
 | mcons h h2 ih ih2 => exact fun hm => manycS ih.one (h.ne hm) (ih2 hm)
 | e_int hN => exact pd1 rfl (cx (by decide) (k_int hN))
 | e_str hs => exact pd1 rfl (cx (by decide) (k_str hs))
 | e_path hp =>
  rcases path_kind hp with rfl | rfl
  · exact pd1 rfl (cx (by decide) (k_var (.inl ⟨_, hp⟩)))
  · exact pd1 rfl (cx (by decide) (k_con (.inl ⟨_, hp⟩)))
 | e_tf h => exact pd1 rfl (cx (by decide) (k_con (.inr ⟨h, rfl⟩)))
 | e_unit => exact pd1 rfl (cx (by decide) (k_tup rowc0))
 | e_tup h ih => exact pd1 rfl (cx (by decide) (k_tup ih))
 | e_seq h ih => exact pd1 rfl (cx (by decide) (k_seq ih))
 | e_nil => exact pd1 rfl (cx (by decide) (k_list rowc0))
 | e_list h ih => exact pd1 rfl (cx (by decide) (k_list ih))
 | e_app h h2 ih ih2 => exact pd1 rfl ⟨⟨fun m1 m2 m3 hS => x_app ih.one ih2.one m1 m2 hS⟩, lv_app⟩
 | e_fn h h2 ih ih2 => exact pd1 rfl ⟨⟨fun m1 m2 m3 hS => x_fn ih.one ih2.one m1 m2 hS⟩, lv_fn⟩
 | e_if h h2 h3 ih ih2 ih3 => exact pd1 rfl ⟨⟨fun m1 m2 m3 hS => x_if ih.one ih2.one ih3.one m1 m2 hS⟩, lv_if⟩
 | e_raise h ih => exact pd1 rfl ⟨⟨fun m1 m2 m3 hS => x_raise ih.one m1 m2 hS⟩, lv_raise⟩
 | e_case h h2 ih ih2 => exact pd1 rfl (cx (by decide) (k_case ih.one ih2))
 | e_try h h2 ih ih2 => exact pd1 rfl (cx (by decide) (k_try ih.one ih2))
 | e_let h h2 ih ih2 => exact pd1 rfl (cx (by decide) (k_let (ih rfl) ih2.one))
 | @e_has g a e t ew tw h h2 ih ih2 =>
  have h7 := k_has (a := a) (q := 0) (s := e_) ih.one ih2.one;rw [rnd_has] at h7;exact pd1 rfl (cx (by decide) h7)
 | e_or h h2 ih ih2 => exact pd1 rfl ⟨⟨fun m1 m2 m3 hS => x_or (k := 2) (o_or ih.one ih2.one) m1 m2 m3 hS⟩, lv_or⟩
 | e_and h h2 ih ih2 => exact pd1 rfl ⟨⟨fun m1 m2 m3 hS => x_and (k := 3) (o_and ih.one ih2.one) m1 m2 m3 hS⟩, lv_and⟩
 | @e_op g a s k x y xw yw ho h h2 ih ih2 =>
  refine pd1 rfl ⟨⟨fun m1 m2 m3 hS => x_op (k := k) ?_ m1 m2 m3 hS⟩, lv_op ho⟩
  have hk : k = 1 ∨ k = 4 ∨ k = 5 ∨ k = 6 ∨ k = 7 := by
   unfold opL at ho;split at ho; omega
   split at ho; omega
   split at ho; omega
   split at ho; omega
   split at ho; omega
   cases ho
  rcases hk with rfl | rfl | rfl | rfl | rfl
  · exact o_op1 ih.one ih2.one
  · exact o_op4 ih.one ih2.one
  · exact o_op5 ih.one ih2.one
  · exact o_op6 ih.one ih2.one
  · exact o_op7 ih.one ih2.one
 | e_un hs h ih => exact pd1 rfl ⟨⟨fun m1 m2 m3 hS => x_op (k := 9) (o_un ih.one) m1 m2 m3 hS⟩, lv_un⟩
 | @ex_np g h k l n ws hd hl hg ih =>
  cases n
  have h9 := exp_c (least := l) ih.one.2 ih.one.1;rw [rndF hl] at h9;exact pd1 rfl h9
 | @ex_par g h k l n ws hd hl hg ih =>
  cases n
  have h9 := exp_c (least := l) ih.one.2 ih.one.1;rw [rndT hl] at h9;exact pd1 rfl h9
 | rule h h2 ih ih2 => exact pd1 rfl (rule_c ih.one ih2.one)
 | p_any => exact pd1 rfl (p2 (by decide) ⟨fun m1 m2 m3 hS => q_any m1 m2 m3 hS⟩)
 | p_var h => exact pd1 rfl (p2 (by decide) ⟨fun m1 m2 m3 hS => q_var m1 m2 m3 hS⟩)
 | p_int hN => exact pd1 rfl (p2 (by decide) ⟨fun m1 m2 m3 hS => q_int hN m1 m2 m3 hS⟩)
 | p_neg h0 hN => exact pd1 rfl (p2 (by decide) ⟨fun m1 m2 m3 hS => q_neg h0 hN m1 m2 m3 hS⟩)
 | p_str hs => exact pd1 rfl (p2 (by decide) ⟨fun m1 m2 m3 hS => q_str hs m1 m2 m3 hS⟩)
 | p_con hp => exact pd1 rfl (p24n (q_con0 (.inl ⟨_, hp⟩)))
 | p_tf h => exact pd1 rfl (p24n (q_con0 (.inr ⟨h, rfl⟩)))
 | p_arg hp h ih => exact pd1 rfl (p24 ⟨fun m1 m2 m3 hS => q_con (.inl ⟨_, hp⟩) (manyc1 ih.one (h.ne rfl)) m1 m2 m3 hS⟩)
 | p_unit => exact pd1 rfl (p2 (by decide) ⟨fun m1 m2 m3 hS => q_tup rowc0 m1 m2 m3 hS⟩)
 | p_tup h ih => exact pd1 rfl (p2 (by decide) ⟨fun m1 m2 m3 hS => q_tup ih m1 m2 m3 hS⟩)
 | p_nil => exact pd1 rfl (p2 (by decide) ⟨fun m1 m2 m3 hS => q_list rowc0 m1 m2 m3 hS⟩)
 | p_list h ih => exact pd1 rfl (p2 (by decide) ⟨fun m1 m2 m3 hS => q_list ih m1 m2 m3 hS⟩)
 | p_cons h h2 ih ih2 => exact pd1 rfl (p27 ⟨fun m1 m2 m3 hS => q_cons ih.one ih2.one m1 m2 m3 hS⟩)
 | p_as hs h ih => exact pd1 rfl (p2 (by decide) ⟨fun m1 m2 m3 hS => q_as ih.one m1 m2 m3 hS⟩)
 | p_has h h2 ih ih2 => exact pd1 rfl (p2 (by decide) ⟨fun m1 m2 m3 hS => q_has ih.one ih2.one m1 m2 m3 hS⟩)
 | @pt_np g h k l n ws hd hl hg ih =>
  have h9 := ih.one l;rw [rndF hl] at h9;exact pd1 rfl h9
 | @pt_par g h k l n ws hd hl hg ih =>
  have h9 := ih.one l;rw [rndT hl] at h9;exact pd1 rfl h9
 | t_var h => exact pd1 rfl (t2 (by decide) ⟨fun m1 m2 hS => t_var m1 m2 hS⟩)
 | t_con hp => exact pd1 rfl (t2 (by decide) ⟨fun m1 m2 hS => t_con (.inl ⟨_, hp⟩) m1 m2 hS⟩)
 | t_one h hp ih => exact pd1 rfl (t2 (by decide) ⟨fun m1 m2 hS => t_one ih.one (.inl ⟨_, hp⟩) m1 m2 hS⟩)
 | t_more h hp ih => exact pd1 rfl (t2 (by decide) ⟨fun m1 m2 hS => by rw [← rnd_app]; exact t_more ih (.inl ⟨_, hp⟩) m1 m2 hS⟩)
 | t_tup h ih => exact pd1 rfl (fun m => by rw [← dec1]; exact typ_tup ⟨fun m1 m2 hS => t_tup ih m1 m2 hS⟩)
 | t_arr h h2 ih ih2 => exact pd1 rfl (fun m => typ_arr ⟨fun m1 m2 hS => t_arr ih.one ih2.one m1 m2 hS⟩)
 | @ty_np g h k l n ws hd hl hg ih =>
  have h9 := ih.one l;rw [rndF hl] at h9;exact pd1 rfl h9
 | @ty_par g h k l n ws hd hl hg ih =>
  have h9 := ih.one l;rw [rndT hl] at h9;exact pd1 rfl h9
 | d_val h h2 ih ih2 => exact pd1 rfl (d_val ih.one ih2.one)
 | d_fun h ih => exact pd1 rfl (d_fun ih)
 | fb hs h h2 ih ih2 => exact pd1 rfl (d_fb (ih rfl) ih2.one)
 | @fb_has g a b s p l e t lw ew tw hX hs h h2 h3 ih ih2 ih3 =>
  have h7 := k_has (a := b) (q := 0) (s := e_) ih2.one ih3.one;rw [rnd_has] at h7;have h8 := cx (by decide) h7;have h9 := exp_c (least := 0) h8.2 h8.1;rw [rndF (Nat.zero_le _)] at h9;exact pd1 rfl (d_fb (ih rfl) h9)
 | d_type hw h h2 ih ih2 => exact pd1 rfl (d_type (ih _ _ _) ih2.one)
 | d_dx hw h ih => exact pd1 rfl ih.one.1
 | dx_data h ih => exact pd1 rfl ⟨d_data ih, .inl rfl⟩
 | dx_exn0 h => exact pd1 rfl ⟨d_exn0, .inr rfl⟩
 | dx_exn1 h h2 ih => exact pd1 rfl ⟨d_exn1 ih.one, .inr rfl⟩
 | db h h2 ih ih2 => exact pd1 rfl (d_db (ih _ _ _) ih2)
 | con0 h => exact pd1 rfl d_con0
 | con1 h h2 ih => exact pd1 rfl (d_con1 ih.one)
 | d_str0 hw h h2 ih => exact pd1 rfl (d_str0 ih.one)
 | d_str1 hw h hc h2 h3 ih ih2 =>
  rcases hc with ⟨rfl, rfl⟩ | ⟨rfl, rfl⟩
  · exact pd1 rfl (d_str1 ih.one ih2.one)
  · exact pd1 rfl (d_str2 ih.one ih2.one)
 | d_sig hw h h2 ih => exact pd1 rfl (d_sig ih.one)
 | d_open hp => exact pd1 rfl (d_open (.inl ⟨_, hp⟩))
 | b_nil => exact pd1 rfl (m_body manyc0)
 | b_str h ih => exact pd1 rfl (m_body (ih rfl))
 | b_path hp => exact pd1 rfl (m_path (.inl ⟨_, hp⟩))
 | s_body h ih => exact pd1 rfl (m_sig (ih rfl))
 | s_name h => exact pd1 rfl (m_name (.inl ⟨4, .up h⟩))
 | sp_val h h2 ih => exact pd1 rfl (m_val ih.one)
 | @sp_type g a s l hw h ih => exact pd1 rfl (m_type0 (by have h9 := ih 50 a []; rw [List.append_nil] at h9; exact h9))
 | sp_type1 h h2 ih ih2 => exact pd1 rfl (m_type1 (ih _ _ _) ih2.one)
 | @sp_dx g n ws h ih =>
  cases n
  exact pd1 rfl (m_dec ih.one.2 ih.one.1)
 | sp_str h h2 ih => exact pd1 rfl (m_str ih.one)
 | tv h => exact pd1 rfl rfl
 | h_none h => exact fun k a r => head_0
 | @h_one g s v ws h h2 ih =>
  intro k a r;have h9 := head_v (k := k) (a := a) (s := s) (V := [v]) (K := r) (by simp) (rowc1 ih.one);exact h9
 | @h_more g s x y l ws h h2 ih =>
  intro k a r;have h9 := head_v (k := k) (a := a) (s := s) (V := x :: y :: l) (K := r) (by simp) (tvs ih);rw [show decide ((1 : Int) < ((x :: y :: l).length : Int)) = true from by simp; omega] at h9;have e : rnd true ws ++ [s] = s_lp :: (ws ++ [s_rp, s]) := by simp [rnd]
  rw [e] at h9;exact h9
abbrev Kx (n : Ty) : Prop := n.k ≠ 0 ∧ n.k ≠ 12
def BB (k : Int) (n : Ty) (ws : List ByteArray) : Prop := CR 60 (some (.int .i64 k)) n ws ∧ (km n.k n.s n.args.length : Int) = k ∧ Kx n
def bp (k : Nat) : Int := if k = 2 then 10 else k
def RS1 : Cat → Ty → List ByteArray → Prop
 | .e0 k, n, ws => BB k n ws
 | .ex k, n, ws => CR 26 (some (.int .i64 k)) n ws ∧ Kx n
 | .rule, n, ws => CR 10 none n ws
 | .p0 k, n, ws => BB (bp k) n ws
 | .pt k, n, ws => (k ≤ 2 → CR 26 (some (.int .i64 k)) n ws) ∧ Kx n
 | .t0 k, n, ws => BB (bp k) n ws
 | .ty k, n, ws => (k ≤ 2 → CR 26 (some (.int .i64 k)) n ws) ∧ Kx n
 | .row _ _, _, _ => True
 | .many _, _, _ => True
 | .head _, _, _ => True
 | _, n, ws => BB 10 n ws
theorem BB.sh {k l : Int} {n : Ty} {ws : List ByteArray} (h : BB k n ws) : CR 26 (some (.int .i64 l)) n (rnd (decide (k < l)) ws) := wshown h.2.1 h.1
theorem BB.s0 {n : Ty} {ws : List ByteArray} (h : BB 10 n ws) : CR 26 (some (.int .i64 0)) n ws := by have := h.sh (l := 0); simpa [rnd] using this
theorem pone {n : Ty} {ws : List ByteArray} (h : CR 26 (some (.int .i64 0)) n ws) (hk : Kx n) : CR 10 none n ws := by cases n; exact p_one hk h
theorem BB.p {n : Ty} {ws : List ByteArray} (h : BB 10 n ws) : CR 10 none n ws := pone h.s0 h.2.2
theorem RowC.mono {P Q : Ty → List ByteArray → Prop} {s : ByteArray} {K : List Ty} {ws : List ByteArray} (h : RowC P s K ws) (hm : ∀ n w, P n w → Q n w) : RowC Q s K ws := by
 obtain ⟨wss, h1, h2, h3⟩ := h.ex;exact ⟨wss, h1, h2, fun i hi hi2 => hm _ _ (h3 i hi hi2)⟩
theorem ManyC.mono {P Q : Ty → List ByteArray → Prop} {K : List Ty} {ws : List ByteArray} (h : ManyC P K ws) (hm : ∀ n w, P n w → Q n w) : ManyC Q K ws := by
 obtain ⟨wss, h1, h2, h3⟩ := h.ex;exact ⟨wss, h1, h2, fun i hi hi2 => ⟨hm _ _ (h3 i hi hi2).1, (h3 i hi hi2).2⟩⟩
def RD : Cat → List Ty → List ByteArray → Prop
 | .row c s, l, ws => RowC (RS1 c) s l ws
 | .many c, l, ws => isMany c = false → ManyC (RS1 c) l ws
 | .head s, l, ws => ∀ (k a : Int) (r : List Ty), CR 158 none (.mk k a s l.length (l ++ r)) ws
 | c, l, ws => ∀ n, l = [n] → RS1 c n ws
theorem RD.one {c : Cat} {n : Ty} {ws : List ByteArray} (h : RD c [n] ws) : RS1 c n ws := by
 cases c <;> first | exact trivial | exact h n rfl
theorem rd1 {c : Cat} {n : Ty} {ws : List ByteArray} (hc : sg c = true) (h : RS1 c n ws) : RD c [n] ws := by
 cases c <;> first | (simp [sg] at hc; done) | exact fun m e => by cases e; exact h
theorem bb {k a q X : Int} {s : ByteArray} {K : List Ty} {ws : List ByteArray} (h : CR 60 (some (.int .i64 X)) (.mk k a s q K) ws) (hb : (km k s K.length : Int) = X := by simp [km, bp]) (hk : k ≠ 0 ∧ k ≠ 12 := by decide) : BB X (.mk k a s q K) ws := ⟨h, hb, hk⟩
theorem binds10 {k : Int} {s : ByteArray} {c : Nat} (h : 34 ≤ k) : km k s c = 10 := by
 unfold km;rw [if_neg (by omega), if_neg (by omega), if_neg (by omega), if_neg (by omega), if_neg (by omega), if_neg (by omega), if_neg (by omega)]
theorem vl {k a q : Int} {s : ByteArray} {K : List Ty} {ws : List ByteArray} (h : CR 119 none (.mk k a s q K) ws) (hk : 34 ≤ k ∧ k ≠ 46 ∧ k ≠ 48 := by decide) : BB 10 (.mk k a s q K) ws := by
 exact ⟨b_decl hk h, by show (km k s K.length : Int) = 10; rw [binds10 hk.1]; rfl, by show k ≠ 0; omega, by show k ≠ 12; omega⟩
theorem opL_bind {k : Nat} {s : ByteArray} (h : s ∈ opL k) : kF s = k := by
 unfold opL at h;split at h
 · subst k; simp at h; subst h; decide +kernel
 split at h
 · subst k; simp at h; rcases h with rfl | rfl | rfl | rfl | rfl | rfl <;> decide +kernel
 split at h
 · subst k; simp at h; subst h; decide +kernel
 split at h
 · subst k; simp at h; rcases h with rfl | rfl | rfl <;> decide +kernel
 split at h
 · subst k; simp at h; rcases h with rfl | rfl | rfl <;> decide +kernel
 · cases h
theorem prw {k : Nat} {s : ByteArray} {ws : List ByteArray} (h : PathW k s ws) (hw : Wz ws) : PathR s ws := PathT.r (.inl ⟨k, h⟩) hw
theorem ptf {s : ByteArray} (h : s = w_true ∨ s = w_false) (hw : Wz [s]) : PathR s [s] := PathT.r (.inr ⟨h, rfl⟩) hw
theorem mrow {c : Cat} {s : ByteArray} {K : List Ty} {ws : List ByteArray} (h : RowC (RS1 c) s K ws) (hm : ∀ n w, RS1 c n w → CR 10 none n w) (hs : 0 < s.size ∧ s.size ≤ 1000 := by decide) : MR s K ws := MR.row (h.mono hm) hs
theorem mx {n : Ty} {w : List ByteArray} (h : RS1 (.ex 0) n w) : CR 10 none n w := pone h.1 h.2
theorem mp {n : Ty} {w : List ByteArray} (h : RS1 (.pt 0) n w) : CR 10 none n w := pone (h.1 (by decide)) h.2
theorem mt {n : Ty} {w : List ByteArray} (h : RS1 (.ty 0) n w) : CR 10 none n w := pone (h.1 (by decide)) h.2
theorem rprintD {c : Cat} {g : Nat} {l : List Ty} {ws : List ByteArray} (h : D c g l ws) : RD c l ws := by
 induction h with
 | row1 h ih => exact rowc1 ih.one
 | rowS h h2 ih ih2 => exact rowcS ih.one ih2
 | mnil => exact fun _ => manyc0
 | mcons h h2 ih ih2 => exact fun hm => manycS ih.one (h.ne hm) (ih2 hm)
 | e_int hN => exact rd1 rfl (bb (b_int hN))
 | e_str hs => exact rd1 rfl (bb (b_str hs))
 | e_path hp =>
  rcases path_kind hp with rfl | rfl
  · exact rd1 rfl (bb (b_path3 (prw hp)))
  · exact rd1 rfl (bb (b_path4 (prw hp)))
 | e_tf h => exact rd1 rfl (bb (b_path4 (ptf h)))
 | e_unit => exact rd1 rfl (bb (b_tup (MR.row rowc0 (by decide))))
 | e_tup h ih => exact rd1 rfl (bb (b_tup (mrow ih fun _ _ => mx)))
 | e_seq h ih => exact rd1 rfl (bb (b_seq (mrow ih fun _ _ => mx)))
 | e_nil => exact rd1 rfl (bb (b_list (MR.row rowc0 (by decide))))
 | e_list h ih => exact rd1 rfl (bb (b_list (mrow ih fun _ _ => mx)))
 | e_app h h2 ih ih2 => exact rd1 rfl (bb (b_app ih.one.1 ih2.one.1))
 | e_fn h h2 ih ih2 => exact rd1 rfl (bb (b_fn (ih.one.1 (by decide)) ih2.one.1))
 | e_if h h2 h3 ih ih2 ih3 => exact rd1 rfl (bb (b_if ih.one.1 ih2.one.1 ih3.one.1))
 | e_raise h ih => exact rd1 rfl (bb (b_raise ih.one.1))
 | e_case h h2 ih ih2 => exact rd1 rfl (bb (b_case ih.one.1 (mrow ih2 fun _ _ h => h)))
 | e_try h h2 ih ih2 => exact rd1 rfl (bb (b_try ih.one.1 (mrow ih2 fun _ _ h => h)))
 | e_let h h2 ih ih2 => exact rd1 rfl (bb (b_let (MR.many ((ih rfl).mono fun _ _ h => h.p)) ih2.one.1))
 | e_has h h2 ih ih2 => exact rd1 rfl (bb (b_has ih.one.1 (ih2.one.1 (by decide))))
 | e_or h h2 ih ih2 => exact rd1 rfl (bb (b_or ih.one.1 ih2.one.1))
 | e_and h h2 ih ih2 => exact rd1 rfl (bb (b_and ih.one.1 ih2.one.1))
 | @e_op g a s k x y xw yw ho h h2 ih ih2 =>
  have hk : k = 1 ∨ k = 4 ∨ k = 5 ∨ k = 6 ∨ k = 7 := by
   unfold opL at ho;split at ho; omega
   split at ho; omega
   split at ho; omega
   split at ho; omega
   split at ho; omega
   cases ho
  have hb : (km 18 s 2 : Int) = k := by simp [km, opL_bind ho]
  rcases hk with rfl | rfl | rfl | rfl | rfl
  · exact rd1 rfl (bb (b_op (w_op1 ih.one.1 ih2.one.1)) hb)
  · exact rd1 rfl (bb (b_op (w_op4 ih.one.1 ih2.one.1)) hb)
  · exact rd1 rfl (bb (b_op (w_op5 ih.one.1 ih2.one.1)) hb)
  · exact rd1 rfl (bb (b_op (w_op6 ih.one.1 ih2.one.1)) hb)
  · exact rd1 rfl (bb (b_op (w_op7 ih.one.1 ih2.one.1)) hb)
 | e_un ho h ih => exact rd1 rfl (bb (b_op (w_un ih.one.1)))
 | @ex_np g h k l n ws hh h2 h3 ih =>
  refine rd1 rfl ⟨?_, ih.one.2.2⟩;have := ih.one.sh (l := (l : Int))
  rwa [decide_eq_false (by omega)] at this
 | @ex_par g h k l n ws hh h2 h3 ih =>
  refine rd1 rfl ⟨?_, ih.one.2.2⟩;have := ih.one.sh (l := (l : Int))
  rwa [decide_eq_true (by omega), qz] at this
 | rule h h2 ih ih2 => exact rd1 rfl (p_rule (ih.one.1 (by decide)) ih2.one.1)
 | p_any => exact rd1 rfl (bb b_any)
 | p_var hp => exact rd1 rfl (bb (b_path21 hp.r))
 | p_int hN => exact rd1 rfl (bb (b_pint hN))
 | p_neg h0 hN => exact rd1 rfl (bb (b_pneg h0 hN))
 | p_str hs => exact rd1 rfl (bb (b_pstr hs))
 | p_con hp => exact rd1 rfl (bb (b_con (prw hp)))
 | p_tf h => exact rd1 rfl (bb (b_con (ptf h)))
 | p_arg hp h ih => exact rd1 rfl (bb (b_arg (prw hp) (ih.one.1 (by decide))))
 | p_unit => exact rd1 rfl (bb (b_ptup (MR.row rowc0 (by decide))))
 | p_tup h ih => exact rd1 rfl (bb (b_ptup (mrow ih fun _ _ => mp)))
 | p_nil => exact rd1 rfl (bb (b_plist (MR.row rowc0 (by decide))))
 | p_list h ih => exact rd1 rfl (bb (b_plist (mrow ih fun _ _ => mp)))
 | p_cons h h2 ih ih2 => exact rd1 rfl (bb (b_cons (ih.one.1 (by decide)) (ih2.one.1 (by decide))))
 | p_as hp h ih => exact rd1 rfl (bb (b_as (ih.one.1 (by decide))))
 | p_has h h2 ih ih2 => exact rd1 rfl (bb (b_phas (ih.one.1 (by decide)) (ih2.one.1 (by decide))))
 | @pt_np g h k l n ws hh h2 h3 ih =>
  refine rd1 rfl ⟨fun hl => ?_, ih.one.2.2⟩;have := ih.one.sh (l := (l : Int))
  rwa [decide_eq_false (by unfold bp; split <;> omega)] at this
 | @pt_par g h k l n ws hh h2 h3 ih =>
  refine rd1 rfl ⟨fun hl => ?_, ih.one.2.2⟩;have := ih.one.sh (l := (l : Int))
  rwa [decide_eq_true (by unfold bp; split <;> omega), qz] at this
 | t_var hp => exact rd1 rfl (bb (b_path30 hp.r))
 | t_con hp => exact rd1 rfl (bb (b_ycon (n_0 (prw hp))))
 | t_one h hp ih => exact rd1 rfl (bb (b_ycon (n_1 (prw hp) (ih.one.1 (by decide)))))
 | t_more h hp ih => exact rd1 rfl (bb (b_ycon (n_2 (prw hp) (mrow ih fun _ _ => mt))))
 | t_tup h ih => exact rd1 rfl (bb (b_ytup (ih.mono fun _ _ h => h.1 (by decide))))
 | t_arr h h2 ih ih2 => exact rd1 rfl (bb (b_arr (ih.one.1 (by decide)) (ih2.one.1 (by decide))))
 | @ty_np g h k l n ws hh h2 h3 ih =>
  refine rd1 rfl ⟨fun hl => ?_, ih.one.2.2⟩;have := ih.one.sh (l := (l : Int))
  rwa [decide_eq_false (by unfold bp; split <;> omega)] at this
 | @ty_par g h k l n ws hh h2 h3 ih =>
  refine rd1 rfl ⟨fun hl => ?_, ih.one.2.2⟩;have := ih.one.sh (l := (l : Int))
  rwa [decide_eq_true (by unfold bp; split <;> omega), qz] at this
 | d_val h h2 ih ih2 => exact rd1 rfl (vl (d_val2 (ih.one.1 (by decide)) ih2.one.1))
 | d_fun h ih => exact rd1 rfl (vl (d_fun2 (mrow ih fun _ _ h => h.p)))
 | fb hn h h2 ih ih2 => exact rd1 rfl (vl (d_fb2 ((ih rfl).mono fun _ _ h => h.1 (by decide)) ih2.one.1))
 | fb_has hx hn h h2 h3 ih ih2 ih3 => exact rd1 rfl (vl (d_fb2 ((ih rfl).mono fun _ _ h => h.1 (by decide)) (bb (b_has ih2.one.1 (ih3.one.1 (by decide)))).s0))
 | d_type hw h h2 ih ih2 => exact rd1 rfl (vl (d_type2 (ih 37 _ [_]) (ih2.one.1 (by decide))))
 | d_dx hw h ih => exact rd1 rfl ih.one
 | dx_data h ih => exact rd1 rfl (vl (d_data2 (mrow ih fun _ _ h => h.p)))
 | dx_exn0 hn => exact rd1 rfl (vl (d_exn2 o_0))
 | dx_exn1 hn h ih => exact rd1 rfl (vl (d_exn2 (o_1 (ih.one.1 (by decide)))))
 | db h h2 ih ih2 => exact rd1 rfl (vl (d_bind2 (ih 39 _ (_ :: _)) (mrow ih2 fun _ _ h => h.p)))
 | con0 hn => exact rd1 rfl (vl (d_con2 o_0))
 | con1 hn h ih => exact rd1 rfl (vl (d_con2 (o_1 (ih.one.1 (by decide)))))
 | d_str0 hw hn h ih => exact rd1 rfl (vl (d_str20 ih.one.s0))
 | d_str1 hw hn hc h h2 ih ih2 =>
  rcases hc with ⟨rfl, rfl⟩ | ⟨rfl, rfl⟩
  · exact rd1 rfl (vl (d_str21 ih.one.s0 ih2.one.s0))
  · exact rd1 rfl (vl (d_str22 ih.one.s0 ih2.one.s0))
 | d_sig hw hn h ih => exact rd1 rfl (vl (d_sig2 ih.one.s0))
 | d_open hp => exact rd1 rfl (vl (d_open2 (prw hp)))
 | b_nil => exact rd1 rfl (vl (d_body2 (MR.many manyc0)))
 | b_str h ih => exact rd1 rfl (vl (d_body2 (MR.many ((ih rfl).mono fun _ _ h => h.p))))
 | b_path hp => exact rd1 rfl (bb (b_path46 (prw hp)))
 | s_body h ih => exact rd1 rfl (vl (d_sign2 (MR.many ((ih rfl).mono fun _ _ h => h.p))))
 | s_name hn => exact rd1 rfl (bb (b_path48 hn.r))
 | sp_val hn h ih => exact rd1 rfl (vl (g_val2 (ih.one.1 (by decide))))
 | sp_type h ih =>
  have h9 := ih 50 (by assumption) [];rw [List.append_nil] at h9;exact rd1 rfl (vl (g_type0 h9))
 | sp_type1 h h2 ih ih2 => exact rd1 rfl (vl (g_type2 (ih 50 _ [_]) (ih2.one.1 (by decide))))
 | sp_dx h ih => exact rd1 rfl ih.one
 | sp_str hn h ih => exact rd1 rfl (vl (g_str2 ih.one.s0))
 | tv hn => exact rd1 rfl (bb (b_path30 hn.r))
 | h_none hn => exact fun k a r => h_f (L9 := []) (by simp) (MR.row rowc0 (by decide))
 | h_one hn h ih => exact fun k a r => h_f (L9 := [_]) (by simp) (MR.row (rowc1 ih.one.p) (by decide))
 | h_more hn h ih => exact fun k a r => h_t (by simp) (mrow ih fun _ _ h => h.p)
theorem rtop_print {k : Nat} {n : Ty} {ws : List ByteArray} (h : TopG k n ws) : CR 10 none n ws := by
 unfold TopG at h;split at h
 · obtain ⟨l, rfl, h⟩ := h;exact p_prog (MR.many ((rprintD h rfl).mono fun _ _ h => h.p))
 split at h
 · exact mx (rprintD h).one
 split at h
 · exact mp (rprintD h).one
 · exact mt (rprintD h).one
open Go.RowKit Go.Shelf
theorem join_jb : ∀ (ws : List ByteArray), Lib.join (ws.map (·.data.toList)) [32] = jb ws
 | [] => rfl
 | [w] => by simp [Lib.join_one, jb]
 | w :: x :: r => by
  have h := join_jb (x :: r)
  rw [List.map_cons, Lib.join_cons] at h
  rw [List.map_cons, Lib.join_cons, List.map_cons]
  show w.data.toList ++ Lib.joinTail [32] (x.data.toList :: r.map (·.data.toList)) = w.data.toList ++ 32 :: jb (x :: r)
  rw [← h]
  simp [Lib.joinTail]
theorem join_g {B9 : Nat} (l : List ByteArray) (v : Value) (u : World) (hown : u.ownsRow B9 9 1 v l.length (l.map Value.string)) (hl : jl l ≤ 4000000000) : Calls Tryz.prog 19 #[v, .string ⟨#[32]⟩] u fun e w' => e = .returned (.string ⟨(jb l).toArray⟩) ∧ Below u.heap.size u w' := by
 have h1 := jb_len l;have h2 := jl_len l;rcases hown.2 with ⟨rfl, h0⟩ | ⟨g, cap, cur, rfl, hB, hg, hc, -⟩
 · have : l = [] := List.eq_nil_of_length_eq_zero h0;subst this;exact (Any.strings_Join_none Tryz.lays156 extraJ none 0 ⟨#[32]⟩ u).mono fun e w' ⟨he, hw⟩ => ⟨he, hw ▸ Below.refl _ _⟩
 · have c : Calls Tryz.prog 19 #[.slice (some ⟨g, 0, none⟩) l.length cap, .string ⟨#[32]⟩] u fun e w' => e = .returned (.string ⟨(Lib.join (l.map (·.data.toList)) [32]).toArray⟩) ∧ Below u.heap.size u w' := Any.strings_Join Tryz.lays156 extraJ g 0 cap l ⟨#[32]⟩ u (fun j x hx => by
    have h9 := hown.cells (g := g) rfl j (.string x) (by rw [List.getElem?_map, hx]; rfl);have hadd : (⟨g, 0, none⟩ : Addr).add j = ⟨g, 0 + j, none⟩ := by unfold Addr.add; split <;> simp_all
    rw [hadd] at h9; exact h9) (lt_of_block hg) (by omega) hc (by show (Lib.join (l.map (·.data.toList)) [32]).length ≤ _; rw [join_jb]; omega)
   rw [join_jb] at c;exact c
theorem print_any {n : Ty} {ws : List ByteArray} (h1 : CF 18 none n ws) {w : World} {ao : Option Addr} {cap : Nat} (hg : Gl w) (h9 : 9 ≤ w.heap.size) (hS : SlD w (fun b => b < w.heap.size) n.args ao cap) (hl : jl ws ≤ 4000000000) :
 Calls Tryz.prog 8 #[.agg (jh n ao cap)] w fun e w' => e = .returned (.string ⟨(jb ws).toArray⟩) ∧ Below w.heap.size w w' := by
 obtain ⟨V1, hV1⟩ : ∃ V1, V1 = w.alloc (.cells (jh n ao cap) 26) := ⟨_, rfl⟩
 obtain ⟨V2, hV2⟩ : ∃ V2, V2 = V1.alloc (.cells #[.slice none 0 0] 46) := ⟨_, rfl⟩
 have hs1 : V1.heap.size = w.heap.size + 1 := by rw [hV1, World.size_alloc]
 have hb1 : Below w.heap.size w V1 := by rw [hV1]; exact jk (Below.refl _ _) _
 have hb2 : Below w.heap.size w V2 := by rw [hV2]; exact jk hb1 _
 have hr2 : V2.heap[V1.heap.size]? = some (.cells #[.slice none 0 0] 46 (0, 0)) := by rw [hV2]; exact heap_alloc_new V1 _
 have G : Gt w.heap.size V1.heap.size (.slice none 0 0) V2 [] (ws ++ []) V2 [] := ⟨⟨⟨_, ⟨hr2, World.ownsRow_nil _ _ _ _, by omega, hb2.size⟩, FrP.refl _ _ _, fun x hx => by cases hx⟩, fun g e => by simp [Value.ownBlock] at e, hg.of fun b hb => hb2.block b (by omega), h9, hb2.size⟩, by simp only [jl, jL]; omega⟩;have HS : Hid (SlD V2 (fun b => b < w.heap.size) n.args ao cap) := lh (hS.keep fun b hb off => hb2.cell (p := ⟨b, off, none⟩) hb);have c := jM (t := 26) (b := w.heap.size) (W := V2) (by rw [hV2, hV1]; exact js (heap_alloc_new w (.cells (jh n ao cap) 26)) _);have c1 := jM (t := 26) (b := w.heap.size) (W := V1) (by rw [hV1]; exact heap_alloc_new w (.cells (jh n ao cap) 26));have G := lh G;have H1 := lh h1;have HB := lh hb2;have HL := lh hl;unfold jh at hV1;clear h1 hg h9 hS hl hb1 hb2 hr2 hs1
 show Calls Tryz.prog 8 #[.agg #[.int .i64 n.k, .int .i64 n.n, .string n.s, .int .i64 n.q, .slice ao n.args.length cap]] w _
 go_enter Tryz.func8, Tryz.ntmps8
 go_upto_region 1 with fail
 rw [← hV1];clear hV1 c1;go_upto_region 2 with fail
 rw [← hV2];clear hV2;go_upto_region 3 with (go_at_call 18; refine G.out.call H1.out HS.out ?_; intro u1 G)
 obtain ⟨v, hps, hfr, -⟩ := G.out.g.st;have d : u1.cell? ⟨V1.heap.size, 0, none⟩ = some v := ja hps.row 0;have HJ := lh (join_g _ v u1 hps.own (by rw [List.nil_append]; exact HL.out));have HBU : Hid (Below w.heap.size w u1) := lh ⟨hfr.os.trans HB.out.os, hfr.tape.trans HB.out.tape, hfr.output.trans HB.out.output, Nat.le_trans HB.out.size hfr.size, fun b hb => (hfr.block b (Nat.lt_of_lt_of_le hb HB.out.size) (by have := hps.low; omega) (by simp [Value.ownBlock])).trans (HB.out.block b hb)⟩;clear hps hfr c;go_wp2_with (go_at_call 19; refine HJ.out.mono ?_; rintro e u2 ⟨rfl, hb⟩; have HB2 := lh (HBU.out.trans (hb.mono HBU.out.size)); clear hb)
 go_ret
 exact ⟨by simp, HB2.out⟩
theorem e0_kind {k g : Nat} {n : Ty} {ws : List ByteArray} (h : D (.e0 k) g [n] ws) : 1 ≤ n.k ∧ n.k ≤ 19 ∧ n.k ≠ 12 := by
 cases h with
 | e_path hp => rcases path_kind hp with rfl | rfl <;> simp [Ty.k]
 | _ => simp [Ty.k]
theorem p0_kind {k g : Nat} {n : Ty} {ws : List ByteArray} (h : D (.p0 k) g [n] ws) : 20 ≤ n.k ∧ n.k ≤ 29 := by cases h <;> simp [Ty.k]
theorem t0_kind {k g : Nat} {n : Ty} {ws : List ByteArray} (h : D (.t0 k) g [n] ws) : 30 ≤ n.k ∧ n.k ≤ 33 := by cases h <;> simp [Ty.k]
theorem top_print {k : Nat} {n : Ty} {ws : List ByteArray} (h : TopG k n ws) : CF 18 none n ws := by
 unfold TopG at h;split at h
 · obtain ⟨l, rfl, h⟩ := h;exact any_prog (printD h rfl)
 split at h
 · have h2 : 1 ≤ n.k ∧ n.k ≤ 19 ∧ n.k ≠ 12 := by cases h with | ex_np h _ _ => exact e0_kind h | ex_par h _ _ => exact e0_kind h
   cases n
   exact any_exp h2 (printD h).one
 split at h
 · have h2 : 20 ≤ n.k ∧ n.k ≤ 29 := by cases h with | pt_np h _ _ => exact p0_kind h | pt_par h _ _ => exact p0_kind h
   cases n
   exact any_pat h2 (printD h).one
 · have h2 : 30 ≤ n.k ∧ n.k ≤ 33 := by cases h with | ty_np h _ _ => exact t0_kind h | ty_par h _ _ => exact t0_kind h
   cases n
   exact any_typ h2 (printD h).one
inductive At where
 | nv (b : Nat) (k a s q l : Value)
 | tv (b : Nat) (k a s q : Value)
 | gv (b t : Nat) (row : Array Value)
 | kd (l : List Ty) (ao : Option Addr) (cap : Nat)
 | ow (v : Value) (l : List Ty)
 | pw (e : TypeId) (size : Nat) (v : Value) (n : Nat) (xs : List Value)
def At.wr : At → Nat → Prop
 | .nv b .. => fun x => x = b
 | .tv b .. => fun x => x = b
 | .gv b .. => fun x => x = b
 | .kd .. => fun _ => False
 | .ow v _ => fun x => v.ownBlock = some x
 | .pw _ _ v _ _ => fun x => v.ownBlock = some x
def At.ok (w wk : World) (X : Nat → Prop) : At → Prop
 | .nv b k a s q l => Vb w b 26 #[k, a, s, q, l] wk ∧ ¬ X b
 | .tv b k a s q => Vb w b 59 #[k, a, s, q] wk ∧ ¬ X b
 | .gv b t row => Vb w b t row wk ∧ ¬ X b
 | .kd l ao cap => Kd w wk X l ao cap
 | .ow v l => Ow w wk X v l
 | .pw e size v n xs => Pw w wk X e size v n xs
theorem Kd.mono {w wk : World} {X Y : Nat → Prop} {l : List Ty} {ao : Option Addr} {cap : Nat} (h : Kd w wk X l ao cap) (hy : ∀ x, Y x → X x) : Kd w wk Y l ao cap := h.fresh fun a ha => .inl (hy a ha)
theorem Ow.mono {w wk : World} {X Y : Nat → Prop} {l : List Ty} {v : Value} (h : Ow w wk X v l) (hy : ∀ x, Y x → X x) : Ow w wk Y v l := h.fresh fun a ha => .inl (hy a ha)
theorem At.ok.fresh {w wk : World} {X Y : Nat → Prop} : ∀ {a : At}, a.ok w wk X → (∀ x, Y x → X x ∨ wk.heap.size ≤ x) → a.ok w wk Y
 | .nv .., h, hy => ⟨h.1, fun e => (hy _ e).elim h.2 (fun h9 => by have := lt_of_block h.1.row; omega)⟩
 | .tv .., h, hy => ⟨h.1, fun e => (hy _ e).elim h.2 (fun h9 => by have := lt_of_block h.1.row; omega)⟩
 | .gv .., h, hy => ⟨h.1, fun e => (hy _ e).elim h.2 (fun h9 => by have := lt_of_block h.1.row; omega)⟩
 | .kd .., h, hy => Kd.fresh h hy
 | .ow .., h, hy => Ow.fresh h hy
 | .pw .., h, hy => Pw.fresh h hy
theorem At.ok.mono {w wk : World} {X Y : Nat → Prop} {a : At} (h : a.ok w wk X) (hy : ∀ x, Y x → X x) : a.ok w wk Y := h.fresh fun x hx => .inl (hy x hx)
theorem At.ok.gr {w w1 w2 : World} {X : Nat → Prop} {rb : Nat} (hg : w1.grownBy w2 (some rb)) (hrb : rb < w.heap.size) : ∀ {a : At}, a.ok w w1 X → a.ok w w2 X
 | .nv .., h => ⟨h.1.gr hg hrb, h.2⟩
 | .tv .., h => ⟨h.1.gr hg hrb, h.2⟩
 | .gv .., h => ⟨h.1.gr hg hrb, h.2⟩
 | .kd .., h => Kd.gr h hg hrb
 | .ow .., h => Ow.gr h hg hrb
 | .pw .., h => Pw.gr h hg hrb
theorem At.ok.set {w w1 : World} {X : Nat → Prop} {q j : Nat} {v : Value} (hx : q ≤ w.heap.size ∨ X q) : ∀ {a : At}, a.ok w w1 X → a.ok w (w1.setCell ⟨q, j, none⟩ v) X
 | .nv b .., h => ⟨h.1.other (fun e => hx.elim (fun h9 => by have := h.1.lt; omega) (fun h9 => h.2 (e ▸ h9))) j v, h.2⟩
 | .tv b .., h => ⟨h.1.other (fun e => hx.elim (fun h9 => by have := h.1.lt; omega) (fun h9 => h.2 (e ▸ h9))) j v, h.2⟩
 | .gv b .., h => ⟨h.1.other (fun e => hx.elim (fun h9 => by have := h.1.lt; omega) (fun h9 => h.2 (e ▸ h9))) j v, h.2⟩
 | .kd .., h => Kd.set h hx
 | .ow .., h => Ow.set h hx
 | .pw .., h => Pw.set h hx
theorem At.ok.wr {w wk : World} {X : Nat → Prop} {x : Nat} : ∀ {a : At}, a.ok w wk X → a.wr x → w.heap.size < x ∧ x < wk.heap.size ∧ ¬ X x
 | .nv .., h, e => by cases e; exact ⟨h.1.lt, lt_of_block h.1.row, h.2⟩
 | .tv .., h, e => by cases e; exact ⟨h.1.lt, lt_of_block h.1.row, h.2⟩
 | .gv .., h, e => by cases e; exact ⟨h.1.lt, lt_of_block h.1.row, h.2⟩
 | .kd .., h, e => e.elim
 | .ow v l, h, e => Ow.lt h x e
 | .pw .., h, e => Pw.lt h x e
def wrs (ls : List At) (x : Nat) : Prop := ∃ a ∈ ls, a.wr x
def AtsY (w wk : World) : (Nat → Prop) → List At → Prop
 | _, [] => True
 | Y, a :: ls => a.ok w wk (fun x => Y x ∨ wrs ls x) ∧ AtsY w wk (fun x => Y x ∨ a.wr x) ls
def Ats (w wk : World) (ls : List At) : Prop := AtsY w wk (fun _ => False) ls
theorem wrs_cons {a : At} {ls : List At} {x : Nat} : wrs (a :: ls) x ↔ a.wr x ∨ wrs ls x := by
 unfold wrs;constructor
 · rintro ⟨b, hb, h⟩;rcases List.mem_cons.1 hb with rfl | hb
   · exact .inl h
   · exact .inr ⟨b, hb, h⟩
 · rintro (h | ⟨b, hb, h⟩)
   · exact ⟨a, by simp, h⟩
   · exact ⟨b, by simp [hb], h⟩
theorem AtsY.fresh {w wk : World} : ∀ {ls : List At} {Y Z : Nat → Prop}, AtsY w wk Y ls → (∀ x, Z x → Y x ∨ wk.heap.size ≤ x) → AtsY w wk Z ls
 | [], _, _, _, _ => trivial
 | a :: ls, Y, Z, h, hz => ⟨h.1.fresh fun x hx => hx.elim (fun h9 => (hz x h9).elim (fun h8 => .inl (.inl h8)) .inr) (fun h9 => .inl (.inr h9)), AtsY.fresh h.2 fun x hx => hx.elim (fun h9 => (hz x h9).elim (fun h8 => .inl (.inl h8)) .inr) (fun h9 => .inl (.inr h9))⟩
theorem AtsY.mono {w wk : World} {ls : List At} {Y Z : Nat → Prop} (h : AtsY w wk Y ls) (hz : ∀ x, Z x → Y x) : AtsY w wk Z ls := h.fresh fun x hx => .inl (hz x hx)
theorem AtsY.gr {w w1 w2 : World} {rb : Nat} (hg : w1.grownBy w2 (some rb)) (hrb : rb < w.heap.size) : ∀ {ls : List At} {Y : Nat → Prop}, AtsY w w1 Y ls → AtsY w w2 Y ls
 | [], _, _ => trivial
 | a :: ls, Y, h => ⟨h.1.gr hg hrb, AtsY.gr hg hrb h.2⟩
theorem AtsY.set {w w1 : World} {q j : Nat} {v : Value} : ∀ {ls : List At} {Y : Nat → Prop}, AtsY w w1 Y ls → (q ≤ w.heap.size ∨ Y q) → AtsY w (w1.setCell ⟨q, j, none⟩ v) Y ls
 | [], _, _, _ => trivial
 | a :: ls, Y, h, hq => ⟨h.1.set (hq.elim .inl (fun h9 => .inr (.inl h9))), AtsY.set h.2 (hq.elim .inl (fun h9 => .inr (.inl h9)))⟩
theorem AtsY.wr {w wk : World} {x : Nat} : ∀ {ls : List At} {Y : Nat → Prop}, AtsY w wk Y ls → wrs ls x → w.heap.size < x ∧ x < wk.heap.size ∧ ¬ Y x
 | [], _, _, ⟨_, hb, _⟩ => by cases hb
 | a :: ls, Y, h, hx => (wrs_cons.1 hx).elim (fun h9 => by
  have h1 := h.1.wr h9
  exact ⟨h1.1, h1.2.1, fun e => h1.2.2 (.inl e)⟩) (fun h9 => by
  have h1 := AtsY.wr h.2 h9
  exact ⟨h1.1, h1.2.1, fun e => h1.2.2 (.inl e)⟩)
theorem AtsY.sw {w wk : World} {a b : At} {ls : List At} {Y : Nat → Prop} (h : AtsY w wk Y (a :: b :: ls)) : AtsY w wk Y (b :: a :: ls) := by
 obtain ⟨h1, h2, h3⟩ := h;refine ⟨h2.mono fun x hx => ?_, h1.mono fun x hx => ?_, h3.mono fun x hx => ?_⟩
 · rcases hx with hx | hx
   · exact .inl (.inl hx)
   · rcases wrs_cons.1 hx with hx | hx
     · exact .inl (.inr hx)
     · exact .inr hx
 · rcases hx with (hx | hx) | hx
   · exact .inl hx
   · exact .inr (wrs_cons.2 (.inl hx))
   · exact .inr (wrs_cons.2 (.inr hx))
 · rcases hx with (hx | hx) | hx
   · exact .inl (.inl hx)
   · exact .inr hx
   · exact .inl (.inr hx)
theorem AtsY.tl {w wk : World} {a : At} {ls bs : List At} {Y : Nat → Prop} (h : AtsY w wk Y (a :: ls)) (hw : ∀ x, wrs bs x → wrs ls x) (f : ∀ Z, AtsY w wk Z ls → AtsY w wk Z bs) : AtsY w wk Y (a :: bs) :=
 ⟨h.1.mono fun x hx => hx.elim .inl (fun h9 => .inr (hw x h9)), f _ h.2⟩
theorem wrs_sw {a b : At} {ls : List At} {x : Nat} (h : wrs (b :: a :: ls) x) : wrs (a :: b :: ls) x := by
 rw [wrs_cons, wrs_cons] at h ⊢;rcases h with h | h | h
 · exact .inr (.inl h)
 · exact .inl h
 · exact .inr (.inr h)
section
variable {w wk : World} {a b c d e f : At} {ls : List At}
theorem Ats.mv1 (h : Ats w wk (a :: b :: ls)) : Ats w wk (b :: a :: ls) := AtsY.sw h
theorem Ats.mv2 (h : Ats w wk (a :: b :: c :: ls)) : Ats w wk (c :: a :: b :: ls) := AtsY.sw (AtsY.tl h (fun _ => wrs_sw) fun _ => AtsY.sw)
theorem AtsY.mv2 {Y : Nat → Prop} (h : AtsY w wk Y (a :: b :: c :: ls)) : AtsY w wk Y (c :: a :: b :: ls) := AtsY.sw (AtsY.tl h (fun _ => wrs_sw) fun _ => AtsY.sw)
theorem wrs_mv2 {x : Nat} (h : wrs (c :: a :: b :: ls) x) : wrs (a :: b :: c :: ls) x := by
 simp only [wrs_cons] at h ⊢;rcases h with h | h | h | h
 · exact .inr (.inr (.inl h))
 · exact .inl h
 · exact .inr (.inl h)
 · exact .inr (.inr (.inr h))
theorem Ats.mv3 (h : Ats w wk (a :: b :: c :: d :: ls)) : Ats w wk (d :: a :: b :: c :: ls) := AtsY.sw (AtsY.tl h (fun _ => wrs_mv2) fun _ => AtsY.mv2)
theorem AtsY.mv3 {Y : Nat → Prop} (h : AtsY w wk Y (a :: b :: c :: d :: ls)) : AtsY w wk Y (d :: a :: b :: c :: ls) := AtsY.sw (AtsY.tl h (fun _ => wrs_mv2) fun _ => AtsY.mv2)
theorem wrs_mv3 {x : Nat} (h : wrs (d :: a :: b :: c :: ls) x) : wrs (a :: b :: c :: d :: ls) x := by
 simp only [wrs_cons] at h ⊢;rcases h with h | h | h | h | h
 · exact .inr (.inr (.inr (.inl h)))
 · exact .inl h
 · exact .inr (.inl h)
 · exact .inr (.inr (.inl h))
 · exact .inr (.inr (.inr (.inr h)))
theorem Ats.mv4 (h : Ats w wk (a :: b :: c :: d :: e :: ls)) : Ats w wk (e :: a :: b :: c :: d :: ls) := AtsY.sw (AtsY.tl h (fun _ => wrs_mv3) fun _ => AtsY.mv3)
theorem AtsY.mv4 {Y : Nat → Prop} (h : AtsY w wk Y (a :: b :: c :: d :: e :: ls)) : AtsY w wk Y (e :: a :: b :: c :: d :: ls) := AtsY.sw (AtsY.tl h (fun _ => wrs_mv3) fun _ => AtsY.mv3)
theorem wrs_mv4 {x : Nat} (h : wrs (e :: a :: b :: c :: d :: ls) x) : wrs (a :: b :: c :: d :: e :: ls) x := by
 simp only [wrs_cons] at h ⊢;rcases h with h | h | h | h | h | h
 · exact .inr (.inr (.inr (.inr (.inl h))))
 · exact .inl h
 · exact .inr (.inl h)
 · exact .inr (.inr (.inl h))
 · exact .inr (.inr (.inr (.inl h)))
 · exact .inr (.inr (.inr (.inr (.inr h))))
theorem Ats.mv5 (h : Ats w wk (a :: b :: c :: d :: e :: f :: ls)) : Ats w wk (f :: a :: b :: c :: d :: e :: ls) := AtsY.sw (AtsY.tl h (fun _ => wrs_mv4) fun _ => AtsY.mv4)
theorem Ats.dr (h : Ats w wk (a :: ls)) : Ats w wk ls := AtsY.mono h.2 fun x hx => hx.elim
theorem Ats.nil : Ats w wk [] := trivial
theorem Ats.gr {w2 : World} {rb : Nat} (h : Ats w wk ls) (hg : wk.grownBy w2 (some rb)) (hrb : rb < w.heap.size) : Ats w w2 ls := AtsY.gr hg hrb h
theorem Ats.wr {x : Nat} (h : Ats w wk ls) (hx : wrs ls x) : w.heap.size < x ∧ x < wk.heap.size := ⟨(AtsY.wr h hx).1, (AtsY.wr h hx).2.1⟩
end
theorem Ats.put {w w1 wk : World} {a : At} {ls : List At} {rb : Nat} (h : Ats w w1 ls) (hg : w1.grownBy wk (some rb)) (hrb : rb < w.heap.size) (ha : ∀ X, (∀ x, X x → x < w1.heap.size) → a.ok w wk X) (hn : ∀ x, a.wr x → w1.heap.size ≤ x) : Ats w wk (a :: ls) :=
 ⟨ha _ fun x hx => hx.elim False.elim (fun h9 => (h.wr h9).2), AtsY.gr hg hrb (AtsY.fresh h fun x hx => hx.elim False.elim (fun h9 => .inr (hn x h9)))⟩
section
variable {w w1 V : World} {ls : List At} {rb : Nat} {k a s q l : Value}
theorem Ats.box {b : Nat} (h : Ats w w1 ls) (hl : w.heap.size < w1.heap.size) (hrb : rb < w.heap.size) (hV : V = w1.alloc (.cells #[k, a, s, q, l] 26)) (hb : b = w1.heap.size) : Ats w V (.nv b k a s q l :: ls) := by
 subst hb;exact h.put (ji (by rw [hV]; exact jk (Below.refl _ _) _) (some rb)) hrb (fun X hX => ⟨Vb.new hV hl, fun e => by have := hX _ e; omega⟩) (fun x e => Nat.le_of_eq e.symm)
theorem Ats.boxt {b : Nat} (h : Ats w w1 ls) (hl : w.heap.size < w1.heap.size) (hrb : rb < w.heap.size) (hV : V = w1.alloc (.cells #[k, a, s, q] 59)) (hb : b = w1.heap.size) : Ats w V (.tv b k a s q :: ls) := by
 subst hb;exact h.put (ji (by rw [hV]; exact jk (Below.refl _ _) _) (some rb)) hrb (fun X hX => ⟨Vb.new hV hl, fun e => by have := hX _ e; omega⟩) (fun x e => Nat.le_of_eq e.symm)
theorem Ats.rd {x : List Ty} {ao : Option Addr} {cap : Nat} (h : Ats w w1 ls) (hl : w.heap.size < w1.heap.size) (hrb : rb < w.heap.size) (hg : w1.grownBy V (some rb)) (hs : SlD V (fun b => w1.heap.size ≤ b ∧ b < V.heap.size) x ao cap) : Ats w V (.kd x ao cap :: ls) :=
 h.put hg hrb (fun X hX => Kd.of hs hl hX) (fun x e => e.elim)
theorem Ats.rdo {x : List Ty} {v : Value} (h : Ats w w1 ls) (hl : w.heap.size < w1.heap.size) (hrb : rb < w.heap.size) (hg : w1.grownBy V (some rb)) (ho : OwQ w1 x v V) : Ats w V (.ow v x :: ls) :=
 h.put hg hrb (fun X hX => ho.ow hl hX) (fun b e => by obtain ⟨bs, D, h1, h2, h3⟩ := ho; exact (h2.own.lt b e).1)
theorem Ats.nilo (h : Ats w w1 ls) : Ats w w1 (.ow (.slice none 0 0) [] :: ls) := ⟨Ow.nil _ _ _, AtsY.mono h fun x hx => hx.elim id (fun h9 => by simp [At.wr, Value.ownBlock] at h9)⟩
theorem Ats.nilk (h : Ats w w1 ls) : Ats w w1 (.kd [] none 0 :: ls) := ⟨Kd.nil _ _ _ _ _, AtsY.mono h fun x hx => hx.elim id (fun h9 => h9.elim)⟩
theorem Ats.ko {x : List Ty} {ao : Option Addr} {n cap : Nat} (h : Ats w w1 (.ow (.slice ao n cap) x :: ls)) : Ats w w1 (.kd x ao cap :: ls) := ⟨(Ow.kd h.1).2, AtsY.mono h.2 fun y hy => hy.elim .inl (fun h9 => h9.elim)⟩
theorem OwQ.len9 {w w' : World} {l : List Ty} {v : Value} (h : OwQ w l v w') : ∃ ao cap, v = .slice ao l.length cap := by
 obtain ⟨bs, D, h1, h2, h3⟩ := h;obtain ⟨ao, cap, e, -⟩ := h2.read (D' := fun _ => True) (fun _ _ => trivial) (fun _ _ => trivial);exact ⟨ao, cap, by rw [e, ← h1, List.length_map]⟩
theorem Ats.kd {x : List Ty} {ao : Option Addr} {cap : Nat} (h : Ats w w1 (.kd x ao cap :: ls)) : ∃ X, Kd w w1 X x ao cap := ⟨_, h.1⟩
theorem Ats.ow {x : List Ty} {v : Value} (h : Ats w w1 (.ow v x :: ls)) : ∃ X, Ow w w1 X v x := ⟨_, h.1⟩
theorem Ats.cs {b : Nat} (h : Ats w w1 (.nv b k a s q l :: ls)) (hrb : rb < w.heap.size) : w1.cell? ⟨b, 0, none⟩ = some k ∧ w1.cell? ⟨b, 1, none⟩ = some a ∧ w1.cell? ⟨b, 2, none⟩ = some s ∧ w1.cell? ⟨b, 3, none⟩ = some q ∧ w1.cell? ⟨b, 4, none⟩ = some l ∧ w1.frozen? ⟨b, 0, none⟩ = false ∧ w1.frozen? ⟨b, 1, none⟩ = false ∧ w1.frozen? ⟨b, 2, none⟩ = false ∧ w1.frozen? ⟨b, 3, none⟩ = false ∧ w1.frozen? ⟨b, 4, none⟩ = false ∧ ¬ (b = rb) ∧ ¬ (b = w.heap.size) ∧ b < w1.heap.size ∧ ¬ (b = w1.heap.size) := by
 have h1 := h.1.1;have h2 := lt_of_block h1.row;have h3 := h1.lt;exact ⟨ja h1.row 0, ja h1.row 1, ja h1.row 2, ja h1.row 3, ja h1.row 4, jd h1.row 0, jd h1.row 1, jd h1.row 2, jd h1.row 3, jd h1.row 4, by omega, by omega, h2, by omega⟩
theorem Ats.ct {b : Nat} (h : Ats w w1 (.tv b k a s q :: ls)) (hrb : rb < w.heap.size) : w1.cell? ⟨b, 0, none⟩ = some k ∧ w1.cell? ⟨b, 1, none⟩ = some a ∧ w1.cell? ⟨b, 2, none⟩ = some s ∧ w1.cell? ⟨b, 3, none⟩ = some q ∧ ¬ (b = rb) ∧ ¬ (b = w.heap.size) ∧ b < w1.heap.size ∧ ¬ (b = w1.heap.size) := by
 have h1 := h.1.1;have h2 := lt_of_block h1.row;have h3 := h1.lt;exact ⟨ja h1.row 0, ja h1.row 1, ja h1.row 2, ja h1.row 3, by omega, by omega, h2, by omega⟩
theorem Ats.setr {b j : Nat} {v : Value} {r : Array Value} {k' a' s' q' l' : Value} (h : Ats w w1 (.nv b k a s q l :: ls)) (hX : V = w1.setCell ⟨b, j, none⟩ v) (hr : #[k, a, s, q, l].setIfInBounds j v = #[k', a', s', q', l']) : Ats w V (.nv b k' a' s' q' l' :: ls) := by
 subst hX;exact ⟨⟨hr ▸ h.1.1.set j v, h.1.2⟩, AtsY.set h.2 (.inr (.inr rfl))⟩
theorem Ats.s0 {b : Nat} {v : Value} (h : Ats w w1 (.nv b k a s q l :: ls)) (hX : V = w1.setCell ⟨b, 0, none⟩ v) : Ats w V (.nv b v a s q l :: ls) := h.setr (r := #[]) hX rfl
theorem Ats.s1 {b : Nat} {v : Value} (h : Ats w w1 (.nv b k a s q l :: ls)) (hX : V = w1.setCell ⟨b, 1, none⟩ v) : Ats w V (.nv b k v s q l :: ls) := h.setr (r := #[]) hX rfl
theorem Ats.s2 {b : Nat} {v : Value} (h : Ats w w1 (.nv b k a s q l :: ls)) (hX : V = w1.setCell ⟨b, 2, none⟩ v) : Ats w V (.nv b k a v q l :: ls) := h.setr (r := #[]) hX rfl
theorem Ats.s3 {b : Nat} {v : Value} (h : Ats w w1 (.nv b k a s q l :: ls)) (hX : V = w1.setCell ⟨b, 3, none⟩ v) : Ats w V (.nv b k a s v l :: ls) := h.setr (r := #[]) hX rfl
theorem Ats.s4 {b : Nat} {v : Value} (h : Ats w w1 (.nv b k a s q l :: ls)) (hX : V = w1.setCell ⟨b, 4, none⟩ v) : Ats w V (.nv b k a s q v :: ls) := h.setr (r := #[]) hX rfl
theorem Ats.ss {j b : Nat} {v : Value} (h : Ats w w1 ls) (hb : b ≤ w.heap.size) (hX : V = w1.setCell ⟨b, j, none⟩ v) : Ats w V ls := by subst hX; exact AtsY.set h (.inl hb)
end
/- rows of nodes laid side by side -/
section
variable {w w1 V : World} {ls : List At} {rb : Nat} {x y z : Ty} {ao bo co : Option Addr} {ca cb cc : Nat}
theorem Ats.mk1 (h : Ats w w1 (.kd x.args ao ca :: ls)) (hl : w.heap.size < w1.heap.size) (hrb : rb < w.heap.size) {z9 : Nat} (hz : w1.heap.size = z9) (hV : V = w1.alloc (.cells #[.int .i64 x.k, .int .i64 x.n, .string x.s, .int .i64 x.q, .slice ao x.args.length ca] 26)) : Ats w V (.ow (.slice (some ⟨z9, 0, none⟩) 1 1) [x] :: ls) := by
 subst hz;exact ⟨Ow.one hV (Kd.mono h.1 fun _ hx => .inr (hx.elim False.elim id)) hl (fun a hx => hx.elim False.elim (fun h9 => ((Ats.dr h).wr h9).2)), AtsY.gr (ji (by rw [hV]; exact jk (Below.refl _ _) _) (some rb)) hrb (AtsY.fresh (Ats.dr h) fun a hx => hx.elim False.elim (fun h9 => .inr (by simp [At.wr, Value.ownBlock] at h9; omega)))⟩
theorem Ats.mk2 (h : Ats w w1 (.kd x.args ao ca :: .kd y.args bo cb :: ls)) (hl : w.heap.size < w1.heap.size) (hrb : rb < w.heap.size) {z9 : Nat} (hz : w1.heap.size = z9) (hV : V = w1.alloc (.cells #[.int .i64 x.k, .int .i64 x.n, .string x.s, .int .i64 x.q, .slice ao x.args.length ca, .int .i64 y.k, .int .i64 y.n, .string y.s, .int .i64 y.q, .slice bo y.args.length cb] 26)) : Ats w V (.ow (.slice (some ⟨z9, 0, none⟩) 2 2) [x, y] :: ls) := by
 subst hz;exact ⟨Ow.two hV (Kd.mono h.1 fun _ hx => .inr (wrs_cons.2 (.inr (hx.elim False.elim id)))) (Kd.mono h.2.1 fun _ hx => .inr (hx.elim False.elim id)) hl (fun a hx => hx.elim False.elim (fun h9 => ((Ats.dr (Ats.dr h)).wr h9).2)), AtsY.gr (ji (by rw [hV]; exact jk (Below.refl _ _) _) (some rb)) hrb (AtsY.fresh (Ats.dr (Ats.dr h)) fun a hx => hx.elim False.elim (fun h9 => .inr (by simp [At.wr, Value.ownBlock] at h9; omega)))⟩
theorem Ats.mk3 (h : Ats w w1 (.kd x.args ao ca :: .kd y.args bo cb :: .kd z.args co cc :: ls)) (hl : w.heap.size < w1.heap.size) (hrb : rb < w.heap.size) {z9 : Nat} (hz : w1.heap.size = z9) (hV : V = w1.alloc (.cells #[.int .i64 x.k, .int .i64 x.n, .string x.s, .int .i64 x.q, .slice ao x.args.length ca, .int .i64 y.k, .int .i64 y.n, .string y.s, .int .i64 y.q, .slice bo y.args.length cb, .int .i64 z.k, .int .i64 z.n, .string z.s, .int .i64 z.q, .slice co z.args.length cc] 26)) : Ats w V (.ow (.slice (some ⟨z9, 0, none⟩) 3 3) [x, y, z] :: ls) := by
 subst hz;exact ⟨Ow.three hV (Kd.mono h.1 fun _ hx => .inr (wrs_cons.2 (.inr (wrs_cons.2 (.inr (hx.elim False.elim id)))))) (Kd.mono h.2.1 fun _ hx => .inr (wrs_cons.2 (.inr (hx.elim False.elim id)))) (Kd.mono h.2.2.1 fun _ hx => .inr (hx.elim False.elim id)) hl (fun a hx => hx.elim False.elim (fun h9 => ((Ats.dr (Ats.dr (Ats.dr h))).wr h9).2)), AtsY.gr (ji (by rw [hV]; exact jk (Below.refl _ _) _) (some rb)) hrb (AtsY.fresh (Ats.dr (Ats.dr (Ats.dr h))) fun a hx => hx.elim False.elim (fun h9 => .inr (by simp [At.wr, Value.ownBlock] at h9; omega)))⟩
theorem Ats.kd2 (h : Ats w w1 (.kd x.args ao ca :: ls)) : Ats w w1 (.kd x.args ao ca :: .kd x.args ao ca :: ls) := ⟨Kd.mono h.1 fun a hx => hx.elim .inl (fun h9 => .inr ((wrs_cons.1 h9).elim False.elim id)), ⟨Kd.mono h.1 fun a hx => hx.elim (fun h9 => .inl (h9.elim id False.elim)) .inr, AtsY.mono h.2 fun a hx => hx.elim id (fun h9 => h9.elim)⟩⟩
end
theorem qQ {w1 V : World} {p : Addr} {v : Value} {z : Nat} (h : w1.setCell p v = V) (hz : w1.heap.size = z) : V.heap.size = z := by rw [← h, World.size_setCell]; exact hz
theorem Ow.beside {w A w9 : World} {X Y : Nat → Prop} {r : Option Nat} {v : Value} {l : List Ty} (h : Ow w A Y v l) (hg : AppG w A w9 X r) (hy : ∀ a, r = some a → Y a) : Ow w w9 Y v l := by
 obtain ⟨bs, D, h1, h2, h3, h4⟩ := h
 have hne : v.ownBlock = none ∨ v.ownBlock ≠ r := by
  cases he : v.ownBlock with
  | none => exact .inl rfl
  | some g => exact .inr fun e => h4 g he (hy g e.symm)
 exact ⟨bs, D, h1, ⟨h2.own.kept hg.g hne, fun b hb => (h2.sl b hb).keep fun d hd off => World.cell?_of_block (a := ⟨d, off, none⟩) (hg.g.block d (h3 d hd).1.2.1 fun e => (h3 d hd).1.2.2 (hy d e.symm))⟩, fun b hb => ⟨⟨(h3 b hb).1.1, Nat.lt_of_lt_of_le (h3 b hb).1.2.1 hg.g.size, (h3 b hb).1.2.2⟩, (h3 b hb).2⟩, h4⟩
theorem Kd.beside {w A w9 : World} {X Y : Nat → Prop} {r : Option Nat} {l : List Ty} {ao : Option Addr} {cap : Nat} (h : Kd w A Y l ao cap) (hg : AppG w A w9 X r) (hy : ∀ a, r = some a → Y a) : Kd w w9 Y l ao cap :=
 (SlD.keep h fun b hb off => World.cell?_of_block (a := ⟨b, off, none⟩) (hg.g.block b hb.2.1 (fun e => hb.2.2 (hy b e.symm)))).mono fun b hb => ⟨hb.1, Nat.lt_of_lt_of_le hb.2.1 hg.g.size, hb.2.2⟩
theorem Vb.beside {w A w9 : World} {nb t : Nat} {row : Array Value} {X : Nat → Prop} {r : Option Nat} (h : Vb w nb t row A) (hg : AppG w A w9 X r) (hx : ∀ a, r = some a → a ≠ nb) : Vb w nb t row w9 := ⟨by rw [hg.g.block nb (lt_of_block h.row) (fun e => hx nb e.symm rfl)]; exact h.row, h.lt⟩
theorem At.ok.beside {w A w9 : World} {X Y : Nat → Prop} {r : Option Nat} (hg : AppG w A w9 X r) (hy : ∀ a, r = some a → Y a) : ∀ {a : At}, a.ok w A Y → a.ok w w9 Y
 | .nv .., h => ⟨h.1.beside hg (fun a e e2 => h.2 (e2 ▸ hy a e)), h.2⟩
 | .tv .., h => ⟨h.1.beside hg (fun a e e2 => h.2 (e2 ▸ hy a e)), h.2⟩
 | .gv .., h => ⟨h.1.beside hg (fun a e e2 => h.2 (e2 ▸ hy a e)), h.2⟩
 | .kd .., h => Kd.beside h hg hy
 | .ow .., h => Ow.beside h hg hy
 | .pw .., h => Pw.beside h hg hy
theorem AtsY.beside {w A w9 : World} {X : Nat → Prop} {r : Option Nat} (hg : AppG w A w9 X r) : ∀ {ls : List At} {Y : Nat → Prop}, AtsY w A Y ls → (∀ a, r = some a → Y a) → AtsY w w9 Y ls
 | [], _, _, _ => trivial
 | a :: ls, Y, h, hy => ⟨h.1.beside hg (fun b e => .inl (hy b e)), AtsY.beside hg h.2 (fun b e => .inl (hy b e))⟩
theorem run_ap {w A : World} {X Y : Nat → Prop} {v1 v2 : Value} {l1 l2 : List Ty} (ty : TypeId) (h1 : Ow w A X v1 l1) (h2 : Ow w A Y v2 l2) (hY : ∀ a, X a ∨ v1.ownBlock = some a → Y a) (hl : w.heap.size < A.heap.size) (hX : ∀ a, X a → a < A.heap.size) (hn : l1.length + l2.length ≤ 1099511627776) :
 ∃ ao cap L w9, (Builtin.append_ #[24, 24] ty #[v1, v2]).run Tryz.prog A = .ok (.slice ao L.length cap) w9 ∧ L = l1 ++ l2 ∧ Ow w w9 X (.slice ao L.length cap) L ∧ AppG w A w9 X v1.ownBlock ∧ ((Value.slice ao L.length cap).ownBlock = v1.ownBlock ∨ (Value.slice ao L.length cap).ownBlock = some A.heap.size) := by
 obtain ⟨i26, hi, hz0, hz1, hz2⟩ := info_parts info26;have hlt1 := h1.lt;obtain ⟨bs, D, e1, own1, hD, hx1⟩ := h1;obtain ⟨cs, D2, ao2, cap2, e2, sl2, hD2, ev2, hnews⟩ := h2.news;have en1 : l1.length = bs.length := by rw [← e1, List.length_map]
 have en2 : l2.length = cs.length := by rw [← e2, List.length_map]
 have hb63 : bs.length + cs.length ≤ maxLen := by unfold maxLen; omega
 have hrun : ∃ v' w', (Builtin.append_ #[24, 24] ty #[v1, v2]).run Tryz.prog A = .ok v' w' ∧ w'.ownsRow (w.heap.size + 1) 26 5 v' (bs.length + cs.length) (jO bs ++ jO cs) ∧ A.grownBy w' v1.ownBlock ∧ (v'.ownBlock = v1.ownBlock ∨ v'.ownBlock = some A.heap.size) := by
  rw [ev2]
  by_cases hm : cs.length = 0
  · have hc : cs = [] := List.eq_nil_of_length_eq_zero hm;subst hc;exact ⟨v1, A, vd (w.heap.size + 1) 24 ty 26 i26 5 Tryz.underlying24 hi v1 bs.length (jO bs) own1.own ao2 cap2, by simpa [jO] using own1.own, World.grownBy.refl _ _, .inl rfl⟩
  · obtain ⟨ad, rfl, hc⟩ := hnews (by omega);obtain ⟨v', w', hr, h3, h4, _, h5⟩ := run_append_own_at (P := Tryz.prog) A (w.heap.size + 1) 24 ty 26 i26 _ 5 64 Tryz.underlying24 hi hz0 hz1 hz2 rfl (by decide) v1 bs.length (jO bs) own1.own ad cs.length cap2 (jO cs) (yd cs) hc (tcells_one cs) hb63 (by omega) hl;exact ⟨v', w', hr, h3, h4, h5⟩
 obtain ⟨v', w9, hr, hown, hg, hat⟩ := hrun;have hs9 := hg.size;have hc9 : ∀ b, b < A.heap.size → v1.ownBlock ≠ some b → ∀ off, w9.cell? ⟨b, off, none⟩ = A.cell? ⟨b, off, none⟩ := fun b hb hne off => World.cell?_of_block (hg.block b hb (fun e => hne e.symm))
 have hA : AppG w A w9 X v1.ownBlock := ⟨hg, fun b e => ⟨(hlt1 b e).1, (hlt1 b e).2.2⟩⟩;have hD2' : ∀ b, D2 b → w.heap.size < b ∧ b < A.heap.size ∧ ¬ X b ∧ v1.ownBlock ≠ some b := fun b hb => ⟨(hD2 b hb).1, (hD2 b hb).2.1, fun e => (hD2 b hb).2.2 (hY b (.inl e)), fun e => (hD2 b hb).2.2 (hY b (.inr e))⟩
 have hO : Ow w w9 X v' (l1 ++ l2) := by
  refine ⟨bs ++ cs, fun b => D b ∨ D2 b, by rw [List.map_append, e1, e2], ⟨?_, fun b hb => ?_⟩, fun b hb => ?_, fun g hg1 hx => ?_⟩
  · rw [List.length_append, vG]; exact hown
  · rcases List.mem_append.1 hb with hb | hb
    · exact ((own1.sl b hb).keep fun d hd off => hc9 d (hD d hd).1.2.1 (hD d hd).2 off).mono fun b h => .inl h
    · exact ((sl2 b hb).keep fun d hd off => hc9 d (hD2' d hd).2.1 (hD2' d hd).2.2.2 off).mono fun b h => .inr h
  · have hb9 : w.heap.size < b ∧ b < A.heap.size ∧ ¬ X b ∧ v1.ownBlock ≠ some b := by
     rcases hb with hb | hb
     · exact ⟨(hD b hb).1.1, (hD b hb).1.2.1, (hD b hb).1.2.2, (hD b hb).2⟩
     · exact hD2' b hb
    refine ⟨⟨hb9.1, by omega, hb9.2.2.1⟩, ?_⟩;rcases hat with e | e
    · rw [e]; exact hb9.2.2.2
    · rw [e]; intro e2; have := Option.some.inj e2; omega
  · rcases hat with e | e
    · rw [e] at hg1; exact hx1 g hg1 hx
    · rw [e] at hg1; have := Option.some.inj hg1; have := hX g hx; omega
 obtain ⟨ao, cap, ev⟩ := hO.len;subst ev;exact ⟨ao, cap, _, w9, hr, rfl, hO, hA, hat⟩
theorem run_at {w A : World} {ls : List At} {v1 v2 : Value} {l1 l2 : List Ty} (ty : TypeId) (h : Ats w A (.ow v1 l1 :: .ow v2 l2 :: ls)) (hl : w.heap.size < A.heap.size) (hn : l1.length + l2.length ≤ 1099511627776) :
 ∃ ao cap L w9, (Builtin.append_ #[24, 24] ty #[v1, v2]).run Tryz.prog A = .ok (.slice ao L.length cap) w9 ∧ L = l1 ++ l2 ∧ Ats w w9 (.ow (.slice ao L.length cap) L :: ls) ∧ AppG w A w9 (fun _ => False) v1.ownBlock := by
 obtain ⟨h1, h2, h3⟩ := h;have k1 : Ow w A (wrs ls) v1 l1 := Ow.mono h1 fun x hx => .inr (wrs_cons.2 (.inr hx))
 have k2 : Ow w A (fun x => wrs ls x ∨ v1.ownBlock = some x) v2 l2 := Ow.mono h2 fun x hx => hx.elim .inr (fun h9 => .inl (.inr h9))
 have hlt : ∀ a, wrs ls a → a < A.heap.size := fun a ha => (AtsY.wr h3 ha).2.1
 obtain ⟨ao, cap, L, w9, hr, eL, hO, hA, hat⟩ := run_ap ty k1 k2 (fun a h => h) hl hlt hn;refine ⟨ao, cap, L, w9, hr, eL, ⟨Ow.mono hO fun x hx => hx.elim False.elim id, ?_⟩, ⟨hA.g, fun b e => ⟨(hA.new b e).1, fun h9 => h9⟩⟩⟩
 -- what stands beside lies elsewhere than the new row
 have key : AtsY w A (fun x => (False ∨ v1.ownBlock = some x) ∨ (Value.slice ao L.length cap).ownBlock = some x) ls := AtsY.fresh h3 fun x hx => by
  rcases hx with (hx | hx) | hx
  · exact hx.elim
  · exact .inl (.inl (.inr hx))
  · rcases hat with e | e
    · rw [e] at hx; exact .inl (.inl (.inr hx))
    · rw [e] at hx; exact .inr (Nat.le_of_eq (Option.some.inj hx))
 exact AtsY.mono (AtsY.beside hA key (fun a e => .inl (.inr e))) fun x hx => hx.elim False.elim .inr
theorem wpList_at {w A : World} {ops : Array Oper} {rest : List Oper} {o : Oper} {a : Act} {Q : Exit → Act → World → Prop} {ls : List At} {v1 v2 : Value} {l1 l2 : List Ty} (hgd : o.guard = none) (s x : Operand)
 (ho : o.op = .call { callee := .builtin .append, args := #[s, x], argTypes := #[24, 24] }) (hs : a.eval s = v1) (hx : a.eval x = v2) (h : Ats w A (.ow v1 l1 :: .ow v2 l2 :: ls)) (hl : w.heap.size < A.heap.size) (hn : l1.length + l2.length ≤ 1099511627776)
 (hk : ∀ ao cap L w9, L = l1 ++ l2 → Ats w w9 (.ow (.slice ao L.length cap) L :: ls) → AppG w A w9 (fun _ => False) v1.ownBlock → wpList Tryz.prog ops Q rest (a.put o.dst (.slice ao L.length cap)) w9) : wpList Tryz.prog ops Q (o :: rest) a A := by
 refine wpList_plain hgd fun K hK => ?_
 obtain ⟨ao, cap, L, w9, hr, eL, h3, h4⟩ := run_at o.type h hl hn;unfold Oper.wp execOp;simp only [ho, resolve, invoke, builtin, Sem.run_bind, Sem.run_pure, Result.andThen_ok, List.map_toArray, List.map_cons, List.map_nil, hs, hx, hr];exact hK _ _ (hk ao cap L w9 eL h3 h4)
structure Qr {α : Type} (T : Res α) (m : M α) (s : RS) : Prop where
 eq : T = rn m s
theorem Qr.rd {α β : Type} {T : Res β} {m : M α} {f : α → M β} {s s' : RS} {x : α} (h : Qr T (m >>= f) s) (hl : Rl (rn m s) x s') : Qr T (f x) s' := ⟨h.eq.trans (vi hl)⟩
theorem Qr.tl {α : Type} {T : Res α} {m : M α} {s s' : RS} {x : α} (h : Qr T m s) (hl : Rl (rn m s) x s') : Rl T x s' := rl_tail h.eq hl
theorem Qr.pr {α : Type} {T : Res α} {x : α} {s : RS} (h : Qr T (pure x : M α) s) : Rl T x s := rn_pure h.eq
theorem Qr.lost {α : Type} {T : Res α} {m : M α} {x : α} {s : RS} (h : Qr T m s) (hs : s.k ≠ 0) : Rl T x s := rl_lost h.eq hs
theorem Qr.sub {α β : Type} {T : Res β} {m : M α} {f : α → M β} {s : RS} (q : Qr T (m >>= f) s) : ∃ T2, Qr T2 m s ∧ Hid (∀ x s', Rl T2 x s' → Qr T (f x) s') := ⟨_, ⟨rfl⟩, lh fun x s' h => q.rd h⟩
theorem Qr.to {α : Type} {T : Res α} {m m' : M α} {s : RS} (q : Qr T m s) (h : ∀ i, m i = m' i) : Qr T m' s := ⟨q.eq.trans (by rw [funext h])⟩
structure Qb {β : Type} (T : Res β) (b : Bool) (A B : M β) (s : RS) : Prop where
 eq : T = if b = true then rn A (stp s) else rn B s
theorem Qb.t {β : Type} {T : Res β} {A B : M β} {s : RS} (h : Qb T true A B s) : Qr T A (stp s) := ⟨h.eq.trans (if_pos rfl)⟩
theorem Qb.f {β : Type} {T : Res β} {A B : M β} {s : RS} (h : Qb T false A B s) : Qr T B s := ⟨h.eq.trans (if_neg Bool.false_ne_true)⟩
theorem Qr.eat {β : Type} {P : Src} {sg : ByteArray} {A B : M β} {s : RS} {T : Res β} (h : Qr T (fun i => if isD P sg i = true then A (i + 1) else B i) s) : Qb T (ka P sg s) A B s := ⟨by rw [h.eq]; exact rn_eat⟩
theorem Qr.eatd {β : Type} {P : Src} {sg : ByteArray} {f : Bool → M β} {s : RS} {T : Res β} (h : Qr T (kn P sg >>= f) s) : Qb T (ka P sg s) (f true) (f false) s := ⟨by rw [h.eq]; exact rn_eatD⟩
theorem vg {E : Env} {g d f : Nat} {args : Array Value} {m : M Ty} {post : World → Ty → Value → World → Prop} (hd : d = 60 - g) (h : ∀ w s, Rr E w s (60 - g) → Calls Tryz.prog f args w (RPost E (60 - g) w (rn m s) (post w))) : Hid (∀ w s, Rr E w s d → Calls Tryz.prog f args w (RPost E d w (rn m s) (post w))) := lh (by subst hd; exact h)
theorem at_r {E : Env} {g d f : Nat} {args : Array Value} {m : M (List Ty)} {post : World → List Ty → Value → World → Prop} (hd : d = 60 - g) (h : ∀ w s, Rr E w s (60 - g) → E.B < w.heap.size → Calls Tryz.prog f args w (RPost E (60 - g) w (rn m s) (post w))) : Hid (∀ w s, Rr E w s d → E.B < w.heap.size → Calls Tryz.prog f args w (RPost E d w (rn m s) (post w))) := lh (by subst hd; exact h)
section
variable (E : Env) (d : Nat)
theorem hnow : Hid (∀ w s, Rr E w s d → Calls Tryz.prog 102 #[.pointer (some ⟨E.rb, 0, none⟩)] w fun e w' => e = .returned (.agg #[.int .i64 (E.P.K s.i), .int .i64 (E.P.A s.i : Int), .string (E.P.T s.i), .int .i64 (E.P.N s.i : Int)]) ∧ Below w.heap.size w w') := lh (fun w s h => qh E w s d h)
theorem hno : Hid (∀ w s, Rr E w s d → Calls Tryz.prog 103 #[.pointer (some ⟨E.rb, 0, none⟩), .int .i64 4] w fun en w' => (∃ v, en = .returned v) ∧ Rr E w' (noS E.P 4 s) d ∧ w.grownBy w' (some E.rb)) := lh (fun w s h => rno_any E w s d 4 h)
theorem hnode : Hid (∀ (k a : Int) (ao : Option Addr) (n cap : Nat) (w : World), Calls Tryz.prog 54 #[.int .i64 k, .int .i64 a, .slice ao n cap] w fun e w' => e = .returned (.agg #[.int .i64 k, .int .i64 a, .string ⟨#[]⟩, .int .i64 0, .slice ao n cap]) ∧ Below w.heap.size w w') := lh rnode_any
theorem hbegun : Hid (∀ w s, Rr E w s d → Calls Tryz.prog 180 #[.pointer (some ⟨E.rb, 0, none⟩)] w fun e w' => e = .returned (.bool (decide (s.k = 0) && qx E.P s.i)) ∧ Below w.heap.size w w') := lh (fun w s h => rbegun_any E w s d h)
theorem hbegins : Hid (∀ w s, Rr E w s d → Calls Tryz.prog 201 #[.pointer (some ⟨E.rb, 0, none⟩)] w fun e w' => e = .returned (.bool (decide (s.k = 0) && kh E.P s.i)) ∧ Below w.heap.size w w') := lh (fun w s h => rbegins_any E w s d h)
theorem hget1 : Hid (∀ w s, Rr E w s d → Calls Tryz.prog 150 #[.pointer (some ⟨E.rb, 0, none⟩), .int .i64 1] w (RPost E d w (rn (jI E.P 1) s) fun x v _ => v = .string x)) := lh (fun w s h => rget_any E w s d 1 (by decide) h)
theorem hget3 : Hid (∀ w s, Rr E w s d → Calls Tryz.prog 150 #[.pointer (some ⟨E.rb, 0, none⟩), .int .i64 3] w (RPost E d w (rn (jI E.P 3) s) fun x v _ => v = .string x)) := lh (fun w s h => rget_any E w s d 3 (by decide) h)
theorem hget4 : Hid (∀ w s, Rr E w s d → Calls Tryz.prog 150 #[.pointer (some ⟨E.rb, 0, none⟩), .int .i64 4] w (RPost E d w (rn (jI E.P 4) s) fun x v _ => v = .string x)) := lh (fun w s h => rget_any E w s d 4 (by decide) h)
theorem hget5 : Hid (∀ w s, Rr E w s d → Calls Tryz.prog 150 #[.pointer (some ⟨E.rb, 0, none⟩), .int .i64 5] w (RPost E d w (rn (jI E.P 5) s) fun x v _ => v = .string x)) := lh (fun w s h => rget_any E w s d 5 (by decide) h)
theorem hpath0 : Hid (∀ w s, Rr E w s d → Calls Tryz.prog 152 #[.pointer (some ⟨E.rb, 0, none⟩), .int .i64 0] w (RPost E d w (rn (ki E.P 0) s) fun x v _ => v = .tuple #[.string x.1, .int .i64 (x.2 : Int)])) := lh (fun w s h => rpath_any E w s d 0 h (by decide))
theorem hpath3 : Hid (∀ w s, Rr E w s d → Calls Tryz.prog 152 #[.pointer (some ⟨E.rb, 0, none⟩), .int .i64 3] w (RPost E d w (rn (ki E.P 3) s) fun x v _ => v = .tuple #[.string x.1, .int .i64 (x.2 : Int)])) := lh (fun w s h => rpath_any E w s d 3 h (by decide))
theorem hpath4 : Hid (∀ w s, Rr E w s d → Calls Tryz.prog 152 #[.pointer (some ⟨E.rb, 0, none⟩), .int .i64 4] w (RPost E d w (rn (ki E.P 4) s) fun x v _ => v = .tuple #[.string x.1, .int .i64 (x.2 : Int)])) := lh (fun w s h => rpath_any E w s d 4 h (by decide))
theorem kg (sg : ByteArray) : Hid (∀ w s, Rr E w s d → Calls Tryz.prog 144 #[.pointer (some ⟨E.rb, 0, none⟩), .string sg] w (RPost E d w (rn (jm E.P sg) s) fun _ _ _ => True)) := lh (fun w s h => rmust_any E w s d sg h)
theorem heat (sg : ByteArray) : Hid (∀ w s, Rr E w s d → Calls Tryz.prog 153 #[.pointer (some ⟨E.rb, 0, none⟩), .string sg] w fun e w' => e = .returned (.bool (ka E.P sg s)) ∧ Rr E w' (if ka E.P sg s = true then stp s else s) d ∧ w.grownBy w' (some E.rb)) := lh (fun w s h => reat_any E w s d sg h)
end
theorem jA (P : Src) (i : Nat) : (∀ w, (Instr.field 59 (.agg #[.int .i64 (P.K i), .int .i64 (P.A i : Int), .string (P.T i), .int .i64 (P.N i : Int)]) 0).run Tryz.prog w = .ok (.int .i64 (P.K i)) w) ∧ (∀ w, (Instr.field 59 (.agg #[.int .i64 (P.K i), .int .i64 (P.A i : Int), .string (P.T i), .int .i64 (P.N i : Int)]) 1).run Tryz.prog w = .ok (.int .i64 (P.A i : Int)) w) ∧ (∀ w, (Instr.field 59 (.agg #[.int .i64 (P.K i), .int .i64 (P.A i : Int), .string (P.T i), .int .i64 (P.N i : Int)]) 3).run Tryz.prog w = .ok (.int .i64 (P.N i : Int)) w) := ⟨tk_fieldK P i, tk_fieldA P i, tk_fieldN P i⟩
structure Ra (E : Env) (d g : Nat) : Prop where
 hd : d = 60 - g
 exp : Hid (∀ w s, Rr E w s d → Calls Tryz.prog 56 #[.pointer (some ⟨E.rb, 0, none⟩)] w (RPost E d w (rn (jt E.P g .exp) s) (NdQ w)))
 pat : Hid (∀ w s, Rr E w s d → Calls Tryz.prog 57 #[.pointer (some ⟨E.rb, 0, none⟩)] w (RPost E d w (rn (jt E.P g .pat) s) (NdQ w)))
 typ : Hid (∀ w s, Rr E w s d → Calls Tryz.prog 58 #[.pointer (some ⟨E.rb, 0, none⟩)] w (RPost E d w (rn (jt E.P g .typ) s) (NdQ w)))
 sig : Hid (∀ w s, Rr E w s d → Calls Tryz.prog 151 #[.pointer (some ⟨E.rb, 0, none⟩)] w (RPost E d w (rn (jt E.P g .sig) s) (NdQ w)))
theorem RAll.ra {E : Env} {d g : Nat} (h : RAll E g) (hd : d = 60 - g) : Ra E d g := ⟨hd, vg hd h.exp, vg hd h.pat, vg hd h.typ, vg hd h.sig⟩
structure Fam {σ : Type} (E : Env) (w : World) (rd : World → σ → Nat → Prop) (φ : Nat → World → σ → Prop) : Prop where
 R : ∀ {d : Nat} {wk : World} {s : σ}, φ d wk s → rd wk s d
 lt : ∀ {d : Nat} {wk : World} {s : σ}, φ d wk s → w.heap.size < wk.heap.size
 rb : ∀ {d : Nat} {wk : World} {s : σ}, φ d wk s → E.rb < w.heap.size
 gr : ∀ {d d' : Nat} {w1 w2 : World} {s s' : σ}, φ d w1 s → w1.grownBy w2 (some E.rb) → rd w2 s' d' → φ d' w2 s'
 keep : ∀ {d : Nat} {w1 w2 : World} {s : σ}, rd w1 s d → Below w1.heap.size w1 w2 → rd w2 s d
 set : ∀ {d nb t : Nat} {w1 : World} {s : σ} {row : Array Value}, φ d w1 s → Vb w nb t row w1 → E.B ≤ w.heap.size → ∀ (k : Nat) (v : Value), φ d (w1.setCell ⟨nb, k, none⟩ v) s
 own : ∀ {d : Nat} {A w9 : World} {s : σ} {X : Nat → Prop} {r : Option Nat}, φ d A s → E.B ≤ w.heap.size → AppG w A w9 X r → φ d w9 s
structure Bd {σ : Type} (E : Env) (w : World) (rd : World → σ → Nat → Prop) (φ : Nat → World → σ → Prop) (d : Nat) (wk : World) (s : σ) (ls : List At) : Prop where
 F : φ d wk s
 S : Ats w wk ls
 B : E.B ≤ w.heap.size
 fm : Fam E w rd φ
abbrev Br (E : Env) (w : World) (d : Nat) (wk : World) (s : RS) (ls : List At) : Prop := Bd E w (Rr E) (Fr E w) d wk s ls
abbrev Bs (E : Env) (v w : World) (d : Nat) (wk : World) (s : RS) (ls : List At) : Prop := Bd E w (Rr E) (Fs E v w) d wk s ls
theorem fam_r (E : Env) (w : World) : Fam E w (Rr E) (Fr E w) := ⟨fun h => h.R, fun h => h.lt, fun h => h.rb, fun h => h.grd, fun h => h.keep, fun h => h.set, fun h => h.own⟩
theorem fam_s (E : Env) (v w : World) : Fam E w (Rr E) (Fs E v w) := ⟨fun h => h.R, fun h => h.lt, fun h => h.rb, fun h => h.grd, fun h => h.keep, fun h => h.set, fun h => h.own⟩
theorem Br.go {E : Env} {g f : Nat} {args : Array Value} {m : M Ty} {w : World} {s : RS} {P : Ty → Value → World → Prop} (h : Rr E w s (60 - g)) (RA : RAll E g) (k : ∀ d T W, Ra E d g → w.alloc (.cells #[.int .i64 0, .int .i64 0, .string ⟨#[]⟩, .int .i64 0, .slice none 0 0] 26) = W → Br E w d W s [] → Qr T m s → E.rb < w.heap.size → E.P.toks.length ≤ 100000 → Calls Tryz.prog f args w (RPost E d w T P)) : Calls Tryz.prog f args w (RPost E (60 - g) w (rn m s) P) := k _ _ _ (RA.ra rfl) rfl ⟨Fr.start h rfl, Ats.nil, h.low.2, fam_r _ _⟩ ⟨rfl⟩ h.ltr h.ok.len
theorem Bs.go {E : Env} {g f : Nat} {args : Array Value} {m : M (List Ty)} {v : World} {s : RS} (h : Rr E v s (60 - g)) (hB : E.B < v.heap.size) (RA : RAll E g) (k : ∀ d T w, Ra E d g → Bs E v w d v s [] → Qr T m s → E.rb < w.heap.size → E.P.toks.length ≤ 100000 → Calls Tryz.prog f args v (RPost E d v T (OwB v))) : Calls Tryz.prog f args v (RPost E (60 - g) v (rn m s) (OwB v)) := by
 obtain ⟨w, h1, h2⟩ := Fs.start h hB;exact k _ _ w (RA.ra rfl) ⟨h1, Ats.nil, h2, fam_s _ _ _⟩ ⟨rfl⟩ h1.rb h.ok.len
@[reducible] def CtN (f : Nat) (m : Env → Nat → M Ty) : Prop := ∀ (E : Env) (g : Nat), RAll E g → ∀ (w : World) (s : RS), Rr E w s (60 - g) → Calls Tryz.prog f #[pr E] w (RPost E (60 - g) w (rn (m E g) s) (NdQ w))
section
variable {σ : Type} {E : Env} {w w1 V : World} {rd : World → σ → Nat → Prop} {φ : Nat → World → σ → Prop} {d : Nat} {s s' : σ} {ls : List At}
theorem Bd.rb (b : Bd E w rd φ d w1 s (ls)) : E.rb < w.heap.size := b.fm.rb b.F
theorem Bd.lt (b : Bd E w rd φ d w1 s (ls)) : w.heap.size < w1.heap.size := b.fm.lt b.F
theorem Bd.R (b : Bd E w rd φ d w1 s (ls)) : rd w1 s d := b.fm.R b.F
theorem Bd.gr {d' : Nat} (b : Bd E w rd φ d w1 s (ls)) (hg : w1.grownBy V (some E.rb)) (hr : rd V s' d') : Bd E w rd φ d' V s' (ls) := ⟨b.fm.gr b.F hg hr, b.S.gr hg b.rb, b.B, b.fm⟩
theorem Bd.be (b : Bd E w rd φ d w1 s (ls)) (hb : Below w1.heap.size w1 V) : Bd E w rd φ d V s (ls) := b.gr (ji hb _) (b.fm.keep b.R hb)
theorem Bd.al {c : Array Value} {t : Nat} (b : Bd E w rd φ d w1 s (ls)) (h : w1.alloc (.cells c t) = V) : φ d V s := (b.be (by rw [← h]; exact jk (Below.refl _ _) _)).F
theorem Bd.box {n : Nat} {k a x q l : Value} (b : Bd E w rd φ d w1 s (ls)) (h : w1.alloc (.cells #[k, a, x, q, l] 26) = V) (hb : w1.heap.size = n) : Bd E w rd φ d V s (.nv n k a x q l :: ls) := ⟨b.al h, b.S.box b.lt b.rb h.symm hb.symm, b.B, b.fm⟩
theorem Bd.boxt {n : Nat} {k a x q : Value} (b : Bd E w rd φ d w1 s (ls)) (h : w1.alloc (.cells #[k, a, x, q] 59) = V) (hb : w1.heap.size = n) : Bd E w rd φ d V s (.tv n k a x q :: ls) := ⟨b.al h, b.S.boxt b.lt b.rb h.symm hb.symm, b.B, b.fm⟩
theorem Bd.dr {a : At} (b : Bd E w rd φ d w1 s (a :: ls)) : Bd E w rd φ d w1 s (ls) := ⟨b.F, b.S.dr, b.B, b.fm⟩
theorem Bd.ko {x : List Ty} {ao : Option Addr} {n cap : Nat} (b : Bd E w rd φ d w1 s (.ow (.slice ao n cap) x :: ls)) : Bd E w rd φ d w1 s (.kd x ao cap :: ls) := ⟨b.F, b.S.ko, b.B, b.fm⟩
theorem Bd.nilo (b : Bd E w rd φ d w1 s (ls)) : Bd E w rd φ d w1 s (.ow (.slice none 0 0) [] :: ls) := ⟨b.F, b.S.nilo, b.B, b.fm⟩
theorem Bd.nilk (b : Bd E w rd φ d w1 s (ls)) : Bd E w rd φ d w1 s (.kd [] none 0 :: ls) := ⟨b.F, b.S.nilk, b.B, b.fm⟩
theorem Bd.kd2 {x : Ty} {ao : Option Addr} {ca : Nat} (b : Bd E w rd φ d w1 s (.kd x.args ao ca :: ls)) : Bd E w rd φ d w1 s (.kd x.args ao ca :: .kd x.args ao ca :: ls) := ⟨b.F, b.S.kd2, b.B, b.fm⟩
theorem Bd.mv1 {a b1 : At} (b : Bd E w rd φ d w1 s (a :: b1 :: ls)) : Bd E w rd φ d w1 s (b1 :: a :: ls) := ⟨b.F, b.S.mv1, b.B, b.fm⟩
theorem Bd.mv2 {a b1 c : At} (b : Bd E w rd φ d w1 s (a :: b1 :: c :: ls)) : Bd E w rd φ d w1 s (c :: a :: b1 :: ls) := ⟨b.F, b.S.mv2, b.B, b.fm⟩
theorem Bd.mv3 {a b1 c d1 : At} (b : Bd E w rd φ d w1 s (a :: b1 :: c :: d1 :: ls)) : Bd E w rd φ d w1 s (d1 :: a :: b1 :: c :: ls) := ⟨b.F, b.S.mv3, b.B, b.fm⟩
theorem Bd.mv4 {a b1 c d1 e : At} (b : Bd E w rd φ d w1 s (a :: b1 :: c :: d1 :: e :: ls)) : Bd E w rd φ d w1 s (e :: a :: b1 :: c :: d1 :: ls) := ⟨b.F, b.S.mv4, b.B, b.fm⟩
theorem Bd.mv5 {a b1 c d1 e f : At} (b : Bd E w rd φ d w1 s (a :: b1 :: c :: d1 :: e :: f :: ls)) : Bd E w rd φ d w1 s (f :: a :: b1 :: c :: d1 :: e :: ls) := ⟨b.F, b.S.mv5, b.B, b.fm⟩
section
variable {n : Nat} {v9 k a x q l : Value} (b : Bd E w rd φ d w1 s (.nv n k a x q l :: ls))
include b
theorem Bd.s0 (h : w1.setCell ⟨n, 0, none⟩ v9 = V) : Bd E w rd φ d V s (.nv n v9 a x q l :: ls) := by subst h; exact ⟨b.fm.set b.F b.S.1.1 b.B _ _, b.S.s0 rfl, b.B, b.fm⟩
theorem Bd.s1 (h : w1.setCell ⟨n, 1, none⟩ v9 = V) : Bd E w rd φ d V s (.nv n k v9 x q l :: ls) := by subst h; exact ⟨b.fm.set b.F b.S.1.1 b.B _ _, b.S.s1 rfl, b.B, b.fm⟩
theorem Bd.s2 (h : w1.setCell ⟨n, 2, none⟩ v9 = V) : Bd E w rd φ d V s (.nv n k a v9 q l :: ls) := by subst h; exact ⟨b.fm.set b.F b.S.1.1 b.B _ _, b.S.s2 rfl, b.B, b.fm⟩
theorem Bd.s3 (h : w1.setCell ⟨n, 3, none⟩ v9 = V) : Bd E w rd φ d V s (.nv n k a x v9 l :: ls) := by subst h; exact ⟨b.fm.set b.F b.S.1.1 b.B _ _, b.S.s3 rfl, b.B, b.fm⟩
theorem Bd.s4 (h : w1.setCell ⟨n, 4, none⟩ v9 = V) : Bd E w rd φ d V s (.nv n k a x q v9 :: ls) := by subst h; exact ⟨b.fm.set b.F b.S.1.1 b.B _ _, b.S.s4 rfl, b.B, b.fm⟩
theorem Bd.sn {v0 v1 v2 v3 v4 : Value} (h : ((((w1.setCell ⟨n, 0, none⟩ v0).setCell ⟨n, 1, none⟩ v1).setCell ⟨n, 2, none⟩ v2).setCell ⟨n, 3, none⟩ v3).setCell ⟨n, 4, none⟩ v4 = V) : Bd E w rd φ d V s (.nv n v0 v1 v2 v3 v4 :: ls) := ((((b.s0 rfl).s1 rfl).s2 rfl).s3 rfl).s4 h
end
section
variable {x y z : Ty} {ao bo co : Option Addr} {ca cb cc z9 : Nat}
theorem Bd.mk1 (b : Bd E w rd φ d w1 s (.kd x.args ao ca :: ls)) (hz : w1.heap.size = z9) (h : w1.alloc (.cells #[.int .i64 x.k, .int .i64 x.n, .string x.s, .int .i64 x.q, .slice ao x.args.length ca] 26) = V) : Bd E w rd φ d V s (.ow (.slice (some ⟨z9, 0, none⟩) 1 1) [x] :: ls) := ⟨b.al h, b.S.mk1 b.lt b.rb hz h.symm, b.B, b.fm⟩
theorem Bd.mkl {k n q : Int} {x : ByteArray} {l : List Ty} (b : Bd E w rd φ d w1 s (.kd l ao ca :: ls)) (hz : w1.heap.size = z9) (h : w1.alloc (.cells #[.int .i64 k, .int .i64 n, .string x, .int .i64 q, .slice ao l.length ca] 26) = V) : Bd E w rd φ d V s (.ow (.slice (some ⟨z9, 0, none⟩) 1 1) [.mk k n x q l] :: ls) := Bd.mk1 (x := .mk k n x q l) b hz h
theorem Bd.mk2 (b : Bd E w rd φ d w1 s (.kd x.args ao ca :: .kd y.args bo cb :: ls)) (hz : w1.heap.size = z9) (h : w1.alloc (.cells #[.int .i64 x.k, .int .i64 x.n, .string x.s, .int .i64 x.q, .slice ao x.args.length ca, .int .i64 y.k, .int .i64 y.n, .string y.s, .int .i64 y.q, .slice bo y.args.length cb] 26) = V) : Bd E w rd φ d V s (.ow (.slice (some ⟨z9, 0, none⟩) 2 2) [x, y] :: ls) := ⟨b.al h, b.S.mk2 b.lt b.rb hz h.symm, b.B, b.fm⟩
theorem Bd.mk3 (b : Bd E w rd φ d w1 s (.kd x.args ao ca :: .kd y.args bo cb :: .kd z.args co cc :: ls)) (hz : w1.heap.size = z9) (h : w1.alloc (.cells #[.int .i64 x.k, .int .i64 x.n, .string x.s, .int .i64 x.q, .slice ao x.args.length ca, .int .i64 y.k, .int .i64 y.n, .string y.s, .int .i64 y.q, .slice bo y.args.length cb, .int .i64 z.k, .int .i64 z.n, .string z.s, .int .i64 z.q, .slice co z.args.length cc] 26) = V) : Bd E w rd φ d V s (.ow (.slice (some ⟨z9, 0, none⟩) 3 3) [x, y, z] :: ls) := ⟨b.al h, b.S.mk3 b.lt b.rb hz h.symm, b.B, b.fm⟩
theorem Bd.arg (b : Bd E w rd φ d w1 s (.kd [x] ao ca :: ls)) : ∃ b9 p9 a9 c9, ¬ (b9 = w.heap.size) ∧ ((∀ w' : World, (Instr.indexAt 24 (.slice ao 1 ca) (.int .i64 0)).run Tryz.prog w' = .ok (.pointer (some ⟨b9, p9, none⟩)) w') ∧ w1.cell? ⟨b9, p9, none⟩ = some (.int .i64 x.k) ∧ w1.cell? ⟨b9, p9 + 1, none⟩ = some (.int .i64 x.n) ∧ w1.cell? ⟨b9, p9 + 2, none⟩ = some (.string x.s) ∧ w1.cell? ⟨b9, p9 + 3, none⟩ = some (.int .i64 x.q) ∧ w1.cell? ⟨b9, p9 + 4, none⟩ = some (.slice a9 x.args.length c9)) ∧ Bd E w rd φ d w1 s (.kd x.args a9 c9 :: ls) := by
 obtain ⟨b9, p9, a9, c9, hD, ix, x0, x1, x2, x3, x4, hs⟩ := arg_cells b.S.1 (j := 0) (by simp);exact ⟨b9, p9, a9, c9, Nat.ne_of_gt hD.1, ⟨ix, x0, x1, x2, x3, x4⟩, b.F, ⟨hs, b.S.2⟩, b.B, b.fm⟩
end
theorem Bd.ask {Q9 : Ending → World → Prop} {f : Nat} {args : Array Value} {x : Value} {W : World} (b : Bd E w rd φ d w1 s (ls)) (h : Calls Tryz.prog f args W fun e w' => e = .returned x ∧ Below w1.heap.size w1 w') (k : ∀ u, Bd E w rd φ d u s (ls) → Q9 (.returned x) u) : Calls Tryz.prog f args W Q9 := h.mono (by rintro e u ⟨rfl, hb⟩; exact k u (b.be hb))
theorem Bd.app {ops : Array Oper} {rest : List Oper} {o : Oper} {a : Act} {Q : Exit → Act → World → Prop} {v1 v2 : Value} {l1 l2 : List Ty} (hgd : o.guard = none) (x y : Operand) (ho : o.op = .call { callee := .builtin .append, args := #[x, y], argTypes := #[24, 24] }) (hs : a.eval x = v1) (hx : a.eval y = v2) (b : Bd E w rd φ d w1 s (.ow v1 l1 :: .ow v2 l2 :: ls)) (hn : l1.length + l2.length ≤ 1099511627776)
 (k : ∀ ao cap L u, Hid (L = l1 ++ l2) → Bd E w rd φ d u s (.ow (.slice ao L.length cap) L :: ls) → wpList Tryz.prog ops Q rest (a.put o.dst (.slice ao L.length cap)) u) : wpList Tryz.prog ops Q (o :: rest) a w1 :=
 wpList_at hgd x y ho hs hx b.S b.lt hn fun ao cap L u e h hA => k ao cap L u (lh e) ⟨b.fm.own b.F b.B hA, h, b.B, b.fm⟩
end
section
variable {E : Env} {w w1 V : World} {φ : Nat → World → RS → Prop} {d : Nat} {s s' : RS} {ls : List At} {Q9 : Ending → World → Prop} {fn : Nat} {args : Array Value}
theorem Bd.any {α : Type} {m : M α} {p9 : α → Value → World → Prop} (b : Bd E w (Rr E) φ d w1 s (ls)) (h : Calls Tryz.prog fn args w1 (RPost E d w1 (rn m s) p9)) (k : ∀ u x vv s', Bd E w (Rr E) φ d u s' (ls) → w1.grownBy u (some E.rb) → Rl (rn m s) x s' → p9 x vv u → Q9 (.returned vv) u) : Calls Tryz.prog fn args w1 Q9 := h.mono (by rintro e u ⟨x, y, s', rfl, hg, hr, hq, hl⟩; exact k u x y s' (b.gr hg hr) hg hl hq)
theorem Bd.now (b : Bd E w (Rr E) φ d w1 s (ls)) (k : ∀ u, Bd E w (Rr E) φ d u s (ls) → Q9 (.returned (.agg #[.int .i64 (E.P.K s.i), .int .i64 (E.P.A s.i : Int), .string (E.P.T s.i), .int .i64 (E.P.N s.i : Int)])) u) : Calls Tryz.prog 102 #[.pointer (some ⟨E.rb, 0, none⟩)] w1 Q9 := b.ask ((hnow E d).out _ _ b.R) k
theorem Bd.node {x a : Int} {ao : Option Addr} {n cap : Nat} (b : Bd E w (Rr E) φ d w1 s (ls)) (k : ∀ u, Bd E w (Rr E) φ d u s (ls) → Q9 (.returned (.agg #[.int .i64 x, .int .i64 a, .string ⟨#[]⟩, .int .i64 0, .slice ao n cap])) u) : Calls Tryz.prog 54 #[.int .i64 x, .int .i64 a, .slice ao n cap] w1 Q9 := b.ask (hnode.out x a ao n cap w1) k
theorem Bd.no (b : Bd E w (Rr E) φ d w1 s (ls)) (k : ∀ u vv, Bd E w (Rr E) φ d u (noS E.P 4 s) (ls) → Q9 (.returned vv) u) : Calls Tryz.prog 103 #[.pointer (some ⟨E.rb, 0, none⟩), .int .i64 4] w1 Q9 := ((hno E d).out _ _ b.R).mono (by rintro e u ⟨⟨y, rfl⟩, hr, hg⟩; exact k u y (b.gr hg hr))
theorem Bd.ndc {m : M Ty} (b : Bd E w (Rr E) φ d w1 s (ls)) (h : Calls Tryz.prog fn args w1 (RPost E d w1 (rn m s) (NdQ w1))) (k : ∀ u x ao cap s', Rl (rn m s) x s' → Bd E w (Rr E) φ d u s' (.kd x.args ao cap :: ls) → Q9 (.returned (.agg #[.int .i64 x.k, .int .i64 x.n, .string x.s, .int .i64 x.q, .slice ao x.args.length cap])) u) : Calls Tryz.prog fn args w1 Q9 := h.mono (by rintro e u ⟨x, v, s', rfl, hg, hr, ⟨ao, cap, rfl, hs⟩, hl⟩; exact k u x ao cap s' hl ⟨(b.gr hg hr).F, b.S.rd b.lt b.rb hg hs, b.B, b.fm⟩)
theorem Bd.ndx {m : M Ty} (b : Bd E w (Rr E) φ d w1 s (ls)) (h : Hid (∀ w s, Rr E w s d → Calls Tryz.prog fn args w (RPost E d w (rn m s) (NdQ w)))) (k : ∀ u x ao cap s', Rl (rn m s) x s' → Bd E w (Rr E) φ d u s' (.kd x.args ao cap :: ls) → Q9 (.returned (.agg #[.int .i64 x.k, .int .i64 x.n, .string x.s, .int .i64 x.q, .slice ao x.args.length cap])) u) : Calls Tryz.prog fn args w1 Q9 := b.ndc (h.out _ _ b.R) k
theorem Bd.ndt {T : Res Ty} {m : M Ty} (b : Bd E w (Rr E) φ d w1 s (ls)) (q : Qr T m s) (h : Hid (∀ w s, Rr E w s d → Calls Tryz.prog fn args w (RPost E d w (rn m s) (NdQ w)))) (k : ∀ u x ao cap s', Bd E w (Rr E) φ d u s' (.kd x.args ao cap :: ls) → Rl T x s' → Q9 (.returned (.agg #[.int .i64 x.k, .int .i64 x.n, .string x.s, .int .i64 x.q, .slice ao x.args.length cap])) u) : Calls Tryz.prog fn args w1 Q9 := b.ndx h fun u x ao cap s' hl b => k u x ao cap s' b (q.tl hl)
theorem Bd.rwx {m : M (List Ty)} (b : Bd E w (Rr E) φ d w1 s (ls)) (h : Hid (∀ w s, Rr E w s d → E.B < w.heap.size → Calls Tryz.prog fn args w (RPost E d w (rn m s) (OwB w)))) (k : ∀ u x ao cap s', Hid (x.length ≤ 200000) → Rl (rn m s) x s' → Bd E w (Rr E) φ d u s' (.ow (.slice ao x.length cap) x :: ls) → Q9 (.returned (.slice ao x.length cap)) u) : Calls Tryz.prog fn args w1 Q9 := (h.out _ _ b.R (Nat.lt_of_le_of_lt b.B b.lt)).mono (by
 rintro e u ⟨x, v, s', rfl, hg, hr, ⟨ho, hlen⟩, hl⟩
 obtain ⟨ao, cap, rfl⟩ := OwQ.len9 ho
 exact k u x ao cap s' (lh hlen) hl ⟨(b.gr hg hr).F, b.S.rdo b.lt b.rb hg ho, b.B, b.fm⟩)
section
variable {β : Type} {T : Res β}
theorem Bd.str {m : M ByteArray} {c : ByteArray → M β} (b : Bd E w (Rr E) φ d w1 s (ls)) (q : Qr T (m >>= c) s) (h : Hid (∀ w s, Rr E w s d → Calls Tryz.prog fn args w (RPost E d w (rn m s) fun x v _ => v = .string x))) (k : ∀ u x s', Bd E w (Rr E) φ d u s' (ls) → Qr T (c x) s' → Q9 (.returned (.string x)) u) : Calls Tryz.prog fn args w1 Q9 := b.any (h.out _ _ b.R) fun u x vv s' b _ hl e => by subst e; exact k u x s' b (q.rd hl)
theorem Bd.un {m : M Unit} {c : Unit → M β} (b : Bd E w (Rr E) φ d w1 s (ls)) (q : Qr T (m >>= c) s) (h : Hid (∀ w s, Rr E w s d → Calls Tryz.prog fn args w (RPost E d w (rn m s) fun _ _ _ => True))) (k : ∀ u x vv s', Bd E w (Rr E) φ d u s' (ls) → Qr T (c x) s' → Q9 (.returned vv) u) : Calls Tryz.prog fn args w1 Q9 := b.any (h.out _ _ b.R) fun u x vv s' b _ hl _ => k u x vv s' b (q.rd hl)
theorem Bd.pth {m : M (ByteArray × Nat)} {c : ByteArray × Nat → M β} (b : Bd E w (Rr E) φ d w1 s (ls)) (q : Qr T (m >>= c) s) (h : Hid (∀ w s, Rr E w s d → Calls Tryz.prog fn args w (RPost E d w (rn m s) fun x v _ => v = .tuple #[.string x.1, .int .i64 (x.2 : Int)]))) (k : ∀ u x s', Rl (rn m s) x s' → Bd E w (Rr E) φ d u s' (ls) → Qr T (c x) s' → Q9 (.returned (.tuple #[.string x.1, .int .i64 (x.2 : Int)])) u) : Calls Tryz.prog fn args w1 Q9 := b.any (h.out _ _ b.R) fun u x vv s' b _ hl e => by subst e; exact k u x s' hl b (q.rd hl)
theorem Bd.nd {m : M Ty} {c : Ty → M β} (b : Bd E w (Rr E) φ d w1 s (ls)) (q : Qr T (m >>= c) s) (h : Hid (∀ w s, Rr E w s d → Calls Tryz.prog fn args w (RPost E d w (rn m s) (NdQ w)))) (k : ∀ u x ao cap s', Rl (rn m s) x s' → Bd E w (Rr E) φ d u s' (.kd x.args ao cap :: ls) → Qr T (c x) s' → Q9 (.returned (.agg #[.int .i64 x.k, .int .i64 x.n, .string x.s, .int .i64 x.q, .slice ao x.args.length cap])) u) : Calls Tryz.prog fn args w1 Q9 := b.ndx h fun u x ao cap s' hl b => k u x ao cap s' hl b (q.rd hl)
theorem Bd.rw {m : M (List Ty)} {c : List Ty → M β} (b : Bd E w (Rr E) φ d w1 s (ls)) (q : Qr T (m >>= c) s) (h : Hid (∀ w s, Rr E w s d → E.B < w.heap.size → Calls Tryz.prog fn args w (RPost E d w (rn m s) (OwB w)))) (k : ∀ u x ao cap s', Hid (x.length ≤ 200000) → Bd E w (Rr E) φ d u s' (.ow (.slice ao x.length cap) x :: ls) → Qr T (c x) s' → Q9 (.returned (.slice ao x.length cap)) u) : Calls Tryz.prog fn args w1 Q9 := b.rwx h fun u x ao cap s' hn hl b => k u x ao cap s' hn b (q.rd hl)
def NdOB (w : World) (x : Ty) (v : Value) (w' : World) : Prop := NdO w x v w' ∧ x.args.length ≤ 200000
theorem Bd.nb {m : M Ty} {c : Ty → M β} (b : Bd E w (Rr E) φ d w1 s (ls)) (q : Qr T (m >>= c) s) (h : Hid (∀ w s, Rr E w s d → Calls Tryz.prog fn args w (RPost E d w (rn m s) (NdOB w)))) (k : ∀ u x ao cap s', Hid (x.args.length ≤ 200000) → Rl (rn m s) x s' → Bd E w (Rr E) φ d u s' (.ow (.slice ao x.args.length cap) x.args :: ls) → Qr T (c x) s' → Q9 (.returned (.agg #[.int .i64 x.k, .int .i64 x.n, .string x.s, .int .i64 x.q, .slice ao x.args.length cap])) u) : Calls Tryz.prog fn args w1 Q9 := (h.out _ _ b.R).mono (by
 rintro e u ⟨x, v, s', rfl, hg, hr, ⟨⟨ao, cap, rfl, ho⟩, hlen⟩, hl⟩
 exact k u x ao cap s' (lh hlen) hl ⟨(b.gr hg hr).F, b.S.rdo b.lt b.rb hg ho, b.B, b.fm⟩ (q.rd hl))
end
structure BE (E : Env) (w w1 : World) (φ : Nat → World → RS → Prop) (d : Nat) (s : RS) (ls : List At) {β : Type} (T : Res β) (x : Bool) (A C : M β) (sg : ByteArray) : Prop where
 q : Qb T x A C s
 g : x = true → s.k = 0
 c : ∀ Q9 : Ending → World → Prop, (∀ u, (x = true → Bd E w (Rr E) φ d u (stp s) (ls)) → (x = false → Bd E w (Rr E) φ d u s (ls)) → Q9 (.returned (.bool x)) u) → Calls Tryz.prog 153 #[.pointer (some ⟨E.rb, 0, none⟩), .string sg] w1 Q9
section
variable {β : Type} {T : Res β} {A C : M β} {sg : ByteArray}
theorem BE.t (h : BE E w w1 φ d s ls T true A C sg) (k : ∀ u, Bd E w (Rr E) φ d u (stp s) (ls) → Qr T A (stp s) → s.k = 0 → Q9 (.returned (.bool true)) u) : Calls Tryz.prog 153 #[.pointer (some ⟨E.rb, 0, none⟩), .string sg] w1 Q9 := h.c _ fun u b _ => k u (b rfl) h.q.t (h.g rfl)
theorem BE.f (h : BE E w w1 φ d s ls T false A C sg) (k : ∀ u, Bd E w (Rr E) φ d u s (ls) → Qr T C s → Q9 (.returned (.bool false)) u) : Calls Tryz.prog 153 #[.pointer (some ⟨E.rb, 0, none⟩), .string sg] w1 Q9 := h.c _ fun u _ b => k u (b rfl) h.q.f
theorem Bd.eat' (b : Bd E w (Rr E) φ d w1 s (ls)) (q : Qb T (ka E.P sg s) A C s) : BE E w w1 φ d s ls T (ka E.P sg s) A C sg :=
 ⟨q, fun e => (eatb_good e).1, fun Q9 k => ((heat E d sg).out _ _ b.R).mono (by
  rintro e u ⟨rfl, hr, hg⟩
  exact k u (fun e => by rw [if_pos e] at hr; exact b.gr hg hr) (fun e => by rw [if_neg (by rw [e]; exact Bool.false_ne_true)] at hr; exact b.gr hg hr))⟩
theorem Bd.eat (b : Bd E w (Rr E) φ d w1 s (ls)) (q : Qr T (fun i => if isD E.P sg i = true then A (i + 1) else C i) s) : ∃ x, BE E w w1 φ d s ls T x A C sg := ⟨_, b.eat' q.eat⟩
theorem Bd.eatd {c : Bool → M β} (b : Bd E w (Rr E) φ d w1 s (ls)) (q : Qr T (kn E.P sg >>= c) s) : ∃ x, BE E w w1 φ d s ls T x (c true) (c false) sg := ⟨_, b.eat' q.eatd⟩
theorem Bd.eatg (sg : ByteArray) (b : Bd E w (Rr E) φ d w1 s (ls)) (k : ∀ u, Bd E w (Rr E) φ d u (if ka E.P sg s = true then stp s else s) (ls) → Q9 (.returned (.bool (ka E.P sg s))) u) : Calls Tryz.prog 153 #[.pointer (some ⟨E.rb, 0, none⟩), .string sg] w1 Q9 := ((heat E d sg).out _ _ b.R).mono (by rintro e u ⟨rfl, hr, hg⟩; exact k u (b.gr hg hr))
end
theorem Bd.ent (b : Bd E w (Rr E) φ d w1 s (ls)) (hs : s.k = 0) (hl : d < 60) (k : ∀ u, Bd E w (Rr E) φ (d + 1) u s (ls) → Q9 (.returned (.bool true)) u) : Calls Tryz.prog 106 #[.pointer (some ⟨E.rb, 0, none⟩)] w1 Q9 := (qW E _ s d (by omega) b.R).mono (by
 rintro e u ⟨h2, h3, h4⟩
 rw [show entS E.P d s = s from if_neg (by omega)] at h2 h3
 rw [decide_eq_true hs] at h2
 subst h2
 exact k u (b.gr h4 h3))
theorem Bd.enb (b : Bd E w (Rr E) φ d w1 s (ls)) (hs : s.k ≠ 0) (hl : d < 60) (k : ∀ u, Bd E w (Rr E) φ (d + 1) u s (ls) → Q9 (.returned (.bool false)) u) : Calls Tryz.prog 106 #[.pointer (some ⟨E.rb, 0, none⟩)] w1 Q9 := (qW E _ s d (by omega) b.R).mono (by
 rintro e u ⟨h2, h3, h4⟩
 rw [show entS E.P d s = s from if_neg (by omega)] at h2 h3
 rw [decide_eq_false hs] at h2
 subst h2
 exact k u (b.gr h4 h3))
theorem Bd.eno (b : Bd E w (Rr E) φ d w1 s (ls)) (hd : d ≤ 60) (hl : ¬ d < 60) (k : ∀ u, Bd E w (Rr E) φ (d + 1) u (noS E.P 5 s) (ls) → Q9 (.returned (.bool false)) u) : Calls Tryz.prog 106 #[.pointer (some ⟨E.rb, 0, none⟩)] w1 Q9 := (qW E _ s d hd b.R).mono (by
 rintro e u ⟨h2, h3, h4⟩
 rw [show entS E.P d s = noS E.P 5 s from if_pos (by omega)] at h2 h3
 rw [decide_eq_false (b.R.no_bad (by decide))] at h2
 subst h2
 exact k u (b.gr h4 h3))
theorem Bd.lea (b : Bd E w (Rr E) φ (d + 1) w1 s (ls)) (k : ∀ u vv, Bd E w (Rr E) φ d u s (ls) → Q9 (.returned vv) u) : Calls Tryz.prog 108 #[.pointer (some ⟨E.rb, 0, none⟩)] w1 Q9 := (rleaves_any E _ s d b.R).mono (by rintro e u ⟨⟨y, rfl⟩, hr, hg⟩; exact k u y (b.gr hg hr))
end
section
variable {E : Env} {w w1 V : World} {d : Nat} {s : RS} {ls : List At}
theorem Bd.step (b : Br E w d w1 s ls) (hk : 1 ≤ E.P.K s.i) (h : w1.setCell ⟨E.rb, 1, none⟩ (.int .i64 ((s.i : Int) + 1)) = V) : Br E w d V (stp s) ls := by subst h; exact ⟨b.F.step hk, b.S.ss (Nat.le_of_lt b.rb) rfl, b.B, b.fm⟩
theorem Bd.cr (b : Br E w d w1 s ls) : w1.cell? ⟨w.heap.size, 0, none⟩ = some (.int .i64 0) ∧ w1.cell? ⟨w.heap.size, 1, none⟩ = some (.int .i64 0) ∧ w1.cell? ⟨w.heap.size, 2, none⟩ = some (.string ⟨#[]⟩) ∧ w1.cell? ⟨w.heap.size, 3, none⟩ = some (.int .i64 0) ∧ w1.cell? ⟨w.heap.size, 4, none⟩ = some (.slice none 0 0) ∧ w1.frozen? ⟨w.heap.size, 0, none⟩ = false ∧ w1.frozen? ⟨w.heap.size, 1, none⟩ = false ∧ w1.frozen? ⟨w.heap.size, 2, none⟩ = false ∧ w1.frozen? ⟨w.heap.size, 3, none⟩ = false ∧ w1.frozen? ⟨w.heap.size, 4, none⟩ = false := by
 have h := b.F.r0;unfold ju at h;obtain ⟨⟨c0, c1, c2, c3, c4⟩, ⟨z0, z1, z2, z3, z4⟩⟩ := jC h;exact ⟨c0, c1, c2, c3, c4, z0, z1, z2, z3, z4⟩
structure Po9 (fn : Func) (E : Env) (d : Nat) (w : World) (T : Res Ty) (P : Ty → Value → World → Prop) (Q9 : Exit → Act → World → Prop) : Prop where
 eq : bodyPost Tryz.prog fn (RPost E d w T P) = Q9
theorem Po9.ex (fn : Func) (E : Env) (d : Nat) (w : World) (T : Res Ty) (P : Ty → Value → World → Prop) : ∃ Q9, Po9 fn E d w T P Q9 := ⟨_, ⟨rfl⟩⟩
theorem Br.fin (x : Ty) {fn : Func} {tm : Array Value} {Q9 : Exit → Act → World → Prop} {T : Res Ty} {t : Tmp} {ao : Option Addr} {cap : Nat} (b : Br E w d w1 s (.kd x.args ao cap :: ls)) (p : Po9 fn E d w T (NdQ w) Q9) (hT : Rl T x s) (hres : fn.results = #[.cell t 26]) (ht : tm.getD t undef = .pointer (some ⟨w.heap.size, 0, none⟩)) : Q9 .ret ⟨tm, []⟩ (kN w1 w.heap.size x ao cap) := by
 obtain ⟨X, hk⟩ := b.S.kd;obtain ⟨f1, f2, f3, f4⟩ := b.F.fin b.B hk;rw [← p.eq];exact bodyPost_ret (vo hres ht f1) rfl (RPost.ok f2 hT f4 f3)
theorem Br.fino (x : Ty) {fn : Func} {tm : Array Value} {Q9 : Exit → Act → World → Prop} {T : Res Ty} {t : Tmp} {ao : Option Addr} {cap : Nat} (b : Br E w d w1 s (.ow (.slice ao x.args.length cap) x.args :: ls)) (hl : x.args.length ≤ 200000) (p : Po9 fn E d w T (NdOB w) Q9) (hT : Rl T x s) (hres : fn.results = #[.cell t 26]) (ht : tm.getD t undef = .pointer (some ⟨w.heap.size, 0, none⟩)) : Q9 .ret ⟨tm, []⟩ (kN w1 w.heap.size x ao cap) := by
 obtain ⟨X, ho⟩ := b.S.ow;obtain ⟨f1, f2, f3, f4⟩ := b.F.fin b.B (Ow.kd ho).2;rw [← p.eq];exact bodyPost_ret (vo hres ht f1) rfl (RPost.ok f2 hT ⟨⟨ao, cap, rfl, ho.fin x ao cap⟩, hl⟩ f3)
end
structure Ps9 (fn : Func) (E : Env) (d : Nat) (w : World) (T : Res (List Ty)) (Q9 : Exit → Act → World → Prop) : Prop where
 eq : bodyPost Tryz.prog fn (RPost E d w T (OwB w)) = Q9
theorem Ps9.ex (fn : Func) (E : Env) (d : Nat) (w : World) (T : Res (List Ty)) : ∃ Q9, Ps9 fn E d w T Q9 := ⟨_, ⟨rfl⟩⟩
theorem Bd.fin {E : Env} {v w w1 : World} {d : Nat} {s : RS} {ls : List At} {T : Res (List Ty)} {v9 : Value} {l : List Ty} (b : Bs E v w d w1 s (.ow v9 l :: ls)) (hT : Rl T l s) (hl : l.length ≤ 200000) : RPost E d v T (OwB v) (.returned v9) w1 := by
 obtain ⟨X, hk⟩ := b.S.ow;exact RPost.ok b.F.G hT ⟨hk.q b.F.vw, hl⟩ b.F.R
theorem vV {β : Type} {P : Src} {item : M Ty} {sg : ByteArray} {K : List Ty → M β} {T : Res β} {s s1 : RS} {x : Ty} (q : Qr T (jZ P item sg >>= K) s) (hr : Rl (rn item s) x s1) (hst : ∀ i x j, item i = .ok x j → i + 1 ≤ j) (hle : s1.i ≤ P.toks.length) : ∃ f, SepAt P item sg K T [x] (ka P sg s1) (if ka P sg s1 = true then stp s1 else s1) f := by
 obtain ⟨r1, r2, r3⟩ := row_first q.eq hr hst;exact sep_head r1 r2 hle r3
theorem SepAt.next {β : Type} {P : Src} {item : M Ty} {sg : ByteArray} {K : List Ty → M β} {T : Res β} {l : List Ty} {s s1 : RS} {f : Nat} {x : Ty} (h : SepAt P item sg K T l true s f) (hr : Rl (rn item s) x s1) (hst : ∀ i x j, item i = .ok x j → i + 1 ≤ j) (hle : s1.i ≤ P.toks.length) : (∃ f, SepAt P item sg K T (l ++ [x]) (ka P sg s1) (if ka P sg s1 = true then stp s1 else s1) f) ∧ (s1.k = 0 → s.i + 1 ≤ s1.i) := by
 obtain ⟨r1, r2, r3, r4⟩ := h.item hr hst;exact ⟨sep_head r1 r2 hle r3, r4⟩
theorem SepAt.end {β : Type} {P : Src} {item : M Ty} {sg : ByteArray} {K : List Ty → M β} {T : Res β} {l : List Ty} {s : RS} {f : Nat} (h : SepAt P item sg K T l false s f) : Qr T (K l) s := ⟨h.done⟩
theorem SepAt.le {β : Type} {P : Src} {item : M Ty} {sg : ByteArray} {K : List Ty → M β} {T : Res β} {l : List Ty} {s : RS} {f : Nat} {E : Env} {w : World} {d : Nat} (h : SepAt P item sg K T l true s f) (hr : Rr E w s d) : s.k = 0 ∧ l.length ≤ 100000 := by
 have h0 := h.go rfl;have h1 := (h.fl h0).2;have h2 := hr.le;have h3 := hr.ok.len;exact ⟨h0, by omega⟩
end Go.Proofs.YthehjeeiodbkjaaGreatDoor
