/-
  Proved: nothing by itself: the grammar of what is read and written: a category, the levels that it takes, the trees, the words. Conditions: none.
-/
import Derived.Test.YthehjeeiodbkjaaGreatDoorA01
import Derived.Test.YthehjeeiodbkjaaGreatDoorA23
set_option linter.unusedSimpArgs false
set_option linter.unusedVariables false
set_option maxRecDepth 100000
set_option maxHeartbeats 16000000
namespace Go.Proofs.YthehjeeiodbkjaaGreatDoor
open Go.RowKit
def dgL (n : Nat) : List UInt8 := if _h : n < 10 then [UInt8.ofNat (48 + n)] else dgL (n / 10) ++ [UInt8.ofNat (48 + n % 10)]
termination_by n
def dgW (n : Nat) : ByteArray := ⟨(dgL n).toArray⟩
def Wt (w : ByteArray) (k : Nat) (t : ByteArray) (n : Nat) : Prop := lexD w = ([(k, 0, t, n), (0, w.size, ByteArray.empty, 0)], (0, 0))
structure Nm (k : Nat) (s : ByteArray) : Prop where
 wt : Wt s k s 0
 pos : 0 < s.size
 bytes : ∀ b ∈ s.data.toList, inName b.toNat = true
inductive PathW : Nat → ByteArray → List ByteArray → Prop
 | low {s} : Nm 3 s → PathW 3 s [s]
 | up {s} : Nm 4 s → PathW 4 s [s]
 | more {k s t ws} : Nm 4 s → PathW k t ws → PathW k (s ++ s_dot ++ t) (s :: s_dot :: ws)
def opL (k : Nat) : List ByteArray :=
 if k = 1 then [s_asg] else if k = 4 then [s_eq, s_ne, s_lt, s_le, s_gt, s_ge] else if k = 5 then [s_cons] else if k = 6 then [s_pl, s_mi, s_ca] else if k = 7 then [s_st, s_sl, s_pc] else []
def opA (k : Nat) : Nat := if k = 6 ∨ k = 7 then k else k + 1
def opB (k : Nat) : Nat := if k = 5 then k else k + 1
inductive Cat where
 | e0 (k : Nat) | ex (k : Nat) | rule | p0 (k : Nat) | pt (k : Nat) | t0 (k : Nat) | ty (k : Nat)
 | dec (w : Nat) | dx | fb | db | con | body | sig | spec | tv | head (s : ByteArray)
 | row (c : Cat) (s : ByteArray) | many (c : Cat)
abbrev e_ : ByteArray := ⟨#[]⟩
open Cat in
inductive DX (X : Prop) : Cat → Nat → List Ty → List ByteArray → Prop
 | row1 {c s g n ws} : DX X c g [n] ws → DX X (row c s) g [n] ws
 | rowS {c s g n m l ws vs} : DX X c g [n] ws → DX X (row c s) g (m :: l) vs → DX X (row c s) g (n :: m :: l) (ws ++ s :: vs)
 | mnil {c g} : DX X (many c) g [] []
 | mcons {c g n l ws vs} : DX X c g [n] ws → DX X (many c) g l vs → DX X (many c) g (n :: l) (ws ++ vs)
 | e_int {g a} {N : Nat} : N ≤ 1000000000 → DX X (e0 10) g [.mk 1 a e_ N []] [dgW N]
 | e_str {g a s} : s.size ≤ 200 → DX X (e0 10) g [.mk 2 a s 0 []] [quoteD s]
 | e_path {g a s ws} {k : Nat} : PathW k s ws → DX X (e0 10) g [.mk k a s 0 []] ws
 | e_tf {g a s} : s = w_true ∨ s = w_false → DX X (e0 10) g [.mk 4 a s 0 []] [s]
 | e_unit {g a} : DX X (e0 10) g [.mk 5 a e_ 0 []] [s_lp, s_rp]
 | e_tup {g a x y l ws} : DX X (row (ex 0) s_com) g (x :: y :: l) ws → DX X (e0 10) (g + 1) [.mk 5 a e_ 0 (x :: y :: l)] (s_lp :: (ws ++ [s_rp]))
 | e_seq {g a x y l ws} : DX X (row (ex 0) s_sem) g (x :: y :: l) ws → DX X (e0 10) (g + 1) [.mk 15 a e_ 0 (x :: y :: l)] (s_lp :: (ws ++ [s_rp]))
 | e_nil {g a} : DX X (e0 10) g [.mk 6 a e_ 0 []] [s_lb, s_rb]
 | e_list {g a x l ws} : DX X (row (ex 0) s_com) g (x :: l) ws → DX X (e0 10) (g + 1) [.mk 6 a e_ 0 (x :: l)] (s_lb :: (ws ++ [s_rb]))
 | e_app {g a f x fw xw} : DX X (ex 8) g [f] fw → DX X (ex 9) g [x] xw → DX X (e0 8) g [.mk 8 a e_ 0 [f, x]] (fw ++ xw)
 | e_fn {g a p e pw ew} : DX X (pt 2) (g + 1) [p] pw → DX X (ex 0) g [e] ew → DX X (e0 0) (g + 1) [.mk 7 a e_ 0 [p, e]] (w_fn :: (pw ++ s_arr :: ew))
 | e_if {g a x y z xw yw zw} : DX X (ex 0) g [x] xw → DX X (ex 0) g [y] yw → DX X (ex 0) g [z] zw → DX X (e0 0) (g + 1) [.mk 9 a e_ 0 [x, y, z]] (w_if :: (xw ++ w_then :: (yw ++ w_else :: zw)))
 | e_raise {g a x xw} : DX X (ex 0) g [x] xw → DX X (e0 0) (g + 1) [.mk 13 a e_ 0 [x]] (w_raise :: xw)
 | e_case {g a e r l ew rw} : DX X (ex 0) g [e] ew → DX X (row rule s_bar) (g + 1) (r :: l) rw → DX X (e0 10) (g + 1) [.mk 10 a e_ 0 (e :: r :: l)] (w_case :: (ew ++ w_of :: (rw ++ [w_end])))
 | e_try {g a e r l ew rw} : DX X (ex 0) g [e] ew → DX X (row rule s_bar) (g + 1) (r :: l) rw → DX X (e0 10) (g + 1) [.mk 11 a e_ 0 (e :: r :: l)] (w_try :: (ew ++ w_with :: (rw ++ [w_end])))
 | e_let {g a l e lw ew} : DX X (many (dec 2)) g l lw → DX X (ex 0) g [e] ew → DX X (e0 10) (g + 1) [.mk 14 a e_ l.length (l ++ [e])] (w_let :: (lw ++ w_in :: (ew ++ [w_end])))
 | e_has {g a e t ew tw} : DX X (ex 0) g [e] ew → DX X (ty 0) g [t] tw → DX X (e0 10) (g + 1) [.mk 19 a e_ 0 [e, t]] (s_lp :: (ew ++ s_col :: (tw ++ [s_rp])))
 | e_or {g a x y xw yw} : DX X (ex 2) g [x] xw → DX X (ex 3) g [y] yw → DX X (e0 2) g [.mk 17 a e_ 0 [x, y]] (xw ++ w_orelse :: yw)
 | e_and {g a x y xw yw} : DX X (ex 3) g [x] xw → DX X (ex 4) g [y] yw → DX X (e0 3) g [.mk 16 a e_ 0 [x, y]] (xw ++ w_andalso :: yw)
 | e_op {g a s k x y xw yw} : s ∈ opL k → DX X (ex (opA k)) g [x] xw → DX X (ex (opB k)) g [y] yw → DX X (e0 k) g [.mk 18 a s 0 [x, y]] (xw ++ s :: yw)
 | e_un {g a s x xw} : s = s_ti ∨ s = s_ex → DX X (ex 9) g [x] xw → DX X (e0 9) g [.mk 18 a s 0 [x]] (s :: xw)
 | ex_np {g h k l n ws} : DX X (e0 k) h [n] ws → l ≤ k → h ≤ g → DX X (ex l) g [n] ws
 | ex_par {g h k l n ws} : DX X (e0 k) h [n] ws → k < l → h < g → DX X (ex l) g [n] (s_lp :: (ws ++ [s_rp]))
 | rule {g a p e pw ew} : DX X (pt 0) g [p] pw → DX X (ex 0) g [e] ew → DX X rule (g + 1) [.mk 12 a e_ 0 [p, e]] (pw ++ s_arr :: ew)
 | p_any {g a} : DX X (p0 2) g [.mk 20 a e_ 0 []] [s_us]
 | p_var {g a s} : Nm 3 s → DX X (p0 2) g [.mk 21 a s 0 []] [s]
 | p_int {g a} {N : Nat} : N ≤ 1000000000 → DX X (p0 2) g [.mk 22 a e_ N []] [dgW N]
 | p_neg {g a} {N : Nat} : 0 < N → N ≤ 1000000000 → DX X (p0 2) g [.mk 22 a e_ (-(N : Int)) []] [s_ti, dgW N]
 | p_str {g a s} : s.size ≤ 200 → DX X (p0 2) g [.mk 23 a s 0 []] [quoteD s]
 | p_con {g a s ws} : PathW 4 s ws → DX X (p0 2) g [.mk 24 a s 0 []] ws
 | p_tf {g a s} : s = w_true ∨ s = w_false → DX X (p0 2) g [.mk 24 a s 0 []] [s]
 | p_arg {g a s ws p pw} : PathW 4 s ws → DX X (pt 2) g [p] pw → DX X (p0 1) g [.mk 24 a s 0 [p]] (ws ++ pw)
 | p_unit {g a} : DX X (p0 2) g [.mk 25 a e_ 0 []] [s_lp, s_rp]
 | p_tup {g a x y l ws} : DX X (row (pt 0) s_com) g (x :: y :: l) ws → DX X (p0 2) (g + 1) [.mk 25 a e_ 0 (x :: y :: l)] (s_lp :: (ws ++ [s_rp]))
 | p_nil {g a} : DX X (p0 2) g [.mk 26 a e_ 0 []] [s_lb, s_rb]
 | p_list {g a x l ws} : DX X (row (pt 0) s_com) g (x :: l) ws → DX X (p0 2) (g + 1) [.mk 26 a e_ 0 (x :: l)] (s_lb :: (ws ++ [s_rb]))
 | p_cons {g a p q pw qw} : DX X (pt 1) g [p] pw → DX X (pt 0) g [q] qw → DX X (p0 0) g [.mk 27 a e_ 0 [p, q]] (pw ++ s_cons :: qw)
 | p_as {g a s p pw} : Nm 3 s → DX X (pt 0) g [p] pw → DX X (p0 2) (g + 1) [.mk 28 a s 0 [p]] (s_lp :: s :: w_as :: (pw ++ [s_rp]))
 | p_has {g a p t pw tw} : DX X (pt 0) g [p] pw → DX X (ty 0) g [t] tw → DX X (p0 2) (g + 1) [.mk 29 a e_ 0 [p, t]] (s_lp :: (pw ++ s_col :: (tw ++ [s_rp])))
 | pt_np {g h k l n ws} : DX X (p0 k) h [n] ws → l ≤ k → h ≤ g → DX X (pt l) g [n] ws
 | pt_par {g h k l n ws} : DX X (p0 k) h [n] ws → k < l → h < g → DX X (pt l) g [n] (s_lp :: (ws ++ [s_rp]))
 | t_var {g a s} : Nm 5 s → DX X (t0 2) g [.mk 30 a s 0 []] [s]
 | t_con {g a s ws} : PathW 3 s ws → DX X (t0 2) g [.mk 31 a s 0 []] ws
 | t_one {g a s ws t tw} : DX X (ty 2) g [t] tw → PathW 3 s ws → DX X (t0 2) g [.mk 31 a s 0 [t]] (tw ++ ws)
 | t_more {g a s ws x y l tw} : DX X (row (ty 0) s_com) g (x :: y :: l) tw → PathW 3 s ws → DX X (t0 2) (g + 1) [.mk 31 a s 0 (x :: y :: l)] (s_lp :: (tw ++ s_rp :: ws))
 | t_tup {g a x y l ws} : DX X (row (ty 2) s_st) g (x :: y :: l) ws → DX X (t0 1) g [.mk 32 a e_ 0 (x :: y :: l)] ws
 | t_arr {g a x y xw yw} : DX X (ty 1) (g + 1) [x] xw → DX X (ty 0) g [y] yw → DX X (t0 0) (g + 1) [.mk 33 a e_ 0 [x, y]] (xw ++ s_to :: yw)
 | ty_np {g h k l n ws} : DX X (t0 k) h [n] ws → l ≤ k → h ≤ g → DX X (ty l) g [n] ws
 | ty_par {g h k l n ws} : DX X (t0 k) h [n] ws → k < l → h < g → DX X (ty l) g [n] (s_lp :: (ws ++ [s_rp]))
 | d_val {g a w p e pw ew} : DX X (pt 0) g [p] pw → DX X (ex 0) g [e] ew → DX X (dec w) (g + 1) [.mk 34 a e_ 0 [p, e]] (w_val :: (pw ++ s_eq :: ew))
 | d_fun {g a w x l ws} : DX X (row fb w_and) g (x :: l) ws → DX X (dec w) g [.mk 35 a e_ 0 (x :: l)] (w_fun :: ws)
 | fb {g a s p l e lw ew} : Nm 3 s → DX X (many (pt 2)) (g + 1) (p :: l) lw → DX X (ex 0) g [e] ew → DX X fb (g + 1) [.mk 36 a s 0 ((p :: l) ++ [e])] (s :: (lw ++ s_eq :: ew))
 | fb_has {g a b s p l e t lw ew tw} : X → Nm 3 s → DX X (many (pt 2)) (g + 2) (p :: l) lw → DX X (ex 0) g [e] ew → DX X (ty 0) (g + 1) [t] tw → DX X fb (g + 2) [.mk 36 a s 0 ((p :: l) ++ [.mk 19 b e_ 0 [e, t]])] (s :: (lw ++ s_eq :: s_lp :: (ew ++ s_col :: (tw ++ [s_rp]))))
 | d_type {g a w s l t hw tw} : w ≤ 1 → DX X (head s) g l hw → DX X (ty 0) g [t] tw → DX X (dec w) (g + 1) [.mk 37 a s l.length (l ++ [t])] (w_type :: (hw ++ s_eq :: tw))
 | d_dx {g w n ws} : n.k = 41 ∨ w ≤ 1 → DX X dx g [n] ws → DX X (dec w) g [n] ws
 | dx_data {g a x l ws} : DX X (row db w_and) g (x :: l) ws → DX X dx g [.mk 38 a e_ 0 (x :: l)] (w_data :: ws)
 | dx_exn0 {g a s} : Nm 4 s → DX X dx g [.mk 41 a s 0 []] [w_exception, s]
 | dx_exn1 {g a s t tw} : Nm 4 s → DX X (ty 0) g [t] tw → DX X dx (g + 1) [.mk 41 a s 0 [t]] (w_exception :: s :: w_of :: tw)
 | db {g a s v x l hw ws} : DX X (head s) g v hw → DX X (row con s_bar) g (x :: l) ws → DX X db g [.mk 39 a s v.length (v ++ x :: l)] (hw ++ s_eq :: ws)
 | con0 {g a s} : Nm 4 s → DX X con g [.mk 40 a s 0 []] [s]
 | con1 {g a s t tw} : Nm 4 s → DX X (ty 0) g [t] tw → DX X con (g + 1) [.mk 40 a s 0 [t]] (s :: w_of :: tw)
 | d_str0 {g a w s b bw} : w ≤ 1 → Nm 4 s → DX X body g [b] bw → DX X (dec w) g [.mk 42 a s 0 [b]] (w_structure :: s :: s_eq :: bw)
 | d_str1 {g a w s c x b xw bw} {N : Nat} : w ≤ 1 → Nm 4 s → (c = s_col ∧ N = 1 ∨ c = s_opq ∧ N = 2) → DX X sig g [x] xw → DX X body (g + 1) [b] bw → DX X (dec w) (g + 1) [.mk 42 a s N [x, b]] (w_structure :: s :: c :: (xw ++ s_eq :: bw))
 | d_sig {g a w s x xw} : w = 0 → Nm 4 s → DX X sig g [x] xw → DX X (dec w) (g + 1) [.mk 43 a s 0 [x]] (w_signature :: s :: s_eq :: xw)
 | d_open {g a w s ws} : PathW 4 s ws → DX X (dec w) g [.mk 44 a s 0 []] (w_open :: ws)
 | b_nil {g a} : DX X body g [.mk 45 a e_ 0 []] [w_struct, w_end]
 | b_str {g a x l ws} : DX X (many (dec 1)) g (x :: l) ws → DX X body (g + 1) [.mk 45 a e_ 0 (x :: l)] (w_struct :: (ws ++ [w_end]))
 | b_path {g a s ws} : PathW 4 s ws → DX X body g [.mk 46 a s 0 []] ws
 | s_body {g a l ws} : DX X (many spec) g l ws → DX X sig g [.mk 47 a e_ 0 l] (w_sig :: (ws ++ [w_end]))
 | s_name {g a s} : Nm 4 s → DX X sig g [.mk 48 a s 0 []] [s]
 | sp_val {g a s t tw} : Nm 3 s → DX X (ty 0) g [t] tw → DX X spec (g + 1) [.mk 49 a s 0 [t]] (w_val :: s :: s_col :: tw)
 | sp_type {g a s l hw} : DX X (head s) g l hw → DX X spec g [.mk 50 a s l.length l] (w_type :: hw)
 | sp_type1 {g a s l t hw tw} : DX X (head s) g l hw → DX X (ty 0) g [t] tw → DX X spec (g + 1) [.mk 50 a s l.length (l ++ [t])] (w_type :: (hw ++ s_eq :: tw))
 | sp_dx {g n ws} : DX X dx g [n] ws → DX X spec g [n] ws
 | sp_str {g a s x xw} : Nm 4 s → DX X sig g [x] xw → DX X spec (g + 1) [.mk 51 a s 0 [x]] (w_structure :: s :: s_col :: xw)
 | tv {g a s} : Nm 5 s → DX X tv g [.mk 30 a s 0 []] [s]
 | h_none {g s} : Nm 3 s → DX X (head s) g [] [s]
 | h_one {g s v ws} : Nm 3 s → DX X tv g [v] ws → DX X (head s) g [v] (ws ++ [s])
 | h_more {g s x y l ws} : Nm 3 s → DX X (row tv s_com) g (x :: y :: l) ws → DX X (head s) g (x :: y :: l) (s_lp :: (ws ++ [s_rp, s]))
abbrev D := DX True
def jl : List ByteArray → Nat
 | [] => 0
 | w :: r => w.size + 1 + jl r
theorem jl_app : ∀ (a b : List ByteArray), jl (a ++ b) = jl a + jl b
 | [], b => by simp [jl]
 | x :: a, b => by simp only [List.cons_append, jl, jl_app a b]; omega
theorem jl_len : ∀ (a : List ByteArray), a.length ≤ jl a
 | [] => Nat.le_refl _
 | x :: a => by have := jl_len a; simp only [List.length_cons, jl]; omega
def TopG (k : Nat) (n : Ty) (ws : List ByteArray) : Prop :=
 if k = 0 then ∃ l, n = .mk 0 0 e_ 0 l ∧ D (.many (.dec 0)) 59 l ws else if k = 1 then D (.ex 0) 59 [n] ws else if k = 2 then D (.pt 0) 59 [n] ws else D (.ty 0) 59 [n] ws
end Go.Proofs.YthehjeeiodbkjaaGreatDoor
