/-
  Proved: what is written is read as it was; what is written is read as it was: expressions; what is written is read as it was: the greater expressions. Conditions: the tokens are those of the words.
-/
import Derived.Test.YthehjeeiodbkjaaGreatDoorA01
import Derived.Test.YthehjeeiodbkjaaGreatDoorA26
set_option linter.unusedSimpArgs false
set_option linter.unusedVariables false
set_option linter.unusedSectionVars false
set_option maxRecDepth 100000
set_option maxHeartbeats 16000000
namespace Go.Proofs.YthehjeeiodbkjaaGreatDoor
open Go.RowKit
def Mo (P : Src) (c : Cat) (g : Nat) (l : List Ty) (ws : List ByteArray) : Prop :=
 ∀ G i j, g ≤ G → AtW P i ws → i + ws.length = j → Ok P c → Fl P c j → ∃ l', stripL l = stripL l' ∧ Rk P (recS P G) c l' i j
section
variable {P : Src}
theorem go_s (G : Nat) (nt : NT) : (recS P (G + 1)).go nt = stepB P (recS P G) nt := readS_succ P G nt
theorem up {g G : Nat} (h : g + 1 ≤ G) : ∃ H, G = H + 1 ∧ g ≤ H := ⟨G - 1, by omega, by omega⟩
theorem strip_one {n : Ty} {l : List Ty} (h : stripL [n] = stripL l) : ∃ m, l = [m] ∧ strip n = strip m := by
 cases l with
 | nil => simp [stripL] at h
 | cons m r =>
  cases r with
  | nil => simp [stripL] at h; exact ⟨m, rfl, h⟩
  | cons x r => simp [stripL] at h
theorem strip_cons {n : Ty} {a l : List Ty} (h : stripL (n :: a) = stripL l) : ∃ m r, l = m :: r ∧ strip n = strip m ∧ stripL a = stripL r := by
 cases l with
 | nil => simp [stripL] at h
 | cons m r => simp [stripL] at h; exact ⟨m, r, rfl, h⟩
theorem Mo.one {c : Cat} {g : Nat} {n : Ty} {ws : List ByteArray} (h : Mo P c g [n] ws) {G i j : Nat} (hG : g ≤ G) (hA : AtW P i ws) (hj : i + ws.length = j) (hF : Fl P c j) (hb : base c = true := by rfl) : ∃ m, strip n = strip m ∧ Rk P (recS P G) c [m] i j := by
 obtain ⟨l', h1, h2⟩ := h G i j hG hA hj (ok_base P hb) hF
 obtain ⟨m, rfl, h3⟩ := strip_one h1
 exact ⟨m, h3, h2⟩
theorem mo_row1 {c : Cat} {s : ByteArray} {g : Nat} {n : Ty} {ws : List ByteArray} (h : Mo P c g [n] ws) : Mo P (.row c s) g [n] ws := by
 intro G i j hG hA hj (hO : RowOk P c s) hF
 obtain ⟨m, h1, h2⟩ := h.one hG hA hj (hO.fl hF.1) hO.b
 have hle := AtW.le hA
 exact ⟨[m], by simp [stripL, h1], m, [], j, rfl, h2, hO.rd (by omega) h2 hF.1, by omega, Nat.le_refl _, fun f acc _ => by rw [sep_stop hF.2]; simp⟩
theorem mo_rowS {c : Cat} {s : ByteArray} {g : Nat} {n m : Ty} {l : List Ty} {ws vs : List ByteArray} (h : Mo P c g [n] ws) (h2 : Mo P (.row c s) g (m :: l) vs) : Mo P (.row c s) g (n :: m :: l) (ws ++ s :: vs) := by
 intro G i j hG hA hj (hO : RowOk P c s) hF
 simp only [List.length_append, List.length_cons] at hj
 obtain ⟨ha, hb⟩ := hA.app
 have hs := hb.1.sg hO.sg
 obtain ⟨n', h3, h4⟩ := h.one hG ha rfl (hO.fl (hO.fi hs)) hO.b
 obtain ⟨l', h5, x, r, i0, rfl, -, h6, h6a, h7, h8⟩ := h2 G _ j hG hb.2 (by omega) hO hF
 have hle := AtW.le ha
 refine ⟨n' :: x :: r, by rw [show stripL (n :: m :: l) = strip n :: stripL (m :: l) from by rw [stripL], h3, h5]; simp [stripL], n', x :: r, _, rfl, h4, hO.rd (by omega) h4 (hO.fi hs), by omega, by omega, fun f acc hf => ?_⟩
 cases f with
 | zero => omega
 | succ f =>
  show (if _ then _ else _) = _
  rw [if_pos hs.me]
  refine bind_to h6 ?_
  have hle2 := AtW.le hb.2
  rw [h8 f (acc ++ [x]) (by omega)]
  simp
theorem mo_mnil {c : Cat} {g : Nat} : Mo P (.many c) g [] [] := by
 intro G i j hG hA hj hO hF
 obtain rfl : i = j := hj
 exact ⟨[], rfl, fun f acc _ => by rw [many_stop hF.2]; simp⟩
theorem mo_mcons {c : Cat} {g : Nat} {n : Ty} {l : List Ty} {ws vs : List ByteArray} (h : Mo P c g [n] ws) (h2 : Mo P (.many c) g l vs) (hws : base c = true → 0 < ws.length) : Mo P (.many c) g (n :: l) (ws ++ vs) := by
 intro G i j hG hA hj (hO : ManyOk P c) hF
 have hws := hws hO.b
 simp only [List.length_append] at hj
 obtain ⟨ha, hb⟩ := hA.app
 obtain ⟨l', h5, h8⟩ := h2 G _ j hG hb (by omega) hO hF
 have hfi : Fi P c (i + ws.length) := by
  cases e : beg P c (i + ws.length) with
  | true => exact hO.fi e
  | false =>
   have h9 := h8 (P.toks.length + 1) [] (by omega)
   rw [many_stop e] at h9
   simp only [Res.ok.injEq] at h9
   rw [h9.2]; exact hF.1
 obtain ⟨n', h3, h4⟩ := h.one hG ha rfl (hO.fl hfi) hO.b
 refine ⟨n' :: l', by rw [stripL, stripL, h3, h5], fun f acc hf => ?_⟩
 have hle := AtW.le ha
 cases f with
 | zero => omega
 | succ f =>
  show (if _ then _ else _) = _
  rw [if_pos (hO.rd h4).1]
  refine bind_to (hO.rd h4).2 ?_
  rw [h8 f (acc ++ [n']) (by omega)]
  simp
theorem row_ex {s : ByteArray} (h1 : inW (wordsA ++ signsA) s = true := by decide) (h2 : fe 1 s = true := by decide) : RowOk P (.ex 0) s :=
 ⟨rfl, h1, fun h => h.fe h2, fun hj h hf => by simp only [Rk, LvE, if_pos] at h; exact h.1, fun h => h⟩
theorem row_rule : RowOk P .rule s_bar := ⟨rfl, by decide, fun h => h.fe, fun hj h hf => h, fun h => h⟩
theorem LvP.pat {R : Rec} {n : Ty} {i j : Nat} (hj : j ≤ P.toks.length) (h : LvP P R 0 n i j) : patB P R i = .ok n j := by
 obtain ⟨-, -, -, h⟩ := h
 rw [if_pos rfl] at h
 obtain ⟨x, r, i0, h1, -, h2, rfl, h3⟩ := h
 exact bind_to (bind_to h1 (h3 _ _ (by omega))) rfl
theorem row_pt : RowOk P (.pt 0) s_com := ⟨rfl, by decide, fun h => h.fp, fun hj h hf => LvP.pat hj h, fun h => h⟩
theorem row_ty0 : RowOk P (.ty 0) s_com := ⟨rfl, by decide, fun h => h.ft, fun hj h hf => h, fun h => h⟩
theorem row_ty2 : RowOk P (.ty 2) s_st := ⟨rfl, by decide, fun h => h.ft, fun {R n i j} hj h hf => by
 obtain ⟨a, f, h1, h2⟩ := h
 show appliedB P R i = _
 rw [h2]; exact appL_stop hj h1 (hf.nm (by omega)), fun h => h.mono (by decide)⟩
theorem row_fb : RowOk P .fb w_and := ⟨rfl, by decide, fun h => h.fe, fun hj h hf => h, fun h => h⟩
theorem row_db : RowOk P .db w_and := ⟨rfl, by decide, fun h => ⟨h.ft, by rw [h.is]; decide, by rw [h.is]; decide⟩, fun hj h hf => h, fun h => h⟩
theorem row_con : RowOk P .con s_bar := ⟨rfl, by decide, fun h => ⟨h.ft, by rw [h.is]; decide⟩, fun hj h hf => h, fun h => h⟩
theorem row_tv : RowOk P .tv s_com := ⟨rfl, by decide, fun h => trivial, fun hj h hf => h, fun h => h⟩
theorem one_sg {l : List ByteArray} {i : Nat} (h : oneD P l i = true) : ∃ s, s ∈ l ∧ Sg P i s := by
 unfold oneD at h
 simp only [Bool.and_eq_true, decide_eq_true_eq, List.any_eq_true] at h
 obtain ⟨hk, s, hs, e⟩ := h
 exact ⟨s, hs, hk, e⟩
theorem starts_fa : ∀ w, ∀ s ∈ startsL w, fa s = true := by
 intro w
 unfold startsL
 split
 · decide
 split
 · decide
 · decide
theorem many_dec {w : Nat} : ManyOk P (.dec w) := ⟨rfl, fun h => by
 obtain ⟨s, hs, h1⟩ := one_sg (l := startsL w) h
 exact h1.fa (starts_fa w s hs), fun h => h, fun h => h⟩
theorem many_spec : ManyOk P .spec := ⟨rfl, fun h => by
 obtain ⟨s, hs, h1⟩ := one_sg (l := specW) h
 exact h1.fa ((show ∀ s ∈ specW, fa s = true by decide) s hs), fun h => h, fun h => h⟩
theorem begun_dot {i : Nat} (h : begunB P i = true) {s : ByteArray} (hs : inW begP s = false := by decide) : isD P s i = false := by
 cases h2 : isD P s i with
 | false => rfl
 | true =>
  have h3 : Sg P i s := by unfold isD at h2; simp at h2; exact ⟨h2.1, h2.2⟩
  rw [h3.begun, hs] at h; cases h
theorem many_pt : ManyOk P (.pt 2) := ⟨rfl, fun h => ⟨begun_dot h, fun h => by omega, fun h => by omega⟩, fun h => ⟨h.1, h.2.2.2⟩, fun h => h⟩
theorem path_at {k : Nat} {s : ByteArray} {ws : List ByteArray} (h : PathW k s ws) : ∀ {i : Nat}, AtW P i ws → (P.K i = 3 ∨ P.K i = 4) ∧ (k = 4 → P.K i = 4) ∧ ∀ {last j}, i + ws.length = j → (k = 3 → last ≠ 4) → (k = 4 → last ≠ 3 ∧ isD P s_dot j = false) → ∀ f s0, ws.length ≤ f → pathL P last f s0 i = .ok (s0 ++ s, k) j := by
 induction h with
 | low h =>
  intro i hA
  have hk := hA.1.nm h
  refine ⟨.inl hk.1, fun e => by omega, fun {last j} hj h3 h4 f s0 hf => ?_⟩
  cases f with
  | zero => simp at hf
  | succ f =>
   show (if _ then _ else _) = _
   rw [if_pos ⟨hk.1, h3 rfl⟩, hk.2, ← hj]; rfl
 | up h =>
  intro i hA
  have hk := hA.1.nm h
  refine ⟨.inr hk.1, fun e => hk.1, fun {last j} hj h3 h4 f s0 hf => ?_⟩
  cases f with
  | zero => simp at hf
  | succ f =>
   have h4 := h4 rfl
   have hk1 : P.K i = 4 := hk.1
   show (if _ then _ else _) = _
   have ej : i + 1 = j := hj
   rw [if_neg (by rw [hk1]; simp), if_neg (by rw [hk1]; simp), if_neg (by rw [ej, h4.2]; simp), if_neg h4.1, hk.2, ej]
 | @more k s t ws h hp ih =>
  intro i hA
  have hk := hA.1.nm h
  obtain ⟨-, hd, hA2⟩ := hA
  obtain ⟨-, -, h5⟩ := ih hA2
  refine ⟨.inr hk.1, fun e => hk.1, fun {last j} hj h3 h4 f s0 hf => ?_⟩
  simp only [List.length_cons] at hj hf
  cases f with
  | zero => omega
  | succ f =>
   have hk1 : P.K i = 4 := hk.1
   show (if _ then _ else _) = _
   rw [if_neg (by rw [hk1]; simp), if_neg (by rw [hk1]; simp), if_pos hd.sg.me, h5 (by omega) h3 h4 f _ (by omega), hk.2, ba_assoc, ba_assoc, ba_assoc]
theorem path_ok {k : Nat} {s : ByteArray} {ws : List ByteArray} (h : PathW k s ws) {i j last : Nat} (hA : AtW P i ws) (hj : i + ws.length = j) (h3 : k = 3 → last ≠ 4) (h4 : k = 4 → last ≠ 3 ∧ isD P s_dot j = false) : pathD P last i = .ok (s, k) j := by
 have hle := AtW.le hA
 unfold pathD
 rw [(path_at h hA).2.2 hj h3 h4 _ _ (by omega), ba_nil]
end
section
variable {P : Src}
theorem row_rd {R : Rec} {c : Cat} {s : ByteArray} {l : List Ty} {i j : Nat} (hj : j ≤ P.toks.length) (h : Rk P R (.row c s) l i j) : rowD P (rd P R c) s i = .ok l j := by
 obtain ⟨x, r, i0, rfl, -, h1, h2, h3, h4⟩ := h
 exact bind_to h1 (h4 _ _ (by omega))
theorem row_more {R : Rec} {c : Cat} {s : ByteArray} {l : List Ty} {i j : Nat} (h : Rk P R (.row c s) l i j) {x y : Ty} {r : List Ty} (e : stripL (x :: y :: r) = stripL l) : ∃ x' l' i0, l = x' :: l' ∧ Rk P R c [x'] i i0 ∧ rd P R c i = .ok x' i0 ∧ isD P s i0 = true ∧ rowD P (rd P R c) s (i0 + 1) = .ok l' j := by
 obtain ⟨x', r', i0, rfl, h0, h1, h2, h3, h4⟩ := h
 obtain ⟨m, r2, e2, -, h5⟩ := strip_cons e
 obtain ⟨rfl, rfl⟩ : x' = m ∧ r' = r2 := by simpa using e2
 obtain ⟨m, r3, rfl, -, -⟩ := strip_cons h5
 refine ⟨x', _, i0, rfl, h0, h1, ?_⟩
 have h6 := h4 (P.toks.length + 1 + 1) [] (by omega)
 rw [show sepL P (rd P R c) s (P.toks.length + 1 + 1) [] i0 = if isD P s i0 then rowD P (rd P R c) s (i0 + 1) else .ok [] i0 from rfl] at h6
 split at h6
 · rename_i h7; exact ⟨h7, h6⟩
 · simp at h6
theorem go_exp {H i j : Nat} {m : Ty} (h : Rk P (recS P H) (.ex 0) [m] i j) : (recS P (H + 1)).go .exp i = .ok m j := by
 rw [go_s]
 simp only [Rk, LvE, if_pos] at h
 exact h.1
theorem go_pat {H i j : Nat} {m : Ty} (hj : j ≤ P.toks.length) (h : Rk P (recS P H) (.pt 0) [m] i j) : (recS P (H + 1)).go .pat i = .ok m j := by
 rw [go_s]; exact LvP.pat hj h
theorem go_typ {H i j : Nat} {m : Ty} (h : Rk P (recS P H) (.ty 0) [m] i j) : (recS P (H + 1)).go .typ i = .ok m j := by
 rw [go_s]; exact h
theorem lv10 {R : Rec} {n : Ty} {i j : Nat} {s : ByteArray} (h : Sg P i s) (hij : i < j) (ha : atomB P R i = .ok n j) (hs : (inW begLe s && !decide (s = s_ti) && !decide (s = s_ex)) = true := by decide) : LvE P R 10 n i j := by
 simp only [Bool.and_eq_true, Bool.not_eq_true'] at hs
 unfold LvE
 rw [if_neg (by omega), if_neg (by omega), if_neg (by omega), if_neg (by omega)]
 exact ⟨by rw [h.begins]; exact hs.1.1, hij, by rw [h.is]; exact hs.1.2, by rw [h.is]; exact hs.2, ha⟩
theorem lv10k {R : Rec} {n : Ty} {i j : Nat} {k : Int} (h : P.K i = k) (hk : 1 ≤ k ∧ k ≤ 4) (hij : i < j) (ha : atomB P R i = .ok n j) : LvE P R 10 n i j := by
 unfold LvE
 rw [if_neg (by omega), if_neg (by omega), if_neg (by omega), if_neg (by omega)]
 refine ⟨?_, hij, nsg h (by omega) _, nsg h (by omega) _, ha⟩
 unfold beginsB
 simp [h, hk]
theorem atom_lp {R : Rec} {i : Nat} (h : Sg P i s_lp) : atomB P R i = roundB P R (P.A i) (i + 1) := by
 have hk := h.nk
 unfold atomB
 rw [if_neg hk.1, if_neg hk.2.1, if_neg (by omega), if_neg (by rw [h.is, h.is]; decide), if_pos h.me]
theorem atom_lb {R : Rec} {i : Nat} (h : Sg P i s_lb) {r : Res Ty} (hr : (eatD P s_rb >>= fun e => if e then ret (.mk 6 (P.A i) ⟨#[]⟩ 0 []) else (rowD P (R.go .exp) s_com >>= fun l => mustD P s_rb >>= fun _ => ret (.mk 6 (P.A i) ⟨#[]⟩ 0 l))) (i + 1) = r) : atomB P R i = r := by
 have hk := h.nk
 unfold atomB
 rw [if_neg hk.1, if_neg hk.2.1, if_neg (by omega), if_neg (by rw [h.is, h.is]; decide), if_neg (by rw [h.is]; decide), if_pos h.me]
 exact hr
theorem mo_e_int {g : Nat} {a : Int} {N : Nat} (hN : N ≤ 1000000000) : Mo P (.e0 10) g [.mk 1 a e_ N []] [dgW N] := by
 intro G i j hG hA hj hO hF
 obtain ⟨hk, hn⟩ := hA.1.num hN
 refine ⟨[.mk 1 (P.A i) e_ N []], by simp [stripL, strip_mk], lv10k hk (by omega) (by simp at hj; omega) ?_⟩
 unfold atomB
 rw [if_pos hk, hn, ← hj]; rfl
theorem mo_e_str {g : Nat} {a : Int} {s : ByteArray} (hN : s.size ≤ 200) : Mo P (.e0 10) g [.mk 2 a s 0 []] [quoteD s] := by
 intro G i j hG hA hj hO hF
 obtain ⟨hk, hn⟩ := hA.1.str hN
 refine ⟨[.mk 2 (P.A i) s 0 []], by simp [stripL, strip_mk], lv10k hk (by omega) (by simp at hj; omega) ?_⟩
 unfold atomB
 rw [if_neg (by rw [hk]; decide), if_pos hk, hn, ← hj]; rfl
theorem pathW_pos {k : Nat} {s : ByteArray} {ws : List ByteArray} (h : PathW k s ws) : 0 < ws.length := by cases h <;> simp
theorem mo_e_path {g k : Nat} {a : Int} {s : ByteArray} {ws : List ByteArray} (h : PathW k s ws) : Mo P (.e0 10) g [.mk k a s 0 []] ws := by
 intro G i j hG hA hj hO hF
 have hk := path_kind h
 have hp := path_ok h (last := 0) hA hj (by omega) (fun _ => ⟨by omega, hF.dot⟩)
 have h34 := (path_at h hA).1
 have hpos := pathW_pos h
 refine ⟨[.mk k (P.A i) s 0 []], by simp [stripL, strip_mk], lv10k (k := P.K i) rfl (by omega) (by omega) ?_⟩
 unfold atomB
 rw [if_neg (by omega), if_neg (by omega), if_pos h34]
 refine bind_to hp ?_
 rcases hk with rfl | rfl <;> rfl
theorem mo_e_tf {g : Nat} {a : Int} {s : ByteArray} (hs : s = w_true ∨ s = w_false) : Mo P (.e0 10) g [.mk 4 a s 0 []] [s] := by
 intro G i j hG hA hj hO hF
 have h1 : Sg P i s := by rcases hs with rfl | rfl <;> exact hA.1.sg
 have hk := h1.nk
 refine ⟨[.mk 4 (P.A i) s 0 []], by simp [stripL, strip_mk], lv10 h1 (by simp at hj; omega) ?_ (by rcases hs with rfl | rfl <;> decide)⟩
 unfold atomB
 rw [if_neg hk.1, if_neg hk.2.1, if_neg (by omega), if_pos (by rcases hs with rfl | rfl; exact .inl h1.me; exact .inr h1.me), h1.t, ← hj]; rfl
theorem mo_e_unit {g : Nat} {a : Int} : Mo P (.e0 10) g [.mk 5 a e_ 0 []] [s_lp, s_rp] := by
 intro G i j hG hA hj hO hF
 obtain ⟨h1, h2, -⟩ := hA
 refine ⟨[.mk 5 (P.A i) e_ 0 []], by simp [stripL, strip_mk], lv10 h1.sg (by simp at hj; omega) ?_⟩
 rw [atom_lp h1.sg]
 unfold roundB
 rw [if_pos h2.sg.me, ← hj]; rfl
theorem mo_e_tup {g : Nat} {a : Int} {x y : Ty} {l : List Ty} {ws : List ByteArray} (h : Mo P (.row (.ex 0) s_com) g (x :: y :: l) ws) : Mo P (.e0 10) (g + 1) [.mk 5 a e_ 0 (x :: y :: l)] (s_lp :: (ws ++ [s_rp])) := by
 intro G i j hG hA hj hO hF
 obtain ⟨H, rfl, hH⟩ := up hG
 obtain ⟨h1, hA⟩ := hA
 obtain ⟨ha, hb, -⟩ := hA.app
 simp only [List.length_append, List.length_cons, List.length_nil] at hj
 have hs := hb.sg
 obtain ⟨l', e, h2⟩ := h H _ _ hH ha rfl row_ex ⟨hs.fe, by rw [hs.is]; decide⟩
 refine ⟨[.mk 5 (P.A i) e_ 0 l'], by simp only [stripL, strip_mk] at e ⊢; rw [e], lv10 h1.sg (by omega) ?_⟩
 obtain ⟨x', r, i0, rfl, h3, h4, h5, h6⟩ := row_more h2 e
 simp only [Rk, LvE, if_pos] at h3
 rw [atom_lp h1.sg]
 unfold roundB
 rw [if_neg (by rw [h3.2.1]; decide), go_s]
 refine bind_to h4 (bind_to (x := true) (by unfold eatD; rw [if_pos h5]) ?_)
 show (rowD P _ _ >>= _) _ = _
 refine bind_to h6 (bind_to (must_ok hs) ?_)
 rw [show j = i + 1 + ws.length + 1 by omega]; rfl
theorem mo_e_seq {g : Nat} {a : Int} {x y : Ty} {l : List Ty} {ws : List ByteArray} (h : Mo P (.row (.ex 0) s_sem) g (x :: y :: l) ws) : Mo P (.e0 10) (g + 1) [.mk 15 a e_ 0 (x :: y :: l)] (s_lp :: (ws ++ [s_rp])) := by
 intro G i j hG hA hj hO hF
 obtain ⟨H, rfl, hH⟩ := up hG
 obtain ⟨h1, hA⟩ := hA
 obtain ⟨ha, hb, -⟩ := hA.app
 simp only [List.length_append, List.length_cons, List.length_nil] at hj
 have hs := hb.sg
 obtain ⟨l', e, h2⟩ := h H _ _ hH ha rfl row_ex ⟨hs.fe, by rw [hs.is]; decide⟩
 refine ⟨[.mk 15 (P.A i) e_ 0 l'], by simp only [stripL, strip_mk] at e ⊢; rw [e], lv10 h1.sg (by omega) ?_⟩
 obtain ⟨x', r, i0, rfl, h3, h4, h5, h6⟩ := row_more h2 e
 simp only [Rk, LvE, if_pos] at h3
 have h7 : Sg P i0 s_sem := by unfold isD at h5; simp at h5; exact ⟨h5.1, h5.2⟩
 rw [atom_lp h1.sg]
 unfold roundB
 rw [if_neg (by rw [h3.2.1]; decide), go_s]
 refine bind_to h4 (bind_to (eat_no (by rw [h7.is]; decide)) ?_)
 show (eatD P s_sem >>= _) _ = _
 refine bind_to (eat_ok h7) ?_
 show (rowD P _ _ >>= _) _ = _
 refine bind_to h6 (bind_to (must_ok hs) ?_)
 rw [show j = i + 1 + ws.length + 1 by omega]; rfl
theorem mo_e_nil {g : Nat} {a : Int} : Mo P (.e0 10) g [.mk 6 a e_ 0 []] [s_lb, s_rb] := by
 intro G i j hG hA hj hO hF
 obtain ⟨h1, h2, -⟩ := hA
 refine ⟨[.mk 6 (P.A i) e_ 0 []], by simp [stripL, strip_mk], lv10 h1.sg (by simp at hj; omega) (atom_lb h1.sg ?_)⟩
 refine bind_to (eat_ok h2.sg) ?_
 rw [← hj]; rfl
theorem mo_e_list {g : Nat} {a : Int} {x : Ty} {l : List Ty} {ws : List ByteArray} (h : Mo P (.row (.ex 0) s_com) g (x :: l) ws) : Mo P (.e0 10) (g + 1) [.mk 6 a e_ 0 (x :: l)] (s_lb :: (ws ++ [s_rb])) := by
 intro G i j hG hA hj hO hF
 obtain ⟨H, rfl, hH⟩ := up hG
 obtain ⟨h1, hA⟩ := hA
 obtain ⟨ha, hb, -⟩ := hA.app
 simp only [List.length_append, List.length_cons, List.length_nil] at hj
 have hs := hb.sg
 have hle := AtW.le ha
 obtain ⟨l', e, h2⟩ := h H _ _ hH ha rfl row_ex ⟨hs.fe, by rw [hs.is]; decide⟩
 refine ⟨[.mk 6 (P.A i) e_ 0 l'], by simp only [stripL, strip_mk] at e ⊢; rw [e], lv10 h1.sg (by omega) (atom_lb h1.sg ?_)⟩
 have hr := row_rd hle h2
 obtain ⟨x', r, i0, rfl, h3, -⟩ := h2
 simp only [Rk, LvE, if_pos] at h3
 rw [go_s]
 refine bind_to (eat_no h3.2.2) ?_
 show (rowD P _ _ >>= _) _ = _
 refine bind_to hr (bind_to (must_ok hs) ?_)
 rw [show j = i + 1 + ws.length + 1 by omega]; rfl
end
section
variable {P : Src}
theorem lvE_beg {R : Rec} {k i j : Nat} {n : Ty} (hk : k ≠ 0) (h : LvE P R k n i j) : beginsB P i = true ∧ i < j := by
 unfold LvE at h
 rw [if_neg hk] at h
 exact ⟨h.1, h.2.1⟩
theorem mo_e_app {g : Nat} {a : Int} {f x : Ty} {fw xw : List ByteArray} (hf : Mo P (.ex 8) g [f] fw) (hx : Mo P (.ex 9) g [x] xw) : Mo P (.e0 8) g [.mk 8 a e_ 0 [f, x]] (fw ++ xw) := by
 intro G i j hG hA hj hO (hF : FE P 9 j)
 obtain ⟨ha, hb⟩ := hA.app
 simp only [List.length_append] at hj
 have hla := AtW.le ha
 obtain ⟨x', e2, h2⟩ := hx.one (j := j) hG hb (by omega) (hF.mono (by omega))
 have hbx := lvE_beg (by omega) h2
 obtain ⟨f', e1, h1⟩ := hf.one hG ha rfl ⟨begins_no hbx.1, fun h => by omega, fun q h _ => by omega⟩
 simp only [Rk, LvE, List.headD_cons] at h1 h2
 obtain ⟨hb1, hl1, f0, h3, h4⟩ := h1
 obtain ⟨-, hl2, h5⟩ := h2
 refine ⟨[.mk 8 f'.n e_ 0 [f', x']], by simp only [stripL, strip_mk, e1, e2], ?_⟩
 show LvE P _ 8 _ i j
 unfold LvE
 refine ⟨hb1, by omega, ?_⟩
 cases f0 with
 | zero => omega
 | succ f0 =>
  refine ⟨f0, by omega, ?_⟩
  rw [h4, show applyL P (recS P G) (f0 + 1) f' (i + fw.length) = if beginsB P (i + fw.length) then (prefixB P (recS P G) >>= fun b => applyL P (recS P G) f0 (.mk 8 f'.n ⟨#[]⟩ 0 [f', b])) (i + fw.length) else .ok f' (i + fw.length) from rfl, if_pos hbx.1]
  have hlb := AtW.le hb
  exact bind_to (h5 _ (by omega)) rfl
theorem mo_e_fn {g : Nat} {a : Int} {p e : Ty} {pw ew : List ByteArray} (hp : Mo P (.pt 2) (g + 1) [p] pw) (he : Mo P (.ex 0) g [e] ew) : Mo P (.e0 0) (g + 1) [.mk 7 a e_ 0 [p, e]] (w_fn :: (pw ++ s_arr :: ew)) := by
 intro G i j hG hA hj hO (hF : FE P 1 j)
 obtain ⟨H, rfl, hH⟩ := up hG
 obtain ⟨h1, hA⟩ := hA
 obtain ⟨ha, hb, hc⟩ := hA.app
 simp only [List.length_append, List.length_cons] at hj
 obtain ⟨p', e1, h2⟩ := hp.one hG ha rfl hb.sg.fp
 obtain ⟨e', e2, h3⟩ := he.one (j := j) hH hc (by omega) hF
 have hs := h1.sg
 refine ⟨[.mk 7 (P.A i) e_ 0 [p', e']], by simp only [stripL, strip_mk, e1, e2], ?_, by rw [hs.is]; decide, by rw [hs.is]; decide⟩
 unfold openB
 rw [if_pos hs.me]
 exact bind_to h2.2.2.2 (bind_to (must_ok hb.sg) (bind_to (go_exp h3) rfl))
theorem mo_e_if {g : Nat} {a : Int} {x y z : Ty} {xw yw zw : List ByteArray} (hx : Mo P (.ex 0) g [x] xw) (hy : Mo P (.ex 0) g [y] yw) (hz : Mo P (.ex 0) g [z] zw) : Mo P (.e0 0) (g + 1) [.mk 9 a e_ 0 [x, y, z]] (w_if :: (xw ++ w_then :: (yw ++ w_else :: zw))) := by
 intro G i j hG hA hj hO (hF : FE P 1 j)
 obtain ⟨H, rfl, hH⟩ := up hG
 obtain ⟨h1, hA⟩ := hA
 obtain ⟨ha, hb, hc⟩ := hA.app
 obtain ⟨hc, hd, he⟩ := hc.app
 simp only [List.length_append, List.length_cons] at hj
 obtain ⟨x', e1, h2⟩ := hx.one hH ha rfl hb.sg.fe
 obtain ⟨y', e2, h3⟩ := hy.one hH hc rfl hd.sg.fe
 obtain ⟨z', e3, h4⟩ := hz.one (j := j) hH he (by omega) hF
 have hs := h1.sg
 refine ⟨[.mk 9 (P.A i) e_ 0 [x', y', z']], by simp only [stripL, strip_mk, e1, e2, e3], ?_, by rw [hs.is]; decide, by rw [hs.is]; decide⟩
 unfold openB
 rw [if_neg (by rw [hs.is]; decide), if_pos hs.me]
 exact bind_to (go_exp h2) (bind_to (must_ok hb.sg) (bind_to (go_exp h3) (bind_to (must_ok hd.sg) (bind_to (go_exp h4) rfl))))
theorem mo_e_raise {g : Nat} {a : Int} {x : Ty} {xw : List ByteArray} (hx : Mo P (.ex 0) g [x] xw) : Mo P (.e0 0) (g + 1) [.mk 13 a e_ 0 [x]] (w_raise :: xw) := by
 intro G i j hG hA hj hO (hF : FE P 1 j)
 obtain ⟨H, rfl, hH⟩ := up hG
 obtain ⟨h1, ha⟩ := hA
 simp only [List.length_append, List.length_cons] at hj
 obtain ⟨x', e1, h2⟩ := hx.one (j := j) hH ha (by omega) hF
 have hs := h1.sg
 refine ⟨[.mk 13 (P.A i) e_ 0 [x']], by simp only [stripL, strip_mk, e1], ?_, by rw [hs.is]; decide, by rw [hs.is]; decide⟩
 unfold openB
 rw [if_neg (by rw [hs.is]; decide), if_neg (by rw [hs.is]; decide), if_pos hs.me]
 exact bind_to (go_exp h2) rfl
theorem mo_rule {g : Nat} {a : Int} {p e : Ty} {pw ew : List ByteArray} (hp : Mo P (.pt 0) g [p] pw) (he : Mo P (.ex 0) g [e] ew) : Mo P .rule (g + 1) [.mk 12 a e_ 0 [p, e]] (pw ++ s_arr :: ew) := by
 intro G i j hG hA hj hO (hF : FE P 1 j)
 obtain ⟨H, rfl, hH⟩ := up hG
 obtain ⟨ha, hb, hc⟩ := hA.app
 simp only [List.length_append, List.length_cons] at hj
 have hle := AtW.le ha
 obtain ⟨p', e1, h2⟩ := hp.one hH ha rfl hb.sg.fp
 obtain ⟨e', e2, h3⟩ := he.one (j := j) hH hc (by omega) hF
 refine ⟨[.mk 12 p'.n e_ 0 [p', e']], by simp only [stripL, strip_mk, e1, e2], ?_⟩
 exact bind_to (go_pat hle h2) (bind_to (must_ok hb.sg) (bind_to (go_exp h3) rfl))
theorem rules_ok {H i j : Nat} {e r : Ty} {l : List Ty} {k : Int} {w : ByteArray} {ew rw_ : List ByteArray} {g : Nat} (hw : inW (wordsA ++ signsA) w = true) (hw2 : fe 1 w = true) (hH : g ≤ H) (he : Mo P (.ex 0) g [e] ew) (hr : Mo P (.row .rule s_bar) (g + 1) (r :: l) rw_) (hA : AtW P i (ew ++ w :: (rw_ ++ [w_end]))) (hj : i + (ew.length + (rw_.length + 1 + 1)) = j) : ∃ e' l', strip e = strip e' ∧ stripL (r :: l) = stripL l' ∧ ∀ a, rulesB P (recS P (H + 1)) k a w i = .ok (.mk k a e_ 0 (e' :: l')) j := by
 obtain ⟨ha, hb, hc⟩ := hA.app
 obtain ⟨hc, hd, -⟩ := hc.app
 have hs := hb.sg hw
 have hle := AtW.le hc
 obtain ⟨e', e1, h2⟩ := he.one hH ha rfl (hs.fe hw2)
 obtain ⟨l', e2, h3⟩ := hr (H + 1) _ _ (by omega) hc rfl row_rule ⟨hd.sg.fe, by rw [hd.sg.is]; decide⟩
 refine ⟨e', l', e1, e2, fun a => ?_⟩
 refine bind_to (go_exp h2) (bind_to (must_ok hs) (bind_to (row_rd hle h3) (bind_to (must_ok hd.sg) ?_)))
 rw [show j = i + ew.length + 1 + rw_.length + 1 by omega]; rfl
theorem mo_e_case {g : Nat} {a : Int} {e r : Ty} {l : List Ty} {ew rw_ : List ByteArray} (he : Mo P (.ex 0) g [e] ew) (hr : Mo P (.row .rule s_bar) (g + 1) (r :: l) rw_) : Mo P (.e0 10) (g + 1) [.mk 10 a e_ 0 (e :: r :: l)] (w_case :: (ew ++ w_of :: (rw_ ++ [w_end]))) := by
 intro G i j hG hA hj hO hF
 obtain ⟨H, rfl, hH⟩ := up hG
 obtain ⟨h1, hA⟩ := hA
 simp only [List.length_append, List.length_cons, List.length_nil] at hj
 obtain ⟨e', l', e1, e2, h⟩ := rules_ok (k := 10) (j := j) (by decide) (by decide) hH he hr hA (by omega)
 have hs := h1.sg
 have hk := hs.nk
 refine ⟨[.mk 10 (P.A i) e_ 0 (e' :: l')], by simp only [stripL, strip_mk] at e2 ⊢; rw [e1, e2], lv10 hs (by omega) ?_⟩
 unfold atomB
 rw [if_neg hk.1, if_neg hk.2.1, if_neg (by omega), if_neg (by rw [hs.is, hs.is]; decide), if_neg (by rw [hs.is]; decide), if_neg (by rw [hs.is]; decide), if_neg (by rw [hs.is]; decide), if_pos hs.me]
 exact h _
theorem mo_e_try {g : Nat} {a : Int} {e r : Ty} {l : List Ty} {ew rw_ : List ByteArray} (he : Mo P (.ex 0) g [e] ew) (hr : Mo P (.row .rule s_bar) (g + 1) (r :: l) rw_) : Mo P (.e0 10) (g + 1) [.mk 11 a e_ 0 (e :: r :: l)] (w_try :: (ew ++ w_with :: (rw_ ++ [w_end]))) := by
 intro G i j hG hA hj hO hF
 obtain ⟨H, rfl, hH⟩ := up hG
 obtain ⟨h1, hA⟩ := hA
 simp only [List.length_append, List.length_cons, List.length_nil] at hj
 obtain ⟨e', l', e1, e2, h⟩ := rules_ok (k := 11) (j := j) (by decide) (by decide) hH he hr hA (by omega)
 have hs := h1.sg
 have hk := hs.nk
 refine ⟨[.mk 11 (P.A i) e_ 0 (e' :: l')], by simp only [stripL, strip_mk] at e2 ⊢; rw [e1, e2], lv10 hs (by omega) ?_⟩
 unfold atomB
 rw [if_neg hk.1, if_neg hk.2.1, if_neg (by omega), if_neg (by rw [hs.is, hs.is]; decide), if_neg (by rw [hs.is]; decide), if_neg (by rw [hs.is]; decide), if_neg (by rw [hs.is]; decide), if_neg (by rw [hs.is]; decide), if_pos hs.me]
 exact h _
theorem mo_e_let {g : Nat} {a : Int} {l : List Ty} {e : Ty} {lw ew : List ByteArray} (hl : Mo P (.many (.dec 2)) g l lw) (he : Mo P (.ex 0) g [e] ew) : Mo P (.e0 10) (g + 1) [.mk 14 a e_ l.length (l ++ [e])] (w_let :: (lw ++ w_in :: (ew ++ [w_end]))) := by
 intro G i j hG hA hj hO hF
 obtain ⟨H, rfl, hH⟩ := up hG
 obtain ⟨h1, hA⟩ := hA
 obtain ⟨ha, hb, hc⟩ := hA.app
 obtain ⟨hc, hd, -⟩ := hc.app
 simp only [List.length_append, List.length_cons, List.length_nil] at hj
 obtain ⟨l', e1, h2⟩ := hl H _ _ hH ha rfl many_dec ⟨hb.sg.fa, by show oneD P (startsL 2) _ = _; rw [hb.sg.one]; decide⟩
 obtain ⟨e', e2, h3⟩ := he.one hH hc rfl hd.sg.fe
 have hs := h1.sg
 have hk := hs.nk
 have hlen : l.length = l'.length := by rw [← stripL_len l, ← stripL_len l', e1]
 refine ⟨[.mk 14 (P.A i) e_ l'.length (l' ++ [e'])], by simp only [stripL, strip_mk, stripL_app, hlen, e1, e2], lv10 hs (by omega) ?_⟩
 unfold atomB
 rw [if_neg hk.1, if_neg hk.2.1, if_neg (by omega), if_neg (by rw [hs.is, hs.is]; decide), if_neg (by rw [hs.is]; decide), if_neg (by rw [hs.is]; decide), if_pos hs.me]
 refine bind_to (x := l') (j := i + 1 + lw.length) ?_ (bind_to (must_ok hb.sg) (bind_to (go_exp h3) (bind_to (must_ok hd.sg) ?_)))
 · unfold decsB
   rw [go_s]
   exact h2 _ [] (by omega)
 · rw [show j = i + 1 + lw.length + 1 + ew.length + 1 by omega]; rfl
theorem mo_e_has {g : Nat} {a : Int} {e t : Ty} {ew tw : List ByteArray} (he : Mo P (.ex 0) g [e] ew) (ht : Mo P (.ty 0) g [t] tw) : Mo P (.e0 10) (g + 1) [.mk 19 a e_ 0 [e, t]] (s_lp :: (ew ++ s_col :: (tw ++ [s_rp]))) := by
 intro G i j hG hA hj hO hF
 obtain ⟨H, rfl, hH⟩ := up hG
 obtain ⟨h1, hA⟩ := hA
 obtain ⟨ha, hb, hc⟩ := hA.app
 obtain ⟨hc, hd, -⟩ := hc.app
 simp only [List.length_append, List.length_cons, List.length_nil] at hj
 obtain ⟨e', e1, h2⟩ := he.one hH ha rfl hb.sg.fe
 obtain ⟨t', e2, h3⟩ := ht.one hH hc rfl hd.sg.ft
 refine ⟨[.mk 19 (P.A i) e_ 0 [e', t']], by simp only [stripL, strip_mk, e1, e2], lv10 h1.sg (by omega) ?_⟩
 have h4 := h2
 simp only [Rk, LvE, if_pos] at h4
 rw [atom_lp h1.sg]
 unfold roundB
 rw [if_neg (by rw [h4.2.1]; decide)]
 refine bind_to (go_exp h2) (bind_to (eat_no (by rw [hb.sg.is]; decide)) ?_)
 show (eatD P s_sem >>= _) _ = _
 refine bind_to (eat_no (by rw [hb.sg.is]; decide)) ?_
 show (eatD P s_col >>= _) _ = _
 refine bind_to (eat_ok hb.sg) ?_
 show ((recS P (H + 1)).go .typ >>= _) _ = _
 refine bind_to (go_typ h3) (bind_to (must_ok hd.sg) ?_)
 rw [show j = i + 1 + ew.length + 1 + tw.length + 1 by omega]; rfl
theorem mo_e_un {g : Nat} {a : Int} {s : ByteArray} {x : Ty} {xw : List ByteArray} (hs : s = s_ti ∨ s = s_ex) (hx : Mo P (.ex 9) g [x] xw) : Mo P (.e0 9) g [.mk 18 a s 0 [x]] (s :: xw) := by
 intro G i j hG hA hj hO (hF : FE P 10 j)
 obtain ⟨h1, ha⟩ := hA
 simp only [List.length_cons] at hj
 have h2 : Sg P i s := by rcases hs with rfl | rfl <;> exact h1.sg
 obtain ⟨x', e1, h3⟩ := hx.one (j := j) hG ha (by omega) hF
 have hb := lvE_beg (by omega) h3
 refine ⟨[.mk 18 (P.A i) s 0 [x']], by simp only [stripL, strip_mk, e1], ?_⟩
 simp only [Rk, LvE, List.headD_cons] at h3 ⊢
 refine ⟨by rw [h2.begins]; rcases hs with rfl | rfl <;> decide, by omega, fun f hf => ?_⟩
 cases f with
 | zero => omega
 | succ f =>
  show (if _ then _ else _) = _
  rw [if_pos (by rcases hs with rfl | rfl; exact .inl h2.me; exact .inr h2.me)]
  refine bind_to (h3.2.2 f (by omega)) ?_
  rw [h2.t]; rfl
theorem join_strip {s : ByteArray} {x y x' y' : Ty} {k a : Int} {s' : ByteArray} (e1 : strip x = strip x') (e2 : strip y = strip y') (hk : (k = 16 ∧ s = w_andalso ∧ s' = e_) ∨ (k = 17 ∧ s = w_orelse ∧ s' = e_) ∨ (k = 18 ∧ s ≠ w_andalso ∧ s ≠ w_orelse ∧ s' = s)) : stripL [.mk k a s' 0 [x, y]] = stripL [joinD s x' y'] := by
 unfold joinD
 rcases hk with ⟨rfl, rfl, rfl⟩ | ⟨rfl, rfl, rfl⟩ | ⟨rfl, h1, h2, rfl⟩
 · rw [if_pos rfl]; simp only [stripL, strip_mk, e1, e2]
 · rw [if_neg (by decide), if_pos rfl]; simp only [stripL, strip_mk, e1, e2]
 · rw [if_neg h1, if_neg h2]; simp only [stripL, strip_mk, e1, e2]
theorem lvM {R : Rec} {k i j : Nat} {n : Ty} (h1 : 1 ≤ k) (h7 : k ≤ 7) : LvE P R k n i j ↔ beginsB P i = true ∧ i < j ∧ LvM P R k n i j := by
 unfold LvE
 rw [if_neg (by omega), if_pos h7]
theorem col_step {k jx j f : Nat} {item : M Ty} {acc : List (ByteArray × Ty)} {s : ByteArray} {y : Ty} (hs : Sg P jx s) (hl : inW (lvL k) s = true) (hn : acc.length = 0 ∨ neverB k = false) (hy : item (jx + 1) = .ok y j) : colL P k item (f + 1) acc jx = colL P k item f (acc ++ [(s, y)]) j := by
 show (if _ then _ else _) = _
 rw [if_pos ⟨hn, by rw [hs.one]; exact hl⟩, hs.t]
 exact bind_to hy rfl
theorem bin_left {R : Rec} {k i jx j : Nat} {x y : Ty} {s : ByteArray} (h1 : 1 ≤ k) (h7 : k ≤ 7) (h3 : 8 - k ≠ 3) (hn : neverB (8 - k) = false) (hl : inW (lvL (8 - k)) s = true) (hs : Sg P jx s) (hjx : jx < P.toks.length) (hx : LvE P R k x i jx) (hy : LvE P R (k + 1) y (jx + 1) j) (hF : FE P (k + 1) j) : LvE P R k (joinD s x y) i j := by
 have hyb := lvE_beg (by omega) hy
 have hy := LvE.bet hy h1 h7 hF
 rw [lvM h1 h7] at hx ⊢
 obtain ⟨hb, hij, a0, i0, l, g1, g2a, g2, g3, rfl⟩ := hx
 refine ⟨hb, by omega, a0, i0, l ++ [(s, y)], g1, by omega, by omega, fun acc f ha hf => ?_, ?_⟩
 · obtain ⟨f', g4, g5⟩ := g3 acc f ha hf
   cases f' with
   | zero => omega
   | succ f' => exact ⟨f', by omega, by rw [g5, col_step hs hl (.inr hn) hy]; simp⟩
 · rw [if_neg h3, if_neg h3]; simp [foldLd]
theorem bin_never {R : Rec} {k i jx j : Nat} {x y : Ty} {s : ByteArray} (h1 : 1 ≤ k) (h7 : k ≤ 7) (h3 : 8 - k ≠ 3) (hn : neverB (8 - k) = true) (hl : inW (lvL (8 - k)) s = true) (hs : Sg P jx s) (hjx : jx < P.toks.length) (hx : LvE P R (k + 1) x i jx) (hfx : FE P (k + 1) jx) (hy : LvE P R (k + 1) y (jx + 1) j) (hF : FE P (k + 1) j) : LvE P R k (joinD s x y) i j := by
 have hxb := lvE_beg (by omega) hx
 have hyb := lvE_beg (by omega) hy
 have hx := LvE.bet hx h1 h7 hfx
 have hy := LvE.bet hy h1 h7 hF
 rw [lvM h1 h7]
 refine ⟨hxb.1, by omega, x, jx, [(s, y)], hx, by omega, by omega, fun acc f ha hf => ?_, ?_⟩
 · cases f with
   | zero => omega
   | succ f => exact ⟨f, by omega, col_step hs hl (.inl (by rw [ha hn]; rfl)) hy⟩
 · rw [if_neg h3]; simp [foldLd]
theorem bin_right {R : Rec} {i jx j : Nat} {x y : Ty} {s : ByteArray} (hl : inW (lvL 3) s = true) (hs : Sg P jx s) (hjx : jx < P.toks.length) (hx : LvE P R 6 x i jx) (hfx : FE P 6 jx) (hy : LvE P R 5 y (jx + 1) j) : LvE P R 5 (joinD s x y) i j := by
 have hxb := lvE_beg (by omega) hx
 have hyb := lvE_beg (by omega) hy
 have hx := LvE.bet hx (by omega) (by omega) hfx
 rw [lvM (by omega) (by omega)] at hy ⊢
 obtain ⟨hb, hij, a0, i0, l, g1, g2a, g2, g3, rfl⟩ := hy
 refine ⟨hxb.1, by omega, x, jx, (s, a0) :: l, hx, by omega, by omega, fun acc f ha hf => ?_, ?_⟩
 · cases f with
   | zero => omega
   | succ f =>
    obtain ⟨f', g4, g5⟩ := g3 (acc ++ [(s, a0)]) f (fun h => by simp [neverB] at h) (by omega)
    exact ⟨f', g4, by rw [col_step hs hl (.inr rfl) g1, g5]; simp⟩
 · rfl
theorem mo_ex_np {g h k l : Nat} {n : Ty} {ws : List ByteArray} (hd : Mo P (.e0 k) h [n] ws) (hl : l ≤ k) (hh : h ≤ g) (hk : k ≤ 10) : Mo P (.ex l) g [n] ws := by
 intro G i j hG hA hj hO (hF : FE P (l + 1) j)
 have hle := AtW.le hA
 obtain ⟨m, e, h2⟩ := hd.one (j := j) (show h ≤ G by omega) hA hj (hF.mono (by omega))
 exact ⟨[m], by simp only [stripL, e], LvE.to (by omega) hl hk hF h2⟩
theorem lv_top {R : Rec} {k i j : Nat} {n : Ty} (h : LvE P R 10 n i j) (hk : 10 ≤ k) : LvE P R k n i j := by
 unfold LvE at h ⊢
 rw [if_neg (by omega), if_neg (by omega), if_neg (by omega), if_neg (by omega)] at h ⊢
 exact h
theorem mo_ex_par {g h k l : Nat} {n : Ty} {ws : List ByteArray} (hd : Mo P (.e0 k) h [n] ws) (hl : k < l) (hh : h < g) (hk : k ≤ 10) : Mo P (.ex l) g [n] (s_lp :: (ws ++ [s_rp])) := by
 intro G i j hG hA hj hO (hF : FE P (l + 1) j)
 have hle := AtW.le hA
 obtain ⟨H, rfl, hH⟩ := up (show h + 1 ≤ G by omega)
 obtain ⟨h1, hA⟩ := hA
 obtain ⟨ha, hb, -⟩ := hA.app
 simp only [List.length_append, List.length_cons, List.length_nil] at hj hle
 have hla := AtW.le ha
 obtain ⟨m, e, h2⟩ := hd.one hH ha rfl (Sg.fe (m := k + 1) hb.sg (by
  have : ∀ q, q < 11 → fe (q + 1) s_rp = true := by decide
  exact this k (by omega)))
 have h3 : LvE P (recS P H) 0 m (i + 1) (i + 1 + ws.length) := LvE.to (by omega) (by omega) hk hb.sg.fe h2
 have h4 : LvE P (recS P (H + 1)) 10 m i j := by
  refine lv10 h1.sg (by omega) ?_
  have h5 := h3
  unfold LvE at h5
  rw [if_pos rfl] at h5
  rw [atom_lp h1.sg]
  unfold roundB
  rw [if_neg (by rw [h5.2.1]; decide)]
  refine bind_to (go_exp h3) (bind_to (eat_no (by rw [hb.sg.is]; decide)) ?_)
  show (eatD P s_sem >>= _) _ = _
  refine bind_to (eat_no (by rw [hb.sg.is]; decide)) ?_
  show (eatD P s_col >>= _) _ = _
  refine bind_to (eat_no (by rw [hb.sg.is]; decide)) ?_
  show (mustD P s_rp >>= _) _ = _
  refine bind_to (must_ok hb.sg) ?_
  rw [show j = i + 1 + ws.length + 1 by omega]; rfl
 refine ⟨[m], by simp only [stripL, e], ?_⟩
 by_cases hl10 : l ≤ 10
 · exact LvE.to (by omega) hl10 (Nat.le_refl _) hF h4
 · exact lv_top h4 (by omega)
theorem mo_e_or {g : Nat} {a : Int} {x y : Ty} {xw yw : List ByteArray} (hx : Mo P (.ex 2) g [x] xw) (hy : Mo P (.ex 3) g [y] yw) : Mo P (.e0 2) g [.mk 17 a e_ 0 [x, y]] (xw ++ w_orelse :: yw) := by
 intro G i j hG hA hj hO (hF : FE P 3 j)
 obtain ⟨ha, hb, hc⟩ := hA.app
 simp only [List.length_append, List.length_cons] at hj
 have hle := AtW.le hc
 obtain ⟨x', e1, h2⟩ := hx.one hG ha rfl hb.sg.fe
 obtain ⟨y', e2, h3⟩ := hy.one (j := j) hG hc (by omega) (hF.mono (by omega))
 exact ⟨[joinD w_orelse x' y'], join_strip e1 e2 (.inr (.inl ⟨rfl, rfl, rfl⟩)), bin_left (by omega) (by omega) (by decide) (by decide) (by decide) hb.sg (by omega) h2 h3 hF⟩
theorem mo_e_and {g : Nat} {a : Int} {x y : Ty} {xw yw : List ByteArray} (hx : Mo P (.ex 3) g [x] xw) (hy : Mo P (.ex 4) g [y] yw) : Mo P (.e0 3) g [.mk 16 a e_ 0 [x, y]] (xw ++ w_andalso :: yw) := by
 intro G i j hG hA hj hO (hF : FE P 4 j)
 obtain ⟨ha, hb, hc⟩ := hA.app
 simp only [List.length_append, List.length_cons] at hj
 have hle := AtW.le hc
 obtain ⟨x', e1, h2⟩ := hx.one hG ha rfl hb.sg.fe
 obtain ⟨y', e2, h3⟩ := hy.one (j := j) hG hc (by omega) (hF.mono (by omega))
 exact ⟨[joinD w_andalso x' y'], join_strip e1 e2 (.inl ⟨rfl, rfl, rfl⟩), bin_left (by omega) (by omega) (by decide) (by decide) (by decide) hb.sg (by omega) h2 h3 hF⟩
def opOk (k : Nat) (s : ByteArray) : Bool := inW (wordsA ++ signsA) s && fe (opA k + 1) s && inW (lvL (8 - k)) s && !decide (s = w_andalso) && !decide (s = w_orelse) && (decide (k = 6 ∨ k = 7) || fe (k + 1) s)
theorem op_ok {k : Nat} {s : ByteArray} (h : s ∈ opL k) : (k = 1 ∨ k = 4 ∨ k = 5 ∨ k = 6 ∨ k = 7) ∧ opOk k s = true := by
 unfold opL at h
 split at h
 · subst_vars; exact ⟨by simp, (show ∀ s ∈ [s_asg], opOk 1 s = true by decide) s h⟩
 split at h
 · subst_vars; exact ⟨by simp, (show ∀ s ∈ [s_eq, s_ne, s_lt, s_le, s_gt, s_ge], opOk 4 s = true by decide) s h⟩
 split at h
 · subst_vars; exact ⟨by simp, (show ∀ s ∈ [s_cons], opOk 5 s = true by decide) s h⟩
 split at h
 · subst_vars; exact ⟨by simp, (show ∀ s ∈ [s_pl, s_mi, s_ca], opOk 6 s = true by decide) s h⟩
 split at h
 · subst_vars; exact ⟨by simp, (show ∀ s ∈ [s_st, s_sl, s_pc], opOk 7 s = true by decide) s h⟩
 · simp at h
theorem mo_e_op {g k : Nat} {a : Int} {s : ByteArray} {x y : Ty} {xw yw : List ByteArray} (hs : s ∈ opL k) (hx : Mo P (.ex (opA k)) g [x] xw) (hy : Mo P (.ex (opB k)) g [y] yw) : Mo P (.e0 k) g [.mk 18 a s 0 [x, y]] (xw ++ s :: yw) := by
 intro G i j hG hA hj hO (hF : FE P (k + 1) j)
 obtain ⟨ha, hb, hc⟩ := hA.app
 simp only [List.length_append, List.length_cons] at hj
 have hle := AtW.le hc
 obtain ⟨hk, ho⟩ := op_ok hs
 simp only [opOk, Bool.and_eq_true, Bool.or_eq_true, Bool.not_eq_true', decide_eq_true_eq, decide_eq_false_iff_not] at ho
 obtain ⟨⟨⟨⟨⟨o1, o2⟩, o3⟩, o4⟩, o5⟩, o6⟩ := ho
 have hsg := hb.sg o1
 obtain ⟨x', e1, h2⟩ := hx.one hG ha rfl (hsg.fe o2)
 obtain ⟨y', e2, h3⟩ := hy.one (j := j) hG hc (by omega) (hF.mono (by unfold opB; split <;> omega))
 refine ⟨[joinD s x' y'], join_strip e1 e2 (.inr (.inr ⟨rfl, o4, o5, rfl⟩)), ?_⟩
 rcases hk with rfl | rfl | rfl | rfl | rfl
 · exact bin_never (by omega) (by omega) (by decide) (by decide) o3 hsg (by omega) h2 (hsg.fe (by simpa using o6)) h3 hF
 · exact bin_never (by omega) (by omega) (by decide) (by decide) o3 hsg (by omega) h2 (hsg.fe (by simpa using o6)) h3 hF
 · exact bin_right o3 hsg (by omega) h2 (hsg.fe (by simpa using o6)) h3
 · exact bin_left (by omega) (by omega) (by decide) (by decide) o3 hsg (by omega) h2 h3 hF
 · exact bin_left (by omega) (by omega) (by decide) (by decide) o3 hsg (by omega) h2 h3 hF
end
end Go.Proofs.YthehjeeiodbkjaaGreatDoor
