/-
  Proved: how the document's reader stands in memory, what it answers from any state; the contract of its now; the contracts of the document's no, is, eat, must, get. Conditions: the reader as it stands in memory; the reader as it stands in memory; what the reader reads within.
-/
import Derived.Test.YthehjeeiodbkjaaGreatDoorE23
import Derived.Test.YthehjeeiodbkjaaGreatDoorE13
set_option linter.unusedSimpArgs false
set_option linter.unusedVariables false
set_option maxRecDepth 100000
set_option maxHeartbeats 16000000
namespace Go.Proofs.YthehjeeiodbkjaaGreatDoor
open Go.RowKit
/-- a state of the document's reader: its place, the first fault -/
structure RS where
 i : Nat
 k : Nat
 a : Nat
/-- what is read from there -/
def rn {α : Type} (m : M α) (s : RS) : Res α := if s.k = 0 then m s.i else .bad s.k s.a
/-- what it read, and the state behind -/
def Rl {α : Type} (T : Res α) (x : α) (s : RS) : Prop := (s.k = 0 → T = .ok x s.i) ∧ (s.k ≠ 0 → T = .bad s.k s.a)
theorem rn_good {α : Type} {m : M α} {s : RS} (h : s.k = 0) : rn m s = m s.i := if_pos h
theorem rn_lost {α : Type} {m : M α} {s : RS} (h : s.k ≠ 0) : rn m s = .bad s.k s.a := if_neg h
theorem rn_bind {α β : Type} {m : M α} {f : α → M β} {s s' : RS} {x : α} (h : Rl (rn m s) x s') : rn (m >>= f) s = rn (f x) s' := by
 by_cases hs : s.k = 0
 · rw [rn_good hs] at h ⊢
   by_cases h' : s'.k = 0
   · rw [rn_good h', bind_ok (h.1 h')]
   · rw [rn_lost h', bind_bad (h.2 h')]
 · rw [rn_lost hs] at h ⊢
   by_cases h' : s'.k = 0
   · have h2 := h.1 h'; cases h2
   · rw [rn_lost h']
     have h2 := h.2 h'
     injection h2 with e1 e2
     rw [e1, e2]
theorem rn_pure {α : Type} {T : Res α} {x : α} {s : RS} (h : T = rn (pure x : M α) s) : Rl T x s := ⟨fun hs => h.trans (rn_good hs), fun hs => h.trans (rn_lost hs)⟩
theorem rl_lost {α : Type} {T : Res α} {m : M α} {x : α} {s : RS} (h : T = rn m s) (hs : s.k ≠ 0) : Rl T x s := ⟨fun e => absurd e hs, fun _ => h.trans (rn_lost hs)⟩
theorem rl_tail {α : Type} {T : Res α} {m : M α} {x : α} {s s' : RS} (h : T = rn m s) (hl : Rl (rn m s) x s') : Rl T x s' := by rw [h]; exact hl
/-- a step -/
def stp (s : RS) : RS := ⟨s.i + 1, s.k, s.a⟩
/-- a fault at the next token -/
def failK (P : Src) (e i : Nat) : Nat := if P.K i = -1 then P.fk else e
def failA (P : Src) (i : Nat) : Nat := if P.K i = -1 then P.fa else P.A i
theorem failD_at {α : Type} (P : Src) (e i : Nat) : (failD P e i : Res α) = .bad (failK P e i) (failA P i) := by
 unfold failD failK failA
 by_cases h : P.K i = -1
 · rw [if_pos h, if_pos h, if_pos h]
 · rw [if_neg h, if_neg h, if_neg h]
def noS (P : Src) (e : Nat) (s : RS) : RS := if s.k = 0 then ⟨s.i, failK P e s.i, failA P s.i⟩ else s
def eatb (P : Src) (sg : ByteArray) (s : RS) : Bool := decide (s.k = 0) && isD P sg s.i
def oneb (P : Src) (l : List ByteArray) (s : RS) : Bool := decide (s.k = 0) && oneD P l s.i
theorem eatb_good {P : Src} {sg : ByteArray} {s : RS} (h : eatb P sg s = true) : s.k = 0 ∧ isD P sg s.i = true := by
 unfold eatb at h
 simpa using h
theorem oneb_good {P : Src} {l : List ByteArray} {s : RS} (h : oneb P l s = true) : s.k = 0 ∧ oneD P l s.i = true := by
 unfold oneb at h
 simpa using h
theorem rn_eat {β : Type} {P : Src} {sg : ByteArray} {A B : M β} {s : RS} : rn (fun i => if isD P sg i = true then A (i + 1) else B i) s = if eatb P sg s = true then rn A (stp s) else rn B s := by
 by_cases hs : s.k = 0
 · have e : eatb P sg s = isD P sg s.i := by unfold eatb; rw [decide_eq_true hs, Bool.true_and]
   rw [rn_good hs, e]
   by_cases h : isD P sg s.i = true
   · rw [if_pos h, if_pos h]; exact (rn_good (s := stp s) hs).symm
   · rw [if_neg h, if_neg h]; exact (rn_good hs).symm
 · have e : eatb P sg s = false := by unfold eatb; rw [decide_eq_false hs, Bool.false_and]
   rw [rn_lost hs, e]
   exact (rn_lost hs).symm
theorem rn_eatD {β : Type} {P : Src} {sg : ByteArray} {f : Bool → M β} {s : RS} : rn (eatD P sg >>= f) s = if eatb P sg s = true then rn (f true) (stp s) else rn (f false) s := by
 rw [← rn_eat (P := P) (sg := sg) (A := f true) (B := f false) (s := s)]
 congr 1
 funext i
 exact eat_if P sg f i
/-- the document's reader -/
structure Rr (E : Env) (w : World) (s : RS) (d : Nat) : Prop where
 row : w.heap[E.rb]? = some (.cells #[.slice E.lo E.P.toks.length E.cap, .int .i64 (s.i : Int), .int .i64 (E.P.fk : Int), .int .i64 (E.P.fa : Int), .int .i64 (s.k : Int), .int .i64 (s.a : Int), .int .i64 (d : Int)] 87 (0, 0))
 tk : ∀ k (hk : k < E.P.toks.length), ∃ b off, E.lo = some ⟨b, off, none⟩ ∧ b ≠ E.rb ∧ b < E.B ∧ ∀ j, j < 4 → w.cell? ⟨b, off + k * 4 + j, none⟩ = (tkRow E.P.toks[k])[j]?
 low : E.rb < E.B ∧ E.B ≤ w.heap.size
 ok : SrcOk E.P
 le : s.i ≤ E.P.toks.length
 go : E.P.fk = 0 → s.i < E.P.toks.length
 d61 : d ≤ 61
theorem Rr.ltr {E : Env} {w : World} {s : RS} {d : Nat} (h : Rr E w s d) : E.rb < w.heap.size := Nat.lt_of_lt_of_le h.low.1 h.low.2
theorem Rr.keepB {E : Env} {w w' : World} {s : RS} {d N : Nat} (h : Rr E w s d) (hb : Below N w w') (hN : E.B ≤ N) : Rr E w' s d := by
 have hr := h.low.1
 refine ⟨blk_below h.row hb (by omega), fun k hk => ?_, ⟨h.low.1, Nat.le_trans h.low.2 hb.size⟩, h.ok, h.le, h.go, h.d61⟩
 obtain ⟨b, off, h1, h2, h3, h4⟩ := h.tk k hk
 exact ⟨b, off, h1, h2, h3, fun j hj => (hb.cell (p := ⟨b, _, none⟩) (Nat.lt_of_lt_of_le h3 hN)).trans (h4 j hj)⟩
theorem Rr.keep {E : Env} {w w' : World} {s : RS} {d : Nat} (h : Rr E w s d) (hb : Below w.heap.size w w') : Rr E w' s d := h.keepB hb h.low.2
theorem Rr.cells {E : Env} {w : World} {s : RS} {d : Nat} (h : Rr E w s d) : (w.cell? ⟨E.rb, 0, none⟩ = some (.slice E.lo E.P.toks.length E.cap) ∧ w.cell? ⟨E.rb, 1, none⟩ = some (.int .i64 (s.i : Int)) ∧ w.cell? ⟨E.rb, 2, none⟩ = some (.int .i64 (E.P.fk : Int)) ∧ w.cell? ⟨E.rb, 3, none⟩ = some (.int .i64 (E.P.fa : Int)) ∧ w.cell? ⟨E.rb, 4, none⟩ = some (.int .i64 (s.k : Int)) ∧ w.cell? ⟨E.rb, 5, none⟩ = some (.int .i64 (s.a : Int)) ∧ w.cell? ⟨E.rb, 6, none⟩ = some (.int .i64 (d : Int))) ∧ (w.frozen? ⟨E.rb, 1, none⟩ = false ∧ w.frozen? ⟨E.rb, 4, none⟩ = false ∧ w.frozen? ⟨E.rb, 5, none⟩ = false ∧ w.frozen? ⟨E.rb, 6, none⟩ = false) :=
 ⟨⟨blk_cell h.row 0, blk_cell h.row 1, blk_cell h.row 2, blk_cell h.row 3, blk_cell h.row 4, blk_cell h.row 5, blk_cell h.row 6⟩, ⟨blk_free h.row 1, blk_free h.row 4, blk_free h.row 5, blk_free h.row 6⟩⟩
theorem Rr.tok {E : Env} {w : World} {s : RS} {d : Nat} (h : Rr E w s d) {k : Nat} (hk : k < E.P.toks.length) : ∃ b p, b ≠ E.rb ∧ b < E.B ∧ (∀ w' : World, (Instr.indexAt 36 (.slice E.lo E.P.toks.length E.cap) (.int .i64 k)).run Tryz.prog w' = .ok (.pointer (some ⟨b, p, none⟩)) w') ∧
 w.cell? ⟨b, p, none⟩ = some (.int .i64 (E.P.K k)) ∧ w.cell? ⟨b, p + 1, none⟩ = some (.int .i64 (E.P.A k : Int)) ∧ w.cell? ⟨b, p + 2, none⟩ = some (.string (E.P.T k)) ∧ w.cell? ⟨b, p + 3, none⟩ = some (.int .i64 (E.P.N k : Int)) := by
 obtain ⟨b, off, ha, hne, hb, hc⟩ := h.tk k hk
 obtain ⟨e1, e2, e3, e4⟩ := Src.at' hk
 rw [e1, e2, e3, e4]
 exact ⟨b, off + k * 4, hne, hb, fun w' => index_at Tryz.underlying36 size59 ha _ _ k hk w', hc 0 (by omega), hc 1 (by omega), hc 2 (by omega), hc 3 (by omega)⟩
/-- the reader with other values in its cells -/
theorem Rr.put {E : Env} {w W : World} {s s' : RS} {d d' : Nat} (h : Rr E w s d) (row : W.heap[E.rb]? = some (.cells #[.slice E.lo E.P.toks.length E.cap, .int .i64 (s'.i : Int), .int .i64 (E.P.fk : Int), .int .i64 (E.P.fa : Int), .int .i64 (s'.k : Int), .int .i64 (s'.a : Int), .int .i64 (d' : Int)] 87 (0, 0))) (hc : ∀ b, b ≠ E.rb → W.heap[b]? = w.heap[b]?) (hs : W.heap.size = w.heap.size) (le : s'.i ≤ E.P.toks.length) (go : E.P.fk = 0 → s'.i < E.P.toks.length) (hd : d' ≤ 61) : Rr E W s' d' := by
 refine ⟨row, fun k hk => ?_, ⟨h.low.1, by rw [hs]; exact h.low.2⟩, h.ok, le, go, hd⟩
 obtain ⟨b, off, h1, h2, h3, h4⟩ := h.tk k hk
 exact ⟨b, off, h1, h2, h3, fun j hj => (World.cell?_of_block (a := ⟨b, _, none⟩) (hc b h2)).trans (h4 j hj)⟩
theorem set_other (w : World) (q k : Nat) (v : Value) : ∀ b, b ≠ q → (w.setCell ⟨q, k, none⟩ v).heap[b]? = w.heap[b]? := fun b hb => blk_set_ne rfl hb k v
theorem set_size (w : World) (q k : Nat) (v : Value) : (w.setCell ⟨q, k, none⟩ v).heap.size = w.heap.size := World.size_setCell ..
/-- a step leads nowhere beyond the tokens -/
theorem step_ok {P : Src} (h : SrcOk P) {i : Nat} (hk : 1 ≤ P.K i) : i + 1 ≤ P.toks.length ∧ (P.fk = 0 → i + 1 < P.toks.length) := by
 have hlt : i < P.toks.length := K_lt (by omega)
 refine ⟨hlt, fun h0 => ?_⟩
 obtain ⟨h1, h2⟩ := h.ends h0
 by_cases he : i = P.toks.length - 1
 · rw [← he] at h2; omega
 · omega
theorem Rr.step {E : Env} {w : World} {s : RS} {d : Nat} (h : Rr E w s d) (hk : 1 ≤ E.P.K s.i) : Rr E (w.setCell ⟨E.rb, 1, none⟩ (.int .i64 (((stp s).i : Nat) : Int))) (stp s) d :=
 h.put (blk_set h.row 1 _) (set_other _ _ _ _) (set_size _ _ _ _) (step_ok h.ok hk).1 (step_ok h.ok hk).2 h.d61
theorem Rr.setd {E : Env} {w : World} {s : RS} {d : Nat} (h : Rr E w s d) {d' : Nat} (hd : d' ≤ 61) : Rr E (w.setCell ⟨E.rb, 6, none⟩ (.int .i64 (d' : Int))) s d' :=
 h.put (blk_set h.row 6 _) (set_other _ _ _ _) (set_size _ _ _ _) h.le h.go hd
theorem K_neg {P : Src} {i : Nat} : P.K i = -1 ∨ 0 ≤ P.K i := by
 unfold Src.K
 cases P.toks[i]? with
 | none => exact .inl rfl
 | some t => exact .inr (by show (0 : Int) ≤ (t.1 : Int); omega)
theorem Rr.fk {E : Env} {w : World} {s : RS} {d e : Nat} (h : Rr E w s d) (he : e ≠ 0) : failK E.P e s.i ≠ 0 := by
 unfold failK
 by_cases hk : E.P.K s.i = -1
 · rw [if_pos hk]
   intro h0
   have := Src.at' (h.go h0)
   have h2 := this.1
   omega
 · rw [if_neg hk]
   exact he
theorem Rr.no_rl {E : Env} {w : World} {s : RS} {d e : Nat} (h : Rr E w s d) (he : e ≠ 0) {α : Type} (x : α) : Rl (rn (failD E.P e : M α) s) x (noS E.P e s) := by
 by_cases hs : s.k = 0
 · have e1 : noS E.P e s = ⟨s.i, failK E.P e s.i, failA E.P s.i⟩ := if_pos hs
   rw [e1, rn_good hs]
   exact ⟨fun h0 => absurd h0 (h.fk he), fun _ => failD_at _ _ _⟩
 · have e1 : noS E.P e s = s := if_neg hs
   rw [e1, rn_lost hs]
   exact ⟨fun h0 => absurd h0 hs, fun _ => rfl⟩
theorem Rr.no_bad {E : Env} {w : World} {s : RS} {d e : Nat} (h : Rr E w s d) (he : e ≠ 0) : (noS E.P e s).k ≠ 0 := by
 unfold noS
 by_cases hs : s.k = 0
 · rw [if_pos hs]; exact h.fk he
 · rw [if_neg hs]; exact hs
/-- what a reading leaves -/
def RPost {α : Type} (E : Env) (d : Nat) (w : World) (T : Res α) (Q : α → Value → World → Prop) (e : Ending) (w' : World) : Prop :=
 ∃ x v s, e = .returned v ∧ w.grownBy w' (some E.rb) ∧ Rr E w' s d ∧ Q x v w' ∧ Rl T x s
theorem RPost.ok {α : Type} {E : Env} {d : Nat} {w w' : World} {T : Res α} {Q : α → Value → World → Prop} {x : α} {s : RS} {v : Value} (hg : w.grownBy w' (some E.rb)) (hT : Rl T x s) (hQ : Q x v w') (hr : Rr E w' s d) : RPost E d w T Q (.returned v) w' := ⟨x, v, s, rfl, hg, hr, hQ, hT⟩
theorem rnow_any (E : Env) (w : World) (s : RS) (d : Nat) (h : Rr E w s d) : Calls Tryz.prog 102 #[pr E] w fun e w' => e = .returned (tkVal E.P s.i) ∧ Below w.heap.size w w' := by
 have hlt := h.ltr
 obtain ⟨W, hW⟩ : ∃ W, W = w.alloc (.cells #[.int .i64 0, .int .i64 0, .string ⟨#[]⟩, .int .i64 0] 59) := ⟨_, rfl⟩
 have hbW : Below w.heap.size w W := by rw [hW]; exact balloc (Below.refl _ _) _
 have hrW : W.heap[w.heap.size]? = some (.cells #[.int .i64 0, .int .i64 0, .string ⟨#[]⟩, .int .i64 0] 59 (0, 0)) := by rw [hW]; exact heap_alloc_new w _
 have hR := h.keep hbW
 obtain ⟨⟨r0, r1, r2, r3, r4, r5, r6⟩, -⟩ := hR.cells
 obtain ⟨i, hi9⟩ : ∃ i, i = s.i := ⟨_, rfl⟩
 rw [← hi9] at r1 ⊢
 have z0 := blk_free hrW 0
 have z1 := blk_free hrW 1
 have z2 := blk_free hrW 2
 have z3 := blk_free hrW 3
 obtain ⟨n, hn⟩ : ∃ n, n = E.P.toks.length := ⟨_, rfl⟩
 have hin : i ≤ E.P.toks.length := by rw [hi9]; exact h.le
 clear hi9
 rw [← hn] at r0 hin
 have HN := lh hn
 have HR := lh hR
 have HBW := lh hbW
 have HRW := lh hrW
 have hn9 : n ≤ 100000 := by rw [hn]; exact h.ok.len
 unfold pr
 have HWW := lh hW
 have n1 : ¬ (E.rb = w.heap.size) := by omega
 have n2 : ¬ (w.heap.size = E.rb) := by omega
 by_cases hi : i < n
 · have hd : ((i : Int) < (n : Int)) := by omega
   have hi' : i < E.P.toks.length := by rw [← hn]; exact hi
   obtain ⟨b, p, hne, hbl, hix, x0, x1, x2, x3⟩ := hR.tok hi'
   rw [← hn] at hix
   have hbw : b < w.heap.size := Nat.lt_of_lt_of_le hbl h.low.2
   have c0 := blk_cell hrW 0
   have c1 := blk_cell hrW 1
   have c2 := blk_cell hrW 2
   have c3 := blk_cell hrW 3
   have n3 : ¬ (b = w.heap.size) := by omega
   have n4 : ¬ (w.heap.size = b) := by omega
   unfold tkVal
   clear h hR hbW hrW hn hi' hne hbl hlt hin hi hbw
   go_enter Tryz.func102, Tryz.ntmps102
   go_upto_region 1 with fail
   rw [← HWW.out]
   clear hW HWW
   go_quiet (fail)
   go_upto_region 2 with fail
   go_region
   go_wp2_with fail
   obtain ⟨V, hV⟩ : ∃ V : World, V = W.drewN (nq + 1) := ⟨_, rfl⟩
   rw [← hV]
   have hbV : Below w.heap.size w V := by rw [hV]; exact below_drewN HBW.out _
   have hrV : V.heap[w.heap.size]? = some (.cells #[.int .i64 0, .int .i64 0, .string ⟨#[]⟩, .int .i64 0] 59 (0, 0)) := by rw [hV]; exact HRW.out
   exact bodyPost_ret (res_tok rfl rfl (tok_set hrV _ _ _ _)) rfl ⟨rfl, tok_below hbV (Nat.le_refl _)⟩
 · have hd : decide ((i : Int) < (n : Int)) = false := by simp; omega
   have hd2 : ¬ ((i : Int) < (n : Int)) := by omega
   obtain ⟨e1, e2, e3, e4⟩ := Src.out' (P := E.P) (i := i) (by rw [← hn]; exact hi)
   unfold tkVal
   rw [e1, e2, e3, e4]
   clear h hR hbW hlt hin hi e1 e2 e3 e4 hn hrW
   go_enter Tryz.func102, Tryz.ntmps102
   go_upto_region 1 with fail
   rw [← HWW.out]
   clear hW HWW
   go_quiet (fail)
   obtain ⟨V, hV⟩ : ∃ V : World, V = W.drewN nq := ⟨_, rfl⟩
   have hbV : Below w.heap.size w V := by rw [hV]; exact below_drewN HBW.out _
   have hrV : V.heap[w.heap.size]? = some (.cells #[.int .i64 0, .int .i64 0, .string ⟨#[]⟩, .int .i64 0] 59 (0, 0)) := by rw [hV]; exact HRW.out
   replace r3 : V.cell? ⟨E.rb, 2 + 1, none⟩ = some (.int .i64 (E.P.fa : Int)) := by rw [hV]; exact r3
   have z0 := blk_free hrV 0
   have z1 := blk_free hrV 1
   have z2 := blk_free hrV 2
   have z3 := blk_free hrV 3
   have c0 := blk_cell hrV 0
   have c1 := blk_cell hrV 1
   have c2 := blk_cell hrV 2
   have c3 := blk_cell hrV 3
   rw [← hV]
   have HBV := lh hbV
   have HRV := lh hrV
   clear hV hbV hrV r0 r1 r2 r4 r5 r6
   go_wp2_with fail
   exact bodyPost_ret (res_tok rfl rfl (tok_set HRV.out _ _ _ _)) rfl ⟨rfl, tok_below HBV.out (Nat.le_refl _)⟩
/-- the fault set -/
theorem Rr.setf {E : Env} {w : World} {s : RS} {d : Nat} (h : Rr E w s d) (x y : Nat) : Rr E ((w.setCell ⟨E.rb, 4, none⟩ (.int .i64 (x : Int))).setCell ⟨E.rb, 5, none⟩ (.int .i64 (y : Int))) ⟨s.i, x, y⟩ d :=
 h.put (blk_set (blk_set h.row 4 _) 5 _) (fun b hb => (set_other _ _ _ _ b hb).trans (set_other _ _ _ _ b hb)) ((set_size _ _ _ _).trans (set_size _ _ _ _)) h.le h.go h.d61
theorem gr_set2 (W : World) (q k l : Nat) (x y : Value) : W.grownBy ((W.setCell ⟨q, k, none⟩ x).setCell ⟨q, l, none⟩ y) (some q) := gr_trans (gr_set W q k x) (gr_set _ q l y)
theorem rno_any (E : Env) (w : World) (s : RS) (d e : Nat) (h : Rr E w s d) : Calls Tryz.prog 103 #[pr E, .int .i64 (e : Int)] w fun en w' => (∃ v, en = .returned v) ∧ Rr E w' (noS E.P e s) d ∧ w.grownBy w' (some E.rb) := by
 have HNOW := lh (rnow_any E w s d h)
 have H := lh h
 unfold tkVal at HNOW
 unfold pr at HNOW ⊢
 clear h
 go_enter Tryz.func103, Tryz.ntmps103
 go_upto_region 1 with (first | (go_at_call 102; refine HNOW.out.mono ?_; rintro e w1 ⟨rfl, hb1⟩; have HB1 := lh hb1; clear hb1))
 obtain ⟨W, hW⟩ : ∃ W, W = w1.alloc (.cells #[.int .i64 (E.P.K s.i), .int .i64 (E.P.A s.i : Int), .string (E.P.T s.i), .int .i64 (E.P.N s.i : Int)] 59) := ⟨_, rfl⟩
 obtain ⟨hbW, hrW⟩ := tok_box hW HB1.out
 rw [← hW]
 obtain ⟨c0, c1, c2, c3⟩ := tok_cells hrW
 have hR := H.out.keep hbW
 obtain ⟨⟨r0, r1, r2, r3, r4, r5, r6⟩, ⟨z1, z4, z5, z6⟩⟩ := hR.cells
 replace r3 : W.cell? ⟨E.rb, 2 + 1, none⟩ = some (.int .i64 (E.P.fa : Int)) := r3
 have z5b : W.frozen? ⟨E.rb, 4 + 1, none⟩ = false := z5
 have r5b : W.cell? ⟨E.rb, 4 + 1, none⟩ = some (.int .i64 (s.a : Int)) := r5
 have HR := lh hR
 have HBW := lh hbW
 have n1 : ¬ (w1.heap.size = E.rb) := by have := H.out.ltr; have := HB1.out.size; omega
 have n2 : ¬ (E.rb = w1.heap.size) := fun e => n1 e.symm
 clear hW hbW hrW hR
 by_cases hs : s.k = 0
 · have e1 : ((s.k : Int) != 0) = false := by simp [hs]
   have en : noS E.P e s = ⟨s.i, failK E.P e s.i, failA E.P s.i⟩ := if_pos hs
   have EN := lh en
   clear hs en
   by_cases hk : E.P.K s.i = -1
   · have e2 : decide (E.P.K s.i < 0) = true := by rw [hk]; decide
     have e3 : E.P.K s.i < 0 := by rw [hk]; decide
     have ek : Hid (failK E.P e s.i = E.P.fk ∧ failA E.P s.i = E.P.fa) := lh (by unfold failK failA; rw [if_pos hk, if_pos hk]; exact ⟨rfl, rfl⟩)
     clear hk
     go_wp2_with fail
     first | go_end0 | refine bodyPost_ret (results_none rfl _ _ _) rfl ?_
     refine ⟨⟨_, rfl⟩, ?_, gr_trans (gr_below HBW.out _) (gr_trans (gr_set2 _ _ _ _ _ _) (gr_set2 _ _ _ _ _ _))⟩
     rw [EN.out, ek.out.1, ek.out.2]
     exact (HR.out.setf _ _).setf _ _
   · have h0 : 0 ≤ E.P.K s.i := (K_neg (P := E.P) (i := s.i)).resolve_left hk
     have e2 : decide (E.P.K s.i < 0) = false := by simp; omega
     have e3 : ¬ (E.P.K s.i < 0) := by omega
     have ek : Hid (failK E.P e s.i = e ∧ failA E.P s.i = E.P.A s.i) := lh (by unfold failK failA; rw [if_neg hk, if_neg hk]; exact ⟨rfl, rfl⟩)
     clear hk h0
     go_wp2_with fail
     first | go_end0 | refine bodyPost_ret (results_none rfl _ _ _) rfl ?_
     refine ⟨⟨_, rfl⟩, ?_, gr_trans (gr_below HBW.out _) (gr_set2 _ _ _ _ _ _)⟩
     rw [EN.out, ek.out.1, ek.out.2]
     exact HR.out.setf _ _
 · have e1 : ((s.k : Int) != 0) = true := by simp [hs]
   have en : noS E.P e s = s := if_neg hs
   have EN := lh en
   clear hs en
   go_wp2_with fail
   first | go_end0 | refine bodyPost_ret (results_none rfl _ _ _) rfl ?_
   refine ⟨⟨_, rfl⟩, ?_, gr_below HBW.out _⟩
   rw [EN.out]
   exact HR.out
theorem ris_any (E : Env) (w : World) (s : RS) (d : Nat) (sg : ByteArray) (h : Rr E w s d) : Calls Tryz.prog 182 #[pr E, .string sg] w fun e w' => e = .returned (.bool (eatb E.P sg s)) ∧ Below w.heap.size w w' := by
 have HNOW := lh (rnow_any E w s d h)
 have H := lh h
 obtain ⟨b, hb⟩ : ∃ b, b = eatb E.P sg s := ⟨_, rfl⟩
 rw [← hb]
 have HB := lh hb
 unfold tkVal at HNOW
 unfold pr at HNOW ⊢
 clear h hb
 go_enter Tryz.func182, Tryz.ntmps182
 go_upto_region 2 with (first | (go_at_call 102; refine HNOW.out.mono ?_; rintro e w1 ⟨rfl, hb1⟩; have HB1 := lh hb1; clear hb1))
 obtain ⟨W, hW⟩ : ∃ W, W = w1.alloc (.cells #[.int .i64 (E.P.K s.i), .int .i64 (E.P.A s.i : Int), .string (E.P.T s.i), .int .i64 (E.P.N s.i : Int)] 59) := ⟨_, rfl⟩
 obtain ⟨hbW, hrW⟩ := tok_box hW HB1.out
 rw [← hW]
 obtain ⟨c0, c1, c2, c3⟩ := tok_cells hrW
 have hR := H.out.keep hbW
 obtain ⟨⟨r0, r1, r2, r3, r4, r5, r6⟩, ⟨z1, z4, z5, z6⟩⟩ := hR.cells
 replace r3 : W.cell? ⟨E.rb, 2 + 1, none⟩ = some (.int .i64 (E.P.fa : Int)) := r3
 have z5b : W.frozen? ⟨E.rb, 4 + 1, none⟩ = false := z5
 have r5b : W.cell? ⟨E.rb, 4 + 1, none⟩ = some (.int .i64 (s.a : Int)) := r5
 have HR := lh hR
 have HBW := lh hbW
 have n1 : ¬ (w1.heap.size = E.rb) := by have := H.out.ltr; have := HB1.out.size; omega
 have n2 : ¬ (E.rb = w1.heap.size) := fun e => n1 e.symm
 clear hW hbW hrW hR
 by_cases hs : s.k = 0
 · have e1 : ((s.k : Int) == 0) = true := by simp [hs]
   have HS := lh hs
   clear hs
   by_cases hT : (E.P.T s.i).toList = sg.toList
   · have HT : Hid (E.P.T s.i = sg) := lh (ba_eq.1 hT)
     by_cases h6 : E.P.K s.i = 6
     · have e6 : (E.P.K s.i == 6) = true := by simp [h6]
       have HK := lh h6
       clear h6
       go_wp2_with fail
       go_ret
       exact ⟨by rw [HB.out]; simp [eatb, isD, HK.out, HT.out, HS.out], HBW.out⟩
     · have e6 : (E.P.K s.i == 6) = false := by simp [h6]
       have HK := lh h6
       clear h6
       by_cases h7 : E.P.K s.i = 7
       · have e7 : (E.P.K s.i == 7) = true := by simp [h7]
         have HK7 := lh h7
         clear h7
         go_wp2_with fail
         go_ret
         exact ⟨by rw [HB.out]; simp [eatb, isD, HK7.out, HT.out, HS.out], HBW.out⟩
       · have e7 : (E.P.K s.i == 7) = false := by simp [h7]
         have HK7 := lh h7
         clear h7
         go_wp2_with fail
         go_ret
         exact ⟨by rw [HB.out]; simp [eatb, isD, HK.out, HK7.out], HBW.out⟩
   · have HT : Hid (¬ E.P.T s.i = sg) := lh (fun e => hT (ba_eq.2 e))
     have hb9 : b = false := by rw [HB.out]; simp [eatb, isD, HT.out]
     have HB9 := lh hb9
     clear hb9
     by_cases h6 : E.P.K s.i = 6
     · have e6 : (E.P.K s.i == 6) = true := by simp [h6]
       clear h6
       go_wp2_with fail
       go_ret
       exact ⟨by rw [HB9.out]; first | rfl | simp [hT], HBW.out⟩
     · have e6 : (E.P.K s.i == 6) = false := by simp [h6]
       clear h6
       by_cases h7 : E.P.K s.i = 7
       · have e7 : (E.P.K s.i == 7) = true := by simp [h7]
         clear h7
         go_wp2_with fail
         go_ret
         exact ⟨by rw [HB9.out]; first | rfl | simp [hT], HBW.out⟩
       · have e7 : (E.P.K s.i == 7) = false := by simp [h7]
         clear h7
         go_wp2_with fail
         go_ret
         exact ⟨by rw [HB9.out]; first | rfl | simp [hT], HBW.out⟩
 · have e1 : ((s.k : Int) == 0) = false := by simp [hs]
   have HB9 : Hid (b = false) := lh (by rw [HB.out]; simp [eatb, hs])
   clear hs
   go_wp2_with fail
   go_ret
   exact ⟨by rw [HB9.out]; first | rfl | simp, HBW.out⟩
theorem eat_K {P : Src} {sg : ByteArray} {i : Nat} (h : isD P sg i = true) : 1 ≤ P.K i := by have := (isD_at h).1; omega
theorem reat_any (E : Env) (w : World) (s : RS) (d : Nat) (sg : ByteArray) (h : Rr E w s d) : Calls Tryz.prog 153 #[pr E, .string sg] w fun e w' => e = .returned (.bool (eatb E.P sg s)) ∧ Rr E w' (if eatb E.P sg s = true then stp s else s) d ∧ w.grownBy w' (some E.rb) := by
 have HIS := lh (ris_any E w s d sg h)
 have H := lh h
 have hi9 : s.i ≤ 100000 := Nat.le_trans h.le h.ok.len
 have HLT := lh (fun hb => eat_K (eatb_good (P := E.P) (sg := sg) (s := s) hb).2)
 obtain ⟨b, hb⟩ : ∃ b, b = eatb E.P sg s := ⟨_, rfl⟩
 rw [← hb] at HIS HLT ⊢
 unfold pr at HIS ⊢
 clear h hb
 go_enter Tryz.func153, Tryz.ntmps153
 cases b with
 | true =>
  have HLT2 := lh (HLT.out rfl)
  go_upto_region 2 with (first | (go_at_call 182; refine HIS.out.mono ?_; rintro e w1 ⟨rfl, hb1⟩; have HB1 := lh hb1; obtain ⟨⟨r0, r1, r2, r3, r4, r5, r6⟩, ⟨z1, z4, z5, z6⟩⟩ := (H.out.keep hb1).cells; clear hb1))
  go_wp2_with fail
  go_ret
  have hr := (H.out.keep HB1.out).step HLT2.out
  exact ⟨rfl, by simpa [stp] using hr, gr_trans (gr_below HB1.out _) (gr_set _ _ _ _)⟩
 | false =>
  go_wp2_with (first | (go_at_call 182; refine HIS.out.mono ?_; rintro e w1 ⟨rfl, hb1⟩; have HB1 := lh hb1; clear hb1))
  go_ret
  exact ⟨rfl, by simpa using H.out.keep HB1.out, gr_below HB1.out _⟩
theorem rn_must {P : Src} {sg : ByteArray} {s : RS} : rn (mustD P sg) s = if eatb P sg s = true then rn (ret () : M Unit) (stp s) else rn (failD P 4 : M Unit) s := rn_eat (A := (ret () : M Unit)) (B := (failD P 4 : M Unit))
theorem rmust_any (E : Env) (w : World) (s : RS) (d : Nat) (sg : ByteArray) (h : Rr E w s d) : Calls Tryz.prog 144 #[pr E, .string sg] w (RPost E d w (rn (mustD E.P sg) s) fun _ _ _ => True) := by
 have HE := lh (reat_any E w s d sg h)
 obtain ⟨T, hT⟩ : ∃ T, T = rn (mustD E.P sg) s := ⟨_, rfl⟩
 rw [← hT]
 rw [rn_must] at hT
 have HNO : Hid (∀ w1, Rr E w1 s d → Calls Tryz.prog 103 #[pr E, .int .i64 4] w1 fun en w' => (∃ v, en = .returned v) ∧ Rr E w' (noS E.P 4 s) d ∧ w1.grownBy w' (some E.rb)) := lh (fun w1 h1 => rno_any E w1 s d 4 h1)
 obtain ⟨b, hb⟩ : ∃ b, b = eatb E.P sg s := ⟨_, rfl⟩
 rw [← hb] at HE hT
 have HT := lh hT
 unfold pr at HE HNO ⊢
 clear h hT hb
 go_enter Tryz.func144, Tryz.ntmps144
 cases b with
 | true =>
  go_wp2_with (first | (go_at_call 153; refine HE.out.mono ?_; rintro e w1 ⟨rfl, hr1, hg1⟩; have HR1 := lh hr1; have HG1 := lh hg1; clear hr1 hg1))
  have hr : Rr E w1 (stp s) d := by simpa using HR1.out
  have ht : T = rn (ret () : M Unit) (stp s) := by simpa using HT.out
  first | go_end0 | refine bodyPost_ret (results_none rfl _ _ _) rfl ?_
  exact RPost.ok HG1.out (rn_pure ht) trivial hr
 | false =>
  go_wp2_with (first | (go_at_call 153; refine HE.out.mono ?_; rintro e w1 ⟨rfl, hr1, hg1⟩; have HR1 : Hid (Rr E w1 s d) := lh (by simpa using hr1); have HG1 := lh hg1; clear hr1 hg1) | (go_at_call 103; refine (HNO.out w1 HR1.out).mono ?_; rintro e w2 ⟨⟨v, rfl⟩, hr2, hg2⟩; have HR2 := lh hr2; have HG2 := lh hg2; clear hr2 hg2))
  have ht : T = rn (failD E.P 4 : M Unit) s := by simpa using HT.out
  first | go_end0 | refine bodyPost_ret (results_none rfl _ _ _) rfl ?_
  exact RPost.ok (x := ()) (gr_trans HG1.out HG2.out) (by rw [ht]; exact HR1.out.no_rl (by decide) _) trivial HR2.out
theorem rget_any (E : Env) (w : World) (s : RS) (d k : Nat) (hk1 : 1 ≤ k) (h : Rr E w s d) : Calls Tryz.prog 150 #[pr E, .int .i64 (k : Int)] w (RPost E d w (rn (kindD E.P k) s) fun x v _ => v = .string x) := by
 have HNOW := lh (rnow_any E w s d h)
 have H := lh h
 have hi9 : s.i ≤ 100000 := Nat.le_trans h.le h.ok.len
 obtain ⟨T, hT⟩ : ∃ T, T = rn (kindD E.P k) s := ⟨_, rfl⟩
 rw [← hT]
 have HT := lh hT
 have HNO : Hid (∀ w1, Rr E w1 s d → Calls Tryz.prog 103 #[pr E, .int .i64 4] w1 fun en w' => (∃ v, en = .returned v) ∧ Rr E w' (noS E.P 4 s) d ∧ w1.grownBy w' (some E.rb)) := lh (fun w1 h1 => rno_any E w1 s d 4 h1)
 have HK1 := lh hk1
 unfold tkVal at HNOW
 unfold pr at HNOW HNO ⊢
 clear h hT hk1
 go_enter Tryz.func150, Tryz.ntmps150
 go_upto_region 2 with (first | (go_at_call 102; refine HNOW.out.mono ?_; rintro e w1 ⟨rfl, hb1⟩; have HB1 := lh hb1; clear hb1))
 obtain ⟨W, hW⟩ : ∃ W, W = w1.alloc (.cells #[.int .i64 (E.P.K s.i), .int .i64 (E.P.A s.i : Int), .string (E.P.T s.i), .int .i64 (E.P.N s.i : Int)] 59) := ⟨_, rfl⟩
 obtain ⟨hbW, hrW⟩ := tok_box hW HB1.out
 rw [← hW]
 obtain ⟨c0, c1, c2, c3⟩ := tok_cells hrW
 have hR := H.out.keep hbW
 obtain ⟨⟨r0, r1, r2, r3, r4, r5, r6⟩, ⟨z1, z4, z5, z6⟩⟩ := hR.cells
 replace r3 : W.cell? ⟨E.rb, 2 + 1, none⟩ = some (.int .i64 (E.P.fa : Int)) := r3
 have z5b : W.frozen? ⟨E.rb, 4 + 1, none⟩ = false := z5
 have r5b : W.cell? ⟨E.rb, 4 + 1, none⟩ = some (.int .i64 (s.a : Int)) := r5
 have HR := lh hR
 have HBW := lh hbW
 have n1 : ¬ (w1.heap.size = E.rb) := by have := H.out.ltr; have := HB1.out.size; omega
 have n2 : ¬ (E.rb = w1.heap.size) := fun e => n1 e.symm
 clear hW hbW hrW hR
 have HNA := lh (HNO.out W HR.out)
 by_cases hs : s.k = 0
 · have e1 : ((s.k : Int) != 0) = false := by simp [hs]
   have HS := lh hs
   clear hs
   by_cases hk : E.P.K s.i = k
   · have e2 : (E.P.K s.i != (k : Int)) = false := by simp [hk]
     have HK := lh hk
     clear hk
     go_wp2_with fail
     go_ret
     have hst := HR.out.step (by rw [HK.out]; have := HK1.out; omega)
     refine RPost.ok (gr_trans (gr_below HBW.out _) (gr_set _ _ _ _)) (x := E.P.T s.i) (s := stp s) ⟨fun _ => ?_, fun h => absurd HS.out h⟩ rfl (by simpa [stp] using hst)
     rw [HT.out, rn_good HS.out]
     unfold kindD
     rw [if_pos HK.out]
     rfl
   · have e2 : (E.P.K s.i != (k : Int)) = true := by simp [hk]
     have HK := lh hk
     clear hk
     go_wp2_with (first | (go_at_call 103; refine HNA.out.mono ?_; rintro e w2 ⟨⟨v, rfl⟩, hr2, hg2⟩; have HR2 := lh hr2; have HG2 := lh hg2; clear hr2 hg2))
     go_ret
     refine RPost.ok (gr_trans (gr_below HBW.out _) HG2.out) (x := ⟨#[]⟩) (s := noS E.P 4 s) ?_ rfl HR2.out
     have h1 := HR.out.no_rl (e := 4) (by decide) (⟨#[]⟩ : ByteArray)
     have e9 : rn (kindD E.P k) s = rn (failD E.P 4 : M ByteArray) s := by
      rw [rn_good HS.out, rn_good HS.out]
      unfold kindD
      rw [if_neg HK.out]
     rw [HT.out, e9]
     exact h1
 · have e1 : ((s.k : Int) != 0) = true := by simp [hs]
   have HS := lh hs
   clear hs
   go_wp2_with (first | (go_at_call 103; refine HNA.out.mono ?_; rintro e w2 ⟨⟨v, rfl⟩, hr2, hg2⟩; have HR2 := lh hr2; have HG2 := lh hg2; clear hr2 hg2))
   go_ret
   have e9 : noS E.P 4 s = s := if_neg HS.out
   have hr2 := HR2.out
   rw [e9] at hr2
   exact RPost.ok (gr_trans (gr_below HBW.out _) HG2.out) (x := ⟨#[]⟩) (rl_lost HT.out HS.out) rfl hr2
end Go.Proofs.YthehjeeiodbkjaaGreatDoor
