/-
  Proved: in which lists of words and signs the words and signs stand; append onto a row of one's own, the two slices' types having different names, whatever the source; how the program's reader stands in memory; the contract of its now; the contracts of the reader's fail, is, eat, must, kind. Conditions: the reader as it stands in memory.
-/
import Derived.Test.YthehjeeiodbkjaaGreatDoorA01
import Derived.OwnWalk
import Derived.Maps.AppendAt
import Derived.Deep.DeepCutAuto
import Derived.Deep.CutBlock
import Derived.StillTailTactics
import Derived.Deep.RegionHeld3
import Derived.BigRegion
set_option linter.unusedSimpArgs false
set_option linter.unusedVariables false
set_option maxRecDepth 100000
set_option maxHeartbeats 16000000
namespace Go.Proofs.YthehjeeiodbkjaaGreatDoor
open Go.RowKit
def hitB (l w : ByteArray) (i : Nat) : Bool := decide (i + w.size + 2 ≤ l.size) && decide (l.extract i (i + w.size + 2) = ⟨#[32]⟩ ++ w ++ ⟨#[32]⟩)
def hasB (l w : ByteArray) : Bool := (List.range l.size).any (hitB l w)
def anyB (l : List ByteArray) (x : ByteArray) : Bool := l.any fun s => decide (x = s)
def nineB : List ByteArray := [s_lp, s_lb, s_ti, s_ex, w_let, w_case, w_try, w_true, w_false]
def sixB : List ByteArray := [s_lp, s_lb, s_ti, s_us, w_true, w_false]
abbrev t_lv0 : ByteArray := ⟨#[32, 58, 61, 32]⟩
abbrev t_lv1 : ByteArray := ⟨#[32, 111, 114, 101, 108, 115, 101, 32]⟩
abbrev t_lv2 : ByteArray := ⟨#[32, 97, 110, 100, 97, 108, 115, 111, 32]⟩
abbrev t_lv3 : ByteArray := ⟨#[32, 61, 32, 60, 62, 32, 60, 32, 60, 61, 32, 62, 32, 62, 61, 32]⟩
abbrev t_lv4 : ByteArray := ⟨#[32, 58, 58, 32]⟩
abbrev t_lv5 : ByteArray := ⟨#[32, 43, 32, 45, 32, 94, 32]⟩
abbrev t_lv6 : ByteArray := ⟨#[32, 42, 32, 47, 32, 37, 32]⟩
abbrev t_bg0 : ByteArray := ⟨#[32, 118, 97, 108, 32, 102, 117, 110, 32, 116, 121, 112, 101, 32, 100, 97, 116, 97, 32, 101, 120, 99, 101, 112, 116, 105, 111, 110, 32, 115, 116, 114, 117, 99, 116, 117, 114, 101, 32, 111, 112, 101, 110, 32, 115, 105, 103, 110, 97, 116, 117, 114, 101, 32]⟩
abbrev t_bg1 : ByteArray := ⟨#[32, 118, 97, 108, 32, 102, 117, 110, 32, 116, 121, 112, 101, 32, 100, 97, 116, 97, 32, 101, 120, 99, 101, 112, 116, 105, 111, 110, 32, 115, 116, 114, 117, 99, 116, 117, 114, 101, 32, 111, 112, 101, 110, 32]⟩
abbrev t_bg2 : ByteArray := ⟨#[32, 118, 97, 108, 32, 102, 117, 110, 32, 101, 120, 99, 101, 112, 116, 105, 111, 110, 32, 111, 112, 101, 110, 32]⟩
abbrev t_be7 : ByteArray := ⟨#[32, 40, 32, 91, 32, 126, 32, 33, 32]⟩
abbrev t_be6 : ByteArray := ⟨#[32, 108, 101, 116, 32, 99, 97, 115, 101, 32, 116, 114, 121, 32, 116, 114, 117, 101, 32, 102, 97, 108, 115, 101, 32]⟩
abbrev t_bp7 : ByteArray := ⟨#[32, 40, 32, 91, 32, 126, 32, 95, 32]⟩
abbrev t_bp6 : ByteArray := ⟨#[32, 116, 114, 117, 101, 32, 102, 97, 108, 115, 101, 32]⟩
theorem has_lv0 : ∀ x ∈ wordsA ++ signsA, hasB t_lv0 x = anyB (lvL 7) x := by decide +kernel
theorem has_lv1 : ∀ x ∈ wordsA ++ signsA, hasB t_lv1 x = anyB (lvL 6) x := by decide +kernel
theorem has_lv2 : ∀ x ∈ wordsA ++ signsA, hasB t_lv2 x = anyB (lvL 5) x := by decide +kernel
theorem has_lv3 : ∀ x ∈ wordsA ++ signsA, hasB t_lv3 x = anyB (lvL 4) x := by decide +kernel
theorem has_lv4 : ∀ x ∈ wordsA ++ signsA, hasB t_lv4 x = anyB (lvL 3) x := by decide +kernel
theorem has_lv5 : ∀ x ∈ wordsA ++ signsA, hasB t_lv5 x = anyB (lvL 2) x := by decide +kernel
theorem has_lv6 : ∀ x ∈ wordsA ++ signsA, hasB t_lv6 x = anyB (lvL 1) x := by decide +kernel
theorem has_bg0 : ∀ x ∈ wordsA, hasB t_bg0 x = anyB (startsL 0) x := by decide +kernel
theorem not_bg0 : ∀ x ∈ signsA, anyB (startsL 0) x = false := by decide +kernel
theorem has_bg1 : ∀ x ∈ wordsA, hasB t_bg1 x = anyB (startsL 1) x := by decide +kernel
theorem not_bg1 : ∀ x ∈ signsA, anyB (startsL 1) x = false := by decide +kernel
theorem has_bg2 : ∀ x ∈ wordsA, hasB t_bg2 x = anyB (startsL 2) x := by decide +kernel
theorem not_bg2 : ∀ x ∈ signsA, anyB (startsL 2) x = false := by decide +kernel
theorem has_be7 : ∀ x ∈ signsA, hasB t_be7 x = anyB nineB x := by decide +kernel
theorem has_be6 : ∀ x ∈ wordsA, hasB t_be6 x = anyB nineB x := by decide +kernel
theorem has_bp7 : ∀ x ∈ signsA, hasB t_bp7 x = anyB sixB x := by decide +kernel
theorem has_bp6 : ∀ x ∈ wordsA, hasB t_bp6 x = anyB sixB x := by decide +kernel
def lvT (j : Nat) : ByteArray := if j = 0 then t_lv0 else if j = 1 then t_lv1 else if j = 2 then t_lv2 else if j = 3 then t_lv3 else if j = 4 then t_lv4 else if j = 5 then t_lv5 else t_lv6
def bgT (j : Nat) : ByteArray := if j = 0 then t_bg0 else if j = 1 then t_bg1 else t_bg2
def sideT (j : Nat) : Int := if j = 4 then 2 else if j = 0 ∨ j = 3 then 0 else 1
theorem has_lv {j : Nat} (hj : j < 7) : ∀ x ∈ wordsA ++ signsA, hasB (lvT j) x = anyB (lvL (7 - j)) x := by
 have h : j = 0 ∨ j = 1 ∨ j = 2 ∨ j = 3 ∨ j = 4 ∨ j = 5 ∨ j = 6 := by omega
 rcases h with rfl | rfl | rfl | rfl | rfl | rfl | rfl
 · exact has_lv0
 · exact has_lv1
 · exact has_lv2
 · exact has_lv3
 · exact has_lv4
 · exact has_lv5
 · exact has_lv6
theorem has_bg {j : Nat} (hj : j < 3) : (∀ x ∈ wordsA, hasB (bgT j) x = anyB (startsL j) x) ∧ ∀ x ∈ signsA, anyB (startsL j) x = false := by
 have h : j = 0 ∨ j = 1 ∨ j = 2 := by omega
 rcases h with rfl | rfl | rfl
 · exact ⟨has_bg0, not_bg0⟩
 · exact ⟨has_bg1, not_bg1⟩
 · exact ⟨has_bg2, not_bg2⟩
theorem lv_size (j : Nat) : (lvT j).size ≤ 400 := by
 unfold lvT
 repeat' split
 all_goals decide
theorem bg_size (j : Nat) : (bgT j).size ≤ 400 := by
 unfold bgT
 repeat' split
 all_goals decide
theorem run_append_types {P : Program} {t u ty e e2 : TypeId} {i : TypeInfo} (ht : P.underlying t = some (.slice e)) (hu : P.underlying u = some (.slice e2)) (hi : P.info? e = some i) (v x : Value) (w : World) :
 (Builtin.append_ #[t, u] ty #[v, x]).run P w = (Builtin.append_ #[t, t] ty #[v, x]).run P w := by
 unfold Builtin.append_
 simp only [List.getElem?_toArray, List.getElem?_cons_zero, List.getElem?_cons_succ, Sem.run_bind, run_underlying ht, run_underlying hu, Result.andThen_ok]
 split
 · simp only [sizeOf, typeInfo, hi, Sem.run_bind, run_underlying ht, run_underlying hu, Result.andThen_ok]
 · rfl
theorem run_append_zero {P : Program} {w : World} (base : Nat) (t ty e : TypeId) (i : TypeInfo) (size : Nat) (ht : P.underlying t = some (.slice e)) (hi : P.info? e = some i)
 (v : Value) (n : Nat) (xs : List Value) (hown : w.ownsRow base e size v n xs) (ao : Option Addr) (c : Nat) :
 (Builtin.append_ #[t, t] ty #[v, .slice ao 0 c]).run P w = .ok v w := by
 have hf : (Builtin.firstCells i.size 0 (.slice ao 0 c)).run P w = .ok #[] w := by
  cases ao with
  | none => rfl
  | some a => simp [Builtin.firstCells, loadCells, loadCellsFrom]
 rcases hown.2 with ⟨rfl, rfl⟩ | ⟨g, cap, cur, rfl, _, _, hnc, _⟩
 · simp [Builtin.append_, run_underlying ht, sizeOf, typeInfo, hi, Builtin.lenOf, hf]
 · simp [Builtin.append_, run_underlying ht, sizeOf, typeInfo, hi, Builtin.lenOf, hf, hnc, storeCells]
theorem wpList_append3 {P : Program} {w : World} {ops : Array Oper} {rest : List Oper} {o : Oper} {a : Act} {Q : Exit → Act → World → Prop} (hgd : o.guard = none) (s x : Operand) (t u : TypeId)
 (ho : o.op = .call { callee := .builtin .append, args := #[s, x], argTypes := #[t, u] })
 (base : Nat) (e e2 : TypeId) (i : TypeInfo) (z : Value) (size bytes : Nat) (ht : P.underlying t = some (.slice e)) (hu : P.underlying u = some (.slice e2)) (hi : P.info? e = some i) (hz : i.zero = some z)
 (hsize : i.size = size) (hby : i.bytes = bytes) (hzs : z.cells.size = size) (hsz : 0 < size)
 (v : Value) (n : Nat) (xs : List Value) (hs : a.eval s = v) (hown : w.ownsRow base e size v n xs)
 (ao : Option Addr) (m c : Nat) (news : List Value) (hx : a.eval x = .slice ao m c) (hl : news.length = m * size) (hnews : 0 < m → ∃ ad, ao = some ad ∧ ∀ j u, news[j]? = some u → w.cell? (ad.add j) = some u) (h1 : ∀ u ∈ news, u.oneCell' = true)
 (h63 : n + m ≤ maxLen) (hbytes : (n + m) * bytes ≤ 140737488355328) (hbase : base ≤ w.heap.size)
 (h : ∀ v' w', w'.ownsRow base e size v' (n + m) (xs ++ news) → w.grownBy w' v.ownBlock → (v'.ownBlock = v.ownBlock ∨ v'.ownBlock = some w.heap.size) → wpList P ops Q rest (a.put o.dst v') w') : wpList P ops Q (o :: rest) a w := by
 refine wpList_plain hgd fun K hK => ?_
 have hrun : ∃ v' w', (Builtin.append_ #[t, u] o.type #[v, .slice ao m c]).run P w = .ok v' w' ∧ w'.ownsRow base e size v' (n + m) (xs ++ news) ∧ w.grownBy w' v.ownBlock ∧ (v'.ownBlock = v.ownBlock ∨ v'.ownBlock = some w.heap.size) := by
  rw [run_append_types ht hu hi]
  by_cases hm : m = 0
  · subst hm
    have hn : news = [] := List.eq_nil_of_length_eq_zero (by simpa using hl)
    subst hn
    exact ⟨v, w, run_append_zero base t o.type e i size ht hi v n xs hown ao c, by simpa using hown, World.grownBy.refl _ _, .inl rfl⟩
  · obtain ⟨ad, rfl, hc⟩ := hnews (by omega)
    obtain ⟨v', w', hr, h2, h3, _, h4⟩ := run_append_own_at (P := P) w base t o.type e i z size bytes ht hi hz hsize hby hzs hsz v n xs hown ad m c news hl hc h1 h63 hbytes hbase
    exact ⟨v', w', hr, h2, h3, h4⟩
 obtain ⟨v', w', hr, h2, h3, h4⟩ := hrun
 unfold Oper.wp execOp
 simp only [ho, resolve, invoke, builtin, Sem.run_bind, Sem.run_pure, Result.andThen_ok, List.map_toArray, List.map_cons, List.map_nil, hs, hx, hr]
 exact hK _ _ (h v' w' h2 h3 h4)
def tkRow (t : Tok) : List Value := [.int .i64 t.1, .int .i64 t.2.1, .string t.2.2.1, .int .i64 t.2.2.2]
structure Env where
 B : Nat
 rb : Nat
 P : Src
 lo : Option Addr
 cap : Nat
structure SrcOk (P : Src) : Prop where
 len : P.toks.length ≤ 100000
 tok : ∀ t ∈ P.toks, t.1 ≤ 7 ∧ t.2.1 ≤ 100000 ∧ t.2.2.2 ≤ 1000000000 ∧ t.2.2.1.size ≤ 4000
 fk : P.fk ≤ 100
 fa : P.fa ≤ 100000
 words : ∀ t ∈ P.toks, t.1 = 6 → t.2.2.1 ∈ wordsA
 signs : ∀ t ∈ P.toks, t.1 = 7 → t.2.2.1 ∈ signsA
 upper : ∀ t ∈ P.toks, t.1 = 4 → 0 < t.2.2.1.size ∧ bt t.2.2.1 0 ≤ 90
 ends : P.fk = 0 → 0 < P.toks.length ∧ P.K (P.toks.length - 1) = 0
def Glob (w : World) : Prop := (∀ j, j < 7 → w.cell? ⟨2, j * 2, none⟩ = some (.string (lvT j)) ∧ w.cell? ⟨2, j * 2 + 1, none⟩ = some (.int .i64 (sideT j))) ∧ ∀ j, j < 3 → w.cell? ⟨0, j, none⟩ = some (.string (bgT j))
theorem Glob.of {w w' : World} (h : Glob w) (h0 : ∀ k, w'.cell? ⟨0, k, none⟩ = w.cell? ⟨0, k, none⟩) (h2 : ∀ k, w'.cell? ⟨2, k, none⟩ = w.cell? ⟨2, k, none⟩) : Glob w' := ⟨fun j hj => by rw [h2, h2]; exact h.1 j hj, fun j hj => by rw [h0]; exact h.2 j hj⟩
structure Rd (E : Env) (w : World) (i d : Nat) : Prop where
 row : w.heap[E.rb]? = some (.cells #[.slice E.lo E.P.toks.length E.cap, .int .i64 (i : Int), .int .i64 (E.P.fk : Int), .int .i64 (E.P.fa : Int), .int .i64 (d : Int)] 63 (0, 0))
 tk : ∀ k (hk : k < E.P.toks.length), ∃ b off, E.lo = some ⟨b, off, none⟩ ∧ b ≠ E.rb ∧ b < E.B ∧ ∀ j, j < 4 → w.cell? ⟨b, off + k * 4 + j, none⟩ = (tkRow E.P.toks[k])[j]?
 low : E.rb < E.B ∧ E.B ≤ w.heap.size
 ok : SrcOk E.P
 le : i ≤ E.P.toks.length
 d60 : d ≤ 60
 gl : Glob w
 g2 : 2 < E.rb
def pr (E : Env) : Value := .pointer (some ⟨E.rb, 0, none⟩)
theorem Rd.ltr {E : Env} {w : World} {i d : Nat} (h : Rd E w i d) : E.rb < w.heap.size := Nat.lt_of_lt_of_le h.low.1 h.low.2
theorem Rd.keep {E : Env} {w w' : World} {i d : Nat} (h : Rd E w i d) (hb : Below w.heap.size w w') : Rd E w' i d := by
 refine ⟨blk_below h.row hb h.ltr, fun k hk => ?_, ⟨h.low.1, Nat.le_trans h.low.2 hb.size⟩, h.ok, h.le, h.d60, h.gl.of (fun k => hb.cell (p := ⟨0, k, none⟩) (by have := h.g2; have := h.ltr; show 0 < _; omega)) (fun k => hb.cell (p := ⟨2, k, none⟩) (by have := h.g2; have := h.ltr; show 2 < _; omega)), h.g2⟩
 obtain ⟨b, off, h1, h2, h3, h4⟩ := h.tk k hk
 exact ⟨b, off, h1, h2, h3, fun j hj => (hb.cell (p := ⟨b, _, none⟩) (Nat.lt_of_lt_of_le h3 h.low.2)).trans (h4 j hj)⟩
def tkVal (P : Src) (i : Nat) : Value := .agg #[.int .i64 (P.K i), .int .i64 (P.A i : Int), .string (P.T i), .int .i64 (P.N i : Int)]
theorem Src.at' {P : Src} {i : Nat} (h : i < P.toks.length) : P.K i = (P.toks[i].1 : Int) ∧ P.A i = P.toks[i].2.1 ∧ P.T i = P.toks[i].2.2.1 ∧ P.N i = P.toks[i].2.2.2 := by
 unfold Src.K Src.A Src.T Src.N
 rw [List.getElem?_eq_getElem h]
 exact ⟨rfl, rfl, rfl, rfl⟩
theorem Src.out' {P : Src} {i : Nat} (h : ¬ i < P.toks.length) : P.K i = -1 ∧ P.A i = P.fa ∧ P.T i = ⟨#[]⟩ ∧ P.N i = 0 := by
 unfold Src.K Src.A Src.T Src.N
 rw [List.getElem?_eq_none (by omega)]
 exact ⟨rfl, rfl, rfl, rfl⟩
theorem size59 (w : World) : (sizeOf 59).run Tryz.prog w = .ok 4 w := by kernel_rfl
theorem Rd.cells {E : Env} {w : World} {i d : Nat} (h : Rd E w i d) : (w.cell? ⟨E.rb, 0, none⟩ = some (.slice E.lo E.P.toks.length E.cap) ∧ w.cell? ⟨E.rb, 1, none⟩ = some (.int .i64 (i : Int)) ∧ w.cell? ⟨E.rb, 2, none⟩ = some (.int .i64 (E.P.fk : Int)) ∧ w.cell? ⟨E.rb, 3, none⟩ = some (.int .i64 (E.P.fa : Int)) ∧ w.cell? ⟨E.rb, 4, none⟩ = some (.int .i64 (d : Int))) ∧ (w.frozen? ⟨E.rb, 0, none⟩ = false ∧ w.frozen? ⟨E.rb, 1, none⟩ = false ∧ w.frozen? ⟨E.rb, 2, none⟩ = false ∧ w.frozen? ⟨E.rb, 3, none⟩ = false ∧ w.frozen? ⟨E.rb, 4, none⟩ = false) :=
 ⟨⟨blk_cell h.row 0, blk_cell h.row 1, blk_cell h.row 2, blk_cell h.row 3, blk_cell h.row 4⟩, ⟨blk_free h.row 0, blk_free h.row 1, blk_free h.row 2, blk_free h.row 3, blk_free h.row 4⟩⟩
theorem Rd.tok {E : Env} {w : World} {i d : Nat} (h : Rd E w i d) {k : Nat} (hk : k < E.P.toks.length) : ∃ b p, b ≠ E.rb ∧ b < E.B ∧ (∀ w' : World, (Instr.indexAt 36 (.slice E.lo E.P.toks.length E.cap) (.int .i64 k)).run Tryz.prog w' = .ok (.pointer (some ⟨b, p, none⟩)) w') ∧
 w.cell? ⟨b, p, none⟩ = some (.int .i64 (E.P.K k)) ∧ w.cell? ⟨b, p + 1, none⟩ = some (.int .i64 (E.P.A k : Int)) ∧ w.cell? ⟨b, p + 2, none⟩ = some (.string (E.P.T k)) ∧ w.cell? ⟨b, p + 3, none⟩ = some (.int .i64 (E.P.N k : Int)) := by
 obtain ⟨b, off, ha, hne, hb, hc⟩ := h.tk k hk
 obtain ⟨e1, e2, e3, e4⟩ := Src.at' hk
 rw [e1, e2, e3, e4]
 exact ⟨b, off + k * 4, hne, hb, fun w' => index_at Tryz.underlying36 size59 ha _ _ k hk w', hc 0 (by omega), hc 1 (by omega), hc 2 (by omega), hc 3 (by omega)⟩
theorem res_tok {fn : Func} {t : Tmp} (h : fn.results = #[.cell t 59]) {tmps : Array Value} {w : World} {b : Nat} {v0 v1 v2 v3 : Value} (ht : tmps.getD t undef = .pointer (some ⟨b, 0, none⟩)) (hb : w.heap[b]? = some (.cells #[v0, v1, v2, v3] 59 (0, 0))) :
 (results fn tmps).run Tryz.prog w = .ok (.agg #[v0, v1, v2, v3]) w :=
 results_cell_row (h := h) _ _ b 59 _ (0, 0) _ ht hb Tryz.underlying59 rfl (by kernel_rfl)
abbrev set4 (W : World) (b : Nat) (v0 v1 v2 v3 : Value) : World := (((W.setCell ⟨b, 0, none⟩ v0).setCell ⟨b, 1, none⟩ v1).setCell ⟨b, 2, none⟩ v2).setCell ⟨b, 3, none⟩ v3
theorem tok_set {W : World} {b : Nat} {u0 u1 u2 u3 : Value} (h : W.heap[b]? = some (.cells #[u0, u1, u2, u3] 59 (0, 0))) (v0 v1 v2 v3 : Value) : (set4 W b v0 v1 v2 v3).heap[b]? = some (.cells #[v0, v1, v2, v3] 59 (0, 0)) :=
 blk_set (blk_set (blk_set (blk_set h 0 _) 1 _) 2 _) 3 _
theorem tok_below {N : Nat} {w W : World} {b : Nat} {v0 v1 v2 v3 : Value} (h : Below N w W) (hb : N ≤ b) : Below N w (set4 W b v0 v1 v2 v3) :=
 (((h.setCell (p := ⟨b, 0, none⟩) hb _).setCell (p := ⟨b, 1, none⟩) hb _).setCell (p := ⟨b, 2, none⟩) hb _).setCell (p := ⟨b, 3, none⟩) hb _
theorem now_any (E : Env) (w : World) (i d : Nat) (h : Rd E w i d) : Calls Tryz.prog 35 #[pr E] w fun e w' => e = .returned (tkVal E.P i) ∧ Below w.heap.size w w' := by
 have hlt := h.ltr
 obtain ⟨W, hW⟩ : ∃ W, W = w.alloc (.cells #[.int .i64 0, .int .i64 0, .string ⟨#[]⟩, .int .i64 0] 59) := ⟨_, rfl⟩
 have hbW : Below w.heap.size w W := by rw [hW]; exact balloc (Below.refl _ _) _
 have hrW : W.heap[w.heap.size]? = some (.cells #[.int .i64 0, .int .i64 0, .string ⟨#[]⟩, .int .i64 0] 59 (0, 0)) := by rw [hW]; exact heap_alloc_new w _
 have hR := h.keep hbW
 obtain ⟨⟨r0, r1, r2, r3, r4⟩, -⟩ := hR.cells
 have z0 := blk_free hrW 0
 have z1 := blk_free hrW 1
 have z2 := blk_free hrW 2
 have z3 := blk_free hrW 3
 obtain ⟨n, hn⟩ : ∃ n, n = E.P.toks.length := ⟨_, rfl⟩
 have hin := h.le
 rw [← hn] at r0 hin
 have HN := lh hn
 have HR := lh hR
 have HBW := lh hbW
 have HRW := lh hrW
 have hn9 : n ≤ 100000 := by rw [hn]; exact h.ok.len
 unfold pr
 have HWW := lh hW
 have n1 : ¬ (E.rb = w.heap.size) := by omega
 have n2 : ¬ (w.heap.size = E.rb) := by omega
 by_cases hi : i < n
 · have hd : ((i : Int) < (n : Int)) := by omega
   have hi' : i < E.P.toks.length := by rw [← hn]; exact hi
   obtain ⟨b, p, hne, hbl, hix, x0, x1, x2, x3⟩ := hR.tok hi'
   rw [← hn] at hix
   have hbw : b < w.heap.size := Nat.lt_of_lt_of_le hbl h.low.2
   have c0 := blk_cell hrW 0
   have c1 := blk_cell hrW 1
   have c2 := blk_cell hrW 2
   have c3 := blk_cell hrW 3
   have n3 : ¬ (b = w.heap.size) := by omega
   have n4 : ¬ (w.heap.size = b) := by omega
   unfold tkVal
   clear h hR hbW hrW hn hi' hne hbl hlt hin hi hbw
   go_enter Tryz.func35, Tryz.ntmps35
   go_upto_region 1 with fail
   rw [← HWW.out]
   clear hW HWW
   go_quiet (fail)
   go_upto_region 2 with fail
   go_region
   go_wp2_with fail
   obtain ⟨V, hV⟩ : ∃ V : World, V = W.drewN (nq + 1) := ⟨_, rfl⟩
   rw [← hV]
   have hbV : Below w.heap.size w V := by rw [hV]; exact below_drewN HBW.out _
   have hrV : V.heap[w.heap.size]? = some (.cells #[.int .i64 0, .int .i64 0, .string ⟨#[]⟩, .int .i64 0] 59 (0, 0)) := by rw [hV]; exact HRW.out
   exact bodyPost_ret (res_tok rfl rfl (tok_set hrV _ _ _ _)) rfl ⟨rfl, tok_below hbV (Nat.le_refl _)⟩
 · have hd : decide ((i : Int) < (n : Int)) = false := by simp; omega
   have hd2 : ¬ ((i : Int) < (n : Int)) := by omega
   obtain ⟨e1, e2, e3, e4⟩ := Src.out' (P := E.P) (i := i) (by rw [← hn]; exact hi)
   unfold tkVal
   rw [e1, e2, e3, e4]
   clear h hR hbW hlt hin hi e1 e2 e3 e4 hn hrW
   go_enter Tryz.func35, Tryz.ntmps35
   go_upto_region 1 with fail
   rw [← HWW.out]
   clear hW HWW
   go_quiet (fail)
   obtain ⟨V, hV⟩ : ∃ V : World, V = W.drewN nq := ⟨_, rfl⟩
   have hbV : Below w.heap.size w V := by rw [hV]; exact below_drewN HBW.out _
   have hrV : V.heap[w.heap.size]? = some (.cells #[.int .i64 0, .int .i64 0, .string ⟨#[]⟩, .int .i64 0] 59 (0, 0)) := by rw [hV]; exact HRW.out
   replace r3 : V.cell? ⟨E.rb, 2 + 1, none⟩ = some (.int .i64 (E.P.fa : Int)) := by rw [hV]; exact r3
   have z0 := blk_free hrV 0
   have z1 := blk_free hrV 1
   have z2 := blk_free hrV 2
   have z3 := blk_free hrV 3
   have c0 := blk_cell hrV 0
   have c1 := blk_cell hrV 1
   have c2 := blk_cell hrV 2
   have c3 := blk_cell hrV 3
   rw [← hV]
   have HBV := lh hbV
   have HRV := lh hrV
   clear hV hbV hrV r0 r1 r2 r4
   go_wp2_with fail
   exact bodyPost_ret (res_tok rfl rfl (tok_set HRV.out _ _ _ _)) rfl ⟨rfl, tok_below HBV.out (Nat.le_refl _)⟩
theorem tok_cells {w : World} {b : Nat} {v0 v1 v2 v3 : Value} (h : w.heap[b]? = some (.cells #[v0, v1, v2, v3] 59 (0, 0))) : w.cell? ⟨b, 0, none⟩ = some v0 ∧ w.cell? ⟨b, 1, none⟩ = some v1 ∧ w.cell? ⟨b, 2, none⟩ = some v2 ∧ w.cell? ⟨b, 3, none⟩ = some v3 :=
 ⟨blk_cell h 0, blk_cell h 1, blk_cell h 2, blk_cell h 3⟩
def slipV (k a : Nat) : List PanicEntry := [{ v := .iface 65 (.agg #[.int .i64 (k : Int), .int .i64 (a : Int)]), recovered := false }]
theorem failD_eq {α : Type} (P : Src) (k i : Nat) : ∃ x y, (failD P k i : Res α) = .bad x y ∧ ((P.K i = -1 ∧ x = P.fk ∧ y = P.fa) ∨ (P.K i ≠ -1 ∧ x = k ∧ y = P.A i)) := by
 unfold failD
 split
 · exact ⟨_, _, rfl, .inl ⟨by assumption, rfl, rfl⟩⟩
 · exact ⟨_, _, rfl, .inr ⟨by assumption, rfl, rfl⟩⟩
theorem fail_any (E : Env) (w : World) (i d k : Nat) (h : Rd E w i d) : Calls Tryz.prog 36 #[pr E, .int .i64 (k : Int)] w fun e w' => (∃ x y, (failD E.P k i : Res Unit) = .bad x y ∧ e = .panicked (slipV x y)) ∧ Below w.heap.size w w' := by
 have HNOW := lh (now_any E w i d h)
 have H := lh h
 obtain ⟨x, y, hf, hc⟩ := failD_eq (α := Unit) E.P k i
 have HF := lh hf
 unfold tkVal at HNOW
 unfold pr at HNOW ⊢
 clear h hf
 go_enter Tryz.func36, Tryz.ntmps36
 go_upto_region 1 with (first | (go_at_call 35; refine HNOW.out.mono ?_; rintro e w1 ⟨rfl, hb1⟩; have HB1 := lh hb1; clear hb1))
 obtain ⟨W, hW⟩ : ∃ W, W = w1.alloc (.cells #[.int .i64 (E.P.K i), .int .i64 (E.P.A i : Int), .string (E.P.T i), .int .i64 (E.P.N i : Int)] 59) := ⟨_, rfl⟩
 have hbW : Below w.heap.size w W := by rw [hW]; exact balloc HB1.out _
 have hrW : W.heap[w1.heap.size]? = some (.cells #[.int .i64 (E.P.K i), .int .i64 (E.P.A i : Int), .string (E.P.T i), .int .i64 (E.P.N i : Int)] 59 (0, 0)) := by rw [hW]; exact heap_alloc_new w1 _
 rw [← hW]
 obtain ⟨c0, c1, c2, c3⟩ := tok_cells hrW
 obtain ⟨⟨r0, r1, r2, r3, r4⟩, -⟩ := (H.out.keep hbW).cells
 replace r3 : W.cell? ⟨E.rb, 2 + 1, none⟩ = some (.int .i64 (E.P.fa : Int)) := r3
 have HBW := lh hbW
 clear hW hbW hrW
 rcases hc with ⟨hk, rfl, rfl⟩ | ⟨hk, rfl, rfl⟩
 · have e1 : (E.P.K i == -1) = true := by simp [hk]
   go_wp2_with fail
   exact ⟨rfl, ⟨_, _, HF.out, rfl⟩, HBW.out⟩
 · have e1 : (E.P.K i == -1) = false := by simp [hk]
   go_wp2_with fail
   exact ⟨rfl, ⟨_, _, HF.out, rfl⟩, HBW.out⟩
theorem ba_eq {a b : ByteArray} : a.toList = b.toList ↔ a = b := by
 constructor
 · intro h
   have h2 : a.data.toList = b.data.toList := by rw [← ByteArray.toList_eq, ← ByteArray.toList_eq]; exact h
   cases a; cases b
   simp only [ByteArray.mk.injEq]
   exact Array.ext' h2
 · intro h; rw [h]
theorem isD_at {P : Src} {s : ByteArray} {i : Nat} (h : isD P s i = true) : (P.K i = 6 ∨ P.K i = 7) ∧ P.T i = s := by
 unfold isD at h
 simpa using h
theorem K_lt {P : Src} {i : Nat} (h : P.K i ≠ -1) : i < P.toks.length := by
 by_cases hi : i < P.toks.length
 · exact hi
 · exact absurd (Src.out' hi).1 h
theorem isD_lt {P : Src} {s : ByteArray} {i : Nat} (h : isD P s i = true) : i < P.toks.length := K_lt (by have := (isD_at h).1; omega)
theorem tok_box {w w1 W : World} {v0 v1 v2 v3 : Value} (hW : W = w1.alloc (.cells #[v0, v1, v2, v3] 59)) (hb : Below w.heap.size w w1) : Below w.heap.size w W ∧ W.heap[w1.heap.size]? = some (.cells #[v0, v1, v2, v3] 59 (0, 0)) := by
 rw [hW]
 exact ⟨balloc hb _, heap_alloc_new w1 _⟩
theorem is_any (E : Env) (w : World) (i d : Nat) (s : ByteArray) (h : Rd E w i d) : Calls Tryz.prog 73 #[pr E, .string s] w fun e w' => e = .returned (.bool (isD E.P s i)) ∧ Below w.heap.size w w' := by
 have HNOW := lh (now_any E w i d h)
 have H := lh h
 obtain ⟨b, hb⟩ : ∃ b, b = isD E.P s i := ⟨_, rfl⟩
 rw [← hb]
 have HB := lh hb
 unfold tkVal at HNOW
 unfold pr at HNOW ⊢
 clear h hb
 go_enter Tryz.func73, Tryz.ntmps73
 go_upto_region 2 with (first | (go_at_call 35; refine HNOW.out.mono ?_; rintro e w1 ⟨rfl, hb1⟩; have HB1 := lh hb1; clear hb1))
 obtain ⟨W, hW⟩ : ∃ W, W = w1.alloc (.cells #[.int .i64 (E.P.K i), .int .i64 (E.P.A i : Int), .string (E.P.T i), .int .i64 (E.P.N i : Int)] 59) := ⟨_, rfl⟩
 obtain ⟨hbW, hrW⟩ := tok_box hW HB1.out
 rw [← hW]
 obtain ⟨c0, c1, c2, c3⟩ := tok_cells hrW
 have HBW := lh hbW
 clear hW hbW hrW
 by_cases hT : (E.P.T i).toList = s.toList
 · have HT : Hid (E.P.T i = s) := lh (ba_eq.1 hT)
   by_cases h7 : E.P.K i = 7
   · have e7 : (E.P.K i == 7) = true := by simp [h7]
     have HK := lh h7
     clear h7
     go_wp2_with fail
     go_ret
     exact ⟨by rw [HB.out]; simp [isD, HK.out, HT.out], HBW.out⟩
   · have e7 : (E.P.K i == 7) = false := by simp [h7]
     by_cases h6 : E.P.K i = 6
     · have e6 : (E.P.K i == 6) = true := by simp [h6]
       have HK := lh h6
       clear h7 h6
       go_wp2_with fail
       go_ret
       exact ⟨by rw [HB.out]; simp [isD, HK.out, HT.out], HBW.out⟩
     · have e6 : (E.P.K i == 6) = false := by simp [h6]
       have HK := lh h6
       have HK7 := lh h7
       clear h7 h6
       go_wp2_with fail
       go_ret
       exact ⟨by rw [HB.out]; simp [isD, HK.out, HK7.out], HBW.out⟩
 · have HT : Hid (¬ E.P.T i = s) := lh (fun e => hT (ba_eq.2 e))
   have hb9 : b = false := by rw [HB.out]; simp [isD, HT.out]
   have HB9 := lh hb9
   clear hb9
   by_cases h7 : E.P.K i = 7
   · have e7 : (E.P.K i == 7) = true := by simp [h7]
     clear h7
     go_wp2_with fail
     go_ret
     exact ⟨by rw [HB9.out]; first | rfl | simp [hT], HBW.out⟩
   · have e7 : (E.P.K i == 7) = false := by simp [h7]
     by_cases h6 : E.P.K i = 6
     · have e6 : (E.P.K i == 6) = true := by simp [h6]
       clear h7 h6
       go_wp2_with fail
       go_ret
       exact ⟨by rw [HB9.out]; first | rfl | simp [hT], HBW.out⟩
     · have e6 : (E.P.K i == 6) = false := by simp [h6]
       clear h7 h6
       go_wp2_with fail
       go_ret
       exact ⟨by rw [HB9.out]; first | rfl | simp [hT], HBW.out⟩
theorem Rd.seti {E : Env} {w : World} {i d : Nat} (h : Rd E w i d) {j : Nat} (hj : j ≤ E.P.toks.length) : Rd E (w.setCell ⟨E.rb, 1, none⟩ (.int .i64 (j : Int))) j d := by
 refine ⟨blk_set h.row 1 _, fun k hk => ?_, ⟨h.low.1, ?_⟩, h.ok, hj, h.d60, h.gl.of (fun k => World.cell?_of_block (a := ⟨0, k, none⟩) (blk_set_ne rfl (by have := h.g2; show 0 ≠ E.rb; omega) 1 _)) (fun k => World.cell?_of_block (a := ⟨2, k, none⟩) (blk_set_ne rfl (by have := h.g2; show 2 ≠ E.rb; omega) 1 _)), h.g2⟩
 · obtain ⟨b, off, h1, h2, h3, h4⟩ := h.tk k hk
   exact ⟨b, off, h1, h2, h3, fun j hj => (World.cell?_of_block (a := ⟨b, _, none⟩) (blk_set_ne rfl h2 1 _)).trans (h4 j hj)⟩
 · rw [World.size_setCell]; exact h.low.2
theorem Rd.setd {E : Env} {w : World} {i d : Nat} (h : Rd E w i d) {d' : Nat} (hd : d' ≤ 60) : Rd E (w.setCell ⟨E.rb, 4, none⟩ (.int .i64 (d' : Int))) i d' := by
 refine ⟨blk_set h.row 4 _, fun k hk => ?_, ⟨h.low.1, ?_⟩, h.ok, h.le, hd, h.gl.of (fun k => World.cell?_of_block (a := ⟨0, k, none⟩) (blk_set_ne rfl (by have := h.g2; show 0 ≠ E.rb; omega) 4 _)) (fun k => World.cell?_of_block (a := ⟨2, k, none⟩) (blk_set_ne rfl (by have := h.g2; show 2 ≠ E.rb; omega) 4 _)), h.g2⟩
 · obtain ⟨b, off, h1, h2, h3, h4⟩ := h.tk k hk
   exact ⟨b, off, h1, h2, h3, fun j hj => (World.cell?_of_block (a := ⟨b, _, none⟩) (blk_set_ne rfl h2 4 _)).trans (h4 j hj)⟩
 · rw [World.size_setCell]; exact h.low.2
theorem eat_any (E : Env) (w : World) (i d : Nat) (s : ByteArray) (h : Rd E w i d) : Calls Tryz.prog 38 #[pr E, .string s] w fun e w' => e = .returned (.bool (isD E.P s i)) ∧ Rd E w' (if isD E.P s i = true then i + 1 else i) d ∧ w.grownBy w' (some E.rb) := by
 have HIS := lh (is_any E w i d s h)
 have H := lh h
 have hi9 : i ≤ 100000 := Nat.le_trans h.le h.ok.len
 have HLT := lh (fun hb => isD_lt (P := E.P) (s := s) (i := i) hb)
 obtain ⟨b, hb⟩ : ∃ b, b = isD E.P s i := ⟨_, rfl⟩
 rw [← hb] at HIS HLT ⊢
 unfold pr at HIS ⊢
 clear h hb
 go_enter Tryz.func38, Tryz.ntmps38
 cases b with
 | true =>
  have hlt := HLT.out rfl
  go_upto_region 2 with (first | (go_at_call 73; refine HIS.out.mono ?_; rintro e w1 ⟨rfl, hb1⟩; have HB1 := lh hb1; obtain ⟨⟨r0, r1, r2, r3, r4⟩, ⟨z0, z1, z2, z3, z4⟩⟩ := (H.out.keep hb1).cells; clear hb1))
  go_wp2_with fail
  go_ret
  have hr := (H.out.keep HB1.out).seti (j := i + 1) (by omega)
  exact ⟨rfl, by simpa using hr, gr_trans (gr_below HB1.out _) (gr_set _ _ _ _)⟩
 | false =>
  go_wp2_with (first | (go_at_call 73; refine HIS.out.mono ?_; rintro e w1 ⟨rfl, hb1⟩; have HB1 := lh hb1; clear hb1))
  go_ret
  exact ⟨rfl, by simpa using H.out.keep HB1.out, gr_below HB1.out _⟩
def PPost {α : Type} (E : Env) (d : Nat) (w : World) (T : Res α) (Q : α → Value → World → Prop) (e : Ending) (w' : World) : Prop :=
 w.grownBy w' (some E.rb) ∧ ((∃ x j v, T = .ok x j ∧ e = .returned v ∧ Q x v w' ∧ Rd E w' j d) ∨ (∃ k a, T = .bad k a ∧ e = .panicked (slipV k a) ∧ ∃ i', Rd E w' i' d))
theorem PPost.ok {α : Type} {E : Env} {d : Nat} {w w' : World} {T : Res α} {Q : α → Value → World → Prop} {x : α} {j : Nat} {v : Value} (hg : w.grownBy w' (some E.rb)) (hT : T = .ok x j) (hQ : Q x v w') (hr : Rd E w' j d) : PPost E d w T Q (.returned v) w' := ⟨hg, .inl ⟨x, j, v, hT, rfl, hQ, hr⟩⟩
theorem PPost.bad {α : Type} {E : Env} {d i' : Nat} {w w' : World} {T : Res α} {Q : α → Value → World → Prop} {k a : Nat} (hg : w.grownBy w' (some E.rb)) (hT : T = .bad k a) (hr : Rd E w' i' d) : PPost E d w T Q (.panicked (slipV k a)) w' := ⟨hg, .inr ⟨k, a, hT, rfl, _, hr⟩⟩
theorem must_any (E : Env) (w : World) (i d : Nat) (s : ByteArray) (h : Rd E w i d) : Calls Tryz.prog 40 #[pr E, .string s] w (PPost E d w (mustD E.P s i) fun _ _ _ => True) := by
 have HE := lh (eat_any E w i d s h)
 obtain ⟨T, hT⟩ : ∃ T, T = mustD E.P s i := ⟨_, rfl⟩
 rw [← hT]
 have hT2 : T = if isD E.P s i then .ok () (i + 1) else failD E.P 4 i := hT
 have HT := lh hT2
 have HFA : Hid (∀ w1, Rd E w1 i d → Calls Tryz.prog 36 #[pr E, .int .i64 4] w1 fun e w' => (∃ x y, (failD E.P 4 i : Res Unit) = .bad x y ∧ e = .panicked (slipV x y)) ∧ Below w1.heap.size w1 w') := lh (fun w1 h1 => fail_any E w1 i d 4 h1)
 obtain ⟨b, hb⟩ : ∃ b, b = isD E.P s i := ⟨_, rfl⟩
 rw [← hb] at HE HT
 unfold pr at HE HFA ⊢
 clear h hT hT2 hb
 go_enter Tryz.func40, Tryz.ntmps40
 cases b with
 | true =>
  go_wp2_with (first | (go_at_call 38; refine HE.out.mono ?_; rintro e w1 ⟨rfl, hr1, hg1⟩; have HR1 := lh hr1; have HG1 := lh hg1; clear hr1 hg1))
  have hr : Rd E w1 (i + 1) d := by simpa using HR1.out
  have ht : T = .ok () (i + 1) := by simpa using HT.out
  first | go_end0 | refine bodyPost_ret (results_none rfl _ _ _) rfl ?_
  exact PPost.ok HG1.out ht trivial hr
 | false =>
  go_wp2_with (first | (go_at_call 38; refine HE.out.mono ?_; rintro e w1 ⟨rfl, hr1, hg1⟩; have HR1 : Hid (Rd E w1 i d) := lh (by simpa using hr1); have HG1 := lh hg1; clear hr1 hg1) | (go_at_call 36; refine (HFA.out w1 HR1.out).mono ?_; rintro e w2 ⟨⟨x, y, hx, rfl⟩, hb2⟩; have HX := lh hx; have HB2 := lh hb2; clear hx hb2))
  have ht : T = failD E.P 4 i := by simpa using HT.out
  rw [HX.out] at ht
  exact ⟨rfl, PPost.bad (gr_trans HG1.out (gr_below HB2.out _)) ht (HR1.out.keep HB2.out)⟩
theorem kind_any (E : Env) (w : World) (i d k : Nat) (h : Rd E w i d) : Calls Tryz.prog 74 #[pr E, .int .i64 (k : Int)] w (PPost E d w (kindD E.P k i) fun x v _ => v = .string x) := by
 have HNOW := lh (now_any E w i d h)
 have H := lh h
 have hi9 : i ≤ 100000 := Nat.le_trans h.le h.ok.len
 obtain ⟨T, hT⟩ : ∃ T, T = kindD E.P k i := ⟨_, rfl⟩
 rw [← hT]
 have hT2 : T = if E.P.K i = k then .ok (E.P.T i) (i + 1) else failD E.P 4 i := hT
 have HT := lh hT2
 have HFA : Hid (∀ w1, Rd E w1 i d → Calls Tryz.prog 36 #[pr E, .int .i64 4] w1 fun e w' => (∃ x y, (failD E.P 4 i : Res Unit) = .bad x y ∧ e = .panicked (slipV x y)) ∧ Below w1.heap.size w1 w') := lh (fun w1 h1 => fail_any E w1 i d 4 h1)
 unfold tkVal at HNOW
 unfold pr at HNOW HFA ⊢
 clear h hT hT2
 go_enter Tryz.func74, Tryz.ntmps74
 go_upto_region 2 with (first | (go_at_call 35; refine HNOW.out.mono ?_; rintro e w1 ⟨rfl, hb1⟩; have HB1 := lh hb1; clear hb1))
 obtain ⟨W, hW⟩ : ∃ W, W = w1.alloc (.cells #[.int .i64 (E.P.K i), .int .i64 (E.P.A i : Int), .string (E.P.T i), .int .i64 (E.P.N i : Int)] 59) := ⟨_, rfl⟩
 obtain ⟨hbW, hrW⟩ := tok_box hW HB1.out
 rw [← hW]
 obtain ⟨c0, c1, c2, c3⟩ := tok_cells hrW
 have hR := H.out.keep hbW
 obtain ⟨⟨r0, r1, r2, r3, r4⟩, ⟨z0, z1, z2, z3, z4⟩⟩ := hR.cells
 have HR := lh hR
 have HBW := lh hbW
 have n1 : ¬ (w1.heap.size = E.rb) := by have := H.out.ltr; have := HB1.out.size; omega
 clear hW hbW hrW hR
 by_cases hk : E.P.K i = k
 · have e1 : (E.P.K i != (k : Int)) = false := by simp [hk]
   have HK := lh hk
   have hlt : i < E.P.toks.length := K_lt (by rw [hk]; omega)
   clear hk
   go_wp2_with fail
   go_ret
   have ht := HT.out
   rw [if_pos HK.out] at ht
   exact PPost.ok (gr_trans (gr_below HBW.out _) (gr_set _ _ _ _)) ht rfl (HR.out.seti (j := i + 1) (by omega))
 · have e1 : (E.P.K i != (k : Int)) = true := by simp [hk]
   have HK := lh hk
   clear hk
   go_wp2_with (first | (go_at_call 36; refine (HFA.out W HR.out).mono ?_; rintro e w2 ⟨⟨x, y, hx, rfl⟩, hb2⟩; have HX := lh hx; have HB2 := lh hb2; clear hx hb2))
   have ht := HT.out
   rw [if_neg HK.out] at ht
   have hx := HX.out
   unfold failD at hx ht
   have ht2 : T = .bad x y := by
    rw [ht]
    split at hx
    · rename_i hc; rw [if_pos hc]; cases hx; rfl
    · rename_i hc; rw [if_neg hc]; cases hx; rfl
   exact ⟨rfl, PPost.bad (gr_trans (gr_below HBW.out _) (gr_below HB2.out _)) ht2 (HR.out.keep HB2.out)⟩
end Go.Proofs.YthehjeeiodbkjaaGreatDoor
