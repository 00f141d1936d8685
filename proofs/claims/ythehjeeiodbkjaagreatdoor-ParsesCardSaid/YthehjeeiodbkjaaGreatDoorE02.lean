/-
  Proved: Proved: small facts on worlds (a block behind a store, behind growth elsewhere). No condition.; Proved: append onto a row of one's own, the two slices' types having different names, whatever the source. No condition.; Proved: what a type is, in plain Lean; how one stands in memory; which may be, which are alike. No condition.. Conditions: .
-/
import Derived.Test.YthehjeeiodbkjaaGreatDoorE01
import Derived.Test.YthehjeeiodbkjaaGreatDoorProg
import Derived.Test.YthehjeeiodbkjaaGreatDoorChecked
import Derived.WalkKit
import Derived.ProofKit
import Derived.WalkSpells
import Derived.WalkLawsBesides
import Derived.Deep.QuietTactic
import Derived.BigQuiet
import Derived.Lib.Hide
import Derived.Handy
import Derived.Lib.OthersKept
import Derived.OwnWalk
import Derived.Maps.AppendAt
set_option linter.unusedSimpArgs false
set_option linter.unusedVariables false
set_option maxRecDepth 100000
set_option maxHeartbeats 16000000
namespace Go.Proofs.YthehjeeiodbkjaaGreatDoor
open Go.RowKit
/-- a block behind a store into it -/
theorem blk_set {w : World} {p : Nat} {c : Array Value} {t : TypeId} {f : Nat × Nat} (h : w.heap[p]? = some (.cells c t f)) (i : Nat) (u : Value) :
 (w.setCell ⟨p, i, none⟩ u).heap[p]? = some (.cells (c.setIfInBounds i u) t f) := by
 have hlt := lt_of_block h
 have h' : w.heap[p] = .cells c t f := by simpa [Array.getElem?_eq_getElem hlt] using h
 show (w.heap.modify p _)[p]? = _
 rw [Array.getElem?_eq_getElem (by simpa using hlt), Array.getElem_modify_self, h']
 rfl
theorem blk_set_ne {w : World} {p q : Nat} {o : Option Obj} (h : w.heap[p]? = o) (hne : p ≠ q) (i : Nat) (u : Value) : (w.setCell ⟨q, i, none⟩ u).heap[p]? = o := by
 rw [Below.heap_setCell _ _ _ _ hne]; exact h
theorem blk_alloc {w : World} {p : Nat} {x : Obj} (h : w.heap[p]? = some x) (o : Obj) : (w.alloc o).heap[p]? = some x := by
 rw [Below.heap_alloc _ _ _ (lt_of_block h)]; exact h
theorem blk_grown {w w' : World} {p : Nat} {x : Obj} {row : Option Nat} (h : w.heap[p]? = some x) (hg : w.grownBy w' row) (hne : row ≠ some p) : w'.heap[p]? = some x := by
 rw [hg.block p (lt_of_block h) (fun e => hne e.symm)]; exact h
theorem blk_below {w w' : World} {p B : Nat} {x : Obj} (h : w.heap[p]? = some x) (hb : Below B w w') (hp : p < B) : w'.heap[p]? = some x := by
 rw [hb.block p hp]; exact h
theorem blk_cell {w : World} {p : Nat} {c : Array Value} {t : TypeId} {f : Nat × Nat} (h : w.heap[p]? = some (.cells c t f)) (i : Nat) : w.cell? ⟨p, i, none⟩ = c[i]? := by simp [World.cell?, h]
theorem blk_free {w : World} {p : Nat} {c : Array Value} {t : TypeId} (h : w.heap[p]? = some (.cells c t (0, 0))) (i : Nat) : w.frozen? ⟨p, i, none⟩ = false := by simp [World.frozen?, h]
/-- a row's own block is none of another element type -/
theorem own_ne {w : World} {p B : Nat} {c : Array Value} {v : Value} {n e t size : Nat} {xs : List Value} {f : Nat × Nat} (hp : w.heap[p]? = some (.cells c t f)) (hown : w.ownsRow B e size v n xs) (ht : t ≠ e) : v.ownBlock ≠ some p := by
 intro h
 rcases hown.2 with ⟨rfl, _⟩ | ⟨g, cap, cur, rfl, hb, hg, _⟩
 · simp [Value.ownBlock] at h
 · simp [Value.ownBlock] at h
   subst h
   rw [hg] at hp
   simp at hp
   exact ht hp.2.1.symm
theorem new_cells {w : World} {c : Array Value} {t : TypeId} (n : Nat) (hn : n = w.heap.size) : ∀ (j : Nat) (u : Value), c.toList[j]? = some u → (w.alloc (.cells c t)).cell? ((⟨n, 0, none⟩ : Addr).add j) = some u := by
 intro j u h
 have hadd : (⟨n, 0, none⟩ : Addr).add j = ⟨n, j, none⟩ := by unfold Addr.add; split <;> simp_all
 rw [hadd, World.cell?_alloc_at _ _ _ _ hn]
 simpa using h
/-- 'string(b)' of a new block of bytes -/
theorem conv_new {P : Program} (w : World) (src dst e : TypeId) (l : List UInt8) (hs : P.underlying src = some (.slice e)) (he : P.underlying e = some (.int .u8)) (hd : P.underlying dst = some .string) (n cap : Nat) (hn : n = w.heap.size) (c : Array Value) (hc : c.toList = l.map fun b => .int .u8 b.toNat) (m : Nat) (hm : m = l.length) :
 (convert src dst (.slice (some ⟨n, 0, none⟩) m cap)).run P (w.alloc (.cells c e)) = .ok (.string ⟨l.toArray⟩) (w.alloc (.cells c e)) := by
 subst hm
 refine run_convert_bytes_back _ src dst e _ cap l hs he hd fun j hj => new_cells n hn j _ ?_
 rw [hc]; simp [hj]
theorem bthen {w w1 w2 : World} (h : Below w.heap.size w w1) (hb : Below w1.heap.size w1 w2) : Below w.heap.size w w2 := h.trans (hb.mono h.size)
theorem balloc {w w1 : World} (h : Below w.heap.size w w1) (o : Obj) : Below w.heap.size w (w1.alloc o) := h.alloc h.size o
/-- what is owned is owned wherever its block stands -/
theorem own_carry {w w' : World} {B : Nat} {v : Value} {n e size : Nat} {xs : List Value} (h : w.ownsRow B e size v n xs) (hc : ∀ (g : Nat) (c : Array Value) (f : Nat × Nat), w.heap[g]? = some (.cells c e f) → w'.heap[g]? = some (.cells c e f)) : w'.ownsRow B e size v n xs := by
 refine ⟨h.1, ?_⟩
 rcases h.2 with hn | ⟨g, cap, cur, rfl, hbg, hgg, rest⟩
 · exact .inl hn
 · exact .inr ⟨g, cap, cur, rfl, hbg, hc _ _ _ hgg, rest⟩
theorem iter_cells {w : World} {k : Nat} {s : ByteArray} {pos pos' : Nat} (hk : w.heap[k]? = some (.stringIter s pos)) {g : Nat} {c : Array Value} {e : TypeId} {f : Nat × Nat} (h : w.heap[g]? = some (.cells c e f)) : (w.iterAt k s pos').heap[g]? = some (.cells c e f) := by
 rw [Lib.iterAt_other _ _ _ _ _ (fun e => by subst e; rw [hk] at h; cases h)]; exact h
/-- the shape of an owned value -/
theorem own_shape {w : World} {B : Nat} {v : Value} {n e size : Nat} {xs : List Value} (hown : w.ownsRow B e size v n xs) (hn : ¬v = .slice none 0 0) : ∃ g cap, v = .slice (some ⟨g, 0, none⟩) n cap := by
 rcases hown.2 with ⟨rfl, _⟩ | ⟨g, cap, cur, rfl, _⟩
 · exact absurd rfl hn
 · exact ⟨g, cap, rfl⟩
theorem gr_trans {w w1 w2 : World} {row : Option Nat} (h : w.grownBy w1 row) (h2 : w1.grownBy w2 row) : w.grownBy w2 row :=
 ⟨h2.os.trans h.os, h2.tape.trans h.tape, h2.output.trans h.output, Nat.le_trans h.size h2.size, fun k hk hne => (h2.block k (Nat.lt_of_lt_of_le hk h.size) hne).trans (h.block k hk hne)⟩
theorem gr_set (w : World) (b i : Nat) (v : Value) : w.grownBy (w.setCell ⟨b, i, none⟩ v) (some b) :=
 ⟨rfl, rfl, rfl, by simp [World.setCell], fun k _ hne => Below.heap_setCell _ _ _ _ (fun e => hne (by rw [e]))⟩
theorem gr_far {w W : World} {row : Option Nat} (h : w.grownBy W row) (b i : Nat) (v : Value) (hb : w.heap.size ≤ b) : w.grownBy (W.setCell ⟨b, i, none⟩ v) row :=
 ⟨h.os, h.tape, h.output, by simpa [World.setCell] using h.size, fun k hk hne => (Below.heap_setCell _ _ _ _ (by simp; omega)).trans (h.block k hk hne)⟩
theorem gr_drew (w : World) (n : Nat) (row : Option Nat) : w.grownBy (w.drewN n) row := ⟨rfl, rfl, rfl, Nat.le_refl _, fun _ _ _ => rfl⟩
theorem gr_below {w w' : World} (hb : Below w.heap.size w w') (row : Option Nat) : w.grownBy w' row := ⟨hb.os, hb.tape, hb.output, hb.size, fun k hk _ => hb.block k hk⟩
theorem own_keep {w w' : World} {B : Nat} {v : Value} {n e size : Nat} {xs : List Value} {row : Option Nat} (h : w.ownsRow B e size v n xs) (hg : w.grownBy w' row) (hq : ∀ q, row = some q → ∃ c t f, w.heap[q]? = some (.cells c t f) ∧ t ≠ e) : w'.ownsRow B e size v n xs := by
 refine own_carry h fun g c f hb => ?_
 have hlt := lt_of_block hb
 rw [hg.block g hlt ?_]
 · exact hb
 · intro hr
   obtain ⟨c', t, f', hb', ht⟩ := hq g hr.symm
   rw [hb] at hb'
   cases hb'
   exact ht rfl
theorem own_set {W : World} {B : Nat} {v : Value} {n e size : Nat} {xs : List Value} (h : W.ownsRow B e size v n xs) {b t : Nat} {c : Array Value} {f : Nat × Nat} (hb : W.heap[b]? = some (.cells c t f)) (ht : t ≠ e) (i : Nat) (u : Value) : (W.setCell ⟨b, i, Option.none⟩ u).ownsRow B e size v n xs :=
 own_keep h (gr_set W b i u) (fun q hq => by cases hq; exact ⟨_, _, _, hb, ht⟩)
theorem gr_own {w W W' : World} {p : Nat} {row : Option Nat} (h : w.grownBy W (some p)) (hg : W.grownBy W' row) (hrow : ∀ g, row = some g → w.heap.size ≤ g) : w.grownBy W' (some p) :=
 ⟨hg.os.trans h.os, hg.tape.trans h.tape, hg.output.trans h.output, Nat.le_trans h.size hg.size, fun k hk hne => (hg.block k (Nat.lt_of_lt_of_le hk h.size) (fun e => by have := hrow k e.symm; omega)).trans (h.block k hk hne)⟩
abbrev bv (b : UInt8) : Value := .int .u8 b.toNat
theorem conv_own {P : Program} {w : World} {B : Nat} {v : Value} {l : List UInt8} (src dst e : TypeId) (hs : P.underlying src = some (.slice e)) (he : P.underlying e = some (.int .u8)) (hd : P.underlying dst = some .string) (hown : w.ownsRow B e 1 v l.length (l.map bv)) (hv : ¬v = .slice none 0 0) :
 (convert src dst v).run P w = .ok (.string ⟨l.toArray⟩) w := by
 obtain ⟨g, cap, rfl⟩ := own_shape hown hv
 refine run_convert_bytes_back w src dst e _ cap l hs he hd fun j hj => ?_
 exact hown.cells (g := g) rfl j _ (by simp [hj, bv])
theorem bdrewN {B : Nat} {w w' : World} (h : Below B w w') (n : Nat) : Below B w (w'.drewN n) := ⟨h.os, h.tape, h.output, h.size, h.block⟩
theorem next_at {P : Program} (w : World) (k : Nat) (f : List UInt8) (pos : Nat) (ty : TypeId) (c : UInt8) (hit : w.heap[k]? = some (.stringIter ⟨f.toArray⟩ pos)) (hlt : pos < f.length) (hc : f.getD pos 0 = c) (hc2 : c.toNat < 128) :
 (Instr.next (.pointer (some ⟨k, 0, none⟩)) true ty).run P w = .ok (.tuple #[.bool true, .int .i64 pos, .int .i32 c.toNat]) (w.iterAt k ⟨f.toArray⟩ (pos + 1)) := by
 have hlt' : pos < (ByteArray.mk f.toArray).size := by simpa [ByteArray.size] using hlt
 have e : (ByteArray.mk f.toArray)[pos]'hlt' = c := by rw [← hc]; simp [List.getD, hlt]; rfl
 rw [Lib.run_next_ascii_at w k _ pos ty hit hlt' (by rw [e]; exact hc2), e]
theorem next_end {P : Program} (w : World) (k : Nat) (f : List UInt8) (pos : Nat) (ty : TypeId) (hit : w.heap[k]? = some (.stringIter ⟨f.toArray⟩ pos)) (hlt : ¬ pos < f.length) :
 (Instr.next (.pointer (some ⟨k, 0, none⟩)) true ty).run P w = .ok (.tuple #[.bool false]) w :=
 Lib.run_next_end_at w k _ pos ty hit (by simpa [ByteArray.size] using hlt)
theorem iterPos_of {w : World} {k : Nat} {s : ByteArray} {pos : Nat} (h : w.heap[k]? = some (.stringIter s pos)) : w.iterPos k = pos := by simp [World.iterPos, h]
theorem run_append_types {P : Program} {t u ty e e2 : TypeId} {i : TypeInfo} (ht : P.underlying t = some (.slice e)) (hu : P.underlying u = some (.slice e2)) (hi : P.info? e = some i) (v x : Value) (w : World) :
 (Builtin.append_ #[t, u] ty #[v, x]).run P w = (Builtin.append_ #[t, t] ty #[v, x]).run P w := by
 unfold Builtin.append_
 simp only [List.getElem?_toArray, List.getElem?_cons_zero, List.getElem?_cons_succ, Sem.run_bind, run_underlying ht, run_underlying hu, Result.andThen_ok]
 split
 · simp only [sizeOf, typeInfo, hi, Sem.run_bind, run_underlying ht, run_underlying hu, Result.andThen_ok]
 · rfl
theorem run_append_zero {P : Program} {w : World} (base : Nat) (t ty e : TypeId) (i : TypeInfo) (size : Nat) (ht : P.underlying t = some (.slice e)) (hi : P.info? e = some i)
 (v : Value) (n : Nat) (xs : List Value) (hown : w.ownsRow base e size v n xs) (ao : Option Addr) (c : Nat) :
 (Builtin.append_ #[t, t] ty #[v, .slice ao 0 c]).run P w = .ok v w := by
 have hf : (Builtin.firstCells i.size 0 (.slice ao 0 c)).run P w = .ok #[] w := by
  cases ao with
  | none => rfl
  | some a => simp [Builtin.firstCells, loadCells, loadCellsFrom]
 rcases hown.2 with ⟨rfl, rfl⟩ | ⟨g, cap, cur, rfl, _, _, hnc, _⟩
 · simp [Builtin.append_, run_underlying ht, sizeOf, typeInfo, hi, Builtin.lenOf, hf]
 · simp [Builtin.append_, run_underlying ht, sizeOf, typeInfo, hi, Builtin.lenOf, hf, hnc, storeCells]
/-- the same; where the new slice lies -/
theorem wpList_append3 {P : Program} {w : World} {ops : Array Oper} {rest : List Oper} {o : Oper} {a : Act} {Q : Exit → Act → World → Prop} (hgd : o.guard = none) (s x : Operand) (t u : TypeId)
 (ho : o.op = .call { callee := .builtin .append, args := #[s, x], argTypes := #[t, u] })
 (base : Nat) (e e2 : TypeId) (i : TypeInfo) (z : Value) (size bytes : Nat) (ht : P.underlying t = some (.slice e)) (hu : P.underlying u = some (.slice e2)) (hi : P.info? e = some i) (hz : i.zero = some z)
 (hsize : i.size = size) (hby : i.bytes = bytes) (hzs : z.cells.size = size) (hsz : 0 < size)
 (v : Value) (n : Nat) (xs : List Value) (hs : a.eval s = v) (hown : w.ownsRow base e size v n xs)
 (ao : Option Addr) (m c : Nat) (news : List Value) (hx : a.eval x = .slice ao m c) (hl : news.length = m * size) (hnews : 0 < m → ∃ ad, ao = some ad ∧ ∀ j u, news[j]? = some u → w.cell? (ad.add j) = some u) (h1 : ∀ u ∈ news, u.oneCell' = true)
 (h63 : n + m ≤ maxLen) (hbytes : (n + m) * bytes ≤ 140737488355328) (hbase : base ≤ w.heap.size)
 (h : ∀ v' w', w'.ownsRow base e size v' (n + m) (xs ++ news) → w.grownBy w' v.ownBlock → (v'.ownBlock = v.ownBlock ∨ v'.ownBlock = some w.heap.size) → wpList P ops Q rest (a.put o.dst v') w') : wpList P ops Q (o :: rest) a w := by
 refine wpList_plain hgd fun K hK => ?_
 have hrun : ∃ v' w', (Builtin.append_ #[t, u] o.type #[v, .slice ao m c]).run P w = .ok v' w' ∧ w'.ownsRow base e size v' (n + m) (xs ++ news) ∧ w.grownBy w' v.ownBlock ∧ (v'.ownBlock = v.ownBlock ∨ v'.ownBlock = some w.heap.size) := by
  rw [run_append_types ht hu hi]
  by_cases hm : m = 0
  · subst hm
    have hn : news = [] := List.eq_nil_of_length_eq_zero (by simpa using hl)
    subst hn
    exact ⟨v, w, run_append_zero base t o.type e i size ht hi v n xs hown ao c, by simpa using hown, World.grownBy.refl _ _, .inl rfl⟩
  · obtain ⟨ad, rfl, hc⟩ := hnews (by omega)
    obtain ⟨v', w', hr, h2, h3, _, h4⟩ := run_append_own_at (P := P) w base t o.type e i z size bytes ht hi hz hsize hby hzs hsz v n xs hown ad m c news hl hc h1 h63 hbytes hbase
    exact ⟨v', w', hr, h2, h3, h4⟩
 obtain ⟨v', w', hr, h2, h3, h4⟩ := hrun
 unfold Oper.wp execOp
 simp only [ho, resolve, invoke, builtin, Sem.run_bind, Sem.run_pure, Result.andThen_ok, List.map_toArray, List.map_cons, List.map_nil, hs, hx, hr]
 exact hK _ _ (h v' w' h2 h3 h4)
inductive Ty where
 | mk (k n : Int) (s : ByteArray) (q : Int) (args : List Ty)
namespace Ty
def k : Ty → Int | mk k _ _ _ _ => k
def n : Ty → Int | mk _ n _ _ _ => n
def s : Ty → ByteArray | mk _ _ s _ _ => s
def q : Ty → Int | mk _ _ _ q _ => q
def args : Ty → List Ty | mk _ _ _ _ l => l
end Ty
instance : Inhabited Ty := ⟨.mk 0 0 ⟨#[]⟩ 0 []⟩
/-- a row of a type as the cells of a variable -/
def rowOf (t : Ty) (ao : Option Addr) (cap : Nat) : Array Value := #[.int .i64 t.k, .int .i64 t.n, .string t.s, .int .i64 t.q, .slice ao t.args.length cap]
mutual
/-- a type's five cells; its arguments lie in blocks of D -/
def TyV (w : World) (D : Nat → Prop) : Ty → List Value → Prop
 | .mk k n s q args, row => ∃ ao cap, row = [.int .i64 k, .int .i64 n, .string s, .int .i64 q, .slice ao args.length cap] ∧ args.length ≤ cap ∧ ArgsV w D args ao 0
def ArgsV (w : World) (D : Nat → Prop) : List Ty → Option Addr → Nat → Prop
 | [], _, _ => True
 | p :: ps, ao, i => (∃ b off row, ao = some ⟨b, off, none⟩ ∧ D b ∧ (∀ j, j < 5 → w.cell? ⟨b, off + i * 5 + j, none⟩ = row[j]?) ∧ TyV w D p row) ∧ ArgsV w D ps ao (i + 1)
end
mutual
theorem TyV.keep {w w' : World} {D : Nat → Prop} (hk : ∀ b, D b → ∀ off, w'.cell? ⟨b, off, none⟩ = w.cell? ⟨b, off, none⟩) : ∀ {p : Ty} {row : List Value}, TyV w D p row → TyV w' D p row
 | .mk k n s q args, row => by
  intro h
  unfold TyV at h ⊢
  obtain ⟨ao, cap, hr, hc, hkv⟩ := h
  exact ⟨ao, cap, hr, hc, ArgsV.keep hk hkv⟩
theorem ArgsV.keep {w w' : World} {D : Nat → Prop} (hk : ∀ b, D b → ∀ off, w'.cell? ⟨b, off, none⟩ = w.cell? ⟨b, off, none⟩) : ∀ {l : List Ty} {ao : Option Addr} {i : Nat}, ArgsV w D l ao i → ArgsV w' D l ao i
 | [], _, _ => fun _ => by unfold ArgsV; trivial
 | p :: ps, ao, i => by
  intro h
  unfold ArgsV at h ⊢
  obtain ⟨⟨b, off, row, ha, hb, hc, hp⟩, ht⟩ := h
  exact ⟨⟨b, off, row, ha, hb, fun j hj => (hk b hb _).trans (hc j hj), TyV.keep hk hp⟩, ArgsV.keep hk ht⟩
end
mutual
theorem TyV.mono {w : World} {D D' : Nat → Prop} (hN : ∀ b, D b → D' b) : ∀ {p : Ty} {row : List Value}, TyV w D p row → TyV w D' p row
 | .mk k n s q args, row => by
  intro h
  unfold TyV at h ⊢
  obtain ⟨ao, cap, hr, hc, hkv⟩ := h
  exact ⟨ao, cap, hr, hc, ArgsV.mono hN hkv⟩
theorem ArgsV.mono {w : World} {D D' : Nat → Prop} (hN : ∀ b, D b → D' b) : ∀ {l : List Ty} {ao : Option Addr} {i : Nat}, ArgsV w D l ao i → ArgsV w D' l ao i
 | [], _, _ => fun _ => by unfold ArgsV; trivial
 | p :: ps, ao, i => by
  intro h
  unfold ArgsV at h ⊢
  obtain ⟨⟨b, off, row, ha, hb, hc, hp⟩, ht⟩ := h
  exact ⟨⟨b, off, row, ha, hN b hb, hc, TyV.mono hN hp⟩, ArgsV.mono hN ht⟩
end
theorem ArgsV.get {w : World} {D : Nat → Prop} : ∀ {l : List Ty} {ao : Option Addr} {i : Nat}, ArgsV w D l ao i → ∀ {k : Nat} (hk : k < l.length), ∃ b off row, ao = some ⟨b, off, none⟩ ∧ D b ∧ (∀ j, j < 5 → w.cell? ⟨b, off + (i + k) * 5 + j, none⟩ = row[j]?) ∧ TyV w D l[k] row
 | p :: ps, ao, i, h, k, hk => by
  unfold ArgsV at h
  obtain ⟨⟨b, off, row, ha, hb, hc, hp⟩, ht⟩ := h
  cases k with
  | zero => exact ⟨b, off, row, ha, hb, hc, hp⟩
  | succ k =>
   have := ArgsV.get ht (k := k) (by simpa using hk)
   rw [show i + 1 + k = i + (k + 1) from by omega] at this
   simpa using this
theorem ArgsV.of {w : World} {D : Nat → Prop} : ∀ {l : List Ty} {ao : Option Addr} {i : Nat}, (∀ k (hk : k < l.length), ∃ b off row, ao = some ⟨b, off, none⟩ ∧ D b ∧ (∀ j, j < 5 → w.cell? ⟨b, off + (i + k) * 5 + j, none⟩ = row[j]?) ∧ TyV w D l[k] row) → ArgsV w D l ao i
 | [], _, _ => fun _ => by unfold ArgsV; trivial
 | p :: ps, ao, i => by
  intro h
  unfold ArgsV
  refine ⟨h 0 (by simp), ArgsV.of fun k hk => ?_⟩
  have := h (k + 1) (by simpa using hk)
  rw [show i + (k + 1) = i + 1 + k from by omega] at this
  simpa using this
/-- a slice of types, in blocks of D -/
def SlD (w : World) (D : Nat → Prop) (l : List Ty) (ao : Option Addr) (cap : Nat) : Prop := l.length ≤ cap ∧ ArgsV w D l ao 0
theorem SlD.keep {w w' : World} {D : Nat → Prop} {l : List Ty} {ao : Option Addr} {cap : Nat} (h : SlD w D l ao cap) (hk : ∀ b, D b → ∀ off, w'.cell? ⟨b, off, none⟩ = w.cell? ⟨b, off, none⟩) : SlD w' D l ao cap := ⟨h.1, h.2.keep hk⟩
theorem SlD.mono {w : World} {D D' : Nat → Prop} {l : List Ty} {ao : Option Addr} {cap : Nat} (h : SlD w D l ao cap) (hN : ∀ b, D b → D' b) : SlD w D' l ao cap := ⟨h.1, h.2.mono hN⟩
theorem TyV.row {w : World} {D : Nat → Prop} {p : Ty} {row : List Value} (h : TyV w D p row) : ∃ ao cap, row = (rowOf p ao cap).toList ∧ SlD w D p.args ao cap := by
 cases p
 unfold TyV at h
 obtain ⟨ao, cap, hr, hc, hk⟩ := h
 exact ⟨ao, cap, hr, hc, hk⟩
theorem TyV.mk' {w : World} {D : Nat → Prop} {p : Ty} {ao : Option Addr} {cap : Nat} (h : SlD w D p.args ao cap) : TyV w D p (rowOf p ao cap).toList := by
 cases p
 unfold TyV
 exact ⟨ao, cap, rfl, h.1, h.2⟩
/-- a type in hand: its cells, its arguments in blocks of D -/
structure TyAt (w : World) (D : Nat → Prop) (t : Ty) (v : Value) : Prop where
 v : ∃ ao cap, v = .agg (rowOf t ao cap) ∧ SlD w D t.args ao cap
theorem TyAt.keep {w w' : World} {D : Nat → Prop} {t : Ty} {v : Value} (h : TyAt w D t v) (hk : ∀ b, D b → ∀ off, w'.cell? ⟨b, off, none⟩ = w.cell? ⟨b, off, none⟩) : TyAt w' D t v := by
 obtain ⟨ao, cap, e, h⟩ := h.v
 exact ⟨ao, cap, e, h.keep hk⟩
theorem below_cells {N : Nat} {w w' : World} (h : Below N w w') : ∀ b, b < N → ∀ off, w'.cell? ⟨b, off, none⟩ = w.cell? ⟨b, off, none⟩ := fun b hb off => h.cell (p := ⟨b, off, none⟩) hb
/-- the place of an element, where the slice's address is known by an equation that the walk does not see -/
theorem index_at {P : Program} {t e : TypeId} {sz : Nat} (ht : P.underlying t = some (.slice e)) (hs : ∀ w : World, (sizeOf e).run P w = .ok sz w) {ao : Option Addr} {b off : Nat} (ha : ao = some ⟨b, off, none⟩) (n cp k : Nat) (hk : k < n) (w : World) :
 (Instr.indexAt t (.slice ao n cp) (.int .i64 k)).run P w = .ok (.pointer (some ⟨b, off + k * sz, none⟩)) w := by
 subst ha
 have he : P.elem t = e := by simp [Program.elem, ht]
 rw [run_indexAt_slice (h := by rw [he]; exact ht), if_pos (by omega), he, hs]
 simp [Result.andThen, Addr.add_lit]
theorem size26 (w : World) : (sizeOf 26).run Tryz.prog w = .ok 5 w := by kernel_rfl
/-- an argument as a walk reads it: its place, its cells -/
theorem arg_cells {w : World} {D : Nat → Prop} {l : List Ty} {ao : Option Addr} {cap : Nat} (h : SlD w D l ao cap) {j : Nat} (hj : j < l.length) : ∃ b p ap cp, D b ∧ (∀ w' : World, (Instr.indexAt 24 (.slice ao l.length cap) (.int .i64 j)).run Tryz.prog w' = .ok (.pointer (some ⟨b, p, none⟩)) w') ∧
 w.cell? ⟨b, p, none⟩ = some (.int .i64 l[j].k) ∧ w.cell? ⟨b, p + 1, none⟩ = some (.int .i64 l[j].n) ∧ w.cell? ⟨b, p + 2, none⟩ = some (.string l[j].s) ∧ w.cell? ⟨b, p + 3, none⟩ = some (.int .i64 l[j].q) ∧ w.cell? ⟨b, p + 4, none⟩ = some (.slice ap l[j].args.length cp) ∧ SlD w D l[j].args ap cp := by
 obtain ⟨b, off, row, ha, hD, hrow, hp⟩ := h.2.get hj
 obtain ⟨ap, cp, rfl, hs⟩ := hp.row
 rw [Nat.zero_add] at hrow
 exact ⟨b, off + j * 5, ap, cp, hD, fun w' => index_at Tryz.underlying24 size26 ha l.length cap j hj w', hrow 0 (by omega), hrow 1 (by omega), hrow 2 (by omega), hrow 3 (by omega), hrow 4 (by omega), hs⟩
mutual
def parts : Ty → Nat
 | .mk _ _ _ _ args => 1 + partsL args
def partsL : List Ty → Nat
 | [] => 0
 | p :: ps => parts p + partsL ps
end
def I64 (x : Int) : Prop := -9223372036854775808 ≤ x ∧ x ≤ 9223372036854775807
mutual
/-- what fits into a machine -/
def Fits : Ty → Prop
 | .mk k n s q args => (I64 k ∧ I64 n ∧ s.size ≤ 140737488355328 ∧ I64 q) ∧ args.length ≤ 3000000000000 ∧ FitsL args
def FitsL : List Ty → Prop
 | [] => True
 | p :: ps => Fits p ∧ FitsL ps
end
theorem FitsL.get : ∀ {l : List Ty}, FitsL l → ∀ {t : Ty}, t ∈ l → Fits t
 | p :: ps, h, t, ht => by
  unfold FitsL at h
  rcases List.mem_cons.1 ht with rfl | ht
  · exact h.1
  · exact FitsL.get h.2 ht
theorem Fits.len {t : Ty} (h : Fits t) : t.args.length ≤ 3000000000000 := by cases t; unfold Fits at h; exact h.2.1
theorem Fits.args {t : Ty} (h : Fits t) : FitsL t.args := by cases t; unfold Fits at h; exact h.2.2
theorem parts_mem {l : List Ty} {p : Ty} (h : p ∈ l) : parts p ≤ partsL l := by
 induction l with
 | nil => simp at h
 | cons x xs ih =>
  rw [partsL]
  rcases List.mem_cons.1 h with rfl | h
  · omega
  · have := ih h; omega
theorem parts_pos (t : Ty) : 0 < parts t := by cases t; rw [parts]; omega
theorem parts_args (t : Ty) : parts t = 1 + partsL t.args := by cases t; rw [parts]; rfl
end Go.Proofs.YthehjeeiodbkjaaGreatDoor
