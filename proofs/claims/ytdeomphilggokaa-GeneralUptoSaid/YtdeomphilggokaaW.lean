/-
  Proved: small facts on worlds (a block behind a store, behind growth elsewhere). No condition.
-/
import Derived.Test.YtdeomphilggokaaProg
import Derived.WalkKit
import Derived.ProofKit
import Derived.WalkSpells
import Derived.WalkLawsBesides
import Derived.Deep.QuietTactic
import Derived.BigQuiet
import Derived.Lib.Hide
import Derived.Handy
import Derived.Lib.OthersKept
set_option linter.unusedSimpArgs false
set_option linter.unusedVariables false
namespace Go.Proofs.Ytdeomphilggokaa
open Go.RowKit

/-- a block behind a store into it -/
theorem blk_set {w : World} {p : Nat} {c : Array Value} {t : TypeId} {f : Nat × Nat} (h : w.heap[p]? = some (.cells c t f)) (i : Nat) (u : Value) :
    (w.setCell ⟨p, i, none⟩ u).heap[p]? = some (.cells (c.setIfInBounds i u) t f) := by
  have hlt := lt_of_block h
  have h' : w.heap[p] = .cells c t f := by simpa [Array.getElem?_eq_getElem hlt] using h
  show (w.heap.modify p _)[p]? = _
  rw [Array.getElem?_eq_getElem (by simpa using hlt), Array.getElem_modify_self, h']
  rfl
theorem blk_set_ne {w : World} {p q : Nat} {o : Option Obj} (h : w.heap[p]? = o) (hne : p ≠ q) (i : Nat) (u : Value) : (w.setCell ⟨q, i, none⟩ u).heap[p]? = o := by
  rw [Below.heap_setCell _ _ _ _ hne]; exact h
theorem blk_alloc {w : World} {p : Nat} {x : Obj} (h : w.heap[p]? = some x) (o : Obj) : (w.alloc o).heap[p]? = some x := by
  rw [Below.heap_alloc _ _ _ (lt_of_block h)]; exact h
theorem blk_grown {w w' : World} {p : Nat} {x : Obj} {row : Option Nat} (h : w.heap[p]? = some x) (hg : w.grownBy w' row) (hne : row ≠ some p) : w'.heap[p]? = some x := by
  rw [hg.block p (lt_of_block h) (fun e => hne e.symm)]; exact h
theorem blk_below {w w' : World} {p B : Nat} {x : Obj} (h : w.heap[p]? = some x) (hb : Below B w w') (hp : p < B) : w'.heap[p]? = some x := by
  rw [hb.block p hp]; exact h
theorem blk_cell {w : World} {p : Nat} {c : Array Value} {t : TypeId} {f : Nat × Nat} (h : w.heap[p]? = some (.cells c t f)) (i : Nat) : w.cell? ⟨p, i, none⟩ = c[i]? := by simp [World.cell?, h]
theorem blk_free {w : World} {p : Nat} {c : Array Value} {t : TypeId} (h : w.heap[p]? = some (.cells c t (0, 0))) (i : Nat) : w.frozen? ⟨p, i, none⟩ = false := by simp [World.frozen?, h]
/-- a row's own block is none of another element type -/
theorem own_ne {w : World} {p B : Nat} {c : Array Value} {v : Value} {n e t size : Nat} {xs : List Value} {f : Nat × Nat} (hp : w.heap[p]? = some (.cells c t f)) (hown : w.ownsRow B e size v n xs) (ht : t ≠ e) : v.ownBlock ≠ some p := by
  intro h
  rcases hown.2 with ⟨rfl, _⟩ | ⟨g, cap, cur, rfl, hb, hg, _⟩
  · simp [Value.ownBlock] at h
  · simp [Value.ownBlock] at h
    subst h
    rw [hg] at hp
    simp at hp
    exact ht hp.2.1.symm
theorem new_cells {w : World} {c : Array Value} {t : TypeId} (n : Nat) (hn : n = w.heap.size) : ∀ (j : Nat) (u : Value), c.toList[j]? = some u → (w.alloc (.cells c t)).cell? ((⟨n, 0, none⟩ : Addr).add j) = some u := by
  intro j u h
  have hadd : (⟨n, 0, none⟩ : Addr).add j = ⟨n, j, none⟩ := by unfold Addr.add; split <;> simp_all
  rw [hadd, World.cell?_alloc_at _ _ _ _ hn]
  simpa using h

/-- 'string(b)' of a new block of bytes -/
theorem conv_new {P : Program} (w : World) (src dst e : TypeId) (l : List UInt8) (hs : P.underlying src = some (.slice e)) (he : P.underlying e = some (.int .u8)) (hd : P.underlying dst = some .string) (n cap : Nat) (hn : n = w.heap.size) (c : Array Value) (hc : c.toList = l.map fun b => .int .u8 b.toNat) (m : Nat) (hm : m = l.length) :
    (convert src dst (.slice (some ⟨n, 0, none⟩) m cap)).run P (w.alloc (.cells c e)) = .ok (.string ⟨l.toArray⟩) (w.alloc (.cells c e)) := by
  subst hm
  refine run_convert_bytes_back _ src dst e _ cap l hs he hd fun j hj => new_cells n hn j _ ?_
  rw [hc]; simp [hj]

theorem bthen {w w1 w2 : World} (h : Below w.heap.size w w1) (hb : Below w1.heap.size w1 w2) : Below w.heap.size w w2 := h.trans (hb.mono h.size)
theorem balloc {w w1 : World} (h : Below w.heap.size w w1) (o : Obj) : Below w.heap.size w (w1.alloc o) := h.alloc h.size o
theorem bcell {W w1 : World} (hb : Below W.heap.size W w1) : (∀ b o, b < W.heap.size → w1.cell? ⟨b, o, none⟩ = W.cell? ⟨b, o, none⟩) ∧ (∀ b o, b < W.heap.size → w1.frozen? ⟨b, o, none⟩ = W.frozen? ⟨b, o, none⟩) :=
  ⟨fun b o h => hb.cell (p := ⟨b, o, none⟩) h, fun b o h => hb.frozen (p := ⟨b, o, none⟩) h⟩

/-- the block of an owned value holds cells of its element type -/
theorem own_row {w : World} {B : Nat} {v : Value} {n e size : Nat} {xs : List Value} (h : w.ownsRow B e size v n xs) : ∀ g, v.ownBlock = some g → ∃ c fz, w.heap[g]? = some (.cells c e fz) := by
  intro g hg
  rcases h.2 with ⟨rfl, _⟩ | ⟨g', cap, cur, rfl, _, hgg, _⟩
  · simp [Value.ownBlock] at hg
  · simp [Value.ownBlock] at hg
    subst hg
    exact ⟨_, _, hgg⟩
/-- what is owned is owned wherever its block stands -/
theorem own_carry {w w' : World} {B : Nat} {v : Value} {n e size : Nat} {xs : List Value} (h : w.ownsRow B e size v n xs) (hc : ∀ (g : Nat) (c : Array Value) (f : Nat × Nat), w.heap[g]? = some (.cells c e f) → w'.heap[g]? = some (.cells c e f)) : w'.ownsRow B e size v n xs := by
  refine ⟨h.1, ?_⟩
  rcases h.2 with hn | ⟨g, cap, cur, rfl, hbg, hgg, rest⟩
  · exact .inl hn
  · exact .inr ⟨g, cap, cur, rfl, hbg, hc _ _ _ hgg, rest⟩
theorem iter_cells {w : World} {k : Nat} {s : ByteArray} {pos pos' : Nat} (hk : w.heap[k]? = some (.stringIter s pos)) {g : Nat} {c : Array Value} {e : TypeId} {f : Nat × Nat} (h : w.heap[g]? = some (.cells c e f)) : (w.iterAt k s pos').heap[g]? = some (.cells c e f) := by
  rw [Lib.iterAt_other _ _ _ _ _ (fun e => by subst e; rw [hk] at h; cases h)]; exact h

/-- the shape of an owned value -/
theorem own_shape {w : World} {B : Nat} {v : Value} {n e size : Nat} {xs : List Value} (hown : w.ownsRow B e size v n xs) (hn : ¬v = .slice none 0 0) : ∃ g cap, v = .slice (some ⟨g, 0, none⟩) n cap := by
  rcases hown.2 with ⟨rfl, _⟩ | ⟨g, cap, cur, rfl, _⟩
  · exact absurd rfl hn
  · exact ⟨g, cap, rfl⟩

theorem gr_trans {w w1 w2 : World} {row : Option Nat} (h : w.grownBy w1 row) (h2 : w1.grownBy w2 row) : w.grownBy w2 row :=
  ⟨h2.os.trans h.os, h2.tape.trans h.tape, h2.output.trans h.output, Nat.le_trans h.size h2.size, fun k hk hne => (h2.block k (Nat.lt_of_lt_of_le hk h.size) hne).trans (h.block k hk hne)⟩
theorem gr_set (w : World) (b i : Nat) (v : Value) : w.grownBy (w.setCell ⟨b, i, none⟩ v) (some b) :=
  ⟨rfl, rfl, rfl, by simp [World.setCell], fun k _ hne => Below.heap_setCell _ _ _ _ (fun e => hne (by rw [e]))⟩
theorem gr_far {w W : World} {row : Option Nat} (h : w.grownBy W row) (b i : Nat) (v : Value) (hb : w.heap.size ≤ b) : w.grownBy (W.setCell ⟨b, i, none⟩ v) row :=
  ⟨h.os, h.tape, h.output, by simpa [World.setCell] using h.size, fun k hk hne => (Below.heap_setCell _ _ _ _ (by simp; omega)).trans (h.block k hk hne)⟩
theorem gr_drew (w : World) (n : Nat) (row : Option Nat) : w.grownBy (w.drewN n) row := ⟨rfl, rfl, rfl, Nat.le_refl _, fun _ _ _ => rfl⟩
theorem gr_below {w w' : World} (hb : Below w.heap.size w w') (row : Option Nat) : w.grownBy w' row := ⟨hb.os, hb.tape, hb.output, hb.size, fun k hk _ => hb.block k hk⟩
theorem own_keep {w w' : World} {B : Nat} {v : Value} {n e size : Nat} {xs : List Value} {row : Option Nat} (h : w.ownsRow B e size v n xs) (hg : w.grownBy w' row) (hq : ∀ q, row = some q → ∃ c t f, w.heap[q]? = some (.cells c t f) ∧ t ≠ e) : w'.ownsRow B e size v n xs := by
  refine own_carry h fun g c f hb => ?_
  have hlt := lt_of_block hb
  rw [hg.block g hlt ?_]
  · exact hb
  · intro hr
    obtain ⟨c', t, f', hb', ht⟩ := hq g hr.symm
    rw [hb] at hb'
    cases hb'
    exact ht rfl
theorem own_set {W : World} {B : Nat} {v : Value} {n e size : Nat} {xs : List Value} (h : W.ownsRow B e size v n xs) {b t : Nat} {c : Array Value} {f : Nat × Nat} (hb : W.heap[b]? = some (.cells c t f)) (ht : t ≠ e) (i : Nat) (u : Value) : (W.setCell ⟨b, i, Option.none⟩ u).ownsRow B e size v n xs :=
  own_keep h (gr_set W b i u) (fun q hq => by cases hq; exact ⟨_, _, _, hb, ht⟩)
theorem own_set3 {W : World} {B : Nat} {v : Value} {n e size : Nat} {xs : List Value} (h : W.ownsRow B e size v n xs) {b t : Nat} {c : Array Value} {f : Nat × Nat} (hb : W.heap[b]? = some (.cells c t f)) (ht : t ≠ e) (u1 u2 u3 : Value) : (((W.setCell ⟨b, 0, Option.none⟩ u1).setCell ⟨b, 1, Option.none⟩ u2).setCell ⟨b, 2, Option.none⟩ u3).ownsRow B e size v n xs :=
  own_set (own_set (own_set h hb ht _ _) (blk_set hb _ _) ht _ _) (blk_set (blk_set hb _ _) _ _) ht _ _
theorem gr_own {w W W' : World} {p : Nat} {row : Option Nat} (h : w.grownBy W (some p)) (hg : W.grownBy W' row) (hrow : ∀ g, row = some g → w.heap.size ≤ g) : w.grownBy W' (some p) :=
  ⟨hg.os.trans h.os, hg.tape.trans h.tape, hg.output.trans h.output, Nat.le_trans h.size hg.size, fun k hk hne => (hg.block k (Nat.lt_of_lt_of_le hk h.size) (fun e => by have := hrow k e.symm; omega)).trans (h.block k hk hne)⟩
theorem own_base {w : World} {B B' : Nat} {v : Value} {n e size : Nat} {xs : List Value} (h : w.ownsRow B' e size v n xs) (hB : B ≤ B') : w.ownsRow B e size v n xs := by
  refine ⟨h.1, ?_⟩
  rcases h.2 with hn | ⟨g, cap, cur, rfl, hbg, rest⟩
  · exact .inl hn
  · exact .inr ⟨g, cap, cur, rfl, by omega, rest⟩
abbrev bv (b : UInt8) : Value := .int .u8 b.toNat
theorem conv_own {P : Program} {w : World} {B : Nat} {v : Value} {l : List UInt8} (src dst e : TypeId) (hs : P.underlying src = some (.slice e)) (he : P.underlying e = some (.int .u8)) (hd : P.underlying dst = some .string) (hown : w.ownsRow B e 1 v l.length (l.map bv)) (hv : ¬v = .slice none 0 0) :
    (convert src dst v).run P w = .ok (.string ⟨l.toArray⟩) w := by
  obtain ⟨g, cap, rfl⟩ := own_shape hown hv
  refine run_convert_bytes_back w src dst e _ cap l hs he hd fun j hj => ?_
  exact hown.cells (g := g) rfl j _ (by simp [hj, bv])
theorem bdrewN {B : Nat} {w w' : World} (h : Below B w w') (n : Nat) : Below B w (w'.drewN n) := ⟨h.os, h.tape, h.output, h.size, h.block⟩
theorem new_cells_d {w : World} {c : Array Value} {t : TypeId} (n : Nat) (hn : n = w.heap.size) : ∀ (j : Nat) (u : Value), c.toList[j]? = some u → (w.alloc (.cells c t)).drew.cell? ((⟨n, 0, none⟩ : Addr).add j) = some u := new_cells n hn
theorem next_at {P : Program} (w : World) (k : Nat) (f : List UInt8) (pos : Nat) (ty : TypeId) (c : UInt8) (hit : w.heap[k]? = some (.stringIter ⟨f.toArray⟩ pos)) (hlt : pos < f.length) (hc : f.getD pos 0 = c) (hc2 : c.toNat < 128) :
    (Instr.next (.pointer (some ⟨k, 0, none⟩)) true ty).run P w = .ok (.tuple #[.bool true, .int .i64 pos, .int .i32 c.toNat]) (w.iterAt k ⟨f.toArray⟩ (pos + 1)) := by
  have hlt' : pos < (ByteArray.mk f.toArray).size := by simpa [ByteArray.size] using hlt
  have e : (ByteArray.mk f.toArray)[pos]'hlt' = c := by rw [← hc]; simp [List.getD, hlt]; rfl
  rw [Lib.run_next_ascii_at w k _ pos ty hit hlt' (by rw [e]; exact hc2), e]
theorem next_end {P : Program} (w : World) (k : Nat) (f : List UInt8) (pos : Nat) (ty : TypeId) (hit : w.heap[k]? = some (.stringIter ⟨f.toArray⟩ pos)) (hlt : ¬ pos < f.length) :
    (Instr.next (.pointer (some ⟨k, 0, none⟩)) true ty).run P w = .ok (.tuple #[.bool false]) w :=
  Lib.run_next_end_at w k _ pos ty hit (by simpa [ByteArray.size] using hlt)
theorem iterPos_of {w : World} {k : Nat} {s : ByteArray} {pos : Nat} (h : w.heap[k]? = some (.stringIter s pos)) : w.iterPos k = pos := by simp [World.iterPos, h]

end Go.Proofs.Ytdeomphilggokaa
