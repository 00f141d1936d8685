/-
  Proved: kf facts on worlds (a block behind a store, behind growth elsewhere); what a type is, in plain Lean; how one stands in memory; which may be, which are alike; append onto a row of one's own, the two slices' types having different names, whatever the source; how the program's printer stands in memory, and what stands while it prints; the contract of its put; what the lexer computes, in plain Lean: gaps, names, numbers, strings, signs, tokens; that each step goes on; what the reader computes, in plain Lean: trees, places, faults; in which lists of words and signs the words and signs stand; how the program's reader stands in memory; the contract of its now; the steps of what the lexer computes, and that each goes on; what is quoted is read back, in plain Lean; nothing by itself: the grammar of what is read and written: a category, the levels that it takes, the trees, the words; what stands while the program's printer prints, in one bundle; calls of function values; the contracts of its put, round and list over it. Conditions: the printer as it stands in memory; the reader as it stands in memory.
-/
import Derived.Test.YthehjeeiodbkjaaGreatDoorProg
import Derived.Test.YthehjeeiodbkjaaGreatDoorChecked
import Derived.WalkKit
import Derived.ProofKit
import Derived.WalkSpells
import Derived.WalkLawsBesides
import Derived.Deep.QuietTactic
import Derived.BigQuiet
import Derived.Lib.Hide
import Derived.Handy
import Derived.Lib.OthersKept
import Derived.OwnWalk
import Derived.Maps.AppendAt
import Derived.Deep.DeepCutAuto
import Derived.Deep.CutBlock
import Derived.Deep.RegionLaw
import Derived.Deep.AppendLies
import Derived.Deep.RegionHeld3
import Derived.BigRegion
import Derived.RowKit
import Derived.StillTailTactics
import Derived.Lib.LaidTab
import Derived.Shelf.Strconv.Itoa3
import Derived.Lib.Hide
set_option linter.unusedSimpArgs false
set_option linter.unusedVariables false
set_option linter.unusedSectionVars false
set_option maxRecDepth 100000
set_option maxHeartbeats 16000000
namespace Go.Proofs.YthehjeeiodbkjaaGreatDoor
open Go.RowKit
theorem lh {p : Prop} (h : p) : RowKit.Hid p := Lib.hid h
theorem jy {w : World} {p : Nat} {c : Array Value} {t : TypeId} {f : Nat × Nat} (h : w.heap[p]? = some (.cells c t f)) (i : Nat) (u : Value) :
 (w.setCell ⟨p, i, none⟩ u).heap[p]? = some (.cells (c.setIfInBounds i u) t f) := by
 have hlt := lt_of_block h;have h' : w.heap[p] = .cells c t f := by simpa [Array.getElem?_eq_getElem hlt] using h
 show (w.heap.modify p _)[p]? = _
 rw [Array.getElem?_eq_getElem (by simpa using hlt), Array.getElem_modify_self, h'];rfl
theorem jg {w : World} {p q : Nat} {o : Option Obj} (h : w.heap[p]? = o) (hne : p ≠ q) (i : Nat) (u : Value) : (w.setCell ⟨q, i, none⟩ u).heap[p]? = o := by
 rw [Below.heap_setCell _ _ _ _ hne]; exact h
theorem js {w : World} {p : Nat} {x : Obj} (h : w.heap[p]? = some x) (o : Obj) : (w.alloc o).heap[p]? = some x := by
 rw [Below.heap_alloc _ _ _ (lt_of_block h)]; exact h
theorem kL {w w' : World} {p : Nat} {x : Obj} {row : Option Nat} (h : w.heap[p]? = some x) (hg : w.grownBy w' row) (hne : row ≠ some p) : w'.heap[p]? = some x := by
 rw [hg.block p (lt_of_block h) (fun e => hne e.symm)]; exact h
theorem jo {w w' : World} {p B : Nat} {x : Obj} (h : w.heap[p]? = some x) (hb : Below B w w') (hp : p < B) : w'.heap[p]? = some x := by
 rw [hb.block p hp]; exact h
theorem ja {w : World} {p : Nat} {c : Array Value} {t : TypeId} {f : Nat × Nat} (h : w.heap[p]? = some (.cells c t f)) (i : Nat) : w.cell? ⟨p, i, none⟩ = c[i]? := by simp [World.cell?, h]
theorem jd {w : World} {p : Nat} {c : Array Value} {t : TypeId} (h : w.heap[p]? = some (.cells c t (0, 0))) (i : Nat) : w.frozen? ⟨p, i, none⟩ = false := by simp [World.frozen?, h]
theorem own_ne {w : World} {p B : Nat} {c : Array Value} {v : Value} {n e t size : Nat} {xs : List Value} {f : Nat × Nat} (hp : w.heap[p]? = some (.cells c t f)) (hown : w.ownsRow B e size v n xs) (ht : t ≠ e) : v.ownBlock ≠ some p := by
 intro h;rcases hown.2 with ⟨rfl, _⟩ | ⟨g, cap, cur, rfl, hb, hg, _⟩
 · simp [Value.ownBlock] at h
 · simp [Value.ownBlock] at h
   subst h;rw [hg] at hp;simp at hp
   exact ht hp.2.1.symm
theorem jT {w : World} {c : Array Value} {t : TypeId} (n : Nat) (hn : n = w.heap.size) : ∀ (j : Nat) (u : Value), c.toList[j]? = some u → (w.alloc (.cells c t)).cell? ((⟨n, 0, none⟩ : Addr).add j) = some u := by
 intro j u h;have hadd : (⟨n, 0, none⟩ : Addr).add j = ⟨n, j, none⟩ := by unfold Addr.add; split <;> simp_all
 rw [hadd, World.cell?_alloc_at _ _ _ _ hn]
 simpa using h
theorem conv_new {P : Program} (w : World) (src dst e : TypeId) (l : List UInt8) (hs : P.underlying src = some (.slice e)) (he : P.underlying e = some (.int .u8)) (hd : P.underlying dst = some .string) (n cap : Nat) (hn : n = w.heap.size) (c : Array Value) (hc : c.toList = l.map fun b => .int .u8 b.toNat) (m : Nat) (hm : m = l.length) :
 (convert src dst (.slice (some ⟨n, 0, none⟩) m cap)).run P (w.alloc (.cells c e)) = .ok (.string ⟨l.toArray⟩) (w.alloc (.cells c e)) := by
 subst hm;refine run_convert_bytes_back _ src dst e _ cap l hs he hd fun j hj => jT n hn j _ ?_
 rw [hc]; simp [hj]
theorem bthen {w w1 w2 : World} (h : Below w.heap.size w w1) (hb : Below w1.heap.size w1 w2) : Below w.heap.size w w2 := h.trans (hb.mono h.size)
theorem jk {w w1 : World} (h : Below w.heap.size w w1) (o : Obj) : Below w.heap.size w (w1.alloc o) := h.alloc h.size o
theorem own_carry {w w' : World} {B : Nat} {v : Value} {n e size : Nat} {xs : List Value} (h : w.ownsRow B e size v n xs) (hc : ∀ (g : Nat) (c : Array Value) (f : Nat × Nat), w.heap[g]? = some (.cells c e f) → w'.heap[g]? = some (.cells c e f)) : w'.ownsRow B e size v n xs := by
 refine ⟨h.1, ?_⟩;rcases h.2 with hn | ⟨g, cap, cur, rfl, hbg, hgg, rest⟩
 · exact .inl hn
 · exact .inr ⟨g, cap, cur, rfl, hbg, hc _ _ _ hgg, rest⟩
theorem iter_cells {w : World} {k : Nat} {s : ByteArray} {pos pos' : Nat} (hk : w.heap[k]? = some (.stringIter s pos)) {g : Nat} {c : Array Value} {e : TypeId} {f : Nat × Nat} (h : w.heap[g]? = some (.cells c e f)) : (w.iterAt k s pos').heap[g]? = some (.cells c e f) := by
 rw [Lib.iterAt_other _ _ _ _ _ (fun e => by subst e; rw [hk] at h; cases h)]; exact h
theorem kj {w : World} {B : Nat} {v : Value} {n e size : Nat} {xs : List Value} (hown : w.ownsRow B e size v n xs) (hn : ¬v = .slice none 0 0) : ∃ g cap, v = .slice (some ⟨g, 0, none⟩) n cap := by
 rcases hown.2 with ⟨rfl, _⟩ | ⟨g, cap, cur, rfl, _⟩
 · exact absurd rfl hn
 · exact ⟨g, cap, rfl⟩
theorem jr {w w1 w2 : World} {row : Option Nat} (h : w.grownBy w1 row) (h2 : w1.grownBy w2 row) : w.grownBy w2 row :=
 ⟨h2.os.trans h.os, h2.tape.trans h.tape, h2.output.trans h.output, Nat.le_trans h.size h2.size, fun k hk hne => (h2.block k (Nat.lt_of_lt_of_le hk h.size) hne).trans (h.block k hk hne)⟩
theorem jX (w : World) (b i : Nat) (v : Value) : w.grownBy (w.setCell ⟨b, i, none⟩ v) (some b) :=
 ⟨rfl, rfl, rfl, by simp [World.setCell], fun k _ hne => Below.heap_setCell _ _ _ _ (fun e => hne (by rw [e]))⟩
theorem gr_far {w W : World} {row : Option Nat} (h : w.grownBy W row) (b i : Nat) (v : Value) (hb : w.heap.size ≤ b) : w.grownBy (W.setCell ⟨b, i, none⟩ v) row :=
 ⟨h.os, h.tape, h.output, by simpa [World.setCell] using h.size, fun k hk hne => (Below.heap_setCell _ _ _ _ (by simp; omega)).trans (h.block k hk hne)⟩
theorem gr_drew (w : World) (n : Nat) (row : Option Nat) : w.grownBy (w.drewN n) row := ⟨rfl, rfl, rfl, Nat.le_refl _, fun _ _ _ => rfl⟩
theorem ji {w w' : World} (hb : Below w.heap.size w w') (row : Option Nat) : w.grownBy w' row := ⟨hb.os, hb.tape, hb.output, hb.size, fun k hk _ => hb.block k hk⟩
theorem own_keep {w w' : World} {B : Nat} {v : Value} {n e size : Nat} {xs : List Value} {row : Option Nat} (h : w.ownsRow B e size v n xs) (hg : w.grownBy w' row) (hq : ∀ q, row = some q → ∃ c t f, w.heap[q]? = some (.cells c t f) ∧ t ≠ e) : w'.ownsRow B e size v n xs := by
 refine own_carry h fun g c f hb => ?_
 have hlt := lt_of_block hb;rw [hg.block g hlt ?_]
 · exact hb
 · intro hr;obtain ⟨c', t, f', hb', ht⟩ := hq g hr.symm;rw [hb] at hb'
   cases hb'
   exact ht rfl
theorem vf {W : World} {B : Nat} {v : Value} {n e size : Nat} {xs : List Value} (h : W.ownsRow B e size v n xs) {b t : Nat} {c : Array Value} {f : Nat × Nat} (hb : W.heap[b]? = some (.cells c t f)) (ht : t ≠ e) (i : Nat) (u : Value) : (W.setCell ⟨b, i, Option.none⟩ u).ownsRow B e size v n xs :=
 own_keep h (jX W b i u) (fun q hq => by cases hq; exact ⟨_, _, _, hb, ht⟩)
abbrev bv (b : UInt8) : Value := .int .u8 b.toNat
theorem conv_own {P : Program} {w : World} {B : Nat} {v : Value} {l : List UInt8} (src dst e : TypeId) (hs : P.underlying src = some (.slice e)) (he : P.underlying e = some (.int .u8)) (hd : P.underlying dst = some .string) (hown : w.ownsRow B e 1 v l.length (l.map bv)) (hv : ¬v = .slice none 0 0) :
 (convert src dst v).run P w = .ok (.string ⟨l.toArray⟩) w := by
 obtain ⟨g, cap, rfl⟩ := kj hown hv;refine run_convert_bytes_back w src dst e _ cap l hs he hd fun j hj => ?_
 exact hown.cells (g := g) rfl j _ (by simp [hj, bv])
theorem bdrewN {B : Nat} {w w' : World} (h : Below B w w') (n : Nat) : Below B w (w'.drewN n) := ⟨h.os, h.tape, h.output, h.size, h.block⟩
theorem next_at {P : Program} (w : World) (k : Nat) (f : List UInt8) (pos : Nat) (ty : TypeId) (c : UInt8) (hit : w.heap[k]? = some (.stringIter ⟨f.toArray⟩ pos)) (hlt : pos < f.length) (hc : f.getD pos 0 = c) (hc2 : c.toNat < 128) :
 (Instr.next (.pointer (some ⟨k, 0, none⟩)) true ty).run P w = .ok (.tuple #[.bool true, .int .i64 pos, .int .i32 c.toNat]) (w.iterAt k ⟨f.toArray⟩ (pos + 1)) := by
 have hlt' : pos < (ByteArray.mk f.toArray).size := by simpa [ByteArray.size] using hlt
 have e : (ByteArray.mk f.toArray)[pos]'hlt' = c := by rw [← hc]; simp [List.getD, hlt]; rfl
 rw [Lib.run_next_ascii_at w k _ pos ty hit hlt' (by rw [e]; exact hc2), e]
theorem next_end {P : Program} (w : World) (k : Nat) (f : List UInt8) (pos : Nat) (ty : TypeId) (hit : w.heap[k]? = some (.stringIter ⟨f.toArray⟩ pos)) (hlt : ¬ pos < f.length) :
 (Instr.next (.pointer (some ⟨k, 0, none⟩)) true ty).run P w = .ok (.tuple #[.bool false]) w :=
 Lib.run_next_end_at w k _ pos ty hit (by simpa [ByteArray.size] using hlt)
theorem iterPos_of {w : World} {k : Nat} {s : ByteArray} {pos : Nat} (h : w.heap[k]? = some (.stringIter s pos)) : w.iterPos k = pos := by simp [World.iterPos, h]
inductive Ty where
 | mk (k n : Int) (s : ByteArray) (q : Int) (args : List Ty)
namespace Ty
def k : Ty → Int | mk k _ _ _ _ => k
def n : Ty → Int | mk _ n _ _ _ => n
def s : Ty → ByteArray | mk _ _ s _ _ => s
def q : Ty → Int | mk _ _ _ q _ => q
def args : Ty → List Ty | mk _ _ _ _ l => l
end Ty
instance : Inhabited Ty := ⟨.mk 0 0 ⟨#[]⟩ 0 []⟩
def jh (t : Ty) (ao : Option Addr) (cap : Nat) : Array Value := #[.int .i64 t.k, .int .i64 t.n, .string t.s, .int .i64 t.q, .slice ao t.args.length cap]
mutual
def TyV (w : World) (D : Nat → Prop) : Ty → List Value → Prop
 | .mk k n s q args, row => ∃ ao cap, row = [.int .i64 k, .int .i64 n, .string s, .int .i64 q, .slice ao args.length cap] ∧ args.length ≤ cap ∧ ArgsV w D args ao 0
def ArgsV (w : World) (D : Nat → Prop) : List Ty → Option Addr → Nat → Prop
 | [], _, _ => True
 | p :: ps, ao, i => (∃ b off row, ao = some ⟨b, off, none⟩ ∧ D b ∧ (∀ j, j < 5 → w.cell? ⟨b, off + i * 5 + j, none⟩ = row[j]?) ∧ TyV w D p row) ∧ ArgsV w D ps ao (i + 1)
end
mutual
theorem TyV.keep {w w' : World} {D : Nat → Prop} (hk : ∀ b, D b → ∀ off, w'.cell? ⟨b, off, none⟩ = w.cell? ⟨b, off, none⟩) : ∀ {p : Ty} {row : List Value}, TyV w D p row → TyV w' D p row
 | .mk k n s q args, row => by
  intro h
  unfold TyV at h ⊢
  obtain ⟨ao, cap, hr, hc, hkv⟩ := h
  exact ⟨ao, cap, hr, hc, ArgsV.keep hk hkv⟩
theorem ArgsV.keep {w w' : World} {D : Nat → Prop} (hk : ∀ b, D b → ∀ off, w'.cell? ⟨b, off, none⟩ = w.cell? ⟨b, off, none⟩) : ∀ {l : List Ty} {ao : Option Addr} {i : Nat}, ArgsV w D l ao i → ArgsV w' D l ao i
 | [], _, _ => fun _ => by unfold ArgsV; trivial
 | p :: ps, ao, i => by
  intro h
  unfold ArgsV at h ⊢
  obtain ⟨⟨b, off, row, ha, hb, hc, hp⟩, ht⟩ := h
  exact ⟨⟨b, off, row, ha, hb, fun j hj => (hk b hb _).trans (hc j hj), TyV.keep hk hp⟩, ArgsV.keep hk ht⟩
end
mutual
theorem TyV.mono {w : World} {D D' : Nat → Prop} (hN : ∀ b, D b → D' b) : ∀ {p : Ty} {row : List Value}, TyV w D p row → TyV w D' p row
 | .mk k n s q args, row => by
  intro h
  unfold TyV at h ⊢
  obtain ⟨ao, cap, hr, hc, hkv⟩ := h
  exact ⟨ao, cap, hr, hc, ArgsV.mono hN hkv⟩
theorem ArgsV.mono {w : World} {D D' : Nat → Prop} (hN : ∀ b, D b → D' b) : ∀ {l : List Ty} {ao : Option Addr} {i : Nat}, ArgsV w D l ao i → ArgsV w D' l ao i
 | [], _, _ => fun _ => by unfold ArgsV; trivial
 | p :: ps, ao, i => by
  intro h
  unfold ArgsV at h ⊢
  obtain ⟨⟨b, off, row, ha, hb, hc, hp⟩, ht⟩ := h
  exact ⟨⟨b, off, row, ha, hN b hb, hc, TyV.mono hN hp⟩, ArgsV.mono hN ht⟩
end
theorem ArgsV.get {w : World} {D : Nat → Prop} : ∀ {l : List Ty} {ao : Option Addr} {i : Nat}, ArgsV w D l ao i → ∀ {k : Nat} (hk : k < l.length), ∃ b off row, ao = some ⟨b, off, none⟩ ∧ D b ∧ (∀ j, j < 5 → w.cell? ⟨b, off + (i + k) * 5 + j, none⟩ = row[j]?) ∧ TyV w D l[k] row
 | p :: ps, ao, i, h, k, hk => by
  unfold ArgsV at h
  obtain ⟨⟨b, off, row, ha, hb, hc, hp⟩, ht⟩ := h
  cases k with
  | zero => exact ⟨b, off, row, ha, hb, hc, hp⟩
  | succ k =>
   have := ArgsV.get ht (k := k) (by simpa using hk)
   rw [show i + 1 + k = i + (k + 1) from by omega] at this
   simpa using this
theorem ArgsV.of {w : World} {D : Nat → Prop} : ∀ {l : List Ty} {ao : Option Addr} {i : Nat}, (∀ k (hk : k < l.length), ∃ b off row, ao = some ⟨b, off, none⟩ ∧ D b ∧ (∀ j, j < 5 → w.cell? ⟨b, off + (i + k) * 5 + j, none⟩ = row[j]?) ∧ TyV w D l[k] row) → ArgsV w D l ao i
 | [], _, _ => fun _ => by unfold ArgsV; trivial
 | p :: ps, ao, i => by
  intro h
  unfold ArgsV
  refine ⟨h 0 (by simp), ArgsV.of fun k hk => ?_⟩
  have := h (k + 1) (by simpa using hk)
  rw [show i + (k + 1) = i + 1 + k from by omega] at this
  simpa using this
def SlD (w : World) (D : Nat → Prop) (l : List Ty) (ao : Option Addr) (cap : Nat) : Prop := l.length ≤ cap ∧ ArgsV w D l ao 0
theorem SlD.keep {w w' : World} {D : Nat → Prop} {l : List Ty} {ao : Option Addr} {cap : Nat} (h : SlD w D l ao cap) (hk : ∀ b, D b → ∀ off, w'.cell? ⟨b, off, none⟩ = w.cell? ⟨b, off, none⟩) : SlD w' D l ao cap := ⟨h.1, h.2.keep hk⟩
theorem SlD.mono {w : World} {D D' : Nat → Prop} {l : List Ty} {ao : Option Addr} {cap : Nat} (h : SlD w D l ao cap) (hN : ∀ b, D b → D' b) : SlD w D' l ao cap := ⟨h.1, h.2.mono hN⟩
theorem TyV.row {w : World} {D : Nat → Prop} {p : Ty} {row : List Value} (h : TyV w D p row) : ∃ ao cap, row = (jh p ao cap).toList ∧ SlD w D p.args ao cap := by
 cases p
 unfold TyV at h;obtain ⟨ao, cap, hr, hc, hk⟩ := h;exact ⟨ao, cap, hr, hc, hk⟩
theorem TyV.mk' {w : World} {D : Nat → Prop} {p : Ty} {ao : Option Addr} {cap : Nat} (h : SlD w D p.args ao cap) : TyV w D p (jh p ao cap).toList := by
 cases p
 unfold TyV;exact ⟨ao, cap, rfl, h.1, h.2⟩
theorem below_cells {N : Nat} {w w' : World} (h : Below N w w') : ∀ b, b < N → ∀ off, w'.cell? ⟨b, off, none⟩ = w.cell? ⟨b, off, none⟩ := fun b hb off => h.cell (p := ⟨b, off, none⟩) hb
theorem index_at {P : Program} {t e : TypeId} {sz : Nat} (ht : P.underlying t = some (.slice e)) (hs : ∀ w : World, (sizeOf e).run P w = .ok sz w) {ao : Option Addr} {b off : Nat} (ha : ao = some ⟨b, off, none⟩) (n cp k : Nat) (hk : k < n) (w : World) :
 (Instr.indexAt t (.slice ao n cp) (.int .i64 k)).run P w = .ok (.pointer (some ⟨b, off + k * sz, none⟩)) w := by
 subst ha;have he : P.elem t = e := by simp [Program.elem, ht]
 rw [run_indexAt_slice (h := by rw [he]; exact ht), if_pos (by omega), he, hs];simp [Result.andThen, Addr.add_lit]
theorem size26 (w : World) : (sizeOf 26).run Tryz.prog w = .ok 5 w := by kernel_rfl
theorem arg_cells {w : World} {D : Nat → Prop} {l : List Ty} {ao : Option Addr} {cap : Nat} (h : SlD w D l ao cap) {j : Nat} (hj : j < l.length) : ∃ b p ap cp, D b ∧ (∀ w' : World, (Instr.indexAt 24 (.slice ao l.length cap) (.int .i64 j)).run Tryz.prog w' = .ok (.pointer (some ⟨b, p, none⟩)) w') ∧
 w.cell? ⟨b, p, none⟩ = some (.int .i64 l[j].k) ∧ w.cell? ⟨b, p + 1, none⟩ = some (.int .i64 l[j].n) ∧ w.cell? ⟨b, p + 2, none⟩ = some (.string l[j].s) ∧ w.cell? ⟨b, p + 3, none⟩ = some (.int .i64 l[j].q) ∧ w.cell? ⟨b, p + 4, none⟩ = some (.slice ap l[j].args.length cp) ∧ SlD w D l[j].args ap cp := by
 obtain ⟨b, off, row, ha, hD, hrow, hp⟩ := h.2.get hj;obtain ⟨ap, cp, rfl, hs⟩ := hp.row;rw [Nat.zero_add] at hrow;exact ⟨b, off + j * 5, ap, cp, hD, fun w' => index_at Tryz.underlying24 size26 ha l.length cap j hj w', hrow 0 (by omega), hrow 1 (by omega), hrow 2 (by omega), hrow 3 (by omega), hrow 4 (by omega), hs⟩
theorem run_append_types {P : Program} {t u ty e e2 : TypeId} {i : TypeInfo} (ht : P.underlying t = some (.slice e)) (hu : P.underlying u = some (.slice e2)) (hi : P.info? e = some i) (v x : Value) (w : World) :
 (Builtin.append_ #[t, u] ty #[v, x]).run P w = (Builtin.append_ #[t, t] ty #[v, x]).run P w := by
 unfold Builtin.append_;simp only [List.getElem?_toArray, List.getElem?_cons_zero, List.getElem?_cons_succ, Sem.run_bind, run_underlying ht, run_underlying hu, Result.andThen_ok];split
 · simp only [sizeOf, typeInfo, hi, Sem.run_bind, run_underlying ht, run_underlying hu, Result.andThen_ok]
 · rfl
theorem vd {P : Program} {w : World} (base : Nat) (t ty e : TypeId) (i : TypeInfo) (size : Nat) (ht : P.underlying t = some (.slice e)) (hi : P.info? e = some i)
 (v : Value) (n : Nat) (xs : List Value) (hown : w.ownsRow base e size v n xs) (ao : Option Addr) (c : Nat) :
 (Builtin.append_ #[t, t] ty #[v, .slice ao 0 c]).run P w = .ok v w := by
 have hf : (Builtin.firstCells i.size 0 (.slice ao 0 c)).run P w = .ok #[] w := by
  cases ao with
  | none => rfl
  | some a => simp [Builtin.firstCells, loadCells, loadCellsFrom]
 rcases hown.2 with ⟨rfl, rfl⟩ | ⟨g, cap, cur, rfl, _, _, hnc, _⟩
 · simp [Builtin.append_, run_underlying ht, sizeOf, typeInfo, hi, Builtin.lenOf, hf]
 · simp [Builtin.append_, run_underlying ht, sizeOf, typeInfo, hi, Builtin.lenOf, hf, hnc, storeCells]
theorem wpList_append3 {P : Program} {w : World} {ops : Array Oper} {rest : List Oper} {o : Oper} {a : Act} {Q : Exit → Act → World → Prop} (hgd : o.guard = none) (s x : Operand) (t u : TypeId)
 (ho : o.op = .call { callee := .builtin .append, args := #[s, x], argTypes := #[t, u] })
 (base : Nat) (e e2 : TypeId) (i : TypeInfo) (z : Value) (size bytes : Nat) (ht : P.underlying t = some (.slice e)) (hu : P.underlying u = some (.slice e2)) (hi : P.info? e = some i) (hz : i.zero = some z)
 (hsize : i.size = size) (hby : i.bytes = bytes) (hzs : z.cells.size = size) (hsz : 0 < size)
 (v : Value) (n : Nat) (xs : List Value) (hs : a.eval s = v) (hown : w.ownsRow base e size v n xs)
 (ao : Option Addr) (m c : Nat) (news : List Value) (hx : a.eval x = .slice ao m c) (hl : news.length = m * size) (hnews : 0 < m → ∃ ad, ao = some ad ∧ ∀ j u, news[j]? = some u → w.cell? (ad.add j) = some u) (h1 : ∀ u ∈ news, u.oneCell' = true)
 (h63 : n + m ≤ maxLen) (hbytes : (n + m) * bytes ≤ 140737488355328) (hbase : base ≤ w.heap.size)
 (h : ∀ v' w', w'.ownsRow base e size v' (n + m) (xs ++ news) → w.grownBy w' v.ownBlock → (v'.ownBlock = v.ownBlock ∨ v'.ownBlock = some w.heap.size) → wpList P ops Q rest (a.put o.dst v') w') : wpList P ops Q (o :: rest) a w := by
 refine wpList_plain hgd fun K hK => ?_
 have hrun : ∃ v' w', (Builtin.append_ #[t, u] o.type #[v, .slice ao m c]).run P w = .ok v' w' ∧ w'.ownsRow base e size v' (n + m) (xs ++ news) ∧ w.grownBy w' v.ownBlock ∧ (v'.ownBlock = v.ownBlock ∨ v'.ownBlock = some w.heap.size) := by
  rw [run_append_types ht hu hi]
  by_cases hm : m = 0
  · subst hm;have hn : news = [] := List.eq_nil_of_length_eq_zero (by simpa using hl);subst hn;exact ⟨v, w, vd base t o.type e i size ht hi v n xs hown ao c, by simpa using hown, World.grownBy.refl _ _, .inl rfl⟩
  · obtain ⟨ad, rfl, hc⟩ := hnews (by omega);obtain ⟨v', w', hr, h2, h3, _, h4⟩ := run_append_own_at (P := P) w base t o.type e i z size bytes ht hi hz hsize hby hzs hsz v n xs hown ad m c news hl hc h1 h63 hbytes hbase;exact ⟨v', w', hr, h2, h3, h4⟩
 obtain ⟨v', w', hr, h2, h3, h4⟩ := hrun;unfold Oper.wp execOp;simp only [ho, resolve, invoke, builtin, Sem.run_bind, Sem.run_pure, Result.andThen_ok, List.map_toArray, List.map_cons, List.map_nil, hs, hx, hr];exact hK _ _ (h v' w' h2 h3 h4)
structure PS (B pb : Nat) (l : List ByteArray) (v : Value) (w : World) : Prop where
 row : w.heap[pb]? = some (.cells #[v] 46 (0, 0))
 own : w.ownsRow B 9 1 v l.length (l.map Value.string)
 low : B ≤ pb
 top : B ≤ w.heap.size
structure FrP (pb : Nat) (v : Value) (w : World) (v' : Value) (w' : World) : Prop where
 os : w'.os = w.os
 tape : w'.tape = w.tape
 output : w'.output = w.output
 size : w.heap.size ≤ w'.heap.size
 block : ∀ b, b < w.heap.size → b ≠ pb → v.ownBlock ≠ some b → w'.heap[b]? = w.heap[b]?
 lies : ∀ g, v'.ownBlock = some g → v.ownBlock = some g ∨ w.heap.size ≤ g
theorem FrP.refl (pb : Nat) (v : Value) (w : World) : FrP pb v w v w := ⟨rfl, rfl, rfl, Nat.le_refl _, fun _ _ _ _ => rfl, fun _ h => .inl h⟩
theorem FrP.trans {pb : Nat} {v v1 v2 : Value} {w w1 w2 : World} (h : FrP pb v w v1 w1) (h2 : FrP pb v1 w1 v2 w2) : FrP pb v w v2 w2 :=
 ⟨h2.os.trans h.os, h2.tape.trans h.tape, h2.output.trans h.output, Nat.le_trans h.size h2.size, fun b hb hp hv => (h2.block b (Nat.lt_of_lt_of_le hb h.size) hp fun e => (h.lies b e).elim hv fun h3 => by omega).trans (h.block b hb hp hv), fun g hg => (h2.lies g hg).elim (fun h3 => h.lies g h3) fun h3 => .inr (Nat.le_trans h.size h3)⟩
theorem FrP.below {pb : Nat} {v : Value} {w w' : World} (h : Below w.heap.size w w') : FrP pb v w v w' := ⟨h.os, h.tape, h.output, h.size, fun b hb _ _ => h.block b hb, fun _ h => .inl h⟩
theorem PS.lt {B pb : Nat} {l : List ByteArray} {v : Value} {w : World} (h : PS B pb l v w) : pb < w.heap.size := lt_of_block h.row
theorem PS.ne {B pb : Nat} {l : List ByteArray} {v : Value} {w : World} (h : PS B pb l v w) : v.ownBlock ≠ some pb := own_ne h.row h.own (by decide)
theorem PS.below {B pb : Nat} {l : List ByteArray} {v : Value} {w w' : World} (h : PS B pb l v w) (hb : Below w.heap.size w w') : PS B pb l v w' :=
 ⟨jo h.row hb h.lt, h.own.kept (ji hb (some w.heap.size)) (.inr fun e => by have := (h.own.lt _ e).2; omega), h.low, Nat.le_trans h.top hb.size⟩
def Put (B pb : Nat) (v : Value) (w : World) (l : List ByteArray) (e : Ending) (w' : World) : Prop := e = .returned (.tuple #[]) ∧ ∃ v', PS B pb l v' w' ∧ FrP pb v w v' w'
abbrev pp (pb : Nat) : Value := .pointer (some ⟨pb, 0, none⟩)
theorem info9q : (Tryz.prog.info? 9).map (fun i => (i.zero, i.size, i.bytes)) = some (some (.string ⟨#[]⟩), 1, 16) := by kernel_rfl
theorem put_any (B pb : Nat) (l : List ByteArray) (v : Value) (w : World) (h : PS B pb l v w) (ws : List ByteArray) (g o c m : Nat) (hm : m = ws.length) (h0 : 0 < m) (hc : ∀ j u, (ws.map Value.string)[j]? = some u → w.cell? ((⟨g, o, none⟩ : Addr).add j) = some u) (hn : l.length + ws.length ≤ 4000000000) :
 Calls Tryz.prog 85 #[pp pb, .slice (some ⟨g, o, none⟩) m c] w (Put B pb v w (l ++ ws)) := by
 obtain ⟨i, hi, hz0, hz1, hz2⟩ := info_parts info9q;have hlen : (ws.map Value.string).length = m := by rw [List.length_map, hm]
 have c0 : w.cell? ⟨pb, 0, none⟩ = some v := ja h.row 0;have HI := lh hi;have H := lh h;have HC := lh hc;have HL := lh hlen;have HM := lh hm;have hb := h.top;clear hi h hc hlen hm;go_enter Tryz.func85, Tryz.ntmps85
 go_wp2_with (at_builtin; go_must (refine wpList_append_lies _ (by rfl) _ _ _ (by rfl) B 9 i _ 1 16 Tryz.underlying44 HI.out hz0 hz1 hz2 rfl (by omega) v l.length (l.map Value.string) (by rfl) H.out.own ⟨g, o, none⟩ m c (ws.map Value.string) (by rfl) (by rw [HL.out]; omega) HC.out (by simp [Value.oneCell']) h0 (by have := HM.out; unfold maxLen; omega) (by have := HM.out; omega) hb w.heap.size (by rfl) ?_); intro gg cap w1 hown1 hgrow hat hlt1; have hp1 := kL H.out.row hgrow H.out.ne; have c0' : w1.cell? ⟨pb, 0, none⟩ = some v := ja hp1 0; have f0' := jd hp1 0; have HW := lh hown1; have HG := lh hgrow; have HA := lh hat; have HP := lh hp1; clear hown1 hgrow hat hp1)
 go_end0
 have hs : Below (w1.heap.size) w1 w1 := Below.refl _ _;have hG := HG.out;have hA := HA.out;refine ⟨rfl, .slice (some ⟨gg, 0, none⟩) (l.length + m) cap, ⟨jy HP.out 0 _, ?_, H.out.low, ?_⟩, hG.os, hG.tape, hG.output, ?_, fun b hb hp hv => ?_, fun g1 hg1 => ?_⟩
 · rw [List.length_append, List.map_append, ← HM.out];exact vf HW.out HP.out (by decide) _ _
 · show B ≤ (w1.heap.modify _ _).size
   rw [Array.size_modify]; exact Nat.le_trans H.out.top hG.size
 · show _ ≤ (w1.heap.modify _ _).size
   rw [Array.size_modify]; exact hG.size
 · rw [Below.heap_setCell _ _ _ _ hp];exact hG.block b hb fun e => hv e.symm
 · cases hg1
   exact hA.imp id fun e => by rw [e]; exact Nat.le_refl _
def bt (s : ByteArray) (k : Nat) : Nat := (s.data.toList.getD k 0).toNat
def cut (s : ByteArray) (i j : Nat) : ByteArray := s.extract i j
theorem bt_lt (s : ByteArray) (k : Nat) : bt s k < 256 := UInt8.toNat_lt _
theorem kQ (s : ByteArray) (k : Nat) (h : k < s.size) : (s[k]'h).toNat = bt s k := by
 have h2 : k < s.data.toList.length := by rw [Array.length_toList]; exact h
 unfold bt;rw [List.getD_eq_getElem?_getD, List.getElem?_eq_getElem h2];rfl
def dig (c : Nat) : Bool := decide (48 ≤ c ∧ c ≤ 57)
def kf (c : Nat) : Bool := decide (97 ≤ c ∧ c ≤ 122)
def kB (c : Nat) : Bool := decide (65 ≤ c ∧ c ≤ 90)
def jB (c : Nat) : Bool := dig c || kf c || kB c || decide (c = 95) || decide (c = 39)
def qn (c : Nat) : Bool := decide (c = 32 ∨ c = 9 ∨ c = 10)
def signL : List Nat := [40, 41, 91, 93, 44, 59, 58, 124, 61, 60, 62, 43, 45, 42, 47, 37, 94, 126, 33, 46]
def pairL : List (Nat × Nat) := [(61, 62), (45, 62), (58, 61), (58, 58), (58, 62), (60, 62), (60, 61), (62, 61)]
def srt (c : Nat) : Nat :=
 if dig c then 2 else if kf c || decide (c = 95) then 3 else if kB c then 4 else if c = 39 then 5 else if c ∈ signL then 6 else if c = 34 then 7 else if qn c then 1 else 0
def okB (c : Nat) : Bool := decide (c = 9 ∨ c = 10 ∨ (32 ≤ c ∧ c ≤ 126))
def badD (s : ByteArray) (i : Nat) : Option Nat :=
 if _h : i < s.size then if okB (bt s i) then badD s (i + 1) else some i else none
termination_by s.size - i
def whD (s : ByteArray) (p : Nat → Bool) (i : Nat) : Nat :=
 if _h : i < s.size then if p (bt s i) then whD s p (i + 1) else i else i
termination_by s.size - i
def qf (s : ByteArray) (i a b : Nat) : Bool := decide (i + 2 ≤ s.size ∧ bt s i = a ∧ bt s (i + 1) = b)
def comD (s : ByteArray) (i o : Nat) : Option Nat :=
 if _h : i < s.size then
  if qf s i 40 42 then comD s (i + 2) (o + 1)
  else if qf s i 42 41 then (if o = 1 then some (i + 2) else comD s (i + 2) (o - 1))
  else (if o = 0 then some (i + 1) else comD s (i + 1) o)
 else none
termination_by s.size - i
def gapD (s : ByteArray) (i : Nat) : Nat × Bool :=
 if _h : i < s.size then
  if qf s i 40 42 then
   match comD s i 0 with
   | some j => if _h2 : i < j then gapD s j else (i, false)
   | none => (i, false)
  else if qn (bt s i) then gapD s (i + 1)
  else (i, true)
 else (i, true)
termination_by s.size - i
def escD (s : ByteArray) (i : Nat) : Option (Nat × Nat) :=
 if i < s.size then
  if bt s i = 110 then some (10, i + 1)
  else if bt s i = 116 then some (9, i + 1)
  else if bt s i = 92 ∨ bt s i = 34 then some (bt s i, i + 1)
  else if i + 2 < s.size ∧ dig (bt s i) ∧ dig (bt s (i + 1)) ∧ dig (bt s (i + 2)) then
   (if 100 * (bt s i - 48) + 10 * (bt s (i + 1) - 48) + (bt s (i + 2) - 48) < 256 then some (100 * (bt s i - 48) + 10 * (bt s (i + 1) - 48) + (bt s (i + 2) - 48), i + 3) else none)
  else none
 else none
theorem escD_lt {s : ByteArray} {i v j : Nat} (h : escD s i = some (v, j)) : i < j ∧ j ≤ s.size ∧ v < 256 := by
 have hb := bt_lt s i;unfold escD at h
 repeat' split at h
 all_goals first | (cases h; done) | (simp only [Option.some.injEq, Prod.mk.injEq] at h; obtain ⟨rfl, rfl⟩ := h; omega)
def textD (s : ByteArray) (i : Nat) (l : List UInt8) : Option (List UInt8 × Nat) :=
 if _h : i < s.size then
  if bt s i = 34 then (if l.length ≤ 200 then some (l, i + 1) else none)
  else if bt s i < 32 then none
  else if bt s i = 92 then
   match _he : escD s (i + 1) with
   | some (v, j) => if _h2 : i < j then textD s j (l ++ [UInt8.ofNat v]) else none
   | none => none
  else textD s (i + 1) (l ++ [UInt8.ofNat (bt s i)])
 else none
termination_by s.size - i
def numD (s : ByteArray) (i n : Nat) : Nat × Nat :=
 if _h : i < s.size then if dig (bt s i) then numD s (i + 1) (min (10 * n + (bt s i - 48)) 1000000001) else (n, i) else (n, i)
termination_by s.size - i
def varD (s : ByteArray) (f i : Nat) : Nat :=
 if _h : i < s.size then if kf (bt s i) || (decide (f < i) && dig (bt s i)) then varD s f (i + 1) else i else i
termination_by s.size - i
abbrev Tok := Nat × Nat × ByteArray × Nat
def wordL : List String := ["and", "andalso", "as", "case", "data", "else", "end", "exception", "false", "fn", "fun", "if", "in", "let", "of", "open", "orelse", "raise", "sig", "signature", "struct", "structure", "then", "true", "try", "type", "val", "with"]
def qM (t : ByteArray) : Bool := wordL.any fun w => decide (w.toUTF8 = t)
def tokD (s : ByteArray) (i : Nat) : Option (Tok × Nat) :=
 if dig (bt s i) then
  (if (numD s i 0).1 ≤ 1000000000 then some ((1, i, ByteArray.empty, (numD s i 0).1), (numD s i 0).2) else none)
 else if bt s i = 34 then
  match textD s (i + 1) [] with
  | some (b, j) => some ((2, i, ⟨b.toArray⟩, 0), j)
  | none => none
 else if bt s i = 39 then
  let f := if hasQ s (i + 1) then i + 2 else i + 1
  let j := varD s f f
  if f < j ∧ j - f ≤ 20 then some ((5, i, cut s i j, 0), j) else none
 else if kf (bt s i) || kB (bt s i) || decide (bt s i = 95) then
  let j := whD s jB i
  let t := cut s i j
  if j - i ≤ 20 then some ((if t = ⟨#[95]⟩ then 7 else if qM t then 6 else if kB (bt s i) then 4 else 3, i, t, 0), j) else none
 else if i + 2 ≤ s.size ∧ (bt s i, bt s (i + 1)) ∈ pairL then some ((7, i, cut s i (i + 2), 0), i + 2)
 else if bt s i ∈ signL then some ((7, i, cut s i (i + 1), 0), i + 1)
 else none
where hasQ (s : ByteArray) (i : Nat) : Bool := decide (i < s.size ∧ bt s i = 39)
def qc (s : ByteArray) (i : Nat) (l : List Tok) : List Tok × (Nat × Nat) :=
 match gapD s i with
 | (j, false) => (l, (3, j))
 | (j, true) =>
  if j = s.size then (l ++ [(0, j, ByteArray.empty, 0)], (0, 0))
  else match tokD s j with
   | none => (l, (3, j))
   | some (t, k) => if _h : i < k ∧ k ≤ s.size then qc s k (l ++ [t]) else (l, (3, j))
termination_by s.size - i
def jH (s : ByteArray) : List Tok × (Nat × Nat) :=
 if 4000 < s.size then ([], (1, 0)) else match badD s 0 with | some i => ([], (2, i)) | none => qc s 0 []
abbrev w_and : ByteArray := ⟨#[97, 110, 100]⟩
abbrev w_andalso : ByteArray := ⟨#[97, 110, 100, 97, 108, 115, 111]⟩
abbrev w_as : ByteArray := ⟨#[97, 115]⟩
abbrev w_case : ByteArray := ⟨#[99, 97, 115, 101]⟩
abbrev w_data : ByteArray := ⟨#[100, 97, 116, 97]⟩
abbrev w_else : ByteArray := ⟨#[101, 108, 115, 101]⟩
abbrev w_end : ByteArray := ⟨#[101, 110, 100]⟩
abbrev w_exception : ByteArray := ⟨#[101, 120, 99, 101, 112, 116, 105, 111, 110]⟩
abbrev w_false : ByteArray := ⟨#[102, 97, 108, 115, 101]⟩
abbrev w_fn : ByteArray := ⟨#[102, 110]⟩
abbrev w_fun : ByteArray := ⟨#[102, 117, 110]⟩
abbrev w_if : ByteArray := ⟨#[105, 102]⟩
abbrev w_in : ByteArray := ⟨#[105, 110]⟩
abbrev w_let : ByteArray := ⟨#[108, 101, 116]⟩
abbrev w_of : ByteArray := ⟨#[111, 102]⟩
abbrev w_open : ByteArray := ⟨#[111, 112, 101, 110]⟩
abbrev w_orelse : ByteArray := ⟨#[111, 114, 101, 108, 115, 101]⟩
abbrev w_raise : ByteArray := ⟨#[114, 97, 105, 115, 101]⟩
abbrev w_sig : ByteArray := ⟨#[115, 105, 103]⟩
abbrev w_signature : ByteArray := ⟨#[115, 105, 103, 110, 97, 116, 117, 114, 101]⟩
abbrev w_struct : ByteArray := ⟨#[115, 116, 114, 117, 99, 116]⟩
abbrev w_structure : ByteArray := ⟨#[115, 116, 114, 117, 99, 116, 117, 114, 101]⟩
abbrev w_then : ByteArray := ⟨#[116, 104, 101, 110]⟩
abbrev w_true : ByteArray := ⟨#[116, 114, 117, 101]⟩
abbrev w_try : ByteArray := ⟨#[116, 114, 121]⟩
abbrev w_type : ByteArray := ⟨#[116, 121, 112, 101]⟩
abbrev w_val : ByteArray := ⟨#[118, 97, 108]⟩
abbrev w_with : ByteArray := ⟨#[119, 105, 116, 104]⟩
abbrev s_lp : ByteArray := ⟨#[40]⟩
abbrev s_rp : ByteArray := ⟨#[41]⟩
abbrev s_lb : ByteArray := ⟨#[91]⟩
abbrev s_rb : ByteArray := ⟨#[93]⟩
abbrev s_com : ByteArray := ⟨#[44]⟩
abbrev s_sem : ByteArray := ⟨#[59]⟩
abbrev s_col : ByteArray := ⟨#[58]⟩
abbrev s_bar : ByteArray := ⟨#[124]⟩
abbrev s_eq : ByteArray := ⟨#[61]⟩
abbrev s_lt : ByteArray := ⟨#[60]⟩
abbrev s_gt : ByteArray := ⟨#[62]⟩
abbrev s_pl : ByteArray := ⟨#[43]⟩
abbrev s_mi : ByteArray := ⟨#[45]⟩
abbrev s_st : ByteArray := ⟨#[42]⟩
abbrev s_sl : ByteArray := ⟨#[47]⟩
abbrev s_pc : ByteArray := ⟨#[37]⟩
abbrev s_ca : ByteArray := ⟨#[94]⟩
abbrev s_ti : ByteArray := ⟨#[126]⟩
abbrev s_ex : ByteArray := ⟨#[33]⟩
abbrev s_dot : ByteArray := ⟨#[46]⟩
abbrev s_arr : ByteArray := ⟨#[61, 62]⟩
abbrev s_to : ByteArray := ⟨#[45, 62]⟩
abbrev s_asg : ByteArray := ⟨#[58, 61]⟩
abbrev s_cons : ByteArray := ⟨#[58, 58]⟩
abbrev s_opq : ByteArray := ⟨#[58, 62]⟩
abbrev s_ne : ByteArray := ⟨#[60, 62]⟩
abbrev s_le : ByteArray := ⟨#[60, 61]⟩
abbrev s_ge : ByteArray := ⟨#[62, 61]⟩
abbrev s_us : ByteArray := ⟨#[95]⟩
def kO : List ByteArray := [w_and, w_andalso, w_as, w_case, w_data, w_else, w_end, w_exception, w_false, w_fn, w_fun, w_if, w_in, w_let, w_of, w_open, w_orelse, w_raise, w_sig, w_signature, w_struct, w_structure, w_then, w_true, w_try, w_type, w_val, w_with]
def signsA : List ByteArray := [s_lp, s_rp, s_lb, s_rb, s_com, s_sem, s_col, s_bar, s_eq, s_lt, s_gt, s_pl, s_mi, s_st, s_sl, s_pc, s_ca, s_ti, s_ex, s_dot, s_arr, s_to, s_asg, s_cons, s_opq, s_ne, s_le, s_ge, s_us]
structure Src where
 toks : List Tok
 fk : Nat
 fa : Nat
namespace Src
def K (P : Src) (i : Nat) : Int := match P.toks[i]? with
 | some t => (t.1 : Int)
 | none => -1
def A (P : Src) (i : Nat) : Nat := match P.toks[i]? with
 | some t => t.2.1
 | none => P.fa
def T (P : Src) (i : Nat) : ByteArray := match P.toks[i]? with
 | some t => t.2.2.1
 | none => ⟨#[]⟩
def N (P : Src) (i : Nat) : Nat := match P.toks[i]? with
 | some t => t.2.2.2
 | none => 0
end Src
inductive Res (α : Type) where
 | bad (k a : Nat)
 | ok (x : α) (i : Nat)
abbrev M (α : Type) := Nat → Res α
def ret {α : Type} (x : α) : M α := fun i => .ok x i
def bnd {α β : Type} (m : M α) (g : α → M β) : M β := fun i => match m i with
 | .bad k a => .bad k a
 | .ok x j => g x j
instance : Monad M where
 pure := ret
 bind := bnd
theorem kq {α β : Type} {m : M α} {g : α → M β} {i j : Nat} {x : α} (h : m i = .ok x j) : (m >>= g) i = g x j := by show bnd m g i = _; rw [bnd, h]
theorem ke {α β : Type} {m : M α} {g : α → M β} {i k a : Nat} (h : m i = .bad k a) : (m >>= g) i = .bad k a := by show bnd m g i = _; rw [bnd, h]
section
variable (P : Src)
def jE {α : Type} (e : Nat) : M α := fun i => if P.K i = -1 then .bad P.fk P.fa else .bad e (P.A i)
def isD (s : ByteArray) (i : Nat) : Bool := decide (P.K i = 6 ∨ P.K i = 7) && decide (P.T i = s)
def jK (l : List ByteArray) (i : Nat) : Bool := decide (P.K i = 6 ∨ P.K i = 7) && l.any fun s => decide (P.T i = s)
def kn (s : ByteArray) : M Bool := fun i => if isD P s i then .ok true (i + 1) else .ok false i
def jm (s : ByteArray) : M Unit := fun i => if isD P s i then .ok () (i + 1) else jE P 4 i
def jI (k : Int) : M ByteArray := fun i => if P.K i = k then .ok (P.T i) (i + 1) else jE P 4 i
def yg (last : Nat) : Nat → ByteArray → M (ByteArray × Nat)
 | 0, _ => jE P 4
 | f + 1, s => fun i =>
  if P.K i = 3 ∧ last ≠ 4 then .ok (s ++ P.T i, 3) (i + 1)
  else if P.K i ≠ 4 then jE P 4 i
  else if isD P s_dot (i + 1) then yg last f (s ++ P.T i ++ s_dot) (i + 2)
  else if last = 3 then jE P 4 (i + 1) else .ok (s ++ P.T i, 4) (i + 1)
def ki (last : Nat) : M (ByteArray × Nat) := yg P last (P.toks.length + 1) ⟨#[]⟩
def qg {α : Type} (c : Nat → Bool) (item : M α) : Nat → List α → M (List α)
 | 0, acc => ret acc
 | f + 1, acc => fun i => if c i then (item >>= fun x => qg c item f (acc ++ [x])) i else .ok acc i
def ku {α : Type} (item : M α) (s : ByteArray) : Nat → List α → M (List α)
 | 0, acc => ret acc
 | f + 1, acc => fun i => if isD P s i then (item >>= fun x => ku item s f (acc ++ [x])) (i + 1) else .ok acc i
def jZ {α : Type} (item : M α) (s : ByteArray) : M (List α) := do
 let x ← item
 ku P item s (P.toks.length + 1) [x]
inductive NT where
 | exp | pat | typ | dec | sig
structure Rec where
 go : NT → M Ty
 deep : M Ty
variable (R : Rec)
def qx (i : Nat) : Bool := decide (1 ≤ P.K i ∧ P.K i ≤ 4) || jK P [s_lp, s_lb, s_ti, s_us, w_true, w_false] i
def kh (i : Nat) : Bool := decide (1 ≤ P.K i ∧ P.K i ≤ 4) || jK P [s_lp, s_lb, s_ti, s_ex, w_let, w_case, w_try, w_true, w_false] i
def kX (a : Nat) : Nat → List Ty → M Ty
 | 0, _ => jE P 4
 | f + 1, l => fun i => if l.length ≠ 1 ∨ P.K i = 3 ∨ P.K i = 4 then (ki P 3 >>= fun p => kX a f [.mk 31 a p.1 0 l]) i else .ok (l.headD default) i
def kK : M Ty := fun i =>
 if P.K i = 5 then kX P (P.A i) (P.toks.length + 1) [.mk 30 (P.A i) (P.T i) 0 []] (i + 1)
 else if isD P s_lp i then (do
  let l ← jZ P (R.go .typ) s_com
  jm P s_rp
  kX P (P.A i) (P.toks.length + 1) l : M Ty) (i + 1)
 else kX P (P.A i) (P.toks.length + 1) [] i
def arrowB : M Ty := do
 let l ← jZ P (kK P R) s_st
 let n : Ty := if l.length > 1 then .mk 32 (l.headD default).n ⟨#[]⟩ 0 l else l.headD default
 let t ← kn P s_to
 if t then do
  let r ← R.go .typ
  return .mk 33 n.n ⟨#[]⟩ 0 [n, r]
 else return n
def qa (a : Nat) : M Ty := fun i =>
 if isD P s_rp i then .ok (.mk 25 a ⟨#[]⟩ 0 []) (i + 1)
 else if P.K i = 3 ∧ P.K (i + 1) = 6 ∧ P.T (i + 1) = w_as then (do
  let p ← R.go .pat
  jm P s_rp
  return .mk 28 a (P.T i) 0 [p] : M Ty) (i + 2)
 else (do
  let p ← R.go .pat
  let c ← kn P s_com
  if c then do
   let l ← jZ P (R.go .pat) s_com
   jm P s_rp
   return .mk 25 a ⟨#[]⟩ 0 (p :: l)
  else do
   let h ← kn P s_col
   if h then do
    let t ← R.go .typ
    jm P s_rp
    return .mk 29 a ⟨#[]⟩ 0 [p, t]
   else do
    jm P s_rp
    return p : M Ty) i
def jR : M Ty := fun i =>
 if isD P s_us i then .ok (.mk 20 (P.A i) ⟨#[]⟩ 0 []) (i + 1)
 else if P.K i = 3 then .ok (.mk 21 (P.A i) (P.T i) 0 []) (i + 1)
 else if P.K i = 1 then .ok (.mk 22 (P.A i) ⟨#[]⟩ (P.N i) []) (i + 1)
 else if isD P s_ti i then (if P.K (i + 1) = 1 then .ok (.mk 22 (P.A i) ⟨#[]⟩ (-(P.N (i + 1) : Int)) []) (i + 2) else jE P 4 (i + 1))
 else if P.K i = 2 then .ok (.mk 23 (P.A i) (P.T i) 0 []) (i + 1)
 else if P.K i = 4 then (ki P 4 >>= fun p => ret (.mk 24 (P.A i) p.1 0 [])) i
 else if isD P w_true i ∨ isD P w_false i then .ok (.mk 24 (P.A i) (P.T i) 0 []) (i + 1)
 else if isD P s_lb i then (do
  let e ← kn P s_rb
  if e then return .mk 26 (P.A i) ⟨#[]⟩ 0 []
  else do
   let l ← jZ P (R.go .pat) s_com
   jm P s_rb
   return .mk 26 (P.A i) ⟨#[]⟩ 0 l : M Ty) (i + 1)
 else if isD P s_lp i then qa P R (P.A i) (i + 1)
 else jE P 4 i
def kr : M Ty := fun i => (do
 let n ← jR P R
 fun j => if P.K i = 4 ∧ qx P j = true then (jR P R >>= fun p => ret (.mk n.k n.n n.s n.q [p])) j else .ok n j : M Ty) i
def qt : List Ty → Ty
 | [] => default
 | [p] => p
 | p :: q :: r => .mk 27 p.n ⟨#[]⟩ 0 [p, qt (q :: r)]
def vI : M Ty := do
 let l ← jZ P (kr P R) s_cons
 return qt l
def jv (where' : Nat) : List ByteArray :=
 if where' = 0 then [w_val, w_fun, w_type, w_data, w_exception, w_structure, w_open, w_signature]
 else if where' = 1 then [w_val, w_fun, w_type, w_data, w_exception, w_structure, w_open]
 else [w_val, w_fun, w_exception, w_open]
def qm (where' : Nat) : M (List Ty) := qg (jK P (jv where')) (R.go .dec) (P.toks.length + 1) []
def conB : M Ty := fun i => (do
 let s ← jI P 4
 let o ← kn P w_of
 if o then do
  let t ← R.go .typ
  return .mk 40 (P.A i) s 0 [t]
 else return .mk 40 (P.A i) s 0 [] : M Ty) i
def oneB : M Ty := fun i => (do
 let s ← jI P 5
 return .mk 30 (P.A i) s 0 [] : M Ty) i
def qT (k : Int) (a : Nat) : M Ty := fun i =>
 if P.K i = 5 then (do
  let v ← oneB P
  let s ← jI P 3
  return .mk k a s 1 [v] : M Ty) i
 else if isD P s_lp i then (do
  let l ← jZ P (oneB P) s_com
  jm P s_rp
  let s ← jI P 3
  return .mk k a s l.length l : M Ty) (i + 1)
 else (do
  let s ← jI P 3
  return .mk k a s 0 [] : M Ty) i
def vr : M Ty := fun i => (do
 let n ← qT P 39 (P.A i)
 jm P s_eq
 let l ← jZ P (conB P R) s_bar
 return .mk n.k n.n n.s n.q (n.args ++ l) : M Ty) i
def yj (a : Nat) : M Ty := do
 let l ← jZ P (vr P R) w_and
 return .mk 38 a ⟨#[]⟩ 0 l
def kC : M Ty := fun i => (do
 let s ← jI P 3
 let p ← jR P R
 let l ← qg (qx P) (jR P R) (P.toks.length + 1) [p]
 let c ← kn P s_col
 if c then do
  let t ← R.go .typ
  jm P s_eq
  let e ← R.deep
  return .mk 36 (P.A i) s 0 (l ++ [.mk 19 e.n ⟨#[]⟩ 0 [e, t]])
 else do
  jm P s_eq
  let e ← R.go .exp
  return .mk 36 (P.A i) s 0 (l ++ [e]) : M Ty) i
def yf : M Ty := fun i =>
 if isD P w_struct i then (do
  let l ← qm P R 1
  jm P w_end
  return .mk 45 (P.A i) ⟨#[]⟩ 0 l : M Ty) (i + 1)
 else (ki P 4 >>= fun p => ret (.mk 46 (P.A i) p.1 0 [])) i
def annB : M (Int × List Ty) := fun i =>
 if isD P s_col i then (R.go .sig >>= fun g => ret (1, [g])) (i + 1)
 else if isD P s_opq i then (R.go .sig >>= fun g => ret (2, [g])) (i + 1)
 else .ok (0, []) i
def kH (a : Nat) : M Ty := do
 let s ← jI P 4
 let g ← annB P R
 jm P s_eq
 let b ← yf P R
 return .mk 42 a s g.1 (g.2 ++ [b])
def qZ : M Ty := fun i =>
 if P.T i = w_val then (do
  let p ← R.go .pat
  jm P s_eq
  let e ← R.go .exp
  return .mk 34 (P.A i) ⟨#[]⟩ 0 [p, e] : M Ty) (i + 1)
 else if P.T i = w_fun then (do
  let l ← jZ P (kC P R) w_and
  return .mk 35 (P.A i) ⟨#[]⟩ 0 l : M Ty) (i + 1)
 else if P.T i = w_type then (do
  let n ← qT P 37 (P.A i)
  jm P s_eq
  let t ← R.go .typ
  return .mk n.k n.n n.s n.q (n.args ++ [t]) : M Ty) (i + 1)
 else if P.T i = w_data then yj P R (P.A i) (i + 1)
 else if P.T i = w_exception then (do
  let c ← conB P R
  return .mk 41 (P.A i) c.s c.q c.args : M Ty) (i + 1)
 else if P.T i = w_structure then kH P R (P.A i) (i + 1)
 else if P.T i = w_signature then (do
  let s ← jI P 4
  jm P s_eq
  let g ← R.go .sig
  return .mk 43 (P.A i) s 0 [g] : M Ty) (i + 1)
 else (do
  let p ← ki P 4
  return .mk 44 (P.A i) p.1 0 [] : M Ty) (i + 1)
def ky : M Ty := fun i =>
 if isD P w_val i then (do
  let s ← jI P 3
  jm P s_col
  let t ← R.go .typ
  return .mk 49 (P.A i) s 0 [t] : M Ty) (i + 1)
 else if isD P w_type i then (do
  let n ← qT P 50 (P.A i)
  let e ← kn P s_eq
  if e then do
   let t ← R.go .typ
   return .mk n.k n.n n.s n.q (n.args ++ [t])
  else return n : M Ty) (i + 1)
 else if isD P w_data i then yj P R (P.A i) (i + 1)
 else if isD P w_exception i then (do
  let c ← conB P R
  return .mk 41 (P.A i) c.s c.q c.args : M Ty) (i + 1)
 else if isD P w_structure i then (do
  let s ← jI P 4
  jm P s_col
  let g ← R.go .sig
  return .mk 51 (P.A i) s 0 [g] : M Ty) (i + 1)
 else jE P 4 i
def kT : Nat → List Ty → M (List Ty)
 | 0, acc => ret acc
 | f + 1, acc => fun i => if isD P w_end i then .ok acc (i + 1) else (ky P R >>= fun x => kT f (acc ++ [x])) i
def sigsB : M Ty := fun i =>
 if isD P w_sig i then (do
  let l ← kT P R (P.toks.length + 1) []
  return .mk 47 (P.A i) ⟨#[]⟩ 0 l : M Ty) (i + 1)
 else (do
  let s ← jI P 4
  return .mk 48 (P.A i) s 0 [] : M Ty) i
def ruleB : M Ty := do
 let p ← R.go .pat
 jm P s_arr
 let e ← R.go .exp
 return .mk 12 p.n ⟨#[]⟩ 0 [p, e]
def vc (k : Int) (a : Nat) (w : ByteArray) : M Ty := do
 let e ← R.go .exp
 jm P w
 let l ← jZ P (ruleB P R) s_bar
 jm P w_end
 return .mk k a ⟨#[]⟩ 0 (e :: l)
def vX (a : Nat) : M Ty := fun i =>
 if isD P s_rp i then .ok (.mk 5 a ⟨#[]⟩ 0 []) (i + 1)
 else (do
  let n ← R.go .exp
  let c ← kn P s_com
  if c then do
   let l ← jZ P (R.go .exp) s_com
   jm P s_rp
   return .mk 5 a ⟨#[]⟩ 0 (n :: l)
  else do
   let m ← kn P s_sem
   if m then do
    let l ← jZ P (R.go .exp) s_sem
    jm P s_rp
    return .mk 15 a ⟨#[]⟩ 0 (n :: l)
   else do
    let h ← kn P s_col
    if h then do
     let t ← R.go .typ
     jm P s_rp
     return .mk 19 a ⟨#[]⟩ 0 [n, t]
    else do
     jm P s_rp
     return n : M Ty) i
def kp : M Ty := fun i =>
 if P.K i = 1 then .ok (.mk 1 (P.A i) ⟨#[]⟩ (P.N i) []) (i + 1)
 else if P.K i = 2 then .ok (.mk 2 (P.A i) (P.T i) 0 []) (i + 1)
 else if P.K i = 3 ∨ P.K i = 4 then (ki P 0 >>= fun p => ret (.mk (if p.2 = 3 then 3 else 4) (P.A i) p.1 0 [])) i
 else if isD P w_true i ∨ isD P w_false i then .ok (.mk 4 (P.A i) (P.T i) 0 []) (i + 1)
 else if isD P s_lp i then vX P R (P.A i) (i + 1)
 else if isD P s_lb i then (do
  let e ← kn P s_rb
  if e then return .mk 6 (P.A i) ⟨#[]⟩ 0 []
  else do
   let l ← jZ P (R.go .exp) s_com
   jm P s_rb
   return .mk 6 (P.A i) ⟨#[]⟩ 0 l : M Ty) (i + 1)
 else if isD P w_let i then (do
  let l ← qm P R 2
  jm P w_in
  let e ← R.go .exp
  jm P w_end
  return .mk 14 (P.A i) ⟨#[]⟩ l.length (l ++ [e]) : M Ty) (i + 1)
 else if isD P w_case i then vc P R 10 (P.A i) w_of (i + 1)
 else if isD P w_try i then vc P R 11 (P.A i) w_with (i + 1)
 else jE P 4 i
def qk : Nat → M Ty
 | 0 => jE P 4
 | f + 1 => fun i => if isD P s_ti i ∨ isD P s_ex i then (qk f >>= fun n => ret (.mk 18 (P.A i) (P.T i) 0 [n])) (i + 1) else kp P R i
def qj : M Ty := qk P R (P.toks.length + 1)
def qr : Nat → Ty → M Ty
 | 0, n => ret n
 | f + 1, n => fun i => if kh P i then (qj P R >>= fun b => qr f (.mk 8 n.n ⟨#[]⟩ 0 [n, b])) i else .ok n i
def applyB : M Ty := do
 let n ← qj P R
 qr P R (P.toks.length + 1) n
def lvL (k : Nat) : List ByteArray :=
 if k = 7 then [s_asg] else if k = 6 then [w_orelse] else if k = 5 then [w_andalso]
 else if k = 4 then [s_eq, s_ne, s_lt, s_le, s_gt, s_ge] else if k = 3 then [s_cons] else if k = 2 then [s_pl, s_mi, s_ca] else [s_st, s_sl, s_pc]
def qd (k : Nat) : Bool := decide (k = 7 ∨ k = 4)
def kG (s : ByteArray) (a b : Ty) : Ty :=
 if s = w_andalso then .mk 16 a.n ⟨#[]⟩ 0 [a, b] else if s = w_orelse then .mk 17 a.n ⟨#[]⟩ 0 [a, b] else .mk 18 a.n s 0 [a, b]
def jW (k : Nat) (item : M Ty) : Nat → List (ByteArray × Ty) → M (List (ByteArray × Ty))
 | 0, acc => ret acc
 | f + 1, acc => fun i => if (acc.length = 0 ∨ qd k = false) ∧ jK P (lvL k) i = true then (item >>= fun x => jW k item f (acc ++ [(P.T i, x)])) (i + 1) else .ok acc i
def vn : Ty → List (ByteArray × Ty) → Ty
 | a, [] => a
 | a, (s, b) :: r => kG s a (vn b r)
def jJ (a : Ty) (l : List (ByteArray × Ty)) : Ty := l.foldl (fun a p => kG p.1 a p.2) a
def jF : Nat → M Ty
 | 0 => applyB P R
 | k + 1 => do
  let a ← jF k
  let l ← jW P (k + 1) (jF k) (P.toks.length + 1) []
  return if k + 1 = 3 then vn a l else jJ a l
def openB : M Ty := fun i =>
 if isD P w_fn i then (do
  let p ← jR P R
  jm P s_arr
  let e ← R.go .exp
  return .mk 7 (P.A i) ⟨#[]⟩ 0 [p, e] : M Ty) (i + 1)
 else if isD P w_if i then (do
  let a ← R.go .exp
  jm P w_then
  let b ← R.go .exp
  jm P w_else
  let c ← R.go .exp
  return .mk 9 (P.A i) ⟨#[]⟩ 0 [a, b, c] : M Ty) (i + 1)
 else if isD P w_raise i then (do
  let e ← R.go .exp
  return .mk 13 (P.A i) ⟨#[]⟩ 0 [e] : M Ty) (i + 1)
 else jF P R 7 i
def stepB : NT → M Ty
 | .exp => openB P R
 | .pat => vI P R
 | .typ => arrowB P R
 | .dec => qZ P R
 | .sig => sigsB P R
end
def jt (P : Src) : Nat → NT → M Ty
 | 0, _ => jE P 5
 | g + 1, nt => stepB P ⟨jt P g, match g with
  | 0 => jE P 5
  | g' + 1 => jt P g' .exp⟩ nt
def jf (P : Src) (g : Nat) : Rec := ⟨jt P g, match g with
 | 0 => jE P 5
 | g' + 1 => jt P g' .exp⟩
theorem kA (P : Src) (g : Nat) (nt : NT) : jt P (g + 1) nt = stepB P (jf P g) nt := by cases g <;> rfl
def vu (P : Src) (m : M Ty) : Res Ty := match m 0 with
 | .bad k a => .bad k a
 | .ok n j => if P.K j = 0 then .ok n j else jE P 4 j
def topD (P : Src) (which : Nat) : Res Ty :=
 if which = 0 then vu P (qm P (jf P 60) 0 >>= fun l => ret (.mk 0 0 ⟨#[]⟩ 0 l))
 else if which = 1 then vu P (jt P 60 .exp) else if which = 2 then vu P (jt P 60 .pat) else vu P (jt P 60 .typ)
def hitB (l w : ByteArray) (i : Nat) : Bool := decide (i + w.size + 2 ≤ l.size) && decide (l.extract i (i + w.size + 2) = ⟨#[32]⟩ ++ w ++ ⟨#[32]⟩)
def qp (l w : ByteArray) : Bool := (List.range l.size).any (hitB l w)
def anyB (l : List ByteArray) (x : ByteArray) : Bool := l.any fun s => decide (x = s)
def nineB : List ByteArray := [s_lp, s_lb, s_ti, s_ex, w_let, w_case, w_try, w_true, w_false]
abbrev qS : ByteArray := ⟨#[32, 58, 61, 32]⟩
abbrev qN : ByteArray := ⟨#[32, 111, 114, 101, 108, 115, 101, 32]⟩
abbrev qU : ByteArray := ⟨#[32, 97, 110, 100, 97, 108, 115, 111, 32]⟩
abbrev qV : ByteArray := ⟨#[32, 61, 32, 60, 62, 32, 60, 32, 60, 61, 32, 62, 32, 62, 61, 32]⟩
abbrev qP : ByteArray := ⟨#[32, 58, 58, 32]⟩
abbrev qY : ByteArray := ⟨#[32, 43, 32, 45, 32, 94, 32]⟩
abbrev qO : ByteArray := ⟨#[32, 42, 32, 47, 32, 37, 32]⟩
abbrev t_bg0 : ByteArray := ⟨#[32, 118, 97, 108, 32, 102, 117, 110, 32, 116, 121, 112, 101, 32, 100, 97, 116, 97, 32, 101, 120, 99, 101, 112, 116, 105, 111, 110, 32, 115, 116, 114, 117, 99, 116, 117, 114, 101, 32, 111, 112, 101, 110, 32, 115, 105, 103, 110, 97, 116, 117, 114, 101, 32]⟩
abbrev t_bg1 : ByteArray := ⟨#[32, 118, 97, 108, 32, 102, 117, 110, 32, 116, 121, 112, 101, 32, 100, 97, 116, 97, 32, 101, 120, 99, 101, 112, 116, 105, 111, 110, 32, 115, 116, 114, 117, 99, 116, 117, 114, 101, 32, 111, 112, 101, 110, 32]⟩
abbrev t_bg2 : ByteArray := ⟨#[32, 118, 97, 108, 32, 102, 117, 110, 32, 101, 120, 99, 101, 112, 116, 105, 111, 110, 32, 111, 112, 101, 110, 32]⟩
abbrev t_be7 : ByteArray := ⟨#[32, 40, 32, 91, 32, 126, 32, 33, 32]⟩
abbrev t_be6 : ByteArray := ⟨#[32, 108, 101, 116, 32, 99, 97, 115, 101, 32, 116, 114, 121, 32, 116, 114, 117, 101, 32, 102, 97, 108, 115, 101, 32]⟩
theorem has_lv0 : ∀ x ∈ kO ++ signsA, qp qS x = anyB (lvL 7) x := by decide +kernel
theorem has_lv1 : ∀ x ∈ kO ++ signsA, qp qN x = anyB (lvL 6) x := by decide +kernel
theorem has_lv2 : ∀ x ∈ kO ++ signsA, qp qU x = anyB (lvL 5) x := by decide +kernel
theorem has_lv3 : ∀ x ∈ kO ++ signsA, qp qV x = anyB (lvL 4) x := by decide +kernel
theorem has_lv4 : ∀ x ∈ kO ++ signsA, qp qP x = anyB (lvL 3) x := by decide +kernel
theorem has_lv5 : ∀ x ∈ kO ++ signsA, qp qY x = anyB (lvL 2) x := by decide +kernel
theorem has_lv6 : ∀ x ∈ kO ++ signsA, qp qO x = anyB (lvL 1) x := by decide +kernel
theorem has_be7 : ∀ x ∈ signsA, qp t_be7 x = anyB nineB x := by decide +kernel
theorem has_be6 : ∀ x ∈ kO, qp t_be6 x = anyB nineB x := by decide +kernel
def lvT (j : Nat) : ByteArray := if j = 0 then qS else if j = 1 then qN else if j = 2 then qU else if j = 3 then qV else if j = 4 then qP else if j = 5 then qY else qO
def bgT (j : Nat) : ByteArray := if j = 0 then t_bg0 else if j = 1 then t_bg1 else t_bg2
def sideT (j : Nat) : Int := if j = 4 then 2 else if j = 0 ∨ j = 3 then 0 else 1
theorem has_lv {j : Nat} (hj : j < 7) : ∀ x ∈ kO ++ signsA, qp (lvT j) x = anyB (lvL (7 - j)) x := by
 have h : j = 0 ∨ j = 1 ∨ j = 2 ∨ j = 3 ∨ j = 4 ∨ j = 5 ∨ j = 6 := by omega
 rcases h with rfl | rfl | rfl | rfl | rfl | rfl | rfl
 · exact has_lv0
 · exact has_lv1
 · exact has_lv2
 · exact has_lv3
 · exact has_lv4
 · exact has_lv5
 · exact has_lv6
theorem vE (j : Nat) : (lvT j).size ≤ 400 := by
 unfold lvT
 repeat' split
 all_goals decide
def tkRow (t : Tok) : List Value := [.int .i64 t.1, .int .i64 t.2.1, .string t.2.2.1, .int .i64 t.2.2.2]
structure Env where
 B : Nat
 rb : Nat
 P : Src
 lo : Option Addr
 cap : Nat
structure SrcOk (P : Src) : Prop where
 len : P.toks.length ≤ 100000
 tok : ∀ t ∈ P.toks, t.1 ≤ 7 ∧ t.2.1 ≤ 100000 ∧ t.2.2.2 ≤ 1000000000 ∧ t.2.2.1.size ≤ 4000
 fk : P.fk ≤ 100
 fa : P.fa ≤ 100000
 words : ∀ t ∈ P.toks, t.1 = 6 → t.2.2.1 ∈ kO
 signs : ∀ t ∈ P.toks, t.1 = 7 → t.2.2.1 ∈ signsA
 upper : ∀ t ∈ P.toks, t.1 = 4 → 0 < t.2.2.1.size ∧ bt t.2.2.1 0 ≤ 90
 ends : P.fk = 0 → 0 < P.toks.length ∧ P.K (P.toks.length - 1) = 0
def Glob (w : World) : Prop := (∀ j, j < 7 → w.cell? ⟨2, j * 2, none⟩ = some (.string (lvT j)) ∧ w.cell? ⟨2, j * 2 + 1, none⟩ = some (.int .i64 (sideT j))) ∧ ∀ j, j < 3 → w.cell? ⟨0, j, none⟩ = some (.string (bgT j))
theorem Glob.of {w w' : World} (h : Glob w) (h0 : ∀ k, w'.cell? ⟨0, k, none⟩ = w.cell? ⟨0, k, none⟩) (h2 : ∀ k, w'.cell? ⟨2, k, none⟩ = w.cell? ⟨2, k, none⟩) : Glob w' := ⟨fun j hj => by rw [h2, h2]; exact h.1 j hj, fun j hj => by rw [h0]; exact h.2 j hj⟩
structure Rd (E : Env) (w : World) (i d : Nat) : Prop where
 row : w.heap[E.rb]? = some (.cells #[.slice E.lo E.P.toks.length E.cap, .int .i64 (i : Int), .int .i64 (E.P.fk : Int), .int .i64 (E.P.fa : Int), .int .i64 (d : Int)] 63 (0, 0))
 tk : ∀ k (hk : k < E.P.toks.length), ∃ b off, E.lo = some ⟨b, off, none⟩ ∧ b ≠ E.rb ∧ b < E.B ∧ ∀ j, j < 4 → w.cell? ⟨b, off + k * 4 + j, none⟩ = (tkRow E.P.toks[k])[j]?
 low : E.rb < E.B ∧ E.B ≤ w.heap.size
 ok : SrcOk E.P
 le : i ≤ E.P.toks.length
 d60 : d ≤ 60
 gl : Glob w
 g2 : 2 < E.rb
def pr (E : Env) : Value := .pointer (some ⟨E.rb, 0, none⟩)
theorem Rd.ltr {E : Env} {w : World} {i d : Nat} (h : Rd E w i d) : E.rb < w.heap.size := Nat.lt_of_lt_of_le h.low.1 h.low.2
theorem Rd.keep {E : Env} {w w' : World} {i d : Nat} (h : Rd E w i d) (hb : Below w.heap.size w w') : Rd E w' i d := by
 refine ⟨jo h.row hb h.ltr, fun k hk => ?_, ⟨h.low.1, Nat.le_trans h.low.2 hb.size⟩, h.ok, h.le, h.d60, h.gl.of (fun k => hb.cell (p := ⟨0, k, none⟩) (by have := h.g2; have := h.ltr; show 0 < _; omega)) (fun k => hb.cell (p := ⟨2, k, none⟩) (by have := h.g2; have := h.ltr; show 2 < _; omega)), h.g2⟩;obtain ⟨b, off, h1, h2, h3, h4⟩ := h.tk k hk;exact ⟨b, off, h1, h2, h3, fun j hj => (hb.cell (p := ⟨b, _, none⟩) (Nat.lt_of_lt_of_le h3 h.low.2)).trans (h4 j hj)⟩
def qb (P : Src) (i : Nat) : Value := .agg #[.int .i64 (P.K i), .int .i64 (P.A i : Int), .string (P.T i), .int .i64 (P.N i : Int)]
theorem Src.at' {P : Src} {i : Nat} (h : i < P.toks.length) : P.K i = (P.toks[i].1 : Int) ∧ P.A i = P.toks[i].2.1 ∧ P.T i = P.toks[i].2.2.1 ∧ P.N i = P.toks[i].2.2.2 := by
 unfold Src.K Src.A Src.T Src.N;rw [List.getElem?_eq_getElem h];exact ⟨rfl, rfl, rfl, rfl⟩
theorem Src.out' {P : Src} {i : Nat} (h : ¬ i < P.toks.length) : P.K i = -1 ∧ P.A i = P.fa ∧ P.T i = ⟨#[]⟩ ∧ P.N i = 0 := by
 unfold Src.K Src.A Src.T Src.N;rw [List.getElem?_eq_none (by omega)];exact ⟨rfl, rfl, rfl, rfl⟩
theorem size59 (w : World) : (sizeOf 59).run Tryz.prog w = .ok 4 w := by kernel_rfl
theorem Rd.cells {E : Env} {w : World} {i d : Nat} (h : Rd E w i d) : (w.cell? ⟨E.rb, 0, none⟩ = some (.slice E.lo E.P.toks.length E.cap) ∧ w.cell? ⟨E.rb, 1, none⟩ = some (.int .i64 (i : Int)) ∧ w.cell? ⟨E.rb, 2, none⟩ = some (.int .i64 (E.P.fk : Int)) ∧ w.cell? ⟨E.rb, 3, none⟩ = some (.int .i64 (E.P.fa : Int)) ∧ w.cell? ⟨E.rb, 4, none⟩ = some (.int .i64 (d : Int))) ∧ (w.frozen? ⟨E.rb, 0, none⟩ = false ∧ w.frozen? ⟨E.rb, 1, none⟩ = false ∧ w.frozen? ⟨E.rb, 2, none⟩ = false ∧ w.frozen? ⟨E.rb, 3, none⟩ = false ∧ w.frozen? ⟨E.rb, 4, none⟩ = false) :=
 ⟨⟨ja h.row 0, ja h.row 1, ja h.row 2, ja h.row 3, ja h.row 4⟩, ⟨jd h.row 0, jd h.row 1, jd h.row 2, jd h.row 3, jd h.row 4⟩⟩
theorem Rd.tok {E : Env} {w : World} {i d : Nat} (h : Rd E w i d) {k : Nat} (hk : k < E.P.toks.length) : ∃ b p, b ≠ E.rb ∧ b < E.B ∧ (∀ w' : World, (Instr.indexAt 36 (.slice E.lo E.P.toks.length E.cap) (.int .i64 k)).run Tryz.prog w' = .ok (.pointer (some ⟨b, p, none⟩)) w') ∧
 w.cell? ⟨b, p, none⟩ = some (.int .i64 (E.P.K k)) ∧ w.cell? ⟨b, p + 1, none⟩ = some (.int .i64 (E.P.A k : Int)) ∧ w.cell? ⟨b, p + 2, none⟩ = some (.string (E.P.T k)) ∧ w.cell? ⟨b, p + 3, none⟩ = some (.int .i64 (E.P.N k : Int)) := by
 obtain ⟨b, off, ha, hne, hb, hc⟩ := h.tk k hk;obtain ⟨e1, e2, e3, e4⟩ := Src.at' hk;rw [e1, e2, e3, e4];exact ⟨b, off + k * 4, hne, hb, fun w' => index_at Tryz.underlying36 size59 ha _ _ k hk w', hc 0 (by omega), hc 1 (by omega), hc 2 (by omega), hc 3 (by omega)⟩
theorem res_tok {fn : Func} {t : Tmp} (h : fn.results = #[.cell t 59]) {tmps : Array Value} {w : World} {b : Nat} {v0 v1 v2 v3 : Value} (ht : tmps.getD t undef = .pointer (some ⟨b, 0, none⟩)) (hb : w.heap[b]? = some (.cells #[v0, v1, v2, v3] 59 (0, 0))) :
 (results fn tmps).run Tryz.prog w = .ok (.agg #[v0, v1, v2, v3]) w :=
 results_cell_row (h := h) _ _ b 59 _ (0, 0) _ ht hb Tryz.underlying59 rfl (by kernel_rfl)
abbrev set4 (W : World) (b : Nat) (v0 v1 v2 v3 : Value) : World := (((W.setCell ⟨b, 0, none⟩ v0).setCell ⟨b, 1, none⟩ v1).setCell ⟨b, 2, none⟩ v2).setCell ⟨b, 3, none⟩ v3
theorem tok_set {W : World} {b : Nat} {u0 u1 u2 u3 : Value} (h : W.heap[b]? = some (.cells #[u0, u1, u2, u3] 59 (0, 0))) (v0 v1 v2 v3 : Value) : (set4 W b v0 v1 v2 v3).heap[b]? = some (.cells #[v0, v1, v2, v3] 59 (0, 0)) :=
 jy (jy (jy (jy h 0 _) 1 _) 2 _) 3 _
theorem tok_below {N : Nat} {w W : World} {b : Nat} {v0 v1 v2 v3 : Value} (h : Below N w W) (hb : N ≤ b) : Below N w (set4 W b v0 v1 v2 v3) :=
 (((h.setCell (p := ⟨b, 0, none⟩) hb _).setCell (p := ⟨b, 1, none⟩) hb _).setCell (p := ⟨b, 2, none⟩) hb _).setCell (p := ⟨b, 3, none⟩) hb _
theorem now_any (E : Env) (w : World) (i d : Nat) (h : Rd E w i d) : Calls Tryz.prog 35 #[pr E] w fun e w' => e = .returned (qb E.P i) ∧ Below w.heap.size w w' := by
 have hlt := h.ltr;obtain ⟨W, hW⟩ : ∃ W, W = w.alloc (.cells #[.int .i64 0, .int .i64 0, .string ⟨#[]⟩, .int .i64 0] 59) := ⟨_, rfl⟩
 have hbW : Below w.heap.size w W := by rw [hW]; exact jk (Below.refl _ _) _
 have hrW : W.heap[w.heap.size]? = some (.cells #[.int .i64 0, .int .i64 0, .string ⟨#[]⟩, .int .i64 0] 59 (0, 0)) := by rw [hW]; exact heap_alloc_new w _
 have hR := h.keep hbW;obtain ⟨⟨r0, r1, r2, r3, r4⟩, -⟩ := hR.cells;have z0 := jd hrW 0;have z1 := jd hrW 1;have z2 := jd hrW 2;have z3 := jd hrW 3;obtain ⟨n, hn⟩ : ∃ n, n = E.P.toks.length := ⟨_, rfl⟩
 have hin := h.le;rw [← hn] at r0 hin;have HN := lh hn;have HR := lh hR;have HBW := lh hbW;have HRW := lh hrW;have hn9 : n ≤ 100000 := by rw [hn]; exact h.ok.len
 unfold pr;have HWW := lh hW;have n1 : ¬ (E.rb = w.heap.size) := by omega
 have n2 : ¬ (w.heap.size = E.rb) := by omega
 by_cases hi : i < n
 · have hd : ((i : Int) < (n : Int)) := (by omega);have hi' : i < E.P.toks.length := (by rw [← hn]; exact hi);obtain ⟨b, p, hne, hbl, hix, x0, x1, x2, x3⟩ := hR.tok hi';rw [← hn] at hix;have hbw : b < w.heap.size := Nat.lt_of_lt_of_le hbl h.low.2;have c0 := ja hrW 0;have c1 := ja hrW 1;have c2 := ja hrW 2;have c3 := ja hrW 3;have n3 : ¬ (b = w.heap.size) := (by omega);have n4 : ¬ (w.heap.size = b) := (by omega);unfold qb;clear h hR hbW hrW hn hi' hne hbl hlt hin hi hbw;go_enter Tryz.func35, Tryz.ntmps35
   go_upto_region 1 with fail
   rw [← HWW.out];clear hW HWW;go_quiet (fail)
   go_upto_region 2 with fail
   go_region
   go_wp2_with fail
   obtain ⟨V, hV⟩ : ∃ V : World, V = W.drewN (nq + 1) := ⟨_, rfl⟩
   rw [← hV];have hbV : Below w.heap.size w V := (by rw [hV]; exact below_drewN HBW.out _);have hrV : V.heap[w.heap.size]? = some (.cells #[.int .i64 0, .int .i64 0, .string ⟨#[]⟩, .int .i64 0] 59 (0, 0)) := (by rw [hV]; exact HRW.out);exact bodyPost_ret (res_tok rfl rfl (tok_set hrV _ _ _ _)) rfl ⟨rfl, tok_below hbV (Nat.le_refl _)⟩
 · have hd : decide ((i : Int) < (n : Int)) = false := (by simp; omega);have hd2 : ¬ ((i : Int) < (n : Int)) := (by omega);obtain ⟨e1, e2, e3, e4⟩ := Src.out' (P := E.P) (i := i) (by rw [← hn]; exact hi);unfold qb;rw [e1, e2, e3, e4];clear h hR hbW hlt hin hi e1 e2 e3 e4 hn hrW;go_enter Tryz.func35, Tryz.ntmps35
   go_upto_region 1 with fail
   rw [← HWW.out];clear hW HWW;go_quiet (fail)
   obtain ⟨V, hV⟩ : ∃ V : World, V = W.drewN nq := ⟨_, rfl⟩
   have hbV : Below w.heap.size w V := (by rw [hV]; exact below_drewN HBW.out _);have hrV : V.heap[w.heap.size]? = some (.cells #[.int .i64 0, .int .i64 0, .string ⟨#[]⟩, .int .i64 0] 59 (0, 0)) := (by rw [hV]; exact HRW.out);replace r3 : V.cell? ⟨E.rb, 2 + 1, none⟩ = some (.int .i64 (E.P.fa : Int)) := (by rw [hV]; exact r3);have z0 := jd hrV 0;have z1 := jd hrV 1;have z2 := jd hrV 2;have z3 := jd hrV 3;have c0 := ja hrV 0;have c1 := ja hrV 1;have c2 := ja hrV 2;have c3 := ja hrV 3;rw [← hV];have HBV := lh hbV;have HRV := lh hrV;clear hV hbV hrV r0 r1 r2 r4;go_wp2_with fail
   exact bodyPost_ret (res_tok rfl rfl (tok_set HRV.out _ _ _ _)) rfl ⟨rfl, tok_below HBV.out (Nat.le_refl _)⟩
theorem sizeL (s : ByteArray) : s.data.toList.length = s.size := Array.length_toList
theorem kS {s : ByteArray} {p : Nat → Bool} {i : Nat} (h : i < s.size) (hp : p (bt s i) = true) : whD s p i = whD s p (i + 1) := by
 rw [whD, dif_pos h, if_pos hp]
theorem vm {s : ByteArray} {p : Nat → Bool} {i : Nat} (h : i < s.size) (hp : p (bt s i) = false) : whD s p i = i := by
 rw [whD, dif_pos h, if_neg (by simp [hp])]
theorem vC {s : ByteArray} {p : Nat → Bool} {i : Nat} (h : s.size ≤ i) : whD s p i = i := by
 rw [whD, dif_neg (by omega)]
theorem whD_ge (s : ByteArray) (p : Nat → Bool) (i : Nat) : i ≤ whD s p i ∧ (i ≤ s.size → whD s p i ≤ s.size) := by
 induction i using whD.induct s p with
 | case1 i h hp ih => rw [kS h hp]; omega
 | case2 i h hp => rw [vm h (by simpa using hp)]; omega
 | case3 i h => rw [vC (by omega)]; omega
theorem vy {s : ByteArray} {i a b : Nat} (h : qf s i a b = true) : i + 2 ≤ s.size ∧ bt s i = a ∧ bt s (i + 1) = b := by simpa [qf] using h
theorem comD_open {s : ByteArray} {i o : Nat} (h : i < s.size) (h1 : qf s i 40 42 = true) : comD s i o = comD s (i + 2) (o + 1) := by rw [comD, dif_pos h, if_pos h1]
theorem comD_close {s : ByteArray} {i o : Nat} (h : i < s.size) (h1 : qf s i 42 41 = true) : comD s i o = if o = 1 then some (i + 2) else comD s (i + 2) (o - 1) := by
 have h2 : qf s i 40 42 = false := by
  have := vy h1;simp [qf]; omega
 rw [comD, dif_pos h, if_neg (by simp [h2]), if_pos h1]
theorem comD_else {s : ByteArray} {i o : Nat} (h : i < s.size) (h1 : qf s i 40 42 = false) (h2 : qf s i 42 41 = false) : comD s i o = if o = 0 then some (i + 1) else comD s (i + 1) o := by
 rw [comD, dif_pos h, if_neg (by simp [h1]), if_neg (by simp [h2])]
theorem comD_end {s : ByteArray} {i o : Nat} (h : s.size ≤ i) : comD s i o = none := by rw [comD, dif_neg (by omega)]
theorem comD_lt {s : ByteArray} (i o : Nat) : ∀ {j : Nat}, comD s i o = some j → i < j ∧ j ≤ s.size := by
 induction i, o using comD.induct s with
 | case1 i o h h1 ih =>
  intro j hj;rw [comD_open h h1] at hj;have := ih hj;omega
 | case2 i h h1 h2 =>
  intro j hj;have := vy h2;rw [comD_close h h2] at hj;simp at hj
  omega
 | case3 i o h h1 h2 h3 ih =>
  intro j hj;rw [comD_close h h2, if_neg h3] at hj;have := ih hj;omega
 | case4 i h h1 h2 =>
  intro j hj;rw [comD_else h (by simpa using h1) (by simpa using h2)] at hj;simp at hj
  omega
 | case5 i o h h1 h2 h3 ih =>
  intro j hj;rw [comD_else h (by simpa using h1) (by simpa using h2), if_neg h3] at hj;have := ih hj;omega
 | case6 i o h =>
  intro j hj;rw [comD_end (by omega)] at hj
  cases hj
theorem gapD_end {s : ByteArray} {i : Nat} (h : s.size ≤ i) : gapD s i = (i, true) := by rw [gapD, dif_neg (by omega)]
theorem gapD_com {s : ByteArray} {i j : Nat} (h : qf s i 40 42 = true) (hc : comD s i 0 = some j) : gapD s i = gapD s j := by
 have h1 := vy h;have h2 := comD_lt _ _ hc;rw [gapD, dif_pos (by omega), if_pos h];split
 · rename_i k hk
   rw [hc] at hk
   cases hk
   rw [dif_pos (by omega)]
 · rename_i hk
   rw [hc] at hk
   cases hk
theorem gapD_bad {s : ByteArray} {i : Nat} (h : qf s i 40 42 = true) (hc : comD s i 0 = none) : gapD s i = (i, false) := by
 have h1 := vy h;rw [gapD, dif_pos (by omega), if_pos h];split
 · rename_i k hk
   rw [hc] at hk
   cases hk
 · rfl
theorem gapD_blank {s : ByteArray} {i : Nat} (h : i < s.size) (h1 : qn (bt s i) = true) : gapD s i = gapD s (i + 1) := by
 have h2 : qf s i 40 42 = false := by
  simp only [qn, decide_eq_true_eq] at h1;simp [qf]; omega
 rw [gapD, dif_pos h, if_neg (by simp [h2]), if_pos h1]
theorem gapD_stop {s : ByteArray} {i : Nat} (h2 : qf s i 40 42 = false) (h1 : i < s.size → qn (bt s i) = false) : gapD s i = (i, true) := by
 by_cases h : i < s.size
 · rw [gapD, dif_pos h, if_neg (by simp [h2]), if_neg (by simp [h1 h])]
 · exact gapD_end (by omega)
theorem gapD_ge {s : ByteArray} (i : Nat) : i ≤ s.size → i ≤ (gapD s i).1 ∧ (gapD s i).1 ≤ s.size := by
 induction i using gapD.induct s with
 | case1 i h h1 j hc hlt ih =>
  intro hi;have := comD_lt _ _ hc;rw [gapD_com h1 hc];have := ih (by omega);omega
 | case2 i h h1 j hc hlt => exact absurd (comD_lt _ _ hc).1 hlt
 | case3 i h h1 hc => intro hi; rw [gapD_bad h1 hc]; simp; omega
 | case4 i h h1 h2 ih =>
  intro hi;rw [gapD_blank h h2];have := ih (by omega);omega
 | case5 i h h1 h2 => intro hi; rw [gapD_stop (by simpa using h1) (fun _ => by simpa using h2)]; simp; omega
 | case6 i h => intro hi; rw [gapD_end (by omega)]; simp; omega
theorem numD_step {s : ByteArray} {i n : Nat} (h : i < s.size) (hd : dig (bt s i) = true) : numD s i n = numD s (i + 1) (min (10 * n + (bt s i - 48)) 1000000001) := by rw [numD, dif_pos h, if_pos hd]
theorem numD_stop {s : ByteArray} {i n : Nat} (h : i < s.size → dig (bt s i) = false) : numD s i n = (n, i) := by
 rw [numD];split
 · rename_i h1; rw [if_neg (by simp [h h1])]
 · rfl
theorem numD_wh {s : ByteArray} (i : Nat) : ∀ n, (numD s i n).2 = whD s dig i := by
 induction i using whD.induct s dig with
 | case1 i h hp ih => intro n; rw [numD_step h hp, kS h hp, ih]
 | case2 i h hp => intro n; rw [vm h (by simpa using hp), numD_stop (fun _ => by simpa using hp)]
 | case3 i h => intro n; rw [vC (by omega), numD_stop (fun h1 => absurd h1 h)]
theorem textD_quote {s : ByteArray} {i : Nat} {l : List UInt8} (h : i < s.size) (h1 : bt s i = 34) : textD s i l = if l.length ≤ 200 then some (l, i + 1) else none := by rw [textD, dif_pos h, if_pos h1]
theorem textD_low {s : ByteArray} {i : Nat} {l : List UInt8} (h : i < s.size) (h1 : bt s i < 32) : textD s i l = none := by rw [textD, dif_pos h, if_neg (by omega), if_pos h1]
theorem vQ {s : ByteArray} {i v j : Nat} {l : List UInt8} (h : i < s.size) (h1 : bt s i = 92) (he : escD s (i + 1) = some (v, j)) : textD s i l = textD s j (l ++ [UInt8.ofNat v]) := by
 rw [textD, dif_pos h, if_neg (by omega), if_neg (by omega), if_pos h1];split
 · rename_i v' j' he'
   rw [he] at he'
   cases he'
   rw [dif_pos (by have := escD_lt he; omega)]
 · rename_i he'
   rw [he] at he'
   cases he'
theorem qJ {s : ByteArray} {i : Nat} {l : List UInt8} (h : i < s.size) (h1 : bt s i = 92) (he : escD s (i + 1) = none) : textD s i l = none := by
 rw [textD, dif_pos h, if_neg (by omega), if_neg (by omega), if_pos h1];split
 · rename_i v' j' he'
   rw [he] at he'
   cases he'
 · rfl
theorem textD_byte {s : ByteArray} {i : Nat} {l : List UInt8} (h : i < s.size) (h1 : bt s i ≠ 34) (h2 : 32 ≤ bt s i) (h3 : bt s i ≠ 92) : textD s i l = textD s (i + 1) (l ++ [UInt8.ofNat (bt s i)]) := by
 rw [textD, dif_pos h, if_neg h1, if_neg (by omega), if_neg h3]
theorem textD_end {s : ByteArray} {i : Nat} {l : List UInt8} (h : s.size ≤ i) : textD s i l = none := by rw [textD, dif_neg (by omega)]
theorem textD_lt {s : ByteArray} (i : Nat) (l : List UInt8) : ∀ {r : List UInt8} {j : Nat}, textD s i l = some (r, j) → i < j ∧ j ≤ s.size ∧ r.length ≤ 200 := by
 induction i, l using textD.induct s with
 | case1 i l h h1 h2 => intro r j hr; rw [textD_quote h h1, if_pos h2] at hr; cases hr; omega
 | case2 i l h h1 h2 => intro r j hr; rw [textD_quote h h1, if_neg h2] at hr; cases hr
 | case3 i l h h1 h2 => intro r j hr; rw [textD_low h h2] at hr; cases hr
 | case4 i l h h1 h2 h3 v j' he hlt ih => intro r j hr; rw [vQ h h3 he] at hr; have := ih hr; have := escD_lt he; omega
 | case5 i l h h1 h2 h3 v j' he hlt => exact absurd (by have := escD_lt he; omega) hlt
 | case6 i l h h1 h2 h3 he => intro r j hr; rw [qJ h h3 he] at hr; cases hr
 | case7 i l h h1 h2 h3 ih => intro r j hr; rw [textD_byte h h1 (by omega) h3] at hr; have := ih hr; omega
 | case8 i l h => intro r j hr; rw [textD_end (by omega)] at hr; cases hr
theorem varD_step {s : ByteArray} {f i : Nat} (h : i < s.size) (hp : (kf (bt s i) || (decide (f < i) && dig (bt s i))) = true) : varD s f i = varD s f (i + 1) := by rw [varD, dif_pos h, if_pos hp]
theorem qI {s : ByteArray} {f i : Nat} (h : i < s.size → (kf (bt s i) || (decide (f < i) && dig (bt s i))) = false) : varD s f i = i := by
 rw [varD];split
 · rename_i h1; rw [if_neg (by simpa using h h1)]
 · rfl
theorem varD_ge {s : ByteArray} (f i : Nat) : i ≤ varD s f i ∧ (i ≤ s.size → varD s f i ≤ s.size) := by
 induction i using varD.induct s f with
 | case1 i h hp ih => rw [varD_step h hp]; omega
 | case2 i h hp => rw [qI (fun _ => by simpa using hp)]; omega
 | case3 i h => rw [qI (fun h1 => absurd h1 h)]; omega
theorem tokD_lt {s : ByteArray} {i : Nat} {t : Tok} {j : Nat} (hi : i < s.size) (h : tokD s i = some (t, j)) : i < j ∧ j ≤ s.size := by
 unfold tokD at h;split at h
 · rename_i hd
   have h1 := numD_wh (s := s) i 0;have h2 := whD_ge s dig (i + 1);rw [kS hi hd] at h1;split at h
   · cases h; omega
   · cases h
 · split at h
   · split at h
     · rename_i b j' hb
       have := textD_lt _ _ hb
       cases h; omega
     · cases h
   · split at h
     · have hgo : ∀ f, i < f → f ≤ s.size → (if f < varD s f f ∧ varD s f f - f ≤ 20 then some (((5, i, cut s i (varD s f f), 0) : Tok), varD s f f) else none) = some (t, j) → i < j ∧ j ≤ s.size := by
        intro f hf hfs hq;have h3 := varD_ge (s := s) f f;split at hq
        · simp only [Option.some.injEq, Prod.mk.injEq] at hq;omega
        · cases hq
       by_cases hh : tokD.hasQ s (i + 1) = true
       · rw [if_pos hh] at h;have h4 : i + 1 < s.size := (by simp [tokD.hasQ] at hh; omega);exact hgo _ (by omega) (by omega) h
       · rw [if_neg hh] at h;exact hgo _ (by omega) (by omega) h
     · split at h
       · rename_i hn
         have h2 := whD_ge s jB (i + 1);have h1 := kS (s := s) (p := jB) hi (by simp only [jB, Bool.or_eq_true] at hn ⊢; rcases hn with (h | h) | h <;> simp [h])
         have hgo : ∀ (k : Nat), (if whD s jB i - i ≤ 20 then some (((k, i, cut s i (whD s jB i), 0) : Tok), whD s jB i) else none) = some (t, j) → i < j ∧ j ≤ s.size := by
          intro k hq;split at hq
          · simp only [Option.some.injEq, Prod.mk.injEq] at hq;omega
          · cases hq
         exact hgo _ h
       · split at h
         · rename_i hp
           simp only [Option.some.injEq, Prod.mk.injEq] at h;omega
         · split at h
           · simp only [Option.some.injEq, Prod.mk.injEq] at h;omega
           · cases h
theorem toksD_bad {s : ByteArray} {i j : Nat} {l : List Tok} (h : gapD s i = (j, false)) : qc s i l = (l, (3, j)) := by rw [qc, h]
theorem vK {s : ByteArray} {i : Nat} {l : List Tok} (h : gapD s i = (s.size, true)) : qc s i l = (l ++ [(0, s.size, ByteArray.empty, 0)], (0, 0)) := by rw [qc, h]; simp
theorem toksD_none {s : ByteArray} {i j : Nat} {l : List Tok} (h : gapD s i = (j, true)) (hj : j ≠ s.size) (ht : tokD s j = none) : qc s i l = (l, (3, j)) := by
 rw [qc, h]; simp only; rw [if_neg hj, ht]
theorem ye {s : ByteArray} {i j k : Nat} {t : Tok} {l : List Tok} (hi : i ≤ s.size) (h : gapD s i = (j, true)) (hj : j ≠ s.size) (ht : tokD s j = some (t, k)) : qc s i l = qc s k (l ++ [t]) := by
 have h1 := gapD_ge (s := s) i hi;rw [h] at h1;simp only at h1;have h2 := tokD_lt (by omega) ht;rw [qc, h];simp only
 rw [if_neg hj, ht];simp only
 rw [dif_pos ⟨by omega, h2.2⟩]
def esc (b : UInt8) : List UInt8 :=
 if b.toNat = 10 then [92, 110] else if b.toNat = 9 then [92, 116] else if b.toNat = 34 ∨ b.toNat = 92 then [92, b]
 else if b.toNat < 32 ∨ 126 < b.toNat then [92, UInt8.ofNat (48 + b.toNat / 100), UInt8.ofNat (48 + b.toNat / 10 % 10), UInt8.ofNat (48 + b.toNat % 10)] else [b]
def quoteL (l : List UInt8) : List UInt8 := 34 :: (l.flatMap esc ++ [34])
def qC (s : ByteArray) : ByteArray := ⟨(quoteL s.data.toList).toArray⟩
theorem sizeA (l : List UInt8) : (⟨l.toArray⟩ : ByteArray).size = l.length := by simp [ByteArray.size]
theorem esc_cases (b : UInt8) : (b.toNat = 10 ∧ esc b = [92, 110]) ∨ (b.toNat = 9 ∧ esc b = [92, 116]) ∨ ((b.toNat = 34 ∨ b.toNat = 92) ∧ esc b = [92, b]) ∨
 ((b.toNat < 32 ∨ 126 < b.toNat) ∧ esc b = [92, UInt8.ofNat (48 + b.toNat / 100), UInt8.ofNat (48 + b.toNat / 10 % 10), UInt8.ofNat (48 + b.toNat % 10)] ∧ b.toNat ≠ 10 ∧ b.toNat ≠ 9) ∨
 (32 ≤ b.toNat ∧ b.toNat ≤ 126 ∧ b.toNat ≠ 34 ∧ b.toNat ≠ 92 ∧ esc b = [b]) := by
 unfold esc
 repeat' split
 all_goals simp_all
 all_goals omega
theorem badD_none {s : ByteArray} (i : Nat) : (∀ k, i ≤ k → k < s.size → okB (bt s k) = true) → badD s i = none := by
 induction i using badD.induct s with
 | case1 i h hp ih => intro hk; rw [badD, dif_pos h, if_pos hp]; exact ih fun k h1 h2 => hk k (by omega) h2
 | case2 i h hp => intro hk; exact absurd (hk i (by omega) h) hp
 | case3 i h => intro hk; rw [badD, dif_neg h]
def dgL (n : Nat) : List UInt8 := if _h : n < 10 then [UInt8.ofNat (48 + n)] else dgL (n / 10) ++ [UInt8.ofNat (48 + n % 10)]
termination_by n
def dgW (n : Nat) : ByteArray := ⟨(dgL n).toArray⟩
def Wt (w : ByteArray) (k : Nat) (t : ByteArray) (n : Nat) : Prop := jH w = ([(k, 0, t, n), (0, w.size, ByteArray.empty, 0)], (0, 0))
structure Nm (k : Nat) (s : ByteArray) : Prop where
 wt : Wt s k s 0
 pos : 0 < s.size
 bytes : ∀ b ∈ s.data.toList, jB b.toNat = true
inductive PathW : Nat → ByteArray → List ByteArray → Prop
 | low {s} : Nm 3 s → PathW 3 s [s]
 | up {s} : Nm 4 s → PathW 4 s [s]
 | more {k s t ws} : Nm 4 s → PathW k t ws → PathW k (s ++ s_dot ++ t) (s :: s_dot :: ws)
def opL (k : Nat) : List ByteArray :=
 if k = 1 then [s_asg] else if k = 4 then [s_eq, s_ne, s_lt, s_le, s_gt, s_ge] else if k = 5 then [s_cons] else if k = 6 then [s_pl, s_mi, s_ca] else if k = 7 then [s_st, s_sl, s_pc] else []
def opA (k : Nat) : Nat := if k = 6 ∨ k = 7 then k else k + 1
def opB (k : Nat) : Nat := if k = 5 then k else k + 1
inductive Cat where
 | e0 (k : Nat) | ex (k : Nat) | rule | p0 (k : Nat) | pt (k : Nat) | t0 (k : Nat) | ty (k : Nat)
 | dec (w : Nat) | dx | fb | db | con | body | sig | spec | tv | head (s : ByteArray)
 | row (c : Cat) (s : ByteArray) | many (c : Cat)
abbrev e_ : ByteArray := ⟨#[]⟩
open Cat in
inductive DX (X : Prop) : Cat → Nat → List Ty → List ByteArray → Prop
 | row1 {c s g n ws} : DX X c g [n] ws → DX X (row c s) g [n] ws
 | rowS {c s g n m l ws vs} : DX X c g [n] ws → DX X (row c s) g (m :: l) vs → DX X (row c s) g (n :: m :: l) (ws ++ s :: vs)
 | mnil {c g} : DX X (many c) g [] []
 | mcons {c g n l ws vs} : DX X c g [n] ws → DX X (many c) g l vs → DX X (many c) g (n :: l) (ws ++ vs)
 | e_int {g a} {N : Nat} : N ≤ 1000000000 → DX X (e0 10) g [.mk 1 a e_ N []] [dgW N]
 | e_str {g a s} : s.size ≤ 200 → DX X (e0 10) g [.mk 2 a s 0 []] [qC s]
 | e_path {g a s ws} {k : Nat} : PathW k s ws → DX X (e0 10) g [.mk k a s 0 []] ws
 | e_tf {g a s} : s = w_true ∨ s = w_false → DX X (e0 10) g [.mk 4 a s 0 []] [s]
 | e_unit {g a} : DX X (e0 10) g [.mk 5 a e_ 0 []] [s_lp, s_rp]
 | e_tup {g a x y l ws} : DX X (row (ex 0) s_com) g (x :: y :: l) ws → DX X (e0 10) (g + 1) [.mk 5 a e_ 0 (x :: y :: l)] (s_lp :: (ws ++ [s_rp]))
 | e_seq {g a x y l ws} : DX X (row (ex 0) s_sem) g (x :: y :: l) ws → DX X (e0 10) (g + 1) [.mk 15 a e_ 0 (x :: y :: l)] (s_lp :: (ws ++ [s_rp]))
 | e_nil {g a} : DX X (e0 10) g [.mk 6 a e_ 0 []] [s_lb, s_rb]
 | e_list {g a x l ws} : DX X (row (ex 0) s_com) g (x :: l) ws → DX X (e0 10) (g + 1) [.mk 6 a e_ 0 (x :: l)] (s_lb :: (ws ++ [s_rb]))
 | e_app {g a f x fw xw} : DX X (ex 8) g [f] fw → DX X (ex 9) g [x] xw → DX X (e0 8) g [.mk 8 a e_ 0 [f, x]] (fw ++ xw)
 | e_fn {g a p e pw ew} : DX X (pt 2) (g + 1) [p] pw → DX X (ex 0) g [e] ew → DX X (e0 0) (g + 1) [.mk 7 a e_ 0 [p, e]] (w_fn :: (pw ++ s_arr :: ew))
 | e_if {g a x y z xw yw zw} : DX X (ex 0) g [x] xw → DX X (ex 0) g [y] yw → DX X (ex 0) g [z] zw → DX X (e0 0) (g + 1) [.mk 9 a e_ 0 [x, y, z]] (w_if :: (xw ++ w_then :: (yw ++ w_else :: zw)))
 | e_raise {g a x xw} : DX X (ex 0) g [x] xw → DX X (e0 0) (g + 1) [.mk 13 a e_ 0 [x]] (w_raise :: xw)
 | e_case {g a e r l ew rw} : DX X (ex 0) g [e] ew → DX X (row rule s_bar) (g + 1) (r :: l) rw → DX X (e0 10) (g + 1) [.mk 10 a e_ 0 (e :: r :: l)] (w_case :: (ew ++ w_of :: (rw ++ [w_end])))
 | e_try {g a e r l ew rw} : DX X (ex 0) g [e] ew → DX X (row rule s_bar) (g + 1) (r :: l) rw → DX X (e0 10) (g + 1) [.mk 11 a e_ 0 (e :: r :: l)] (w_try :: (ew ++ w_with :: (rw ++ [w_end])))
 | e_let {g a l e lw ew} : DX X (many (dec 2)) g l lw → DX X (ex 0) g [e] ew → DX X (e0 10) (g + 1) [.mk 14 a e_ l.length (l ++ [e])] (w_let :: (lw ++ w_in :: (ew ++ [w_end])))
 | e_has {g a e t ew tw} : DX X (ex 0) g [e] ew → DX X (ty 0) g [t] tw → DX X (e0 10) (g + 1) [.mk 19 a e_ 0 [e, t]] (s_lp :: (ew ++ s_col :: (tw ++ [s_rp])))
 | e_or {g a x y xw yw} : DX X (ex 2) g [x] xw → DX X (ex 3) g [y] yw → DX X (e0 2) g [.mk 17 a e_ 0 [x, y]] (xw ++ w_orelse :: yw)
 | e_and {g a x y xw yw} : DX X (ex 3) g [x] xw → DX X (ex 4) g [y] yw → DX X (e0 3) g [.mk 16 a e_ 0 [x, y]] (xw ++ w_andalso :: yw)
 | e_op {g a s k x y xw yw} : s ∈ opL k → DX X (ex (opA k)) g [x] xw → DX X (ex (opB k)) g [y] yw → DX X (e0 k) g [.mk 18 a s 0 [x, y]] (xw ++ s :: yw)
 | e_un {g a s x xw} : s = s_ti ∨ s = s_ex → DX X (ex 9) g [x] xw → DX X (e0 9) g [.mk 18 a s 0 [x]] (s :: xw)
 | ex_np {g h k l n ws} : DX X (e0 k) h [n] ws → l ≤ k → h ≤ g → DX X (ex l) g [n] ws
 | ex_par {g h k l n ws} : DX X (e0 k) h [n] ws → k < l → h < g → DX X (ex l) g [n] (s_lp :: (ws ++ [s_rp]))
 | rule {g a p e pw ew} : DX X (pt 0) g [p] pw → DX X (ex 0) g [e] ew → DX X rule (g + 1) [.mk 12 a e_ 0 [p, e]] (pw ++ s_arr :: ew)
 | p_any {g a} : DX X (p0 2) g [.mk 20 a e_ 0 []] [s_us]
 | p_var {g a s} : Nm 3 s → DX X (p0 2) g [.mk 21 a s 0 []] [s]
 | p_int {g a} {N : Nat} : N ≤ 1000000000 → DX X (p0 2) g [.mk 22 a e_ N []] [dgW N]
 | p_neg {g a} {N : Nat} : 0 < N → N ≤ 1000000000 → DX X (p0 2) g [.mk 22 a e_ (-(N : Int)) []] [s_ti, dgW N]
 | p_str {g a s} : s.size ≤ 200 → DX X (p0 2) g [.mk 23 a s 0 []] [qC s]
 | p_con {g a s ws} : PathW 4 s ws → DX X (p0 2) g [.mk 24 a s 0 []] ws
 | p_tf {g a s} : s = w_true ∨ s = w_false → DX X (p0 2) g [.mk 24 a s 0 []] [s]
 | p_arg {g a s ws p pw} : PathW 4 s ws → DX X (pt 2) g [p] pw → DX X (p0 1) g [.mk 24 a s 0 [p]] (ws ++ pw)
 | p_unit {g a} : DX X (p0 2) g [.mk 25 a e_ 0 []] [s_lp, s_rp]
 | p_tup {g a x y l ws} : DX X (row (pt 0) s_com) g (x :: y :: l) ws → DX X (p0 2) (g + 1) [.mk 25 a e_ 0 (x :: y :: l)] (s_lp :: (ws ++ [s_rp]))
 | p_nil {g a} : DX X (p0 2) g [.mk 26 a e_ 0 []] [s_lb, s_rb]
 | p_list {g a x l ws} : DX X (row (pt 0) s_com) g (x :: l) ws → DX X (p0 2) (g + 1) [.mk 26 a e_ 0 (x :: l)] (s_lb :: (ws ++ [s_rb]))
 | p_cons {g a p q pw qw} : DX X (pt 1) g [p] pw → DX X (pt 0) g [q] qw → DX X (p0 0) g [.mk 27 a e_ 0 [p, q]] (pw ++ s_cons :: qw)
 | p_as {g a s p pw} : Nm 3 s → DX X (pt 0) g [p] pw → DX X (p0 2) (g + 1) [.mk 28 a s 0 [p]] (s_lp :: s :: w_as :: (pw ++ [s_rp]))
 | p_has {g a p t pw tw} : DX X (pt 0) g [p] pw → DX X (ty 0) g [t] tw → DX X (p0 2) (g + 1) [.mk 29 a e_ 0 [p, t]] (s_lp :: (pw ++ s_col :: (tw ++ [s_rp])))
 | pt_np {g h k l n ws} : DX X (p0 k) h [n] ws → l ≤ k → h ≤ g → DX X (pt l) g [n] ws
 | pt_par {g h k l n ws} : DX X (p0 k) h [n] ws → k < l → h < g → DX X (pt l) g [n] (s_lp :: (ws ++ [s_rp]))
 | t_var {g a s} : Nm 5 s → DX X (t0 2) g [.mk 30 a s 0 []] [s]
 | t_con {g a s ws} : PathW 3 s ws → DX X (t0 2) g [.mk 31 a s 0 []] ws
 | t_one {g a s ws t tw} : DX X (ty 2) g [t] tw → PathW 3 s ws → DX X (t0 2) g [.mk 31 a s 0 [t]] (tw ++ ws)
 | t_more {g a s ws x y l tw} : DX X (row (ty 0) s_com) g (x :: y :: l) tw → PathW 3 s ws → DX X (t0 2) (g + 1) [.mk 31 a s 0 (x :: y :: l)] (s_lp :: (tw ++ s_rp :: ws))
 | t_tup {g a x y l ws} : DX X (row (ty 2) s_st) g (x :: y :: l) ws → DX X (t0 1) g [.mk 32 a e_ 0 (x :: y :: l)] ws
 | t_arr {g a x y xw yw} : DX X (ty 1) (g + 1) [x] xw → DX X (ty 0) g [y] yw → DX X (t0 0) (g + 1) [.mk 33 a e_ 0 [x, y]] (xw ++ s_to :: yw)
 | ty_np {g h k l n ws} : DX X (t0 k) h [n] ws → l ≤ k → h ≤ g → DX X (ty l) g [n] ws
 | ty_par {g h k l n ws} : DX X (t0 k) h [n] ws → k < l → h < g → DX X (ty l) g [n] (s_lp :: (ws ++ [s_rp]))
 | d_val {g a w p e pw ew} : DX X (pt 0) g [p] pw → DX X (ex 0) g [e] ew → DX X (dec w) (g + 1) [.mk 34 a e_ 0 [p, e]] (w_val :: (pw ++ s_eq :: ew))
 | d_fun {g a w x l ws} : DX X (row fb w_and) g (x :: l) ws → DX X (dec w) g [.mk 35 a e_ 0 (x :: l)] (w_fun :: ws)
 | fb {g a s p l e lw ew} : Nm 3 s → DX X (many (pt 2)) (g + 1) (p :: l) lw → DX X (ex 0) g [e] ew → DX X fb (g + 1) [.mk 36 a s 0 ((p :: l) ++ [e])] (s :: (lw ++ s_eq :: ew))
 | fb_has {g a b s p l e t lw ew tw} : X → Nm 3 s → DX X (many (pt 2)) (g + 2) (p :: l) lw → DX X (ex 0) g [e] ew → DX X (ty 0) (g + 1) [t] tw → DX X fb (g + 2) [.mk 36 a s 0 ((p :: l) ++ [.mk 19 b e_ 0 [e, t]])] (s :: (lw ++ s_eq :: s_lp :: (ew ++ s_col :: (tw ++ [s_rp]))))
 | d_type {g a w s l t hw tw} : w ≤ 1 → DX X (head s) g l hw → DX X (ty 0) g [t] tw → DX X (dec w) (g + 1) [.mk 37 a s l.length (l ++ [t])] (w_type :: (hw ++ s_eq :: tw))
 | d_dx {g w n ws} : n.k = 41 ∨ w ≤ 1 → DX X dx g [n] ws → DX X (dec w) g [n] ws
 | dx_data {g a x l ws} : DX X (row db w_and) g (x :: l) ws → DX X dx g [.mk 38 a e_ 0 (x :: l)] (w_data :: ws)
 | dx_exn0 {g a s} : Nm 4 s → DX X dx g [.mk 41 a s 0 []] [w_exception, s]
 | dx_exn1 {g a s t tw} : Nm 4 s → DX X (ty 0) g [t] tw → DX X dx (g + 1) [.mk 41 a s 0 [t]] (w_exception :: s :: w_of :: tw)
 | db {g a s v x l hw ws} : DX X (head s) g v hw → DX X (row con s_bar) g (x :: l) ws → DX X db g [.mk 39 a s v.length (v ++ x :: l)] (hw ++ s_eq :: ws)
 | con0 {g a s} : Nm 4 s → DX X con g [.mk 40 a s 0 []] [s]
 | con1 {g a s t tw} : Nm 4 s → DX X (ty 0) g [t] tw → DX X con (g + 1) [.mk 40 a s 0 [t]] (s :: w_of :: tw)
 | d_str0 {g a w s b bw} : w ≤ 1 → Nm 4 s → DX X body g [b] bw → DX X (dec w) g [.mk 42 a s 0 [b]] (w_structure :: s :: s_eq :: bw)
 | d_str1 {g a w s c x b xw bw} {N : Nat} : w ≤ 1 → Nm 4 s → (c = s_col ∧ N = 1 ∨ c = s_opq ∧ N = 2) → DX X sig g [x] xw → DX X body (g + 1) [b] bw → DX X (dec w) (g + 1) [.mk 42 a s N [x, b]] (w_structure :: s :: c :: (xw ++ s_eq :: bw))
 | d_sig {g a w s x xw} : w = 0 → Nm 4 s → DX X sig g [x] xw → DX X (dec w) (g + 1) [.mk 43 a s 0 [x]] (w_signature :: s :: s_eq :: xw)
 | d_open {g a w s ws} : PathW 4 s ws → DX X (dec w) g [.mk 44 a s 0 []] (w_open :: ws)
 | b_nil {g a} : DX X body g [.mk 45 a e_ 0 []] [w_struct, w_end]
 | b_str {g a x l ws} : DX X (many (dec 1)) g (x :: l) ws → DX X body (g + 1) [.mk 45 a e_ 0 (x :: l)] (w_struct :: (ws ++ [w_end]))
 | b_path {g a s ws} : PathW 4 s ws → DX X body g [.mk 46 a s 0 []] ws
 | s_body {g a l ws} : DX X (many spec) g l ws → DX X sig g [.mk 47 a e_ 0 l] (w_sig :: (ws ++ [w_end]))
 | s_name {g a s} : Nm 4 s → DX X sig g [.mk 48 a s 0 []] [s]
 | sp_val {g a s t tw} : Nm 3 s → DX X (ty 0) g [t] tw → DX X spec (g + 1) [.mk 49 a s 0 [t]] (w_val :: s :: s_col :: tw)
 | sp_type {g a s l hw} : DX X (head s) g l hw → DX X spec g [.mk 50 a s l.length l] (w_type :: hw)
 | sp_type1 {g a s l t hw tw} : DX X (head s) g l hw → DX X (ty 0) g [t] tw → DX X spec (g + 1) [.mk 50 a s l.length (l ++ [t])] (w_type :: (hw ++ s_eq :: tw))
 | sp_dx {g n ws} : DX X dx g [n] ws → DX X spec g [n] ws
 | sp_str {g a s x xw} : Nm 4 s → DX X sig g [x] xw → DX X spec (g + 1) [.mk 51 a s 0 [x]] (w_structure :: s :: s_col :: xw)
 | tv {g a s} : Nm 5 s → DX X tv g [.mk 30 a s 0 []] [s]
 | h_none {g s} : Nm 3 s → DX X (head s) g [] [s]
 | h_one {g s v ws} : Nm 3 s → DX X tv g [v] ws → DX X (head s) g [v] (ws ++ [s])
 | h_more {g s x y l ws} : Nm 3 s → DX X (row tv s_com) g (x :: y :: l) ws → DX X (head s) g (x :: y :: l) (s_lp :: (ws ++ [s_rp, s]))
abbrev D := DX True
def jl : List ByteArray → Nat
 | [] => 0
 | w :: r => w.size + 1 + jl r
theorem jL : ∀ (a b : List ByteArray), jl (a ++ b) = jl a + jl b
 | [], b => by simp [jl]
 | x :: a, b => by simp only [List.cons_append, jl, jL a b]; omega
theorem jl_len : ∀ (a : List ByteArray), a.length ≤ jl a
 | [] => Nat.le_refl _
 | x :: a => by have := jl_len a; simp only [List.length_cons, jl]; omega
def TopG (k : Nat) (n : Ty) (ws : List ByteArray) : Prop :=
 if k = 0 then ∃ l, n = .mk 0 0 e_ 0 l ∧ D (.many (.dec 0)) 59 l ws else if k = 1 then D (.ex 0) 59 [n] ws else if k = 2 then D (.pt 0) 59 [n] ws else D (.ty 0) 59 [n] ws
structure Gl (w : World) : Prop where
 lv : Glob w
 mx : ∃ m, w.cell? ⟨3, 0, none⟩ = some (.int .i64 m)
 tb : Lib.TabIs Tryz.prog w "internal/strconv.uint64pow10" .u64 Lib.pow10Tab
theorem gP4 : Tryz.prog.globalNamed "internal/strconv.uint64pow10" = some 4 := by kernel_rfl
abbrev Bx := Nat × Array Value × TypeId
structure Gp (B pb : Nat) (v0 : Value) (w0 : World) (l : List ByteArray) (W : World) (bs : List Bx) : Prop where
 st : ∃ v, PS B pb l v W ∧ FrP pb v0 w0 v W ∧ ∀ x ∈ bs, W.heap[x.1]? = some (.cells x.2.1 x.2.2 (0, 0)) ∧ x.1 ≠ pb ∧ v.ownBlock ≠ some x.1
 v0 : ∀ g, v0.ownBlock = some g → B ≤ g
 gl : Gl W
 g2 : 9 ≤ B
 top : B ≤ w0.heap.size
section
variable {B pb : Nat} {v0 : Value} {w0 W W' : World} {l : List ByteArray} {bs : List Bx}
theorem Gl.of (h : Gl W) (hb : ∀ b, b < 9 → W'.heap[b]? = W.heap[b]?) : Gl W' := ⟨h.lv.of (fun k => World.cell?_of_block (hb 0 (by omega))) (fun k => World.cell?_of_block (hb 2 (by omega))), h.mx.imp fun m e => (World.cell?_of_block (hb 3 (by omega))).trans e, by have := h.tb; unfold Lib.TabIs World.var? at *; rw [gP4] at *; simp only [Option.bind_some] at *; rw [hb 4 (by omega)]; exact this⟩
theorem Gp.low (h : Gp B pb v0 w0 l W bs) : B ≤ pb ∧ B ≤ W.heap.size := by obtain ⟨v, h1, -⟩ := h.st; exact ⟨h1.low, h1.top⟩
theorem Gp.below (h : Gp B pb v0 w0 l W bs) (hb : Below W.heap.size W W') : Gp B pb v0 w0 l W' bs := by
 obtain ⟨v, h1, h2, h3⟩ := h.st;exact ⟨⟨v, h1.below hb, h2.trans (.below hb), fun x hx => ⟨jo (h3 x hx).1 hb (lt_of_block (h3 x hx).1), (h3 x hx).2⟩⟩, h.v0, h.gl.of fun b hb9 => hb.block b (Nat.lt_of_lt_of_le (Nat.lt_of_lt_of_le hb9 h.g2) h1.top), h.g2, h.top⟩
theorem Gp.box (h : Gp B pb v0 w0 l W bs) {c : Array Value} {t : TypeId} (e : W' = W.alloc (.cells c t)) : Gp B pb v0 w0 l W' ((W.heap.size, c, t) :: bs) := by
 have h9 := h.below (W' := W') (by rw [e]; exact jk (Below.refl _ _) _);obtain ⟨v, h1, h2, h3⟩ := h9.st;refine ⟨⟨v, h1, h2, fun x hx => ?_⟩, h9.v0, h9.gl, h9.g2, h9.top⟩;rcases List.mem_cons.1 hx with rfl | hx
 · obtain ⟨v9, h4, h5, -⟩ := h.st
   have hv : v = v9 := by
    have := h1.row;rw [e, Below.heap_alloc _ _ _ h4.lt, h4.row] at this;simp at this; exact this.symm
   exact ⟨by rw [e]; exact heap_alloc_new W _, fun e2 => by have := h4.lt; simp at e2; omega, fun e2 => by rw [hv] at e2; have := (h4.own.lt _ e2).2; simp at this⟩
 · exact h3 x hx
theorem Gp.mono (h : Gp B pb v0 w0 l W bs) {cs : List Bx} (hs : ∀ x ∈ cs, x ∈ bs) : Gp B pb v0 w0 l W cs := by
 obtain ⟨v, h1, h2, h3⟩ := h.st;exact ⟨⟨v, h1, h2, fun x hx => h3 x (hs x hx)⟩, h.v0, h.gl, h.g2, h.top⟩
theorem Gp.at (h : Gp B pb v0 w0 l W bs) {b : Nat} {c : Array Value} {t : TypeId} (hx : (b, c, t) ∈ bs) : W.heap[b]? = some (.cells c t (0, 0)) := by
 obtain ⟨v, h1, h2, h3⟩ := h.st;exact (h3 _ hx).1
theorem Gp.set (h : Gp B pb v0 w0 l W bs) {b i : Nat} {c : Array Value} {t : TypeId} {u : Value} (hx : (b, c, t) ∈ bs) {cs : List Bx} (hs : ∀ x ∈ cs, x.1 ≠ b ∧ x ∈ bs) (hb : B ≤ b) (hw : w0.heap.size ≤ b) : Gp B pb v0 w0 l (W.setCell ⟨b, i, none⟩ u) ((b, c.setIfInBounds i u, t) :: cs) := by
 obtain ⟨v, h1, h2, h3⟩ := h.st;obtain ⟨h4, h5, h6⟩ := h3 _ hx;have hg := jX W b i u;refine ⟨⟨v, ⟨by rw [Below.heap_setCell _ _ _ _ (Ne.symm h5)]; exact h1.row, h1.own.kept hg (.inr fun e => h6 e), h1.low, Nat.le_trans h1.top hg.size⟩, ⟨h2.os, h2.tape, h2.output, Nat.le_trans h2.size hg.size, fun b9 hb9 hp hv => ?_, h2.lies⟩, fun x hx9 => ?_⟩, h.v0, h.gl.of fun b9 hb9 => ?_, h.g2, h.top⟩
 · rw [Below.heap_setCell _ _ _ _ (by show b9 ≠ b; omega)]; exact h2.block b9 hb9 hp hv
 · rcases List.mem_cons.1 hx9 with rfl | hx9
   · exact ⟨jy h4 i u, h5, h6⟩
   · exact ⟨by rw [Below.heap_setCell _ _ _ _ (hs x hx9).1]; exact (h3 x (hs x hx9).2).1, (h3 x (hs x hx9).2).2⟩
 · rw [Below.heap_setCell _ _ _ _ (by have := h.g2; show b9 ≠ b; omega)]
theorem Gp.lt (h : Gp B pb v0 w0 l W bs) {x : Bx} (hx : x ∈ bs) : x.1 < W.heap.size := by
 obtain ⟨v, h1, h2, h3⟩ := h.st;exact lt_of_block (h3 x hx).1
theorem Gp.old (h : Gp B pb v0 w0 l W bs) : w0.heap.size ≤ W.heap.size := by
 obtain ⟨v, h1, h2, h3⟩ := h.st;exact h2.size
theorem Gp.hd {b : Nat} {c : Array Value} {t : TypeId} (h : Gp B pb v0 w0 l W ((b, c, t) :: bs)) : W.heap[b]? = some (.cells c t (0, 0)) := h.at (List.mem_cons_self ..)
theorem jM {b t : Nat} {k a s q x : Value} (h : W.heap[b]? = some (.cells #[k, a, s, q, x] t (0, 0))) : W.cell? ⟨b, 0, none⟩ = some k ∧ W.cell? ⟨b, 1, none⟩ = some a ∧ W.cell? ⟨b, 2, none⟩ = some s ∧ W.cell? ⟨b, 3, none⟩ = some q ∧ W.cell? ⟨b, 4, none⟩ = some x := ⟨ja h 0, ja h 1, ja h 2, ja h 3, ja h 4⟩
theorem jV {b t : Nat} {k : Value} (h : W.heap[b]? = some (.cells #[k] t (0, 0))) : W.cell? ⟨b, 0, none⟩ = some k := ja h 0
theorem Gp.cl (h : Gp B pb v0 w0 l W bs) (hB : B ≤ w0.heap.size) {b : Nat} (hb : b < B) (o : Nat) : W.cell? ⟨b, o, none⟩ = w0.cell? ⟨b, o, none⟩ := by
 obtain ⟨v, h1, h2, h3⟩ := h.st;exact World.cell?_of_block (h2.block b (Nat.lt_of_lt_of_le hb hB) (by have := h1.low; omega) fun e => by have := h.v0 b e; omega)
theorem Gp.kid (h : Gp B pb v0 w0 l W bs) {K : List Ty} {ao : Option Addr} {cap : Nat} (hS : SlD w0 (fun b => b < B) K ao cap) (hB : B ≤ w0.heap.size) {j : Nat} (hj : j < K.length) : ∃ b p ap cp, SlD w0 (fun b => b < B) K[j].args ap cp ∧ b < W.heap.size ∧ (∀ w' : World, (Instr.indexAt 24 (.slice ao K.length cap) (.int .i64 j)).run Tryz.prog w' = .ok (.pointer (some ⟨b, p, none⟩)) w') ∧
 W.cell? ⟨b, p, none⟩ = some (.int .i64 K[j].k) ∧ W.cell? ⟨b, p + 1, none⟩ = some (.int .i64 K[j].n) ∧ W.cell? ⟨b, p + 2, none⟩ = some (.string K[j].s) ∧ W.cell? ⟨b, p + 3, none⟩ = some (.int .i64 K[j].q) ∧ W.cell? ⟨b, p + 4, none⟩ = some (.slice ap K[j].args.length cp) := by
 obtain ⟨b, p, ap, cp, hD, hix, x0, x1, x2, x3, x4, hs⟩ := arg_cells hS hj;rw [← h.cl hB hD] at x0 x1 x2 x3 x4;exact ⟨b, p, ap, cp, hs, Nat.lt_of_lt_of_le hD h.low.2, hix, x0, x1, x2, x3, x4⟩
def PC (n : Nat) (args : Array Value) (ws : List ByteArray) (B pb : Nat) (W : World) (bx : List Bx) : Prop :=
 ∀ v0 w0 l bs, Gp B pb v0 w0 l W bs → (∀ x ∈ bx, x ∈ bs) → jl l + jl ws ≤ 4000000000 → Calls Tryz.prog n args W fun e w' => e = .returned (.tuple #[]) ∧ Gp B pb v0 w0 (l ++ ws) w' bs
theorem put_g (ws : List ByteArray) (g o c m : Nat) (hm : m = ws.length) (h0 : 0 < m) (hc : ∀ j u, (ws.map Value.string)[j]? = some u → W.cell? ((⟨g, o, none⟩ : Addr).add j) = some u) : PC 85 #[pp pb, .slice (some ⟨g, o, none⟩) m c] ws B pb W [] := by
 intro v0 w0 l bs h _ hl;obtain ⟨v, h1, h2, h3⟩ := h.st;refine (put_any B pb l v W h1 ws g o c m hm h0 hc (by have := jl_len l; have := jl_len ws; omega)).mono ?_;rintro e w' ⟨rfl, v', h4, h5⟩;exact ⟨rfl, ⟨v', h4, h2.trans h5, fun x hx => ⟨(h5.block _ (lt_of_block (h3 x hx).1) (h3 x hx).2.1 (h3 x hx).2.2).trans (h3 x hx).1, (h3 x hx).2.1, fun e => (h5.lies _ e).elim (h3 x hx).2.2 fun h6 => by have := lt_of_block (h3 x hx).1; omega⟩⟩, h.v0, h.gl.of fun b hb => h5.block b (by have := h1.top; have := h.g2; omega) (by have := h1.low; have := h.g2; omega) fun e => by have := (h1.own.lt b e).1; have := h.g2; omega, h.g2, h.top⟩
theorem put1 (h : Gp B pb v0 w0 l W bs) (s : ByteArray) (hl : jl l + (s.size + 1) ≤ 4000000000) : Calls Tryz.prog 85 #[pp pb, .slice (some ⟨W.heap.size, 0, none⟩) 1 1] (W.alloc (.cells #[.string s] 9)) fun e w' => e = .returned (.tuple #[]) ∧ Gp B pb v0 w0 (l ++ [s]) w' bs :=
 put_g [s] W.heap.size 0 1 1 rfl (by omega) (jT (c := #[.string s]) _ rfl) _ _ _ _ (h.below (jk (Below.refl _ _) _)) (by simp) (by simpa [jl] using hl)
end
theorem wpList_fn0 {P : Program} {ops : Array Oper} {rest : List Oper} {o : Oper} {a : Act} {Q : Exit → Act → World → Prop} {w : World} {n : Nat} {cp : Array Value} {R : Ending → World → Prop} {ts : Array TypeId} (hc : ∀ (x9 : Array Value) (w : World), (callFunc n x9).run P w = .ok (.enter n x9) w) (hgd : o.guard = none) (f : Operand) (ho : o.op = .call { callee := .value f, args := #[], argTypes := ts }) (hf : a.eval f = .func (.func n) #[] cp) (h : Calls P n cp w R) (k : ∀ e w', R e w' → ∃ v, e = .returned v ∧ wpList P ops Q rest (a.put o.dst v) w') : wpList P ops Q (o :: rest) a w := by
 refine wpList_plain hgd fun K hK => ?_
 unfold Oper.wp execOp;simp only [ho, resolve, invoke, Sem.run_bind, Sem.run_pure, Result.andThen_ok, List.map_toArray, List.map_cons, List.map_nil, hf, Deferred.ofValue, hc];rw [Oper.upon_enter, show (#[] ++ #[] ++ cp : Array Value) = cp by simp];refine h.mono ?_;intro e w' hR;obtain ⟨v, rfl, h9⟩ := k e w' hR;exact hK _ _ h9
theorem wpList_fn1 {P : Program} {ops : Array Oper} {rest : List Oper} {o : Oper} {a : Act} {Q : Exit → Act → World → Prop} {w : World} {n : Nat} {rv cp : Array Value} {v9 : Value} {R : Ending → World → Prop} {ts : Array TypeId} (hc : ∀ (x9 : Array Value) (w : World), (callFunc n x9).run P w = .ok (.enter n x9) w) (hgd : o.guard = none) (f x : Operand) (ho : o.op = .call { callee := .value f, args := #[x], argTypes := ts }) (hf : a.eval f = .func (.func n) rv cp) (hx : a.eval x = v9) (h : Calls P n (rv ++ #[v9] ++ cp) w R) (k : ∀ e w', R e w' → ∃ v, e = .returned v ∧ wpList P ops Q rest (a.put o.dst v) w') : wpList P ops Q (o :: rest) a w := by
 refine wpList_plain hgd fun K hK => ?_
 unfold Oper.wp execOp;simp only [ho, resolve, invoke, Sem.run_bind, Sem.run_pure, Result.andThen_ok, List.map_toArray, List.map_cons, List.map_nil, hf, hx, Deferred.ofValue, hc];rw [Oper.upon_enter];refine h.mono ?_;intro e w' hR;obtain ⟨v, rfl, h9⟩ := k e w' hR;exact hK _ _ h9
end Go.Proofs.YthehjeeiodbkjaaGreatDoor
