/-
  Proved: Proved: rows of plain cells of the call's own (tokens, texts), and what stands when they grow. No condition.; Proved: what stands while a reader reads on, in one bundle: the variables of a call, the nodes that were read, the rows of its own, each apart from what the others may turn. No condition.. Conditions: .
-/
import Derived.Test.YthehjeeiodbkjaaGreatDoorE19
set_option linter.unusedSimpArgs false
set_option linter.unusedVariables false
set_option maxRecDepth 100000
set_option maxHeartbeats 16000000
namespace Go.Proofs.YthehjeeiodbkjaaGreatDoor
open Go.RowKit
/-- a row of plain cells of the call's own -/
def Pw (w wk : World) (X : Nat → Prop) (e : TypeId) (size : Nat) (v : Value) (n : Nat) (xs : List Value) : Prop := wk.ownsRow (w.heap.size + 1) e size v n xs ∧ ∀ g, v.ownBlock = some g → ¬ X g
theorem Pw.nil (w wk : World) (X : Nat → Prop) (e : TypeId) (size : Nat) : Pw w wk X e size (.slice none 0 0) 0 [] := ⟨World.ownsRow_nil _ _ _ _, fun g h => by simp [Value.ownBlock] at h⟩
theorem Pw.len {w wk : World} {X : Nat → Prop} {e : TypeId} {size n : Nat} {v : Value} {xs : List Value} (h : Pw w wk X e size v n xs) : ∃ ao cap, v = .slice ao n cap := by
 by_cases hn : v = .slice none 0 0
 · rcases h.1.2 with ⟨h1, h2⟩ | ⟨g, cap, cur, h1, h2⟩
   · exact ⟨none, 0, by rw [h1, h2]⟩
   · exact ⟨_, _, h1⟩
 · obtain ⟨g, cap, e⟩ := own_shape h.1 hn
   exact ⟨_, _, e⟩
theorem Pw.lt {w wk : World} {X : Nat → Prop} {e : TypeId} {size n : Nat} {v : Value} {xs : List Value} (h : Pw w wk X e size v n xs) : ∀ g, v.ownBlock = some g → w.heap.size < g ∧ g < wk.heap.size ∧ ¬ X g := fun g hg => by
 have := h.1.lt g hg
 exact ⟨by omega, this.2, h.2 g hg⟩
theorem Pw.gr {w w1 w2 : World} {X : Nat → Prop} {rb : Nat} {e : TypeId} {size n : Nat} {v : Value} {xs : List Value} (h : Pw w w1 X e size v n xs) (hg : w1.grownBy w2 (some rb)) (hrb : rb < w.heap.size) : Pw w w2 X e size v n xs :=
 ⟨h.1.kept hg (.inr fun e => by have := (h.1.lt rb e).1; omega), h.2⟩
theorem Pw.set {w w1 : World} {X : Nat → Prop} {q k : Nat} {x v : Value} {e : TypeId} {size n : Nat} {xs : List Value} (h : Pw w w1 X e size v n xs) (hq : q ≤ w.heap.size ∨ X q) : Pw w (w1.setCell ⟨q, k, none⟩ x) X e size v n xs :=
 ⟨h.1.kept (gr_set w1 q k x) (.inr fun e => by
  have := (h.1.lt q e).1
  rcases hq with hq | hq
  · omega
  · exact h.2 q e hq), h.2⟩
theorem Pw.fresh {w w1 : World} {X Y : Nat → Prop} {e : TypeId} {size n : Nat} {v : Value} {xs : List Value} (h : Pw w w1 X e size v n xs) (hy : ∀ a, Y a → X a ∨ w1.heap.size ≤ a) : Pw w w1 Y e size v n xs :=
 ⟨h.1, fun g hg hg2 => by
  rcases hy g hg2 with h5 | h5
  · exact h.2 g hg h5
  · have := (h.1.lt g hg).2; omega⟩
/-- a node of two, laid by a callee -/
theorem Kd.join {w w1 w2 : World} {X : Nat → Prop} {x y : Ty} {ao bo : Option Addr} {c d g : Nat} (h1 : Kd w w1 X x.args ao c) (h2 : Kd w w1 X y.args bo d) (hl : w.heap.size < w1.heap.size) (hX : ∀ a, X a → a < w1.heap.size) (hb : Below w1.heap.size w1 w2) (hg : w1.heap.size ≤ g) (hr : w2.heap[g]? = some (.cells #[.int .i64 x.k, .int .i64 x.n, .string x.s, .int .i64 x.q, .slice ao x.args.length c, .int .i64 y.k, .int .i64 y.n, .string y.s, .int .i64 y.q, .slice bo y.args.length d] 26 (0, 0))) : Kd w w2 X [x, y] (some ⟨g, 0, none⟩) 2 := by
 have hs : g < w2.heap.size := lt_of_block hr
 have k1 : Kd w w2 X x.args ao c := (SlD.keep h1 fun b hb2 off => hb.cell (p := ⟨b, off, none⟩) hb2.2.1).mono fun b hb2 => ⟨hb2.1, Nat.lt_of_lt_of_le hb2.2.1 hb.size, hb2.2.2⟩
 have k2 : Kd w w2 X y.args bo d := (SlD.keep h2 fun b hb2 off => hb.cell (p := ⟨b, off, none⟩) hb2.2.1).mono fun b hb2 => ⟨hb2.1, Nat.lt_of_lt_of_le hb2.2.1 hb.size, hb2.2.2⟩
 have hN : Nw w w2 X g := ⟨by omega, hs, fun e => by have := hX g e; omega⟩
 refine ⟨Nat.le_refl _, ArgsV.of fun k hk => ?_⟩
 have hk2 : k = 0 ∨ k = 1 := by simp at hk; omega
 rcases hk2 with rfl | rfl
 · refine ⟨g, 0, (rowOf x ao c).toList, rfl, hN, fun j hj => ?_, TyV.mk' k1⟩
   rw [blk_cell hr, show 0 + (0 + 0) * 5 + j = j from by omega]
   rcases (by omega : j = 0 ∨ j = 1 ∨ j = 2 ∨ j = 3 ∨ j = 4) with rfl | rfl | rfl | rfl | rfl <;> rfl
 · refine ⟨g, 0, (rowOf y bo d).toList, rfl, hN, fun j hj => ?_, TyV.mk' k2⟩
   rw [blk_cell hr, show 0 + (0 + 1) * 5 + j = 5 + j from by omega]
   rcases (by omega : j = 0 ∨ j = 1 ∨ j = 2 ∨ j = 3 ∨ j = 4) with rfl | rfl | rfl | rfl | rfl <;> rfl
/-- it lies beside blocks of other make -/
theorem Pw.cell {w wk : World} {X : Nat → Prop} {e : TypeId} {size n : Nat} {v : Value} {xs : List Value} (h : Pw w wk X e size v n xs) (hn : 0 < n) : ∃ g cap, v = .slice (some ⟨g, 0, none⟩) n cap ∧ w.heap.size < g ∧ g < wk.heap.size ∧ ¬ X g ∧ ∀ j u, xs[j]? = some u → wk.cell? ⟨g, j, none⟩ = some u := by
 obtain ⟨ao, cap, rfl⟩ := h.len
 rcases h.1.2 with ⟨h1, h2⟩ | ⟨g, cap', cur, h1, h2⟩
 · omega
 · injection h1 with e1 e2 e3
   subst e1
   have hl := h.lt g rfl
   refine ⟨g, cap, rfl, hl.1, hl.2.1, hl.2.2, fun j u hu => ?_⟩
   have hc := h.1.cells (g := g) rfl j u hu
   have hadd : (⟨g, 0, none⟩ : Addr).add j = ⟨g, j, none⟩ := by unfold Addr.add; split <;> simp_all
   rw [hadd] at hc
   exact hc
theorem info59p : (Tryz.prog.info? 59).map (fun i => (i.zero, i.size, i.bytes)) = some (some (.agg #[.int .i64 0, .int .i64 0, .string ⟨#[]⟩, .int .i64 0]), 4, 40) := by kernel_rfl
theorem info9p : (Tryz.prog.info? 9).map (fun i => (i.zero, i.size, i.bytes)) = some (some (.string ⟨#[]⟩), 1, 16) := by kernel_rfl
/-- another row grows, which lies elsewhere -/
theorem Pw.beside {w A w9 : World} {X Y : Nat → Prop} {r : Option Nat} {e : TypeId} {size n : Nat} {v : Value} {xs : List Value} (h : Pw w A Y e size v n xs) (hg : AppG w A w9 X r) (hy : ∀ a, r = some a → Y a) : Pw w w9 Y e size v n xs :=
 ⟨h.1.kept hg.g (by
  cases hv : v.ownBlock with
  | none => exact .inl rfl
  | some b => exact .inr fun e => h.2 b hv (hy b e.symm)), h.2⟩
/-- one more in such a row -/
theorem wpList_appP {w A : World} {ops : Array Oper} {rest : List Oper} {o : Oper} {a : Act} {Q : Exit → Act → World → Prop} {X : Nat → Prop} {v z : Value} {n size bytes : Nat} {xs : List Value} {ty e : TypeId} (hu : Tryz.prog.underlying ty = some (.slice e)) (hinf : (Tryz.prog.info? e).map (fun i => (i.zero, i.size, i.bytes)) = some (some z, size, bytes)) (hzs : z.cells.size = size) (hsz : 0 < size) (hby : bytes ≤ 40) (hgd : o.guard = none) (s x : Operand)
 (ho : o.op = .call { callee := .builtin .append, args := #[s, x], argTypes := #[ty, ty] }) (hs : a.eval s = v) (B : World) (row : Array Value) (hrow : row.toList.length = size) (hA : A = B.alloc (.cells row e)) (hx : a.eval x = .slice (some ⟨B.heap.size, 0, none⟩) 1 1) (ho1 : ∀ u ∈ row.toList, u.oneCell' = true) (h1 : Pw w A X e size v n xs) (hl : w.heap.size < A.heap.size) (hX : ∀ a, X a → a < A.heap.size) (hn : n ≤ 1000000000)
 (h : ∀ ao cap w9, Pw w w9 X e size (.slice ao (n + 1) cap) (n + 1) (xs ++ row.toList) → AppG w A w9 X v.ownBlock → (∀ g, (Value.slice ao (n + 1) cap).ownBlock = some g → v.ownBlock = some g ∨ A.heap.size ≤ g) → wpList Tryz.prog ops Q rest (a.put o.dst (.slice ao (n + 1) cap)) w9) : wpList Tryz.prog ops Q (o :: rest) a A := by
 obtain ⟨i, hi, hz0, hz1, hz2⟩ := info_parts hinf
 have hlt := h1.lt
 refine wpList_append3 hgd s x ty ty ho (w.heap.size + 1) e e i _ size bytes hu hu hi hz0 hz1 hz2 hzs hsz v n xs hs h1.1 (some ⟨B.heap.size, 0, none⟩) 1 1 row.toList hx (by omega) (fun _ => ⟨_, rfl, by rw [hA]; exact new_cells (c := row) _ rfl⟩) ho1 (by unfold maxLen; omega) (Nat.le_trans (Nat.mul_le_mul (show n + 1 ≤ 1000000001 by omega) hby) (by decide)) hl fun v' w9 hown hg hat => ?_
 have hP : Pw w w9 X e size v' (n + 1) (xs ++ row.toList) := ⟨hown, fun g hg1 hx => by
  rcases hat with e | e
  · rw [e] at hg1; exact h1.2 g hg1 hx
  · rw [e] at hg1; have := Option.some.inj hg1; have := hX g hx; omega⟩
 obtain ⟨ao, cap, e⟩ := hP.len
 subst e
 exact h ao cap w9 hP ⟨hg, fun b e => ⟨(hlt b e).1, (hlt b e).2.2⟩⟩ fun g hg1 => by
  rcases hat with e | e
  · rw [e] at hg1; exact .inl hg1
  · rw [e] at hg1; exact .inr (Nat.le_of_eq (Option.some.inj hg1))
/-- one thing that stands: a variable, nodes that were read, a row of the call's own -/
inductive At where
 | nv (b : Nat) (k a s q l : Value)
 | tv (b : Nat) (k a s q : Value)
 | gv (b t : Nat) (row : Array Value)
 | kd (l : List Ty) (ao : Option Addr) (cap : Nat)
 | ow (v : Value) (l : List Ty)
 | pw (e : TypeId) (size : Nat) (v : Value) (n : Nat) (xs : List Value)
/-- the blocks that may be written through it -/
def At.wr : At → Nat → Prop
 | .nv b .. => fun x => x = b
 | .tv b .. => fun x => x = b
 | .gv b .. => fun x => x = b
 | .kd .. => fun _ => False
 | .ow v _ => fun x => v.ownBlock = some x
 | .pw _ _ v _ _ => fun x => v.ownBlock = some x
/-- it stands, apart from X -/
def At.ok (w wk : World) (X : Nat → Prop) : At → Prop
 | .nv b k a s q l => Vb w b 26 #[k, a, s, q, l] wk ∧ ¬ X b
 | .tv b k a s q => Vb w b 59 #[k, a, s, q] wk ∧ ¬ X b
 | .gv b t row => Vb w b t row wk ∧ ¬ X b
 | .kd l ao cap => Kd w wk X l ao cap
 | .ow v l => Ow w wk X v l
 | .pw e size v n xs => Pw w wk X e size v n xs
theorem Kd.mono {w wk : World} {X Y : Nat → Prop} {l : List Ty} {ao : Option Addr} {cap : Nat} (h : Kd w wk X l ao cap) (hy : ∀ x, Y x → X x) : Kd w wk Y l ao cap := h.fresh fun a ha => .inl (hy a ha)
theorem Ow.mono {w wk : World} {X Y : Nat → Prop} {l : List Ty} {v : Value} (h : Ow w wk X v l) (hy : ∀ x, Y x → X x) : Ow w wk Y v l := h.fresh fun a ha => .inl (hy a ha)
theorem At.ok.fresh {w wk : World} {X Y : Nat → Prop} : ∀ {a : At}, a.ok w wk X → (∀ x, Y x → X x ∨ wk.heap.size ≤ x) → a.ok w wk Y
 | .nv .., h, hy => ⟨h.1, fun e => (hy _ e).elim h.2 (fun h9 => by have := lt_of_block h.1.row; omega)⟩
 | .tv .., h, hy => ⟨h.1, fun e => (hy _ e).elim h.2 (fun h9 => by have := lt_of_block h.1.row; omega)⟩
 | .gv .., h, hy => ⟨h.1, fun e => (hy _ e).elim h.2 (fun h9 => by have := lt_of_block h.1.row; omega)⟩
 | .kd .., h, hy => Kd.fresh h hy
 | .ow .., h, hy => Ow.fresh h hy
 | .pw .., h, hy => Pw.fresh h hy
theorem At.ok.mono {w wk : World} {X Y : Nat → Prop} {a : At} (h : a.ok w wk X) (hy : ∀ x, Y x → X x) : a.ok w wk Y := h.fresh fun x hx => .inl (hy x hx)
theorem At.ok.gr {w w1 w2 : World} {X : Nat → Prop} {rb : Nat} (hg : w1.grownBy w2 (some rb)) (hrb : rb < w.heap.size) : ∀ {a : At}, a.ok w w1 X → a.ok w w2 X
 | .nv .., h => ⟨h.1.gr hg hrb, h.2⟩
 | .tv .., h => ⟨h.1.gr hg hrb, h.2⟩
 | .gv .., h => ⟨h.1.gr hg hrb, h.2⟩
 | .kd .., h => Kd.gr h hg hrb
 | .ow .., h => Ow.gr h hg hrb
 | .pw .., h => Pw.gr h hg hrb
theorem At.ok.set {w w1 : World} {X : Nat → Prop} {q j : Nat} {v : Value} (hx : q ≤ w.heap.size ∨ X q) : ∀ {a : At}, a.ok w w1 X → a.ok w (w1.setCell ⟨q, j, none⟩ v) X
 | .nv b .., h => ⟨h.1.other (fun e => hx.elim (fun h9 => by have := h.1.lt; omega) (fun h9 => h.2 (e ▸ h9))) j v, h.2⟩
 | .tv b .., h => ⟨h.1.other (fun e => hx.elim (fun h9 => by have := h.1.lt; omega) (fun h9 => h.2 (e ▸ h9))) j v, h.2⟩
 | .gv b .., h => ⟨h.1.other (fun e => hx.elim (fun h9 => by have := h.1.lt; omega) (fun h9 => h.2 (e ▸ h9))) j v, h.2⟩
 | .kd .., h => Kd.set h hx
 | .ow .., h => Ow.set h hx
 | .pw .., h => Pw.set h hx
theorem At.ok.wr {w wk : World} {X : Nat → Prop} {x : Nat} : ∀ {a : At}, a.ok w wk X → a.wr x → w.heap.size < x ∧ x < wk.heap.size ∧ ¬ X x
 | .nv .., h, e => by cases e; exact ⟨h.1.lt, lt_of_block h.1.row, h.2⟩
 | .tv .., h, e => by cases e; exact ⟨h.1.lt, lt_of_block h.1.row, h.2⟩
 | .gv .., h, e => by cases e; exact ⟨h.1.lt, lt_of_block h.1.row, h.2⟩
 | .kd .., h, e => e.elim
 | .ow v l, h, e => Ow.lt h x e
 | .pw .., h, e => Pw.lt h x e
def wrs (ls : List At) (x : Nat) : Prop := ∃ a ∈ ls, a.wr x
/-- all of these stand, each apart from the others and from Y -/
def AtsY (w wk : World) : (Nat → Prop) → List At → Prop
 | _, [] => True
 | Y, a :: ls => a.ok w wk (fun x => Y x ∨ wrs ls x) ∧ AtsY w wk (fun x => Y x ∨ a.wr x) ls
def Ats (w wk : World) (ls : List At) : Prop := AtsY w wk (fun _ => False) ls
theorem wrs_cons {a : At} {ls : List At} {x : Nat} : wrs (a :: ls) x ↔ a.wr x ∨ wrs ls x := by
 unfold wrs
 constructor
 · rintro ⟨b, hb, h⟩
   rcases List.mem_cons.1 hb with rfl | hb
   · exact .inl h
   · exact .inr ⟨b, hb, h⟩
 · rintro (h | ⟨b, hb, h⟩)
   · exact ⟨a, by simp, h⟩
   · exact ⟨b, by simp [hb], h⟩
theorem AtsY.fresh {w wk : World} : ∀ {ls : List At} {Y Z : Nat → Prop}, AtsY w wk Y ls → (∀ x, Z x → Y x ∨ wk.heap.size ≤ x) → AtsY w wk Z ls
 | [], _, _, _, _ => trivial
 | a :: ls, Y, Z, h, hz => ⟨h.1.fresh fun x hx => hx.elim (fun h9 => (hz x h9).elim (fun h8 => .inl (.inl h8)) .inr) (fun h9 => .inl (.inr h9)), AtsY.fresh h.2 fun x hx => hx.elim (fun h9 => (hz x h9).elim (fun h8 => .inl (.inl h8)) .inr) (fun h9 => .inl (.inr h9))⟩
theorem AtsY.mono {w wk : World} {ls : List At} {Y Z : Nat → Prop} (h : AtsY w wk Y ls) (hz : ∀ x, Z x → Y x) : AtsY w wk Z ls := h.fresh fun x hx => .inl (hz x hx)
theorem AtsY.gr {w w1 w2 : World} {rb : Nat} (hg : w1.grownBy w2 (some rb)) (hrb : rb < w.heap.size) : ∀ {ls : List At} {Y : Nat → Prop}, AtsY w w1 Y ls → AtsY w w2 Y ls
 | [], _, _ => trivial
 | a :: ls, Y, h => ⟨h.1.gr hg hrb, AtsY.gr hg hrb h.2⟩
theorem AtsY.set {w w1 : World} {q j : Nat} {v : Value} : ∀ {ls : List At} {Y : Nat → Prop}, AtsY w w1 Y ls → (q ≤ w.heap.size ∨ Y q) → AtsY w (w1.setCell ⟨q, j, none⟩ v) Y ls
 | [], _, _, _ => trivial
 | a :: ls, Y, h, hq => ⟨h.1.set (hq.elim .inl (fun h9 => .inr (.inl h9))), AtsY.set h.2 (hq.elim .inl (fun h9 => .inr (.inl h9)))⟩
theorem AtsY.wr {w wk : World} {x : Nat} : ∀ {ls : List At} {Y : Nat → Prop}, AtsY w wk Y ls → wrs ls x → w.heap.size < x ∧ x < wk.heap.size ∧ ¬ Y x
 | [], _, _, ⟨_, hb, _⟩ => by cases hb
 | a :: ls, Y, h, hx => (wrs_cons.1 hx).elim (fun h9 => by
  have h1 := h.1.wr h9
  exact ⟨h1.1, h1.2.1, fun e => h1.2.2 (.inl e)⟩) (fun h9 => by
  have h1 := AtsY.wr h.2 h9
  exact ⟨h1.1, h1.2.1, fun e => h1.2.2 (.inl e)⟩)
theorem AtsY.sw {w wk : World} {a b : At} {ls : List At} {Y : Nat → Prop} (h : AtsY w wk Y (a :: b :: ls)) : AtsY w wk Y (b :: a :: ls) := by
 obtain ⟨h1, h2, h3⟩ := h
 refine ⟨h2.mono fun x hx => ?_, h1.mono fun x hx => ?_, h3.mono fun x hx => ?_⟩
 · rcases hx with hx | hx
   · exact .inl (.inl hx)
   · rcases wrs_cons.1 hx with hx | hx
     · exact .inl (.inr hx)
     · exact .inr hx
 · rcases hx with (hx | hx) | hx
   · exact .inl hx
   · exact .inr (wrs_cons.2 (.inl hx))
   · exact .inr (wrs_cons.2 (.inr hx))
 · rcases hx with (hx | hx) | hx
   · exact .inl (.inl hx)
   · exact .inr hx
   · exact .inl (.inr hx)
theorem AtsY.tl {w wk : World} {a : At} {ls bs : List At} {Y : Nat → Prop} (h : AtsY w wk Y (a :: ls)) (hw : ∀ x, wrs bs x → wrs ls x) (f : ∀ Z, AtsY w wk Z ls → AtsY w wk Z bs) : AtsY w wk Y (a :: bs) :=
 ⟨h.1.mono fun x hx => hx.elim .inl (fun h9 => .inr (hw x h9)), f _ h.2⟩
theorem wrs_sw {a b : At} {ls : List At} {x : Nat} (h : wrs (b :: a :: ls) x) : wrs (a :: b :: ls) x := by
 rw [wrs_cons, wrs_cons] at h ⊢
 rcases h with h | h | h
 · exact .inr (.inl h)
 · exact .inl h
 · exact .inr (.inr h)
section
variable {w wk : World} {a b c d e f : At} {ls : List At}
theorem Ats.mv1 (h : Ats w wk (a :: b :: ls)) : Ats w wk (b :: a :: ls) := AtsY.sw h
theorem Ats.mv2 (h : Ats w wk (a :: b :: c :: ls)) : Ats w wk (c :: a :: b :: ls) := AtsY.sw (AtsY.tl h (fun _ => wrs_sw) fun _ => AtsY.sw)
theorem AtsY.mv2 {Y : Nat → Prop} (h : AtsY w wk Y (a :: b :: c :: ls)) : AtsY w wk Y (c :: a :: b :: ls) := AtsY.sw (AtsY.tl h (fun _ => wrs_sw) fun _ => AtsY.sw)
theorem wrs_mv2 {x : Nat} (h : wrs (c :: a :: b :: ls) x) : wrs (a :: b :: c :: ls) x := by
 simp only [wrs_cons] at h ⊢
 rcases h with h | h | h | h
 · exact .inr (.inr (.inl h))
 · exact .inl h
 · exact .inr (.inl h)
 · exact .inr (.inr (.inr h))
theorem Ats.mv3 (h : Ats w wk (a :: b :: c :: d :: ls)) : Ats w wk (d :: a :: b :: c :: ls) := AtsY.sw (AtsY.tl h (fun _ => wrs_mv2) fun _ => AtsY.mv2)
theorem AtsY.mv3 {Y : Nat → Prop} (h : AtsY w wk Y (a :: b :: c :: d :: ls)) : AtsY w wk Y (d :: a :: b :: c :: ls) := AtsY.sw (AtsY.tl h (fun _ => wrs_mv2) fun _ => AtsY.mv2)
theorem wrs_mv3 {x : Nat} (h : wrs (d :: a :: b :: c :: ls) x) : wrs (a :: b :: c :: d :: ls) x := by
 simp only [wrs_cons] at h ⊢
 rcases h with h | h | h | h | h
 · exact .inr (.inr (.inr (.inl h)))
 · exact .inl h
 · exact .inr (.inl h)
 · exact .inr (.inr (.inl h))
 · exact .inr (.inr (.inr (.inr h)))
theorem Ats.mv4 (h : Ats w wk (a :: b :: c :: d :: e :: ls)) : Ats w wk (e :: a :: b :: c :: d :: ls) := AtsY.sw (AtsY.tl h (fun _ => wrs_mv3) fun _ => AtsY.mv3)
theorem AtsY.mv4 {Y : Nat → Prop} (h : AtsY w wk Y (a :: b :: c :: d :: e :: ls)) : AtsY w wk Y (e :: a :: b :: c :: d :: ls) := AtsY.sw (AtsY.tl h (fun _ => wrs_mv3) fun _ => AtsY.mv3)
theorem wrs_mv4 {x : Nat} (h : wrs (e :: a :: b :: c :: d :: ls) x) : wrs (a :: b :: c :: d :: e :: ls) x := by
 simp only [wrs_cons] at h ⊢
 rcases h with h | h | h | h | h | h
 · exact .inr (.inr (.inr (.inr (.inl h))))
 · exact .inl h
 · exact .inr (.inl h)
 · exact .inr (.inr (.inl h))
 · exact .inr (.inr (.inr (.inl h)))
 · exact .inr (.inr (.inr (.inr (.inr h))))
theorem Ats.mv5 (h : Ats w wk (a :: b :: c :: d :: e :: f :: ls)) : Ats w wk (f :: a :: b :: c :: d :: e :: ls) := AtsY.sw (AtsY.tl h (fun _ => wrs_mv4) fun _ => AtsY.mv4)
/-- the first is let go -/
theorem Ats.dr (h : Ats w wk (a :: ls)) : Ats w wk ls := AtsY.mono h.2 fun x hx => hx.elim
theorem Ats.nil : Ats w wk [] := trivial
theorem Ats.gr {w2 : World} {rb : Nat} (h : Ats w wk ls) (hg : wk.grownBy w2 (some rb)) (hrb : rb < w.heap.size) : Ats w w2 ls := AtsY.gr hg hrb h
theorem Ats.wr {x : Nat} (h : Ats w wk ls) (hx : wrs ls x) : w.heap.size < x ∧ x < wk.heap.size := ⟨(AtsY.wr h hx).1, (AtsY.wr h hx).2.1⟩
end
/-- one more that lies in new blocks -/
theorem Ats.put {w w1 wk : World} {a : At} {ls : List At} {rb : Nat} (h : Ats w w1 ls) (hg : w1.grownBy wk (some rb)) (hrb : rb < w.heap.size) (ha : ∀ X, (∀ x, X x → x < w1.heap.size) → a.ok w wk X) (hn : ∀ x, a.wr x → w1.heap.size ≤ x) : Ats w wk (a :: ls) :=
 ⟨ha _ fun x hx => hx.elim False.elim (fun h9 => (h.wr h9).2), AtsY.gr hg hrb (AtsY.fresh h fun x hx => hx.elim False.elim (fun h9 => .inr (hn x h9)))⟩
section
variable {w w1 V : World} {ls : List At} {rb : Nat} {k a s q l : Value}
/-- a variable is made -/
theorem Ats.box {b : Nat} (h : Ats w w1 ls) (hl : w.heap.size < w1.heap.size) (hrb : rb < w.heap.size) (hV : V = w1.alloc (.cells #[k, a, s, q, l] 26)) (hb : b = w1.heap.size) : Ats w V (.nv b k a s q l :: ls) := by
 subst hb
 exact h.put (gr_below (by rw [hV]; exact balloc (Below.refl _ _) _) (some rb)) hrb (fun X hX => ⟨Vb.new hV hl, fun e => by have := hX _ e; omega⟩) (fun x e => Nat.le_of_eq e.symm)
theorem Ats.boxt {b : Nat} (h : Ats w w1 ls) (hl : w.heap.size < w1.heap.size) (hrb : rb < w.heap.size) (hV : V = w1.alloc (.cells #[k, a, s, q] 59)) (hb : b = w1.heap.size) : Ats w V (.tv b k a s q :: ls) := by
 subst hb
 exact h.put (gr_below (by rw [hV]; exact balloc (Below.refl _ _) _) (some rb)) hrb (fun X hX => ⟨Vb.new hV hl, fun e => by have := hX _ e; omega⟩) (fun x e => Nat.le_of_eq e.symm)
/-- nodes are read -/
theorem Ats.rd {x : List Ty} {ao : Option Addr} {cap : Nat} (h : Ats w w1 ls) (hl : w.heap.size < w1.heap.size) (hrb : rb < w.heap.size) (hg : w1.grownBy V (some rb)) (hs : SlD V (fun b => w1.heap.size ≤ b ∧ b < V.heap.size) x ao cap) : Ats w V (.kd x ao cap :: ls) :=
 h.put hg hrb (fun X hX => Kd.of hs hl hX) (fun x e => e.elim)
theorem Ats.rdo {x : List Ty} {v : Value} (h : Ats w w1 ls) (hl : w.heap.size < w1.heap.size) (hrb : rb < w.heap.size) (hg : w1.grownBy V (some rb)) (ho : OwQ w1 x v V) : Ats w V (.ow v x :: ls) :=
 h.put hg hrb (fun X hX => ho.ow hl hX) (fun b e => by obtain ⟨bs, D, h1, h2, h3⟩ := ho; exact (h2.own.lt b e).1)
/-- an empty row -/
theorem Ats.nilo (h : Ats w w1 ls) : Ats w w1 (.ow (.slice none 0 0) [] :: ls) := ⟨Ow.nil _ _ _, AtsY.mono h fun x hx => hx.elim id (fun h9 => by simp [At.wr, Value.ownBlock] at h9)⟩
theorem Ats.nilk (h : Ats w w1 ls) : Ats w w1 (.kd [] none 0 :: ls) := ⟨Kd.nil _ _ _ _ _, AtsY.mono h fun x hx => hx.elim id (fun h9 => h9.elim)⟩
/-- a row's nodes, ls what was read -/
theorem Ats.ko {x : List Ty} {ao : Option Addr} {n cap : Nat} (h : Ats w w1 (.ow (.slice ao n cap) x :: ls)) : Ats w w1 (.kd x ao cap :: ls) := ⟨(Ow.kd h.1).2, AtsY.mono h.2 fun y hy => hy.elim .inl (fun h9 => h9.elim)⟩
theorem OwQ.len9 {w w' : World} {l : List Ty} {v : Value} (h : OwQ w l v w') : ∃ ao cap, v = .slice ao l.length cap := by
 obtain ⟨bs, D, h1, h2, h3⟩ := h
 obtain ⟨ao, cap, e, -⟩ := h2.read (D' := fun _ => True) (fun _ _ => trivial) (fun _ _ => trivial)
 exact ⟨ao, cap, by rw [e, ← h1, List.length_map]⟩
theorem Ats.kd {x : List Ty} {ao : Option Addr} {cap : Nat} (h : Ats w w1 (.kd x ao cap :: ls)) : ∃ X, Kd w w1 X x ao cap := ⟨_, h.1⟩
theorem Ats.ow {x : List Ty} {v : Value} (h : Ats w w1 (.ow v x :: ls)) : ∃ X, Ow w w1 X v x := ⟨_, h.1⟩
/-- the first variable's cells -/
theorem Ats.cs {b : Nat} (h : Ats w w1 (.nv b k a s q l :: ls)) (hrb : rb < w.heap.size) : w1.cell? ⟨b, 0, none⟩ = some k ∧ w1.cell? ⟨b, 1, none⟩ = some a ∧ w1.cell? ⟨b, 2, none⟩ = some s ∧ w1.cell? ⟨b, 3, none⟩ = some q ∧ w1.cell? ⟨b, 4, none⟩ = some l ∧ w1.frozen? ⟨b, 0, none⟩ = false ∧ w1.frozen? ⟨b, 1, none⟩ = false ∧ w1.frozen? ⟨b, 2, none⟩ = false ∧ w1.frozen? ⟨b, 3, none⟩ = false ∧ w1.frozen? ⟨b, 4, none⟩ = false ∧ ¬ (b = rb) ∧ ¬ (b = w.heap.size) ∧ b < w1.heap.size ∧ ¬ (b = w1.heap.size) := by
 have h1 := h.1.1
 have h2 := lt_of_block h1.row
 have h3 := h1.lt
 exact ⟨blk_cell h1.row 0, blk_cell h1.row 1, blk_cell h1.row 2, blk_cell h1.row 3, blk_cell h1.row 4, blk_free h1.row 0, blk_free h1.row 1, blk_free h1.row 2, blk_free h1.row 3, blk_free h1.row 4, by omega, by omega, h2, by omega⟩
theorem Ats.ct {b : Nat} (h : Ats w w1 (.tv b k a s q :: ls)) (hrb : rb < w.heap.size) : w1.cell? ⟨b, 0, none⟩ = some k ∧ w1.cell? ⟨b, 1, none⟩ = some a ∧ w1.cell? ⟨b, 2, none⟩ = some s ∧ w1.cell? ⟨b, 3, none⟩ = some q ∧ ¬ (b = rb) ∧ ¬ (b = w.heap.size) ∧ b < w1.heap.size ∧ ¬ (b = w1.heap.size) := by
 have h1 := h.1.1
 have h2 := lt_of_block h1.row
 have h3 := h1.lt
 exact ⟨blk_cell h1.row 0, blk_cell h1.row 1, blk_cell h1.row 2, blk_cell h1.row 3, by omega, by omega, h2, by omega⟩
/-- the first variable is set -/
theorem Ats.setr {b j : Nat} {v : Value} {r : Array Value} {k' a' s' q' l' : Value} (h : Ats w w1 (.nv b k a s q l :: ls)) (hX : V = w1.setCell ⟨b, j, none⟩ v) (hr : #[k, a, s, q, l].setIfInBounds j v = #[k', a', s', q', l']) : Ats w V (.nv b k' a' s' q' l' :: ls) := by
 subst hX
 exact ⟨⟨hr ▸ h.1.1.set j v, h.1.2⟩, AtsY.set h.2 (.inr (.inr rfl))⟩
theorem Ats.s0 {b : Nat} {v : Value} (h : Ats w w1 (.nv b k a s q l :: ls)) (hX : V = w1.setCell ⟨b, 0, none⟩ v) : Ats w V (.nv b v a s q l :: ls) := h.setr (r := #[]) hX rfl
theorem Ats.s1 {b : Nat} {v : Value} (h : Ats w w1 (.nv b k a s q l :: ls)) (hX : V = w1.setCell ⟨b, 1, none⟩ v) : Ats w V (.nv b k v s q l :: ls) := h.setr (r := #[]) hX rfl
theorem Ats.s2 {b : Nat} {v : Value} (h : Ats w w1 (.nv b k a s q l :: ls)) (hX : V = w1.setCell ⟨b, 2, none⟩ v) : Ats w V (.nv b k a v q l :: ls) := h.setr (r := #[]) hX rfl
theorem Ats.s3 {b : Nat} {v : Value} (h : Ats w w1 (.nv b k a s q l :: ls)) (hX : V = w1.setCell ⟨b, 3, none⟩ v) : Ats w V (.nv b k a s v l :: ls) := h.setr (r := #[]) hX rfl
theorem Ats.s4 {b : Nat} {v : Value} (h : Ats w w1 (.nv b k a s q l :: ls)) (hX : V = w1.setCell ⟨b, 4, none⟩ v) : Ats w V (.nv b k a s q v :: ls) := h.setr (r := #[]) hX rfl
/-- a store elsewhere: below what is the call's own -/
theorem Ats.ss {j b : Nat} {v : Value} (h : Ats w w1 ls) (hb : b ≤ w.heap.size) (hX : V = w1.setCell ⟨b, j, none⟩ v) : Ats w V ls := by subst hX; exact AtsY.set h (.inl hb)
end
/- rows of nodes laid side by side -/
section
variable {w w1 V : World} {ls : List At} {rb : Nat} {x y z : Ty} {ao bo co : Option Addr} {ca cb cc : Nat}
theorem Ats.mk1 (h : Ats w w1 (.kd x.args ao ca :: ls)) (hl : w.heap.size < w1.heap.size) (hrb : rb < w.heap.size) {z9 : Nat} (hz : w1.heap.size = z9) (hV : V = w1.alloc (.cells #[.int .i64 x.k, .int .i64 x.n, .string x.s, .int .i64 x.q, .slice ao x.args.length ca] 26)) : Ats w V (.ow (.slice (some ⟨z9, 0, none⟩) 1 1) [x] :: ls) := by
 subst hz
 exact ⟨Ow.one hV (Kd.mono h.1 fun _ hx => .inr (hx.elim False.elim id)) hl (fun a hx => hx.elim False.elim (fun h9 => ((Ats.dr h).wr h9).2)), AtsY.gr (gr_below (by rw [hV]; exact balloc (Below.refl _ _) _) (some rb)) hrb (AtsY.fresh (Ats.dr h) fun a hx => hx.elim False.elim (fun h9 => .inr (by simp [At.wr, Value.ownBlock] at h9; omega)))⟩
theorem Ats.mk2 (h : Ats w w1 (.kd x.args ao ca :: .kd y.args bo cb :: ls)) (hl : w.heap.size < w1.heap.size) (hrb : rb < w.heap.size) {z9 : Nat} (hz : w1.heap.size = z9) (hV : V = w1.alloc (.cells #[.int .i64 x.k, .int .i64 x.n, .string x.s, .int .i64 x.q, .slice ao x.args.length ca, .int .i64 y.k, .int .i64 y.n, .string y.s, .int .i64 y.q, .slice bo y.args.length cb] 26)) : Ats w V (.ow (.slice (some ⟨z9, 0, none⟩) 2 2) [x, y] :: ls) := by
 subst hz
 exact ⟨Ow.two hV (Kd.mono h.1 fun _ hx => .inr (wrs_cons.2 (.inr (hx.elim False.elim id)))) (Kd.mono h.2.1 fun _ hx => .inr (hx.elim False.elim id)) hl (fun a hx => hx.elim False.elim (fun h9 => ((Ats.dr (Ats.dr h)).wr h9).2)), AtsY.gr (gr_below (by rw [hV]; exact balloc (Below.refl _ _) _) (some rb)) hrb (AtsY.fresh (Ats.dr (Ats.dr h)) fun a hx => hx.elim False.elim (fun h9 => .inr (by simp [At.wr, Value.ownBlock] at h9; omega)))⟩
theorem Ats.mk3 (h : Ats w w1 (.kd x.args ao ca :: .kd y.args bo cb :: .kd z.args co cc :: ls)) (hl : w.heap.size < w1.heap.size) (hrb : rb < w.heap.size) {z9 : Nat} (hz : w1.heap.size = z9) (hV : V = w1.alloc (.cells #[.int .i64 x.k, .int .i64 x.n, .string x.s, .int .i64 x.q, .slice ao x.args.length ca, .int .i64 y.k, .int .i64 y.n, .string y.s, .int .i64 y.q, .slice bo y.args.length cb, .int .i64 z.k, .int .i64 z.n, .string z.s, .int .i64 z.q, .slice co z.args.length cc] 26)) : Ats w V (.ow (.slice (some ⟨z9, 0, none⟩) 3 3) [x, y, z] :: ls) := by
 subst hz
 exact ⟨Ow.three hV (Kd.mono h.1 fun _ hx => .inr (wrs_cons.2 (.inr (wrs_cons.2 (.inr (hx.elim False.elim id)))))) (Kd.mono h.2.1 fun _ hx => .inr (wrs_cons.2 (.inr (hx.elim False.elim id)))) (Kd.mono h.2.2.1 fun _ hx => .inr (hx.elim False.elim id)) hl (fun a hx => hx.elim False.elim (fun h9 => ((Ats.dr (Ats.dr (Ats.dr h))).wr h9).2)), AtsY.gr (gr_below (by rw [hV]; exact balloc (Below.refl _ _) _) (some rb)) hrb (AtsY.fresh (Ats.dr (Ats.dr (Ats.dr h))) fun a hx => hx.elim False.elim (fun h9 => .inr (by simp [At.wr, Value.ownBlock] at h9; omega)))⟩
/-- what was read stays known beside the row -/
theorem Ats.kd2 (h : Ats w w1 (.kd x.args ao ca :: ls)) : Ats w w1 (.kd x.args ao ca :: .kd x.args ao ca :: ls) := ⟨Kd.mono h.1 fun a hx => hx.elim .inl (fun h9 => .inr ((wrs_cons.1 h9).elim False.elim id)), ⟨Kd.mono h.1 fun a hx => hx.elim (fun h9 => .inl (h9.elim id False.elim)) .inr, AtsY.mono h.2 fun a hx => hx.elim id (fun h9 => h9.elim)⟩⟩
end
theorem size_set {w1 V : World} {p : Addr} {v : Value} {z : Nat} (h : w1.setCell p v = V) (hz : w1.heap.size = z) : V.heap.size = z := by rw [← h, World.size_setCell]; exact hz
/-- such a row beside one that grows -/
theorem Ow.beside {w A w9 : World} {X Y : Nat → Prop} {r : Option Nat} {v : Value} {l : List Ty} (h : Ow w A Y v l) (hg : AppG w A w9 X r) (hy : ∀ a, r = some a → Y a) : Ow w w9 Y v l := by
 obtain ⟨bs, D, h1, h2, h3, h4⟩ := h
 have hne : v.ownBlock = none ∨ v.ownBlock ≠ r := by
  cases he : v.ownBlock with
  | none => exact .inl rfl
  | some g => exact .inr fun e => h4 g he (hy g e.symm)
 exact ⟨bs, D, h1, ⟨h2.own.kept hg.g hne, fun b hb => (h2.sl b hb).keep fun d hd off => World.cell?_of_block (a := ⟨d, off, none⟩) (hg.g.block d (h3 d hd).1.2.1 fun e => (h3 d hd).1.2.2 (hy d e.symm))⟩, fun b hb => ⟨⟨(h3 b hb).1.1, Nat.lt_of_lt_of_le (h3 b hb).1.2.1 hg.g.size, (h3 b hb).1.2.2⟩, (h3 b hb).2⟩, h4⟩
theorem Kd.beside {w A w9 : World} {X Y : Nat → Prop} {r : Option Nat} {l : List Ty} {ao : Option Addr} {cap : Nat} (h : Kd w A Y l ao cap) (hg : AppG w A w9 X r) (hy : ∀ a, r = some a → Y a) : Kd w w9 Y l ao cap :=
 (SlD.keep h fun b hb off => World.cell?_of_block (a := ⟨b, off, none⟩) (hg.g.block b hb.2.1 (fun e => hb.2.2 (hy b e.symm)))).mono fun b hb => ⟨hb.1, Nat.lt_of_lt_of_le hb.2.1 hg.g.size, hb.2.2⟩
theorem Vb.beside {w A w9 : World} {nb t : Nat} {row : Array Value} {X : Nat → Prop} {r : Option Nat} (h : Vb w nb t row A) (hg : AppG w A w9 X r) (hx : ∀ a, r = some a → a ≠ nb) : Vb w nb t row w9 := ⟨by rw [hg.g.block nb (lt_of_block h.row) (fun e => hx nb e.symm rfl)]; exact h.row, h.lt⟩
theorem At.ok.beside {w A w9 : World} {X Y : Nat → Prop} {r : Option Nat} (hg : AppG w A w9 X r) (hy : ∀ a, r = some a → Y a) : ∀ {a : At}, a.ok w A Y → a.ok w w9 Y
 | .nv .., h => ⟨h.1.beside hg (fun a e e2 => h.2 (e2 ▸ hy a e)), h.2⟩
 | .tv .., h => ⟨h.1.beside hg (fun a e e2 => h.2 (e2 ▸ hy a e)), h.2⟩
 | .gv .., h => ⟨h.1.beside hg (fun a e e2 => h.2 (e2 ▸ hy a e)), h.2⟩
 | .kd .., h => Kd.beside h hg hy
 | .ow .., h => Ow.beside h hg hy
 | .pw .., h => Pw.beside h hg hy
theorem AtsY.beside {w A w9 : World} {X : Nat → Prop} {r : Option Nat} (hg : AppG w A w9 X r) : ∀ {ls : List At} {Y : Nat → Prop}, AtsY w A Y ls → (∀ a, r = some a → Y a) → AtsY w w9 Y ls
 | [], _, _, _ => trivial
 | a :: ls, Y, h, hy => ⟨h.1.beside hg (fun b e => .inl (hy b e)), AtsY.beside hg h.2 (fun b e => .inl (hy b e))⟩
/-- one such row behind another -/
theorem run_ap {w A : World} {X Y : Nat → Prop} {v1 v2 : Value} {l1 l2 : List Ty} (ty : TypeId) (h1 : Ow w A X v1 l1) (h2 : Ow w A Y v2 l2) (hY : ∀ a, X a ∨ v1.ownBlock = some a → Y a) (hl : w.heap.size < A.heap.size) (hX : ∀ a, X a → a < A.heap.size) (hn : l1.length + l2.length ≤ 1099511627776) :
 ∃ ao cap L w9, (Builtin.append_ #[24, 24] ty #[v1, v2]).run Tryz.prog A = .ok (.slice ao L.length cap) w9 ∧ L = l1 ++ l2 ∧ Ow w w9 X (.slice ao L.length cap) L ∧ AppG w A w9 X v1.ownBlock ∧ ((Value.slice ao L.length cap).ownBlock = v1.ownBlock ∨ (Value.slice ao L.length cap).ownBlock = some A.heap.size) := by
 obtain ⟨i26, hi, hz0, hz1, hz2⟩ := info_parts info26
 have hlt1 := h1.lt
 obtain ⟨bs, D, e1, own1, hD, hx1⟩ := h1
 obtain ⟨cs, D2, ao2, cap2, e2, sl2, hD2, ev2, hnews⟩ := h2.news
 have en1 : l1.length = bs.length := by rw [← e1, List.length_map]
 have en2 : l2.length = cs.length := by rw [← e2, List.length_map]
 have hb63 : bs.length + cs.length ≤ maxLen := by unfold maxLen; omega
 have hrun : ∃ v' w', (Builtin.append_ #[24, 24] ty #[v1, v2]).run Tryz.prog A = .ok v' w' ∧ w'.ownsRow (w.heap.size + 1) 26 5 v' (bs.length + cs.length) (tcells bs ++ tcells cs) ∧ A.grownBy w' v1.ownBlock ∧ (v'.ownBlock = v1.ownBlock ∨ v'.ownBlock = some A.heap.size) := by
  rw [ev2]
  by_cases hm : cs.length = 0
  · have hc : cs = [] := List.eq_nil_of_length_eq_zero hm
    subst hc
    exact ⟨v1, A, run_append_zero (w.heap.size + 1) 24 ty 26 i26 5 Tryz.underlying24 hi v1 bs.length (tcells bs) own1.own ao2 cap2, by simpa [tcells] using own1.own, World.grownBy.refl _ _, .inl rfl⟩
  · obtain ⟨ad, rfl, hc⟩ := hnews (by omega)
    obtain ⟨v', w', hr, h3, h4, _, h5⟩ := run_append_own_at (P := Tryz.prog) A (w.heap.size + 1) 24 ty 26 i26 _ 5 64 Tryz.underlying24 hi hz0 hz1 hz2 rfl (by decide) v1 bs.length (tcells bs) own1.own ad cs.length cap2 (tcells cs) (tcells_len cs) hc (tcells_one cs) hb63 (by omega) hl
    exact ⟨v', w', hr, h3, h4, h5⟩
 obtain ⟨v', w9, hr, hown, hg, hat⟩ := hrun
 have hs9 := hg.size
 have hc9 : ∀ b, b < A.heap.size → v1.ownBlock ≠ some b → ∀ off, w9.cell? ⟨b, off, none⟩ = A.cell? ⟨b, off, none⟩ := fun b hb hne off => World.cell?_of_block (hg.block b hb (fun e => hne e.symm))
 have hA : AppG w A w9 X v1.ownBlock := ⟨hg, fun b e => ⟨(hlt1 b e).1, (hlt1 b e).2.2⟩⟩
 have hD2' : ∀ b, D2 b → w.heap.size < b ∧ b < A.heap.size ∧ ¬ X b ∧ v1.ownBlock ≠ some b := fun b hb => ⟨(hD2 b hb).1, (hD2 b hb).2.1, fun e => (hD2 b hb).2.2 (hY b (.inl e)), fun e => (hD2 b hb).2.2 (hY b (.inr e))⟩
 have hO : Ow w w9 X v' (l1 ++ l2) := by
  refine ⟨bs ++ cs, fun b => D b ∨ D2 b, by rw [List.map_append, e1, e2], ⟨?_, fun b hb => ?_⟩, fun b hb => ?_, fun g hg1 hx => ?_⟩
  · rw [List.length_append, tcells_append]; exact hown
  · rcases List.mem_append.1 hb with hb | hb
    · exact ((own1.sl b hb).keep fun d hd off => hc9 d (hD d hd).1.2.1 (hD d hd).2 off).mono fun b h => .inl h
    · exact ((sl2 b hb).keep fun d hd off => hc9 d (hD2' d hd).2.1 (hD2' d hd).2.2.2 off).mono fun b h => .inr h
  · have hb9 : w.heap.size < b ∧ b < A.heap.size ∧ ¬ X b ∧ v1.ownBlock ≠ some b := by
     rcases hb with hb | hb
     · exact ⟨(hD b hb).1.1, (hD b hb).1.2.1, (hD b hb).1.2.2, (hD b hb).2⟩
     · exact hD2' b hb
    refine ⟨⟨hb9.1, by omega, hb9.2.2.1⟩, ?_⟩
    rcases hat with e | e
    · rw [e]; exact hb9.2.2.2
    · rw [e]; intro e2; have := Option.some.inj e2; omega
  · rcases hat with e | e
    · rw [e] at hg1; exact hx1 g hg1 hx
    · rw [e] at hg1; have := Option.some.inj hg1; have := hX g hx; omega
 obtain ⟨ao, cap, ev⟩ := hO.len
 subst ev
 exact ⟨ao, cap, _, w9, hr, rfl, hO, hA, hat⟩
/-- the same of a bundle -/
theorem run_at {w A : World} {ls : List At} {v1 v2 : Value} {l1 l2 : List Ty} (ty : TypeId) (h : Ats w A (.ow v1 l1 :: .ow v2 l2 :: ls)) (hl : w.heap.size < A.heap.size) (hn : l1.length + l2.length ≤ 1099511627776) :
 ∃ ao cap L w9, (Builtin.append_ #[24, 24] ty #[v1, v2]).run Tryz.prog A = .ok (.slice ao L.length cap) w9 ∧ L = l1 ++ l2 ∧ Ats w w9 (.ow (.slice ao L.length cap) L :: ls) ∧ AppG w A w9 (fun _ => False) v1.ownBlock := by
 obtain ⟨h1, h2, h3⟩ := h
 have k1 : Ow w A (wrs ls) v1 l1 := Ow.mono h1 fun x hx => .inr (wrs_cons.2 (.inr hx))
 have k2 : Ow w A (fun x => wrs ls x ∨ v1.ownBlock = some x) v2 l2 := Ow.mono h2 fun x hx => hx.elim .inr (fun h9 => .inl (.inr h9))
 have hlt : ∀ a, wrs ls a → a < A.heap.size := fun a ha => (AtsY.wr h3 ha).2.1
 obtain ⟨ao, cap, L, w9, hr, eL, hO, hA, hat⟩ := run_ap ty k1 k2 (fun a h => h) hl hlt hn
 refine ⟨ao, cap, L, w9, hr, eL, ⟨Ow.mono hO fun x hx => hx.elim False.elim id, ?_⟩, ⟨hA.g, fun b e => ⟨(hA.new b e).1, fun h9 => h9⟩⟩⟩
 -- what stands beside lies elsewhere than the new row
 have key : AtsY w A (fun x => (False ∨ v1.ownBlock = some x) ∨ (Value.slice ao L.length cap).ownBlock = some x) ls := AtsY.fresh h3 fun x hx => by
  rcases hx with (hx | hx) | hx
  · exact hx.elim
  · exact .inl (.inl (.inr hx))
  · rcases hat with e | e
    · rw [e] at hx; exact .inl (.inl (.inr hx))
    · rw [e] at hx; exact .inr (Nat.le_of_eq (Option.some.inj hx))
 exact AtsY.mono (AtsY.beside hA key (fun a e => .inl (.inr e))) fun x hx => hx.elim False.elim .inr
/-- and in a walk -/
theorem wpList_at {w A : World} {ops : Array Oper} {rest : List Oper} {o : Oper} {a : Act} {Q : Exit → Act → World → Prop} {ls : List At} {v1 v2 : Value} {l1 l2 : List Ty} (hgd : o.guard = none) (s x : Operand)
 (ho : o.op = .call { callee := .builtin .append, args := #[s, x], argTypes := #[24, 24] }) (hs : a.eval s = v1) (hx : a.eval x = v2) (h : Ats w A (.ow v1 l1 :: .ow v2 l2 :: ls)) (hl : w.heap.size < A.heap.size) (hn : l1.length + l2.length ≤ 1099511627776)
 (hk : ∀ ao cap L w9, L = l1 ++ l2 → Ats w w9 (.ow (.slice ao L.length cap) L :: ls) → AppG w A w9 (fun _ => False) v1.ownBlock → wpList Tryz.prog ops Q rest (a.put o.dst (.slice ao L.length cap)) w9) : wpList Tryz.prog ops Q (o :: rest) a A := by
 refine wpList_plain hgd fun K hK => ?_
 obtain ⟨ao, cap, L, w9, hr, eL, h3, h4⟩ := run_at o.type h hl hn
 unfold Oper.wp execOp
 simp only [ho, resolve, invoke, builtin, Sem.run_bind, Sem.run_pure, Result.andThen_ok, List.map_toArray, List.map_cons, List.map_nil, hs, hx, hr]
 exact hK _ _ (hk ao cap L w9 eL h3 h4)
theorem step_at {w A : World} {ops : Array Oper} {o : Oper} {a : Act} {K : Act → World → Prop} {Q : Exit → Act → World → Prop} {E : Prop} {ls : List At} {v1 v2 : Value} {l1 l2 : List Ty} (hgd : o.guard = none) (s x : Operand)
 (ho : o.op = .call { callee := .builtin .append, args := #[s, x], argTypes := #[24, 24] }) (hs : a.eval s = v1) (hx : a.eval x = v2) (h : Ats w A (.ow v1 l1 :: .ow v2 l2 :: ls)) (hl : w.heap.size < A.heap.size) (hn : l1.length + l2.length ≤ 1099511627776)
 (hk : ∀ ao cap L w9, L = l1 ++ l2 → Ats w w9 (.ow (.slice ao L.length cap) L :: ls) → AppG w A w9 (fun _ => False) v1.ownBlock → K (a.put o.dst (.slice ao L.length cap)) w9) : if Region.wanted o (yielded ops a.tmps) = true then Oper.wp Tryz.prog o a A K Q else E := by
 have hw : Region.wanted o (yielded ops a.tmps) = true := by simp [Region.wanted, hgd]
 rw [if_pos hw]
 obtain ⟨ao, cap, L, w9, hr, eL, h3, h4⟩ := run_at o.type h hl hn
 unfold Oper.wp execOp
 simp only [ho, resolve, invoke, builtin, Sem.run_bind, Sem.run_pure, Result.andThen_ok, List.map_toArray, List.map_cons, List.map_nil, hs, hx, hr]
 exact hk ao cap L w9 eL h3 h4
end Go.Proofs.YthehjeeiodbkjaaGreatDoor
