/-
  Proved: what stands while a reader reads on, in one bundle: the variables of a call, the nodes that were read, the rows of its own, each apart from what the others may turn; the steps of a walk over the document's reader, as lemmas on what stands. Conditions: what each names.
-/
import Derived.Test.YthehjeeiodbkjaaGreatDoorA01
import Derived.Test.YthehjeeiodbkjaaGreatDoorA04
import Derived.Test.YthehjeeiodbkjaaGreatDoorA05
set_option linter.unusedSimpArgs false
set_option linter.unusedVariables false
set_option linter.unusedSectionVars false
set_option maxRecDepth 100000
set_option maxHeartbeats 16000000
namespace Go.Proofs.YthehjeeiodbkjaaGreatDoor
open Go.RowKit
inductive At where
 | nv (b : Nat) (k a s q l : Value)
 | tv (b : Nat) (k a s q : Value)
 | gv (b t : Nat) (row : Array Value)
 | kd (l : List Ty) (ao : Option Addr) (cap : Nat)
 | ow (v : Value) (l : List Ty)
 | pw (e : TypeId) (size : Nat) (v : Value) (n : Nat) (xs : List Value)
def At.wr : At → Nat → Prop
 | .nv b .. => fun x => x = b
 | .tv b .. => fun x => x = b
 | .gv b .. => fun x => x = b
 | .kd .. => fun _ => False
 | .ow v _ => fun x => v.ownBlock = some x
 | .pw _ _ v _ _ => fun x => v.ownBlock = some x
def At.ok (w wk : World) (X : Nat → Prop) : At → Prop
 | .nv b k a s q l => Vb w b 26 #[k, a, s, q, l] wk ∧ ¬ X b
 | .tv b k a s q => Vb w b 59 #[k, a, s, q] wk ∧ ¬ X b
 | .gv b t row => Vb w b t row wk ∧ ¬ X b
 | .kd l ao cap => Kd w wk X l ao cap
 | .ow v l => Ow w wk X v l
 | .pw e size v n xs => Pw w wk X e size v n xs
theorem Kd.mono {w wk : World} {X Y : Nat → Prop} {l : List Ty} {ao : Option Addr} {cap : Nat} (h : Kd w wk X l ao cap) (hy : ∀ x, Y x → X x) : Kd w wk Y l ao cap := h.fresh fun a ha => .inl (hy a ha)
theorem Ow.mono {w wk : World} {X Y : Nat → Prop} {l : List Ty} {v : Value} (h : Ow w wk X v l) (hy : ∀ x, Y x → X x) : Ow w wk Y v l := h.fresh fun a ha => .inl (hy a ha)
theorem At.ok.fresh {w wk : World} {X Y : Nat → Prop} : ∀ {a : At}, a.ok w wk X → (∀ x, Y x → X x ∨ wk.heap.size ≤ x) → a.ok w wk Y
 | .nv .., h, hy => ⟨h.1, fun e => (hy _ e).elim h.2 (fun h9 => by have := lt_of_block h.1.row; omega)⟩
 | .tv .., h, hy => ⟨h.1, fun e => (hy _ e).elim h.2 (fun h9 => by have := lt_of_block h.1.row; omega)⟩
 | .gv .., h, hy => ⟨h.1, fun e => (hy _ e).elim h.2 (fun h9 => by have := lt_of_block h.1.row; omega)⟩
 | .kd .., h, hy => Kd.fresh h hy
 | .ow .., h, hy => Ow.fresh h hy
 | .pw .., h, hy => Pw.fresh h hy
theorem At.ok.mono {w wk : World} {X Y : Nat → Prop} {a : At} (h : a.ok w wk X) (hy : ∀ x, Y x → X x) : a.ok w wk Y := h.fresh fun x hx => .inl (hy x hx)
theorem At.ok.gr {w w1 w2 : World} {X : Nat → Prop} {rb : Nat} (hg : w1.grownBy w2 (some rb)) (hrb : rb < w.heap.size) : ∀ {a : At}, a.ok w w1 X → a.ok w w2 X
 | .nv .., h => ⟨h.1.gr hg hrb, h.2⟩
 | .tv .., h => ⟨h.1.gr hg hrb, h.2⟩
 | .gv .., h => ⟨h.1.gr hg hrb, h.2⟩
 | .kd .., h => Kd.gr h hg hrb
 | .ow .., h => Ow.gr h hg hrb
 | .pw .., h => Pw.gr h hg hrb
theorem At.ok.set {w w1 : World} {X : Nat → Prop} {q j : Nat} {v : Value} (hx : q ≤ w.heap.size ∨ X q) : ∀ {a : At}, a.ok w w1 X → a.ok w (w1.setCell ⟨q, j, none⟩ v) X
 | .nv b .., h => ⟨h.1.other (fun e => hx.elim (fun h9 => by have := h.1.lt; omega) (fun h9 => h.2 (e ▸ h9))) j v, h.2⟩
 | .tv b .., h => ⟨h.1.other (fun e => hx.elim (fun h9 => by have := h.1.lt; omega) (fun h9 => h.2 (e ▸ h9))) j v, h.2⟩
 | .gv b .., h => ⟨h.1.other (fun e => hx.elim (fun h9 => by have := h.1.lt; omega) (fun h9 => h.2 (e ▸ h9))) j v, h.2⟩
 | .kd .., h => Kd.set h hx
 | .ow .., h => Ow.set h hx
 | .pw .., h => Pw.set h hx
theorem At.ok.wr {w wk : World} {X : Nat → Prop} {x : Nat} : ∀ {a : At}, a.ok w wk X → a.wr x → w.heap.size < x ∧ x < wk.heap.size ∧ ¬ X x
 | .nv .., h, e => by cases e; exact ⟨h.1.lt, lt_of_block h.1.row, h.2⟩
 | .tv .., h, e => by cases e; exact ⟨h.1.lt, lt_of_block h.1.row, h.2⟩
 | .gv .., h, e => by cases e; exact ⟨h.1.lt, lt_of_block h.1.row, h.2⟩
 | .kd .., h, e => e.elim
 | .ow v l, h, e => Ow.lt h x e
 | .pw .., h, e => Pw.lt h x e
def wrs (ls : List At) (x : Nat) : Prop := ∃ a ∈ ls, a.wr x
def AtsY (w wk : World) : (Nat → Prop) → List At → Prop
 | _, [] => True
 | Y, a :: ls => a.ok w wk (fun x => Y x ∨ wrs ls x) ∧ AtsY w wk (fun x => Y x ∨ a.wr x) ls
def Ats (w wk : World) (ls : List At) : Prop := AtsY w wk (fun _ => False) ls
theorem wrs_cons {a : At} {ls : List At} {x : Nat} : wrs (a :: ls) x ↔ a.wr x ∨ wrs ls x := by
 unfold wrs
 constructor
 · rintro ⟨b, hb, h⟩
   rcases List.mem_cons.1 hb with rfl | hb
   · exact .inl h
   · exact .inr ⟨b, hb, h⟩
 · rintro (h | ⟨b, hb, h⟩)
   · exact ⟨a, by simp, h⟩
   · exact ⟨b, by simp [hb], h⟩
theorem AtsY.fresh {w wk : World} : ∀ {ls : List At} {Y Z : Nat → Prop}, AtsY w wk Y ls → (∀ x, Z x → Y x ∨ wk.heap.size ≤ x) → AtsY w wk Z ls
 | [], _, _, _, _ => trivial
 | a :: ls, Y, Z, h, hz => ⟨h.1.fresh fun x hx => hx.elim (fun h9 => (hz x h9).elim (fun h8 => .inl (.inl h8)) .inr) (fun h9 => .inl (.inr h9)), AtsY.fresh h.2 fun x hx => hx.elim (fun h9 => (hz x h9).elim (fun h8 => .inl (.inl h8)) .inr) (fun h9 => .inl (.inr h9))⟩
theorem AtsY.mono {w wk : World} {ls : List At} {Y Z : Nat → Prop} (h : AtsY w wk Y ls) (hz : ∀ x, Z x → Y x) : AtsY w wk Z ls := h.fresh fun x hx => .inl (hz x hx)
theorem AtsY.gr {w w1 w2 : World} {rb : Nat} (hg : w1.grownBy w2 (some rb)) (hrb : rb < w.heap.size) : ∀ {ls : List At} {Y : Nat → Prop}, AtsY w w1 Y ls → AtsY w w2 Y ls
 | [], _, _ => trivial
 | a :: ls, Y, h => ⟨h.1.gr hg hrb, AtsY.gr hg hrb h.2⟩
theorem AtsY.set {w w1 : World} {q j : Nat} {v : Value} : ∀ {ls : List At} {Y : Nat → Prop}, AtsY w w1 Y ls → (q ≤ w.heap.size ∨ Y q) → AtsY w (w1.setCell ⟨q, j, none⟩ v) Y ls
 | [], _, _, _ => trivial
 | a :: ls, Y, h, hq => ⟨h.1.set (hq.elim .inl (fun h9 => .inr (.inl h9))), AtsY.set h.2 (hq.elim .inl (fun h9 => .inr (.inl h9)))⟩
theorem AtsY.wr {w wk : World} {x : Nat} : ∀ {ls : List At} {Y : Nat → Prop}, AtsY w wk Y ls → wrs ls x → w.heap.size < x ∧ x < wk.heap.size ∧ ¬ Y x
 | [], _, _, ⟨_, hb, _⟩ => by cases hb
 | a :: ls, Y, h, hx => (wrs_cons.1 hx).elim (fun h9 => by
  have h1 := h.1.wr h9
  exact ⟨h1.1, h1.2.1, fun e => h1.2.2 (.inl e)⟩) (fun h9 => by
  have h1 := AtsY.wr h.2 h9
  exact ⟨h1.1, h1.2.1, fun e => h1.2.2 (.inl e)⟩)
theorem AtsY.sw {w wk : World} {a b : At} {ls : List At} {Y : Nat → Prop} (h : AtsY w wk Y (a :: b :: ls)) : AtsY w wk Y (b :: a :: ls) := by
 obtain ⟨h1, h2, h3⟩ := h
 refine ⟨h2.mono fun x hx => ?_, h1.mono fun x hx => ?_, h3.mono fun x hx => ?_⟩
 · rcases hx with hx | hx
   · exact .inl (.inl hx)
   · rcases wrs_cons.1 hx with hx | hx
     · exact .inl (.inr hx)
     · exact .inr hx
 · rcases hx with (hx | hx) | hx
   · exact .inl hx
   · exact .inr (wrs_cons.2 (.inl hx))
   · exact .inr (wrs_cons.2 (.inr hx))
 · rcases hx with (hx | hx) | hx
   · exact .inl (.inl hx)
   · exact .inr hx
   · exact .inl (.inr hx)
theorem AtsY.tl {w wk : World} {a : At} {ls bs : List At} {Y : Nat → Prop} (h : AtsY w wk Y (a :: ls)) (hw : ∀ x, wrs bs x → wrs ls x) (f : ∀ Z, AtsY w wk Z ls → AtsY w wk Z bs) : AtsY w wk Y (a :: bs) :=
 ⟨h.1.mono fun x hx => hx.elim .inl (fun h9 => .inr (hw x h9)), f _ h.2⟩
theorem wrs_sw {a b : At} {ls : List At} {x : Nat} (h : wrs (b :: a :: ls) x) : wrs (a :: b :: ls) x := by
 rw [wrs_cons, wrs_cons] at h ⊢
 rcases h with h | h | h
 · exact .inr (.inl h)
 · exact .inl h
 · exact .inr (.inr h)
section
variable {w wk : World} {a b c d e f : At} {ls : List At}
theorem Ats.mv1 (h : Ats w wk (a :: b :: ls)) : Ats w wk (b :: a :: ls) := AtsY.sw h
theorem Ats.mv2 (h : Ats w wk (a :: b :: c :: ls)) : Ats w wk (c :: a :: b :: ls) := AtsY.sw (AtsY.tl h (fun _ => wrs_sw) fun _ => AtsY.sw)
theorem AtsY.mv2 {Y : Nat → Prop} (h : AtsY w wk Y (a :: b :: c :: ls)) : AtsY w wk Y (c :: a :: b :: ls) := AtsY.sw (AtsY.tl h (fun _ => wrs_sw) fun _ => AtsY.sw)
theorem wrs_mv2 {x : Nat} (h : wrs (c :: a :: b :: ls) x) : wrs (a :: b :: c :: ls) x := by
 simp only [wrs_cons] at h ⊢
 rcases h with h | h | h | h
 · exact .inr (.inr (.inl h))
 · exact .inl h
 · exact .inr (.inl h)
 · exact .inr (.inr (.inr h))
theorem Ats.mv3 (h : Ats w wk (a :: b :: c :: d :: ls)) : Ats w wk (d :: a :: b :: c :: ls) := AtsY.sw (AtsY.tl h (fun _ => wrs_mv2) fun _ => AtsY.mv2)
theorem AtsY.mv3 {Y : Nat → Prop} (h : AtsY w wk Y (a :: b :: c :: d :: ls)) : AtsY w wk Y (d :: a :: b :: c :: ls) := AtsY.sw (AtsY.tl h (fun _ => wrs_mv2) fun _ => AtsY.mv2)
theorem wrs_mv3 {x : Nat} (h : wrs (d :: a :: b :: c :: ls) x) : wrs (a :: b :: c :: d :: ls) x := by
 simp only [wrs_cons] at h ⊢
 rcases h with h | h | h | h | h
 · exact .inr (.inr (.inr (.inl h)))
 · exact .inl h
 · exact .inr (.inl h)
 · exact .inr (.inr (.inl h))
 · exact .inr (.inr (.inr (.inr h)))
theorem Ats.mv4 (h : Ats w wk (a :: b :: c :: d :: e :: ls)) : Ats w wk (e :: a :: b :: c :: d :: ls) := AtsY.sw (AtsY.tl h (fun _ => wrs_mv3) fun _ => AtsY.mv3)
theorem Ats.dr (h : Ats w wk (a :: ls)) : Ats w wk ls := AtsY.mono h.2 fun x hx => hx.elim
theorem Ats.nil : Ats w wk [] := trivial
theorem Ats.gr {w2 : World} {rb : Nat} (h : Ats w wk ls) (hg : wk.grownBy w2 (some rb)) (hrb : rb < w.heap.size) : Ats w w2 ls := AtsY.gr hg hrb h
theorem Ats.wr {x : Nat} (h : Ats w wk ls) (hx : wrs ls x) : w.heap.size < x ∧ x < wk.heap.size := ⟨(AtsY.wr h hx).1, (AtsY.wr h hx).2.1⟩
end
theorem Ats.put {w w1 wk : World} {a : At} {ls : List At} {rb : Nat} (h : Ats w w1 ls) (hg : w1.grownBy wk (some rb)) (hrb : rb < w.heap.size) (ha : ∀ X, (∀ x, X x → x < w1.heap.size) → a.ok w wk X) (hn : ∀ x, a.wr x → w1.heap.size ≤ x) : Ats w wk (a :: ls) :=
 ⟨ha _ fun x hx => hx.elim False.elim (fun h9 => (h.wr h9).2), AtsY.gr hg hrb (AtsY.fresh h fun x hx => hx.elim False.elim (fun h9 => .inr (hn x h9)))⟩
section
variable {w w1 V : World} {ls : List At} {rb : Nat} {k a s q l : Value}
theorem Ats.box {b : Nat} (h : Ats w w1 ls) (hl : w.heap.size < w1.heap.size) (hrb : rb < w.heap.size) (hV : V = w1.alloc (.cells #[k, a, s, q, l] 26)) (hb : b = w1.heap.size) : Ats w V (.nv b k a s q l :: ls) := by
 subst hb
 exact h.put (gr_below (by rw [hV]; exact balloc (Below.refl _ _) _) (some rb)) hrb (fun X hX => ⟨Vb.new hV hl, fun e => by have := hX _ e; omega⟩) (fun x e => Nat.le_of_eq e.symm)
theorem Ats.boxt {b : Nat} (h : Ats w w1 ls) (hl : w.heap.size < w1.heap.size) (hrb : rb < w.heap.size) (hV : V = w1.alloc (.cells #[k, a, s, q] 59)) (hb : b = w1.heap.size) : Ats w V (.tv b k a s q :: ls) := by
 subst hb
 exact h.put (gr_below (by rw [hV]; exact balloc (Below.refl _ _) _) (some rb)) hrb (fun X hX => ⟨Vb.new hV hl, fun e => by have := hX _ e; omega⟩) (fun x e => Nat.le_of_eq e.symm)
theorem Ats.rd {x : List Ty} {ao : Option Addr} {cap : Nat} (h : Ats w w1 ls) (hl : w.heap.size < w1.heap.size) (hrb : rb < w.heap.size) (hg : w1.grownBy V (some rb)) (hs : SlD V (fun b => w1.heap.size ≤ b ∧ b < V.heap.size) x ao cap) : Ats w V (.kd x ao cap :: ls) :=
 h.put hg hrb (fun X hX => Kd.of hs hl hX) (fun x e => e.elim)
theorem Ats.rdo {x : List Ty} {v : Value} (h : Ats w w1 ls) (hl : w.heap.size < w1.heap.size) (hrb : rb < w.heap.size) (hg : w1.grownBy V (some rb)) (ho : OwQ w1 x v V) : Ats w V (.ow v x :: ls) :=
 h.put hg hrb (fun X hX => ho.ow hl hX) (fun b e => by obtain ⟨bs, D, h1, h2, h3⟩ := ho; exact (h2.own.lt b e).1)
theorem Ats.nilo (h : Ats w w1 ls) : Ats w w1 (.ow (.slice none 0 0) [] :: ls) := ⟨Ow.nil _ _ _, AtsY.mono h fun x hx => hx.elim id (fun h9 => by simp [At.wr, Value.ownBlock] at h9)⟩
theorem Ats.nilk (h : Ats w w1 ls) : Ats w w1 (.kd [] none 0 :: ls) := ⟨Kd.nil _ _ _ _ _, AtsY.mono h fun x hx => hx.elim id (fun h9 => h9.elim)⟩
theorem Ats.ko {x : List Ty} {ao : Option Addr} {n cap : Nat} (h : Ats w w1 (.ow (.slice ao n cap) x :: ls)) : Ats w w1 (.kd x ao cap :: ls) := ⟨(Ow.kd h.1).2, AtsY.mono h.2 fun y hy => hy.elim .inl (fun h9 => h9.elim)⟩
theorem OwQ.len9 {w w' : World} {l : List Ty} {v : Value} (h : OwQ w l v w') : ∃ ao cap, v = .slice ao l.length cap := by
 obtain ⟨bs, D, h1, h2, h3⟩ := h
 obtain ⟨ao, cap, e, -⟩ := h2.read (D' := fun _ => True) (fun _ _ => trivial) (fun _ _ => trivial)
 exact ⟨ao, cap, by rw [e, ← h1, List.length_map]⟩
theorem Ats.kd {x : List Ty} {ao : Option Addr} {cap : Nat} (h : Ats w w1 (.kd x ao cap :: ls)) : ∃ X, Kd w w1 X x ao cap := ⟨_, h.1⟩
theorem Ats.ow {x : List Ty} {v : Value} (h : Ats w w1 (.ow v x :: ls)) : ∃ X, Ow w w1 X v x := ⟨_, h.1⟩
theorem Ats.cs {b : Nat} (h : Ats w w1 (.nv b k a s q l :: ls)) (hrb : rb < w.heap.size) : w1.cell? ⟨b, 0, none⟩ = some k ∧ w1.cell? ⟨b, 1, none⟩ = some a ∧ w1.cell? ⟨b, 2, none⟩ = some s ∧ w1.cell? ⟨b, 3, none⟩ = some q ∧ w1.cell? ⟨b, 4, none⟩ = some l ∧ w1.frozen? ⟨b, 0, none⟩ = false ∧ w1.frozen? ⟨b, 1, none⟩ = false ∧ w1.frozen? ⟨b, 2, none⟩ = false ∧ w1.frozen? ⟨b, 3, none⟩ = false ∧ w1.frozen? ⟨b, 4, none⟩ = false ∧ ¬ (b = rb) ∧ ¬ (b = w.heap.size) ∧ b < w1.heap.size ∧ ¬ (b = w1.heap.size) := by
 have h1 := h.1.1
 have h2 := lt_of_block h1.row
 have h3 := h1.lt
 exact ⟨blk_cell h1.row 0, blk_cell h1.row 1, blk_cell h1.row 2, blk_cell h1.row 3, blk_cell h1.row 4, blk_free h1.row 0, blk_free h1.row 1, blk_free h1.row 2, blk_free h1.row 3, blk_free h1.row 4, by omega, by omega, h2, by omega⟩
theorem Ats.ct {b : Nat} (h : Ats w w1 (.tv b k a s q :: ls)) (hrb : rb < w.heap.size) : w1.cell? ⟨b, 0, none⟩ = some k ∧ w1.cell? ⟨b, 1, none⟩ = some a ∧ w1.cell? ⟨b, 2, none⟩ = some s ∧ w1.cell? ⟨b, 3, none⟩ = some q ∧ ¬ (b = rb) ∧ ¬ (b = w.heap.size) ∧ b < w1.heap.size ∧ ¬ (b = w1.heap.size) := by
 have h1 := h.1.1
 have h2 := lt_of_block h1.row
 have h3 := h1.lt
 exact ⟨blk_cell h1.row 0, blk_cell h1.row 1, blk_cell h1.row 2, blk_cell h1.row 3, by omega, by omega, h2, by omega⟩
theorem Ats.setr {b j : Nat} {v : Value} {r : Array Value} {k' a' s' q' l' : Value} (h : Ats w w1 (.nv b k a s q l :: ls)) (hX : V = w1.setCell ⟨b, j, none⟩ v) (hr : #[k, a, s, q, l].setIfInBounds j v = #[k', a', s', q', l']) : Ats w V (.nv b k' a' s' q' l' :: ls) := by
 subst hX
 exact ⟨⟨hr ▸ h.1.1.set j v, h.1.2⟩, AtsY.set h.2 (.inr (.inr rfl))⟩
theorem Ats.s0 {b : Nat} {v : Value} (h : Ats w w1 (.nv b k a s q l :: ls)) (hX : V = w1.setCell ⟨b, 0, none⟩ v) : Ats w V (.nv b v a s q l :: ls) := h.setr (r := #[]) hX rfl
theorem Ats.s1 {b : Nat} {v : Value} (h : Ats w w1 (.nv b k a s q l :: ls)) (hX : V = w1.setCell ⟨b, 1, none⟩ v) : Ats w V (.nv b k v s q l :: ls) := h.setr (r := #[]) hX rfl
theorem Ats.s2 {b : Nat} {v : Value} (h : Ats w w1 (.nv b k a s q l :: ls)) (hX : V = w1.setCell ⟨b, 2, none⟩ v) : Ats w V (.nv b k a v q l :: ls) := h.setr (r := #[]) hX rfl
theorem Ats.s3 {b : Nat} {v : Value} (h : Ats w w1 (.nv b k a s q l :: ls)) (hX : V = w1.setCell ⟨b, 3, none⟩ v) : Ats w V (.nv b k a s v l :: ls) := h.setr (r := #[]) hX rfl
theorem Ats.s4 {b : Nat} {v : Value} (h : Ats w w1 (.nv b k a s q l :: ls)) (hX : V = w1.setCell ⟨b, 4, none⟩ v) : Ats w V (.nv b k a s q v :: ls) := h.setr (r := #[]) hX rfl
theorem Ats.ss {j b : Nat} {v : Value} (h : Ats w w1 ls) (hb : b ≤ w.heap.size) (hX : V = w1.setCell ⟨b, j, none⟩ v) : Ats w V ls := by subst hX; exact AtsY.set h (.inl hb)
end
/- rows of nodes laid side by side -/
section
variable {w w1 V : World} {ls : List At} {rb : Nat} {x y z : Ty} {ao bo co : Option Addr} {ca cb cc : Nat}
theorem Ats.mk1 (h : Ats w w1 (.kd x.args ao ca :: ls)) (hl : w.heap.size < w1.heap.size) (hrb : rb < w.heap.size) {z9 : Nat} (hz : w1.heap.size = z9) (hV : V = w1.alloc (.cells #[.int .i64 x.k, .int .i64 x.n, .string x.s, .int .i64 x.q, .slice ao x.args.length ca] 26)) : Ats w V (.ow (.slice (some ⟨z9, 0, none⟩) 1 1) [x] :: ls) := by
 subst hz
 exact ⟨Ow.one hV (Kd.mono h.1 fun _ hx => .inr (hx.elim False.elim id)) hl (fun a hx => hx.elim False.elim (fun h9 => ((Ats.dr h).wr h9).2)), AtsY.gr (gr_below (by rw [hV]; exact balloc (Below.refl _ _) _) (some rb)) hrb (AtsY.fresh (Ats.dr h) fun a hx => hx.elim False.elim (fun h9 => .inr (by simp [At.wr, Value.ownBlock] at h9; omega)))⟩
theorem Ats.mk2 (h : Ats w w1 (.kd x.args ao ca :: .kd y.args bo cb :: ls)) (hl : w.heap.size < w1.heap.size) (hrb : rb < w.heap.size) {z9 : Nat} (hz : w1.heap.size = z9) (hV : V = w1.alloc (.cells #[.int .i64 x.k, .int .i64 x.n, .string x.s, .int .i64 x.q, .slice ao x.args.length ca, .int .i64 y.k, .int .i64 y.n, .string y.s, .int .i64 y.q, .slice bo y.args.length cb] 26)) : Ats w V (.ow (.slice (some ⟨z9, 0, none⟩) 2 2) [x, y] :: ls) := by
 subst hz
 exact ⟨Ow.two hV (Kd.mono h.1 fun _ hx => .inr (wrs_cons.2 (.inr (hx.elim False.elim id)))) (Kd.mono h.2.1 fun _ hx => .inr (hx.elim False.elim id)) hl (fun a hx => hx.elim False.elim (fun h9 => ((Ats.dr (Ats.dr h)).wr h9).2)), AtsY.gr (gr_below (by rw [hV]; exact balloc (Below.refl _ _) _) (some rb)) hrb (AtsY.fresh (Ats.dr (Ats.dr h)) fun a hx => hx.elim False.elim (fun h9 => .inr (by simp [At.wr, Value.ownBlock] at h9; omega)))⟩
theorem Ats.mk3 (h : Ats w w1 (.kd x.args ao ca :: .kd y.args bo cb :: .kd z.args co cc :: ls)) (hl : w.heap.size < w1.heap.size) (hrb : rb < w.heap.size) {z9 : Nat} (hz : w1.heap.size = z9) (hV : V = w1.alloc (.cells #[.int .i64 x.k, .int .i64 x.n, .string x.s, .int .i64 x.q, .slice ao x.args.length ca, .int .i64 y.k, .int .i64 y.n, .string y.s, .int .i64 y.q, .slice bo y.args.length cb, .int .i64 z.k, .int .i64 z.n, .string z.s, .int .i64 z.q, .slice co z.args.length cc] 26)) : Ats w V (.ow (.slice (some ⟨z9, 0, none⟩) 3 3) [x, y, z] :: ls) := by
 subst hz
 exact ⟨Ow.three hV (Kd.mono h.1 fun _ hx => .inr (wrs_cons.2 (.inr (wrs_cons.2 (.inr (hx.elim False.elim id)))))) (Kd.mono h.2.1 fun _ hx => .inr (wrs_cons.2 (.inr (hx.elim False.elim id)))) (Kd.mono h.2.2.1 fun _ hx => .inr (hx.elim False.elim id)) hl (fun a hx => hx.elim False.elim (fun h9 => ((Ats.dr (Ats.dr (Ats.dr h))).wr h9).2)), AtsY.gr (gr_below (by rw [hV]; exact balloc (Below.refl _ _) _) (some rb)) hrb (AtsY.fresh (Ats.dr (Ats.dr (Ats.dr h))) fun a hx => hx.elim False.elim (fun h9 => .inr (by simp [At.wr, Value.ownBlock] at h9; omega)))⟩
end
theorem size_set {w1 V : World} {p : Addr} {v : Value} {z : Nat} (h : w1.setCell p v = V) (hz : w1.heap.size = z) : V.heap.size = z := by rw [← h, World.size_setCell]; exact hz
theorem Ow.beside {w A w9 : World} {X Y : Nat → Prop} {r : Option Nat} {v : Value} {l : List Ty} (h : Ow w A Y v l) (hg : AppG w A w9 X r) (hy : ∀ a, r = some a → Y a) : Ow w w9 Y v l := by
 obtain ⟨bs, D, h1, h2, h3, h4⟩ := h
 have hne : v.ownBlock = none ∨ v.ownBlock ≠ r := by
  cases he : v.ownBlock with
  | none => exact .inl rfl
  | some g => exact .inr fun e => h4 g he (hy g e.symm)
 exact ⟨bs, D, h1, ⟨h2.own.kept hg.g hne, fun b hb => (h2.sl b hb).keep fun d hd off => World.cell?_of_block (a := ⟨d, off, none⟩) (hg.g.block d (h3 d hd).1.2.1 fun e => (h3 d hd).1.2.2 (hy d e.symm))⟩, fun b hb => ⟨⟨(h3 b hb).1.1, Nat.lt_of_lt_of_le (h3 b hb).1.2.1 hg.g.size, (h3 b hb).1.2.2⟩, (h3 b hb).2⟩, h4⟩
theorem Kd.beside {w A w9 : World} {X Y : Nat → Prop} {r : Option Nat} {l : List Ty} {ao : Option Addr} {cap : Nat} (h : Kd w A Y l ao cap) (hg : AppG w A w9 X r) (hy : ∀ a, r = some a → Y a) : Kd w w9 Y l ao cap :=
 (SlD.keep h fun b hb off => World.cell?_of_block (a := ⟨b, off, none⟩) (hg.g.block b hb.2.1 (fun e => hb.2.2 (hy b e.symm)))).mono fun b hb => ⟨hb.1, Nat.lt_of_lt_of_le hb.2.1 hg.g.size, hb.2.2⟩
theorem Vb.beside {w A w9 : World} {nb t : Nat} {row : Array Value} {X : Nat → Prop} {r : Option Nat} (h : Vb w nb t row A) (hg : AppG w A w9 X r) (hx : ∀ a, r = some a → a ≠ nb) : Vb w nb t row w9 := ⟨by rw [hg.g.block nb (lt_of_block h.row) (fun e => hx nb e.symm rfl)]; exact h.row, h.lt⟩
theorem At.ok.beside {w A w9 : World} {X Y : Nat → Prop} {r : Option Nat} (hg : AppG w A w9 X r) (hy : ∀ a, r = some a → Y a) : ∀ {a : At}, a.ok w A Y → a.ok w w9 Y
 | .nv .., h => ⟨h.1.beside hg (fun a e e2 => h.2 (e2 ▸ hy a e)), h.2⟩
 | .tv .., h => ⟨h.1.beside hg (fun a e e2 => h.2 (e2 ▸ hy a e)), h.2⟩
 | .gv .., h => ⟨h.1.beside hg (fun a e e2 => h.2 (e2 ▸ hy a e)), h.2⟩
 | .kd .., h => Kd.beside h hg hy
 | .ow .., h => Ow.beside h hg hy
 | .pw .., h => Pw.beside h hg hy
theorem AtsY.beside {w A w9 : World} {X : Nat → Prop} {r : Option Nat} (hg : AppG w A w9 X r) : ∀ {ls : List At} {Y : Nat → Prop}, AtsY w A Y ls → (∀ a, r = some a → Y a) → AtsY w w9 Y ls
 | [], _, _, _ => trivial
 | a :: ls, Y, h, hy => ⟨h.1.beside hg (fun b e => .inl (hy b e)), AtsY.beside hg h.2 (fun b e => .inl (hy b e))⟩
theorem run_ap {w A : World} {X Y : Nat → Prop} {v1 v2 : Value} {l1 l2 : List Ty} (ty : TypeId) (h1 : Ow w A X v1 l1) (h2 : Ow w A Y v2 l2) (hY : ∀ a, X a ∨ v1.ownBlock = some a → Y a) (hl : w.heap.size < A.heap.size) (hX : ∀ a, X a → a < A.heap.size) (hn : l1.length + l2.length ≤ 1099511627776) :
 ∃ ao cap L w9, (Builtin.append_ #[24, 24] ty #[v1, v2]).run Tryz.prog A = .ok (.slice ao L.length cap) w9 ∧ L = l1 ++ l2 ∧ Ow w w9 X (.slice ao L.length cap) L ∧ AppG w A w9 X v1.ownBlock ∧ ((Value.slice ao L.length cap).ownBlock = v1.ownBlock ∨ (Value.slice ao L.length cap).ownBlock = some A.heap.size) := by
 obtain ⟨i26, hi, hz0, hz1, hz2⟩ := info_parts info26
 have hlt1 := h1.lt
 obtain ⟨bs, D, e1, own1, hD, hx1⟩ := h1
 obtain ⟨cs, D2, ao2, cap2, e2, sl2, hD2, ev2, hnews⟩ := h2.news
 have en1 : l1.length = bs.length := by rw [← e1, List.length_map]
 have en2 : l2.length = cs.length := by rw [← e2, List.length_map]
 have hb63 : bs.length + cs.length ≤ maxLen := by unfold maxLen; omega
 have hrun : ∃ v' w', (Builtin.append_ #[24, 24] ty #[v1, v2]).run Tryz.prog A = .ok v' w' ∧ w'.ownsRow (w.heap.size + 1) 26 5 v' (bs.length + cs.length) (tcells bs ++ tcells cs) ∧ A.grownBy w' v1.ownBlock ∧ (v'.ownBlock = v1.ownBlock ∨ v'.ownBlock = some A.heap.size) := by
  rw [ev2]
  by_cases hm : cs.length = 0
  · have hc : cs = [] := List.eq_nil_of_length_eq_zero hm
    subst hc
    exact ⟨v1, A, run_append_zero (w.heap.size + 1) 24 ty 26 i26 5 Tryz.underlying24 hi v1 bs.length (tcells bs) own1.own ao2 cap2, by simpa [tcells] using own1.own, World.grownBy.refl _ _, .inl rfl⟩
  · obtain ⟨ad, rfl, hc⟩ := hnews (by omega)
    obtain ⟨v', w', hr, h3, h4, _, h5⟩ := run_append_own_at (P := Tryz.prog) A (w.heap.size + 1) 24 ty 26 i26 _ 5 64 Tryz.underlying24 hi hz0 hz1 hz2 rfl (by decide) v1 bs.length (tcells bs) own1.own ad cs.length cap2 (tcells cs) (tcells_len cs) hc (tcells_one cs) hb63 (by omega) hl
    exact ⟨v', w', hr, h3, h4, h5⟩
 obtain ⟨v', w9, hr, hown, hg, hat⟩ := hrun
 have hs9 := hg.size
 have hc9 : ∀ b, b < A.heap.size → v1.ownBlock ≠ some b → ∀ off, w9.cell? ⟨b, off, none⟩ = A.cell? ⟨b, off, none⟩ := fun b hb hne off => World.cell?_of_block (hg.block b hb (fun e => hne e.symm))
 have hA : AppG w A w9 X v1.ownBlock := ⟨hg, fun b e => ⟨(hlt1 b e).1, (hlt1 b e).2.2⟩⟩
 have hD2' : ∀ b, D2 b → w.heap.size < b ∧ b < A.heap.size ∧ ¬ X b ∧ v1.ownBlock ≠ some b := fun b hb => ⟨(hD2 b hb).1, (hD2 b hb).2.1, fun e => (hD2 b hb).2.2 (hY b (.inl e)), fun e => (hD2 b hb).2.2 (hY b (.inr e))⟩
 have hO : Ow w w9 X v' (l1 ++ l2) := by
  refine ⟨bs ++ cs, fun b => D b ∨ D2 b, by rw [List.map_append, e1, e2], ⟨?_, fun b hb => ?_⟩, fun b hb => ?_, fun g hg1 hx => ?_⟩
  · rw [List.length_append, tcells_append]; exact hown
  · rcases List.mem_append.1 hb with hb | hb
    · exact ((own1.sl b hb).keep fun d hd off => hc9 d (hD d hd).1.2.1 (hD d hd).2 off).mono fun b h => .inl h
    · exact ((sl2 b hb).keep fun d hd off => hc9 d (hD2' d hd).2.1 (hD2' d hd).2.2.2 off).mono fun b h => .inr h
  · have hb9 : w.heap.size < b ∧ b < A.heap.size ∧ ¬ X b ∧ v1.ownBlock ≠ some b := by
     rcases hb with hb | hb
     · exact ⟨(hD b hb).1.1, (hD b hb).1.2.1, (hD b hb).1.2.2, (hD b hb).2⟩
     · exact hD2' b hb
    refine ⟨⟨hb9.1, by omega, hb9.2.2.1⟩, ?_⟩
    rcases hat with e | e
    · rw [e]; exact hb9.2.2.2
    · rw [e]; intro e2; have := Option.some.inj e2; omega
  · rcases hat with e | e
    · rw [e] at hg1; exact hx1 g hg1 hx
    · rw [e] at hg1; have := Option.some.inj hg1; have := hX g hx; omega
 obtain ⟨ao, cap, ev⟩ := hO.len
 subst ev
 exact ⟨ao, cap, _, w9, hr, rfl, hO, hA, hat⟩
theorem run_at {w A : World} {ls : List At} {v1 v2 : Value} {l1 l2 : List Ty} (ty : TypeId) (h : Ats w A (.ow v1 l1 :: .ow v2 l2 :: ls)) (hl : w.heap.size < A.heap.size) (hn : l1.length + l2.length ≤ 1099511627776) :
 ∃ ao cap L w9, (Builtin.append_ #[24, 24] ty #[v1, v2]).run Tryz.prog A = .ok (.slice ao L.length cap) w9 ∧ L = l1 ++ l2 ∧ Ats w w9 (.ow (.slice ao L.length cap) L :: ls) ∧ AppG w A w9 (fun _ => False) v1.ownBlock := by
 obtain ⟨h1, h2, h3⟩ := h
 have k1 : Ow w A (wrs ls) v1 l1 := Ow.mono h1 fun x hx => .inr (wrs_cons.2 (.inr hx))
 have k2 : Ow w A (fun x => wrs ls x ∨ v1.ownBlock = some x) v2 l2 := Ow.mono h2 fun x hx => hx.elim .inr (fun h9 => .inl (.inr h9))
 have hlt : ∀ a, wrs ls a → a < A.heap.size := fun a ha => (AtsY.wr h3 ha).2.1
 obtain ⟨ao, cap, L, w9, hr, eL, hO, hA, hat⟩ := run_ap ty k1 k2 (fun a h => h) hl hlt hn
 refine ⟨ao, cap, L, w9, hr, eL, ⟨Ow.mono hO fun x hx => hx.elim False.elim id, ?_⟩, ⟨hA.g, fun b e => ⟨(hA.new b e).1, fun h9 => h9⟩⟩⟩
 -- what stands beside lies elsewhere than the new row
 have key : AtsY w A (fun x => (False ∨ v1.ownBlock = some x) ∨ (Value.slice ao L.length cap).ownBlock = some x) ls := AtsY.fresh h3 fun x hx => by
  rcases hx with (hx | hx) | hx
  · exact hx.elim
  · exact .inl (.inl (.inr hx))
  · rcases hat with e | e
    · rw [e] at hx; exact .inl (.inl (.inr hx))
    · rw [e] at hx; exact .inr (Nat.le_of_eq (Option.some.inj hx))
 exact AtsY.mono (AtsY.beside hA key (fun a e => .inl (.inr e))) fun x hx => hx.elim False.elim .inr
theorem wpList_at {w A : World} {ops : Array Oper} {rest : List Oper} {o : Oper} {a : Act} {Q : Exit → Act → World → Prop} {ls : List At} {v1 v2 : Value} {l1 l2 : List Ty} (hgd : o.guard = none) (s x : Operand)
 (ho : o.op = .call { callee := .builtin .append, args := #[s, x], argTypes := #[24, 24] }) (hs : a.eval s = v1) (hx : a.eval x = v2) (h : Ats w A (.ow v1 l1 :: .ow v2 l2 :: ls)) (hl : w.heap.size < A.heap.size) (hn : l1.length + l2.length ≤ 1099511627776)
 (hk : ∀ ao cap L w9, L = l1 ++ l2 → Ats w w9 (.ow (.slice ao L.length cap) L :: ls) → AppG w A w9 (fun _ => False) v1.ownBlock → wpList Tryz.prog ops Q rest (a.put o.dst (.slice ao L.length cap)) w9) : wpList Tryz.prog ops Q (o :: rest) a A := by
 refine wpList_plain hgd fun K hK => ?_
 obtain ⟨ao, cap, L, w9, hr, eL, h3, h4⟩ := run_at o.type h hl hn
 unfold Oper.wp execOp
 simp only [ho, resolve, invoke, builtin, Sem.run_bind, Sem.run_pure, Result.andThen_ok, List.map_toArray, List.map_cons, List.map_nil, hs, hx, hr]
 exact hK _ _ (hk ao cap L w9 eL h3 h4)
theorem step_at {w A : World} {ops : Array Oper} {o : Oper} {a : Act} {K : Act → World → Prop} {Q : Exit → Act → World → Prop} {E : Prop} {ls : List At} {v1 v2 : Value} {l1 l2 : List Ty} (hgd : o.guard = none) (s x : Operand)
 (ho : o.op = .call { callee := .builtin .append, args := #[s, x], argTypes := #[24, 24] }) (hs : a.eval s = v1) (hx : a.eval x = v2) (h : Ats w A (.ow v1 l1 :: .ow v2 l2 :: ls)) (hl : w.heap.size < A.heap.size) (hn : l1.length + l2.length ≤ 1099511627776)
 (hk : ∀ ao cap L w9, L = l1 ++ l2 → Ats w w9 (.ow (.slice ao L.length cap) L :: ls) → AppG w A w9 (fun _ => False) v1.ownBlock → K (a.put o.dst (.slice ao L.length cap)) w9) : if Region.wanted o (yielded ops a.tmps) = true then Oper.wp Tryz.prog o a A K Q else E := by
 have hw : Region.wanted o (yielded ops a.tmps) = true := by simp [Region.wanted, hgd]
 rw [if_pos hw]
 obtain ⟨ao, cap, L, w9, hr, eL, h3, h4⟩ := run_at o.type h hl hn
 unfold Oper.wp execOp
 simp only [ho, resolve, invoke, builtin, Sem.run_bind, Sem.run_pure, Result.andThen_ok, List.map_toArray, List.map_cons, List.map_nil, hs, hx, hr]
 exact hk ao cap L w9 eL h3 h4
theorem tk_fields (P : Src) (i : Nat) : (∀ w, (Instr.field 59 (.agg #[.int .i64 (P.K i), .int .i64 (P.A i : Int), .string (P.T i), .int .i64 (P.N i : Int)]) 0).run Tryz.prog w = .ok (.int .i64 (P.K i)) w) ∧ (∀ w, (Instr.field 59 (.agg #[.int .i64 (P.K i), .int .i64 (P.A i : Int), .string (P.T i), .int .i64 (P.N i : Int)]) 1).run Tryz.prog w = .ok (.int .i64 (P.A i : Int)) w) ∧ (∀ w, (Instr.field 59 (.agg #[.int .i64 (P.K i), .int .i64 (P.A i : Int), .string (P.T i), .int .i64 (P.N i : Int)]) 3).run Tryz.prog w = .ok (.int .i64 (P.N i : Int)) w) := ⟨tk_fieldK P i, tk_fieldA P i, tk_fieldN P i⟩
structure Fam {σ : Type} (E : Env) (w : World) (rd : World → σ → Nat → Prop) (φ : Nat → World → σ → Prop) : Prop where
 R : ∀ {d : Nat} {wk : World} {s : σ}, φ d wk s → rd wk s d
 lt : ∀ {d : Nat} {wk : World} {s : σ}, φ d wk s → w.heap.size < wk.heap.size
 rb : ∀ {d : Nat} {wk : World} {s : σ}, φ d wk s → E.rb < w.heap.size
 gr : ∀ {d d' : Nat} {w1 w2 : World} {s s' : σ}, φ d w1 s → w1.grownBy w2 (some E.rb) → rd w2 s' d' → φ d' w2 s'
 keep : ∀ {d : Nat} {w1 w2 : World} {s : σ}, rd w1 s d → Below w1.heap.size w1 w2 → rd w2 s d
 set : ∀ {d nb t : Nat} {w1 : World} {s : σ} {row : Array Value}, φ d w1 s → Vb w nb t row w1 → E.B ≤ w.heap.size → ∀ (k : Nat) (v : Value), φ d (w1.setCell ⟨nb, k, none⟩ v) s
 own : ∀ {d : Nat} {A w9 : World} {s : σ} {X : Nat → Prop} {r : Option Nat}, φ d A s → E.B ≤ w.heap.size → AppG w A w9 X r → φ d w9 s
structure Bd {σ : Type} (E : Env) (w : World) (rd : World → σ → Nat → Prop) (φ : Nat → World → σ → Prop) (d : Nat) (wk : World) (s : σ) (ls : List At) : Prop where
 F : φ d wk s
 S : Ats w wk ls
 B : E.B ≤ w.heap.size
 fm : Fam E w rd φ
section
variable {σ : Type} {E : Env} {w w1 V : World} {rd : World → σ → Nat → Prop} {φ : Nat → World → σ → Prop} {d : Nat} {s s' : σ} {ls : List At}
theorem Bd.rb (b : Bd E w rd φ d w1 s (ls)) : E.rb < w.heap.size := b.fm.rb b.F
theorem Bd.lt (b : Bd E w rd φ d w1 s (ls)) : w.heap.size < w1.heap.size := b.fm.lt b.F
theorem Bd.R (b : Bd E w rd φ d w1 s (ls)) : rd w1 s d := b.fm.R b.F
theorem Bd.gr {d' : Nat} (b : Bd E w rd φ d w1 s (ls)) (hg : w1.grownBy V (some E.rb)) (hr : rd V s' d') : Bd E w rd φ d' V s' (ls) := ⟨b.fm.gr b.F hg hr, b.S.gr hg b.rb, b.B, b.fm⟩
theorem Bd.be (b : Bd E w rd φ d w1 s (ls)) (hb : Below w1.heap.size w1 V) : Bd E w rd φ d V s (ls) := b.gr (gr_below hb _) (b.fm.keep b.R hb)
theorem Bd.al {c : Array Value} {t : Nat} (b : Bd E w rd φ d w1 s (ls)) (h : w1.alloc (.cells c t) = V) : φ d V s := (b.be (by rw [← h]; exact balloc (Below.refl _ _) _)).F
theorem Bd.box {n : Nat} {k a x q l : Value} (b : Bd E w rd φ d w1 s (ls)) (h : w1.alloc (.cells #[k, a, x, q, l] 26) = V) (hb : w1.heap.size = n) : Bd E w rd φ d V s (.nv n k a x q l :: ls) := ⟨b.al h, b.S.box b.lt b.rb h.symm hb.symm, b.B, b.fm⟩
theorem Bd.boxt {n : Nat} {k a x q : Value} (b : Bd E w rd φ d w1 s (ls)) (h : w1.alloc (.cells #[k, a, x, q] 59) = V) (hb : w1.heap.size = n) : Bd E w rd φ d V s (.tv n k a x q :: ls) := ⟨b.al h, b.S.boxt b.lt b.rb h.symm hb.symm, b.B, b.fm⟩
theorem Bd.dr {a : At} (b : Bd E w rd φ d w1 s (a :: ls)) : Bd E w rd φ d w1 s (ls) := ⟨b.F, b.S.dr, b.B, b.fm⟩
theorem Bd.ko {x : List Ty} {ao : Option Addr} {n cap : Nat} (b : Bd E w rd φ d w1 s (.ow (.slice ao n cap) x :: ls)) : Bd E w rd φ d w1 s (.kd x ao cap :: ls) := ⟨b.F, b.S.ko, b.B, b.fm⟩
theorem Bd.nilo (b : Bd E w rd φ d w1 s (ls)) : Bd E w rd φ d w1 s (.ow (.slice none 0 0) [] :: ls) := ⟨b.F, b.S.nilo, b.B, b.fm⟩
theorem Bd.nilk (b : Bd E w rd φ d w1 s (ls)) : Bd E w rd φ d w1 s (.kd [] none 0 :: ls) := ⟨b.F, b.S.nilk, b.B, b.fm⟩
theorem Bd.mv1 {a b1 : At} (b : Bd E w rd φ d w1 s (a :: b1 :: ls)) : Bd E w rd φ d w1 s (b1 :: a :: ls) := ⟨b.F, b.S.mv1, b.B, b.fm⟩
theorem Bd.mv2 {a b1 c : At} (b : Bd E w rd φ d w1 s (a :: b1 :: c :: ls)) : Bd E w rd φ d w1 s (c :: a :: b1 :: ls) := ⟨b.F, b.S.mv2, b.B, b.fm⟩
theorem Bd.mv3 {a b1 c d1 : At} (b : Bd E w rd φ d w1 s (a :: b1 :: c :: d1 :: ls)) : Bd E w rd φ d w1 s (d1 :: a :: b1 :: c :: ls) := ⟨b.F, b.S.mv3, b.B, b.fm⟩
theorem Bd.mv4 {a b1 c d1 e : At} (b : Bd E w rd φ d w1 s (a :: b1 :: c :: d1 :: e :: ls)) : Bd E w rd φ d w1 s (e :: a :: b1 :: c :: d1 :: ls) := ⟨b.F, b.S.mv4, b.B, b.fm⟩
section
variable {n : Nat} {v9 k a x q l : Value} (b : Bd E w rd φ d w1 s (.nv n k a x q l :: ls))
include b
theorem Bd.s0 (h : w1.setCell ⟨n, 0, none⟩ v9 = V) : Bd E w rd φ d V s (.nv n v9 a x q l :: ls) := by subst h; exact ⟨b.fm.set b.F b.S.1.1 b.B _ _, b.S.s0 rfl, b.B, b.fm⟩
theorem Bd.s1 (h : w1.setCell ⟨n, 1, none⟩ v9 = V) : Bd E w rd φ d V s (.nv n k v9 x q l :: ls) := by subst h; exact ⟨b.fm.set b.F b.S.1.1 b.B _ _, b.S.s1 rfl, b.B, b.fm⟩
theorem Bd.s2 (h : w1.setCell ⟨n, 2, none⟩ v9 = V) : Bd E w rd φ d V s (.nv n k a v9 q l :: ls) := by subst h; exact ⟨b.fm.set b.F b.S.1.1 b.B _ _, b.S.s2 rfl, b.B, b.fm⟩
theorem Bd.s3 (h : w1.setCell ⟨n, 3, none⟩ v9 = V) : Bd E w rd φ d V s (.nv n k a x v9 l :: ls) := by subst h; exact ⟨b.fm.set b.F b.S.1.1 b.B _ _, b.S.s3 rfl, b.B, b.fm⟩
theorem Bd.s4 (h : w1.setCell ⟨n, 4, none⟩ v9 = V) : Bd E w rd φ d V s (.nv n k a x q v9 :: ls) := by subst h; exact ⟨b.fm.set b.F b.S.1.1 b.B _ _, b.S.s4 rfl, b.B, b.fm⟩
theorem Bd.sn {v0 v1 v2 v3 v4 : Value} (h : ((((w1.setCell ⟨n, 0, none⟩ v0).setCell ⟨n, 1, none⟩ v1).setCell ⟨n, 2, none⟩ v2).setCell ⟨n, 3, none⟩ v3).setCell ⟨n, 4, none⟩ v4 = V) : Bd E w rd φ d V s (.nv n v0 v1 v2 v3 v4 :: ls) := ((((b.s0 rfl).s1 rfl).s2 rfl).s3 rfl).s4 h
end
section
variable {x y z : Ty} {ao bo co : Option Addr} {ca cb cc z9 : Nat}
theorem Bd.mk1 (b : Bd E w rd φ d w1 s (.kd x.args ao ca :: ls)) (hz : w1.heap.size = z9) (h : w1.alloc (.cells #[.int .i64 x.k, .int .i64 x.n, .string x.s, .int .i64 x.q, .slice ao x.args.length ca] 26) = V) : Bd E w rd φ d V s (.ow (.slice (some ⟨z9, 0, none⟩) 1 1) [x] :: ls) := ⟨b.al h, b.S.mk1 b.lt b.rb hz h.symm, b.B, b.fm⟩
theorem Bd.mkl {k n q : Int} {x : ByteArray} {l : List Ty} (b : Bd E w rd φ d w1 s (.kd l ao ca :: ls)) (hz : w1.heap.size = z9) (h : w1.alloc (.cells #[.int .i64 k, .int .i64 n, .string x, .int .i64 q, .slice ao l.length ca] 26) = V) : Bd E w rd φ d V s (.ow (.slice (some ⟨z9, 0, none⟩) 1 1) [.mk k n x q l] :: ls) := Bd.mk1 (x := .mk k n x q l) b hz h
theorem Bd.mk2 (b : Bd E w rd φ d w1 s (.kd x.args ao ca :: .kd y.args bo cb :: ls)) (hz : w1.heap.size = z9) (h : w1.alloc (.cells #[.int .i64 x.k, .int .i64 x.n, .string x.s, .int .i64 x.q, .slice ao x.args.length ca, .int .i64 y.k, .int .i64 y.n, .string y.s, .int .i64 y.q, .slice bo y.args.length cb] 26) = V) : Bd E w rd φ d V s (.ow (.slice (some ⟨z9, 0, none⟩) 2 2) [x, y] :: ls) := ⟨b.al h, b.S.mk2 b.lt b.rb hz h.symm, b.B, b.fm⟩
theorem Bd.mk3 (b : Bd E w rd φ d w1 s (.kd x.args ao ca :: .kd y.args bo cb :: .kd z.args co cc :: ls)) (hz : w1.heap.size = z9) (h : w1.alloc (.cells #[.int .i64 x.k, .int .i64 x.n, .string x.s, .int .i64 x.q, .slice ao x.args.length ca, .int .i64 y.k, .int .i64 y.n, .string y.s, .int .i64 y.q, .slice bo y.args.length cb, .int .i64 z.k, .int .i64 z.n, .string z.s, .int .i64 z.q, .slice co z.args.length cc] 26) = V) : Bd E w rd φ d V s (.ow (.slice (some ⟨z9, 0, none⟩) 3 3) [x, y, z] :: ls) := ⟨b.al h, b.S.mk3 b.lt b.rb hz h.symm, b.B, b.fm⟩
theorem Bd.arg (b : Bd E w rd φ d w1 s (.kd [x] ao ca :: ls)) : ∃ b9 p9 a9 c9, ¬ (b9 = w.heap.size) ∧ ((∀ w' : World, (Instr.indexAt 24 (.slice ao 1 ca) (.int .i64 0)).run Tryz.prog w' = .ok (.pointer (some ⟨b9, p9, none⟩)) w') ∧ w1.cell? ⟨b9, p9, none⟩ = some (.int .i64 x.k) ∧ w1.cell? ⟨b9, p9 + 1, none⟩ = some (.int .i64 x.n) ∧ w1.cell? ⟨b9, p9 + 2, none⟩ = some (.string x.s) ∧ w1.cell? ⟨b9, p9 + 3, none⟩ = some (.int .i64 x.q) ∧ w1.cell? ⟨b9, p9 + 4, none⟩ = some (.slice a9 x.args.length c9)) ∧ Bd E w rd φ d w1 s (.kd x.args a9 c9 :: ls) := by
 obtain ⟨b9, p9, a9, c9, hD, ix, x0, x1, x2, x3, x4, hs⟩ := arg_cells b.S.1 (j := 0) (by simp)
 exact ⟨b9, p9, a9, c9, Nat.ne_of_gt hD.1, ⟨ix, x0, x1, x2, x3, x4⟩, b.F, ⟨hs, b.S.2⟩, b.B, b.fm⟩
end
theorem Bd.ask {Q9 : Ending → World → Prop} {f : Nat} {args : Array Value} {x : Value} {W : World} (b : Bd E w rd φ d w1 s (ls)) (h : Calls Tryz.prog f args W fun e w' => e = .returned x ∧ Below w1.heap.size w1 w') (k : ∀ u, Bd E w rd φ d u s (ls) → Q9 (.returned x) u) : Calls Tryz.prog f args W Q9 := h.mono (by rintro e u ⟨rfl, hb⟩; exact k u (b.be hb))
theorem Bd.app {ops : Array Oper} {rest : List Oper} {o : Oper} {a : Act} {Q : Exit → Act → World → Prop} {v1 v2 : Value} {l1 l2 : List Ty} (hgd : o.guard = none) (x y : Operand) (ho : o.op = .call { callee := .builtin .append, args := #[x, y], argTypes := #[24, 24] }) (hs : a.eval x = v1) (hx : a.eval y = v2) (b : Bd E w rd φ d w1 s (.ow v1 l1 :: .ow v2 l2 :: ls)) (hn : l1.length + l2.length ≤ 1099511627776)
 (k : ∀ ao cap L u, Hid (L = l1 ++ l2) → Bd E w rd φ d u s (.ow (.slice ao L.length cap) L :: ls) → wpList Tryz.prog ops Q rest (a.put o.dst (.slice ao L.length cap)) u) : wpList Tryz.prog ops Q (o :: rest) a w1 :=
 wpList_at hgd x y ho hs hx b.S b.lt hn fun ao cap L u e h hA => k ao cap L u (lh e) ⟨b.fm.own b.F b.B hA, h, b.B, b.fm⟩
end
end Go.Proofs.YthehjeeiodbkjaaGreatDoor
