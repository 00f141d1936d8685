/-
  Proved: what a reading of nodes leaves; the contract of the reader's row; what stands while the reader reads on: its own place, the variables of a call, the nodes that were read; rows of nodes of the call's own, and what stands when they grow; rows of plain cells of the call's own (tokens, texts), and what stands when they grow. Conditions: the reader as it stands in memory; the contract of what the row is of.
-/
import Derived.Test.YthehjeeiodbkjaaGreatDoorA01
import Derived.Test.YthehjeeiodbkjaaGreatDoorA03
import Derived.Deep.RegionLaw
set_option linter.unusedSimpArgs false
set_option linter.unusedVariables false
set_option maxRecDepth 100000
set_option maxHeartbeats 16000000
namespace Go.Proofs.YthehjeeiodbkjaaGreatDoor
open Go.RowKit
theorem Rd.keepB {E : Env} {w w' : World} {i d N : Nat} (h : Rd E w i d) (hb : Below N w w') (hN : E.B ≤ N) : Rd E w' i d := by
 have hr := h.low.1
 refine ⟨blk_below h.row hb (by omega), fun k hk => ?_, ⟨h.low.1, Nat.le_trans h.low.2 hb.size⟩, h.ok, h.le, h.d60, h.gl.of (fun k => hb.cell (p := ⟨0, k, none⟩) (by have := h.g2; show 0 < _; omega)) (fun k => hb.cell (p := ⟨2, k, none⟩) (by have := h.g2; show 2 < _; omega)), h.g2⟩
 obtain ⟨b, off, h1, h2, h3, h4⟩ := h.tk k hk
 exact ⟨b, off, h1, h2, h3, fun j hj => (hb.cell (p := ⟨b, _, none⟩) (Nat.lt_of_lt_of_le h3 hN)).trans (h4 j hj)⟩
def NdQ (w : World) (x : Ty) (v : Value) (w' : World) : Prop := ∃ ao cap, v = .agg (rowOf x ao cap) ∧ SlD w' (fun b => w.heap.size ≤ b ∧ b < w'.heap.size) x.args ao cap
def SlQ (w : World) (l : List Ty) (v : Value) (w' : World) : Prop := ∃ ao cap, v = .slice ao l.length cap ∧ SlD w' (fun b => w.heap.size ≤ b ∧ b < w'.heap.size) l ao cap
def OwQ (w : World) (l : List Ty) (v : Value) (w' : World) : Prop := ∃ (bs : List Bt) (D : Nat → Prop), bs.map Bt.t = l ∧ OwnT w.heap.size w' D v bs ∧ ∀ b, D b → w.heap.size ≤ b ∧ b < w'.heap.size ∧ v.ownBlock ≠ some b
theorem OwQ.sl {w w' : World} {l : List Ty} {v : Value} (h : OwQ w l v w') : SlQ w l v w' := by
 obtain ⟨bs, D, h1, h2, h3⟩ := h
 obtain ⟨ao, cap, e, hs⟩ := h2.read (D' := fun b => w.heap.size ≤ b ∧ b < w'.heap.size) (fun b hb => ⟨(h3 b hb).1, (h3 b hb).2.1⟩) (fun b hb => h2.own.lt b hb)
 refine ⟨ao, cap, by rw [e, ← h1, List.length_map], ?_⟩
 rw [← h1]
 exact hs
def NdO (w : World) (x : Ty) (v : Value) (w' : World) : Prop := ∃ ao cap, v = .agg (rowOf x ao cap) ∧ OwQ w x.args (.slice ao x.args.length cap) w'
theorem NdO.q {w w' : World} {x : Ty} {v : Value} (h : NdO w x v w') : NdQ w x v w' := by
 obtain ⟨ao, cap, e, ho⟩ := h
 obtain ⟨ao', cap', e2, hs⟩ := ho.sl
 injection e2 with e3 e4 e5
 subst e3 e5
 exact ⟨ao, cap, e, hs⟩
theorem PPost.mono {α : Type} {E : Env} {d : Nat} {w : World} {T : Res α} {Q Q' : α → Value → World → Prop} {e : Ending} {w' : World} (h : PPost E d w T Q e w') (hq : ∀ x v, Q x v w' → Q' x v w') : PPost E d w T Q' e w' := by
 obtain ⟨hg, h⟩ := h
 refine ⟨hg, h.imp (fun ⟨x, j, v, h1, h2, h3, h4⟩ => ⟨x, j, v, h1, h2, hq x v h3, h4⟩) id⟩
structure ItemP (E : Env) (d k : Nat) (item : M Ty) : Prop where
 call : ∀ w i, Rd E w i d → Calls Tryz.prog k #[pr E] w (PPost E d w (item i) (NdQ w))
 mono : ∀ i x j, i ≤ E.P.toks.length → item i = .ok x j → i ≤ j
theorem gr_cells {rb : Nat} {w w' : World} (h : w.grownBy w' (some rb)) {D : Nat → Prop} (hD : ∀ b, D b → b < w.heap.size ∧ b ≠ rb) : ∀ b, D b → ∀ off, w'.cell? ⟨b, off, none⟩ = w.cell? ⟨b, off, none⟩ := fun b hb off => World.cell?_of_block (h.block b (hD b hb).1 (fun e => (hD b hb).2 (Option.some.inj e)))
theorem OwnT.gr {B rb : Nat} {w w' : World} {D : Nat → Prop} {v : Value} {bs : List Bt} (h : OwnT B w D v bs) (hg : w.grownBy w' (some rb)) (hrb : rb < B) (hD : ∀ b, D b → b < w.heap.size ∧ b ≠ rb) : OwnT B w' D v bs :=
 ⟨h.own.kept hg (.inr fun e => by have := (h.own.lt rb e).1; omega), fun b hm => (h.sl b hm).keep (gr_cells hg hD)⟩
theorem OwnT.one {B : Nat} {w1 W : World} {D : Nat → Prop} (x : Bt) (hW : W = w1.alloc (.cells (rowOf x.t x.ao x.cap) 26)) (hB : B ≤ w1.heap.size) (hs : SlD w1 D x.t.args x.ao x.cap) (hD : ∀ b, D b → b < w1.heap.size) : OwnT B W D (.slice (some ⟨w1.heap.size, 0, none⟩) 1 1) [x] := by
 refine ⟨?_, fun b hb => ?_⟩
 · have h := World.ownsRow_lit (base := B) (e := 26) (size := 5) w1 (rowOf x.t x.ao x.cap) 1 hB (by decide) rfl
   rw [hW]
   have e : tcells [x] = (rowOf x.t x.ao x.cap).toList := by rw [tcells, tcells, List.append_nil]
   rw [e]
   exact h
 · rw [List.mem_singleton] at hb
   subst hb
   refine hs.keep fun d hd off => ?_
   rw [hW]
   exact (balloc (Below.refl w1.heap.size w1) _).cell (p := ⟨d, off, none⟩) (hD d hd)
theorem sepL_at {α : Type} (P : Src) (item : M α) (s : ByteArray) (f : Nat) (acc : List α) (i : Nat) : sepL P item s (f + 1) acc i = if isD P s i = true then (item >>= fun x => sepL P item s f (acc ++ [x])) (i + 1) else .ok acc i := rfl
theorem tk_fieldK (P : Src) (i : Nat) (w : World) : (Instr.field 59 (.agg #[.int .i64 (P.K i), .int .i64 (P.A i : Int), .string (P.T i), .int .i64 (P.N i : Int)]) 0).run Tryz.prog w = .ok (.int .i64 (P.K i)) w := by kernel_rfl
theorem tk_fieldA (P : Src) (i : Nat) (w : World) : (Instr.field 59 (.agg #[.int .i64 (P.K i), .int .i64 (P.A i : Int), .string (P.T i), .int .i64 (P.N i : Int)]) 1).run Tryz.prog w = .ok (.int .i64 (P.A i : Int)) w := by kernel_rfl
theorem tk_fieldN (P : Src) (i : Nat) (w : World) : (Instr.field 59 (.agg #[.int .i64 (P.K i), .int .i64 (P.A i : Int), .string (P.T i), .int .i64 (P.N i : Int)]) 3).run Tryz.prog w = .ok (.int .i64 (P.N i : Int)) w := by kernel_rfl
theorem gr_row {rb p : Nat} {w w' : World} {x : Obj} (hg : w.grownBy w' (some rb)) (h : w.heap[p]? = some x) (hne : p ≠ rb) : w'.heap[p]? = some x := by
 rw [hg.block p (lt_of_block h) (fun e => hne (Option.some.inj e))]
 exact h
def Nw (w wk : World) (X : Nat → Prop) (b : Nat) : Prop := w.heap.size < b ∧ b < wk.heap.size ∧ ¬ X b
structure Fb (E : Env) (w : World) (d : Nat) (wk : World) (j : Nat) : Prop where
 R : Rd E wk j d
 G : w.grownBy wk (some E.rb)
 r0 : wk.heap[w.heap.size]? = some (.cells zeroRow 26 (0, 0))
 rb : E.rb < w.heap.size
theorem Fb.lt {E : Env} {w wk : World} {d j : Nat} (h : Fb E w d wk j) : w.heap.size < wk.heap.size := lt_of_block h.r0
theorem Fb.gr {E : Env} {w w1 w2 : World} {d j j' : Nat} (h : Fb E w d w1 j) (hg : w1.grownBy w2 (some E.rb)) (hr : Rd E w2 j' d) : Fb E w d w2 j' :=
 ⟨hr, gr_trans h.G hg, gr_row hg h.r0 (by have := h.rb; omega), h.rb⟩
theorem Fb.below {E : Env} {w w1 w2 : World} {d j : Nat} (h : Fb E w d w1 j) (hb : Below w1.heap.size w1 w2) : Fb E w d w2 j := h.gr (gr_below hb _) (h.R.keep hb)
theorem Fb.start {E : Env} {w W : World} {d i : Nat} (h : Rd E w i d) (hW : W = w.alloc (.cells zeroRow 26)) : Fb E w d W i := by
 have hb : Below w.heap.size w W := by rw [hW]; exact balloc (Below.refl _ _) _
 exact ⟨h.keep hb, gr_below hb _, by rw [hW]; exact heap_alloc_new w _, h.ltr⟩
structure Vb (w : World) (nb t : Nat) (row : Array Value) (wk : World) : Prop where
 row : wk.heap[nb]? = some (.cells row t (0, 0))
 lt : w.heap.size < nb
theorem Vb.gr {w w1 w2 : World} {nb t rb : Nat} {row : Array Value} (h : Vb w nb t row w1) (hg : w1.grownBy w2 (some rb)) (hrb : rb < w.heap.size) : Vb w nb t row w2 := ⟨gr_row hg h.row (by have := h.lt; omega), h.lt⟩
theorem Vb.new {w w1 W : World} {t : Nat} {row : Array Value} (hW : W = w1.alloc (.cells row t)) (hl : w.heap.size < w1.heap.size) : Vb w w1.heap.size t row W := ⟨by rw [hW]; exact heap_alloc_new w1 _, hl⟩
def Kd (w wk : World) (X : Nat → Prop) (l : List Ty) (ao : Option Addr) (cap : Nat) : Prop := SlD wk (Nw w wk X) l ao cap
theorem Kd.gr {w w1 w2 : World} {X : Nat → Prop} {rb cap : Nat} {l : List Ty} {ao : Option Addr} (h : Kd w w1 X l ao cap) (hg : w1.grownBy w2 (some rb)) (hrb : rb < w.heap.size) : Kd w w2 X l ao cap :=
 (SlD.keep h (gr_cells hg (fun b hb => ⟨hb.2.1, by have := hb.1; omega⟩))).mono fun b hb => ⟨hb.1, Nat.lt_of_lt_of_le hb.2.1 hg.size, hb.2.2⟩
theorem Kd.of {w w1 w2 : World} {X : Nat → Prop} {cap : Nat} {l : List Ty} {ao : Option Addr} (h : SlD w2 (fun b => w1.heap.size ≤ b ∧ b < w2.heap.size) l ao cap) (hl : w.heap.size < w1.heap.size) (hn : ∀ b, X b → b < w1.heap.size) : Kd w w2 X l ao cap := h.mono fun b hb => ⟨by omega, hb.2, fun e => by have := hn b e; omega⟩
theorem Kd.nil (w wk : World) (X : Nat → Prop) (ao : Option Addr) (cap : Nat) : Kd w wk X [] ao cap := sl_nil rfl
theorem Kd.set {w w1 : World} {X : Nat → Prop} {cap q k : Nat} {v : Value} {l : List Ty} {ao : Option Addr} (h : Kd w w1 X l ao cap) (hq : q ≤ w.heap.size ∨ X q) : Kd w (w1.setCell ⟨q, k, none⟩ v) X l ao cap := by
 refine (SlD.keep h fun b hb off => World.cell?_of_block (a := ⟨b, off, none⟩) (blk_set_ne rfl ?_ k v)).mono fun b hb => ⟨hb.1, by rw [World.size_setCell]; exact hb.2.1, hb.2.2⟩
 have h1 := hb.1
 have h2 := hb.2.2
 show b ≠ q
 intro e
 rcases hq with hq | hq
 · omega
 · exact h2 (e ▸ hq)
theorem Vb.set {w w1 : World} {nb t : Nat} {row : Array Value} (h : Vb w nb t row w1) (k : Nat) (v : Value) : Vb w nb t (row.setIfInBounds k v) (w1.setCell ⟨nb, k, none⟩ v) := ⟨blk_set h.row k v, h.lt⟩
theorem Fb.set {E : Env} {w w1 : World} {d j nb t : Nat} {row : Array Value} (f : Fb E w d w1 j) (h : Vb w nb t row w1) (hB : E.B ≤ w.heap.size) (k : Nat) (v : Value) : Fb E w d (w1.setCell ⟨nb, k, none⟩ v) j := by
 have hl := h.lt
 have hb : Below w.heap.size w1 (w1.setCell ⟨nb, k, none⟩ v) := (Below.refl w.heap.size w1).setCell (p := ⟨nb, k, none⟩) (Nat.le_of_lt hl) _
 refine ⟨f.R.keepB hb hB, gr_on f.G (gr_set w1 nb k v) (.inr fun g hg => ?_), blk_set_ne f.r0 (by omega) k v, f.rb⟩
 have := Option.some.inj hg
 omega
theorem Vb.other {w w1 : World} {nb nb2 t : Nat} {row : Array Value} (h : Vb w nb t row w1) (hne : nb ≠ nb2) (k : Nat) (v : Value) : Vb w nb t row (w1.setCell ⟨nb2, k, none⟩ v) := ⟨blk_set_ne h.row hne k v, h.lt⟩
theorem Fb.fin {E : Env} {w wk : World} {d j : Nat} {X : Nat → Prop} {x : Ty} {ao : Option Addr} {cap : Nat} (f : Fb E w d wk j) (hB : E.B ≤ w.heap.size) (K : Kd w wk X x.args ao cap) : TB (set5 wk w.heap.size x ao cap) w.heap.size x ao cap ∧ w.grownBy (set5 wk w.heap.size x ao cap) (some E.rb) ∧ Rd E (set5 wk w.heap.size x ao cap) j d ∧ NdQ w x (.agg (rowOf x ao cap)) (set5 wk w.heap.size x ao cap) := by
 have h0 := f.r0
 unfold zeroRow at h0
 have hb : Below w.heap.size wk (set5 wk w.heap.size x ao cap) := below_set5 (Below.refl _ _) (Nat.le_refl _)
 refine ⟨TB.set h0 x ao cap, ?_, f.R.keepB hb hB, ⟨ao, cap, rfl, ?_⟩⟩
 · refine gr_on f.G ⟨hb.os, hb.tape, hb.output, hb.size, fun k hk hne => ?_⟩ (r' := some w.heap.size) (.inr fun g hg => by have := Option.some.inj hg; omega)
   exact set5_ne rfl (fun e => hne (by rw [e]))
 · refine (SlD.keep K fun b hb2 off => World.cell?_of_block (a := ⟨b, off, none⟩) (set5_ne rfl (by have := hb2.1; show b ≠ w.heap.size; omega))).mono fun b hb2 => ⟨Nat.le_of_lt hb2.1, Nat.lt_of_lt_of_le hb2.2.1 hb.size⟩
structure PAll (E : Env) (g : Nat) : Prop where
 g60 : g ≤ 60
 exp : ItemP E (60 - g) 17 (readS E.P g .exp)
 pat : ItemP E (60 - g) 64 (readS E.P g .pat)
 typ : ItemP E (60 - g) 65 (readS E.P g .typ)
 dec : ∀ w i, Rd E w i (60 - g) → oneD E.P (startsL 0) i = true → Calls Tryz.prog 63 #[pr E] w (PPost E (60 - g) w (readS E.P g .dec i) (NdQ w))
 sig : ItemP E (60 - g) 125 (readS E.P g .sig)
theorem own_up {w : World} {B C : Nat} {v : Value} {n e size : Nat} {xs : List Value} (h : w.ownsRow B e size v n xs) (hC : ∀ g, v.ownBlock = some g → C ≤ g) : w.ownsRow C e size v n xs := by
 refine ⟨h.1, ?_⟩
 rcases h.2 with hn | ⟨g, cap, cur, rfl, hb, rest⟩
 · exact .inl hn
 · exact .inr ⟨g, cap, cur, rfl, hC g rfl, rest⟩
def Ow (w wk : World) (X : Nat → Prop) (v : Value) (l : List Ty) : Prop := ∃ (bs : List Bt) (D : Nat → Prop), bs.map Bt.t = l ∧ OwnT (w.heap.size + 1) wk D v bs ∧ (∀ b, D b → Nw w wk X b ∧ v.ownBlock ≠ some b) ∧ ∀ g, v.ownBlock = some g → ¬ X g
theorem Ow.nil (w wk : World) (X : Nat → Prop) : Ow w wk X (.slice none 0 0) [] := ⟨[], fun _ => False, rfl, OwnT.nil _ _ _, fun b h => h.elim, fun g h => by simp [Value.ownBlock] at h⟩
theorem Ow.len {w wk : World} {X : Nat → Prop} {v : Value} {l : List Ty} (h : Ow w wk X v l) : ∃ ao cap, v = .slice ao l.length cap := by
 obtain ⟨bs, D, h1, h2, h3, h4⟩ := h
 obtain ⟨ao, cap, e, -⟩ := h2.read (D' := fun _ => True) (fun _ _ => trivial) (fun _ _ => trivial)
 exact ⟨ao, cap, by rw [e, ← h1, List.length_map]⟩
theorem Ow.lt {w wk : World} {X : Nat → Prop} {v : Value} {l : List Ty} (h : Ow w wk X v l) : ∀ g, v.ownBlock = some g → w.heap.size < g ∧ g < wk.heap.size ∧ ¬ X g := by
 obtain ⟨bs, D, h1, h2, h3, h4⟩ := h
 intro g e
 have := h2.own.lt g e
 exact ⟨by omega, this.2, h4 g e⟩
theorem Ow.kd {w wk : World} {X : Nat → Prop} {l : List Ty} {ao : Option Addr} {n cap : Nat} (h : Ow w wk X (.slice ao n cap) l) : n = l.length ∧ Kd w wk X l ao cap := by
 obtain ⟨bs, D, h1, h2, h3, h4⟩ := h
 obtain ⟨ao', cap', e, hs⟩ := h2.read (D' := Nw w wk X) (fun b hb => (h3 b hb).1) (fun b hb => ⟨by have := (h2.own.lt b hb).1; omega, (h2.own.lt b hb).2, h4 b hb⟩)
 injection e with e1 e2 e3
 subst e1 e2 e3
 rw [h1] at hs
 exact ⟨by rw [← h1, List.length_map], hs⟩
theorem Ow.fresh {w w1 : World} {X Y : Nat → Prop} {v : Value} {l : List Ty} (h : Ow w w1 X v l) (hy : ∀ a, Y a → X a ∨ w1.heap.size ≤ a) : Ow w w1 Y v l := by
 obtain ⟨bs, D, h1, h2, h3, h4⟩ := h
 refine ⟨bs, D, h1, h2, fun b hb => ⟨⟨(h3 b hb).1.1, (h3 b hb).1.2.1, fun hy1 => ?_⟩, (h3 b hb).2⟩, fun g hg hy1 => ?_⟩
 · rcases hy b hy1 with h5 | h5
   · exact (h3 b hb).1.2.2 h5
   · have := (h3 b hb).1.2.1; omega
 · rcases hy g hy1 with h5 | h5
   · exact h4 g hg h5
   · have := (h2.own.lt g hg).2; omega
theorem Kd.fresh {w w1 : World} {X Y : Nat → Prop} {cap : Nat} {l : List Ty} {ao : Option Addr} (h : Kd w w1 X l ao cap) (hy : ∀ a, Y a → X a ∨ w1.heap.size ≤ a) : Kd w w1 Y l ao cap := SlD.mono h fun b hb => ⟨hb.1, hb.2.1, fun h1 => by
 rcases hy b h1 with h5 | h5
 · exact hb.2.2 h5
 · have := hb.2.1; omega⟩
theorem Ow.gr {w w1 w2 : World} {X : Nat → Prop} {rb : Nat} {v : Value} {l : List Ty} (h : Ow w w1 X v l) (hg : w1.grownBy w2 (some rb)) (hrb : rb < w.heap.size) : Ow w w2 X v l := by
 obtain ⟨bs, D, h1, h2, h3, h4⟩ := h
 exact ⟨bs, D, h1, h2.gr hg (by omega) (fun b hb => ⟨(h3 b hb).1.2.1, by have := (h3 b hb).1.1; omega⟩), fun b hb => ⟨⟨(h3 b hb).1.1, Nat.lt_of_lt_of_le (h3 b hb).1.2.1 hg.size, (h3 b hb).1.2.2⟩, (h3 b hb).2⟩, h4⟩
theorem Ow.set {w w1 : World} {X : Nat → Prop} {q k : Nat} {x v : Value} {l : List Ty} (h : Ow w w1 X v l) (hq : q ≤ w.heap.size ∨ X q) : Ow w (w1.setCell ⟨q, k, none⟩ x) X v l := by
 obtain ⟨bs, D, h1, h2, h3, h4⟩ := h
 have hne : v.ownBlock ≠ some q := fun e => by
  have := (h2.own.lt q e).1
  rcases hq with hq | hq
  · omega
  · exact h4 q e hq
 refine ⟨bs, D, h1, ⟨h2.own.kept (gr_set w1 q k x) (.inr hne), fun b hb => (h2.sl b hb).keep fun d hd off => World.cell?_of_block (a := ⟨d, off, none⟩) (blk_set_ne rfl ?_ k x)⟩, fun b hb => ⟨⟨(h3 b hb).1.1, by rw [World.size_setCell]; exact (h3 b hb).1.2.1, (h3 b hb).1.2.2⟩, (h3 b hb).2⟩, h4⟩
 have h5 := (h3 d hd).1
 show d ≠ q
 have := h5.1
 rcases hq with hq | hq
 · omega
 · intro e
   exact h5.2.2 (e ▸ hq)
theorem OwQ.ow {w w1 w2 : World} {X : Nat → Prop} {v : Value} {l : List Ty} (h : OwQ w1 l v w2) (hl : w.heap.size < w1.heap.size) (hn : ∀ a, X a → a < w1.heap.size) : Ow w w2 X v l := by
 obtain ⟨bs, D, h1, h2, h3⟩ := h
 exact ⟨bs, D, h1, ⟨own_up h2.own (fun g e => by have := (h2.own.lt g e).1; omega), h2.sl⟩, fun b hb => ⟨⟨by have := (h3 b hb).1; omega, (h3 b hb).2.1, fun e => by have := (h3 b hb).1; have := hn b e; omega⟩, (h3 b hb).2.2⟩, fun g hg e => by have := (h2.own.lt g hg).1; have := hn g e; omega⟩
structure AppG (w A w9 : World) (X : Nat → Prop) (r : Option Nat) : Prop where
 g : A.grownBy w9 r
 new : ∀ b, r = some b → w.heap.size < b ∧ ¬ X b
theorem AppG.below {w A w9 : World} {X : Nat → Prop} {r : Option Nat} (h : AppG w A w9 X r) (hl : w.heap.size ≤ A.heap.size) : Below w.heap.size A w9 := ⟨h.g.os, h.g.tape, h.g.output, h.g.size, fun k hk => h.g.block k (by omega) (fun e => by have := (h.new k e.symm).1; omega)⟩
theorem Fb.own {E : Env} {w A w9 : World} {d j : Nat} {X : Nat → Prop} {r : Option Nat} (f : Fb E w d A j) (hB : E.B ≤ w.heap.size) (hg : AppG w A w9 X r) : Fb E w d w9 j := by
 have hlt := f.lt
 have hb := hg.below (Nat.le_of_lt hlt)
 refine ⟨f.R.keepB hb hB, gr_on f.G hg.g (.inr fun g e => Nat.le_of_lt (hg.new g e).1), ?_, f.rb⟩
 rw [hg.g.block w.heap.size hlt (fun e => by have := (hg.new _ e.symm).1; omega)]
 exact f.r0
theorem Ow.one {w w1 W : World} {X : Nat → Prop} {x : Ty} {ao : Option Addr} {cap : Nat} (hW : W = w1.alloc (.cells (rowOf x ao cap) 26)) (hs : Kd w w1 X x.args ao cap) (hl : w.heap.size < w1.heap.size) (hn : ∀ a, X a → a < w1.heap.size) : Ow w W X (.slice (some ⟨w1.heap.size, 0, none⟩) 1 1) [x] := by
 have hr : W.heap[w1.heap.size]? = some (.cells (rowOf x ao cap) 26 (0, 0)) := by rw [hW]; exact heap_alloc_new w1 _
 have hsz : w1.heap.size < W.heap.size := lt_of_block hr
 refine ⟨[⟨x, ao, cap⟩], Nw w w1 X, rfl, OwnT.one ⟨x, ao, cap⟩ hW hl hs (fun b hb => hb.2.1), fun b hb => ⟨⟨hb.1, by have := hb.2.1; omega, hb.2.2⟩, fun e => ?_⟩, fun g e h => ?_⟩
 · have := hb.2.1
   simp [Value.ownBlock] at e
   omega
 · simp [Value.ownBlock] at e
   have := hn g h
   omega
theorem OwnT.many {B : Nat} {w1 W : World} {D : Nat → Prop} (bs : List Bt) (hW : W = w1.alloc (.cells (tcells bs).toArray 26)) (hB : B ≤ w1.heap.size) (hn : bs.length ≤ 1000) (hs : ∀ b ∈ bs, SlD w1 D b.t.args b.ao b.cap) (hD : ∀ b, D b → b < w1.heap.size) : OwnT B W D (.slice (some ⟨w1.heap.size, 0, none⟩) bs.length bs.length) bs := by
 refine ⟨?_, fun b hb => (hs b hb).keep fun d hd off => ?_⟩
 · have h := World.ownsRow_lit (base := B) (e := 26) (size := 5) w1 (tcells bs).toArray bs.length hB (by unfold maxLen; omega) (by simp [tcells_len])
   rw [hW]
   simpa using h
 · rw [hW]
   exact (balloc (Below.refl w1.heap.size w1) _).cell (p := ⟨d, off, none⟩) (hD d hd)
theorem Ow.many {w w1 W : World} {X : Nat → Prop} (bs : List Bt) (hW : W = w1.alloc (.cells (tcells bs).toArray 26)) (hn : bs.length ≤ 1000) (hs : ∀ b ∈ bs, Kd w w1 X b.t.args b.ao b.cap) (hl : w.heap.size < w1.heap.size) (hx : ∀ a, X a → a < w1.heap.size) : Ow w W X (.slice (some ⟨w1.heap.size, 0, none⟩) bs.length bs.length) (bs.map Bt.t) := by
 have hr : W.heap[w1.heap.size]? = some (.cells (tcells bs).toArray 26 (0, 0)) := by rw [hW]; exact heap_alloc_new w1 _
 have hsz : w1.heap.size < W.heap.size := lt_of_block hr
 refine ⟨bs, Nw w w1 X, rfl, OwnT.many bs hW hl hn hs (fun b hb => hb.2.1), fun b hb => ⟨⟨hb.1, by have := hb.2.1; omega, hb.2.2⟩, fun e => ?_⟩, fun g e h => ?_⟩
 · have := hb.2.1
   simp [Value.ownBlock] at e
   omega
 · simp [Value.ownBlock] at e
   have := hx g h
   omega
theorem Ow.two {w w1 W : World} {X : Nat → Prop} {x y : Ty} {ao bo : Option Addr} {c d : Nat} (hW : W = w1.alloc (.cells #[.int .i64 x.k, .int .i64 x.n, .string x.s, .int .i64 x.q, .slice ao x.args.length c, .int .i64 y.k, .int .i64 y.n, .string y.s, .int .i64 y.q, .slice bo y.args.length d] 26)) (h1 : Kd w w1 X x.args ao c) (h2 : Kd w w1 X y.args bo d) (hl : w.heap.size < w1.heap.size) (hx : ∀ a, X a → a < w1.heap.size) : Ow w W X (.slice (some ⟨w1.heap.size, 0, none⟩) 2 2) [x, y] :=
 Ow.many [⟨x, ao, c⟩, ⟨y, bo, d⟩] hW (by simp) (fun b hb => by
  rcases List.mem_cons.1 hb with rfl | hb
  · exact h1
  · rw [List.mem_singleton] at hb; subst hb; exact h2) hl hx
theorem Ow.three {w w1 W : World} {X : Nat → Prop} {x y z : Ty} {ao bo co : Option Addr} {c d e : Nat} (hW : W = w1.alloc (.cells #[.int .i64 x.k, .int .i64 x.n, .string x.s, .int .i64 x.q, .slice ao x.args.length c, .int .i64 y.k, .int .i64 y.n, .string y.s, .int .i64 y.q, .slice bo y.args.length d, .int .i64 z.k, .int .i64 z.n, .string z.s, .int .i64 z.q, .slice co z.args.length e] 26)) (h1 : Kd w w1 X x.args ao c) (h2 : Kd w w1 X y.args bo d) (h3 : Kd w w1 X z.args co e) (hl : w.heap.size < w1.heap.size) (hx : ∀ a, X a → a < w1.heap.size) : Ow w W X (.slice (some ⟨w1.heap.size, 0, none⟩) 3 3) [x, y, z] :=
 Ow.many [⟨x, ao, c⟩, ⟨y, bo, d⟩, ⟨z, co, e⟩] hW (by simp) (fun b hb => by
  rcases List.mem_cons.1 hb with rfl | hb
  · exact h1
  · rcases List.mem_cons.1 hb with rfl | hb
    · exact h2
    · rw [List.mem_singleton] at hb; subst hb; exact h3) hl hx
theorem Fb.seti {E : Env} {w wk : World} {d j j' : Nat} (f : Fb E w d wk j) (h : j' ≤ E.P.toks.length) : Fb E w d (wk.setCell ⟨E.rb, 1, none⟩ (.int .i64 (j' : Int))) j' := by
 refine ⟨f.R.seti h, gr_on f.G (gr_set wk E.rb 1 _) (.inl rfl), blk_set_ne f.r0 (by have := f.rb; omega) 1 _, f.rb⟩
theorem failD_cast {α β : Type} {P : Src} {e i x y : Nat} (h : (failD P e i : Res α) = .bad x y) : (failD P e i : Res β) = .bad x y := by
 unfold failD at h ⊢
 split at h
 · rename_i h1; rw [if_pos h1]; cases h; rfl
 · rename_i h1; rw [if_neg h1]; cases h; rfl
theorem kind_if {β : Type} (P : Src) (k : Int) (f : ByteArray → M β) (i : Nat) : (kindD P k >>= f) i = if P.K i = k then f (P.T i) (i + 1) else failD P 4 i := by
 by_cases h : P.K i = k
 · rw [if_pos h, bind_ok (x := P.T i) (j := i + 1) (by unfold kindD; rw [if_pos h])]
 · rw [if_neg h]
   obtain ⟨a, b, hf, -⟩ := failD_eq (α := ByteArray) P 4 i
   rw [bind_bad (k := a) (a := b) (by unfold kindD; rw [if_neg h]; exact hf)]
   exact (failD_cast hf).symm
theorem eat_if {β : Type} (P : Src) (s : ByteArray) (f : Bool → M β) (i : Nat) : (eatD P s >>= f) i = if isD P s i = true then f true (i + 1) else f false i := by
 by_cases h : isD P s i = true
 · rw [if_pos h, bind_ok (x := true) (j := i + 1) (by unfold eatD; rw [if_pos h])]
 · rw [if_neg h, bind_ok (x := false) (j := i) (by unfold eatD; rw [if_neg h])]
theorem Ow.news {w wk : World} {X : Nat → Prop} {v : Value} {l : List Ty} (h : Ow w wk X v l) : ∃ (bs : List Bt) (D : Nat → Prop) (ao : Option Addr) (cap : Nat), bs.map Bt.t = l ∧ (∀ b ∈ bs, SlD wk D b.t.args b.ao b.cap) ∧ (∀ b, D b → Nw w wk X b) ∧ v = .slice ao bs.length cap ∧ (0 < bs.length → ∃ ad, ao = some ad ∧ ∀ j u, (tcells bs)[j]? = some u → wk.cell? (ad.add j) = some u) := by
 obtain ⟨bs, D, h1, h2, h3, h4⟩ := h
 rcases h2.own.2 with ⟨rfl, h0⟩ | ⟨g, cap, cur, rfl, hB, hg, hc, hm, hs, ht⟩
 · exact ⟨bs, D, none, 0, h1, h2.sl, fun b hb => (h3 b hb).1, by rw [h0], fun h => by omega⟩
 · refine ⟨bs, D, _, cap, h1, h2.sl, fun b hb => (h3 b hb).1, rfl, fun _ => ⟨_, rfl, fun j u hu => ?_⟩⟩
   have hadd : (⟨g, 0, none⟩ : Addr).add j = ⟨g, j, none⟩ := by unfold Addr.add; split <;> simp_all
   rw [hadd, blk_cell hg]
   rw [← ht, List.getElem?_take] at hu
   split at hu
   · rw [← Array.getElem?_toList]; exact hu
   · cases hu
theorem Ow.fin {w wk : World} {X : Nat → Prop} {v : Value} {l : List Ty} (h : Ow w wk X v l) (x : Ty) (ao : Option Addr) (cap : Nat) : OwQ w l v (set5 wk w.heap.size x ao cap) := by
 have h5 := ((((h.set (q := w.heap.size) (k := 0) (x := .int .i64 x.k) (.inl (Nat.le_refl _))).set (q := w.heap.size) (k := 1) (x := .int .i64 x.n) (.inl (Nat.le_refl _))).set (q := w.heap.size) (k := 2) (x := .string x.s) (.inl (Nat.le_refl _))).set (q := w.heap.size) (k := 3) (x := .int .i64 x.q) (.inl (Nat.le_refl _))).set (q := w.heap.size) (k := 4) (x := .slice ao x.args.length cap) (.inl (Nat.le_refl _))
 obtain ⟨bs, D, h1, h2, h3, h4⟩ := h5
 exact ⟨bs, D, h1, ⟨own_up h2.own (fun g e => by have := (h2.own.lt g e).1; omega), h2.sl⟩, fun b hb => ⟨Nat.le_of_lt (h3 b hb).1.1, (h3 b hb).1.2.1, (h3 b hb).2⟩⟩
theorem sep_len {α : Type} (P : Src) (item : M α) (s : ByteArray) : ∀ (f : Nat) (acc : List α) (i : Nat) {l : List α} {j : Nat}, sepL P item s f acc i = .ok l j → l.length ≤ acc.length + f
 | 0, acc, i, l, j, h => by cases h; omega
 | f + 1, acc, i, l, j, h => by
  rw [sepL_at] at h
  split at h
  · cases hx : item (i + 1) with
    | bad k a => rw [bind_bad hx] at h; cases h
    | ok x m =>
     rw [bind_ok hx] at h
     have := sep_len P item s f _ _ h
     rw [List.length_append] at this
     simp at this
     omega
  · cases h; omega
theorem row_len {α : Type} {P : Src} {item : M α} {s : ByteArray} {i : Nat} {l : List α} {j : Nat} (h : rowD P item s i = .ok l j) : l.length ≤ P.toks.length + 2 := by
 have h2 : (item >>= fun x => sepL P item s (P.toks.length + 1) [x]) i = .ok l j := h
 cases hx : item i with
 | bad k a => rw [bind_bad hx] at h2; cases h2
 | ok x m =>
  rw [bind_ok hx] at h2
  have := sep_len P item s _ _ _ h2
  simp at this
  omega
theorem manyL_at {α : Type} (c : Nat → Bool) (item : M α) (f : Nat) (acc : List α) (i : Nat) : manyL c item (f + 1) acc i = if c i = true then (item >>= fun x => manyL c item f (acc ++ [x])) i else .ok acc i := rfl
theorem many_len {α : Type} (c : Nat → Bool) (item : M α) : ∀ (f : Nat) (acc : List α) (i : Nat) {l : List α} {j : Nat}, manyL c item f acc i = .ok l j → l.length ≤ acc.length + f
 | 0, acc, i, l, j, h => by cases h; omega
 | f + 1, acc, i, l, j, h => by
  rw [manyL_at] at h
  split at h
  · cases hx : item i with
    | bad k a => rw [bind_bad hx] at h; cases h
    | ok x m =>
     rw [bind_ok hx] at h
     have := many_len c item f _ _ h
     rw [List.length_append] at this
     simp at this
     omega
  · cases h; omega
def Pw (w wk : World) (X : Nat → Prop) (e : TypeId) (size : Nat) (v : Value) (n : Nat) (xs : List Value) : Prop := wk.ownsRow (w.heap.size + 1) e size v n xs ∧ ∀ g, v.ownBlock = some g → ¬ X g
theorem Pw.nil (w wk : World) (X : Nat → Prop) (e : TypeId) (size : Nat) : Pw w wk X e size (.slice none 0 0) 0 [] := ⟨World.ownsRow_nil _ _ _ _, fun g h => by simp [Value.ownBlock] at h⟩
theorem Pw.len {w wk : World} {X : Nat → Prop} {e : TypeId} {size n : Nat} {v : Value} {xs : List Value} (h : Pw w wk X e size v n xs) : ∃ ao cap, v = .slice ao n cap := by
 by_cases hn : v = .slice none 0 0
 · rcases h.1.2 with ⟨h1, h2⟩ | ⟨g, cap, cur, h1, h2⟩
   · exact ⟨none, 0, by rw [h1, h2]⟩
   · exact ⟨_, _, h1⟩
 · obtain ⟨g, cap, e⟩ := own_shape h.1 hn
   exact ⟨_, _, e⟩
theorem Pw.lt {w wk : World} {X : Nat → Prop} {e : TypeId} {size n : Nat} {v : Value} {xs : List Value} (h : Pw w wk X e size v n xs) : ∀ g, v.ownBlock = some g → w.heap.size < g ∧ g < wk.heap.size ∧ ¬ X g := fun g hg => by
 have := h.1.lt g hg
 exact ⟨by omega, this.2, h.2 g hg⟩
theorem Pw.gr {w w1 w2 : World} {X : Nat → Prop} {rb : Nat} {e : TypeId} {size n : Nat} {v : Value} {xs : List Value} (h : Pw w w1 X e size v n xs) (hg : w1.grownBy w2 (some rb)) (hrb : rb < w.heap.size) : Pw w w2 X e size v n xs :=
 ⟨h.1.kept hg (.inr fun e => by have := (h.1.lt rb e).1; omega), h.2⟩
theorem Pw.set {w w1 : World} {X : Nat → Prop} {q k : Nat} {x v : Value} {e : TypeId} {size n : Nat} {xs : List Value} (h : Pw w w1 X e size v n xs) (hq : q ≤ w.heap.size ∨ X q) : Pw w (w1.setCell ⟨q, k, none⟩ x) X e size v n xs :=
 ⟨h.1.kept (gr_set w1 q k x) (.inr fun e => by
  have := (h.1.lt q e).1
  rcases hq with hq | hq
  · omega
  · exact h.2 q e hq), h.2⟩
theorem Pw.fresh {w w1 : World} {X Y : Nat → Prop} {e : TypeId} {size n : Nat} {v : Value} {xs : List Value} (h : Pw w w1 X e size v n xs) (hy : ∀ a, Y a → X a ∨ w1.heap.size ≤ a) : Pw w w1 Y e size v n xs :=
 ⟨h.1, fun g hg hg2 => by
  rcases hy g hg2 with h5 | h5
  · exact h.2 g hg h5
  · have := (h.1.lt g hg).2; omega⟩
theorem Kd.join {w w1 w2 : World} {X : Nat → Prop} {x y : Ty} {ao bo : Option Addr} {c d g : Nat} (h1 : Kd w w1 X x.args ao c) (h2 : Kd w w1 X y.args bo d) (hl : w.heap.size < w1.heap.size) (hX : ∀ a, X a → a < w1.heap.size) (hb : Below w1.heap.size w1 w2) (hg : w1.heap.size ≤ g) (hr : w2.heap[g]? = some (.cells #[.int .i64 x.k, .int .i64 x.n, .string x.s, .int .i64 x.q, .slice ao x.args.length c, .int .i64 y.k, .int .i64 y.n, .string y.s, .int .i64 y.q, .slice bo y.args.length d] 26 (0, 0))) : Kd w w2 X [x, y] (some ⟨g, 0, none⟩) 2 := by
 have hs : g < w2.heap.size := lt_of_block hr
 have k1 : Kd w w2 X x.args ao c := (SlD.keep h1 fun b hb2 off => hb.cell (p := ⟨b, off, none⟩) hb2.2.1).mono fun b hb2 => ⟨hb2.1, Nat.lt_of_lt_of_le hb2.2.1 hb.size, hb2.2.2⟩
 have k2 : Kd w w2 X y.args bo d := (SlD.keep h2 fun b hb2 off => hb.cell (p := ⟨b, off, none⟩) hb2.2.1).mono fun b hb2 => ⟨hb2.1, Nat.lt_of_lt_of_le hb2.2.1 hb.size, hb2.2.2⟩
 have hN : Nw w w2 X g := ⟨by omega, hs, fun e => by have := hX g e; omega⟩
 refine ⟨Nat.le_refl _, ArgsV.of fun k hk => ?_⟩
 have hk2 : k = 0 ∨ k = 1 := by simp at hk; omega
 rcases hk2 with rfl | rfl
 · refine ⟨g, 0, (rowOf x ao c).toList, rfl, hN, fun j hj => ?_, TyV.mk' k1⟩
   rw [blk_cell hr, show 0 + (0 + 0) * 5 + j = j from by omega]
   rcases (by omega : j = 0 ∨ j = 1 ∨ j = 2 ∨ j = 3 ∨ j = 4) with rfl | rfl | rfl | rfl | rfl <;> rfl
 · refine ⟨g, 0, (rowOf y bo d).toList, rfl, hN, fun j hj => ?_, TyV.mk' k2⟩
   rw [blk_cell hr, show 0 + (0 + 1) * 5 + j = 5 + j from by omega]
   rcases (by omega : j = 0 ∨ j = 1 ∨ j = 2 ∨ j = 3 ∨ j = 4) with rfl | rfl | rfl | rfl | rfl <;> rfl
theorem Pw.cell {w wk : World} {X : Nat → Prop} {e : TypeId} {size n : Nat} {v : Value} {xs : List Value} (h : Pw w wk X e size v n xs) (hn : 0 < n) : ∃ g cap, v = .slice (some ⟨g, 0, none⟩) n cap ∧ w.heap.size < g ∧ g < wk.heap.size ∧ ¬ X g ∧ ∀ j u, xs[j]? = some u → wk.cell? ⟨g, j, none⟩ = some u := by
 obtain ⟨ao, cap, rfl⟩ := h.len
 rcases h.1.2 with ⟨h1, h2⟩ | ⟨g, cap', cur, h1, h2⟩
 · omega
 · injection h1 with e1 e2 e3
   subst e1
   have hl := h.lt g rfl
   refine ⟨g, cap, rfl, hl.1, hl.2.1, hl.2.2, fun j u hu => ?_⟩
   have hc := h.1.cells (g := g) rfl j u hu
   have hadd : (⟨g, 0, none⟩ : Addr).add j = ⟨g, j, none⟩ := by unfold Addr.add; split <;> simp_all
   rw [hadd] at hc
   exact hc
theorem info59p : (Tryz.prog.info? 59).map (fun i => (i.zero, i.size, i.bytes)) = some (some (.agg #[.int .i64 0, .int .i64 0, .string ⟨#[]⟩, .int .i64 0]), 4, 40) := by kernel_rfl
theorem info9p : (Tryz.prog.info? 9).map (fun i => (i.zero, i.size, i.bytes)) = some (some (.string ⟨#[]⟩), 1, 16) := by kernel_rfl
theorem Pw.beside {w A w9 : World} {X Y : Nat → Prop} {r : Option Nat} {e : TypeId} {size n : Nat} {v : Value} {xs : List Value} (h : Pw w A Y e size v n xs) (hg : AppG w A w9 X r) (hy : ∀ a, r = some a → Y a) : Pw w w9 Y e size v n xs :=
 ⟨h.1.kept hg.g (by
  cases hv : v.ownBlock with
  | none => exact .inl rfl
  | some b => exact .inr fun e => h.2 b hv (hy b e.symm)), h.2⟩
theorem wpList_appP {w A : World} {ops : Array Oper} {rest : List Oper} {o : Oper} {a : Act} {Q : Exit → Act → World → Prop} {X : Nat → Prop} {v z : Value} {n size bytes : Nat} {xs : List Value} {ty e : TypeId} (hu : Tryz.prog.underlying ty = some (.slice e)) (hinf : (Tryz.prog.info? e).map (fun i => (i.zero, i.size, i.bytes)) = some (some z, size, bytes)) (hzs : z.cells.size = size) (hsz : 0 < size) (hby : bytes ≤ 40) (hgd : o.guard = none) (s x : Operand)
 (ho : o.op = .call { callee := .builtin .append, args := #[s, x], argTypes := #[ty, ty] }) (hs : a.eval s = v) (B : World) (row : Array Value) (hrow : row.toList.length = size) (hA : A = B.alloc (.cells row e)) (hx : a.eval x = .slice (some ⟨B.heap.size, 0, none⟩) 1 1) (ho1 : ∀ u ∈ row.toList, u.oneCell' = true) (h1 : Pw w A X e size v n xs) (hl : w.heap.size < A.heap.size) (hX : ∀ a, X a → a < A.heap.size) (hn : n ≤ 1000000000)
 (h : ∀ ao cap w9, Pw w w9 X e size (.slice ao (n + 1) cap) (n + 1) (xs ++ row.toList) → AppG w A w9 X v.ownBlock → (∀ g, (Value.slice ao (n + 1) cap).ownBlock = some g → v.ownBlock = some g ∨ A.heap.size ≤ g) → wpList Tryz.prog ops Q rest (a.put o.dst (.slice ao (n + 1) cap)) w9) : wpList Tryz.prog ops Q (o :: rest) a A := by
 obtain ⟨i, hi, hz0, hz1, hz2⟩ := info_parts hinf
 have hlt := h1.lt
 refine wpList_append3 hgd s x ty ty ho (w.heap.size + 1) e e i _ size bytes hu hu hi hz0 hz1 hz2 hzs hsz v n xs hs h1.1 (some ⟨B.heap.size, 0, none⟩) 1 1 row.toList hx (by omega) (fun _ => ⟨_, rfl, by rw [hA]; exact new_cells (c := row) _ rfl⟩) ho1 (by unfold maxLen; omega) (Nat.le_trans (Nat.mul_le_mul (show n + 1 ≤ 1000000001 by omega) hby) (by decide)) hl fun v' w9 hown hg hat => ?_
 have hP : Pw w w9 X e size v' (n + 1) (xs ++ row.toList) := ⟨hown, fun g hg1 hx => by
  rcases hat with e | e
  · rw [e] at hg1; exact h1.2 g hg1 hx
  · rw [e] at hg1; have := Option.some.inj hg1; have := hX g hx; omega⟩
 obtain ⟨ao, cap, e⟩ := hP.len
 subst e
 exact h ao cap w9 hP ⟨hg, fun b e => ⟨(hlt b e).1, (hlt b e).2.2⟩⟩ fun g hg1 => by
  rcases hat with e | e
  · rw [e] at hg1; exact .inl hg1
  · rw [e] at hg1; exact .inr (Nat.le_of_eq (Option.some.inj hg1))
end Go.Proofs.YthehjeeiodbkjaaGreatDoor
