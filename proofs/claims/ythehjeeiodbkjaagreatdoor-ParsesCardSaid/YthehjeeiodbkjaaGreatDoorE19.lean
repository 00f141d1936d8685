/-
  Proved: Proved: what stands while the reader reads on: its own place, the variables of a call, the nodes that were read. No condition.; the contract of the reader's head$1 (a type variable); Proved: rows of nodes of the call's own, and what stands when they grow. No condition.. Conditions: the reader as it stands in memory.
-/
import Derived.Test.YthehjeeiodbkjaaGreatDoorE16
import Derived.Deep.RegionLaw
set_option linter.unusedSimpArgs false
set_option linter.unusedVariables false
set_option maxRecDepth 100000
set_option maxHeartbeats 16000000
namespace Go.Proofs.YthehjeeiodbkjaaGreatDoor
open Go.RowKit
theorem tk_fieldK (P : Src) (i : Nat) (w : World) : (Instr.field 59 (.agg #[.int .i64 (P.K i), .int .i64 (P.A i : Int), .string (P.T i), .int .i64 (P.N i : Int)]) 0).run Tryz.prog w = .ok (.int .i64 (P.K i)) w := by kernel_rfl
theorem tk_fieldA (P : Src) (i : Nat) (w : World) : (Instr.field 59 (.agg #[.int .i64 (P.K i), .int .i64 (P.A i : Int), .string (P.T i), .int .i64 (P.N i : Int)]) 1).run Tryz.prog w = .ok (.int .i64 (P.A i : Int)) w := by kernel_rfl
theorem tk_fieldN (P : Src) (i : Nat) (w : World) : (Instr.field 59 (.agg #[.int .i64 (P.K i), .int .i64 (P.A i : Int), .string (P.T i), .int .i64 (P.N i : Int)]) 3).run Tryz.prog w = .ok (.int .i64 (P.N i : Int)) w := by kernel_rfl
theorem gr_row {rb p : Nat} {w w' : World} {x : Obj} (hg : w.grownBy w' (some rb)) (h : w.heap[p]? = some x) (hne : p ≠ rb) : w'.heap[p]? = some x := by
 rw [hg.block p (lt_of_block h) (fun e => hne (Option.some.inj e))]
 exact h
/-- the blocks that nodes may lie in: new ones, but the result's and a variable's -/
def Nw (w wk : World) (X : Nat → Prop) (b : Nat) : Prop := w.heap.size < b ∧ b < wk.heap.size ∧ ¬ X b
/-- the call's own: the reader, the result's variable -/
structure Fb (E : Env) (w : World) (d : Nat) (wk : World) (j : Nat) : Prop where
 R : Rd E wk j d
 G : w.grownBy wk (some E.rb)
 r0 : wk.heap[w.heap.size]? = some (.cells zeroRow 26 (0, 0))
 rb : E.rb < w.heap.size
theorem Fb.lt {E : Env} {w wk : World} {d j : Nat} (h : Fb E w d wk j) : w.heap.size < wk.heap.size := lt_of_block h.r0
theorem Fb.gr {E : Env} {w w1 w2 : World} {d j j' : Nat} (h : Fb E w d w1 j) (hg : w1.grownBy w2 (some E.rb)) (hr : Rd E w2 j' d) : Fb E w d w2 j' :=
 ⟨hr, gr_trans h.G hg, gr_row hg h.r0 (by have := h.rb; omega), h.rb⟩
theorem Fb.below {E : Env} {w w1 w2 : World} {d j : Nat} (h : Fb E w d w1 j) (hb : Below w1.heap.size w1 w2) : Fb E w d w2 j := h.gr (gr_below hb _) (h.R.keep hb)
theorem Fb.start {E : Env} {w W : World} {d i : Nat} (h : Rd E w i d) (hW : W = w.alloc (.cells zeroRow 26)) : Fb E w d W i := by
 have hb : Below w.heap.size w W := by rw [hW]; exact balloc (Below.refl _ _) _
 exact ⟨h.keep hb, gr_below hb _, by rw [hW]; exact heap_alloc_new w _, h.ltr⟩
/-- a variable of the call -/
structure Vb (w : World) (nb t : Nat) (row : Array Value) (wk : World) : Prop where
 row : wk.heap[nb]? = some (.cells row t (0, 0))
 lt : w.heap.size < nb
theorem Vb.gr {w w1 w2 : World} {nb t rb : Nat} {row : Array Value} (h : Vb w nb t row w1) (hg : w1.grownBy w2 (some rb)) (hrb : rb < w.heap.size) : Vb w nb t row w2 := ⟨gr_row hg h.row (by have := h.lt; omega), h.lt⟩
theorem Vb.new {w w1 W : World} {t : Nat} {row : Array Value} (hW : W = w1.alloc (.cells row t)) (hl : w.heap.size < w1.heap.size) : Vb w w1.heap.size t row W := ⟨by rw [hW]; exact heap_alloc_new w1 _, hl⟩
/-- nodes that were read -/
def Kd (w wk : World) (X : Nat → Prop) (l : List Ty) (ao : Option Addr) (cap : Nat) : Prop := SlD wk (Nw w wk X) l ao cap
theorem Kd.gr {w w1 w2 : World} {X : Nat → Prop} {rb cap : Nat} {l : List Ty} {ao : Option Addr} (h : Kd w w1 X l ao cap) (hg : w1.grownBy w2 (some rb)) (hrb : rb < w.heap.size) : Kd w w2 X l ao cap :=
 (SlD.keep h (gr_cells hg (fun b hb => ⟨hb.2.1, by have := hb.1; omega⟩))).mono fun b hb => ⟨hb.1, Nat.lt_of_lt_of_le hb.2.1 hg.size, hb.2.2⟩
theorem Kd.of {w w1 w2 : World} {X : Nat → Prop} {cap : Nat} {l : List Ty} {ao : Option Addr} (h : SlD w2 (fun b => w1.heap.size ≤ b ∧ b < w2.heap.size) l ao cap) (hl : w.heap.size < w1.heap.size) (hn : ∀ b, X b → b < w1.heap.size) : Kd w w2 X l ao cap := h.mono fun b hb => ⟨by omega, hb.2, fun e => by have := hn b e; omega⟩
theorem Kd.nil (w wk : World) (X : Nat → Prop) (ao : Option Addr) (cap : Nat) : Kd w wk X [] ao cap := sl_nil rfl
theorem Kd.set {w w1 : World} {X : Nat → Prop} {cap q k : Nat} {v : Value} {l : List Ty} {ao : Option Addr} (h : Kd w w1 X l ao cap) (hq : q ≤ w.heap.size ∨ X q) : Kd w (w1.setCell ⟨q, k, none⟩ v) X l ao cap := by
 refine (SlD.keep h fun b hb off => World.cell?_of_block (a := ⟨b, off, none⟩) (blk_set_ne rfl ?_ k v)).mono fun b hb => ⟨hb.1, by rw [World.size_setCell]; exact hb.2.1, hb.2.2⟩
 have h1 := hb.1
 have h2 := hb.2.2
 show b ≠ q
 intro e
 rcases hq with hq | hq
 · omega
 · exact h2 (e ▸ hq)
/-- the variable set -/
theorem Vb.set {w w1 : World} {nb t : Nat} {row : Array Value} (h : Vb w nb t row w1) (k : Nat) (v : Value) : Vb w nb t (row.setIfInBounds k v) (w1.setCell ⟨nb, k, none⟩ v) := ⟨blk_set h.row k v, h.lt⟩
theorem Fb.set {E : Env} {w w1 : World} {d j nb t : Nat} {row : Array Value} (f : Fb E w d w1 j) (h : Vb w nb t row w1) (hB : E.B ≤ w.heap.size) (k : Nat) (v : Value) : Fb E w d (w1.setCell ⟨nb, k, none⟩ v) j := by
 have hl := h.lt
 have hb : Below w.heap.size w1 (w1.setCell ⟨nb, k, none⟩ v) := (Below.refl w.heap.size w1).setCell (p := ⟨nb, k, none⟩) (Nat.le_of_lt hl) _
 refine ⟨f.R.keepB hb hB, gr_on f.G (gr_set w1 nb k v) (.inr fun g hg => ?_), blk_set_ne f.r0 (by omega) k v, f.rb⟩
 have := Option.some.inj hg
 omega
theorem Vb.other {w w1 : World} {nb nb2 t : Nat} {row : Array Value} (h : Vb w nb t row w1) (hne : nb ≠ nb2) (k : Nat) (v : Value) : Vb w nb t row (w1.setCell ⟨nb2, k, none⟩ v) := ⟨blk_set_ne h.row hne k v, h.lt⟩
/-- what is left at the return of a node -/
theorem Fb.fin {E : Env} {w wk : World} {d j : Nat} {X : Nat → Prop} {x : Ty} {ao : Option Addr} {cap : Nat} (f : Fb E w d wk j) (hB : E.B ≤ w.heap.size) (K : Kd w wk X x.args ao cap) : TB (set5 wk w.heap.size x ao cap) w.heap.size x ao cap ∧ w.grownBy (set5 wk w.heap.size x ao cap) (some E.rb) ∧ Rd E (set5 wk w.heap.size x ao cap) j d ∧ NdQ w x (.agg (rowOf x ao cap)) (set5 wk w.heap.size x ao cap) := by
 have h0 := f.r0
 unfold zeroRow at h0
 have hb : Below w.heap.size wk (set5 wk w.heap.size x ao cap) := below_set5 (Below.refl _ _) (Nat.le_refl _)
 refine ⟨TB.set h0 x ao cap, ?_, f.R.keepB hb hB, ⟨ao, cap, rfl, ?_⟩⟩
 · refine gr_on f.G ⟨hb.os, hb.tape, hb.output, hb.size, fun k hk hne => ?_⟩ (r' := some w.heap.size) (.inr fun g hg => by have := Option.some.inj hg; omega)
   exact set5_ne rfl (fun e => hne (by rw [e]))
 · refine (SlD.keep K fun b hb2 off => World.cell?_of_block (a := ⟨b, off, none⟩) (set5_ne rfl (by have := hb2.1; show b ≠ w.heap.size; omega))).mono fun b hb2 => ⟨Nat.le_of_lt hb2.1, Nat.lt_of_lt_of_le hb2.2.1 hb.size⟩
/-- what the five things that go within are known to do, with so many levels left -/
structure PAll (E : Env) (g : Nat) : Prop where
 g60 : g ≤ 60
 exp : ItemP E (60 - g) 17 (readS E.P g .exp)
 pat : ItemP E (60 - g) 64 (readS E.P g .pat)
 typ : ItemP E (60 - g) 65 (readS E.P g .typ)
 dec : ∀ w i, Rd E w i (60 - g) → oneD E.P (startsL 0) i = true → Calls Tryz.prog 63 #[pr E] w (PPost E (60 - g) w (readS E.P g .dec i) (NdQ w))
 sig : ItemP E (60 - g) 125 (readS E.P g .sig)
theorem one_any' (E : Env) (w : World) (i d : Nat) (h : Rd E w i d) : Calls Tryz.prog 161 #[pr E] w (PPost E d w (oneB E.P i) (NdQ w)) := by
 obtain ⟨T, hT⟩ : ∃ T, T = oneB E.P i := ⟨_, rfl⟩
 rw [← hT]
 have HT : Hid (T = (kindD E.P 5 >>= fun s => pure (.mk 30 (E.P.A i) s 0 [])) i) := lh hT
 obtain ⟨W, hW⟩ : ∃ W, W = w.alloc (.cells zeroRow 26) := ⟨_, rfl⟩
 have F0 := lh (Fb.start h hW)
 have HB := lh h.low.2
 have hlr := h.ltr
 have HNOW : Hid (∀ w1 j, Rd E w1 j d → Calls Tryz.prog 35 #[pr E] w1 fun e w' => e = .returned (tkVal E.P j) ∧ Below w1.heap.size w1 w') := lh (fun w1 j h1 => now_any E w1 j d h1)
 have HKI : Hid (∀ w1 j, Rd E w1 j d → Calls Tryz.prog 74 #[pr E, .int .i64 5] w1 (PPost E d w1 (kindD E.P 5 j) fun x v _ => v = .string x)) := lh (fun w1 j h1 => kind_any E w1 j d 5 h1)
 unfold tkVal at HNOW
 unfold pr at HNOW HKI ⊢
 unfold zeroRow at hW
 have HWW := lh hW
 clear h hT hW
 go_enter Tryz.func161, Tryz.ntmps161
 go_upto_region 1 with fail
 rw [← HWW.out]
 clear HWW
 go_upto_region 2 with (first
  | (go_at_call 35; refine (HNOW.out W i F0.out.R).mono ?_; rintro e w1 ⟨rfl, hb⟩; have F1 := lh (F0.out.below hb); clear hb))
 obtain ⟨V, hV⟩ : ∃ V, V = w1.alloc (.cells #[.int .i64 (E.P.K i), .int .i64 (E.P.A i : Int), .string (E.P.T i), .int .i64 (E.P.N i : Int)] 59) := ⟨_, rfl⟩
 have F2 : Hid (Fb E w d V i) := lh (F1.out.below (by rw [hV]; exact balloc (Below.refl _ _) _))
 have VB := Vb.new hV F1.out.lt
 rw [← hV]
 obtain ⟨nb, hnb⟩ : ∃ nb, nb = w1.heap.size := ⟨_, rfl⟩
 rw [← hnb] at VB ⊢
 have V3 := lh VB
 obtain ⟨c0, c1, c2, c3⟩ := tok_cells VB.row
 have V3d : Hid (Vb w nb 59 #[.int .i64 (E.P.K i), .int .i64 (E.P.A i : Int), .string (E.P.T i), .int .i64 (E.P.N i : Int)] V.drew) := lh ⟨V3.out.row, V3.out.lt⟩
 have F2d : Hid (Fb E w d V.drew i) := lh (F2.out.below (Below.refl _ _).drew)
 clear VB hnb hV
 go_region_law (first
  | (go_simp; go_at_call 74; refine (HKI.out V.drew i F2d.out.R).mono ?_; rintro e w3 ⟨hg, h3⟩; rcases h3.symm with ⟨k, a, hx, rfl, jj, hr⟩ | ⟨s, j, v, hx, rfl, rfl, hr⟩; exact ⟨rfl, PPost.bad (gr_trans F2d.out.G hg) (HT.out.trans (bind_bad hx)) hr⟩; have HT1 := lh (HT.out.trans (bind_ok hx)); have F4 := lh (F2d.out.gr hg hr); obtain ⟨k0, k1, k2, k3⟩ := tok_cells (V3d.out.gr hg F2.out.rb).row; have hr0 := F4.out.r0; unfold zeroRow at hr0; obtain ⟨⟨d0, d1, d2, d3, d4⟩, ⟨z0, z1, z2, z3, z4⟩⟩ := five_cells hr0; clear hx hr hg h3 hr0))
 all_goals
  go_wp2_with fail
  obtain ⟨f1, f2, f3, f4⟩ := F4.out.fin (X := fun a => a = nb) (x := .mk 30 (E.P.A i) s 0 []) (ao := none) (cap := 0) HB.out (Kd.nil _ _ _ _ _)
  exact bodyPost_ret (res_ty rfl rfl f1) rfl (PPost.ok f2 HT1.out f4 f3)
theorem own_up {w : World} {B C : Nat} {v : Value} {n e size : Nat} {xs : List Value} (h : w.ownsRow B e size v n xs) (hC : ∀ g, v.ownBlock = some g → C ≤ g) : w.ownsRow C e size v n xs := by
 refine ⟨h.1, ?_⟩
 rcases h.2 with hn | ⟨g, cap, cur, rfl, hb, rest⟩
 · exact .inl hn
 · exact .inr ⟨g, cap, cur, rfl, hC g rfl, rest⟩
/-- a row of nodes of the call's own -/
def Ow (w wk : World) (X : Nat → Prop) (v : Value) (l : List Ty) : Prop := ∃ (bs : List Bt) (D : Nat → Prop), bs.map Bt.t = l ∧ OwnT (w.heap.size + 1) wk D v bs ∧ (∀ b, D b → Nw w wk X b ∧ v.ownBlock ≠ some b) ∧ ∀ g, v.ownBlock = some g → ¬ X g
theorem Ow.nil (w wk : World) (X : Nat → Prop) : Ow w wk X (.slice none 0 0) [] := ⟨[], fun _ => False, rfl, OwnT.nil _ _ _, fun b h => h.elim, fun g h => by simp [Value.ownBlock] at h⟩
theorem Ow.len {w wk : World} {X : Nat → Prop} {v : Value} {l : List Ty} (h : Ow w wk X v l) : ∃ ao cap, v = .slice ao l.length cap := by
 obtain ⟨bs, D, h1, h2, h3, h4⟩ := h
 obtain ⟨ao, cap, e, -⟩ := h2.read (D' := fun _ => True) (fun _ _ => trivial) (fun _ _ => trivial)
 exact ⟨ao, cap, by rw [e, ← h1, List.length_map]⟩
theorem Ow.lt {w wk : World} {X : Nat → Prop} {v : Value} {l : List Ty} (h : Ow w wk X v l) : ∀ g, v.ownBlock = some g → w.heap.size < g ∧ g < wk.heap.size ∧ ¬ X g := by
 obtain ⟨bs, D, h1, h2, h3, h4⟩ := h
 intro g e
 have := h2.own.lt g e
 exact ⟨by omega, this.2, h4 g e⟩
theorem Ow.kd {w wk : World} {X : Nat → Prop} {l : List Ty} {ao : Option Addr} {n cap : Nat} (h : Ow w wk X (.slice ao n cap) l) : n = l.length ∧ Kd w wk X l ao cap := by
 obtain ⟨bs, D, h1, h2, h3, h4⟩ := h
 obtain ⟨ao', cap', e, hs⟩ := h2.read (D' := Nw w wk X) (fun b hb => (h3 b hb).1) (fun b hb => ⟨by have := (h2.own.lt b hb).1; omega, (h2.own.lt b hb).2, h4 b hb⟩)
 injection e with e1 e2 e3
 subst e1 e2 e3
 rw [h1] at hs
 exact ⟨by rw [← h1, List.length_map], hs⟩
/-- it lies elsewhere than what is made from here on -/
theorem Ow.fresh {w w1 : World} {X Y : Nat → Prop} {v : Value} {l : List Ty} (h : Ow w w1 X v l) (hy : ∀ a, Y a → X a ∨ w1.heap.size ≤ a) : Ow w w1 Y v l := by
 obtain ⟨bs, D, h1, h2, h3, h4⟩ := h
 refine ⟨bs, D, h1, h2, fun b hb => ⟨⟨(h3 b hb).1.1, (h3 b hb).1.2.1, fun hy1 => ?_⟩, (h3 b hb).2⟩, fun g hg hy1 => ?_⟩
 · rcases hy b hy1 with h5 | h5
   · exact (h3 b hb).1.2.2 h5
   · have := (h3 b hb).1.2.1; omega
 · rcases hy g hy1 with h5 | h5
   · exact h4 g hg h5
   · have := (h2.own.lt g hg).2; omega
theorem Kd.fresh {w w1 : World} {X Y : Nat → Prop} {cap : Nat} {l : List Ty} {ao : Option Addr} (h : Kd w w1 X l ao cap) (hy : ∀ a, Y a → X a ∨ w1.heap.size ≤ a) : Kd w w1 Y l ao cap := SlD.mono h fun b hb => ⟨hb.1, hb.2.1, fun h1 => by
 rcases hy b h1 with h5 | h5
 · exact hb.2.2 h5
 · have := hb.2.1; omega⟩
theorem Ow.gr {w w1 w2 : World} {X : Nat → Prop} {rb : Nat} {v : Value} {l : List Ty} (h : Ow w w1 X v l) (hg : w1.grownBy w2 (some rb)) (hrb : rb < w.heap.size) : Ow w w2 X v l := by
 obtain ⟨bs, D, h1, h2, h3, h4⟩ := h
 exact ⟨bs, D, h1, h2.gr hg (by omega) (fun b hb => ⟨(h3 b hb).1.2.1, by have := (h3 b hb).1.1; omega⟩), fun b hb => ⟨⟨(h3 b hb).1.1, Nat.lt_of_lt_of_le (h3 b hb).1.2.1 hg.size, (h3 b hb).1.2.2⟩, (h3 b hb).2⟩, h4⟩
theorem Ow.set {w w1 : World} {X : Nat → Prop} {q k : Nat} {x v : Value} {l : List Ty} (h : Ow w w1 X v l) (hq : q ≤ w.heap.size ∨ X q) : Ow w (w1.setCell ⟨q, k, none⟩ x) X v l := by
 obtain ⟨bs, D, h1, h2, h3, h4⟩ := h
 have hne : v.ownBlock ≠ some q := fun e => by
  have := (h2.own.lt q e).1
  rcases hq with hq | hq
  · omega
  · exact h4 q e hq
 refine ⟨bs, D, h1, ⟨h2.own.kept (gr_set w1 q k x) (.inr hne), fun b hb => (h2.sl b hb).keep fun d hd off => World.cell?_of_block (a := ⟨d, off, none⟩) (blk_set_ne rfl ?_ k x)⟩, fun b hb => ⟨⟨(h3 b hb).1.1, by rw [World.size_setCell]; exact (h3 b hb).1.2.1, (h3 b hb).1.2.2⟩, (h3 b hb).2⟩, h4⟩
 have h5 := (h3 d hd).1
 show d ≠ q
 have := h5.1
 rcases hq with hq | hq
 · omega
 · intro e
   exact h5.2.2 (e ▸ hq)
theorem OwQ.ow {w w1 w2 : World} {X : Nat → Prop} {v : Value} {l : List Ty} (h : OwQ w1 l v w2) (hl : w.heap.size < w1.heap.size) (hn : ∀ a, X a → a < w1.heap.size) : Ow w w2 X v l := by
 obtain ⟨bs, D, h1, h2, h3⟩ := h
 exact ⟨bs, D, h1, ⟨own_up h2.own (fun g e => by have := (h2.own.lt g e).1; omega), h2.sl⟩, fun b hb => ⟨⟨by have := (h3 b hb).1; omega, (h3 b hb).2.1, fun e => by have := (h3 b hb).1; have := hn b e; omega⟩, (h3 b hb).2.2⟩, fun g hg e => by have := (h2.own.lt g hg).1; have := hn g e; omega⟩
/-- what else may turn: a row of the call's own -/
structure AppG (w A w9 : World) (X : Nat → Prop) (r : Option Nat) : Prop where
 g : A.grownBy w9 r
 new : ∀ b, r = some b → w.heap.size < b ∧ ¬ X b
theorem AppG.below {w A w9 : World} {X : Nat → Prop} {r : Option Nat} (h : AppG w A w9 X r) (hl : w.heap.size ≤ A.heap.size) : Below w.heap.size A w9 := ⟨h.g.os, h.g.tape, h.g.output, h.g.size, fun k hk => h.g.block k (by omega) (fun e => by have := (h.new k e.symm).1; omega)⟩
theorem Fb.own {E : Env} {w A w9 : World} {d j : Nat} {X : Nat → Prop} {r : Option Nat} (f : Fb E w d A j) (hB : E.B ≤ w.heap.size) (hg : AppG w A w9 X r) : Fb E w d w9 j := by
 have hlt := f.lt
 have hb := hg.below (Nat.le_of_lt hlt)
 refine ⟨f.R.keepB hb hB, gr_on f.G hg.g (.inr fun g e => Nat.le_of_lt (hg.new g e).1), ?_, f.rb⟩
 rw [hg.g.block w.heap.size hlt (fun e => by have := (hg.new _ e.symm).1; omega)]
 exact f.r0
theorem Vb.own {w A w9 : World} {nb t : Nat} {row : Array Value} {X : Nat → Prop} {r : Option Nat} (h : Vb w nb t row A) (hg : AppG w A w9 X r) (hx : X nb) : Vb w nb t row w9 := ⟨by rw [hg.g.block nb (lt_of_block h.row) (fun e => (hg.new nb e.symm).2 hx)]; exact h.row, h.lt⟩
/-- a row of one node -/
theorem Ow.one {w w1 W : World} {X : Nat → Prop} {x : Ty} {ao : Option Addr} {cap : Nat} (hW : W = w1.alloc (.cells (rowOf x ao cap) 26)) (hs : Kd w w1 X x.args ao cap) (hl : w.heap.size < w1.heap.size) (hn : ∀ a, X a → a < w1.heap.size) : Ow w W X (.slice (some ⟨w1.heap.size, 0, none⟩) 1 1) [x] := by
 have hr : W.heap[w1.heap.size]? = some (.cells (rowOf x ao cap) 26 (0, 0)) := by rw [hW]; exact heap_alloc_new w1 _
 have hsz : w1.heap.size < W.heap.size := lt_of_block hr
 refine ⟨[⟨x, ao, cap⟩], Nw w w1 X, rfl, OwnT.one ⟨x, ao, cap⟩ hW hl hs (fun b hb => hb.2.1), fun b hb => ⟨⟨hb.1, by have := hb.2.1; omega, hb.2.2⟩, fun e => ?_⟩, fun g e h => ?_⟩
 · have := hb.2.1
   simp [Value.ownBlock] at e
   omega
 · simp [Value.ownBlock] at e
   have := hn g h
   omega
/-- a row of some nodes -/
theorem OwnT.many {B : Nat} {w1 W : World} {D : Nat → Prop} (bs : List Bt) (hW : W = w1.alloc (.cells (tcells bs).toArray 26)) (hB : B ≤ w1.heap.size) (hn : bs.length ≤ 1000) (hs : ∀ b ∈ bs, SlD w1 D b.t.args b.ao b.cap) (hD : ∀ b, D b → b < w1.heap.size) : OwnT B W D (.slice (some ⟨w1.heap.size, 0, none⟩) bs.length bs.length) bs := by
 refine ⟨?_, fun b hb => (hs b hb).keep fun d hd off => ?_⟩
 · have h := World.ownsRow_lit (base := B) (e := 26) (size := 5) w1 (tcells bs).toArray bs.length hB (by unfold maxLen; omega) (by simp [tcells_len])
   rw [hW]
   simpa using h
 · rw [hW]
   exact (balloc (Below.refl w1.heap.size w1) _).cell (p := ⟨d, off, none⟩) (hD d hd)
theorem Ow.many {w w1 W : World} {X : Nat → Prop} (bs : List Bt) (hW : W = w1.alloc (.cells (tcells bs).toArray 26)) (hn : bs.length ≤ 1000) (hs : ∀ b ∈ bs, Kd w w1 X b.t.args b.ao b.cap) (hl : w.heap.size < w1.heap.size) (hx : ∀ a, X a → a < w1.heap.size) : Ow w W X (.slice (some ⟨w1.heap.size, 0, none⟩) bs.length bs.length) (bs.map Bt.t) := by
 have hr : W.heap[w1.heap.size]? = some (.cells (tcells bs).toArray 26 (0, 0)) := by rw [hW]; exact heap_alloc_new w1 _
 have hsz : w1.heap.size < W.heap.size := lt_of_block hr
 refine ⟨bs, Nw w w1 X, rfl, OwnT.many bs hW hl hn hs (fun b hb => hb.2.1), fun b hb => ⟨⟨hb.1, by have := hb.2.1; omega, hb.2.2⟩, fun e => ?_⟩, fun g e h => ?_⟩
 · have := hb.2.1
   simp [Value.ownBlock] at e
   omega
 · simp [Value.ownBlock] at e
   have := hx g h
   omega
theorem Ow.two {w w1 W : World} {X : Nat → Prop} {x y : Ty} {ao bo : Option Addr} {c d : Nat} (hW : W = w1.alloc (.cells #[.int .i64 x.k, .int .i64 x.n, .string x.s, .int .i64 x.q, .slice ao x.args.length c, .int .i64 y.k, .int .i64 y.n, .string y.s, .int .i64 y.q, .slice bo y.args.length d] 26)) (h1 : Kd w w1 X x.args ao c) (h2 : Kd w w1 X y.args bo d) (hl : w.heap.size < w1.heap.size) (hx : ∀ a, X a → a < w1.heap.size) : Ow w W X (.slice (some ⟨w1.heap.size, 0, none⟩) 2 2) [x, y] :=
 Ow.many [⟨x, ao, c⟩, ⟨y, bo, d⟩] hW (by simp) (fun b hb => by
  rcases List.mem_cons.1 hb with rfl | hb
  · exact h1
  · rw [List.mem_singleton] at hb; subst hb; exact h2) hl hx
theorem Ow.three {w w1 W : World} {X : Nat → Prop} {x y z : Ty} {ao bo co : Option Addr} {c d e : Nat} (hW : W = w1.alloc (.cells #[.int .i64 x.k, .int .i64 x.n, .string x.s, .int .i64 x.q, .slice ao x.args.length c, .int .i64 y.k, .int .i64 y.n, .string y.s, .int .i64 y.q, .slice bo y.args.length d, .int .i64 z.k, .int .i64 z.n, .string z.s, .int .i64 z.q, .slice co z.args.length e] 26)) (h1 : Kd w w1 X x.args ao c) (h2 : Kd w w1 X y.args bo d) (h3 : Kd w w1 X z.args co e) (hl : w.heap.size < w1.heap.size) (hx : ∀ a, X a → a < w1.heap.size) : Ow w W X (.slice (some ⟨w1.heap.size, 0, none⟩) 3 3) [x, y, z] :=
 Ow.many [⟨x, ao, c⟩, ⟨y, bo, d⟩, ⟨z, co, e⟩] hW (by simp) (fun b hb => by
  rcases List.mem_cons.1 hb with rfl | hb
  · exact h1
  · rcases List.mem_cons.1 hb with rfl | hb
    · exact h2
    · rw [List.mem_singleton] at hb; subst hb; exact h3) hl hx
/-- the reader steps on -/
theorem Fb.seti {E : Env} {w wk : World} {d j j' : Nat} (f : Fb E w d wk j) (h : j' ≤ E.P.toks.length) : Fb E w d (wk.setCell ⟨E.rb, 1, none⟩ (.int .i64 (j' : Int))) j' := by
 refine ⟨f.R.seti h, gr_on f.G (gr_set wk E.rb 1 _) (.inl rfl), blk_set_ne f.r0 (by have := f.rb; omega) 1 _, f.rb⟩
theorem failD_cast {α β : Type} {P : Src} {e i x y : Nat} (h : (failD P e i : Res α) = .bad x y) : (failD P e i : Res β) = .bad x y := by
 unfold failD at h ⊢
 split at h
 · rename_i h1; rw [if_pos h1]; cases h; rfl
 · rename_i h1; rw [if_neg h1]; cases h; rfl
theorem kind_if {β : Type} (P : Src) (k : Int) (f : ByteArray → M β) (i : Nat) : (kindD P k >>= f) i = if P.K i = k then f (P.T i) (i + 1) else failD P 4 i := by
 by_cases h : P.K i = k
 · rw [if_pos h, bind_ok (x := P.T i) (j := i + 1) (by unfold kindD; rw [if_pos h])]
 · rw [if_neg h]
   obtain ⟨a, b, hf, -⟩ := failD_eq (α := ByteArray) P 4 i
   rw [bind_bad (k := a) (a := b) (by unfold kindD; rw [if_neg h]; exact hf)]
   exact (failD_cast hf).symm
theorem eat_if {β : Type} (P : Src) (s : ByteArray) (f : Bool → M β) (i : Nat) : (eatD P s >>= f) i = if isD P s i = true then f true (i + 1) else f false i := by
 by_cases h : isD P s i = true
 · rw [if_pos h, bind_ok (x := true) (j := i + 1) (by unfold eatD; rw [if_pos h])]
 · rw [if_neg h, bind_ok (x := false) (j := i) (by unfold eatD; rw [if_neg h])]
/-- the cells of such a row -/
theorem Ow.news {w wk : World} {X : Nat → Prop} {v : Value} {l : List Ty} (h : Ow w wk X v l) : ∃ (bs : List Bt) (D : Nat → Prop) (ao : Option Addr) (cap : Nat), bs.map Bt.t = l ∧ (∀ b ∈ bs, SlD wk D b.t.args b.ao b.cap) ∧ (∀ b, D b → Nw w wk X b) ∧ v = .slice ao bs.length cap ∧ (0 < bs.length → ∃ ad, ao = some ad ∧ ∀ j u, (tcells bs)[j]? = some u → wk.cell? (ad.add j) = some u) := by
 obtain ⟨bs, D, h1, h2, h3, h4⟩ := h
 rcases h2.own.2 with ⟨rfl, h0⟩ | ⟨g, cap, cur, rfl, hB, hg, hc, hm, hs, ht⟩
 · exact ⟨bs, D, none, 0, h1, h2.sl, fun b hb => (h3 b hb).1, by rw [h0], fun h => by omega⟩
 · refine ⟨bs, D, _, cap, h1, h2.sl, fun b hb => (h3 b hb).1, rfl, fun _ => ⟨_, rfl, fun j u hu => ?_⟩⟩
   have hadd : (⟨g, 0, none⟩ : Addr).add j = ⟨g, j, none⟩ := by unfold Addr.add; split <;> simp_all
   rw [hadd, blk_cell hg]
   rw [← ht, List.getElem?_take] at hu
   split at hu
   · rw [← Array.getElem?_toList]; exact hu
   · cases hu
/-- one such row behind another -/
theorem run_app {w A : World} {X Y : Nat → Prop} {v1 v2 : Value} {l1 l2 : List Ty} (ty : TypeId) (h1 : Ow w A X v1 l1) (h2 : Ow w A Y v2 l2) (hY : ∀ a, X a ∨ v1.ownBlock = some a → Y a) (hl : w.heap.size < A.heap.size) (hX : ∀ a, X a → a < A.heap.size) (hn : l1.length + l2.length ≤ 1099511627776) :
 ∃ ao cap L w9, (Builtin.append_ #[24, 24] ty #[v1, v2]).run Tryz.prog A = .ok (.slice ao L.length cap) w9 ∧ L = l1 ++ l2 ∧ Ow w w9 X (.slice ao L.length cap) L ∧ AppG w A w9 X v1.ownBlock := by
 obtain ⟨i26, hi, hz0, hz1, hz2⟩ := info_parts info26
 have hlt1 := h1.lt
 obtain ⟨bs, D, e1, own1, hD, hx1⟩ := h1
 obtain ⟨cs, D2, ao2, cap2, e2, sl2, hD2, ev2, hnews⟩ := h2.news
 have en1 : l1.length = bs.length := by rw [← e1, List.length_map]
 have en2 : l2.length = cs.length := by rw [← e2, List.length_map]
 have hb63 : bs.length + cs.length ≤ maxLen := by unfold maxLen; omega
 have hrun : ∃ v' w', (Builtin.append_ #[24, 24] ty #[v1, v2]).run Tryz.prog A = .ok v' w' ∧ w'.ownsRow (w.heap.size + 1) 26 5 v' (bs.length + cs.length) (tcells bs ++ tcells cs) ∧ A.grownBy w' v1.ownBlock ∧ (v'.ownBlock = v1.ownBlock ∨ v'.ownBlock = some A.heap.size) := by
  rw [ev2]
  by_cases hm : cs.length = 0
  · have hc : cs = [] := List.eq_nil_of_length_eq_zero hm
    subst hc
    exact ⟨v1, A, run_append_zero (w.heap.size + 1) 24 ty 26 i26 5 Tryz.underlying24 hi v1 bs.length (tcells bs) own1.own ao2 cap2, by simpa [tcells] using own1.own, World.grownBy.refl _ _, .inl rfl⟩
  · obtain ⟨ad, rfl, hc⟩ := hnews (by omega)
    obtain ⟨v', w', hr, h3, h4, _, h5⟩ := run_append_own_at (P := Tryz.prog) A (w.heap.size + 1) 24 ty 26 i26 _ 5 64 Tryz.underlying24 hi hz0 hz1 hz2 rfl (by decide) v1 bs.length (tcells bs) own1.own ad cs.length cap2 (tcells cs) (tcells_len cs) hc (tcells_one cs) hb63 (by omega) hl
    exact ⟨v', w', hr, h3, h4, h5⟩
 obtain ⟨v', w9, hr, hown, hg, hat⟩ := hrun
 have hs9 := hg.size
 have hc9 : ∀ b, b < A.heap.size → v1.ownBlock ≠ some b → ∀ off, w9.cell? ⟨b, off, none⟩ = A.cell? ⟨b, off, none⟩ := fun b hb hne off => World.cell?_of_block (hg.block b hb (fun e => hne e.symm))
 have hA : AppG w A w9 X v1.ownBlock := ⟨hg, fun b e => ⟨(hlt1 b e).1, (hlt1 b e).2.2⟩⟩
 have hD2' : ∀ b, D2 b → w.heap.size < b ∧ b < A.heap.size ∧ ¬ X b ∧ v1.ownBlock ≠ some b := fun b hb => ⟨(hD2 b hb).1, (hD2 b hb).2.1, fun e => (hD2 b hb).2.2 (hY b (.inl e)), fun e => (hD2 b hb).2.2 (hY b (.inr e))⟩
 have hO : Ow w w9 X v' (l1 ++ l2) := by
  refine ⟨bs ++ cs, fun b => D b ∨ D2 b, by rw [List.map_append, e1, e2], ⟨?_, fun b hb => ?_⟩, fun b hb => ?_, fun g hg1 hx => ?_⟩
  · rw [List.length_append, tcells_append]; exact hown
  · rcases List.mem_append.1 hb with hb | hb
    · exact ((own1.sl b hb).keep fun d hd off => hc9 d (hD d hd).1.2.1 (hD d hd).2 off).mono fun b h => .inl h
    · exact ((sl2 b hb).keep fun d hd off => hc9 d (hD2' d hd).2.1 (hD2' d hd).2.2.2 off).mono fun b h => .inr h
  · have hb9 : w.heap.size < b ∧ b < A.heap.size ∧ ¬ X b ∧ v1.ownBlock ≠ some b := by
     rcases hb with hb | hb
     · exact ⟨(hD b hb).1.1, (hD b hb).1.2.1, (hD b hb).1.2.2, (hD b hb).2⟩
     · exact hD2' b hb
    refine ⟨⟨hb9.1, by omega, hb9.2.2.1⟩, ?_⟩
    rcases hat with e | e
    · rw [e]; exact hb9.2.2.2
    · rw [e]; intro e2; have := Option.some.inj e2; omega
  · rcases hat with e | e
    · rw [e] at hg1; exact hx1 g hg1 hx
    · rw [e] at hg1; have := Option.some.inj hg1; have := hX g hx; omega
 obtain ⟨ao, cap, ev⟩ := hO.len
 subst ev
 exact ⟨ao, cap, _, w9, hr, rfl, hO, hA⟩
/-- the same in a walk -/
theorem wpList_app {w A : World} {ops : Array Oper} {rest : List Oper} {o : Oper} {a : Act} {Q : Exit → Act → World → Prop} {X Y : Nat → Prop} {v1 v2 : Value} {l1 l2 : List Ty} (hgd : o.guard = none) (s x : Operand)
 (ho : o.op = .call { callee := .builtin .append, args := #[s, x], argTypes := #[24, 24] }) (hs : a.eval s = v1) (hx : a.eval x = v2) (h1 : Ow w A X v1 l1) (h2 : Ow w A Y v2 l2) (hY : ∀ a, X a ∨ v1.ownBlock = some a → Y a) (hl : w.heap.size < A.heap.size) (hX : ∀ a, X a → a < A.heap.size) (hn : l1.length + l2.length ≤ 1099511627776)
 (h : ∀ ao cap L w9, L = l1 ++ l2 → Ow w w9 X (.slice ao L.length cap) L → AppG w A w9 X v1.ownBlock → wpList Tryz.prog ops Q rest (a.put o.dst (.slice ao L.length cap)) w9) : wpList Tryz.prog ops Q (o :: rest) a A := by
 refine wpList_plain hgd fun K hK => ?_
 obtain ⟨ao, cap, L, w9, hr, eL, h3, h4⟩ := run_app o.type h1 h2 hY hl hX hn
 unfold Oper.wp execOp
 simp only [ho, resolve, invoke, builtin, Sem.run_bind, Sem.run_pure, Result.andThen_ok, List.map_toArray, List.map_cons, List.map_nil, hs, hx, hr]
 exact hK _ _ (h ao cap L w9 eL h3 h4)
/-- such a row at the return -/
theorem Ow.fin {w wk : World} {X : Nat → Prop} {v : Value} {l : List Ty} (h : Ow w wk X v l) (x : Ty) (ao : Option Addr) (cap : Nat) : OwQ w l v (set5 wk w.heap.size x ao cap) := by
 have h5 := ((((h.set (q := w.heap.size) (k := 0) (x := .int .i64 x.k) (.inl (Nat.le_refl _))).set (q := w.heap.size) (k := 1) (x := .int .i64 x.n) (.inl (Nat.le_refl _))).set (q := w.heap.size) (k := 2) (x := .string x.s) (.inl (Nat.le_refl _))).set (q := w.heap.size) (k := 3) (x := .int .i64 x.q) (.inl (Nat.le_refl _))).set (q := w.heap.size) (k := 4) (x := .slice ao x.args.length cap) (.inl (Nat.le_refl _))
 obtain ⟨bs, D, h1, h2, h3, h4⟩ := h5
 exact ⟨bs, D, h1, ⟨own_up h2.own (fun g e => by have := (h2.own.lt g e).1; omega), h2.sl⟩, fun b hb => ⟨Nat.le_of_lt (h3 b hb).1.1, (h3 b hb).1.2.1, (h3 b hb).2⟩⟩
/-- how long what is read may be -/
theorem sep_len {α : Type} (P : Src) (item : M α) (s : ByteArray) : ∀ (f : Nat) (acc : List α) (i : Nat) {l : List α} {j : Nat}, sepL P item s f acc i = .ok l j → l.length ≤ acc.length + f
 | 0, acc, i, l, j, h => by cases h; omega
 | f + 1, acc, i, l, j, h => by
  rw [sepL_at] at h
  split at h
  · cases hx : item (i + 1) with
    | bad k a => rw [bind_bad hx] at h; cases h
    | ok x m =>
     rw [bind_ok hx] at h
     have := sep_len P item s f _ _ h
     rw [List.length_append] at this
     simp at this
     omega
  · cases h; omega
theorem row_len {α : Type} {P : Src} {item : M α} {s : ByteArray} {i : Nat} {l : List α} {j : Nat} (h : rowD P item s i = .ok l j) : l.length ≤ P.toks.length + 2 := by
 have h2 : (item >>= fun x => sepL P item s (P.toks.length + 1) [x]) i = .ok l j := h
 cases hx : item i with
 | bad k a => rw [bind_bad hx] at h2; cases h2
 | ok x m =>
  rw [bind_ok hx] at h2
  have := sep_len P item s _ _ _ h2
  simp at this
  omega
theorem manyL_at {α : Type} (c : Nat → Bool) (item : M α) (f : Nat) (acc : List α) (i : Nat) : manyL c item (f + 1) acc i = if c i = true then (item >>= fun x => manyL c item f (acc ++ [x])) i else .ok acc i := rfl
theorem many_len {α : Type} (c : Nat → Bool) (item : M α) : ∀ (f : Nat) (acc : List α) (i : Nat) {l : List α} {j : Nat}, manyL c item f acc i = .ok l j → l.length ≤ acc.length + f
 | 0, acc, i, l, j, h => by cases h; omega
 | f + 1, acc, i, l, j, h => by
  rw [manyL_at] at h
  split at h
  · cases hx : item i with
    | bad k a => rw [bind_bad hx] at h; cases h
    | ok x m =>
     rw [bind_ok hx] at h
     have := many_len c item f _ _ h
     rw [List.length_append] at this
     simp at this
     omega
  · cases h; omega
end Go.Proofs.YthehjeeiodbkjaaGreatDoor
