/-
  Proved: steps of a walk through the program's printer, over the bundle and what is still to be written; the contract of the program's Print: it answers the words, a blank between; the closure of the printer's exp, by kinds of expressions. Conditions: the contract of any on that tree; at most 4000000000 bytes; the printer as it stands in memory; the contracts of what it calls.
-/
import Derived.Test.YthehjeeiodbkjaaGreatDoorA01
import Derived.Test.YthehjeeiodbkjaaGreatDoorA35
import Derived.StillTailTactics
set_option linter.unusedSimpArgs false
set_option linter.unusedVariables false
set_option linter.unusedSectionVars false
set_option maxRecDepth 100000
set_option maxHeartbeats 16000000
namespace Go.Proofs.YthehjeeiodbkjaaGreatDoor
open Go.RowKit
theorem i0 {α : Type} {a : α} {l : List α} : a ∈ a :: l := List.mem_cons_self ..
theorem i1 {α : Type} {a b : α} {l : List α} : a ∈ b :: a :: l := List.mem_cons_of_mem _ i0
theorem i2 {α : Type} {a b c : α} {l : List α} : a ∈ b :: c :: a :: l := List.mem_cons_of_mem _ i1
theorem i3 {α : Type} {a b c d : α} {l : List α} : a ∈ b :: c :: d :: a :: l := List.mem_cons_of_mem _ i2
theorem j1 {α : Type} {a : α} {l : List α} : ∀ x ∈ l, x ∈ a :: l := fun _ h => List.mem_cons_of_mem _ h
theorem j2 {α : Type} {a b : α} {l : List α} : ∀ x ∈ l, x ∈ a :: b :: l := fun x h => List.mem_cons_of_mem _ (j1 x h)
theorem j3 {α : Type} {a b c : α} {l : List α} : ∀ x ∈ l, x ∈ a :: b :: c :: l := fun x h => List.mem_cons_of_mem _ (j2 x h)
theorem j4 {α : Type} {a b c d : α} {l : List α} : ∀ x ∈ l, x ∈ a :: b :: c :: d :: l := fun x h => List.mem_cons_of_mem _ (j3 x h)
structure Gt (B pb : Nat) (v0 : Value) (w0 : World) (l r : List ByteArray) (W : World) (bs : List Bx) : Prop where
 g : Gp B pb v0 w0 l W bs
 hl : jl l + jl r ≤ 4000000000
abbrev ag (pb : Nat) (v : Value) : Option Value → Array Value
 | none => #[pp pb, v]
 | some x => #[pp pb, v, x]
structure CF (f : Nat) (x : Option Value) (n : Ty) (ws : List ByteArray) : Prop where
 call : ∀ {B pb : Nat} {v0 : Value} {w0 : World} {l : List ByteArray} {W : World} {bs : List Bx} {ao : Option Addr} {cap : Nat}, Gt B pb v0 w0 l ws W bs → SlD w0 (fun b => b < B) n.args ao cap → Calls Tryz.prog f (ag pb (.agg (rowOf n ao cap)) x) W (Wr B pb v0 w0 bs l ws)
section
variable {B pb : Nat} {v0 : Value} {w0 W W' : World} {l r ws : List ByteArray} {bs : List Bx}
theorem Gt.drew (h : Gt B pb v0 w0 l r W bs) : Gt B pb v0 w0 l r W.drew bs := ⟨h.g.below (bdrewN (Below.refl _ _) 1), h.hl⟩
theorem Gt.put {s : ByteArray} (h : Gt B pb v0 w0 l (s :: r) W bs) {R : Ending → World → Prop} (k : ∀ u, Hid (Gt B pb v0 w0 (l ++ [s]) r u bs) → R (.returned (.tuple #[])) u) : Calls Tryz.prog 85 #[pp pb, .slice (some ⟨W.heap.size, 0, none⟩) 1 1] (W.alloc (.cells #[.string s] 9)) R :=
 (put1 h.g s (by have := h.hl; simp only [jl] at this; omega)).mono (by rintro e w' ⟨rfl, hg⟩; exact k _ (lh ⟨hg, by have := h.hl; simp only [jl, jl_app] at this ⊢; omega⟩))
theorem Gt.putm {s : ByteArray} {m : Nat} (h : Gt B pb v0 w0 l (s :: r) W bs) (hm : m = W.heap.size) {R : Ending → World → Prop} (k : ∀ u, Hid (Gt B pb v0 w0 (l ++ [s]) r u bs) → R (.returned (.tuple #[])) u) : Calls Tryz.prog 85 #[pp pb, .slice (some ⟨m, 0, none⟩) 1 1] (W.alloc (.cells #[.string s] 9)) R := by subst hm; exact h.put k
theorem Gt.wr {e : Ending} {w' : World} (h : Gt B pb v0 w0 l (ws ++ r) W bs) (hw : Wr B pb v0 w0 bs l ws e w') : e = .returned (.tuple #[]) ∧ Gt B pb v0 w0 (l ++ ws) r w' bs := ⟨hw.1, hw.2, by have := h.hl; simp only [jl_app] at this ⊢; omega⟩
theorem Gt.hd (h : Gt B pb v0 w0 l (ws ++ r) W bs) : Gt B pb v0 w0 l ws W bs := ⟨h.g, by have := h.hl; simp only [jl_app] at this; omega⟩
theorem Gt.call {f : Nat} {x : Option Value} {n : Ty} (h : Gt B pb v0 w0 l (ws ++ r) W bs) (hc : CF f x n ws) {ao : Option Addr} {cap : Nat} (hs : SlD w0 (fun b => b < B) n.args ao cap) {R : Ending → World → Prop} (k : ∀ u, Hid (Gt B pb v0 w0 (l ++ ws) r u bs) → R (.returned (.tuple #[])) u) : Calls Tryz.prog f (ag pb (.agg (rowOf n ao cap)) x) W R :=
 (hc.call h.hd hs).mono (by intro e w' hw; obtain ⟨rfl, h2⟩ := h.wr hw; exact k _ (lh h2))
theorem Gt.kid (h : Gt B pb v0 w0 l r W bs) {K : List Ty} {ao : Option Addr} {cap : Nat} (hS : SlD w0 (fun b => b < B) K ao cap) (j : Nat) (x : Ty) (hx : K[j]? = some x) (c : Nat) (hc : c = K.length) (i : Int) (hi : i = (j : Int)) : ∃ b p ap cp, Hid (SlD w0 (fun b => b < B) x.args ap cp) ∧ b < W.heap.size ∧ (∀ w' : World, (Instr.indexAt 24 (.slice ao c cap) (.int .i64 i)).run Tryz.prog w' = .ok (.pointer (some ⟨b, p, none⟩)) w') ∧
 W.cell? ⟨b, p, none⟩ = some (.int .i64 x.k) ∧ W.cell? ⟨b, p + 1, none⟩ = some (.int .i64 x.n) ∧ W.cell? ⟨b, p + 2, none⟩ = some (.string x.s) ∧ W.cell? ⟨b, p + 3, none⟩ = some (.int .i64 x.q) ∧ W.cell? ⟨b, p + 4, none⟩ = some (.slice ap x.args.length cp) := by
 obtain ⟨hj, rfl⟩ := List.getElem?_eq_some_iff.1 hx
 subst hc hi
 exact h.g.kid hS h.g.top hj
theorem Gt.itoa (h : Gt B pb v0 w0 l r W bs) {N : Nat} (hn : N ≤ 1000000000) {R : Ending → World → Prop} (k : ∀ u, Hid (Gt B pb v0 w0 l r u bs) → R (.returned (.string (dgW N))) u) : Calls Tryz.prog 89 #[.int .i64 N] W R :=
 (itoa_g h.g N hn).mono (by rintro e w' ⟨rfl, hg⟩; exact k _ (lh ⟨hg, h.hl⟩))
theorem Gt.quote (h : Gt B pb v0 w0 l r W bs) {s : ByteArray} (hs : s.size ≤ 200) {R : Ending → World → Prop} (k : ∀ u, Hid (Gt B pb v0 w0 l r u bs) → R (.returned (.string (quoteD s))) u) : Calls Tryz.prog 90 #[.string s] W R :=
 (quote_g h.g s hs).mono (by rintro e w' ⟨rfl, hg⟩; exact k _ (lh ⟨hg, h.hl⟩))
structure CV (f : Nat) (args : Array Value) (ws : List ByteArray) (B pb : Nat) (v0 : Value) (w0 : World) (bs : List Bx) : Prop where
 call : ∀ {l : List ByteArray} {W : World}, Gt B pb v0 w0 l ws W bs → Calls Tryz.prog f args W (Wr B pb v0 w0 bs l ws)
theorem Gt.put2 {s t : ByteArray} (h : Gt B pb v0 w0 l (s :: t :: r) W bs) {R : Ending → World → Prop} (k : ∀ u, Hid (Gt B pb v0 w0 (l ++ [s, t]) r u bs) → R (.returned (.tuple #[])) u) : Calls Tryz.prog 85 #[pp pb, .slice (some ⟨W.heap.size, 0, none⟩) 2 2] (W.alloc (.cells #[.string s, .string t] 9)) R :=
 (put_g [s, t] W.heap.size 0 2 2 rfl (by omega) (new_cells (c := #[.string s, .string t]) _ rfl) _ _ _ _ (h.g.below (balloc (Below.refl _ _) _)) (by simp) (by have := h.hl; simp only [jl] at this ⊢; omega)).mono (by rintro e w' ⟨rfl, hg⟩; exact k _ (lh ⟨hg, by have := h.hl; simp only [jl, jl_app] at this ⊢; omega⟩))
theorem Gt.put3 {s t u : ByteArray} (h : Gt B pb v0 w0 l (s :: t :: u :: r) W bs) {R : Ending → World → Prop} (k : ∀ w, Hid (Gt B pb v0 w0 (l ++ [s, t, u]) r w bs) → R (.returned (.tuple #[])) w) : Calls Tryz.prog 85 #[pp pb, .slice (some ⟨W.heap.size, 0, none⟩) 3 3] (W.alloc (.cells #[.string s, .string t, .string u] 9)) R :=
 (put_g [s, t, u] W.heap.size 0 3 3 rfl (by omega) (new_cells (c := #[.string s, .string t, .string u]) _ rfl) _ _ _ _ (h.g.below (balloc (Below.refl _ _) _)) (by simp) (by have := h.hl; simp only [jl] at this ⊢; omega)).mono (by rintro e w' ⟨rfl, hg⟩; exact k _ (lh ⟨hg, by have := h.hl; simp only [jl, jl_app] at this ⊢; omega⟩))
theorem Gt.path (h : Gt B pb v0 w0 l (ws ++ r) W bs) {s : ByteArray} (hp : PathT s ws) {R : Ending → World → Prop} (k : ∀ u, Hid (Gt B pb v0 w0 (l ++ ws) r u bs) → R (.returned (.tuple #[])) u) : Calls Tryz.prog 91 #[pp pb, .string s] W R :=
 (path_g h.g hp h.hd.hl).mono (by intro e w' hw; obtain ⟨rfl, h2⟩ := h.wr hw; exact k _ (lh h2))
theorem Gt.round {must : Bool} (h : Gt B pb v0 w0 l (rnd must ws ++ r) W bs) {n : Nat} {cp : Array Value} (hcf : ∀ (x9 : Array Value) (w : World), (callFunc n x9).run Tryz.prog w = .ok (.enter n x9) w) (hc : CV n cp ws B pb v0 w0 bs) {R : Ending → World → Prop} (k : ∀ u, Hid (Gt B pb v0 w0 (l ++ rnd must ws) r u bs) → R (.returned (.tuple #[])) u) : Calls Tryz.prog 82 #[pp pb, .bool must, .func (.func n) #[] cp] W R :=
 (round_g h.g n cp hcf ws must h.hd.hl fun l1 W1 h1 h2 => hc.call ⟨h1, h2⟩).mono (by intro e w' hw; obtain ⟨rfl, h2⟩ := h.wr hw; exact k _ (lh h2))
structure RowC (P : Ty → List ByteArray → Prop) (s : ByteArray) (K : List Ty) (ws : List ByteArray) : Prop where
 ex : ∃ wss : List (List ByteArray), wss.length = K.length ∧ ws = sepW s wss ∧ ∀ i (hi : i < K.length) (hi2 : i < wss.length), P K[i] wss[i]
structure ManyC (P : Ty → List ByteArray → Prop) (K : List Ty) (ws : List ByteArray) : Prop where
 ex : ∃ wss : List (List ByteArray), wss.length = K.length ∧ ws = wss.flatten ∧ ∀ i (hi : i < K.length) (hi2 : i < wss.length), P K[i] wss[i] ∧ wss[i] ≠ []
theorem sepW_len (s : ByteArray) : ∀ (r : List (List ByteArray)), r.length ≤ jl (sepW s r) + 1
 | [] => by simp
 | [x] => by simp
 | x :: y :: r => by
  have h := sepW_len s (y :: r)
  simp only [sepW, jl_app, jl, List.length_cons] at h ⊢
  omega
structure OneC (n : Nat) (rv cp : Array Value) (P : Ty → List ByteArray → Prop) (B pb : Nat) (v0 : Value) (w0 : World) (bs : List Bx) : Prop where
 hcf : ∀ (x9 : Array Value) (w : World), (callFunc n x9).run Tryz.prog w = .ok (.enter n x9) w
 call : ∀ {x : Ty} {ws : List ByteArray}, P x ws → ∀ {l : List ByteArray} {W : World} {ao : Option Addr} {cap : Nat}, Gt B pb v0 w0 l ws W bs → SlD w0 (fun b => b < B) x.args ao cap → Calls Tryz.prog n (rv ++ #[.agg (rowOf x ao cap)] ++ cp) W (Wr B pb v0 w0 bs l ws)
theorem Gt.list {P : Ty → List ByteArray → Prop} {s : ByteArray} {K : List Ty} (h : Gt B pb v0 w0 l (ws ++ r) W bs) {n : Nat} {rv cp : Array Value} (ho : OneC n rv cp P B pb v0 w0 bs) (hr : RowC P s K ws) {ao : Option Addr} {cap c : Nat} (hc : c = K.length) (hS : SlD w0 (fun b => b < B) K ao cap) {R : Ending → World → Prop} (k : ∀ u, Hid (Gt B pb v0 w0 (l ++ ws) r u bs) → R (.returned (.tuple #[])) u) : Calls Tryz.prog 93 #[pp pb, .slice ao c cap, .string s, .func (.func n) rv cp] W R := by
 obtain ⟨wss, hl, rfl, hp⟩ := hr.ex
 subst hc
 have h1 := h.hd.hl
 have h2 := sepW_len s wss
 exact (list_g h.g n rv cp ho.hcf K ao cap hS h.g.top s wss hl (by omega) h1 fun i hi hi2 l1 W1 ap cq h3 h4 h5 => ho.call (hp i hi hi2) ⟨h3, h5⟩ h4).mono (by intro e w' hw; obtain ⟨rfl, h2⟩ := h.wr hw; exact k _ (lh h2))
theorem CF.one {f : Nat} (hcf : ∀ (x9 : Array Value) (w : World), (callFunc f x9).run Tryz.prog w = .ok (.enter f x9) w) : OneC f #[pp pb] #[] (CF f none) B pb v0 w0 bs := ⟨hcf, fun {x ws} hp {l W ao cap} h hS => by
 rw [show (#[pp pb] ++ #[Value.agg (rowOf x ao cap)] ++ #[] : Array Value) = #[pp pb, .agg (rowOf x ao cap)] by simp]
 exact hp.call h hS⟩
theorem Gt.end (h : Gt B pb v0 w0 l [] W bs) {cs : List Bx} (hs : ∀ x ∈ cs, x ∈ bs) {l0 : List ByteArray} (e : l = l0 ++ ws) : Wr B pb v0 w0 cs l0 ws (.returned (.tuple #[])) W := ⟨rfl, by rw [← e]; exact h.g.mono hs⟩
theorem Gt.nil (h : Gt B pb v0 w0 l ws W bs) : Gt B pb v0 w0 l (ws ++ []) W bs := by simpa using h
theorem Gt.box (h : Gt B pb v0 w0 l r W bs) {c : Array Value} {t : TypeId} (e : W' = W.alloc (.cells c t)) : Gt B pb v0 w0 l r W' ((W.heap.size, c, t) :: bs) := ⟨h.g.box e, h.hl⟩
theorem Gt.b1 (h : Gt B pb v0 w0 l ws W bs) (k a : Int) (s : ByteArray) (q : Int) (x : Value) : ∃ V, V = W.alloc (.cells #[.int .i64 k, .int .i64 a, .string s, .int .i64 q, x] 26) ∧ Hid (Gt B pb v0 w0 l ws V ((W.heap.size, #[.int .i64 k, .int .i64 a, .string s, .int .i64 q, x], 26) :: bs)) ∧ Hid (∀ (l : List ByteArray) (W9 : World), Gp B pb v0 w0 l W9 ((W.heap.size, #[.int .i64 k, .int .i64 a, .string s, .int .i64 q, x], 26) :: bs) → W9.cell? ⟨W.heap.size, 0, none⟩ = some (.int .i64 k) ∧ W9.cell? ⟨W.heap.size, 1, none⟩ = some (.int .i64 a) ∧ W9.cell? ⟨W.heap.size, 2, none⟩ = some (.string s) ∧ W9.cell? ⟨W.heap.size, 3, none⟩ = some (.int .i64 q) ∧ W9.cell? ⟨W.heap.size, 4, none⟩ = some x) := ⟨_, rfl, lh (h.box rfl), lh fun l W9 g => five g.hd⟩
theorem Gt.b2 (h : Gt B pb v0 w0 l ws W bs) (k a : Int) (s : ByteArray) (q : Int) (x : Value) : ∃ V2, V2 = (W.alloc (.cells #[pp pb] 43)).alloc (.cells #[.int .i64 k, .int .i64 a, .string s, .int .i64 q, x] 26) ∧ Hid (Gt B pb v0 w0 l ws V2 ((W.heap.size + 1, #[.int .i64 k, .int .i64 a, .string s, .int .i64 q, x], 26) :: (W.heap.size, #[pp pb], 43) :: bs)) ∧ Hid (∀ (l : List ByteArray) (W9 : World), Gp B pb v0 w0 l W9 ((W.heap.size + 1, #[.int .i64 k, .int .i64 a, .string s, .int .i64 q, x], 26) :: (W.heap.size, #[pp pb], 43) :: bs) → (W9.cell? ⟨W.heap.size + 1, 0, none⟩ = some (.int .i64 k) ∧ W9.cell? ⟨W.heap.size + 1, 1, none⟩ = some (.int .i64 a) ∧ W9.cell? ⟨W.heap.size + 1, 2, none⟩ = some (.string s) ∧ W9.cell? ⟨W.heap.size + 1, 3, none⟩ = some (.int .i64 q) ∧ W9.cell? ⟨W.heap.size + 1, 4, none⟩ = some x) ∧ W9.cell? ⟨W.heap.size, 0, none⟩ = some (pp pb)) ∧ (V2.cell? ⟨W.heap.size + 1, 0, none⟩ = some (.int .i64 k) ∧ V2.cell? ⟨W.heap.size + 1, 1, none⟩ = some (.int .i64 a) ∧ V2.cell? ⟨W.heap.size + 1, 2, none⟩ = some (.string s) ∧ V2.cell? ⟨W.heap.size + 1, 3, none⟩ = some (.int .i64 q) ∧ V2.cell? ⟨W.heap.size + 1, 4, none⟩ = some x) ∧ V2.cell? ⟨W.heap.size, 0, none⟩ = some (pp pb) := by
 obtain ⟨V2, hV2⟩ : ∃ V2, V2 = (W.alloc (.cells #[pp pb] 43)).alloc (.cells #[.int .i64 k, .int .i64 a, .string s, .int .i64 q, x] 26) := ⟨_, rfl⟩
 have G : Gt B pb v0 w0 l ws V2 ((W.heap.size + 1, #[.int .i64 k, .int .i64 a, .string s, .int .i64 q, x], 26) :: (W.heap.size, #[pp pb], 43) :: bs) := by have h9 := (h.box rfl).box hV2; rw [World.size_alloc] at h9; exact h9
 have F := fun (l : List ByteArray) (W9 : World) (g : Gp B pb v0 w0 l W9 ((W.heap.size + 1, #[.int .i64 k, .int .i64 a, .string s, .int .i64 q, x], 26) :: (W.heap.size, #[pp pb], 43) :: bs)) => And.intro (five (g.at i0)) (one1 (g.at i1))
 exact ⟨V2, hV2, lh G, lh F, F _ _ G.g⟩
theorem Gt.b3 (n : Nat) (h : Gt B pb v0 w0 l ws W bs) (k a : Int) (s : ByteArray) (q : Int) (x : Value) : ∃ V2 V3, V2 = (W.alloc (.cells #[pp pb] 43)).alloc (.cells #[.int .i64 k, .int .i64 a, .string s, .int .i64 q, x] 26) ∧ V3 = V2.alloc (.cells #[.func (.func n) #[] #[.pointer (some ⟨W.heap.size, 0, none⟩)]] 47) ∧ Hid (Gt B pb v0 w0 l ws V3 ((V2.heap.size, #[.func (.func n) #[] #[.pointer (some ⟨W.heap.size, 0, none⟩)]], 47) :: (W.heap.size + 1, #[.int .i64 k, .int .i64 a, .string s, .int .i64 q, x], 26) :: (W.heap.size, #[pp pb], 43) :: bs)) ∧ Hid (∀ (l : List ByteArray) (W9 : World), Gp B pb v0 w0 l W9 ((V2.heap.size, #[.func (.func n) #[] #[.pointer (some ⟨W.heap.size, 0, none⟩)]], 47) :: (W.heap.size + 1, #[.int .i64 k, .int .i64 a, .string s, .int .i64 q, x], 26) :: (W.heap.size, #[pp pb], 43) :: bs) → (W9.cell? ⟨W.heap.size + 1, 0, none⟩ = some (.int .i64 k) ∧ W9.cell? ⟨W.heap.size + 1, 1, none⟩ = some (.int .i64 a) ∧ W9.cell? ⟨W.heap.size + 1, 2, none⟩ = some (.string s) ∧ W9.cell? ⟨W.heap.size + 1, 3, none⟩ = some (.int .i64 q) ∧ W9.cell? ⟨W.heap.size + 1, 4, none⟩ = some x) ∧ W9.cell? ⟨W.heap.size, 0, none⟩ = some (pp pb) ∧ W9.cell? ⟨V2.heap.size, 0, none⟩ = some (.func (.func n) #[] #[.pointer (some ⟨W.heap.size, 0, none⟩)])) ∧ (V2.cell? ⟨W.heap.size + 1, 0, none⟩ = some (.int .i64 k) ∧ V2.cell? ⟨W.heap.size + 1, 1, none⟩ = some (.int .i64 a) ∧ V2.cell? ⟨W.heap.size + 1, 2, none⟩ = some (.string s) ∧ V2.cell? ⟨W.heap.size + 1, 3, none⟩ = some (.int .i64 q) ∧ V2.cell? ⟨W.heap.size + 1, 4, none⟩ = some x) ∧ V2.cell? ⟨W.heap.size, 0, none⟩ = some (pp pb) := by
 obtain ⟨V2, hV2, G, -, c⟩ := h.b2 k a s q x
 exact ⟨V2, _, hV2, rfl, lh (G.out.box rfl), lh fun l W9 g => And.intro (five (g.at i1)) (And.intro (one1 (g.at i2)) (one1 g.hd)), c⟩
theorem Gt.al (h : Gt B pb v0 w0 l r W bs) {o : Obj} (e : W' = W.alloc o) : Gt B pb v0 w0 l r W' bs := ⟨h.g.below (by rw [e]; exact balloc (Below.refl _ _) _), h.hl⟩
theorem hdc {f : Nat} {k a q : Int} {s : ByteArray} {K : List Ty} {hw : List ByteArray} (h1 : CF f none (.mk k a s q K) hw) {ao : Option Addr} {cap c : Nat} (hs : SlD w0 (fun b => b < B) K ao cap) (hc : K.length = c) : ∀ (l r : List ByteArray) (W9 : World) (bs : List Bx) (R : Ending → World → Prop), Gt B pb v0 w0 l (hw ++ r) W9 bs → (∀ u, Hid (Gt B pb v0 w0 (l ++ hw) r u bs) → R (.returned (.tuple #[])) u) → Calls Tryz.prog f #[pp pb, .agg #[.int .i64 k, .int .i64 a, .string s, .int .i64 q, .slice ao c cap]] W9 R := fun l r W9 bs R h z => by subst hc; exact h.call (R := R) h1 hs z
end
open Go.RowKit Go.Shelf
theorem join_jb : ∀ (ws : List ByteArray), Lib.join (ws.map (·.data.toList)) [32] = jb ws
 | [] => rfl
 | [w] => by simp [Lib.join_one, jb]
 | w :: x :: r => by
  have h := join_jb (x :: r)
  rw [List.map_cons, Lib.join_cons] at h
  rw [List.map_cons, Lib.join_cons, List.map_cons]
  show w.data.toList ++ Lib.joinTail [32] (x.data.toList :: r.map (·.data.toList)) = w.data.toList ++ 32 :: jb (x :: r)
  rw [← h]
  simp [Lib.joinTail]
theorem join_g {B9 : Nat} (l : List ByteArray) (v : Value) (u : World) (hown : u.ownsRow B9 9 1 v l.length (l.map Value.string)) (hl : jl l ≤ 4000000000) : Calls Tryz.prog 19 #[v, .string ⟨#[32]⟩] u fun e w' => e = .returned (.string ⟨(jb l).toArray⟩) ∧ Below u.heap.size u w' := by
 have h1 := jb_len l
 have h2 := jl_len l
 rcases hown.2 with ⟨rfl, h0⟩ | ⟨g, cap, cur, rfl, hB, hg, hc, -⟩
 · have : l = [] := List.eq_nil_of_length_eq_zero h0
   subst this
   exact (Any.strings_Join_none Tryz.lays156 extraJ none 0 ⟨#[32]⟩ u).mono fun e w' ⟨he, hw⟩ => ⟨he, hw ▸ Below.refl _ _⟩
 · have c : Calls Tryz.prog 19 #[.slice (some ⟨g, 0, none⟩) l.length cap, .string ⟨#[32]⟩] u fun e w' => e = .returned (.string ⟨(Lib.join (l.map (·.data.toList)) [32]).toArray⟩) ∧ Below u.heap.size u w' := Any.strings_Join Tryz.lays156 extraJ g 0 cap l ⟨#[32]⟩ u (fun j x hx => by
    have h9 := hown.cells (g := g) rfl j (.string x) (by rw [List.getElem?_map, hx]; rfl)
    have hadd : (⟨g, 0, none⟩ : Addr).add j = ⟨g, 0 + j, none⟩ := by unfold Addr.add; split <;> simp_all
    rw [hadd] at h9; exact h9) (lt_of_block hg) (by omega) hc (by show (Lib.join (l.map (·.data.toList)) [32]).length ≤ _; rw [join_jb]; omega)
   rw [join_jb] at c
   exact c
theorem print_any {n : Ty} {ws : List ByteArray} (h1 : CF 18 none n ws) {w : World} {ao : Option Addr} {cap : Nat} (hg : Gl w) (h9 : 9 ≤ w.heap.size) (hS : SlD w (fun b => b < w.heap.size) n.args ao cap) (hl : jl ws ≤ 4000000000) :
 Calls Tryz.prog 8 #[.agg (rowOf n ao cap)] w fun e w' => e = .returned (.string ⟨(jb ws).toArray⟩) ∧ Below w.heap.size w w' := by
 obtain ⟨V1, hV1⟩ : ∃ V1, V1 = w.alloc (.cells (rowOf n ao cap) 26) := ⟨_, rfl⟩
 obtain ⟨V2, hV2⟩ : ∃ V2, V2 = V1.alloc (.cells #[.slice none 0 0] 46) := ⟨_, rfl⟩
 have hs1 : V1.heap.size = w.heap.size + 1 := by rw [hV1, World.size_alloc]
 have hb1 : Below w.heap.size w V1 := by rw [hV1]; exact balloc (Below.refl _ _) _
 have hb2 : Below w.heap.size w V2 := by rw [hV2]; exact balloc hb1 _
 have hr2 : V2.heap[V1.heap.size]? = some (.cells #[.slice none 0 0] 46 (0, 0)) := by rw [hV2]; exact heap_alloc_new V1 _
 have G : Gt w.heap.size V1.heap.size (.slice none 0 0) V2 [] (ws ++ []) V2 [] := ⟨⟨⟨_, ⟨hr2, World.ownsRow_nil _ _ _ _, by omega, hb2.size⟩, FrP.refl _ _ _, fun x hx => by cases hx⟩, fun g e => by simp [Value.ownBlock] at e, hg.of fun b hb => hb2.block b (by omega), h9, hb2.size⟩, by simp only [jl, jl_app]; omega⟩
 have HS : Hid (SlD V2 (fun b => b < w.heap.size) n.args ao cap) := lh (hS.keep fun b hb off => hb2.cell (p := ⟨b, off, none⟩) hb)
 have c := five (t := 26) (b := w.heap.size) (W := V2) (by rw [hV2, hV1]; exact blk_alloc (heap_alloc_new w (.cells (rowOf n ao cap) 26)) _)
 have c1 := five (t := 26) (b := w.heap.size) (W := V1) (by rw [hV1]; exact heap_alloc_new w (.cells (rowOf n ao cap) 26))
 have G := lh G
 have H1 := lh h1
 have HB := lh hb2
 have HL := lh hl
 unfold rowOf at hV1
 clear h1 hg h9 hS hl hb1 hb2 hr2 hs1
 show Calls Tryz.prog 8 #[.agg #[.int .i64 n.k, .int .i64 n.n, .string n.s, .int .i64 n.q, .slice ao n.args.length cap]] w _
 go_enter Tryz.func8, Tryz.ntmps8
 go_upto_region 1 with fail
 rw [← hV1]
 clear hV1 c1
 go_upto_region 2 with fail
 rw [← hV2]
 clear hV2
 go_upto_region 3 with (go_at_call 18; refine G.out.call H1.out HS.out ?_; intro u1 G)
 obtain ⟨v, hps, hfr, -⟩ := G.out.g.st
 have d : u1.cell? ⟨V1.heap.size, 0, none⟩ = some v := blk_cell hps.row 0
 have HJ := lh (join_g _ v u1 hps.own (by rw [List.nil_append]; exact HL.out))
 have HBU : Hid (Below w.heap.size w u1) := lh ⟨hfr.os.trans HB.out.os, hfr.tape.trans HB.out.tape, hfr.output.trans HB.out.output, Nat.le_trans HB.out.size hfr.size, fun b hb => (hfr.block b (Nat.lt_of_lt_of_le hb HB.out.size) (by have := hps.low; omega) (by simp [Value.ownBlock])).trans (HB.out.block b hb)⟩
 clear hps hfr c
 go_wp2_with (go_at_call 19; refine HJ.out.mono ?_; rintro e u2 ⟨rfl, hb⟩; have HB2 := lh (HBU.out.trans (hb.mono HBU.out.size)); clear hb)
 go_ret
 exact ⟨by simp, HB2.out⟩
theorem x_app {a : Int} {f x : Ty} {fw xw : List ByteArray} (h1 : CF 43 (some (.int .i64 8)) f fw) (h2 : CF 43 (some (.int .i64 9)) x xw) {B pb : Nat} {v0 : Value} {w0 : World} {bs : List Bx} {ao : Option Addr} {cap nb xb kb : Nat} (m0 : (nb, #[.int .i64 8, .int .i64 a, .string e_, .int .i64 0, .slice ao 2 cap], 26) ∈ bs) (m1 : (xb, #[pp pb], 43) ∈ bs) (hS : SlD w0 (fun b => b < B) [f, x] ao cap) : CV 83 #[.pointer (some ⟨nb, 0, none⟩), .pointer (some ⟨xb, 0, none⟩), .pointer (some ⟨kb, 0, none⟩)] (fw ++ xw) B pb v0 w0 bs := by
 refine ⟨fun {l W} h => ?_⟩
 have G := lh h
 have HF := lh (fun (l : List ByteArray) (W : World) (g : Gp B pb v0 w0 l W bs) => And.intro (five (g.at m0)) (one1 (g.at m1)))
 have HS : Hid (SlD w0 (fun b => b < B) [f, x] ao cap) := lh hS
 have H1 := lh h1
 have H2 := lh h2
 have c := HF.out _ _ G.out.g
 clear h hS h1 h2 m0 m1
 go_enter Tryz.func83, Tryz.ntmps83
 go_upto_region 7 with fail
 obtain ⟨b, p9, ap, cp, HS1, x⟩ := G.out.kid HS.out 0 f rfl 2 rfl 0 rfl
 go_still_tail 5, (by kernel_rfl)
 change wpList _ _ _ _ _ W.drew
 replace G := lh G.out.drew
 clear c x
 go_upto_region 8 with (go_at_call 43; refine G.out.call H1.out HS1.out ?_; intro u1 G)
 have c := HF.out _ _ G.out.g
 obtain ⟨b, p9, ap, cp, HS1, x⟩ := G.out.kid HS.out 1 x rfl 2 rfl 1 rfl
 go_still_tail 5, (by kernel_rfl)
 change wpList _ _ _ _ _ u1.drew
 replace G := lh G.out.drew.nil
 clear c x
 go_wp2_with (go_at_call 43; refine G.out.call H2.out HS1.out ?_; intro u2 G)
 have c := HF.out _ _ G.out.g
 go_end0
 exact G.out.end (fun _ h => h) (by simp)
theorem x_fn {a : Int} {p e : Ty} {pw ew : List ByteArray} (h1 : CF 44 (some (.int .i64 2)) p pw) (h2 : CF 43 (some (.int .i64 0)) e ew) {B pb : Nat} {v0 : Value} {w0 : World} {bs : List Bx} {ao : Option Addr} {cap nb xb kb : Nat} (m0 : (nb, #[.int .i64 7, .int .i64 a, .string e_, .int .i64 0, .slice ao 2 cap], 26) ∈ bs) (m1 : (xb, #[pp pb], 43) ∈ bs) (hS : SlD w0 (fun b => b < B) [p, e] ao cap) : CV 83 #[.pointer (some ⟨nb, 0, none⟩), .pointer (some ⟨xb, 0, none⟩), .pointer (some ⟨kb, 0, none⟩)] (w_fn :: (pw ++ s_arr :: ew)) B pb v0 w0 bs := by
 refine ⟨fun {l W} h => ?_⟩
 have G := lh h
 have HF := lh (fun (l : List ByteArray) (W : World) (g : Gp B pb v0 w0 l W bs) => And.intro (five (g.at m0)) (one1 (g.at m1)))
 have HS : Hid (SlD w0 (fun b => b < B) [p, e] ao cap) := lh hS
 have H1 := lh h1
 have H2 := lh h2
 have c := HF.out _ _ G.out.g
 clear h hS h1 h2 m0 m1
 go_enter Tryz.func83, Tryz.ntmps83
 go_upto_region 11 with (go_at_call 85; refine G.out.put ?_; intro u1 G)
 have c := HF.out _ _ G.out.g
 obtain ⟨b, p9, ap, cp, HS1, x⟩ := G.out.kid HS.out 0 p rfl 2 rfl 0 rfl
 go_still_tail 5, (by kernel_rfl)
 change wpList _ _ _ _ _ u1.drew
 replace G := lh G.out.drew
 clear c x
 go_upto_region 12 with (go_at_call 44; refine G.out.call H1.out HS1.out ?_; intro u2 G)
 have c := HF.out _ _ G.out.g
 go_upto_region 13 with (go_at_call 85; refine G.out.put ?_; intro u3 G)
 have c := HF.out _ _ G.out.g
 obtain ⟨b, p9, ap, cp, HS1, x⟩ := G.out.kid HS.out 1 e rfl 2 rfl 1 rfl
 go_still_tail 5, (by kernel_rfl)
 change wpList _ _ _ _ _ u3.drew
 replace G := lh G.out.drew.nil
 clear c x
 go_wp2_with (go_at_call 43; refine G.out.call H2.out HS1.out ?_; intro u4 G)
 have c := HF.out _ _ G.out.g
 go_end0
 exact G.out.end (fun _ h => h) (by simp)
theorem x_raise {a : Int} {e : Ty} {ew : List ByteArray} (h1 : CF 43 (some (.int .i64 0)) e ew) {B pb : Nat} {v0 : Value} {w0 : World} {bs : List Bx} {ao : Option Addr} {cap nb xb kb : Nat} (m0 : (nb, #[.int .i64 13, .int .i64 a, .string e_, .int .i64 0, .slice ao 1 cap], 26) ∈ bs) (m1 : (xb, #[pp pb], 43) ∈ bs) (hS : SlD w0 (fun b => b < B) [e] ao cap) : CV 83 #[.pointer (some ⟨nb, 0, none⟩), .pointer (some ⟨xb, 0, none⟩), .pointer (some ⟨kb, 0, none⟩)] (w_raise :: ew) B pb v0 w0 bs := by
 refine ⟨fun {l W} h => ?_⟩
 have G := lh h
 have HF := lh (fun (l : List ByteArray) (W : World) (g : Gp B pb v0 w0 l W bs) => And.intro (five (g.at m0)) (one1 (g.at m1)))
 have HS : Hid (SlD w0 (fun b => b < B) [e] ao cap) := lh hS
 have H1 := lh h1
 have c := HF.out _ _ G.out.g
 clear h hS h1 m0 m1
 go_enter Tryz.func83, Tryz.ntmps83
 go_upto_region 23 with (go_at_call 85; refine G.out.put ?_; intro u1 G)
 have c := HF.out _ _ G.out.g
 obtain ⟨b, p9, ap, cp, HS1, x⟩ := G.out.kid HS.out 0 e rfl 1 rfl 0 rfl
 go_still_tail 5, (by kernel_rfl)
 change wpList _ _ _ _ _ u1.drew
 replace G := lh G.out.drew.nil
 clear c x
 go_wp2_with (go_at_call 43; refine G.out.call H1.out HS1.out ?_; intro u2 G)
 have c := HF.out _ _ G.out.g
 go_end0
 exact G.out.end (fun _ h => h) (by simp)
theorem x_or {a : Int} {s : ByteArray} {K : List Ty} {ws : List ByteArray} {k : Nat} (h1 : CF 84 (some (.int .i64 k)) (.mk 17 a s 0 K) ws) {B pb : Nat} {v0 : Value} {w0 : World} {bs : List Bx} {ao : Option Addr} {cap nb xb kb : Nat} (m0 : (nb, #[.int .i64 17, .int .i64 a, .string s, .int .i64 0, .slice ao K.length cap], 26) ∈ bs) (m1 : (xb, #[pp pb], 43) ∈ bs) (m2 : (kb, #[.int .i64 k], 3) ∈ bs) (hS : SlD w0 (fun b => b < B) K ao cap) : CV 83 #[.pointer (some ⟨nb, 0, none⟩), .pointer (some ⟨xb, 0, none⟩), .pointer (some ⟨kb, 0, none⟩)] (ws) B pb v0 w0 bs := by
 refine ⟨fun {l W} h => ?_⟩
 have G := lh h
 have HF := lh (fun (l : List ByteArray) (W : World) (g : Gp B pb v0 w0 l W bs) => And.intro (five (g.at m0)) (And.intro (one1 (g.at m1)) (one1 (g.at m2))))
 have HS : Hid (SlD w0 (fun b => b < B) K ao cap) := lh hS
 have H1 := lh h1
 have c := HF.out _ _ G.out.g
 clear h hS h1 m0 m1 m2
 go_enter Tryz.func83, Tryz.ntmps83
 replace G := lh G.out.nil
 go_wp2_with (go_at_call 84; refine G.out.call H1.out (n := .mk 17 a s 0 K) HS.out ?_; intro u1 G)
 have c := HF.out _ _ G.out.g
 go_end0
 exact G.out.end (fun _ h => h) (by simp)
theorem x_and {a : Int} {s : ByteArray} {K : List Ty} {ws : List ByteArray} {k : Nat} (h1 : CF 84 (some (.int .i64 k)) (.mk 16 a s 0 K) ws) {B pb : Nat} {v0 : Value} {w0 : World} {bs : List Bx} {ao : Option Addr} {cap nb xb kb : Nat} (m0 : (nb, #[.int .i64 16, .int .i64 a, .string s, .int .i64 0, .slice ao K.length cap], 26) ∈ bs) (m1 : (xb, #[pp pb], 43) ∈ bs) (m2 : (kb, #[.int .i64 k], 3) ∈ bs) (hS : SlD w0 (fun b => b < B) K ao cap) : CV 83 #[.pointer (some ⟨nb, 0, none⟩), .pointer (some ⟨xb, 0, none⟩), .pointer (some ⟨kb, 0, none⟩)] (ws) B pb v0 w0 bs := by
 refine ⟨fun {l W} h => ?_⟩
 have G := lh h
 have HF := lh (fun (l : List ByteArray) (W : World) (g : Gp B pb v0 w0 l W bs) => And.intro (five (g.at m0)) (And.intro (one1 (g.at m1)) (one1 (g.at m2))))
 have HS : Hid (SlD w0 (fun b => b < B) K ao cap) := lh hS
 have H1 := lh h1
 have c := HF.out _ _ G.out.g
 clear h hS h1 m0 m1 m2
 go_enter Tryz.func83, Tryz.ntmps83
 replace G := lh G.out.nil
 go_wp2_with (go_at_call 84; refine G.out.call H1.out (n := .mk 16 a s 0 K) HS.out ?_; intro u1 G)
 have c := HF.out _ _ G.out.g
 go_end0
 exact G.out.end (fun _ h => h) (by simp)
theorem x_op {a : Int} {s : ByteArray} {K : List Ty} {ws : List ByteArray} {k : Nat} (h1 : CF 84 (some (.int .i64 k)) (.mk 18 a s 0 K) ws) {B pb : Nat} {v0 : Value} {w0 : World} {bs : List Bx} {ao : Option Addr} {cap nb xb kb : Nat} (m0 : (nb, #[.int .i64 18, .int .i64 a, .string s, .int .i64 0, .slice ao K.length cap], 26) ∈ bs) (m1 : (xb, #[pp pb], 43) ∈ bs) (m2 : (kb, #[.int .i64 k], 3) ∈ bs) (hS : SlD w0 (fun b => b < B) K ao cap) : CV 83 #[.pointer (some ⟨nb, 0, none⟩), .pointer (some ⟨xb, 0, none⟩), .pointer (some ⟨kb, 0, none⟩)] (ws) B pb v0 w0 bs := by
 refine ⟨fun {l W} h => ?_⟩
 have G := lh h
 have HF := lh (fun (l : List ByteArray) (W : World) (g : Gp B pb v0 w0 l W bs) => And.intro (five (g.at m0)) (And.intro (one1 (g.at m1)) (one1 (g.at m2))))
 have HS : Hid (SlD w0 (fun b => b < B) K ao cap) := lh hS
 have H1 := lh h1
 have c := HF.out _ _ G.out.g
 clear h hS h1 m0 m1 m2
 go_enter Tryz.func83, Tryz.ntmps83
 replace G := lh G.out.nil
 go_wp2_with (go_at_call 84; refine G.out.call H1.out (n := .mk 18 a s 0 K) HS.out ?_; intro u1 G)
 have c := HF.out _ _ G.out.g
 go_end0
 exact G.out.end (fun _ h => h) (by simp)
theorem x_cl {k a q : Int} {s : ByteArray} {K : List Ty} {ws : List ByteArray} (hk : k ≠ 17 ∧ k ≠ 16 ∧ k ≠ 18 ∧ k ≠ 8 ∧ k ≠ 7 ∧ k ≠ 9 ∧ k ≠ 13) (h1 : CF 86 none (.mk k a s q K) ws) {B pb : Nat} {v0 : Value} {w0 : World} {bs : List Bx} {ao : Option Addr} {cap nb xb kb : Nat} (m0 : (nb, #[.int .i64 k, .int .i64 a, .string s, .int .i64 q, .slice ao K.length cap], 26) ∈ bs) (m1 : (xb, #[pp pb], 43) ∈ bs) (hS : SlD w0 (fun b => b < B) K ao cap) : CV 83 #[.pointer (some ⟨nb, 0, none⟩), .pointer (some ⟨xb, 0, none⟩), .pointer (some ⟨kb, 0, none⟩)] (ws) B pb v0 w0 bs := by
 refine ⟨fun {l W} h => ?_⟩
 have G := lh h
 have HF := lh (fun (l : List ByteArray) (W : World) (g : Gp B pb v0 w0 l W bs) => And.intro (five (g.at m0)) (one1 (g.at m1)))
 have HS : Hid (SlD w0 (fun b => b < B) K ao cap) := lh hS
 have H1 := lh h1
 have c := HF.out _ _ G.out.g
 have e17 : (k == 17) = false := by simp; omega
 have e16 : (k == 16) = false := by simp; omega
 have e18 : (k == 18) = false := by simp; omega
 have e8 : (k == 8) = false := by simp; omega
 have e7 : (k == 7) = false := by simp; omega
 have e9 : (k == 9) = false := by simp; omega
 have e13 : (k == 13) = false := by simp; omega
 clear hk
 clear h hS h1 m0 m1
 go_enter Tryz.func83, Tryz.ntmps83
 replace G := lh G.out.nil
 go_wp2_with (go_at_call 86; refine G.out.call H1.out (n := .mk k a s q K) HS.out ?_; intro u1 G)
 have c := HF.out _ _ G.out.g
 go_end0
 exact G.out.end (fun _ h => h) (by simp)
theorem x_if {a : Int} {x y z : Ty} {xw yw zw : List ByteArray} (h1 : CF 43 (some (.int .i64 0)) x xw) (h2 : CF 43 (some (.int .i64 0)) y yw) (h3 : CF 43 (some (.int .i64 0)) z zw) {B pb : Nat} {v0 : Value} {w0 : World} {bs : List Bx} {ao : Option Addr} {cap nb xb kb : Nat} (m0 : (nb, #[.int .i64 9, .int .i64 a, .string e_, .int .i64 0, .slice ao 3 cap], 26) ∈ bs) (m1 : (xb, #[pp pb], 43) ∈ bs) (hS : SlD w0 (fun b => b < B) [x, y, z] ao cap) : CV 83 #[.pointer (some ⟨nb, 0, none⟩), .pointer (some ⟨xb, 0, none⟩), .pointer (some ⟨kb, 0, none⟩)] (w_if :: (xw ++ w_then :: (yw ++ w_else :: zw))) B pb v0 w0 bs := by
 refine ⟨fun {l W} h => ?_⟩
 have G := lh h
 have HF := lh (fun (l : List ByteArray) (W : World) (bs2 : List Bx) (hb : ∀ x ∈ bs, x ∈ bs2) (g : Gp B pb v0 w0 l W bs2) => And.intro (five (g.at (hb _ m0))) (one1 (g.at (hb _ m1))))
 have HS : Hid (SlD w0 (fun b => b < B) [x, y, z] ao cap) := lh hS
 have H1 := lh h1
 have H2 := lh h2
 have H3 := lh h3
 have c := HF.out _ _ _ (fun _ h => h) G.out.g
 clear h hS h1 h2 h3 m0 m1
 go_enter Tryz.func83, Tryz.ntmps83
 go_upto_region 16 with fail
 obtain ⟨V, hV⟩ : ∃ V, V = W.alloc (.cells #[.string w_if, .string w_then, .string w_else] 9) := ⟨_, rfl⟩
 replace G := lh (G.out.box hV)
 rw [← hV]
 clear hV c
 obtain ⟨wb, hwb⟩ : ∃ wb, wb = W.heap.size := ⟨_, rfl⟩
 rw [← hwb] at G ⊢
 have HSt : Hid (∀ k : Nat, k = 0 ∨ k = 1 ∨ k = 2 ∨ k = 3 → True) := lh (fun _ _ => trivial)
 clear HSt hwb
 go_wp2_with fail
 go_loopw [3, 4, 56] (fun _ _ i wr => (i = .int .i64 0 ∧ Gt B pb v0 w0 l (w_if :: (xw ++ w_then :: (yw ++ w_else :: zw))) wr ((wb, #[.string w_if, .string w_then, .string w_else], 9) :: bs)) ∨ (i = .int .i64 1 ∧ Gt B pb v0 w0 (l ++ [w_if] ++ xw) (w_then :: (yw ++ w_else :: zw)) wr ((wb, #[.string w_if, .string w_then, .string w_else], 9) :: bs)) ∨ (i = .int .i64 2 ∧ Gt B pb v0 w0 (l ++ [w_if] ++ xw ++ [w_then] ++ yw) (w_else :: zw) wr ((wb, #[.string w_if, .string w_then, .string w_else], 9) :: bs)) ∨ (i = .int .i64 3 ∧ Gt B pb v0 w0 (l ++ [w_if] ++ xw ++ [w_then] ++ yw ++ [w_else] ++ zw) [] wr ((wb, #[.string w_if, .string w_then, .string w_else], 9) :: bs))) (fun _ _ i _ => 3 - (Lib.intOf i).toNat)
 case atStart => exact .inl ⟨rfl, G.out⟩
 case round =>
  have HB : Hid (∀ x ∈ bs, x ∈ ((wb, #[.string w_if, .string w_then, .string w_else], 9) :: bs)) := lh (fun _ h => List.mem_cons_of_mem _ h)
  rcases hrel with ⟨rfl, hg⟩ | ⟨rfl, hg⟩ | ⟨rfl, hg⟩ | ⟨rfl, hg⟩
  · have G := lh hg
    clear hg
    have c := HF.out _ _ _ HB.out G.out.g
    have c2 : wr.cell? ⟨wb, 0, none⟩ = some (.string w_if) := blk_cell G.out.g.hd 0
    go_upto_region 19 with (go_at_call 85; refine G.out.put ?_; intro u1 G)
    have c := HF.out _ _ _ HB.out G.out.g
    obtain ⟨b, p9, ap, cp, HS1, x9⟩ := G.out.kid HS.out 0 x rfl 3 rfl 0 rfl
    go_still_tail 6, (by kernel_rfl)
    change wpList _ _ _ _ _ u1.drew
    replace G := lh G.out.drew
    clear c c2 x9
    go_wp2_with (go_at_call 43; refine G.out.call H1.out HS1.out ?_; intro u2 G)
    go_roundw
    case rel => exact .inr (.inl ⟨rfl, G.out⟩)
    case measure => simp [Lib.intOf]
  · have G := lh hg
    clear hg
    have c := HF.out _ _ _ HB.out G.out.g
    have c2 : wr.cell? ⟨wb, 1, none⟩ = some (.string w_then) := blk_cell G.out.g.hd 1
    go_upto_region 19 with (go_at_call 85; refine G.out.put ?_; intro u1 G)
    have c := HF.out _ _ _ HB.out G.out.g
    obtain ⟨b, p9, ap, cp, HS1, x9⟩ := G.out.kid HS.out 1 y rfl 3 rfl 1 rfl
    go_still_tail 6, (by kernel_rfl)
    change wpList _ _ _ _ _ u1.drew
    replace G := lh G.out.drew
    clear c c2 x9
    go_wp2_with (go_at_call 43; refine G.out.call H2.out HS1.out ?_; intro u2 G)
    go_roundw
    case rel => exact .inr (.inr (.inl ⟨rfl, G.out⟩))
    case measure => simp [Lib.intOf]
  · have G := lh hg
    clear hg
    have c := HF.out _ _ _ HB.out G.out.g
    have c2 : wr.cell? ⟨wb, 2, none⟩ = some (.string w_else) := blk_cell G.out.g.hd 2
    go_upto_region 19 with (go_at_call 85; refine G.out.put ?_; intro u1 G)
    have c := HF.out _ _ _ HB.out G.out.g
    obtain ⟨b, p9, ap, cp, HS1, x9⟩ := G.out.kid HS.out 2 z rfl 3 rfl 2 rfl
    go_still_tail 6, (by kernel_rfl)
    change wpList _ _ _ _ _ u1.drew
    replace G := lh G.out.drew.nil
    clear c c2 x9
    go_wp2_with (go_at_call 43; refine G.out.call H3.out HS1.out ?_; intro u2 G)
    go_roundw
    case rel => exact .inr (.inr (.inr ⟨rfl, G.out⟩))
    case measure => simp [Lib.intOf]
  · have G := lh hg
    clear hg
    go_wp2_with fail
    go_end0
    exact G.out.end HB.out (by simp)
end Go.Proofs.YthehjeeiodbkjaaGreatDoor
