/-
  Proved: the contract of the law's pair, where its two parts have theirs. Condition: what fits a machine.
-/
import Derived.Test.YtcieoelogocjkaaZ4
import Derived.Test.YtcieoelogocjkaaC2
set_option linter.unusedSimpArgs false
set_option linter.unusedVariables false
namespace Go.Proofs.Ytcieoelogocjkaa
open Go.RowKit Srt

def sI : Srt → Int | s0 => 0 | s1 => 1 | s2 => 2 | s3 => 3 | s4 => 4 | s5 => 5 | s6 => 6
abbrev NewD (lo : Nat) (w : World) : Nat → Prop := fun b => lo ≤ b ∧ b < w.heap.size
theorem new_on {w w' : World} {lo lo' : Nat} {l : List Pt} {a : Option Addr} {c : Nat} (h : SlD w (NewD lo w) l a c) (hb : Below w.heap.size w w') (hl : lo' ≤ lo) : SlD w' (NewD lo' w') l a c :=
  (h.keep fun b hb' off => below_cells hb b hb'.2 off).mono fun b hb' => ⟨Nat.le_trans hl hb'.1, Nat.lt_of_lt_of_le hb'.2 hb.size⟩
theorem cell_set6 {w : World} {b c : Nat} {q : Pt} {aq : Option Addr} {cq : Nat} (hne : b ≠ c) (o : Nat) : (set6 w c q aq cq).cell? ⟨b, o, none⟩ = w.cell? ⟨b, o, none⟩ := by
  unfold set6 World.cell?
  rw [Below.heap_setCell _ _ _ _ hne, Below.heap_setCell _ _ _ _ hne, Below.heap_setCell _ _ _ _ hne, Below.heap_setCell _ _ _ _ hne, Below.heap_setCell _ _ _ _ hne, Below.heap_setCell _ _ _ _ hne]
/-- what a fitted pattern is -/
structure Good (s : Srt) (value : Bool) (B : Nat) (t : Pt) : Prop where
  ty : Pty s t
  noa : NoA t
  val : value = true → Vty s t
  fits : Fits t
  size : parts t ≤ B
def FitPost (s : Srt) (value : Bool) (B : Nat) (w : World) (e : Ending) (w' : World) : Prop :=
  ∃ t a c, e = .returned (.agg (rowOf t a c)) ∧ SlD w' (NewD w.heap.size w') t.kids a c ∧ Good s value B t ∧ Below w.heap.size w w'
def FitCB (p : Pt) (s : Srt) (value : Bool) (B : Nat) : Prop :=
  ∀ (ao : Option Addr) (cap : Nat) (w : World), SlV w w.heap.size p.kids ao cap → Calls Try.prog 9 #[.agg (rowOf p ao cap), .int .i64 (sI s), .bool value] w (FitPost s value B w)
theorem kid0_any (p : Pt) (ao : Option Addr) (cap : Nat) (w : World) (hv : SlV w w.heap.size p.kids ao cap) (hl : p.kids.length ≤ 1048576) :
    Calls Try.prog 15 #[.agg (rowOf p ao cap), .int .i64 0] w fun e w' => ∃ a c, e = .returned (.agg (rowOf (kidD p 0) a c)) ∧ SlV w' w'.heap.size (kidD p 0).kids a c ∧ Below w.heap.size w w' := by
  refine Calls.mono (kid_any (fun b => b < w.heap.size) p 0 ao cap w (fun b hb => hb) hv (by omega) hl) ?_
  rintro e w' ⟨a, c, rfl, hs, hb⟩
  exact ⟨a, c, rfl, SlV.on hs hb, hb⟩
theorem kid1_any (p : Pt) (ao : Option Addr) (cap : Nat) (w : World) (hv : SlV w w.heap.size p.kids ao cap) (hl : p.kids.length ≤ 1048576) :
    Calls Try.prog 15 #[.agg (rowOf p ao cap), .int .i64 1] w fun e w' => ∃ a c, e = .returned (.agg (rowOf (kidD p 1) a c)) ∧ SlV w' w'.heap.size (kidD p 1).kids a c ∧ Below w.heap.size w w' := by
  refine Calls.mono (kid_any (fun b => b < w.heap.size) p 1 ao cap w (fun b hb => hb) hv (by omega) hl) ?_
  rintro e w' ⟨a, c, rfl, hs, hb⟩
  exact ⟨a, c, rfl, SlV.on hs hb, hb⟩
theorem slv_drew {w : World} {N : Nat} {l : List Pt} {a : Option Addr} {c : Nat} (h : SlV w N l a c) : SlV w.drew N l a c := SlD.keep (w' := w.drew) h (fun _ _ _ => rfl)
abbrev SF (b : Nat) (p : Pt) (ao : Option Addr) (cap : Nat) (w : World) : Prop := SixZ b p ao cap w
theorem SF.drew {b : Nat} {p : Pt} {ao : Option Addr} {cap : Nat} {w : World} (h : SF b p ao cap w) : SF b p ao cap w.drew := h
theorem SF.cong {b : Nat} {p : Pt} {ao : Option Addr} {cap : Nat} {w w' : World} (h : SF b p ao cap w) (e : ∀ o, w'.cell? ⟨b, o, none⟩ = w.cell? ⟨b, o, none⟩) : SF b p ao cap w' := by
  unfold SF SixZ at h ⊢
  simp only [e]
  exact h
theorem SF.below {b : Nat} {p : Pt} {ao : Option Addr} {cap : Nat} {w w' : World} (h : SF b p ao cap w) (hb : Below w.heap.size w w') (hl : b < w.heap.size) : SF b p ao cap w' := h.cong fun o => hb.cell (p := ⟨b, o, none⟩) hl
theorem SF.alloc {b : Nat} {p : Pt} {ao : Option Addr} {cap : Nat} {w : World} (h : SF b p ao cap w) (o : Obj) : SF b p ao cap (w.alloc o) := h.below (balloc (Below.refl _ _) o) (World.block_lt_of_cell? w ⟨b, 0, none⟩ h.1.1)
theorem SF.set {b : Nat} {p : Pt} {ao : Option Addr} {cap : Nat} {w : World} (h : SF b p ao cap w) (c i : Nat) (u : Value) (hne : b ≠ c) : SF b p ao cap (w.setCell ⟨c, i, none⟩ u) := h.cong fun o => by
  unfold World.cell?
  rw [Below.heap_setCell _ _ _ _ hne]
theorem SF.of {b : Nat} {p : Pt} {ao : Option Addr} {cap : Nat} {w : World} (h : PB w b p ao cap) : SF b p ao cap w := ⟨⟨blk_cell h 0, blk_cell h 1, blk_cell h 2⟩, blk_cell h 3, blk_cell h 4, blk_cell h 5⟩
theorem sl_two {w : World} {D : Nat → Prop} {b : Nat} {x y : Pt} {ax ay : Option Addr} {cx cy : Nat} (hb : w.heap[b]? = some (.cells (rowOf x ax cx ++ rowOf y ay cy) 26 (0, 0))) (hN : D b) (hx : SlD w D x.kids ax cx) (hy : SlD w D y.kids ay cy) : SlD w D [x, y] (some ⟨b, 0, none⟩) 2 := by
  refine ⟨Nat.le_refl _, ?_⟩
  unfold KidsV
  refine ⟨⟨b, 0, (rowOf x ax cx).toList, rfl, hN, fun j hj => ?_, PatV.mk' hx⟩, ?_⟩
  · rw [blk_cell hb]
    match j, hj with
    | 0, _ => rfl
    | 1, _ => rfl
    | 2, _ => rfl
    | 3, _ => rfl
    | 4, _ => rfl
    | 5, _ => rfl
  · unfold KidsV
    refine ⟨⟨b, 0, (rowOf y ay cy).toList, rfl, hN, fun j hj => ?_, PatV.mk' hy⟩, by unfold KidsV; trivial⟩
    rw [blk_cell hb]
    match j, hj with
    | 0, _ => rfl
    | 1, _ => rfl
    | 2, _ => rfl
    | 3, _ => rfl
    | 4, _ => rfl
    | 5, _ => rfl
theorem sl_lone {w : World} {D : Nat → Prop} {b : Nat} {x : Pt} {ax : Option Addr} {cx : Nat} (hb : w.heap[b]? = some (.cells (rowOf x ax cx) 26 (0, 0))) (hN : D b) (hx : SlD w D x.kids ax cx) : SlD w D [x] (some ⟨b, 0, none⟩) 1 := by
  refine ⟨Nat.le_refl _, ?_⟩
  unfold KidsV
  refine ⟨⟨b, 0, (rowOf x ax cx).toList, rfl, hN, fun j hj => ?_, PatV.mk' hx⟩, by unfold KidsV; trivial⟩
  rw [blk_cell hb]
  simp
def tupP (x y : Pt) : Pt := .mk 5 0 0 0 ⟨#[]⟩ [x, y]
def PairPost (a b : Srt) (value : Bool) (BA BB : Nat) (w : World) (e : Ending) (w' : World) : Prop :=
  ∃ x y ad, e = .returned (.agg (rowOf (tupP x y) ad 2)) ∧ SlD w' (NewD w.heap.size w') [x, y] ad 2 ∧ Good a value BA x ∧ Good b value BB y ∧ Below w.heap.size w w'

set_option maxRecDepth 100000 in
set_option maxHeartbeats 8000000 in
theorem pair_any (p : Pt) (sa sb : Srt) (value : Bool) (BA BB : Nat) (hA : FitCB (kidD p 0) sa value BA) (hB : FitCB (kidD p 1) sb value BB) (ao : Option Addr) (cap : Nat) (w : World) (hv : SlV w w.heap.size p.kids ao cap) (hl : p.kids.length ≤ 1048576) :
    Calls Try.prog 16 #[.agg (rowOf p ao cap), .int .i64 (sI sa), .int .i64 (sI sb), .bool value] w (PairPost sa sb value BA BB w) := by
  obtain ⟨W, hW⟩ : ∃ W, W = (w.alloc (.cells (rowOf p ao cap) 26)).alloc (.cells #[.int .i64 0, .int .i64 0, .int .i64 0, .int .i64 0, .string ⟨#[]⟩, .slice none 0 0] 26) := ⟨_, rfl⟩
  have e1 := heap_alloc_new w (.cells (rowOf p ao cap) 26)
  have e2 := heap_alloc_new (w.alloc (.cells (rowOf p ao cap) 26)) (.cells #[.int .i64 0, .int .i64 0, .int .i64 0, .int .i64 0, .string ⟨#[]⟩, .slice none 0 0] 26)
  rw [World.size_alloc] at e2
  have h1 : PB W w.heap.size p ao cap := by rw [hW]; exact blk_alloc e1 _
  have h2 : PB W (w.heap.size + 1) anyP none 0 := by rw [hW]; exact e2
  have h3 : Below w.heap.size w W := by rw [hW]; exact balloc (balloc (Below.refl _ _) _) _
  have l2 : w.heap.size + 1 < W.heap.size := lt_of_block h2
  have hvW : SlV W W.heap.size p.kids ao cap := SlV.on hv h3
  have hS : SF w.heap.size p ao cap W := SF.of h1
  have HA := Lib.hid hA
  have HB := Lib.hid hB
  have HV := Lib.hid hv
  have HVW := Lib.hid hvW
  have HW := Lib.hid hW
  have H2 := Lib.hid h2
  have H3 := Lib.hid h3
  obtain ⟨ia, hia⟩ : ∃ ia, ia = sI sa := ⟨_, rfl⟩
  obtain ⟨ib, hib⟩ : ∃ ib, ib = sI sb := ⟨_, rfl⟩
  rw [← hia, ← hib]
  have HIA := Lib.hid hia
  have HIB := Lib.hid hib
  have lw : w.heap.size < W.heap.size := by omega
  have hne : w.heap.size ≠ w.heap.size + 1 := by omega
  have tok0 : True := trivial
  have tok1 : True := trivial
  have tok2 : True := trivial
  have tok3 : True := trivial
  clear hA hB hv hvW hW h1 h2 h3 e1 e2 hia hib
  unfold rowOf
  go_enter Try.func16, Try.ntmps16
  go_upto_region 1 with fail
  rw [show (w.alloc (.cells #[.int .i64 p.k, .int .i64 p.n, .int .i64 p.o, .int .i64 p.a, .string p.s, .slice ao p.kids.length cap] 26)).alloc (.cells #[.int .i64 0, .int .i64 0, .int .i64 0, .int .i64 0, .string ⟨#[]⟩, .slice none 0 0] 26) = W from HW.out.symm]
  go_region_held3 (fun w' => SF w.heap.size p ao cap w')
    (repeat (first | with_reducible exact hS | with_reducible exact hS5 | with_reducible exact hS6 | with_reducible exact hS7 | with_reducible exact hS8 | with_reducible apply SF.drew | (with_reducible refine SF.set ?_ _ _ _ hne) | (with_reducible refine SF.alloc ?_ _)))
    (first
     | (go_at_call 15; have _t := tok0; refine Calls.mono (kid0_any p ao cap _ (by first | with_reducible exact HVW.out | exact slv_drew HVW.out) hl) ?_; rintro e w5 ⟨a5, c5, rfl, hs5, hb5⟩; clear tok0; have hb5W : Below W.heap.size W w5 := (by first | with_reducible exact hb5 | exact (Below.refl _ _).drew.trans hb5); have hz5 := hb5W.size; have hS5 := hS.below hb5W lw; have HS5 := Lib.hid hs5; have HB5 := Lib.hid hb5W; have HVW5 := Lib.hid (SlV.on HVW.out hb5W); clear hs5 hb5W hb5)
     | (go_at_call 9; have _t := tok1; rw [HIA.out]; refine Calls.mono (HA.out a5 c5 _ (by first | with_reducible exact HS5.out | exact slv_drew HS5.out)) ?_; rintro e w6 ⟨x, ax, cx, rfl, hsx, hgx, hb6⟩; rw [← HIA.out]; clear tok1; have hb6W : Below w5.heap.size w5 w6 := (by first | with_reducible exact hb6 | exact (Below.refl _ _).drew.trans hb6); have hz6 := hb6W.size; have hS6 := hS5.below hb6W (by omega); have HSX := Lib.hid (SlD.mono hsx (D' := NewD W.heap.size w6) (fun b hb => ⟨by have h1 : w5.heap.size ≤ b := hb.1; omega, hb.2⟩)); have HGX := Lib.hid hgx; have HB6 := Lib.hid (HB5.out.trans (hb6W.mono hz5)); have HVW6 := Lib.hid (SlV.on HVW5.out hb6W); clear hsx hgx hb6 hb6W)
     | (go_at_call 15; have _t := tok2; refine Calls.mono (kid1_any p ao cap _ (by first | with_reducible exact HVW6.out | exact slv_drew HVW6.out) hl) ?_; rintro e w7 ⟨a7, c7, rfl, hs7, hb7⟩; clear tok2; have hb7W : Below w6.heap.size w6 w7 := (by first | with_reducible exact hb7 | exact (Below.refl _ _).drew.trans hb7); have hz7 := hb7W.size; have hS7 := hS6.below hb7W (by omega); have HS7 := Lib.hid hs7; have HB7 := Lib.hid (HB6.out.trans (hb7W.mono (by omega))); have HSX7 := Lib.hid (new_on HSX.out hb7W (Nat.le_refl _)); clear hs7 hb7W hb7)
     | (go_at_call 9; have _t := tok3; rw [HIB.out]; refine Calls.mono (HB.out a7 c7 _ (by first | with_reducible exact HS7.out | exact slv_drew HS7.out)) ?_; rintro e w8 ⟨y, ay, cy, rfl, hsy, hgy, hb8⟩; rw [← HIB.out]; unfold rowOf; clear tok3; have hb8W : Below w7.heap.size w7 w8 := (by first | with_reducible exact hb8 | exact (Below.refl _ _).drew.trans hb8); have hz8 := hb8W.size; have hS8 := hS7.below hb8W (by omega); have HSY := Lib.hid (SlD.mono hsy (D' := NewD W.heap.size w8) (fun b hb => ⟨by have h1 : w7.heap.size ≤ b := hb.1; omega, hb.2⟩)); have HGY := Lib.hid hgy; have HB8 := Lib.hid (HB7.out.trans (hb8W.mono (by omega))); have HSX8 := Lib.hid (new_on HSX7.out hb8W (Nat.le_refl _)); have hz := blk_below H2.out HB8.out l2; have z0 : w8.cell? ⟨w.heap.size + 1, 0, none⟩ = some (.int .i64 0) := blk_cell hz 0; have z1 : w8.cell? ⟨w.heap.size + 1, 1, none⟩ = some (.int .i64 0) := blk_cell hz 1; have z2 : w8.cell? ⟨w.heap.size + 1, 2, none⟩ = some (.int .i64 0) := blk_cell hz 2; have z3 : w8.cell? ⟨w.heap.size + 1, 3, none⟩ = some (.int .i64 0) := blk_cell hz 3; have z4 : w8.cell? ⟨w.heap.size + 1, 4, none⟩ = some (.string ⟨#[]⟩) := blk_cell hz 4; have z5 : w8.cell? ⟨w.heap.size + 1, 5, none⟩ = some (.slice none 0 0) := blk_cell hz 5; have f0 := blk_free hz 0; have f1 := blk_free hz 1; have f2 := blk_free hz 2; have f3 := blk_free hz 3; have f4 := blk_free hz 4; have f5 := blk_free hz 5; have lz := lt_of_block hz; have HZ := Lib.hid hz; clear hsy hgy hb8 hb8W hz))
  clear z0 z1 z2 z3 z4 z5 f0 f1 f2 f3 f4 f5 hS hS5 hS6 hS7 hS8
  obtain ⟨wF, hwF⟩ : ∃ wF, wF = ((((((w8.setCell ⟨w.heap.size + 1, 0, none⟩ (.int .i64 5)).setCell ⟨w.heap.size + 1, 1, none⟩ (.int .i64 0)).setCell ⟨w.heap.size + 1, 2, none⟩ (.int .i64 0)).setCell ⟨w.heap.size + 1, 3, none⟩ (.int .i64 0)).setCell ⟨w.heap.size + 1, 4, none⟩ (.string ⟨#[]⟩)).setCell ⟨w.heap.size + 1, 5, none⟩ (.slice (some ⟨w8.heap.size, 0, none⟩) 2 2)).alloc (.cells #[.int .i64 x.k, .int .i64 x.n, .int .i64 x.o, .int .i64 x.a, .string x.s, .slice ax x.kids.length cx, .int .i64 y.k, .int .i64 y.n, .int .i64 y.o, .int .i64 y.a, .string y.s, .slice ay y.kids.length cy] 26) := ⟨_, rfl⟩
  rw [← hwF]
  have hsF : w8.heap.size < wF.heap.size := by rw [hwF, World.size_alloc]; simp [World.setCell]
  have hset : wF = (set6 w8 (w.heap.size + 1) (tupP x y) (some ⟨w8.heap.size, 0, none⟩) 2).alloc (.cells (rowOf x ax cx ++ rowOf y ay cy) 26) := hwF
  have hblk : PB wF (w.heap.size + 1) (tupP x y) (some ⟨w8.heap.size, 0, none⟩) 2 := by
    rw [hset]
    exact blk_alloc (PB.set (p := anyP) (ao := none) (cap := 0) HZ.out) _
  have hnew : wF.heap[w8.heap.size]? = some (.cells (rowOf x ax cx ++ rowOf y ay cy) 26 (0, 0)) := by
    rw [hset]
    have h := heap_alloc_new (set6 w8 (w.heap.size + 1) (tupP x y) (some ⟨w8.heap.size, 0, none⟩) 2) (.cells (rowOf x ax cx ++ rowOf y ay cy) 26)
    rwa [size_set6] at h
  have hbF : Below w.heap.size w8 wF := by
    rw [hset]
    exact (below_set6 (q := tupP x y) (aq := some ⟨w8.heap.size, 0, none⟩) (cq := 2) (Below.refl w.heap.size w8) (by omega)).alloc (by rw [size_set6]; omega) _
  have hcellF : ∀ b, NewD W.heap.size w8 b → ∀ off, wF.cell? ⟨b, off, none⟩ = w8.cell? ⟨b, off, none⟩ := by
    intro b hb off
    rw [hset, ← cell_set6 (w := w8) (q := tupP x y) (aq := some ⟨w8.heap.size, 0, none⟩) (cq := 2) (show b ≠ w.heap.size + 1 by have h1 : W.heap.size ≤ b := hb.1; omega) off]
    exact below_cells ((Below.refl _ _).alloc (Nat.le_refl _) _) b (by rw [size_set6]; exact hb.2) off
  have hfin : SlD wF (NewD w.heap.size wF) [x, y] (some ⟨w8.heap.size, 0, none⟩) 2 := by
    refine sl_two hnew ⟨by omega, hsF⟩ ?_ ?_
    · exact (HSX8.out.keep hcellF).mono fun b hb => ⟨by have h1 : W.heap.size ≤ b := hb.1; omega, by have h1 : b < w8.heap.size := hb.2; omega⟩
    · exact (HSY.out.keep hcellF).mono fun b hb => ⟨by have h1 : W.heap.size ≤ b := hb.1; omega, by have h1 : b < w8.heap.size := hb.2; omega⟩
  have HFIN := Lib.hid hfin
  have HBF := Lib.hid (H3.out.trans ((HB8.out.mono (Nat.le_of_lt lw)).trans hbF))
  have HBLK := Lib.hid hblk
  have HNEW := Lib.hid hnew
  have HSF := Lib.hid hsF
  clear hwF hset hblk hnew hsF hbF hcellF hfin
  go_wp2_with fail
  refine bodyPost_ret (v := .agg (rowOf (tupP x y) (some ⟨w8.heap.size, 0, none⟩) 2)) (res_pat (fn := Try.f16) (t := 8) Try.results16 rfl HBLK.out) rfl ?_
  exact ⟨x, y, some ⟨w8.heap.size, 0, none⟩, rfl, HFIN.out, HGX.out, HGY.out, HBF.out⟩
end Go.Proofs.Ytcieoelogocjkaa
