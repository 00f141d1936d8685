/-
  Proved: the contract of the program's reader of an instruction. Conditions: the table of forms; a text of at most 2^62 bytes.
-/
import Derived.Test.YtebappmamaafaaaDoorD1
import Derived.Deep.RegionWith
set_option linter.unusedSimpArgs false
set_option linter.unusedVariables false
namespace Go.Proofs.YtebappmamaafaaaDoor
open Go.RowKit

theorem Rdr.grown {w w' : World} {p : Nat} {s : ByteArray} {a : Nat} (h : Rdr w p s a) (hg : w.grownBy w' none) : Rdr w' p s a := blk_grown h hg (by simp)
theorem Rdr.alloc {w : World} {p : Nat} {s : ByteArray} {a : Nat} (h : Rdr w p s a) (o : Obj) : Rdr (w.alloc o) p s a := blk_alloc h o
/-- the reader is not the table -/
theorem forms_ne {w : World} {p : Nat} {s : ByteArray} {a : Nat} (h : Rdr w p s a) (hF : Forms w) : 0 < p := by
  rcases Nat.eq_zero_or_pos p with rfl | hp
  · have h1 := hF 1 (by omega)
    rw [blk_cell h] at h1
    simp at h1
  · exact hp
theorem Forms.grown {w w' : World} {p : Nat} (h : Forms w) (hg : w.grownBy w' (some p)) (hp : 0 < p) : Forms w' := by
  intro k hk
  have h0 : 0 < w.heap.size := World.block_lt_of_cell? w _ (h k hk)
  have e := hg.block 0 h0 (by simp; omega)
  have h1 := h k hk
  unfold World.cell? at h1 ⊢
  simp only at h1 ⊢
  rw [e]
  exact h1
theorem numB_lt {s : ByteArray} {a n v : Nat} (h : numB s a n = some v) : v < 256 ^ n ∧ a + n ≤ s.size := by
  unfold numB at h
  split at h
  · rename_i hle
    cases h
    have := beN_lt (cutB s a n)
    rw [cutB_len s a n hle] at this
    exact ⟨this, hle⟩
  · cases h

def xval (x : Ic) : Value := .agg #[.int .i64 x.1, .int .i64 x.2.1, .int .i64 x.2.2]
def InsPost (p : Nat) (s : ByteArray) (a : Nat) (w : World) (e : Ending) (w' : World) : Prop :=
  match insD s a with
  | .inl f => ∃ x b a', e = .returned (.tuple #[xval x, errv b]) ∧ RStep w w' p s a' ∧ a' ≤ s.size ∧ ErrAt w' b f
  | .inr (x, a') => e = .returned (.tuple #[xval x, .nilIface]) ∧ RStep w w' p s a' ∧ a' ≤ s.size

/-- the instruction's block -/
abbrev SX (bx : Nat) (x : Ic) (W : World) : Prop := W.heap[bx]? = some (.cells #[.int .i64 x.1, .int .i64 x.2.1, .int .i64 x.2.2] 50 (0, 0))
/-- what the loads of the drawn regions read -/
abbrev S3 (bx : Nat) (x : Ic) (W : World) : Prop :=
  W.cell? ⟨bx, 0, none⟩ = some (.int .i64 x.1) ∧ W.cell? ⟨bx, 1, none⟩ = some (.int .i64 x.2.1) ∧ W.cell? ⟨bx, 2, none⟩ = some (.int .i64 x.2.2)
abbrev Z3 (bx : Nat) (W : World) : Prop :=
  W.frozen? ⟨bx, 0, none⟩ = false ∧ W.frozen? ⟨bx, 1, none⟩ = false ∧ W.frozen? ⟨bx, 2, none⟩ = false
theorem SX.s3 {bx : Nat} {x : Ic} {W : World} (h : SX bx x W) : S3 bx x W := ⟨blk_cell h 0, blk_cell h 1, blk_cell h 2⟩
theorem SX.z3 {bx : Nat} {x : Ic} {W : World} (h : SX bx x W) : Z3 bx W := ⟨blk_free h 0, blk_free h 1, blk_free h 2⟩
theorem keepA {w : World} {a : Addr} {v : Value} (o : Obj) (h : w.cell? a = some v) : (w.alloc o).cell? a = some v := (Below.cell (Below.alloc (Below.refl w.heap.size w) (Nat.le_refl _) o) (World.block_lt_of_cell? w a h)).trans h
theorem S3.drew {bx : Nat} {x : Ic} {W : World} (h : S3 bx x W) : S3 bx x W.drew := h
theorem S3.alloc {bx : Nat} {x : Ic} {W : World} (h : S3 bx x W) (o : Obj) : S3 bx x (W.alloc o) := ⟨keepA o h.1, keepA o h.2.1, keepA o h.2.2⟩
abbrev SZ (bx : Nat) (x : Ic) (W : World) : Prop := S3 bx x W ∧ Z3 bx W
theorem SX.sz {bx : Nat} {x : Ic} {W : World} (h : SX bx x W) : SZ bx x W := ⟨h.s3, h.z3⟩
theorem keepF {w : World} {a : Addr} {b : Bool} (o : Obj) (hlt : a.block < w.heap.size) (h : w.frozen? a = b) : (w.alloc o).frozen? a = b := (Below.frozen (Below.alloc (Below.refl w.heap.size w) (Nat.le_refl _) o) hlt).trans h
theorem SZ.drew {bx : Nat} {x : Ic} {W : World} (h : SZ bx x W) : SZ bx x W.drew := h
theorem SZ.alloc {bx : Nat} {x : Ic} {W : World} (h : SZ bx x W) (o : Obj) : SZ bx x (W.alloc o) :=
  have hlt : bx < W.heap.size := World.block_lt_of_cell? W _ h.1.1
  ⟨h.1.alloc o, keepF o hlt h.2.1, keepF o hlt h.2.2.1, keepF o hlt h.2.2.2⟩
theorem SX.set3 {bx : Nat} {x y : Ic} {W : World} (h : SX bx x W) : SX bx y (((W.setCell ⟨bx, 0, none⟩ (.int .i64 y.1)).setCell ⟨bx, 1, none⟩ (.int .i64 y.2.1)).setCell ⟨bx, 2, none⟩ (.int .i64 y.2.2)) := blk_set (blk_set (blk_set h _ _) _ _) _ _
/-- a block known, with its cells -/
abbrev SA (bx : Nat) (x : Ic) (W : World) : Prop := SX bx x W ∧ S3 bx x W ∧ Z3 bx W
theorem SX.sa {bx : Nat} {x : Ic} {W : World} (h : SX bx x W) : SA bx x W := ⟨h, h.s3, h.z3⟩
theorem SA.drew {bx : Nat} {x : Ic} {W : World} (h : SA bx x W) : SA bx x W.drew := h
theorem SA.alloc {bx : Nat} {x : Ic} {W : World} (h : SA bx x W) (o : Obj) : SA bx x (W.alloc o) := SX.sa (blk_alloc h.1 o)
theorem SA.set3 {bx : Nat} {x : Ic} {W : World} (h : SA bx x W) : SA bx x (((W.setCell ⟨bx, 0, none⟩ (.int .i64 x.1)).setCell ⟨bx, 1, none⟩ (.int .i64 x.2.1)).setCell ⟨bx, 2, none⟩ (.int .i64 x.2.2)) := SX.sa (SX.set3 (y := x) h.1)
theorem RStep.set {w W : World} {p : Nat} {s : ByteArray} {a : Nat} (h : RStep w W p s a) (b i : Nat) (v : Value) (hp : p < w.heap.size) (hb : w.heap.size ≤ b) : RStep w (W.setCell ⟨b, i, none⟩ v) p s a :=
  ⟨blk_set_ne h.rd (by omega) _ _, gr_far h.gr _ _ _ hb⟩
theorem RStep.set3 {w W : World} {p : Nat} {s : ByteArray} {a : Nat} (h : RStep w W p s a) (b : Nat) (u v z : Value) (hp : p < w.heap.size) (hb : w.heap.size ≤ b) : RStep w (((W.setCell ⟨b, 0, none⟩ u).setCell ⟨b, 1, none⟩ v).setCell ⟨b, 2, none⟩ z) p s a :=
  ((h.set b 0 u hp hb).set b 1 v hp hb).set b 2 z hp hb
theorem RStep.alloc {w W : World} {p : Nat} {s : ByteArray} {a : Nat} (h : RStep w W p s a) (o : Obj) : RStep w (W.alloc o) p s a := ⟨blk_alloc h.rd o, gr_trans h.gr (World.grownBy_alloc _ _ _)⟩
theorem RStep.drew {w W : World} {p : Nat} {s : ByteArray} {a : Nat} (h : RStep w W p s a) : RStep w W.drew p s a := ⟨h.rd, gr_trans h.gr (gr_drew W 1 _)⟩
theorem RStep.trans {w W W' : World} {p : Nat} {s : ByteArray} {a a' : Nat} (h : RStep w W p s a) (h' : RStep W W' p s a') : RStep w W' p s a' := ⟨h'.rd, gr_trans h.gr h'.gr⟩
theorem RStep.start {w : World} {p : Nat} {s : ByteArray} {a : Nat} (h : Rdr w p s a) : RStep w w p s a := ⟨h, ⟨rfl, rfl, rfl, Nat.le_refl _, fun _ _ _ => rfl⟩⟩
theorem ErrAt.new {W : World} {n : Nat} (hn : n = W.heap.size) (k a : Int) : ErrAt (W.alloc (.cells #[.int .i64 k, .int .i64 a] 71)) n (k, a) := by
  subst hn; exact heap_alloc_new _ _
theorem ErrAt.set3 {W : World} {b e : Nat} {f : Int × Int} (h : ErrAt W e f) (hb : e ≠ b) (u v z : Value) : ErrAt (((W.setCell ⟨b, 0, none⟩ u).setCell ⟨b, 1, none⟩ v).setCell ⟨b, 2, none⟩ z) e f :=
  blk_set_ne (blk_set_ne (blk_set_ne h hb _ _) hb _ _) hb _ _
theorem ErrAt.set {W : World} {b e : Nat} {f : Int × Int} (h : ErrAt W e f) (hb : e ≠ b) (i : Nat) (u : Value) : ErrAt (W.setCell ⟨b, i, none⟩ u) e f := blk_set_ne h hb _ _

theorem gr_iter {w W : World} {row : Option Nat} (h : w.grownBy W row) (k : Nat) (s : ByteArray) (pos : Nat) (hk : w.heap.size ≤ k) : w.grownBy (W.iterAt k s pos) row :=
  ⟨h.os, h.tape, h.output, by rw [Lib.iterAt_size]; exact h.size, fun j hj hne => by rw [Lib.iterAt_other _ _ _ _ _ (by omega)]; exact h.block j hj hne⟩
theorem conv32 (v : Nat) (h : v < 256 ^ 4) : wrap64 (wrap32 (v : Int)) = sgn v := by
  have h' : v < 4294967296 := h
  unfold sgn wrap64 wrap32
  split <;> omega
theorem opsD_step (s : ByteArray) (f : List UInt8) (k : Nat) (x : Ic) (a : Nat) (h : k < f.length) : opsD s (f.drop k) k x a =
    if f.getD k 0 = 105 then match numB s a 4 with
      | none => .inl (endF s)
      | some v => if 1000000000 < sgn v ∨ sgn v < -1000000000 then .inl (17, a) else opsD s (f.drop (k + 1)) (k + 1) (setOp x k (sgn v)) (a + 4)
    else match numB s a 2 with
      | none => .inl (endF s)
      | some v => opsD s (f.drop (k + 1)) (k + 1) (setOp x k v) (a + 2) := by
  rw [List.drop_eq_getElem_cons h]
  have e : f.getD k 0 = f[k] := by rw [List.getD_eq_getElem?_getD, List.getElem?_eq_getElem h]; rfl
  rw [e]
  rfl
/-- the loop's world -/
structure LpI (w W : World) (p : Nat) (s : ByteArray) (f : List UInt8) (bx bl it k : Nat) (x : Ic) (a : Nat) : Prop where
  itr : W.heap[it]? = some (.stringIter ⟨f.toArray⟩ k)
  ls : W.heap[bl]? = some (.cells #[.pointer (some ⟨bx, 1, none⟩), .pointer (some ⟨bx, 2, none⟩)] 137 (0, 0))
  xs : SX bx x W
  st : RStep w W p s a
  ne : p < bx ∧ bx < bl ∧ bl < it ∧ w.heap.size ≤ bx ∧ p < w.heap.size
theorem LpI.ptr {w W : World} {p : Nat} {s : ByteArray} {f : List UInt8} {bx bl it k : Nat} {x : Ic} {a i : Nat} (h : LpI w W p s f bx bl it k x a) (hi : i < 2) :
    W.cell? ⟨bl, i, none⟩ = some (.pointer (some ⟨bx, 1 + i, none⟩)) ∧ W.frozen? ⟨bx, 1 + i, none⟩ = false ∧ ∃ v, W.cell? ⟨bx, 1 + i, none⟩ = some (.int .i64 v) := by
  refine ⟨?_, blk_free h.xs _, ?_⟩
  · rw [blk_cell h.ls]
    rcases (by omega : i = 0 ∨ i = 1) with rfl | rfl <;> rfl
  · rw [blk_cell h.xs]
    rcases (by omega : i = 0 ∨ i = 1) with rfl | rfl
    · exact ⟨_, rfl⟩
    · exact ⟨_, rfl⟩
theorem LpI.step {w W W' : World} {p : Nat} {s : ByteArray} {f : List UInt8} {bx bl it k : Nat} {x : Ic} {a a' : Nat} (h : LpI w W p s f bx bl it k x a) (h' : RStep W W' p s a') : LpI w W' p s f bx bl it k x a' := by
  obtain ⟨n1, n2, n3, n4, n5⟩ := h.ne
  exact ⟨blk_grown h.itr h'.gr (by simp; omega), blk_grown h.ls h'.gr (by simp; omega), blk_grown h.xs h'.gr (by simp; omega), h.st.trans h', h.ne⟩
theorem LpI.iter {w W : World} {p : Nat} {s : ByteArray} {f : List UInt8} {bx bl it k : Nat} {x : Ic} {a : Nat} (h : LpI w W p s f bx bl it k x a) (k' : Nat) : LpI w (W.iterAt it ⟨f.toArray⟩ k') p s f bx bl it k' x a := by
  obtain ⟨n1, n2, n3, n4, n5⟩ := h.ne
  refine ⟨Lib.iterAt_heap W _ _ k k' h.itr, iter_cells h.itr h.ls, iter_cells h.itr h.xs, ⟨iter_cells h.itr h.st.rd, gr_iter h.st.gr _ _ _ (by omega)⟩, h.ne⟩
theorem LpI.setx {w W : World} {p : Nat} {s : ByteArray} {f : List UInt8} {bx bl it k : Nat} {x : Ic} {a i : Nat} (h : LpI w W p s f bx bl it k x a) (hi : i < 2) (v : Int) : LpI w (W.setCell ⟨bx, 1 + i, none⟩ (.int .i64 v)) p s f bx bl it k (setOp x i v) a := by
  obtain ⟨n1, n2, n3, n4, n5⟩ := h.ne
  refine ⟨blk_set_ne h.itr (by omega) _ _, blk_set_ne h.ls (by omega) _ _, ?_, h.st.set _ _ _ n5 n4, h.ne⟩
  have := blk_set h.xs (1 + i) (.int .i64 v)
  unfold SX setOp
  rcases (by omega : i = 0 ∨ i = 1) with rfl | rfl <;> exact this

set_option maxRecDepth 100000 in
set_option maxHeartbeats 4000000 in
theorem pinsD_any (p : Nat) (s : ByteArray) (a : Nat) (w : World) (hr : Rdr w p s a) (ha : a ≤ s.size) (hs : s.size ≤ 4611686018427387904) (hF : Forms w) :
    Calls Tryd.prog 47 #[.pointer (some ⟨p, 0, none⟩)] w (InsPost p s a w) := by
  have hp0 := forms_ne hr hF
  have HR := Lib.hid hr
  have HF := Lib.hid hF
  have hlt := hr.lt
  have r1 : w.cell? ⟨p, 1, none⟩ = some (.int .i64 a) := blk_cell hr 1
  have hx := heap_alloc_new w (.cells #[.int .i64 0, .int .i64 0, .int .i64 0] 50)
  have HX := Lib.hid hx
  clear hr hF hx
  go_enter Tryd.func47, Tryd.ntmps47
  go_wp2_with fail
  refine (number_any p s a 1 _ (HR.out.alloc _) ha hs (by omega)).mono ?_
  intro e w1 hpost
  unfold NumPost at hpost
  cases hn : numB s a 1 with
  | none =>
    rw [hn] at hpost
    obtain ⟨b, rfl, hst, her, hb⟩ := hpost
    have hins : insD s a = .inl (endF s) := by unfold insD; rw [hn]
    have HINS := Lib.hid hins
    have hx1 := blk_grown HX.out hst.gr (by simp; omega)
    obtain ⟨x0, x1, x2⟩ := SX.s3 (x := (0, 0, 0)) hx1
    obtain ⟨z0, z1, z2⟩ := SX.z3 (x := (0, 0, 0)) hx1
    have HST := Lib.hid (((RStep.start HR.out).alloc _).trans hst)
    have HER := Lib.hid her
    have hbx : b ≠ w.heap.size := by simp at hb; omega
    clear hn hins hst her hx1 r1 hb
    go_wp2_with fail
    refine bodyPost_ret (v := .tuple #[xval (0, 0, 0), errv b]) (by simp [results, Tryd.results47, go_sem, *]; rfl) rfl ?_
    unfold InsPost
    rw [HINS.out]
    exact ⟨_, b, a, rfl, (HST.out.set _ _ _ hlt (by omega)).set3 _ _ _ _ hlt (by omega), ha, (HER.out.set hbx _ _).set3 hbx _ _ _⟩
  | some op =>
    rw [hn] at hpost
    obtain ⟨rfl, hst⟩ := hpost
    obtain ⟨hop, hle⟩ := numB_lt hn
    have hx1 := blk_grown HX.out hst.gr (by simp; omega)
    have hx2 := blk_set hx1 0 (.int .i64 op)
    have hs1 := hst.gr.size
    rw [World.size_alloc] at hs1
    obtain ⟨w2, hw2⟩ : ∃ w2, w2 = w1.setCell ⟨w.heap.size, 0, none⟩ (.int .i64 op) := ⟨_, rfl⟩
    have hst2 := (((RStep.start HR.out).alloc _).trans hst).set w.heap.size 0 (.int .i64 op) hlt (by omega)
    rw [← hw2] at hst2 hx2
    have hsz2 : w2.heap.size = w1.heap.size := by rw [hw2]; simp [World.setCell]
    obtain ⟨x0, x1, x2⟩ := SX.s3 (x := (0, 0, 0)) hx1
    have z0 := (SX.z3 (x := (0, 0, 0)) hx1).1
    have HX2 : Hid (SX w.heap.size (op, 0, 0) w2) := hx2
    have HST2 := Lib.hid hst2
    have HN := Lib.hid hn
    have HW2 := Lib.hid hw2
    have HF2 := Lib.hid (HF.out.grown hst2.gr hp0)
    clear hst hx1 hx2 hn hw2 hst2 r1
    go_upto_region 5 with fail
    rw [← HW2.out]
    clear x0 x1 x2 z0
    obtain ⟨x0, x1, x2⟩ := HX2.out.s3
    have lt2 : w.heap.size < w2.heap.size := by omega
    have HSZ2 := Lib.hid hsz2
    clear hsz2
    by_cases h26 : 26 ≤ op
    · have hins : insD s a = .inl (18, a) := by unfold insD; rw [HN.out]; simp [h26]
      have HINS := Lib.hid hins
      have hd : decide ((26 : Int) ≤ (op : Int)) = true := by simp; omega
      clear hins h26
      go_wp2_with fail
      have hS : SA w.heap.size (op, 0, 0) w2 := SX.sa HX2.out
      clear x0 x1 x2
      go_region_held3 (fun w' => SA w.heap.size (op, 0, 0) w')
        (repeat (first | exact hS | apply SA.drew | apply SA.alloc | apply SA.set3))
        ((go_at_call 39; refine (fail_any _ _ _ _).mono ?_; rintro e w5 ⟨rfl, rfl⟩))
      go_wp2_with fail
      have hlt2 : p < w.heap.size := hlt
      refine bodyPost_ret (v := .tuple #[xval (op, 0, 0), errv w2.heap.size]) (by simp [results, Tryd.results47, go_sem, *]; rfl) rfl ?_
      unfold InsPost
      rw [HINS.out]
      exact ⟨_, w2.heap.size, a + 1, rfl, ((HST2.out.set3 _ _ _ _ hlt2 (by omega)).alloc _).drew, by omega, ErrAt.new (by simp [World.setCell]) _ _⟩
    · obtain ⟨f, hf⟩ : ∃ f, f = (formB (op : Int)).1 := ⟨_, rfl⟩
      have hins : insD s a = opsD s f 0 (op, 0, 0) (a + 1) := by unfold insD; rw [HN.out, hf]; simp [h26]
      have hT : w2.cell? ⟨0, op, none⟩ = some (.string ⟨f.toArray⟩) := by have := HF2.out op (by omega); rw [hf]; exact this
      have hfl : f.length ≤ 2 ∧ ∀ k, k < f.length → f.getD k 0 = 105 ∨ f.getD k 0 = 110 := by
        rw [hf]
        rcases formB_cases (op : Int) with h | h | h | h | h <;> rw [h] <;> refine ⟨by decide, ?_⟩ <;> intro k hk <;> simp at hk
        · subst hk; simp
        · subst hk; simp
        · rcases (by omega : k = 0 ∨ k = 1) with h | h <;> subst h <;> simp
      obtain ⟨hfl, hfe⟩ := hfl
      have HFE := Lib.hid hfe
      have HINS := Lib.hid hins
      have hd : decide ((26 : Int) ≤ (op : Int)) = false := by simp; omega
      have h01 : (0 : Int) ≤ (op : Int) := by omega
      have h02 : (op : Int) < 26 := by omega
      have h03 : 0 < w2.heap.size := by omega
      clear hf hfe hins h26
      have hlp0 : LpI w ((w2.alloc (.cells #[.pointer (some ⟨w.heap.size, 1, none⟩), .pointer (some ⟨w.heap.size, 2, none⟩)] 137)).alloc (.stringIter ⟨f.toArray⟩ 0)) p s f w.heap.size w2.heap.size (w2.heap.size + 1) 0 (op, 0, 0) (a + 1) := by
        refine ⟨?_, blk_alloc (heap_alloc_new w2 _) _, blk_alloc (blk_alloc HX2.out _) _, (HST2.out.alloc _).alloc _, by omega, by omega, by omega, by omega, by omega⟩
        have h := World.iter_heap (w2.alloc (.cells #[.pointer (some ⟨w.heap.size, 1, none⟩), .pointer (some ⟨w.heap.size, 2, none⟩)] 137)) ⟨f.toArray⟩ 0
        rw [World.size_alloc] at h
        exact h
      have HLP0 := Lib.hid hlp0
      clear hlp0
      go_wp2_with fail
      clear hT x0 x1 x2 hd h01 h02
      go_loopw [] (fun wr => ∃ (k : Nat) (x : Ic) (a' : Nat), k ≤ f.length ∧ a' ≤ s.size ∧ LpI w wr p s f w.heap.size w2.heap.size (w2.heap.size + 1) k x a' ∧ opsD s (f.drop k) k x a' = insD s a) (fun wr => f.length - wr.iterPos (w2.heap.size + 1))
      case atStart => exact ⟨0, _, a + 1, Nat.zero_le _, by omega, HLP0.out, by rw [HINS.out]; rfl⟩
      case round =>
        obtain ⟨k, x, a', hk, ha', hlp, hgo⟩ := hrel
        by_cases hlt' : k < f.length
        · obtain ⟨w3, hw3⟩ : ∃ w3, w3 = wr.iterAt (w2.heap.size + 1) ⟨f.toArray⟩ (k + 1) := ⟨_, rfl⟩
          have hlp3 := hlp.iter (k + 1)
          have hsz3 := Lib.iterAt_size wr (w2.heap.size + 1) ⟨f.toArray⟩ (k + 1)
          rw [← hw3] at hlp3 hsz3
          have hst := opsD_step s f k x a' hlt'
          have hip := iterPos_of hlp.itr
          have hwl : w2.heap.size + 1 < w3.heap.size := lt_of_block hlp3.itr
          have r1 : w3.cell? ⟨p, 1, none⟩ = some (.int .i64 a') := blk_cell hlp3.st.rd 1
          have l1 : p < w3.heap.size := by omega
          have l2 : w.heap.size < w3.heap.size := by omega
          have l3 : w2.heap.size < w3.heap.size := by omega
          rcases HFE.out k hlt' with hc | hc
          · have hnx : ∀ ty, (Instr.next (.pointer (some ⟨w2.heap.size + 1, 0, none⟩)) true ty).run Tryd.prog wr = _ := fun ty => next_at wr _ f k ty 105 hlp.itr hlt' hc (by decide)
            rw [← hw3] at hnx
            rw [hst, if_pos hc] at hgo
            have HGO := Lib.hid hgo
            have HLP := Lib.hid hlp3
            have HIP := Lib.hid hip
            clear hgo hlp hlp3 hip hst hw3 hsz3 hc
            go_wp2_with fail
            refine (number_any p s a' 4 _ HLP.out.st.rd ha' hs (by omega)).mono ?_
            intro e w4 hpost
            unfold NumPost at hpost
            cases hn : numB s a' 4 with
            | none =>
              rw [hn] at hpost
              obtain ⟨b, rfl, hst, her, hb⟩ := hpost
              have hres : insD s a = .inl (endF s) := by have := HGO.out; rw [hn] at this; exact this.symm
              have HRES := Lib.hid hres
              have HL4 := Lib.hid (HLP.out.step hst)
              have HER := Lib.hid her
              obtain ⟨x0, x1, x2⟩ := SX.s3 HL4.out.xs
              obtain ⟨z0, z1, z2⟩ := SX.z3 HL4.out.xs
              have hbx : b ≠ w.heap.size := by omega
              clear hres hst her hn r1 hnx
              go_wp2_with fail
              refine bodyPost_ret (v := .tuple #[xval x, errv b]) (by simp [results, Tryd.results47, go_sem, *]; rfl) rfl ?_
              unfold InsPost
              rw [HRES.out]
              exact ⟨x, b, a', rfl, HL4.out.st.set3 _ _ _ _ hlt (by omega), ha', HER.out.set3 hbx _ _ _⟩
            | some v =>
              rw [hn] at hpost
              obtain ⟨rfl, hst⟩ := hpost
              obtain ⟨hv, hle⟩ := numB_lt hn
              have hgo := HGO.out
              rw [hn] at hgo
              have HL4 := Lib.hid (HLP.out.step hst)
              have hs4 := hst.gr.size
              simp only at hgo
              clear hst hn r1 hnx
              go_upto_region 20 with fail
              generalize hsv : wrap64 (wrap32 (v : Int)) = sv
              have hsv2 : sv = sgn v := by rw [← hsv]; exact conv32 v hv
              clear hsv
              rw [← hsv2] at hgo
              have HGO2 := Lib.hid hgo
              have k1 : (0 : Int) ≤ (k : Int) := by omega
              have k2 : (k : Int) < 2 := by omega
              have lx : w.heap.size < w4.heap.size := by omega
              have ll : w2.heap.size < w4.heap.size := by omega
              clear hgo hsv2
              by_cases hbig : 1000000000 < sv ∨ sv < -1000000000
              · have hres : insD s a = .inl (17, (a' : Int)) := by have := HGO2.out; simp only [if_pos hbig] at this; exact this.symm
                have HRES := Lib.hid hres
                have hS : SA w.heap.size x w4 := SX.sa HL4.out.xs
                clear hres
                have hdd : decide (1000000000 < sv) = true ∨ (decide (1000000000 < sv) = false ∧ decide (sv < -1000000000) = true) := by
                  by_cases h1 : 1000000000 < sv
                  · exact .inl (by simpa using h1)
                  · exact .inr ⟨by simpa using h1, by simp; omega⟩
                clear hbig
                rcases hdd with d1 | ⟨d1, d2⟩
                all_goals
                  go_wp2_with fail
                  go_region_held3 (fun w' => SA w.heap.size x w')
                    (repeat (first | exact hS | apply SA.drew | apply SA.alloc | apply SA.set3))
                    ((go_at_call 39; refine (fail_any _ _ _ _).mono ?_; rintro e w5 ⟨rfl, rfl⟩))
                  go_wp2_with fail
                  refine bodyPost_ret (v := .tuple #[xval x, errv w4.heap.size]) (by simp [results, Tryd.results47, go_sem, *]; rfl) rfl ?_
                  unfold InsPost
                  rw [HRES.out]
                  exact ⟨x, w4.heap.size, a' + 4, rfl, ((HL4.out.st.set3 _ _ _ _ hlt (by omega)).alloc _).drew, by omega, ErrAt.new (by simp [World.setCell]) _ _⟩
              · have hgo := HGO2.out
                simp only [if_neg hbig] at hgo
                have HGO3 := Lib.hid hgo
                have d1 : decide (1000000000 < sv) = false := by simp; omega
                have d2 : decide (sv < -1000000000) = false := by simp; omega
                obtain ⟨l0, z0, vx, x0⟩ := HL4.out.ptr (i := k) (by omega)
                clear hgo hbig
                go_wp2_with fail
                go_roundw
                case rel => exact ⟨k + 1, setOp x k sv, a' + 4, by omega, by omega, HL4.out.setx (by omega) sv, HGO3.out⟩
                case measure =>
                  rw [iterPos_of (HL4.out.setx (i := k) (by omega) sv).itr, HIP.out]
                  omega
          · have hnx : ∀ ty, (Instr.next (.pointer (some ⟨w2.heap.size + 1, 0, none⟩)) true ty).run Tryd.prog wr = _ := fun ty => next_at wr _ f k ty 110 hlp.itr hlt' hc (by decide)
            rw [← hw3] at hnx
            rw [hst, if_neg (by rw [hc]; decide)] at hgo
            have HGO := Lib.hid hgo
            have HLP := Lib.hid hlp3
            have HIP := Lib.hid hip
            clear hgo hlp hlp3 hip hst hw3 hsz3 hc
            go_wp2_with fail
            refine (number_any p s a' 2 _ HLP.out.st.rd ha' hs (by omega)).mono ?_
            intro e w4 hpost
            unfold NumPost at hpost
            cases hn : numB s a' 2 with
            | none =>
              rw [hn] at hpost
              obtain ⟨b, rfl, hst, her, hb⟩ := hpost
              have hres : insD s a = .inl (endF s) := by have := HGO.out; rw [hn] at this; exact this.symm
              have HRES := Lib.hid hres
              have HL4 := Lib.hid (HLP.out.step hst)
              have HER := Lib.hid her
              obtain ⟨x0, x1, x2⟩ := SX.s3 HL4.out.xs
              obtain ⟨z0, z1, z2⟩ := SX.z3 HL4.out.xs
              have hbx : b ≠ w.heap.size := by omega
              clear hres hst her hn r1 hnx
              go_wp2_with fail
              refine bodyPost_ret (v := .tuple #[xval x, errv b]) (by simp [results, Tryd.results47, go_sem, *]; rfl) rfl ?_
              unfold InsPost
              rw [HRES.out]
              exact ⟨x, b, a', rfl, HL4.out.st.set3 _ _ _ _ hlt (by omega), ha', HER.out.set3 hbx _ _ _⟩
            | some v =>
              rw [hn] at hpost
              obtain ⟨rfl, hst⟩ := hpost
              obtain ⟨hv, hle⟩ := numB_lt hn
              have hgo := HGO.out
              rw [hn] at hgo
              have HL4 := Lib.hid (HLP.out.step hst)
              have hs4 := hst.gr.size
              simp only at hgo
              clear hst hn r1 hnx
              have HGO3 := Lib.hid hgo
              have hv2 : v < 65536 := hv
              have d1 : decide (1000000000 < (v : Int)) = false := by simp; omega
              have d2 : decide ((v : Int) < -1000000000) = false := by simp <;> omega
              have k1 : (0 : Int) ≤ (k : Int) := by omega
              have k2 : (k : Int) < 2 := by omega
              have lx : w.heap.size < w4.heap.size := by omega
              have ll : w2.heap.size < w4.heap.size := by omega
              obtain ⟨l0, z0, vx, x0⟩ := HL4.out.ptr (i := k) (by omega)
              clear hgo hv
              go_wp2_with fail
              go_roundw
              case rel => exact ⟨k + 1, setOp x k v, a' + 2, by omega, by omega, HL4.out.setx (by omega) v, HGO3.out⟩
              case measure =>
                rw [iterPos_of (HL4.out.setx (i := k) (by omega) v).itr, HIP.out]
                omega
        · obtain rfl : k = f.length := by omega
          have hnx : ∀ ty, (Instr.next (.pointer (some ⟨w2.heap.size + 1, 0, none⟩)) true ty).run Tryd.prog wr = _ := fun ty => next_end wr _ f f.length ty hlp.itr hlt'
          have hres : insD s a = .inr (x, a') := by rw [← hgo]; simp [opsD]
          have HRES := Lib.hid hres
          obtain ⟨x0, x1, x2⟩ := SX.s3 hlp.xs
          obtain ⟨z0, z1, z2⟩ := SX.z3 hlp.xs
          have HLP := Lib.hid hlp
          clear hlp hgo hres
          go_wp2_with fail
          refine bodyPost_ret (v := .tuple #[xval x, .nilIface]) (by simp [results, Tryd.results47, go_sem, *]; rfl) rfl ?_
          unfold InsPost
          rw [HRES.out]
          exact ⟨rfl, HLP.out.st.set3 _ _ _ _ hlt (by omega), ha'⟩

end Go.Proofs.YtebappmamaafaaaDoor
