/-
  Proved: what the walk of the reference's Decode leans on. Conditions: a text of at most 2^62 bytes.
-/
import Derived.Test.YtebappmamaafaaaDoorD13
import Derived.Test.YtebappmamaafaaaDoorD6
import Derived.Deep.DeepCutAuto
import Derived.Deep.CutBlock
import Derived.Deep.AppendLies
import Derived.Deep.RegionLaw
set_option linter.unusedSimpArgs false
set_option linter.unusedVariables false
namespace Go.Proofs.YtebappmamaafaaaDoor
open Go.RowKit

set_option maxRecDepth 100000 in
set_option maxHeartbeats 2000000 in
theorem rnum_bad (p : Nat) (s : ByteArray) (a n : Nat) (f : Int × Int) (w : World) (h : RRd w p s a f) (h0 : f.1 ≠ 0) :
    Calls Tryd.prog 26 #[.pointer (some ⟨p, 0, none⟩), .int .i64 n] w fun e w' => e = .returned (.int .i64 0) ∧ RS w w' p s a f := by
  have H := Lib.hid h
  have hlt := h.lt
  have r2 : w.cell? ⟨p, 2, none⟩ = some (.int .i64 f.1) := blk_cell h 2
  clear h
  have hb : (f.1 != 0) = true := by simpa using h0
  have H0 := Lib.hid h0
  clear h0
  go_enter Tryd.func26, Tryd.ntmps26
  go_wp2_with fail
  go_quiet (fail)
  have hst2 := (RS.start H.out).drewN nq
  clear r2
  generalize w.drewN nq = wn at hst2 ⊢
  have HST2 := Lib.hid hst2
  have c0 : wn.cell? ⟨p, 0, none⟩ = some (.string s) := blk_cell hst2.rd 0
  clear hst2
  go_wp2_with fail
  refine (rfail_any p s a f 16 s.size _ HST2.out.rd).mono ?_
  rintro e w1 ⟨rfl, hst3⟩
  have HST3 := Lib.hid (HST2.out.trans hst3)
  clear hst3
  go_wp2_with fail
  go_ret
  refine ⟨rfl, ?_⟩
  have h3 := HST3.out
  unfold fst0 at h3
  rw [if_neg H0.out] at h3
  exact h3

theorem headD_le (s : ByteArray) : ∀ (l : List UInt8) (i : Nat) (f : Int × Int), headD s l i = some f → f.1 ≠ 0 := by
  intro l
  induction l with
  | nil => intro i f h; cases h
  | cons k l ih =>
    intro i f h
    unfold headD at h
    split at h
    · cases h; simp
    · split at h
      · exact ih _ _ h
      · cases h; simp
theorem bdrewN' {B : Nat} {w w' : World} (h : Below B w w') (n : Nat) : Below B w (w'.drewN n) := ⟨h.os, h.tape, h.output, h.size, h.block⟩
/-- what stays of Decode's own variables: the two results, the code, the reader -/
structure RW (w W : World) (s : ByteArray) (t f : Value) (a : Nat) (g : Int × Int) : Prop where
  r : W.heap[w.heap.size]? = some (.cells #[.slice none 0 0, .slice none 0 0] 25 (0, 0))
  q : W.heap[w.heap.size + 1]? = some (.cells #[.int .i64 0, .int .i64 0] 34 (0, 0))
  c : SC (w.heap.size + 1 + 1) t f W
  d : RRd W (w.heap.size + 1 + 1 + 1) s a g
  b : Below w.heap.size w W
theorem RW.step {w W W' : World} {s : ByteArray} {t f : Value} {a a' : Nat} {g g' : Int × Int} (h : RW w W s t f a g) (h' : RS W W' (w.heap.size + 1 + 1 + 1) s a' g') : RW w W' s t f a' g' :=
  ⟨blk_grown h.r h'.gr (by simp; omega), blk_grown h.q h'.gr (by simp; omega), blk_grown h.c h'.gr (by simp), h'.rd, h.b.grown h'.gr h.b.size (fun k hk => by cases hk; omega)⟩
theorem RW.drewN {w W : World} {s : ByteArray} {t f : Value} {a : Nat} {g : Int × Int} (h : RW w W s t f a g) (n : Nat) : RW w (W.drewN n) s t f a g := ⟨h.r, h.q, h.c, h.d, bdrewN' h.b n⟩

def HRel (s : ByteArray) (w : World) (i : Value) (wr : World) : Prop :=
  ∃ (k : Nat) (g : Int × Int), i = .int .i64 k ∧ k ≤ 3 ∧ RW w wr s (.slice none 0 0) (.slice none 0 0) 0 g ∧ ((g = (0, 0) ∧ k ≤ s.size ∧ headD s (headB.drop k) k = headD s headB 0) ∨ (g.1 ≠ 0 ∧ headD s headB 0 = some g))

def HEnd (s : ByteArray) (w wx : World) : Prop := ∃ g : Int × Int, RW w wx s (.slice none 0 0) (.slice none 0 0) 0 g ∧ ((g = (0, 0) ∧ 3 ≤ s.size ∧ headD s headB 0 = none) ∨ (g.1 ≠ 0 ∧ headD s headB 0 = some g))
/-- what follows the count of texts -/
def afterN (s : ByteArray) (n : Nat) : (Int × Int) ⊕ Cc :=
  match textsD s n [] 5 with
  | .inl f => .inl f
  | .inr (ts, a) => match numB s a 2 with
    | none => .inl (endF s)
    | some m => match funsD s m [] (a + 2) with
      | .inl f => .inl f
      | .inr (fs, a') => if a' < s.size then .inl (16, (a' : Int)) else .inr (ts, fs)
def N1 (s : ByteArray) (w : World) (o : Value) (wx : World) : Prop :=
  ∃ (n : Nat) (g : Int × Int) (a : Nat), o = .int .i64 n ∧ n < 65536 ∧ RW w wx s (.slice none 0 0) (.slice none 0 0) a g ∧ ((g = (0, 0) ∧ a = 5 ∧ 5 ≤ s.size ∧ codeD s = afterN s n) ∨ (g.1 ≠ 0 ∧ n = 0 ∧ codeD s = .inl g))

/-- what follows the texts -/
def afterT (s : ByteArray) (ts : List ByteArray) (a : Nat) : (Int × Int) ⊕ Cc :=
  match numB s a 2 with
    | none => .inl (endF s)
    | some m => match funsD s m [] (a + 2) with
      | .inl f => .inl f
      | .inr (fs, a') => if a' < s.size then .inl (16, (a' : Int)) else .inr (ts, fs)
theorem afterN_eq (s : ByteArray) (n : Nat) : afterN s n = match textsD s n [] 5 with | .inl f => .inl f | .inr (ts, a) => afterT s ts a := rfl
def TRel (s : ByteArray) (w : World) (n : Nat) (i : Value) (wx : World) : Prop :=
  ∃ (ts : List ByteArray) (ao : Option Addr) (cap a j : Nat) (g : Int × Int), i = .int .i64 j ∧ j ≤ n ∧ RW w wx s (.slice ao ts.length cap) (.slice none 0 0) a g ∧ wx.ownsRow w.heap.size 9 1 (.slice ao ts.length cap) ts.length (ts.map Value.string) ∧
    ((g = (0, 0) ∧ a ≤ s.size ∧ ts.length = j ∧ textsD s (n - j) ts a = textsD s n [] 5 ∧ codeD s = afterN s n) ∨ (g.1 ≠ 0 ∧ codeD s = .inl g))
def TEnd (s : ByteArray) (w wx : World) : Prop :=
  ∃ (ts : List ByteArray) (ao : Option Addr) (cap a : Nat) (g : Int × Int), RW w wx s (.slice ao ts.length cap) (.slice none 0 0) a g ∧ wx.ownsRow w.heap.size 9 1 (.slice ao ts.length cap) ts.length (ts.map Value.string) ∧
    ((g = (0, 0) ∧ a ≤ s.size ∧ codeD s = afterT s ts a) ∨ (g.1 ≠ 0 ∧ codeD s = .inl g))
theorem RS.own {W W' : World} {p : Nat} {s : ByteArray} {a a' : Nat} {g g' : Int × Int} {B e sz n : Nat} {v : Value} {xs : List Value} (h : W.ownsRow B e sz v n xs) (hp : RRd W p s a g) (hst : RS W W' p s a' g') (he : e ≠ 74) : W'.ownsRow B e sz v n xs :=
  own_keep h hst.gr (fun q hq => by cases hq; exact ⟨_, _, _, hp, fun e2 => he e2.symm⟩)

/-- what region 20 reads -/
abbrev T20 (b p : Nat) (v : Value) (a : Int) (W : World) : Prop := W.cell? ⟨b, 0, none⟩ = some v ∧ W.frozen? ⟨b, 0, none⟩ = false ∧ W.cell? ⟨p, 1, none⟩ = some (.int .i64 a)
theorem T20.drew {b p : Nat} {v : Value} {a : Int} {W : World} (h : T20 b p v a W) : T20 b p v a W.drew := h
theorem T20.alloc {b p : Nat} {v : Value} {a : Int} {W : World} (h : T20 b p v a W) (o : Obj) : T20 b p v a (W.alloc o) :=
  ⟨keepA o h.1, keepF o (World.block_lt_of_cell? W _ h.1) h.2.1, keepA o h.2.2⟩
/-- behind a text is appended -/
def TApp (s : ByteArray) (w : World) (ts : List ByteArray) (ct : List UInt8) (a : Nat) (wx : World) : Prop :=
  ∃ (ao : Option Addr) (cap : Nat), RW w wx s (.slice ao (ts.length + 1) cap) (.slice none 0 0) a (0, 0) ∧ wx.ownsRow w.heap.size 9 1 (.slice ao (ts.length + 1) cap) (ts.length + 1) (ts.map Value.string ++ [.string ⟨ct.toArray⟩])

theorem t20_blocks {s : ByteArray} {w W W' : World} {ao : Option Addr} {cap n : Nat} {xs : List Value} {f : Value} {a : Nat} {g : Int × Int} {o : Obj} (hown : W.ownsRow w.heap.size 9 1 (.slice ao n cap) n xs) (h : RW w W s (.slice ao n cap) f a g) (hg : (W.alloc o).drew.grownBy W' (Value.ownBlock (.slice ao n cap))) :
    RW w W' s (.slice ao n cap) f a g := by
  have hr := own_ne h.r hown (by decide)
  have hq := own_ne h.q hown (by decide)
  have hc := own_ne h.c hown (by decide)
  have hd := own_ne h.d hown (by decide)
  refine ⟨blk_grown (w := (W.alloc o).drew) (blk_alloc h.r o) hg hr, blk_grown (w := (W.alloc o).drew) (blk_alloc h.q o) hg hq, blk_grown (w := (W.alloc o).drew) (blk_alloc h.c o) hg hc, blk_grown (w := (W.alloc o).drew) (blk_alloc h.d o) hg hd, ?_⟩
  exact ((h.b.alloc h.b.size o).drew).grown hg (by have := h.b.size; simp; omega) (fun k hk => (hown.lt k hk).1)
theorem RW.setc {s : ByteArray} {w W : World} {t f : Value} {a : Nat} {g : Int × Int} (h : RW w W s t f a g) (t' : Value) : RW w (W.setCell ⟨w.heap.size + 1 + 1, 0, none⟩ t') s t' f a g :=
  ⟨blk_set_ne h.r (by omega) _ _, blk_set_ne h.q (by omega) _ _, blk_set h.c 0 _, blk_set_ne h.d (by omega) _ _, h.b.setCell (p := ⟨w.heap.size + 1 + 1, 0, none⟩) (by simp; omega) _⟩
theorem RW.seta {s : ByteArray} {w W : World} {t f : Value} {a a' : Nat} {g : Int × Int} (h : RW w W s t f a g) : RW w (W.setCell ⟨w.heap.size + 1 + 1 + 1, 1, none⟩ (.int .i64 a')) s t f a' g :=
  ⟨blk_set_ne h.r (by omega) _ _, blk_set_ne h.q (by omega) _ _, blk_set_ne h.c (by omega) _ _, blk_set h.d 1 _, h.b.setCell (p := ⟨w.heap.size + 1 + 1 + 1, 1, none⟩) (by simp; omega) _⟩
theorem t20_grown {s : ByteArray} {w W W' : World} {ao : Option Addr} {cap n : Nat} {xs : List Value} {f : Value} {a : Nat} {g : Int × Int} {o : Obj} (hown : W.ownsRow w.heap.size 9 1 (.slice ao n cap) n xs) (h : RW w W s (.slice ao n cap) f (a + 1) g) (hg : (W.alloc o).drew.grownBy W' (Value.ownBlock (.slice ao n cap))) :
    T20 (w.heap.size + 1 + 1) (w.heap.size + 1 + 1 + 1) (.slice ao n cap) ((a : Int) + 1) W' := by
  have h2 := t20_blocks hown h hg
  refine ⟨blk_cell h2.c 0, blk_free h2.c 0, ?_⟩
  have := blk_cell h2.d 1
  push_cast at this
  exact this


/-- what the reference's number does in either state -/
def numR (s : ByteArray) (a : Nat) (f : Int × Int) (n : Nat) : Nat × Nat × (Int × Int) :=
  if f.1 = 0 then match numB s a n with
    | some v => (v, a + n, f)
    | none => (0, a, endF s)
  else (0, a, f)
theorem rnum_u (p : Nat) (s : ByteArray) (a : Nat) (f : Int × Int) (w : World) (h : RRd w p s a f) (ha : a ≤ s.size) (hs : s.size ≤ 4611686018427387904) :
    Calls Tryd.prog 26 #[.pointer (some ⟨p, 0, none⟩), .int .i64 2] w fun e w' => ∃ (v a' : Nat) (f' : Int × Int), numR s a f 2 = (v, a', f') ∧ e = .returned (.int .i64 v) ∧ RS w w' p s a' f' ∧ a' ≤ s.size ∧ v < 65536 := by
  refine (rnum_any p s a 2 f w h ha hs (by omega)).mono ?_
  intro e w' hpost
  unfold RNumPost at hpost
  unfold numR
  by_cases h0 : f.1 = 0
  · rw [if_pos h0] at hpost
    rw [if_pos h0]
    cases hn : numB s a 2 with
    | none =>
      rw [hn] at hpost
      exact ⟨0, a, endF s, rfl, hpost.1, hpost.2, ha, by omega⟩
    | some v =>
      rw [hn] at hpost
      have h1 := numB_lt hn
      have h2 : v < 65536 := h1.1
      exact ⟨v, a + 2, f, rfl, hpost.1, hpost.2, h1.2, h2⟩
  · rw [if_neg h0] at hpost
    rw [if_neg h0]
    exact ⟨0, a, f, rfl, hpost.1, hpost.2, ha, by omega⟩
def afterH (s : ByteArray) (u v n a : Nat) : Rs Fc := match inssD s n [] a with
  | .inl e => .inl e
  | .inr (l, a') => .inr (((u : Int), (v : Int), l), a')
theorem num3_law (s : ByteArray) (a v1 a1 v2 a2 v3 a3 : Nat) (g1 g2 g3 : Int × Int) (h1 : numR s a (0, 0) 2 = (v1, a1, g1)) (h2 : numR s a1 g1 2 = (v2, a2, g2)) (h3 : numR s a2 g2 2 = (v3, a3, g3)) :
    (g3 = (0, 0) ∧ funD s a = afterH s v1 v2 v3 a3) ∨ (g3.1 ≠ 0 ∧ v3 = 0 ∧ funD s a = .inl g3) := by
  have he : (endF s).1 ≠ 0 := by simp [endF]
  unfold numR at h1 h2 h3
  rw [if_pos rfl] at h1
  unfold funD afterH
  cases hn : numB s a 2 with
  | none =>
    rw [hn] at h1
    simp only [Prod.mk.injEq] at h1
    obtain ⟨rfl, rfl, rfl⟩ := h1
    rw [if_neg he] at h2
    simp only [Prod.mk.injEq] at h2
    obtain ⟨rfl, rfl, rfl⟩ := h2
    rw [if_neg he] at h3
    simp only [Prod.mk.injEq] at h3
    obtain ⟨rfl, rfl, rfl⟩ := h3
    exact .inr ⟨he, rfl, rfl⟩
  | some n1 =>
    rw [hn] at h1
    simp only [Prod.mk.injEq] at h1
    obtain ⟨rfl, rfl, rfl⟩ := h1
    rw [if_pos rfl] at h2
    simp only
    cases hn2 : numB s (a + 2) 2 with
    | none =>
      rw [hn2] at h2
      simp only [Prod.mk.injEq] at h2
      obtain ⟨rfl, rfl, rfl⟩ := h2
      rw [if_neg he] at h3
      simp only [Prod.mk.injEq] at h3
      obtain ⟨rfl, rfl, rfl⟩ := h3
      exact .inr ⟨he, rfl, rfl⟩
    | some n2 =>
      rw [hn2] at h2
      simp only [Prod.mk.injEq] at h2
      obtain ⟨rfl, rfl, rfl⟩ := h2
      rw [if_pos rfl] at h3
      simp only
      rw [show a + 2 + 2 = a + 4 from rfl] at h3
      cases hn3 : numB s (a + 4) 2 with
      | none =>
        rw [hn3] at h3
        simp only [Prod.mk.injEq] at h3
        obtain ⟨rfl, rfl, rfl⟩ := h3
        exact .inr ⟨he, rfl, rfl⟩
      | some n3 =>
        rw [hn3] at h3
        simp only [Prod.mk.injEq] at h3
        obtain ⟨rfl, rfl, rfl⟩ := h3
        exact .inl ⟨rfl, rfl⟩
/-- what follows the count of functions -/
def afterM (s : ByteArray) (ts : List ByteArray) (m a : Nat) : (Int × Int) ⊕ Cc :=
  match funsD s m [] a with
  | .inl f => .inl f
  | .inr (fs, a') => if a' < s.size then .inl (16, (a' : Int)) else .inr (ts, fs)
theorem afterT_eq (s : ByteArray) (ts : List ByteArray) (a : Nat) : afterT s ts a = match numB s a 2 with | none => .inl (endF s) | some m => afterM s ts m (a + 2) := rfl
theorem num_after (s : ByteArray) (ts : List ByteArray) (a v a' : Nat) (g g' : Int × Int) (hn : numR s a g 2 = (v, a', g')) (h : (g = (0, 0) ∧ a ≤ s.size ∧ codeD s = afterT s ts a) ∨ (g.1 ≠ 0 ∧ codeD s = .inl g)) :
    (g' = (0, 0) ∧ codeD s = afterM s ts v a') ∨ (g'.1 ≠ 0 ∧ v = 0 ∧ codeD s = .inl g') := by
  unfold numR at hn
  rcases h with ⟨rfl, _, hc⟩ | ⟨hg, hc⟩
  · rw [if_pos rfl] at hn
    rw [afterT_eq] at hc
    cases h2 : numB s a 2 with
    | none =>
      rw [h2] at hn hc
      simp only [Prod.mk.injEq] at hn
      obtain ⟨rfl, rfl, rfl⟩ := hn
      exact .inr ⟨by simp [endF], rfl, hc⟩
    | some m =>
      rw [h2] at hn hc
      simp only [Prod.mk.injEq] at hn
      obtain ⟨rfl, rfl, rfl⟩ := hn
      exact .inl ⟨rfl, hc⟩
  · rw [if_neg hg] at hn
    simp only [Prod.mk.injEq] at hn
    obtain ⟨rfl, rfl, rfl⟩ := hn
    exact .inr ⟨hg, rfl, hc⟩
/-- behind the count of functions -/
def N2 (s : ByteArray) (w : World) (ts : List ByteArray) (ao : Option Addr) (cap : Nat) (o : Value) (wx : World) : Prop :=
  ∃ (m a : Nat) (g : Int × Int), o = .int .i64 m ∧ m < 65536 ∧ RW w wx s (.slice ao ts.length cap) (.slice none 0 0) a g ∧ wx.ownsRow w.heap.size 9 1 (.slice ao ts.length cap) ts.length (ts.map Value.string) ∧
    ((g = (0, 0) ∧ a ≤ s.size ∧ codeD s = afterM s ts m a) ∨ (g.1 ≠ 0 ∧ m = 0 ∧ codeD s = .inl g))
/-- a list of functions in a world -/
def FsOwn (W : World) (B : Nat) (ao2 : Option Addr) (cap2 : Nat) (fs : List Fn) : Prop :=
  W.ownsRow B 48 3 (.slice ao2 fs.length cap2) fs.length (fs.flatMap fnRow) ∧ ∀ f ∈ fs, W.ownsRow B 50 3 (.slice f.ao f.ins.length f.cap) f.ins.length (f.ins.flatMap insRow)
def FuRel (s : ByteArray) (w : World) (ts : List ByteArray) (ao : Option Addr) (cap m a0 : Nat) (i : Value) (wx : World) : Prop :=
  ∃ (fs : List Fn) (ao2 : Option Addr) (cap2 n2 a j : Nat) (g : Int × Int), i = .int .i64 j ∧ j ≤ m ∧ RW w wx s (.slice ao ts.length cap) (.slice ao2 n2 cap2) a g ∧ wx.ownsRow w.heap.size 9 1 (.slice ao ts.length cap) ts.length (ts.map Value.string) ∧
    ((g = (0, 0) ∧ a ≤ s.size ∧ n2 = fs.length ∧ fs.length = j ∧ FsOwn wx w.heap.size ao2 cap2 fs ∧ funsD s (m - j) (fs.map fct) a = funsD s m [] a0 ∧ codeD s = afterM s ts m a0) ∨ (g.1 ≠ 0 ∧ codeD s = .inl g))
def FuEnd (s : ByteArray) (w : World) (ts : List ByteArray) (ao : Option Addr) (cap : Nat) (wx : World) : Prop :=
  ∃ (fs : List Fn) (ao2 : Option Addr) (cap2 n2 a : Nat) (g : Int × Int), RW w wx s (.slice ao ts.length cap) (.slice ao2 n2 cap2) a g ∧ wx.ownsRow w.heap.size 9 1 (.slice ao ts.length cap) ts.length (ts.map Value.string) ∧
    ((g = (0, 0) ∧ a ≤ s.size ∧ n2 = fs.length ∧ FsOwn wx w.heap.size ao2 cap2 fs ∧ (∀ f ∈ fs, wfF (fct f)) ∧ codeD s = if a < s.size then .inl (16, (a : Int)) else .inr (ts, fs.map fct)) ∨ (g.1 ≠ 0 ∧ codeD s = .inl g))
/-- behind a function's two first numbers -/
def FM0 (s : ByteArray) (wj : World) (p a0 : Nat) (o13 : Value) (wx : World) : Prop :=
  ∃ (bf v1 a1 v2 a2 : Nat) (g1 g2 : Int × Int), o13 = .pointer (some ⟨bf, 0, none⟩) ∧ wj.heap.size ≤ bf ∧ a2 ≤ s.size ∧ S48 bf v1 v2 (.slice none 0 0) wx ∧ RS wj wx p s a2 g2 ∧ numR s a0 (0, 0) 2 = (v1, a1, g1) ∧ numR s a1 g1 2 = (v2, a2, g2)
/-- behind a function's head -/
def FM1 (s : ByteArray) (wj : World) (p a0 bf : Nat) (o14 : Value) (wx : World) : Prop :=
  ∃ (u v n a : Nat) (g : Int × Int), o14 = .int .i64 n ∧ n < 65536 ∧ a ≤ s.size ∧ S48 bf u v (.slice none 0 0) wx ∧ RS wj wx p s a g ∧
    ((g = (0, 0) ∧ funD s a0 = afterH s u v n a) ∨ (g.1 ≠ 0 ∧ n = 0 ∧ funD s a0 = .inl g))
def InRel (s : ByteArray) (wj : World) (p a0 bf u v n a1 : Nat) (i : Value) (wx : World) : Prop :=
  ∃ (l : List Ic) (ao : Option Addr) (cap a : Nat) (g : Int × Int), i = .int .i64 l.length ∧ l.length ≤ n ∧ a ≤ s.size ∧ S48 bf u v (.slice ao l.length cap) wx ∧ wx.ownsRow wj.heap.size 50 3 (.slice ao l.length cap) l.length (l.flatMap insRow) ∧ RS wj wx p s a g ∧
    ((g = (0, 0) ∧ inssD s (n - l.length) l a = inssD s n [] a1 ∧ funD s a0 = afterH s u v n a1) ∨ (g.1 ≠ 0 ∧ funD s a0 = .inl g))
/-- behind a function's instructions -/
def FM2 (s : ByteArray) (wj : World) (p a0 bf u v : Nat) (wx : World) : Prop :=
  ∃ (l : List Ic) (ao : Option Addr) (cap a : Nat) (g : Int × Int), l.length < 65536 ∧ a ≤ s.size ∧ S48 bf u v (.slice ao l.length cap) wx ∧ wx.ownsRow wj.heap.size 50 3 (.slice ao l.length cap) l.length (l.flatMap insRow) ∧ RS wj wx p s a g ∧
    ((g = (0, 0) ∧ funD s a0 = .inr (((u : Int), (v : Int), l), a)) ∨ (g.1 ≠ 0 ∧ funD s a0 = .inl g))
theorem opsD_f (s : ByteArray) (l : List UInt8) : ∀ (i : Nat) (x : Ic) (a : Nat) (f : Int × Int), opsD s l i x a = .inl f → f.1 ≠ 0 := by
  induction l with
  | nil => intro i x a f h; cases h
  | cons k l ih =>
    intro i x a f h
    unfold opsD at h
    repeat' (first | exact ih _ _ _ _ h | (cases h; simp [endF]; done) | split at h)
theorem insD_f {s : ByteArray} {a : Nat} {f : Int × Int} (h : insD s a = .inl f) : f.1 ≠ 0 := by
  unfold insD at h
  split at h
  · cases h; simp [endF]
  · split at h
    · cases h; simp
    · exact opsD_f _ _ _ _ _ _ h
theorem RW.app {s : ByteArray} {w W W' : World} {t f : Value} {a : Nat} {g : Int × Int} {o : Obj} {e sz n : Nat} {v : Value} {xs : List Value} (h : RW w W s t f a g) (hown : W.ownsRow w.heap.size e sz v n xs) (h1 : e ≠ 25) (h2 : e ≠ 34) (h3 : e ≠ 74) (hg : (W.alloc o).grownBy W' v.ownBlock) :
    RW w W' s t f a g := by
  have hr := own_ne h.r hown (fun e => h1 e.symm)
  have hq := own_ne h.q hown (fun e => h2 e.symm)
  have hc := own_ne h.c hown (fun e => h1 e.symm)
  have hd := own_ne h.d hown (fun e => h3 e.symm)
  refine ⟨blk_grown (blk_alloc h.r o) hg hr, blk_grown (blk_alloc h.q o) hg hq, blk_grown (blk_alloc h.c o) hg hc, blk_grown (blk_alloc h.d o) hg hd, ?_⟩
  exact (h.b.alloc h.b.size o).grown hg (by have := h.b.size; simp; omega) (fun k hk => (hown.lt k hk).1)
theorem RW.setf {s : ByteArray} {w W : World} {t f : Value} {a : Nat} {g : Int × Int} (h : RW w W s t f a g) (f' : Value) : RW w (W.setCell ⟨w.heap.size + 1 + 1, 1, none⟩ f') s t f' a g :=
  ⟨blk_set_ne h.r (by omega) _ _, blk_set_ne h.q (by omega) _ _, blk_set h.c 1 _, blk_set_ne h.d (by omega) _ _, h.b.setCell (p := ⟨w.heap.size + 1 + 1, 1, none⟩) (by simp; omega) _⟩
/-- ahead of the last test -/
def FnEnd (s : ByteArray) (w wx : World) : Prop :=
  ∃ (t f : Value) (a : Nat) (g : Int × Int), RW w wx s t f a g ∧ ((g = (0, 0) ∧ ∃ c : Cd, t = .slice c.ta c.texts.length c.tc ∧ f = .slice c.fa c.funs.length c.fc ∧ CodeOwn wx w.heap.size c ∧ codeD s = .inr c.ct) ∨ (g.1 ≠ 0 ∧ codeD s = .inl g))
/-- what region 42 reads -/
abbrev S42 (p : Nat) (g : Int × Int) (W : World) : Prop := W.cell? ⟨p, 2, none⟩ = some (.int .i64 g.1) ∧ W.cell? ⟨p, 3, none⟩ = some (.int .i64 g.2)
theorem S42.drew {p : Nat} {g : Int × Int} {W : World} (h : S42 p g W) : S42 p g W.drew := h
theorem S42.set {p : Nat} {g : Int × Int} {W : World} (h : S42 p g W) (q i : Nat) (u : Value) (h1 : q ≠ p) : S42 p g (W.setCell ⟨q, i, none⟩ u) :=
  ⟨(World.cell?_setCell_far W _ _ u h1).trans h.1, (World.cell?_setCell_far W _ _ u h1).trans h.2⟩
theorem fsOwn_keep {W W' : World} {B : Nat} {p : Nat} {s : ByteArray} {a a' : Nat} {g g' : Int × Int} {ao : Option Addr} {cap : Nat} {fs : List Fn} (h : FsOwn W B ao cap fs) (hp : RRd W p s a g) (hst : RS W W' p s a' g') : FsOwn W' B ao cap fs :=
  ⟨RS.own h.1 hp hst (by decide), fun f hf => RS.own (h.2 f hf) hp hst (by decide)⟩

end Go.Proofs.YtebappmamaafaaaDoor
