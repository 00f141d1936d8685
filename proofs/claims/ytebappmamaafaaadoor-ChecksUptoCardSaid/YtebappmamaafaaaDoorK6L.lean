/-
  Proved: small facts for the walk of the reference's fun. No condition.
-/
import Derived.Test.YtebappmamaafaaaDoorK5L
import Derived.OwnWalk
import Derived.Deep.RegionHeld3
namespace Go.Proofs.YtebappmamaafaaaDoor
open Go.RowKit

theorem keep_alloc {w : World} {a : Addr} {v : Value} (o : Obj) (h : w.cell? a = some v) : (w.alloc o).cell? a = some v := (Below.cell (Below.alloc (Below.refl w.heap.size w) (Nat.le_refl _) o) (World.block_lt_of_cell? w a h)).trans h
theorem keep_set {w : World} {a p : Addr} {v : Value} (x : Value) (hne : p.block ≠ a.block) (h : w.cell? a = some v) : (w.setCell p x).cell? a = some v := (World.cell?_setCell_far w p a x hne).trans h
theorem keep_realloc {w : World} {a : Addr} {v : Value} {o o2 : Obj} (hlt : a.block < w.heap.size) (h : (w.alloc o).cell? a = some v) : (w.alloc o2).cell? a = some v :=
  keep_alloc o2 ((Below.cell (Below.alloc (Below.refl w.heap.size w) (Nat.le_refl _) o) hlt).symm.trans h)
theorem keep_drew {w : World} {a : Addr} {v : Value} (h : w.cell? a = some v) : w.drew.cell? a = some v := h
theorem info94 : (Tryd.prog.info? 94).map (fun i => (i.zero, i.size, i.bytes)) = some (some (.agg #[.bool false, .int .i64 0, .int .i64 0]), 3, 24) := by kernel_rfl
theorem lk_new {w : World} {base g n : Nat} (h : w.ownsRow base 94 3 (.slice (some ⟨g, 0, none⟩) n n) n (madeCells (Value.agg #[.bool false, .int .i64 0, .int .i64 0]).cells (n * 3)).toList) : LK w g n (fun _ => none) := by
  obtain ⟨_, h | ⟨g2, cap, cur, hv, _, hb, _, _, hs, ht⟩⟩ := h
  · cases h.1
  · cases hv
    have hc : (Value.agg #[Value.bool false, Value.int IntKind.i64 0, Value.int IntKind.i64 0]).cells = #[Value.bool false, Value.int IntKind.i64 0, Value.int IntKind.i64 0] := by rfl
    rw [hc] at ht
    have hcur : cur = madeCells #[Value.bool false, Value.int IntKind.i64 0, Value.int IntKind.i64 0] (n * 3) := by
      apply Array.ext'
      rw [← ht, List.take_of_length_le (by rw [Array.length_toList, hs]; exact Nat.le_refl _)]
    refine ⟨cur, hb, hs, fun j hj => ?_⟩
    rw [hcur]
    have m0 : (j * 3) % 3 = 0 := by omega
    have m1 : (j * 3 + 1) % 3 = 1 := by omega
    have m2 : (j * 3 + 2) % 3 = 2 := by omega
    have q0 : j * 3 < n * 3 := by omega
    have q1 : j * 3 + 1 < n * 3 := by omega
    have q2 : j * 3 + 2 < n * 3 := by omega
    refine ⟨?_, ?_, ?_⟩ <;> simp [madeCells, m0, m1, m2, q0, q1, q2]
theorem LK.first {w : World} {lb n : Nat} (h : LK w lb n (fun _ => none)) : LK (w.setCell ⟨lb, 0, none⟩ (.bool true)) lb n K0 := by
  obtain ⟨cs, hb, hs, hj⟩ := h
  refine ⟨_, blk_set hb _ _, by simp [hs], fun j hlt => ?_⟩
  obtain ⟨h0, h1, h2⟩ := hj j hlt
  have l0 : 0 < cs.size := by omega
  by_cases he : j = 0
  · subst he
    refine ⟨?_, ?_, ?_⟩
    · simp only [Nat.zero_mul]; rw [Array.getElem?_setIfInBounds_self_of_lt l0]; rfl
    · rw [Array.getElem?_setIfInBounds_ne (by omega), h1]; rfl
    · rw [Array.getElem?_setIfInBounds_ne (by omega), h2]; rfl
  · refine ⟨?_, ?_, ?_⟩
    · rw [Array.getElem?_setIfInBounds_ne (by omega), h0]; simp [K0, he]
    · rw [Array.getElem?_setIfInBounds_ne (by omega), h1]; simp [K0, he]
    · rw [Array.getElem?_setIfInBounds_ne (by omega), h2]; simp [K0, he]

/-- the world in the reference's second loop's round -/
structure Sr (wo W : World) (lb n bx bs bn bj : Nat) (K : KK) (op oa ob : Int) (is : Bool) (s nx jx : Int × Int) : Prop where
  lk : LK W lb n K
  gr : wo.grownBy W (some lb)
  x : W.heap[bx]? = some (.cells #[.int .i64 op, .int .i64 oa, .int .i64 ob] 50 (0, 0))
  s : W.heap[bs]? = some (.cells #[.bool is, .int .i64 s.1, .int .i64 s.2] 94 (0, 0))
  n : W.heap[bn]? = some (.cells #[.bool true, .int .i64 nx.1, .int .i64 nx.2] 94 (0, 0))
  j : W.heap[bj]? = some (.cells #[.bool true, .int .i64 jx.1, .int .i64 jx.2] 94 (0, 0))
  ord : lb < bx ∧ bx < bs ∧ bs < bn ∧ bn < bj ∧ wo.heap.size ≤ bx
theorem Sr.grown {wo W W' : World} {lb n bx bs bn bj : Nat} {K K' : KK} {op oa ob : Int} {is : Bool} {s nx jx : Int × Int} (h : Sr wo W lb n bx bs bn bj K op oa ob is s nx jx) (hI : LK W' lb n K') (hg : W.grownBy W' (some lb)) : Sr wo W' lb n bx bs bn bj K' op oa ob is s nx jx := by
  obtain ⟨o1, o2, o3, o4, o5⟩ := h.ord
  exact ⟨hI, grown_trans h.gr hg, blk_grown h.x hg (by simp; omega), blk_grown h.s hg (by simp; omega), blk_grown h.n hg (by simp; omega), blk_grown h.j hg (by simp; omega), h.ord⟩
theorem grown_far {w W : World} {row : Option Nat} (h : w.grownBy W row) (b i : Nat) (v : Value) (hb : w.heap.size ≤ b) : w.grownBy (W.setCell ⟨b, i, none⟩ v) row :=
  ⟨h.os, h.tape, h.output, by simpa [World.setCell] using h.size, fun k hk hne => (Below.heap_setCell _ _ _ _ (by simp; omega)).trans (h.block k hk hne)⟩
theorem Sr.make {wo W : World} {lb n bx bs bn bj : Nat} {K : KK} {op oa ob : Int} {is : Bool} {s nx jx : Int × Int} (lk : LK W lb n K) (gr : wo.grownBy W (some lb)) (x : W.heap[bx]? = some (.cells #[.int .i64 op, .int .i64 oa, .int .i64 ob] 50 (0, 0))) (hs : W.heap[bs]? = some (.cells #[.bool is, .int .i64 s.1, .int .i64 s.2] 94 (0, 0))) (hn : W.heap[bn]? = some (.cells #[.bool true, .int .i64 nx.1, .int .i64 nx.2] 94 (0, 0))) (hj : W.heap.size = bj) (ord : lb < bx ∧ bx < bs ∧ bs < bn ∧ bn < bj ∧ wo.heap.size ≤ bx) :
    Sr wo (W.alloc (.cells #[.bool true, .int .i64 jx.1, .int .i64 jx.2] 94)) lb n bx bs bn bj K op oa ob is s nx jx := by
  subst hj
  have hb := World.grownBy_alloc W (.cells #[.bool true, .int .i64 jx.1, .int .i64 jx.2] 94) (some lb)
  exact ⟨lk.carry (Below.heap_alloc _ _ _ lk.lt), grown_trans gr hb, blk_alloc x _, blk_alloc hs _, blk_alloc hn _, heap_alloc_new W _, ord⟩
theorem Sr.setn {wo W : World} {lb n bx bs bn bj : Nat} {K : KK} {op oa ob : Int} {is : Bool} {s nx jx : Int × Int} (h : Sr wo W lb n bx bs bn bj K op oa ob is s nx jx) (v : Int) : Sr wo (W.setCell ⟨bn, 2, none⟩ (.int .i64 v)) lb n bx bs bn bj K op oa ob is s (nx.1, v) jx := by
  obtain ⟨o1, o2, o3, o4, o5⟩ := h.ord
  exact ⟨h.lk.carry (Below.heap_setCell _ _ _ _ (by simp; omega)), grown_far h.gr _ _ _ (by omega), blk_set_ne h.x (by omega) _ _, blk_set_ne h.s (by omega) _ _, blk_set h.n _ _, blk_set_ne h.j (by omega) _ _, h.ord⟩
theorem Sr.setj {wo W : World} {lb n bx bs bn bj : Nat} {K : KK} {op oa ob : Int} {is : Bool} {s nx jx : Int × Int} (h : Sr wo W lb n bx bs bn bj K op oa ob is s nx jx) (v : Int) : Sr wo (W.setCell ⟨bj, 1, none⟩ (.int .i64 v)) lb n bx bs bn bj K op oa ob is s nx (v, jx.2) := by
  obtain ⟨o1, o2, o3, o4, o5⟩ := h.ord
  exact ⟨h.lk.carry (Below.heap_setCell _ _ _ _ (by simp; omega)), grown_far h.gr _ _ _ (by omega), blk_set_ne h.x (by omega) _ _, blk_set_ne h.s (by omega) _ _, blk_set_ne h.n (by omega) _ _, blk_set h.j _ _, h.ord⟩
theorem Sr.cells {wo W : World} {lb n bx bs bn bj : Nat} {K : KK} {op oa ob : Int} {is : Bool} {s nx jx : Int × Int} (h : Sr wo W lb n bx bs bn bj K op oa ob is s nx jx) :
    (W.cell? ⟨bx, 0, none⟩ = some (.int .i64 op) ∧ W.cell? ⟨bx, 1, none⟩ = some (.int .i64 oa) ∧ W.cell? ⟨bx, 2, none⟩ = some (.int .i64 ob)) ∧
    (W.cell? ⟨bs, 0, none⟩ = some (.bool is) ∧ W.cell? ⟨bs, 1, none⟩ = some (.int .i64 s.1) ∧ W.cell? ⟨bs, 2, none⟩ = some (.int .i64 s.2)) ∧
    (W.cell? ⟨bn, 0, none⟩ = some (.bool true) ∧ W.cell? ⟨bn, 1, none⟩ = some (.int .i64 nx.1) ∧ W.cell? ⟨bn, 2, none⟩ = some (.int .i64 nx.2)) ∧ (W.cell? ⟨bj, 0, none⟩ = some (.bool true) ∧ W.cell? ⟨bj, 1, none⟩ = some (.int .i64 jx.1) ∧ W.cell? ⟨bj, 2, none⟩ = some (.int .i64 jx.2)) ∧
    (bx < W.heap.size ∧ bs < W.heap.size ∧ bn < W.heap.size ∧ bj < W.heap.size ∧ lb < W.heap.size) :=
  ⟨⟨blk_cell h.x 0, blk_cell h.x 1, blk_cell h.x 2⟩, ⟨blk_cell h.s 0, blk_cell h.s 1, blk_cell h.s 2⟩, ⟨blk_cell h.n 0, blk_cell h.n 1, blk_cell h.n 2⟩, ⟨blk_cell h.j 0, blk_cell h.j 1, blk_cell h.j 2⟩, lt_of_block h.x, lt_of_block h.s, lt_of_block h.n, lt_of_block h.j, h.lk.lt⟩
theorem Sr.ends {wo W w : World} {lb n bx bs bn bj : Nat} {K : KK} {op oa ob : Int} {is : Bool} {s nx jx : Int × Int} (h : Sr wo W lb n bx bs bn bj K op oa ob is s nx jx) (hb : Below w.heap.size w wo) (hm : w.heap.size ≤ lb) (hw : w.heap.size ≤ wo.heap.size) : Below w.heap.size w W :=
  hb.grown h.gr hw (fun k hk => by cases hk; exact hm)

/-- what the loads of region 16 read -/
abbrev S16 (bx bs : Nat) (op oa ob : Int) (is : Bool) (s : Int × Int) (W : World) : Prop :=
  (W.cell? ⟨bx, 0, none⟩ = some (.int .i64 op) ∧ W.cell? ⟨bx, 1, none⟩ = some (.int .i64 oa) ∧ W.cell? ⟨bx, 2, none⟩ = some (.int .i64 ob)) ∧
  (W.cell? ⟨bs, 0, none⟩ = some (.bool is) ∧ W.cell? ⟨bs, 1, none⟩ = some (.int .i64 s.1) ∧ W.cell? ⟨bs, 2, none⟩ = some (.int .i64 s.2))
theorem S16.drew {bx bs : Nat} {op oa ob : Int} {is : Bool} {s : Int × Int} {W : World} (h : S16 bx bs op oa ob is s W) : S16 bx bs op oa ob is s W.drew := h
theorem S16.alloc {bx bs : Nat} {op oa ob : Int} {is : Bool} {s : Int × Int} {W : World} (h : S16 bx bs op oa ob is s W) (o : Obj) : S16 bx bs op oa ob is s (W.alloc o) :=
  ⟨⟨keep_alloc o h.1.1, keep_alloc o h.1.2.1, keep_alloc o h.1.2.2⟩, ⟨keep_alloc o h.2.1, keep_alloc o h.2.2.1, keep_alloc o h.2.2.2⟩⟩
theorem S16.set {bx bs : Nat} {op oa ob : Int} {is : Bool} {s : Int × Int} {W : World} (h : S16 bx bs op oa ob is s W) (b i : Nat) (v : Value) (h1 : b ≠ bx) (h2 : b ≠ bs) : S16 bx bs op oa ob is s (W.setCell ⟨b, i, none⟩ v) :=
  ⟨⟨keep_set v h1 h.1.1, keep_set v h1 h.1.2.1, keep_set v h1 h.1.2.2⟩, ⟨keep_set v h2 h.2.1, keep_set v h2 h.2.2.1, keep_set v h2 h.2.2.2⟩⟩

set_option maxHeartbeats 4000000 in
theorem puts_exact (op a b : Int) (w : World) (h1 : 0 ≤ op) (h2 : op ≤ 25) : Calls Tryd.prog 37 #[xv op a b] w fun e w' => e = .returned (.int .i64 (ptB op)) ∧ w' = w.alloc (.cells #[.int .i64 op, .int .i64 a, .int .i64 b] 50) := by
  unfold xv
  rcases (by omega : op = 0 ∨ op = 1 ∨ op = 2 ∨ op = 3 ∨ op = 4 ∨ op = 5 ∨ op = 6 ∨ op = 7 ∨ op = 8 ∨ op = 9 ∨ op = 10 ∨ op = 11 ∨ op = 12 ∨ op = 13 ∨ op = 14 ∨ op = 15 ∨ op = 16 ∨ op = 17 ∨ op = 18 ∨ op = 19 ∨ op = 20 ∨ op = 21 ∨ op = 22 ∨ op = 23 ∨ op = 24 ∨ op = 25) with h | h | h | h | h | h | h | h | h | h | h | h | h | h | h | h | h | h | h | h | h | h | h | h | h | h
  all_goals
    subst h
    clear h1 h2
    go_enter Tryd.func37, Tryd.ntmps37
    go_wp2
    go_ret
    exact ⟨rfl, rfl⟩

end Go.Proofs.YtebappmamaafaaaDoor
