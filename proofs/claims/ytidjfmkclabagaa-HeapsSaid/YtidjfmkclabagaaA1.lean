/-
  Proved: the contracts of pick, header, Kind, Tag, Len, Get, Set. Condition: addresses within the heap.
-/
import Derived.Test.YtidjfmkclabagaaC
import Derived.BigRegion
import Derived.Deep.DeepCutAuto
import Derived.Deep.CutBlock
import Derived.Laws.BitsLemmas
import Derived.Laws.Bits64
set_option linter.unusedSimpArgs false
set_option linter.unusedVariables false
namespace Go.Proofs.Ytidjfmkclabagaa
open Go.RowKit

def pickD (c n : Int) : Int := (if c < 0 then -(c + 1) else c).tmod n
theorem pickD_range (c n : Int) (hn : 0 < n) : 0 ≤ pickD c n ∧ pickD c n < n := by
  unfold pickD
  have h : 0 ≤ (if c < 0 then -(c + 1) else c) := by split <;> omega
  rw [Int.tmod_eq_emod_of_nonneg h]
  exact ⟨Int.emod_nonneg _ (by omega), Int.emod_lt_of_pos _ hn⟩
set_option maxRecDepth 100000 in
set_option maxHeartbeats 4000000 in
theorem pick_any (c n : Int) (w : World) (h1 : -9223372036854775808 ≤ c) (h2 : c ≤ 9223372036854775807) (hn : 0 < n) (hn2 : n ≤ 1000000000000000) : Calls Try.prog 8 #[.int .i64 c, .int .i64 n] w fun e w' => e = .returned (.int .i64 (pickD c n)) ∧ w' = w := by
  have hn0 : ¬ n = 0 := by omega
  have hn1 : ¬ n = -1 := by omega
  obtain ⟨r, hr⟩ : ∃ r, r = pickD c n := ⟨_, rfl⟩
  rw [← hr]
  have HR := Lib.hid hr
  clear hr
  go_enter Try.func8, Try.ntmps8
  by_cases hc : c < 0
  · have hd : decide (c < 0) = true := by simpa using hc
    have hv : r = -((c + 1).tmod n) := by rw [HR.out]; unfold pickD; rw [if_pos hc, Int.neg_tmod]
    have HV := Lib.hid hv
    clear hv
    go_wp2_with fail
    go_ret
    exact ⟨by rw [HV.out]; rfl, rfl⟩
  · have hd : decide (c < 0) = false := by simp; omega
    have hv : r = c % n := by rw [HR.out]; unfold pickD; rw [if_neg hc, Int.tmod_eq_emod_of_nonneg (by omega)]
    have HV := Lib.hid hv
    clear hv
    go_wp2_with fail
    go_ret
    exact ⟨by rw [HV.out]; rfl, rfl⟩
/-- a thing's first cell as a number -/
def hdr (k t n : Int) : Int := n * 524288 + t * 8 + k
theorem wrap_small (n : Int) (h0 : 0 ≤ n) (h1 : n < 2 ^ 62) : IntKind.i64.wrap n = n := by
  rw [IntKind.wrap_i64]; omega
theorem and7 (n : Int) (h0 : 0 ≤ n) (h1 : n < 4611686018427387904) : bits .and .i64 n 7 = n % 8 := by
  have h := bits_mask .i64 62 (by decide) wrap_small 3 (by decide) n h0 h1
  simpa using h
theorem and16 (n : Int) (h0 : 0 ≤ n) (h1 : n < 4611686018427387904) : bits .and .i64 n 65535 = n % 65536 := by
  have h := bits_mask .i64 62 (by decide) wrap_small 16 (by decide) n h0 h1
  simpa using h
theorem kind_any (g : Hp) (w : World) (hg : HpAt w g) (a : Nat) (ha : a < g.us.length) (h0 : 0 ≤ g.us[a].n) (h1 : g.us[a].n < 4611686018427387904) :
    Calls Try.prog 17 #[.pointer (some ⟨g.hb, 0, none⟩), .int .i64 a] w fun e w' => e = .returned (.int .i64 (g.us[a].n % 8)) ∧ w' = w := by
  have c0 : w.cell? ⟨g.hb, 0, none⟩ = some (.slice (some ⟨g.ub, 0, none⟩) g.sz g.sz) := blk_cell hg.h 0
  have hx := index_cell g.ub g.sz g.sz a (by rw [← hg.ul]; exact ha)
  have c1 := hg.u.get1 ha
  have hb := Lib.hid (and7 _ h0 h1)
  clear h0 h1
  go_enter Try.func17, Try.ntmps17
  go_wp2_with fail
  go_ret
  exact ⟨by rw [hb.out]; rfl, rfl⟩
theorem tag_any (g : Hp) (w : World) (hg : HpAt w g) (a : Nat) (ha : a < g.us.length) (h0 : 0 ≤ g.us[a].n) (h1 : g.us[a].n < 4611686018427387904) :
    Calls Try.prog 18 #[.pointer (some ⟨g.hb, 0, none⟩), .int .i64 a] w fun e w' => e = .returned (.int .i64 (g.us[a].n / 8 % 65536)) ∧ w' = w := by
  have c0 : w.cell? ⟨g.hb, 0, none⟩ = some (.slice (some ⟨g.ub, 0, none⟩) g.sz g.sz) := blk_cell hg.h 0
  have hx := index_cell g.ub g.sz g.sz a (by rw [← hg.ul]; exact ha)
  have c1 := hg.u.get1 ha
  have hb := Lib.hid (and16 (g.us[a].n / 8) (by omega) (by omega))
  clear h0 h1
  go_enter Try.func18, Try.ntmps18
  go_wp2_with fail
  go_ret
  exact ⟨by rw [← hb.out]; rfl, rfl⟩
theorem len_any (g : Hp) (w : World) (hg : HpAt w g) (a : Nat) (ha : a < g.us.length) :
    Calls Try.prog 19 #[.pointer (some ⟨g.hb, 0, none⟩), .int .i64 a] w fun e w' => e = .returned (.int .i64 (g.us[a].n / 524288)) ∧ w' = w := by
  have c0 : w.cell? ⟨g.hb, 0, none⟩ = some (.slice (some ⟨g.ub, 0, none⟩) g.sz g.sz) := blk_cell hg.h 0
  have hx := index_cell g.ub g.sz g.sz a (by rw [← hg.ul]; exact ha)
  have c1 := hg.u.get1 ha
  go_enter Try.func19, Try.ntmps19
  go_wp2_with fail
  go_ret
  exact ⟨rfl, rfl⟩
theorem index_cell3 (b n cp a i : Nat) (hk : a + 1 + i < n) (w : World) : (Instr.indexAt 32 (.slice (some ⟨b, 0, none⟩) n cp) (.int .i64 ((a : Int) + 1 + (i : Int)))).run Try.prog w = .ok (.pointer (some ⟨b, (a + 1 + i) * 2, none⟩)) w := by
  have h := index_cell b n cp (a + 1 + i) hk w
  rwa [show ((a + 1 + i : Nat) : Int) = (a : Int) + 1 + (i : Int) by omega] at h
theorem Keeps.drew1 {S : Nat → Prop} {w w1 : World} (h : Keeps S w w1) : Keeps S w w1.drew := ⟨h.os, h.tape, h.output, h.size, h.block⟩
theorem HpAt.lh {w : World} {g : Hp} (h : HpAt w g) : g.hb < w.heap.size := lt_of_block h.h
theorem HpAt.lu {w : World} {g : Hp} (h : HpAt w g) : g.ub < w.heap.size := h.u.lt
theorem HpAt.keep {w w' : World} {S : Nat → Prop} {g : Hp} (h : HpAt w g) (hk : Keeps S w w') (h1 : ¬ S g.hb) (h2 : ¬ S g.ub) (h3 : ¬ S g.sb) : HpAt w' g :=
  ⟨hk.blk h.h h1, hk.blk h.u h2, by obtain ⟨ss, hs, hl⟩ := h.s; exact ⟨ss, hk.blk hs h3, hl⟩, h.ul, h.ne, h.nx, h.sz⟩
theorem res_cell {fn : Func} {t : Tmp} (h : fn.results = #[.cell t 49]) {tmps : Array Value} {w : World} {b : Nat} {c : C} (ht : tmps.getD t undef = .pointer (some ⟨b, 0, none⟩)) (hb : w.heap[b]? = some (.cells #[.bool c.p, .int .i64 c.n] 49 (0, 0))) :
    (results fn tmps).run Try.prog w = .ok (cval c) w :=
  results_cell_row (h := h) _ _ b 49 _ (0, 0) _ ht hb Try.underlying49 rfl (by kernel_rfl)
theorem get_any (g : Hp) (w : World) (hg : HpAt w g) (a i : Nat) (ha : a + 1 + i < g.us.length) :
    Calls Try.prog 14 #[.pointer (some ⟨g.hb, 0, none⟩), .int .i64 a, .int .i64 i] w fun e w' => e = .returned (cval g.us[a + 1 + i]) ∧ Below w.heap.size w w' := by
  have c0 : w.cell? ⟨g.hb, 0, none⟩ = some (.slice (some ⟨g.ub, 0, none⟩) g.sz g.sz) := blk_cell hg.h 0
  have hx := index_cell3 g.ub g.sz g.sz a i (by rw [← hg.ul]; exact ha)
  have c1 := hg.u.get0 ha
  have c2 := hg.u.get1 ha
  have lh := hg.lh
  have lu := hg.lu
  have hl : g.us.length ≤ 1000000 := by rw [hg.ul]; exact hg.sz
  have hab : a + 1 + i ≤ 1000000 := by omega
  generalize hc : g.us[a + 1 + i] = c at c1 c2
  clear hc
  go_enter Try.func14, Try.ntmps14
  go_wp2_with fail
  have hb := heap_alloc_new w (.cells #[.bool c.p, .int .i64 c.n] 49)
  refine bodyPost_ret (v := cval c) (res_cell (fn := Try.f14) (t := 6) Try.results14 rfl hb) rfl ?_
  exact ⟨rfl, (Below.refl _ _).alloc (Nat.le_refl _) _⟩
theorem set_any (g : Hp) (w : World) (hg : HpAt w g) (a i : Nat) (c : C) (ha : a + 1 + i < g.us.length) :
    Calls Try.prog 13 #[.pointer (some ⟨g.hb, 0, none⟩), .int .i64 a, .int .i64 i, cval c] w fun e w' => e = .returned (.tuple #[]) ∧ Keeps (· = g.ub) w w' ∧ HpAt w' { g with us := g.us.set (a + 1 + i) c } := by
  have c0 : w.cell? ⟨g.hb, 0, none⟩ = some (.slice (some ⟨g.ub, 0, none⟩) g.sz g.sz) := blk_cell hg.h 0
  have hx := index_cell3 g.ub g.sz g.sz a i (by rw [← hg.ul]; exact ha)
  have hl : g.us.length ≤ 1000000 := by rw [hg.ul]; exact hg.sz
  have hab : a + 1 + i ≤ 1000000 := by omega
  have c1 := hg.u.get0 ha
  have c2 := hg.u.get1 ha
  have f1 := hg.u.free ((a + 1 + i) * 2)
  have f2 := hg.u.free ((a + 1 + i) * 2 + 1)
  have lh := hg.lh
  have lu := hg.lu
  go_enter Try.func13, Try.ntmps13
  go_upto_region 1 with fail
  go_region
  go_end0
  have hk : Keeps (· = g.ub) w (((w.setCell ⟨g.ub, (a + 1 + i) * 2, none⟩ (.bool c.p)).setCell ⟨g.ub, (a + 1 + i) * 2 + 1, none⟩ (.int .i64 c.n)).alloc (.cells #[.bool c.p, .int .i64 c.n] 49)) :=
    (((Keeps.refl (fun x => x = g.ub) w).set (.inl rfl) _ _).set (.inl rfl) _ _).alloc _
  refine ⟨rfl, hk.drew1, ?_⟩
  have hu := (hg.u.set ha c).alloc (.cells #[.bool c.p, .int .i64 c.n] 49)
  obtain ⟨ss, hs, hsl⟩ := hg.s
  exact ⟨hk.blk hg.h hg.ne_u, hu, ⟨ss, hk.blk hs (fun e => hg.ne e.symm), hsl⟩, by simp [hg.ul], hg.ne, hg.nx, hg.sz⟩
theorem header_any (k t n : Nat) (w : World) (hk : k < 8) (ht : t < 65536) (hn : n ≤ 1000000) :
    Calls Try.prog 23 #[.int .i64 k, .int .i64 t, .int .i64 n] w fun e w' => e = .returned (cval ⟨false, hdr k t n⟩) ∧ Below w.heap.size w w' := by
  have j1 : bits .or .i64 ((n : Int) * 524288) ((t : Int) * 8) = (n : Int) * 524288 + (t : Int) * 8 := bits_join .i64 62 (by decide) wrap_small 19 _ _ (by omega) (by omega) (by omega) (by omega) (by omega) (by omega)
  have j2 : bits .or .i64 ((n : Int) * 524288 + (t : Int) * 8) (k : Int) = (n : Int) * 524288 + (t : Int) * 8 + k := bits_join .i64 62 (by decide) wrap_small 3 _ _ (by omega) (by omega) (by omega) (by omega) (by omega) (by omega)
  go_enter Try.func23, Try.ntmps23
  go_wp2_with fail
  have hb := heap_alloc_new w (.cells #[.bool false, .int .i64 ((n : Int) * 524288 + (t : Int) * 8 + k)] 49)
  refine bodyPost_ret (v := cval ⟨false, hdr k t n⟩) (res_cell (fn := Try.f23) (t := 6) (c := ⟨false, hdr k t n⟩) Try.results23 rfl hb) rfl ?_
  exact ⟨rfl, (Below.refl _ _).alloc (Nat.le_refl _) _⟩
end Go.Proofs.Ytidjfmkclabagaa
