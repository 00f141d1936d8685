/-
  Proved: the contract of the law's field. Condition: rows of at most 4·10^12 cells.
-/
import Derived.Test.YtidjfmkclabagaaD5
set_option linter.unusedSimpArgs false
set_option linter.unusedVariables false
namespace Go.Proofs.Ytidjfmkclabagaa
open Go.RowKit

theorem res_cells2 {fn : Func} {t u : Tmp} (h : fn.results = #[.cell t 49, .cell u 49]) {tmps : Array Value} {w : World} {b b' : Nat} {c d : C} (ht : tmps.getD t undef = .pointer (some ⟨b, 0, none⟩)) (hu : tmps.getD u undef = .pointer (some ⟨b', 0, none⟩))
    (hb : w.heap[b]? = some (.cells #[.bool c.p, .int .i64 c.n] 49 (0, 0))) (hb' : w.heap[b']? = some (.cells #[.bool d.p, .int .i64 d.n] 49 (0, 0))) : (results fn tmps).run Try.prog w = .ok (.tuple #[cval c, cval d]) w := by
  have ht' : tmps[t]?.getD undef = .pointer (some ⟨b, 0, none⟩) := by simpa using ht
  have hu' : tmps[u]?.getD undef = .pointer (some ⟨b', 0, none⟩) := by simpa using hu
  have l1 := run_loadVar_row w b 49 49 _ _ _ hb Try.underlying49 rfl (by kernel_rfl)
  have l2 := run_loadVar_row w b' 49 49 _ _ _ hb' Try.underlying49 rfl (by kernel_rfl)
  simp [results, h, ht', hu', asAddr, l1, l2]
inductive FieldPost (ρ : Nat → Nat → Prop) (w : World) (e : Ending) (w' : World) : Prop
  | mk (x y : C) : CSim ρ x y → e = .returned (.tuple #[cval x, cval y]) → Below w.heap.size w w' → FieldPost ρ w e w'
theorem field_fin (W : World) (s : Nat) (hs : W.heap[s]? = some (.cells #[.bool false, .int .i64 0] 49 (0, 0))) (hs' : W.heap[s + 1]? = some (.cells #[.bool false, .int .i64 0] 49 (0, 0))) (x y : C) :
    ((((W.setCell ⟨s, 0, none⟩ (.bool x.p)).setCell ⟨s, 1, none⟩ (.int .i64 x.n)).setCell ⟨s + 1, 0, none⟩ (.bool y.p)).setCell ⟨s + 1, 1, none⟩ (.int .i64 y.n)).heap[s]? = some (.cells #[.bool x.p, .int .i64 x.n] 49 (0, 0)) ∧
    ((((W.setCell ⟨s, 0, none⟩ (.bool x.p)).setCell ⟨s, 1, none⟩ (.int .i64 x.n)).setCell ⟨s + 1, 0, none⟩ (.bool y.p)).setCell ⟨s + 1, 1, none⟩ (.int .i64 y.n)).heap[s + 1]? = some (.cells #[.bool y.p, .int .i64 y.n] 49 (0, 0)) := by
  have h1 := blk_set (blk_set hs 0 (.bool x.p)) 1 (.int .i64 x.n)
  have h2 := blk_set_ne (q := s) (blk_set_ne (q := s) hs' (by omega) 0 (.bool x.p)) (by omega) 1 (.int .i64 x.n)
  exact ⟨blk_set_ne (q := s + 1) (blk_set_ne (q := s + 1) h1 (by omega) _ _) (by omega) _ _, blk_set (blk_set h2 0 (.bool y.p)) 1 (.int .i64 y.n)⟩
set_option maxRecDepth 100000 in
set_option maxHeartbeats 8000000 in
theorem field_any (ρ : Nat → Nat → Prop) (w : World) (wb : Nat) (x1 x2 pv qv : Value) (p q : List C) (c : Int) (hc : I64 c) (hw : w.heap[wb]? = some (.cells #[x1, x2, pv, qv] 34 (0, 0))) (hp : Rw w pv p) (hq : Rw w qv q) (hpq : RSim ρ p q) (hpl : p.length ≤ 4000000000000) :
    Calls Try.prog 12 #[.pointer (some ⟨wb, 0, none⟩), .int .i64 c] w (FieldPost ρ w) := by
  have HW := Lib.hid hw
  have HP := Lib.hid hp
  have HQ := Lib.hid hq
  have HPQ := Lib.hid hpq
  have HC := Lib.hid hc
  obtain ⟨n, hn⟩ : ∃ n, n = p.length := ⟨_, rfl⟩
  rw [← hn] at hpl
  have HN := Lib.hid hn
  obtain ⟨ao, cap, pb, psz, rfl, hrow⟩ := HP.out.row
  obtain ⟨ao2, cap2, qb, qsz, rfl, hrow2⟩ := HQ.out.row
  obtain ⟨W, hW⟩ : ∃ W, W = (w.alloc (.cells #[.bool false, .int .i64 0] 49)).alloc (.cells #[.bool false, .int .i64 0] 49) := ⟨_, rfl⟩
  have hbW : Below w.heap.size w W := by rw [hW]; exact balloc (balloc (Below.refl _ _) _) _
  have hxA : W.heap[w.heap.size]? = some (.cells #[.bool false, .int .i64 0] 49 (0, 0)) := by rw [hW]; exact blk_alloc (heap_alloc_new w _) _
  have hxB : W.heap[w.heap.size + 1]? = some (.cells #[.bool false, .int .i64 0] 49 (0, 0)) := by
    rw [hW]
    have h := heap_alloc_new (w.alloc (.cells #[.bool false, .int .i64 0] 49)) (.cells #[.bool false, .int .i64 0] 49)
    rw [World.size_alloc] at h
    exact h
  have hwW := blk_below HW.out hbW (lt_of_block HW.out)
  have c2 : W.cell? ⟨wb, 2, none⟩ = some (.slice ao n cap) := by rw [hn]; exact blk_cell hwW 2
  have c3 : W.cell? ⟨wb, 3, none⟩ = some (.slice ao2 n cap2) := by rw [hn, hpq.len]; exact blk_cell hwW 3
  have a0 : W.cell? ⟨w.heap.size, 0, none⟩ = some (.bool false) := blk_cell hxA 0
  have a1 : W.cell? ⟨w.heap.size, 1, none⟩ = some (.int .i64 0) := blk_cell hxA 1
  have a2 : W.cell? ⟨w.heap.size + 1, 0, none⟩ = some (.bool false) := blk_cell hxB 0
  have a3 : W.cell? ⟨w.heap.size + 1, 1, none⟩ = some (.int .i64 0) := blk_cell hxB 1
  have f0 := blk_free hxA 0
  have f1 := blk_free hxA 1
  have f2 := blk_free hxB 0
  have f3 := blk_free hxB 1
  have HBW := Lib.hid hbW
  have HXA := Lib.hid hxA
  have HXB := Lib.hid hxB
  clear hrow hrow2 hn hw hpq hbW hxA hxB hwW
  have FIN : ∀ (x y : C), CSim ρ x y → ∀ q, FieldPost ρ w (.returned (.tuple #[cval x, cval y])) ((((W.drewN q).setCell ⟨w.heap.size, 0, none⟩ (.bool x.p)).setCell ⟨w.heap.size, 1, none⟩ (.int .i64 x.n)).setCell ⟨w.heap.size + 1, 0, none⟩ (.bool y.p) |>.setCell ⟨w.heap.size + 1, 1, none⟩ (.int .i64 y.n)) := by
    intro x y h q
    refine .mk x y h rfl ?_
    have hk : Keeps (fun b => w.heap.size ≤ b) w (W.drewN q) := (Keeps.of_below HBW.out).drew q
    exact ((((hk.set (.inr (Nat.le_refl _)) _ _).set (.inr (Nat.le_refl _)) _ _).set (.inr (Nat.le_succ _)) _ _).set (.inr (Nat.le_succ _)) _ _).below (Nat.le_refl _) (fun k h => h)
  have HFIN := Lib.hid FIN
  clear FIN
  by_cases h1 : c < 0
  · clear hp hq hc
    go_enter Try.func12, Try.ntmps12
    go_upto_region 1 with fail
    rw [← hW]
    clear hW
    go_wp2_with fail
    have hf := field_fin W w.heap.size HXA.out HXB.out ⟨false, c⟩ ⟨false, c⟩
    exact bodyPost_ret (res_cells2 (fn := Try.f12) (c := ⟨false, c⟩) (d := ⟨false, c⟩) Try.results12 rfl rfl hf.1 hf.2) rfl (HFIN.out ⟨false, c⟩ ⟨false, c⟩ (csim_num _ HC.out) 0)
  · by_cases h0 : n = 0
    · subst h0
      clear hp hq hc
      go_enter Try.func12, Try.ntmps12
      go_upto_region 1 with fail
      rw [← hW]
      clear hW
      go_wp2_with fail
      have hf := field_fin W w.heap.size HXA.out HXB.out ⟨false, c⟩ ⟨false, c⟩
      exact bodyPost_ret (res_cells2 (fn := Try.f12) (c := ⟨false, c⟩) (d := ⟨false, c⟩) Try.results12 rfl rfl hf.1 hf.2) rfl (HFIN.out ⟨false, c⟩ ⟨false, c⟩ (csim_num _ HC.out) 0)
    · have hn0 : 0 < n := Nat.pos_of_ne_zero h0
      have hne : ¬ (n : Int) = 0 := by omega
      have hr := pickD_range c n (by omega)
      obtain ⟨j, hj⟩ : ∃ j : Nat, pickD c n = (j : Int) := ⟨(pickD c n).toNat, by omega⟩
      rw [hj] at hr
      have hjn : j < n := by omega
      have hpk := pick_any c n W hc.1 hc.2 (by omega) (by omega)
      rw [hj] at hpk
      have HPK := Lib.hid hpk
      have hjp : j < p.length := by rw [← HN.out]; exact hjn
      have hjq : j < q.length := by rw [← HPQ.out.len]; exact hjp
      have hPo : Rw W (.slice ao p.length cap) p := hp.keep (Keeps.of_below (S := fun _ => False) HBW.out) (fun _ _ h => h)
      have hQo : Rw W (.slice ao2 q.length cap2) q := hq.keep (Keeps.of_below (S := fun _ => False) HBW.out) (fun _ _ h => h)
      obtain ⟨g1, e1, hv, _, y0, y1⟩ := own_cell hPo hjp
      obtain ⟨g2, e2, hv2, _, z0, z1⟩ := own_cell hQo hjq
      cases hv
      cases hv2
      have hcs := HPQ.out.c j hjp hjq
      obtain ⟨x, hx⟩ : ∃ x, x = p[j] := ⟨_, rfl⟩
      obtain ⟨y, hy⟩ : ∃ y, y = q[j] := ⟨_, rfl⟩
      rw [← hx] at y0 y1 hcs
      rw [← hy] at z0 z1 hcs
      obtain ⟨p0, p1⟩ := x
      obtain ⟨q0, q1⟩ := y
      simp only at y0 y1 z0 z1
      have hx1 := index_cell g1 n cap j hjn
      have hx2 := index_cell g2 n cap2 j hjn
      have n1 : ¬ (w.heap.size = w.heap.size + 1) := by omega
      have n2 : ¬ (w.heap.size + 1 = w.heap.size) := by omega
      have lg1 : g1 < w.heap.size := Rw.lt hp rfl
      have lg2 : g2 < w.heap.size := Rw.lt hq rfl
      have lwb : wb < w.heap.size := lt_of_block HW.out
      have m1 : ¬ (w.heap.size = g1) := by omega
      have m2 : ¬ (w.heap.size + 1 = g1) := by omega
      have m3 : ¬ (w.heap.size = g2) := by omega
      have m4 : ¬ (w.heap.size + 1 = g2) := by omega
      have m5 : ¬ (w.heap.size = wb) := by omega
      have m6 : ¬ (w.heap.size + 1 = wb) := by omega
      have k1 : ¬ (g1 = w.heap.size) := by omega
      have k2 : ¬ (g1 = w.heap.size + 1) := by omega
      have k3 : ¬ (g2 = w.heap.size) := by omega
      have k4 : ¬ (g2 = w.heap.size + 1) := by omega
      have k5 : ¬ (wb = w.heap.size) := by omega
      have k6 : ¬ (wb = w.heap.size + 1) := by omega
      clear lg1 lg2 lwb
      have HCS := Lib.hid hcs
      clear hp hq hc hr hj hpk hPo hQo hx hy hcs hjp hjq h0
      go_enter Try.func12, Try.ntmps12
      go_upto_region 1 with fail
      rw [← hW]
      clear hW
      go_upto_region 4 with (first | (go_at_call 8; refine HPK.out.mono ?_; rintro e w2 ⟨rfl, rfl⟩))
      go_region
      all_goals
        go_wp2_with fail
        have hf := field_fin w2.drew w.heap.size HXA.out HXB.out ⟨p0, p1⟩ ⟨q0, q1⟩
        exact bodyPost_ret (res_cells2 (fn := Try.f12) (c := ⟨p0, p1⟩) (d := ⟨q0, q1⟩) Try.results12 rfl rfl hf.1 hf.2) rfl (HFIN.out ⟨p0, p1⟩ ⟨q0, q1⟩ HCS.out 1)
end Go.Proofs.Ytidjfmkclabagaa
