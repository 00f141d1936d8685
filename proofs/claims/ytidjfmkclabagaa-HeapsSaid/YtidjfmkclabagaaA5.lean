/-
  Proved: the contract of the program's Make. Condition: a heap whose things lie within it.
-/
import Derived.Test.YtidjfmkclabagaaA4
import Derived.Deep.RegionLaw
import Derived.Deep.AppendLies
set_option linter.unusedSimpArgs false
set_option linter.unusedVariables false
namespace Go.Proofs.Ytidjfmkclabagaa
open Go.RowKit

/-- the cells of a heap behind one more thing -/
def made (us : List C) (nx : Nat) (k t : Int) (n : Nat) : List C := spl (us.set nx ⟨false, hdr k t n⟩) (nx + 1) (List.replicate n zc)
def badArgs (k t n : Int) : Bool := decide (k < 0 ∨ k > 4 ∨ t < 0 ∨ t > 65535 ∨ n < 0 ∨ n > 1000000)
/-- the heap at which Make places a thing: as it was, or behind a Collect -/
structure Placed (g : Hp) (p : List C) (D : Nat → Prop) (pb psz n : Nat) (w wx : World) (G : Hp) : Prop where
  at' : HpAt wx G
  hb : G.hb = g.hb
  sz : G.sz = g.sz
  keep : Keeps (CS g pb) w wx
  way : (g.nx + (n + 1) ≤ g.sz ∧ G = g ∧ Below w.heap.size w wx) ∨ (¬ g.nx + (n + 1) ≤ g.sz ∧ ∃ A od nw, Colld g.us p D g.sz A od nw ∧ G = { g with ub := g.sb, sb := g.ub, us := nw, nx := T g.us A } ∧ (0 < p.length → RowC wx pb psz (p.map (ph g.us A))))
theorem HpAt.drewN {w : World} {g : Hp} (h : HpAt w g) (n : Nat) : HpAt (w.drewN n) g := ⟨h.h, h.u, h.s, h.ul, h.ne, h.nx, h.sz⟩
theorem Placed.drewN {g : Hp} {p : List C} {D : Nat → Prop} {pb psz n : Nat} {w wx : World} {G : Hp} (h : Placed g p D pb psz n w wx G) (q : Nat) : Placed g p D pb psz n w (wx.drewN q) G :=
  ⟨h.at'.drewN q, h.hb, h.sz, h.keep.drew q, by
    rcases h.way with ⟨h1, h2, h3⟩ | ⟨h1, A, od, nw, h2, h3, h4⟩
    · exact .inl ⟨h1, h2, below_drewN h3 q⟩
    · exact .inr ⟨h1, A, od, nw, h2, h3, fun h => (h4 h).of_same rfl⟩⟩
/-- what Make leaves -/
inductive MakeAt (g : Hp) (p : List C) (D : Nat → Prop) (pb psz : Nat) (k t n : Int) (w : World) (e : Ending) (w' : World) : Prop
  | bad : badArgs k t n = true → e = .returned (.tuple #[.int .i64 0, .int .i64 21]) → w' = w → MakeAt g p D pb psz k t n w e w'
  | full (n' : Nat) (wx : World) (G : Hp) : badArgs k t n = false → n = n' → Placed g p D pb psz n' w wx G → ¬ G.nx + (n' + 1) ≤ G.sz → e = .returned (.tuple #[.int .i64 0, .int .i64 22]) → Below wx.heap.size wx w' → MakeAt g p D pb psz k t n w e w'
  | made (n' : Nat) (wx : World) (G : Hp) : badArgs k t n = false → n = n' → Placed g p D pb psz n' w wx G → G.nx + (n' + 1) ≤ G.sz → e = .returned (.tuple #[.int .i64 G.nx, .int .i64 0]) →
      HpAt w' { G with us := Ytidjfmkclabagaa.made G.us G.nx k t n', nx := G.nx + (n' + 1) } → Keeps (fun b => b = G.hb ∨ b = G.ub) wx w' → MakeAt g p D pb psz k t n w e w'
theorem header_exact (k t n : Nat) (w : World) (hk : k < 8) (ht : t < 65536) (hn : n ≤ 1000000) :
    Calls Try.prog 23 #[.int .i64 k, .int .i64 t, .int .i64 n] w fun e w' => e = .returned (cval ⟨false, hdr k t n⟩) ∧ w' = w.alloc (.cells #[.bool false, .int .i64 (hdr k t n)] 49) := by
  have j1 : bits .or .i64 ((n : Int) * 524288) ((t : Int) * 8) = (n : Int) * 524288 + (t : Int) * 8 := bits_join .i64 62 (by decide) wrap_small 19 _ _ (by omega) (by omega) (by omega) (by omega) (by omega) (by omega)
  have j2 : bits .or .i64 ((n : Int) * 524288 + (t : Int) * 8) (k : Int) = (n : Int) * 524288 + (t : Int) * 8 + k := bits_join .i64 62 (by decide) wrap_small 3 _ _ (by omega) (by omega) (by omega) (by omega) (by omega) (by omega)
  go_enter Try.func23, Try.ntmps23
  go_wp2_with fail
  have hb := heap_alloc_new w (.cells #[.bool false, .int .i64 ((n : Int) * 524288 + (t : Int) * 8 + k)] 49)
  refine bodyPost_ret (v := cval ⟨false, hdr k t n⟩) (res_cell (fn := Try.f23) (t := 6) (c := ⟨false, hdr k t n⟩) Try.results23 rfl hb) rfl ?_
  exact ⟨rfl, rfl⟩
theorem zero49 (w : World) : (zeroValue 49).run Try.prog w = .ok (.agg #[.bool false, .int .i64 0]) w := by kernel_rfl
theorem zeroCells_two (n : Nat) : (Builtin.zeroCells #[Value.bool false, Value.int .i64 0] n).toList = cv (List.replicate n zc) := by
  apply List.ext_getElem?
  intro i
  by_cases hi : i < n * 2
  · have hc : (Builtin.zeroCells #[Value.bool false, Value.int .i64 0] n).toList[i]? = some (if i % 2 = 0 then Value.bool false else Value.int .i64 0) := by
      simp [Builtin.zeroCells, hi]
      rcases Nat.mod_two_eq_zero_or_one i with h | h <;> simp [h]
    rw [hc]
    rcases Nat.mod_two_eq_zero_or_one i with h | h
    · have e : i = (i / 2) * 2 := by omega
      rw [if_pos h, e, cv_get0 (l := List.replicate n zc) (by simp; omega)]
      simp [zc]
    · have e : i = (i / 2) * 2 + 1 := by omega
      rw [if_neg (by omega), e, cv_get1 (l := List.replicate n zc) (by simp; omega)]
      simp [zc]
  · rw [List.getElem?_eq_none (by simp [Builtin.zeroCells]; omega), List.getElem?_eq_none (by rw [cv_len]; simp; omega)]
theorem clear_cells (w : World) (ty : TypeId) (b o n c : Nat) (hn : 0 < n) (hc : ∀ j, j < n * 2 → (w.cell? ⟨b, o * 2 + j, none⟩).isSome = true) (hf : ∀ j, j < n * 2 → w.frozen? ⟨b, o * 2 + j, none⟩ = false) :
    (Builtin.clear_ #[32] ty #[.slice (some ⟨b, o * 2, none⟩) n c]).run Try.prog w = .ok (.tuple #[]) (w.setCells b (o * 2) (cv (List.replicate n zc))) := by
  have hz := zeroCells_two n
  have hl : (cv (List.replicate n zc)).length = n * 2 := by rw [cv_len]; simp
  have hst := run_storeCells_cells (P := Try.prog) b (o * 2) (cv (List.replicate n zc)) 0 w (by simpa [hl] using hc) (by simpa [hl] using hf) (cv_one _)
  simp only [Nat.add_zero] at hst
  obtain ⟨m, rfl⟩ : ∃ m, n = m + 1 := ⟨n - 1, by omega⟩
  simp [Builtin.clear_, run_underlying Try.underlying32, zero49, Value.cells, hz, hst]
theorem clear_none (w : World) (ty : TypeId) (a : Option Addr) (c : Nat) : (Builtin.clear_ #[32] ty #[.slice a 0 c]).run Try.prog w = .ok (.tuple #[]) w := by
  cases a <;> simp [Builtin.clear_, run_underlying Try.underlying32]
set_option maxRecDepth 100000 in
set_option maxHeartbeats 8000000 in
theorem make_any (g : Hp) (w : World) (hg : HpAt w g) (D : Nat → Prop) (hT : Things g.us D g.nx) (p : List C) (hr : ∀ c ∈ p, c.p = true → ∃ a : Nat, D a ∧ c.n = a) (wb pb psz cap : Nat) (ao : Option Addr) (va vb vc : Value)
    (hw : w.heap[wb]? = some (.cells #[va, vb, .slice ao p.length cap, vc] 34 (0, 0))) (hao : 0 < p.length → ao = some ⟨pb, 0, none⟩) (hrow : 0 < p.length → RowC w pb psz p) (hpl : p.length ≤ 1000000000000000) (hp1 : pb ≠ g.ub) (hp2 : pb ≠ g.sb) (k t n : Int) :
    Calls Try.prog 20 #[.pointer (some ⟨g.hb, 0, none⟩), .int .i64 k, .int .i64 t, .int .i64 n, .func (.func 10) #[.pointer (some ⟨wb, 0, none⟩)] #[]] w (MakeAt g p D pb psz k t n w) := by
  have HG := Lib.hid hg
  have HT := Lib.hid hT
  have HR := Lib.hid hr
  have HROW := Lib.hid hrow
  have HW := Lib.hid hw
  have HAO := Lib.hid hao
  obtain ⟨b, hb⟩ : ∃ b, b = badArgs k t n := ⟨_, rfl⟩
  have HB := Lib.hid hb
  clear hg hT hr hrow hw hao hb
  go_enter Try.func20, Try.ntmps20
  go_upto_region 1 with fail
  go_cut [34] from 13 to 33 (fun v wx => v = .bool b ∧ wx = w)
  case first =>
    by_cases h1 : k < 0
    · have hb' : b = true := by rw [HB.out]; unfold badArgs; simp [h1]
      subst hb'
      go_wp2_with fail
      go_meet
      exact ⟨rfl, rfl⟩
    · by_cases h2 : 4 < k
      · have hb' : b = true := by rw [HB.out]; unfold badArgs; simp [h2]
        subst hb'
        go_wp2_with fail
        go_meet
        exact ⟨rfl, rfl⟩
      · by_cases h3 : t < 0
        · have hb' : b = true := by rw [HB.out]; unfold badArgs; simp [h3]
          subst hb'
          go_wp2_with fail
          go_meet
          exact ⟨rfl, rfl⟩
        · by_cases h4 : 65535 < t
          · have hb' : b = true := by rw [HB.out]; unfold badArgs; simp [h4]
            subst hb'
            go_wp2_with fail
            go_meet
            exact ⟨rfl, rfl⟩
          · by_cases h5 : n < 0
            · have hb' : b = true := by rw [HB.out]; unfold badArgs; simp [h5]
              subst hb'
              go_wp2_with fail
              go_meet
              exact ⟨rfl, rfl⟩
            · by_cases h6 : 1000000 < n
              · have hb' : b = true := by rw [HB.out]; unfold badArgs; simp [h6]
                subst hb'
                go_wp2_with fail
                go_meet
                exact ⟨rfl, rfl⟩
              · have hb' : b = false := by rw [HB.out]; unfold badArgs; simp; omega
                subst hb'
                go_wp2_with fail
                go_meet
                exact ⟨rfl, rfl⟩
  case rest =>
  obtain ⟨rfl, hwc⟩ := hcut
  subst hwc
  cases b with
  | true =>
    go_wp2_with fail
    go_ret2
    exact .bad HB.out.symm rfl rfl
  | false =>
    have hbad := of_decide_eq_false HB.out.symm
    obtain ⟨n', rfl⟩ : ∃ n' : Nat, n = (n' : Int) := ⟨n.toNat, by omega⟩
    obtain ⟨k', rfl⟩ : ∃ k' : Nat, k = (k' : Int) := ⟨k.toNat, by omega⟩
    obtain ⟨t', rfl⟩ : ∃ t' : Nat, t = (t' : Int) := ⟨t.toNat, by omega⟩
    have hk8 : k' < 8 := by omega
    have ht8 : t' < 65536 := by omega
    have hn8 : n' ≤ 1000000 := by omega
    clear hbad
    obtain ⟨w0, hw0⟩ : ∃ w0 : World, w0 = wc := ⟨_, rfl⟩
    subst hw0
    have lsz := HG.out.sz
    have lnx := HG.out.nx
    go_upto_region 3 with fail
    have c0 : w0.cell? ⟨g.hb, 0, none⟩ = some (.slice (some ⟨g.ub, 0, none⟩) g.sz g.sz) := blk_cell HG.out.h 0
    have c2 : w0.cell? ⟨g.hb, 2, none⟩ = some (.int .i64 g.nx) := blk_cell HG.out.h 2
    go_quiet (fail)
    obtain ⟨W, hW⟩ : ∃ W, W = w0.drewN nq := ⟨_, rfl⟩
    rw [← hW]
    have hWh : W.heap = w0.heap := by rw [hW]; rfl
    have hgW : HpAt W g := by rw [hW]; exact HG.out.drewN nq
    have hwW : W.heap[wb]? = some (.cells #[va, vb, .slice ao p.length cap, vc] 34 (0, 0)) := by rw [hWh]; exact HW.out
    have hrW : 0 < p.length → RowC W pb psz p := fun h => (HROW.out h).of_same (by rw [hWh])
    have hkW : Keeps (CS g pb) w0 W := by rw [hW]; exact (Keeps.refl _ _).drew nq
    have hbW : Below w0.heap.size w0 W := by rw [hW]; exact below_drewN (Below.refl _ _) nq
    have HC := Lib.hid (collect_any g W hgW D HT.out p HR.out wb pb psz cap ao va vb vc hwW HAO.out hrW hpl hp1 hp2)
    have HKW := Lib.hid hkW
    have HGW := Lib.hid hgW
    have HBW := Lib.hid hbW
    clear hW hWh hgW hwW hrW hkW hbW c0 c2
    go_upto_if 47 with fail
    go_cut [] (fun wx => ∃ G, Placed g p D pb psz n' w0 wx G ∧ G.nx + (n' + 1) ≤ G.sz)
    case first =>
      by_cases hroom : g.nx + (n' + 1) ≤ g.sz
      · have hd : decide ((g.sz : Int) - (g.nx : Int) < (n' : Int) + 1) = false := by simp; omega
        have hge : (n' : Int) + 1 ≤ (g.sz : Int) - (g.nx : Int) := by omega
        go_wp2_with fail
        go_meet
        exact ⟨g, ⟨HGW.out, rfl, rfl, HKW.out, .inl ⟨hroom, rfl, HBW.out⟩⟩, hroom⟩
      · have hlt : (g.sz : Int) - (g.nx : Int) < (n' : Int) + 1 := by omega
        have hd : decide ((g.sz : Int) - (g.nx : Int) < (n' : Int) + 1) = true := by simp; omega
        go_wp2_with fail
        refine HC.out.mono ?_
        rintro e w2 ⟨A, od, nw, rfl, hc, hg2, hrow2, hk2⟩
        obtain ⟨tA, htA⟩ : ∃ tA, tA = T g.us A := ⟨_, rfl⟩
        have c0 : w2.cell? ⟨g.hb, 0, none⟩ = some (.slice (some ⟨g.sb, 0, none⟩) g.sz g.sz) := blk_cell hg2.h 0
        have c2 : w2.cell? ⟨g.hb, 2, none⟩ = some (.int .i64 ((T g.us A : Nat) : Int)) := blk_cell hg2.h 2
        have htsz : tA ≤ g.sz := by rw [htA]; exact hg2.nx
        rw [← htA] at c2 ⊢
        have HPL := Lib.hid (show Placed g p D pb psz n' w0 w2 { g with ub := g.sb, sb := g.ub, us := nw, nx := T g.us A } from ⟨hg2, rfl, rfl, HKW.out.trans hk2, .inr ⟨hroom, A, od, nw, hc, rfl, hrow2⟩⟩)
        have HTA := Lib.hid htA
        clear hc hg2 hrow2 hk2 htA
        by_cases hroom2 : tA + (n' + 1) ≤ g.sz
        · have hd2 : decide ((g.sz : Int) - (tA : Int) < (n' : Int) + 1) = false := by simp; omega
          have hge : (n' : Int) + 1 ≤ (g.sz : Int) - (tA : Int) := by omega
          go_upto_region 5 with fail
          go_quiet (fail)
          go_wp2_with fail
          go_meet
          exact ⟨_, HPL.out.drewN nq, by rw [HTA.out] at hroom2; exact hroom2⟩
        · have hd2 : decide ((g.sz : Int) - (tA : Int) < (n' : Int) + 1) = true := by simp; omega
          have hlt2 : (g.sz : Int) - (tA : Int) < (n' : Int) + 1 := by omega
          go_upto_region 5 with fail
          go_quiet (fail)
          go_wp2_with fail
          go_ret2
          exact .full n' w2 _ HB.out.symm rfl HPL.out (by rw [HTA.out] at hroom2; exact hroom2) rfl (below_drewN (Below.refl _ _) nq)
    case rest =>
      obtain ⟨G, hG, hroom⟩ := hcut
      obtain ⟨w4, hw4⟩ : ∃ w4 : World, w4 = wc := ⟨_, rfl⟩
      subst hw4
      have HPL := Lib.hid hG
      have c0 : w4.cell? ⟨g.hb, 0, none⟩ = some (.slice (some ⟨G.ub, 0, none⟩) G.sz G.sz) := by rw [← hG.hb]; exact blk_cell hG.at'.h 0
      have c2 : w4.cell? ⟨g.hb, 2, none⟩ = some (.int .i64 G.nx) := by rw [← hG.hb]; exact blk_cell hG.at'.h 2
      have f2 : w4.frozen? ⟨g.hb, 2, none⟩ = false := by rw [← hG.hb]; exact blk_free hG.at'.h 2
      have hsz := hG.at'.sz
      have lh : g.hb < w4.heap.size := by rw [← hG.hb]; exact hG.at'.lh
      have lu := hG.at'.lu
      have n1 : ¬ (g.hb = G.ub) := by rw [← hG.hb]; exact hG.at'.ne_u
      have n2 : ¬ (G.ub = g.hb) := fun e => n1 e.symm
      have hgnx : G.nx ≤ 1000000 := by omega
      have hnl : G.nx < G.us.length := by rw [hG.at'.ul]; omega
      have hx := index_cell G.ub G.sz G.sz G.nx (by omega)
      have HNL := Lib.hid hnl
      clear hG lsz lnx hnl
      go_upto_region 9 with fail
      obtain ⟨W1, hW1⟩ : ∃ W1, W1 = w4.setCell ⟨g.hb, 2, none⟩ (.int .i64 ((G.nx : Int) + ((n' : Int) + 1))) := ⟨_, rfl⟩
      rw [← hW1]
      have hne : ∀ {b : Nat} {x : Obj}, w4.heap[b]? = some x → b ≠ g.hb → W1.heap[b]? = some x := fun h hb => by rw [hW1]; exact blk_set_ne h hb _ _
      have w1h : W1.heap[g.hb]? = some (.cells #[.slice (some ⟨G.ub, 0, none⟩) G.sz G.sz, .slice (some ⟨G.sb, 0, none⟩) G.sz G.sz, .int .i64 ((G.nx + (n' + 1) : Nat) : Int)] 42 (0, 0)) := by
        rw [hW1]
        have h := HPL.out.at'.h
        rw [HPL.out.hb] at h
        have h2 := blk_set h 2 (.int .i64 ((G.nx : Int) + ((n' : Int) + 1)))
        rw [show ((G.nx + (n' + 1) : Nat) : Int) = (G.nx : Int) + ((n' : Int) + 1) by omega]
        exact h2
      have w1u : Cells W1 G.ub G.us := hne HPL.out.at'.u n2
      have c0 : W1.cell? ⟨g.hb, 0, none⟩ = some (.slice (some ⟨G.ub, 0, none⟩) G.sz G.sz) := blk_cell w1h 0
      have u0 := w1u.get0 HNL.out
      have u1 := w1u.get1 HNL.out
      have v0 := w1u.free (G.nx * 2)
      have v1 := w1u.free (G.nx * 2 + 1)
      have lh : g.hb < W1.heap.size := lt_of_block w1h
      have lu := w1u.lt
      have hkW : Keeps (fun b => b = G.hb ∨ b = G.ub) w4 W1 := by rw [hW1]; exact (Keeps.refl _ _).set (.inl (.inl HPL.out.hb.symm)) _ _
      have hsW : W1.heap.size = w4.heap.size := by rw [hW1]; simp [World.setCell]
      have W1H := Lib.hid w1h
      have W1U := Lib.hid w1u
      have HKW := Lib.hid hkW
      have HNE := Lib.hid (show ∀ (b : Nat) (x : Obj), w4.heap[b]? = some x → b ≠ g.hb → W1.heap[b]? = some x from fun b x h1 h2 => hne h1 h2)
      clear hW1 hne w1h w1u hkW hsW c2 f2
      obtain ⟨X, hX⟩ : ∃ X, X = (((W1.setCell ⟨G.ub, G.nx * 2, none⟩ (.bool false)).setCell ⟨G.ub, G.nx * 2 + 1, none⟩ (.int .i64 (hdr k' t' n'))).alloc (.cells #[.bool false, .int .i64 (hdr k' t' n')] 49)).drew := ⟨_, rfl⟩
      go_cut [] from 77 to 86 (fun wx => wx = X)
      case first =>
        go_region_law (first | (go_simp; go_at_call 23; refine (header_exact k' t' n' _ hk8 ht8 hn8).mono ?_; rintro e w' ⟨rfl, rfl⟩) | (go_at_call 23; refine (header_exact k' t' n' _ hk8 ht8 hn8).mono ?_; rintro e w' ⟨rfl, rfl⟩))
        all_goals
          go_wp2_with fail
          go_meet
          exact hX.symm
      case rest =>
      obtain ⟨w5, hw5⟩ : ∃ w5 : World, w5 = wc := ⟨_, rfl⟩
      subst hw5
      have hkX : Keeps (fun b => b = G.hb ∨ b = G.ub) w4 w5 := by
        rw [hcut, hX]
        have h1 : Keeps (fun b => b = G.hb ∨ b = G.ub) w4 (W1.setCell ⟨G.ub, G.nx * 2, none⟩ (.bool false)) := HKW.out.set (.inl (.inr rfl)) _ _
        exact ((h1.set (.inl (.inr rfl)) _ _).alloc _).drew1
      have x5u : Cells w5 G.ub (G.us.set G.nx ⟨false, hdr k' t' n'⟩) := by
        rw [hcut, hX]
        exact (W1U.out.set HNL.out ⟨false, hdr k' t' n'⟩).alloc _
      have x5h : w5.heap[g.hb]? = some (.cells #[.slice (some ⟨G.ub, 0, none⟩) G.sz G.sz, .slice (some ⟨G.sb, 0, none⟩) G.sz G.sz, .int .i64 ((G.nx + (n' + 1) : Nat) : Int)] 42 (0, 0)) := by
        rw [hcut, hX]
        exact blk_alloc (blk_set_ne (blk_set_ne W1H.out n1 _ _) n1 _ _) _
      have c0 : w5.cell? ⟨g.hb, 0, none⟩ = some (.slice (some ⟨G.ub, 0, none⟩) G.sz G.sz) := blk_cell x5h 0
      have c2 : w5.cell? ⟨g.hb, 2, none⟩ = some (.int .i64 ((G.nx + (n' + 1) : Nat) : Int)) := blk_cell x5h 2
      have lh : g.hb < w5.heap.size := lt_of_block x5h
      have lu := x5u.lt
      have HKX := Lib.hid hkX
      have X5U := Lib.hid x5u
      have X5H := Lib.hid x5h
      clear hcut hX hkX x5u x5h hx u0 u1 v0 v1
      go_upto_region 10 with fail
      obtain ⟨Y, hY⟩ : ∃ Y, Y = w5.drew.setCells G.ub ((G.nx + 1) * 2) (cv (List.replicate n' zc)) := ⟨_, rfl⟩
      go_cut [] from 87 to 97 (fun wx => wx = Y)
      case first =>
        by_cases hn0 : n' = 0
        · subst hn0
          have hcl := fun ty a c => clear_none w5.drew ty a c
          go_region
          go_wp2_with fail
          all_goals
            go_meet
            exact hY.symm
        · have hul := HPL.out.at'.ul
          have hcl0 := fun ty c => clear_cells w5.drew ty G.ub (G.nx + 1) n' c (by omega)
            (fun j hj => by
              have hb : w5.heap[G.ub]? = some (.cells (cvA (G.us.set G.nx ⟨false, hdr k' t' n'⟩)) 49 (0, 0)) := X5U.out
              have h2 : w5.drew.cell? ⟨G.ub, (G.nx + 1) * 2 + j, none⟩ = (cvA (G.us.set G.nx ⟨false, hdr k' t' n'⟩))[(G.nx + 1) * 2 + j]? := blk_cell hb _
              rw [h2, List.getElem?_toArray, List.getElem?_eq_getElem (by rw [cv_len, List.length_set]; omega)]
              rfl)
            (fun j hj => blk_free (w := w5.drew) X5U.out _)
          have e2 : G.nx + (n' + 1) - (G.nx + 1) = n' := by omega
          have hcl : ∀ ty c, (Builtin.clear_ #[32] ty #[.slice (some ⟨G.ub, (G.nx + 1) * 2, none⟩) (n' + 1 - 1) c]).run Try.prog w5.drew = .ok (.tuple #[]) (w5.drew.setCells G.ub ((G.nx + 1) * 2) (cv (List.replicate n' zc))) := fun ty c => by rw [show n' + 1 - 1 = n' by omega]; exact hcl0 ty c
          have hcl2 : ∀ ty c, (Builtin.clear_ #[32] ty #[.slice (some ⟨G.ub, (G.nx + 1) * 2, none⟩) (G.nx + (n' + 1) - (G.nx + 1)) c]).run Try.prog w5.drew = .ok (.tuple #[]) (w5.drew.setCells G.ub ((G.nx + 1) * 2) (cv (List.replicate n' zc))) := fun ty c => by rw [e2]; exact hcl0 ty c
          have e1 : ¬ (G.sz = G.nx + 1) := by omega
          clear e2 hul
          go_region
          go_wp2_with fail
          go_meet
          exact hY.symm
      case rest =>
      have hul := HPL.out.at'.ul
      have y1 : Cells wc G.ub (made G.us G.nx k' t' n') := by
        rw [hcut, hY]
        have h : Cells w5.drew G.ub (G.us.set G.nx ⟨false, hdr k' t' n'⟩) := X5U.out
        exact Cells.sets _ _ h (by simp; omega)
      have hne : ∀ {b : Nat} {x : Obj}, w5.heap[b]? = some x → b ≠ G.ub → wc.heap[b]? = some x := fun h hb => by rw [hcut, hY, heap_setCells_ne _ _ _ _ hb]; exact h
      have y2 := hne X5H.out n1
      have hkY : Keeps (fun b => b = G.hb ∨ b = G.ub) w4 wc := by
        rw [hcut, hY]
        exact Keeps.sets (.inr rfl) _ _ HKX.out.drew1
      have hat : HpAt wc { G with us := made G.us G.nx k' t' n', nx := G.nx + (n' + 1) } := by
        refine ⟨by rw [HPL.out.hb]; exact y2, y1, ?_, by unfold made; rw [spl_len, List.length_set]; exact hul, HPL.out.at'.ne, hroom, HPL.out.at'.sz⟩
        obtain ⟨ss, hs, hsl⟩ := HPL.out.at'.s
        refine ⟨ss, hkY.blk hs ?_, hsl⟩
        rintro (e | e)
        · exact HPL.out.at'.ne_s e.symm
        · exact HPL.out.at'.ne e.symm
      have HAT := Lib.hid hat
      have HKY := Lib.hid hkY
      clear hcut hY y1 hne y2 hat hkY
      go_wp2_with fail
      go_ret2
      exact .made n' w4 G HB.out.symm rfl HPL.out hroom rfl HAT.out HKY.out
end Go.Proofs.Ytidjfmkclabagaa
