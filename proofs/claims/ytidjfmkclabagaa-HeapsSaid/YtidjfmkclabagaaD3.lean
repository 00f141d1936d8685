/-
  Proved: the contract of the law's alike. Condition: both heaps say the same under a pairing that is one to one.
-/
import Derived.Test.YtidjfmkclabagaaD2
import Derived.StillTailTactics
import Derived.Deep.RegionHeld3
set_option linter.unusedSimpArgs false
set_option linter.unusedVariables false
namespace Go.Proofs.Ytidjfmkclabagaa
open Go.RowKit

/-- a thing at a of the program's says what x of the document's says -/
structure TSim (ρ : Nat → Nat → Prop) (us : List C) (nx a : Nat) (x : Th) : Prop where
  fit : a + 1 + x.l.length ≤ nx
  hd : gt us a = ⟨false, hdr x.k x.t x.l.length⟩
  k : 0 ≤ x.k ∧ x.k < 8
  t : 0 ≤ x.t ∧ x.t < 65536
  f : ∀ i (h : i < x.l.length), CSim ρ (gt us (a + 1 + i)) x.l[i]
/-- both heaps say the same -/
structure Sim (ρ : Nat → Nat → Prop) (us : List C) (nx : Nat) (L : LMap) : Prop where
  one : One ρ
  th : ∀ a b, ρ a b → ∃ x, L b = some x ∧ TSim ρ us nx a x
structure RSim (ρ : Nat → Nat → Prop) (p q : List C) : Prop where
  len : p.length = q.length
  c : ∀ i (h : i < p.length) (h' : i < q.length), CSim ρ p[i] q[i]
theorem td_len {ρ : Nat → Nat → Prop} (h : One ρ) {td : List Pr} (ht : ∀ x ∈ td, ρ x.1 x.2) (hn : td.Nodup) : td.length ≤ 1000000 := by
  have h1 : (td.map (·.1)).Nodup := by
    rw [List.nodup_iff_pairwise_ne] at hn ⊢
    rw [List.pairwise_map]
    refine List.Pairwise.imp_of_mem (fun {x y} hx hy hne e => ?_) hn
    have h2 := h.inj1 x.1 x.2 y.2 (ht x hx) (by have := ht y hy; rw [← e] at this; exact this)
    exact hne (Prod.ext e h2)
  have := nodup_lt 1000000 _ h1 (fun a ha => by
    obtain ⟨x, hx, rfl⟩ := List.mem_map.1 ha
    exact (h.lt _ _ (ht x hx)).1)
  simpa using this
/-- the rounds of alike -/
structure ARel (ρ : Nat → Nat → Prop) (w wr : World) (td : List Pr) (bt bb bd mt mk : Nat) : Prop where
  st : PairSt wr w.heap.size td bt bb bd mt mk
  ρ : ∀ x ∈ td, ρ x.1 x.2
  nd : td.Nodup
  bw : Below w.heap.size w wr
theorem ARel.next {ρ : Nat → Nat → Prop} {w wr w' : World} {td : List Pr} {bt bb bd mt mk : Nat} {c : C} {e : Ending} (h : ARel ρ w wr td bt bb bd mt mk) (hp : PairPost ρ w.heap.size td c bt bb bd mt mk wr e w') :
    e = .returned (.bool true) ∧ ∃ new, ARel ρ w w' (td ++ new) bt bb bd mt mk ∧ (∀ (b : Nat) (c : Array Value) (f : Nat × Nat), wr.heap[b]? = some (.cells c 51 f) → w'.heap[b]? = some (.cells c 51 f)) := by
  obtain ⟨new, h1, h2, h3, h4, h5, h6⟩ := hp
  refine ⟨h1, new, ⟨h2, fun x hx => ?_, h4, h.bw.trans h5⟩, h6⟩
  rcases List.mem_append.1 hx with hx | hx
  · exact h.ρ x hx
  · exact h3 x hx
theorem ARel.below {ρ : Nat → Nat → Prop} {w wr w' : World} {td : List Pr} {bt bb bd mt mk : Nat} (h : ARel ρ w wr td bt bb bd mt mk) (hb : Below wr.heap.size wr w') : ARel ρ w w' td bt bb bd mt mk :=
  ⟨h.st.keep hb, h.ρ, h.nd, h.bw.trans (hb.mono h.bw.size)⟩
theorem arel_start (ρ : Nat → Nat → Prop) (w : World) : ARel ρ w (((((w.alloc (.map #[] 0)).alloc (.cells #[.map (some w.heap.size)] 57)).alloc (.map #[] 0)).alloc (.cells #[.map (some (w.heap.size + 1 + 1))] 57)).alloc (.cells #[.slice none 0 0] 58)) []
    (w.heap.size + 1) (w.heap.size + 1 + 1 + 1) (w.heap.size + 1 + 1 + 1 + 1) w.heap.size (w.heap.size + 1 + 1) := by
  have n1 := heap_alloc_new (w.alloc (.map #[] 0)) (.cells #[.map (some w.heap.size)] 57)
  rw [World.size_alloc] at n1
  have m2 := MapF.made ((w.alloc (.map #[] 0)).alloc (.cells #[.map (some w.heap.size)] 57))
  rw [World.size_alloc, World.size_alloc] at m2
  have n3 := heap_alloc_new (((w.alloc (.map #[] 0)).alloc (.cells #[.map (some w.heap.size)] 57)).alloc (.map #[] 0)) (.cells #[.map (some (w.heap.size + 1 + 1))] 57)
  rw [World.size_alloc, World.size_alloc, World.size_alloc] at n3
  have n4 := heap_alloc_new ((((w.alloc (.map #[] 0)).alloc (.cells #[.map (some w.heap.size)] 57)).alloc (.map #[] 0)).alloc (.cells #[.map (some (w.heap.size + 1 + 1))] 57)) (.cells #[.slice none 0 0] 58)
  rw [World.size_alloc, World.size_alloc, World.size_alloc, World.size_alloc] at n4
  have m0 := MapF.made w
  refine ⟨⟨blk_alloc (blk_alloc (blk_alloc n1 _) _) _, blk_alloc n3 _, ⟨_, n4, World.ownsRow_nil _ _ _ _⟩, ?_, ?_, by omega, by omega, by omega, by omega, by omega, by omega, by omega⟩, fun x hx => by simp at hx, List.nodup_nil, balloc (balloc (balloc (balloc (balloc (Below.refl _ _) _) _) _) _) _⟩
  · refine (m0.of_same ?_).congr (fun k _ => rfl)
    rw [Below.heap_alloc _ _ _ (by simp <;> omega), Below.heap_alloc _ _ _ (by simp <;> omega), Below.heap_alloc _ _ _ (by simp <;> omega), Below.heap_alloc _ _ _ (by simp)]
  · refine (m2.of_same ?_).congr (fun k _ => rfl)
    rw [Below.heap_alloc _ _ _ (by simp <;> omega), Below.heap_alloc _ _ _ (by simp)]
def ARel1 (ρ : Nat → Nat → Prop) (w : World) (n bt bb bd mt mk : Nat) (i _t : Value) (wr : World) : Prop := ∃ td j, i = .int .i64 (j : Nat) ∧ j ≤ n ∧ ARel ρ w wr td bt bb bd mt mk
/-- a pair of an owned row -/
theorem own_pair {w : World} {B : Nat} {v : Value} {l : List Pr} (h : w.ownsRow B 60 2 v l.length (pv2 l)) {i : Nat} (hi : i < l.length) : ∃ g cap, v = .slice (some ⟨g, 0, none⟩) l.length cap ∧ B ≤ g ∧ w.cell? ⟨g, i * 2, none⟩ = some (.int .i64 l[i].1) ∧ w.cell? ⟨g, i * 2 + 1, none⟩ = some (.int .i64 l[i].2) := by
  rcases h.2 with ⟨_, h0⟩ | ⟨g, cap, cur, rfl, hB, hg, hc, hm, hs, ht⟩
  · omega
  · have h4 := pv2_get0 hi
    have h5 := pv2_get1 hi
    rw [← ht, List.getElem?_take, if_pos (by omega), Array.getElem?_toList] at h4 h5
    exact ⟨g, cap, rfl, hB, by rw [blk_cell hg]; exact h4, by rw [blk_cell hg]; exact h5⟩
theorem size60 (w : World) : (sizeOf 60).run Try.prog w = .ok 2 w := by kernel_rfl
theorem index_pair (b n cp k : Nat) (hk : k < n) (w : World) : (Instr.indexAt 58 (.slice (some ⟨b, 0, none⟩) n cp) (.int .i64 k)).run Try.prog w = .ok (.pointer (some ⟨b, k * 2, none⟩)) w := by
  have h := index_at Try.underlying58 size60 (ao := some ⟨b, 0, none⟩) rfl n cp k hk w
  rwa [Nat.zero_add] at h
def ARel3 (ρ : Nat → Nat → Prop) (w : World) (k xl bt bb bd mt mk bx : Nat) (x : Th) (i _a : Value) (wr : World) : Prop := ∃ td j, i = .int .i64 (j : Nat) ∧ j ≤ xl ∧ ARel ρ w wr td bt bb bd mt mk ∧ k < td.length ∧ wr.heap[bx]? = some (.cells (trow x) 51 (0, 0))
def ARel2 (ρ : Nat → Nat → Prop) (w : World) (bt bb bd mt mk : Nat) (i _a _b _c _d : Value) (wr : World) : Prop := ∃ td k, i = .int .i64 (k : Nat) ∧ k ≤ td.length ∧ ARel ρ w wr td bt bb bd mt mk
set_option maxRecDepth 100000 in
set_option maxHeartbeats 8000000 in
theorem alike_any (ρ : Nat → Nat → Prop) (g : Hp) (r : Rf) (w : World) (hg : HpAt w g) (hr : RfAt w r) (hs : Sim ρ g.us g.nx r.L) (wb : Nat) (pv qv : Value) (p q : List C)
    (hw : w.heap[wb]? = some (.cells #[.pointer (some ⟨g.hb, 0, none⟩), .pointer (some ⟨r.rb, 0, none⟩), pv, qv] 34 (0, 0))) (hp : Rw w pv p) (hq : Rw w qv q) (hpq : RSim ρ p q) (hpl : p.length ≤ 4000000000000) :
    Calls Try.prog 6 #[.pointer (some ⟨wb, 0, none⟩)] w fun e w' => e = .returned (.bool true) ∧ Below w.heap.size w w' := by
  have HG := Lib.hid hg
  have HR := Lib.hid hr
  have HS := Lib.hid hs
  have HW := Lib.hid hw
  have HP := Lib.hid hp
  have HQ := Lib.hid hq
  have HPQ := Lib.hid hpq
  obtain ⟨n, hn⟩ : ∃ n, n = p.length := ⟨_, rfl⟩
  rw [← hn] at hpl
  have HN := Lib.hid hn
  clear hg hr hs hw hp hq hpq hn
  have hmm := @run_makeMap Try.prog
  go_enter Try.func6, Try.ntmps6
  go_upto_region 5 with fail
  have h0 := arel_start ρ w
  obtain ⟨U, hU⟩ : ∃ U, U = (((((w.alloc (.map #[] 0)).alloc (.cells #[.map (some w.heap.size)] 57)).alloc (.map #[] 0)).alloc (.cells #[.map (some (w.heap.size + 1 + 1))] 57)).alloc (.cells #[.slice none 0 0] 58)) := ⟨_, rfl⟩
  rw [← hU] at h0 ⊢
  clear hU hmm
  obtain ⟨bd, hbd⟩ : ∃ x, x = w.heap.size + 1 + 1 + 1 + 1 := ⟨_, rfl⟩
  obtain ⟨bb, hbb⟩ : ∃ x, x = w.heap.size + 1 + 1 + 1 := ⟨_, rfl⟩
  obtain ⟨mk, hmk⟩ : ∃ x, x = w.heap.size + 1 + 1 := ⟨_, rfl⟩
  obtain ⟨bt, hbt⟩ : ∃ x, x = w.heap.size + 1 := ⟨_, rfl⟩
  obtain ⟨mt, hmt⟩ : ∃ x, x = w.heap.size := ⟨_, rfl⟩
  rw [← hbd, ← hbb, ← hmk, ← hbt] at h0
  rw [← hbd, ← hbb, ← hmk, ← hbt, ← hmt]
  have h1 : ARel ρ w U [] bt bb bd mt mk := by rw [hmt]; exact h0
  have H1 := Lib.hid h1
  clear hbd hbb hmk hbt hmt h0 h1
  go_wp2_with fail
  go_loopw [7, 8] (ARel1 ρ w n bt bb bd mt mk) (fun i _ _ => n - (intOf i).toNat)
  case atStart => exact ⟨[], 0, rfl, Nat.zero_le _, H1.out⟩
  case round =>
    obtain ⟨td, j, rfl, hj, hrel⟩ := hrel
    obtain ⟨wo, rfl⟩ : ∃ wo : World, wo = wr := ⟨_, rfl⟩
    have HREL := Lib.hid hrel
    have c2 : wo.cell? ⟨wb, 2, none⟩ = some pv := blk_cell (blk_below HW.out hrel.bw (lt_of_block HW.out)) 2
    have c3 : wo.cell? ⟨wb, 3, none⟩ = some qv := blk_cell (blk_below HW.out hrel.bw (lt_of_block HW.out)) 3
    obtain ⟨ao, cap, pb, psz, hv, hrow⟩ := HP.out.row
    obtain ⟨ao2, cap2, qb, qsz, hv2, hrow2⟩ := HQ.out.row
    have hql : q.length = n := by rw [HN.out]; exact HPQ.out.len.symm
    rw [← HN.out] at hv
    rw [hql] at hv2
    subst hv hv2
    have hPo : Rw wo (.slice ao n cap) p := HP.out.keep (Keeps.of_below (S := fun _ => False) hrel.bw) (fun _ _ h => h)
    have hQo : Rw wo (.slice ao2 n cap2) q := HQ.out.keep (Keeps.of_below (S := fun _ => False) hrel.bw) (fun _ _ h => h)
    clear hrel
    by_cases hjn : j < n
    · have hjp : j < p.length := by rw [← HN.out]; exact hjn
      have hjq : j < q.length := by rw [hql]; exact hjn
      obtain ⟨g1, e1, hv, _, y0, y1⟩ := own_cell hPo hjp
      obtain ⟨g2, e2, hv2, _, z0, z1⟩ := own_cell hQo hjq
      rw [← HN.out] at hv
      rw [hql] at hv2
      cases hv
      cases hv2
      have hcs := HPQ.out.c j hjp hjq
      obtain ⟨c, hc⟩ : ∃ c, c = p[j] := ⟨_, rfl⟩
      obtain ⟨d, hdd⟩ : ∃ d, d = q[j] := ⟨_, rfl⟩
      rw [← hc] at y0 y1 hcs
      rw [← hdd] at z0 z1 hcs
      obtain ⟨c0, c1⟩ := c
      obtain ⟨d0, d1⟩ := d
      simp only at y0 y1 z0 z1
      have hx := index_cell g1 n cap j hjn
      have hx2 := index_cell g2 n cap2 j hjn
      have hd : decide ((j : Int) < (n : Int)) = true := by simp; omega
      have hrd : ARel ρ w wo.drew td bt bb bd mt mk := HREL.out.below (below_drewN (Below.refl _ _) 1)
      have HC := Lib.hid (pair_any ρ HS.out.one wo.drew w.heap.size td bt bb bd mt mk hrd.st hrd.ρ hrd.nd (by have := td_len HS.out.one hrd.ρ hrd.nd; omega) ⟨c0, c1⟩ ⟨d0, d1⟩ hcs)
      have HRD := Lib.hid hrd
      clear hPo hQo hrow hrow2 hc hdd hcs hrd
      go_upto_region 8 with fail
      go_cut [8] from 26 to 41 (fun v wx => v = .bool true ∧ ∃ new, ARel ρ w wx (td ++ new) bt bb bd mt mk)
      case first =>
        go_still_tail 15, (by kernel_rfl)
        change wpList _ _ _ _ _ wo.drew
        go_wp2_with (first | (go_at_call 16; refine HC.out.mono ?_; rintro e w9 hp9; obtain ⟨rfl, new, hn1, hn2⟩ := HRD.out.next hp9))
        go_meet
        exact ⟨rfl, new, hn1⟩
      case rest =>
      obtain ⟨rfl, new, hn1⟩ := hcut
      have HN1 := Lib.hid hn1
      clear hn1 y0 y1 z0 z1 c2 c3 hx hx2
      go_wp2_with fail
      go_roundw
      case rel => exact ⟨_, j + 1, by go_num, by omega, HN1.out⟩
      case measure => simp only [intOf]; omega
    · obtain rfl : j = n := by omega
      have hd : decide ((j : Int) < (j : Int)) = false := by simp
      clear hrow hrow2 c3
      clear hPo hQo
      go_upto_region 11 with fail
      clear hd hjn hj c2
      go_wp2_with fail
      go_loopw [9, 10, 11, 12, 13] (ARel2 ρ w bt bb bd mt mk) (fun k _ _ _ _ _ => 1000001 - (intOf k).toNat)
      case atStart => exact ⟨_, 0, rfl, Nat.zero_le _, HREL.out⟩
      case round =>
        clear HREL
        obtain ⟨td, k, rfl, hk, hrel⟩ := hrel
        obtain ⟨wo, rfl⟩ : ∃ wo : World, wo = wr := ⟨_, rfl⟩
        have htl := td_len HS.out.one hrel.ρ hrel.nd
        obtain ⟨vd, hvd, hownd⟩ := hrel.st.d
        obtain ⟨m, hm⟩ : ∃ m, m = td.length := ⟨_, rfl⟩
        obtain ⟨od, cd, rfl⟩ := own_slice hownd
        rw [← hm] at hvd hownd hk htl
        have c1 : wo.cell? ⟨bd, 0, none⟩ = some (.slice od m cd) := blk_cell hvd 0
        have HREL := Lib.hid hrel
        have HM := Lib.hid hm
        clear hrel hm
        by_cases hkm : k < m
        · have hkt : k < td.length := by rw [← HM.out]; exact hkm
          obtain ⟨a, ha⟩ : ∃ a, a = td[k].1 := ⟨_, rfl⟩
          obtain ⟨b, hb⟩ : ∃ b, b = td[k].2 := ⟨_, rfl⟩
          have hab : ρ a b := by rw [ha, hb]; exact HREL.out.ρ _ (List.getElem_mem hkt)
          have hownd2 := hownd
          rw [HM.out] at hownd2
          obtain ⟨g1, e1, hv, _, y0, y1⟩ := own_pair hownd2 hkt
          rw [← HM.out] at hv
          cases hv
          rw [← ha] at y0
          rw [← hb] at y1
          have hx := index_pair g1 m cd k hkm
          obtain ⟨x, hLx, hT⟩ := HS.out.th a b hab
          have hlt := HS.out.one.lt a b hab
          have hIb : I64 (b : Int) := by unfold I64; omega
          have hd : decide ((k : Int) < (m : Int)) = true := by simp; omega
          have HX := Lib.hid hLx
          have HTS := Lib.hid hT
          clear ha hb hownd hownd2 hT hLx hvd hlt
          obtain ⟨b0, hb0⟩ : ∃ b0, r.mb = some b0 := by
            cases hm : r.mb with
            | none => have := HR.out.mn hm b; rw [HX.out] at this; cases this
            | some b0 => exact ⟨b0, rfl⟩
          have hbw := HREL.out.bw
          have d1 : wo.cell? ⟨wb, 1, none⟩ = some (.pointer (some ⟨r.rb, 0, none⟩)) := blk_cell (blk_below HW.out hbw (lt_of_block HW.out)) 1
          have d2 : wo.cell? ⟨r.rb, 1, none⟩ = some (.map (some b0)) := by
            have h := blk_cell (blk_below HR.out.h hbw HR.out.lh) 1
            rw [h]
            show some (Value.map r.mb) = _
            rw [hb0]
          have hm0 := HR.out.m b0 hb0
          have hlk : ∀ W' : World, W'.heap[b0]? = wo.heap[b0]? → (Instr.lookup 29 (.map (some b0)) (.int .i64 (b : Int)) false).run Try.prog W' = .ok (.agg (trow x)) W' := by
            intro W' e
            have h := ((hm0.of_same (w' := W') (e.trans (hbw.block b0 hm0.lt))).look Try.underlying29 (zero51 W') hIb).1
            rw [fL_nat, HX.out] at h
            exact h
          have lb0 : b0 < wo.heap.size := Nat.lt_of_lt_of_le hm0.lt hbw.size
          have lrb : r.rb < wo.heap.size := Nat.lt_of_lt_of_le HR.out.lh hbw.size
          have lwb : wb < wo.heap.size := Nat.lt_of_lt_of_le (lt_of_block HW.out) hbw.size
          have lbd : bd < wo.heap.size := World.block_lt_of_cell? wo _ c1
          have lg1 : g1 < wo.heap.size := World.block_lt_of_cell? wo _ y1
          have hlk1 := hlk wo rfl
          have hlk2 := hlk wo.drew rfl
          have hlk3 := hlk (wo.alloc (.cells tzero 51)) (Below.heap_alloc _ _ _ lb0)
          have hlk4 := hlk (wo.alloc (.cells tzero 51)).drew (Below.heap_alloc _ _ _ lb0)
          have hxx := hx
          clear hb0 hbw hm0 hlk
          go_upto_region 15 with fail
          go_cut [11] from 55 to 67 (fun v wx => v = .pointer (some ⟨wo.heap.size, 0, none⟩) ∧ wx = (wo.alloc (.cells (trow x) 51)).drew)
          case first =>
            go_region
            all_goals
              go_wp2_with fail
              go_meet
              exact ⟨rfl, rfl⟩
          case rest =>
          obtain ⟨rfl, hwc⟩ := hcut
          have hrc : ARel ρ w wc td bt bb bd mt mk := by rw [hwc]; exact HREL.out.below (balloc (Below.refl _ _) _).drew
          have hxc : wc.heap[wo.heap.size]? = some (.cells (trow x) 51 (0, 0)) := by rw [hwc]; exact heap_alloc_new wo (.cells (trow x) 51)
          obtain ⟨V, hV⟩ : ∃ V : World, V = wc := ⟨_, rfl⟩
          subst hV
          have hgV : HpAt V g := HG.out.keep (Keeps.of_below (S := fun _ => False) hrc.bw) (fun h => h) (fun h => h) (fun h => h)
          have HRC := Lib.hid hrc
          have HGV := Lib.hid hgV
          have hul : g.us.length = g.sz := HG.out.ul
          have hnx := HG.out.nx
          have hfit := HTS.out.fit
          have haL : a < g.us.length := by omega
          have hga : g.us[a] = ⟨false, hdr x.k x.t x.l.length⟩ := by rw [gt_get haL]; exact HTS.out.hd
          have hkk := HTS.out.k
          have htt := HTS.out.t
          have hsz := HG.out.sz
          obtain ⟨xk, hxk⟩ : ∃ v, v = x.k := ⟨_, rfl⟩
          obtain ⟨xt, hxt⟩ : ∃ v, v = x.t := ⟨_, rfl⟩
          obtain ⟨xl, hxl⟩ : ∃ v, v = x.l.length := ⟨_, rfl⟩
          rw [← hxk, ← hxt, ← hxl] at hga
          rw [← hxk] at hkk
          rw [← hxt] at htt
          rw [← hxl] at hfit
          have hb0 : 0 ≤ g.us[a].n := by rw [hga]; show 0 ≤ hdr xk xt xl; unfold hdr; omega
          have hb1 : g.us[a].n < 4611686018427387904 := by rw [hga]; show hdr xk xt xl < _; unfold hdr; omega
          have hgq : ∀ q, HpAt (V.drewN q) g := fun q => hgV.drewN q
          have KK : ∀ q, Calls Try.prog 17 #[.pointer (some ⟨g.hb, 0, none⟩), .int .i64 a] (V.drewN q) fun e w' => e = .returned (.int .i64 xk) ∧ w' = V.drewN q := fun q => by
            have h := kind_any g _ (hgq q) a haL hb0 hb1
            rw [hga] at h
            rw [show (hdr xk xt xl) % 8 = xk by unfold hdr; omega] at h
            exact h
          have TT : ∀ q, Calls Try.prog 18 #[.pointer (some ⟨g.hb, 0, none⟩), .int .i64 a] (V.drewN q) fun e w' => e = .returned (.int .i64 xt) ∧ w' = V.drewN q := fun q => by
            have h := tag_any g _ (hgq q) a haL hb0 hb1
            rw [hga] at h
            rw [show (hdr xk xt xl) / 8 % 65536 = xt by unfold hdr; omega] at h
            exact h
          have LL : ∀ q, Calls Try.prog 19 #[.pointer (some ⟨g.hb, 0, none⟩), .int .i64 a] (V.drewN q) fun e w' => e = .returned (.int .i64 xl) ∧ w' = V.drewN q := fun q => by
            have h := len_any g _ (hgq q) a haL
            rw [hga] at h
            rw [show (hdr xk xt xl) / 524288 = xl by unfold hdr; omega] at h
            exact h
          have v1 : V.cell? ⟨wo.heap.size, 0, none⟩ = some (.int .i64 xk) := by rw [hxk]; exact blk_cell hxc 0
          have v2 : V.cell? ⟨wo.heap.size, 1, none⟩ = some (.int .i64 xt) := by rw [hxt]; exact blk_cell hxc 1
          have v3 : V.cell? ⟨wo.heap.size, 2, none⟩ = some (.slice (some ⟨x.b, 0, none⟩) xl xl) := by rw [hxl]; exact blk_cell hxc 2
          have v4 : V.cell? ⟨wb, 0, none⟩ = some (.pointer (some ⟨g.hb, 0, none⟩)) := blk_cell (blk_below HW.out hrc.bw (lt_of_block HW.out)) 0
          have HKK := Lib.hid KK
          have HTT := Lib.hid TT
          have HLL := Lib.hid LL
          have HXL := Lib.hid hxl
          obtain ⟨bx, hbx⟩ : ∃ bx, bx = wo.heap.size := ⟨_, rfl⟩
          rw [← hbx] at v1 v2 v3 hxc ⊢
          have HXC := Lib.hid hxc
          clear hwc hrc hxc hgV hlk1 hlk2 hlk3 hlk4 hxx hx c1 y0 y1 d1 d2 lb0 lrb lwb lbd lg1 HREL hga hkk htt hb0 hb1 hgq KK TT LL hxk hxt hxl hbx
          go_upto_region 16 with fail
          go_quiet (first | (go_at_call 17; exact Calls.quiet_of_same (HKK.out _)) | (go_at_call 18; exact Calls.quiet_of_same (HTT.out _)) | (go_at_call 19; exact Calls.quiet_of_same (HLL.out _)))
          obtain ⟨Y, hY⟩ : ∃ Y, Y = V.drewN nq := ⟨_, rfl⟩
          rw [← hY]
          have hrY : ARel ρ w Y td bt bb bd mt mk := by rw [hY]; exact HRC.out.below (below_drewN (Below.refl _ _) nq)
          have hxY : Y.heap[bx]? = some (.cells (trow x) 51 (0, 0)) := by rw [hY]; exact HXC.out
          have HRY := Lib.hid hrY
          have HXY := Lib.hid hxY
          clear hY hrY hxY HXC HGV HRC v1 v2 v3 v4 HKK HTT HLL
          go_upto_region 18 with fail
          go_wp2_with fail
          go_loopw [12, 13] (ARel3 ρ w k xl bt bb bd mt mk bx x) (fun i _ _ => xl - (intOf i).toNat)
          case atStart => exact ⟨td, 0, rfl, Nat.zero_le _, HRY.out, hkt, HXY.out⟩
          case round =>
            clear HRY HXY
            obtain ⟨td3, i3, rfl, hi3, h3, hk3, hx3⟩ := hrel
            obtain ⟨wo3, rfl⟩ : ∃ wo3 : World, wo3 = wr := ⟨_, rfl⟩
            have u2 : wo3.cell? ⟨bx, 2, none⟩ = some (.slice (some ⟨x.b, 0, none⟩) xl xl) := by rw [HXL.out]; exact blk_cell hx3 2
            have H3 := Lib.hid h3
            have HX3 := Lib.hid hx3
            by_cases hil : i3 < xl
            · have hd : decide ((i3 : Int) < (xl : Int)) = true := by simp; omega
              have hux : Cells wo3 x.b x.l := (HR.out.th b x HX.out).below h3.bw (HR.out.th b x HX.out).lt
              have hix : i3 < x.l.length := by rw [← HXL.out]; exact hil
              have u1 : wo3.cell? ⟨wb, 0, none⟩ = some (.pointer (some ⟨g.hb, 0, none⟩)) := blk_cell (blk_below HW.out h3.bw (lt_of_block HW.out)) 0
              have u3 := hux.get0 hix
              have u4 := hux.get1 hix
              have hcs := HTS.out.f i3 hix
              have haI : a + 1 + i3 < g.us.length := by omega
              have hgd : HpAt wo3.drew g := (HG.out.keep (Keeps.of_below (S := fun _ => False) h3.bw) (fun h => h) (fun h => h) (fun h => h)).drewN 1
              have hget := get_any g wo3.drew hgd a i3 haI
              rw [gt_get haI] at hget
              obtain ⟨c, hc⟩ : ∃ c, c = gt g.us (a + 1 + i3) := ⟨_, rfl⟩
              obtain ⟨d, hdd⟩ : ∃ d, d = x.l[i3] := ⟨_, rfl⟩
              rw [← hc] at hcs hget
              rw [← hdd] at hcs u3 u4
              obtain ⟨c0, c1⟩ := c
              obtain ⟨d0, d1⟩ := d
              simp only at u3 u4
              have hxi := index_cell x.b xl xl i3 hil
              have h3d : ARel ρ w wo3.drew td3 bt bb bd mt mk := h3.below (below_drewN (Below.refl _ _) 1)
              have hx3d : wo3.drew.heap[bx]? = some (.cells (trow x) 51 (0, 0)) := hx3
              have HGET := Lib.hid hget
              have H3D := Lib.hid h3d
              have HX3D := Lib.hid hx3d
              have HCS := Lib.hid hcs
              have HDD := Lib.hid hdd
              have HIX := Lib.hid hix
              clear h3 hx3 hux hcs haI hgd hget hc hdd h3d hx3d
              go_upto_region 21 with fail
              go_cut [13] from 107 to 120 (fun v wx => v = .bool true ∧ ∃ new, ARel ρ w wx (td3 ++ new) bt bb bd mt mk ∧ wx.heap[bx]? = some (.cells (trow x) 51 (0, 0)))
              case first =>
                go_region_held3 (fun w' => w'.cell? ⟨wb, 0, none⟩ = some (.pointer (some ⟨g.hb, 0, none⟩)) ∧ w'.cell? ⟨bx, 2, none⟩ = some (.slice (some ⟨x.b, 0, none⟩) xl xl) ∧ w'.cell? ⟨x.b, i3 * 2, none⟩ = some (.bool d0) ∧ w'.cell? ⟨x.b, i3 * 2 + 1, none⟩ = some (.int .i64 d1))
                  (first | exact ⟨u1, u2, u3, u4⟩ | exact u7 | exact u9)
                  (first | (go_at_call 14; refine HGET.out.mono ?_; rintro e w7 ⟨rfl, hb7⟩; have h7 := H3D.out.below hb7; have hx7 := blk_below HX3D.out hb7 (lt_of_block HX3D.out); have hux7 : Cells w7 x.b x.l := (HR.out.th b x HX.out).below h7.bw (HR.out.th b x HX.out).lt; have u7 : w7.cell? ⟨wb, 0, none⟩ = some (.pointer (some ⟨g.hb, 0, none⟩)) ∧ w7.cell? ⟨bx, 2, none⟩ = some (.slice (some ⟨x.b, 0, none⟩) xl xl) ∧ w7.cell? ⟨x.b, i3 * 2, none⟩ = some (.bool d0) ∧ w7.cell? ⟨x.b, i3 * 2 + 1, none⟩ = some (.int .i64 d1) := ⟨(hb7.cell (p := ⟨wb, 0, none⟩) (World.block_lt_of_cell? wo3 _ u1)).trans u1, (hb7.cell (p := ⟨bx, 2, none⟩) (World.block_lt_of_cell? wo3 _ u2)).trans u2, (hb7.cell (p := ⟨x.b, i3 * 2, none⟩) (World.block_lt_of_cell? wo3 _ u3)).trans u3, (hb7.cell (p := ⟨x.b, i3 * 2 + 1, none⟩) (World.block_lt_of_cell? wo3 _ u4)).trans u4⟩; have H7 := Lib.hid h7; have HX7 := Lib.hid hx7; clear hb7 h7 hx7 hux7) | (go_at_call 16; refine (pair_any ρ HS.out.one w7 w.heap.size td3 bt bb bd mt mk H7.out.st H7.out.ρ H7.out.nd (by have := td_len HS.out.one H7.out.ρ H7.out.nd; omega) ⟨c0, c1⟩ ⟨d0, d1⟩ HCS.out).mono ?_; rintro e w9 hp9; obtain ⟨rfl, new, hn1, hn2⟩ := H7.out.next hp9; have hx9 := hn2 _ _ _ HX7.out; have hux9 : Cells w9 x.b x.l := (HR.out.th b x HX.out).below hn1.bw (HR.out.th b x HX.out).lt; have u9 : w9.cell? ⟨wb, 0, none⟩ = some (.pointer (some ⟨g.hb, 0, none⟩)) ∧ w9.cell? ⟨bx, 2, none⟩ = some (.slice (some ⟨x.b, 0, none⟩) xl xl) ∧ w9.cell? ⟨x.b, i3 * 2, none⟩ = some (.bool d0) ∧ w9.cell? ⟨x.b, i3 * 2 + 1, none⟩ = some (.int .i64 d1) := ⟨blk_cell (blk_below HW.out hn1.bw (lt_of_block HW.out)) 0, (by rw [HXL.out]; exact blk_cell hx9 2), (by have h := hux9.get0 HIX.out; rw [← HDD.out] at h; exact h), (by have h := hux9.get1 HIX.out; rw [← HDD.out] at h; exact h)⟩))
                go_wp2_with fail
                go_meet
                exact ⟨rfl, new, hn1, hx9⟩
              case rest =>
              obtain ⟨rfl, new, hn1, hx9⟩ := hcut
              have HN1 := Lib.hid hn1
              have HX9 := Lib.hid hx9
              clear hn1 hx9 u1 u2 u3 u4 hxi
              go_wp2_with fail
              go_roundw
              case rel => exact ⟨td3 ++ new, i3 + 1, by go_num, by omega, HN1.out, by rw [List.length_append]; omega, HX9.out⟩
              case measure => simp only [intOf]; omega
            · obtain rfl : i3 = xl := by omega
              have hd : decide ((i3 : Int) < (i3 : Int)) = false := by simp
              go_wp2_with fail
              go_roundw
              case rel => exact ⟨td3, k + 1, by go_num, hk3, H3.out⟩
              case measure => simp only [intOf]; omega
        · obtain rfl : k = m := by omega
          have hd : decide ((k : Int) < (k : Int)) = false := by simp
          go_wp2_with fail
          go_ret
          exact ⟨rfl, HREL.out.bw⟩
end Go.Proofs.Ytidjfmkclabagaa
