/-
  Proved: the law's Same says true of two codes of the same content. No condition.
-/
import Derived.Test.YtebappmamaafaaaDoorE7
import Derived.Deep.QuietTactic
set_option linter.unusedSimpArgs false
set_option linter.unusedVariables false
namespace Go.Proofs.YtebappmamaafaaaDoor
open Go.RowKit

/-- the same content -/
def SameFn (f g : Fn) : Prop := f.free = g.free ∧ f.slots = g.slots ∧ f.ins = g.ins
def SameCd (c d : Cd) : Prop := c.texts = d.texts ∧ c.funs.length = d.funs.length ∧ ∀ i, i < c.funs.length → SameFn (c.funs.getD i nofn) (d.funs.getD i nofn)

theorem text_at {w w' : World} {c : Cd} (hc : CodeAt w w.heap.size c) (hb : Below w.heap.size w w') {k : Nat} (hk : k < c.texts.length) {s : ByteArray} (hs : s = c.texts.getD k ByteArray.empty) :
    ∃ b off, b < w.heap.size ∧ w'.cell? ⟨b, off + k, none⟩ = some (.string s) ∧ ∀ W : World, (Instr.indexAt 22 (.slice c.ta c.texts.length c.tc) (.int .i64 k)).run Tryd.prog W = .ok (.pointer (some ⟨b, off + k, none⟩)) W := by
  subst hs
  obtain ⟨b, off, hta, hbN, hcell⟩ := hc.texts k (by simpa using hk)
  have h0 := hcell 0 (by omega)
  have hrow : ((c.texts.map fun s => [Value.string s]).getD k []) = [.string (c.texts.getD k ByteArray.empty)] := by simp [List.getD, hk]
  rw [hrow] at h0
  refine ⟨b, off, hbN, ?_, ?_⟩
  · rw [hb.cell (p := ⟨b, off + k, none⟩) hbN]
    simpa using h0
  · have := index_at Tryd.underlying22 size9 hta c.texts.length c.tc k hk
    simpa using this

theorem fnAt {w w' : World} {c : Cd} (hc : CodeAt w w.heap.size c) (hb : Below w.heap.size w w') {k : Nat} (hk : k < c.funs.length) {f : Fn} (hf : f = c.funs.getD k nofn) :
    f ∈ c.funs ∧ ∃ b off, b < w.heap.size ∧ w'.cell? ⟨b, off + k * 3, none⟩ = some (.int .i64 f.free) ∧ w'.cell? ⟨b, off + k * 3 + 1, none⟩ = some (.int .i64 f.slots) ∧ w'.cell? ⟨b, off + k * 3 + 2, none⟩ = some (.slice f.ao f.ins.length f.cap) ∧
      ∀ W : World, (Instr.indexAt 23 (.slice c.fa c.funs.length c.fc) (.int .i64 k)).run Tryd.prog W = .ok (.pointer (some ⟨b, off + k * 3, none⟩)) W := by
  subst hf
  have e : c.funs.getD k nofn = c.funs[k] := by rw [List.getD_eq_getElem?_getD, List.getElem?_eq_getElem hk]; rfl
  have hxm : c.funs.getD k nofn ∈ c.funs := by rw [e]; exact List.getElem_mem _
  obtain ⟨b, off, hta, hbN, hcell⟩ := hc.funs k (by simpa using hk)
  have hrow : (c.funs.map fnRow).getD k [] = fnRow (c.funs.getD k nofn) := by simp [List.getD, hk]
  rw [hrow] at hcell
  have hca : ∀ i, i < 3 → w'.cell? ⟨b, off + k * 3 + i, none⟩ = (fnRow (c.funs.getD k nofn))[i]? := fun i hi => (hb.cell (p := ⟨b, off + k * 3 + i, none⟩) hbN).trans (hcell i hi)
  exact ⟨hxm, b, off, hbN, hca 0 (by omega), hca 1 (by omega), hca 2 (by omega), index_at Tryd.underlying23 size48 hta c.funs.length c.fc k hk⟩
theorem insAt {w w' : World} {c : Cd} {f : Fn} (hc : CodeAt w w.heap.size c) (hf : f ∈ c.funs) (hb : Below w.heap.size w w') {k : Nat} (hk : k < f.ins.length) {x : Int × Int × Int} (hx : x = f.ins.getD k (0, 0, 0)) :
    ∃ b off, b < w.heap.size ∧ w'.cell? ⟨b, off + k * 3, none⟩ = some (.int .i64 x.1) ∧ w'.cell? ⟨b, off + k * 3 + 1, none⟩ = some (.int .i64 x.2.1) ∧ w'.cell? ⟨b, off + k * 3 + 2, none⟩ = some (.int .i64 x.2.2) ∧
      ∀ W : World, (Instr.indexAt 46 (.slice f.ao f.ins.length f.cap) (.int .i64 k)).run Tryd.prog W = .ok (.pointer (some ⟨b, off + k * 3, none⟩)) W := by
  subst hx
  obtain ⟨b, off, hta, hbN, hcell⟩ := hc.ins f hf k (by simpa using hk)
  have hrow : (f.ins.map insRow).getD k [] = insRow (f.ins.getD k (0, 0, 0)) := by simp [List.getD, hk]
  rw [hrow] at hcell
  have hca : ∀ i, i < 3 → w'.cell? ⟨b, off + k * 3 + i, none⟩ = (insRow (f.ins.getD k (0, 0, 0)))[i]? := fun i hi => (hb.cell (p := ⟨b, off + k * 3 + i, none⟩) hbN).trans (hcell i hi)
  exact ⟨b, off, hbN, hca 0 (by omega), hca 1 (by omega), hca 2 (by omega), index_at Tryd.underlying46 size50 hta f.ins.length f.cap k hk⟩
theorem bdrewN {B : Nat} {w w' : World} (h : Below B w w') (n : Nat) : Below B w (w'.drewN n) := ⟨h.os, h.tape, h.output, h.size, h.block⟩

set_option maxRecDepth 100000 in
set_option maxHeartbeats 4000000 in
theorem same_any (c d : Cd) (w : World) (hc : CodeAt w w.heap.size c) (hd : CodeAt w w.heap.size d) (hsame : SameCd c d) (hwc : c.texts.length ≤ 4611686018427387904 ∧ c.funs.length ≤ 4611686018427387904 ∧ ∀ f ∈ c.funs, f.ins.length ≤ 4611686018427387904) :
    Calls Tryd.prog 15 #[c.val, d.val] w fun e w' => e = .returned (.bool true) ∧ Below w.heap.size w w' := by
  have HC := Lib.hid hc
  have HD := Lib.hid hd
  obtain ⟨ht, hf, hi⟩ := hsame
  obtain ⟨n1, n2, n3⟩ := hwc
  have HT := Lib.hid ht
  have HFL := Lib.hid hf
  have HI := Lib.hid hi
  have HN3 := Lib.hid n3
  have hdv : d.val = .agg #[.slice d.ta c.texts.length d.tc, .slice d.fa c.funs.length d.fc] := by unfold Cd.val; rw [← ht, ← hf]
  rw [hdv]
  unfold Cd.val
  obtain ⟨W, hW⟩ : ∃ W, W = (w.alloc (.cells #[.slice c.ta c.texts.length c.tc, .slice c.fa c.funs.length c.fc] 25)).alloc (.cells #[.slice d.ta c.texts.length d.tc, .slice d.fa c.funs.length d.fc] 25) := ⟨_, rfl⟩
  have hb : Below w.heap.size w W := by rw [hW]; exact balloc (balloc (Below.refl _ _) _) _
  have hx : W.heap[w.heap.size]? = some (.cells #[.slice c.ta c.texts.length c.tc, .slice c.fa c.funs.length c.fc] 25 (0, 0)) := by rw [hW]; exact blk_alloc (heap_alloc_new w _) _
  have hy : W.heap[w.heap.size + 1]? = some (.cells #[.slice d.ta c.texts.length d.tc, .slice d.fa c.funs.length d.fc] 25 (0, 0)) := by
    rw [hW]
    have := heap_alloc_new (w.alloc (.cells #[.slice c.ta c.texts.length c.tc, .slice c.fa c.funs.length c.fc] 25)) (.cells #[.slice d.ta c.texts.length d.tc, .slice d.fa c.funs.length d.fc] 25)
    rw [World.size_alloc] at this
    exact this
  have hWs : W.heap.size = w.heap.size + 1 + 1 := by rw [hW, World.size_alloc, World.size_alloc]
  have HW := Lib.hid hW
  have HB := Lib.hid hb
  have HX := Lib.hid hx
  have HY := Lib.hid hy
  have HWS := Lib.hid hWs
  clear hc hd ht hf hi n3 hdv hW hb hx hy hWs
  go_enter Tryd.func15, Tryd.ntmps15
  go_wp2_with fail
  rw [← HW.out]
  go_loopw [5] (fun i wr => ∃ k : Nat, k ≤ c.texts.length ∧ i = .int .i64 k ∧ Below W.heap.size W wr) (fun i _ => c.texts.length - (intOf i).toNat)
  case atStart => exact ⟨0, Nat.zero_le _, rfl, Below.refl _ _⟩
  case round =>
    obtain ⟨k, hk, rfl, hbl⟩ := hrel
    have hsz := hbl.size
    have hws := HWS.out
    have hx := blk_below HX.out hbl (by omega)
    have hy := blk_below HY.out hbl (by omega)
    have a0 : wr.cell? ⟨w.heap.size, 0, none⟩ = some (.slice c.ta c.texts.length c.tc) := blk_cell hx 0
    have b0 : wr.cell? ⟨w.heap.size + 1, 0, none⟩ = some (.slice d.ta c.texts.length d.tc) := blk_cell hy 0
    have a1 : wr.cell? ⟨w.heap.size, 1, none⟩ = some (.slice c.fa c.funs.length c.fc) := blk_cell hx 1
    have HBL := Lib.hid hbl
    have l0 : w.heap.size < wr.heap.size := by omega
    have l1 : w.heap.size + 1 < wr.heap.size := by omega
    have HBR := Lib.hid (HB.out.trans (hbl.mono (by omega)))
    by_cases hlt : k < c.texts.length
    · obtain ⟨s, hs⟩ : ∃ s, s = c.texts.getD k ByteArray.empty := ⟨_, rfl⟩
      obtain ⟨p1, o1, _, t1, i1⟩ := text_at HC.out HBR.out hlt hs
      obtain ⟨p2, o2, _, t2, i2⟩ := text_at HD.out HBR.out (k := k) (by rw [← HT.out]; exact hlt) (s := s) (by rw [← HT.out]; exact hs)
      rw [← HT.out] at i2
      clear hs hbl hx hy hws
      go_wp2_with fail
      go_quiet (fail)
      go_wp2_with fail
      go_roundw
      case rel => exact ⟨k + 1, by omega, by go_num, bdrewN HBL.out nq⟩
      case measure => simp [intOf]; omega
    · obtain rfl : k = c.texts.length := by omega
      clear hbl hx hy hws
      obtain ⟨wo, hwo⟩ : ∃ wo : World, wo = wr := ⟨_, rfl⟩
      subst hwo
      go_wp2_with fail
      go_loopw [6] (fun i wr => ∃ k : Nat, k ≤ c.funs.length ∧ i = .int .i64 k ∧ Below W.heap.size W wr) (fun i _ => c.funs.length - (intOf i).toNat)
      case atStart => exact ⟨0, Nat.zero_le _, rfl, HBL.out⟩
      case round =>
        obtain ⟨k, hk, rfl, hbl⟩ := hrel
        have hsz := hbl.size
        have hws := HWS.out
        have hx := blk_below HX.out hbl (by omega)
        have hy := blk_below HY.out hbl (by omega)
        have c1 : wr.cell? ⟨w.heap.size, 1, none⟩ = some (.slice c.fa c.funs.length c.fc) := blk_cell hx 1
        have d1 : wr.cell? ⟨w.heap.size + 1, 1, none⟩ = some (.slice d.fa c.funs.length d.fc) := blk_cell hy 1
        have HBL2 := Lib.hid hbl
        have m0 : w.heap.size < wr.heap.size := by omega
        have m1 : w.heap.size + 1 < wr.heap.size := by omega
        have HBR2 := Lib.hid (HB.out.trans (hbl.mono (by omega)))
        clear a0 b0 a1
        by_cases hlt : k < c.funs.length
        · obtain ⟨f, hf⟩ : ∃ f, f = c.funs.getD k nofn := ⟨_, rfl⟩
          obtain ⟨g, hg⟩ : ∃ g, g = d.funs.getD k nofn := ⟨_, rfl⟩
          obtain ⟨hfm, p1, o1, q1, f0, f1, f2, i1⟩ := fnAt HC.out HBR2.out hlt hf
          obtain ⟨hgm, p2, o2, q2, g0, g1, g2, i2⟩ := fnAt HD.out HBR2.out (k := k) (by rw [← HFL.out]; exact hlt) hg
          rw [← HFL.out] at i2
          obtain ⟨e1, e2, e3⟩ := HI.out k hlt
          rw [← hf, ← hg] at e1 e2 e3
          rw [← e1] at g0
          rw [← e2] at g1
          have HG3 := Lib.hid e3
          have hgv : Value.slice g.ao g.ins.length g.cap = .slice g.ao f.ins.length g.cap := by rw [← e3]
          rw [hgv] at g2
          have HFM := Lib.hid hfm
          have HGM := Lib.hid hgm
          have hfl := HN3.out f hfm
          have lp1 : p1 < wr.heap.size := by omega
          have lp2 : p2 < wr.heap.size := by omega
          have hB3 : Below W.heap.size W ((wr.alloc (.cells #[.int .i64 f.free, .int .i64 f.slots, .slice f.ao f.ins.length f.cap] 48)).alloc (.cells #[.int .i64 f.free, .int .i64 f.slots, .slice g.ao f.ins.length g.cap] 48)) := bthen hbl (balloc (balloc (Below.refl _ _) _) _)
          have hxa := blk_alloc (heap_alloc_new wr (.cells #[.int .i64 f.free, .int .i64 f.slots, .slice f.ao f.ins.length f.cap] 48)) (.cells #[.int .i64 f.free, .int .i64 f.slots, .slice g.ao f.ins.length g.cap] 48)
          have hya := heap_alloc_new (wr.alloc (.cells #[.int .i64 f.free, .int .i64 f.slots, .slice f.ao f.ins.length f.cap] 48)) (.cells #[.int .i64 f.free, .int .i64 f.slots, .slice g.ao f.ins.length g.cap] 48)
          rw [World.size_alloc] at hya
          obtain ⟨w3, hw3⟩ : ∃ w3, w3 = (wr.alloc (.cells #[.int .i64 f.free, .int .i64 f.slots, .slice f.ao f.ins.length f.cap] 48)).alloc (.cells #[.int .i64 f.free, .int .i64 f.slots, .slice g.ao f.ins.length g.cap] 48) := ⟨_, rfl⟩
          have hs3 : w3.heap.size = wr.heap.size + 1 + 1 := by rw [hw3, World.size_alloc, World.size_alloc]
          rw [← hw3] at hB3 hxa hya
          have HW3 := Lib.hid hw3
          have HB3 := Lib.hid hB3
          have HXA := Lib.hid hxa
          have HYA := Lib.hid hya
          have HS3 := Lib.hid hs3
          clear hf hg e1 e2 e3 hgv hfm hgm hbl hx hy hws hw3 hB3 hxa hya hs3
          go_upto_region 13 with fail
          rw [← HW3.out]
          clear f0 f1 f2 g0 g1 g2 i1 i2 lp1 lp2 c1 d1
          have x0 : w3.cell? ⟨wr.heap.size, 0, none⟩ = some (.int .i64 f.free) := blk_cell HXA.out 0
          have x1 : w3.cell? ⟨wr.heap.size, 1, none⟩ = some (.int .i64 f.slots) := blk_cell HXA.out 1
          have x2 : w3.cell? ⟨wr.heap.size, 2, none⟩ = some (.slice f.ao f.ins.length f.cap) := blk_cell HXA.out 2
          have y0 : w3.cell? ⟨wr.heap.size + 1, 0, none⟩ = some (.int .i64 f.free) := blk_cell HYA.out 0
          have y1 : w3.cell? ⟨wr.heap.size + 1, 1, none⟩ = some (.int .i64 f.slots) := blk_cell HYA.out 1
          have y2 : w3.cell? ⟨wr.heap.size + 1, 2, none⟩ = some (.slice g.ao f.ins.length g.cap) := blk_cell HYA.out 2
          have m3 : wr.heap.size < w3.heap.size := by have := HS3.out; omega
          have m4 : wr.heap.size + 1 < w3.heap.size := by have := HS3.out; omega
          go_wp2_with fail
          clear x0 x1 y0 y1
          obtain ⟨wp, hwp⟩ : ∃ wp : World, wp = wr := ⟨_, rfl⟩
          subst hwp
          go_loopw [9] (fun i wr => ∃ j : Nat, j ≤ f.ins.length ∧ i = .int .i64 j ∧ Below w3.heap.size w3 wr) (fun i _ => f.ins.length - (intOf i).toNat)
          case atStart => exact ⟨0, Nat.zero_le _, rfl, Below.refl _ _⟩
          case round =>
            obtain ⟨j, hj, rfl, hbl⟩ := hrel
            have hsz2 := hbl.size
            have hxa := blk_below HXA.out hbl m3
            have hya := blk_below HYA.out hbl m4
            have z2 : wr.cell? ⟨wp.heap.size, 2, none⟩ = some (.slice f.ao f.ins.length f.cap) := blk_cell hxa 2
            have v2 : wr.cell? ⟨wp.heap.size + 1, 2, none⟩ = some (.slice g.ao f.ins.length g.cap) := blk_cell hya 2
            have n4 : wp.heap.size < wr.heap.size := by omega
            have n5 : wp.heap.size + 1 < wr.heap.size := by omega
            have HBL3 := Lib.hid hbl
            have HBL4 : Hid (Below W.heap.size W wr) := HB3.out.trans (hbl.mono (by have := HS3.out; omega))
            have HBR4 : Hid (Below w.heap.size w wr) := HB.out.trans (HBL4.out.mono (by have := HWS.out; omega))
            clear hxa hya hbl x2 y2
            by_cases hlj : j < f.ins.length
            · obtain ⟨x, hx⟩ : ∃ x, x = f.ins.getD j (0, 0, 0) := ⟨_, rfl⟩
              obtain ⟨p1, o1, _, r0, r1, r2, i1⟩ := insAt HC.out HFM.out HBR4.out hlj hx
              obtain ⟨p2, o2, _, s0, s1, s2, i2⟩ := insAt HD.out HGM.out HBR4.out (k := j) (by rw [← HG3.out]; exact hlj) (x := x) (by rw [← HG3.out]; exact hx)
              have hgv : Value.slice g.ao g.ins.length g.cap = .slice g.ao f.ins.length g.cap := by rw [← HG3.out]
              rw [hgv] at i2
              clear hx hgv
              go_wp2_with fail
              go_quiet (fail)
              go_wp2_with fail
              go_roundw
              case rel => exact ⟨j + 1, by omega, by go_num, bdrewN HBL3.out nq⟩
              case measure => simp [intOf]; omega
            · obtain rfl : j = f.ins.length := by omega
              go_wp2_with fail
              go_roundw
              case rel => exact ⟨k + 1, by omega, by go_num, HBL4.out⟩
              case measure => simp [intOf]; omega
        · obtain rfl : k = c.funs.length := by omega
          clear hbl hx hy hws
          go_wp2_with fail
          go_ret
          exact ⟨rfl, HBR2.out⟩

end Go.Proofs.YtebappmamaafaaaDoor
