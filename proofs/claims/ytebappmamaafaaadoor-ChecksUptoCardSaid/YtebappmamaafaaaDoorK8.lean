/-
  Proved: the contract of the reference's Check. Conditions: operands that Encode lets by.
-/
import Derived.Test.YtebappmamaafaaaDoorK7
namespace Go.Proofs.YtebappmamaafaaaDoor
open Go.RowKit

/-- what the loads of region 7 read -/
abbrev S12 (bc b o : Nat) (c : Cd) (f : Fn) (W : World) : Prop :=
  (W.cell? ⟨bc, 0, none⟩ = some (.slice c.ta c.texts.length c.tc) ∧ W.cell? ⟨bc, 1, none⟩ = some (.slice c.fa c.funs.length c.fc)) ∧
  (W.cell? ⟨b, o, none⟩ = some (.int .i64 f.free) ∧ W.cell? ⟨b, o + 1, none⟩ = some (.int .i64 f.slots) ∧ W.cell? ⟨b, o + 2, none⟩ = some (.slice f.ao f.ins.length f.cap))
theorem S12.drew {bc b o : Nat} {c : Cd} {f : Fn} {W : World} (h : S12 bc b o c f W) : S12 bc b o c f W.drew := h
theorem S12.below {bc b o : Nat} {c : Cd} {f : Fn} {W W' : World} (h : S12 bc b o c f W) (hb : Below W.heap.size W W') (h1 : bc < W.heap.size) (h2 : b < W.heap.size) : S12 bc b o c f W' :=
  ⟨⟨(hb.cell (p := ⟨bc, 0, none⟩) h1).trans h.1.1, (hb.cell (p := ⟨bc, 1, none⟩) h1).trans h.1.2⟩, ⟨(hb.cell (p := ⟨b, o, none⟩) h2).trans h.2.1, (hb.cell (p := ⟨b, o + 1, none⟩) h2).trans h.2.2.1, (hb.cell (p := ⟨b, o + 2, none⟩) h2).trans h.2.2.2⟩⟩

set_option maxHeartbeats 4000000 in
theorem rchk_any (c : Cd) (w : World) (hc : CodeAt w w.heap.size c) (hok : FunsOk c) (hw : wgt c ≤ 1048576) :
    Calls Tryd.prog 12 #[c.val] w (ChkPost c w) := by
  have HC := Lib.hid hc
  have HOK := Lib.hid hok
  have HW := Lib.hid hw
  have hfl : c.funs.length ≤ 1048576 := by
    have := len_le_sum c.funs (fun f => f.ins.length)
    unfold wgt at hw
    omega
  clear hc hok hw
  unfold Cd.val
  have hbc := blk_alloc (heap_alloc_new w (.cells #[.slice c.ta c.texts.length c.tc, .slice c.fa c.funs.length c.fc] 25)) (.cells #[.int .i64 0, .int .i64 0] 34)
  have hbf := heap_alloc_new (w.alloc (.cells #[.slice c.ta c.texts.length c.tc, .slice c.fa c.funs.length c.fc] 25)) (.cells #[.int .i64 0, .int .i64 0] 34)
  rw [World.size_alloc] at hbf
  have HBW : Hid (Below w.heap.size w ((w.alloc (.cells #[.slice c.ta c.texts.length c.tc, .slice c.fa c.funs.length c.fc] 25)).alloc (.cells #[.int .i64 0, .int .i64 0] 34))) := balloc (balloc (Below.refl _ _) _) _
  obtain ⟨W, hW⟩ : ∃ W, W = (w.alloc (.cells #[.slice c.ta c.texts.length c.tc, .slice c.fa c.funs.length c.fc] 25)).alloc (.cells #[.int .i64 0, .int .i64 0] 34) := ⟨_, rfl⟩
  have hWs : W.heap.size = w.heap.size + 1 + 1 := by rw [hW, World.size_alloc, World.size_alloc]
  have HWs := Lib.hid hWs
  by_cases h0 : c.funs.length = 0
  · have hchk : chkB c = (17, 0) := by unfold chkB; rw [if_pos h0]
    have HCHK := Lib.hid hchk
    clear hchk hbc hbf hW hWs
    go_enter Tryd.func12, Tryd.ntmps12
    go_wp2
    refine bodyPost_ret (v := .agg #[.int .i64 17, .int .i64 0]) (by simp [results, Tryd.results12, go_sem]) rfl ⟨by rw [HCHK.out], balloc (balloc (Below.refl _ _) _) _⟩
  · have b0 : ((c.funs.length : Int) == 0) = false := by simpa using h0
    by_cases h6 : 60000 < c.funs.length
    · have hchk : chkB c = (17, 0) := by unfold chkB; rw [if_neg h0, if_pos h6]
      have HCHK := Lib.hid hchk
      clear hchk hbc hbf hW hWs h0
      go_enter Tryd.func12, Tryd.ntmps12
      go_wp2
      refine bodyPost_ret (v := .agg #[.int .i64 17, .int .i64 0]) (by simp [results, Tryd.results12, go_sem]) rfl ⟨by rw [HCHK.out], balloc (balloc (Below.refl _ _) _) _⟩
    · obtain ⟨f0, hf0⟩ : ∃ f, f = c.funs.getD 0 nofn := ⟨_, rfl⟩
      obtain ⟨_, _, b, off, hbN, a0, _, _, hia⟩ := fun_at HC.out (Below.refl _ w) (k := 0) (by omega) hf0
      simp only [Nat.zero_mul, Nat.add_zero] at a0 hia
      have hia0 : ∀ W : World, (Instr.indexAt 23 (.slice c.fa c.funs.length c.fc) (.int .i64 0)).run Tryd.prog W = .ok (.pointer (some ⟨b, off, none⟩)) W := hia
      clear hia
      by_cases hz : f0.free = 0
      · rw [hz] at a0
        have hchk : chkB c = chkGo c c.funs 0 0 := by unfold chkB; rw [if_neg h0, if_neg h6, ← hf0, if_pos hz]
        have HCHK := Lib.hid hchk
        clear hchk h0 hf0 hz
        go_enter Tryd.func12, Tryd.ntmps12
        go_wp2_with fail
        rw [← hW]
        rw [← hW] at hbc hbf HBW
        have HBC := Lib.hid hbc
        have HBF := Lib.hid hbf
        clear hbc hbf hW a0 hia0 b0
        go_loopw [3, 4] (fun n i wr => ∃ k : Nat, k ≤ c.funs.length ∧ i = .int .i64 k ∧ n = .int .i64 (insN c.funs k) ∧ chkGo c (c.funs.drop k) k (insN c.funs k) = chkB c ∧ Below W.heap.size W wr) (fun _ i _ => c.funs.length - (intOf i).toNat)
        case atStart => exact ⟨0, Nat.zero_le _, rfl, rfl, by rw [HCHK.out]; rfl, Below.refl _ _⟩
        case round =>
          obtain ⟨k, hk, rfl, rfl, hgo, hbl⟩ := hrel
          have hsz := hbl.size
          have hcc := blk_below HBC.out hbl (by omega)
          have hff := blk_below HBF.out hbl (by omega)
          have g0 : wr.cell? ⟨w.heap.size, 0, none⟩ = some (.slice c.ta c.texts.length c.tc) := blk_cell hcc 0
          have g1 : wr.cell? ⟨w.heap.size, 1, none⟩ = some (.slice c.fa c.funs.length c.fc) := blk_cell hcc 1
          have HBR := Lib.hid (bthen HBW.out hbl)
          have lt0 : w.heap.size < wr.heap.size := by omega
          have lt1 : w.heap.size + 1 < wr.heap.size := by omega
          by_cases hlt : k < c.funs.length
          · obtain ⟨f, hf⟩ : ∃ f, f = c.funs.getD k nofn := ⟨_, rfl⟩
            obtain ⟨hmem, _, b, off, hbN, a0, a1, a2, hia⟩ := fun_at HC.out HBR.out hlt hf
            have hst := chkGo_step (c := c) hlt (insN c.funs k)
            rw [← hf] at hst
            rw [hst] at hgo
            have hin := insN_succ hlt
            rw [← hf] at hin
            have hile := insN_le c.funs (k + 1)
            have hwg := HW.out
            unfold wgt at hwg
            have hi1 : insN c.funs k + f.ins.length ≤ 1048576 := by omega
            have hf1 := (funB_le (c := c) (f := f) (main := ((k : Int) == 0)))
            have HGO := Lib.hid hgo
            have HIN := Lib.hid hin
            have HBL := Lib.hid hbl
            have HCC := Lib.hid hcc
            have HFF := Lib.hid hff
            have HMEM := Lib.hid hmem
            have HF1 := Lib.hid hf1
            clear hst hgo hf hbl hcc hff hmem hin hf1 hwg hile
            go_wp2_with fail
            have hS0 : S12 w.heap.size b (off + k * 3) c f wr := ⟨⟨g0, g1⟩, ⟨a0, a1, a2⟩⟩
            go_region_held3 (fun w' => S12 w.heap.size b (off + k * 3) c f w')
              (repeat (first | exact hS0 | exact hS12 | apply S12.drew))
              ((go_at_call 22; refine (rfun_any c f _ _ (HC.out.later (HBR.out.drew)) HMEM.out HOK.out HW.out).mono ?_; rintro e w4 ⟨rfl, hb4⟩; have hS12 := (S12.drew hS0).below hb4 lt0 (by show b < wr.heap.size; omega)))
            obtain ⟨⟨g2, g3⟩, ⟨a3, a4, a5⟩⟩ := hS12
            have hb14 : Below wr.heap.size wr w4 := (Below.refl wr.heap.size wr).drew.trans hb4
            have hff4 := blk_below HFF.out hb14 (by omega)
            have hs4 := hb14.size
            have r0 : w4.cell? ⟨w.heap.size + 1, 0, none⟩ = some (.int .i64 0) := blk_cell hff4 0
            have r1 : w4.cell? ⟨w.heap.size + 1, 1, none⟩ = some (.int .i64 0) := blk_cell hff4 1
            have z0 : w4.frozen? ⟨w.heap.size + 1, 0, none⟩ = false := blk_free hff4 0
            have z1 : w4.frozen? ⟨w.heap.size + 1, 1, none⟩ = false := blk_free hff4 1
            have lt5 : w.heap.size + 1 < w4.heap.size := by omega
            have lt6 : w.heap.size < w4.heap.size := by omega
            have HB14 := Lib.hid (bthen HBL.out hb14)
            have HB15 := Lib.hid (bthen HBR.out hb14)
            have HFF4 := Lib.hid hff4
            clear hb4 hff4 hb14 g0 g1 hS0
            generalize hfb : funB c f ((k : Int) == 0) = fb at *
            clear hfb
            obtain ⟨fe, fk⟩ := fb
            obtain ⟨v1, v2⟩ := HF1.out
            simp only at v1 v2
            by_cases hfe : fe = 0
            · subst hfe
              have hgo := HGO.out
              rw [if_pos rfl] at hgo
              have HGO2 := Lib.hid hgo
              clear hgo
              go_wp2_with fail
              go_roundw
              case rel => exact ⟨k + 1, by omega, by go_num, by rw [HIN.out]; go_num, by rw [HIN.out]; have := HGO2.out; push_cast; exact this, HB14.out⟩
              case measure => simp [intOf]; omega
            · have hgo := HGO.out
              rw [if_neg hfe] at hgo
              have HGO2 := Lib.hid hgo
              have bfe : (fe != 0) = true := by simpa using hfe
              clear hgo hfe
              go_wp2_with fail
              refine bodyPost_ret (v := .agg #[.int .i64 fe, .int .i64 (insN c.funs k + fk)]) (by simp [results, Tryd.results12, go_sem, *]) rfl ⟨by rw [← HGO2.out], ?_⟩
              exact (HB15.out.setCell (by simp) _).setCell (by simp) _
          · obtain rfl : k = c.funs.length := by omega
            have hres : chkB c = (0, 0) := by rw [← hgo]; simp [chkGo]
            have HRES := Lib.hid hres
            have r0 : wr.cell? ⟨w.heap.size + 1, 0, none⟩ = some (.int .i64 0) := blk_cell hff 0
            have r1 : wr.cell? ⟨w.heap.size + 1, 1, none⟩ = some (.int .i64 0) := blk_cell hff 1
            have z0 : wr.frozen? ⟨w.heap.size + 1, 0, none⟩ = false := blk_free hff 0
            have z1 : wr.frozen? ⟨w.heap.size + 1, 1, none⟩ = false := blk_free hff 1
            clear hgo hres hbl hcc hff hlt
            go_wp2_with fail
            refine bodyPost_ret (v := .agg #[.int .i64 0, .int .i64 0]) (by simp [results, Tryd.results12, go_sem, *]) rfl ⟨by rw [HRES.out], ?_⟩
            exact (HBR.out.setCell (by simp) _).setCell (by simp) _
      · have hz' : (f0.free != 0) = true := by simpa using hz
        have hchk : chkB c = (17, 0) := by unfold chkB; rw [if_neg h0, if_neg h6, ← hf0, if_neg hz]
        have HCHK := Lib.hid hchk
        clear hchk hbc hbf hW hWs h0 hz hf0
        go_enter Tryd.func12, Tryd.ntmps12
        go_wp2
        refine bodyPost_ret (v := .agg #[.int .i64 17, .int .i64 0]) (by simp [results, Tryd.results12, go_sem]) rfl ⟨by rw [HCHK.out], balloc (balloc (Below.refl _ _) _) _⟩

end Go.Proofs.YtebappmamaafaaaDoor
