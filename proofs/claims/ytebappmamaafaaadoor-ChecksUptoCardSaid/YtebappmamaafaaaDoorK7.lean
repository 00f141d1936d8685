/-
  Proved: what both Checks compute of a code, in plain Lean; the contract of the program's Check. Conditions: operands that Encode lets by.
-/
import Derived.Test.YtebappmamaafaaaDoorK5
import Derived.Test.YtebappmamaafaaaDoorK6
import Derived.Deep.RegionHeld3
namespace Go.Proofs.YtebappmamaafaaaDoor
open Go.RowKit

def chkGo (c : Cd) : List Fn → Nat → Int → Int × Int
  | [], _, _ => (0, 0)
  | f :: r, i, n => if (funB c f ((i : Int) == 0)).1 = 0 then chkGo c r (i + 1) (n + f.ins.length) else ((funB c f ((i : Int) == 0)).1, n + (funB c f ((i : Int) == 0)).2)
def chkB (c : Cd) : Int × Int :=
  if c.funs.length = 0 then (17, 0) else if 60000 < c.funs.length then (17, 0) else if (c.funs.getD 0 nofn).free = 0 then chkGo c c.funs 0 0 else (17, 0)
theorem chkGo_step {c : Cd} {l : List Fn} {k : Nat} (h : k < l.length) (n : Int) : chkGo c (l.drop k) k n = if (funB c (l.getD k nofn) ((k : Int) == 0)).1 = 0 then chkGo c (l.drop (k + 1)) (k + 1) (n + (l.getD k nofn).ins.length) else ((funB c (l.getD k nofn) ((k : Int) == 0)).1, n + (funB c (l.getD k nofn) ((k : Int) == 0)).2) := by
  rw [List.drop_eq_getElem_cons h]
  have e : l.getD k nofn = l[k] := by rw [List.getD_eq_getElem?_getD, List.getElem?_eq_getElem h]; rfl
  rw [e]
  rfl
/-- how many instructions the first k functions have -/
def insN (l : List Fn) (k : Nat) : Nat := ((l.take k).map fun f => f.ins.length + 1).sum - k
theorem insN_succ {l : List Fn} {k : Nat} (h : k < l.length) : insN l (k + 1) = insN l k + (l.getD k nofn).ins.length := by
  have e : l.getD k nofn = l[k] := by rw [List.getD_eq_getElem?_getD, List.getElem?_eq_getElem h]; rfl
  have hk : k ≤ ((l.take k).map fun f => f.ins.length + 1).sum := by
    have := len_le_sum (l.take k) (fun f => f.ins.length)
    rw [List.length_take] at this
    omega
  unfold insN
  rw [List.take_succ_eq_append_getElem h, List.map_append, List.sum_append, e]
  simp only [List.map_cons, List.map_nil, List.sum_cons, List.sum_nil]
  omega
theorem insN_le (l : List Fn) (k : Nat) : insN l k ≤ (l.map fun f => f.ins.length + 1).sum := by
  have := take_sum_le l (fun f => f.ins.length + 1) k
  unfold insN
  omega
theorem funB_le {c : Cd} {f : Fn} {main : Bool} : 0 ≤ (funB c f main).2 ∧ (funB c f main).2 ≤ f.ins.length := by
  have h1 : ∀ (l : List (Int × Int × Int)) (i : Nat) r, opsGo c f main l i = some r → 0 ≤ r.2 ∧ r.2 ≤ ((i + l.length : Nat) : Int) := by
    intro l
    induction l with
    | nil => intro i r h; cases h
    | cons x l ih =>
      intro i r h
      unfold opsGo at h
      split at h
      · have := ih _ _ h
        simp only [List.length_cons]
        omega
      · cases h
        simp only [List.length_cons]
        omega
  have h2 : ∀ (l : List (Int × Int × Int)) (i : Nat) K, 0 ≤ (flowGo c l i K).2 ∧ (flowGo c l i K).2 ≤ ((i + l.length : Nat) : Int) := by
    intro l
    induction l with
    | nil => intro i K; unfold flowGo; split <;> simp <;> omega
    | cons x l ih =>
      intro i K
      unfold flowGo
      split
      · simp only [List.length_cons]; omega
      · have := ih (i + 1) ‹_›
        simp only [List.length_cons]
        omega
  unfold funB
  split
  · rename_i r h
    have := h1 _ _ _ h
    simpa using this
  · have := h2 f.ins 0 K0
    simpa using this

/-- a function of a code, as it lies in memory -/
theorem fun_at {w w' : World} {c : Cd} (hc : CodeAt w w.heap.size c) (hb : Below w.heap.size w w') {k : Nat} (hk : k < c.funs.length) {f : Fn} (hf : f = c.funs.getD k nofn) :
    f ∈ c.funs ∧ in64 f.free ∧ ∃ b off, b < w.heap.size ∧ w'.cell? ⟨b, off + k * 3, none⟩ = some (.int .i64 f.free) ∧ w'.cell? ⟨b, off + k * 3 + 1, none⟩ = some (.int .i64 f.slots) ∧ w'.cell? ⟨b, off + k * 3 + 2, none⟩ = some (.slice f.ao f.ins.length f.cap) ∧
      ∀ W : World, (Instr.indexAt 23 (.slice c.fa c.funs.length c.fc) (.int .i64 k)).run Tryd.prog W = .ok (.pointer (some ⟨b, off + k * 3, none⟩)) W := by
  subst hf
  have e : c.funs.getD k nofn = c.funs[k] := by rw [List.getD_eq_getElem?_getD, List.getElem?_eq_getElem hk]; rfl
  have hxm : c.funs.getD k nofn ∈ c.funs := by rw [e]; exact List.getElem_mem _
  obtain ⟨b, off, hta, hbN, hcell⟩ := hc.funs k (by simpa using hk)
  have hrow : (c.funs.map fnRow).getD k [] = fnRow (c.funs.getD k nofn) := by simp [List.getD, hk]
  rw [hrow] at hcell
  have hca : ∀ i, i < 3 → w'.cell? ⟨b, off + k * 3 + i, none⟩ = (fnRow (c.funs.getD k nofn))[i]? := fun i hi => (hb.cell (p := ⟨b, off + k * 3 + i, none⟩) hbN).trans (hcell i hi)
  exact ⟨hxm, (hc.wf _ hxm).1, b, off, hbN, hca 0 (by omega), hca 1 (by omega), hca 2 (by omega), index_at Tryd.underlying23 size48 hta c.funs.length c.fc k hk⟩

def ChkPost (c : Cd) (w : World) (e : Ending) (w' : World) : Prop := e = .returned (.agg #[.int .i64 (chkB c).1, .int .i64 (chkB c).2]) ∧ Below w.heap.size w w'

set_option maxHeartbeats 4000000 in
theorem pchk_any (c : Cd) (w : World) (hc : CodeAt w w.heap.size c) (hS : SignsAt w) (hok : FunsOk c) (hw : wgt c ≤ 1048576) :
    Calls Tryd.prog 10 #[c.val] w (ChkPost c w) := by
  have HC := Lib.hid hc
  have HS := Lib.hid hS
  have HOK := Lib.hid hok
  have HW := Lib.hid hw
  have hfl : c.funs.length ≤ 1048576 := by
    have := len_le_sum c.funs (fun f => f.ins.length)
    unfold wgt at hw
    omega
  clear hc hS hok hw
  unfold Cd.val
  have hbc := blk_alloc (heap_alloc_new w (.cells #[.slice c.ta c.texts.length c.tc, .slice c.fa c.funs.length c.fc] 25)) (.cells #[.int .i64 0, .int .i64 0] 34)
  have hbf := heap_alloc_new (w.alloc (.cells #[.slice c.ta c.texts.length c.tc, .slice c.fa c.funs.length c.fc] 25)) (.cells #[.int .i64 0, .int .i64 0] 34)
  rw [World.size_alloc] at hbf
  have HBW : Hid (Below w.heap.size w ((w.alloc (.cells #[.slice c.ta c.texts.length c.tc, .slice c.fa c.funs.length c.fc] 25)).alloc (.cells #[.int .i64 0, .int .i64 0] 34))) := balloc (balloc (Below.refl _ _) _) _
  obtain ⟨W, hW⟩ : ∃ W, W = (w.alloc (.cells #[.slice c.ta c.texts.length c.tc, .slice c.fa c.funs.length c.fc] 25)).alloc (.cells #[.int .i64 0, .int .i64 0] 34) := ⟨_, rfl⟩
  have hWs : W.heap.size = w.heap.size + 1 + 1 := by rw [hW, World.size_alloc, World.size_alloc]
  have HWs := Lib.hid hWs
  by_cases h0 : c.funs.length = 0
  · have hchk : chkB c = (17, 0) := by unfold chkB; rw [if_pos h0]
    have HCHK := Lib.hid hchk
    clear hchk hbc hbf hW hWs
    go_enter Tryd.func10, Tryd.ntmps10
    go_wp2
    refine bodyPost_ret (v := .agg #[.int .i64 17, .int .i64 0]) (by simp [results, Tryd.results10, go_sem]) rfl ⟨by rw [HCHK.out], balloc (balloc (Below.refl _ _) _) _⟩
  · have b0 : ((c.funs.length : Int) == 0) = false := by simpa using h0
    by_cases h6 : 60000 < c.funs.length
    · have hchk : chkB c = (17, 0) := by unfold chkB; rw [if_neg h0, if_pos h6]
      have HCHK := Lib.hid hchk
      clear hchk hbc hbf hW hWs h0
      go_enter Tryd.func10, Tryd.ntmps10
      go_wp2
      refine bodyPost_ret (v := .agg #[.int .i64 17, .int .i64 0]) (by simp [results, Tryd.results10, go_sem]) rfl ⟨by rw [HCHK.out], balloc (balloc (Below.refl _ _) _) _⟩
    · obtain ⟨f0, hf0⟩ : ∃ f, f = c.funs.getD 0 nofn := ⟨_, rfl⟩
      obtain ⟨_, _, b, off, hbN, a0, _, _, hia⟩ := fun_at HC.out (Below.refl _ w) (k := 0) (by omega) hf0
      simp only [Nat.zero_mul, Nat.add_zero] at a0 hia
      have hia0 : ∀ W : World, (Instr.indexAt 23 (.slice c.fa c.funs.length c.fc) (.int .i64 0)).run Tryd.prog W = .ok (.pointer (some ⟨b, off, none⟩)) W := hia
      clear hia
      by_cases hz : f0.free = 0
      · rw [hz] at a0
        have hchk : chkB c = chkGo c c.funs 0 0 := by unfold chkB; rw [if_neg h0, if_neg h6, ← hf0, if_pos hz]
        have HCHK := Lib.hid hchk
        clear hchk h0 hf0 hz
        go_enter Tryd.func10, Tryd.ntmps10
        go_wp2_with fail
        rw [← hW]
        rw [← hW] at hbc hbf HBW
        have HBC := Lib.hid hbc
        have HBF := Lib.hid hbf
        clear hbc hbf hW a0 hia0 b0
        go_loopw [3, 30] (fun n i wr => ∃ k : Nat, k ≤ c.funs.length ∧ i = .int .i64 k ∧ n = .int .i64 (insN c.funs k) ∧ chkGo c (c.funs.drop k) k (insN c.funs k) = chkB c ∧ Below W.heap.size W wr) (fun _ i _ => c.funs.length - (intOf i).toNat)
        case atStart => exact ⟨0, Nat.zero_le _, rfl, rfl, by rw [HCHK.out]; rfl, Below.refl _ _⟩
        case round =>
          obtain ⟨k, hk, rfl, rfl, hgo, hbl⟩ := hrel
          have hsz := hbl.size
          have hcc := blk_below HBC.out hbl (by omega)
          have hff := blk_below HBF.out hbl (by omega)
          have g0 : wr.cell? ⟨w.heap.size, 0, none⟩ = some (.slice c.ta c.texts.length c.tc) := blk_cell hcc 0
          have g1 : wr.cell? ⟨w.heap.size, 1, none⟩ = some (.slice c.fa c.funs.length c.fc) := blk_cell hcc 1
          have HBR := Lib.hid (bthen HBW.out hbl)
          have lt0 : w.heap.size < wr.heap.size := by omega
          have lt1 : w.heap.size + 1 < wr.heap.size := by omega
          by_cases hlt : k < c.funs.length
          · obtain ⟨f, hf⟩ : ∃ f, f = c.funs.getD k nofn := ⟨_, rfl⟩
            obtain ⟨hmem, _, b, off, hbN, a0, a1, a2, hia⟩ := fun_at HC.out HBR.out hlt hf
            have hst := chkGo_step (c := c) hlt (insN c.funs k)
            rw [← hf] at hst
            rw [hst] at hgo
            have hin := insN_succ hlt
            rw [← hf] at hin
            have hile := insN_le c.funs (k + 1)
            have hwg := HW.out
            unfold wgt at hwg
            have hi1 : insN c.funs k + f.ins.length ≤ 1048576 := by omega
            have hf1 := (funB_le (c := c) (f := f) (main := ((k : Int) == 0)))
            have HGO := Lib.hid hgo
            have HIN := Lib.hid hin
            have HBL := Lib.hid hbl
            have HCC := Lib.hid hcc
            have HFF := Lib.hid hff
            have HMEM := Lib.hid hmem
            have HF1 := Lib.hid hf1
            clear hst hgo hf hbl hcc hff hmem hin hf1 hwg hile
            go_wp2_with fail
            have hbx := heap_alloc_new wr (.cells #[.int .i64 f.free, .int .i64 f.slots, .slice f.ao f.ins.length f.cap] 48)
            refine (pfun_any c f _ _ (HC.out.later (bthen HBR.out (balloc (Below.refl _ _) _))) (HS.out.below (bthen HBR.out (balloc (Below.refl _ _) _))) HMEM.out HOK.out HW.out).mono ?_
            rintro e w4 ⟨rfl, hb4⟩
            have hb14 : Below wr.heap.size wr w4 := bthen (balloc (Below.refl _ _) _) hb4
            have hbx4 := blk_below hbx hb4 (by simp)
            have x2 : w4.cell? ⟨wr.heap.size, 2, none⟩ = some (.slice f.ao f.ins.length f.cap) := blk_cell hbx4 2
            have hff4 := blk_below HFF.out hb14 (by omega)
            have hs4 := hb14.size
            have r0 : w4.cell? ⟨w.heap.size + 1, 0, none⟩ = some (.int .i64 0) := blk_cell hff4 0
            have r1 : w4.cell? ⟨w.heap.size + 1, 1, none⟩ = some (.int .i64 0) := blk_cell hff4 1
            have z0 : w4.frozen? ⟨w.heap.size + 1, 0, none⟩ = false := blk_free hff4 0
            have z1 : w4.frozen? ⟨w.heap.size + 1, 1, none⟩ = false := blk_free hff4 1
            have lt4 : wr.heap.size < w4.heap.size := by have := hb4.size; rw [World.size_alloc] at this; omega
            have lt5 : w.heap.size + 1 < w4.heap.size := by omega
            have HB14 := Lib.hid (bthen HBL.out hb14)
            have HB15 := Lib.hid (bthen HBR.out hb14)
            have HFF4 := Lib.hid hff4
            clear hbx hb4 hbx4 hff4 hb14 a0 a1 a2 hia g0 g1
            generalize hfb : funB c f ((k : Int) == 0) = fb at *
            clear hfb
            obtain ⟨fe, fk⟩ := fb
            obtain ⟨v1, v2⟩ := HF1.out
            simp only at v1 v2
            by_cases hfe : fe = 0
            · subst hfe
              have hgo := HGO.out
              rw [if_pos rfl] at hgo
              have HGO2 := Lib.hid hgo
              clear hgo
              go_wp2_with fail
              go_roundw
              case rel => exact ⟨k + 1, by omega, by go_num, by rw [HIN.out]; go_num, by rw [HIN.out]; have := HGO2.out; push_cast; exact this, HB14.out⟩
              case measure => simp [intOf]; omega
            · have hgo := HGO.out
              rw [if_neg hfe] at hgo
              have HGO2 := Lib.hid hgo
              have bfe : (fe != 0) = true := by simpa using hfe
              clear hgo hfe
              go_wp2_with fail
              refine bodyPost_ret (v := .agg #[.int .i64 fe, .int .i64 (insN c.funs k + fk)]) (by simp [results, Tryd.results10, go_sem, *]) rfl ⟨by rw [← HGO2.out], ?_⟩
              exact (HB15.out.setCell (by simp) _).setCell (by simp) _
          · obtain rfl : k = c.funs.length := by omega
            have hres : chkB c = (0, 0) := by rw [← hgo]; simp [chkGo]
            have HRES := Lib.hid hres
            have r0 : wr.cell? ⟨w.heap.size + 1, 0, none⟩ = some (.int .i64 0) := blk_cell hff 0
            have r1 : wr.cell? ⟨w.heap.size + 1, 1, none⟩ = some (.int .i64 0) := blk_cell hff 1
            have z0 : wr.frozen? ⟨w.heap.size + 1, 0, none⟩ = false := blk_free hff 0
            have z1 : wr.frozen? ⟨w.heap.size + 1, 1, none⟩ = false := blk_free hff 1
            clear hgo hres hbl hcc hff hlt
            go_wp2_with fail
            refine bodyPost_ret (v := .agg #[.int .i64 0, .int .i64 0]) (by simp [results, Tryd.results10, go_sem, *]) rfl ⟨by rw [HRES.out], ?_⟩
            exact (HBR.out.setCell (by simp) _).setCell (by simp) _
      · have hz' : (f0.free != 0) = true := by simpa using hz
        have hchk : chkB c = (17, 0) := by unfold chkB; rw [if_neg h0, if_neg h6, ← hf0, if_neg hz]
        have HCHK := Lib.hid hchk
        clear hchk hbc hbf hW hWs h0 hz hf0
        go_enter Tryd.func10, Tryd.ntmps10
        go_wp2
        refine bodyPost_ret (v := .agg #[.int .i64 17, .int .i64 0]) (by simp [results, Tryd.results10, go_sem]) rfl ⟨by rw [HCHK.out], balloc (balloc (Below.refl _ _) _) _⟩

end Go.Proofs.YtebappmamaafaaaDoor
