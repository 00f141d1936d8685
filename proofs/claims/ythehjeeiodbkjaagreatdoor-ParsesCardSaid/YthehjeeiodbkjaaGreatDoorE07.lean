/-
  Proved: the contracts of the scanner's has and while; the contract of the scanner's gap; the contract of the scanner's escape. Conditions: the table of sorts, a text of at most 4000 bytes below 128.
-/
import Derived.Test.YthehjeeiodbkjaaGreatDoorE04
import Derived.Test.YthehjeeiodbkjaaGreatDoorE02
import Derived.Deep.DeepCutAuto
import Derived.Deep.CutBlock
import Derived.Deep.RegionHeld3
import Derived.ScopeJumps
import Derived.WalkMore
set_option linter.unusedSimpArgs false
set_option linter.unusedVariables false
set_option maxRecDepth 100000
set_option maxHeartbeats 16000000
namespace Go.Proofs.YthehjeeiodbkjaaGreatDoor
open Go.RowKit
/-- the scanner -/
def Scan (w : World) (b : Nat) (s : ByteArray) (i : Nat) : Prop := w.heap[b]? = some (.cells #[.string s, .int .i64 i] 56 (0, 0))
/-- the table of sorts -/
def Sorts (w : World) : Prop := ∀ k, k < 128 → w.cell? ⟨1, k, none⟩ = some (.int .i64 (srt k))
abbrev pv (b : Nat) : Value := .pointer (some ⟨b, 0, none⟩)
theorem Scan.lt {w : World} {b : Nat} {s : ByteArray} {i : Nat} (h : Scan w b s i) : b < w.heap.size := lt_of_block h
theorem Scan.below {w w' : World} {b : Nat} {s : ByteArray} {i : Nat} (h : Scan w b s i) (hb : Below w.heap.size w w') : Scan w' b s i := blk_below h hb h.lt
theorem Scan.set {w : World} {b : Nat} {s : ByteArray} {i : Nat} (h : Scan w b s i) (i' : Int) (k : Nat) (hk : i' = k) : Scan (w.setCell ⟨b, 1, none⟩ (.int .i64 i')) b s k := by
 subst hk; exact blk_set h 1 _
theorem Scan.drew {w : World} {b : Nat} {s : ByteArray} {i : Nat} (h : Scan w b s i) (n : Nat) : Scan (w.drewN n) b s i := h
def atOf (w : World) (b : Nat) : Nat := match w.cell? ⟨b, 1, none⟩ with | some (.int _ i) => i.toNat | _ => 0
theorem Scan.at {w : World} {b : Nat} {s : ByteArray} {i : Nat} (h : Scan w b s i) : atOf w b = i := by
 have r1 : w.cell? ⟨b, 1, none⟩ = some (.int .i64 i) := blk_cell h 1
 unfold atOf; rw [r1]; simp
theorem lhas_any (s t : ByteArray) (b i : Nat) (w : World) (hsc : Scan w b s i) (hs : s.size ≤ 4000) (hi : i ≤ s.size) (ht : t.size ≤ 4000) :
 Calls Tryz.prog 67 #[pv b, .string t] w fun e w' => e = .returned (.bool (atD s i t)) ∧ Below w.heap.size w w' := by
 have hlt := hsc.lt
 have r0 : w.cell? ⟨b, 0, none⟩ = some (.string s) := blk_cell hsc 0
 have r1 : w.cell? ⟨b, 1, none⟩ = some (.int .i64 i) := blk_cell hsc 1
 clear hsc
 have hw1 : IntKind.i64.wrap ((s.size : Int) - (i : Int)) = (s.size : Int) - i := IntWalk.i64_in _ (by omega)
 by_cases h : i + t.size ≤ s.size
 · have hd : decide ((t.size : Int) ≤ (s.size : Int) - (i : Int)) = true := by simp; omega
   have hd2 : decide ((s.size : Int) - (i : Int) < (t.size : Int)) = false := by simp; omega
   have hw2 : IntKind.i64.wrap ((i : Int) + t.size) = i + t.size := IntWalk.i64_in _ (by omega)
   have h0 : (0 : Int) ≤ (i : Int) := by omega
   have h1 : (i : Int) ≤ (i : Int) + t.size := by omega
   have h2 : (i : Int) + t.size ≤ (s.size : Int) := by omega
   go_enter Tryz.func67, Tryz.ntmps67
   go_wp2_with fail
   go_quiet (fail)
   go_wp2_with fail
   go_ret
   refine ⟨ret_bool ?_, (by exact bdrewN (Below.refl _ _) _)⟩
   rw [str_eq, Bool.eq_iff_iff]
   simp [atD, cut, h]
 · have hd : decide ((t.size : Int) ≤ (s.size : Int) - (i : Int)) = false := by simp; omega
   have hd2 : decide ((s.size : Int) - (i : Int) < (t.size : Int)) = true := by simp; omega
   go_enter Tryz.func67, Tryz.ntmps67
   go_wp2_with fail
   go_quiet (fail)
   go_wp2_with fail
   go_ret
   refine ⟨ret_bool ?_, (by exact bdrewN (Below.refl _ _) _)⟩
   simp [atD, h]
def inL (L : List Nat) (c : Nat) : Bool := L.any fun k => decide (c = k)
theorem inL_take (L : List Nat) (c k : Nat) (h : k < L.length) : inL (L.take (k + 1)) c = (inL (L.take k) c || decide (c = L.getD k 0)) := by
 unfold inL
 rw [List.take_succ_eq_append_getElem h, List.any_append]
 simp [List.getD, h]
def IntsAt (w : World) (q : Nat) (L : List Nat) : Prop := ∀ k, k < L.length → w.cell? ⟨q, k, none⟩ = some (.int .i64 (L.getD k 0 : Nat))
/-- nothing that a step needs is changed by what it does -/
theorem gr_cell {w w' : World} {b q k : Nat} {v : Value} (h : w.grownBy w' (some b)) (hne : q ≠ b) (hc : w.cell? ⟨q, k, none⟩ = some v) : w'.cell? ⟨q, k, none⟩ = some v := by
 have hl := World.block_lt_of_cell? w _ hc
 have e : w'.heap[q]? = w.heap[q]? := h.block q hl (fun e => hne (Option.some.inj e))
 unfold World.cell? at hc ⊢
 simp only at hc ⊢
 rw [e]
 exact hc
theorem gr_refl (w : World) (row : Option Nat) : w.grownBy w row := ⟨rfl, rfl, rfl, Nat.le_refl _, fun _ _ _ => rfl⟩
theorem while_any (s : ByteArray) (b q i0 : Nat) (L : List Nat) (p : Nat → Bool) (w : World) (hsc : Scan w b s i0) (hs : s.size ≤ 4000) (hi : i0 ≤ s.size) (hso : Sorts w) (hA : ∀ k, k < s.size → bt s k < 128) (hL : IntsAt w q L) (hq : q ≠ b) (hb : 1 ≠ b) (hn : L.length ≤ 4000) (hp : ∀ c, c < 128 → inL L (srt c) = p c) :
 Calls Tryz.prog 66 #[pv b, .slice (some ⟨q, 0, none⟩) L.length L.length] w fun e w' => e = .returned (.tuple #[]) ∧ Scan w' b s (whD s p i0) ∧ w.grownBy w' (some b) := by
 have HSC := lh hsc
 have HSO := lh hso
 have HL := lh hL
 have HP := lh hp
 clear hsc hso hL hp
 go_enter Tryz.func66, Tryz.ntmps66
 go_wp2_with fail
 go_loopw [] (fun wr => ∃ i : Nat, i ≤ s.size ∧ Scan wr b s i ∧ w.grownBy wr (some b) ∧ whD s p i = whD s p i0) (fun wr => s.size - atOf wr b)
 case atStart => exact ⟨i0, hi, HSC.out, gr_refl _ _, rfl⟩
 case round =>
  obtain ⟨i, hi, hsc, hgr, hst⟩ := hrel
  have r0 : wr.cell? ⟨b, 0, none⟩ = some (.string s) := blk_cell hsc 0
  have r1 : wr.cell? ⟨b, 1, none⟩ = some (.int .i64 i) := blk_cell hsc 1
  have z1 : wr.frozen? ⟨b, 1, none⟩ = false := blk_free hsc 1
  have hbl := hsc.lt
  have hat := hsc.at
  by_cases hlt : i < s.size
  · have h0 : (0 : Int) ≤ (i : Int) := by omega
    have h1 : (i : Int) < (s.size : Int) := by omega
    obtain ⟨c, hcb⟩ : ∃ c, c = bt s i := ⟨_, rfl⟩
    have hck := bt_eq hlt hcb
    have hc := hA i hlt
    rw [← hcb] at hc
    have hsr : wr.cell? ⟨1, c, none⟩ = some (.int .i64 (srt c)) := gr_cell hgr hb (HSO.out c hc)
    have HGR := lh hgr
    have HST := lh hst
    have HS := lh hsc
    have HC := lh hcb
    have HAT := lh hat
    clear hgr hst hsc hcb hat
    have c0 : (0 : Int) ≤ (c : Int) := by omega
    have c1 : (c : Int) < 128 := by omega
    go_wp2_with fail
    go_quiet (fail)
    go_wp2_with fail
    have hs1 := HS.out.drew nq
    have hg1 := gr_trans HGR.out (gr_drew wr nq (some b))
    clear HGR HS r0 r1 z1 hbl hsr
    generalize wr.drewN nq = w1 at hs1 hg1 ⊢
    have r0 : w1.cell? ⟨b, 0, none⟩ = some (.string s) := blk_cell hs1 0
    have r1 : w1.cell? ⟨b, 1, none⟩ = some (.int .i64 i) := blk_cell hs1 1
    have hsr : w1.cell? ⟨1, c, none⟩ = some (.int .i64 (srt c)) := gr_cell hg1 hb (HSO.out c hc)
    have hbl := hs1.lt
    have HS1 := lh hs1
    have HG1 := lh hg1
    clear hs1 hg1
    go_quiet (fail)
    go_wp2_with fail
    have hs2 := HS1.out.drew nq
    have hg2 := gr_trans HG1.out (gr_drew w1 nq (some b))
    clear HG1 HS1 r0 r1 hbl hsr
    generalize w1.drewN nq = w2 at hs2 hg2 ⊢
    have r0 : w2.cell? ⟨b, 0, none⟩ = some (.string s) := blk_cell hs2 0
    have r1 : w2.cell? ⟨b, 1, none⟩ = some (.int .i64 i) := blk_cell hs2 1
    have z1 : w2.frozen? ⟨b, 1, none⟩ = false := blk_free hs2 1
    have hbl : b < w2.heap.size := hs2.lt
    have HS2 := lh hs2
    have HG2 := lh hg2
    clear hs2 hg2 hck
    generalize hz : srt c = z
    have HZ := lh hz
    clear hz
    go_loop [5, 31] (fun v j => ∃ k : Nat, k ≤ L.length ∧ j = .int .i64 k ∧ v = .bool (inL (L.take k) z)) (fun _ j => L.length - (intOf j).toNat)
    case atStart => exact ⟨0, Nat.zero_le _, rfl, rfl⟩
    case round =>
     obtain ⟨k, hk, rfl, rfl⟩ := hrel
     by_cases hk2 : k < L.length
     · have hcell := gr_cell HG2.out hq (HL.out k hk2)
       have htk := inL_take L z k hk2
       generalize L.getD k 0 = g at hcell htk
       have HTK := lh htk
       clear htk
       have k0 : (0 : Int) ≤ (k : Int) := by omega
       have k1 : (k : Int) < (L.length : Int) := by omega
       cases hv : inL (L.take k) z with
       | true =>
        have HV := lh hv
        clear hv
        go_wp2_with fail
        go_round
        case rel => exact ⟨k + 1, by omega, by go_num, by rw [HTK.out, HV.out]; rfl⟩
        case measure => simp [intOf]; omega
       | false =>
        have HV := lh hv
        clear hv
        go_wp2_with fail
        go_round
        case rel => exact ⟨k + 1, by omega, by go_num, by rw [HTK.out, HV.out, Bool.false_or]; congr 1; rw [Bool.eq_iff_iff]; simp; omega⟩
        case measure => simp [intOf]; omega
     · obtain rfl : k = L.length := by omega
       have hpc := HP.out c hc
       rw [HZ.out] at hpc
       have k1 : ¬ (L.length : Int) < (L.length : Int) := by omega
       rw [List.take_length, hpc]
       have HPC := lh hpc
       clear hpc
       cases hv : p c with
       | true =>
        have hst := whD_step (s := s) (p := p) hlt (by rw [← HC.out]; exact hv)
        have HST2 := lh hst
        have hwx : IntKind.i64.wrap ((i : Int) + 1) = i + 1 := IntWalk.i64_in _ (by omega)
        clear hst
        go_wp2_with fail
        go_roundw
        case rel => exact ⟨i + 1, by omega, HS2.out.set _ _ (by push_cast; rfl), gr_trans HG2.out (gr_set _ _ _ _), by rw [← HST2.out]; exact HST.out⟩
        case measure => rw [(HS2.out.set _ (i + 1) (by push_cast; rfl)).at, HAT.out]; omega
       | false =>
        have hst := whD_stop (s := s) (p := p) hlt (by rw [← HC.out]; exact hv)
        have HST2 := lh hst
        clear hst
        go_wp2_with fail
        refine bodyPost_ret (results_none rfl _ _ _) rfl ?_
        exact ⟨rfl, by rw [← HST.out, HST2.out]; exact HS2.out, HG2.out⟩
  · have h1 : ¬ (i : Int) < (s.size : Int) := by omega
    have hend := whD_end (s := s) (p := p) (i := i) (by omega)
    rw [hend] at hst
    have HST := lh hst
    have HGR := lh hgr
    have HS := lh hsc
    clear hst hgr hsc hend hat
    have hd : decide ((i : Int) < (s.size : Int)) = false := by simp; omega
    go_wp2_with fail
    go_quiet (fail)
    go_wp2_with fail
    go_end0
    exact ⟨rfl, by rw [← HST.out]; exact HS.out.drew _, gr_trans HGR.out (gr_drew _ _ _)⟩
theorem Scan.facts {w : World} {b : Nat} {s : ByteArray} {i : Nat} (h : Scan w b s i) : w.cell? ⟨b, 0, none⟩ = some (.string s) ∧ w.cell? ⟨b, 1, none⟩ = some (.int .i64 i) ∧ w.frozen? ⟨b, 1, none⟩ = false ∧ b < w.heap.size :=
 ⟨blk_cell h 0, blk_cell h 1, blk_free h 1, h.lt⟩
theorem Sorts.gr {w w' : World} {b : Nat} (h : Sorts w) (hg : w.grownBy w' (some b)) (hb : 1 ≠ b) : Sorts w' := fun k hk => gr_cell hg hb (h k hk)
theorem ints_new (w : World) (L : List Nat) (c : Array Value) (t : TypeId) (h : c = (L.map fun (k : Nat) => (Value.int .i64 k : Value)).toArray) : IntsAt (w.alloc (.cells c t)) w.heap.size L := by
 subst h
 intro k hk
 rw [World.cell?_alloc_at _ _ _ _ rfl]
 simp [hk]
theorem whD_not (s : ByteArray) (p : Nat → Bool) (i : Nat) : whD s p i < s.size → p (bt s (whD s p i)) = false := by
 induction i using whD.induct s p with
 | case1 i h hp ih => rw [whD_step h hp]; exact ih
 | case2 i h hp => rw [whD_stop h (by simpa using hp)]; intro _; simpa using hp
 | case3 i h => rw [whD_end (by omega)]; intro h2; exact absurd h2 h
theorem has2 (s : ByteArray) (b i : Nat) (a c : UInt8) (w : World) (hsc : Scan w b s i) (hs : s.size ≤ 4000) (hi : i ≤ s.size) :
 Calls Tryz.prog 67 #[pv b, .string ⟨#[a, c]⟩] w fun e w' => e = .returned (.bool (hasD s i a.toNat c.toNat)) ∧ Below w.heap.size w w' := by
 rw [← atD_two]
 exact lhas_any s _ b i w hsc hs hi (by show 2 ≤ _; omega)
theorem has_open (s : ByteArray) (b i : Nat) (w : World) (hsc : Scan w b s i) (hs : s.size ≤ 4000) (hi : i ≤ s.size) :
 Calls Tryz.prog 67 #[pv b, .string ⟨#[40, 42]⟩] w fun e w' => e = .returned (.bool (hasD s i 40 42)) ∧ Below w.heap.size w w' := has2 s b i 40 42 w hsc hs hi
theorem has_close (s : ByteArray) (b i : Nat) (w : World) (hsc : Scan w b s i) (hs : s.size ≤ 4000) (hi : i ≤ s.size) :
 Calls Tryz.prog 67 #[pv b, .string ⟨#[42, 41]⟩] w fun e w' => e = .returned (.bool (hasD s i 42 41)) ∧ Below w.heap.size w w' := has2 s b i 42 41 w hsc hs hi
theorem wp_again {P : Program} {a : Act} {w : World} {Q : Exit → Act → World → Prop} {rest : Code} {l : Nat} (J : Act → World → Prop) (μ : Act → World → Nat) (start : J a w)
 (pass : ∀ a w, J a w → rest.wp P (Exit.jump l (fun a' w' => J a' w' ∧ μ a' w' < μ a w) Q) a w) : (Code.scope ((Code.label l).seq rest)).wp P Q a w :=
 wp_scope_jumps l J μ (by simp [findLabel]) (wp_seq (wp_label (wp_mono (pass a w start) (by
  intro e a w h
  cases e <;> first | exact h | exact ⟨h.1, h.2.1⟩)))) (fun a w h => wp_seq (wp_skip (pass a w h)))
theorem blank_sort : ∀ c, c < 128 → inL [1] (srt c) = blank c := by decide +kernel
theorem gap_any (s : ByteArray) (b i0 : Nat) (w : World) (hsc : Scan w b s i0) (hs : s.size ≤ 4000) (hi : i0 ≤ s.size) (hso : Sorts w) (hA : ∀ k, k < s.size → bt s k < 128) (hb : 1 ≠ b) :
 Calls Tryz.prog 32 #[pv b] w fun e w' => e = .returned (.bool (gapD s i0).2) ∧ Scan w' b s (gapD s i0).1 ∧ w.grownBy w' (some b) := by
 have HSC := lh hsc
 have HSO := lh hso
 clear hsc hso
 go_enter Tryz.func32, Tryz.ntmps32
 go_wp2_with fail
 refine wp_again (fun a' wr => (∃ (u1 u2 u3 u4 u5 u6 u7 u8 u9 u10 u11 u12 u13 u14 u15 u16 u17 u18 u19 u20 u21 u22 u23 u24 u25 u26 u27 u28 u29 u30 u31 u32 u33 u34 u35 u36 u37 u38 u39 u40 u41 u42 u43 u44 u45 u46 u47 u48 u49 u50 u51 u52 u53 u54 u55 u56 u57 u58 u59 u60 u61 : Value), a' = { tmps := #[pv b, u1, u2, u3, u4, u5, u6, u7, u8, u9, u10, u11, u12, u13, u14, u15, u16, u17, u18, u19, u20, u21, u22, u23, u24, u25, u26, u27, u28, u29, u30, u31, u32, u33, u34, u35, u36, u37, u38, u39, u40, u41, u42, u43, u44, u45, u46, u47, u48, u49, u50, u51, u52, u53, u54, u55, u56, u57, u58, u59, u60, u61], defers := [] }) ∧ ∃ k : Nat, k ≤ s.size ∧ Scan wr b s k ∧ w.grownBy wr (some b) ∧ gapD s k = gapD s i0) (fun _ wr => s.size - atOf wr b) ?_ ?_
 · refine ⟨⟨_, _, _, _, _, _, _, _, _, _, _, _, _, _, _, _, _, _, _, _, _, _, _, _, _, _, _, _, _, _, _, _, _, _, _, _, _, _, _, _, _, _, _, _, _, _, _, _, _, _, _, _, _, _, _, _, _, _, _, _, _, rfl⟩, i0, hi, HSC.out, gr_refl _ _, rfl⟩
 · rintro a' wr ⟨⟨u1, u2, u3, u4, u5, u6, u7, u8, u9, u10, u11, u12, u13, u14, u15, u16, u17, u18, u19, u20, u21, u22, u23, u24, u25, u26, u27, u28, u29, u30, u31, u32, u33, u34, u35, u36, u37, u38, u39, u40, u41, u42, u43, u44, u45, u46, u47, u48, u49, u50, u51, u52, u53, u54, u55, u56, u57, u58, u59, u60, u61, rfl⟩, k, hk, hsc, hgr, hc⟩
   have hat := hsc.at
   obtain ⟨r0, r1, z1, hbl⟩ := hsc.facts
   have HS := lh hsc
   have HG := lh hgr
   have HC := lh hc
   have HAT0 := lh hat
   clear hsc hgr hc hat
   go_wp2_with fail
   refine (while_any s b wr.heap.size k [1] blank _ (blk_alloc HS.out _) hs hk ((HSO.out.gr HG.out hb).gr (World.grownBy_alloc wr _ (some b)) hb) hA (ints_new wr [1] _ _ rfl) (by omega) hb (by decide) blank_sort).mono ?_
   rintro e w1 ⟨rfl, hs1, hg1⟩
   have hg1' := gr_trans (gr_trans HG.out (World.grownBy_alloc wr _ (some b))) hg1
   have hwh := whD_ge s blank k
   have hno := whD_not s blank k
   have hgw := gapD_wh (s := s) k
   rw [HC.out] at hgw
   generalize whD s blank k = k1 at hs1 hwh hno hgw
   have hk1 := hwh.2 hk
   clear r0 r1 z1 hbl hg1 HS HG
   obtain ⟨r0, r1, z1, hbl⟩ := hs1.facts
   have HS := lh hs1
   have HG := lh hg1'
   have HGW := lh hgw
   clear hs1 hg1' hgw
   go_wp2_with fail
   refine (has_open s b k1 _ HS.out hs hk1).mono ?_
   rintro e w2 ⟨rfl, hb2⟩
   have hs2 := HS.out.below hb2
   have hg2 := gr_trans HG.out (gr_below hb2 (some b))
   clear r0 r1 z1 hbl HS HG hb2
   obtain ⟨r0, r1, z1, hbl⟩ := hs2.facts
   have HS := lh hs2
   have HG := lh hg2
   clear hs2 hg2
   cases hh : hasD s k1 40 42 with
   | false =>
    have hst := gapD_stop hh hno
    rw [← HGW.out] at hst
    have HST := lh hst
    clear hst hno
    go_wp2_with fail
    simp only [Exit.jump]
    go_ret
    rw [HST.out]
    exact ⟨rfl, HS.out, HG.out⟩
   | true =>
    have HH := lh hh
    have hk2 := (hasD_pos hh).1
    clear hh hno
    go_wp2_with fail
    go_loopw [4] (fun o wr => ∃ k' q : Nat, k' ≤ s.size ∧ q ≤ k' ∧ Scan wr b s k' ∧ w.grownBy wr (some b) ∧ o = .int .i64 q ∧ ((k' = k1 ∧ q = 0) ∨ 1 ≤ q) ∧ comD s k' q = comD s k1 0) (fun _ wr => s.size - atOf wr b)
    case atStart => exact ⟨k1, 0, hk1, by omega, HS.out, HG.out, rfl, .inl ⟨rfl, rfl⟩, rfl⟩
    case round =>
     obtain ⟨k', q, hk', hq, hsc, hgr, rfl, hor, hcm⟩ := hrel
     have hat := hsc.at
     have hlw : k ≤ k1 := hwh.1
     obtain ⟨r0, r1, z1, hbl⟩ := hsc.facts
     have HS := lh hsc
     have HG := lh hgr
     have HC := lh hcm
     have HOR := lh hor
     have HAT := lh hat
     clear hsc hgr hcm hor hat
     by_cases hlt : k' < s.size
     · have hd : decide ((k' : Int) < (s.size : Int)) = true := by simp; omega
       go_wp2_with fail
       go_quiet (fail)
       go_wp2_with fail
       have hs3 := HS.out.drew nq
       have hg3 := gr_trans HG.out (gr_drew wr nq (some b))
       clear HS HG r0 r1 z1 hbl hd
       generalize wr.drewN nq = w3 at hs3 hg3 ⊢
       refine (has_open s b k' _ hs3 hs hk').mono ?_
       rintro e w4 ⟨rfl, hb4⟩
       have hs4 := hs3.below hb4
       have hg4 := gr_trans hg3 (gr_below hb4 (some b))
       clear hs3 hg3 hb4
       obtain ⟨r0, r1, z1, hbl⟩ := hs4.facts
       have HS4 := lh hs4
       have HG4 := lh hg4
       cases hb1 : hasD s k' 40 42 with
       | true =>
        have hst := comD_open (o := q) hlt hb1
        have HST := lh hst
        have hp := (hasD_pos hb1).1
        have hz : ((q : Int) + 1 == 0) = false := by simp; omega
        have hwx : IntKind.i64.wrap ((k' : Int) + 2) = k' + 2 := IntWalk.i64_in _ (by omega)
        have hwq : IntKind.i64.wrap ((q : Int) + 1) = q + 1 := IntWalk.i64_in _ (by omega)
        clear hst hs4 hg4 hb1
        go_wp2_with fail
        go_roundw
        case rel => exact ⟨k' + 2, q + 1, by omega, by omega, HS4.out.set _ _ (by push_cast; rfl), gr_trans HG4.out (gr_set _ _ _ _), by push_cast; rfl, .inr (by omega), by rw [← HST.out]; exact HC.out⟩
        case measure => rw [(HS4.out.set _ (k' + 2) (by push_cast; rfl)).at, HAT.out]; omega
       | false =>
        have hq1 : 1 ≤ q := by
         rcases HOR.out with ⟨rfl, _⟩ | h
         · have := HH.out; rw [hb1] at this; cases this
         · exact h
        have HB1 := lh hb1
        clear hs4 hg4 hb1
        go_wp2_with fail
        refine (has_close s b k' _ HS4.out hs hk').mono ?_
        rintro e w5 ⟨rfl, hb5⟩
        have hs5 := HS4.out.below hb5
        have hg5 := gr_trans HG4.out (gr_below hb5 (some b))
        clear HS4 HG4 r0 r1 z1 hbl hb5
        obtain ⟨r0, r1, z1, hbl⟩ := hs5.facts
        have HS5 := lh hs5
        have HG5 := lh hg5
        clear hs5 hg5
        cases he : hasD s k' 42 41 with
        | true =>
         have hst := comD_close (o := q) hlt he
         have hp := (hasD_pos he).1
         have hwx : IntKind.i64.wrap ((k' : Int) + 2) = k' + 2 := IntWalk.i64_in _ (by omega)
         have hwq : IntKind.i64.wrap ((q : Int) - 1) = q - 1 := IntWalk.i64_in _ (by omega)
         clear he
         by_cases h1 : q = 1
         · subst h1
           rw [if_pos rfl, HC.out] at hst
           have hgc := gapD_com HH.out hst
           have hlt2 := comD_lt _ _ hst
           have HGC := lh hgc
           clear hst hgc
           go_wp2_with fail
           go_step3
           simp only [Exit.then, Exit.inBlock, Exit.jump]
           refine ⟨rfl, ⟨⟨_, _, _, _, _, _, _, _, _, _, _, _, _, _, _, _, _, _, _, _, _, _, _, _, _, _, _, _, _, _, _, _, _, _, _, _, _, _, _, _, _, _, _, _, _, _, _, _, _, _, _, _, _, _, _, _, _, _, _, _, _, rfl⟩, k' + 2, by omega, HS5.out.set _ _ (by push_cast; rfl), gr_trans HG5.out (gr_set _ _ _ _), by rw [← HGC.out, ← HGW.out]⟩, ?_⟩
           rw [(HS5.out.set _ (k' + 2) (by push_cast; rfl)).at, HAT0.out]; omega
         · have hz : ((q : Int) - 1 == 0) = false := by simp; omega
           rw [if_neg h1] at hst
           have HST := lh hst
           have H1 := lh h1
           clear h1 hst
           go_wp2_with fail
           go_roundw
           case rel => exact ⟨k' + 2, q - 1, by omega, by omega, HS5.out.set _ _ (by push_cast; rfl), gr_trans HG5.out (gr_set _ _ _ _), by rw [show ((q - 1 : Nat) : Int) = (q : Int) - 1 from by omega], .inr (by have := H1.out; omega), by rw [← HST.out]; exact HC.out⟩
           case measure => rw [(HS5.out.set _ (k' + 2) (by push_cast; rfl)).at, HAT.out]; omega
        | false =>
         have hst := comD_else (o := q) hlt HB1.out he
         rw [if_neg (by omega)] at hst
         have HST := lh hst
         have hz : ((q : Int) == 0) = false := by simp; omega
         have hwx : IntKind.i64.wrap ((k' : Int) + 1) = k' + 1 := IntWalk.i64_in _ (by omega)
         clear hst he
         go_wp2_with fail
         go_roundw
         case rel => exact ⟨k' + 1, q, by omega, by omega, HS5.out.set _ _ (by push_cast; rfl), gr_trans HG5.out (gr_set _ _ _ _), rfl, .inr hq1, by rw [← HST.out]; exact HC.out⟩
         case measure => rw [(HS5.out.set _ (k' + 1) (by push_cast; rfl)).at, HAT.out]; omega
     · have hd : decide ((k' : Int) < (s.size : Int)) = false := by simp; omega
       have hst := comD_end (s := s) (i := k') (o := q) (by omega)
       rw [HC.out] at hst
       have hgb := gapD_bad HH.out hst
       rw [← HGW.out] at hgb
       have HST := lh hgb
       clear hst hgb
       go_wp2_with fail
       go_quiet (fail)
       go_wp2_with fail
       simp only [Exit.jump]
       go_ret
       rw [HST.out]
       exact ⟨rfl, (HS.out.drew _).set _ _ rfl, gr_trans (gr_trans HG.out (gr_drew _ _ _)) (gr_set _ _ _ _)⟩
def EscPost (s : ByteArray) (b i : Nat) (w : World) (e : Ending) (w' : World) : Prop :=
 w.grownBy w' (some b) ∧ match escD s (i + 1) with
  | some (v, j) => e = .returned (.tuple #[.int .u8 v, .bool true]) ∧ Scan w' b s (j - 1)
  | none => ∃ v, e = .returned (.tuple #[v, .bool false])
theorem EscPost.ok {s : ByteArray} {b i v j : Nat} {w w' : World} {e : Ending} (h : escD s (i + 1) = some (v, j)) (hg : w.grownBy w' (some b)) (he : e = .returned (.tuple #[.int .u8 v, .bool true])) (hs : Scan w' b s (j - 1)) : EscPost s b i w e w' := by
 refine ⟨hg, ?_⟩
 rw [h]
 exact ⟨he, hs⟩
theorem EscPost.bad {s : ByteArray} {b i : Nat} {w w' : World} {e : Ending} {v : Value} (h : escD s (i + 1) = none) (hg : w.grownBy w' (some b)) (he : e = .returned (.tuple #[v, .bool false])) : EscPost s b i w e w' := by
 refine ⟨hg, ?_⟩
 rw [h]
 exact ⟨v, he⟩
/-- the number of the first digits behind a place -/
def nD (s : ByteArray) (i : Nat) : Nat → Nat
 | 0 => 0
 | k + 1 => 10 * nD s i k + (bt s (i + k) - 48)
theorem dig_sort : ∀ c, c < 128 → (srt c = 2 ↔ dig c = true) := by decide +kernel
theorem dig_ge {c : Nat} (h : dig c = true) : 48 ≤ c ∧ c ≤ 57 := by simpa [dig] using h
theorem nD_bd (s : ByteArray) (i k : Nat) (h : ∀ m, m < k → dig (bt s (i + m)) = true) (hk : k ≤ 3) : nD s i k ≤ 999 ∧ (k ≤ 2 → nD s i k ≤ 99) ∧ (k ≤ 1 → nD s i k ≤ 9) := by
 have g : ∀ m, m < k → 48 ≤ bt s (i + m) ∧ bt s (i + m) ≤ 57 := fun m hm => dig_ge (h m hm)
 rcases (by omega : k = 0 ∨ k = 1 ∨ k = 2 ∨ k = 3) with rfl | rfl | rfl | rfl
 · simp [nD]
 · have := g 0 (by omega); simp [nD] at *; omega
 · have := g 0 (by omega); have := g 1 (by omega); simp [nD] at *; omega
 · have := g 0 (by omega); have := g 1 (by omega); have := g 2 (by omega); simp [nD] at *; omega
theorem escD_num {s : ByteArray} {i : Nat} (hi : i < s.size) (h1 : bt s i ≠ 110) (h2 : bt s i ≠ 116) (h3 : ¬ (bt s i = 92 ∨ bt s i = 34)) :
 escD s i = if i + 2 < s.size ∧ dig (bt s i) ∧ dig (bt s (i + 1)) ∧ dig (bt s (i + 2)) then (if nD s i 3 < 256 then some (nD s i 3, i + 3) else none) else none := by
 unfold escD
 have e : nD s i 3 = 10 * (10 * (bt s i - 48) + (bt s (i + 1) - 48)) + (bt s (i + 2) - 48) := by simp [nD]
 rw [if_pos hi, if_neg h1, if_neg h2, if_neg h3, e]
 have e2 : 100 * (bt s i - 48) + 10 * (bt s (i + 1) - 48) + (bt s (i + 2) - 48) = 10 * (10 * (bt s i - 48) + (bt s (i + 1) - 48)) + (bt s (i + 2) - 48) := by omega
 rw [e2]
theorem escape_any (s : ByteArray) (b i : Nat) (w : World) (hsc : Scan w b s i) (hs : s.size ≤ 4000) (hi : i < s.size) (hso : Sorts w) (hA : ∀ k, k < s.size → bt s k < 128) (hb : 1 ≠ b) :
 Calls Tryz.prog 128 #[pv b] w (EscPost s b i w) := by
 obtain ⟨r0, r1, z1, hbl⟩ := hsc.facts
 have HS := lh hsc
 have HSO := lh hso
 have HG := lh (gr_refl w (some b))
 have hw1 : IntKind.i64.wrap ((i : Int) + 1) = i + 1 := IntWalk.i64_in _ (by omega)
 clear hsc hso
 go_enter Tryz.func128, Tryz.ntmps128
 by_cases hlt : i + 1 < s.size
 · have hd : (((i : Int) + 1) == (s.size : Int)) = false := by simp; omega
   have h0 : (0 : Int) ≤ (i : Int) + 1 := by omega
   have h1 : (i : Int) + 1 < (s.size : Int) := by omega
   have ht : ((i : Int) + 1).toNat = i + 1 := by omega
   obtain ⟨c, hcb⟩ : ∃ c, c = bt s (i + 1) := ⟨_, rfl⟩
   have hck := bt_eq hlt hcb
   have HC := lh hcb
   clear hcb
   go_wp2_with fail
   have hsX := HS.out.set ((i : Int) + 1) (i + 1) (by omega)
   have hgX := gr_trans HG.out (gr_set w b 1 (.int .i64 ((i : Int) + 1)))
   clear HS HG r0 r1 z1 hbl
   generalize w.setCell ⟨b, 1, none⟩ (.int .i64 ((i : Int) + 1)) = w1 at hsX hgX ⊢
   obtain ⟨r0, r1, z1, hbl⟩ := hsX.facts
   have HS := lh hsX
   have HG := lh hgX
   clear hsX hgX
   go_quiet (fail)
   go_wp2_with fail
   have hsX := HS.out.drew nq
   have hgX := gr_trans HG.out (gr_drew w1 nq (some b))
   clear HS HG r0 r1 z1 hbl
   generalize w1.drewN nq = w2 at hsX hgX ⊢
   obtain ⟨r0, r1, z1, hbl⟩ := hsX.facts
   have HS := lh hsX
   have HG := lh hgX
   clear hsX hgX
   by_cases c110 : c = 110
   · have e110 : ((c : Int) == 110) = true := by simp [c110]
     go_quiet (fail)
     go_wp2_with fail
     have hsX := HS.out.drew nq
     have hgX := gr_trans HG.out (gr_drew w2 nq (some b))
     clear HS HG r0 r1 z1 hbl
     generalize w2.drewN nq = w3 at hsX hgX ⊢
     obtain ⟨r0, r1, z1, hbl⟩ := hsX.facts
     have HS := lh hsX
     have HG := lh hgX
     clear hsX hgX
     clear hck hd ht
     go_ret2
     exact EscPost.ok (v := 10) (j := i + 2) (by unfold escD; rw [if_pos hlt, ← HC.out, if_pos c110]) HG.out rfl (by show Scan _ _ _ (i + 2 - 1); exact HS.out)
   · have e110 : ((c : Int) == 110) = false := by simp; omega
     by_cases c116 : c = 116
     · have e116 : ((c : Int) == 116) = true := by simp [c116]
       go_quiet (fail)
       go_wp2_with fail
       have hsX := HS.out.drew nq
       have hgX := gr_trans HG.out (gr_drew w2 nq (some b))
       clear HS HG r0 r1 z1 hbl
       generalize w2.drewN nq = w3 at hsX hgX ⊢
       obtain ⟨r0, r1, z1, hbl⟩ := hsX.facts
       have HS := lh hsX
       have HG := lh hgX
       clear hsX hgX
       clear hck hd ht
       go_ret2
       exact EscPost.ok (v := 9) (j := i + 2) (by unfold escD; rw [if_pos hlt, ← HC.out, if_neg c110, if_pos c116]) HG.out rfl (by show Scan _ _ _ (i + 2 - 1); exact HS.out)
     · have e116 : ((c : Int) == 116) = false := by simp; omega
       by_cases c92 : c = 92
       · have e92 : ((c : Int) == 92) = true := by simp [c92]
         go_quiet (fail)
         go_wp2_with fail
         have hsX := HS.out.drew nq
         have hgX := gr_trans HG.out (gr_drew w2 nq (some b))
         clear HS HG r0 r1 z1 hbl
         generalize w2.drewN nq = w3 at hsX hgX ⊢
         obtain ⟨r0, r1, z1, hbl⟩ := hsX.facts
         have HS := lh hsX
         have HG := lh hgX
         clear hsX hgX
         clear hck hd ht
         go_ret2
         exact EscPost.ok (v := 92) (j := i + 2) (by unfold escD; rw [if_pos hlt, ← HC.out, if_neg c110, if_neg c116, if_pos (.inl c92), c92]) HG.out rfl (by show Scan _ _ _ (i + 2 - 1); exact HS.out)
       · have e92 : ((c : Int) == 92) = false := by simp; omega
         by_cases c34 : c = 34
         · have e34 : ((c : Int) == 34) = true := by simp [c34]
           go_quiet (fail)
           go_wp2_with fail
           have hsX := HS.out.drew nq
           have hgX := gr_trans HG.out (gr_drew w2 nq (some b))
           clear HS HG r0 r1 z1 hbl
           generalize w2.drewN nq = w3 at hsX hgX ⊢
           obtain ⟨r0, r1, z1, hbl⟩ := hsX.facts
           have HS := lh hsX
           have HG := lh hgX
           clear hsX hgX
           clear hck hd ht
           go_ret2
           exact EscPost.ok (v := 34) (j := i + 2) (by unfold escD; rw [if_pos hlt, ← HC.out, if_neg c110, if_neg c116, if_pos (.inr c34), c34]) HG.out rfl (by show Scan _ _ _ (i + 2 - 1); exact HS.out)
         · have e34 : ((c : Int) == 34) = false := by simp; omega
           have hes := escD_num hlt (by rw [← HC.out]; exact c110) (by rw [← HC.out]; exact c116) (by rw [← HC.out]; omega)
           have HES := lh hes
           clear hes
           go_quiet (fail)
           go_wp2_with fail
           have hsX := HS.out.drew nq
           have hgX := gr_trans HG.out (gr_drew w2 nq (some b))
           clear HS HG r0 r1 z1 hbl
           generalize w2.drewN nq = w3 at hsX hgX ⊢
           obtain ⟨r0, r1, z1, hbl⟩ := hsX.facts
           have HS := lh hsX
           have HG := lh hgX
           clear hsX hgX
           clear hck hd ht
           clear e110 e116 e92 e34 c110 c116 c92 c34
           go_loopw [5, 41] (fun n j wr => ∃ k : Nat, k ≤ 3 ∧ i + 1 + k ≤ s.size ∧ j = .int .i64 k ∧ n = .int .i64 (nD s (i + 1) k) ∧ (∀ m, m < k → dig (bt s (i + 1 + m)) = true) ∧ Scan wr b s (i + 1 + k) ∧ w.grownBy wr (some b)) (fun _ j _ => 3 - (intOf j).toNat)
           case atStart => exact ⟨0, by omega, by omega, rfl, rfl, fun m hm => absurd hm (by omega), HS.out, HG.out⟩
           case round =>
            obtain ⟨k, hk, hks, rfl, rfl, hdg, hsc, hgr⟩ := hrel
            have hbd := nD_bd s (i + 1) k hdg hk
            have HDG := lh hdg
            clear HS HG r0 r1 z1 hbl
            obtain ⟨r0, r1, z1, hbl⟩ := hsc.facts
            have HS := lh hsc
            have HG := lh hgr
            clear hsc hgr hdg
            by_cases hk3 : k < 3
            · have ek : decide ((k : Int) < 3) = true := by simp; omega
              by_cases hks2 : i + 1 + k < s.size
              · have hd : (((i + 1 + k : Nat) : Int) == (s.size : Int)) = false := by simp; omega
                have h0 : (0 : Int) ≤ ((i + 1 + k : Nat) : Int) := by omega
                have h1 : ((i + 1 + k : Nat) : Int) < (s.size : Int) := by omega
                have ht : ((i + 1 + k : Nat) : Int).toNat = i + 1 + k := by omega
                obtain ⟨c', hcb⟩ : ∃ c', c' = bt s (i + 1 + k) := ⟨_, rfl⟩
                have hck := bt_eq hks2 hcb
                have hc := hA _ hks2
                rw [← hcb] at hc
                have HC2 := lh hcb
                have hsr : wr.cell? ⟨1, c', none⟩ = some (.int .i64 (srt c')) := gr_cell HG.out hb (HSO.out c' hc)
                have hds := dig_sort c' hc
                clear hcb
                have c0 : (0 : Int) ≤ (c' : Int) := by omega
                have c1 : (c' : Int) < 128 := by omega
                generalize hq : i + 1 + k = q at *
                cases hdd : dig c' with
                | true =>
                 have hs2 : srt c' = 2 := hds.2 hdd
                 rw [hs2] at hsr
                 have hge := dig_ge hdd
                 have hw48 : IntKind.u8.wrap ((c' : Int) - 48) = (c' : Int) - 48 := IntWalk.u8_in _ (by omega)
                 have hwm : IntKind.i64.wrap (10 * (nD s (i + 1) k : Int)) = 10 * (nD s (i + 1) k : Int) := IntWalk.i64_in _ (by omega)
                 have HDD := lh hdd
                 clear hdd hds hs2
                 go_wp2_with fail
                 go_quiet (fail)
                 go_wp2_with fail
                 have hsX := HS.out.drew nq
                 have hgX := gr_trans HG.out (gr_drew wr nq (some b))
                 clear HS HG r0 r1 z1 hbl hsr
                 generalize wr.drewN nq = w4 at hsX hgX ⊢
                 obtain ⟨r0, r1, z1, hbl⟩ := hsX.facts
                 have HS := lh hsX
                 have HG := lh hgX
                 clear hsX hgX
                 have hwa : IntKind.i64.wrap (10 * (nD s (i + 1) k : Int) + ((c' : Int) - 48)) = 10 * (nD s (i + 1) k : Int) + ((c' : Int) - 48) := IntWalk.i64_in _ (by omega)
                 have hwc : IntKind.i64.wrap ((c' : Int) - 48) = (c' : Int) - 48 := IntWalk.i64_in _ (by omega)
                 have hwx : IntKind.i64.wrap ((q : Int) + 1) = q + 1 := IntWalk.i64_in _ (by omega)
                 go_quiet (fail)
                 go_wp2_with fail
                 go_roundw
                 case rel =>
                  refine ⟨k + 1, by omega, by omega, by go_num, ?_, ?_, ?_, gr_trans (gr_trans HG.out (gr_drew _ _ _)) (gr_set _ _ _ _)⟩
                  · have e : nD s (i + 1) (k + 1) = 10 * nD s (i + 1) k + (bt s (i + 1 + k) - 48) := rfl
                    rw [e, hq, ← HC2.out]
                    congr 1
                    omega
                  · intro m hm
                    by_cases hmk : m = k
                    · rw [hmk, hq, ← HC2.out]; exact HDD.out
                    · exact HDG.out m (by omega)
                  · exact (HS.out.drew _).set _ _ (by omega)
                 case measure => simp [intOf]; omega
                | false =>
                 have hs2 : ((srt c' : Int) != 2) = true := by
                  have : srt c' ≠ 2 := fun h => by rw [hds.1 h] at hdd; cases hdd
                  simp; omega
                 have HDD := lh hdd
                 clear hdd hds
                 go_wp2_with fail
                 go_quiet (fail)
                 go_wp2_with fail
                 go_ret2
                 refine EscPost.bad ?_ (gr_trans HG.out (gr_drew _ _ _)) rfl
                 rw [HES.out, if_neg]
                 rintro ⟨_, d1, d2, d3⟩
                 have hdf := HDD.out
                 rw [HC2.out, ← hq] at hdf
                 rcases (by omega : k = 0 ∨ k = 1 ∨ k = 2) with rfl | rfl | rfl
                 · rw [show i + 1 + 0 = i + 1 from rfl, d1] at hdf; cases hdf
                 · rw [d2] at hdf; cases hdf
                 · rw [d3] at hdf; cases hdf
              · generalize hq : i + 1 + k = q at *
                have hd : ((q : Int) == (s.size : Int)) = true := by simp; omega
                go_wp2_with fail
                go_quiet (fail)
                go_wp2_with fail
                go_ret2
                refine EscPost.bad ?_ (gr_trans HG.out (gr_drew _ _ _)) rfl
                rw [HES.out, if_neg]
                rintro ⟨d0, _⟩
                omega
            · obtain rfl : k = 3 := by omega
              have ek : ¬ ((3 : Int) < 3) := by omega
              have hes2 := HES.out
              rw [if_pos ⟨by omega, HDG.out 0 (by omega), HDG.out 1 (by omega), HDG.out 2 (by omega)⟩] at hes2
              have HES2 := lh hes2
              clear hes2
              have hwx : IntKind.i64.wrap (((i + 1 + 3 : Nat) : Int) - 1) = ((i + 1 + 3 : Nat) : Int) - 1 := IntWalk.i64_in _ (by omega)
              generalize hn : nD s (i + 1) 3 = n at *
              by_cases hlt2 : n < 256
              · have hw8 : IntKind.u8.wrap (n : Int) = n := IntWalk.u8_in _ (by omega)
                have hd2 : decide ((n : Int) < 256) = true := by simp; omega
                go_wp2_with fail
                go_ret2
                refine EscPost.ok (v := n) (j := i + 1 + 3) (by rw [HES2.out, if_pos hlt2]) (gr_trans HG.out (gr_set _ _ _ _)) rfl (HS.out.set _ _ (by omega))
              · have hd2 : decide ((n : Int) < 256) = false := by simp; omega
                go_wp2_with fail
                go_ret2
                exact EscPost.bad (by rw [HES2.out, if_neg hlt2]) (gr_trans HG.out (gr_set _ _ _ _)) rfl
 · have hd : (((i : Int) + 1) == (s.size : Int)) = true := by simp; omega
   go_wp2_with fail
   have hsX := HS.out.set ((i : Int) + 1) (i + 1) (by omega)
   have hgX := gr_trans HG.out (gr_set w b 1 (.int .i64 ((i : Int) + 1)))
   clear HS HG r0 r1 z1 hbl
   generalize w.setCell ⟨b, 1, none⟩ (.int .i64 ((i : Int) + 1)) = w1 at hsX hgX ⊢
   obtain ⟨r0, r1, z1, hbl⟩ := hsX.facts
   have HS := lh hsX
   have HG := lh hgX
   clear hsX hgX
   go_quiet (fail)
   go_wp2_with fail
   have hsX := HS.out.drew nq
   have hgX := gr_trans HG.out (gr_drew w1 nq (some b))
   clear HS HG r0 r1 z1 hbl
   generalize w1.drewN nq = w2 at hsX hgX ⊢
   obtain ⟨r0, r1, z1, hbl⟩ := hsX.facts
   have HS := lh hsX
   have HG := lh hgX
   clear hsX hgX
   go_ret2
   exact EscPost.bad (by unfold escD; rw [if_neg hlt]) HG.out rfl
end Go.Proofs.YthehjeeiodbkjaaGreatDoor
