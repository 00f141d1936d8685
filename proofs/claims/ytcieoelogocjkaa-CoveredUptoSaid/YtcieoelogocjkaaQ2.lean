/-
  Proved: the contract of the reference's rests. Condition: weights of at most 1048576.
-/
import Derived.Test.YtcieoelogocjkaaQ1
import Derived.Deep.RegionHeld3
import Derived.Deep.DeepCutAuto
import Derived.Deep.CutBlock
set_option linter.unusedSimpArgs false
set_option linter.unusedVariables false
namespace Go.Proofs.Ytcieoelogocjkaa
open Go.RowKit

/-- what a slice of rows that one builds holds, the rows' type being e -/
def OutE (e : TypeId) (B : Nat) (w : World) (v : Value) (L : List (List Pt)) : Prop := ∃ xs, w.ownsRow B e 1 v L.length xs ∧ SlvL w (fun b => b < w.heap.size ∧ v.ownBlock ≠ some b) L xs
theorem OutE.on {e : TypeId} {B : Nat} {w w' : World} {v : Value} {L : List (List Pt)} (h : OutE e B w v L) (hb : Below w.heap.size w w') : OutE e B w' v L := by
  obtain ⟨xs, h1, h2⟩ := h
  exact ⟨xs, own_on h1 hb, (h2.keep fun b h => below_cells hb b h.1).mono fun b h => ⟨Nat.lt_of_lt_of_le h.1 hb.size, h.2⟩⟩
/-- one more row behind what one builds -/
theorem OutE.snoc {e : TypeId} {B : Nat} {w w' : World} {o : Obj} {v v' : Value} {L : List (List Pt)} {xs : List Value} {n : Nat} {l : List Pt} {a : Option Addr} {c : Nat} (hn : n = L.length) (hown : w.ownsRow B e 1 v n xs) (hs : SlvL w (fun b => b < w.heap.size ∧ v.ownBlock ≠ some b) L xs)
    (hl : SlD w (fun b => b < w.heap.size ∧ v.ownBlock ≠ some b) l a c) (hown' : w'.ownsRow B e 1 v' (n + 1) (xs ++ [.slice a l.length c])) (hg : (w.alloc o).grownBy w' v.ownBlock) (hat : v'.ownBlock = v.ownBlock ∨ v'.ownBlock = some (w.alloc o).heap.size) : OutE e B w' v' (L ++ [l]) := by
  have hk : ∀ b, (b < w.heap.size ∧ v.ownBlock ≠ some b) → ∀ off, w'.cell? ⟨b, off, none⟩ = w.cell? ⟨b, off, none⟩ := by
    intro b hb off
    rw [grown_cells hg (by rw [World.size_alloc]; omega) hb.2]
    exact below_cells ((Below.refl w.heap.size w).alloc (Nat.le_refl _) o) b hb.1 off
  have hm : ∀ b, (b < w.heap.size ∧ v.ownBlock ≠ some b) → (b < w'.heap.size ∧ v'.ownBlock ≠ some b) := by
    intro b hb
    have hsz := hg.size
    rw [World.size_alloc] at hsz
    refine ⟨by omega, ?_⟩
    rcases hat with e | e
    · rw [e]; exact hb.2
    · rw [e, World.size_alloc]; intro h; cases h; omega
  refine ⟨xs ++ [.slice a l.length c], ?_, ((hs.keep hk).mono hm).snoc ⟨a, c, rfl, (hl.keep hk).mono hm⟩⟩
  rw [List.length_append, ← hn]
  exact hown'
/-- what the region behind rest leaves -/
def RestCut (D : Nat → Prop) (h : Hd) (r : List Pt) (w : World) (v7 v8 : Value) (w' : World) : Prop :=
  ∃ a n c b, v7 = .slice a n c ∧ v8 = .bool b ∧ (match given h r with
   | none => b = false
   | some l => b = true ∧ n = l.length ∧ SlD w' (fun b => D b ∨ (w.heap.size ≤ b ∧ b < w'.heap.size)) l a c) ∧ Below w.heap.size w w'
abbrev SRR (b o : Nat) (v : Value) (b3 : Nat) (q : Pt) (ab : Option Addr) (cb : Nat) (w : World) : Prop :=
  w.cell? ⟨b, o, none⟩ = some v ∧ (((w.cell? ⟨b3, 0, none⟩ = some (.int .i64 q.k) ∧ w.cell? ⟨b3, 1, none⟩ = some (.int .i64 q.n) ∧ w.cell? ⟨b3, 2, none⟩ = some (.int .i64 q.o)) ∧ (w.cell? ⟨b3, 3, none⟩ = some (.int .i64 q.a) ∧ w.cell? ⟨b3, 4, none⟩ = some (.string q.s) ∧ w.cell? ⟨b3, 5, none⟩ = some (.slice ab q.kids.length cb))))
theorem SRR.drew {b o : Nat} {v : Value} {b3 : Nat} {q : Pt} {ab : Option Addr} {cb : Nat} {w : World} (hs : SRR b o v b3 q ab cb w) : SRR b o v b3 q ab cb w.drew := hs
theorem SRR.below {b o : Nat} {v : Value} {b3 : Nat} {q : Pt} {ab : Option Addr} {cb : Nat} {w w' : World} (hs : SRR b o v b3 q ab cb w) (hb : Below w.heap.size w w') (h6 : b < w.heap.size) (h3 : b3 < w.heap.size) : SRR b o v b3 q ab cb w' := by
  have e6 : ∀ o, w'.cell? ⟨b, o, none⟩ = w.cell? ⟨b, o, none⟩ := fun o => hb.cell (p := ⟨b, o, none⟩) h6
  have e3 : ∀ o, w'.cell? ⟨b3, o, none⟩ = w.cell? ⟨b3, o, none⟩ := fun o => hb.cell (p := ⟨b3, o, none⟩) h3
  unfold SRR
  simp only [e6, e3]
  exact hs
theorem size23 (w : World) : (sizeOf 23).run Try.prog w = .ok 1 w := by kernel_rfl
theorem info23 : (Try.prog.info? 23).map (fun i => (i.zero, i.size, i.bytes)) = some (some (.slice none 0 0), 1, 24) := by kernel_rfl

set_option maxRecDepth 100000 in
set_option maxHeartbeats 4000000 in
theorem rrests_any (hp : Pt) (ah : Option Addr) (ch : Nat) (n : Nat) (rows : List (List Pt)) (ao : Option Addr) (cap : Nat) (w : World) (hE : Even (n + 1) rows) (hv : MatV w w.heap.size rows ao cap) (hl : n ≤ 1000000) (hR : rows.length ≤ 1048576) (hw : wtR rows ≤ 1000000) (hc : hp.kids.length ≤ 1000000) :
    Calls Try.prog 28 #[.slice ao rows.length cap, .agg (rowOf hp ah ch)] w fun e w' => ∃ a c, e = .returned (.slice a (rows.filterMap (given (headOf hp))).length c) ∧ MatV w' w'.heap.size (rows.filterMap (given (headOf hp))) a c ∧ Below w.heap.size w w' := by
  obtain ⟨i23, hi, hz0, hz1, hz2⟩ := info_parts info23
  have HI := Lib.hid hi
  have HE := Lib.hid hE
  have HV := Lib.hid hv
  have HWT := Lib.hid hw
  obtain ⟨W, hW⟩ : ∃ W, W = w.alloc (.cells (rowOf hp ah ch) 26) := ⟨_, rfl⟩
  have hBW : Below w.heap.size w W := by rw [hW]; exact balloc (Below.refl _ _) _
  have hb3 : PB W w.heap.size hp ah ch := by rw [hW]; exact heap_alloc_new w _
  have lW : w.heap.size < W.heap.size := lt_of_block hb3
  have HW := Lib.hid hW
  have HBW := Lib.hid hBW
  have H3 := Lib.hid hb3
  clear hi hE hv hw hW hBW hb3
  obtain ⟨len, hlen'⟩ : ∃ len, len = rows.length := ⟨_, rfl⟩
  rw [← hlen'] at hR ⊢
  have HLEN := Lib.hid hlen'
  clear hlen'
  obtain ⟨h, hh⟩ : ∃ h, h = headOf hp := ⟨_, rfl⟩
  rw [← hh]
  have HH := Lib.hid hh
  clear hh
  unfold rowOf
  go_enter Try.func28, Try.ntmps28
  go_wp2_with fail
  rw [show w.alloc (.cells #[.int .i64 hp.k, .int .i64 hp.n, .int .i64 hp.o, .int .i64 hp.a, .string hp.s, .slice ah hp.kids.length ch] 26) = W from HW.out.symm]
  go_loopw [5, 6] (fun o i wr => ∃ k : Nat, k ≤ len ∧ i = .int .i64 k ∧ OutE 23 W.heap.size wr o ((rows.take k).filterMap (given h)) ∧ Below W.heap.size W wr) (fun _ i _ => len - (intOf i).toNat)
  case atStart => exact ⟨0, Nat.zero_le _, rfl, ⟨[], World.ownsRow_nil _ _ _ _, trivial⟩, Below.refl _ _⟩
  case round =>
    obtain ⟨k, hkl, rfl, hout, hbl⟩ := hrel
    have HOUT := Lib.hid hout
    have HBL := Lib.hid hbl
    have hsr := hbl.size
    clear hout hbl
    by_cases hlt : k < len
    · have hd : decide ((k : Int) < (len : Int)) = true := by simp; omega
      have hkr : k < rows.length := by rw [← HLEN.out]; exact hlt
      obtain ⟨b, off, ai, ci, ha, hb, hcell, hsl⟩ := ((HV.out.keep HBW.out).keep (HBL.out.mono (Nat.le_of_lt lW))).get hkr
      have hix : ∀ w' : World, (Instr.indexAt 22 (.slice ao len cap) (.int .i64 k)).run Try.prog w' = .ok (.pointer (some ⟨b, off + k, none⟩)) w' := by intro w'; have h := index_at Try.underlying22 size23 ha len cap k hlt w'; rwa [Nat.mul_one] at h
      rw [Nat.mul_one] at hcell
      obtain ⟨r, hr⟩ : ∃ r, r = rows[k] := ⟨_, rfl⟩
      rw [← hr] at hcell hsl
      have hmem : r ∈ rows := by rw [hr]; exact List.getElem_mem hkr
      obtain ⟨p, ps, rfl⟩ : ∃ p ps, r = p :: ps := by
        have := (HE.out r hmem).1
        cases r with
        | nil => simp at this
        | cons p ps => exact ⟨p, ps, rfl⟩
      obtain ⟨m, hm⟩ : ∃ m, m = (p :: ps).length := ⟨_, rfl⟩
      rw [← hm] at hcell
      have hb3r : PB wr w.heap.size hp ah ch := blk_below H3.out HBL.out lW
      have d0 : wr.cell? ⟨w.heap.size, 0, none⟩ = some (.int .i64 hp.k) := blk_cell hb3r 0
      have d1 : wr.cell? ⟨w.heap.size, 1, none⟩ = some (.int .i64 hp.n) := blk_cell hb3r 1
      have d2 : wr.cell? ⟨w.heap.size, 2, none⟩ = some (.int .i64 hp.o) := blk_cell hb3r 2
      have d3 : wr.cell? ⟨w.heap.size, 3, none⟩ = some (.int .i64 hp.a) := blk_cell hb3r 3
      have d4 : wr.cell? ⟨w.heap.size, 4, none⟩ = some (.string hp.s) := blk_cell hb3r 4
      have d5 : wr.cell? ⟨w.heap.size, 5, none⟩ = some (.slice ah hp.kids.length ch) := blk_cell hb3r 5
      have HR' := Lib.hid hr
      have HM := Lib.hid hm
      have HMEM := Lib.hid hmem
      have HSL := Lib.hid hsl
      have hev := HE.out _ hmem
      have hpP : Proper p := (properL_cons hev.2).1
      have hm9 : m ≤ 1048576 := by rw [hm, hev.1]; omega
      have hwp : wt p ≤ 1000000 := by
        have h1 := wtL_le hmem
        have h2 := HWT.out
        rw [wtL] at h1
        omega
      have hbp := proper_bare hpP
      have hk1 : p.kids.length ≤ 1048576 := by have := kids_le hpP; omega
      have hk2 : (bare p).kids.length ≤ 1048576 := by have := kids_le hbp.1; omega
      have HPP := Lib.hid hpP
      have HK1 := Lib.hid hk1
      have HK2 := Lib.hid hk2
      have HTF := Lib.hid (take_fm hkr (given h))
      clear ha hr hm hmem hsl hev hpP hbp hk1 hk2 hwp hb3r
      have hS : SRR b (off + k) (.slice ai m ci) w.heap.size hp ah ch wr := ⟨hcell, ⟨d0, d1, d2⟩, d3, d4, d5⟩
      have lb : b < wr.heap.size := by omega
      have lw : w.heap.size < wr.heap.size := by omega
      go_upto_region 5 with fail
      go_cut [7, 8] from 15 to 23 (fun v7 v8 wx => RestCut (fun b => b < w.heap.size) h (p :: ps) wr v7 v8 wx)
      case first =>
        clear hcell d0 d1 d2 d3 d4 d5
        go_region_held3 (fun w' => SRR b (off + k) (.slice ai m ci) w.heap.size hp ah ch w')
          (repeat (first | exact hS | exact hS5 | apply SRR.drew))
          (first | (go_at_call 27; refine (rrest_any (fun b => b < w.heap.size) hp ah ch p ps m ai ci wr.drew HM.out (fun b hb => Nat.lt_trans hb lw) HPP.out (SlD.keep (w' := wr.drew) HSL.out (fun _ _ _ => rfl)) hm9 HK1.out HK2.out (by omega)).mono ?_; rintro e w5 ⟨⟨a2, n2, c2, bo, rfl, hres⟩, hb5⟩; have hS5 := (SRR.drew hS).below hb5 lb lw))
        go_wp2_with fail
        go_meet
        have hb5r : Below wr.heap.size wr w5 := (Below.refl _ _).drew.trans hb5
        exact ⟨a2, n2, c2, bo, rfl, rfl, by rw [HH.out]; exact hres, hb5r⟩
      case rest =>
        obtain ⟨a2, n2, c2, bo, rfl, rfl, hres, hb2⟩ := hcut
        obtain ⟨w2, hw2⟩ : ∃ w2 : World, w2 = wc := ⟨_, rfl⟩
        subst hw2
        have htf := HTF.out
        rw [← HR'.out] at htf
        cases hg : given h (p :: ps) with
        | none =>
          rw [hg] at hres htf
          have hbo : bo = false := hres
          subst hbo
          have HB2 := Lib.hid hb2
          have HTF2 := Lib.hid htf
          clear hb2 hg htf d0 d1 d2 d3 d4 d5 hcell hix hres hS
          go_wp2_with fail
          go_roundw
          case rel =>
            refine ⟨k + 1, hlt, by go_num, ?_, HBL.out.trans (HB2.out.mono hsr)⟩
            rw [HTF2.out]
            simpa using HOUT.out.on HB2.out
          case measure => simp [intOf]; omega
        | some l =>
          rw [hg] at hres htf
          obtain ⟨hbo, hn2, hsv⟩ : bo = true ∧ n2 = l.length ∧ SlD w2 (fun b => b < w.heap.size ∨ (wr.heap.size ≤ b ∧ b < w2.heap.size)) l a2 c2 := hres
          subst hbo hn2
          have hob := HOUT.out
          obtain ⟨xs0, hox0, _⟩ := hob
          obtain ⟨xs, hox, hsx⟩ := HOUT.out.on hb2
          obtain ⟨L, hL⟩ : ∃ L, L = (rows.take k).filterMap (given h) := ⟨_, rfl⟩
          rw [← hL] at hox hsx htf hox0
          obtain ⟨lk, hlk⟩ : ∃ lk, lk = L.length := ⟨_, rfl⟩
          rw [← hlk] at hox hox0
          have hlkb : lk ≤ 1048576 := by
            have h1 := List.length_filterMap_le (given h) (rows.take k)
            rw [← hL, ← hlk, List.length_take] at h1
            omega
          have hsD : SlD w2 (fun b => b < w2.heap.size ∧ Value.ownBlock u5 ≠ some b) l a2 c2 := hsv.mono fun b hb => by
            have hs2 := hb2.size
            refine ⟨by omega, fun e => ?_⟩
            have := hox0.lt b e
            omega
          have hBW2 : Below W.heap.size W w2 := HBL.out.trans (hb2.mono hsr)
          have hlt5 : ∀ g, Value.ownBlock u5 = some g → W.heap.size ≤ g := fun g e => (hox0.lt g e).1
          have hs2 := hBW2.size
          have HOX := Lib.hid hox
          have HSX := Lib.hid hsx
          have HLK := Lib.hid hlk
          have HTF2 := Lib.hid htf
          have HSD := Lib.hid hsD
          have HBW2 := Lib.hid hBW2
          have HLT5 := Lib.hid hlt5
          clear hox hsx hlk htf hsD hBW2 hlt5 hox0 hsv hb2 hg hL d0 d1 d2 d3 d4 d5 hcell hix hS
          go_wp2_with (first | (at_builtin; go_must (refine wpList_append3 rfl (.tmp 25) (.tmp 27) 22 22 rfl W.heap.size 23 23 i23 _ 1 24 Try.underlying22 Try.underlying22 HI.out hz0 hz1 hz2 rfl (by decide) u5 lk xs rfl (HOX.out.alloc _) (some ⟨w2.heap.size, 0, none⟩) 1 1 [.slice a2 l.length c2] rfl rfl (fun _ => ⟨_, rfl, new_cells (c := #[.slice a2 l.length c2]) _ rfl⟩) (by simp [Value.oneCell']) (by unfold maxLen; omega) (by omega) (by simp; omega) ?_; intro v3 w3 hown3 hg3 hat3)))
          go_roundw
          case rel =>
            refine ⟨k + 1, hlt, by go_num, ?_, ?_⟩
            · rw [HTF2.out]
              exact OutE.snoc HLK.out HOX.out HSX.out HSD.out hown3 hg3 hat3
            · exact (HBW2.out.alloc hs2 _).grown hg3 (by simp; omega) (fun g e => HLT5.out g e)
          case measure => simp [intOf]; omega
    · have hd : decide ((k : Int) < (len : Int)) = false := by simp; omega
      obtain ⟨xs, hox, hsx⟩ := HOUT.out
      have hk : k = rows.length := by rw [← HLEN.out]; omega
      rw [hk, List.take_length] at hox hsx
      obtain ⟨a5, c5, rfl⟩ := own_slice hox
      have hmat := mat_own (D := fun b => b < wr.heap.size) hox (fun b _ h => h) (hsx.mono fun b h => h.1) rfl
      have HMAT := Lib.hid hmat
      clear hox hsx hmat hk
      go_wp2_with fail
      go_ret
      exact ⟨a5, c5, rfl, HMAT.out, HBW.out.trans (HBL.out.mono (Nat.le_of_lt lW))⟩
end Go.Proofs.Ytcieoelogocjkaa
