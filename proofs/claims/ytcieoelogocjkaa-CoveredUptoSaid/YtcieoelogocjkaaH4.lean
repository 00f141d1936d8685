/-
  Proved: the contract of the program's heads. Condition: rows side by side that fit.
-/
import Derived.Test.YtcieoelogocjkaaH3
import Derived.Test.YtcieoelogocjkaaG2
import Derived.Deep.DeepCutAuto
import Derived.Deep.CutBlock
import Derived.BigRegion
set_option linter.unusedSimpArgs false
set_option linter.unusedVariables false
namespace Go.Proofs.Ytcieoelogocjkaa
open Go.RowKit Go.Maps

theorem size51 (w : World) : (sizeOf 51).run Try.prog w = .ok 4 w := by kernel_rfl
theorem info51 : (Try.prog.info? 51).map (fun i => (i.zero, i.size, i.bytes)) = some (some (.agg #[.int .i64 0, .int .i64 0, .int .i64 0, .string ⟨#[]⟩]), 4, 40) := by kernel_rfl
def hdCells (L : List Pt) : List Value := L.flatMap fun q => (hdRow (headOf q)).toList
theorem hdCells_len (L : List Pt) : (hdCells L).length = L.length * 4 := by
  induction L with
  | nil => rfl
  | cons q qs ih => unfold hdCells at *; rw [List.flatMap_cons, List.length_append, ih]; simp [hdRow]; omega
/-- heads in memory -/
def HdsV (w : World) (D : Nat → Prop) (L : List Pt) (ao : Option Addr) (cap : Nat) : Prop :=
  L.length ≤ cap ∧ (0 < L.length → ∃ b off, ao = some ⟨b, off, none⟩ ∧ D b ∧ ∀ j u, (hdCells L)[j]? = some u → w.cell? ⟨b, off + j, none⟩ = some u)
/-- what the loop holds -/
structure HLoop (B w0 : Nat) (w : World) (L : List Pt) (k : Nat) (v : Value) : Prop where
  own : w.ownsRow B 51 4 v L.length (hdCells L)
  seen : ∃ D : DataW Unit, w.ownsMap Try.prog 51 (plainElem Try.prog 3) w0 k D ∧ SeenOk D L k
  tags : w.ownsMap Try.prog 3 (plainElem Try.prog 3) (w0 + 1) k (setOf (H := Unit) (.lit (.int .i64 1)) ((tagsOf (ofOf L) L).map nl))

theorem HLoop.on {B w0 : Nat} {w w' : World} {L : List Pt} {k : Nat} {v : Value} (h : HLoop B w0 w L k v) (hb : Below w.heap.size w w') : HLoop B w0 w' L k v := by
  obtain ⟨D, h1, h2⟩ := h.seen
  exact ⟨own_on h.own hb, ⟨D, h1.kept (gr_below hb none) (by simp), h2⟩, h.tags.kept (gr_below hb none) (by simp)⟩
theorem own_map {H : Type} {P : Program} {k : TypeId} {R : Value → Option (DataW H × List MemPlace)} {w w' : World} {B b m n e size : Nat} {v : Value} {xs : List Value} {D : DataW H} (h : w.ownsRow B e size v n xs) (hm : w.ownsMap P k R b m D) (hg : w.grownBy w' (some b)) : w'.ownsRow B e size v n xs := by
  obtain ⟨es, clock, hb, _⟩ := hm
  refine own_carry h fun g c f hgc => ?_
  rw [hg.block g (lt_of_block hgc) (fun e => by cases e; rw [hb] at hgc; cases hgc)]
  exact hgc
theorem blk_map {H : Type} {P : Program} {k : TypeId} {R : Value → Option (DataW H × List MemPlace)} {w w' : World} {b m p : Nat} {D : DataW H} {c : Array Value} {t : TypeId} {f : Nat × Nat} (h : w.heap[p]? = some (.cells c t f)) (hm : w.ownsMap P k R b m D) (hg : w.grownBy w' (some b)) : w'.heap[p]? = some (.cells c t f) := by
  obtain ⟨es, clock, hb, _⟩ := hm
  exact blk_grown h hg (fun e => by cases e; rw [hb] at h; cases h)
theorem beqII (a b : Int) : (a == b) = decide (a = b) := by rw [Bool.eq_iff_iff]; simp
theorem beqI6 (a : Int) : (a == 6) = decide (a = 6) := by rw [Bool.eq_iff_iff]; simp
theorem tags_step (L : List Pt) (q : Pt) : (tagsOf (ofOf (L ++ [q])) (L ++ [q])).map nl = (tagsOf (ofOf L) L).map nl ++ (if q.k = 6 ∧ q.n < ofOf (L ++ [q]) then [q.n.toNat] else []).map nl := by
  rw [tagsOf_snoc, List.map_append]
  cases L with
  | nil => rfl
  | cons x xs => rfl
theorem setOf_mono {w : World} {b k : Nat} {D : DataW Unit} (h : w.ownsMap Try.prog 3 (plainElem Try.prog 3) b k D) : w.ownsMap Try.prog 3 (plainElem Try.prog 3) b (k + 1) D := h.mono (Nat.le_succ k)
set_option maxRecDepth 100000 in
set_option maxHeartbeats 4000000 in
theorem pheads_any (n : Nat) (rows : List (List Pt)) (ao : Option Addr) (cap : Nat) (w : World) (hE : Even (n + 1) rows) (hF : FitsR rows) (hv : MatV w w.heap.size rows ao cap) (hR : rows.length ≤ 1048576) (hw : wtR rows ≤ 1000000) :
    Calls Try.prog 25 #[.slice ao rows.length cap] w fun e w' => ∃ a c, e = .returned (.tuple #[.slice a (firsts rows).length c, .bool (whole (firsts rows))]) ∧ HdsV w' (fun b => w.heap.size ≤ b ∧ b < w'.heap.size) (firsts rows) a c ∧ Below w.heap.size w w' := by
  obtain ⟨i51, hi, hz0, hz1, hz2⟩ := info_parts info51
  have HI := Lib.hid hi
  have HE := Lib.hid hE
  have HF := Lib.hid hF
  have HV := Lib.hid hv
  have HWT := Lib.hid hw
  obtain ⟨W, hW⟩ : ∃ W, W = (w.alloc (.map #[] 0)).alloc (.map #[] 0) := ⟨_, rfl⟩
  have hBW : Below w.heap.size w W := by rw [hW]; exact balloc (balloc (Below.refl _ _) _) _
  have hm1 : W.ownsMap (H := Unit) Try.prog 51 (plainElem Try.prog 3) w.heap.size 0 (.map []) := by rw [hW]; exact (World.ownsMap_made w Try.prog 51 _).alloc _
  have hm2 : W.ownsMap (H := Unit) Try.prog 3 (plainElem Try.prog 3) (w.heap.size + 1) 0 (.map []) := by
    rw [hW]
    have h := World.ownsMap_made (H := Unit) (w.alloc (.map #[] 0)) Try.prog 3 (plainElem Try.prog 3)
    rw [World.size_alloc] at h
    exact h
  have hsW : W.heap.size = w.heap.size + 2 := by rw [hW, World.size_alloc, World.size_alloc]
  have HW := Lib.hid hW
  have HBW := Lib.hid hBW
  have HM1 := Lib.hid hm1
  have HM2 := Lib.hid hm2
  have HSW := Lib.hid hsW
  clear hi hE hF hv hw hW hBW hm1 hm2 hsW
  obtain ⟨len, hlen⟩ : ∃ len, len = rows.length := ⟨_, rfl⟩
  rw [← hlen] at hR ⊢
  have HLEN := Lib.hid hlen
  clear hlen
  obtain ⟨FS, hFSS⟩ : ∃ FS, FS = firsts rows := ⟨_, rfl⟩
  rw [← hFSS]
  have HFSS := Lib.hid hFSS
  clear hFSS
  have hmm := @run_makeMap Try.prog
  go_enter Try.func25, Try.ntmps25
  go_wp2_with fail
  rw [show ((w.alloc (.map #[] 0)).alloc (.map #[] 0)) = W from HW.out.symm]
  have lW : w.heap.size < W.heap.size := by have := HSW.out; omega
  go_loopw [2, 6, 15] (fun v o i wr => ∃ k : Nat, k ≤ len ∧ i = .int .i64 k ∧ o = .int .i64 (ofOf (firsts (rows.take k))) ∧ HLoop W.heap.size w.heap.size wr (firsts (rows.take k)) k v ∧ Below w.heap.size w wr ∧ W.heap.size ≤ wr.heap.size) (fun _ _ i _ => len - (intOf i).toNat)
  case atStart => exact ⟨0, Nat.zero_le _, rfl, rfl, ⟨World.ownsRow_nil _ _ _ _, ⟨_, HM1.out, SeenOk.start⟩, HM2.out⟩, HBW.out, Nat.le_refl _⟩
  case round =>
    obtain ⟨k, hkl, rfl, rfl, hlp, hbl, hsr⟩ := hrel
    obtain ⟨L, hL⟩ : ∃ L, L = firsts (rows.take k) := ⟨_, rfl⟩
    rw [← hL] at hlp ⊢
    have HL := Lib.hid hL
    have HLP := Lib.hid hlp
    have HBL := Lib.hid hbl
    have hswr := hbl.size
    clear hlp hbl hL
    by_cases hlt : k < len
    · have hd : decide ((k : Int) < (len : Int)) = true := by simp; omega
      have hkr : k < rows.length := by rw [← HLEN.out]; exact hlt
      obtain ⟨b, off, ai, ci, ha, hb, hcell, hsl⟩ := (HV.out.keep HBL.out).get hkr
      have hix : ∀ w' : World, (Instr.indexAt 38 (.slice ao len cap) (.int .i64 k)).run Try.prog w' = .ok (.pointer (some ⟨b, off + k, none⟩)) w' := by intro w'; have h := index_at Try.underlying38 size46 ha len cap k hlt w'; rwa [Nat.mul_one] at h
      rw [Nat.mul_one] at hcell
      obtain ⟨r, hr⟩ : ∃ r, r = rows[k] := ⟨_, rfl⟩
      rw [← hr] at hcell hsl
      have hmem : r ∈ rows := by rw [hr]; exact List.getElem_mem hkr
      obtain ⟨p, ps, rfl⟩ : ∃ p ps, r = p :: ps := by
        have := (HE.out r hmem).1
        cases r with
        | nil => simp at this
        | cons p ps => exact ⟨p, ps, rfl⟩
      obtain ⟨m, hm⟩ : ∃ m, m = (p :: ps).length := ⟨_, rfl⟩
      rw [← hm] at hcell
      have hm1 : 1 ≤ m := by rw [hm]; simp
      obtain ⟨b2, off2, row, ha2, hb2, hrow, hpv⟩ := hsl.2.get (k := 0) (by simp)
      obtain ⟨aq, cq, rfl, hkq⟩ := hpv.row
      have hkq : SlD wr (fun b => b < w.heap.size) p.kids aq cq := hkq
      have hix2 : ∀ w' : World, (Instr.indexAt 46 (.slice ai m ci) (.int .i64 0)).run Try.prog w' = .ok (.pointer (some ⟨b2, off2 + 0 * 6, none⟩)) w' := fun w' => index_at Try.underlying46 size26 ha2 m ci 0 (by omega) w'
      rw [show off2 + 0 * 6 = off2 from by omega] at hix2
      have x0 : wr.cell? ⟨b2, off2, none⟩ = some (.int .i64 p.k) := hrow 0 (by omega)
      have x1 : wr.cell? ⟨b2, off2 + 1, none⟩ = some (.int .i64 p.n) := hrow 1 (by omega)
      have x2 : wr.cell? ⟨b2, off2 + 2, none⟩ = some (.int .i64 p.o) := hrow 2 (by omega)
      have x3 : wr.cell? ⟨b2, off2 + 3, none⟩ = some (.int .i64 p.a) := hrow 3 (by omega)
      have x4 : wr.cell? ⟨b2, off2 + 4, none⟩ = some (.string p.s) := hrow 4 (by omega)
      have x5 : wr.cell? ⟨b2, off2 + 5, none⟩ = some (.slice aq p.kids.length cq) := hrow 5 (by omega)
      have hfs := firsts_snoc hkr hr.symm
      rw [← HL.out] at hfs
      have hpp := properL_cons (HE.out _ hmem).2
      have hff := fitsL_cons (HF.out _ hmem)
      have hwtp : wt p ≤ 1000000 := by
        have h1 := wtL_le hmem
        have h2 := HWT.out
        rw [wtL] at h1
        omega
      have HWTP := Lib.hid hwtp
      clear hwtp
      have HFS := Lib.hid hfs
      have HPP := Lib.hid hpp.1
      have HFF := Lib.hid hff.1
      have HKQ := Lib.hid hkq
      clear ha hr hm hmem hsl ha2 hrow hpv hkq hfs hpp hff hb hb2
      go_wp2_with fail
      refine (pbare_any (fun b => b < w.heap.size) p aq cq wr (fun b hb => by omega) HPP.out HKQ.out).mono ?_
      rintro e w1 ⟨ab, cb, rfl, hsb, hb1⟩
      obtain ⟨q, hq⟩ : ∃ q, q = bare p := ⟨_, rfl⟩
      have hfs := HFS.out
      rw [← hq] at hsb hfs ⊢
      have hqp : Proper q := by rw [hq]; exact (proper_bare HPP.out).1
      have hqf : Fits q := by rw [hq]; exact fits_bare HFF.out
      have hqw : q.kids.length ≤ 1048576 := by
        have h1 := kids_le hqp
        have h2 := (proper_bare HPP.out).2.2.2.1
        have h3 := HWTP.out
        rw [← hq] at h2
        omega
      have HQW := Lib.hid hqw
      clear hqw
      obtain ⟨W2, hW2⟩ : ∃ W2, W2 = w1.alloc (.cells (rowOf q ab cb) 26) := ⟨_, rfl⟩
      have hb6 : PB W2 w1.heap.size q ab cb := by rw [hW2]; exact heap_alloc_new w1 _
      have hB2 : Below wr.heap.size wr W2 := by rw [hW2]; exact balloc hb1 _
      have HB2 := Lib.hid hB2
      have HB6 := Lib.hid hb6
      have HFS2 := Lib.hid hfs
      have HQP := Lib.hid hqp
      have HQF := Lib.hid hqf
      have HW2 := Lib.hid hW2
      have c0 : W2.cell? ⟨w1.heap.size, 0, none⟩ = some (.int .i64 q.k) := blk_cell hb6 0
      have l6 := lt_of_block hb6
      have hs1 := hb1.size
      have hs2 := hB2.size
      clear hq hsb hfs hqp hqf hW2 hb6 hB2 hb1 x0 x1 x2 x3 x4 x5 hix hix2 hcell
      unfold rowOf
      go_upto_region 8 with fail
      rw [show (w1.alloc (.cells #[.int .i64 q.k, .int .i64 q.n, .int .i64 q.o, .int .i64 q.a, .string q.s, .slice ab q.kids.length cb] 26)) = W2 from HW2.out.symm]
      by_cases hk0 : q.k = 0
      · rw [hk0] at c0
        have hadd : addF L q = L := by unfold addF; rw [if_pos hk0]
        have hlp2 := HLP.out.on HB2.out
        have HADD := Lib.hid hadd
        have HLP2 := Lib.hid hlp2
        clear hadd hlp2 hk0
        go_wp2_with fail
        go_roundw
        case rel =>
          refine ⟨k + 1, hlt, by go_num, ?_, ?_, HBL.out.trans (HB2.out.mono hswr), by omega⟩
          · rw [HFS2.out, HADD.out]
          · rw [HFS2.out, HADD.out]
            obtain ⟨D, h1, h2⟩ := HLP2.out.seen
            exact ⟨HLP2.out.own, ⟨D, h1.mono (Nat.le_succ k), h2.keep⟩, HLP2.out.tags.mono (Nat.le_succ k)⟩
        case measure => simp [intOf]; omega
      · have hd0 : (q.k == 0) = false := by simp [hk0]
        have HK0 := Lib.hid hk0
        have hbl9 : q.kids.length ≤ 1048576 := HQW.out
        clear hk0
        have c1 : W2.cell? ⟨w1.heap.size, 1, none⟩ = some (.int .i64 q.n) := blk_cell HB6.out 1
        have c2 : W2.cell? ⟨w1.heap.size, 2, none⟩ = some (.int .i64 q.o) := blk_cell HB6.out 2
        have c3 : W2.cell? ⟨w1.heap.size, 3, none⟩ = some (.int .i64 q.a) := blk_cell HB6.out 3
        have c4 : W2.cell? ⟨w1.heap.size, 4, none⟩ = some (.string q.s) := blk_cell HB6.out 4
        have c5 : W2.cell? ⟨w1.heap.size, 5, none⟩ = some (.slice ab q.kids.length cb) := blk_cell HB6.out 5
        go_wp2_with fail
        refine (phead_any q ab cb W2 hbl9).mono ?_
        rintro e w3 ⟨rfl, hb3⟩
        obtain ⟨W4, hW4⟩ : ∃ W4, W4 = w3.alloc (.cells (hdRow (headOf q)) 51) := ⟨_, rfl⟩
        have hb10 : HB W4 w3.heap.size (headOf q) := by rw [hW4]; exact heap_alloc_new w3 _
        have hB4 : Below W2.heap.size W2 W4 := by rw [hW4]; exact balloc hb3 _
        have hpb4 : PB W4 w1.heap.size q ab cb := blk_below HB6.out hB4 l6
        have hB04 : Below wr.heap.size wr W4 := HB2.out.trans (hB4.mono hs2)
        have hlp4 := HLP.out.on hB04
        have hfh : FitH (headOf q) := fitH_of HQF.out
        obtain ⟨h, hh⟩ : ∃ h, h = headOf q := ⟨_, rfl⟩
        rw [← hh] at hW4 hb10 hfh ⊢
        obtain ⟨D, ho4, hsk⟩ := hlp4.seen
        obtain ⟨c, st, W5, rL, hat, hwc, rE, ho5, hg5, rL5, hst⟩ := entry_own ho4.drew law51 Try.underlying62 Try.underlying3 zero3 (show k < maxLen by unfold maxLen; omega) hfh.key
        obtain ⟨c', rfl, hck, hcf⟩ := hsk.at hfh hat
        obtain ⟨W6, rS, ho6, hg6⟩ := hst ((c' : Int) + 1) (wf64 (by unfold I64; omega))
        have hs4 := hB4.size
        have hs6 := hg6.size
        have hs5 := hg5.size
        have l10 := lt_of_block hb10
        have d0 : W4.cell? ⟨w3.heap.size, 0, none⟩ = some (.int .i64 h.k) := blk_cell hb10 0
        have d1 : W4.cell? ⟨w3.heap.size, 1, none⟩ = some (.int .i64 h.n) := blk_cell hb10 1
        have d2 : W4.cell? ⟨w3.heap.size, 2, none⟩ = some (.int .i64 h.c) := blk_cell hb10 2
        have d3 : W4.cell? ⟨w3.heap.size, 3, none⟩ = some (.string h.s) := blk_cell hb10 3
        have hwr : IntKind.i64.wrap ((c' : Int) + 1) = (c' : Int) + 1 := IntWalk.i64_in _ (by omega)
        have rL1 : (Instr.lookup 62 (.map (some w.heap.size)) (.agg #[.int .i64 h.k, .int .i64 h.n, .int .i64 h.c, .string h.s]) false).run Try.prog W4.drew = .ok (.int .i64 (c' : Int)) W4.drew := rL
        have rE1 : (Instr.mapEntry 62 (.map (some w.heap.size)) (.agg #[.int .i64 h.k, .int .i64 h.n, .int .i64 h.c, .string h.s])).run Try.prog W4.drew = .ok (.tuple #[.int .i64 (c' : Int), .int .i64 st]) W5 := rE
        have rL51 : (Instr.lookup 62 (.map (some w.heap.size)) (.agg #[.int .i64 h.k, .int .i64 h.n, .int .i64 h.c, .string h.s]) false).run Try.prog W5 = .ok (.int .i64 (c' : Int)) W5 := rL5
        have rS1 : (Instr.entryStore 62 (.map (some w.heap.size)) (.int .i64 st) (.int .i64 (IntKind.i64.wrap ((c' : Int) + 1)))).run Try.prog W5 = .ok () W6 := by rw [hwr]; exact rS
        have HH := Lib.hid hh
        have HW4 := Lib.hid hW4
        have hpb6 : PB W6 w1.heap.size q ab cb := blk_map (w := W4.drew) hpb4 ho4.drew hg6
        have hb106 : HB W6 w3.heap.size h := blk_map (w := W4.drew) hb10 ho4.drew hg6
        have hown6 := own_map (w := W4.drew) (own_on hlp4.own (w' := W4.drew) ⟨rfl, rfl, rfl, Nat.le_refl _, fun _ _ => rfl⟩) ho4.drew hg6
        have htag6 := World.ownsMap.kept (w := W4.drew) hlp4.tags.drew hg6 (by simp)
        have hsk6 := hsk.step ho4.isMap (fitH_of HQF.out) (by rw [← hh]; exact hat)
        rw [← hh] at hsk6
        obtain ⟨c6, rL6, hat6, _⟩ := ho6.lookup_int law51 Try.underlying62 Try.underlying3 (zero3 _) hfh.key
        rw [atKey_put_same ho4.isMap (law51.key hfh.key)] at hat6
        have hc6 : c6 = (c' : Int) + 1 := by cases hat6; rfl
        rw [hc6] at rL6
        have hadd : addF L q = if 0 < c' then L else L ++ [q] := by
          unfold addF
          rw [if_neg HK0.out, ← hh]
          by_cases h0 : 0 < c'
          · rw [if_pos h0, if_pos (hcf.1 h0)]
          · rw [if_neg h0, if_neg (fun e => h0 (hcf.2 e))]
        have hB06 : Below w.heap.size wr W6 := ((hB04.mono hswr).trans ⟨rfl, rfl, rfl, Nat.le_refl _, fun _ _ => rfl⟩ : Below w.heap.size wr W4.drew).grown hg6 (Nat.le_trans hswr (Nat.le_trans hs2 hs4)) (fun k hk => by cases hk; exact Nat.le_refl _)
        have rL7 : (Instr.lookup 62 (.map (some w.heap.size)) (.agg #[.int .i64 h.k, .int .i64 h.n, .int .i64 h.c, .string h.s]) false).run Try.prog W6 = .ok (.int .i64 ((c' : Int) + 1)) W6 := rL6
        have HPB6 := Lib.hid hpb6
        have HB10 := Lib.hid hb106
        have HOWN6 := Lib.hid hown6
        have HTAG6 := Lib.hid htag6
        have HSK6 := Lib.hid hsk6
        have HO6 := Lib.hid ho6
        have HADD := Lib.hid hadd
        have HB06 := Lib.hid hB06
        have hs46 : W4.heap.size ≤ W6.heap.size := hs6
        clear hpb6 hb106 hown6 htag6 hsk6 rL6 hat6 hc6 hadd hB06 ho6 hg6 hg5 ho5
        clear hst rL rE rL5 rS ho4 hsk hlp4 hh hW4 hat hcf hwr
        unfold hdRow
        simp only
        go_upto_region 10 with fail
        rw [show (w3.alloc (.cells #[.int .i64 h.k, .int .i64 h.n, .int .i64 h.c, .string h.s] 51)) = W4 from HW4.out.symm]
        go_cut [] from 28 to 33 (fun wx => wx = W6)
        case first =>
          go_region
          all_goals
            go_wp2_with fail
            go_meet
            rfl
        case rest =>
          obtain rfl := hcut
          clear rL1 rE1 rL51 rS1 c0 c1 c2 c3 c4 c5 d0 d1 d2 d3
          have d0 : wc.cell? ⟨w3.heap.size, 0, none⟩ = some (.int .i64 h.k) := blk_cell HB10.out 0
          have d1 : wc.cell? ⟨w3.heap.size, 1, none⟩ = some (.int .i64 h.n) := blk_cell HB10.out 1
          have d2 : wc.cell? ⟨w3.heap.size, 2, none⟩ = some (.int .i64 h.c) := blk_cell HB10.out 2
          have d3 : wc.cell? ⟨w3.heap.size, 3, none⟩ = some (.string h.s) := blk_cell HB10.out 3
          have c0 : wc.cell? ⟨w1.heap.size, 0, none⟩ = some (.int .i64 q.k) := blk_cell HPB6.out 0
          have c1 : wc.cell? ⟨w1.heap.size, 1, none⟩ = some (.int .i64 q.n) := blk_cell HPB6.out 1
          have c2 : wc.cell? ⟨w1.heap.size, 2, none⟩ = some (.int .i64 q.o) := blk_cell HPB6.out 2
          by_cases h0 : 0 < c'
          · have h01 : decide ((1 : Int) < (c' : Int) + 1) = true := by simp; omega
            have hadd : addF L q = L := by rw [HADD.out, if_pos h0]
            have HADD2 := Lib.hid hadd
            have hsk := HSK6.out
            rw [if_pos h0] at hsk
            have HSK7 := Lib.hid hsk
            clear hadd hsk
            go_wp2_with fail
            go_roundw
            case rel =>
              refine ⟨k + 1, hlt, by go_num, ?_, ?_, HBL.out.trans HB06.out, by omega⟩
              · rw [HFS2.out, HADD2.out]
              · rw [HFS2.out, HADD2.out]
                exact ⟨HOWN6.out, ⟨_, HO6.out, HSK7.out⟩, HTAG6.out.mono (Nat.le_succ k)⟩
            case measure => simp [intOf]; omega
          · have h01 : decide ((1 : Int) < (c' : Int) + 1) = false := by simp; omega
            have hadd : addF L q = L ++ [q] := by rw [HADD.out, if_neg h0]
            have HADD2 := Lib.hid hadd
            have hsk := HSK6.out
            rw [if_neg h0] at hsk
            have HSK7 := Lib.hid hsk
            clear hadd hsk
            obtain ⟨a2, k2, rfl⟩ := own_slice HOWN6.out
            obtain ⟨lk, hlk⟩ : ∃ lk, lk = L.length := ⟨_, rfl⟩
            have hlkb : lk ≤ 1048576 := by
              have h1 := firstsG_len (rows.take k) []
              rw [show firstsG (rows.take k) [] = L from HL.out.symm, ← hlk, List.length_take] at h1
              simp only [List.length_nil] at h1
              omega
            rw [← hlk]
            have HLK := Lib.hid hlk
            have hxs := hdCells_len L
            have hxs2 : hdCells (L ++ [q]) = hdCells L ++ [.int .i64 h.k, .int .i64 h.n, .int .i64 h.c, .string h.s] := by
              unfold hdCells; rw [List.flatMap_append, List.flatMap_singleton, ← HH.out]; rfl
            have HXS2 := Lib.hid hxs2
            have hown7 := HOWN6.out
            rw [← hlk] at hown7
            have hofs := ofOf_snoc L q
            have HOFS := Lib.hid hofs
            have HOWN7 := Lib.hid hown7
            have hne9 : (Value.slice a2 lk k2).ownBlock ≠ some w1.heap.size := own_ne HPB6.out hown7 (by decide)
            have hlow : ∀ g, (Value.slice a2 lk k2).ownBlock = some g → W.heap.size ≤ g := fun g e => (hown7.lt g e).1
            have HNE9 := Lib.hid hne9
            have HLOW := Lib.hid hlow
            obtain ⟨qk, hqk⟩ : ∃ qk, qk = q.k := ⟨_, rfl⟩
            obtain ⟨qo, hqo⟩ : ∃ qo, qo = q.o := ⟨_, rfl⟩
            rw [← hqk] at c0
            rw [← hqo] at c2
            have HQK := Lib.hid hqk
            have HQO := Lib.hid hqo
            clear hlk hxs hxs2 hofs hown7 hne9 hlow hqk hqo
            obtain ⟨tb, htb⟩ : ∃ tb, tb = decide (lk = 0 ∧ qk = 6) := ⟨_, rfl⟩
            have HTB := Lib.hid htb
            clear htb
            go_upto_region 12 with fail
            go_cut [45] from 38 to 44 (fun o wx => o = .bool tb ∧ wx = wc)
            case first =>
              by_cases hl0 : lk = 0
              · have hl0b : ((lk : Int) == 0) = true := by simp; omega
                have HL0 := Lib.hid hl0
                clear hl0
                go_wp2_with fail
                go_meet
                refine ⟨?_, rfl⟩
                rw [HTB.out]
                simp [HL0.out, beqI6]
              · have hl0b : ((lk : Int) == 0) = false := by simp; omega
                have HL0 := Lib.hid hl0
                clear hl0
                go_wp2_with fail
                go_meet
                refine ⟨?_, rfl⟩
                rw [HTB.out]
                simp [HL0.out]
            case rest =>
            obtain ⟨rfl, hwc⟩ := hcut
            obtain ⟨w7, hw7⟩ : ∃ w7 : World, w7 = wc := ⟨_, rfl⟩
            subst hw7
            subst hwc
            go_upto_if 45 with fail
            go_cut [6] from 46 to 47 (fun o wx => o = .int .i64 (ofOf (L ++ [q])) ∧ wx = w7)
            case first =>
              cases tb with
              | true =>
                have h := of_decide_eq_true HTB.out.symm
                have HH2 := Lib.hid h
                clear h
                go_wp2_with fail
                go_meet
                refine ⟨?_, rfl⟩
                rw [HOFS.out, if_pos (List.eq_nil_of_length_eq_zero (by rw [← HLK.out]; exact HH2.out.1)), if_pos (by rw [← HQK.out]; exact HH2.out.2), HQO.out]
              | false =>
                go_wp2_with fail
                go_meet
                refine ⟨?_, rfl⟩
                have h := of_decide_eq_false HTB.out.symm
                rw [HOFS.out]
                by_cases hLn : L = []
                · rw [if_pos hLn, if_neg (by rw [← HQK.out]; intro e; exact h ⟨by rw [HLK.out, hLn]; rfl, e⟩), hLn]
                  rfl
                · rw [if_neg hLn]
            case rest =>
            obtain ⟨rfl, hwc⟩ := hcut
            subst hwc
            have hsw8 : w.heap.size + 1 < W.heap.size := by have := HSW.out; omega
            go_upto_region 15 with (first | (at_builtin; go_must (refine wpList_append3 rfl (.tmp 48) (.tmp 50) 54 54 rfl W.heap.size 51 51 i51 _ 4 40 Try.underlying54 Try.underlying54 HI.out hz0 hz1 hz2 rfl (by decide) (.slice a2 lk k2) lk (hdCells L) rfl (HOWN7.out.alloc _) (some ⟨wc.heap.size, 0, none⟩) 1 1 [.int .i64 h.k, .int .i64 h.n, .int .i64 h.c, .string h.s] rfl rfl (fun _ => ⟨_, rfl, new_cells (c := #[.int .i64 h.k, .int .i64 h.n, .int .i64 h.c, .string h.s]) _ rfl⟩) (by simp [Value.oneCell']) (by unfold maxLen; omega) (by omega) (by simp; omega) ?_; intro v8 w8 hown8 hg8 hat8)))
            have hpb8 : PB w8 w1.heap.size q ab cb := blk_grown (blk_alloc HPB6.out _) hg8 HNE9.out
            have hseen8 := World.ownsMap.kept (HO6.out.alloc (.cells #[.int .i64 h.k, .int .i64 h.n, .int .i64 h.c, .string h.s] 51)) hg8 (fun e => by have := HLOW.out _ e.symm; omega)
            have htag8 := World.ownsMap.kept (HTAG6.out.alloc (.cells #[.int .i64 h.k, .int .i64 h.n, .int .i64 h.c, .string h.s] 51)) hg8 (fun e => by have := HLOW.out _ e.symm; omega)
            have hB08 : Below w.heap.size wr w8 := (HB06.out.alloc (by omega) _).grown hg8 (by simp; omega) (fun g e => by have := HLOW.out g e; omega)
            have hs8 := hg8.size
            rw [World.size_alloc] at hs8
            rw [← HXS2.out] at hown8
            have HOWN8 := Lib.hid hown8
            have HSEEN8 := Lib.hid hseen8
            have HTAG8 := Lib.hid htag8
            have HB08 := Lib.hid hB08
            obtain ⟨qn, hqn⟩ : ∃ qn, qn = q.n := ⟨_, rfl⟩
            have c0 : w8.cell? ⟨w1.heap.size, 0, none⟩ = some (.int .i64 qk) := by rw [HQK.out]; exact blk_cell hpb8 0
            have c1 : w8.cell? ⟨w1.heap.size, 1, none⟩ = some (.int .i64 qn) := by rw [hqn]; exact blk_cell hpb8 1
            obtain ⟨oo, hoo⟩ : ∃ oo, oo = ofOf (L ++ [q]) := ⟨_, rfl⟩
            rw [← hoo]
            obtain ⟨tc, htc⟩ : ∃ tc, tc = decide (qk = 6 ∧ qn < oo) := ⟨_, rfl⟩
            have HQN := Lib.hid hqn
            have HOO := Lib.hid hoo
            have HTC := Lib.hid htc
            clear hpb8 hseen8 htag8 hB08 hqn hoo htc hown8 hg8 hat8 d0 d1 d2 d3
            go_cut [60] from 52 to 59 (fun o wx => o = .bool tc ∧ wx = w8)
            case first =>
              by_cases h6 : qk = 6
              · have h6b : (qk == 6) = true := by simp [h6]
                have H6 := Lib.hid h6
                clear h6
                by_cases hlo : qn < oo
                · have hlb : decide (qn < oo) = true := by simpa using hlo
                  have HLO := Lib.hid hlo
                  clear hlo
                  go_wp2_with fail
                  go_meet
                  exact ⟨by rw [HTC.out]; simp [H6.out, HLO.out], rfl⟩
                · have hlb : decide (qn < oo) = false := by simpa using hlo
                  have HLO := Lib.hid hlo
                  clear hlo
                  go_wp2_with fail
                  go_meet
                  exact ⟨by rw [HTC.out]; simp [H6.out, HLO.out], rfl⟩
              · have h6b : (qk == 6) = false := by simp [h6]
                have H6 := Lib.hid h6
                clear h6
                go_wp2_with fail
                go_meet
                exact ⟨by rw [HTC.out]; simp [H6.out], rfl⟩
            case rest =>
            obtain ⟨rfl, hwc⟩ := hcut
            obtain ⟨w9, hw9⟩ : ∃ w9 : World, w9 = w8 := ⟨_, rfl⟩
            subst hw9
            subst hwc
            have hqf := HQF.out.ints.2.1
            rw [← HQN.out] at hqf
            have HQN64 := Lib.hid (wf64 hqf)
            have htg := tags_step L q
            rw [← HOO.out, ← HQK.out, ← HQN.out] at htg
            have HTG := Lib.hid htg
            clear hqf htg
            have fin : ∀ wx : World, wx.ownsMap Try.prog 3 (plainElem Try.prog 3) (w.heap.size + 1) (k + 1) (setOf (H := Unit) (.lit (.int .i64 1)) ((tagsOf oo (L ++ [q])).map nl)) → wc.grownBy wx (some (w.heap.size + 1)) →
                HLoop W.heap.size w.heap.size wx (L ++ [q]) (k + 1) v8 ∧ Below w.heap.size wr wx ∧ W.heap.size ≤ wx.heap.size := by
              intro wx htg9 hg9
              have hlen2 : (L ++ [q]).length = lk + 1 := by rw [HLK.out]; simp
              have hs9 := hg9.size
              refine ⟨⟨?_, ⟨_, HSEEN8.out.kept hg9 (by simp), HSK7.out⟩, ?_⟩, HB08.out.grown hg9 (by omega) (fun g e => by cases e; omega), by omega⟩
              · rw [hlen2]; exact own_map HOWN8.out HTAG8.out hg9
              · rw [← HOO.out]; exact htg9
            have FIN := Lib.hid fin
            clear fin
            cases tc with
            | true =>
              have h := of_decide_eq_true HTC.out.symm
              have hg := HTG.out
              rw [if_pos h] at hg
              have hrg := con_range HQP.out (by rw [← HQK.out]; exact h.1)
              rw [← HQN.out] at hrg
              have hnl : nl qn.toNat = .int .i64 qn := by show Lit.int .i64 ((qn.toNat : Nat) : Int) = _; rw [Int.toNat_of_nonneg hrg.1]
              rw [List.map_singleton, hnl] at hg
              have HG := Lib.hid hg
              clear h hg hrg hnl
              go_wp2_with (first | (at_mapUpdate; refine wpList_mapUpdate_own _ rfl _ _ _ 63 rfl 3 3 law3 Try.underlying63 _ (w.heap.size + 1) k _ rfl HTAG8.out (by unfold maxLen; omega) _ _ (.int .i64 qn) rfl rfl (keyOf_int_mk Try.underlying3 HQN64.out) _ [] (plainElem_int Try.underlying3 (wf64 (x := 1) (by unfold I64; omega))) ?_; intro w10 hown10 hg10))
              go_roundw
              case rel =>
                have hf := FIN.out w10 (by rw [HG.out, setOf_snoc]; exact hown10) hg10
                refine ⟨k + 1, hlt, by go_num, ?_, ?_, HBL.out.trans hf.2.1, hf.2.2⟩
                · rw [HFS2.out, HADD2.out, HOO.out]
                · rw [HFS2.out, HADD2.out]; exact hf.1
              case measure => simp [intOf]; omega
            | false =>
              have h := of_decide_eq_false HTC.out.symm
              have hg := HTG.out
              rw [if_neg h, List.map_nil, List.append_nil] at hg
              have HG := Lib.hid hg
              clear h hg
              go_wp2_with fail
              go_roundw
              case rel =>
                have hf := FIN.out _ (by rw [HG.out]; exact HTAG8.out.mono (Nat.le_succ k)) (World.grownBy.refl _ _)
                refine ⟨k + 1, hlt, by go_num, ?_, ?_, HBL.out.trans hf.2.1, hf.2.2⟩
                · rw [HFS2.out, HADD2.out, HOO.out]
                · rw [HFS2.out, HADD2.out]; exact hf.1
              case measure => simp [intOf]; omega
    · have hd : decide ((k : Int) < (len : Int)) = false := by simp; omega
      have hk : k = rows.length := by rw [← HLEN.out]; omega
      have hLf : L = firsts rows := by rw [HL.out, hk, List.take_length]
      have hwh := whole_tags (l := L) (by rw [hLf]; exact firsts_proper HE.out)
      have HEQ : Hid (FS = L) := Lib.hid (HFSS.out.trans hLf.symm)
      obtain ⟨hown, hsn, htg⟩ := HLP.out
      have hln := htg.len Try.underlying63 3
      rw [size_nls] at hln
      obtain ⟨tn, htn⟩ : ∃ tn, tn = ((tagsOf (ofOf L) L).foldl addN []).length := ⟨_, rfl⟩
      rw [← htn] at hln hwh
      have hBf : Below w.heap.size w wr := HBL.out
      obtain ⟨a2, k2, rfl⟩ := own_slice hown
      have HBF := Lib.hid hBf
      have HWH := Lib.hid hwh
      have HOWN := Lib.hid hown
      clear hwh hown hsn htg htn hBf hLf hk
      cases L with
      | nil =>
        go_wp2_with fail
        refine bodyPost_ret (results_tmp2 Try.results25 _ _ _) rfl ?_
        rw [HEQ.out]
        exact ⟨none, 0, rfl, ⟨Nat.zero_le _, fun h => by simp at h⟩, HBF.out⟩
      | cons q0 L' =>
        obtain ⟨lk, hlk⟩ : ∃ lk, lk = (q0 :: L').length := ⟨_, rfl⟩
        rw [← hlk]
        have hlk1 : 1 ≤ lk := by rw [hlk]; simp
        have hown := HOWN.out
        rw [← hlk] at hown
        obtain ⟨g, rfl⟩ : ∃ g, a2 = some ⟨g, 0, none⟩ := by
          obtain ⟨g, cp, e⟩ := own_shape hown (fun e => by cases e; omega)
          cases e
          exact ⟨g, rfl⟩
        have hcells : ∀ j u, (hdCells (q0 :: L'))[j]? = some u → wr.cell? ⟨g, 0 + j, none⟩ = some u := fun j u hu => by
          have h := hown.cells (g := g) rfl j u hu
          rwa [Addr.add_lit] at h
        have e0 : wr.cell? ⟨g, 0, none⟩ = some (.int .i64 q0.k) := hcells 0 _ rfl
        have hix : ∀ w' : World, (Instr.indexAt 54 (.slice (some ⟨g, 0, none⟩) lk k2) (.int .i64 0)).run Try.prog w' = .ok (.pointer (some ⟨g, 0 + 0 * 4, none⟩)) w' := fun w' => index_at Try.underlying54 size51 rfl lk k2 0 (by omega) w'
        rw [show 0 + 0 * 4 = 0 from rfl] at hix
        have hg2 : W.heap.size ≤ g ∧ g < wr.heap.size := ⟨(hown.lt g rfl).1, (hown.lt g rfl).2⟩
        have hcap : lk ≤ k2 := by
          rcases hown.2 with ⟨h, _⟩ | ⟨_, _, _, h, _, _, h2, _⟩
          · cases h
          · cases h; exact h2
        have hfin : HdsV wr (fun b => w.heap.size ≤ b ∧ b < wr.heap.size) FS (some ⟨g, 0, none⟩) k2 := by
          rw [HEQ.out]
          exact ⟨by rw [← hlk]; exact hcap, fun _ => ⟨g, 0, rfl, ⟨by omega, hg2.2⟩, hcells⟩⟩
        have hpost : ∀ bb, bb = whole (q0 :: L') → ∃ a c, (Ending.returned (.tuple #[.slice (some ⟨g, 0, none⟩) lk k2, .bool bb])) = .returned (.tuple #[.slice a FS.length c, .bool (whole FS)]) ∧ HdsV wr (fun b => w.heap.size ≤ b ∧ b < wr.heap.size) FS a c ∧ Below w.heap.size w wr := by
          intro bb hbb
          exact ⟨some ⟨g, 0, none⟩, k2, by rw [hbb, HEQ.out, hlk], hfin, HBF.out⟩
        obtain ⟨oo, hoo⟩ : ∃ oo, oo = ofOf (q0 :: L') := ⟨_, rfl⟩
        have hwh := HWH.out
        unfold wholeT at hwh
        simp only at hwh
        rw [← hoo] at hwh ⊢
        obtain ⟨qk, hqk⟩ : ∃ qk, qk = q0.k := ⟨_, rfl⟩
        simp only [← hqk] at hwh
        rw [← hqk] at e0
        have HWH2 := Lib.hid hwh
        have HPOST := Lib.hid hpost
        have hlk0 : ((lk : Int) == 0) = false := by simp; omega
        clear hlk hown hcells hg2 hcap hfin hpost hoo hwh hqk
        by_cases h5 : qk = 5
        · subst h5
          go_wp2_with fail
          refine bodyPost_ret (results_tmp2 Try.results25 _ _ _) rfl ?_
          exact HPOST.out true (by rw [HWH2.out]; rfl)
        · have h5b : (qk == 5) = false := by simp [h5]
          have H5 := Lib.hid h5
          clear h5
          by_cases h6 : qk = 6
          · subst h6
            go_wp2_with fail
            refine bodyPost_ret (results_tmp2 Try.results25 _ _ _) rfl ?_
            exact HPOST.out _ (by rw [HWH2.out]; simp [beqII])
          · have h6b : (qk == 6) = false := by simp [h6]
            have H6 := Lib.hid h6
            clear h6
            go_wp2_with fail
            refine bodyPost_ret (results_tmp2 Try.results25 _ _ _) rfl ?_
            exact HPOST.out _ (by rw [HWH2.out]; simp [H5.out, H6.out])
end Go.Proofs.Ytcieoelogocjkaa
