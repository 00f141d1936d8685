/-
  Proved: the contract of the reference's firsts. Condition: weights of at most 1048576.
-/
import Derived.Test.YtcieoelogocjkaaQ2
set_option linter.unusedSimpArgs false
set_option linter.unusedVariables false
namespace Go.Proofs.Ytcieoelogocjkaa
open Go.RowKit

abbrev SixA (b o : Nat) (q : Pt) (ab : Option Addr) (cb : Nat) (w : World) : Prop :=
  ((w.cell? ⟨b, o, none⟩ = some (.int .i64 q.k) ∧ w.cell? ⟨b, o + 1, none⟩ = some (.int .i64 q.n) ∧ w.cell? ⟨b, o + 2, none⟩ = some (.int .i64 q.o)) ∧ (w.cell? ⟨b, o + 3, none⟩ = some (.int .i64 q.a) ∧ w.cell? ⟨b, o + 4, none⟩ = some (.string q.s) ∧ w.cell? ⟨b, o + 5, none⟩ = some (.slice ab q.kids.length cb)))
abbrev SixZ (b : Nat) (q : Pt) (ab : Option Addr) (cb : Nat) (w : World) : Prop :=
  ((w.cell? ⟨b, 0, none⟩ = some (.int .i64 q.k) ∧ w.cell? ⟨b, 1, none⟩ = some (.int .i64 q.n) ∧ w.cell? ⟨b, 2, none⟩ = some (.int .i64 q.o)) ∧ (w.cell? ⟨b, 3, none⟩ = some (.int .i64 q.a) ∧ w.cell? ⟨b, 4, none⟩ = some (.string q.s) ∧ w.cell? ⟨b, 5, none⟩ = some (.slice ab q.kids.length cb)))
abbrev STwo (b : Nat) (q : Pt) (ab : Option Addr) (cb : Nat) (g o : Nat) (x : Pt) (ax : Option Addr) (cx : Nat) (w : World) : Prop := SixZ b q ab cb w ∧ SixA g o x ax cx w
theorem STwo.drew {b : Nat} {q : Pt} {ab : Option Addr} {cb : Nat} {g o : Nat} {x : Pt} {ax : Option Addr} {cx : Nat} {w : World} (hs : STwo b q ab cb g o x ax cx w) : STwo b q ab cb g o x ax cx w.drew := hs
theorem STwo.below {b : Nat} {q : Pt} {ab : Option Addr} {cb : Nat} {g o : Nat} {x : Pt} {ax : Option Addr} {cx : Nat} {w w' : World} (hs : STwo b q ab cb g o x ax cx w) (hb : Below w.heap.size w w') (h6 : b < w.heap.size) (h3 : g < w.heap.size) : STwo b q ab cb g o x ax cx w' := by
  have e6 : ∀ o, w'.cell? ⟨b, o, none⟩ = w.cell? ⟨b, o, none⟩ := fun o => hb.cell (p := ⟨b, o, none⟩) h6
  have e3 : ∀ o, w'.cell? ⟨g, o, none⟩ = w.cell? ⟨g, o, none⟩ := fun o => hb.cell (p := ⟨g, o, none⟩) h3
  unfold STwo SixA SixZ
  simp only [e6, e3]
  exact hs
/-- a row of patterns that one builds -/
def OutP (B N : Nat) (w : World) (v : Value) (L : List Pt) : Prop := ∃ rs, w.ownsRow B 26 6 v L.length rs.flatten ∧ RowsOf w (fun b => b < N) L rs
theorem OutP.on {B N : Nat} {w w' : World} {v : Value} {L : List Pt} (h : OutP B N w v L) (hb : Below w.heap.size w w') (hN : N ≤ w.heap.size) : OutP B N w' v L := by
  obtain ⟨rs, h1, h2⟩ := h
  exact ⟨rs, own_on h1 hb, RowsOf.keep (fun b h => below_cells hb b (Nat.lt_of_lt_of_le h hN)) h2⟩
theorem RowsOf.get {w : World} {D : Nat → Prop} : ∀ {l : List Pt} {rs : List (List Value)}, RowsOf w D l rs → ∀ {k : Nat} (hk : k < l.length), ∃ a c, (∀ j, j < 6 → rs.flatten[k * 6 + j]? = (rowOf l[k] a c)[j]?) ∧ SlD w D l[k].kids a c
  | [], [], _, k, hk => by simp at hk
  | p :: ps, r :: rs, h, k, hk => by
    obtain ⟨a, c, he, hs⟩ := h.1.row
    have hl : r.length = 6 := h.1.six.1
    cases k with
    | zero =>
      refine ⟨a, c, fun j hj => ?_, hs⟩
      rw [List.flatten_cons, List.getElem?_append_left (by omega), he]
      simp
    | succ k =>
      obtain ⟨a', c', h1, h2⟩ := h.2.get (k := k) (by simpa using hk)
      refine ⟨a', c', fun j hj => ?_, h2⟩
      rw [List.flatten_cons, List.getElem?_append_right (by omega), hl, show (k + 1) * 6 + j - 6 = k * 6 + j from by omega]
      exact h1 j hj
theorem OutP.get {B N : Nat} {w : World} {v : Value} {L : List Pt} (h : OutP B N w v L) {j : Nat} (hj : j < L.length) : ∃ g cap ax cx, v = .slice (some ⟨g, 0, none⟩) L.length cap ∧ g < w.heap.size ∧ SixA g (j * 6) L[j] ax cx w ∧ SlD w (fun b => b < N) L[j].kids ax cx := by
  obtain ⟨rs, hown, hr⟩ := h
  obtain ⟨g, cap, hv⟩ := own_shape hown (fun e => by
    rcases hown.2 with ⟨_, h0⟩ | ⟨_, _, _, he, _⟩
    · omega
    · rw [e] at he; cases he)
  subst hv
  obtain ⟨ax, cx, hc, hs⟩ := hr.get hj
  have hlt := (hown.lt g rfl).2
  have hcell : ∀ i u, i < 6 → (rowOf L[j] ax cx)[i]? = some u → w.cell? ⟨g, j * 6 + i, none⟩ = some u := by
    intro i u hi hu
    have := hown.cells (g := g) rfl (j * 6 + i) u (by rw [hc i hi]; exact hu)
    rw [Addr.add_lit] at this
    rwa [Nat.zero_add] at this
  exact ⟨g, cap, ax, cx, rfl, hlt, ⟨⟨hcell 0 _ (by omega) rfl, hcell 1 _ (by omega) rfl, hcell 2 _ (by omega) rfl⟩, hcell 3 _ (by omega) rfl, hcell 4 _ (by omega) rfl, hcell 5 _ (by omega) rfl⟩, hs⟩
/-- is it new, against the first j? -/
def newB (L : List Pt) (q : Pt) (j : Nat) : Bool := decide (q.k ≠ 0) && !((L.take j).any fun x => decide (headOf x = headOf q))
theorem newB_zero (L : List Pt) (q : Pt) : newB L q 0 = decide (q.k ≠ 0) := by simp [newB]
theorem newB_step {L : List Pt} {q : Pt} {j : Nat} (hj : j < L.length) (h : newB L q j = true) : newB L q (j + 1) = !(decide (headOf q = headOf L[j])) := by
  unfold newB at h ⊢
  simp only [Bool.and_eq_true, Bool.not_eq_true'] at h
  rw [List.take_succ_eq_append_getElem hj, List.any_append, h.1, h.2]
  simp only [List.any_cons, List.any_nil, Bool.or_false, Bool.false_or, Bool.true_and]
  congr 1
  rw [Bool.eq_iff_iff]
  simp only [decide_eq_true_eq]
  exact ⟨fun e => e.symm, fun e => e.symm⟩
theorem newB_false {L : List Pt} {q : Pt} {j : Nat} (hj : j ≤ L.length) (h : newB L q j = false) : addF L q = L := by
  unfold newB at h
  unfold addF
  by_cases hk : q.k = 0
  · rw [if_pos hk]
  · rw [if_neg hk]
    have h' : ((L.take j).any fun x => decide (headOf x = headOf q)) = true := by simpa [hk] using h
    rw [if_pos]
    rw [List.any_eq_true] at h' ⊢
    obtain ⟨x, hx, hxx⟩ := h'
    exact ⟨x, List.mem_of_mem_take hx, hxx⟩
theorem newB_true {L : List Pt} {q : Pt} (h : newB L q L.length = true) : addF L q = L ++ [q] := by
  unfold newB at h
  rw [List.take_length] at h
  simp only [Bool.and_eq_true, Bool.not_eq_true', decide_eq_true_eq] at h
  unfold addF
  rw [if_neg h.1, if_neg (by rw [h.2]; decide)]

set_option maxRecDepth 100000 in
set_option maxHeartbeats 4000000 in
theorem rfirsts_any (n : Nat) (rows : List (List Pt)) (ao : Option Addr) (cap : Nat) (w : World) (hE : Even (n + 1) rows) (hv : MatV w w.heap.size rows ao cap) (hR : rows.length ≤ 1048576) (hw : wtR rows ≤ 1000000) :
    Calls Try.prog 29 #[.slice ao rows.length cap] w fun e w' => ∃ a c, e = .returned (.slice a (firsts rows).length c) ∧ SlV w' w'.heap.size (firsts rows) a c ∧ Below w.heap.size w w' := by
  obtain ⟨i26, hi, hz0, hz1, hz2⟩ := info_parts info26
  have HI := Lib.hid hi
  have HE := Lib.hid hE
  have HV := Lib.hid hv
  have HWT := Lib.hid hw
  clear hi hE hv hw
  obtain ⟨len, hlen⟩ : ∃ len, len = rows.length := ⟨_, rfl⟩
  rw [← hlen] at hR ⊢
  have HLEN := Lib.hid hlen
  clear hlen
  obtain ⟨FS, hFSS⟩ : ∃ FS, FS = firsts rows := ⟨_, rfl⟩
  rw [← hFSS]
  have HFSS := Lib.hid hFSS
  clear hFSS
  go_enter Try.func29, Try.ntmps29
  go_wp2_with fail
  go_loopw [3, 4] (fun o i wr => ∃ k : Nat, k ≤ len ∧ i = .int .i64 k ∧ OutP w.heap.size w.heap.size wr o (firsts (rows.take k)) ∧ Below w.heap.size w wr) (fun _ i _ => len - (intOf i).toNat)
  case atStart => exact ⟨0, Nat.zero_le _, rfl, ⟨[], World.ownsRow_nil _ _ _ _, trivial⟩, Below.refl _ _⟩
  case round =>
    obtain ⟨k, hkl, rfl, hout, hbl⟩ := hrel
    obtain ⟨wo, hwo⟩ : ∃ wo : World, wo = wr := ⟨_, rfl⟩
    subst hwo
    obtain ⟨L, hL⟩ : ∃ L, L = firsts (rows.take k) := ⟨_, rfl⟩
    rw [← hL] at hout
    have HL := Lib.hid hL
    have HOUT := Lib.hid hout
    have HBL := Lib.hid hbl
    have hsr := hbl.size
    clear hL hout hbl
    by_cases hlt : k < len
    · have hd : decide ((k : Int) < (len : Int)) = true := by simp; omega
      have hkr : k < rows.length := by rw [← HLEN.out]; exact hlt
      obtain ⟨b, off, ai, ci, ha, hb, hcell, hsl⟩ := (HV.out.keep HBL.out).get hkr
      have hix : ∀ w' : World, (Instr.indexAt 22 (.slice ao len cap) (.int .i64 k)).run Try.prog w' = .ok (.pointer (some ⟨b, off + k, none⟩)) w' := by intro w'; have h := index_at Try.underlying22 size23 ha len cap k hlt w'; rwa [Nat.mul_one] at h
      rw [Nat.mul_one] at hcell
      obtain ⟨r, hr⟩ : ∃ r, r = rows[k] := ⟨_, rfl⟩
      rw [← hr] at hcell hsl
      have hmem : r ∈ rows := by rw [hr]; exact List.getElem_mem hkr
      obtain ⟨p, ps, rfl⟩ : ∃ p ps, r = p :: ps := by
        have := (HE.out r hmem).1
        cases r with
        | nil => simp at this
        | cons p ps => exact ⟨p, ps, rfl⟩
      obtain ⟨m, hm⟩ : ∃ m, m = (p :: ps).length := ⟨_, rfl⟩
      rw [← hm] at hcell
      have hm1 : 1 ≤ m := by rw [hm]; simp
      obtain ⟨b2, off2, row, ha2, hb2, hrow, hpv⟩ := hsl.2.get (k := 0) (by simp)
      obtain ⟨aq, cq, rfl, hkq⟩ := hpv.row
      have hkq : SlD wo (fun b => b < w.heap.size) p.kids aq cq := hkq
      have hix2 : ∀ w' : World, (Instr.indexAt 23 (.slice ai m ci) (.int .i64 0)).run Try.prog w' = .ok (.pointer (some ⟨b2, off2 + 0 * 6, none⟩)) w' := fun w' => index_at Try.underlying23 size26 ha2 m ci 0 (by omega) w'
      rw [show off2 + 0 * 6 = off2 from by omega] at hix2
      have x0 : wo.cell? ⟨b2, off2, none⟩ = some (.int .i64 p.k) := hrow 0 (by omega)
      have x1 : wo.cell? ⟨b2, off2 + 1, none⟩ = some (.int .i64 p.n) := hrow 1 (by omega)
      have x2 : wo.cell? ⟨b2, off2 + 2, none⟩ = some (.int .i64 p.o) := hrow 2 (by omega)
      have x3 : wo.cell? ⟨b2, off2 + 3, none⟩ = some (.int .i64 p.a) := hrow 3 (by omega)
      have x4 : wo.cell? ⟨b2, off2 + 4, none⟩ = some (.string p.s) := hrow 4 (by omega)
      have x5 : wo.cell? ⟨b2, off2 + 5, none⟩ = some (.slice aq p.kids.length cq) := hrow 5 (by omega)
      have hfs := firsts_snoc hkr hr.symm
      rw [← HL.out] at hfs
      have hpp := properL_cons (HE.out _ hmem).2
      have hwtp : wt p ≤ 1000000 := by
        have h1 := wtL_le hmem
        have h2 := HWT.out
        rw [wtL] at h1
        omega
      have HWTP := Lib.hid hwtp
      have HFS := Lib.hid hfs
      have HPP := Lib.hid hpp.1
      have HKQ := Lib.hid hkq
      clear ha hr hm hmem hsl ha2 hrow hpv hkq hfs hpp hb hb2 hwtp
      go_wp2_with fail
      refine (rbare_any (fun b => b < w.heap.size) p aq cq wo (fun b hb => by omega) HPP.out HKQ.out).mono ?_
      rintro e w1 ⟨ab, cb, rfl, hsb, hb1⟩
      obtain ⟨q, hq⟩ : ∃ q, q = bare p := ⟨_, rfl⟩
      have hfs := HFS.out
      rw [← hq] at hsb hfs ⊢
      have hqw : q.kids.length ≤ 1048576 := by
        have hqp : Proper q := by rw [hq]; exact (proper_bare HPP.out).1
        have h1 := kids_le hqp
        have h2 := (proper_bare HPP.out).2.2.2.1
        have h3 := HWTP.out
        rw [← hq] at h2
        omega
      obtain ⟨W2, hW2⟩ : ∃ W2, W2 = w1.alloc (.cells (rowOf q ab cb) 26) := ⟨_, rfl⟩
      have hb6 : PB W2 w1.heap.size q ab cb := by rw [hW2]; exact heap_alloc_new w1 _
      have hB2 : Below wo.heap.size wo W2 := by rw [hW2]; exact balloc hb1 _
      have hkq2 : SlD W2 (fun b => b < w.heap.size) q.kids ab cb := hsb.keep fun b hb => below_cells hB2 b (by omega)
      have hlL : L.length ≤ 1048576 ∧ ∀ x ∈ L, x.kids.length ≤ 1048576 := by
        have h1 := firstsG_len (rows.take k) []
        rw [show firstsG (rows.take k) [] = L from HL.out.symm, List.length_take] at h1
        simp only [List.length_nil] at h1
        refine ⟨by omega, fun x hx => ?_⟩
        have hbx : Begins (headOf x) rows := (firstsG_begins (rows.take k) [] rows (fun r h => List.mem_of_mem_take h) (fun q h => by simp at h) x (by rw [show firstsG (rows.take k) [] = L from HL.out.symm]; exact hx)).1
        have h2 := givens_less HE.out hbx
        have h3 := HWT.out
        have h4 : (headOf x).c = x.kids.length := rfl
        omega
      have HB2 := Lib.hid hB2
      have HB6 := Lib.hid hb6
      have HFS2 := Lib.hid hfs
      have HW2 := Lib.hid hW2
      have HKQ2 := Lib.hid hkq2
      have HLL := Lib.hid hlL
      have HOUT2 := Lib.hid (HOUT.out.on hB2 hsr)
      have c0 : W2.cell? ⟨w1.heap.size, 0, none⟩ = some (.int .i64 q.k) := blk_cell hb6 0
      have l6 := lt_of_block hb6
      have hs1 := hb1.size
      have hs2 := hB2.size
      clear hq hsb hfs hW2 hb6 hB2 hb1 x0 x1 x2 x3 x4 x5 hix hix2 hcell hkq2 hlL
      unfold rowOf
      obtain ⟨rs0, hro, _⟩ := HOUT2.out
      obtain ⟨a3, k3, rfl⟩ := own_slice hro
      obtain ⟨lk, hlk⟩ : ∃ lk, lk = L.length := ⟨_, rfl⟩
      rw [← hlk]
      have hlk9 : lk ≤ 1048576 := by rw [hlk]; exact HLL.out.1
      have HLK := Lib.hid hlk
      have hnb : (q.k != 0) = newB L q 0 := by rw [newB_zero]; rw [Bool.eq_iff_iff]; simp
      have HNB := Lib.hid hnb
      clear hro hlk hnb
      go_upto_region 6 with fail
      rw [show (w1.alloc (.cells #[.int .i64 q.k, .int .i64 q.n, .int .i64 q.o, .int .i64 q.a, .string q.s, .slice ab q.kids.length cb] 26)) = W2 from HW2.out.symm]
      go_wp2_with fail
      go_loopw [6, 7] (fun v i wi => ∃ j : Nat, j ≤ lk ∧ i = .int .i64 j ∧ v = .bool (newB L q j) ∧ Below W2.heap.size W2 wi) (fun _ i _ => lk - (intOf i).toNat)
      case atStart => exact ⟨0, Nat.zero_le _, rfl, by rw [HNB.out], Below.refl _ _⟩
      case round =>
        obtain ⟨j, hj, rfl, rfl, hbi⟩ := hrel
        have HBI := Lib.hid hbi
        have hsi := hbi.size
        obtain ⟨nb, hnb⟩ : ∃ nb, nb = newB L q j := ⟨_, rfl⟩
        rw [← hnb]
        have HNBJ := Lib.hid hnb
        have hpbi : PB wr w1.heap.size q ab cb := blk_below HB6.out hbi l6
        have HPBI := Lib.hid hpbi
        have li : w1.heap.size < wr.heap.size := by omega
        clear hbi hnb hpbi c0
        by_cases hjl : j < lk
        · have hdj : decide ((j : Int) < (lk : Int)) = true := by simp; omega
          have hjL : j < L.length := by rw [← HLK.out]; exact hjl
          cases nb with
          | true =>
            obtain ⟨g, kg, ax, cx, hgv, hgl, hsix, hsx⟩ := (HOUT2.out.on HBI.out (by omega)).get hjL
            obtain ⟨x, hx⟩ : ∃ x, x = L[j] := ⟨_, rfl⟩
            rw [← hx] at hsix hsx
            have hxl : x.kids.length ≤ 1048576 := HLL.out.2 x (by rw [hx]; exact List.getElem_mem hjL)
            have hstep := newB_step hjL HNBJ.out.symm
            rw [← hx] at hstep
            have ha3 : a3 = some ⟨g, 0, none⟩ := by cases hgv; rfl
            have hix : ∀ w' : World, (Instr.indexAt 23 (.slice a3 lk k3) (.int .i64 j)).run Try.prog w' = .ok (.pointer (some ⟨g, 0 + j * 6, none⟩)) w' := fun w' => index_at Try.underlying23 size26 ha3 lk k3 j hjl w'
            rw [Nat.zero_add] at hix
            obtain ⟨p0, hp0⟩ : ∃ p0, p0 = j * 6 := ⟨_, rfl⟩
            rw [← hp0] at hix hsix
            have hS : STwo w1.heap.size q ab cb g p0 x ax cx wr := ⟨⟨⟨blk_cell HPBI.out 0, blk_cell HPBI.out 1, blk_cell HPBI.out 2⟩, blk_cell HPBI.out 3, blk_cell HPBI.out 4, blk_cell HPBI.out 5⟩, hsix⟩
            have HSTEP := Lib.hid hstep
            clear hgv hsix hsx hx hstep ha3 hp0 hjL
            go_upto_region 10 with fail
            go_cut [8] from 34 to 39 (fun v8 wx => v8 = .bool (decide (headOf q = headOf x)) ∧ Below wr.heap.size wr wx)
            case first =>
              go_region_held3 (fun w' => STwo w1.heap.size q ab cb g p0 x ax cx w')
                (repeat (first | exact hS | exact hS5 | apply STwo.drew))
                (first | (go_at_call 31; refine (alike_any q x ab ax cb cx wr.drew hqw hxl).mono ?_; rintro e w5 ⟨rfl, hb5⟩; have hS5 := (STwo.drew hS).below hb5 li hgl))
              go_wp2_with fail
              go_meet
              exact ⟨rfl, (Below.refl _ _).drew.trans hb5⟩
            case rest =>
              obtain ⟨rfl, hcb⟩ := hcut
              obtain ⟨w6, hw6⟩ : ∃ w6 : World, w6 = wc := ⟨_, rfl⟩
              subst hw6
              have HCB := Lib.hid (HBI.out.trans (hcb.mono hsi))
              clear hcb hS hix
              obtain ⟨sb, hsb⟩ : ∃ sb, sb = decide (headOf q = headOf x) := ⟨_, rfl⟩
              rw [← hsb]
              have HSB := Lib.hid hsb
              clear hsb
              go_wp2_with fail
              go_roundw
              case rel => exact ⟨j + 1, hjl, by go_num, by rw [HSTEP.out, HSB.out], HCB.out⟩
              case measure => simp [intOf]; omega
          | false =>
            have hadd := newB_false (Nat.le_of_lt hjL) HNBJ.out.symm
            have HADD := Lib.hid hadd
            clear hadd hjL
            go_wp2_with fail
            go_roundw
            case rel =>
              refine ⟨k + 1, hlt, by go_num, ?_, HBL.out.trans ((HB2.out.trans (HBI.out.mono hs2)).mono hsr)⟩
              rw [HFS2.out, HADD.out, HLK.out]
              exact HOUT2.out.on HBI.out (by omega)
            case measure => simp [intOf]; omega
        · have hdj : decide ((j : Int) < (lk : Int)) = false := by simp; omega
          have hje : j = L.length := by rw [← HLK.out]; omega
          cases nb with
          | true =>
            have hadd : addF L q = L ++ [q] := newB_true (by rw [← hje]; exact HNBJ.out.symm)
            obtain ⟨rs, hown, hr⟩ := HOUT2.out.on HBI.out (by omega)
            rw [← HLK.out] at hown
            have c0 : wr.cell? ⟨w1.heap.size, 0, none⟩ = some (.int .i64 q.k) := blk_cell HPBI.out 0
            have c1 : wr.cell? ⟨w1.heap.size, 1, none⟩ = some (.int .i64 q.n) := blk_cell HPBI.out 1
            have c2 : wr.cell? ⟨w1.heap.size, 2, none⟩ = some (.int .i64 q.o) := blk_cell HPBI.out 2
            have c3 : wr.cell? ⟨w1.heap.size, 3, none⟩ = some (.int .i64 q.a) := blk_cell HPBI.out 3
            have c4 : wr.cell? ⟨w1.heap.size, 4, none⟩ = some (.string q.s) := blk_cell HPBI.out 4
            have c5 : wr.cell? ⟨w1.heap.size, 5, none⟩ = some (.slice ab q.kids.length cb) := blk_cell HPBI.out 5
            have hkq3 : SlD wr (fun b => b < w.heap.size) q.kids ab cb := HKQ2.out.keep fun b hb => below_cells HBI.out b (by omega)
            have HADD := Lib.hid hadd
            have HOWN := Lib.hid hown
            have HROW := Lib.hid hr
            have HKQ3 := Lib.hid hkq3
            clear hadd hown hr hkq3 hje
            go_wp2_with (first | (at_builtin; go_must (refine wpList_append3 rfl (.tmp 43) (.tmp 45) 23 23 rfl w.heap.size 26 26 i26 _ 6 72 Try.underlying23 Try.underlying23 HI.out hz0 hz1 hz2 rfl (by decide) (.slice a3 lk k3) lk rs.flatten rfl (HOWN.out.alloc _) (some ⟨wr.heap.size, 0, none⟩) 1 1 (rowOf q ab cb).toList rfl rfl (fun _ => ⟨_, rfl, new_cells (c := rowOf q ab cb) _ rfl⟩) (by simp [Value.oneCell', rowOf]) (by unfold maxLen; omega) (by omega) (by simp; omega) ?_; intro v7 w7 hown7 hg7 hat7)))
            go_roundw
            case rel =>
              have hlow : ∀ g, (Value.slice a3 lk k3).ownBlock = some g → w.heap.size ≤ g := fun g e => (HOWN.out.lt g e).1
              have hB7 : Below w.heap.size wr w7 := ((Below.refl _ _).alloc (by omega) _).grown hg7 (by simp; omega) hlow
              refine ⟨k + 1, hlt, by go_num, ?_, (HBL.out.trans ((HB2.out.trans (HBI.out.mono hs2)).mono hsr)).trans hB7⟩
              rw [HFS2.out, HADD.out]
              refine ⟨rs ++ [(rowOf q ab cb).toList], ?_, RowsOf.append (RowsOf.keep (fun b hb => below_cells hB7 b hb) HROW.out) ⟨PatV.mk' (HKQ3.out.keep fun b hb => below_cells hB7 b hb), trivial⟩⟩
              rw [List.length_append, ← HLK.out, List.flatten_append]
              simpa using hown7
            case measure => simp [intOf]; omega
          | false =>
            have hadd := newB_false (Nat.le_of_eq hje) HNBJ.out.symm
            have HADD := Lib.hid hadd
            clear hadd hje
            go_wp2_with fail
            go_roundw
            case rel =>
              refine ⟨k + 1, hlt, by go_num, ?_, HBL.out.trans ((HB2.out.trans (HBI.out.mono hs2)).mono hsr)⟩
              rw [HFS2.out, HADD.out, HLK.out]
              exact HOUT2.out.on HBI.out (by omega)
            case measure => simp [intOf]; omega
    · have hd : decide ((k : Int) < (len : Int)) = false := by simp; omega
      have hk : k = rows.length := by rw [← HLEN.out]; omega
      have hLf : L = FS := by rw [HL.out, hk, List.take_length, HFSS.out]
      obtain ⟨rs, hown, hr⟩ := HOUT.out
      obtain ⟨a5, c5, rfl⟩ := own_slice hown
      have hfin : SlV wo wo.heap.size L a5 c5 := slv_own hown (fun b _ h => h) rfl (RowsOf.mono (fun b hb => by omega) hr) rfl
      rw [hLf] at hfin
      have HFIN := Lib.hid hfin
      subst hLf
      clear hown hr hfin hk
      go_wp2_with fail
      go_ret
      exact ⟨a5, c5, rfl, HFIN.out, HBL.out⟩
end Go.Proofs.Ytcieoelogocjkaa
