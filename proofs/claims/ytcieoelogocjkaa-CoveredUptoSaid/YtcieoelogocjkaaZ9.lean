/-
  Proved: the law Covered: true, of whatever fits a machine and has at most 1048576 parts.
-/
import Derived.Test.YtcieoelogocjkaaZ8
import Derived.Test.YtcieoelogocjkaaZ3
import Derived.Deep.CutBlock
import Derived.Deep.DeepCutAuto
set_option linter.unusedSimpArgs false
set_option linter.unusedVariables false
namespace Go.Proofs.Ytcieoelogocjkaa
open Go.RowKit Srt

/-- what the law asks of a pattern among its arguments -/
structure Sized (w : World) (p : Pt) (a : Option Addr) (c : Nat) : Prop where
  sl : SlV w w.heap.size p.kids a c
  fits : Fits p
  size : parts p ≤ 1048576
theorem Sized.on {w w' : World} {p : Pt} {a : Option Addr} {c : Nat} (h : Sized w p a c) (hb : Below w.heap.size w w') : Sized w' p a c := ⟨SlV.on h.sl hb, h.fits, h.size⟩
/-- what is stored was there -/
theorem set_same {w : World} {p : Nat} {c : Array Value} {t : TypeId} {f : Nat × Nat} (h : w.heap[p]? = some (.cells c t f)) {i : Nat} {v : Value} (hi : c[i]? = some v) : w.setCell ⟨p, i, none⟩ v = w := by
  have hlt := lt_of_block h
  have e : (w.setCell ⟨p, i, none⟩ v).heap = w.heap := by
    apply Array.ext
    · simp [World.setCell]
    · intro j h1 h2
      by_cases hj : j = p
      · subst hj
        have h3 := blk_set h i v
        have h4 : c.setIfInBounds i v = c := by
          apply Array.ext
          · simp
          · intro k k1 k2
            by_cases hk : i = k
            · subst hk
              rw [Array.getElem_setIfInBounds, if_pos rfl]
              rw [Array.getElem?_eq_getElem k2] at hi
              exact (Option.some.inj hi).symm
              exact k2
            · rw [Array.getElem_setIfInBounds k2, if_neg hk]
        rw [h4] at h3
        rw [Array.getElem?_eq_getElem h1] at h3
        rw [Array.getElem?_eq_getElem h2] at h
        exact Option.some.inj (h3.trans h.symm)
      · have h3 := Below.heap_setCell w ⟨p, i, none⟩ v j (by simpa using hj)
        rw [Array.getElem?_eq_getElem h1, Array.getElem?_eq_getElem h2] at h3
        exact Option.some.inj h3
  have e2 : w.setCell ⟨p, i, none⟩ v = { w with heap := (w.setCell ⟨p, i, none⟩ v).heap } := rfl
  rw [e2, e]
/-- the sort of a raw number -/
theorem sort_of (c : Int) : ∃ s, s ≠ s6 ∧ sI s = pickD c 6 := by
  have h := pickD_range c 6 (by omega)
  obtain ⟨i, hi⟩ : ∃ i, i = pickD c 6 := ⟨_, rfl⟩
  rw [← hi] at h ⊢
  have h' : i = 0 ∨ i = 1 ∨ i = 2 ∨ i = 3 ∨ i = 4 ∨ i = 5 := by omega
  rcases h' with rfl | rfl | rfl | rfl | rfl | rfl
  · exact ⟨s0, by decide, rfl⟩
  · exact ⟨s1, by decide, rfl⟩
  · exact ⟨s2, by decide, rfl⟩
  · exact ⟨s3, by decide, rfl⟩
  · exact ⟨s4, by decide, rfl⟩
  · exact ⟨s5, by decide, rfl⟩
set_option maxRecDepth 100000 in
set_option maxHeartbeats 8000000 in
theorem covered_any (raw : List Pt) (last value : Pt) (ao al av : Option Addr) (cap cl cv len : Nat) (srt : Int) (w : World) (hlen : len = raw.length) (hraw : SlV w w.heap.size raw ao cap) (hfr : FitsL raw) (hpr : partsL raw ≤ 1048576)
    (hlast : Sized w last al cl) (hvalue : Sized w value av cv) (hs : I64 srt) :
    Calls Try.prog 4 #[.slice ao len cap, .agg (rowOf last al cl), .agg (rowOf value av cv), .int .i64 srt] w fun e w' => e = .returned (.bool true) ∧ Below w.heap.size w w' := by
  obtain ⟨i23, hi, hz0, hz1, hz2⟩ := info_parts info23
  have HI := Lib.hid hi
  obtain ⟨s, hs6, hsI⟩ := sort_of srt
  have HLEN := Lib.hid hlen
  have HRAW := Lib.hid hraw
  have HFR := Lib.hid hfr
  have HPR := Lib.hid hpr
  have HLAST := Lib.hid hlast
  have HVALUE := Lib.hid hvalue
  have HS := Lib.hid hs
  have HS6 := Lib.hid hs6
  have HSI := Lib.hid hsI
  have hlb : len ≤ 1048576 := by have := len_partsL raw; omega
  obtain ⟨i0, hi0⟩ : ∃ i0, i0 = sI s := ⟨_, rfl⟩
  have HI0 := Lib.hid hi0
  obtain ⟨W, hW⟩ : ∃ W, W = (w.alloc (.cells (rowOf last al cl) 26)).alloc (.cells (rowOf value av cv) 26) := ⟨_, rfl⟩
  have e1 := heap_alloc_new w (.cells (rowOf last al cl) 26)
  have e2 := heap_alloc_new (w.alloc (.cells (rowOf last al cl) 26)) (.cells (rowOf value av cv) 26)
  rw [World.size_alloc] at e2
  have h1 : PB W w.heap.size last al cl := by rw [hW]; exact blk_alloc e1 _
  have h2 : PB W (w.heap.size + 1) value av cv := by rw [hW]; exact e2
  have h3 : Below w.heap.size w W := by rw [hW]; exact balloc (balloc (Below.refl _ _) _) _
  have l2 : w.heap.size + 1 < W.heap.size := lt_of_block h2
  have H1 := Lib.hid h1
  have H2 := Lib.hid h2
  have H3 := Lib.hid h3
  have HW := Lib.hid hW
  clear hi hlen hraw hfr hpr hlast hvalue hs hs6 hsI hi0 hW e1 e2 h1 h2 h3
  unfold rowOf
  go_enter Try.func4, Try.ntmps4
  go_upto_region 1 with fail
  rw [show (w.alloc (.cells #[.int .i64 last.k, .int .i64 last.n, .int .i64 last.o, .int .i64 last.a, .string last.s, .slice al last.kids.length cl] 26)).alloc (.cells #[.int .i64 value.k, .int .i64 value.n, .int .i64 value.o, .int .i64 value.a, .string value.s, .slice av value.kids.length cv] 26) = W from HW.out.symm]
  go_wp2_with fail
  refine (pick_any srt 6 W HS.out.1 HS.out.2 (by omega) (by omega)).mono ?_
  rintro e w1 ⟨rfl, hw1⟩
  rw [hw1, ← HSI.out, ← HI0.out]
  clear hw1 w1
  go_wp2_with fail
  refine (con_any 1 2 W).mono ?_
  rintro e w1 ⟨rfl, hb1⟩
  unfold rowOf
  go_wp2_with fail
  generalize hW2 : w1.alloc (.cells #[.int .i64 (conP 1 2).k, .int .i64 (conP 1 2).n, .int .i64 (conP 1 2).o, .int .i64 (conP 1 2).a, .string (conP 1 2).s, .slice none (conP 1 2).kids.length 0] 26) = W2
  have hB2 : Below W.heap.size W W2 := by rw [← hW2]; exact balloc hb1 _
  have k2 : W2.heap[w1.heap.size]? = some (.cells (rowOf (conP 1 2) none 0) 26 (0, 0)) := by rw [← hW2]; exact heap_alloc_new w1 _
  have lk2 := lt_of_block k2
  have K2 := Lib.hid k2
  have HB2 := Lib.hid hB2
  have hs2 := hB2.size
  clear hW2 k2 hB2 hb1
  refine (con_any 0 2 W2).mono ?_
  rintro e w3 ⟨rfl, hb3⟩
  unfold rowOf
  obtain ⟨w6, hw6⟩ : ∃ w6, w6 = ((w3.alloc (.cells #[.int .i64 (conP 0 2).k, .int .i64 (conP 0 2).n, .int .i64 (conP 0 2).o, .int .i64 (conP 0 2).a, .string (conP 0 2).s, .slice none (conP 0 2).kids.length 0] 26)).alloc (.cells #[.slice (some ⟨w1.heap.size, 0, none⟩) 1 1, .slice (some ⟨w3.heap.size, 0, none⟩) 1 1] 23)).alloc (.cells #[.int .i64 0, .int .i64 0, .int .i64 0, .int .i64 0, .string ⟨#[]⟩, .slice none 0 0] 26) := ⟨_, rfl⟩
  have hs3 := hb3.size
  have hB6 : Below W.heap.size W w6 := by rw [hw6]; exact balloc (balloc (balloc (HB2.out.trans (hb3.mono hs2)) _) _) _
  have e4 := heap_alloc_new w3 (.cells #[.int .i64 (conP 0 2).k, .int .i64 (conP 0 2).n, .int .i64 (conP 0 2).o, .int .i64 (conP 0 2).a, .string (conP 0 2).s, .slice none (conP 0 2).kids.length 0] 26)
  have e5 := heap_alloc_new (w3.alloc (.cells #[.int .i64 (conP 0 2).k, .int .i64 (conP 0 2).n, .int .i64 (conP 0 2).o, .int .i64 (conP 0 2).a, .string (conP 0 2).s, .slice none (conP 0 2).kids.length 0] 26)) (.cells #[.slice (some ⟨w1.heap.size, 0, none⟩) 1 1, .slice (some ⟨w3.heap.size, 0, none⟩) 1 1] 23)
  have e6 := heap_alloc_new ((w3.alloc (.cells #[.int .i64 (conP 0 2).k, .int .i64 (conP 0 2).n, .int .i64 (conP 0 2).o, .int .i64 (conP 0 2).a, .string (conP 0 2).s, .slice none (conP 0 2).kids.length 0] 26)).alloc (.cells #[.slice (some ⟨w1.heap.size, 0, none⟩) 1 1, .slice (some ⟨w3.heap.size, 0, none⟩) 1 1] 23)) (.cells #[.int .i64 0, .int .i64 0, .int .i64 0, .int .i64 0, .string ⟨#[]⟩, .slice none 0 0] 26)
  rw [World.size_alloc] at e5
  rw [World.size_alloc, World.size_alloc] at e6
  have k1 : w6.heap[w1.heap.size]? = some (.cells (rowOf (conP 1 2) none 0) 26 (0, 0)) := by rw [hw6]; exact blk_alloc (blk_alloc (blk_alloc (blk_below K2.out hb3 lk2) _) _) _
  have k3 : w6.heap[w3.heap.size]? = some (.cells (rowOf (conP 0 2) none 0) 26 (0, 0)) := by rw [hw6]; exact blk_alloc (blk_alloc e4 _) _
  have k5 : w6.heap[w3.heap.size + 1]? = some (.cells #[.slice (some ⟨w1.heap.size, 0, none⟩) 1 1, .slice (some ⟨w3.heap.size, 0, none⟩) 1 1] 23 (0, 0)) := by rw [hw6]; exact blk_alloc e5 _
  have k6 : w6.heap[w3.heap.size + 1 + 1]? = some (.cells (rowOf anyP none 0) 26 (0, 0)) := by rw [hw6]; exact e6
  have hrow6 : Rowed w6 [[conP 1 2], [conP 0 2]] [anyP] (some ⟨w3.heap.size + 1, 0, none⟩) (some ⟨w3.heap.size + 1 + 1, 0, none⟩) 2 1 := by
    refine ⟨mat_list k5 (lt_of_block k5) ⟨⟨_, _, rfl, sl_one rfl k1 (lt_of_block k1)⟩, ⟨_, _, rfl, sl_one rfl k3 (lt_of_block k3)⟩, trivial⟩, sl_one rfl k6 (lt_of_block k6), ?_, fitsL_mk fits_any (by unfold FitsL; trivial), by simp, ?_, by simp⟩
    · intro r hr
      rcases List.mem_cons.1 hr with rfl | hr
      · exact fitsL_mk (fits_con 1 2 (by omega) (by omega)) (by unfold FitsL; trivial)
      · simp only [List.mem_singleton] at hr
        subst hr
        exact fitsL_mk (fits_con 0 2 (by omega) (by omega)) (by unfold FitsL; trivial)
    · intro r hr
      rcases List.mem_cons.1 hr with rfl | hr
      · simp
      · simp only [List.mem_singleton] at hr
        subst hr
        simp
  have HROW6 := Lib.hid hrow6
  have HB6 := Lib.hid hB6
  have HW6 := Lib.hid hw6
  have hs6 := hB6.size
  clear e4 e5 e6 k1 k3 k5 k6 hrow6 hB6 hw6 hb3
  go_wp2_with fail
  rw [show ((w3.alloc (.cells #[.int .i64 (conP 0 2).k, .int .i64 (conP 0 2).n, .int .i64 (conP 0 2).o, .int .i64 (conP 0 2).a, .string (conP 0 2).s, .slice none (conP 0 2).kids.length 0] 26)).alloc (.cells #[.slice (some ⟨w1.heap.size, 0, none⟩) 1 1, .slice (some ⟨w3.heap.size, 0, none⟩) 1 1] 23)).alloc (.cells #[.int .i64 0, .int .i64 0, .int .i64 0, .int .i64 0, .string ⟨#[]⟩, .slice none 0 0] 26) = w6 from HW6.out.symm]
  refine (pUseful_any [[conP 1 2], [conP 0 2]] [anyP] (some ⟨w3.heap.size + 1, 0, none⟩) (some ⟨w3.heap.size + 1 + 1, 0, none⟩) 2 1 w6 HROW6.out.mat HROW6.out.sl HROW6.out.fits HROW6.out.fitq HROW6.out.len HROW6.out.lens HROW6.out.lenq).mono ?_
  rintro e w7 ⟨rfl, hb7⟩
  rw [ans_first]
  simp only
  have hB7 := HB6.out.trans (hb7.mono hs6)
  obtain ⟨w8, hw8⟩ : ∃ w8, w8 = w7.alloc (.cells #[.int .i64 0, .int .i64 0] 31) := ⟨_, rfl⟩
  have hB8 : Below W.heap.size W w8 := by rw [hw8]; exact balloc hB7 _
  have k8 : w8.heap[w7.heap.size]? = some (.cells #[.int .i64 0, .int .i64 0] 31 (0, 0)) := by rw [hw8]; exact heap_alloc_new w7 _
  have l8 : w7.heap.size < w8.heap.size := lt_of_block k8
  have hs8 := hB8.size
  have hs7 := hB7.size
  obtain ⟨bF, hbF⟩ : ∃ b, b = w7.heap.size := ⟨_, rfl⟩
  have HB8 := Lib.hid hB8
  have HW8 := Lib.hid hw8
  have y0 : w8.cell? ⟨w7.heap.size, 0, none⟩ = some (.int .i64 0) := blk_cell k8 0
  have k8' := Lib.hid k8
  clear hB7 hb7 hw8 hB8 k8 K2 HROW6 HB6 HW6 hs6
  go_upto_region 3 with fail
  rw [show w7.alloc (.cells #[.int .i64 0, .int .i64 0] 31) = w8 from HW8.out.symm]
  clear HW8
  have K8 : Hid (w8.heap[bF]? = some (.cells #[.int .i64 0, .int .i64 0] 31 (0, 0))) := Lib.hid (by rw [hbF]; exact k8'.out)
  rw [← hbF] at y0 l8 hs7 ⊢
  clear hbF k8'
  have x1 := blk_below H1.out HB8.out (by omega)
  have x2 := blk_below H2.out HB8.out l2
  have c0 : w8.cell? ⟨w.heap.size + 1, 0, none⟩ = some (.int .i64 value.k) := blk_cell x2 0
  have c1 : w8.cell? ⟨w.heap.size + 1, 1, none⟩ = some (.int .i64 value.n) := blk_cell x2 1
  have c2 : w8.cell? ⟨w.heap.size + 1, 2, none⟩ = some (.int .i64 value.o) := blk_cell x2 2
  have c3 : w8.cell? ⟨w.heap.size + 1, 3, none⟩ = some (.int .i64 value.a) := blk_cell x2 3
  have c4 : w8.cell? ⟨w.heap.size + 1, 4, none⟩ = some (.string value.s) := blk_cell x2 4
  have c5 : w8.cell? ⟨w.heap.size + 1, 5, none⟩ = some (.slice av value.kids.length cv) := blk_cell x2 5
  have X1 := Lib.hid x1
  clear x1 x2
  go_wp2_with fail
  have hB8w : Below w.heap.size w w8 := H3.out.trans (HB8.out.mono (by omega))
  have HB8w := Lib.hid hB8w
  clear hB8w
  rw [HI0.out]
  refine ((fitted_fits true HS6.out HVALUE.out.fits HVALUE.out.size) av cv w8 (HVALUE.out.on HB8w.out).sl).mono ?_
  rintro e w9 ⟨v, av9, cv9, rfl, hsv, hgv, hb9⟩
  rw [← HI0.out]
  unfold rowOf
  obtain ⟨w10, hw10⟩ : ∃ w10, w10 = w9.alloc (.cells #[.int .i64 v.k, .int .i64 v.n, .int .i64 v.o, .int .i64 v.a, .string v.s, .slice av9 v.kids.length cv9] 26) := ⟨_, rfl⟩
  have hz9 := hb9.size
  have hB10 : Below w8.heap.size w8 w10 := by rw [hw10]; exact balloc hb9 _
  have k10 : PB w10 w9.heap.size v av9 cv9 := by rw [hw10]; exact heap_alloc_new w9 _
  have l10 : w9.heap.size < w10.heap.size := lt_of_block k10
  have hv10 : SlV w10 w10.heap.size v.kids av9 cv9 := SlV.on (SlD.mono hsv fun b hb => hb.2) (by rw [hw10]; exact balloc (Below.refl _ _) _)
  have x1 := blk_below X1.out hB10 (by omega)
  have HV10 := Lib.hid hv10
  have HGV := Lib.hid hgv
  have HW10 := Lib.hid hw10
  have HB10 := Lib.hid (HB8w.out.trans (hB10.mono (by omega)))
  obtain ⟨bV, hbV⟩ : ∃ b, b = w9.heap.size := ⟨_, rfl⟩
  have K8b := Lib.hid (blk_below K8.out hB10 l8)
  rw [← hbV] at k10 l10
  have K10 := Lib.hid k10
  have hz9' : w8.heap.size ≤ bV := by rw [hbV]; exact hz9
  have HBV := Lib.hid hbV
  clear c0 c1 c2 c3 c4 c5 y0 K8 hw10 hsv hgv hb9 hB10 k10 hv10 hz9 hbV
  have c0 : w10.cell? ⟨w.heap.size, 0, none⟩ = some (.int .i64 last.k) := blk_cell x1 0
  have c1 : w10.cell? ⟨w.heap.size, 1, none⟩ = some (.int .i64 last.n) := blk_cell x1 1
  have c2 : w10.cell? ⟨w.heap.size, 2, none⟩ = some (.int .i64 last.o) := blk_cell x1 2
  have c3 : w10.cell? ⟨w.heap.size, 3, none⟩ = some (.int .i64 last.a) := blk_cell x1 3
  have c4 : w10.cell? ⟨w.heap.size, 4, none⟩ = some (.string last.s) := blk_cell x1 4
  have c5 : w10.cell? ⟨w.heap.size, 5, none⟩ = some (.slice al last.kids.length cl) := blk_cell x1 5
  clear x1
  go_upto_region 6 with fail
  rw [show w9.alloc (.cells #[.int .i64 v.k, .int .i64 v.n, .int .i64 v.o, .int .i64 v.a, .string v.s, .slice av9 v.kids.length cv9] 26) = w10 from HW10.out.symm, ← HBV.out]
  clear HW10 HBV
  go_wp2_with fail
  rw [HI0.out]
  refine ((fitted_fits false HS6.out HLAST.out.fits HLAST.out.size) al cl w10 (HLAST.out.on HB10.out).sl).mono ?_
  rintro e w11 ⟨q, aq, cq, rfl, hsq, hgq, hb11⟩
  rw [← HI0.out]
  unfold rowOf
  obtain ⟨w12, hw12⟩ : ∃ w12, w12 = w11.alloc (.cells #[.int .i64 q.k, .int .i64 q.n, .int .i64 q.o, .int .i64 q.a, .string q.s, .slice aq q.kids.length cq] 26) := ⟨_, rfl⟩
  have hz11 := hb11.size
  have hB12 : Below w10.heap.size w10 w12 := by rw [hw12]; exact balloc hb11 _
  have k12 : PB w12 w11.heap.size q aq cq := by rw [hw12]; exact heap_alloc_new w11 _
  have l12 : w11.heap.size < w12.heap.size := lt_of_block k12
  have hq12 : SlV w12 w12.heap.size q.kids aq cq := SlV.on (SlD.mono hsq fun b hb => hb.2) (by rw [hw12]; exact balloc (Below.refl _ _) _)
  have HQ12 := Lib.hid hq12
  have HGQ := Lib.hid hgq
  have HW12 := Lib.hid hw12
  have HB12 := Lib.hid (HB10.out.trans (hB12.mono HB10.out.size))
  obtain ⟨bQ, hbQ⟩ : ∃ b, b = w11.heap.size := ⟨_, rfl⟩
  have K8c := Lib.hid (blk_below K8b.out hB12 (by omega))
  have K10c := Lib.hid (blk_below K10.out hB12 (by omega))
  have HV12 := Lib.hid (SlV.on HV10.out hB12)
  rw [← hbQ] at k12 l12
  have hz11' : w10.heap.size ≤ bQ := by rw [hbQ]; exact hz11
  have K12 := Lib.hid k12
  have HBQ := Lib.hid hbQ
  clear c0 c1 c2 c3 c4 c5 K8b K10 HV10 hw12 hsq hgq hb11 hB12 hq12 hz11 hbQ
  have c0 : w12.cell? ⟨bQ, 0, none⟩ = some (.int .i64 q.k) := blk_cell k12 0
  have c1 : w12.cell? ⟨bQ, 1, none⟩ = some (.int .i64 q.n) := blk_cell k12 1
  have c2 : w12.cell? ⟨bQ, 2, none⟩ = some (.int .i64 q.o) := blk_cell k12 2
  have c3 : w12.cell? ⟨bQ, 3, none⟩ = some (.int .i64 q.a) := blk_cell k12 3
  have c4 : w12.cell? ⟨bQ, 4, none⟩ = some (.string q.s) := blk_cell k12 4
  have c5 : w12.cell? ⟨bQ, 5, none⟩ = some (.slice aq q.kids.length cq) := blk_cell k12 5
  clear k12
  go_upto_region 7 with fail
  rw [show w11.alloc (.cells #[.int .i64 q.k, .int .i64 q.n, .int .i64 q.o, .int .i64 q.a, .string q.s, .slice aq q.kids.length cq] 26) = w12 from HW12.out.symm, ← HBQ.out]
  clear HW12 HBQ
  go_wp2_with fail
  refine (count_any (parts q) q (Nat.le_refl _) aq cq w12 HQ12.out (Nat.le_trans HGQ.out.size (by omega))).mono ?_
  rintro e w13 ⟨rfl, hb13⟩
  obtain ⟨nq, hnq⟩ : ∃ nq, nq = parts q := ⟨_, rfl⟩
  rw [← hnq]
  have HNQ := Lib.hid hnq
  have hnqb : nq ≤ 16777216 := by rw [hnq]; exact HGQ.out.size
  have hz13 := hb13.size
  have K8 := Lib.hid (blk_below K8c.out hb13 (by omega))
  have KV := Lib.hid (blk_below K10c.out hb13 (by omega))
  have KQ := Lib.hid (blk_below K12.out hb13 (by omega))
  have HV := Lib.hid (SlV.on HV12.out hb13)
  have HQ := Lib.hid (SlV.on HQ12.out hb13)
  have HB13 := Lib.hid (HB12.out.trans (hb13.mono HB12.out.size))
  have lF : bF < w13.heap.size := by omega
  have lV : bV < w13.heap.size := by omega
  have lQ : bQ < w13.heap.size := by omega
  clear c0 c1 c2 c3 c4 c5 K8c K10c K12 HV12 HQ12 hb13 hnq
  go_upto_block 0 with fail
  go_cut [14, 15, 16] (fun n o sm wx => ∃ (ps : List Pt) (nn : Int), n = .int .i64 nn ∧ OutE 23 w13.heap.size wx o (ones ps) ∧ sm = .bool (ps.any fun p => M p v) ∧ (∀ p ∈ ps, Pty s p ∧ Fits p) ∧ ps.length ≤ 20 ∧ (ps = [] ∨ nq + partsL ps ≤ 150) ∧ Below w13.heap.size w13 wx)
  case first =>
    go_wp2_with fail
    go_loopw [14, 15, 16, 17] (fun n o sm i wr => ∃ (j : Nat) (ps : List Pt), j ≤ len ∧ j ≤ 20 ∧ ps.length = j ∧ i = .int .i64 j ∧ n = .int .i64 ((nq + partsL ps : Nat) : Int) ∧ OutE 23 w13.heap.size wr o (ones ps) ∧ sm = .bool (ps.any fun p => M p v) ∧ (∀ p ∈ ps, Pty s p ∧ Fits p) ∧ (ps = [] ∨ nq + partsL ps ≤ 150) ∧ Below w13.heap.size w13 wr) (fun _ _ _ i _ => len - (intOf i).toNat)
    case atStart => exact ⟨0, [], Nat.zero_le _, Nat.zero_le _, rfl, rfl, rfl, ⟨[], World.ownsRow_nil _ _ _ _, trivial⟩, rfl, fun p hp => by simp at hp, .inl rfl, Below.refl _ _⟩
    case round =>
      obtain ⟨j, ps, hj, hj20, hpsl, rfl, rfl, hout, rfl, htp, hsum, hbr⟩ := hrel
      have hsr := hbr.size
      obtain ⟨m, hm⟩ : ∃ m, m = nq + partsL ps := ⟨_, rfl⟩
      obtain ⟨sm, hsm⟩ : ∃ sm, sm = (ps.any fun p => M p v) := ⟨_, rfl⟩
      rw [← hm, ← hsm]
      have hmb : m ≤ 16777216 := by
        rcases hsum with rfl | hsum
        · rw [partsL] at hm; omega
        · omega
      have HM := Lib.hid hm
      have HSM := Lib.hid hsm
      have HOUT := Lib.hid hout
      have HTP := Lib.hid htp
      have HSUM := Lib.hid hsum
      have HBR := Lib.hid hbr
      have HPSL := Lib.hid hpsl
      clear hm hsm hout htp hsum hbr hpsl
      by_cases hlt : j < len
      · by_cases h20 : j < 20
        · have hd : decide ((j : Int) < (len : Int)) = true := by simp; omega
          have hd2 : decide ((j : Int) < 20) = true := by simp; omega
          have hjk : j < raw.length := by rw [← HLEN.out]; exact hlt
          obtain ⟨p, hp⟩ : ∃ p, p = raw[j] := ⟨_, rfl⟩
          have hbwr : Below w.heap.size w wr := HB13.out.trans (HBR.out.mono (HB13.out.size))
          obtain ⟨g, off, row, ha, hDg, hrow, hpv⟩ := (SlD.keep HRAW.out (below_cells hbwr)).2.get (k := j) hjk
          obtain ⟨ax, cx, rfl, hkx⟩ := hpv.row
          rw [← hp] at hrow hkx
          have hix : ∀ w' : World, (Instr.indexAt 23 (.slice ao len cap) (.int .i64 j)).run Try.prog w' = .ok (.pointer (some ⟨g, off + j * 6, none⟩)) w' := fun w' => index_at Try.underlying23 size26 ha len cap j hlt w'
          rw [Nat.zero_add] at hrow
          obtain ⟨p0, hp0⟩ : ∃ p0, p0 = off + j * 6 := ⟨_, rfl⟩
          rw [← hp0] at hix hrow
          have x0 : wr.cell? ⟨g, p0, none⟩ = some (.int .i64 p.k) := hrow 0 (by omega)
          have x1 : wr.cell? ⟨g, p0 + 1, none⟩ = some (.int .i64 p.n) := hrow 1 (by omega)
          have x2 : wr.cell? ⟨g, p0 + 2, none⟩ = some (.int .i64 p.o) := hrow 2 (by omega)
          have x3 : wr.cell? ⟨g, p0 + 3, none⟩ = some (.int .i64 p.a) := hrow 3 (by omega)
          have x4 : wr.cell? ⟨g, p0 + 4, none⟩ = some (.string p.s) := hrow 4 (by omega)
          have x5 : wr.cell? ⟨g, p0 + 5, none⟩ = some (.slice ax p.kids.length cx) := hrow 5 (by omega)
          have hmem : p ∈ raw := by rw [hp]; exact List.getElem_mem hjk
          have hfp : Fits p := fitsL_get HFR.out hmem
          have hpp : parts p ≤ 1048576 := Nat.le_trans (parts_mem hmem) HPR.out
          have hslp : SlV wr wr.heap.size p.kids ax cx := SlV.mono hkx hbwr.size
          have HFP := Lib.hid hfp
          have HPP := Lib.hid hpp
          have HSLP := Lib.hid hslp
          have HBWR := Lib.hid hbwr
          clear ha hrow hpv hkx hp hp0 hDg hmem hfp hpp hslp hbwr
          go_wp2_with fail
          rw [HI0.out]
          refine ((fitted_fits false HS6.out HFP.out HPP.out) ax cx wr HSLP.out).mono ?_
          rintro e w14 ⟨t, at', ct, rfl, hst, hgt, hb14⟩
          rw [← HI0.out]
          unfold rowOf
          obtain ⟨w15, hw15⟩ : ∃ w15, w15 = w14.alloc (.cells #[.int .i64 t.k, .int .i64 t.n, .int .i64 t.o, .int .i64 t.a, .string t.s, .slice at' t.kids.length ct] 26) := ⟨_, rfl⟩
          have hz14 := hb14.size
          have hB15 : Below wr.heap.size wr w15 := by rw [hw15]; exact balloc hb14 _
          have k15 : PB w15 w14.heap.size t at' ct := by rw [hw15]; exact heap_alloc_new w14 _
          have ht15 : SlD w15 (fun b => wr.heap.size ≤ b ∧ b < w14.heap.size) t.kids at' ct := hst.keep fun b hb off => by rw [hw15]; exact below_cells ((Below.refl w14.heap.size w14).alloc (Nat.le_refl _) _) b hb.2 off
          obtain ⟨bP, hbP⟩ : ∃ b, b = w14.heap.size := ⟨_, rfl⟩
          have HW15 := Lib.hid hw15
          rw [← hbP] at k15 hz14 ht15
          have l15 : bP < w15.heap.size := lt_of_block k15
          have K15 := Lib.hid k15
          have HT15 := Lib.hid ht15
          have HGT := Lib.hid hgt
          have HB15 := Lib.hid hB15
          have HBP := Lib.hid hbP
          clear x0 x1 x2 x3 x4 x5 hix hst hgt hb14 hw15 hB15 ht15 hbP
          have c0 : w15.cell? ⟨bP, 0, none⟩ = some (.int .i64 t.k) := blk_cell k15 0
          have c1 : w15.cell? ⟨bP, 1, none⟩ = some (.int .i64 t.n) := blk_cell k15 1
          have c2 : w15.cell? ⟨bP, 2, none⟩ = some (.int .i64 t.o) := blk_cell k15 2
          have c3 : w15.cell? ⟨bP, 3, none⟩ = some (.int .i64 t.a) := blk_cell k15 3
          have c4 : w15.cell? ⟨bP, 4, none⟩ = some (.string t.s) := blk_cell k15 4
          have c5 : w15.cell? ⟨bP, 5, none⟩ = some (.slice at' t.kids.length ct) := blk_cell k15 5
          clear k15
          go_upto_region 14 with fail
          rw [show w14.alloc (.cells #[.int .i64 t.k, .int .i64 t.n, .int .i64 t.o, .int .i64 t.a, .string t.s, .slice at' t.kids.length ct] 26) = w15 from HW15.out.symm, ← HBP.out]
          clear HW15 HBP
          go_wp2_with fail
          refine (count_any (parts t) t (Nat.le_refl _) at' ct w15 (SlD.mono HT15.out fun b hb => Nat.lt_trans hb.2 l15) (Nat.le_trans HGT.out.size (by omega))).mono ?_
          rintro e w16 ⟨rfl, hb16⟩
          obtain ⟨pq, hpq⟩ : ∃ pq, pq = parts t := ⟨_, rfl⟩
          rw [← hpq]
          have hmp : m + pq ≤ 1000000000 := by have := HGT.out.size; omega
          have HPQ := Lib.hid hpq
          have K16 := Lib.hid (blk_below K15.out hb16 l15)
          have HT16 := Lib.hid (HT15.out.keep fun b hb off => below_cells hb16 b (Nat.lt_trans hb.2 l15) off)
          have HB16 := Lib.hid (HB15.out.trans (hb16.mono HB15.out.size))
          have hz16 := hb16.size
          clear c0 c1 c2 c3 c4 c5 hb16 hpq K15 HT15
          have lr : w13.heap.size ≤ w16.heap.size := by omega
          have hb1316 : Below w13.heap.size w13 w16 := HBR.out.trans (HB16.out.mono hsr)
          have kv := blk_below KV.out hb1316 lV
          have HSV := Lib.hid (SlV.on HV.out hb1316)
          have kp := K16.out
          by_cases hbrk : 150 < m + pq
          · have hd3 : decide ((150 : Int) < (m : Int) + (pq : Int)) = true := by simp; omega
            clear kv kp hb1316
            go_wp2_with fail
            go_meet
            refine ⟨ps, _, rfl, HOUT.out.on HB16.out, by rw [HSM.out], HTP.out, by have := HPSL.out; omega, HSUM.out, HBR.out.trans (HB16.out.mono hsr)⟩
          · have hd3 : decide ((150 : Int) < (m : Int) + (pq : Int)) = false := by simp; omega
            have c0 : w16.cell? ⟨bP, 0, none⟩ = some (.int .i64 t.k) := blk_cell kp 0
            have c1 : w16.cell? ⟨bP, 1, none⟩ = some (.int .i64 t.n) := blk_cell kp 1
            have c2 : w16.cell? ⟨bP, 2, none⟩ = some (.int .i64 t.o) := blk_cell kp 2
            have c3 : w16.cell? ⟨bP, 3, none⟩ = some (.int .i64 t.a) := blk_cell kp 3
            have c4 : w16.cell? ⟨bP, 4, none⟩ = some (.string t.s) := blk_cell kp 4
            have c5 : w16.cell? ⟨bP, 5, none⟩ = some (.slice at' t.kids.length ct) := blk_cell kp 5
            have d0 : w16.cell? ⟨bV, 0, none⟩ = some (.int .i64 v.k) := blk_cell kv 0
            have d1 : w16.cell? ⟨bV, 1, none⟩ = some (.int .i64 v.n) := blk_cell kv 1
            have d2 : w16.cell? ⟨bV, 2, none⟩ = some (.int .i64 v.o) := blk_cell kv 2
            have d3 : w16.cell? ⟨bV, 3, none⟩ = some (.int .i64 v.a) := blk_cell kv 3
            have d4 : w16.cell? ⟨bV, 4, none⟩ = some (.string v.s) := blk_cell kv 4
            have d5 : w16.cell? ⟨bV, 5, none⟩ = some (.slice av9 v.kids.length cv9) := blk_cell kv 5
            clear kv kp hb1316
            have hbig : ∀ x : Pt, ∀ s' b', Good s' b' 16777216 x → x.kids.length ≤ 1000000000 ∧ parts x ≤ 1000000000 := fun x s' b' h => ⟨by have := kids_parts x; have := h.size; omega, by have := h.size; omega⟩
            have HBIGT := Lib.hid (hbig t _ _ HGT.out)
            have HBIGV := Lib.hid (hbig v _ _ HGV.out)
            clear hbig
            go_wp2_with fail
            refine (has_any (parts t) t (Nat.le_refl _) v at' av9 ct cv9 w16 (SlD.mono HT16.out fun b hb => Nat.lt_of_lt_of_le (Nat.lt_trans hb.2 l15) hz16) HSV.out (pty_proper HGT.out.ty) HGT.out.noa HBIGT.out.1 HBIGV.out.1 HBIGT.out.2 HBIGV.out.2).mono ?_
            rintro e w17 ⟨rfl, hb17⟩
            obtain ⟨hh, hhh⟩ : ∃ hh, hh = M t v := ⟨_, rfl⟩
            rw [← hhh]
            have HHH := Lib.hid hhh
            have K17 := Lib.hid (blk_below K16.out hb17 (by omega))
            have HT17 := Lib.hid (HT16.out.keep fun b hb off => below_cells hb17 b (Nat.lt_of_lt_of_le (Nat.lt_trans hb.2 l15) hz16) off)
            have HB17 := Lib.hid (HB16.out.trans (hb17.mono HB16.out.size))
            have hz17 := hb17.size
            have kp := K17.out
            clear c0 c1 c2 c3 c4 c5 d0 d1 d2 d3 d4 d5 hb17 hhh K16 HT16
            have c0 : w17.cell? ⟨bP, 0, none⟩ = some (.int .i64 t.k) := blk_cell kp 0
            have c1 : w17.cell? ⟨bP, 1, none⟩ = some (.int .i64 t.n) := blk_cell kp 1
            have c2 : w17.cell? ⟨bP, 2, none⟩ = some (.int .i64 t.o) := blk_cell kp 2
            have c3 : w17.cell? ⟨bP, 3, none⟩ = some (.int .i64 t.a) := blk_cell kp 3
            have c4 : w17.cell? ⟨bP, 4, none⟩ = some (.string t.s) := blk_cell kp 4
            have c5 : w17.cell? ⟨bP, 5, none⟩ = some (.slice at' t.kids.length ct) := blk_cell kp 5
            clear kp
            go_upto_region 17 with fail
            go_cut [16] from 75 to 78 (fun x wx => x = .bool (sm || hh) ∧ wx = w17)
            case first =>
              cases sm with
              | true => go_wp2_with fail; go_meet; exact ⟨rfl, rfl⟩
              | false => go_wp2_with fail; go_meet; exact ⟨rfl, rfl⟩
            case rest =>
            obtain ⟨rfl, hwc⟩ := hcut
            subst hwc
            obtain ⟨sm2, hsm2⟩ : ∃ sm2, sm2 = (sm || hh) := ⟨_, rfl⟩
            rw [← hsm2]
            have HSM2 := Lib.hid hsm2
            have hbrc : Below wr.heap.size wr (wc.alloc (.cells (rowOf t at' ct) 26)) := balloc HB17.out _
            have hob := HOUT.out
            obtain ⟨xs0, hox0, _⟩ := hob
            obtain ⟨xs, hox, hsx⟩ := HOUT.out.on hbrc
            obtain ⟨L, hL⟩ : ∃ L, L = ones ps := ⟨_, rfl⟩
            rw [← hL] at hox hsx hox0
            obtain ⟨lk, hlk⟩ : ∃ lk, lk = L.length := ⟨_, rfl⟩
            rw [← hlk] at hox hox0
            have hlkb : lk ≤ 20 := by rw [hlk, hL]; unfold ones; rw [List.length_map, HPSL.out]; exact hj20
            have hcn := heap_alloc_new wc (.cells (rowOf t at' ct) 26)
            have hown0 : ∀ g, Value.ownBlock u15 = some g → w13.heap.size ≤ g ∧ g < wr.heap.size := fun g e => hox0.lt g e
            have hzc : wr.heap.size ≤ wc.heap.size := HB17.out.size
            have hsD : SlD (wc.alloc (.cells (rowOf t at' ct) 26)) (fun b => b < (wc.alloc (.cells (rowOf t at' ct) 26)).heap.size ∧ Value.ownBlock u15 ≠ some b) [t] (some ⟨wc.heap.size, 0, none⟩) 1 := by
              refine sl_lone hcn ⟨by rw [World.size_alloc]; omega, fun e => ?_⟩ ?_
              · have := hown0 _ e; omega
              · refine ((HT17.out.keep fun b hb off => below_cells ((Below.refl wc.heap.size wc).alloc (Nat.le_refl _) _) b (by have h1 : b < bP := hb.2; omega) off)).mono fun b hb => ⟨?_, fun e => ?_⟩
                · rw [World.size_alloc]; have h1 : b < bP := hb.2; omega
                · have h1 : wr.heap.size ≤ b := hb.1; have := hown0 _ e; omega
            have HOX := Lib.hid hox
            have HSX := Lib.hid hsx
            have HL := Lib.hid hL
            have HLK := Lib.hid hlk
            have HSD := Lib.hid hsD
            have HBC := Lib.hid (HBR.out.trans (hbrc.mono hsr))
            have HLT := Lib.hid (fun g e => (hown0 g e).1)
            clear hox hsx hL hlk hsD hbrc hox0 hcn hown0 hsm2
            go_wp2_with (first | (at_builtin; go_must (refine wpList_append3 rfl (.tmp 79) (.tmp 82) 22 22 rfl w13.heap.size 23 23 i23 _ 1 24 Try.underlying22 Try.underlying22 HI.out hz0 hz1 hz2 rfl (by decide) u15 lk xs rfl (HOX.out.alloc _) (some ⟨wc.heap.size + 1, 0, none⟩) 1 1 [.slice (some ⟨wc.heap.size, 0, none⟩) 1 1] rfl rfl (fun _ => ⟨_, rfl, new_cells (c := #[.slice (some ⟨wc.heap.size, 0, none⟩) 1 1]) _ (by simp)⟩) (by simp [Value.oneCell']) (by unfold maxLen; omega) (by omega) (by simp; omega) ?_; intro v5 w5 hown5 hg5 hat5)))
            go_roundw
            case rel =>
              have hps : partsL (ps ++ [t]) = partsL ps + pq := by
                rw [HPQ.out]
                have app : ∀ (a b : List Pt), partsL (a ++ b) = partsL a + partsL b := by
                  intro a b
                  induction a with
                  | nil => simp [partsL]
                  | cons x xs ih => rw [List.cons_append, partsL, partsL, ih]; omega
                rw [app]
                simp [partsL]
              have hsum : nq + partsL (ps ++ [t]) = m + pq := by rw [hps, HM.out]; omega
              refine ⟨j + 1, ps ++ [t], hlt, h20, by rw [List.length_append, HPSL.out]; rfl, by go_num, by rw [hsum]; go_num, ?_, ?_, ?_, .inr (by rw [hsum]; omega), ?_⟩
              · have h := OutE.snoc HLK.out HOX.out HSX.out HSD.out hown5 hg5 hat5
                rw [HL.out] at h
                rw [show ones (ps ++ [t]) = ones ps ++ [[t]] from by unfold ones; rw [List.map_append]; rfl]
                exact h
              · rw [HSM2.out, HSM.out, HHH.out]
                simp
              · intro x hx
                rcases List.mem_append.1 hx with hx | hx
                · exact HTP.out x hx
                · simp only [List.mem_singleton] at hx
                  subst hx
                  exact ⟨HGT.out.ty, HGT.out.fits⟩
              · exact (HBC.out.alloc HBC.out.size _).grown hg5 (by simp; omega) (fun g e => HLT.out g e)
            case measure => simp [intOf]; omega
        · have hd : decide ((j : Int) < (len : Int)) = true := by simp; omega
          have hd2 : decide ((j : Int) < 20) = false := by simp; omega
          go_wp2_with fail
          go_meet
          exact ⟨ps, _, rfl, HOUT.out, by rw [HSM.out], HTP.out, by have := HPSL.out; omega, HSUM.out, HBR.out⟩
      · have hd : decide ((j : Int) < (len : Int)) = false := by simp; omega
        go_wp2_with fail
        go_meet
        exact ⟨ps, _, rfl, HOUT.out, by rw [HSM.out], HTP.out, by have := HPSL.out; omega, HSUM.out, HBR.out⟩
  case rest =>
  obtain ⟨ps, nn, rfl, hout, rfl, htp, hps20, hsum, hbr⟩ := hcut
  obtain ⟨sm, hsm⟩ : ∃ sm, sm = (ps.any fun p => M p v) := ⟨_, rfl⟩
  rw [← hsm]
  obtain ⟨xs, hox, hsx⟩ := hout
  obtain ⟨a5, c5, rfl⟩ := own_slice hox
  have hmat := mat_own (D := fun b => b < wc.heap.size) hox (fun b _ h => h) (hsx.mono fun b h => h.1) rfl
  obtain ⟨lo, hlo⟩ : ∃ lo, lo = (ones ps).length := ⟨_, rfl⟩
  rw [← hlo]
  have hsr := hbr.size
  have kq := blk_below KQ.out hbr lQ
  have kv := blk_below KV.out hbr lV
  have kf := blk_below K8.out hbr lF
  have hqs := SlV.on HQ.out hbr
  have hvs := SlV.on HV.out hbr
  have hBc := HB13.out.trans (hbr.mono HB13.out.size)
  have c0 : wc.cell? ⟨bQ, 0, none⟩ = some (.int .i64 q.k) := blk_cell kq 0
  have c1 : wc.cell? ⟨bQ, 1, none⟩ = some (.int .i64 q.n) := blk_cell kq 1
  have c2 : wc.cell? ⟨bQ, 2, none⟩ = some (.int .i64 q.o) := blk_cell kq 2
  have c3 : wc.cell? ⟨bQ, 3, none⟩ = some (.int .i64 q.a) := blk_cell kq 3
  have c4 : wc.cell? ⟨bQ, 4, none⟩ = some (.string q.s) := blk_cell kq 4
  have c5' : wc.cell? ⟨bQ, 5, none⟩ = some (.slice aq q.kids.length cq) := blk_cell kq 5
  have HSM := Lib.hid hsm
  have HTP := Lib.hid htp
  have HSUM := Lib.hid hsum
  have HMAT := Lib.hid hmat
  have HLO := Lib.hid hlo
  have KQ2 := Lib.hid kq
  have KV2 := Lib.hid kv
  have KF2 := Lib.hid kf
  have HQS := Lib.hid hqs
  have HVS := Lib.hid hvs
  have HBC := Lib.hid hBc
  clear hsm htp hsum hmat hlo kq kv kf hqs hvs hBc hbr hox hsx K8 KV KQ HV HQ
  go_wp2_with fail
  refine (count_any (parts q) q (Nat.le_refl _) aq cq wc HQS.out (Nat.le_trans HGQ.out.size (by omega))).mono ?_
  rintro e w14 ⟨rfl, hb14⟩
  rw [← HNQ.out]
  have hz14 := hb14.size
  have HBC2 := Lib.hid (HBC.out.trans (hb14.mono HBC.out.size))
  by_cases hbig : 150 < nq
  · have hd3 : decide ((150 : Int) < (nq : Int)) = true := by simp; omega
    go_wp2_with fail
    go_ret
    exact ⟨rfl, HBC2.out⟩
  · have hd3 : decide ((150 : Int) < (nq : Int)) = false := by simp; omega
    have lQ2 : bQ < wc.heap.size := by omega
    have lV2 : bV < wc.heap.size := by omega
    have lF2 : bF < wc.heap.size := by omega
    have kq := blk_below KQ2.out hb14 lQ2
    have kv := blk_below KV2.out hb14 lV2
    have kf := blk_below KF2.out hb14 lF2
    have hm14 := MatV.on HMAT.out hb14
    have hqs := SlV.on HQS.out hb14
    have hvs := SlV.on HVS.out hb14
    have hall : partsL ps + parts q ≤ 150 := by
      have h1 := HNQ.out
      rcases HSUM.out with h | h
      · rw [h, partsL]; omega
      · omega
    have hty : ∀ p ∈ ps, Pty s p := fun p hp => (HTP.out p hp).1
    obtain ⟨W4, hW4⟩ : ∃ W4, W4 = w14.alloc (.cells (rowOf q aq cq) 26) := ⟨_, rfl⟩
    have hb4 : Below w14.heap.size w14 W4 := by rw [hW4]; exact balloc (Below.refl _ _) _
    have k4 : PB W4 w14.heap.size q aq cq := by rw [hW4]; exact heap_alloc_new w14 _
    have hrow : Rowed W4 (ones ps) [q] a5 (some ⟨w14.heap.size, 0, none⟩) c5 1 := by
      refine ⟨MatV.on hm14 hb4, sl_lone k4 (lt_of_block k4) (SlV.on hqs hb4), ?_, fitsL_mk HGQ.out.fits (by unfold FitsL; trivial), ?_, ?_, by simp⟩
      · intro r hr
        obtain ⟨p, hp, rfl⟩ := List.mem_map.1 hr
        exact fitsL_mk (HTP.out p hp).2 (by unfold FitsL; trivial)
      · unfold ones; rw [List.length_map]; omega
      · intro r hr
        obtain ⟨p, hp, rfl⟩ := List.mem_map.1 hr
        simp
    have c0 : w14.cell? ⟨bQ, 0, none⟩ = some (.int .i64 q.k) := blk_cell kq 0
    have c1 : w14.cell? ⟨bQ, 1, none⟩ = some (.int .i64 q.n) := blk_cell kq 1
    have c2 : w14.cell? ⟨bQ, 2, none⟩ = some (.int .i64 q.o) := blk_cell kq 2
    have c3 : w14.cell? ⟨bQ, 3, none⟩ = some (.int .i64 q.a) := blk_cell kq 3
    have c4 : w14.cell? ⟨bQ, 4, none⟩ = some (.string q.s) := blk_cell kq 4
    have c5' : w14.cell? ⟨bQ, 5, none⟩ = some (.slice aq q.kids.length cq) := blk_cell kq 5
    have KQ3 := Lib.hid (blk_below kq hb4 (by omega))
    have KV3 := Lib.hid (blk_below kv hb4 (by omega))
    have KF3 := Lib.hid (blk_below kf hb4 (by omega))
    have HQ3 := Lib.hid (SlV.on hqs hb4)
    have HV3 := Lib.hid (SlV.on hvs hb4)
    have HB3 := Lib.hid (HBC2.out.trans (hb4.mono HBC2.out.size))
    have HW4 := Lib.hid hW4
    have HROW := Lib.hid hrow
    have HALL := Lib.hid hall
    have HTY := Lib.hid hty
    have hz4 := hb4.size
    clear kq kv kf hm14 hqs hvs hall hty hW4 hb4 hrow k4 hb14
    clear KQ2 KV2 KF2 HQS HVS HBC HBC2 HMAT
    go_wp2_with fail
    rw [show w14.alloc (.cells #[.int .i64 q.k, .int .i64 q.n, .int .i64 q.o, .int .i64 q.a, .string q.s, .slice aq q.kids.length cq] 26) = W4 from HW4.out.symm, HLO.out]
    refine (pUseful_any (ones ps) [q] a5 (some ⟨w14.heap.size, 0, none⟩) c5 1 W4 HROW.out.mat HROW.out.sl HROW.out.fits HROW.out.fitq HROW.out.len HROW.out.lens HROW.out.lenq).mono ?_
    rintro e w15 ⟨rfl, hb15⟩
    rw [ans_of HTY.out HGQ.out.ty HALL.out, ← HLO.out]
    simp only
    obtain ⟨uu, huu⟩ : ∃ uu, uu = usefulD (meas (ones ps) [q] + 1) (ones ps) [q] := ⟨_, rfl⟩
    rw [← huu]
    have HUU := Lib.hid huu
    have kf := blk_below KF3.out hb15 (by omega)
    have kq := blk_below KQ3.out hb15 (by omega)
    have kv := blk_below KV3.out hb15 (by omega)
    have f0 := blk_free kf 0
    have f1 := blk_free kf 1
    have g0 : w15.cell? ⟨bF, 0, none⟩ = some (.int .i64 0) := blk_cell kf 0
    have g1 : w15.cell? ⟨bF, 1, none⟩ = some (.int .i64 0) := blk_cell kf 1
    have hz15 := hb15.size
    have HROW2 := Lib.hid (HROW.out.on hb15)
    have KQ4 := Lib.hid kq
    have KV4 := Lib.hid kv
    have KF4 := Lib.hid kf
    have HQ4 := Lib.hid (SlV.on HQ3.out hb15)
    have HV4 := Lib.hid (SlV.on HV3.out hb15)
    have HB4 := Lib.hid (HB3.out.trans (hb15.mono HB3.out.size))
    clear c0 c1 c2 c3 c4 c5' kf kq kv huu hb15 KQ3 KV3 KF3 HQ3 HV3 HB3 HW4 HROW
    go_upto_region 22 with fail
    rw [set_same KF4.out (show (#[.int .i64 0, .int .i64 0] : Array Value)[0]? = some (.int .i64 0) from rfl), set_same KF4.out (show (#[.int .i64 0, .int .i64 0] : Array Value)[1]? = some (.int .i64 0) from rfl)]
    obtain ⟨W5, hW5⟩ : ∃ W5, W5 = w15.alloc (.cells #[.int .i64 0, .int .i64 0, .int .i64 0, .int .i64 0, .string ⟨#[]⟩, .slice none 0 0] 26) := ⟨_, rfl⟩
    have hb5 : Below w15.heap.size w15 W5 := by rw [hW5]; exact balloc (Below.refl _ _) _
    have k5 : PB W5 w15.heap.size anyP none 0 := by rw [hW5]; exact heap_alloc_new w15 _
    have hrow : Rowed W5 (ones ps) [anyP] a5 (some ⟨w15.heap.size, 0, none⟩) c5 1 := by
      have h := HROW2.out.on hb5
      exact ⟨h.mat, sl_one rfl k5 (lt_of_block k5), h.fits, fitsL_mk fits_any (by unfold FitsL; trivial), h.len, h.lens, by simp⟩
    have hany : partsL ps + parts anyP ≤ 150 := by
      have h1 := HALL.out
      have h2 : parts anyP = 1 := by decide
      have h3 := parts_pos q
      omega
    have HROW5 := Lib.hid hrow
    have HANY := Lib.hid hany
    have HW5 := Lib.hid hW5
    have KQ5 := Lib.hid (blk_below KQ4.out hb5 (by omega))
    have KV5 := Lib.hid (blk_below KV4.out hb5 (by omega))
    have KF5 := Lib.hid (blk_below KF4.out hb5 (by omega))
    have HQ5 := Lib.hid (SlV.on HQ4.out hb5)
    have HV5 := Lib.hid (SlV.on HV4.out hb5)
    have HB5 := Lib.hid (HB4.out.trans (hb5.mono HB4.out.size))
    have hz5 := hb5.size
    clear hrow hany hW5 hb5 k5 g0 g1 f0 f1 KQ4 KV4 KF4 HQ4 HV4 HB4
    go_wp2_with fail
    rw [show w15.alloc (.cells #[.int .i64 0, .int .i64 0, .int .i64 0, .int .i64 0, .string ⟨#[]⟩, .slice none 0 0] 26) = W5 from HW5.out.symm, HLO.out]
    refine (pUseful_any (ones ps) [anyP] a5 (some ⟨w15.heap.size, 0, none⟩) c5 1 W5 HROW5.out.mat HROW5.out.sl HROW5.out.fits HROW5.out.fitq HROW5.out.len HROW5.out.lens HROW5.out.lenq).mono ?_
    rintro e w16 ⟨rfl, hb16⟩
    rw [ans_of HTY.out (pty_any s) HANY.out, ← HLO.out]
    simp only
    obtain ⟨ww, hww⟩ : ∃ ww, ww = usefulD (meas (ones ps) [anyP] + 1) (ones ps) [anyP] := ⟨_, rfl⟩
    rw [← hww]
    have HWW := Lib.hid hww
    obtain ⟨W6, hW6⟩ : ∃ W6, W6 = w16.alloc (.cells #[.int .i64 0, .int .i64 0] 31) := ⟨_, rfl⟩
    have hb6 : Below W5.heap.size W5 W6 := by rw [hW6]; exact balloc hb16 _
    have k6 : W6.heap[w16.heap.size]? = some (.cells #[.int .i64 0, .int .i64 0] 31 (0, 0)) := by rw [hW6]; exact heap_alloc_new w16 _
    have kf := blk_below KF5.out hb6 (by omega)
    have kq := blk_below KQ5.out hb6 (by omega)
    have kv := blk_below KV5.out hb6 (by omega)
    have HQ6 := Lib.hid (SlV.on HQ5.out hb6)
    have HV6 := Lib.hid (SlV.on HV5.out hb6)
    have HB6 := Lib.hid (HB5.out.trans (hb6.mono HB5.out.size))
    have hz6 := hb6.size
    have HW6 := Lib.hid hW6
    have K6 := Lib.hid k6
    have m0 : W6.cell? ⟨w16.heap.size, 0, none⟩ = some (.int .i64 0) := blk_cell k6 0
    have g0 : W6.cell? ⟨bF, 0, none⟩ = some (.int .i64 0) := blk_cell kf 0
    have c0 : W6.cell? ⟨bQ, 0, none⟩ = some (.int .i64 q.k) := blk_cell kq 0
    have c1 : W6.cell? ⟨bQ, 1, none⟩ = some (.int .i64 q.n) := blk_cell kq 1
    have c2 : W6.cell? ⟨bQ, 2, none⟩ = some (.int .i64 q.o) := blk_cell kq 2
    have c3 : W6.cell? ⟨bQ, 3, none⟩ = some (.int .i64 q.a) := blk_cell kq 3
    have c4 : W6.cell? ⟨bQ, 4, none⟩ = some (.string q.s) := blk_cell kq 4
    have c5' : W6.cell? ⟨bQ, 5, none⟩ = some (.slice aq q.kids.length cq) := blk_cell kq 5
    have d0 : W6.cell? ⟨bV, 0, none⟩ = some (.int .i64 v.k) := blk_cell kv 0
    have d1 : W6.cell? ⟨bV, 1, none⟩ = some (.int .i64 v.n) := blk_cell kv 1
    have d2 : W6.cell? ⟨bV, 2, none⟩ = some (.int .i64 v.o) := blk_cell kv 2
    have d3 : W6.cell? ⟨bV, 3, none⟩ = some (.int .i64 v.a) := blk_cell kv 3
    have d4 : W6.cell? ⟨bV, 4, none⟩ = some (.string v.s) := blk_cell kv 4
    have d5 : W6.cell? ⟨bV, 5, none⟩ = some (.slice av9 v.kids.length cv9) := blk_cell kv 5
    clear hww hb16 hW6 hb6 k6 kf kq kv KQ5 KV5 KF5 HQ5 HV5 HB5
    go_upto_region 23 with fail
    rw [show w16.alloc (.cells #[.int .i64 0, .int .i64 0] 31) = W6 from HW6.out.symm]
    go_cut [113] from 101 to 112 (fun x wx => x = .bool false ∧ wx = W6)
    case first =>
      go_wp2_with fail
      go_meet
      exact ⟨rfl, rfl⟩
    case rest =>
    obtain ⟨rfl, hw7⟩ := hcut
    subst hw7
    have hbigq : q.kids.length ≤ 1000000000 ∧ parts q ≤ 1000000000 := ⟨by have := kids_parts q; have := HGQ.out.size; omega, by have := HGQ.out.size; omega⟩
    have hbigv : v.kids.length ≤ 1000000000 ∧ parts v ≤ 1000000000 := ⟨by have := kids_parts v; have := HGV.out.size; omega, by have := HGV.out.size; omega⟩
    have HBQ2 := Lib.hid hbigq
    have HBV2 := Lib.hid hbigv
    clear hbigq hbigv
    go_wp2_with fail
    refine (has_any (parts q) q (Nat.le_refl _) v aq av9 cq cv9 wc HQ6.out HV6.out (pty_proper HGQ.out.ty) HGQ.out.noa HBQ2.out.1 HBV2.out.1 HBQ2.out.2 HBV2.out.2).mono ?_
    rintro e w17 ⟨rfl, hb17⟩
    obtain ⟨hh, hhh⟩ : ∃ hh, hh = M q v := ⟨_, rfl⟩
    rw [← hhh]
    have hwin : hh = true → sm = false → uu = true := by
      intro h1 h2
      rw [HUU.out]
      exact useful_of HTY.out HGQ.out.ty (HGV.out.val rfl) (by rw [← hhh]; exact h1) (by rw [← HSM.out]; exact h2)
    have hwhole : sm = false → ww = true := by
      intro h2
      rw [HWW.out]
      exact useful_of HTY.out (pty_any s) (HGV.out.val rfl) (m_any v) (by rw [← HSM.out]; exact h2)
    have l16 : w16.heap.size < wc.heap.size := lt_of_block K6.out
    have n0 : w17.cell? ⟨w16.heap.size, 0, none⟩ = some (.int .i64 0) := (hb17.cell (p := ⟨w16.heap.size, 0, none⟩) l16).trans (blk_cell K6.out 0)
    have HB7 := Lib.hid (HB6.out.trans (hb17.mono HB6.out.size))
    clear m0 g0 c0 c1 c2 c3 c4 c5' d0 d1 d2 d3 d4 d5 hb17 hhh HUU HWW
    cases hh with
    | false =>
      cases sm with
      | true =>
        go_wp2_with fail
        all_goals
          go_ret
          exact ⟨rfl, HB7.out⟩
      | false =>
        have e := hwhole rfl
        subst e
        go_wp2_with fail
        go_ret
        exact ⟨rfl, HB7.out⟩
    | true =>
      cases sm with
      | true =>
        go_wp2_with fail
        all_goals
          go_ret
          exact ⟨rfl, HB7.out⟩
      | false =>
        have e := hwhole rfl
        have e2 := hwin rfl rfl
        subst e e2
        go_wp2_with fail
        go_ret
        exact ⟨rfl, HB7.out⟩
end Go.Proofs.Ytcieoelogocjkaa
