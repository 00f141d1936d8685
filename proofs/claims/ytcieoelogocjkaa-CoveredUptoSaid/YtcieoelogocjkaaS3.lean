/-
  Proved: the law Usefuls: true, of whatever fits a machine.
-/
import Derived.Test.YtcieoelogocjkaaS2
import Derived.Test.YtcieoelogocjkaaC1
set_option linter.unusedSimpArgs false
set_option linter.unusedVariables false
namespace Go.Proofs.Ytcieoelogocjkaa
open Go.RowKit

theorem eq31 (k a : Int) (w : World) : (binOp .eql 31 (.agg #[.int .i64 k, .int .i64 a]) (.agg #[.int .i64 k, .int .i64 a])).run Try.prog w = .ok (.bool true) w := by
  rw [run_eql_struct]
  simp [go_sem]
/-- what one asks of its rows -/
structure Rowed (w : World) (rows : List (List Pt)) (q : List Pt) (ao aq : Option Addr) (cap cq : Nat) : Prop where
  mat : MatV w w.heap.size rows ao cap
  sl : SlV w w.heap.size q aq cq
  fits : FitsR rows
  fitq : FitsL q
  len : rows.length ≤ 5864062014634
  lens : LenOk rows
  lenq : q.length ≤ 2000000000000
theorem Rowed.on {w w' : World} {rows : List (List Pt)} {q : List Pt} {ao aq : Option Addr} {cap cq : Nat} (h : Rowed w rows q ao aq cap cq) (hb : Below w.heap.size w w') : Rowed w' rows q ao aq cap cq :=
  ⟨h.mat.on hb, SlV.on h.sl hb, h.fits, h.fitq, h.len, h.lens, h.lenq⟩
set_option maxRecDepth 100000 in
set_option maxHeartbeats 4000000 in
theorem one_any (rows : List (List Pt)) (q : List Pt) (ao aq : Option Addr) (cap cq len n : Nat) (w : World) (hlen : len = rows.length) (hn : n = q.length) (h : Rowed w rows q ao aq cap cq) :
    Calls Try.prog 5 #[.slice ao len cap, .slice aq n cq] w fun e w' => e = .returned (.bool true) ∧ Below w.heap.size w w' := by
  have H := Lib.hid h
  have HLEN := Lib.hid hlen
  have HN := Lib.hid hn
  clear h hlen hn
  obtain ⟨bo, hbo⟩ : ∃ bo, bo = (answer rows q).1 := ⟨_, rfl⟩
  obtain ⟨fk, hfk⟩ : ∃ fk, fk = (answer rows q).2.1 := ⟨_, rfl⟩
  obtain ⟨fa, hfa⟩ : ∃ fa, fa = (answer rows q).2.2 := ⟨_, rfl⟩
  have HBO := Lib.hid hbo
  have HFK := Lib.hid hfk
  have HFA := Lib.hid hfa
  clear hbo hfk hfa
  go_enter Try.func5, Try.ntmps5
  go_wp2_with fail
  rw [HLEN.out, HN.out]
  refine (pUseful_any rows q ao aq cap cq w H.out.mat H.out.sl H.out.fits H.out.fitq H.out.len H.out.lens H.out.lenq).mono ?_
  rintro e w1 ⟨rfl, hb1⟩
  rw [← HLEN.out, ← HN.out, ← HBO.out, ← HFK.out, ← HFA.out]
  obtain ⟨w2, hw2⟩ : ∃ w2, w2 = w1.alloc (.cells #[.int .i64 fk, .int .i64 fa] 31) := ⟨_, rfl⟩
  have hB2 : Below w.heap.size w w2 := by rw [hw2]; exact balloc hb1 _
  have hc2 : w2.heap[w1.heap.size]? = some (.cells #[.int .i64 fk, .int .i64 fa] 31 (0, 0)) := by rw [hw2]; exact heap_alloc_new w1 _
  have l2 := lt_of_block hc2
  have hs1 := hb1.size
  have hs2 := hB2.size
  have HW2 := Lib.hid hw2
  have HB2 := Lib.hid hB2
  have HC2 := Lib.hid hc2
  clear hw2 hB2 hc2 hb1
  go_wp2_with fail
  rw [show w1.alloc (.cells #[.int .i64 fk, .int .i64 fa] 31) = w2 from HW2.out.symm]
  rw [HLEN.out, HN.out]
  refine (rUseful_any rows q ao aq cap cq w2 (H.out.on HB2.out).mat (H.out.on HB2.out).sl H.out.fits H.out.fitq H.out.len H.out.lens H.out.lenq).mono ?_
  rintro e w3 ⟨rfl, hb3⟩
  rw [← HLEN.out, ← HN.out, ← HBO.out, ← HFK.out, ← HFA.out]
  obtain ⟨w4, hw4⟩ : ∃ w4, w4 = w3.alloc (.cells #[.int .i64 fk, .int .i64 fa] 31) := ⟨_, rfl⟩
  have hB4 : Below w2.heap.size w2 w4 := by rw [hw4]; exact balloc hb3 _
  have hc4 : w4.heap[w3.heap.size]? = some (.cells #[.int .i64 fk, .int .i64 fa] 31 (0, 0)) := by rw [hw4]; exact heap_alloc_new w3 _
  have hc2' := blk_below HC2.out hB4 l2
  have c0 : w4.cell? ⟨w3.heap.size, 0, none⟩ = some (.int .i64 fk) := blk_cell hc4 0
  have c1 : w4.cell? ⟨w3.heap.size, 1, none⟩ = some (.int .i64 fa) := blk_cell hc4 1
  have d0 : w4.cell? ⟨w1.heap.size, 0, none⟩ = some (.int .i64 fk) := blk_cell hc2' 0
  have d1 : w4.cell? ⟨w1.heap.size, 1, none⟩ = some (.int .i64 fa) := blk_cell hc2' 1
  have HW4 := Lib.hid hw4
  have HB4 := Lib.hid (HB2.out.trans (hB4.mono hs2))
  have heq : ∀ w' : World, (binOp .eql 31 (.agg #[.int .i64 fk, .int .i64 fa]) (.agg #[.int .i64 fk, .int .i64 fa])).run Try.prog w' = .ok (.bool true) w' := fun w' => eq31 fk fa w'
  clear hw4 hB4 hc4 hc2' hb3
  go_upto_region 3 with fail
  rw [show w3.alloc (.cells #[.int .i64 fk, .int .i64 fa] 31) = w4 from HW4.out.symm]
  cases bo with
  | true =>
    go_wp2_with fail
    go_ret
    exact ⟨rfl, HB4.out⟩
  | false =>
    go_wp2_with fail
    go_ret
    exact ⟨rfl, HB4.out⟩

theorem i64_lit {x : Int} (h : -1000 ≤ x ∧ x ≤ 1000) : I64 x := by unfold I64; omega
theorem fits_con (n o : Int) (hn : -1000 ≤ n ∧ n ≤ 1000) (ho : -1000 ≤ o ∧ o ≤ 1000) : Fits (conP n o) := by
  unfold conP Fits
  exact ⟨⟨i64_lit (by omega), i64_lit hn, i64_lit ho, i64_lit (by omega), Nat.zero_le _⟩, Nat.zero_le _, by unfold FitsL; trivial⟩
/-- one pattern without kids, alone in a slice -/
theorem sl_one {w : World} {N b : Nat} {p : Pt} (hk : p.kids = []) (hb : w.heap[b]? = some (.cells (rowOf p none 0) 26 (0, 0))) (hN : b < N) : SlV w N [p] (some ⟨b, 0, none⟩) 1 := by
  refine ⟨Nat.le_refl _, ?_⟩
  unfold KidsV
  refine ⟨⟨b, 0, (rowOf p none 0).toList, rfl, hN, fun j hj => ?_, PatV.mk' ⟨by rw [hk]; exact Nat.zero_le _, by rw [hk]; unfold KidsV; trivial⟩⟩, by unfold KidsV; trivial⟩
  rw [blk_cell hb]
  simp
/-- rows of one pattern each -/
theorem mat_list {w : World} {N b : Nat} {rows : List (List Pt)} {vs : List Value} {e : TypeId} (hb : w.heap[b]? = some (.cells vs.toArray e (0, 0))) (hN : b < N) (h : SlvL w (fun b => b < N) rows vs) : MatV w N rows (some ⟨b, 0, none⟩) rows.length := by
  refine ⟨Nat.le_refl _, vs, h, fun _ => ⟨b, 0, rfl, hN, fun j u hu => ?_⟩⟩
  rw [blk_cell hb, Nat.zero_add]
  simpa using hu
set_option maxRecDepth 100000 in
set_option maxHeartbeats 4000000 in
theorem usefuls_any (rows : List (List Pt)) (q : List Pt) (ao aq : Option Addr) (cap cq len n : Nat) (w : World) (hlen : len = rows.length) (hn : n = q.length) (h : Rowed w rows q ao aq cap cq) :
    Calls Try.prog 3 #[.slice ao len cap, .slice aq n cq] w fun e w' => e = .returned (.bool true) ∧ Below w.heap.size w w' := by
  have H := Lib.hid h
  have HLEN := Lib.hid hlen
  have HN := Lib.hid hn
  clear h hlen hn
  go_enter Try.func3, Try.ntmps3
  go_wp2_with fail
  refine (con_any 0 2 w).mono ?_
  rintro e w1 ⟨rfl, hb1⟩
  unfold rowOf
  go_wp2_with fail
  generalize hW2 : w1.alloc (.cells #[.int .i64 (conP 0 2).k, .int .i64 (conP 0 2).n, .int .i64 (conP 0 2).o, .int .i64 (conP 0 2).a, .string (conP 0 2).s, .slice none (conP 0 2).kids.length 0] 26) = W2
  have hB2 : Below w.heap.size w W2 := by rw [← hW2]; exact balloc hb1 _
  have h2 : W2.heap[w1.heap.size]? = some (.cells (rowOf (conP 0 2) none 0) 26 (0, 0)) := by rw [← hW2]; exact heap_alloc_new w1 _
  have l2 := lt_of_block h2
  have H2 := Lib.hid h2
  have HB2 := Lib.hid hB2
  have hs2 := hB2.size
  clear hW2 h2 hB2 hb1
  refine (con_any 1 2 W2).mono ?_
  rintro e w3 ⟨rfl, hb3⟩
  unfold rowOf
  obtain ⟨w6, hw6⟩ : ∃ w6, w6 = ((w3.alloc (.cells #[.int .i64 (conP 1 2).k, .int .i64 (conP 1 2).n, .int .i64 (conP 1 2).o, .int .i64 (conP 1 2).a, .string (conP 1 2).s, .slice none (conP 1 2).kids.length 0] 26)).alloc (.cells #[.slice (some ⟨w1.heap.size, 0, none⟩) 1 1, .slice (some ⟨w3.heap.size, 0, none⟩) 1 1] 23)).alloc (.cells #[.int .i64 0, .int .i64 0, .int .i64 0, .int .i64 0, .string ⟨#[]⟩, .slice none 0 0] 26) := ⟨_, rfl⟩
  have hs3 := hb3.size
  have hB6 : Below w.heap.size w w6 := by rw [hw6]; exact balloc (balloc (balloc (HB2.out.trans (hb3.mono hs2)) _) _) _
  have e4 := heap_alloc_new w3 (.cells #[.int .i64 (conP 1 2).k, .int .i64 (conP 1 2).n, .int .i64 (conP 1 2).o, .int .i64 (conP 1 2).a, .string (conP 1 2).s, .slice none (conP 1 2).kids.length 0] 26)
  have e5 := heap_alloc_new (w3.alloc (.cells #[.int .i64 (conP 1 2).k, .int .i64 (conP 1 2).n, .int .i64 (conP 1 2).o, .int .i64 (conP 1 2).a, .string (conP 1 2).s, .slice none (conP 1 2).kids.length 0] 26)) (.cells #[.slice (some ⟨w1.heap.size, 0, none⟩) 1 1, .slice (some ⟨w3.heap.size, 0, none⟩) 1 1] 23)
  have e6 := heap_alloc_new ((w3.alloc (.cells #[.int .i64 (conP 1 2).k, .int .i64 (conP 1 2).n, .int .i64 (conP 1 2).o, .int .i64 (conP 1 2).a, .string (conP 1 2).s, .slice none (conP 1 2).kids.length 0] 26)).alloc (.cells #[.slice (some ⟨w1.heap.size, 0, none⟩) 1 1, .slice (some ⟨w3.heap.size, 0, none⟩) 1 1] 23)) (.cells #[.int .i64 0, .int .i64 0, .int .i64 0, .int .i64 0, .string ⟨#[]⟩, .slice none 0 0] 26)
  rw [World.size_alloc] at e5
  rw [World.size_alloc, World.size_alloc] at e6
  have k1 : w6.heap[w1.heap.size]? = some (.cells (rowOf (conP 0 2) none 0) 26 (0, 0)) := by rw [hw6]; exact blk_alloc (blk_alloc (blk_alloc (blk_below H2.out hb3 l2) _) _) _
  have k3 : w6.heap[w3.heap.size]? = some (.cells (rowOf (conP 1 2) none 0) 26 (0, 0)) := by rw [hw6]; exact blk_alloc (blk_alloc e4 _) _
  have k5 : w6.heap[w3.heap.size + 1]? = some (.cells #[.slice (some ⟨w1.heap.size, 0, none⟩) 1 1, .slice (some ⟨w3.heap.size, 0, none⟩) 1 1] 23 (0, 0)) := by rw [hw6]; exact blk_alloc e5 _
  have k6 : w6.heap[w3.heap.size + 1 + 1]? = some (.cells (rowOf anyP none 0) 26 (0, 0)) := by rw [hw6]; exact e6
  have hrow6 : Rowed w6 [[conP 0 2], [conP 1 2]] [anyP] (some ⟨w3.heap.size + 1, 0, none⟩) (some ⟨w3.heap.size + 1 + 1, 0, none⟩) 2 1 := by
    refine ⟨mat_list k5 (lt_of_block k5) ⟨⟨_, _, rfl, sl_one rfl k1 (lt_of_block k1)⟩, ⟨_, _, rfl, sl_one rfl k3 (lt_of_block k3)⟩, trivial⟩, sl_one rfl k6 (lt_of_block k6), ?_, fitsL_mk fits_any (by unfold FitsL; trivial), by simp, ?_, by simp⟩
    · intro r hr
      rcases List.mem_cons.1 hr with rfl | hr
      · exact fitsL_mk (fits_con 0 2 (by omega) (by omega)) (by unfold FitsL; trivial)
      · simp only [List.mem_singleton] at hr
        subst hr
        exact fitsL_mk (fits_con 1 2 (by omega) (by omega)) (by unfold FitsL; trivial)
    · intro r hr
      rcases List.mem_cons.1 hr with rfl | hr
      · simp
      · simp only [List.mem_singleton] at hr
        subst hr
        simp
  have HROW6 := Lib.hid hrow6
  have HB6 := Lib.hid hB6
  have HW6 := Lib.hid hw6
  have hs6 := hB6.size
  clear e4 e5 e6 k1 k3 k5 k6 hrow6 hB6 hw6
  go_wp2_with fail
  rw [show ((w3.alloc (.cells #[.int .i64 (conP 1 2).k, .int .i64 (conP 1 2).n, .int .i64 (conP 1 2).o, .int .i64 (conP 1 2).a, .string (conP 1 2).s, .slice none (conP 1 2).kids.length 0] 26)).alloc (.cells #[.slice (some ⟨w1.heap.size, 0, none⟩) 1 1, .slice (some ⟨w3.heap.size, 0, none⟩) 1 1] 23)).alloc (.cells #[.int .i64 0, .int .i64 0, .int .i64 0, .int .i64 0, .string ⟨#[]⟩, .slice none 0 0] 26) = w6 from HW6.out.symm]
  refine (one_any [[conP 0 2], [conP 1 2]] [anyP] (some ⟨w3.heap.size + 1, 0, none⟩) (some ⟨w3.heap.size + 1 + 1, 0, none⟩) 2 1 2 1 w6 rfl rfl HROW6.out).mono ?_
  rintro e w7 ⟨rfl, hb7⟩
  have HB7 := Lib.hid (HB6.out.trans (hb7.mono hs6))
  have hs7 := HB7.out.size
  clear hb7 hb3
  go_wp2_with fail
  refine (con_any 0 2 w7).mono ?_
  rintro e w8 ⟨rfl, hb8⟩
  unfold rowOf
  obtain ⟨w9, hw9⟩ : ∃ w9, w9 = ((w8.alloc (.cells #[.int .i64 (conP 0 2).k, .int .i64 (conP 0 2).n, .int .i64 (conP 0 2).o, .int .i64 (conP 0 2).a, .string (conP 0 2).s, .slice none (conP 0 2).kids.length 0] 26)).alloc (.cells #[.slice (some ⟨w8.heap.size, 0, none⟩) 1 1] 23)).alloc (.cells #[.int .i64 0, .int .i64 0, .int .i64 0, .int .i64 0, .string ⟨#[]⟩, .slice none 0 0] 26) := ⟨_, rfl⟩
  have hB9 : Below w.heap.size w w9 := by rw [hw9]; exact balloc (balloc (balloc (HB7.out.trans (hb8.mono hs7)) _) _) _
  have e4 := heap_alloc_new w8 (.cells #[.int .i64 (conP 0 2).k, .int .i64 (conP 0 2).n, .int .i64 (conP 0 2).o, .int .i64 (conP 0 2).a, .string (conP 0 2).s, .slice none (conP 0 2).kids.length 0] 26)
  have e5 := heap_alloc_new (w8.alloc (.cells #[.int .i64 (conP 0 2).k, .int .i64 (conP 0 2).n, .int .i64 (conP 0 2).o, .int .i64 (conP 0 2).a, .string (conP 0 2).s, .slice none (conP 0 2).kids.length 0] 26)) (.cells #[.slice (some ⟨w8.heap.size, 0, none⟩) 1 1] 23)
  have e6 := heap_alloc_new ((w8.alloc (.cells #[.int .i64 (conP 0 2).k, .int .i64 (conP 0 2).n, .int .i64 (conP 0 2).o, .int .i64 (conP 0 2).a, .string (conP 0 2).s, .slice none (conP 0 2).kids.length 0] 26)).alloc (.cells #[.slice (some ⟨w8.heap.size, 0, none⟩) 1 1] 23)) (.cells #[.int .i64 0, .int .i64 0, .int .i64 0, .int .i64 0, .string ⟨#[]⟩, .slice none 0 0] 26)
  rw [World.size_alloc] at e5
  rw [World.size_alloc, World.size_alloc] at e6
  have k3 : w9.heap[w8.heap.size]? = some (.cells (rowOf (conP 0 2) none 0) 26 (0, 0)) := by rw [hw9]; exact blk_alloc (blk_alloc e4 _) _
  have k5 : w9.heap[w8.heap.size + 1]? = some (.cells #[.slice (some ⟨w8.heap.size, 0, none⟩) 1 1] 23 (0, 0)) := by rw [hw9]; exact blk_alloc e5 _
  have k6 : w9.heap[w8.heap.size + 1 + 1]? = some (.cells (rowOf anyP none 0) 26 (0, 0)) := by rw [hw9]; exact e6
  have hrow9 : Rowed w9 [[conP 0 2]] [anyP] (some ⟨w8.heap.size + 1, 0, none⟩) (some ⟨w8.heap.size + 1 + 1, 0, none⟩) 1 1 := by
    refine ⟨mat_list k5 (lt_of_block k5) ⟨⟨_, _, rfl, sl_one rfl k3 (lt_of_block k3)⟩, trivial⟩, sl_one rfl k6 (lt_of_block k6), ?_, fitsL_mk fits_any (by unfold FitsL; trivial), by simp, ?_, by simp⟩
    · intro r hr
      simp only [List.mem_singleton] at hr
      subst hr
      exact fitsL_mk (fits_con 0 2 (by omega) (by omega)) (by unfold FitsL; trivial)
    · intro r hr
      simp only [List.mem_singleton] at hr
      subst hr
      simp
  have HROW9 := Lib.hid hrow9
  have HB9 := Lib.hid hB9
  have HW9 := Lib.hid hw9
  have hs9 := hB9.size
  clear e4 e5 e6 k3 k5 k6 hrow9 hB9 hw9
  go_wp2_with fail
  rw [show ((w8.alloc (.cells #[.int .i64 (conP 0 2).k, .int .i64 (conP 0 2).n, .int .i64 (conP 0 2).o, .int .i64 (conP 0 2).a, .string (conP 0 2).s, .slice none (conP 0 2).kids.length 0] 26)).alloc (.cells #[.slice (some ⟨w8.heap.size, 0, none⟩) 1 1] 23)).alloc (.cells #[.int .i64 0, .int .i64 0, .int .i64 0, .int .i64 0, .string ⟨#[]⟩, .slice none 0 0] 26) = w9 from HW9.out.symm]
  refine (one_any [[conP 0 2]] [anyP] (some ⟨w8.heap.size + 1, 0, none⟩) (some ⟨w8.heap.size + 1 + 1, 0, none⟩) 1 1 1 1 w9 rfl rfl HROW9.out).mono ?_
  rintro e w10 ⟨rfl, hb10⟩
  have HB10 := Lib.hid (HB9.out.trans (hb10.mono hs9))
  have hs10 := HB10.out.size
  clear hb10 hb8
  go_wp2_with fail
  refine (one_any rows q ao aq cap cq len n w10 HLEN.out HN.out (H.out.on HB10.out)).mono ?_
  rintro e w11 ⟨rfl, hb11⟩
  have HB11 := Lib.hid (HB10.out.trans (hb11.mono hs10))
  clear hb11
  go_wp2_with fail
  go_ret
  exact ⟨rfl, HB11.out⟩
end Go.Proofs.Ytcieoelogocjkaa
