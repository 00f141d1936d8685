/-
  Proved: mlcorelaw1.Split returns true for every two texts. Condition: the table of sorts.
-/
import Derived.Test.YtbfeailcebfklaaDoorS2
import Derived.Test.YtbfeailcebfklaaDoorP3
set_option linter.unusedSimpArgs false
set_option linter.unusedVariables false
namespace Go.Proofs.YtbfeailcebfklaaDoor
open Go.RowKit

theorem ptoks_at (s : ByteArray) (w : World) (hso : Sorts w) (h0 : 0 < w.heap.size) {l : List Tok} {f1 f2 : Nat} (h : lexD s = (l, (f1, f2))) : Calls Tryd.prog 7 #[.string s] w fun e w' => ∃ a cap, e = .returned (.tuple #[.slice a l.length cap, .agg #[.int .i64 f1, .int .i64 f2]]) ∧ RowsAt w' w'.heap.size a 4 (l.map tokRow) ∧ Below w.heap.size w w' := by
  refine (ptoks_any s w hso h0).mono ?_
  rintro e w1 ⟨a, ca, he, ho, hb⟩
  rw [h] at he ho
  exact ⟨a, ca, he, toks_own ho, hb⟩
/-- rows stay so behind an allocation or a callee -/
theorem rows_on {w w' : World} {ao : Option Addr} {sz : Nat} {rows : List (List Value)} (h : RowsAt w w.heap.size ao sz rows) (hb : Below w.heap.size w w') : RowsAt w' w'.heap.size ao sz rows :=
  (h.below hb).mono hb.size

set_option maxRecDepth 100000 in
set_option maxHeartbeats 4000000 in
theorem split_any (s t : ByteArray) (w : World) (hso : Sorts w) (h0 : 0 < w.heap.size) : Calls Tryd.prog 4 #[.string s, .string t] w fun e w' => e = .returned (.bool true) ∧ Below w.heap.size w w' := by
  have HSO := Lib.hid hso
  clear hso
  obtain ⟨⟨la, f1, f2⟩, hls⟩ : ∃ x, lexD s = x := ⟨_, rfl⟩
  obtain ⟨⟨lb, g1, g2⟩, hlt⟩ : ∃ x, lexD t = x := ⟨_, rfl⟩
  have HLS := Lib.hid hls
  have HLT := Lib.hid hlt
  have hla := lexD_len s
  have hlb := lexD_len t
  rw [hls] at hla
  rw [hlt] at hlb
  simp only at hla hlb
  clear hls hlt
  go_enter Tryd.func4, Tryd.ntmps4
  go_wp2_with fail
  refine (ptoks_at s w HSO.out h0 HLS.out).mono ?_
  rintro e w1 ⟨a, ca, rfl, hra, hb1⟩
  obtain ⟨w2, hw2⟩ : ∃ w2, w2 = w1.alloc (.cells #[.int .i64 f1, .int .i64 f2] 26) := ⟨_, rfl⟩
  have hfb : w2.heap[w1.heap.size]? = some (.cells #[.int .i64 f1, .int .i64 f2] 26 (0, 0)) := by rw [hw2]; exact heap_alloc_new w1 _
  have hb2 : Below w.heap.size w w2 := by rw [hw2]; exact balloc hb1 _
  have hra2 : RowsAt w2 w2.heap.size a 4 (la.map tokRow) := by rw [hw2]; exact rows_on hra ((Below.refl _ _).alloc (Nat.le_refl _) _)
  have HF := Lib.hid hfb
  have HB := Lib.hid hb2
  have HRA := Lib.hid hra2
  have HW := Lib.hid hw2
  obtain ⟨p1, hp1⟩ : ∃ p1, p1 = w1.heap.size := ⟨_, rfl⟩
  have HP1 := Lib.hid hp1
  clear hra hb1 hfb hb2 hra2 hw2 hp1
  go_wp2_with fail
  rw [← HW.out]
  have h02 : 0 < w2.heap.size := Nat.lt_of_lt_of_le h0 HB.out.size
  refine (ptoks_at t w2 (HSO.out.below HB.out h0) h02 HLT.out).mono ?_
  rintro e w3 ⟨b, cb, rfl, hrb, hb3⟩
  obtain ⟨w4, hw4⟩ : ∃ w4, w4 = w3.alloc (.cells #[.int .i64 g1, .int .i64 g2] 26) := ⟨_, rfl⟩
  have hgb : w4.heap[w3.heap.size]? = some (.cells #[.int .i64 g1, .int .i64 g2] 26 (0, 0)) := by rw [hw4]; exact heap_alloc_new w3 _
  have hb34 : Below w3.heap.size w3 w4 := by rw [hw4]; exact (Below.refl _ _).alloc (Nat.le_refl _) _
  have hb24 : Below w2.heap.size w2 w4 := by rw [hw4]; exact balloc hb3 _
  have HF4 := Lib.hid (blk_below HF.out hb24 (lt_of_block HF.out))
  have HG4 := Lib.hid hgb
  have HB4 := Lib.hid (bthen HB.out hb24)
  have HRA4 := Lib.hid (rows_on HRA.out hb24)
  have HRB4 := Lib.hid (rows_on hrb hb34)
  have HW4 := Lib.hid hw4
  clear hrb hb3 hgb hb34 hb24 hw4 HF HRA HW h02
  go_wp2_with fail
  rw [← HW4.out]
  have h04 : 0 < w4.heap.size := Nat.lt_of_lt_of_le h0 HB4.out.size
  refine (ptoks_at ⟨#[97, 32, 98]⟩ w4 (HSO.out.below HB4.out h0) h04 lex_ab).mono ?_
  rintro e w5 ⟨x, cx, rfl, hrx, hb5⟩
  obtain ⟨w6, hw6⟩ : ∃ w6, w6 = w5.alloc (.cells #[.int .i64 0, .int .i64 0] 26) := ⟨_, rfl⟩
  have hxb : w6.heap[w5.heap.size]? = some (.cells #[.int .i64 0, .int .i64 0] 26 (0, 0)) := by rw [hw6]; exact heap_alloc_new w5 _
  have hb56 : Below w5.heap.size w5 w6 := by rw [hw6]; exact (Below.refl _ _).alloc (Nat.le_refl _) _
  have hb46 : Below w4.heap.size w4 w6 := by rw [hw6]; exact balloc hb5 _
  have HF6 := Lib.hid (blk_below HF4.out hb46 (lt_of_block HF4.out))
  have HG6 := Lib.hid (blk_below HG4.out hb46 (lt_of_block HG4.out))
  have HX6 := Lib.hid hxb
  have HB6 := Lib.hid (bthen HB4.out hb46)
  have HRA6 := Lib.hid (rows_on HRA4.out hb46)
  have HRB6 := Lib.hid (rows_on HRB4.out hb46)
  have HW6 := Lib.hid hw6
  have hrx6 := rows_on hrx hb56
  obtain ⟨gx, ox, ex, _, c1⟩ := hrx6 1 (by simp)
  have hix : ∀ w' : World, (Instr.indexAt 23 (.slice x 3 cx) (.int .i64 1)).run Tryd.prog w' = .ok (.pointer (some ⟨gx, ox + 1 * 4, none⟩)) w' := fun w' => index_at Tryd.underlying23 size30 ex 3 cx 1 (by omega) w'
  have x1 : w6.cell? ⟨gx, ox + 1 * 4 + 1, none⟩ = some (.int .i64 2) := c1 1 (by omega)
  generalize ox + 1 * 4 = px at hix x1
  clear hrx hb5 hxb hb56 hb46 hw6 HF4 HG4 HB4 HRA4 HRB4 HW4 h04 c1 ex hrx6
  have y0 : w6.cell? ⟨w5.heap.size, 0, none⟩ = some (.int .i64 0) := blk_cell HX6.out 0
  have y1 : w6.cell? ⟨w5.heap.size, 1, none⟩ = some (.int .i64 0) := blk_cell HX6.out 1
  go_upto_region 4 with fail
  rw [← HW6.out]
  go_upto_region 6 with fail
  have u0 : w6.cell? ⟨w1.heap.size, 0, none⟩ = some (.int .i64 f1) := blk_cell HF6.out 0
  have u1 : w6.cell? ⟨w1.heap.size, 1, none⟩ = some (.int .i64 f2) := blk_cell HF6.out 1
  have v0 : w6.cell? ⟨w3.heap.size, 0, none⟩ = some (.int .i64 g1) := blk_cell HG6.out 0
  have v1 : w6.cell? ⟨w3.heap.size, 1, none⟩ = some (.int .i64 g2) := blk_cell HG6.out 1
  clear HX6 HW6 y0 y1 x1 hix
  by_cases hF : f1 = 0 ∧ f2 = 0
  · obtain ⟨rfl, rfl⟩ := hF
    by_cases hG : g1 = 0 ∧ g2 = 0
    · obtain ⟨rfl, rfl⟩ := hG
      have hs4 := lexD_ok_size HLS.out
      have ht4 := lexD_ok_size HLT.out
      by_cases hL : 4000 < s.size + t.size + 1
      · have hd : decide ((4000 : Int) < (s.size : Int) + t.size + 1) = true := by simp; omega
        go_wp2_with fail
        go_ret
        exact ⟨rfl, HB6.out⟩
      · have hd : decide ((4000 : Int) < (s.size : Int) + t.size + 1) = false := by simp; omega
        have hz10 : (⟨#[10]⟩ : ByteArray).size = 1 := rfl
        have z1 : ∀ w' : World, (Op.stringOp .add s ⟨#[10]⟩).run Tryd.prog w' = .ok (.string (s ++ ⟨#[10]⟩)) w' := fun w' => run_string_add_sum w' _ _ (by rw [hz10]; omega)
        have z2 : ∀ w' : World, (Op.stringOp .add (s ++ ⟨#[10]⟩) t).run Tryd.prog w' = .ok (.string (s ++ ⟨#[10]⟩ ++ t)) w' := fun w' => run_string_add_sum w' _ _ (by rw [ByteArray.size_append, hz10]; omega)
        obtain ⟨j, hj⟩ : ∃ j, j = s ++ ⟨#[10]⟩ ++ t := ⟨_, rfl⟩
        have hside := side_of s t
        rw [← hj] at z2 hside
        have hjs : j.size ≤ 4000 := by rw [hside.size]; omega
        obtain ⟨la', hla', hlj⟩ := lex_side hside hjs HLS.out HLT.out
        have HLJ := Lib.hid hlj
        have HLA := Lib.hid hla'
        have hal : la.length = la'.length + 1 := by rw [hla']; simp
        have HL1 := Lib.hid hal
        have ha1 : la.length ≤ la'.length + 1 := Nat.le_of_eq hal
        have ha2 : la'.length + 1 ≤ la.length := Nat.le_of_eq hal.symm
        clear hal
        clear hside hlj hla' hj hz10
        have h06 : 0 < w6.heap.size := Nat.lt_of_lt_of_le h0 HB6.out.size
        go_wp2_with fail
        refine (ptoks_at j w6 (HSO.out.below HB6.out h0) h06 HLJ.out).mono ?_
        rintro e w7 ⟨c, cc, rfl, hrc, hb7⟩
        obtain ⟨w8, hw8⟩ : ∃ w8, w8 = w7.alloc (.cells #[.int .i64 0, .int .i64 0] 26) := ⟨_, rfl⟩
        have hcb : w8.heap[w7.heap.size]? = some (.cells #[.int .i64 0, .int .i64 0] 26 (0, 0)) := by rw [hw8]; exact heap_alloc_new w7 _
        have hb78 : Below w7.heap.size w7 w8 := by rw [hw8]; exact (Below.refl _ _).alloc (Nat.le_refl _) _
        have hb68 : Below w6.heap.size w6 w8 := by rw [hw8]; exact balloc hb7 _
        have HB8 := Lib.hid (bthen HB6.out hb68)
        have HRA8 := Lib.hid (rows_on HRA6.out hb68)
        have HRB8 := Lib.hid (rows_on HRB6.out hb68)
        have HRC8 := Lib.hid (rows_on hrc hb78)
        have HW8 := Lib.hid hw8
        have y0 : w8.cell? ⟨w7.heap.size, 0, none⟩ = some (.int .i64 0) := blk_cell hcb 0
        have y1 : w8.cell? ⟨w7.heap.size, 1, none⟩ = some (.int .i64 0) := blk_cell hcb 1
        have hlc : (la' ++ lb.map (mv (s.size + 1))).length = la'.length + lb.length := by simp
        rw [hlc]
        clear hrc hb7 hcb hb78 hb68 hw8 h06 HRA6 HRB6 HB6 u0 u1 v0 v1 z1 z2
        have hne : (((la'.length : Int) + lb.length) != ((la.length : Int) + lb.length - 1)) = false := by simp; omega
        go_upto_region 9 with fail
        rw [← HW8.out]
        have HLC := Lib.hid hlc
        clear hlc HW8
        go_wp2_with fail
        go_loopw [13] (fun i wr => ∃ k : Nat, k ≤ la'.length + lb.length ∧ i = .int .i64 k ∧ Below w8.heap.size w8 wr) (fun i _ => la'.length + lb.length - (intOf i).toNat)
        case atStart => exact ⟨0, Nat.zero_le _, rfl, Below.refl _ _⟩
        case round =>
          obtain ⟨k, hk, rfl, hbl⟩ := hrel
          have HBL := Lib.hid hbl
          clear hbl
          by_cases hlt : k < la'.length + lb.length
          · have hd : decide ((k : Int) < (la'.length : Int) + lb.length) = true := by simp; omega
            have hk9 : k < 9000 := by omega
            go_upto_region 15 with fail
            obtain ⟨wz, hwz⟩ : ∃ wz, wz = wr.alloc (.cells #[.int .i64 0, .int .i64 0, .string ⟨#[]⟩, .int .i64 0] 30) := ⟨_, rfl⟩
            have hzb : TokB wz wr.heap.size 0 0 ⟨#[]⟩ 0 := by rw [hwz]; exact heap_alloc_new wr _
            have hbz : Below w8.heap.size w8 wz := by rw [hwz]; exact balloc HBL.out _
            rw [← hwz]
            obtain ⟨q, hq⟩ : ∃ q, q = wr.heap.size := ⟨_, rfl⟩
            have hq8 : w8.heap.size ≤ q := by rw [hq]; exact HBL.out.size
            rw [← hq] at hzb
            rw [← hq]
            have HZB := Lib.hid hzb
            have HBZ := Lib.hid hbz
            clear hwz hzb hbz hq HBL
            by_cases hka : k < la'.length
            · have hd2 : decide ((k : Int) < (la.length : Int) - 1) = true := by simp; omega
              obtain ⟨g1, o1, ea, hg1, c1⟩ := (HRA8.out.below HBZ.out) k (by rw [List.length_map, HL1.out]; omega)
              have hix1 := fun w' => index_at Tryd.underlying23 size30 ea la.length ca k (by omega) w'
              obtain ⟨⟨t1, t2, t3, t4⟩, ht⟩ : ∃ t : Tok, la'[k] = t := ⟨_, rfl⟩
              have hrow : (la.map tokRow).getD k [] = [.int .i64 t1, .int .i64 t2, .string t3, .int .i64 t4] := by
                rw [HLA.out, List.getD_eq_getElem?_getD, List.getElem?_map, List.getElem?_append_left hka, List.getElem?_eq_getElem hka, ht]; rfl
              rw [hrow] at c1
              have x0 : wz.cell? ⟨g1, o1 + k * 4, none⟩ = some (.int .i64 t1) := c1 0 (by omega)
              have x1 : wz.cell? ⟨g1, o1 + k * 4 + 1, none⟩ = some (.int .i64 t2) := c1 1 (by omega)
              have x2 : wz.cell? ⟨g1, o1 + k * 4 + 2, none⟩ = some (.string t3) := c1 2 (by omega)
              have x3 : wz.cell? ⟨g1, o1 + k * 4 + 3, none⟩ = some (.int .i64 t4) := c1 3 (by omega)
              have f0 : wz.frozen? ⟨q, 0, none⟩ = false := blk_free HZB.out 0
              have f1 : wz.frozen? ⟨q, 1, none⟩ = false := blk_free HZB.out 1
              have f2 : wz.frozen? ⟨q, 2, none⟩ = false := blk_free HZB.out 2
              have f3 : wz.frozen? ⟨q, 3, none⟩ = false := blk_free HZB.out 3
              have lq := lt_of_block HZB.out
              have e0 : wz.cell? ⟨q, 0, none⟩ = some (.int .i64 0) := blk_cell HZB.out 0
              have e1 : wz.cell? ⟨q, 1, none⟩ = some (.int .i64 0) := blk_cell HZB.out 1
              have e2 : wz.cell? ⟨q, 2, none⟩ = some (.string ⟨#[]⟩) := blk_cell HZB.out 2
              have e3 : wz.cell? ⟨q, 3, none⟩ = some (.int .i64 0) := blk_cell HZB.out 3
              clear c1 ea hrow
              generalize o1 + k * 4 = p1 at hix1 x0 x1 x2 x3
              go_upto_region 19 with fail
              obtain ⟨wt, hwt⟩ : ∃ wt, wt = (((wz.setCell ⟨q, 0, none⟩ (.int .i64 t1)).setCell ⟨q, 1, none⟩ (.int .i64 t2)).setCell ⟨q, 2, none⟩ (.string t3)).setCell ⟨q, 3, none⟩ (.int .i64 t4) := ⟨_, rfl⟩
              have htb : TokB wt q t1 t2 t3 t4 := by rw [hwt]; exact blk_set (blk_set (blk_set (blk_set HZB.out 0 _) 1 _) 2 _) 3 _
              have hbt : Below w8.heap.size w8 wt := by rw [hwt]; exact (((HBZ.out.setCell (p := ⟨q, 0, none⟩) (by simp; omega) _).setCell (p := ⟨q, 1, none⟩) (by simp; omega) _).setCell (p := ⟨q, 2, none⟩) (by simp; omega) _).setCell (p := ⟨q, 3, none⟩) (by simp; omega) _
              rw [← hwt]
              have n0 : wt.cell? ⟨q, 0, none⟩ = some (.int .i64 t1) := blk_cell htb 0
              have n1 : wt.cell? ⟨q, 1, none⟩ = some (.int .i64 t2) := blk_cell htb 1
              have n2 : wt.cell? ⟨q, 2, none⟩ = some (.string t3) := blk_cell htb 2
              have n3 : wt.cell? ⟨q, 3, none⟩ = some (.int .i64 t4) := blk_cell htb 3
              obtain ⟨g2, o2, eb, hg2, c2⟩ := (HRC8.out.below hbt) (k) (by rw [List.length_map, HLC.out]; omega)
              have hix2 := fun w' => index_at Tryd.underlying23 size30 eb (la'.length + lb.length) cc (k) (by omega) w'
              have hrow2 : ((la' ++ lb.map (mv (s.size + 1))).map tokRow).getD (k) [] = [.int .i64 t1, .int .i64 t2, .string t3, .int .i64 t4] := by
                rw [List.getD_eq_getElem?_getD, List.getElem?_map, List.getElem?_append_left hka, List.getElem?_eq_getElem hka, ht]; rfl
              rw [hrow2] at c2
              have m0 : wt.cell? ⟨g2, o2 + (k) * 4, none⟩ = some (.int .i64 t1) := c2 0 (by omega)
              have m1 : wt.cell? ⟨g2, o2 + (k) * 4 + 1, none⟩ = some (.int .i64 t2) := c2 1 (by omega)
              have m2 : wt.cell? ⟨g2, o2 + (k) * 4 + 2, none⟩ = some (.string t3) := c2 2 (by omega)
              have m3 : wt.cell? ⟨g2, o2 + (k) * 4 + 3, none⟩ = some (.int .i64 t4) := c2 3 (by omega)
              have HBT := Lib.hid hbt
              clear c2 eb hrow2 hwt htb hbt HBZ HZB x0 x1 x2 x3 e0 e1 e2 e3 f0 f1 f2 f3 lq
              generalize o2 + (k) * 4 = p2 at hix2 m0 m1 m2 m3
              go_quiet (fail)
              go_wp2_with fail
              go_roundw
              case rel => exact ⟨k + 1, by omega, by go_num, bdrewN HBT.out _⟩
              case measure => simp [intOf]; omega
            · have q3 : IntKind.i64.wrap ((la.length : Int) - 1) = la'.length := by have h := HL1.out; rw [IntWalk.i64_in _ (by omega)]; omega
              obtain ⟨m, rfl⟩ : ∃ m, k = la'.length + m := ⟨k - la'.length, by omega⟩
              have hm : m < lb.length := by omega
              have hd2 : decide ((la'.length : Int) + m < (la.length : Int) - 1) = false := by simp; omega
              obtain ⟨g1, o1, ea, hg1, c1⟩ := (HRB8.out.below HBZ.out) m (by rw [List.length_map]; omega)
              have hix0 := fun w' => index_at Tryd.underlying23 size30 ea lb.length cb m (by omega) w'
              have hix1 : ∀ w' : World, (Instr.indexAt 23 (.slice b lb.length cb) (.int .i64 ((la'.length : Int) + m - la.length + 1))).run Tryd.prog w' = .ok (.pointer (some ⟨g1, o1 + m * 4, none⟩)) w' := by
                intro w'
                rw [show (la'.length : Int) + m - la.length + 1 = m from by omega]
                exact hix0 w'
              clear hix0
              obtain ⟨⟨t1, t2, t3, t4⟩, ht⟩ : ∃ t : Tok, lb[m] = t := ⟨_, rfl⟩
              have hrow : (lb.map tokRow).getD m [] = [.int .i64 t1, .int .i64 t2, .string t3, .int .i64 t4] := by
                rw [List.getD_eq_getElem?_getD, List.getElem?_map, List.getElem?_eq_getElem hm, ht]; rfl
              rw [hrow] at c1
              have x0 : wz.cell? ⟨g1, o1 + m * 4, none⟩ = some (.int .i64 t1) := c1 0 (by omega)
              have x1 : wz.cell? ⟨g1, o1 + m * 4 + 1, none⟩ = some (.int .i64 t2) := c1 1 (by omega)
              have x2 : wz.cell? ⟨g1, o1 + m * 4 + 2, none⟩ = some (.string t3) := c1 2 (by omega)
              have x3 : wz.cell? ⟨g1, o1 + m * 4 + 3, none⟩ = some (.int .i64 t4) := c1 3 (by omega)
              have f0 : wz.frozen? ⟨q, 0, none⟩ = false := blk_free HZB.out 0
              have f1 : wz.frozen? ⟨q, 1, none⟩ = false := blk_free HZB.out 1
              have f2 : wz.frozen? ⟨q, 2, none⟩ = false := blk_free HZB.out 2
              have f3 : wz.frozen? ⟨q, 3, none⟩ = false := blk_free HZB.out 3
              have lq := lt_of_block HZB.out
              have e0 : wz.cell? ⟨q, 0, none⟩ = some (.int .i64 0) := blk_cell HZB.out 0
              have e1 : wz.cell? ⟨q, 1, none⟩ = some (.int .i64 0) := blk_cell HZB.out 1
              have e2 : wz.cell? ⟨q, 2, none⟩ = some (.string ⟨#[]⟩) := blk_cell HZB.out 2
              have e3 : wz.cell? ⟨q, 3, none⟩ = some (.int .i64 0) := blk_cell HZB.out 3
              have ht2 : t2 ≤ 4001 := tok_at_le HLT.out hm ht
              clear c1 ea hrow
              generalize o1 + m * 4 = p1 at hix1 x0 x1 x2 x3
              go_upto_region 19 with fail
              obtain ⟨wt, hwt⟩ : ∃ wt, wt = ((((wz.setCell ⟨q, 0, none⟩ (.int .i64 t1)).setCell ⟨q, 1, none⟩ (.int .i64 t2)).setCell ⟨q, 2, none⟩ (.string t3)).setCell ⟨q, 3, none⟩ (.int .i64 t4)).setCell ⟨q, 1, none⟩ (.int .i64 ((t2 : Int) + s.size + 1)) := ⟨_, rfl⟩
              have htb : TokB wt q t1 ((t2 : Int) + s.size + 1) t3 t4 := by rw [hwt]; exact blk_set (blk_set (blk_set (blk_set (blk_set HZB.out 0 _) 1 _) 2 _) 3 _) 1 _
              have hbt : Below w8.heap.size w8 wt := by rw [hwt]; exact ((((HBZ.out.setCell (p := ⟨q, 0, none⟩) (by simp; omega) _).setCell (p := ⟨q, 1, none⟩) (by simp; omega) _).setCell (p := ⟨q, 2, none⟩) (by simp; omega) _).setCell (p := ⟨q, 3, none⟩) (by simp; omega) _).setCell (p := ⟨q, 1, none⟩) (by simp; omega) _
              rw [← hwt]
              have n0 : wt.cell? ⟨q, 0, none⟩ = some (.int .i64 t1) := blk_cell htb 0
              have n1 : wt.cell? ⟨q, 1, none⟩ = some (.int .i64 ((t2 : Int) + s.size + 1)) := blk_cell htb 1
              have n2 : wt.cell? ⟨q, 2, none⟩ = some (.string t3) := blk_cell htb 2
              have n3 : wt.cell? ⟨q, 3, none⟩ = some (.int .i64 t4) := blk_cell htb 3
              obtain ⟨g2, o2, eb, hg2, c2⟩ := (HRC8.out.below hbt) (la'.length + m) (by rw [List.length_map, HLC.out]; omega)
              have hix2 : ∀ w' : World, (Instr.indexAt 23 (.slice c (la'.length + lb.length) cc) (.int .i64 ((la'.length : Int) + m))).run Tryd.prog w' = .ok (.pointer (some ⟨g2, o2 + (la'.length + m) * 4, none⟩)) w' := fun w' => index_at Tryd.underlying23 size30 eb (la'.length + lb.length) cc (la'.length + m) (by omega) w'
              have hrow2 : ((la' ++ lb.map (mv (s.size + 1))).map tokRow).getD (la'.length + m) [] = [.int .i64 t1, .int .i64 ((t2 : Int) + s.size + 1), .string t3, .int .i64 t4] := by
                rw [List.getD_eq_getElem?_getD, List.getElem?_map, List.getElem?_append_right (by omega), Nat.add_sub_cancel_left, List.getElem?_map, List.getElem?_eq_getElem hm, ht]
                simp only [Option.map_some, Option.getD_some, mv, tokRow]
                rw [show ((s.size + 1 + t2 : Nat) : Int) = (t2 : Int) + s.size + 1 from by omega]
              rw [hrow2] at c2
              have m0 : wt.cell? ⟨g2, o2 + (la'.length + m) * 4, none⟩ = some (.int .i64 t1) := c2 0 (by omega)
              have m1 : wt.cell? ⟨g2, o2 + (la'.length + m) * 4 + 1, none⟩ = some (.int .i64 ((t2 : Int) + s.size + 1)) := c2 1 (by omega)
              have m2 : wt.cell? ⟨g2, o2 + (la'.length + m) * 4 + 2, none⟩ = some (.string t3) := c2 2 (by omega)
              have m3 : wt.cell? ⟨g2, o2 + (la'.length + m) * 4 + 3, none⟩ = some (.int .i64 t4) := c2 3 (by omega)
              have HBT := Lib.hid hbt
              clear c2 eb hrow2 hwt htb hbt HBZ HZB x0 x1 x2 x3 e0 e1 e2 e3 f0 f1 f2 f3 lq
              generalize o2 + (la'.length + m) * 4 = p2 at hix2 m0 m1 m2 m3
              go_quiet (fail)
              go_wp2_with fail
              go_roundw
              case rel => exact ⟨la'.length + m + 1, by omega, by go_num, bdrewN HBT.out _⟩
              case measure => simp [intOf]; omega
          · have hd : decide ((k : Int) < (la'.length : Int) + lb.length) = false := by simp; omega
            go_wp2_with fail
            go_ret
            exact ⟨rfl, bthen HB8.out HBL.out⟩
    · go_wp2_with fail
      all_goals
        go_ret
        exact ⟨rfl, HB6.out⟩
  · go_wp2_with fail
    all_goals
      go_ret
      exact ⟨rfl, HB6.out⟩
end Go.Proofs.YtbfeailcebfklaaDoor
