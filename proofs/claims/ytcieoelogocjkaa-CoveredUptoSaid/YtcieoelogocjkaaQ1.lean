/-
  Proved: the contract of the reference's rest. Condition: lengths of at most 1048576.
-/
import Derived.Test.YtcieoelogocjkaaB4
import Derived.Test.YtcieoelogocjkaaB3
import Derived.Test.YtcieoelogocjkaaU1
set_option linter.unusedSimpArgs false
set_option linter.unusedVariables false
namespace Go.Proofs.Ytcieoelogocjkaa
open Go.RowKit

/-- what rest leaves -/
def RestPost (D : Nat → Prop) (h : Hd) (r : List Pt) (w : World) (e : Ending) (w' : World) : Prop :=
  (∃ a n c b, e = .returned (.tuple #[.slice a n c, .bool b]) ∧ (match given h r with
   | none => b = false
   | some l => b = true ∧ n = l.length ∧ SlD w' (fun b => D b ∨ (w.heap.size ≤ b ∧ b < w'.heap.size)) l a c)) ∧ Below w.heap.size w w'
theorem anyRow_len : anyRow.length = 6 := rfl
theorem anys_flat (c : Nat) : (List.replicate c anyRow).flatten.length = c * 6 := by simp [List.length_flatten, anyRow_len]
theorem anys_snoc (c : Nat) : (List.replicate c anyRow).flatten ++ anyRow = (List.replicate (c + 1) anyRow).flatten := by
  rw [List.replicate_succ', List.flatten_append]; simp

set_option maxRecDepth 100000 in
set_option maxHeartbeats 4000000 in
theorem rrest_any (D : Nat → Prop) (hp : Pt) (ah : Option Addr) (ch : Nat) (p : Pt) (ps : List Pt) (n : Nat) (ao : Option Addr) (cap : Nat) (w : World) (hn : n = (p :: ps).length) (hD : ∀ b, D b → b < w.heap.size) (hpp : Proper p) (hv : SlD w D (p :: ps) ao cap) (hl : n ≤ 1048576) (hkl : p.kids.length ≤ 1048576) (hbl : (bare p).kids.length ≤ 1048576) (hc : hp.kids.length ≤ 1048576) :
    Calls Try.prog 27 #[.slice ao n cap, .agg (rowOf hp ah ch)] w (RestPost D (headOf hp) (p :: ps) w) := by
  obtain ⟨i26, hi, hz0, hz1, hz2⟩ := info_parts info26
  have HI := Lib.hid hi
  have HN := Lib.hid hn
  have HP := Lib.hid hpp
  have HV := Lib.hid hv
  have HD := Lib.hid hD
  have hn1 : 1 ≤ n := by rw [hn]; simp
  clear hi hn hpp hv hD
  obtain ⟨b, off, row, ha, hb, hrow, hpv⟩ := HV.out.2.get (k := 0) (by simp)
  have hb : b < w.heap.size := HD.out b hb
  obtain ⟨aq, cq, rfl, hkq⟩ := hpv.row
  have hkq : SlD w D p.kids aq cq := hkq
  have hix : ∀ w' : World, (Instr.indexAt 23 (.slice ao n cap) (.int .i64 0)).run Try.prog w' = .ok (.pointer (some ⟨b, off + 0 * 6, none⟩)) w' := fun w' => index_at Try.underlying23 size26 ha n cap 0 (by omega) w'
  obtain ⟨hlen, hhl⟩ : ∃ hlen, hlen = hp.kids.length := ⟨_, rfl⟩
  obtain ⟨W, hW⟩ : ∃ W, W = w.alloc (.cells (rowOf hp ah ch) 26) := ⟨_, rfl⟩
  have hBW : Below w.heap.size w W := by rw [hW]; exact balloc (Below.refl _ _) _
  have hb3 : PB W w.heap.size hp ah ch := by rw [hW]; exact heap_alloc_new w _
  have x0 : W.cell? ⟨b, off, none⟩ = some (.int .i64 p.k) := (hBW.cell (p := ⟨b, _, none⟩) hb).trans (hrow 0 (by omega))
  have x1 : W.cell? ⟨b, off + 1, none⟩ = some (.int .i64 p.n) := (hBW.cell (p := ⟨b, _, none⟩) hb).trans (hrow 1 (by omega))
  have x2 : W.cell? ⟨b, off + 2, none⟩ = some (.int .i64 p.o) := (hBW.cell (p := ⟨b, _, none⟩) hb).trans (hrow 2 (by omega))
  have x3 : W.cell? ⟨b, off + 3, none⟩ = some (.int .i64 p.a) := (hBW.cell (p := ⟨b, _, none⟩) hb).trans (hrow 3 (by omega))
  have x4 : W.cell? ⟨b, off + 4, none⟩ = some (.string p.s) := (hBW.cell (p := ⟨b, _, none⟩) hb).trans (hrow 4 (by omega))
  have x5 : W.cell? ⟨b, off + 5, none⟩ = some (.slice aq p.kids.length cq) := (hBW.cell (p := ⟨b, _, none⟩) hb).trans (hrow 5 (by omega))
  rw [show off + 0 * 6 = off from by omega] at hix
  have HW := Lib.hid hW
  have HBW := Lib.hid hBW
  have H3 := Lib.hid hb3
  have HKQ := Lib.hid hkq
  have HHL := Lib.hid hhl
  rw [← hhl] at hc
  have l3 := lt_of_block hb3
  clear hW hBW hb3 ha hrow hpv hkq hhl
  unfold rowOf
  rw [show hp.kids.length = hlen from HHL.out.symm]
  go_enter Try.func27, Try.ntmps27
  go_upto_region 1 with fail
  rw [show w.alloc (.cells #[.int .i64 hp.k, .int .i64 hp.n, .int .i64 hp.o, .int .i64 hp.a, .string hp.s, .slice ah hlen ch] 26) = W from by rw [HW.out, HHL.out]; rfl]
  go_wp2_with fail
  refine (rbare_any D p aq cq W (fun b hb => Nat.lt_of_lt_of_le (HD.out b hb) HBW.out.size) HP.out (HKQ.out.keep fun b hb => below_cells HBW.out b (HD.out b hb))).mono ?_
  rintro e w1 ⟨ab, cb, rfl, hsb, hb1⟩
  obtain ⟨q, hq⟩ : ∃ q, q = bare p := ⟨_, rfl⟩
  rw [← hq] at hsb ⊢
  rw [← hq] at hbl
  have HQ := Lib.hid hq
  obtain ⟨W2, hW2⟩ : ∃ W2, W2 = w1.alloc (.cells (rowOf q ab cb) 26) := ⟨_, rfl⟩
  have hB2 : Below W.heap.size W W2 := by rw [hW2]; exact balloc hb1 _
  have hb6 : PB W2 w1.heap.size q ab cb := by rw [hW2]; exact heap_alloc_new w1 _
  have hs2 : SlD W2 D q.kids ab cb := hsb.keep fun b hb => below_cells hB2 b (Nat.lt_of_lt_of_le (HD.out b hb) HBW.out.size)
  have h32 : PB W2 w.heap.size hp ah ch := blk_below H3.out hB2 l3
  have hv2 : SlD W2 D (p :: ps) ao cap := (HV.out.keep fun b hb => below_cells HBW.out b (HD.out b hb)).keep fun b hb => below_cells (hB2.mono HBW.out.size) b (HD.out b hb)
  have c0 : W2.cell? ⟨w1.heap.size, 0, none⟩ = some (.int .i64 q.k) := blk_cell hb6 0
  have l2 := lt_of_block hb6
  have l1 := lt_of_block h32
  have lW2 : W.heap.size ≤ W2.heap.size := hB2.size
  have HW2 := Lib.hid hW2
  have HB2 := Lib.hid (Below.trans HBW.out (hB2.mono HBW.out.size))
  have HS2 := Lib.hid hs2
  have HV2 := Lib.hid hv2
  have HPB := Lib.hid hb6
  have H32 := Lib.hid h32
  clear hsb hb1 hq hW2 hB2 hb6 hs2 h32 hv2 x0 x1 x2 x3 x4 x5 HV HBW H3 HKQ hix
  unfold rowOf
  go_upto_region 3 with fail
  rw [show (w1.alloc (.cells #[.int .i64 q.k, .int .i64 q.n, .int .i64 q.o, .int .i64 q.a, .string q.s, .slice ab q.kids.length cb] 26)) = W2 from HW2.out.symm]
  by_cases hk0 : q.k = 0
  · rw [hk0] at c0
    have HK0 := Lib.hid hk0
    clear hk0
    have lw2 : w.heap.size ≤ W2.heap.size := by omega
    have hn2 : n - 1 = ps.length := by rw [HN.out]; simp
    have HN2 := Lib.hid hn2
    clear hn2
    go_wp2_with fail
    go_loopw [7, 8] (fun v i wr => ∃ j : Nat, j ≤ hlen ∧ i = .int .i64 j ∧ wr.ownsRow W2.heap.size 26 6 v j (List.replicate j anyRow).flatten ∧ Below W2.heap.size W2 wr) (fun _ i _ => hlen - (intOf i).toNat)
    case atStart => exact ⟨0, Nat.zero_le _, rfl, World.ownsRow_nil _ _ _ _, Below.refl _ _⟩
    case round =>
      obtain ⟨j, hj, rfl, hown, hbr⟩ := hrel
      have HOWN := Lib.hid hown
      have HBR := Lib.hid hbr
      have hsr := hbr.size
      have y5 : wr.cell? ⟨w.heap.size, 5, none⟩ = some (.slice ah hlen ch) := by rw [HHL.out]; exact blk_cell (blk_below H32.out hbr l1) 5
      clear hown hbr
      by_cases hlt : j < hlen
      · have hd : decide ((j : Int) < (hlen : Int)) = true := by simp; omega
        go_wp2_with (first | (at_builtin; go_must (refine wpList_append2 rfl (.tmp 24) (.tmp 26) 23 23 rfl W2.heap.size 26 26 i26 _ 6 72 Try.underlying23 Try.underlying23 HI.out hz0 hz1 hz2 rfl (by decide) u7 j (List.replicate j anyRow).flatten rfl (HOWN.out.alloc _) (some ⟨wr.heap.size, 0, none⟩) 1 1 anyRow rfl rfl (fun _ => ⟨_, rfl, new_cells (c := rowOf anyP none 0) _ rfl⟩) (by simp [Value.oneCell', anyRow, rowOf]) (by unfold maxLen; omega) (by omega) (by simp; omega) ?_; intro v4 w4 hown4 hg4)))
        go_roundw
        case rel =>
          refine ⟨j + 1, hlt, by go_num, ?_, (HBR.out.alloc hsr _).grown hg4 (by simp; omega) (fun g e => (HOWN.out.lt g e).1)⟩
          rw [anys_snoc] at hown4
          exact hown4
        case measure => simp [intOf]; omega
      · have hd : decide ((j : Int) < (hlen : Int)) = false := by simp; omega
        have hje : j = hlen := by omega
        obtain ⟨rs, hrs, hsrc⟩ := tail_src (HV2.out.keep fun b hb => below_cells (HBR.out.mono lw2) b (HD.out b hb)) HN.out
        have HRS := Lib.hid hrs
        have HSRC := Lib.hid hsrc
        have HJE := Lib.hid hje
        clear hrs hsrc hje
        go_wp2_with (first | (at_builtin; go_must (refine wpList_append2 rfl (.tmp 28) (.tmp 30) 23 23 rfl W2.heap.size 26 26 i26 _ 6 72 Try.underlying23 Try.underlying23 HI.out hz0 hz1 hz2 rfl (by decide) u7 j (List.replicate j anyRow).flatten rfl HOWN.out _ (n - 1) (cap - 1) rs.flatten rfl (by rw [HN2.out]; exact HRS.out.flat.1) HSRC.out HRS.out.flat.2 (by unfold maxLen; omega) (by omega) (by omega) ?_; intro v4 w4 hown4 hg4)))
        all_goals
          refine bodyPost_ret (results_tmp2 Try.results27 _ _ _) rfl ?_
          have hB4 : Below W2.heap.size wr w4 := (Below.refl _ _).grown hg4 hsr (fun k hk => (HOWN.out.lt k hk).1)
          have hB24 := HBR.out.trans hB4
          obtain ⟨a4, c4, rfl⟩ := own_slice hown4
          have hgv : given (headOf hp) (p :: ps) = some (List.replicate hlen anyP ++ ps) := by simp only [given]; rw [← HQ.out, if_pos HK0.out, HHL.out]; rfl
          have hlen2 : (List.replicate hlen anyP ++ ps).length = j + (n - 1) := by rw [HN2.out, HJE.out]; simp
          unfold RestPost
          rw [hgv]
          refine ⟨⟨a4, _, c4, true, rfl, rfl, hlen2.symm, ?_⟩, HB2.out.trans (hB24.mono lw2)⟩
          refine slv_own hown4 (rs := List.replicate hlen anyRow ++ rs) (fun b h1 h2 => .inr ⟨by omega, h2⟩) ?_ ((any_rows _ _ _).append (RowsOf.mono (fun b hb => .inl hb) (RowsOf.keep (fun b hb => below_cells (hB4.mono lw2) b (HD.out b hb)) HRS.out))) hlen2
          rw [List.flatten_append, HJE.out]
  · have hd0 : (q.k == 0) = false := by simp [hk0]
    have HK0 := Lib.hid hk0
    have lw2 : w.heap.size ≤ W2.heap.size := by omega
    have c1 : W2.cell? ⟨w1.heap.size, 1, none⟩ = some (.int .i64 q.n) := blk_cell HPB.out 1
    have c2 : W2.cell? ⟨w1.heap.size, 2, none⟩ = some (.int .i64 q.o) := blk_cell HPB.out 2
    have c3 : W2.cell? ⟨w1.heap.size, 3, none⟩ = some (.int .i64 q.a) := blk_cell HPB.out 3
    have c4 : W2.cell? ⟨w1.heap.size, 4, none⟩ = some (.string q.s) := blk_cell HPB.out 4
    have c5 : W2.cell? ⟨w1.heap.size, 5, none⟩ = some (.slice ab q.kids.length cb) := blk_cell HPB.out 5
    have d0 : W2.cell? ⟨w.heap.size, 0, none⟩ = some (.int .i64 hp.k) := blk_cell H32.out 0
    have d1 : W2.cell? ⟨w.heap.size, 1, none⟩ = some (.int .i64 hp.n) := blk_cell H32.out 1
    have d2 : W2.cell? ⟨w.heap.size, 2, none⟩ = some (.int .i64 hp.o) := blk_cell H32.out 2
    have d3 : W2.cell? ⟨w.heap.size, 3, none⟩ = some (.int .i64 hp.a) := blk_cell H32.out 3
    have d4 : W2.cell? ⟨w.heap.size, 4, none⟩ = some (.string hp.s) := blk_cell H32.out 4
    have d5 : W2.cell? ⟨w.heap.size, 5, none⟩ = some (.slice ah hp.kids.length ch) := blk_cell H32.out 5
    rw [HHL.out] at hc
    clear hk0
    go_wp2_with fail
    refine (alike_any q hp ab ah cb ch W2 hbl hc).mono ?_
    rintro e w3 ⟨rfl, hcb⟩
    obtain ⟨bo, hbo⟩ : ∃ bo, bo = decide (headOf q = headOf hp) := ⟨_, rfl⟩
    rw [← hbo]
    have hs3 : SlD w3 D q.kids ab cb := HS2.out.keep fun b hb => below_cells (hcb.mono lw2) b (HD.out b hb)
    have hsz3 := hcb.size
    have c5 : w3.cell? ⟨w1.heap.size, 5, none⟩ = some (.slice ab q.kids.length cb) := blk_cell (blk_below HPB.out hcb l2) 5
    obtain ⟨rq, hrq, hcq⟩ := hs3.2.rows
    have hsrc1 : 0 < q.kids.length → ∃ ad, ab = some ad ∧ ∀ j u, rq.flatten[j]? = some u → w3.cell? (ad.add j) = some u := by
      intro hm
      obtain ⟨b', off', ha', _, hc'⟩ := hcq hm
      refine ⟨_, ha', fun j u hu => ?_⟩
      rw [Addr.add_lit]
      have := hc' j u hu
      rwa [Nat.zero_mul, Nat.add_zero] at this
    have hB3 : Below w.heap.size w w3 := HB2.out.trans (hcb.mono lw2)
    have hn2 : n - 1 = ps.length := by rw [HN.out]; simp
    obtain ⟨m, hm⟩ : ∃ m, m = q.kids.length := ⟨_, rfl⟩
    have lw3 : w.heap.size ≤ w3.heap.size := Nat.le_trans lw2 hsz3
    have hfl := hrq.flat
    rw [← hm] at c5 hbl hsrc1 hfl
    have HBO := Lib.hid hbo
    have HRQ := Lib.hid hrq
    have HSRC1 := Lib.hid hsrc1
    have HFL := Lib.hid hfl
    have HB3 := Lib.hid hB3
    have HN2 := Lib.hid hn2
    have HV3 := Lib.hid (HV2.out.keep fun b hb => below_cells (hcb.mono lw2) b (HD.out b hb))
    have HM := Lib.hid hm
    clear hbo hs3 hrq hcq hsrc1 hfl hB3 hn2 hm hcb c0 c1 c2 c3 c4 d0 d1 d2 d3 d4 d5
    go_upto_region 11 with (first
      | (at_builtin; go_must (refine wpList_append2 rfl (.tmp 35) (.tmp 37) 23 23 rfl w3.heap.size 26 26 i26 _ 6 72 Try.underlying23 Try.underlying23 HI.out hz0 hz1 hz2 rfl (by decide) (.slice none 0 0) 0 [] rfl (World.ownsRow_nil _ _ _ _) ab m cb rq.flatten rfl HFL.out.1 HSRC1.out HFL.out.2 (by unfold maxLen; omega) (by omega) (by omega) ?_; intro v4 w4 hown4 hg4; have hs4 := hg4.size; have hB4 : Below w3.heap.size w3 w4 := (Below.refl _ _).grown hg4 (by omega) (fun k hk => by simp [Value.ownBlock] at hk); obtain ⟨rs, hrs, hsrc⟩ := tail_src (HV3.out.keep fun b hb => below_cells (hB4.mono lw3) b (HD.out b hb)) HN.out; have HRS := Lib.hid hrs; have HSRC := Lib.hid hsrc; have HOWN4 := Lib.hid hown4; have HB4 := Lib.hid hB4; clear hown4 hg4 hB4 hrs hsrc)))
    go_wp2_with (first
      | (at_builtin; go_must (refine wpList_append2 rfl (.tmp 39) (.tmp 41) 23 23 rfl w3.heap.size 26 26 i26 _ 6 72 Try.underlying23 Try.underlying23 HI.out hz0 hz1 hz2 rfl (by decide) v4 (0 + m) _ rfl HOWN4.out _ (n - 1) (cap - 1) rs.flatten rfl (by rw [HN2.out]; exact HRS.out.flat.1) HSRC.out HRS.out.flat.2 (by unfold maxLen; omega) (by omega) (by omega) ?_; intro v5 w5 hown5 hg5)))
    all_goals
      refine bodyPost_ret (results_tmp2 Try.results27 _ _ _) rfl ?_
      have hB5 : Below w3.heap.size w4 w5 := (Below.refl _ _).grown hg5 hs4 (fun k hk => (HOWN4.out.lt k hk).1)
      have hB35 := HB4.out.trans hB5
      obtain ⟨a5, c5', rfl⟩ := own_slice hown5
      refine ⟨⟨a5, _, c5', bo, rfl, ?_⟩, HB3.out.trans (hB35.mono lw3)⟩
      by_cases he : headOf q = headOf hp
      · have hgv : given (headOf hp) (p :: ps) = some (q.kids ++ ps) := by simp only [given]; rw [← HQ.out, if_neg HK0.out, if_pos he]
        have hlen : (q.kids ++ ps).length = 0 + m + (n - 1) := by rw [HN2.out, HM.out]; simp
        have hrows := RowsOf.append (D := fun b => D b ∨ (w.heap.size ≤ b ∧ b < w5.heap.size)) (RowsOf.mono (fun b hb => .inl hb) (RowsOf.keep (fun b hb => below_cells (hB35.mono lw3) b (HD.out b hb)) HRQ.out)) (RowsOf.mono (fun b hb => .inl hb) (RowsOf.keep (fun b hb => below_cells (hB5.mono lw3) b (HD.out b hb)) HRS.out))
        rw [hgv]
        refine ⟨by rw [HBO.out]; simp [he], hlen.symm, slv_own hown5 (rs := rq ++ rs) (fun b h1 h2 => .inr ⟨Nat.le_trans lw3 h1, h2⟩) ?_ hrows hlen⟩
        rw [List.flatten_append]; rfl
      · have hgv : given (headOf hp) (p :: ps) = none := by simp only [given]; rw [← HQ.out, if_neg HK0.out, if_neg he]
        rw [hgv]
        show bo = false
        rw [HBO.out]
        simp [he]
end Go.Proofs.Ytcieoelogocjkaa
