/-
  Proved: the contract of the program's given (of one row). Condition: lengths of at most 1048576.
-/
import Derived.Test.YtcieoelogocjkaaR
import Derived.Deep.DeepCutAuto
import Derived.Deep.CutBlock
import Derived.Deep.RegionHeld3
set_option linter.unusedSimpArgs false
set_option linter.unusedVariables false
namespace Go.Proofs.Ytcieoelogocjkaa
open Go.RowKit

theorem info26 : (Try.prog.info? 26).map (fun i => (i.zero, i.size, i.bytes)) = some (some (.agg #[.int .i64 0, .int .i64 0, .int .i64 0, .int .i64 0, .string ⟨#[]⟩, .slice none 0 0]), 6, 72) := by kernel_rfl
theorem tail_src {w : World} {D : Nat → Prop} {p : Pt} {ps : List Pt} {ao : Option Addr} {cap n : Nat} (h : SlD w D (p :: ps) ao cap) (hn : n = (p :: ps).length) :
    ∃ rs, RowsOf w D ps rs ∧ (0 < n - 1 → ∃ ad, (if cap = 1 then ao else Option.map (fun x : Addr => ⟨x.block, x.off + 6, none⟩) ao) = some ad ∧ ∀ j u, rs.flatten[j]? = some u → w.cell? (ad.add j) = some u) := by
  obtain ⟨b, off, ha, hb, hk⟩ := SlD.tail h
  obtain ⟨rs, hr, hc⟩ := hk.rows
  refine ⟨rs, hr, fun hm => ?_⟩
  have h1 := h.1
  rw [← hn] at h1
  have hps : 0 < ps.length := by rw [hn] at hm; simpa using hm
  obtain ⟨b', off', ha', hb', hcell⟩ := hc hps
  cases ha'
  refine ⟨⟨b, off + 6, none⟩, by rw [if_neg (by omega), ha]; rfl, fun j u hu => ?_⟩
  rw [Addr.add_lit]
  have := hcell j u hu
  rw [show off + 6 + 0 * 6 + j = off + 6 + j from by omega] at this
  exact this
theorem own_slice {w : World} {B : Nat} {v : Value} {n e size : Nat} {xs : List Value} (h : w.ownsRow B e size v n xs) : ∃ ao cap, v = .slice ao n cap := by
  rcases h.2 with ⟨rfl, rfl⟩ | ⟨g, cap, cur, rfl, _⟩
  · exact ⟨none, 0, rfl⟩
  · exact ⟨_, _, rfl⟩
theorem str_list (s t : ByteArray) : (s.toList = t.toList) = (s = t) := by
  apply propext
  rw [ByteArray.toList_eq, ByteArray.toList_eq]
  constructor
  · intro h
    exact ByteArray.ext (Array.toList_inj.mp h)
  · rintro rfl; rfl
/-- '!=' of two heads -/
theorem neq_hd (a b : Hd) (w : World) : (binOp .neq 51 (.agg (hdRow a)) (.agg (hdRow b))).run Try.prog w = .ok (.bool (!(decide (a = b)))) w := by
  cases a with | mk k n c s =>
  cases b with | mk k' n' c' s' =>
  rw [run_neq_struct]
  unfold hdRow
  simp only
  simp [go_sem]
  simp only [str_list]
  have hc : ((c : Int) = c') = (c = c') := by apply propext; omega
  simp only [hc]
  by_cases h1 : k = k' <;> by_cases h2 : n = n' <;> by_cases h3 : c = c' <;> by_cases h4 : s = s' <;> simp [h1, h2, h3, h4]
/-- what the test reads -/
abbrev SG (b6 b3 : Nat) (q : Pt) (ab : Option Addr) (cb : Nat) (h : Hd) (w : World) : Prop :=
  ((w.cell? ⟨b6, 0, none⟩ = some (.int .i64 q.k) ∧ w.cell? ⟨b6, 1, none⟩ = some (.int .i64 q.n) ∧ w.cell? ⟨b6, 2, none⟩ = some (.int .i64 q.o)) ∧ (w.cell? ⟨b6, 3, none⟩ = some (.int .i64 q.a) ∧ w.cell? ⟨b6, 4, none⟩ = some (.string q.s) ∧ w.cell? ⟨b6, 5, none⟩ = some (.slice ab q.kids.length cb))) ∧
  ((w.cell? ⟨b3, 0, none⟩ = some (.int .i64 h.k) ∧ w.cell? ⟨b3, 1, none⟩ = some (.int .i64 h.n)) ∧ (w.cell? ⟨b3, 2, none⟩ = some (.int .i64 h.c) ∧ w.cell? ⟨b3, 3, none⟩ = some (.string h.s)))
theorem SG.of {b6 b3 : Nat} {q : Pt} {ab : Option Addr} {cb : Nat} {h : Hd} {w : World} (h6 : PB w b6 q ab cb) (h3 : HB w b3 h) : SG b6 b3 q ab cb h w :=
  ⟨⟨⟨blk_cell h6 0, blk_cell h6 1, blk_cell h6 2⟩, ⟨blk_cell h6 3, blk_cell h6 4, blk_cell h6 5⟩⟩, ⟨⟨blk_cell h3 0, blk_cell h3 1⟩, ⟨blk_cell h3 2, blk_cell h3 3⟩⟩⟩
theorem SG.drew {b6 b3 : Nat} {q : Pt} {ab : Option Addr} {cb : Nat} {h : Hd} {w : World} (hs : SG b6 b3 q ab cb h w) : SG b6 b3 q ab cb h w.drew := hs
theorem SG.below {b6 b3 : Nat} {q : Pt} {ab : Option Addr} {cb : Nat} {h : Hd} {w w' : World} (hs : SG b6 b3 q ab cb h w) (hb : Below w.heap.size w w') (h6 : b6 < w.heap.size) (h3 : b3 < w.heap.size) : SG b6 b3 q ab cb h w' := by
  have e6 : ∀ o, w'.cell? ⟨b6, o, none⟩ = w.cell? ⟨b6, o, none⟩ := fun o => hb.cell (p := ⟨b6, o, none⟩) h6
  have e3 : ∀ o, w'.cell? ⟨b3, o, none⟩ = w.cell? ⟨b3, o, none⟩ := fun o => hb.cell (p := ⟨b3, o, none⟩) h3
  unfold SG
  simp only [e6, e3]
  exact hs
/-- what given leaves -/
def GivenPost (D : Nat → Prop) (h : Hd) (r : List Pt) (w : World) (e : Ending) (w' : World) : Prop :=
  (match given h r with
   | none => e = .returned (.tuple #[.slice none 0 0, .bool false])
   | some l => ∃ a c, e = .returned (.tuple #[.slice a l.length c, .bool true]) ∧ SlD w' (fun b => D b ∨ (w.heap.size ≤ b ∧ b < w'.heap.size)) l a c) ∧ Below w.heap.size w w'

set_option maxRecDepth 100000 in
set_option maxHeartbeats 4000000 in
theorem pgiven_any (D : Nat → Prop) (h : Hd) (p : Pt) (ps : List Pt) (n : Nat) (ao : Option Addr) (cap : Nat) (w : World) (hn : n = (p :: ps).length) (hD : ∀ b, D b → b < w.heap.size) (hp : Proper p) (hv : SlD w D (p :: ps) ao cap) (hl : n ≤ 1048576) (hkl : p.kids.length ≤ 1048576) (hbl : (bare p).kids.length ≤ 1048576) (hc : h.c ≤ 1048576) :
    Calls Try.prog 22 #[.slice ao n cap, .agg (hdRow h)] w (GivenPost D h (p :: ps) w) := by
  obtain ⟨hk, hn', hcn, hss⟩ := h
  simp only at hc
  obtain ⟨i26, hi, hz0, hz1, hz2⟩ := info_parts info26
  have HI := Lib.hid hi
  have HN := Lib.hid hn
  have HP := Lib.hid hp
  have HV := Lib.hid hv
  have HD := Lib.hid hD
  have hn1 : 1 ≤ n := by rw [hn]; simp
  clear hi hn hp hv hD
  obtain ⟨b, off, row, ha, hb, hrow, hpv⟩ := HV.out.2.get (k := 0) (by simp)
  have hb : b < w.heap.size := HD.out b hb
  obtain ⟨aq, cq, rfl, hkq⟩ := hpv.row
  have hkq : SlD w D p.kids aq cq := hkq
  have hix : ∀ w' : World, (Instr.indexAt 46 (.slice ao n cap) (.int .i64 0)).run Try.prog w' = .ok (.pointer (some ⟨b, off + 0 * 6, none⟩)) w' := fun w' => index_at Try.underlying46 size26 ha n cap 0 (by omega) w'
  unfold hdRow
  simp only
  obtain ⟨W, hW⟩ : ∃ W, W = w.alloc (.cells #[.int .i64 hk, .int .i64 hn', .int .i64 hcn, .string hss] 51) := ⟨_, rfl⟩
  have hBW : Below w.heap.size w W := by rw [hW]; exact balloc (Below.refl _ _) _
  have h51 : HB W w.heap.size ⟨hk, hn', hcn, hss⟩ := by rw [hW]; exact heap_alloc_new w _
  have x0 : W.cell? ⟨b, off, none⟩ = some (.int .i64 p.k) := (hBW.cell (p := ⟨b, _, none⟩) hb).trans (hrow 0 (by omega))
  have x1 : W.cell? ⟨b, off + 1, none⟩ = some (.int .i64 p.n) := (hBW.cell (p := ⟨b, _, none⟩) hb).trans (hrow 1 (by omega))
  have x2 : W.cell? ⟨b, off + 2, none⟩ = some (.int .i64 p.o) := (hBW.cell (p := ⟨b, _, none⟩) hb).trans (hrow 2 (by omega))
  have x3 : W.cell? ⟨b, off + 3, none⟩ = some (.int .i64 p.a) := (hBW.cell (p := ⟨b, _, none⟩) hb).trans (hrow 3 (by omega))
  have x4 : W.cell? ⟨b, off + 4, none⟩ = some (.string p.s) := (hBW.cell (p := ⟨b, _, none⟩) hb).trans (hrow 4 (by omega))
  have x5 : W.cell? ⟨b, off + 5, none⟩ = some (.slice aq p.kids.length cq) := (hBW.cell (p := ⟨b, _, none⟩) hb).trans (hrow 5 (by omega))
  rw [show off + 0 * 6 = off from by omega] at hix
  have HW := Lib.hid hW
  have HBW := Lib.hid hBW
  have H51 := Lib.hid h51
  have HKQ := Lib.hid hkq
  clear hW hBW h51 ha hrow hpv hkq
  go_enter Try.func22, Try.ntmps22
  go_upto_region 1 with fail
  rw [← HW.out]
  go_wp2_with fail
  refine (pbare_any D p aq cq W (fun b hb => Nat.lt_of_lt_of_le (HD.out b hb) HBW.out.size) HP.out (HKQ.out.keep fun b hb => below_cells HBW.out b (HD.out b hb))).mono ?_
  rintro e w1 ⟨ab, cb, rfl, hsb, hb1⟩
  obtain ⟨q, hq⟩ : ∃ q, q = bare p := ⟨_, rfl⟩
  rw [← hq] at hsb ⊢
  rw [← hq] at hbl
  have HQ := Lib.hid hq
  obtain ⟨W2, hW2⟩ : ∃ W2, W2 = w1.alloc (.cells (rowOf q ab cb) 26) := ⟨_, rfl⟩
  have hB2 : Below W.heap.size W W2 := by rw [hW2]; exact balloc hb1 _
  have hb6 : PB W2 w1.heap.size q ab cb := by rw [hW2]; exact heap_alloc_new w1 _
  have hs2 : SlD W2 D q.kids ab cb := hsb.keep fun b hb => below_cells hB2 b (Nat.lt_of_lt_of_le (HD.out b hb) HBW.out.size)
  have h52 : HB W2 w.heap.size ⟨hk, hn', hcn, hss⟩ := blk_below H51.out hB2 (lt_of_block H51.out)
  have hv2 : SlD W2 D (p :: ps) ao cap := (HV.out.keep fun b hb => below_cells HBW.out b (HD.out b hb)).keep fun b hb => below_cells (hB2.mono HBW.out.size) b (HD.out b hb)
  have c0 : W2.cell? ⟨w1.heap.size, 0, none⟩ = some (.int .i64 q.k) := blk_cell hb6 0
  have c1 : W2.cell? ⟨w1.heap.size, 1, none⟩ = some (.int .i64 q.n) := blk_cell hb6 1
  have c2 : W2.cell? ⟨w1.heap.size, 2, none⟩ = some (.int .i64 q.o) := blk_cell hb6 2
  have c3 : W2.cell? ⟨w1.heap.size, 3, none⟩ = some (.int .i64 q.a) := blk_cell hb6 3
  have c4 : W2.cell? ⟨w1.heap.size, 4, none⟩ = some (.string q.s) := blk_cell hb6 4
  have c5 : W2.cell? ⟨w1.heap.size, 5, none⟩ = some (.slice ab q.kids.length cb) := blk_cell hb6 5
  have d0 : W2.cell? ⟨w.heap.size, 0, none⟩ = some (.int .i64 hk) := blk_cell h52 0
  have d1 : W2.cell? ⟨w.heap.size, 1, none⟩ = some (.int .i64 hn') := blk_cell h52 1
  have d2 : W2.cell? ⟨w.heap.size, 2, none⟩ = some (.int .i64 hcn) := blk_cell h52 2
  have d3 : W2.cell? ⟨w.heap.size, 3, none⟩ = some (.string hss) := blk_cell h52 3
  have l2 := lt_of_block hb6
  have l1 := lt_of_block h52
  have lW2 : W.heap.size ≤ W2.heap.size := hB2.size
  have HW2 := Lib.hid hW2
  have HB2 := Lib.hid (Below.trans HBW.out (hB2.mono HBW.out.size))
  have HS2 := Lib.hid hs2
  have HV2 := Lib.hid hv2
  have HPB := Lib.hid hb6
  have H52 := Lib.hid h52
  clear hsb hb1 hq hW2 hB2 hb6 hs2 h52 hv2 x0 x1 x2 x3 x4 x5 HV HBW H51 HKQ hix
  unfold rowOf
  go_upto_region 4 with fail
  rw [show (w1.alloc (.cells #[.int .i64 q.k, .int .i64 q.n, .int .i64 q.o, .int .i64 q.a, .string q.s, .slice ab q.kids.length cb] 26)) = W2 from HW2.out.symm]
  by_cases hk0 : q.k = 0
  · rw [hk0] at c0
    have HK0 := Lib.hid hk0
    clear hk0
    have lw2 : w.heap.size ≤ W2.heap.size := by omega
    have hn2 : n - 1 = ps.length := by rw [HN.out]; simp
    have HN2 := Lib.hid hn2
    clear hn2
    go_wp2_with (first | (refine wpList_make2 _ rfl (.tmp 21) (.tmp 27) 46 rfl w.heap.size 26 i26 _ 6 Try.underlying46 HI.out hz0 hz1 .i64 .i64 _ _ hcn (hcn + n - 1) rfl rfl rfl (by omega) (by omega) (by rw [hz2]; omega) (by unfold maxLen; omega) (by omega) ?_; intro w3 hown3 hg3; have hB3 : Below w.heap.size W2 w3 := (Below.refl _ _).grown hg3 (by omega) (fun k hk => by cases hk); obtain ⟨rs, hrs, hsrc⟩ := tail_src (HV2.out.keep fun b hb => below_cells hB3 b (HD.out b hb)) HN.out; have hxs := made_any hcn (hcn + n - 1) (by omega); have HRS := Lib.hid hrs; have HSRC := Lib.hid hsrc; have HOWN3 := Lib.hid hown3; have HB3 := Lib.hid hB3; have HXS := Lib.hid hxs; have hs3 := hg3.size; clear hown3 hg3 hB3 hrs hsrc hxs) | (at_builtin; go_must (refine wpList_append2 rfl (.tmp 34) (.tmp 36) 46 46 rfl w.heap.size 26 26 i26 _ 6 72 Try.underlying46 Try.underlying46 HI.out hz0 hz1 hz2 rfl (by decide) (.slice (some ⟨W2.heap.size, 0, none⟩) hcn (hcn + n - 1)) hcn _ rfl HOWN3.out _ (n - 1) (cap - 1) rs.flatten rfl (by rw [HN2.out]; exact HRS.out.flat.1) HSRC.out HRS.out.flat.2 (by unfold maxLen; omega) (by omega) (by omega) ?_; intro v4 w4 hown4 hg4)))
    all_goals
      refine bodyPost_ret (results_tmp2 Try.results22 _ _ _) rfl ?_
      have hB4 : Below w.heap.size w3 w4 := (Below.refl _ _).grown hg4 (by omega) (fun k hk => by simp [Value.ownBlock] at hk; omega)
      have hB := (HB2.out.trans HB3.out).trans hB4
      obtain ⟨a4, c4, rfl⟩ := own_slice hown4
      have hgv : given ⟨hk, hn', hcn, hss⟩ (p :: ps) = some (List.replicate hcn anyP ++ ps) := by simp only [given]; rw [← HQ.out, if_pos HK0.out]
      have hlen : (List.replicate hcn anyP ++ ps).length = hcn + (n - 1) := by rw [HN2.out]; simp
      unfold GivenPost
      rw [hgv]
      simp only
      rw [hlen]
      refine ⟨⟨a4, c4, rfl, slv_own hown4 (rs := List.replicate hcn anyRow ++ rs) (fun b h1 h2 => .inr ⟨h1, h2⟩) ?_ ((any_rows _ _ _).append (RowsOf.mono (fun b hb => .inl hb) (RowsOf.keep (fun b hb => below_cells hB4 b (HD.out b hb)) HRS.out))) hlen⟩, hB⟩
      rw [List.flatten_append, ← HXS.out]; rfl
  · have hd0 : (q.k == 0) = false := by simp [hk0]
    have hS : SG w1.heap.size w.heap.size q ab cb ⟨hk, hn', hcn, hss⟩ W2 := SG.of HPB.out H52.out
    have lw2 : w.heap.size ≤ W2.heap.size := by omega
    go_upto_region 6 with fail
    go_cut [29] from 30 to 33 (fun o wx => o = .bool (!(decide (headOf q = ⟨hk, hn', hcn, hss⟩))) ∧ Below W2.heap.size W2 wx)
    case first =>
      have HK0 := Lib.hid hk0
      clear c0 c1 c2 c3 c4 c5 d0 d1 d2 d3 hk0 hd0
      obtain ⟨qh, hqh⟩ : ∃ qh, qh = headOf q := ⟨_, rfl⟩
      have HQH := Lib.hid hqh
      clear hqh
      have hz : ∀ w' : World, (binOp .neq 51 (.agg (hdRow qh)) (.agg #[.int .i64 hk, .int .i64 hn', .int .i64 hcn, .string hss])).run Try.prog w' = .ok (.bool (!(decide (qh = ⟨hk, hn', hcn, hss⟩)))) w' := fun w' => neq_hd qh ⟨hk, hn', hcn, hss⟩ w'
      go_region_held3 (fun w' => SG w1.heap.size w.heap.size q ab cb ⟨hk, hn', hcn, hss⟩ w')
        (repeat (first | exact hS | exact hS5 | apply SG.drew))
        (first | (go_at_call 23; refine (phead_any q ab cb _ hbl).mono ?_; rintro e w5 ⟨rfl, hb5⟩; rw [← HQH.out]; have hS5 := (SG.drew hS).below hb5 l2 l1))
      go_wp2_with fail
      go_meet
      exact ⟨by rw [HQH.out], (Below.refl _ _).drew.trans hb5⟩
    case rest =>
      obtain ⟨rfl, hcb⟩ := hcut
      obtain ⟨W3, hW3⟩ : ∃ W3 : World, W3 = wc := ⟨_, rfl⟩
      subst hW3
      have HK0 := Lib.hid hk0
      clear c0 c1 c2 c3 c4 c5 d0 d1 d2 d3 hk0 hd0 hS
      have hB3 : Below w.heap.size w W3 := HB2.out.trans (hcb.mono lw2)
      have hpb3 : PB W3 w1.heap.size q ab cb := blk_below HPB.out hcb l2
      have hs3 : SlD W3 D q.kids ab cb := HS2.out.keep fun b hb => below_cells (hcb.mono lw2) b (HD.out b hb)
      have hsz3 := hcb.size
      by_cases he : headOf q = ⟨hk, hn', hcn, hss⟩
      · have hd : decide (headOf q = ⟨hk, hn', hcn, hss⟩) = true := by simp [he]
        have hgv : given ⟨hk, hn', hcn, hss⟩ (p :: ps) = some (q.kids ++ ps) := by simp only [given]; rw [← HQ.out, if_neg HK0.out, if_pos he]
        rw [hd]
        have HGV := Lib.hid hgv
        have c5 : W3.cell? ⟨w1.heap.size, 5, none⟩ = some (.slice ab q.kids.length cb) := blk_cell hpb3 5
        obtain ⟨rq, hrq, hcq⟩ := hs3.2.rows
        have hsrc1 : 0 < q.kids.length → ∃ ad, ab = some ad ∧ ∀ j u, rq.flatten[j]? = some u → W3.cell? (ad.add j) = some u := by
          intro hm
          obtain ⟨b', off', ha', _, hc'⟩ := hcq hm
          refine ⟨_, ha', fun j u hu => ?_⟩
          rw [Addr.add_lit]
          have := hc' j u hu
          rwa [Nat.zero_mul, Nat.add_zero] at this
        have HRQ := Lib.hid hrq
        have HSRC1 := Lib.hid hsrc1
        have HB3 := Lib.hid hB3
        have hn2 : n - 1 = ps.length := by rw [HN.out]; simp
        have HN2 := Lib.hid hn2
        have HV3 := Lib.hid (HV2.out.keep fun b hb => below_cells (hcb.mono lw2) b (HD.out b hb))
        obtain ⟨m, hm⟩ : ∃ m, m = q.kids.length := ⟨_, rfl⟩
        have HM := Lib.hid hm
        have lw3 : w.heap.size ≤ W3.heap.size := Nat.le_trans lw2 hsz3
        rw [← hm] at c5 hbl hsrc1
        clear hgv he hd hn2 hrq hcq hs3 hpb3 hB3 hcb hm hsrc1
        have hHSRC1 := HSRC1.out
        rw [← HM.out] at hHSRC1
        have HSRC2 := Lib.hid hHSRC1
        have hfl := HRQ.out.flat
        rw [← HM.out] at hfl
        have HFL := Lib.hid hfl
        clear hHSRC1 HSRC1 hfl
        go_upto_region 8 with (first
          | (at_builtin; go_must (refine wpList_append2 rfl (.tmp 12) (.tmp 14) 46 23 rfl W3.heap.size 26 26 i26 _ 6 72 Try.underlying46 Try.underlying23 HI.out hz0 hz1 hz2 rfl (by decide) (.slice none 0 0) 0 [] rfl (World.ownsRow_nil _ _ _ _) ab m cb rq.flatten rfl HFL.out.1 HSRC2.out HFL.out.2 (by unfold maxLen; omega) (by omega) (by omega) ?_; intro v4 w4 hown4 hg4; have hs4 := hg4.size; have hB4 : Below W3.heap.size W3 w4 := (Below.refl _ _).grown hg4 (by omega) (fun k hk => by simp [Value.ownBlock] at hk); obtain ⟨rs, hrs, hsrc⟩ := tail_src (HV3.out.keep fun b hb => below_cells (hB4.mono lw3) b (HD.out b hb)) HN.out; have HRS := Lib.hid hrs; have HSRC := Lib.hid hsrc; have HOWN4 := Lib.hid hown4; have HB4 := Lib.hid hB4; clear hown4 hg4 hB4 hrs hsrc)))
        go_wp2_with (first
          | (at_builtin; go_must (refine wpList_append2 rfl (.tmp 34) (.tmp 36) 46 46 rfl W3.heap.size 26 26 i26 _ 6 72 Try.underlying46 Try.underlying46 HI.out hz0 hz1 hz2 rfl (by decide) v4 (0 + m) _ rfl HOWN4.out _ (n - 1) (cap - 1) rs.flatten rfl (by rw [HN2.out]; exact HRS.out.flat.1) HSRC.out HRS.out.flat.2 (by unfold maxLen; omega) (by omega) (by omega) ?_; intro v5 w5 hown5 hg5)))
        all_goals
          refine bodyPost_ret (results_tmp2 Try.results22 _ _ _) rfl ?_
          have hB5 : Below W3.heap.size w4 w5 := (Below.refl _ _).grown hg5 hs4 (fun k hk => (HOWN4.out.lt k hk).1)
          have hB35 := HB4.out.trans hB5
          obtain ⟨a5, c5', rfl⟩ := own_slice hown5
          have hlen : (q.kids ++ ps).length = 0 + m + (n - 1) := by rw [HN2.out, HM.out]; simp
          have hrows := RowsOf.append (D := fun b => D b ∨ (w.heap.size ≤ b ∧ b < w5.heap.size)) (RowsOf.mono (fun b hb => .inl hb) (RowsOf.keep (fun b hb => below_cells (hB35.mono lw3) b (HD.out b hb)) HRQ.out)) (RowsOf.mono (fun b hb => .inl hb) (RowsOf.keep (fun b hb => below_cells (hB5.mono lw3) b (HD.out b hb)) HRS.out))
          unfold GivenPost
          rw [HGV.out]
          simp only
          rw [hlen]
          refine ⟨⟨a5, c5', rfl, slv_own hown5 (rs := rq ++ rs) (fun b h1 h2 => .inr ⟨Nat.le_trans lw3 h1, h2⟩) ?_ hrows hlen⟩, HB3.out.trans (hB35.mono lw3)⟩
          rw [List.flatten_append]; rfl
      · have hd : decide (headOf q = ⟨hk, hn', hcn, hss⟩) = false := by simp [he]
        have hgv : given ⟨hk, hn', hcn, hss⟩ (p :: ps) = none := by simp only [given]; rw [← HQ.out, if_neg HK0.out, if_neg he]
        rw [hd]
        have HGV := Lib.hid hgv
        clear hgv he hd
        go_wp2_with fail
        refine bodyPost_ret (results_tmp2 Try.results22 _ _ _) rfl ?_
        unfold GivenPost
        rw [HGV.out]
        exact ⟨rfl, hB3⟩
end Go.Proofs.Ytcieoelogocjkaa
