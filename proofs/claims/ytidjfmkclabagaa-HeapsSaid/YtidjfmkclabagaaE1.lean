/-
  Proved: the contract of the law's make. Condition: rows of at most 3·10^12 cells.
-/
import Derived.Test.YtidjfmkclabagaaD9
set_option linter.unusedSimpArgs false
set_option linter.unusedVariables false
namespace Go.Proofs.Ytidjfmkclabagaa
open Go.RowKit

theorem placed_keeps {B : Nat} {ρ : Nat → Nat → Prop} {w wx : World} {wb : Nat} {g : Hp} {r : Rf} {pv qv : Value} {p q : List C} (h : St B ρ w wb g r pv qv p q) {pb psz n : Nat} {G : Hp} {D : Nat → Prop}
    (hown : 0 < p.length → pv.ownBlock = some pb) (h0 : p.length = 0 → pb = w.heap.size) (hP : Placed g p D pb psz n w wx G) : Keeps (PS g pv) w wx ∧ ((G.ub = g.ub ∧ G.sb = g.sb) ∨ (G.ub = g.sb ∧ G.sb = g.ub)) := by
  constructor
  · have hk := hP.keep
    refine ⟨hk.os, hk.tape, hk.output, hk.size, fun b hb hnb => hk.block b hb ?_⟩
    rintro (e | e | e | e)
    · exact hnb (.inl e)
    · exact hnb (.inr (.inl e))
    · exact hnb (.inr (.inr (.inl e)))
    · by_cases hp0 : p.length = 0
      · have := h0 hp0; omega
      · exact hnb (.inr (.inr (.inr (by rw [e]; exact hown (by omega)))))
  · rcases hP.way with ⟨_, rfl, _⟩ | ⟨_, A, od, nw, _, rfl, _⟩
    · exact .inl ⟨rfl, rfl⟩
    · exact .inr ⟨rfl, rfl⟩
/-- between both calls -/
theorem mid {B : Nat} {ρ : Nat → Nat → Prop} {w w2 : World} {wb : Nat} {g : Hp} {r : Rf} {pv qv : Value} {p q : List C} (h : St B ρ w wb g r pv qv p q) {pb psz : Nat} {D : Nat → Prop}
    (hown : 0 < p.length → pv.ownBlock = some pb) (h0 : p.length = 0 → pb = w.heap.size) {k t n : Int} {e1 : Ending} (hM : MakeAt g p D pb psz k t n w e1 w2) : Keeps (PS g pv) w w2 ∧ ∃ a c : Int, e1 = .returned (.tuple #[.int .i64 a, .int .i64 c]) := by
  cases hM with
  | bad hb he hw => subst hw; exact ⟨Keeps.refl _ _, _, _, he⟩
  | full n' wx G hb hn hP hno he hbx => exact ⟨(placed_keeps h hown h0 hP).1.trans (Keeps.of_below hbx), _, _, he⟩
  | made n' wx G hb hn hP hyes he hat hkm =>
    obtain ⟨hk, hub⟩ := placed_keeps h hown h0 hP
    refine ⟨hk.trans (hkm.mono fun b e => ?_), _, _, he⟩
    rcases e with e | e
    · exact .inr (.inr (.inl (by rw [e, hP.hb])))
    · rcases hub with ⟨e1, e2⟩ | ⟨e1, e2⟩
      · exact .inl (by rw [e, e1])
      · exact .inr (.inl (by rw [e, e1]))
theorem rmake_form {r : Rf} {q : List C} {k t n : Int} {w : World} {e : Ending} {w' : World} (h : RMake r q k t n w e w') : ∃ a c : Int, e = .returned (.tuple #[.int .i64 a, .int .i64 c]) := by
  cases h with
  | bad _ he _ => exact ⟨_, _, he⟩
  | full _ _ _ _ _ _ _ _ he => exact ⟨_, _, he⟩
  | made _ _ _ _ _ _ _ _ _ he => exact ⟨_, _, he⟩
theorem rmake_keeps {r : Rf} {q : List C} {k t n : Int} {w : World} {e : Ending} {w' : World} (h : RMake r q k t n w e w') : Keeps (fun b => b = r.rb) w w' := by
  cases h with
  | bad _ _ hw => subst hw; exact Keeps.refl _ _
  | full _ _ _ _ _ _ _ _ _ _ _ hk => exact hk
  | made _ _ _ _ _ _ _ _ _ _ _ _ _ hk => exact hk
theorem tup2 {a b c d : Int} (h : Ending.returned (.tuple #[.int .i64 a, .int .i64 b]) = Ending.returned (.tuple #[.int .i64 c, .int .i64 d])) : a = c ∧ b = d := by simpa using h
/-- a slice of numbers that lies below B -/
structure IntsAt (B : Nat) (w : World) (v : Value) (l : List Int) : Prop where
  v : ∃ ao cap, v = .slice ao l.length cap ∧ ∀ i (h : i < l.length), ∃ bk off, ao = some ⟨bk, off, none⟩ ∧ bk < B ∧ w.cell? ⟨bk, off + i, none⟩ = some (.int .i64 l[i])
  num : ∀ x ∈ l, I64 x
theorem IntsAt.below {B : Nat} {w w' : World} {v : Value} {l : List Int} (h : IntsAt B w v l) (hb : Below B w w') : IntsAt B w' v l := by
  obtain ⟨ao, cap, rfl, h1⟩ := h.v
  refine ⟨⟨ao, cap, rfl, fun i hi => ?_⟩, h.num⟩
  obtain ⟨bk, off, h2, h3, h4⟩ := h1 i hi
  exact ⟨bk, off, h2, h3, (hb.cell (p := ⟨bk, off + i, none⟩) h3).trans h4⟩
theorem neq_zc (w : World) : (binOp .neq 49 (.agg #[.bool false, .int .i64 0]) (.agg #[.bool false, .int .i64 0])).run Try.prog w = .ok (.bool false) w := by kernel_rfl
def W1Rel (V : World) (n' : Nat) (i _c : Value) (wr : World) : Prop := ∃ j : Nat, i = .int .i64 j ∧ j ≤ n' ∧ Below V.heap.size V wr
theorem field2 (a0 a1 a2 : Value) (w : World) : (Instr.field 51 (.agg #[a0, a1, a2]) 2).run Try.prog w = .ok a2 w := by kernel_rfl
theorem size3 (w : World) : (sizeOf 3).run Try.prog w = .ok 1 w := by kernel_rfl
def W2Rel (B : Nat) (ρ : Nat → Nat → Prop) (w : World) (wb hb rb nx n' m b a : Nat) (pv qv : Value) (p q : List C) (i _c _d : Value) (wr : World) : Prop :=
  ∃ (j : Nat) (g : Hp) (r : Rf) (x : Th), i = .int .i64 j ∧ j ≤ n' ∧ j ≤ m ∧ St B ρ wr wb g r pv qv p q ∧ g.hb = hb ∧ r.rb = rb ∧ r.nx = nx ∧ r.L b = some x ∧ x.l.length = n' ∧ a + 1 + n' ≤ g.us.length ∧ Below B w wr
inductive StepPost (B : Nat) (wb : Nat) (r : Rf) (p : List C) (w : World) (e : Ending) (w' : World) : Prop
  | mk (ρ : Nat → Nat → Prop) (g' : Hp) (r' : Rf) (pv' qv' : Value) (p' q' : List C) : e = .returned (.bool true) → St B ρ w' wb g' r' pv' qv' p' q' → p'.length ≤ p.length + 1 → r'.nx ≤ r.nx + 1 → Below B w w' → StepPost B wb r p w e w'
set_option maxRecDepth 100000 in
set_option maxHeartbeats 8000000 in
theorem wmake_any (B : Nat) (ρ : Nat → Nat → Prop) (w : World) (wb : Nat) (g : Hp) (r : Rf) (pv qv : Value) (p q : List C) (h : St B ρ w wb g r pv qv p q) (hpl : p.length ≤ 3000000000000) (hnx : r.nx + 1 < 100000000000000) (k t n : Int) (lv : Value) (l : List Int) (hl : IntsAt B w lv l) :
    Calls Try.prog 7 #[.pointer (some ⟨wb, 0, none⟩), .int .i64 k, .int .i64 t, .int .i64 n, lv] w (StepPost B wb r p w) := by
  obtain ⟨ao, cap, pb, psz, hpv, hao, hrow, hown, h0, hback⟩ := h.hp.row2
  obtain ⟨ao2, cap2, qb, qsz, hqv, hao2, hrow2, hown2, h02, hback2⟩ := h.hq.row2
  have hp1 : pb ≠ g.ub := by
    by_cases hp0 : p.length = 0
    · rw [h0 hp0]; have := h.hg.lu; omega
    · exact (h.pu pb (hown (by omega))).1
  have hp2 : pb ≠ g.sb := by
    by_cases hp0 : p.length = 0
    · rw [h0 hp0]
      obtain ⟨ss, hss, _⟩ := h.hg.s
      have := hss.lt
      omega
    · exact (h.pu pb (hown (by omega))).2.1
  have hroots : ∀ c ∈ p, c.p = true → ∃ a : Nat, (∃ b, ρ a b) ∧ c.n = a := by
    intro c hc hcp
    obtain ⟨i, hi, e⟩ := List.getElem_of_mem hc
    have h1 := h.ok.rs.c i hi (by rw [← h.ok.rs.len]; exact hi)
    rw [e] at h1
    obtain ⟨a, b, h2, _, h3⟩ := h1.2.2.2.2 hcp
    exact ⟨a, ⟨b, h3⟩, h2⟩
  have hw1 := h.hw
  rw [hpv] at hw1
  have HM := Lib.hid (make_any g w h.hg (fun a => ∃ b, ρ a b) h.ok.things p hroots wb pb psz cap ao _ _ qv hw1 hao hrow (by omega) hp1 hp2 k t n)
  have hsum : ∀ K : List Nat, K.Nodup → (∀ j ∈ K, RchL r.L q j) → S r.L K ≤ 1000000 := fun K hn hk => by
    have h1 := sum_room h.ok.sim h.ok.things hn (fun j hj => by
      obtain ⟨a, ha, _⟩ := reach_fro h.ok.sim h.ok.rs (hk j hj)
      exact ⟨a, ha⟩)
    have h2 := h.hg.nx
    have h3 := h.hg.sz
    omega
  have hqr : 0 < q.length → RowC w qb qsz q := hrow2
  have hqbk : 0 < q.length → qb ≠ g.ub ∧ qb ≠ g.sb ∧ qb ≠ g.hb ∧ pv.ownBlock ≠ some qb := fun h0 => by
    have h1 := h.qu qb (hown2 h0)
    refine ⟨h1.1, h1.2.1, ?_, fun e => (h.pu qb e).2.2.1 (hown2 h0)⟩
    intro e
    subst e
    exact h.hq.ne h.hg.h (by decide) (hown2 h0)
  have HR : Hid (∀ W : World, Keeps (PS g pv) w W → Calls Try.prog 21 #[.pointer (some ⟨r.rb, 0, none⟩), .int .i64 k, .int .i64 t, .int .i64 n, .slice ao2 q.length cap2] W (RMake r q k t n W)) := Lib.hid (fun W hk => by
    obtain ⟨a1, a2, a3⟩ := h.prog hk
    exact rmake_any r W a1 (by rw [h.sz]; exact h.hg.sz) (by omega) q (closed_of h.ok.sim h.ok.rs h.ok.cov) hsum qb qsz cap2 ao2 hao2 (fun h0 => (hqr h0).of_same (hk.block qb (hqr h0).lt (by
      have h1 := hqbk h0
      rintro (e | e | e | e)
      · exact h1.1 e
      · exact h1.2.1 e
      · exact h1.2.2.1 e
      · exact h1.2.2.2 e))) (by rw [← h.ok.rs.len]; omega) k t n)
  have c0 : w.cell? ⟨wb, 0, none⟩ = some (.pointer (some ⟨g.hb, 0, none⟩)) := blk_cell h.hw 0
  have H := Lib.hid h
  have HL := Lib.hid hl
  have HOWN := Lib.hid hown
  have H0 := Lib.hid h0
  have HBACK := Lib.hid hback
  have HQV := Lib.hid hqv
  clear h hl hpv hao hrow hown h0 hback hqv hao2 hrow2 hown2 h02 hback2 hp1 hp2 hroots hw1 hsum hqr hqbk
  go_enter Try.func7, Try.ntmps7
  go_upto_region 2 with (first | (go_at_call 20; refine HM.out.mono ?_; rintro e1 w2 hM1; obtain ⟨hk2, a1, a2, he1⟩ := mid H.out HOWN.out H0.out hM1; have HM1 := Lib.hid hM1; clear hM1; subst he1))
  have hk2d : Keeps (PS g pv) w w2.drew := hk2.drew 1
  obtain ⟨b1, b2, b3⟩ := H.out.prog hk2
  have d1 : w2.cell? ⟨wb, 1, none⟩ = some (.pointer (some ⟨r.rb, 0, none⟩)) := blk_cell b2 1
  have d3 : w2.cell? ⟨wb, 3, none⟩ = some (.slice ao2 q.length cap2) := by rw [← HQV.out]; exact blk_cell b2 3
  have HR2 := Lib.hid (HR.out _ hk2d)
  have hrw : r.rb ≠ wb := blk_ne b1.h b2 (by decide)
  have HB22 : Hid (w2.drew.heap[wb]? = some (.cells #[.pointer (some ⟨g.hb, 0, none⟩), .pointer (some ⟨r.rb, 0, none⟩), pv, .slice ao2 q.length cap2] 34 (0, 0))) := Lib.hid (by rw [← HQV.out]; exact b2)
  clear b1 b2 b3 hk2d c0
  go_cut [13, 14] from 34 to 47 (fun v v' wx => ∃ x y : Int, v = .int .i64 x ∧ v' = .int .i64 y ∧ Both B wb g r pv qv p q k t n w (.returned (.tuple #[.int .i64 a1, .int .i64 a2])) (.returned (.tuple #[.int .i64 x, .int .i64 y])) wx)
  case first =>
    go_region_held3 (fun w' => w'.cell? ⟨wb, 1, none⟩ = some (.pointer (some ⟨r.rb, 0, none⟩)) ∧ w'.cell? ⟨wb, 3, none⟩ = some (.slice ao2 q.length cap2))
      (first | exact ⟨d1, d3⟩ | exact d9)
      (first | (go_at_call 21; refine HR2.out.mono ?_; rintro e2 w3 hR1; obtain ⟨x, y, he2⟩ := rmake_form hR1; have d9 : w3.cell? ⟨wb, 1, none⟩ = some (.pointer (some ⟨r.rb, 0, none⟩)) ∧ w3.cell? ⟨wb, 3, none⟩ = some (.slice ao2 q.length cap2) := ⟨blk_cell ((rmake_keeps hR1).blk HB22.out (fun e => hrw e.symm)) 1, blk_cell ((rmake_keeps hR1).blk HB22.out (fun e => hrw e.symm)) 3⟩; have HB2 := Lib.hid (st_make H.out hnx HOWN.out H0.out HBACK.out HM1.out (below_drewN (Below.refl _ _) 1) hR1); clear hR1; subst he2))
    go_wp2_with fail
    go_meet
    exact ⟨x, y, rfl, rfl, HB2.out⟩
  case rest =>
  obtain ⟨x, y, rfl, rfl, hB⟩ := hcut
  obtain ⟨V, hV⟩ : ∃ V : World, V = wc := ⟨_, rfl⟩
  subst hV
  clear d1 d3 HB22 HR2 HM HR HM1
  cases hB with
  | no code ρ' g' r' p' he1 he2 hcode hst hpl' hgb hrb hrn hbel =>
    obtain ⟨rfl, rfl⟩ := tup2 he1
    obtain ⟨rfl, rfl⟩ := tup2 he2
    have HST := Lib.hid hst
    have HBE := Lib.hid hbel
    have hne : ¬ (y = 0) := by omega
    clear he1 he2 hst hbel
    go_wp2_with fail
    go_ret
    exact .mk ρ' g' r' pv qv p' q rfl HST.out (by omega) (by omega) HBE.out
  | yes ρ' g' r' p' a n' bk hn hn6 he1 he2 hst hpl' hgb hrb hrn hbel hab hLx hz hlen =>
    obtain ⟨rfl, rfl⟩ := tup2 he1
    obtain ⟨rfl, rfl⟩ := tup2 he2
    subst hn
    have HST := Lib.hid hst
    have HBE := Lib.hid hbel
    have HAB := Lib.hid hab
    have HLX := Lib.hid hLx
    have HZ := Lib.hid hz
    have hq := neq_zc
    have hul := hst.hg.sz
    rw [← hst.hg.ul] at hul
    have HGB := Lib.hid hgb
    have HRB := Lib.hid hrb
    have HRN := Lib.hid hrn
    have HPL := Lib.hid hpl'
    clear he1 he2 hst hbel hab hLx hz hgb hrb hrn hpl'
    go_wp2_with fail
    go_loopw [15, 16] (W1Rel V n') (fun i _ _ => n' - (intOf i).toNat)
    case atStart => exact ⟨0, rfl, Nat.zero_le _, Below.refl _ _⟩
    case round =>
      obtain ⟨j, rfl, hj, hbr⟩ := hrel
      obtain ⟨wo, rfl⟩ : ∃ wo : World, wo = wr := ⟨_, rfl⟩
      have hso := HST.out.below hbr
      have c0 : wo.cell? ⟨wb, 0, none⟩ = some (.pointer (some ⟨g'.hb, 0, none⟩)) := blk_cell hso.hw 0
      have HSO := Lib.hid hso
      have HBR := Lib.hid hbr
      by_cases hjn : j < n'
      · have hd : decide ((j : Int) < (n' : Int)) = true := by simp; omega
        have hget := get_any g' wo hso.hg a j (by omega)
        rw [gt_get (by omega), HZ.out j hjn] at hget
        have HGET : Hid (Calls Try.prog 14 #[.pointer (some ⟨g'.hb, 0, none⟩), .int .i64 a, .int .i64 j] wo fun e w' => e = .returned (.agg #[.bool false, .int .i64 0]) ∧ Below wo.heap.size wo w') := Lib.hid hget
        clear hso hbr hget
        go_wp2_with (first | (go_at_call 14; refine HGET.out.mono ?_; rintro e w7 ⟨rfl, hb7⟩))
        go_roundw
        case rel => exact ⟨j + 1, by go_num, by omega, balloc (HBR.out.trans (hb7.mono HBR.out.size)) _⟩
        case measure => simp only [intOf]; omega
      · obtain rfl : j = n' := by omega
        have hd : decide ((j : Int) < (j : Int)) = false := by simp
        have hcs : CSim ρ' ⟨true, (a : Int)⟩ ⟨true, (r.nx : Int)⟩ := ⟨rfl, by show I64 (a : Int); unfold I64; omega, by show I64 (r.nx : Int); unfold I64; omega, (fun h => by cases h), fun _ => ⟨a, r.nx, rfl, rfl, HAB.out⟩⟩
        have hmo : Calls Try.prog 15 #[.pointer (some ⟨wb, 0, none⟩), .agg #[.bool true, .int .i64 (a : Int)], .agg #[.bool true, .int .i64 (r.nx : Int)]] wo (MorePost wb (.pointer (some ⟨g'.hb, 0, none⟩)) (.pointer (some ⟨r'.rb, 0, none⟩)) pv qv p' q ⟨true, a⟩ ⟨true, r.nx⟩ wo) :=
          more_any wo wb _ _ pv qv p' q ⟨true, a⟩ ⟨true, r.nx⟩ hso.hw hso.hp hso.hq (fun g h => (hso.pu g h).2.2.1) (by rw [HPL.out]; omega) (by rw [← hso.ok.rs.len, HPL.out]; omega)
        have HMO := Lib.hid hmo
        have HCS := Lib.hid hcs
        clear hso hbr c0 hmo hcs hq
        go_upto_region 14 with (first | (go_at_call 15; refine HMO.out.mono ?_; rintro e w7 hm7; obtain ⟨rfl, pv2, qv2, hst7, hb7⟩ := st_more HSO.out HCS.out hm7; have HST7 := Lib.hid hst7; have HB7 := Lib.hid hb7; clear hm7 hst7 hb7))
        obtain ⟨m, hm⟩ : ∃ m, m = l.length := ⟨_, rfl⟩
        have HMM := Lib.hid hm
        clear hm hd hjn hj
        go_wp2_with fail
        go_loopw [17, 18, 19] (W2Rel B ρ' w wb g'.hb r'.rb r'.nx j m r.nx a pv2 qv2 (p' ++ [⟨true, a⟩]) (q ++ [⟨true, r.nx⟩])) (fun i _ _ _ => j - (intOf i).toNat)
        case atStart => exact ⟨0, g', r', _, rfl, Nat.zero_le _, Nat.zero_le _, HST7.out, rfl, rfl, rfl, HLX.out, by simp, hlen, (HBE.out.trans (HBR.out.mono HST.out.base)).trans HB7.out⟩
        case round =>
          obtain ⟨i, g2, r2, x, rfl, hi1, hi2, hst2, hg2, hr2, hn2, hx2, hxl, hlen2, hb2⟩ := hrel
          obtain ⟨wo2, rfl⟩ : ∃ wo2 : World, wo2 = wr := ⟨_, rfl⟩
          obtain ⟨lo, lc, hlv, hlat⟩ := (HL.out.below hb2).v
          rw [← HMM.out] at hlv
          subst hlv
          have HS2 := Lib.hid hst2
          have HB2 := Lib.hid hb2
          by_cases h1 : i < j
          · by_cases h2 : i < m
            · have him : i < l.length := by rw [← HMM.out]; exact h2
              obtain ⟨bk2, of2, hlo, hbk2, hcell⟩ := hlat i him
              subst hlo
              have hd1 : decide ((i : Int) < (j : Int)) = true := by simp; omega
              have hd2 : decide ((i : Int) < (m : Int)) = true := by simp; omega
              have hlt : (i : Int) < (j : Int) := by omega
              have hlt2 : (i : Int) < (m : Int) := by omega
              obtain ⟨c, hc⟩ : ∃ c, c = l[i] := ⟨_, rfl⟩
              rw [← hc] at hcell
              have hIc : I64 c := by rw [hc]; exact HL.out.num _ (List.getElem_mem him)
              have hxi := index_at Try.underlying36 size3 (ao := some ⟨bk2, of2, none⟩) rfl m lc i h2
              simp only [Nat.mul_one] at hxi
              have HFI := Lib.hid (field_any ρ' wo2 wb _ _ pv2 qv2 _ _ c hIc hst2.hw hst2.hp hst2.hq hst2.ok.rs (by rw [List.length_append, HPL.out]; simp; omega))
              have HG2 := Lib.hid hg2
              have HR3 := Lib.hid hr2
              have HN2 := Lib.hid hn2
              have HX2 := Lib.hid hx2
              have HXL2 := Lib.hid hxl
              clear hst2 hlat hb2 hg2 hr2 hn2 hx2 hxl hc hIc
              go_upto_region 18 with (first | (go_at_call 12; refine HFI.out.mono ?_; rintro e w5 ⟨xx, yy, hcs5, rfl, hb5⟩; obtain ⟨x0, x1⟩ := xx; obtain ⟨y0, y1⟩ := yy; have HC5 := Lib.hid hcs5; have HB5 := Lib.hid hb5; clear hcs5 hb5))
              obtain ⟨X, hX⟩ : ∃ X, X = (w5.alloc (.cells #[.bool x0, .int .i64 x1] 49)).alloc (.cells #[.bool y0, .int .i64 y1] 49) := ⟨_, rfl⟩
              rw [← hX]
              have hbX : Below wo2.heap.size wo2 X := by rw [hX]; exact balloc (balloc HB5.out _) _
              have hsX := HS2.out.below hbX
              have hxA : X.heap[w5.heap.size]? = some (.cells #[.bool x0, .int .i64 x1] 49 (0, 0)) := by rw [hX]; exact blk_alloc (heap_alloc_new w5 _) _
              have hxB : X.heap[w5.heap.size + 1]? = some (.cells #[.bool y0, .int .i64 y1] 49 (0, 0)) := by
                rw [hX]
                have h := heap_alloc_new (w5.alloc (.cells #[.bool x0, .int .i64 x1] 49)) (.cells #[.bool y0, .int .i64 y1] 49)
                rw [World.size_alloc] at h
                exact h
              have hl5 : wo2.heap.size ≤ w5.heap.size := HB5.out.size
              have c0 : X.cell? ⟨wb, 0, none⟩ = some (.pointer (some ⟨g2.hb, 0, none⟩)) := blk_cell hsX.hw 0
              have c1 : X.cell? ⟨w5.heap.size, 0, none⟩ = some (.bool x0) := blk_cell hxA 0
              have c2 : X.cell? ⟨w5.heap.size, 1, none⟩ = some (.int .i64 x1) := blk_cell hxA 1
              have hsXd := hsX.below (below_drewN (Below.refl _ _) 1)
              have hset : Calls Try.prog 13 #[.pointer (some ⟨g2.hb, 0, none⟩), .int .i64 a, .int .i64 i, .agg #[.bool x0, .int .i64 x1]] X.drew fun e w' => e = .returned (.tuple #[]) ∧ Keeps (· = g2.ub) X.drew w' ∧ HpAt w' { g2 with us := g2.us.set (a + 1 + i) ⟨x0, x1⟩ } :=
                set_any g2 X.drew hsXd.hg a i ⟨x0, x1⟩ (by omega)
              have HSET := Lib.hid hset
              have HSX := Lib.hid hsXd
              have HXB := Lib.hid hxB
              have HBX := Lib.hid hbX
              have lX : w5.heap.size + 1 < X.heap.size := lt_of_block hxB
              have hu2 : g2.ub < wo2.heap.size := HS2.out.hg.lu
              clear hX hbX hsX hxA hxB hsXd hset
              go_cut [] from 96 to 103 (fun wx => Keeps (· = g2.ub) X.drew wx ∧ HpAt wx { g2 with us := g2.us.set (a + 1 + i) ⟨x0, x1⟩ })
              case first =>
                go_still_tail 7, (by kernel_rfl)
                change wpList _ _ _ _ _ X.drew
                go_wp2_with (first | (go_at_call 13; refine HSET.out.mono ?_; rintro e w9 ⟨rfl, hk9, hg9⟩))
                go_meet
                exact ⟨hk9, hg9⟩
              case rest =>
              obtain ⟨hk9, hg9⟩ := hcut
              obtain ⟨Y, hY⟩ : ∃ Y : World, Y = wc := ⟨_, rfl⟩
              subst hY
              obtain ⟨b1, b2, b3⟩ := HSX.out.prog (hk9.mono fun b e => .inl e)
              obtain ⟨b0, hb0⟩ : ∃ b0, r2.mb = some b0 := by
                cases hm : r2.mb with
                | none => have := b1.mn hm r.nx; rw [HX2.out] at this; cases this
                | some b0 => exact ⟨b0, rfl⟩
              have hxB9 : Y.heap[w5.heap.size + 1]? = some (.cells #[.bool y0, .int .i64 y1] 49 (0, 0)) := hk9.blk (w := X.drew) HXB.out (by omega)
              have d1 : Y.cell? ⟨wb, 1, none⟩ = some (.pointer (some ⟨r2.rb, 0, none⟩)) := blk_cell b2 1
              have d2 : Y.cell? ⟨r2.rb, 1, none⟩ = some (.map (some b0)) := by
                have h := blk_cell b1.h 1
                rw [h]
                show some (Value.map r2.mb) = _
                rw [hb0]
              have d3 : Y.cell? ⟨w5.heap.size + 1, 0, none⟩ = some (.bool y0) := blk_cell hxB9 0
              have d4 : Y.cell? ⟨w5.heap.size + 1, 1, none⟩ = some (.int .i64 y1) := blk_cell hxB9 1
              have hxc := b1.th r.nx x HX2.out
              have hij : i < x.l.length := by rw [HXL2.out]; exact h1
              have d5 := hxc.get0 hij
              have d6 := hxc.get1 hij
              have f5 := hxc.free (i * 2)
              have f6 := hxc.free (i * 2 + 1)
              have hIr : I64 (r.nx : Int) := by unfold I64; omega
              have hlk : ∀ W' : World, W'.heap[b0]? = Y.heap[b0]? → (Instr.lookup 29 (.map (some b0)) (.int .i64 (r.nx : Int)) false).run Try.prog W' = .ok (.agg #[.int .i64 x.k, .int .i64 x.t, .slice (some ⟨x.b, 0, none⟩) j j]) W' := by
                intro W' e
                have h := (((b1.m b0 hb0).of_same (w' := W') e).look Try.underlying29 (zero51 W') hIr).1
                rw [fL_nat, HX2.out] at h
                rw [← HXL2.out]
                exact h
              have hlk1 := hlk Y rfl
              have hlk2 := hlk Y.drew rfl
              have hxj := index_cell x.b j j i h1
              have hfd : ∀ W' : World, (Instr.field 51 (.agg #[.int .i64 x.k, .int .i64 x.t, .slice (some ⟨x.b, 0, none⟩) j j]) 2).run Try.prog W' = .ok (.slice (some ⟨x.b, 0, none⟩) j j) W' := fun W' => field2 _ _ _ W'
              have hfin := st_set HSX.out HAB.out HX2.out hij HC5.out (hk9.drew 1) (hg9.drewN 1)
              have HFIN := Lib.hid hfin
              clear b1 b2 b3 hb0 hxB9 hxc hlk hk9 hg9 hfin c0 c1 c2
              go_upto_region 19 with fail
              go_region
              all_goals
                go_wp2_with fail
                go_roundw
                case rel =>
                  refine ⟨i + 1, _, _, _, by go_num, by omega, by omega, HFIN.out.1, HG2.out, HR3.out, HN2.out, (by show setL r2.L r.nx i _ r.nx = some { x with l := x.l.set i ⟨y0, y1⟩ }; unfold setL; rw [if_pos rfl, HX2.out]; rfl), by simpa using HXL2.out, by simpa using hlen2, ?_⟩
                  exact ((HB2.out.trans (HBX.out.mono HS2.out.base)).trans (below_drewN (Below.refl _ _) 1)).trans HFIN.out.2
                case measure => simp only [intOf]; omega
            · obtain rfl : i = m := by omega
              have hd1 : decide ((i : Int) < (j : Int)) = true := by simp; omega
              have hlt : (i : Int) < (j : Int) := by omega
              have hd : decide ((i : Int) < (i : Int)) = false := by simp
              have HG2 := Lib.hid hg2
              have HR3 := Lib.hid hr2
              have HN2 := Lib.hid hn2
              clear hst2 hlat hb2 hg2 hr2 hn2 hx2 hxl
              go_wp2_with fail
              go_ret
              exact .mk ρ' g2 r2 pv2 qv2 _ _ rfl HS2.out (by rw [List.length_append, HPL.out]; simp) (by rw [HN2.out, HRN.out]; exact Nat.le_refl _) HB2.out
          · obtain rfl : i = j := by omega
            have hd : decide ((i : Int) < (i : Int)) = false := by simp
            have HG2 := Lib.hid hg2
            have HR3 := Lib.hid hr2
            have HN2 := Lib.hid hn2
            clear hst2 hlat hb2 hg2 hr2 hn2 hx2 hxl
            go_wp2_with fail
            go_ret
            exact .mk ρ' g2 r2 pv2 qv2 _ _ rfl HS2.out (by rw [List.length_append, HPL.out]; simp) (by rw [HN2.out, HRN.out]; exact Nat.le_refl _) HB2.out
end Go.Proofs.Ytidjfmkclabagaa
