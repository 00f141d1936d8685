/-
  Proved: the contract of the scanner's gap. Conditions: the table of sorts, a text of at most 4000 bytes below 128.
-/
import Derived.Test.YtbfeailcebfklaaDoorQ1
import Derived.ScopeJumps
import Derived.WalkMore
set_option linter.unusedSimpArgs false
set_option linter.unusedVariables false
namespace Go.Proofs.YtbfeailcebfklaaDoor
open Go.RowKit

theorem Scan.facts {w : World} {b : Nat} {s : ByteArray} {i : Nat} (h : Scan w b s i) : w.cell? ⟨b, 0, none⟩ = some (.string s) ∧ w.cell? ⟨b, 1, none⟩ = some (.int .i64 i) ∧ w.frozen? ⟨b, 1, none⟩ = false ∧ b < w.heap.size :=
  ⟨blk_cell h 0, blk_cell h 1, blk_free h 1, h.lt⟩
theorem Sorts.gr {w w' : World} {b : Nat} (h : Sorts w) (hg : w.grownBy w' (some b)) (hb : 0 ≠ b) : Sorts w' := fun k hk => gr_cell hg hb (h k hk)
theorem ints_new (w : World) (L : List Nat) (c : Array Value) (t : TypeId) (h : c = (L.map fun (k : Nat) => (Value.int .i64 k : Value)).toArray) : IntsAt (w.alloc (.cells c t)) w.heap.size L := by
  subst h
  intro k hk
  rw [World.cell?_alloc_at _ _ _ _ rfl]
  simp [hk]
theorem whD_not (s : ByteArray) (p : Nat → Bool) (i : Nat) : whD s p i < s.size → p (bt s (whD s p i)) = false := by
  induction i using whD.induct s p with
  | case1 i h hp ih => rw [whD_step h hp]; exact ih
  | case2 i h hp => rw [whD_stop h (by simpa using hp)]; intro _; simpa using hp
  | case3 i h => rw [whD_end (by omega)]; intro h2; exact absurd h2 h
theorem has2 (s : ByteArray) (b i : Nat) (a c : UInt8) (w : World) (hsc : Scan w b s i) (hs : s.size ≤ 4000) (hi : i ≤ s.size) :
    Calls Tryd.prog 17 #[pv b, .string ⟨#[a, c]⟩] w fun e w' => e = .returned (.bool (hasD s i a.toNat c.toNat)) ∧ Below w.heap.size w w' := by
  rw [← atD_two]
  exact has_any s _ b i w hsc hs hi (by show 2 ≤ _; omega)
theorem has_open (s : ByteArray) (b i : Nat) (w : World) (hsc : Scan w b s i) (hs : s.size ≤ 4000) (hi : i ≤ s.size) :
    Calls Tryd.prog 17 #[pv b, .string ⟨#[40, 42]⟩] w fun e w' => e = .returned (.bool (hasD s i 40 42)) ∧ Below w.heap.size w w' := has2 s b i 40 42 w hsc hs hi
theorem has_close (s : ByteArray) (b i : Nat) (w : World) (hsc : Scan w b s i) (hs : s.size ≤ 4000) (hi : i ≤ s.size) :
    Calls Tryd.prog 17 #[pv b, .string ⟨#[42, 41]⟩] w fun e w' => e = .returned (.bool (hasD s i 42 41)) ∧ Below w.heap.size w w' := has2 s b i 42 41 w hsc hs hi
theorem wp_again {P : Program} {a : Act} {w : World} {Q : Exit → Act → World → Prop} {rest : Code} {l : Nat} (J : Act → World → Prop) (μ : Act → World → Nat) (start : J a w)
    (pass : ∀ a w, J a w → rest.wp P (Exit.jump l (fun a' w' => J a' w' ∧ μ a' w' < μ a w) Q) a w) : (Code.scope ((Code.label l).seq rest)).wp P Q a w :=
  wp_scope_jumps l J μ (by simp [findLabel]) (wp_seq (wp_label (wp_mono (pass a w start) (by
    intro e a w h
    cases e <;> first | exact h | exact ⟨h.1, h.2.1⟩)))) (fun a w h => wp_seq (wp_skip (pass a w h)))
theorem blank_sort : ∀ c, c < 128 → inL [1] (srt c) = blank c := by decide +kernel

set_option maxRecDepth 100000 in
set_option maxHeartbeats 2000000 in
theorem gap_any (s : ByteArray) (b i0 : Nat) (w : World) (hsc : Scan w b s i0) (hs : s.size ≤ 4000) (hi : i0 ≤ s.size) (hso : Sorts w) (hA : ∀ k, k < s.size → bt s k < 128) (hb : 0 ≠ b) :
    Calls Tryd.prog 12 #[pv b] w fun e w' => e = .returned (.bool (gapD s i0).2) ∧ Scan w' b s (gapD s i0).1 ∧ w.grownBy w' (some b) := by
  have HSC := Lib.hid hsc
  have HSO := Lib.hid hso
  clear hsc hso
  go_enter Tryd.func12, Tryd.ntmps12
  go_wp2_with fail
  refine wp_again (fun a' wr => (∃ (u1 u2 u3 u4 u5 u6 u7 u8 u9 u10 u11 u12 u13 u14 u15 u16 u17 u18 u19 u20 u21 u22 u23 u24 u25 u26 u27 u28 u29 u30 u31 u32 u33 u34 u35 u36 u37 u38 u39 u40 u41 u42 u43 u44 u45 u46 u47 u48 u49 u50 u51 u52 u53 u54 u55 u56 u57 u58 u59 u60 u61 : Value), a' = { tmps := #[pv b, u1, u2, u3, u4, u5, u6, u7, u8, u9, u10, u11, u12, u13, u14, u15, u16, u17, u18, u19, u20, u21, u22, u23, u24, u25, u26, u27, u28, u29, u30, u31, u32, u33, u34, u35, u36, u37, u38, u39, u40, u41, u42, u43, u44, u45, u46, u47, u48, u49, u50, u51, u52, u53, u54, u55, u56, u57, u58, u59, u60, u61], defers := [] }) ∧ ∃ k : Nat, k ≤ s.size ∧ Scan wr b s k ∧ w.grownBy wr (some b) ∧ gapD s k = gapD s i0) (fun _ wr => s.size - atOf wr b) ?_ ?_
  · refine ⟨⟨_, _, _, _, _, _, _, _, _, _, _, _, _, _, _, _, _, _, _, _, _, _, _, _, _, _, _, _, _, _, _, _, _, _, _, _, _, _, _, _, _, _, _, _, _, _, _, _, _, _, _, _, _, _, _, _, _, _, _, _, _, rfl⟩, i0, hi, HSC.out, gr_refl _ _, rfl⟩
  · rintro a' wr ⟨⟨u1, u2, u3, u4, u5, u6, u7, u8, u9, u10, u11, u12, u13, u14, u15, u16, u17, u18, u19, u20, u21, u22, u23, u24, u25, u26, u27, u28, u29, u30, u31, u32, u33, u34, u35, u36, u37, u38, u39, u40, u41, u42, u43, u44, u45, u46, u47, u48, u49, u50, u51, u52, u53, u54, u55, u56, u57, u58, u59, u60, u61, rfl⟩, k, hk, hsc, hgr, hc⟩
    have hat := hsc.at
    obtain ⟨r0, r1, z1, hbl⟩ := hsc.facts
    have HS := Lib.hid hsc
    have HG := Lib.hid hgr
    have HC := Lib.hid hc
    have HAT0 := Lib.hid hat
    clear hsc hgr hc hat
    go_wp2_with fail
    refine (while_any s b wr.heap.size k [1] blank _ (blk_alloc HS.out _) hs hk ((HSO.out.gr HG.out hb).gr (World.grownBy_alloc wr _ (some b)) hb) hA (ints_new wr [1] _ _ rfl) (by omega) hb (by decide) blank_sort).mono ?_
    rintro e w1 ⟨rfl, hs1, hg1⟩
    have hg1' := gr_trans (gr_trans HG.out (World.grownBy_alloc wr _ (some b))) hg1
    have hwh := whD_ge s blank k
    have hno := whD_not s blank k
    have hgw := gapD_wh (s := s) k
    rw [HC.out] at hgw
    generalize whD s blank k = k1 at hs1 hwh hno hgw
    have hk1 := hwh.2 hk
    clear r0 r1 z1 hbl hg1 HS HG
    obtain ⟨r0, r1, z1, hbl⟩ := hs1.facts
    have HS := Lib.hid hs1
    have HG := Lib.hid hg1'
    have HGW := Lib.hid hgw
    clear hs1 hg1' hgw
    go_wp2_with fail
    refine (has_open s b k1 _ HS.out hs hk1).mono ?_
    rintro e w2 ⟨rfl, hb2⟩
    have hs2 := HS.out.below hb2
    have hg2 := gr_trans HG.out (gr_below hb2 (some b))
    clear r0 r1 z1 hbl HS HG hb2
    obtain ⟨r0, r1, z1, hbl⟩ := hs2.facts
    have HS := Lib.hid hs2
    have HG := Lib.hid hg2
    clear hs2 hg2
    cases hh : hasD s k1 40 42 with
    | false =>
      have hst := gapD_stop hh hno
      rw [← HGW.out] at hst
      have HST := Lib.hid hst
      clear hst hno
      go_wp2_with fail
      simp only [Exit.jump]
      go_ret
      rw [HST.out]
      exact ⟨rfl, HS.out, HG.out⟩
    | true =>
      have HH := Lib.hid hh
      have hk2 := (hasD_pos hh).1
      clear hh hno
      go_wp2_with fail
      go_loopw [4] (fun o wr => ∃ k' q : Nat, k' ≤ s.size ∧ q ≤ k' ∧ Scan wr b s k' ∧ w.grownBy wr (some b) ∧ o = .int .i64 q ∧ ((k' = k1 ∧ q = 0) ∨ 1 ≤ q) ∧ comD s k' q = comD s k1 0) (fun _ wr => s.size - atOf wr b)
      case atStart => exact ⟨k1, 0, hk1, by omega, HS.out, HG.out, rfl, .inl ⟨rfl, rfl⟩, rfl⟩
      case round =>
        obtain ⟨k', q, hk', hq, hsc, hgr, rfl, hor, hcm⟩ := hrel
        have hat := hsc.at
        have hlw : k ≤ k1 := hwh.1
        obtain ⟨r0, r1, z1, hbl⟩ := hsc.facts
        have HS := Lib.hid hsc
        have HG := Lib.hid hgr
        have HC := Lib.hid hcm
        have HOR := Lib.hid hor
        have HAT := Lib.hid hat
        clear hsc hgr hcm hor hat
        by_cases hlt : k' < s.size
        · have hd : decide ((k' : Int) < (s.size : Int)) = true := by simp; omega
          go_wp2_with fail
          go_quiet (fail)
          go_wp2_with fail
          have hs3 := HS.out.drew nq
          have hg3 := gr_trans HG.out (gr_drew wr nq (some b))
          clear HS HG r0 r1 z1 hbl hd
          generalize wr.drewN nq = w3 at hs3 hg3 ⊢
          refine (has_open s b k' _ hs3 hs hk').mono ?_
          rintro e w4 ⟨rfl, hb4⟩
          have hs4 := hs3.below hb4
          have hg4 := gr_trans hg3 (gr_below hb4 (some b))
          clear hs3 hg3 hb4
          obtain ⟨r0, r1, z1, hbl⟩ := hs4.facts
          have HS4 := Lib.hid hs4
          have HG4 := Lib.hid hg4
          cases hb1 : hasD s k' 40 42 with
          | true =>
            have hst := comD_open (o := q) hlt hb1
            have HST := Lib.hid hst
            have hp := (hasD_pos hb1).1
            have hz : ((q : Int) + 1 == 0) = false := by simp; omega
            have hwx : IntKind.i64.wrap ((k' : Int) + 2) = k' + 2 := IntWalk.i64_in _ (by omega)
            have hwq : IntKind.i64.wrap ((q : Int) + 1) = q + 1 := IntWalk.i64_in _ (by omega)
            clear hst hs4 hg4 hb1
            go_wp2_with fail
            go_roundw
            case rel => exact ⟨k' + 2, q + 1, by omega, by omega, HS4.out.set _ _ (by push_cast; rfl), gr_trans HG4.out (gr_set _ _ _ _), by push_cast; rfl, .inr (by omega), by rw [← HST.out]; exact HC.out⟩
            case measure => rw [(HS4.out.set _ (k' + 2) (by push_cast; rfl)).at, HAT.out]; omega
          | false =>
            have hq1 : 1 ≤ q := by
              rcases HOR.out with ⟨rfl, _⟩ | h
              · have := HH.out; rw [hb1] at this; cases this
              · exact h
            have HB1 := Lib.hid hb1
            clear hs4 hg4 hb1
            go_wp2_with fail
            refine (has_close s b k' _ HS4.out hs hk').mono ?_
            rintro e w5 ⟨rfl, hb5⟩
            have hs5 := HS4.out.below hb5
            have hg5 := gr_trans HG4.out (gr_below hb5 (some b))
            clear HS4 HG4 r0 r1 z1 hbl hb5
            obtain ⟨r0, r1, z1, hbl⟩ := hs5.facts
            have HS5 := Lib.hid hs5
            have HG5 := Lib.hid hg5
            clear hs5 hg5
            cases he : hasD s k' 42 41 with
            | true =>
              have hst := comD_close (o := q) hlt he
              have hp := (hasD_pos he).1
              have hwx : IntKind.i64.wrap ((k' : Int) + 2) = k' + 2 := IntWalk.i64_in _ (by omega)
              have hwq : IntKind.i64.wrap ((q : Int) - 1) = q - 1 := IntWalk.i64_in _ (by omega)
              clear he
              by_cases h1 : q = 1
              · subst h1
                rw [if_pos rfl, HC.out] at hst
                have hgc := gapD_com HH.out hst
                have hlt2 := comD_lt _ _ hst
                have HGC := Lib.hid hgc
                clear hst hgc
                go_wp2_with fail
                go_step3
                simp only [Exit.then, Exit.inBlock, Exit.jump]
                refine ⟨rfl, ⟨⟨_, _, _, _, _, _, _, _, _, _, _, _, _, _, _, _, _, _, _, _, _, _, _, _, _, _, _, _, _, _, _, _, _, _, _, _, _, _, _, _, _, _, _, _, _, _, _, _, _, _, _, _, _, _, _, _, _, _, _, _, _, rfl⟩, k' + 2, by omega, HS5.out.set _ _ (by push_cast; rfl), gr_trans HG5.out (gr_set _ _ _ _), by rw [← HGC.out, ← HGW.out]⟩, ?_⟩
                rw [(HS5.out.set _ (k' + 2) (by push_cast; rfl)).at, HAT0.out]; omega
              · have hz : ((q : Int) - 1 == 0) = false := by simp; omega
                rw [if_neg h1] at hst
                have HST := Lib.hid hst
                have H1 := Lib.hid h1
                clear h1 hst
                go_wp2_with fail
                go_roundw
                case rel => exact ⟨k' + 2, q - 1, by omega, by omega, HS5.out.set _ _ (by push_cast; rfl), gr_trans HG5.out (gr_set _ _ _ _), by rw [show ((q - 1 : Nat) : Int) = (q : Int) - 1 from by omega], .inr (by have := H1.out; omega), by rw [← HST.out]; exact HC.out⟩
                case measure => rw [(HS5.out.set _ (k' + 2) (by push_cast; rfl)).at, HAT.out]; omega
            | false =>
              have hst := comD_else (o := q) hlt HB1.out he
              rw [if_neg (by omega)] at hst
              have HST := Lib.hid hst
              have hz : ((q : Int) == 0) = false := by simp; omega
              have hwx : IntKind.i64.wrap ((k' : Int) + 1) = k' + 1 := IntWalk.i64_in _ (by omega)
              clear hst he
              go_wp2_with fail
              go_roundw
              case rel => exact ⟨k' + 1, q, by omega, by omega, HS5.out.set _ _ (by push_cast; rfl), gr_trans HG5.out (gr_set _ _ _ _), rfl, .inr hq1, by rw [← HST.out]; exact HC.out⟩
              case measure => rw [(HS5.out.set _ (k' + 1) (by push_cast; rfl)).at, HAT.out]; omega
        · have hd : decide ((k' : Int) < (s.size : Int)) = false := by simp; omega
          have hst := comD_end (s := s) (i := k') (o := q) (by omega)
          rw [HC.out] at hst
          have hgb := gapD_bad HH.out hst
          rw [← HGW.out] at hgb
          have HST := Lib.hid hgb
          clear hst hgb
          go_wp2_with fail
          go_quiet (fail)
          go_wp2_with fail
          simp only [Exit.jump]
          go_ret
          rw [HST.out]
          exact ⟨rfl, (HS.out.drew _).set _ _ rfl, gr_trans (gr_trans HG.out (gr_drew _ _ _)) (gr_set _ _ _ _)⟩

end Go.Proofs.YtbfeailcebfklaaDoor
