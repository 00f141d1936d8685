/-
  Proved: the contract of the reference's rising. Condition: at most 1000000 numbers.
-/
import Derived.Test.YtdeomphilggokaaB5
import Derived.BigQuiet
set_option linter.unusedSimpArgs false
set_option linter.unusedVariables false
namespace Go.Proofs.Ytdeomphilggokaa
open Go.RowKit

theorem OwnI.of {B : Nat} {w : World} {v : Value} {xs : List Int} {n : Nat} (h : w.ownsRow B 3 1 v n (xs.map iv)) (hn : xs.length = n) : OwnI B w v xs := by
  subst hn; exact h
set_option maxRecDepth 100000 in
set_option maxHeartbeats 8000000 in
theorem rising_any (v : Value) (l : List Int) (w : World) (hown : OwnI 0 w v l) (hl : l.length ≤ 1000000) :
    Calls Try.prog 42 #[v] w fun e w' => ∃ v', e = .returned v' ∧ OwnI w.heap.size w' v' (risingD l) ∧ Below w.heap.size w w' := by
  obtain ⟨al, lc, rfl, hget⟩ := hown.get
  obtain ⟨c, hc⟩ : ∃ c, c = l.length := ⟨_, rfl⟩
  have hglt : ∀ i (h : i < l.length), ∃ g, al = some ⟨g, 0, none⟩ ∧ g < w.heap.size ∧ w.cell? ⟨g, i, none⟩ = some (.int .i64 l[i]) := fun i hi => by
    obtain ⟨g, h1, _, h3⟩ := hget i hi
    exact ⟨g, h1, World.block_lt_of_cell? w _ h3, h3⟩
  obtain ⟨i3, hi, hz0, hz1, hz2⟩ := info_parts info3
  have HI := Lib.hid hi
  have HC := Lib.hid hc
  have HG := Lib.hid hglt
  rw [← hc]
  rw [← hc] at hl
  clear hown hget hglt hc hi
  go_enter Try.func42, Try.ntmps42
  go_wp2_with fail
  go_loopw [3, 4, 5, 6] (fun o i _ _ wr => ∃ j : Nat, i = .int .i64 (j : Int) ∧ j ≤ c ∧ OwnI w.heap.size wr o (risingD (l.take j)) ∧ Below w.heap.size w wr) (fun _ i _ _ _ => c - (intOf i).toNat)
  case atStart => exact ⟨0, rfl, Nat.zero_le _, World.ownsRow_nil _ _ _ _, Below.refl _ _⟩
  case round =>
    obtain ⟨j, rfl, hj, ho, hb⟩ := hrel
    obtain ⟨wo, rfl⟩ : ∃ wo : World, wo = wr := ⟨_, rfl⟩
    obtain ⟨oo, oc, hoo, hoget⟩ := ho.get
    obtain ⟨out, hout⟩ : ∃ out, out = risingD (l.take j) := ⟨_, rfl⟩
    rw [← hout] at ho hoo hoget
    obtain ⟨n, hn⟩ : ∃ n, n = out.length := ⟨_, rfl⟩
    rw [← hn] at hoo
    subst hoo
    have hn9 : n ≤ 1000000 := by rw [hn, hout, rising_len, List.length_take]; omega
    have ho' : wo.ownsRow w.heap.size 3 1 (.slice oo n oc) n (out.map iv) := by rw [hn] at ho ⊢; exact ho
    have HO := Lib.hid ho'
    have HB := Lib.hid hb
    have HGET := Lib.hid hoget
    have HOUT := Lib.hid hout
    have HN := Lib.hid hn
    have hsz : w.heap.size ≤ wo.heap.size := hb.size
    have HOF : Hid (OwnI w.heap.size wo (.slice oo n oc) (risingD (l.take j))) := Lib.hid (by rw [← hout]; exact ho)
    clear ho hb hoget hout ho' hn
    by_cases hlt : j < c
    · have hd : decide ((j : Int) < (c : Int)) = true := by simp; omega
      have hjl : j < l.length := by rw [← HC.out]; exact hlt
      obtain ⟨gl, hal, hgl, hcl⟩ := HG.out j hjl
      obtain ⟨x, hx⟩ : ∃ x, x = l[j] := ⟨_, rfl⟩
      rw [← hx] at hcl
      have hixl := index_at Try.underlying47 size3 hal c lc j hlt
      rw [Nat.zero_add, Nat.mul_one] at hixl
      have HX := Lib.hid hx
      have HCL := Lib.hid hcl
      clear hx hal hcl
      go_wp2_with fail
      go_loopw [5] (fun a wr2 => ∃ k : Nat, a = .int .i64 (k : Int) ∧ k ≤ n ∧ (∀ i (h : i < k) (h' : i < out.length), out[i] < x) ∧ Below wo.heap.size wo wr2) (fun a _ => n - (intOf a).toNat)
      case atStart => exact ⟨0, rfl, Nat.zero_le _, fun i h => by omega, Below.refl _ _⟩
      case round =>
        obtain ⟨k, rfl, hk, hbef, hb2⟩ := hrel
        obtain ⟨w2, rfl⟩ : ∃ w2 : World, w2 = wr := ⟨_, rfl⟩
        have hcell2 : w2.cell? ⟨gl, j, none⟩ = some (.int .i64 x) := ((HB.out.trans (hb2.mono hsz)).cell (p := ⟨gl, j, none⟩) hgl).trans HCL.out
        have HBEF := Lib.hid hbef
        have HB2 := Lib.hid hb2
        have hs2 : wo.heap.size ≤ w2.heap.size := hb2.size
        clear hbef hb2
        by_cases hkn : k < n
        · have hkl : k < out.length := by rw [← HN.out]; exact hkn
          obtain ⟨g, hoo, hg, hcell⟩ := HGET.out k hkl
          have hglt : g < wo.heap.size := World.block_lt_of_cell? wo _ hcell
          have hixo := index_at Try.underlying47 size3 hoo n oc k hkn
          rw [Nat.zero_add, Nat.mul_one] at hixo
          obtain ⟨y, hy⟩ : ∃ y, y = out[k] := ⟨_, rfl⟩
          rw [← hy] at hcell
          have hcell3 : w2.cell? ⟨g, k, none⟩ = some (.int .i64 y) := (HB2.out.cell (p := ⟨g, k, none⟩) hglt).trans hcell
          have HY := Lib.hid hy
          have hkn' : (k : Int) < (n : Int) := by omega
          have HKN := Lib.hid hkn
          clear hoo hcell hy hkn
          by_cases hyx : y < x
          · have HYX := Lib.hid hyx
            go_upto_region 6 with fail
            go_quiet (fail)
            go_wp2_with fail
            go_roundw
            case rel =>
              refine ⟨k + 1, by go_num, HKN.out, fun i h h' => ?_, HB2.out.trans ((below_drewN (Below.refl _ _) _).mono hs2)⟩
              by_cases e : i < k
              · exact HBEF.out i e h'
              · obtain rfl : i = k := by omega
                rw [← HY.out]; exact HYX.out
            case measure => have := HKN.out; simp only [intOf]; omega
          · have hdy : decide (y < x) = false := by simpa using hyx
            have HYX := Lib.hid hyx
            clear hyx
            go_upto_region 6 with fail
            go_quiet (fail)
            have hins : insD out x = out.take k ++ x :: out.drop k := insD_at out x k (by rw [← HN.out]; exact hk) (fun i h => HBEF.out i h (by have := HN.out; omega)) (fun h => by rw [← HY.out]; exact HYX.out)
            have HINS := Lib.hid hins
            obtain ⟨V, hV⟩ : ∃ V : World, V = w2.drewN nq := ⟨_, rfl⟩
            have hbV : Below wo.heap.size wo V := by rw [hV]; exact HB2.out.trans ((below_drewN (Below.refl _ _) _).mono hs2)
            rw [← hV]
            have hoV : V.ownsRow w.heap.size 3 1 (.slice oo n oc) n (out.map iv) := own_carry HO.out fun g c f hg => blk_below hg hbV (lt_of_block hg)
            obtain ⟨hcap, hnews1, hnews2⟩ := OwnI.news hoV HN.out.symm k hk
            have hcellV : V.cell? ⟨gl, j, none⟩ = some (.int .i64 x) := ((HB.out.trans (hbV.mono hsz)).cell (p := ⟨gl, j, none⟩) hgl).trans HCL.out
            have hwV : w.heap.size ≤ V.heap.size := Nat.le_trans hsz hbV.size
            have s1 := slice_head oo n oc k (by omega)
            have s2 := slice_tail oo n oc k hk
            have HBV := Lib.hid hbV
            have HOV := Lib.hid hoV
            have HN1 := Lib.hid hnews1
            have HN2 := Lib.hid hnews2
            have HCV := Lib.hid hcellV
            have hglV : gl < V.heap.size := by omega
            have l1 : ((out.take k).map iv).length = k * 1 := by have := HN.out; simp; omega
            have l2 : ((out.drop k).map iv).length = (n - k) * 1 := by have := HN.out; simp; omega
            clear hV hbV hoV hnews1 hnews2 hcellV hins hcell2 hcap
            go_upto_region 9 with fail
            go_upto_region 10 with (first | (at_builtin; go_must (refine wpList_append3 rfl (.tmp 30) (.tmp 33) 47 47 rfl w.heap.size 3 3 i3 _ 1 8 Try.underlying47 Try.underlying47 HI.out hz0 hz1 hz2 rfl (by decide) (.slice none 0 0) 0 [] rfl (World.ownsRow_nil _ _ _ _) oo k oc ((out.take k).map iv) rfl l1 HN1.out (iv_all _) (by unfold maxLen; omega) (by omega) hwV ?_)))
            intro v1 w1 hown1 hgr1 hat1
            have hb1 : Below V.heap.size V w1 := ⟨hgr1.os, hgr1.tape, hgr1.output, hgr1.size, fun b hb => hgr1.block b hb (by simp [Value.ownBlock])⟩
            have hlow1 : ∀ g, v1.ownBlock = some g → V.heap.size ≤ g := fun g e => by
              rcases hat1 with h | h
              · rw [h] at e; cases e
              · have := Option.some.inj (h.symm.trans e); omega
            replace hown1 : w1.ownsRow w.heap.size 3 1 v1 k ((out.take k).map iv) := (by simpa using hown1)
            have hcell1 : w1.cell? ⟨gl, j, none⟩ = some (.int .i64 x) := (hb1.cell (p := ⟨gl, j, none⟩) hglV).trans HCV.out
            have hoA := hown1.alloc (.cells #[.int .i64 x] 3)
            have hsA : w.heap.size ≤ (w1.alloc (.cells #[.int .i64 x] 3)).heap.size := Nat.le_trans hwV (Nat.le_trans hb1.size (by simp))
            have HOA := Lib.hid hoA
            have HB1 := Lib.hid hb1
            have HLOW1 := Lib.hid hlow1
            clear hown1 hgr1 hat1 hb1 hlow1 hoA
            go_upto_region 11 with (first | (at_builtin; go_must (refine wpList_append3 rfl (.tmp 35) (.tmp 40) 47 47 rfl w.heap.size 3 3 i3 _ 1 8 Try.underlying47 Try.underlying47 HI.out hz0 hz1 hz2 rfl (by decide) v1 k ((out.take k).map iv) rfl HOA.out (some ⟨w1.heap.size, 0, none⟩) 1 1 [.int .i64 x] rfl rfl (fun _ => ⟨_, rfl, new_cells (c := #[.int .i64 x]) _ (by simp)⟩) (by simp [Value.oneCell']) (by unfold maxLen; omega) (by omega) hsA ?_)))
            intro v2 w2' hown2 hgr2 hat2
            replace hown2 : w2'.ownsRow w.heap.size 3 1 v2 (k + 1) ((out.take k).map iv ++ [.int .i64 x]) := (by simpa using hown2)
            have hb2' : Below V.heap.size V w2' := (balloc HB1.out _).grown hgr2 (Nat.le_trans HB1.out.size (by simp)) (fun g e => HLOW1.out g e)
            have hlow2 : ∀ g, v2.ownBlock = some g → V.heap.size ≤ g := fun g e => by
              rcases hat2 with h | h
              · exact HLOW1.out g (h.symm.trans e)
              · have := Option.some.inj (h.symm.trans e)
                have := HB1.out.size
                simp at *
                omega
            have hnews3 : 0 < n - k → ∃ ad, tailA oo oc k = some ad ∧ ∀ j u, ((out.drop k).map iv)[j]? = some u → w2'.cell? (ad.add j) = some u := fun h => by
              obtain ⟨ad, e1, e2⟩ := HN2.out h
              exact ⟨ad, e1, fun j u hu => by
                have h3 := e2 j u hu
                exact (hb2'.cell (World.block_lt_of_cell? V _ h3)).trans h3⟩
            have hs3 : w.heap.size ≤ w2'.heap.size := Nat.le_trans hwV hb2'.size
            have HO2 := Lib.hid hown2
            have HBB2 := Lib.hid hb2'
            have HLOW2 := Lib.hid hlow2
            have HN3 := Lib.hid hnews3
            clear hown2 hgr2 hat2 hb2' hlow2 hnews3 hcell1
            go_wp2_with (first | (at_builtin; go_must (refine wpList_append3 rfl (.tmp 42) (.tmp 45) 47 47 rfl w.heap.size 3 3 i3 _ 1 8 Try.underlying47 Try.underlying47 HI.out hz0 hz1 hz2 rfl (by decide) v2 (k + 1) ((out.take k).map iv ++ [.int .i64 x]) rfl HO2.out (tailA oo oc k) (n - k) (oc - k) ((out.drop k).map iv) rfl l2 HN3.out (iv_all _) (by unfold maxLen; omega) (by omega) hs3 ?_)))
            intro v3 w3 hown3 hgr3 hat3
            have hb3 : Below V.heap.size V w3 := HBB2.out.grown hgr3 HBB2.out.size (fun g e => HLOW2.out g e)
            have hfin : OwnI w.heap.size w3 v3 (insD out x) := OwnI.of (n := k + 1 + (n - k)) (by rw [HINS.out]; simpa using hown3) (by rw [insD_len]; have := HN.out; omega)
            have HF := Lib.hid hfin
            have HB3 := Lib.hid hb3
            clear hown3 hgr3 hat3 hb3 hfin
            go_wp2_with fail
            go_roundw
            case rel =>
              refine ⟨j + 1, by go_num, hlt, ?_, HB.out.trans ((HBV.out.trans (HB3.out.mono HBV.out.size)).mono hsz)⟩
              rw [rising_take hjl, ← HOUT.out, ← HX.out]
              exact HF.out
            case measure => simp only [intOf]; omega
        · have HKNE : Hid (k = n) := Lib.hid (by omega)
          have hdk : decide ((k : Int) < (n : Int)) = false := by simp; omega
          have hdk2 : decide (k < n) = false := by simp; omega
          have hdk3 : ¬ ((k : Int) < (n : Int)) := by omega
          have hdk4 : (n : Int) ≤ (k : Int) := by omega
          clear hkn
          go_upto_region 6 with fail
          go_quiet (fail)
          have hins : insD out x = out.take k ++ x :: out.drop k := insD_at out x k (by rw [← HN.out]; exact hk) (fun i h => HBEF.out i h (by have := HN.out; omega)) (fun h => by have := HN.out; have := HKNE.out; omega)
          have HINS := Lib.hid hins
          obtain ⟨V, hV⟩ : ∃ V : World, V = w2.drewN nq := ⟨_, rfl⟩
          have hbV : Below wo.heap.size wo V := by rw [hV]; exact HB2.out.trans ((below_drewN (Below.refl _ _) _).mono hs2)
          rw [← hV]
          have hoV : V.ownsRow w.heap.size 3 1 (.slice oo n oc) n (out.map iv) := own_carry HO.out fun g c f hg => blk_below hg hbV (lt_of_block hg)
          obtain ⟨hcap, hnews1, hnews2⟩ := OwnI.news hoV HN.out.symm k hk
          have hcellV : V.cell? ⟨gl, j, none⟩ = some (.int .i64 x) := ((HB.out.trans (hbV.mono hsz)).cell (p := ⟨gl, j, none⟩) hgl).trans HCL.out
          have hwV : w.heap.size ≤ V.heap.size := Nat.le_trans hsz hbV.size
          have s1 := slice_head oo n oc k (by omega)
          have s2 := slice_tail oo n oc k hk
          have HBV := Lib.hid hbV
          have HOV := Lib.hid hoV
          have HN1 := Lib.hid hnews1
          have HN2 := Lib.hid hnews2
          have HCV := Lib.hid hcellV
          have hglV : gl < V.heap.size := by omega
          have l1 : ((out.take k).map iv).length = k * 1 := by have := HN.out; simp; omega
          have l2 : ((out.drop k).map iv).length = (n - k) * 1 := by have := HN.out; simp; omega
          clear hV hbV hoV hnews1 hnews2 hcellV hins hcell2 hcap
          go_upto_region 9 with fail
          go_upto_region 10 with (first | (at_builtin; go_must (refine wpList_append3 rfl (.tmp 30) (.tmp 33) 47 47 rfl w.heap.size 3 3 i3 _ 1 8 Try.underlying47 Try.underlying47 HI.out hz0 hz1 hz2 rfl (by decide) (.slice none 0 0) 0 [] rfl (World.ownsRow_nil _ _ _ _) oo k oc ((out.take k).map iv) rfl l1 HN1.out (iv_all _) (by unfold maxLen; omega) (by omega) hwV ?_)))
          intro v1 w1 hown1 hgr1 hat1
          have hb1 : Below V.heap.size V w1 := ⟨hgr1.os, hgr1.tape, hgr1.output, hgr1.size, fun b hb => hgr1.block b hb (by simp [Value.ownBlock])⟩
          have hlow1 : ∀ g, v1.ownBlock = some g → V.heap.size ≤ g := fun g e => by
            rcases hat1 with h | h
            · rw [h] at e; cases e
            · have := Option.some.inj (h.symm.trans e); omega
          replace hown1 : w1.ownsRow w.heap.size 3 1 v1 k ((out.take k).map iv) := (by simpa using hown1)
          have hcell1 : w1.cell? ⟨gl, j, none⟩ = some (.int .i64 x) := (hb1.cell (p := ⟨gl, j, none⟩) hglV).trans HCV.out
          have hoA := hown1.alloc (.cells #[.int .i64 x] 3)
          have hsA : w.heap.size ≤ (w1.alloc (.cells #[.int .i64 x] 3)).heap.size := Nat.le_trans hwV (Nat.le_trans hb1.size (by simp))
          have HOA := Lib.hid hoA
          have HB1 := Lib.hid hb1
          have HLOW1 := Lib.hid hlow1
          clear hown1 hgr1 hat1 hb1 hlow1 hoA
          go_upto_region 11 with (first | (at_builtin; go_must (refine wpList_append3 rfl (.tmp 35) (.tmp 40) 47 47 rfl w.heap.size 3 3 i3 _ 1 8 Try.underlying47 Try.underlying47 HI.out hz0 hz1 hz2 rfl (by decide) v1 k ((out.take k).map iv) rfl HOA.out (some ⟨w1.heap.size, 0, none⟩) 1 1 [.int .i64 x] rfl rfl (fun _ => ⟨_, rfl, new_cells (c := #[.int .i64 x]) _ (by simp)⟩) (by simp [Value.oneCell']) (by unfold maxLen; omega) (by omega) hsA ?_)))
          intro v2 w2' hown2 hgr2 hat2
          replace hown2 : w2'.ownsRow w.heap.size 3 1 v2 (k + 1) ((out.take k).map iv ++ [.int .i64 x]) := (by simpa using hown2)
          have hb2' : Below V.heap.size V w2' := (balloc HB1.out _).grown hgr2 (Nat.le_trans HB1.out.size (by simp)) (fun g e => HLOW1.out g e)
          have hlow2 : ∀ g, v2.ownBlock = some g → V.heap.size ≤ g := fun g e => by
            rcases hat2 with h | h
            · exact HLOW1.out g (h.symm.trans e)
            · have := Option.some.inj (h.symm.trans e)
              have := HB1.out.size
              simp at *
              omega
          have hnews3 : 0 < n - k → ∃ ad, tailA oo oc k = some ad ∧ ∀ j u, ((out.drop k).map iv)[j]? = some u → w2'.cell? (ad.add j) = some u := fun h => by
            obtain ⟨ad, e1, e2⟩ := HN2.out h
            exact ⟨ad, e1, fun j u hu => by
              have h3 := e2 j u hu
              exact (hb2'.cell (World.block_lt_of_cell? V _ h3)).trans h3⟩
          have hs3 : w.heap.size ≤ w2'.heap.size := Nat.le_trans hwV hb2'.size
          have HO2 := Lib.hid hown2
          have HBB2 := Lib.hid hb2'
          have HLOW2 := Lib.hid hlow2
          have HN3 := Lib.hid hnews3
          clear hown2 hgr2 hat2 hb2' hlow2 hnews3 hcell1
          go_wp2_with (first | (at_builtin; go_must (refine wpList_append3 rfl (.tmp 42) (.tmp 45) 47 47 rfl w.heap.size 3 3 i3 _ 1 8 Try.underlying47 Try.underlying47 HI.out hz0 hz1 hz2 rfl (by decide) v2 (k + 1) ((out.take k).map iv ++ [.int .i64 x]) rfl HO2.out (tailA oo oc k) (n - k) (oc - k) ((out.drop k).map iv) rfl l2 HN3.out (iv_all _) (by unfold maxLen; omega) (by omega) hs3 ?_)))
          intro v3 w3 hown3 hgr3 hat3
          have hb3 : Below V.heap.size V w3 := HBB2.out.grown hgr3 HBB2.out.size (fun g e => HLOW2.out g e)
          have hfin : OwnI w.heap.size w3 v3 (insD out x) := OwnI.of (n := k + 1 + (n - k)) (by rw [HINS.out]; simpa using hown3) (by rw [insD_len]; have := HN.out; omega)
          have HF := Lib.hid hfin
          have HB3 := Lib.hid hb3
          clear hown3 hgr3 hat3 hb3 hfin
          go_wp2_with fail
          go_roundw
          case rel =>
            refine ⟨j + 1, by go_num, hlt, ?_, HB.out.trans ((HBV.out.trans (HB3.out.mono HBV.out.size)).mono hsz)⟩
            rw [rising_take hjl, ← HOUT.out, ← HX.out]
            exact HF.out
          case measure => simp only [intOf]; omega
    · obtain rfl : j = c := by omega
      have hd : decide ((j : Int) < (j : Int)) = false := by simp
      go_wp2_with fail
      go_ret
      refine ⟨_, rfl, ?_, HB.out⟩
      have h1 := HOF.out
      rw [show l.take j = l from by rw [HC.out, List.take_length]] at h1
      exact h1
end Go.Proofs.Ytdeomphilggokaa
