/-
  Proved: the contract of the scanner's escape. Conditions: the table of sorts, a text of at most 4000 bytes below 128.
-/
import Derived.Test.YtbfeailcebfklaaDoorQ2
set_option linter.unusedSimpArgs false
set_option linter.unusedVariables false
namespace Go.Proofs.YtbfeailcebfklaaDoor
open Go.RowKit

def EscPost (s : ByteArray) (b i : Nat) (w : World) (e : Ending) (w' : World) : Prop :=
  w.grownBy w' (some b) ∧ match escD s (i + 1) with
    | some (v, j) => e = .returned (.tuple #[.int .u8 v, .bool true]) ∧ Scan w' b s (j - 1)
    | none => ∃ v, e = .returned (.tuple #[v, .bool false])
theorem EscPost.ok {s : ByteArray} {b i v j : Nat} {w w' : World} {e : Ending} (h : escD s (i + 1) = some (v, j)) (hg : w.grownBy w' (some b)) (he : e = .returned (.tuple #[.int .u8 v, .bool true])) (hs : Scan w' b s (j - 1)) : EscPost s b i w e w' := by
  refine ⟨hg, ?_⟩
  rw [h]
  exact ⟨he, hs⟩
theorem EscPost.bad {s : ByteArray} {b i : Nat} {w w' : World} {e : Ending} {v : Value} (h : escD s (i + 1) = none) (hg : w.grownBy w' (some b)) (he : e = .returned (.tuple #[v, .bool false])) : EscPost s b i w e w' := by
  refine ⟨hg, ?_⟩
  rw [h]
  exact ⟨v, he⟩
/-- the number of the first digits behind a place -/
def nD (s : ByteArray) (i : Nat) : Nat → Nat
  | 0 => 0
  | k + 1 => 10 * nD s i k + (bt s (i + k) - 48)
theorem dig_sort : ∀ c, c < 128 → (srt c = 2 ↔ dig c = true) := by decide +kernel
theorem dig_ge {c : Nat} (h : dig c = true) : 48 ≤ c ∧ c ≤ 57 := by simpa [dig] using h
theorem nD_bd (s : ByteArray) (i k : Nat) (h : ∀ m, m < k → dig (bt s (i + m)) = true) (hk : k ≤ 3) : nD s i k ≤ 999 ∧ (k ≤ 2 → nD s i k ≤ 99) ∧ (k ≤ 1 → nD s i k ≤ 9) := by
  have g : ∀ m, m < k → 48 ≤ bt s (i + m) ∧ bt s (i + m) ≤ 57 := fun m hm => dig_ge (h m hm)
  rcases (by omega : k = 0 ∨ k = 1 ∨ k = 2 ∨ k = 3) with rfl | rfl | rfl | rfl
  · simp [nD]
  · have := g 0 (by omega); simp [nD] at *; omega
  · have := g 0 (by omega); have := g 1 (by omega); simp [nD] at *; omega
  · have := g 0 (by omega); have := g 1 (by omega); have := g 2 (by omega); simp [nD] at *; omega
theorem escD_num {s : ByteArray} {i : Nat} (hi : i < s.size) (h1 : bt s i ≠ 110) (h2 : bt s i ≠ 116) (h3 : ¬ (bt s i = 92 ∨ bt s i = 34)) :
    escD s i = if i + 2 < s.size ∧ dig (bt s i) ∧ dig (bt s (i + 1)) ∧ dig (bt s (i + 2)) then (if nD s i 3 < 256 then some (nD s i 3, i + 3) else none) else none := by
  unfold escD
  have e : nD s i 3 = 10 * (10 * (bt s i - 48) + (bt s (i + 1) - 48)) + (bt s (i + 2) - 48) := by simp [nD]
  rw [if_pos hi, if_neg h1, if_neg h2, if_neg h3, e]
  have e2 : 100 * (bt s i - 48) + 10 * (bt s (i + 1) - 48) + (bt s (i + 2) - 48) = 10 * (10 * (bt s i - 48) + (bt s (i + 1) - 48)) + (bt s (i + 2) - 48) := by omega
  rw [e2]

set_option maxRecDepth 100000 in
set_option maxHeartbeats 2000000 in
theorem escape_any (s : ByteArray) (b i : Nat) (w : World) (hsc : Scan w b s i) (hs : s.size ≤ 4000) (hi : i < s.size) (hso : Sorts w) (hA : ∀ k, k < s.size → bt s k < 128) (hb : 0 ≠ b) :
    Calls Tryd.prog 34 #[pv b] w (EscPost s b i w) := by
  obtain ⟨r0, r1, z1, hbl⟩ := hsc.facts
  have HS := Lib.hid hsc
  have HSO := Lib.hid hso
  have HG := Lib.hid (gr_refl w (some b))
  have hw1 : IntKind.i64.wrap ((i : Int) + 1) = i + 1 := IntWalk.i64_in _ (by omega)
  clear hsc hso
  go_enter Tryd.func34, Tryd.ntmps34
  by_cases hlt : i + 1 < s.size
  · have hd : (((i : Int) + 1) == (s.size : Int)) = false := by simp; omega
    have h0 : (0 : Int) ≤ (i : Int) + 1 := by omega
    have h1 : (i : Int) + 1 < (s.size : Int) := by omega
    have ht : ((i : Int) + 1).toNat = i + 1 := by omega
    obtain ⟨c, hcb⟩ : ∃ c, c = bt s (i + 1) := ⟨_, rfl⟩
    have hck := bt_eq hlt hcb
    have HC := Lib.hid hcb
    clear hcb
    go_wp2_with fail
    have hsX := HS.out.set ((i : Int) + 1) (i + 1) (by omega)
    have hgX := gr_trans HG.out (gr_set w b 1 (.int .i64 ((i : Int) + 1)))
    clear HS HG r0 r1 z1 hbl
    generalize w.setCell ⟨b, 1, none⟩ (.int .i64 ((i : Int) + 1)) = w1 at hsX hgX ⊢
    obtain ⟨r0, r1, z1, hbl⟩ := hsX.facts
    have HS := Lib.hid hsX
    have HG := Lib.hid hgX
    clear hsX hgX
    go_quiet (fail)
    go_wp2_with fail
    have hsX := HS.out.drew nq
    have hgX := gr_trans HG.out (gr_drew w1 nq (some b))
    clear HS HG r0 r1 z1 hbl
    generalize w1.drewN nq = w2 at hsX hgX ⊢
    obtain ⟨r0, r1, z1, hbl⟩ := hsX.facts
    have HS := Lib.hid hsX
    have HG := Lib.hid hgX
    clear hsX hgX
    by_cases c110 : c = 110
    · have e110 : ((c : Int) == 110) = true := by simp [c110]
      go_quiet (fail)
      go_wp2_with fail
      have hsX := HS.out.drew nq
      have hgX := gr_trans HG.out (gr_drew w2 nq (some b))
      clear HS HG r0 r1 z1 hbl
      generalize w2.drewN nq = w3 at hsX hgX ⊢
      obtain ⟨r0, r1, z1, hbl⟩ := hsX.facts
      have HS := Lib.hid hsX
      have HG := Lib.hid hgX
      clear hsX hgX
      clear hck hd ht
      go_ret2
      exact EscPost.ok (v := 10) (j := i + 2) (by unfold escD; rw [if_pos hlt, ← HC.out, if_pos c110]) HG.out rfl (by show Scan _ _ _ (i + 2 - 1); exact HS.out)
    · have e110 : ((c : Int) == 110) = false := by simp; omega
      by_cases c116 : c = 116
      · have e116 : ((c : Int) == 116) = true := by simp [c116]
        go_quiet (fail)
        go_wp2_with fail
        have hsX := HS.out.drew nq
        have hgX := gr_trans HG.out (gr_drew w2 nq (some b))
        clear HS HG r0 r1 z1 hbl
        generalize w2.drewN nq = w3 at hsX hgX ⊢
        obtain ⟨r0, r1, z1, hbl⟩ := hsX.facts
        have HS := Lib.hid hsX
        have HG := Lib.hid hgX
        clear hsX hgX
        clear hck hd ht
        go_ret2
        exact EscPost.ok (v := 9) (j := i + 2) (by unfold escD; rw [if_pos hlt, ← HC.out, if_neg c110, if_pos c116]) HG.out rfl (by show Scan _ _ _ (i + 2 - 1); exact HS.out)
      · have e116 : ((c : Int) == 116) = false := by simp; omega
        by_cases c92 : c = 92
        · have e92 : ((c : Int) == 92) = true := by simp [c92]
          go_quiet (fail)
          go_wp2_with fail
          have hsX := HS.out.drew nq
          have hgX := gr_trans HG.out (gr_drew w2 nq (some b))
          clear HS HG r0 r1 z1 hbl
          generalize w2.drewN nq = w3 at hsX hgX ⊢
          obtain ⟨r0, r1, z1, hbl⟩ := hsX.facts
          have HS := Lib.hid hsX
          have HG := Lib.hid hgX
          clear hsX hgX
          clear hck hd ht
          go_ret2
          exact EscPost.ok (v := 92) (j := i + 2) (by unfold escD; rw [if_pos hlt, ← HC.out, if_neg c110, if_neg c116, if_pos (.inl c92), c92]) HG.out rfl (by show Scan _ _ _ (i + 2 - 1); exact HS.out)
        · have e92 : ((c : Int) == 92) = false := by simp; omega
          by_cases c34 : c = 34
          · have e34 : ((c : Int) == 34) = true := by simp [c34]
            go_quiet (fail)
            go_wp2_with fail
            have hsX := HS.out.drew nq
            have hgX := gr_trans HG.out (gr_drew w2 nq (some b))
            clear HS HG r0 r1 z1 hbl
            generalize w2.drewN nq = w3 at hsX hgX ⊢
            obtain ⟨r0, r1, z1, hbl⟩ := hsX.facts
            have HS := Lib.hid hsX
            have HG := Lib.hid hgX
            clear hsX hgX
            clear hck hd ht
            go_ret2
            exact EscPost.ok (v := 34) (j := i + 2) (by unfold escD; rw [if_pos hlt, ← HC.out, if_neg c110, if_neg c116, if_pos (.inr c34), c34]) HG.out rfl (by show Scan _ _ _ (i + 2 - 1); exact HS.out)
          · have e34 : ((c : Int) == 34) = false := by simp; omega
            have hes := escD_num hlt (by rw [← HC.out]; exact c110) (by rw [← HC.out]; exact c116) (by rw [← HC.out]; omega)
            have HES := Lib.hid hes
            clear hes
            go_quiet (fail)
            go_wp2_with fail
            have hsX := HS.out.drew nq
            have hgX := gr_trans HG.out (gr_drew w2 nq (some b))
            clear HS HG r0 r1 z1 hbl
            generalize w2.drewN nq = w3 at hsX hgX ⊢
            obtain ⟨r0, r1, z1, hbl⟩ := hsX.facts
            have HS := Lib.hid hsX
            have HG := Lib.hid hgX
            clear hsX hgX
            clear hck hd ht
            clear e110 e116 e92 e34 c110 c116 c92 c34
            go_loopw [5, 41] (fun n j wr => ∃ k : Nat, k ≤ 3 ∧ i + 1 + k ≤ s.size ∧ j = .int .i64 k ∧ n = .int .i64 (nD s (i + 1) k) ∧ (∀ m, m < k → dig (bt s (i + 1 + m)) = true) ∧ Scan wr b s (i + 1 + k) ∧ w.grownBy wr (some b)) (fun _ j _ => 3 - (intOf j).toNat)
            case atStart => exact ⟨0, by omega, by omega, rfl, rfl, fun m hm => absurd hm (by omega), HS.out, HG.out⟩
            case round =>
              obtain ⟨k, hk, hks, rfl, rfl, hdg, hsc, hgr⟩ := hrel
              have hbd := nD_bd s (i + 1) k hdg hk
              have HDG := Lib.hid hdg
              clear HS HG r0 r1 z1 hbl
              obtain ⟨r0, r1, z1, hbl⟩ := hsc.facts
              have HS := Lib.hid hsc
              have HG := Lib.hid hgr
              clear hsc hgr hdg
              by_cases hk3 : k < 3
              · have ek : decide ((k : Int) < 3) = true := by simp; omega
                by_cases hks2 : i + 1 + k < s.size
                · have hd : (((i + 1 + k : Nat) : Int) == (s.size : Int)) = false := by simp; omega
                  have h0 : (0 : Int) ≤ ((i + 1 + k : Nat) : Int) := by omega
                  have h1 : ((i + 1 + k : Nat) : Int) < (s.size : Int) := by omega
                  have ht : ((i + 1 + k : Nat) : Int).toNat = i + 1 + k := by omega
                  obtain ⟨c', hcb⟩ : ∃ c', c' = bt s (i + 1 + k) := ⟨_, rfl⟩
                  have hck := bt_eq hks2 hcb
                  have hc := hA _ hks2
                  rw [← hcb] at hc
                  have HC2 := Lib.hid hcb
                  have hsr : wr.cell? ⟨0, c', none⟩ = some (.int .i64 (srt c')) := gr_cell HG.out hb (HSO.out c' hc)
                  have hds := dig_sort c' hc
                  clear hcb
                  have c0 : (0 : Int) ≤ (c' : Int) := by omega
                  have c1 : (c' : Int) < 128 := by omega
                  generalize hq : i + 1 + k = q at *
                  cases hdd : dig c' with
                  | true =>
                    have hs2 : srt c' = 2 := hds.2 hdd
                    rw [hs2] at hsr
                    have hge := dig_ge hdd
                    have hw48 : IntKind.u8.wrap ((c' : Int) - 48) = (c' : Int) - 48 := IntWalk.u8_in _ (by omega)
                    have hwm : IntKind.i64.wrap (10 * (nD s (i + 1) k : Int)) = 10 * (nD s (i + 1) k : Int) := IntWalk.i64_in _ (by omega)
                    have HDD := Lib.hid hdd
                    clear hdd hds hs2
                    go_wp2_with fail
                    go_quiet (fail)
                    go_wp2_with fail
                    have hsX := HS.out.drew nq
                    have hgX := gr_trans HG.out (gr_drew wr nq (some b))
                    clear HS HG r0 r1 z1 hbl hsr
                    generalize wr.drewN nq = w4 at hsX hgX ⊢
                    obtain ⟨r0, r1, z1, hbl⟩ := hsX.facts
                    have HS := Lib.hid hsX
                    have HG := Lib.hid hgX
                    clear hsX hgX
                    have hwa : IntKind.i64.wrap (10 * (nD s (i + 1) k : Int) + ((c' : Int) - 48)) = 10 * (nD s (i + 1) k : Int) + ((c' : Int) - 48) := IntWalk.i64_in _ (by omega)
                    have hwc : IntKind.i64.wrap ((c' : Int) - 48) = (c' : Int) - 48 := IntWalk.i64_in _ (by omega)
                    have hwx : IntKind.i64.wrap ((q : Int) + 1) = q + 1 := IntWalk.i64_in _ (by omega)
                    go_quiet (fail)
                    go_wp2_with fail
                    go_roundw
                    case rel =>
                      refine ⟨k + 1, by omega, by omega, by go_num, ?_, ?_, ?_, gr_trans (gr_trans HG.out (gr_drew _ _ _)) (gr_set _ _ _ _)⟩
                      · have e : nD s (i + 1) (k + 1) = 10 * nD s (i + 1) k + (bt s (i + 1 + k) - 48) := rfl
                        rw [e, hq, ← HC2.out]
                        congr 1
                        omega
                      · intro m hm
                        by_cases hmk : m = k
                        · rw [hmk, hq, ← HC2.out]; exact HDD.out
                        · exact HDG.out m (by omega)
                      · exact (HS.out.drew _).set _ _ (by omega)
                    case measure => simp [intOf]; omega
                  | false =>
                    have hs2 : ((srt c' : Int) != 2) = true := by
                      have : srt c' ≠ 2 := fun h => by rw [hds.1 h] at hdd; cases hdd
                      simp; omega
                    have HDD := Lib.hid hdd
                    clear hdd hds
                    go_wp2_with fail
                    go_quiet (fail)
                    go_wp2_with fail
                    go_ret2
                    refine EscPost.bad ?_ (gr_trans HG.out (gr_drew _ _ _)) rfl
                    rw [HES.out, if_neg]
                    rintro ⟨_, d1, d2, d3⟩
                    have hdf := HDD.out
                    rw [HC2.out, ← hq] at hdf
                    rcases (by omega : k = 0 ∨ k = 1 ∨ k = 2) with rfl | rfl | rfl
                    · rw [show i + 1 + 0 = i + 1 from rfl, d1] at hdf; cases hdf
                    · rw [d2] at hdf; cases hdf
                    · rw [d3] at hdf; cases hdf
                · generalize hq : i + 1 + k = q at *
                  have hd : ((q : Int) == (s.size : Int)) = true := by simp; omega
                  go_wp2_with fail
                  go_quiet (fail)
                  go_wp2_with fail
                  go_ret2
                  refine EscPost.bad ?_ (gr_trans HG.out (gr_drew _ _ _)) rfl
                  rw [HES.out, if_neg]
                  rintro ⟨d0, _⟩
                  omega
              · obtain rfl : k = 3 := by omega
                have ek : ¬ ((3 : Int) < 3) := by omega
                have hes2 := HES.out
                rw [if_pos ⟨by omega, HDG.out 0 (by omega), HDG.out 1 (by omega), HDG.out 2 (by omega)⟩] at hes2
                have HES2 := Lib.hid hes2
                clear hes2
                have hwx : IntKind.i64.wrap (((i + 1 + 3 : Nat) : Int) - 1) = ((i + 1 + 3 : Nat) : Int) - 1 := IntWalk.i64_in _ (by omega)
                generalize hn : nD s (i + 1) 3 = n at *
                by_cases hlt2 : n < 256
                · have hw8 : IntKind.u8.wrap (n : Int) = n := IntWalk.u8_in _ (by omega)
                  have hd2 : decide ((n : Int) < 256) = true := by simp; omega
                  go_wp2_with fail
                  go_ret2
                  refine EscPost.ok (v := n) (j := i + 1 + 3) (by rw [HES2.out, if_pos hlt2]) (gr_trans HG.out (gr_set _ _ _ _)) rfl (HS.out.set _ _ (by omega))
                · have hd2 : decide ((n : Int) < 256) = false := by simp; omega
                  go_wp2_with fail
                  go_ret2
                  exact EscPost.bad (by rw [HES2.out, if_neg hlt2]) (gr_trans HG.out (gr_set _ _ _ _)) rfl
  · have hd : (((i : Int) + 1) == (s.size : Int)) = true := by simp; omega
    go_wp2_with fail
    have hsX := HS.out.set ((i : Int) + 1) (i + 1) (by omega)
    have hgX := gr_trans HG.out (gr_set w b 1 (.int .i64 ((i : Int) + 1)))
    clear HS HG r0 r1 z1 hbl
    generalize w.setCell ⟨b, 1, none⟩ (.int .i64 ((i : Int) + 1)) = w1 at hsX hgX ⊢
    obtain ⟨r0, r1, z1, hbl⟩ := hsX.facts
    have HS := Lib.hid hsX
    have HG := Lib.hid hgX
    clear hsX hgX
    go_quiet (fail)
    go_wp2_with fail
    have hsX := HS.out.drew nq
    have hgX := gr_trans HG.out (gr_drew w1 nq (some b))
    clear HS HG r0 r1 z1 hbl
    generalize w1.drewN nq = w2 at hsX hgX ⊢
    obtain ⟨r0, r1, z1, hbl⟩ := hsX.facts
    have HS := Lib.hid hsX
    have HG := Lib.hid hgX
    clear hsX hgX
    go_ret2
    exact EscPost.bad (by unfold escD; rw [if_neg hlt]) HG.out rfl

end Go.Proofs.YtbfeailcebfklaaDoor
