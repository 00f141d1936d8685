/-
  Proved: the contract of the scanner's escape; the contract of the scanner's text; the contracts of isPair, isWord. Conditions: the table of sorts, a text of at most 4000 bytes below 128.
-/
import Derived.Test.YthehjeeiodbkjaaGreatDoorA01
import Derived.Test.YthehjeeiodbkjaaGreatDoorA16
import Derived.Test.YthehjeeiodbkjaaGreatDoorA05
set_option linter.unusedSimpArgs false
set_option linter.unusedVariables false
set_option maxRecDepth 100000
set_option maxHeartbeats 16000000
namespace Go.Proofs.YthehjeeiodbkjaaGreatDoor
open Go.RowKit
def EscPost (s : ByteArray) (b i : Nat) (w : World) (e : Ending) (w' : World) : Prop :=
 w.grownBy w' (some b) ∧ match escD s (i + 1) with
  | some (v, j) => e = .returned (.tuple #[.int .u8 v, .bool true]) ∧ Scan w' b s (j - 1)
  | none => ∃ v, e = .returned (.tuple #[v, .bool false])
theorem EscPost.ok {s : ByteArray} {b i v j : Nat} {w w' : World} {e : Ending} (h : escD s (i + 1) = some (v, j)) (hg : w.grownBy w' (some b)) (he : e = .returned (.tuple #[.int .u8 v, .bool true])) (hs : Scan w' b s (j - 1)) : EscPost s b i w e w' := by
 refine ⟨hg, ?_⟩
 rw [h]
 exact ⟨he, hs⟩
theorem EscPost.bad {s : ByteArray} {b i : Nat} {w w' : World} {e : Ending} {v : Value} (h : escD s (i + 1) = none) (hg : w.grownBy w' (some b)) (he : e = .returned (.tuple #[v, .bool false])) : EscPost s b i w e w' := by
 refine ⟨hg, ?_⟩
 rw [h]
 exact ⟨v, he⟩
def nD (s : ByteArray) (i : Nat) : Nat → Nat
 | 0 => 0
 | k + 1 => 10 * nD s i k + (bt s (i + k) - 48)
theorem dig_sort : ∀ c, c < 128 → (srt c = 2 ↔ dig c = true) := by decide +kernel
theorem dig_ge {c : Nat} (h : dig c = true) : 48 ≤ c ∧ c ≤ 57 := by simpa [dig] using h
theorem nD_bd (s : ByteArray) (i k : Nat) (h : ∀ m, m < k → dig (bt s (i + m)) = true) (hk : k ≤ 3) : nD s i k ≤ 999 ∧ (k ≤ 2 → nD s i k ≤ 99) ∧ (k ≤ 1 → nD s i k ≤ 9) := by
 have g : ∀ m, m < k → 48 ≤ bt s (i + m) ∧ bt s (i + m) ≤ 57 := fun m hm => dig_ge (h m hm)
 rcases (by omega : k = 0 ∨ k = 1 ∨ k = 2 ∨ k = 3) with rfl | rfl | rfl | rfl
 · simp [nD]
 · have := g 0 (by omega); simp [nD] at *; omega
 · have := g 0 (by omega); have := g 1 (by omega); simp [nD] at *; omega
 · have := g 0 (by omega); have := g 1 (by omega); have := g 2 (by omega); simp [nD] at *; omega
theorem escD_num {s : ByteArray} {i : Nat} (hi : i < s.size) (h1 : bt s i ≠ 110) (h2 : bt s i ≠ 116) (h3 : ¬ (bt s i = 92 ∨ bt s i = 34)) :
 escD s i = if i + 2 < s.size ∧ dig (bt s i) ∧ dig (bt s (i + 1)) ∧ dig (bt s (i + 2)) then (if nD s i 3 < 256 then some (nD s i 3, i + 3) else none) else none := by
 unfold escD
 have e : nD s i 3 = 10 * (10 * (bt s i - 48) + (bt s (i + 1) - 48)) + (bt s (i + 2) - 48) := by simp [nD]
 rw [if_pos hi, if_neg h1, if_neg h2, if_neg h3, e]
 have e2 : 100 * (bt s i - 48) + 10 * (bt s (i + 1) - 48) + (bt s (i + 2) - 48) = 10 * (10 * (bt s i - 48) + (bt s (i + 1) - 48)) + (bt s (i + 2) - 48) := by omega
 rw [e2]
theorem escape_any (s : ByteArray) (b i : Nat) (w : World) (hsc : Scan w b s i) (hs : s.size ≤ 4000) (hi : i < s.size) (hso : Sorts w) (hA : ∀ k, k < s.size → bt s k < 128) (hb : 1 ≠ b) :
 Calls Tryz.prog 128 #[pv b] w (EscPost s b i w) := by
 obtain ⟨r0, r1, z1, hbl⟩ := hsc.facts
 have HS := lh hsc
 have HSO := lh hso
 have HG := lh (gr_refl w (some b))
 have hw1 : IntKind.i64.wrap ((i : Int) + 1) = i + 1 := IntWalk.i64_in _ (by omega)
 clear hsc hso
 go_enter Tryz.func128, Tryz.ntmps128
 by_cases hlt : i + 1 < s.size
 · have hd : (((i : Int) + 1) == (s.size : Int)) = false := by simp; omega
   have h0 : (0 : Int) ≤ (i : Int) + 1 := by omega
   have h1 : (i : Int) + 1 < (s.size : Int) := by omega
   have ht : ((i : Int) + 1).toNat = i + 1 := by omega
   obtain ⟨c, hcb⟩ : ∃ c, c = bt s (i + 1) := ⟨_, rfl⟩
   have hck := bt_eq hlt hcb
   have HC := lh hcb
   clear hcb
   go_wp2_with fail
   have hsX := HS.out.set ((i : Int) + 1) (i + 1) (by omega)
   have hgX := gr_trans HG.out (gr_set w b 1 (.int .i64 ((i : Int) + 1)))
   clear HS HG r0 r1 z1 hbl
   generalize w.setCell ⟨b, 1, none⟩ (.int .i64 ((i : Int) + 1)) = w1 at hsX hgX ⊢
   obtain ⟨r0, r1, z1, hbl⟩ := hsX.facts
   have HS := lh hsX
   have HG := lh hgX
   clear hsX hgX
   go_quiet (fail)
   go_wp2_with fail
   have hsX := HS.out.drew nq
   have hgX := gr_trans HG.out (gr_drew w1 nq (some b))
   clear HS HG r0 r1 z1 hbl
   generalize w1.drewN nq = w2 at hsX hgX ⊢
   obtain ⟨r0, r1, z1, hbl⟩ := hsX.facts
   have HS := lh hsX
   have HG := lh hgX
   clear hsX hgX
   by_cases c110 : c = 110
   · have e110 : ((c : Int) == 110) = true := by simp [c110]
     go_quiet (fail)
     go_wp2_with fail
     have hsX := HS.out.drew nq
     have hgX := gr_trans HG.out (gr_drew w2 nq (some b))
     clear HS HG r0 r1 z1 hbl
     generalize w2.drewN nq = w3 at hsX hgX ⊢
     obtain ⟨r0, r1, z1, hbl⟩ := hsX.facts
     have HS := lh hsX
     have HG := lh hgX
     clear hsX hgX
     clear hck hd ht
     go_ret2
     exact EscPost.ok (v := 10) (j := i + 2) (by unfold escD; rw [if_pos hlt, ← HC.out, if_pos c110]) HG.out rfl (by show Scan _ _ _ (i + 2 - 1); exact HS.out)
   · have e110 : ((c : Int) == 110) = false := by simp; omega
     by_cases c116 : c = 116
     · have e116 : ((c : Int) == 116) = true := by simp [c116]
       go_quiet (fail)
       go_wp2_with fail
       have hsX := HS.out.drew nq
       have hgX := gr_trans HG.out (gr_drew w2 nq (some b))
       clear HS HG r0 r1 z1 hbl
       generalize w2.drewN nq = w3 at hsX hgX ⊢
       obtain ⟨r0, r1, z1, hbl⟩ := hsX.facts
       have HS := lh hsX
       have HG := lh hgX
       clear hsX hgX
       clear hck hd ht
       go_ret2
       exact EscPost.ok (v := 9) (j := i + 2) (by unfold escD; rw [if_pos hlt, ← HC.out, if_neg c110, if_pos c116]) HG.out rfl (by show Scan _ _ _ (i + 2 - 1); exact HS.out)
     · have e116 : ((c : Int) == 116) = false := by simp; omega
       by_cases c92 : c = 92
       · have e92 : ((c : Int) == 92) = true := by simp [c92]
         go_quiet (fail)
         go_wp2_with fail
         have hsX := HS.out.drew nq
         have hgX := gr_trans HG.out (gr_drew w2 nq (some b))
         clear HS HG r0 r1 z1 hbl
         generalize w2.drewN nq = w3 at hsX hgX ⊢
         obtain ⟨r0, r1, z1, hbl⟩ := hsX.facts
         have HS := lh hsX
         have HG := lh hgX
         clear hsX hgX
         clear hck hd ht
         go_ret2
         exact EscPost.ok (v := 92) (j := i + 2) (by unfold escD; rw [if_pos hlt, ← HC.out, if_neg c110, if_neg c116, if_pos (.inl c92), c92]) HG.out rfl (by show Scan _ _ _ (i + 2 - 1); exact HS.out)
       · have e92 : ((c : Int) == 92) = false := by simp; omega
         by_cases c34 : c = 34
         · have e34 : ((c : Int) == 34) = true := by simp [c34]
           go_quiet (fail)
           go_wp2_with fail
           have hsX := HS.out.drew nq
           have hgX := gr_trans HG.out (gr_drew w2 nq (some b))
           clear HS HG r0 r1 z1 hbl
           generalize w2.drewN nq = w3 at hsX hgX ⊢
           obtain ⟨r0, r1, z1, hbl⟩ := hsX.facts
           have HS := lh hsX
           have HG := lh hgX
           clear hsX hgX
           clear hck hd ht
           go_ret2
           exact EscPost.ok (v := 34) (j := i + 2) (by unfold escD; rw [if_pos hlt, ← HC.out, if_neg c110, if_neg c116, if_pos (.inr c34), c34]) HG.out rfl (by show Scan _ _ _ (i + 2 - 1); exact HS.out)
         · have e34 : ((c : Int) == 34) = false := by simp; omega
           have hes := escD_num hlt (by rw [← HC.out]; exact c110) (by rw [← HC.out]; exact c116) (by rw [← HC.out]; omega)
           have HES := lh hes
           clear hes
           go_quiet (fail)
           go_wp2_with fail
           have hsX := HS.out.drew nq
           have hgX := gr_trans HG.out (gr_drew w2 nq (some b))
           clear HS HG r0 r1 z1 hbl
           generalize w2.drewN nq = w3 at hsX hgX ⊢
           obtain ⟨r0, r1, z1, hbl⟩ := hsX.facts
           have HS := lh hsX
           have HG := lh hgX
           clear hsX hgX
           clear hck hd ht
           clear e110 e116 e92 e34 c110 c116 c92 c34
           go_loopw [5, 41] (fun n j wr => ∃ k : Nat, k ≤ 3 ∧ i + 1 + k ≤ s.size ∧ j = .int .i64 k ∧ n = .int .i64 (nD s (i + 1) k) ∧ (∀ m, m < k → dig (bt s (i + 1 + m)) = true) ∧ Scan wr b s (i + 1 + k) ∧ w.grownBy wr (some b)) (fun _ j _ => 3 - (intOf j).toNat)
           case atStart => exact ⟨0, by omega, by omega, rfl, rfl, fun m hm => absurd hm (by omega), HS.out, HG.out⟩
           case round =>
            obtain ⟨k, hk, hks, rfl, rfl, hdg, hsc, hgr⟩ := hrel
            have hbd := nD_bd s (i + 1) k hdg hk
            have HDG := lh hdg
            clear HS HG r0 r1 z1 hbl
            obtain ⟨r0, r1, z1, hbl⟩ := hsc.facts
            have HS := lh hsc
            have HG := lh hgr
            clear hsc hgr hdg
            by_cases hk3 : k < 3
            · have ek : decide ((k : Int) < 3) = true := by simp; omega
              by_cases hks2 : i + 1 + k < s.size
              · have hd : (((i + 1 + k : Nat) : Int) == (s.size : Int)) = false := by simp; omega
                have h0 : (0 : Int) ≤ ((i + 1 + k : Nat) : Int) := by omega
                have h1 : ((i + 1 + k : Nat) : Int) < (s.size : Int) := by omega
                have ht : ((i + 1 + k : Nat) : Int).toNat = i + 1 + k := by omega
                obtain ⟨c', hcb⟩ : ∃ c', c' = bt s (i + 1 + k) := ⟨_, rfl⟩
                have hck := bt_eq hks2 hcb
                have hc := hA _ hks2
                rw [← hcb] at hc
                have HC2 := lh hcb
                have hsr : wr.cell? ⟨1, c', none⟩ = some (.int .i64 (srt c')) := gr_cell HG.out hb (HSO.out c' hc)
                have hds := dig_sort c' hc
                clear hcb
                have c0 : (0 : Int) ≤ (c' : Int) := by omega
                have c1 : (c' : Int) < 128 := by omega
                generalize hq : i + 1 + k = q at *
                cases hdd : dig c' with
                | true =>
                 have hs2 : srt c' = 2 := hds.2 hdd
                 rw [hs2] at hsr
                 have hge := dig_ge hdd
                 have hw48 : IntKind.u8.wrap ((c' : Int) - 48) = (c' : Int) - 48 := IntWalk.u8_in _ (by omega)
                 have hwm : IntKind.i64.wrap (10 * (nD s (i + 1) k : Int)) = 10 * (nD s (i + 1) k : Int) := IntWalk.i64_in _ (by omega)
                 have HDD := lh hdd
                 clear hdd hds hs2
                 go_wp2_with fail
                 go_quiet (fail)
                 go_wp2_with fail
                 have hsX := HS.out.drew nq
                 have hgX := gr_trans HG.out (gr_drew wr nq (some b))
                 clear HS HG r0 r1 z1 hbl hsr
                 generalize wr.drewN nq = w4 at hsX hgX ⊢
                 obtain ⟨r0, r1, z1, hbl⟩ := hsX.facts
                 have HS := lh hsX
                 have HG := lh hgX
                 clear hsX hgX
                 have hwa : IntKind.i64.wrap (10 * (nD s (i + 1) k : Int) + ((c' : Int) - 48)) = 10 * (nD s (i + 1) k : Int) + ((c' : Int) - 48) := IntWalk.i64_in _ (by omega)
                 have hwc : IntKind.i64.wrap ((c' : Int) - 48) = (c' : Int) - 48 := IntWalk.i64_in _ (by omega)
                 have hwx : IntKind.i64.wrap ((q : Int) + 1) = q + 1 := IntWalk.i64_in _ (by omega)
                 go_quiet (fail)
                 go_wp2_with fail
                 go_roundw
                 case rel =>
                  refine ⟨k + 1, by omega, by omega, by go_num, ?_, ?_, ?_, gr_trans (gr_trans HG.out (gr_drew _ _ _)) (gr_set _ _ _ _)⟩
                  · have e : nD s (i + 1) (k + 1) = 10 * nD s (i + 1) k + (bt s (i + 1 + k) - 48) := rfl
                    rw [e, hq, ← HC2.out]
                    congr 1
                    omega
                  · intro m hm
                    by_cases hmk : m = k
                    · rw [hmk, hq, ← HC2.out]; exact HDD.out
                    · exact HDG.out m (by omega)
                  · exact (HS.out.drew _).set _ _ (by omega)
                 case measure => simp [intOf]; omega
                | false =>
                 have hs2 : ((srt c' : Int) != 2) = true := by
                  have : srt c' ≠ 2 := fun h => by rw [hds.1 h] at hdd; cases hdd
                  simp; omega
                 have HDD := lh hdd
                 clear hdd hds
                 go_wp2_with fail
                 go_quiet (fail)
                 go_wp2_with fail
                 go_ret2
                 refine EscPost.bad ?_ (gr_trans HG.out (gr_drew _ _ _)) rfl
                 rw [HES.out, if_neg]
                 rintro ⟨_, d1, d2, d3⟩
                 have hdf := HDD.out
                 rw [HC2.out, ← hq] at hdf
                 rcases (by omega : k = 0 ∨ k = 1 ∨ k = 2) with rfl | rfl | rfl
                 · rw [show i + 1 + 0 = i + 1 from rfl, d1] at hdf; cases hdf
                 · rw [d2] at hdf; cases hdf
                 · rw [d3] at hdf; cases hdf
              · generalize hq : i + 1 + k = q at *
                have hd : ((q : Int) == (s.size : Int)) = true := by simp; omega
                go_wp2_with fail
                go_quiet (fail)
                go_wp2_with fail
                go_ret2
                refine EscPost.bad ?_ (gr_trans HG.out (gr_drew _ _ _)) rfl
                rw [HES.out, if_neg]
                rintro ⟨d0, _⟩
                omega
            · obtain rfl : k = 3 := by omega
              have ek : ¬ ((3 : Int) < 3) := by omega
              have hes2 := HES.out
              rw [if_pos ⟨by omega, HDG.out 0 (by omega), HDG.out 1 (by omega), HDG.out 2 (by omega)⟩] at hes2
              have HES2 := lh hes2
              clear hes2
              have hwx : IntKind.i64.wrap (((i + 1 + 3 : Nat) : Int) - 1) = ((i + 1 + 3 : Nat) : Int) - 1 := IntWalk.i64_in _ (by omega)
              generalize hn : nD s (i + 1) 3 = n at *
              by_cases hlt2 : n < 256
              · have hw8 : IntKind.u8.wrap (n : Int) = n := IntWalk.u8_in _ (by omega)
                have hd2 : decide ((n : Int) < 256) = true := by simp; omega
                go_wp2_with fail
                go_ret2
                refine EscPost.ok (v := n) (j := i + 1 + 3) (by rw [HES2.out, if_pos hlt2]) (gr_trans HG.out (gr_set _ _ _ _)) rfl (HS.out.set _ _ (by omega))
              · have hd2 : decide ((n : Int) < 256) = false := by simp; omega
                go_wp2_with fail
                go_ret2
                exact EscPost.bad (by rw [HES2.out, if_neg hlt2]) (gr_trans HG.out (gr_set _ _ _ _)) rfl
 · have hd : (((i : Int) + 1) == (s.size : Int)) = true := by simp; omega
   go_wp2_with fail
   have hsX := HS.out.set ((i : Int) + 1) (i + 1) (by omega)
   have hgX := gr_trans HG.out (gr_set w b 1 (.int .i64 ((i : Int) + 1)))
   clear HS HG r0 r1 z1 hbl
   generalize w.setCell ⟨b, 1, none⟩ (.int .i64 ((i : Int) + 1)) = w1 at hsX hgX ⊢
   obtain ⟨r0, r1, z1, hbl⟩ := hsX.facts
   have HS := lh hsX
   have HG := lh hgX
   clear hsX hgX
   go_quiet (fail)
   go_wp2_with fail
   have hsX := HS.out.drew nq
   have hgX := gr_trans HG.out (gr_drew w1 nq (some b))
   clear HS HG r0 r1 z1 hbl
   generalize w1.drewN nq = w2 at hsX hgX ⊢
   obtain ⟨r0, r1, z1, hbl⟩ := hsX.facts
   have HS := lh hsX
   have HG := lh hgX
   clear hsX hgX
   go_ret2
   exact EscPost.bad (by unfold escD; rw [if_neg hlt]) HG.out rfl
theorem info5 : (Tryz.prog.info? 5).map (fun i => (i.zero, i.size, i.bytes)) = some (some (.int .u8 0), 1, 1) := by kernel_rfl
theorem conv_any {P : Program} {w : World} {B : Nat} {v : Value} {l : List UInt8} (src dst e : TypeId) (hs : P.underlying src = some (.slice e)) (he : P.underlying e = some (.int .u8)) (hd : P.underlying dst = some .string) (hown : w.ownsRow B e 1 v l.length (l.map bv)) :
 (convert src dst v).run P w = .ok (.string ⟨l.toArray⟩) w := by
 by_cases hv : v = .slice none 0 0
 · subst hv
   have hl : l = [] := by
    rcases hown.2 with ⟨_, h⟩ | ⟨_, _, _, h, _⟩
    · exact List.eq_nil_of_length_eq_zero h
    · simp at h
   subst hl
   exact run_convert_bytes_nil w src e hs he 0 0 dst hd
 · exact conv_own src dst e hs he hd hown hv
theorem own_any {w : World} {B : Nat} {v : Value} {n e size : Nat} {xs : List Value} (hown : w.ownsRow B e size v n xs) : ∃ a cap, v = .slice a n cap := by
 rcases hown.2 with ⟨rfl, h⟩ | ⟨g, cap, cur, rfl, _⟩
 · exact ⟨none, 0, by rw [h]⟩
 · exact ⟨_, cap, rfl⟩
theorem bv_of {c : Nat} (h : c < 256) : bv (UInt8.ofNat c) = .int .u8 c := by
 have e : (UInt8.ofNat c).toNat = c := by simp; omega
 unfold bv; rw [e]
def TextPost (s : ByteArray) (b i : Nat) (w : World) (e : Ending) (w' : World) : Prop :=
 w.grownBy w' (some b) ∧ match textD s (i + 1) [] with
  | some (r, j) => e = .returned (.tuple #[.string ⟨r.toArray⟩, .bool true]) ∧ Scan w' b s j
  | none => ∃ x, e = .returned (.tuple #[.string x, .bool false])
theorem TextPost.ok {s : ByteArray} {b i j : Nat} {r : List UInt8} {w w' : World} {e : Ending} (h : textD s (i + 1) [] = some (r, j)) (hg : w.grownBy w' (some b)) (he : e = .returned (.tuple #[.string ⟨r.toArray⟩, .bool true])) (hs : Scan w' b s j) : TextPost s b i w e w' := by
 refine ⟨hg, ?_⟩
 rw [h]
 exact ⟨he, hs⟩
theorem TextPost.bad {s : ByteArray} {b i : Nat} {w w' : World} {e : Ending} {x : ByteArray} (h : textD s (i + 1) [] = none) (hg : w.grownBy w' (some b)) (he : e = .returned (.tuple #[.string x, .bool false])) : TextPost s b i w e w' := by
 refine ⟨hg, ?_⟩
 rw [h]
 exact ⟨x, he⟩
def TxRel2 (s : ByteArray) (w : World) (b i : Nat) (v : Value) (wr : World) : Prop :=
 ∃ (k : Nat) (l : List UInt8), i < k ∧ k ≤ s.size ∧ l.length ≤ k ∧ Scan wr b s k ∧ w.grownBy wr (some b) ∧ wr.ownsRow w.heap.size 5 1 v l.length (l.map bv) ∧ textD s k l = textD s (i + 1) []
theorem text_any (s : ByteArray) (b i : Nat) (w : World) (hsc : Scan w b s i) (hs : s.size ≤ 4000) (hi : i < s.size) (hso : Sorts w) (hA : ∀ k, k < s.size → bt s k < 128) (hb : 1 ≠ b) :
 Calls Tryz.prog 69 #[pv b] w (TextPost s b i w) := by
 obtain ⟨i5, hi5, hz0, hz1, hz2⟩ := info_parts info5
 have HI := lh hi5
 obtain ⟨r0, r1, z1, hbl⟩ := hsc.facts
 have HS := lh hsc
 have HSO := lh hso
 have hw1 : IntKind.i64.wrap ((i : Int) + 1) = i + 1 := IntWalk.i64_in _ (by omega)
 clear hsc hso hi5
 go_enter Tryz.func69, Tryz.ntmps69
 go_wp2_with fail
 go_loopw [4] (fun v wr => TxRel2 s w b i v wr) (fun _ wr => s.size - atOf wr b)
 case atStart => exact ⟨i + 1, [], by omega, by omega, by simp, HS.out.set _ _ (by omega), gr_set _ _ _ _, World.ownsRow_nil _ _ _ _, rfl⟩
 case round =>
  clear r0 r1 z1 hbl
  obtain ⟨k, l, hik, hk, hl, hsc, hgr, hown, hc⟩ := hrel
  obtain ⟨ao, cap, rfl⟩ := own_any hown
  have hat := hsc.at
  obtain ⟨r0, r1, z1, hbl⟩ := hsc.facts
  clear HS
  have HS := lh hsc
  have HG := lh hgr
  have HO := lh hown
  have HC := lh hc
  have HAT := lh hat
  clear hsc hgr hown hc hat
  by_cases hlt : k < s.size
  · have h0 : (0 : Int) ≤ (k : Int) := by omega
    have h1 : (k : Int) < (s.size : Int) := by omega
    obtain ⟨c, hcb⟩ : ∃ c, c = bt s k := ⟨_, rfl⟩
    have hck := bt_eq hlt hcb
    have hc8 := hA k hlt
    rw [← hcb] at hc8
    have HCB := lh hcb
    clear hcb
    by_cases c34 : c = 34
    · have e34 : ((c : Int) == 34) = true := by simp [c34]
      have hst := textD_quote (l := l) hlt (by rw [← HCB.out]; exact c34)
      rw [HC.out] at hst
      have HST := lh hst
      clear hst
      have hwx : IntKind.i64.wrap ((k : Int) + 1) = k + 1 := IntWalk.i64_in _ (by omega)
      have hcv : ∀ n, (convert 74 9 (.slice ao l.length cap)).run Tryz.prog ((wr.drewN n).setCell ⟨b, 1, none⟩ (.int .i64 ((k : Int) + 1))) = .ok (.string ⟨l.toArray⟩) ((wr.drewN n).setCell ⟨b, 1, none⟩ (.int .i64 ((k : Int) + 1))) :=
       fun n => conv_any 74 9 5 Tryz.underlying74 Tryz.underlying5 Tryz.underlying9 (own_set (own_keep HO.out (gr_drew wr n none) (fun q h => by cases h)) (HS.out.drew n) (by decide) _ _)
      by_cases h2 : l.length ≤ 200
      · have hd : decide ((l.length : Int) ≤ 200) = true := by simp; omega
        have hd2 : decide ((200 : Int) < (l.length : Int)) = false := by simp; omega
        go_wp2_with fail
        go_quiet (fail)
        go_wp2_with fail
        go_quiet (fail)
        go_wp2_with fail
        go_ret2
        exact TextPost.ok (r := l) (j := k + 1) (by rw [HST.out, if_pos h2]) (gr_trans HG.out (gr_trans (gr_drew _ _ _) (gr_set _ _ _ _))) rfl ((HS.out.drew _).set _ _ (by omega))
      · have hd : decide ((l.length : Int) ≤ 200) = false := by simp; omega
        have hd2 : decide ((200 : Int) < (l.length : Int)) = true := by simp; omega
        go_wp2_with fail
        go_quiet (fail)
        go_wp2_with fail
        go_quiet (fail)
        go_wp2_with fail
        go_ret2
        exact TextPost.bad (x := ⟨l.toArray⟩) (by rw [HST.out, if_neg h2]) (gr_trans HG.out (gr_trans (gr_drew _ _ _) (gr_set _ _ _ _))) rfl
    · have e34 : ((c : Int) == 34) = false := by simp; omega
      by_cases c32 : c < 32
      · have e32 : decide ((c : Int) < 32) = true := by simp; omega
        have hst := textD_low (l := l) hlt (by rw [← HCB.out]; exact c32)
        rw [HC.out] at hst
        have HST := lh hst
        clear hst c34
        go_wp2_with fail
        go_quiet (fail)
        go_wp2_with fail
        go_quiet (fail)
        go_wp2_with fail
        go_ret2
        exact TextPost.bad HST.out (gr_trans HG.out (gr_drew _ _ _)) rfl
      · have e32 : decide ((c : Int) < 32) = false := by simp; omega
        by_cases c92 : c = 92
        · have e92 : ((c : Int) == 92) = true := by simp [c92]
          have h92 : bt s k = 92 := by rw [← HCB.out]; exact c92
          have H92 := lh h92
          clear h92 c34 c32
          go_wp2_with fail
          go_quiet (fail)
          go_wp2_with fail
          have hsX := HS.out.drew nq
          have hgX := gr_trans HG.out (gr_drew wr nq (some b))
          have hoX := own_keep HO.out (gr_drew wr nq none) (fun q h => by cases h)
          clear HS HG HO r0 r1 z1 hbl
          generalize wr.drewN nq = w1 at hsX hgX hoX ⊢
          obtain ⟨r0, r1, z1, hbl⟩ := hsX.facts
          have HS := lh hsX
          have HG := lh hgX
          have HO := lh hoX
          clear hsX hgX hoX
          go_quiet (fail)
          go_wp2_with fail
          have hsX := HS.out.drew nq
          have hgX := gr_trans HG.out (gr_drew w1 nq (some b))
          have hoX := own_keep HO.out (gr_drew w1 nq none) (fun q h => by cases h)
          clear HS HG HO r0 r1 z1 hbl hck
          generalize w1.drewN nq = w2 at hsX hgX hoX ⊢
          obtain ⟨r0, r1, z1, hbl⟩ := hsX.facts
          have HS := lh hsX
          have HG := lh hgX
          have HO := lh hoX
          clear hsX hgX hoX
          refine (escape_any s b k _ HS.out hs hlt (HSO.out.gr HG.out hb) hA hb).mono ?_
          rintro e w3 ⟨hg3, hm⟩
          cases he : escD s (k + 1) with
          | none =>
           rw [he] at hm
           obtain ⟨v, rfl⟩ := hm
           have hst := textD_bad (l := l) hlt H92.out he
           rw [HC.out] at hst
           have HST := lh hst
           have HG3 := lh (gr_trans HG.out hg3)
           clear hst he hg3
           go_wp2_with fail
           go_ret2
           exact TextPost.bad HST.out HG3.out rfl
          | some r =>
           obtain ⟨v, j⟩ := r
           rw [he] at hm
           obtain ⟨rfl, hs3⟩ := hm
           have hlj := escD_lt he
           have hst := textD_esc (l := l) hlt H92.out he
           rw [HC.out] at hst
           have HST := lh hst
           have hgX := gr_trans HG.out hg3
           have hoX := own_keep HO.out hg3 (fun q hq => by cases hq; exact ⟨_, _, _, HS.out, by decide⟩)
           clear hst he HS HG HO r0 r1 z1 hbl hg3
           obtain ⟨r0, r1, z1, hbl⟩ := hs3.facts
           have HS := lh hs3
           have HG := lh hgX
           have HO := lh hoX
           clear hs3 hgX hoX
           have hwj : IntKind.i64.wrap (((j - 1 : Nat) : Int) + 1) = ((j - 1 : Nat) : Int) + 1 := IntWalk.i64_in _ (by omega)
           have hnb : (Value.slice ao l.length cap).ownBlock ≠ some b := own_ne HS.out HO.out (by decide)
           have hlo : ∀ g, (Value.slice ao l.length cap).ownBlock = some g → w.heap.size ≤ g := fun g hg => (HO.out.lt g hg).1
           have hWs : w.heap.size ≤ w3.heap.size := HG.out.size
           go_wp2_with (first | (at_builtin; go_must (refine wpList_append_own _ rfl (.tmp 70) (.tmp 72) 74 rfl w.heap.size 5 i5 (.int .u8 0) 1 1 Tryz.underlying74 HI.out hz0 hz1 hz2 rfl (by decide) (.slice ao l.length cap) l.length (l.map bv) rfl (HO.out.alloc _) ⟨w3.heap.size, 0, none⟩ 1 1 [.int .u8 (v : Nat)] rfl rfl (new_cells (c := #[.int .u8 (v : Nat)]) _ (by simp)) (by intro u hu; simp at hu; subst hu; rfl) (by unfold maxLen; omega) (by omega) (by simp; omega) ?_)))
           intro v4 w4 hown4 hg4 hnil4
           obtain ⟨g4, cap4, hv4⟩ := own_shape hown4 hnil4
           rw [hv4] at hown4 ⊢
           clear hnil4 hv4
           have hs4 : Scan w4 b s _ := blk_grown (blk_alloc HS.out _) hg4 hnb
           have hgX := gr_own (gr_trans HG.out (World.grownBy_alloc w3 _ (some b))) hg4 hlo
           have hoX : w4.ownsRow w.heap.size 5 1 (.slice (some ⟨g4, 0, none⟩) (l.length + 1) cap4) (l ++ [UInt8.ofNat v]).length ((l ++ [UInt8.ofNat v]).map bv) := by
            rw [List.length_append, List.map_append, List.map_cons, List.map_nil, bv_of hlj.2.2]
            exact hown4
           clear HS HG HO r0 r1 z1 hbl hg4 hown4 hnb hlo
           obtain ⟨r0, r1, z1, hbl⟩ := hs4.facts
           have HS := lh hs4
           have HG := lh hgX
           have HO := lh hoX
           clear hs4 hgX hoX
           go_wp2_with fail
           go_roundw
           case rel => exact ⟨j, l ++ [UInt8.ofNat v], by omega, by omega, by simp; omega, HS.out.set _ _ (by omega), gr_trans HG.out (gr_set _ _ _ _), own_set HO.out HS.out (by decide) _ _, HST.out.symm⟩
           case measure => rw [(HS.out.set (((j - 1 : Nat) : Int) + 1) (j) (by omega)).at, HAT.out]; omega
        · have e92 : ((c : Int) == 92) = false := by simp; omega
          have hst := textD_byte (l := l) hlt (by rw [← HCB.out]; exact c34) (by rw [← HCB.out]; omega) (by rw [← HCB.out]; exact c92)
          rw [HC.out, ← HCB.out] at hst
          have HST := lh hst
          have hwj : IntKind.i64.wrap ((k : Int) + 1) = (k : Int) + 1 := IntWalk.i64_in _ (by omega)
          clear hst c34 c32 c92
          go_wp2_with fail
          go_quiet (fail)
          go_wp2_with fail
          have hsX := HS.out.drew nq
          have hgX := gr_trans HG.out (gr_drew wr nq (some b))
          have hoX := own_keep HO.out (gr_drew wr nq none) (fun q h => by cases h)
          clear HS HG HO r0 r1 z1 hbl
          generalize wr.drewN nq = w1 at hsX hgX hoX ⊢
          obtain ⟨r0, r1, z1, hbl⟩ := hsX.facts
          have HS := lh hsX
          have HG := lh hgX
          have HO := lh hoX
          clear hsX hgX hoX
          go_quiet (fail)
          go_upto_region 16 with fail
          have hsX := HS.out.drew nq
          have hgX := gr_trans HG.out (gr_drew w1 nq (some b))
          have hoX := own_keep HO.out (gr_drew w1 nq none) (fun q h => by cases h)
          clear HS HG HO r0 r1 z1 hbl hck
          generalize w1.drewN nq = w2 at hsX hgX hoX ⊢
          obtain ⟨r0, r1, z1, hbl⟩ := hsX.facts
          have HS := lh hsX
          have HG := lh hgX
          have HO := lh hoX
          clear hsX hgX hoX
          have hnb : (Value.slice ao l.length cap).ownBlock ≠ some b := own_ne HS.out HO.out (by decide)
          have hlo : ∀ g, (Value.slice ao l.length cap).ownBlock = some g → w.heap.size ≤ g := fun g hg => (HO.out.lt g hg).1
          have hWs : w.heap.size ≤ w2.heap.size := HG.out.size
          go_wp2_with (first | (at_builtin; go_must (refine wpList_append_own _ rfl (.tmp 70) (.tmp 72) 74 rfl w.heap.size 5 i5 (.int .u8 0) 1 1 Tryz.underlying74 HI.out hz0 hz1 hz2 rfl (by decide) (.slice ao l.length cap) l.length (l.map bv) rfl (HO.out.alloc _) ⟨w2.heap.size, 0, none⟩ 1 1 [.int .u8 (c : Nat)] rfl rfl (new_cells (c := #[.int .u8 (c : Nat)]) _ (by simp)) (by intro u hu; simp at hu; subst hu; rfl) (by unfold maxLen; omega) (by omega) (by simp; omega) ?_)))
          intro v4 w4 hown4 hg4 hnil4
          obtain ⟨g4, cap4, hv4⟩ := own_shape hown4 hnil4
          rw [hv4] at hown4 ⊢
          clear hnil4 hv4
          have hs4 : Scan w4 b s _ := blk_grown (blk_alloc HS.out _) hg4 hnb
          have hgX := gr_own (gr_trans HG.out (World.grownBy_alloc w2 _ (some b))) hg4 hlo
          have hoX : w4.ownsRow w.heap.size 5 1 (.slice (some ⟨g4, 0, none⟩) (l.length + 1) cap4) (l ++ [UInt8.ofNat c]).length ((l ++ [UInt8.ofNat c]).map bv) := by
           rw [List.length_append, List.map_append, List.map_cons, List.map_nil, bv_of (by omega)]
           exact hown4
          clear HS HG HO r0 r1 z1 hbl hg4 hown4 hnb hlo
          obtain ⟨r0, r1, z1, hbl⟩ := hs4.facts
          have HS := lh hs4
          have HG := lh hgX
          have HO := lh hoX
          clear hs4 hgX hoX
          go_wp2_with fail
          go_roundw
          case rel => exact ⟨k + 1, l ++ [UInt8.ofNat c], by omega, by omega, by simp; omega, HS.out.set _ _ (by omega), gr_trans HG.out (gr_set _ _ _ _), own_set HO.out HS.out (by decide) _ _, HST.out.symm⟩
          case measure => rw [(HS.out.set ((k : Int) + 1) (k + 1) (by omega)).at, HAT.out]; omega
  · have hd : decide ((k : Int) < (s.size : Int)) = false := by simp; omega
    have hst := textD_end (s := s) (i := k) (l := l) (by omega)
    rw [HC.out] at hst
    have HST := lh hst
    clear hst
    go_wp2_with fail
    go_quiet (fail)
    go_wp2_with fail
    go_ret2
    exact TextPost.bad HST.out (gr_trans HG.out (gr_drew _ _ _)) rfl
def pairB : List ByteArray := [⟨#[61, 62]⟩, ⟨#[45, 62]⟩, ⟨#[58, 61]⟩, ⟨#[58, 58]⟩, ⟨#[58, 62]⟩, ⟨#[60, 62]⟩, ⟨#[60, 61]⟩, ⟨#[62, 61]⟩]
theorem isPair_any (t : ByteArray) (w : World) : Calls Tryz.prog 70 #[.string t] w fun e w' => e = .returned (.bool (pairB.any fun x => t.toList == x.data.toList)) ∧ w = w' := by
 have hL : (pairB.any fun x => t.toList == x.data.toList) = ((t.toList == [61, 62]) || ((t.toList == [45, 62]) || ((t.toList == [58, 61]) || ((t.toList == [58, 58]) || ((t.toList == [58, 62]) || ((t.toList == [60, 62]) || ((t.toList == [60, 61]) || ((t.toList == [62, 61]) || false)))))))) := rfl
 rw [hL]
 go_enter Tryz.func70, Tryz.ntmps70
 go_wp2
 all_goals
  go_ret
  refine ⟨ret_bool ?_, rfl⟩
  simp_all
def ent (k : Nat) : Array MapEntry := ((wordB.take k).zipIdx.map fun p => ({ key := .string p.1, val := .int .i64 1, born := p.2 } : MapEntry)).toArray
theorem ent_step (k : Nat) (h : k < 28) : (ent k).push { key := .string (wordB.getD k ByteArray.empty), val := .int .i64 1, born := k } = ent (k + 1) := by
 have hl : k < wordB.length := h
 unfold ent
 rw [List.take_succ_eq_append_getElem hl, List.zipIdx_append, List.map_append]
 have e : wordB.getD k ByteArray.empty = wordB[k] := by rw [List.getD_eq_getElem?_getD, List.getElem?_eq_getElem hl]; rfl
 rw [e]
 simp
 omega
theorem ent_keys (k : Nat) : ∀ x ∈ (ent k).toList, ∃ j, j < k ∧ j < 28 ∧ x.key = .string (wordB.getD j ByteArray.empty) ∧ x.val = .int .i64 1 := by
 intro x hx
 simp only [ent, List.mem_map] at hx
 obtain ⟨p, hp, rfl⟩ := hx
 obtain ⟨i, hi⟩ := List.mem_iff_getElem?.1 hp
 rw [List.getElem?_zipIdx] at hi
 cases hg : (wordB.take k)[i]? with
 | none => rw [hg] at hi; cases hi
 | some y =>
  rw [hg] at hi
  simp at hi
  have hlt := (List.getElem?_eq_some_iff.1 hg).1
  rw [List.length_take] at hlt
  have h28 : wordB.length = 28 := rfl
  refine ⟨i, by omega, by omega, ?_, rfl⟩
  rw [List.getElem?_take_of_lt (by omega)] at hg
  rw [List.getD_eq_getElem?_getD, hg, ← hi]
  rfl
theorem words_nodup : ∀ i j : Fin 28, wordB.getD i ByteArray.empty = wordB.getD j ByteArray.empty → i = j := by decide +kernel
theorem upd (k : Nat) (h : k < 28) (w : World) : (Instr.mapUpdate 120 (.map (some w.heap.size)) (.string (wordB.getD k ByteArray.empty)) (.int .i64 1)).run Tryz.prog (w.alloc (.map (ent k) k)) = .ok () (w.alloc (.map (ent (k + 1)) (k + 1))) := by
 have hb := heap_alloc_new w (.map (ent k) k)
 have hkeys : ∀ x ∈ (ent k).toList, MapKept.IsKey .string x.key := fun x hx => by
  obtain ⟨j, _, _, e, _⟩ := ent_keys k x hx
  rw [e]; trivial
 have hc : (Instr.checkKey false 10000 9 (.string (wordB.getD k ByteArray.empty))).run Tryz.prog (w.alloc (.map (ent k) k)) = .ok () (w.alloc (.map (ent k) k)) := MapKept.run_checkKey (k := .string _) Tryz.underlying9 (by simp [MapKept.IsKey]) false 9999
 have hs : (w.alloc (.map (ent k) k)).heap.setIfInBounds w.heap.size (.map (ent (k + 1)) (k + 1)) = (w.alloc (.map (ent (k + 1)) (k + 1))).heap := by
  show (w.heap.push _).setIfInBounds w.heap.size _ = w.heap.push _
  apply Array.ext'
  simp
 rcases MapKept.findNow_spec (d := .string) (k := .string (wordB.getD k ByteArray.empty)) trivial (ent k).toList 0 hkeys with ⟨h1, _⟩ | ⟨j, e0, _, h2, h3⟩
 · have hst := ent_step k h
   clear hkeys
   generalize wordB.getD k ByteArray.empty = x at *
   simp [Instr.mapUpdate, run_underlying Tryz.underlying120, MapKept.run_getObj_map hb, hc, MapKept.run_findKey Tryz.underlying9 h1, MapKept.run_setObj_map _ hb, Result.andThen]
   rw [hst, hs]
   rfl
 · obtain ⟨i, hi, hi28, e, _⟩ := ent_keys k e0 (List.mem_of_getElem? h2)
   rw [e] at h3
   have := words_nodup ⟨i, hi28⟩ ⟨k, h⟩ (by injection h3)
   simp at this
   omega
theorem ent_mem (j : Nat) (h : j < 28) : ∃ x ∈ (ent 28).toList, x.key = .string (wordB.getD j ByteArray.empty) := by
 have hl : j < wordB.length := h
 refine ⟨{ key := .string (wordB.getD j ByteArray.empty), val := .int .i64 1, born := j }, ?_, rfl⟩
 unfold ent
 have e : wordB.getD j ByteArray.empty = wordB[j] := by rw [List.getD_eq_getElem?_getD, List.getElem?_eq_getElem hl]; rfl
 have h28 : wordB.take 28 = wordB := rfl
 rw [h28, List.mem_map]
 refine ⟨(wordB[j], j), ?_, by rw [e]⟩
 rw [List.mem_iff_getElem?]
 refine ⟨j, ?_⟩
 rw [List.getElem?_zipIdx, List.getElem?_eq_getElem hl]
 simp
theorem look (t : ByteArray) (w : World) : (Instr.lookup 120 (.map (some w.heap.size)) (.string t) false).run Tryz.prog (w.alloc (.map (ent 28) 28)) = .ok (.int .i64 (if amongD wordB t then 1 else 0)) (w.alloc (.map (ent 28) 28)) := by
 have hb := heap_alloc_new w (.map (ent 28) 28)
 have hkeys : ∀ x ∈ (ent 28).toList, MapKept.IsKey .string x.key := fun x hx => by
  obtain ⟨j, _, _, e, _⟩ := ent_keys 28 x hx
  rw [e]; trivial
 have hc : (Instr.checkKey (ent 28).isEmpty 10000 9 (.string t)).run Tryz.prog (w.alloc (.map (ent 28) 28)) = .ok () (w.alloc (.map (ent 28) 28)) := MapKept.run_checkKey (k := .string _) Tryz.underlying9 (by simp [MapKept.IsKey]) _ 9999
 rcases MapKept.findNow_spec (d := .string) (k := .string t) trivial (ent 28).toList 0 hkeys with ⟨h1, h2⟩ | ⟨j, e0, h1, h2, h3⟩
 · have ha : amongD wordB t = false := by
    unfold amongD
    rw [List.any_eq_false]
    intro x hx
    obtain ⟨j, hj⟩ := List.mem_iff_getElem?.1 hx
    have hlt := (List.getElem?_eq_some_iff.1 hj).1
    obtain ⟨y, hy, hk⟩ := ent_mem j hlt
    have hne := h2 y hy
    rw [hk, List.getD_eq_getElem?_getD, hj] at hne
    simp only [decide_eq_true_eq]
    intro h
    exact hne (by rw [← h]; rfl)
   rw [ha]
   simp [Instr.lookup, run_underlying Tryz.underlying120, MapKept.run_getObj_map hb, hc, MapKept.run_findKey Tryz.underlying9 h1, Result.andThen]
 · obtain ⟨i, hi, hi28, e, ev⟩ := ent_keys 28 e0 (List.mem_of_getElem? h2)
   rw [e] at h3
   have ha : amongD wordB t = true := by
    unfold amongD
    rw [List.any_eq_true]
    have hl : i < wordB.length := hi28
    refine ⟨wordB[i], List.getElem_mem hl, ?_⟩
    have e2 : wordB.getD i ByteArray.empty = wordB[i] := by rw [List.getD_eq_getElem?_getD, List.getElem?_eq_getElem hl]; rfl
    rw [← e2]
    injection h3 with h3
    simp only [decide_eq_true_eq]
    exact h3
   rw [ha]
   simp [Instr.lookup, run_underlying Tryz.underlying120, MapKept.run_getObj_map hb, hc, MapKept.run_findKey Tryz.underlying9 h1, Result.andThen, ev]
theorem isWord_any (t : ByteArray) (w : World) : Calls Tryz.prog 71 #[.string t] w fun e w' => e = .returned (.bool (amongD wordB t)) ∧ Below w.heap.size w w' := by
 have hmm : (Instr.makeMap 120 none).run Tryz.prog w = .ok (.map (some w.heap.size)) (w.alloc (.map (ent 0) 0)) := rfl
 have u0 : (Instr.mapUpdate 120 (.map (some w.heap.size)) (.string ⟨#[97, 110, 100]⟩) (.int .i64 1)).run Tryz.prog (w.alloc (.map (ent 0) 0)) = .ok () (w.alloc (.map (ent 1) 1)) := upd 0 (by decide) w
 have u1 : (Instr.mapUpdate 120 (.map (some w.heap.size)) (.string ⟨#[97, 110, 100, 97, 108, 115, 111]⟩) (.int .i64 1)).run Tryz.prog (w.alloc (.map (ent 1) 1)) = .ok () (w.alloc (.map (ent 2) 2)) := upd 1 (by decide) w
 have u2 : (Instr.mapUpdate 120 (.map (some w.heap.size)) (.string ⟨#[97, 115]⟩) (.int .i64 1)).run Tryz.prog (w.alloc (.map (ent 2) 2)) = .ok () (w.alloc (.map (ent 3) 3)) := upd 2 (by decide) w
 have u3 : (Instr.mapUpdate 120 (.map (some w.heap.size)) (.string ⟨#[99, 97, 115, 101]⟩) (.int .i64 1)).run Tryz.prog (w.alloc (.map (ent 3) 3)) = .ok () (w.alloc (.map (ent 4) 4)) := upd 3 (by decide) w
 have u4 : (Instr.mapUpdate 120 (.map (some w.heap.size)) (.string ⟨#[100, 97, 116, 97]⟩) (.int .i64 1)).run Tryz.prog (w.alloc (.map (ent 4) 4)) = .ok () (w.alloc (.map (ent 5) 5)) := upd 4 (by decide) w
 have u5 : (Instr.mapUpdate 120 (.map (some w.heap.size)) (.string ⟨#[101, 108, 115, 101]⟩) (.int .i64 1)).run Tryz.prog (w.alloc (.map (ent 5) 5)) = .ok () (w.alloc (.map (ent 6) 6)) := upd 5 (by decide) w
 have u6 : (Instr.mapUpdate 120 (.map (some w.heap.size)) (.string ⟨#[101, 110, 100]⟩) (.int .i64 1)).run Tryz.prog (w.alloc (.map (ent 6) 6)) = .ok () (w.alloc (.map (ent 7) 7)) := upd 6 (by decide) w
 have u7 : (Instr.mapUpdate 120 (.map (some w.heap.size)) (.string ⟨#[101, 120, 99, 101, 112, 116, 105, 111, 110]⟩) (.int .i64 1)).run Tryz.prog (w.alloc (.map (ent 7) 7)) = .ok () (w.alloc (.map (ent 8) 8)) := upd 7 (by decide) w
 have u8 : (Instr.mapUpdate 120 (.map (some w.heap.size)) (.string ⟨#[102, 97, 108, 115, 101]⟩) (.int .i64 1)).run Tryz.prog (w.alloc (.map (ent 8) 8)) = .ok () (w.alloc (.map (ent 9) 9)) := upd 8 (by decide) w
 have u9 : (Instr.mapUpdate 120 (.map (some w.heap.size)) (.string ⟨#[102, 110]⟩) (.int .i64 1)).run Tryz.prog (w.alloc (.map (ent 9) 9)) = .ok () (w.alloc (.map (ent 10) 10)) := upd 9 (by decide) w
 have u10 : (Instr.mapUpdate 120 (.map (some w.heap.size)) (.string ⟨#[102, 117, 110]⟩) (.int .i64 1)).run Tryz.prog (w.alloc (.map (ent 10) 10)) = .ok () (w.alloc (.map (ent 11) 11)) := upd 10 (by decide) w
 have u11 : (Instr.mapUpdate 120 (.map (some w.heap.size)) (.string ⟨#[105, 102]⟩) (.int .i64 1)).run Tryz.prog (w.alloc (.map (ent 11) 11)) = .ok () (w.alloc (.map (ent 12) 12)) := upd 11 (by decide) w
 have u12 : (Instr.mapUpdate 120 (.map (some w.heap.size)) (.string ⟨#[105, 110]⟩) (.int .i64 1)).run Tryz.prog (w.alloc (.map (ent 12) 12)) = .ok () (w.alloc (.map (ent 13) 13)) := upd 12 (by decide) w
 have u13 : (Instr.mapUpdate 120 (.map (some w.heap.size)) (.string ⟨#[108, 101, 116]⟩) (.int .i64 1)).run Tryz.prog (w.alloc (.map (ent 13) 13)) = .ok () (w.alloc (.map (ent 14) 14)) := upd 13 (by decide) w
 have u14 : (Instr.mapUpdate 120 (.map (some w.heap.size)) (.string ⟨#[111, 102]⟩) (.int .i64 1)).run Tryz.prog (w.alloc (.map (ent 14) 14)) = .ok () (w.alloc (.map (ent 15) 15)) := upd 14 (by decide) w
 have u15 : (Instr.mapUpdate 120 (.map (some w.heap.size)) (.string ⟨#[111, 112, 101, 110]⟩) (.int .i64 1)).run Tryz.prog (w.alloc (.map (ent 15) 15)) = .ok () (w.alloc (.map (ent 16) 16)) := upd 15 (by decide) w
 have u16 : (Instr.mapUpdate 120 (.map (some w.heap.size)) (.string ⟨#[111, 114, 101, 108, 115, 101]⟩) (.int .i64 1)).run Tryz.prog (w.alloc (.map (ent 16) 16)) = .ok () (w.alloc (.map (ent 17) 17)) := upd 16 (by decide) w
 have u17 : (Instr.mapUpdate 120 (.map (some w.heap.size)) (.string ⟨#[114, 97, 105, 115, 101]⟩) (.int .i64 1)).run Tryz.prog (w.alloc (.map (ent 17) 17)) = .ok () (w.alloc (.map (ent 18) 18)) := upd 17 (by decide) w
 have u18 : (Instr.mapUpdate 120 (.map (some w.heap.size)) (.string ⟨#[115, 105, 103]⟩) (.int .i64 1)).run Tryz.prog (w.alloc (.map (ent 18) 18)) = .ok () (w.alloc (.map (ent 19) 19)) := upd 18 (by decide) w
 have u19 : (Instr.mapUpdate 120 (.map (some w.heap.size)) (.string ⟨#[115, 105, 103, 110, 97, 116, 117, 114, 101]⟩) (.int .i64 1)).run Tryz.prog (w.alloc (.map (ent 19) 19)) = .ok () (w.alloc (.map (ent 20) 20)) := upd 19 (by decide) w
 have u20 : (Instr.mapUpdate 120 (.map (some w.heap.size)) (.string ⟨#[115, 116, 114, 117, 99, 116]⟩) (.int .i64 1)).run Tryz.prog (w.alloc (.map (ent 20) 20)) = .ok () (w.alloc (.map (ent 21) 21)) := upd 20 (by decide) w
 have u21 : (Instr.mapUpdate 120 (.map (some w.heap.size)) (.string ⟨#[115, 116, 114, 117, 99, 116, 117, 114, 101]⟩) (.int .i64 1)).run Tryz.prog (w.alloc (.map (ent 21) 21)) = .ok () (w.alloc (.map (ent 22) 22)) := upd 21 (by decide) w
 have u22 : (Instr.mapUpdate 120 (.map (some w.heap.size)) (.string ⟨#[116, 104, 101, 110]⟩) (.int .i64 1)).run Tryz.prog (w.alloc (.map (ent 22) 22)) = .ok () (w.alloc (.map (ent 23) 23)) := upd 22 (by decide) w
 have u23 : (Instr.mapUpdate 120 (.map (some w.heap.size)) (.string ⟨#[116, 114, 117, 101]⟩) (.int .i64 1)).run Tryz.prog (w.alloc (.map (ent 23) 23)) = .ok () (w.alloc (.map (ent 24) 24)) := upd 23 (by decide) w
 have u24 : (Instr.mapUpdate 120 (.map (some w.heap.size)) (.string ⟨#[116, 114, 121]⟩) (.int .i64 1)).run Tryz.prog (w.alloc (.map (ent 24) 24)) = .ok () (w.alloc (.map (ent 25) 25)) := upd 24 (by decide) w
 have u25 : (Instr.mapUpdate 120 (.map (some w.heap.size)) (.string ⟨#[116, 121, 112, 101]⟩) (.int .i64 1)).run Tryz.prog (w.alloc (.map (ent 25) 25)) = .ok () (w.alloc (.map (ent 26) 26)) := upd 25 (by decide) w
 have u26 : (Instr.mapUpdate 120 (.map (some w.heap.size)) (.string ⟨#[118, 97, 108]⟩) (.int .i64 1)).run Tryz.prog (w.alloc (.map (ent 26) 26)) = .ok () (w.alloc (.map (ent 27) 27)) := upd 26 (by decide) w
 have u27 : (Instr.mapUpdate 120 (.map (some w.heap.size)) (.string ⟨#[119, 105, 116, 104]⟩) (.int .i64 1)).run Tryz.prog (w.alloc (.map (ent 27) 27)) = .ok () (w.alloc (.map (ent 28) 28)) := upd 27 (by decide) w
 have hl := look t w
 have hb := (Below.refl w.heap.size w).alloc (Nat.le_refl _) (.map (ent 28) 28)
 have HB := lh hb
 clear hb
 cases ha : amongD wordB t
 all_goals
  rw [ha] at hl
  simp only [if_true, if_false, Bool.false_eq_true] at hl
  go_enter Tryz.func71, Tryz.ntmps71
  go_wp2_with fail
  go_ret
  exact ⟨rfl, HB.out⟩
end Go.Proofs.YthehjeeiodbkjaaGreatDoor
