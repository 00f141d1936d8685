/-
  Proved: the contract of the scanner's text. Conditions: the table of sorts, a text of at most 4000 bytes below 128.
-/
import Derived.Test.YtbfeailcebfklaaDoorQ3
set_option linter.unusedSimpArgs false
set_option linter.unusedVariables false
namespace Go.Proofs.YtbfeailcebfklaaDoor
open Go.RowKit

theorem info5 : (Tryd.prog.info? 5).map (fun i => (i.zero, i.size, i.bytes)) = some (some (.int .u8 0), 1, 1) := by kernel_rfl
/-- 'string(b)' of an owned row, nil or not -/
theorem conv_any {P : Program} {w : World} {B : Nat} {v : Value} {l : List UInt8} (src dst e : TypeId) (hs : P.underlying src = some (.slice e)) (he : P.underlying e = some (.int .u8)) (hd : P.underlying dst = some .string) (hown : w.ownsRow B e 1 v l.length (l.map bv)) :
    (convert src dst v).run P w = .ok (.string ⟨l.toArray⟩) w := by
  by_cases hv : v = .slice none 0 0
  · subst hv
    have hl : l = [] := by
      rcases hown.2 with ⟨_, h⟩ | ⟨_, _, _, h, _⟩
      · exact List.eq_nil_of_length_eq_zero h
      · simp at h
    subst hl
    exact run_convert_bytes_nil w src e hs he 0 0 dst hd
  · exact conv_own src dst e hs he hd hown hv
theorem own_any {w : World} {B : Nat} {v : Value} {n e size : Nat} {xs : List Value} (hown : w.ownsRow B e size v n xs) : ∃ a cap, v = .slice a n cap := by
  rcases hown.2 with ⟨rfl, h⟩ | ⟨g, cap, cur, rfl, _⟩
  · exact ⟨none, 0, by rw [h]⟩
  · exact ⟨_, cap, rfl⟩
theorem bv_of {c : Nat} (h : c < 256) : bv (UInt8.ofNat c) = .int .u8 c := by
  have e : (UInt8.ofNat c).toNat = c := by simp; omega
  unfold bv; rw [e]
def TextPost (s : ByteArray) (b i : Nat) (w : World) (e : Ending) (w' : World) : Prop :=
  w.grownBy w' (some b) ∧ match textD s (i + 1) [] with
    | some (r, j) => e = .returned (.tuple #[.string ⟨r.toArray⟩, .bool true]) ∧ Scan w' b s j
    | none => ∃ x, e = .returned (.tuple #[.string x, .bool false])
theorem TextPost.ok {s : ByteArray} {b i j : Nat} {r : List UInt8} {w w' : World} {e : Ending} (h : textD s (i + 1) [] = some (r, j)) (hg : w.grownBy w' (some b)) (he : e = .returned (.tuple #[.string ⟨r.toArray⟩, .bool true])) (hs : Scan w' b s j) : TextPost s b i w e w' := by
  refine ⟨hg, ?_⟩
  rw [h]
  exact ⟨he, hs⟩
theorem TextPost.bad {s : ByteArray} {b i : Nat} {w w' : World} {e : Ending} {x : ByteArray} (h : textD s (i + 1) [] = none) (hg : w.grownBy w' (some b)) (he : e = .returned (.tuple #[.string x, .bool false])) : TextPost s b i w e w' := by
  refine ⟨hg, ?_⟩
  rw [h]
  exact ⟨x, he⟩
def TxRel2 (s : ByteArray) (w : World) (b i : Nat) (v : Value) (wr : World) : Prop :=
  ∃ (k : Nat) (l : List UInt8), i < k ∧ k ≤ s.size ∧ l.length ≤ k ∧ Scan wr b s k ∧ w.grownBy wr (some b) ∧ wr.ownsRow w.heap.size 5 1 v l.length (l.map bv) ∧ textD s k l = textD s (i + 1) []

set_option maxRecDepth 100000 in
set_option maxHeartbeats 4000000 in
theorem text_any (s : ByteArray) (b i : Nat) (w : World) (hsc : Scan w b s i) (hs : s.size ≤ 4000) (hi : i < s.size) (hso : Sorts w) (hA : ∀ k, k < s.size → bt s k < 128) (hb : 0 ≠ b) :
    Calls Tryd.prog 19 #[pv b] w (TextPost s b i w) := by
  obtain ⟨i5, hi5, hz0, hz1, hz2⟩ := info_parts info5
  have HI := Lib.hid hi5
  obtain ⟨r0, r1, z1, hbl⟩ := hsc.facts
  have HS := Lib.hid hsc
  have HSO := Lib.hid hso
  have hw1 : IntKind.i64.wrap ((i : Int) + 1) = i + 1 := IntWalk.i64_in _ (by omega)
  clear hsc hso hi5
  go_enter Tryd.func19, Tryd.ntmps19
  go_wp2_with fail
  go_loopw [4] (fun v wr => TxRel2 s w b i v wr) (fun _ wr => s.size - atOf wr b)
  case atStart => exact ⟨i + 1, [], by omega, by omega, by simp, HS.out.set _ _ (by omega), gr_set _ _ _ _, World.ownsRow_nil _ _ _ _, rfl⟩
  case round =>
    clear r0 r1 z1 hbl
    obtain ⟨k, l, hik, hk, hl, hsc, hgr, hown, hc⟩ := hrel
    obtain ⟨ao, cap, rfl⟩ := own_any hown
    have hat := hsc.at
    obtain ⟨r0, r1, z1, hbl⟩ := hsc.facts
    clear HS
    have HS := Lib.hid hsc
    have HG := Lib.hid hgr
    have HO := Lib.hid hown
    have HC := Lib.hid hc
    have HAT := Lib.hid hat
    clear hsc hgr hown hc hat
    by_cases hlt : k < s.size
    · have h0 : (0 : Int) ≤ (k : Int) := by omega
      have h1 : (k : Int) < (s.size : Int) := by omega
      obtain ⟨c, hcb⟩ : ∃ c, c = bt s k := ⟨_, rfl⟩
      have hck := bt_eq hlt hcb
      have hc8 := hA k hlt
      rw [← hcb] at hc8
      have HCB := Lib.hid hcb
      clear hcb
      by_cases c34 : c = 34
      · have e34 : ((c : Int) == 34) = true := by simp [c34]
        have hst := textD_quote (l := l) hlt (by rw [← HCB.out]; exact c34)
        rw [HC.out] at hst
        have HST := Lib.hid hst
        clear hst
        have hwx : IntKind.i64.wrap ((k : Int) + 1) = k + 1 := IntWalk.i64_in _ (by omega)
        have hcv : ∀ n, (convert 40 9 (.slice ao l.length cap)).run Tryd.prog ((wr.drewN n).setCell ⟨b, 1, none⟩ (.int .i64 ((k : Int) + 1))) = .ok (.string ⟨l.toArray⟩) ((wr.drewN n).setCell ⟨b, 1, none⟩ (.int .i64 ((k : Int) + 1))) :=
          fun n => conv_any 40 9 5 Tryd.underlying40 Tryd.underlying5 Tryd.underlying9 (own_set (own_keep HO.out (gr_drew wr n none) (fun q h => by cases h)) (HS.out.drew n) (by decide) _ _)
        by_cases h2 : l.length ≤ 200
        · have hd : decide ((l.length : Int) ≤ 200) = true := by simp; omega
          have hd2 : decide ((200 : Int) < (l.length : Int)) = false := by simp; omega
          go_wp2_with fail
          go_quiet (fail)
          go_wp2_with fail
          go_quiet (fail)
          go_wp2_with fail
          go_ret2
          exact TextPost.ok (r := l) (j := k + 1) (by rw [HST.out, if_pos h2]) (gr_trans HG.out (gr_trans (gr_drew _ _ _) (gr_set _ _ _ _))) rfl ((HS.out.drew _).set _ _ (by omega))
        · have hd : decide ((l.length : Int) ≤ 200) = false := by simp; omega
          have hd2 : decide ((200 : Int) < (l.length : Int)) = true := by simp; omega
          go_wp2_with fail
          go_quiet (fail)
          go_wp2_with fail
          go_quiet (fail)
          go_wp2_with fail
          go_ret2
          exact TextPost.bad (x := ⟨l.toArray⟩) (by rw [HST.out, if_neg h2]) (gr_trans HG.out (gr_trans (gr_drew _ _ _) (gr_set _ _ _ _))) rfl
      · have e34 : ((c : Int) == 34) = false := by simp; omega
        by_cases c32 : c < 32
        · have e32 : decide ((c : Int) < 32) = true := by simp; omega
          have hst := textD_low (l := l) hlt (by rw [← HCB.out]; exact c32)
          rw [HC.out] at hst
          have HST := Lib.hid hst
          clear hst c34
          go_wp2_with fail
          go_quiet (fail)
          go_wp2_with fail
          go_quiet (fail)
          go_wp2_with fail
          go_ret2
          exact TextPost.bad HST.out (gr_trans HG.out (gr_drew _ _ _)) rfl
        · have e32 : decide ((c : Int) < 32) = false := by simp; omega
          by_cases c92 : c = 92
          · have e92 : ((c : Int) == 92) = true := by simp [c92]
            have h92 : bt s k = 92 := by rw [← HCB.out]; exact c92
            have H92 := Lib.hid h92
            clear h92 c34 c32
            go_wp2_with fail
            go_quiet (fail)
            go_wp2_with fail
            have hsX := HS.out.drew nq
            have hgX := gr_trans HG.out (gr_drew wr nq (some b))
            have hoX := own_keep HO.out (gr_drew wr nq none) (fun q h => by cases h)
            clear HS HG HO r0 r1 z1 hbl
            generalize wr.drewN nq = w1 at hsX hgX hoX ⊢
            obtain ⟨r0, r1, z1, hbl⟩ := hsX.facts
            have HS := Lib.hid hsX
            have HG := Lib.hid hgX
            have HO := Lib.hid hoX
            clear hsX hgX hoX
            go_quiet (fail)
            go_wp2_with fail
            have hsX := HS.out.drew nq
            have hgX := gr_trans HG.out (gr_drew w1 nq (some b))
            have hoX := own_keep HO.out (gr_drew w1 nq none) (fun q h => by cases h)
            clear HS HG HO r0 r1 z1 hbl hck
            generalize w1.drewN nq = w2 at hsX hgX hoX ⊢
            obtain ⟨r0, r1, z1, hbl⟩ := hsX.facts
            have HS := Lib.hid hsX
            have HG := Lib.hid hgX
            have HO := Lib.hid hoX
            clear hsX hgX hoX
            refine (escape_any s b k _ HS.out hs hlt (HSO.out.gr HG.out hb) hA hb).mono ?_
            rintro e w3 ⟨hg3, hm⟩
            cases he : escD s (k + 1) with
            | none =>
              rw [he] at hm
              obtain ⟨v, rfl⟩ := hm
              have hst := textD_bad (l := l) hlt H92.out he
              rw [HC.out] at hst
              have HST := Lib.hid hst
              have HG3 := Lib.hid (gr_trans HG.out hg3)
              clear hst he hg3
              go_wp2_with fail
              go_ret2
              exact TextPost.bad HST.out HG3.out rfl
            | some r =>
              obtain ⟨v, j⟩ := r
              rw [he] at hm
              obtain ⟨rfl, hs3⟩ := hm
              have hlj := escD_lt he
              have hst := textD_esc (l := l) hlt H92.out he
              rw [HC.out] at hst
              have HST := Lib.hid hst
              have hgX := gr_trans HG.out hg3
              have hoX := own_keep HO.out hg3 (fun q hq => by cases hq; exact ⟨_, _, _, HS.out, by decide⟩)
              clear hst he HS HG HO r0 r1 z1 hbl hg3
              obtain ⟨r0, r1, z1, hbl⟩ := hs3.facts
              have HS := Lib.hid hs3
              have HG := Lib.hid hgX
              have HO := Lib.hid hoX
              clear hs3 hgX hoX
              have hwj : IntKind.i64.wrap (((j - 1 : Nat) : Int) + 1) = ((j - 1 : Nat) : Int) + 1 := IntWalk.i64_in _ (by omega)
              have hnb : (Value.slice ao l.length cap).ownBlock ≠ some b := own_ne HS.out HO.out (by decide)
              have hlo : ∀ g, (Value.slice ao l.length cap).ownBlock = some g → w.heap.size ≤ g := fun g hg => (HO.out.lt g hg).1
              have hWs : w.heap.size ≤ w3.heap.size := HG.out.size
              go_wp2_with (first | (at_builtin; go_must (refine wpList_append_own _ rfl (.tmp 70) (.tmp 72) 40 rfl w.heap.size 5 i5 (.int .u8 0) 1 1 Tryd.underlying40 HI.out hz0 hz1 hz2 rfl (by decide) (.slice ao l.length cap) l.length (l.map bv) rfl (HO.out.alloc _) ⟨w3.heap.size, 0, none⟩ 1 1 [.int .u8 (v : Nat)] rfl rfl (new_cells (c := #[.int .u8 (v : Nat)]) _ (by simp)) (by intro u hu; simp at hu; subst hu; rfl) (by unfold maxLen; omega) (by omega) (by simp; omega) ?_)))
              intro v4 w4 hown4 hg4 hnil4
              obtain ⟨g4, cap4, hv4⟩ := own_shape hown4 hnil4
              rw [hv4] at hown4 ⊢
              clear hnil4 hv4
              have hs4 : Scan w4 b s _ := blk_grown (blk_alloc HS.out _) hg4 hnb
              have hgX := gr_own (gr_trans HG.out (World.grownBy_alloc w3 _ (some b))) hg4 hlo
              have hoX : w4.ownsRow w.heap.size 5 1 (.slice (some ⟨g4, 0, none⟩) (l.length + 1) cap4) (l ++ [UInt8.ofNat v]).length ((l ++ [UInt8.ofNat v]).map bv) := by
                rw [List.length_append, List.map_append, List.map_cons, List.map_nil, bv_of hlj.2.2]
                exact hown4
              clear HS HG HO r0 r1 z1 hbl hg4 hown4 hnb hlo
              obtain ⟨r0, r1, z1, hbl⟩ := hs4.facts
              have HS := Lib.hid hs4
              have HG := Lib.hid hgX
              have HO := Lib.hid hoX
              clear hs4 hgX hoX
              go_wp2_with fail
              go_roundw
              case rel => exact ⟨j, l ++ [UInt8.ofNat v], by omega, by omega, by simp; omega, HS.out.set _ _ (by omega), gr_trans HG.out (gr_set _ _ _ _), own_set HO.out HS.out (by decide) _ _, HST.out.symm⟩
              case measure => rw [(HS.out.set (((j - 1 : Nat) : Int) + 1) (j) (by omega)).at, HAT.out]; omega
          · have e92 : ((c : Int) == 92) = false := by simp; omega
            have hst := textD_byte (l := l) hlt (by rw [← HCB.out]; exact c34) (by rw [← HCB.out]; omega) (by rw [← HCB.out]; exact c92)
            rw [HC.out, ← HCB.out] at hst
            have HST := Lib.hid hst
            have hwj : IntKind.i64.wrap ((k : Int) + 1) = (k : Int) + 1 := IntWalk.i64_in _ (by omega)
            clear hst c34 c32 c92
            go_wp2_with fail
            go_quiet (fail)
            go_wp2_with fail
            have hsX := HS.out.drew nq
            have hgX := gr_trans HG.out (gr_drew wr nq (some b))
            have hoX := own_keep HO.out (gr_drew wr nq none) (fun q h => by cases h)
            clear HS HG HO r0 r1 z1 hbl
            generalize wr.drewN nq = w1 at hsX hgX hoX ⊢
            obtain ⟨r0, r1, z1, hbl⟩ := hsX.facts
            have HS := Lib.hid hsX
            have HG := Lib.hid hgX
            have HO := Lib.hid hoX
            clear hsX hgX hoX
            go_quiet (fail)
            go_upto_region 16 with fail
            have hsX := HS.out.drew nq
            have hgX := gr_trans HG.out (gr_drew w1 nq (some b))
            have hoX := own_keep HO.out (gr_drew w1 nq none) (fun q h => by cases h)
            clear HS HG HO r0 r1 z1 hbl hck
            generalize w1.drewN nq = w2 at hsX hgX hoX ⊢
            obtain ⟨r0, r1, z1, hbl⟩ := hsX.facts
            have HS := Lib.hid hsX
            have HG := Lib.hid hgX
            have HO := Lib.hid hoX
            clear hsX hgX hoX
            have hnb : (Value.slice ao l.length cap).ownBlock ≠ some b := own_ne HS.out HO.out (by decide)
            have hlo : ∀ g, (Value.slice ao l.length cap).ownBlock = some g → w.heap.size ≤ g := fun g hg => (HO.out.lt g hg).1
            have hWs : w.heap.size ≤ w2.heap.size := HG.out.size
            go_wp2_with (first | (at_builtin; go_must (refine wpList_append_own _ rfl (.tmp 70) (.tmp 72) 40 rfl w.heap.size 5 i5 (.int .u8 0) 1 1 Tryd.underlying40 HI.out hz0 hz1 hz2 rfl (by decide) (.slice ao l.length cap) l.length (l.map bv) rfl (HO.out.alloc _) ⟨w2.heap.size, 0, none⟩ 1 1 [.int .u8 (c : Nat)] rfl rfl (new_cells (c := #[.int .u8 (c : Nat)]) _ (by simp)) (by intro u hu; simp at hu; subst hu; rfl) (by unfold maxLen; omega) (by omega) (by simp; omega) ?_)))
            intro v4 w4 hown4 hg4 hnil4
            obtain ⟨g4, cap4, hv4⟩ := own_shape hown4 hnil4
            rw [hv4] at hown4 ⊢
            clear hnil4 hv4
            have hs4 : Scan w4 b s _ := blk_grown (blk_alloc HS.out _) hg4 hnb
            have hgX := gr_own (gr_trans HG.out (World.grownBy_alloc w2 _ (some b))) hg4 hlo
            have hoX : w4.ownsRow w.heap.size 5 1 (.slice (some ⟨g4, 0, none⟩) (l.length + 1) cap4) (l ++ [UInt8.ofNat c]).length ((l ++ [UInt8.ofNat c]).map bv) := by
              rw [List.length_append, List.map_append, List.map_cons, List.map_nil, bv_of (by omega)]
              exact hown4
            clear HS HG HO r0 r1 z1 hbl hg4 hown4 hnb hlo
            obtain ⟨r0, r1, z1, hbl⟩ := hs4.facts
            have HS := Lib.hid hs4
            have HG := Lib.hid hgX
            have HO := Lib.hid hoX
            clear hs4 hgX hoX
            go_wp2_with fail
            go_roundw
            case rel => exact ⟨k + 1, l ++ [UInt8.ofNat c], by omega, by omega, by simp; omega, HS.out.set _ _ (by omega), gr_trans HG.out (gr_set _ _ _ _), own_set HO.out HS.out (by decide) _ _, HST.out.symm⟩
            case measure => rw [(HS.out.set ((k : Int) + 1) (k + 1) (by omega)).at, HAT.out]; omega
    · have hd : decide ((k : Int) < (s.size : Int)) = false := by simp; omega
      have hst := textD_end (s := s) (i := k) (l := l) (by omega)
      rw [HC.out] at hst
      have HST := Lib.hid hst
      clear hst
      go_wp2_with fail
      go_quiet (fail)
      go_wp2_with fail
      go_ret2
      exact TextPost.bad HST.out (gr_trans HG.out (gr_drew _ _ _)) rfl

end Go.Proofs.YtbfeailcebfklaaDoor
