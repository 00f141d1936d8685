/-
  Proved: the contract of the program's Quote. Condition: a text of at most 1048576 bytes.
-/
import Derived.Test.YtbfeailcebfklaaDoorR1
import Derived.Test.YtbfeailcebfklaaDoorQ4
set_option linter.unusedSimpArgs false
set_option linter.unusedVariables false
namespace Go.Proofs.YtbfeailcebfklaaDoor
open Go.RowKit

theorem bv_all (l : List UInt8) : ∀ u ∈ l.map bv, u.oneCell' = true := by
  intro u hu
  obtain ⟨_, _, rfl⟩ := List.mem_map.1 hu
  rfl
theorem own_lit (w : World) (l : List UInt8) (c : Array Value) (hc : c.toList = l.map bv) (hl : l.length ≤ 100) : (w.alloc (.cells c 5)).ownsRow w.heap.size 5 1 (.slice (some ⟨w.heap.size, 0, none⟩) l.length l.length) l.length (l.map bv) := by
  have hs : c.size = l.length := by rw [← Array.length_toList, hc, List.length_map]
  refine ⟨by simp, .inr ⟨w.heap.size, l.length, c, rfl, Nat.le_refl _, heap_alloc_new w _, Nat.le_refl _, by unfold maxLen; omega, by omega, ?_⟩⟩
  rw [hc, List.take_of_length_le (by simp)]
theorem code_bv {c : Nat} (h : c < 256) : ([92, UInt8.ofNat (48 + c / 100), UInt8.ofNat (48 + c / 10 % 10), UInt8.ofNat (48 + c % 10)].map bv : List Value) = [.int .u8 92, .int .u8 (48 + (c : Int) / 100), .int .u8 (48 + (c : Int) / 10 % 10), .int .u8 (48 + (c : Int) % 10)] := by
  rw [List.map_cons, List.map_cons, List.map_cons, List.map_cons, List.map_nil, bv_of (show 48 + c / 100 < 256 by omega), bv_of (show 48 + c / 10 % 10 < 256 by omega), bv_of (show 48 + c % 10 < 256 by omega)]
  push_cast
  rfl

set_option maxRecDepth 100000 in
set_option maxHeartbeats 4000000 in
theorem pquote_any (s : ByteArray) (w : World) (hs : s.size ≤ 1048576) : Calls Tryd.prog 8 #[.string s] w fun e w' => e = .returned (.string (quoteD s)) ∧ Below w.heap.size w w' := by
  obtain ⟨i5, hi5, hz0, hz1, hz2⟩ := info_parts info5
  have HI := Lib.hid hi5
  clear hi5
  go_enter Tryd.func8, Tryd.ntmps8
  go_wp2_with fail
  go_loopw [3, 9] (fun v i wr => ∃ (k g cap : Nat), k ≤ s.size ∧ i = .int .i64 k ∧ v = .slice (some ⟨g, 0, none⟩) (preQ s k).length cap ∧ wr.ownsRow w.heap.size 5 1 v (preQ s k).length ((preQ s k).map bv) ∧ Below w.heap.size w wr) (fun _ i _ => s.size - (intOf i).toNat)
  case atStart => exact ⟨0, w.heap.size, 1, Nat.zero_le _, rfl, rfl, own_lit w [34] _ rfl (by decide), balloc (Below.refl _ _) _⟩
  case round =>
    obtain ⟨k, g, cap, hk, rfl, rfl, hown, hbl⟩ := hrel
    have HB := Lib.hid hbl
    have HO := Lib.hid hown
    clear hbl hown
    have hpl := preQ_len s k
    have hlo : ∀ q, (Value.slice (some ⟨g, 0, none⟩) (preQ s k).length cap).ownBlock = some q → w.heap.size ≤ q := fun q hq => (HO.out.lt q hq).1
    have hWs : w.heap.size ≤ wr.heap.size := HB.out.size
    by_cases hlt : k < s.size
    · have hd : decide ((k : Int) < (s.size : Int)) = true := by simp; omega
      have k0 : (0 : Int) ≤ (k : Int) := by omega
      have k1 : (k : Int) < (s.size : Int) := by omega
      obtain ⟨c, hcb⟩ : ∃ c, c = bt s k := ⟨_, rfl⟩
      have hck := bt_eq hlt hcb
      have hc8 : c < 256 := by rw [hcb]; exact bt_lt s k
      have hst := preQ_step s k hlt
      rw [← hcb] at hst
      have HST := Lib.hid hst
      generalize preQ s k = L at *
      clear hcb hst
      by_cases c10 : c = 10
      · have e10 : ((c : Int) == 10) = true := by simp [c10]
        have he : esc (UInt8.ofNat c) = [92, 110] := by rw [c10]; exact esc_nl
        have hbvs : ([92, 110] : List UInt8).map bv = [.int .u8 92, .int .u8 110] := rfl
        have HE := Lib.hid he
        have HBV := Lib.hid hbvs
        clear he hbvs
        go_wp2_with (first | (at_builtin; go_must (refine wpList_append_own _ rfl (.tmp 22) (.tmp 23) 40 rfl w.heap.size 5 i5 (.int .u8 0) 1 1 Tryd.underlying40 HI.out hz0 hz1 hz2 rfl (by decide) (.slice (some ⟨g, 0, none⟩) L.length cap) L.length (L.map bv) rfl (HO.out.alloc _) ⟨wr.heap.size, 0, none⟩ 2 2 [.int .u8 92, .int .u8 110] rfl rfl (new_cells (c := #[.int .u8 92, .int .u8 110]) _ (by simp)) (by rw [← HBV.out]; exact bv_all _) (by unfold maxLen; omega) (by omega) (by simp; omega) ?_)))
        intro v4 w4 hown4 hg4 hnil4
        obtain ⟨g4, cap4, hv4⟩ := own_shape hown4 hnil4
        rw [hv4] at hown4 ⊢
        clear hnil4 hv4
        have hb4 : Below w.heap.size w w4 := (balloc HB.out _).grown hg4 (by simp; omega) hlo
        have ho4 : w4.ownsRow w.heap.size 5 1 (.slice (some ⟨g4, 0, none⟩) (preQ s (k + 1)).length cap4) (preQ s (k + 1)).length ((preQ s (k + 1)).map bv) := by
          rw [HST.out, HE.out, List.map_append, List.length_append, HBV.out]
          exact hown4
        have hln : (preQ s (k + 1)).length = L.length + 2 := by rw [HST.out, HE.out, List.length_append]; rfl
        have HB4 := Lib.hid hb4
        have HO4 := Lib.hid ho4
        clear hb4 ho4 hown4 hg4 hlo
        go_wp2_with fail
        go_roundw
        case rel => exact ⟨k + 1, g4, cap4, by omega, by go_num, by rw [hln], by rw [← hln]; exact HO4.out, HB4.out⟩
        case measure => simp [intOf]; omega
      · have e10 : ((c : Int) == 10) = false := by simp; omega
        by_cases c9 : c = 9
        · have e9 : ((c : Int) == 9) = true := by simp [c9]
          have he : esc (UInt8.ofNat c) = [92, 116] := by rw [c9]; exact esc_tab
          have hbvs : ([92, 116] : List UInt8).map bv = [.int .u8 92, .int .u8 116] := rfl
          have HE := Lib.hid he
          have HBV := Lib.hid hbvs
          clear he hbvs
          go_wp2_with (first | (at_builtin; go_must (refine wpList_append_own _ rfl (.tmp 28) (.tmp 29) 40 rfl w.heap.size 5 i5 (.int .u8 0) 1 1 Tryd.underlying40 HI.out hz0 hz1 hz2 rfl (by decide) (.slice (some ⟨g, 0, none⟩) L.length cap) L.length (L.map bv) rfl (HO.out.alloc _) ⟨wr.heap.size, 0, none⟩ 2 2 [.int .u8 92, .int .u8 116] rfl rfl (new_cells (c := #[.int .u8 92, .int .u8 116]) _ (by simp)) (by rw [← HBV.out]; exact bv_all _) (by unfold maxLen; omega) (by omega) (by simp; omega) ?_)))
          intro v4 w4 hown4 hg4 hnil4
          obtain ⟨g4, cap4, hv4⟩ := own_shape hown4 hnil4
          rw [hv4] at hown4 ⊢
          clear hnil4 hv4
          have hb4 : Below w.heap.size w w4 := (balloc HB.out _).grown hg4 (by simp; omega) hlo
          have ho4 : w4.ownsRow w.heap.size 5 1 (.slice (some ⟨g4, 0, none⟩) (preQ s (k + 1)).length cap4) (preQ s (k + 1)).length ((preQ s (k + 1)).map bv) := by
            rw [HST.out, HE.out, List.map_append, List.length_append, HBV.out]
            exact hown4
          have hln : (preQ s (k + 1)).length = L.length + 2 := by rw [HST.out, HE.out, List.length_append]; rfl
          have HB4 := Lib.hid hb4
          have HO4 := Lib.hid ho4
          clear hb4 ho4 hown4 hg4 hlo
          go_wp2_with fail
          go_roundw
          case rel => exact ⟨k + 1, g4, cap4, by omega, by go_num, by rw [hln], by rw [← hln]; exact HO4.out, HB4.out⟩
          case measure => simp [intOf]; omega
        · have e9 : ((c : Int) == 9) = false := by simp; omega
          by_cases c34 : c = 34
          · have e34 : ((c : Int) == 34) = true := by simp [c34]
            have he : esc (UInt8.ofNat c) = [92, 34] := by rw [c34]; decide
            have hbvs : ([92, 34] : List UInt8).map bv = [.int .u8 92, .int .u8 34] := rfl
            have HE := Lib.hid he
            have HBV := Lib.hid hbvs
            clear he hbvs
            go_wp2_with (first | (at_builtin; go_must (refine wpList_append_own _ rfl (.tmp 36) (.tmp 38) 40 rfl w.heap.size 5 i5 (.int .u8 0) 1 1 Tryd.underlying40 HI.out hz0 hz1 hz2 rfl (by decide) (.slice (some ⟨g, 0, none⟩) L.length cap) L.length (L.map bv) rfl (HO.out.alloc _) ⟨wr.heap.size, 0, none⟩ 2 2 [.int .u8 92, .int .u8 34] rfl rfl (new_cells (c := #[.int .u8 92, .int .u8 34]) _ (by simp)) (by rw [← HBV.out]; exact bv_all _) (by unfold maxLen; omega) (by omega) (by simp; omega) ?_)))
            intro v4 w4 hown4 hg4 hnil4
            obtain ⟨g4, cap4, hv4⟩ := own_shape hown4 hnil4
            rw [hv4] at hown4 ⊢
            clear hnil4 hv4
            have hb4 : Below w.heap.size w w4 := (balloc HB.out _).grown hg4 (by simp; omega) hlo
            have ho4 : w4.ownsRow w.heap.size 5 1 (.slice (some ⟨g4, 0, none⟩) (preQ s (k + 1)).length cap4) (preQ s (k + 1)).length ((preQ s (k + 1)).map bv) := by
              rw [HST.out, HE.out, List.map_append, List.length_append, HBV.out]
              exact hown4
            have hln : (preQ s (k + 1)).length = L.length + 2 := by rw [HST.out, HE.out, List.length_append]; rfl
            have HB4 := Lib.hid hb4
            have HO4 := Lib.hid ho4
            clear hb4 ho4 hown4 hg4 hlo
            go_wp2_with fail
            go_roundw
            case rel => exact ⟨k + 1, g4, cap4, by omega, by go_num, by rw [hln], by rw [← hln]; exact HO4.out, HB4.out⟩
            case measure => simp [intOf]; omega
          · have e34 : ((c : Int) == 34) = false := by simp; omega
            by_cases c92 : c = 92
            · have e92 : ((c : Int) == 92) = true := by simp [c92]
              have he : esc (UInt8.ofNat c) = [92, 92] := by rw [c92]; decide
              have hbvs : ([92, 92] : List UInt8).map bv = [.int .u8 92, .int .u8 92] := rfl
              have HE := Lib.hid he
              have HBV := Lib.hid hbvs
              clear he hbvs
              go_wp2_with (first | (at_builtin; go_must (refine wpList_append_own _ rfl (.tmp 36) (.tmp 38) 40 rfl w.heap.size 5 i5 (.int .u8 0) 1 1 Tryd.underlying40 HI.out hz0 hz1 hz2 rfl (by decide) (.slice (some ⟨g, 0, none⟩) L.length cap) L.length (L.map bv) rfl (HO.out.alloc _) ⟨wr.heap.size, 0, none⟩ 2 2 [.int .u8 92, .int .u8 92] rfl rfl (new_cells (c := #[.int .u8 92, .int .u8 92]) _ (by simp)) (by rw [← HBV.out]; exact bv_all _) (by unfold maxLen; omega) (by omega) (by simp; omega) ?_)))
              intro v4 w4 hown4 hg4 hnil4
              obtain ⟨g4, cap4, hv4⟩ := own_shape hown4 hnil4
              rw [hv4] at hown4 ⊢
              clear hnil4 hv4
              have hb4 : Below w.heap.size w w4 := (balloc HB.out _).grown hg4 (by simp; omega) hlo
              have ho4 : w4.ownsRow w.heap.size 5 1 (.slice (some ⟨g4, 0, none⟩) (preQ s (k + 1)).length cap4) (preQ s (k + 1)).length ((preQ s (k + 1)).map bv) := by
                rw [HST.out, HE.out, List.map_append, List.length_append, HBV.out]
                exact hown4
              have hln : (preQ s (k + 1)).length = L.length + 2 := by rw [HST.out, HE.out, List.length_append]; rfl
              have HB4 := Lib.hid hb4
              have HO4 := Lib.hid ho4
              clear hb4 ho4 hown4 hg4 hlo
              go_wp2_with fail
              go_roundw
              case rel => exact ⟨k + 1, g4, cap4, by omega, by go_num, by rw [hln], by rw [← hln]; exact HO4.out, HB4.out⟩
              case measure => simp [intOf]; omega
            · have e92 : ((c : Int) == 92) = false := by simp; omega
              by_cases c32 : c < 32
              · have e32 : decide ((c : Int) < 32) = true := by simp; omega
                have he : esc (UInt8.ofNat c) = [92, UInt8.ofNat (48 + c / 100), UInt8.ofNat (48 + c / 10 % 10), UInt8.ofNat (48 + c % 10)] := esc_code hc8 c10 c9 (by omega)
                have hbvs : ([92, UInt8.ofNat (48 + c / 100), UInt8.ofNat (48 + c / 10 % 10), UInt8.ofNat (48 + c % 10)] : List UInt8).map bv = [.int .u8 92, .int .u8 (48 + (c : Int) / 100), .int .u8 (48 + (c : Int) / 10 % 10), .int .u8 (48 + (c : Int) % 10)] := code_bv hc8
                have HE := Lib.hid he
                have HBV := Lib.hid hbvs
                clear he hbvs
                go_wp2_with (first | (at_builtin; go_must (refine wpList_append_own _ rfl (.tmp 45) (.tmp 56) 40 rfl w.heap.size 5 i5 (.int .u8 0) 1 1 Tryd.underlying40 HI.out hz0 hz1 hz2 rfl (by decide) (.slice (some ⟨g, 0, none⟩) L.length cap) L.length (L.map bv) rfl (HO.out.alloc _) ⟨wr.heap.size, 0, none⟩ 4 4 [.int .u8 92, .int .u8 (48 + (c : Int) / 100), .int .u8 (48 + (c : Int) / 10 % 10), .int .u8 (48 + (c : Int) % 10)] rfl rfl (new_cells (c := #[.int .u8 92, .int .u8 (48 + (c : Int) / 100), .int .u8 (48 + (c : Int) / 10 % 10), .int .u8 (48 + (c : Int) % 10)]) _ (by simp)) (by rw [← HBV.out]; exact bv_all _) (by unfold maxLen; omega) (by omega) (by simp; omega) ?_)))
                intro v4 w4 hown4 hg4 hnil4
                obtain ⟨g4, cap4, hv4⟩ := own_shape hown4 hnil4
                rw [hv4] at hown4 ⊢
                clear hnil4 hv4
                have hb4 : Below w.heap.size w w4 := (balloc HB.out _).grown hg4 (by simp; omega) hlo
                have ho4 : w4.ownsRow w.heap.size 5 1 (.slice (some ⟨g4, 0, none⟩) (preQ s (k + 1)).length cap4) (preQ s (k + 1)).length ((preQ s (k + 1)).map bv) := by
                  rw [HST.out, HE.out, List.map_append, List.length_append, HBV.out]
                  exact hown4
                have hln : (preQ s (k + 1)).length = L.length + 4 := by rw [HST.out, HE.out, List.length_append]; rfl
                have HB4 := Lib.hid hb4
                have HO4 := Lib.hid ho4
                clear hb4 ho4 hown4 hg4 hlo
                go_wp2_with fail
                go_roundw
                case rel => exact ⟨k + 1, g4, cap4, by omega, by go_num, by rw [hln], by rw [← hln]; exact HO4.out, HB4.out⟩
                case measure => simp [intOf]; omega
              · have e32 : decide ((c : Int) < 32) = false := by simp; omega
                by_cases c126 : 126 < c
                · have e126 : decide ((126 : Int) < (c : Int)) = true := by simp; omega
                  have he : esc (UInt8.ofNat c) = [92, UInt8.ofNat (48 + c / 100), UInt8.ofNat (48 + c / 10 % 10), UInt8.ofNat (48 + c % 10)] := esc_code hc8 c10 c9 (by omega)
                  have hbvs : ([92, UInt8.ofNat (48 + c / 100), UInt8.ofNat (48 + c / 10 % 10), UInt8.ofNat (48 + c % 10)] : List UInt8).map bv = [.int .u8 92, .int .u8 (48 + (c : Int) / 100), .int .u8 (48 + (c : Int) / 10 % 10), .int .u8 (48 + (c : Int) % 10)] := code_bv hc8
                  have HE := Lib.hid he
                  have HBV := Lib.hid hbvs
                  clear he hbvs
                  go_wp2_with (first | (at_builtin; go_must (refine wpList_append_own _ rfl (.tmp 45) (.tmp 56) 40 rfl w.heap.size 5 i5 (.int .u8 0) 1 1 Tryd.underlying40 HI.out hz0 hz1 hz2 rfl (by decide) (.slice (some ⟨g, 0, none⟩) L.length cap) L.length (L.map bv) rfl (HO.out.alloc _) ⟨wr.heap.size, 0, none⟩ 4 4 [.int .u8 92, .int .u8 (48 + (c : Int) / 100), .int .u8 (48 + (c : Int) / 10 % 10), .int .u8 (48 + (c : Int) % 10)] rfl rfl (new_cells (c := #[.int .u8 92, .int .u8 (48 + (c : Int) / 100), .int .u8 (48 + (c : Int) / 10 % 10), .int .u8 (48 + (c : Int) % 10)]) _ (by simp)) (by rw [← HBV.out]; exact bv_all _) (by unfold maxLen; omega) (by omega) (by simp; omega) ?_)))
                  intro v4 w4 hown4 hg4 hnil4
                  obtain ⟨g4, cap4, hv4⟩ := own_shape hown4 hnil4
                  rw [hv4] at hown4 ⊢
                  clear hnil4 hv4
                  have hb4 : Below w.heap.size w w4 := (balloc HB.out _).grown hg4 (by simp; omega) hlo
                  have ho4 : w4.ownsRow w.heap.size 5 1 (.slice (some ⟨g4, 0, none⟩) (preQ s (k + 1)).length cap4) (preQ s (k + 1)).length ((preQ s (k + 1)).map bv) := by
                    rw [HST.out, HE.out, List.map_append, List.length_append, HBV.out]
                    exact hown4
                  have hln : (preQ s (k + 1)).length = L.length + 4 := by rw [HST.out, HE.out, List.length_append]; rfl
                  have HB4 := Lib.hid hb4
                  have HO4 := Lib.hid ho4
                  clear hb4 ho4 hown4 hg4 hlo
                  go_wp2_with fail
                  go_roundw
                  case rel => exact ⟨k + 1, g4, cap4, by omega, by go_num, by rw [hln], by rw [← hln]; exact HO4.out, HB4.out⟩
                  case measure => simp [intOf]; omega
                · have e126 : decide ((126 : Int) < (c : Int)) = false := by simp; omega
                  have he : esc (UInt8.ofNat c) = [UInt8.ofNat c] := esc_plain hc8 (by omega) (by omega) c34 c92
                  have hbvs : ([UInt8.ofNat c] : List UInt8).map bv = [.int .u8 (c : Nat)] := by rw [List.map_cons, List.map_nil, bv_of hc8]
                  have HE := Lib.hid he
                  have HBV := Lib.hid hbvs
                  clear he hbvs
                  go_wp2_with (first | (at_builtin; go_must (refine wpList_append_own _ rfl (.tmp 15) (.tmp 17) 40 rfl w.heap.size 5 i5 (.int .u8 0) 1 1 Tryd.underlying40 HI.out hz0 hz1 hz2 rfl (by decide) (.slice (some ⟨g, 0, none⟩) L.length cap) L.length (L.map bv) rfl (HO.out.alloc _) ⟨wr.heap.size, 0, none⟩ 1 1 [.int .u8 (c : Nat)] rfl rfl (new_cells (c := #[.int .u8 (c : Nat)]) _ (by simp)) (by rw [← HBV.out]; exact bv_all _) (by unfold maxLen; omega) (by omega) (by simp; omega) ?_)))
                  intro v4 w4 hown4 hg4 hnil4
                  obtain ⟨g4, cap4, hv4⟩ := own_shape hown4 hnil4
                  rw [hv4] at hown4 ⊢
                  clear hnil4 hv4
                  have hb4 : Below w.heap.size w w4 := (balloc HB.out _).grown hg4 (by simp; omega) hlo
                  have ho4 : w4.ownsRow w.heap.size 5 1 (.slice (some ⟨g4, 0, none⟩) (preQ s (k + 1)).length cap4) (preQ s (k + 1)).length ((preQ s (k + 1)).map bv) := by
                    rw [HST.out, HE.out, List.map_append, List.length_append, HBV.out]
                    exact hown4
                  have hln : (preQ s (k + 1)).length = L.length + 1 := by rw [HST.out, HE.out, List.length_append]; rfl
                  have HB4 := Lib.hid hb4
                  have HO4 := Lib.hid ho4
                  clear hb4 ho4 hown4 hg4 hlo
                  go_wp2_with fail
                  go_roundw
                  case rel => exact ⟨k + 1, g4, cap4, by omega, by go_num, by rw [hln], by rw [← hln]; exact HO4.out, HB4.out⟩
                  case measure => simp [intOf]; omega
    · obtain rfl : k = s.size := by omega
      have hd : decide ((s.size : Int) < (s.size : Int)) = false := by simp
      have hpe := preQ_end s
      have HPE := Lib.hid hpe
      clear hpe
      generalize preQ s s.size = L at *
      go_wp2_with (first | (at_builtin; go_must (refine wpList_append_own _ rfl (.tmp 59) (.tmp 60) 40 rfl w.heap.size 5 i5 (.int .u8 0) 1 1 Tryd.underlying40 HI.out hz0 hz1 hz2 rfl (by decide) (.slice (some ⟨g, 0, none⟩) L.length cap) L.length (L.map bv) rfl (HO.out.alloc _) ⟨wr.heap.size, 0, none⟩ 1 1 [.int .u8 34] rfl rfl (new_cells (c := #[.int .u8 34]) _ (by simp)) (bv_all [34]) (by unfold maxLen; omega) (by omega) (by simp; omega) ?_)))
      intro v4 w4 hown4 hg4 hnil4
      obtain ⟨g4, cap4, hv4⟩ := own_shape hown4 hnil4
      rw [hv4] at hown4 ⊢
      clear hnil4 hv4
      have hb4 : Below w.heap.size w w4 := (balloc HB.out _).grown hg4 (by simp; omega) hlo
      have ho4 : w4.ownsRow w.heap.size 5 1 (.slice (some ⟨g4, 0, none⟩) (L ++ [34]).length cap4) (L ++ [34]).length ((L ++ [34]).map bv) := by
        rw [List.map_append, List.length_append]
        exact hown4
      have hcv := conv_any 40 9 5 Tryd.underlying40 Tryd.underlying5 Tryd.underlying9 ho4
      have hln : (L ++ [34]).length = L.length + 1 := by simp
      rw [hln] at hcv
      have HB4 := Lib.hid hb4
      clear hb4 ho4 hown4 hg4 hlo
      generalize hQ : L ++ [34] = Q at hcv
      go_wp2_with fail
      go_ret
      refine ⟨?_, HB4.out⟩
      rw [← hQ, HPE.out]
      rfl

end Go.Proofs.YtbfeailcebfklaaDoor
