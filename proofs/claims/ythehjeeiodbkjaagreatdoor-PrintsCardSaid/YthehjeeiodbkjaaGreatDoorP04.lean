/-
  Proved: the contract of the program's Quote; the contracts of the program's printer's path and of the library's Itoa and Join; steps of a walk through the program's printer, over the bundle and what is still to be written; parts of a slice of trees: the first ones, the last ones. Conditions: a text of at most 1048576 bytes; the printer as it stands in memory.
-/
import Derived.Test.YthehjeeiodbkjaaGreatDoorP01
import Derived.Test.YthehjeeiodbkjaaGreatDoorP03
import Derived.StillTailTactics
set_option linter.unusedSimpArgs false
set_option linter.unusedVariables false
set_option linter.unusedSectionVars false
set_option maxRecDepth 100000
set_option maxHeartbeats 16000000
namespace Go.Proofs.YthehjeeiodbkjaaGreatDoor
open Go.RowKit
theorem bv_all (l : List UInt8) : ∀ u ∈ l.map bv, u.oneCell' = true := by
 intro u hu;obtain ⟨_, _, rfl⟩ := List.mem_map.1 hu;rfl
theorem own_lit (w : World) (l : List UInt8) (c : Array Value) (hc : c.toList = l.map bv) (hl : l.length ≤ 100) : (w.alloc (.cells c 5)).ownsRow w.heap.size 5 1 (.slice (some ⟨w.heap.size, 0, none⟩) l.length l.length) l.length (l.map bv) := by
 have hs : c.size = l.length := by rw [← Array.length_toList, hc, List.length_map]
 refine ⟨by simp, .inr ⟨w.heap.size, l.length, c, rfl, Nat.le_refl _, heap_alloc_new w _, Nat.le_refl _, by unfold maxLen; omega, by omega, ?_⟩⟩;rw [hc, List.take_of_length_le (by simp)]
theorem code_bv {c : Nat} (h : c < 256) : ([92, UInt8.ofNat (48 + c / 100), UInt8.ofNat (48 + c / 10 % 10), UInt8.ofNat (48 + c % 10)].map bv : List Value) = [.int .u8 92, .int .u8 (48 + (c : Int) / 100), .int .u8 (48 + (c : Int) / 10 % 10), .int .u8 (48 + (c : Int) % 10)] := by
 rw [List.map_cons, List.map_cons, List.map_cons, List.map_cons, List.map_nil, bv_of (show 48 + c / 100 < 256 by omega), bv_of (show 48 + c / 10 % 10 < 256 by omega), bv_of (show 48 + c % 10 < 256 by omega)];push_cast
 rfl
theorem pquote_any (s : ByteArray) (w : World) (hs : s.size ≤ 1048576) : Calls Tryz.prog 90 #[.string s] w fun e w' => e = .returned (.string (qC s)) ∧ Below w.heap.size w w' := by
 obtain ⟨i5, hi5, hz0, hz1, hz2⟩ := info_parts info5;have HI := lh hi5;clear hi5;go_enter Tryz.func90, Tryz.ntmps90
 go_wp2_with fail
 go_loopw [3, 9] (fun v i wr => ∃ (k g cap : Nat), k ≤ s.size ∧ i = .int .i64 k ∧ v = .slice (some ⟨g, 0, none⟩) (kt s k).length cap ∧ wr.ownsRow w.heap.size 5 1 v (kt s k).length ((kt s k).map bv) ∧ Below w.heap.size w wr) (fun _ i _ => s.size - (intOf i).toNat)
 case atStart => exact ⟨0, w.heap.size, 1, Nat.zero_le _, rfl, rfl, own_lit w [34] _ rfl (by decide), jk (Below.refl _ _) _⟩
 case round =>
  obtain ⟨k, g, cap, hk, rfl, rfl, hown, hbl⟩ := hrel;have HB := lh hbl;have HO := lh hown;clear hbl hown;have hpl := preQ_len s k;have hlo : ∀ q, (Value.slice (some ⟨g, 0, none⟩) (kt s k).length cap).ownBlock = some q → w.heap.size ≤ q := fun q hq => (HO.out.lt q hq).1
  have hWs : w.heap.size ≤ wr.heap.size := HB.out.size
  by_cases hlt : k < s.size
  · have hd : decide ((k : Int) < (s.size : Int)) = true := (by simp; omega);have k0 : (0 : Int) ≤ (k : Int) := (by omega);have k1 : (k : Int) < (s.size : Int) := (by omega);obtain ⟨c, hcb⟩ : ∃ c, c = bt s k := ⟨_, rfl⟩
    have hck := qo hlt hcb;have hc8 : c < 256 := (by rw [hcb]; exact bt_lt s k);have hst := preQ_step s k hlt;rw [← hcb] at hst;have HST := lh hst;generalize kt s k = L at *
    clear hcb hst
    by_cases c10 : c = 10
    · have e10 : ((c : Int) == 10) = true := (by simp [c10]);have he : esc (UInt8.ofNat c) = [92, 110] := (by rw [c10]; exact esc_nl);have hbvs : ([92, 110] : List UInt8).map bv = [.int .u8 92, .int .u8 110] := rfl;have HE := lh he;have HBV := lh hbvs;clear he hbvs;go_wp2_with (first | (at_builtin; go_must (refine wpList_append_own _ rfl (.tmp 22) (.tmp 23) 74 rfl w.heap.size 5 i5 (.int .u8 0) 1 1 Tryz.underlying74 HI.out hz0 hz1 hz2 rfl (by decide) (.slice (some ⟨g, 0, none⟩) L.length cap) L.length (L.map bv) rfl (HO.out.alloc _) ⟨wr.heap.size, 0, none⟩ 2 2 [.int .u8 92, .int .u8 110] rfl rfl (jT (c := #[.int .u8 92, .int .u8 110]) _ (by simp)) (by rw [← HBV.out]; exact bv_all _) (by unfold maxLen; omega) (by omega) (by simp; omega) ?_)))
      intro v4 w4 hown4 hg4 hnil4;obtain ⟨g4, cap4, hv4⟩ := kj hown4 hnil4;rw [hv4] at hown4 ⊢;clear hnil4 hv4;have hb4 : Below w.heap.size w w4 := (jk HB.out _).grown hg4 (by simp; omega) hlo
      have ho4 : w4.ownsRow w.heap.size 5 1 (.slice (some ⟨g4, 0, none⟩) (kt s (k + 1)).length cap4) (kt s (k + 1)).length ((kt s (k + 1)).map bv) := by
       rw [HST.out, HE.out, List.map_append, List.length_append, HBV.out];exact hown4
      have hln : (kt s (k + 1)).length = L.length + 2 := (by rw [HST.out, HE.out, List.length_append]; rfl);have HB4 := lh hb4;have HO4 := lh ho4;clear hb4 ho4 hown4 hg4 hlo;go_wp2_with fail
      go_roundw
      case rel => exact ⟨k + 1, g4, cap4, by omega, by go_num, by rw [hln], by rw [← hln]; exact HO4.out, HB4.out⟩
      case measure => simp [intOf]; omega
    · have e10 : ((c : Int) == 10) = false := by simp; omega
      by_cases c9 : c = 9
      · have e9 : ((c : Int) == 9) = true := (by simp [c9]);have he : esc (UInt8.ofNat c) = [92, 116] := (by rw [c9]; exact esc_tab);have hbvs : ([92, 116] : List UInt8).map bv = [.int .u8 92, .int .u8 116] := rfl;have HE := lh he;have HBV := lh hbvs;clear he hbvs;go_wp2_with (first | (at_builtin; go_must (refine wpList_append_own _ rfl (.tmp 28) (.tmp 29) 74 rfl w.heap.size 5 i5 (.int .u8 0) 1 1 Tryz.underlying74 HI.out hz0 hz1 hz2 rfl (by decide) (.slice (some ⟨g, 0, none⟩) L.length cap) L.length (L.map bv) rfl (HO.out.alloc _) ⟨wr.heap.size, 0, none⟩ 2 2 [.int .u8 92, .int .u8 116] rfl rfl (jT (c := #[.int .u8 92, .int .u8 116]) _ (by simp)) (by rw [← HBV.out]; exact bv_all _) (by unfold maxLen; omega) (by omega) (by simp; omega) ?_)))
        intro v4 w4 hown4 hg4 hnil4;obtain ⟨g4, cap4, hv4⟩ := kj hown4 hnil4;rw [hv4] at hown4 ⊢;clear hnil4 hv4;have hb4 : Below w.heap.size w w4 := (jk HB.out _).grown hg4 (by simp; omega) hlo
        have ho4 : w4.ownsRow w.heap.size 5 1 (.slice (some ⟨g4, 0, none⟩) (kt s (k + 1)).length cap4) (kt s (k + 1)).length ((kt s (k + 1)).map bv) := by
         rw [HST.out, HE.out, List.map_append, List.length_append, HBV.out];exact hown4
        have hln : (kt s (k + 1)).length = L.length + 2 := (by rw [HST.out, HE.out, List.length_append]; rfl);have HB4 := lh hb4;have HO4 := lh ho4;clear hb4 ho4 hown4 hg4 hlo;go_wp2_with fail
        go_roundw
        case rel => exact ⟨k + 1, g4, cap4, by omega, by go_num, by rw [hln], by rw [← hln]; exact HO4.out, HB4.out⟩
        case measure => simp [intOf]; omega
      · have e9 : ((c : Int) == 9) = false := by simp; omega
        by_cases c34 : c = 34
        · have e34 : ((c : Int) == 34) = true := (by simp [c34]);have he : esc (UInt8.ofNat c) = [92, 34] := (by rw [c34]; decide);have hbvs : ([92, 34] : List UInt8).map bv = [.int .u8 92, .int .u8 34] := rfl;have HE := lh he;have HBV := lh hbvs;clear he hbvs;go_wp2_with (first | (at_builtin; go_must (refine wpList_append_own _ rfl (.tmp 36) (.tmp 38) 74 rfl w.heap.size 5 i5 (.int .u8 0) 1 1 Tryz.underlying74 HI.out hz0 hz1 hz2 rfl (by decide) (.slice (some ⟨g, 0, none⟩) L.length cap) L.length (L.map bv) rfl (HO.out.alloc _) ⟨wr.heap.size, 0, none⟩ 2 2 [.int .u8 92, .int .u8 34] rfl rfl (jT (c := #[.int .u8 92, .int .u8 34]) _ (by simp)) (by rw [← HBV.out]; exact bv_all _) (by unfold maxLen; omega) (by omega) (by simp; omega) ?_)))
          intro v4 w4 hown4 hg4 hnil4;obtain ⟨g4, cap4, hv4⟩ := kj hown4 hnil4;rw [hv4] at hown4 ⊢;clear hnil4 hv4;have hb4 : Below w.heap.size w w4 := (jk HB.out _).grown hg4 (by simp; omega) hlo
          have ho4 : w4.ownsRow w.heap.size 5 1 (.slice (some ⟨g4, 0, none⟩) (kt s (k + 1)).length cap4) (kt s (k + 1)).length ((kt s (k + 1)).map bv) := by
           rw [HST.out, HE.out, List.map_append, List.length_append, HBV.out];exact hown4
          have hln : (kt s (k + 1)).length = L.length + 2 := (by rw [HST.out, HE.out, List.length_append]; rfl);have HB4 := lh hb4;have HO4 := lh ho4;clear hb4 ho4 hown4 hg4 hlo;go_wp2_with fail
          go_roundw
          case rel => exact ⟨k + 1, g4, cap4, by omega, by go_num, by rw [hln], by rw [← hln]; exact HO4.out, HB4.out⟩
          case measure => simp [intOf]; omega
        · have e34 : ((c : Int) == 34) = false := by simp; omega
          by_cases c92 : c = 92
          · have e92 : ((c : Int) == 92) = true := (by simp [c92]);have he : esc (UInt8.ofNat c) = [92, 92] := (by rw [c92]; decide);have hbvs : ([92, 92] : List UInt8).map bv = [.int .u8 92, .int .u8 92] := rfl;have HE := lh he;have HBV := lh hbvs;clear he hbvs;go_wp2_with (first | (at_builtin; go_must (refine wpList_append_own _ rfl (.tmp 36) (.tmp 38) 74 rfl w.heap.size 5 i5 (.int .u8 0) 1 1 Tryz.underlying74 HI.out hz0 hz1 hz2 rfl (by decide) (.slice (some ⟨g, 0, none⟩) L.length cap) L.length (L.map bv) rfl (HO.out.alloc _) ⟨wr.heap.size, 0, none⟩ 2 2 [.int .u8 92, .int .u8 92] rfl rfl (jT (c := #[.int .u8 92, .int .u8 92]) _ (by simp)) (by rw [← HBV.out]; exact bv_all _) (by unfold maxLen; omega) (by omega) (by simp; omega) ?_)))
            intro v4 w4 hown4 hg4 hnil4;obtain ⟨g4, cap4, hv4⟩ := kj hown4 hnil4;rw [hv4] at hown4 ⊢;clear hnil4 hv4;have hb4 : Below w.heap.size w w4 := (jk HB.out _).grown hg4 (by simp; omega) hlo
            have ho4 : w4.ownsRow w.heap.size 5 1 (.slice (some ⟨g4, 0, none⟩) (kt s (k + 1)).length cap4) (kt s (k + 1)).length ((kt s (k + 1)).map bv) := by
             rw [HST.out, HE.out, List.map_append, List.length_append, HBV.out];exact hown4
            have hln : (kt s (k + 1)).length = L.length + 2 := (by rw [HST.out, HE.out, List.length_append]; rfl);have HB4 := lh hb4;have HO4 := lh ho4;clear hb4 ho4 hown4 hg4 hlo;go_wp2_with fail
            go_roundw
            case rel => exact ⟨k + 1, g4, cap4, by omega, by go_num, by rw [hln], by rw [← hln]; exact HO4.out, HB4.out⟩
            case measure => simp [intOf]; omega
          · have e92 : ((c : Int) == 92) = false := by simp; omega
            by_cases c32 : c < 32
            · have e32 : decide ((c : Int) < 32) = true := (by simp; omega);have he : esc (UInt8.ofNat c) = [92, UInt8.ofNat (48 + c / 100), UInt8.ofNat (48 + c / 10 % 10), UInt8.ofNat (48 + c % 10)] := esc_code hc8 c10 c9 (by omega);have hbvs : ([92, UInt8.ofNat (48 + c / 100), UInt8.ofNat (48 + c / 10 % 10), UInt8.ofNat (48 + c % 10)] : List UInt8).map bv = [.int .u8 92, .int .u8 (48 + (c : Int) / 100), .int .u8 (48 + (c : Int) / 10 % 10), .int .u8 (48 + (c : Int) % 10)] := code_bv hc8;have HE := lh he;have HBV := lh hbvs;clear he hbvs;go_wp2_with (first | (at_builtin; go_must (refine wpList_append_own _ rfl (.tmp 45) (.tmp 56) 74 rfl w.heap.size 5 i5 (.int .u8 0) 1 1 Tryz.underlying74 HI.out hz0 hz1 hz2 rfl (by decide) (.slice (some ⟨g, 0, none⟩) L.length cap) L.length (L.map bv) rfl (HO.out.alloc _) ⟨wr.heap.size, 0, none⟩ 4 4 [.int .u8 92, .int .u8 (48 + (c : Int) / 100), .int .u8 (48 + (c : Int) / 10 % 10), .int .u8 (48 + (c : Int) % 10)] rfl rfl (jT (c := #[.int .u8 92, .int .u8 (48 + (c : Int) / 100), .int .u8 (48 + (c : Int) / 10 % 10), .int .u8 (48 + (c : Int) % 10)]) _ (by simp)) (by rw [← HBV.out]; exact bv_all _) (by unfold maxLen; omega) (by omega) (by simp; omega) ?_)))
              intro v4 w4 hown4 hg4 hnil4;obtain ⟨g4, cap4, hv4⟩ := kj hown4 hnil4;rw [hv4] at hown4 ⊢;clear hnil4 hv4;have hb4 : Below w.heap.size w w4 := (jk HB.out _).grown hg4 (by simp; omega) hlo
              have ho4 : w4.ownsRow w.heap.size 5 1 (.slice (some ⟨g4, 0, none⟩) (kt s (k + 1)).length cap4) (kt s (k + 1)).length ((kt s (k + 1)).map bv) := by
               rw [HST.out, HE.out, List.map_append, List.length_append, HBV.out];exact hown4
              have hln : (kt s (k + 1)).length = L.length + 4 := (by rw [HST.out, HE.out, List.length_append]; rfl);have HB4 := lh hb4;have HO4 := lh ho4;clear hb4 ho4 hown4 hg4 hlo;go_wp2_with fail
              go_roundw
              case rel => exact ⟨k + 1, g4, cap4, by omega, by go_num, by rw [hln], by rw [← hln]; exact HO4.out, HB4.out⟩
              case measure => simp [intOf]; omega
            · have e32 : decide ((c : Int) < 32) = false := by simp; omega
              by_cases c126 : 126 < c
              · have e126 : decide ((126 : Int) < (c : Int)) = true := (by simp; omega);have he : esc (UInt8.ofNat c) = [92, UInt8.ofNat (48 + c / 100), UInt8.ofNat (48 + c / 10 % 10), UInt8.ofNat (48 + c % 10)] := esc_code hc8 c10 c9 (by omega);have hbvs : ([92, UInt8.ofNat (48 + c / 100), UInt8.ofNat (48 + c / 10 % 10), UInt8.ofNat (48 + c % 10)] : List UInt8).map bv = [.int .u8 92, .int .u8 (48 + (c : Int) / 100), .int .u8 (48 + (c : Int) / 10 % 10), .int .u8 (48 + (c : Int) % 10)] := code_bv hc8;have HE := lh he;have HBV := lh hbvs;clear he hbvs;go_wp2_with (first | (at_builtin; go_must (refine wpList_append_own _ rfl (.tmp 45) (.tmp 56) 74 rfl w.heap.size 5 i5 (.int .u8 0) 1 1 Tryz.underlying74 HI.out hz0 hz1 hz2 rfl (by decide) (.slice (some ⟨g, 0, none⟩) L.length cap) L.length (L.map bv) rfl (HO.out.alloc _) ⟨wr.heap.size, 0, none⟩ 4 4 [.int .u8 92, .int .u8 (48 + (c : Int) / 100), .int .u8 (48 + (c : Int) / 10 % 10), .int .u8 (48 + (c : Int) % 10)] rfl rfl (jT (c := #[.int .u8 92, .int .u8 (48 + (c : Int) / 100), .int .u8 (48 + (c : Int) / 10 % 10), .int .u8 (48 + (c : Int) % 10)]) _ (by simp)) (by rw [← HBV.out]; exact bv_all _) (by unfold maxLen; omega) (by omega) (by simp; omega) ?_)))
                intro v4 w4 hown4 hg4 hnil4;obtain ⟨g4, cap4, hv4⟩ := kj hown4 hnil4;rw [hv4] at hown4 ⊢;clear hnil4 hv4;have hb4 : Below w.heap.size w w4 := (jk HB.out _).grown hg4 (by simp; omega) hlo
                have ho4 : w4.ownsRow w.heap.size 5 1 (.slice (some ⟨g4, 0, none⟩) (kt s (k + 1)).length cap4) (kt s (k + 1)).length ((kt s (k + 1)).map bv) := by
                 rw [HST.out, HE.out, List.map_append, List.length_append, HBV.out];exact hown4
                have hln : (kt s (k + 1)).length = L.length + 4 := (by rw [HST.out, HE.out, List.length_append]; rfl);have HB4 := lh hb4;have HO4 := lh ho4;clear hb4 ho4 hown4 hg4 hlo;go_wp2_with fail
                go_roundw
                case rel => exact ⟨k + 1, g4, cap4, by omega, by go_num, by rw [hln], by rw [← hln]; exact HO4.out, HB4.out⟩
                case measure => simp [intOf]; omega
              · have e126 : decide ((126 : Int) < (c : Int)) = false := (by simp; omega);have he : esc (UInt8.ofNat c) = [UInt8.ofNat c] := esc_plain hc8 (by omega) (by omega) c34 c92;have hbvs : ([UInt8.ofNat c] : List UInt8).map bv = [.int .u8 (c : Nat)] := (by rw [List.map_cons, List.map_nil, bv_of hc8]);have HE := lh he;have HBV := lh hbvs;clear he hbvs;go_wp2_with (first | (at_builtin; go_must (refine wpList_append_own _ rfl (.tmp 15) (.tmp 17) 74 rfl w.heap.size 5 i5 (.int .u8 0) 1 1 Tryz.underlying74 HI.out hz0 hz1 hz2 rfl (by decide) (.slice (some ⟨g, 0, none⟩) L.length cap) L.length (L.map bv) rfl (HO.out.alloc _) ⟨wr.heap.size, 0, none⟩ 1 1 [.int .u8 (c : Nat)] rfl rfl (jT (c := #[.int .u8 (c : Nat)]) _ (by simp)) (by rw [← HBV.out]; exact bv_all _) (by unfold maxLen; omega) (by omega) (by simp; omega) ?_)))
                intro v4 w4 hown4 hg4 hnil4;obtain ⟨g4, cap4, hv4⟩ := kj hown4 hnil4;rw [hv4] at hown4 ⊢;clear hnil4 hv4;have hb4 : Below w.heap.size w w4 := (jk HB.out _).grown hg4 (by simp; omega) hlo
                have ho4 : w4.ownsRow w.heap.size 5 1 (.slice (some ⟨g4, 0, none⟩) (kt s (k + 1)).length cap4) (kt s (k + 1)).length ((kt s (k + 1)).map bv) := by
                 rw [HST.out, HE.out, List.map_append, List.length_append, HBV.out];exact hown4
                have hln : (kt s (k + 1)).length = L.length + 1 := (by rw [HST.out, HE.out, List.length_append]; rfl);have HB4 := lh hb4;have HO4 := lh ho4;clear hb4 ho4 hown4 hg4 hlo;go_wp2_with fail
                go_roundw
                case rel => exact ⟨k + 1, g4, cap4, by omega, by go_num, by rw [hln], by rw [← hln]; exact HO4.out, HB4.out⟩
                case measure => simp [intOf]; omega
  · obtain rfl : k = s.size := by omega
    have hd : decide ((s.size : Int) < (s.size : Int)) = false := (by simp);have hpe := preQ_end s;have HPE := lh hpe;clear hpe;generalize kt s s.size = L at *
    go_wp2_with (first | (at_builtin; go_must (refine wpList_append_own _ rfl (.tmp 59) (.tmp 60) 74 rfl w.heap.size 5 i5 (.int .u8 0) 1 1 Tryz.underlying74 HI.out hz0 hz1 hz2 rfl (by decide) (.slice (some ⟨g, 0, none⟩) L.length cap) L.length (L.map bv) rfl (HO.out.alloc _) ⟨wr.heap.size, 0, none⟩ 1 1 [.int .u8 34] rfl rfl (jT (c := #[.int .u8 34]) _ (by simp)) (bv_all [34]) (by unfold maxLen; omega) (by omega) (by simp; omega) ?_)))
    intro v4 w4 hown4 hg4 hnil4;obtain ⟨g4, cap4, hv4⟩ := kj hown4 hnil4;rw [hv4] at hown4 ⊢;clear hnil4 hv4;have hb4 : Below w.heap.size w w4 := (jk HB.out _).grown hg4 (by simp; omega) hlo
    have ho4 : w4.ownsRow w.heap.size 5 1 (.slice (some ⟨g4, 0, none⟩) (L ++ [34]).length cap4) (L ++ [34]).length ((L ++ [34]).map bv) := by
     rw [List.map_append, List.length_append];exact hown4
    have hcv := conv_any 74 9 5 Tryz.underlying74 Tryz.underlying5 Tryz.underlying9 ho4;have hln : (L ++ [34]).length = L.length + 1 := (by simp);rw [hln] at hcv;have HB4 := lh hb4;clear hb4 ho4 hown4 hg4 hlo;generalize hQ : L ++ [34] = Q at hcv;go_wp2_with fail
    go_ret
    refine ⟨?_, HB4.out⟩;rw [← hQ, HPE.out];rfl
open Go.RowKit Go.Shelf
theorem extra : Builder.Extra Tryz.prog Tryz.lays155_ren where
 sizeBuilder := by kernel_rfl
 liesBuilder := by kernel_rfl
 t5 := Tryz.lays155.t5
 a5 := Tryz.lays155.a5
 z5 := Tryz.lays155.z5
 v5 := Tryz.lays155.v5
 infoByte := by kernel_rfl
 cellsByte := by kernel_rfl
 sizeByte := by kernel_rfl
 neB5 := by decide
theorem extraJ : Builder.Extra Tryz.prog Tryz.lays156_ren where
 sizeBuilder := by kernel_rfl
 liesBuilder := by kernel_rfl
 t5 := Tryz.lays155.t5
 a5 := Tryz.lays155.a5
 z5 := Tryz.lays155.z5
 v5 := Tryz.lays155.v5
 infoByte := by kernel_rfl
 cellsByte := by kernel_rfl
 sizeByte := by kernel_rfl
 neB5 := by decide
section
variable {B pb : Nat} {v0 : Value} {w0 W : World} {l : List ByteArray} {bs : List Bx}
theorem path_g (h : Gp B pb v0 w0 l W bs) {s : ByteArray} {ws : List ByteArray} (hp : PathT s ws) (hl : jl l + jl ws ≤ 4000000000) :
 Calls Tryz.prog 91 #[pp pb, .string s] W (Wr B pb v0 w0 bs l ws) := by
 obtain ⟨m, hm⟩ := h.gl.mx;have hs := hp.len;have hj := jb_len ws;obtain ⟨hc, he⟩ := hp.split;have hco : Lib.countB s ⟨#[46]⟩ ≤ s.size := Lib.countB_le _ (by decide) _ _ (Nat.le_refl _);have cR : Calls Tryz.prog 136 #[.string s, .string ⟨#[46]⟩, .string ⟨#[32, 46, 32]⟩] W fun e w' => e = .returned (.string ⟨(Lib.replaceAll s.data.toList [46] [32, 46, 32]).toArray⟩) ∧ Below W.heap.size W w' := Any.strings_ReplaceAll Tryz.lays155 extra s ⟨#[46]⟩ ⟨#[32, 46, 32]⟩ m W (by omega) hm (by decide) (by show s.size + _ * 3 ≤ _; omega);rw [hp.rep] at cR;have hz : (⟨(jb ws).toArray⟩ : ByteArray).size = (jb ws).length := by simp [ByteArray.size]
 have cS : Hid (∀ W1 : World, Gp B pb v0 w0 l W1 bs → Calls Tryz.prog 135 #[.string ⟨(jb ws).toArray⟩, .string ⟨#[32]⟩] W1 fun e w' => e = .returned (.slice (some ⟨W1.heap.size, 0, none⟩) ws.length ws.length) ∧ w' = W1.alloc (.cells (ws.map Value.string).toArray 9)) := lh (fun W1 h1 => by
  obtain ⟨m1, hm1⟩ := h1.gl.mx;have c : Calls Tryz.prog 135 #[.string ⟨(jb ws).toArray⟩, .string ⟨#[32]⟩] W1 fun e w' => e = .returned (.slice (some ⟨W1.heap.size, 0, none⟩) (Lib.countB ⟨(jb ws).toArray⟩ ⟨#[32]⟩ + 1) (Lib.countB ⟨(jb ws).toArray⟩ ⟨#[32]⟩ + 1)) ∧ w' = W1.alloc (.cells ((Lib.splitB ⟨#[32]⟩ 0 (Lib.countB ⟨(jb ws).toArray⟩ ⟨#[32]⟩) ⟨(jb ws).toArray⟩).map Value.string).toArray 9) := Any.strings_Split Tryz.lays146 (by kernel_rfl) ⟨(jb ws).toArray⟩ ⟨#[32]⟩ m1 W1 (by rw [hz]; omega) hm1 (by decide);rw [he, hc] at c
  exact c)
 have h0 : 0 < ws.length := by rw [← hc]; omega
 have CR := lh cR;have G := lh h;obtain ⟨j, hjj⟩ : ∃ j : ByteArray, j = ⟨(jb ws).toArray⟩ := ⟨_, rfl⟩
 rw [← hjj] at CR cS;have HL := lh hl;have H0 := lh h0;clear hm hs hj hc he hco cR hz h hp hjj hl h0;go_enter Tryz.func91, Tryz.ntmps91
 go_wp2_with (first
  | (go_at_call 136; refine CR.out.mono ?_; rintro e w1 ⟨rfl, hb⟩; have G1 := lh (G.out.below hb); clear hb)
  | (go_at_call 135; refine (cS.out w1 G1.out).mono ?_; rintro e w2 ⟨rfl, hw2⟩; have G2 : Hid (Gp B pb v0 w0 l w2 bs) := lh (G1.out.below (by rw [hw2]; exact jk (Below.refl _ _) _)); have HC2 : Hid (∀ j u, (ws.map Value.string)[j]? = some u → w2.cell? ((⟨w1.heap.size, 0, none⟩ : Addr).add j) = some u) := lh (by rw [hw2]; exact jT (c := (ws.map Value.string).toArray) _ rfl); clear hw2)
  | (go_at_call 85; refine (put_g ws w1.heap.size 0 ws.length ws.length rfl H0.out HC2.out _ _ _ _ G2.out (by simp) HL.out).mono ?_; rintro e w3 ⟨rfl, hg⟩; have G3 := lh hg; clear hg))
 go_end0
 exact ⟨rfl, G3.out⟩
theorem dec_dg (n : Nat) : Lib.decDigits n = dgL n := by
 induction n using Nat.strongRecOn with
 | ind n ih =>
  unfold Lib.decDigits dgL
  by_cases h : n < 10
  · rw [dif_pos h, dif_pos h]
  · rw [dif_neg h, dif_neg h, ih (n / 10) (by omega)]
theorem itoa_dg (n : Nat) : (⟨(Lib.itoa (n : Int)).toArray⟩ : ByteArray) = dgW n := by
 unfold Lib.itoa dgW;rw [if_neg (by omega), Int.toNat_natCast, dec_dg]
theorem itoa_g (h : Gp B pb v0 w0 l W bs) (n : Nat) (hn : n ≤ 1000000000) : Calls Tryz.prog 89 #[.int .i64 n] W fun e w' => e = .returned (.string (dgW n)) ∧ Gp B pb v0 w0 l w' bs := by
 have c : Calls Tryz.prog 89 #[.int .i64 n] W fun e w' => e = .returned (.string ⟨(Lib.itoa n).toArray⟩) ∧ ∃ k os, w' = Go.Sort.grow (W.drewN k) os := Any.strconv_Itoa Tryz.lays171 (n : Int) (by omega) (by omega) W h.gl.tb
 refine c.mono ?_;rintro e w' ⟨rfl, k, os, rfl⟩;exact ⟨by rw [itoa_dg], h.below ⟨rfl, rfl, rfl, by simp [Go.Sort.grow], fun k9 hk => by show (W.heap ++ os)[k9]? = _; rw [Array.getElem?_append_left hk]⟩⟩
theorem quote_g (h : Gp B pb v0 w0 l W bs) (s : ByteArray) (hs : s.size ≤ 200) : Calls Tryz.prog 90 #[.string s] W fun e w' => e = .returned (.string (qC s)) ∧ Gp B pb v0 w0 l w' bs :=
 (pquote_any s W (by omega)).mono (by rintro e w' ⟨rfl, hb⟩; exact ⟨rfl, h.below hb⟩)
end
theorem i0 {α : Type} {a : α} {l : List α} : a ∈ a :: l := List.mem_cons_self ..
theorem i1 {α : Type} {a b : α} {l : List α} : a ∈ b :: a :: l := List.mem_cons_of_mem _ i0
theorem i2 {α : Type} {a b c : α} {l : List α} : a ∈ b :: c :: a :: l := List.mem_cons_of_mem _ i1
theorem i3 {α : Type} {a b c d : α} {l : List α} : a ∈ b :: c :: d :: a :: l := List.mem_cons_of_mem _ i2
theorem j1 {α : Type} {a : α} {l : List α} : ∀ x ∈ l, x ∈ a :: l := fun _ h => List.mem_cons_of_mem _ h
theorem j2 {α : Type} {a b : α} {l : List α} : ∀ x ∈ l, x ∈ a :: b :: l := fun x h => List.mem_cons_of_mem _ (j1 x h)
theorem j3 {α : Type} {a b c : α} {l : List α} : ∀ x ∈ l, x ∈ a :: b :: c :: l := fun x h => List.mem_cons_of_mem _ (j2 x h)
theorem j4 {α : Type} {a b c d : α} {l : List α} : ∀ x ∈ l, x ∈ a :: b :: c :: d :: l := fun x h => List.mem_cons_of_mem _ (j3 x h)
structure Gt (B pb : Nat) (v0 : Value) (w0 : World) (l r : List ByteArray) (W : World) (bs : List Bx) : Prop where
 g : Gp B pb v0 w0 l W bs
 hl : jl l + jl r ≤ 4000000000
abbrev ag (pb : Nat) (v : Value) : Option Value → Array Value
 | none => #[pp pb, v]
 | some x => #[pp pb, v, x]
structure CF (f : Nat) (x : Option Value) (n : Ty) (ws : List ByteArray) : Prop where
 call : ∀ {B pb : Nat} {v0 : Value} {w0 : World} {l : List ByteArray} {W : World} {bs : List Bx} {ao : Option Addr} {cap : Nat}, Gt B pb v0 w0 l ws W bs → SlD w0 (fun b => b < B) n.args ao cap → Calls Tryz.prog f (ag pb (.agg (jh n ao cap)) x) W (Wr B pb v0 w0 bs l ws)
section
variable {B pb : Nat} {v0 : Value} {w0 W W' : World} {l r ws : List ByteArray} {bs : List Bx}
theorem Gt.drew (h : Gt B pb v0 w0 l r W bs) : Gt B pb v0 w0 l r W.drew bs := ⟨h.g.below (bdrewN (Below.refl _ _) 1), h.hl⟩
theorem Gt.put {s : ByteArray} (h : Gt B pb v0 w0 l (s :: r) W bs) {R : Ending → World → Prop} (k : ∀ u, Hid (Gt B pb v0 w0 (l ++ [s]) r u bs) → R (.returned (.tuple #[])) u) : Calls Tryz.prog 85 #[pp pb, .slice (some ⟨W.heap.size, 0, none⟩) 1 1] (W.alloc (.cells #[.string s] 9)) R :=
 (put1 h.g s (by have := h.hl; simp only [jl] at this; omega)).mono (by rintro e w' ⟨rfl, hg⟩; exact k _ (lh ⟨hg, by have := h.hl; simp only [jl, jL] at this ⊢; omega⟩))
theorem Gt.putm {s : ByteArray} {m : Nat} (h : Gt B pb v0 w0 l (s :: r) W bs) (hm : m = W.heap.size) {R : Ending → World → Prop} (k : ∀ u, Hid (Gt B pb v0 w0 (l ++ [s]) r u bs) → R (.returned (.tuple #[])) u) : Calls Tryz.prog 85 #[pp pb, .slice (some ⟨m, 0, none⟩) 1 1] (W.alloc (.cells #[.string s] 9)) R := by subst hm; exact h.put k
theorem Gt.wr {e : Ending} {w' : World} (h : Gt B pb v0 w0 l (ws ++ r) W bs) (hw : Wr B pb v0 w0 bs l ws e w') : e = .returned (.tuple #[]) ∧ Gt B pb v0 w0 (l ++ ws) r w' bs := ⟨hw.1, hw.2, by have := h.hl; simp only [jL] at this ⊢; omega⟩
theorem Gt.hd (h : Gt B pb v0 w0 l (ws ++ r) W bs) : Gt B pb v0 w0 l ws W bs := ⟨h.g, by have := h.hl; simp only [jL] at this; omega⟩
theorem Gt.call {f : Nat} {x : Option Value} {n : Ty} (h : Gt B pb v0 w0 l (ws ++ r) W bs) (hc : CF f x n ws) {ao : Option Addr} {cap : Nat} (hs : SlD w0 (fun b => b < B) n.args ao cap) {R : Ending → World → Prop} (k : ∀ u, Hid (Gt B pb v0 w0 (l ++ ws) r u bs) → R (.returned (.tuple #[])) u) : Calls Tryz.prog f (ag pb (.agg (jh n ao cap)) x) W R :=
 (hc.call h.hd hs).mono (by intro e w' hw; obtain ⟨rfl, h2⟩ := h.wr hw; exact k _ (lh h2))
theorem Gt.kid (h : Gt B pb v0 w0 l r W bs) {K : List Ty} {ao : Option Addr} {cap : Nat} (hS : SlD w0 (fun b => b < B) K ao cap) (j : Nat) (x : Ty) (hx : K[j]? = some x) (c : Nat) (hc : c = K.length) (i : Int) (hi : i = (j : Int)) : ∃ b p ap cp, Hid (SlD w0 (fun b => b < B) x.args ap cp) ∧ b < W.heap.size ∧ (∀ w' : World, (Instr.indexAt 24 (.slice ao c cap) (.int .i64 i)).run Tryz.prog w' = .ok (.pointer (some ⟨b, p, none⟩)) w') ∧
 W.cell? ⟨b, p, none⟩ = some (.int .i64 x.k) ∧ W.cell? ⟨b, p + 1, none⟩ = some (.int .i64 x.n) ∧ W.cell? ⟨b, p + 2, none⟩ = some (.string x.s) ∧ W.cell? ⟨b, p + 3, none⟩ = some (.int .i64 x.q) ∧ W.cell? ⟨b, p + 4, none⟩ = some (.slice ap x.args.length cp) := by
 obtain ⟨hj, rfl⟩ := List.getElem?_eq_some_iff.1 hx;subst hc hi;exact h.g.kid hS h.g.top hj
theorem Gt.itoa (h : Gt B pb v0 w0 l r W bs) {N : Nat} (hn : N ≤ 1000000000) {R : Ending → World → Prop} (k : ∀ u, Hid (Gt B pb v0 w0 l r u bs) → R (.returned (.string (dgW N))) u) : Calls Tryz.prog 89 #[.int .i64 N] W R :=
 (itoa_g h.g N hn).mono (by rintro e w' ⟨rfl, hg⟩; exact k _ (lh ⟨hg, h.hl⟩))
theorem Gt.quote (h : Gt B pb v0 w0 l r W bs) {s : ByteArray} (hs : s.size ≤ 200) {R : Ending → World → Prop} (k : ∀ u, Hid (Gt B pb v0 w0 l r u bs) → R (.returned (.string (qC s))) u) : Calls Tryz.prog 90 #[.string s] W R :=
 (quote_g h.g s hs).mono (by rintro e w' ⟨rfl, hg⟩; exact k _ (lh ⟨hg, h.hl⟩))
structure CV (f : Nat) (args : Array Value) (ws : List ByteArray) (B pb : Nat) (v0 : Value) (w0 : World) (bs : List Bx) : Prop where
 call : ∀ {l : List ByteArray} {W : World}, Gt B pb v0 w0 l ws W bs → Calls Tryz.prog f args W (Wr B pb v0 w0 bs l ws)
theorem Gt.put2 {s t : ByteArray} (h : Gt B pb v0 w0 l (s :: t :: r) W bs) {R : Ending → World → Prop} (k : ∀ u, Hid (Gt B pb v0 w0 (l ++ [s, t]) r u bs) → R (.returned (.tuple #[])) u) : Calls Tryz.prog 85 #[pp pb, .slice (some ⟨W.heap.size, 0, none⟩) 2 2] (W.alloc (.cells #[.string s, .string t] 9)) R :=
 (put_g [s, t] W.heap.size 0 2 2 rfl (by omega) (jT (c := #[.string s, .string t]) _ rfl) _ _ _ _ (h.g.below (jk (Below.refl _ _) _)) (by simp) (by have := h.hl; simp only [jl] at this ⊢; omega)).mono (by rintro e w' ⟨rfl, hg⟩; exact k _ (lh ⟨hg, by have := h.hl; simp only [jl, jL] at this ⊢; omega⟩))
theorem Gt.put3 {s t u : ByteArray} (h : Gt B pb v0 w0 l (s :: t :: u :: r) W bs) {R : Ending → World → Prop} (k : ∀ w, Hid (Gt B pb v0 w0 (l ++ [s, t, u]) r w bs) → R (.returned (.tuple #[])) w) : Calls Tryz.prog 85 #[pp pb, .slice (some ⟨W.heap.size, 0, none⟩) 3 3] (W.alloc (.cells #[.string s, .string t, .string u] 9)) R :=
 (put_g [s, t, u] W.heap.size 0 3 3 rfl (by omega) (jT (c := #[.string s, .string t, .string u]) _ rfl) _ _ _ _ (h.g.below (jk (Below.refl _ _) _)) (by simp) (by have := h.hl; simp only [jl] at this ⊢; omega)).mono (by rintro e w' ⟨rfl, hg⟩; exact k _ (lh ⟨hg, by have := h.hl; simp only [jl, jL] at this ⊢; omega⟩))
theorem Gt.path (h : Gt B pb v0 w0 l (ws ++ r) W bs) {s : ByteArray} (hp : PathT s ws) {R : Ending → World → Prop} (k : ∀ u, Hid (Gt B pb v0 w0 (l ++ ws) r u bs) → R (.returned (.tuple #[])) u) : Calls Tryz.prog 91 #[pp pb, .string s] W R :=
 (path_g h.g hp h.hd.hl).mono (by intro e w' hw; obtain ⟨rfl, h2⟩ := h.wr hw; exact k _ (lh h2))
theorem Gt.round {must : Bool} (h : Gt B pb v0 w0 l (rnd must ws ++ r) W bs) {n : Nat} {cp : Array Value} (hcf : ∀ (x9 : Array Value) (w : World), (callFunc n x9).run Tryz.prog w = .ok (.enter n x9) w) (hc : CV n cp ws B pb v0 w0 bs) {R : Ending → World → Prop} (k : ∀ u, Hid (Gt B pb v0 w0 (l ++ rnd must ws) r u bs) → R (.returned (.tuple #[])) u) : Calls Tryz.prog 82 #[pp pb, .bool must, .func (.func n) #[] cp] W R :=
 (round_g h.g n cp hcf ws must h.hd.hl fun l1 W1 h1 h2 => hc.call ⟨h1, h2⟩).mono (by intro e w' hw; obtain ⟨rfl, h2⟩ := h.wr hw; exact k _ (lh h2))
structure RowC (P : Ty → List ByteArray → Prop) (s : ByteArray) (K : List Ty) (ws : List ByteArray) : Prop where
 ex : ∃ wss : List (List ByteArray), wss.length = K.length ∧ ws = qG s wss ∧ ∀ i (hi : i < K.length) (hi2 : i < wss.length), P K[i] wss[i]
structure ManyC (P : Ty → List ByteArray → Prop) (K : List Ty) (ws : List ByteArray) : Prop where
 ex : ∃ wss : List (List ByteArray), wss.length = K.length ∧ ws = wss.flatten ∧ ∀ i (hi : i < K.length) (hi2 : i < wss.length), P K[i] wss[i] ∧ wss[i] ≠ []
theorem sepW_len (s : ByteArray) : ∀ (r : List (List ByteArray)), r.length ≤ jl (qG s r) + 1
 | [] => by simp
 | [x] => by simp
 | x :: y :: r => by
  have h := sepW_len s (y :: r)
  simp only [qG, jL, jl, List.length_cons] at h ⊢
  omega
structure OneC (n : Nat) (rv cp : Array Value) (P : Ty → List ByteArray → Prop) (B pb : Nat) (v0 : Value) (w0 : World) (bs : List Bx) : Prop where
 hcf : ∀ (x9 : Array Value) (w : World), (callFunc n x9).run Tryz.prog w = .ok (.enter n x9) w
 call : ∀ {x : Ty} {ws : List ByteArray}, P x ws → ∀ {l : List ByteArray} {W : World} {ao : Option Addr} {cap : Nat}, Gt B pb v0 w0 l ws W bs → SlD w0 (fun b => b < B) x.args ao cap → Calls Tryz.prog n (rv ++ #[.agg (jh x ao cap)] ++ cp) W (Wr B pb v0 w0 bs l ws)
theorem Gt.list {P : Ty → List ByteArray → Prop} {s : ByteArray} {K : List Ty} (h : Gt B pb v0 w0 l (ws ++ r) W bs) {n : Nat} {rv cp : Array Value} (ho : OneC n rv cp P B pb v0 w0 bs) (hr : RowC P s K ws) {ao : Option Addr} {cap c : Nat} (hc : c = K.length) (hS : SlD w0 (fun b => b < B) K ao cap) {R : Ending → World → Prop} (k : ∀ u, Hid (Gt B pb v0 w0 (l ++ ws) r u bs) → R (.returned (.tuple #[])) u) : Calls Tryz.prog 93 #[pp pb, .slice ao c cap, .string s, .func (.func n) rv cp] W R := by
 obtain ⟨wss, hl, rfl, hp⟩ := hr.ex;subst hc;have h1 := h.hd.hl;have h2 := sepW_len s wss;exact (list_g h.g n rv cp ho.hcf K ao cap hS h.g.top s wss hl (by omega) h1 fun i hi hi2 l1 W1 ap cq h3 h4 h5 => ho.call (hp i hi hi2) ⟨h3, h5⟩ h4).mono (by intro e w' hw; obtain ⟨rfl, h2⟩ := h.wr hw; exact k _ (lh h2))
theorem CF.one {f : Nat} (hcf : ∀ (x9 : Array Value) (w : World), (callFunc f x9).run Tryz.prog w = .ok (.enter f x9) w) : OneC f #[pp pb] #[] (CF f none) B pb v0 w0 bs := ⟨hcf, fun {x ws} hp {l W ao cap} h hS => by
 rw [show (#[pp pb] ++ #[Value.agg (jh x ao cap)] ++ #[] : Array Value) = #[pp pb, .agg (jh x ao cap)] by simp]
 exact hp.call h hS⟩
theorem Gt.end (h : Gt B pb v0 w0 l [] W bs) {cs : List Bx} (hs : ∀ x ∈ cs, x ∈ bs) {l0 : List ByteArray} (e : l = l0 ++ ws) : Wr B pb v0 w0 cs l0 ws (.returned (.tuple #[])) W := ⟨rfl, by rw [← e]; exact h.g.mono hs⟩
theorem Gt.nil (h : Gt B pb v0 w0 l ws W bs) : Gt B pb v0 w0 l (ws ++ []) W bs := by simpa using h
theorem Gt.box (h : Gt B pb v0 w0 l r W bs) {c : Array Value} {t : TypeId} (e : W' = W.alloc (.cells c t)) : Gt B pb v0 w0 l r W' ((W.heap.size, c, t) :: bs) := ⟨h.g.box e, h.hl⟩
theorem Gt.b1 (h : Gt B pb v0 w0 l ws W bs) (k a : Int) (s : ByteArray) (q : Int) (x : Value) : ∃ V, V = W.alloc (.cells #[.int .i64 k, .int .i64 a, .string s, .int .i64 q, x] 26) ∧ Hid (Gt B pb v0 w0 l ws V ((W.heap.size, #[.int .i64 k, .int .i64 a, .string s, .int .i64 q, x], 26) :: bs)) ∧ Hid (∀ (l : List ByteArray) (W9 : World), Gp B pb v0 w0 l W9 ((W.heap.size, #[.int .i64 k, .int .i64 a, .string s, .int .i64 q, x], 26) :: bs) → W9.cell? ⟨W.heap.size, 0, none⟩ = some (.int .i64 k) ∧ W9.cell? ⟨W.heap.size, 1, none⟩ = some (.int .i64 a) ∧ W9.cell? ⟨W.heap.size, 2, none⟩ = some (.string s) ∧ W9.cell? ⟨W.heap.size, 3, none⟩ = some (.int .i64 q) ∧ W9.cell? ⟨W.heap.size, 4, none⟩ = some x) := ⟨_, rfl, lh (h.box rfl), lh fun l W9 g => jM g.hd⟩
theorem Gt.b2 (h : Gt B pb v0 w0 l ws W bs) (k a : Int) (s : ByteArray) (q : Int) (x : Value) : ∃ V2, V2 = (W.alloc (.cells #[pp pb] 43)).alloc (.cells #[.int .i64 k, .int .i64 a, .string s, .int .i64 q, x] 26) ∧ Hid (Gt B pb v0 w0 l ws V2 ((W.heap.size + 1, #[.int .i64 k, .int .i64 a, .string s, .int .i64 q, x], 26) :: (W.heap.size, #[pp pb], 43) :: bs)) ∧ Hid (∀ (l : List ByteArray) (W9 : World), Gp B pb v0 w0 l W9 ((W.heap.size + 1, #[.int .i64 k, .int .i64 a, .string s, .int .i64 q, x], 26) :: (W.heap.size, #[pp pb], 43) :: bs) → (W9.cell? ⟨W.heap.size + 1, 0, none⟩ = some (.int .i64 k) ∧ W9.cell? ⟨W.heap.size + 1, 1, none⟩ = some (.int .i64 a) ∧ W9.cell? ⟨W.heap.size + 1, 2, none⟩ = some (.string s) ∧ W9.cell? ⟨W.heap.size + 1, 3, none⟩ = some (.int .i64 q) ∧ W9.cell? ⟨W.heap.size + 1, 4, none⟩ = some x) ∧ W9.cell? ⟨W.heap.size, 0, none⟩ = some (pp pb)) ∧ (V2.cell? ⟨W.heap.size + 1, 0, none⟩ = some (.int .i64 k) ∧ V2.cell? ⟨W.heap.size + 1, 1, none⟩ = some (.int .i64 a) ∧ V2.cell? ⟨W.heap.size + 1, 2, none⟩ = some (.string s) ∧ V2.cell? ⟨W.heap.size + 1, 3, none⟩ = some (.int .i64 q) ∧ V2.cell? ⟨W.heap.size + 1, 4, none⟩ = some x) ∧ V2.cell? ⟨W.heap.size, 0, none⟩ = some (pp pb) := by
 obtain ⟨V2, hV2⟩ : ∃ V2, V2 = (W.alloc (.cells #[pp pb] 43)).alloc (.cells #[.int .i64 k, .int .i64 a, .string s, .int .i64 q, x] 26) := ⟨_, rfl⟩
 have G : Gt B pb v0 w0 l ws V2 ((W.heap.size + 1, #[.int .i64 k, .int .i64 a, .string s, .int .i64 q, x], 26) :: (W.heap.size, #[pp pb], 43) :: bs) := by have h9 := (h.box rfl).box hV2; rw [World.size_alloc] at h9; exact h9
 have F := fun (l : List ByteArray) (W9 : World) (g : Gp B pb v0 w0 l W9 ((W.heap.size + 1, #[.int .i64 k, .int .i64 a, .string s, .int .i64 q, x], 26) :: (W.heap.size, #[pp pb], 43) :: bs)) => And.intro (jM (g.at i0)) (jV (g.at i1))
 exact ⟨V2, hV2, lh G, lh F, F _ _ G.g⟩
theorem Gt.b3 (n : Nat) (h : Gt B pb v0 w0 l ws W bs) (k a : Int) (s : ByteArray) (q : Int) (x : Value) : ∃ V2 V3, V2 = (W.alloc (.cells #[pp pb] 43)).alloc (.cells #[.int .i64 k, .int .i64 a, .string s, .int .i64 q, x] 26) ∧ V3 = V2.alloc (.cells #[.func (.func n) #[] #[.pointer (some ⟨W.heap.size, 0, none⟩)]] 47) ∧ Hid (Gt B pb v0 w0 l ws V3 ((V2.heap.size, #[.func (.func n) #[] #[.pointer (some ⟨W.heap.size, 0, none⟩)]], 47) :: (W.heap.size + 1, #[.int .i64 k, .int .i64 a, .string s, .int .i64 q, x], 26) :: (W.heap.size, #[pp pb], 43) :: bs)) ∧ Hid (∀ (l : List ByteArray) (W9 : World), Gp B pb v0 w0 l W9 ((V2.heap.size, #[.func (.func n) #[] #[.pointer (some ⟨W.heap.size, 0, none⟩)]], 47) :: (W.heap.size + 1, #[.int .i64 k, .int .i64 a, .string s, .int .i64 q, x], 26) :: (W.heap.size, #[pp pb], 43) :: bs) → (W9.cell? ⟨W.heap.size + 1, 0, none⟩ = some (.int .i64 k) ∧ W9.cell? ⟨W.heap.size + 1, 1, none⟩ = some (.int .i64 a) ∧ W9.cell? ⟨W.heap.size + 1, 2, none⟩ = some (.string s) ∧ W9.cell? ⟨W.heap.size + 1, 3, none⟩ = some (.int .i64 q) ∧ W9.cell? ⟨W.heap.size + 1, 4, none⟩ = some x) ∧ W9.cell? ⟨W.heap.size, 0, none⟩ = some (pp pb) ∧ W9.cell? ⟨V2.heap.size, 0, none⟩ = some (.func (.func n) #[] #[.pointer (some ⟨W.heap.size, 0, none⟩)])) ∧ (V2.cell? ⟨W.heap.size + 1, 0, none⟩ = some (.int .i64 k) ∧ V2.cell? ⟨W.heap.size + 1, 1, none⟩ = some (.int .i64 a) ∧ V2.cell? ⟨W.heap.size + 1, 2, none⟩ = some (.string s) ∧ V2.cell? ⟨W.heap.size + 1, 3, none⟩ = some (.int .i64 q) ∧ V2.cell? ⟨W.heap.size + 1, 4, none⟩ = some x) ∧ V2.cell? ⟨W.heap.size, 0, none⟩ = some (pp pb) := by
 obtain ⟨V2, hV2, G, -, c⟩ := h.b2 k a s q x;exact ⟨V2, _, hV2, rfl, lh (G.out.box rfl), lh fun l W9 g => And.intro (jM (g.at i1)) (And.intro (jV (g.at i2)) (jV g.hd)), c⟩
theorem Gt.al (h : Gt B pb v0 w0 l r W bs) {o : Obj} (e : W' = W.alloc o) : Gt B pb v0 w0 l r W' bs := ⟨h.g.below (by rw [e]; exact jk (Below.refl _ _) _), h.hl⟩
theorem hdc {f : Nat} {k a q : Int} {s : ByteArray} {K : List Ty} {hw : List ByteArray} (h1 : CF f none (.mk k a s q K) hw) {ao : Option Addr} {cap c : Nat} (hs : SlD w0 (fun b => b < B) K ao cap) (hc : K.length = c) : ∀ (l r : List ByteArray) (W9 : World) (bs : List Bx) (R : Ending → World → Prop), Gt B pb v0 w0 l (hw ++ r) W9 bs → (∀ u, Hid (Gt B pb v0 w0 (l ++ hw) r u bs) → R (.returned (.tuple #[])) u) → Calls Tryz.prog f #[pp pb, .agg #[.int .i64 k, .int .i64 a, .string s, .int .i64 q, .slice ao c cap]] W9 R := fun l r W9 bs R h z => by subst hc; exact h.call (R := R) h1 hs z
end
def qq (ao : Option Addr) (cap k : Nat) : Option Addr := if cap = k then ao else ao.map (·.add (k * 5))
theorem kW (ao : Option Addr) (n cap k : Nat) (hk : k ≤ cap) (i : Int) (hi : i = (k : Int)) (w : World) : (Instr.slice 24 (.slice ao n cap) none (some (.int .i64 i)) none).run Tryz.prog w = .ok (.slice ao k cap) w := by
 subst hi;rw [run_slice_h w 24 ao n cap Tryz.underlying24 .i64 (k : Int) (by omega) (by omega)];have he : (sizeOf (Tryz.prog.elem 24)).run Tryz.prog w = .ok 5 w := size26 w;rw [he]
 cases ao <;> simp [sliced, Result.andThen, Addr.add]
theorem kv (ao : Option Addr) (n cap k : Nat) (hk : k ≤ n) (i : Int) (hi : i = (k : Int)) (w : World) : (Instr.slice 24 (.slice ao n cap) (some (.int .i64 i)) none none).run Tryz.prog w = .ok (.slice (qq ao cap k) (n - k) (cap - k)) w := by
 subst hi;rw [run_slice_l w 24 ao n cap Tryz.underlying24 .i64 (k : Int) (by omega) (by omega)];have he : (sizeOf (Tryz.prog.elem 24)).run Tryz.prog w = .ok 5 w := size26 w;rw [he];simp [sliced, Result.andThen, qq]
theorem SlD.take {w : World} {D : Nat → Prop} {K : List Ty} {ao : Option Addr} {cap : Nat} (h : SlD w D K ao cap) (k : Nat) : SlD w D (K.take k) ao cap := by
 refine ⟨by rw [List.length_take]; exact Nat.le_trans (Nat.min_le_right _ _) h.1, ArgsV.of fun j hj => ?_⟩;rw [List.length_take] at hj;have h2 := h.2.get (k := j) (by omega);rw [List.getElem_take];exact h2
theorem SlD.drop {w : World} {D : Nat → Prop} {K : List Ty} {ao : Option Addr} {cap : Nat} (h : SlD w D K ao cap) (k : Nat) : SlD w D (K.drop k) (qq ao cap k) (cap - k) := by
 refine ⟨by rw [List.length_drop]; have := h.1; omega, ArgsV.of fun j hj => ?_⟩;rw [List.length_drop] at hj;obtain ⟨b, off, row, ha, hb, hc, hp⟩ := h.2.get (k := k + j) (by omega);have h1 := h.1;rw [List.getElem_drop];refine ⟨b, off + k * 5, row, ?_, hb, fun i hi => ?_, hp⟩
 · unfold qq;rw [if_neg (by omega), ha];simp only [Option.map_some]
   congr 1
   unfold Addr.add;split <;> simp_all
 · rw [← hc i hi, show off + k * 5 + (0 + j) * 5 + i = off + (0 + (k + j)) * 5 + i by omega]
theorem qR : ∀ (r : List (List ByteArray)), (∀ x ∈ r, x ≠ []) → r.length ≤ jl r.flatten
 | [], _ => by simp
 | x :: r, h => by
  have h1 := qR r fun y hy => h y (List.mem_cons_of_mem _ hy)
  have h2 : 1 ≤ jl x := by
   cases x with
   | nil => exact absurd rfl (h [] (by simp))
   | cons w x => simp only [jl]; omega
  simp only [List.flatten_cons, jL, List.length_cons]; omega
theorem flat_drop {r : List (List ByteArray)} {k : Nat} (h : k < r.length) (s : List ByteArray) : (r.drop k).flatten ++ s = r[k] ++ ((r.drop (k + 1)).flatten ++ s) := by rw [List.drop_eq_getElem_cons h, List.flatten_cons, List.append_assoc]
theorem vL {r : List (List ByteArray)} {k : Nat} (h : k < r.length) : (r.take (k + 1)).flatten = (r.take k).flatten ++ r[k] := by rw [List.take_succ_eq_append_getElem h, List.flatten_append, List.flatten_cons, List.flatten_nil, List.append_nil]
end Go.Proofs.YthehjeeiodbkjaaGreatDoor
