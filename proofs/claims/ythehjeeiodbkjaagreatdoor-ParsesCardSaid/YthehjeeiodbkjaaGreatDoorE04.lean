/-
  Proved: the contract of the reference's text; the contract of the reference's Token at digits. Conditions: a text of at most 4000 bytes.
-/
import Derived.Test.YthehjeeiodbkjaaGreatDoorE03
import Derived.Deep.DeepCutAuto
import Derived.Deep.CutBlock
import Derived.StillTailTactics
import Derived.Deep.RegionHeld3
set_option linter.unusedSimpArgs false
set_option linter.unusedVariables false
set_option maxRecDepth 100000
set_option maxHeartbeats 16000000
namespace Go.Proofs.YthehjeeiodbkjaaGreatDoor
open Go.RowKit
/-- what text answers -/
def textV (s : ByteArray) (i : Nat) : Value := match textD s (i + 1) [] with
 | some (r, j) => .tuple #[.string ⟨r.toArray⟩, .int .i64 j]
 | none => .tuple #[.string ⟨#[]⟩, .int .i64 (-1)]
theorem bt_eq {s : ByteArray} {k c : Nat} (h : k < s.size) (hc : c = bt s k) : (s[k]'h).toNat = c := by rw [hc, bt_get]
theorem str_app (l : List UInt8) (s : ByteArray) (k : Nat) (h : k < s.size) : (⟨l.toArray⟩ : ByteArray) ++ s.extract k (k + 1) = ⟨(l ++ [UInt8.ofNat (bt s k)]).toArray⟩ := by
 have hz := sizeL s
 have h1 : k < s.data.toList.length := by omega
 apply ByteArray.ext
 apply Array.ext'
 simp only [ByteArray.data_append, ByteArray.data_extract, Array.toList_append, Array.toList_extract]
 rw [List.extract_eq_take_drop, List.drop_eq_getElem_cons h1, show k + 1 - k = 1 from by omega]
 simp only [List.take_succ_cons, List.take_zero]
 congr 2
 rw [← bt_get s k h, UInt8.ofNat_toNat]
 rfl
theorem app_one (l : List UInt8) (b : UInt8) : (⟨l.toArray⟩ : ByteArray) ++ ⟨#[b]⟩ = ⟨(l ++ [b]).toArray⟩ := by
 apply ByteArray.ext
 apply Array.ext'
 simp [ByteArray.data_append]
def TxRel (s : ByteArray) (w : World) (i0 : Nat) (i o : Value) (wr : World) : Prop :=
 ∃ (k : Nat) (l : List UInt8), k ≤ s.size ∧ l.length ≤ k ∧ i = .int .i64 k ∧ o = .string ⟨l.toArray⟩ ∧ textD s k l = textD s (i0 + 1) [] ∧ Below w.heap.size w wr
theorem textV_none {s : ByteArray} {i : Nat} (h : textD s (i + 1) [] = none) : textV s i = .tuple #[.string ⟨#[]⟩, .int .i64 (-1)] := by unfold textV; rw [h]
theorem textV_some {s : ByteArray} {i j : Nat} {r : List UInt8} (h : textD s (i + 1) [] = some (r, j)) : textV s i = .tuple #[.string ⟨r.toArray⟩, .int .i64 j] := by unfold textV; rw [h]
theorem rtext_any (s : ByteArray) (i0 : Nat) (w : World) (hs : s.size ≤ 4000) (hi : i0 < s.size) :
 Calls Tryz.prog 173 #[.string s, .int .i64 i0] w fun e w' => e = .returned (textV s i0) ∧ Below w.heap.size w w' := by
 go_enter Tryz.func173, Tryz.ntmps173
 go_wp2_with fail
 go_loopw [1, 6] (fun i o wr => TxRel s w i0 i o wr) (fun i _ _ => s.size - (intOf i).toNat)
 case atStart => exact ⟨i0 + 1, [], by omega, Nat.zero_le _, by go_num, rfl, rfl, Below.refl _ _⟩
 case round =>
  obtain ⟨k, l, hk, hl, rfl, rfl, hc, hb⟩ := hrel
  have HC := lh hc
  have HB := lh hb
  clear hc hb
  have k0 : (0 : Int) ≤ (k : Int) := by omega
  have hsz : (⟨l.toArray⟩ : ByteArray).size = l.length := by simp [ByteArray.size]
  by_cases hlt : k < s.size
  · have k1 : (k : Int) < (s.size : Int) := by omega
    obtain ⟨c, hcb⟩ : ∃ c, c = bt s k := ⟨_, rfl⟩
    have hck := bt_eq hlt hcb
    have HCB := lh hcb
    clear hcb
    by_cases c34 : c = 34
    · have e34 : ((c : Int) == 34) = true := by simp [c34]
      have hst := textD_quote (l := l) hlt (by rw [← HCB.out]; exact c34)
      have HST := lh hst
      clear hst c34
      by_cases h2 : l.length ≤ 200
      · have hd : decide ((200 : Int) < (l.length : Int)) = false := by simp; omega
        go_wp2_with fail
        go_ret2
        rw [textV_some (r := l) (j := k + 1) (by rw [← HC.out, HST.out, if_pos h2])]
        exact ⟨rfl, HB.out⟩
      · have hd : decide ((200 : Int) < (l.length : Int)) = true := by simp; omega
        go_wp2_with fail
        go_ret2
        rw [textV_none (by rw [← HC.out, HST.out, if_neg h2])]
        exact ⟨rfl, HB.out⟩
    · have e34 : ((c : Int) == 34) = false := by simp; omega
      by_cases c32 : c < 32
      · have e32 : decide ((c : Int) < 32) = true := by simp; omega
        have hst := textD_low (l := l) hlt (by rw [← HCB.out]; exact c32)
        have HST := lh hst
        clear hst c34 c32
        go_wp2_with fail
        go_ret2
        rw [textV_none (by rw [← HC.out, HST.out])]
        exact ⟨rfl, HB.out⟩
      · have e32 : decide ((c : Int) < 32) = false := by simp; omega
        by_cases c92 : c = 92
        · skip
          have e92 : ((c : Int) != 92) = false := by simp [c92]
          by_cases h1 : k + 1 < s.size
          · have k2 : (0 : Int) ≤ (k : Int) + 1 := by omega
            have k3 : (k : Int) + 1 < (s.size : Int) := by omega
            have k4 : ((k : Int) + 1).toNat = k + 1 := by omega
            obtain ⟨d, hdb⟩ : ∃ d, d = bt s (k + 1) := ⟨_, rfl⟩
            have hdk := bt_eq h1 hdb
            have HDB := lh hdb
            clear hdb
            by_cases d110 : d = 110
            · have f110 : ((d : Int) == 110) = true := by simp [d110]
              have hst := textD_esc (l := l) (v := 10) (j := k + 1 + 1) hlt (by rw [← HCB.out]; exact c92) (by unfold escD; rw [if_pos h1, ← HDB.out, if_pos d110])
              have HST := lh hst
              clear hst d110 c92 c34 c32
              go_wp2_with fail
              go_roundw
              case rel =>
               refine ⟨k + 2, l ++ [UInt8.ofNat 10], by omega, by simp; omega, by go_num, by rw [app_one]; rfl, ?_, HB.out⟩
               rw [← HC.out, HST.out]
              case measure => simp [intOf]; omega
            · have f110 : ((d : Int) == 110) = false := by simp; omega
              by_cases d116 : d = 116
              · have f116 : ((d : Int) == 116) = true := by simp [d116]
                have hst := textD_esc (l := l) (v := 9) (j := k + 1 + 1) hlt (by rw [← HCB.out]; exact c92) (by unfold escD; rw [if_pos h1, ← HDB.out, if_neg d110, if_pos d116])
                have HST := lh hst
                clear hst d110 d116 c92 c34 c32
                go_wp2_with fail
                go_roundw
                case rel =>
                 refine ⟨k + 2, l ++ [UInt8.ofNat 9], by omega, by simp; omega, by go_num, by rw [app_one]; rfl, ?_, HB.out⟩
                 rw [← HC.out, HST.out]
                case measure => simp [intOf]; omega
              · have f116 : ((d : Int) == 116) = false := by simp; omega
                by_cases dq : d = 92 ∨ d = 34
                · have hst := textD_esc (l := l) (v := bt s (k + 1)) (j := k + 1 + 1) hlt (by rw [← HCB.out]; exact c92) (by unfold escD; rw [if_pos h1, ← HDB.out, if_neg d110, if_neg d116, if_pos dq])
                  have HST := lh hst
                  have k5 : (k : Int) + 1 ≤ (k : Int) + 2 := by omega
                  have k6 : (k : Int) + 2 ≤ (s.size : Int) := by omega
                  have k7 : ((k : Int) + 2).toNat = k + 2 := by omega
                  by_cases d34 : d = 34
                  · have f34 : ((d : Int) == 34) = true := by simp [d34]
                    clear hst d110 d116 c92 c34 c32 dq d34
                    go_wp2_with fail
                    go_roundw
                    case rel =>
                     refine ⟨k + 2, l ++ [UInt8.ofNat (bt s (k + 1))], by omega, by simp; omega, by go_num, by rw [str_app l s (k + 1) h1], ?_, HB.out⟩
                     rw [← HC.out, HST.out]
                    case measure => simp [intOf]; omega
                  · have f34 : ((d : Int) == 34) = false := by simp; omega
                    have f92 : ((d : Int) == 92) = true := by simp; omega
                    clear hst d110 d116 c92 c34 c32 dq d34
                    go_wp2_with fail
                    go_roundw
                    case rel =>
                     refine ⟨k + 2, l ++ [UInt8.ofNat (bt s (k + 1))], by omega, by simp; omega, by go_num, by rw [str_app l s (k + 1) h1], ?_, HB.out⟩
                     rw [← HC.out, HST.out]
                    case measure => simp [intOf]; omega
                · have f34 : ((d : Int) == 34) = false := by simp; omega
                  have f92 : ((d : Int) == 92) = false := by simp; omega
                  by_cases h3 : k + 3 < s.size
                  · have k5 : (0 : Int) ≤ (k : Int) + 2 := by omega
                    have k6 : (k : Int) + 2 < (s.size : Int) := by omega
                    have k7 : ((k : Int) + 2).toNat = k + 2 := by omega
                    have k8 : (0 : Int) ≤ (k : Int) + 3 := by omega
                    have k9 : (k : Int) + 3 < (s.size : Int) := by omega
                    have k10 : ((k : Int) + 3).toNat = k + 3 := by omega
                    have h2 : k + 2 < s.size := by omega
                    obtain ⟨d2, hdb2⟩ : ∃ d2, d2 = bt s (k + 2) := ⟨_, rfl⟩
                    have hdk2 := bt_eq h2 hdb2
                    have HDB2 := lh hdb2
                    obtain ⟨d3, hdb3⟩ : ∃ d3, d3 = bt s (k + 3) := ⟨_, rfl⟩
                    have hdk3 := bt_eq h3 hdb3
                    have HDB3 := lh hdb3
                    clear hdb2 hdb3
                    have hesc : escD s (k + 1) = if dig d ∧ dig d2 ∧ dig d3 then (if 100 * (d - 48) + 10 * (d2 - 48) + (d3 - 48) < 256 then some (100 * (d - 48) + 10 * (d2 - 48) + (d3 - 48), k + 4) else none) else none := by
                     unfold escD
                     rw [if_pos h1, ← HDB.out, if_neg d110, if_neg d116, if_neg dq, show k + 1 + 1 = k + 2 from rfl, show k + 1 + 2 = k + 3 from rfl, ← HDB2.out, ← HDB3.out]
                     by_cases hh : dig d ∧ dig d2 ∧ dig d3
                     · rw [if_pos hh, if_pos ⟨h3, hh⟩]
                     · rw [if_neg hh, if_neg (fun h => hh h.2)]
                    have HESC := lh hesc
                    clear hesc d110 d116 dq
                    cases g1 : dig d with
                    | false =>
                     have hst := textD_bad (l := l) hlt (by rw [← HCB.out]; exact c92) (by rw [HESC.out, if_neg (by simp [g1])])
                     have HST := lh hst
                     clear hst
                     clear c92 c34 c32
                     go_wp2_with fail
                     refine (digit_any _ _).mono ?_
                     rintro e w' ⟨rfl, rfl⟩
                     go_wp2_with fail
                     go_ret2
                     rw [textV_none (by rw [← HC.out, HST.out])]
                     exact ⟨rfl, HB.out⟩
                    | true =>
                     cases g2 : dig d2 with
                     | false =>
                      have hst := textD_bad (l := l) hlt (by rw [← HCB.out]; exact c92) (by rw [HESC.out, if_neg (by simp [g2])])
                      have HST := lh hst
                      clear hst
                      clear c92 c34 c32
                      go_wp2_with fail
                      refine (digit_any _ _).mono ?_
                      rintro e w' ⟨rfl, rfl⟩
                      go_wp2_with fail
                      refine (digit_any _ _).mono ?_
                      rintro e w' ⟨rfl, rfl⟩
                      go_wp2_with fail
                      go_ret2
                      rw [textV_none (by rw [← HC.out, HST.out])]
                      exact ⟨rfl, HB.out⟩
                     | true =>
                      cases g3 : dig d3 with
                      | false =>
                       have hst := textD_bad (l := l) hlt (by rw [← HCB.out]; exact c92) (by rw [HESC.out, if_neg (by simp [g3])])
                       have HST := lh hst
                       clear hst
                       clear c92 c34 c32
                       go_wp2_with fail
                       refine (digit_any _ _).mono ?_
                       rintro e w' ⟨rfl, rfl⟩
                       go_wp2_with fail
                       refine (digit_any _ _).mono ?_
                       rintro e w' ⟨rfl, rfl⟩
                       go_wp2_with fail
                       refine (digit_any _ _).mono ?_
                       rintro e w' ⟨rfl, rfl⟩
                       go_wp2_with fail
                       go_ret2
                       rw [textV_none (by rw [← HC.out, HST.out])]
                       exact ⟨rfl, HB.out⟩
                      | true =>
                       obtain ⟨n, hn⟩ : ∃ n, n = 100 * (d - 48) + 10 * (d2 - 48) + (d3 - 48) := ⟨_, rfl⟩
                       have hesc := HESC.out
                       rw [if_pos ⟨g1, g2, g3⟩, ← hn] at hesc
                       have HN := lh hn
                       have HESC2 := lh hesc
                       have b1 : 48 ≤ d ∧ d ≤ 57 := by simpa [dig] using g1
                       have b2 : 48 ≤ d2 ∧ d2 ≤ 57 := by simpa [dig] using g2
                       have b3 : 48 ≤ d3 ∧ d3 ≤ 57 := by simpa [dig] using g3
                       have HB3 := lh (And.intro b1 (And.intro b2 b3))
                       clear hn hesc b1 b2 b3
                       go_upto_region 24 with (first | (go_at_call 172; refine (digit_any _ _).mono ?_; rintro e w' ⟨rfl, rfl⟩))
                       go_quiet (fail)
                       have hval : 100 * (((d : Int) - 48) % 256) + 10 * (((d2 : Int) - 48) % 256) + ((d3 : Int) - 48) % 256 = (n : Int) := by
                        have h1 := HN.out
                        have h2 := HB3.out
                        omega
                       rw [hval]
                       have hb1 : Below w.heap.size w (wr.drewN nq) := bdrewN HB.out nq
                       clear hval
                       generalize wr.drewN nq = wn at hb1 ⊢
                       have HB1 := lh hb1
                       clear hb1
                       by_cases h255 : n < 256
                       · have hst := textD_esc (l := l) (v := n) (j := k + 4) hlt (by rw [← HCB.out]; exact c92) (by rw [HESC2.out, if_pos h255])
                         have HST := lh hst
                         have hd255 : decide ((255 : Int) < (n : Int)) = false := by simp; omega
                         have hn0 : (0 : Int) ≤ (n : Int) := by omega
                         have hn1 : (n : Int) < 256 := by omega
                         have hcv : ∀ c : TypeId, c = 5 → (convert 74 9 (.slice (some ⟨wn.heap.size, 0, none⟩) 1 1)).run Tryz.prog (wn.alloc (.cells #[.int .u8 n] c)) = .ok (.string ⟨[UInt8.ofNat n].toArray⟩) (wn.alloc (.cells #[.int .u8 n] c)) :=
                          fun c hc => by subst hc; exact conv_new wn 74 9 5 [UInt8.ofNat n] Tryz.underlying74 Tryz.underlying5 Tryz.underlying9 _ _ rfl _ (by simp; omega) _ rfl
                         have hcv5 := hcv 5 rfl
                         clear hst c92 c34 c32 h255 hcv
                         go_wp2_with fail
                         go_roundw
                         case rel =>
                          refine ⟨k + 4, l ++ [UInt8.ofNat n], by omega, by simp; omega, by go_num, by rw [app_one], ?_, balloc HB1.out _⟩
                          rw [← HC.out, HST.out]
                         case measure => simp [intOf]; omega
                       · have hst := textD_bad (l := l) hlt (by rw [← HCB.out]; exact c92) (by rw [HESC2.out, if_neg h255])
                         have HST := lh hst
                         have hd255 : decide ((255 : Int) < (n : Int)) = true := by simp; omega
                         clear hst c92 c34 c32 h255
                         go_wp2_with fail
                         go_ret2
                         rw [textV_none (by rw [← HC.out, HST.out])]
                         exact ⟨rfl, HB1.out⟩
                  · have hst := textD_bad (l := l) hlt (by rw [← HCB.out]; exact c92) (by unfold escD; rw [if_pos h1, ← HDB.out, if_neg d110, if_neg d116, if_neg dq, if_neg (fun h => h3 (by omega))])
                    have HST := lh hst
                    have hd3 : decide ((k : Int) + 3 < (s.size : Int)) = false := by simp; omega
                    clear hst d110 d116 dq c92 c34 c32
                    go_wp2_with fail
                    go_ret2
                    rw [textV_none (by rw [← HC.out, HST.out])]
                    exact ⟨rfl, HB.out⟩
          · have hst := textD_bad (l := l) hlt (by rw [← HCB.out]; exact c92) (by unfold escD; rw [if_neg h1])
            have HST := lh hst
            have hd1 : decide ((k : Int) + 1 < (s.size : Int)) = false := by simp; omega
            have hd3 : decide ((k : Int) + 3 < (s.size : Int)) = false := by simp; omega
            clear hst c92 c34 c32
            go_wp2_with fail
            go_ret2
            rw [textV_none (by rw [← HC.out, HST.out])]
            exact ⟨rfl, HB.out⟩
        · have e92 : ((c : Int) != 92) = true := by simp; omega
          have hst := textD_byte (l := l) hlt (by rw [← HCB.out]; exact c34) (by rw [← HCB.out]; omega) (by rw [← HCB.out]; exact c92)
          have HST := lh hst
          have k2 : (k : Int) ≤ (k : Int) + 1 := by omega
          have k3 : (k : Int) + 1 ≤ (s.size : Int) := by omega
          have k4 : ((k : Int) + 1).toNat = k + 1 := by omega
          clear hst c34 c32 c92
          go_wp2_with fail
          go_roundw
          case rel =>
           refine ⟨k + 1, l ++ [UInt8.ofNat (bt s k)], by omega, by simp; omega, by go_num, by rw [str_app l s k hlt], ?_, HB.out⟩
           rw [← HC.out, HST.out]
          case measure => simp [intOf]; omega
  · skip
    have hst := textD_end (s := s) (i := k) (l := l) (by omega)
    have HST := lh hst
    clear hst
    go_wp2_with fail
    go_ret2
    rw [textV_none (by rw [← HC.out, HST.out])]
    exact ⟨rfl, HB.out⟩
def tokV (t : Tok) : Value := .agg #[.int .i64 t.1, .int .i64 t.2.1, .string t.2.2.1, .int .i64 t.2.2.2]
abbrev TokB (W : World) (b : Nat) (k a : Int) (x : ByteArray) (n : Int) : Prop := W.heap[b]? = some (.cells #[.int .i64 k, .int .i64 a, .string x, .int .i64 n] 59 (0, 0))
/-- what Token's own variables are -/
structure TS (w W : World) (k i : Int) (x : ByteArray) (n : Int) : Prop where
 r : TokB W w.heap.size 0 0 ⟨#[]⟩ 0
 t : TokB W (w.heap.size + 1) k i x n
 b : Below w.heap.size w W
theorem TS.start (w : World) (i : Int) : TS w ((w.alloc (.cells #[.int .i64 0, .int .i64 0, .string ⟨#[]⟩, .int .i64 0] 59)).alloc (.cells #[.int .i64 0, .int .i64 i, .string ⟨#[]⟩, .int .i64 0] 59)) 0 i ⟨#[]⟩ 0 := by
 have h := heap_alloc_new (w.alloc (.cells #[.int .i64 0, .int .i64 0, .string ⟨#[]⟩, .int .i64 0] 59)) (.cells #[.int .i64 0, .int .i64 i, .string ⟨#[]⟩, .int .i64 0] 59)
 rw [World.size_alloc] at h
 exact ⟨blk_alloc (heap_alloc_new w _) _, h, balloc (balloc (Below.refl _ _) _) _⟩
theorem TS.setn {w W : World} {k i n : Int} {x : ByteArray} (h : TS w W k i x n) (n' : Int) : TS w (W.setCell ⟨w.heap.size + 1, 3, none⟩ (.int .i64 n')) k i x n' :=
 ⟨blk_set_ne h.r (by omega) _ _, blk_set h.t 3 _, h.b.setCell (p := ⟨w.heap.size + 1, 3, none⟩) (by simp) _⟩
theorem TS.setk {w W : World} {k i n : Int} {x : ByteArray} (h : TS w W k i x n) (k' : Int) : TS w (W.setCell ⟨w.heap.size + 1, 0, none⟩ (.int .i64 k')) k' i x n :=
 ⟨blk_set_ne h.r (by omega) _ _, blk_set h.t 0 _, h.b.setCell (p := ⟨w.heap.size + 1, 0, none⟩) (by simp) _⟩
theorem TS.setx {w W : World} {k i n : Int} {x : ByteArray} (h : TS w W k i x n) (x' : ByteArray) : TS w (W.setCell ⟨w.heap.size + 1, 2, none⟩ (.string x')) k i x' n :=
 ⟨blk_set_ne h.r (by omega) _ _, blk_set h.t 2 _, h.b.setCell (p := ⟨w.heap.size + 1, 2, none⟩) (by simp) _⟩
theorem TS.drew {w W : World} {k i n : Int} {x : ByteArray} (h : TS w W k i x n) : TS w W.drew k i x n := ⟨h.r, h.t, h.b.drew⟩
theorem TS.below {w W W' : World} {k i n : Int} {x : ByteArray} (h : TS w W k i x n) (hb : Below W.heap.size W W') : TS w W' k i x n :=
 ⟨blk_below h.r hb (lt_of_block h.r), blk_below h.t hb (lt_of_block h.t), h.b.trans (hb.mono h.b.size)⟩
def RTokPost (s : ByteArray) (i : Nat) (w : World) (e : Ending) (w' : World) : Prop :=
 (match tokD s i with
 | some (t, j) => e = .returned (.tuple #[tokV t, .int .i64 j])
 | none => ∃ (k a n : Int) (x : ByteArray), e = .returned (.tuple #[.agg #[.int .i64 k, .int .i64 a, .string x, .int .i64 n], .int .i64 (-1)])) ∧ Below w.heap.size w w'
theorem rtok_digit (s : ByteArray) (i0 : Nat) (w : World) (hs : s.size ≤ 4000) (hi : i0 < s.size) (hd : dig (bt s i0) = true) :
 Calls Tryz.prog 142 #[.string s, .int .i64 i0] w (RTokPost s i0 w) := by
 have k0 : (0 : Int) ≤ (i0 : Int) := by omega
 have k1 : (i0 : Int) < (s.size : Int) := by omega
 obtain ⟨W, hW⟩ : ∃ W, W = (w.alloc (.cells #[.int .i64 0, .int .i64 0, .string ⟨#[]⟩, .int .i64 0] 59)).alloc (.cells #[.int .i64 0, .int .i64 i0, .string ⟨#[]⟩, .int .i64 0] 59) := ⟨_, rfl⟩
 have hts : TS w W 0 i0 ⟨#[]⟩ 0 := by rw [hW]; exact TS.start w i0
 have HW := lh hW
 have HTS := lh hts
 clear hW hts
 obtain ⟨c, hcb⟩ : ∃ c, c = bt s i0 := ⟨_, rfl⟩
 have hck := bt_eq hi hcb
 have HCB := lh hcb
 rw [← hcb] at hd
 have HD := lh hd
 clear hcb
 go_enter Tryz.func142, Tryz.ntmps142
 go_wp2_with fail
 rw [← HW.out]
 refine (digit_any _ _).mono ?_
 rintro e w' ⟨rfl, rfl⟩
 go_wp2_with fail
 clear hd hck k0 k1
 go_loopw [7] (fun i wr => ∃ k n : Nat, k ≤ s.size ∧ n ≤ 1000000001 ∧ i = .int .i64 k ∧ TS w wr 0 i0 ⟨#[]⟩ n ∧ numD s k n = numD s i0 0) (fun i _ => s.size - (intOf i).toNat)
 case atStart => exact ⟨i0, 0, by omega, by omega, rfl, HTS.out, rfl⟩
 case round =>
  obtain ⟨k, n, hk, hn, rfl, hts, hc⟩ := hrel
  have HC := lh hc
  have HT := lh hts
  have k0 : (0 : Int) ≤ (k : Int) := by omega
  have t0 : wr.cell? ⟨w.heap.size + 1, 3, none⟩ = some (.int .i64 n) := blk_cell hts.t 3
  have z0 := blk_free hts.t 3
  have hl : w.heap.size + 1 < wr.heap.size := lt_of_block hts.t
  clear hc hts
  by_cases hg : k < s.size ∧ dig (bt s k) = true
  · obtain ⟨hlt, hdg⟩ := hg
    have k1 : (k : Int) < (s.size : Int) := by omega
    obtain ⟨d, hdb⟩ : ∃ d, d = bt s k := ⟨_, rfl⟩
    have hdk := bt_eq hlt hdb
    have hst := numD_step (n := n) hlt hdg
    have b1 : 48 ≤ bt s k ∧ bt s k ≤ 57 := by simpa [dig] using hdg
    rw [← hdb] at hst b1 hdg
    have HST := lh hst
    obtain ⟨b1, b2⟩ := b1
    have HDB := lh hdb
    clear hst hdb
    go_wp2_with fail
    refine (digit_any _ _).mono ?_
    rintro e w' ⟨rfl, rfl⟩
    go_wp2_with fail
    go_still_tail 10, (by kernel_rfl)
    have e1 : IntKind.u8.wrap ((d : Int) - 48) = ((d - 48 : Nat) : Int) := by show ((d : Int) - 48) % 256 = _; omega
    have e2 : IntKind.i64.wrap (((d - 48 : Nat) : Int)) = ((d - 48 : Nat) : Int) := IntWalk.i64_in _ (by omega)
    have e3 : IntKind.i64.wrap (10 * (n : Int)) = 10 * (n : Int) := IntWalk.i64_in _ (by omega)
    have e4 : IntKind.i64.wrap (10 * (n : Int) + ((d - 48 : Nat) : Int)) = ((10 * n + (d - 48) : Nat) : Int) := by rw [IntWalk.i64_in _ (by omega)]; push_cast; rfl
    rw [e1, e2, e3, e4]
    change wpList _ _ _ _ _ wr.drew
    obtain ⟨m, hm⟩ : ∃ m, m = 10 * n + (d - 48) := ⟨_, rfl⟩
    rw [← hm]
    have hts2 := HT.out.drew
    have HM := lh hm
    have hm1 : m ≤ 10000000100 := by omega
    clear e1 e2 e3 e4 t0 z0 hl hm
    generalize wr.drew = wn at hts2 ⊢
    have HT2 := lh hts2
    have t0 : wn.cell? ⟨w.heap.size + 1, 3, none⟩ = some (.int .i64 n) := blk_cell hts2.t 3
    have z0 := blk_free hts2.t 3
    have hl : w.heap.size + 1 < wn.heap.size := lt_of_block hts2.t
    clear hts2
    by_cases hbig : 1000000000 < m
    · have hd1 : decide ((1000000000 : Int) < (m : Int)) = true := by simp; omega
      go_wp2_with fail
      go_roundw
      case rel =>
       refine ⟨k + 1, 1000000001, by omega, by omega, by go_num, (HT2.out.setn _).setn _, ?_⟩
       rw [← HC.out, HST.out, ← HM.out, show min m 1000000001 = 1000000001 from by omega]
      case measure => simp [intOf]; omega
    · have hd1 : decide ((1000000000 : Int) < (m : Int)) = false := by simp; omega
      go_wp2_with fail
      go_roundw
      case rel =>
       refine ⟨k + 1, m, by omega, by omega, by go_num, HT2.out.setn _, ?_⟩
       rw [← HC.out, HST.out, ← HM.out, show min m 1000000001 = m from by omega]
      case measure => simp [intOf]; omega
  · have hst := numD_stop (s := s) (i := k) (n := n) (fun h => by cases hx : dig (bt s k) with | true => exact absurd ⟨h, hx⟩ hg | false => rfl)
    have htk : tokD s i0 = if n ≤ 1000000000 then some ((1, i0, ByteArray.empty, n), k) else none := by
     unfold tokD
     rw [if_pos (by rw [← HCB.out]; exact HD.out), ← HC.out, hst]
    have r0 : wr.cell? ⟨w.heap.size, 0, none⟩ = some (.int .i64 0) := blk_cell HT.out.r 0
    have r1 : wr.cell? ⟨w.heap.size, 1, none⟩ = some (.int .i64 0) := blk_cell HT.out.r 1
    have r2 : wr.cell? ⟨w.heap.size, 2, none⟩ = some (.string ⟨#[]⟩) := blk_cell HT.out.r 2
    have r3 : wr.cell? ⟨w.heap.size, 3, none⟩ = some (.int .i64 0) := blk_cell HT.out.r 3
    have y0 := blk_free HT.out.r 0
    have y1 := blk_free HT.out.r 1
    have y2 := blk_free HT.out.r 2
    have y3 := blk_free HT.out.r 3
    have a0 : wr.cell? ⟨w.heap.size + 1, 0, none⟩ = some (.int .i64 0) := blk_cell HT.out.t 0
    have a1 : wr.cell? ⟨w.heap.size + 1, 1, none⟩ = some (.int .i64 i0) := blk_cell HT.out.t 1
    have a2 : wr.cell? ⟨w.heap.size + 1, 2, none⟩ = some (.string ⟨#[]⟩) := blk_cell HT.out.t 2
    have a3 : wr.cell? ⟨w.heap.size + 1, 3, none⟩ = some (.int .i64 n) := blk_cell HT.out.t 3
    have z0 := blk_free HT.out.t 0
    have z1 := blk_free HT.out.t 1
    have z2 := blk_free HT.out.t 2
    have z3 := blk_free HT.out.t 3
    have hl2 : w.heap.size < wr.heap.size := lt_of_block HT.out.r
    have hl3 : w.heap.size + 1 < wr.heap.size := lt_of_block HT.out.t
    by_cases hbig : n ≤ 1000000000
    · have hd1 : decide ((1000000000 : Int) < (n : Int)) = false := by simp; omega
      rw [if_pos hbig] at htk
      have HTK := lh htk
      clear htk hst hbig
      by_cases hlt : k < s.size
      · have k1 : (k : Int) < (s.size : Int) := by omega
        have hdg : dig (bt s k) = false := by cases hx : dig (bt s k) with | true => exact absurd ⟨hlt, hx⟩ hg | false => rfl
        obtain ⟨d, hdb⟩ : ∃ d, d = bt s k := ⟨_, rfl⟩
        have hdk := bt_eq hlt hdb
        rw [← hdb] at hdg
        have HDB := lh hdb
        clear hdb hg
        go_wp2_with fail
        refine (digit_any _ _).mono ?_
        rintro e w' ⟨rfl, rfl⟩
        go_wp2_with fail
        refine bodyPost_ret (v := .tuple #[.agg #[.int .i64 1, .int .i64 i0, .string ⟨#[]⟩, .int .i64 n], .int .i64 k]) (by simp [results, Tryz.results142, go_sem, *]) rfl ?_
        refine ⟨?_, ?_⟩
        · rw [HTK.out]; rfl
        · repeat (first | exact HT.out.b | refine Below.setCell ?_ (by simp) _)
      · clear hg
        go_wp2_with fail
        refine bodyPost_ret (v := .tuple #[.agg #[.int .i64 1, .int .i64 i0, .string ⟨#[]⟩, .int .i64 n], .int .i64 k]) (by simp [results, Tryz.results142, go_sem, *]) rfl ?_
        refine ⟨?_, ?_⟩
        · rw [HTK.out]; rfl
        · repeat (first | exact HT.out.b | refine Below.setCell ?_ (by simp) _)
    · have hd1 : decide ((1000000000 : Int) < (n : Int)) = true := by simp; omega
      rw [if_neg hbig] at htk
      have HTK := lh htk
      clear htk hst hbig
      by_cases hlt : k < s.size
      · have k1 : (k : Int) < (s.size : Int) := by omega
        have hdg : dig (bt s k) = false := by cases hx : dig (bt s k) with | true => exact absurd ⟨hlt, hx⟩ hg | false => rfl
        obtain ⟨d, hdb⟩ : ∃ d, d = bt s k := ⟨_, rfl⟩
        have hdk := bt_eq hlt hdb
        rw [← hdb] at hdg
        have HDB := lh hdb
        clear hdb hg
        go_wp2_with fail
        refine (digit_any _ _).mono ?_
        rintro e w' ⟨rfl, rfl⟩
        go_wp2_with fail
        refine bodyPost_ret (v := .tuple #[.agg #[.int .i64 1, .int .i64 i0, .string ⟨#[]⟩, .int .i64 n], .int .i64 (-1)]) (by simp [results, Tryz.results142, go_sem, *]) rfl ?_
        refine ⟨?_, ?_⟩
        · rw [HTK.out]; exact ⟨_, _, _, _, rfl⟩
        · repeat (first | exact HT.out.b | refine Below.setCell ?_ (by simp) _)
      · clear hg
        go_wp2_with fail
        refine bodyPost_ret (v := .tuple #[.agg #[.int .i64 1, .int .i64 i0, .string ⟨#[]⟩, .int .i64 n], .int .i64 (-1)]) (by simp [results, Tryz.results142, go_sem, *]) rfl ?_
        refine ⟨?_, ?_⟩
        · rw [HTK.out]; exact ⟨_, _, _, _, rfl⟩
        · repeat (first | exact HT.out.b | refine Below.setCell ?_ (by simp) _)
end Go.Proofs.YthehjeeiodbkjaaGreatDoor
