/-
  Proved: the contracts of the program's printer's round, list and path; the contract of the reference's Quote; the contract of the program's Quote; the contracts of the program's printer's path and of the library's Itoa and Join. Conditions: the printer as it stands in memory; the contract of what is handed in; a text of at most 1048576 bytes; the printer as it stands in memory.
-/
import Derived.Test.YthehjeeiodbkjaaGreatDoorA01
import Derived.Test.YthehjeeiodbkjaaGreatDoorA33
import Derived.Test.YthehjeeiodbkjaaGreatDoorA34
import Derived.Test.YthehjeeiodbkjaaGreatDoorA16
import Derived.Test.YthehjeeiodbkjaaGreatDoorA23
import Derived.Test.YthehjeeiodbkjaaGreatDoorA17
import Derived.Test.YthehjeeiodbkjaaGreatDoorA26
set_option linter.unusedSimpArgs false
set_option linter.unusedVariables false
set_option linter.unusedSectionVars false
set_option maxRecDepth 100000
set_option maxHeartbeats 16000000
namespace Go.Proofs.YthehjeeiodbkjaaGreatDoor
open Go.RowKit
def rnd (must : Bool) (ws : List ByteArray) : List ByteArray := if must then ⟨#[40]⟩ :: (ws ++ [⟨#[41]⟩]) else ws
def Wr (B pb : Nat) (v0 : Value) (w0 : World) (bs : List Bx) (l ws : List ByteArray) (e : Ending) (w' : World) : Prop := e = .returned (.tuple #[]) ∧ Gp B pb v0 w0 (l ++ ws) w' bs
section
variable {B pb : Nat} {v0 : Value} {w0 W : World} {l : List ByteArray} {bs : List Bx}
theorem round_g (h : Gp B pb v0 w0 l W bs) (n : Nat) (cp : Array Value) (hcf : ∀ (x9 : Array Value) (w : World), (callFunc n x9).run Tryz.prog w = .ok (.enter n x9) w) (ws : List ByteArray) (must : Bool) (hl : jl l + jl (rnd must ws) ≤ 4000000000)
 (H : ∀ l1 W1, Gp B pb v0 w0 l1 W1 bs → jl l1 + jl ws ≤ 4000000000 → Calls Tryz.prog n cp W1 (Wr B pb v0 w0 bs l1 ws)) :
 Calls Tryz.prog 82 #[pp pb, .bool must, .func (.func n) #[] cp] W (Wr B pb v0 w0 bs l (rnd must ws)) := by
 have HH := lh H
 have G := lh h
 have HC := lh hcf
 clear H h hcf
 cases must with
 | false =>
  have HL : Hid (jl l + jl ws ≤ 4000000000) := lh hl
  clear hl
  go_enter Tryz.func82, Tryz.ntmps82
  go_wp2_with (first | ((with_reducible show wpList _ _ _ _ _ _); refine wpList_fn0 HC.out (by rfl) (.tmp 10) (by rfl) (by rfl) (HH.out l W G.out HL.out) ?_; rintro e w' ⟨rfl, hg⟩; refine ⟨_, rfl, ?_⟩; have G2 := lh hg; clear hg))
  go_wp2_with fail
  go_end0
  exact ⟨rfl, G2.out⟩
 | true =>
  have hl1 : jl l + (2 + jl ws + 2) ≤ 4000000000 := by simp only [rnd, if_true, jl, jl_app] at hl; simp [ByteArray.size] at hl; omega
  clear hl
  go_enter Tryz.func82, Tryz.ntmps82
  go_upto_region 2 with (go_at_call 85; refine (put1 G.out ⟨#[40]⟩ (by show jl l + 2 ≤ _; omega)).mono ?_; rintro e w2 ⟨rfl, hg⟩; have G2 := lh hg; clear hg)
  go_upto_region 3 with (first | ((with_reducible show wpList _ _ _ _ _ _); refine wpList_fn0 HC.out (by rfl) (.tmp 10) (by rfl) (by rfl) (HH.out _ w2 G2.out (by rw [jl_app]; show jl l + 2 + _ ≤ _; omega)) ?_; rintro e w3 ⟨rfl, hg⟩; refine ⟨_, rfl, ?_⟩; have G3 := lh hg; clear hg))
  go_wp2_with (go_at_call 85; refine (put1 G3.out ⟨#[41]⟩ (by rw [jl_app, jl_app]; show jl l + 2 + _ + 2 ≤ _; omega)).mono ?_; rintro e w4 ⟨rfl, hg⟩; have G4 := lh hg; clear hg)
  go_end0
  exact ⟨rfl, by have := G4.out; simpa [rnd] using this⟩
def sepW (s : ByteArray) : List (List ByteArray) → List ByteArray
 | [] => []
 | [x] => x
 | x :: y :: r => x ++ s :: sepW s (y :: r)
theorem sepW_snoc (s : ByteArray) (x : List ByteArray) : ∀ (r : List (List ByteArray)), sepW s (r ++ [x]) = if r = [] then x else sepW s r ++ s :: x
 | [] => rfl
 | [y] => rfl
 | y :: z :: r => by
  have h := sepW_snoc s x (z :: r)
  show y ++ s :: sepW s ((z :: r) ++ [x]) = _
  rw [h, if_neg (by simp), if_neg (by simp)]
  simp [sepW]
theorem sepW_take {s : ByteArray} {r : List (List ByteArray)} {k : Nat} (h : k < r.length) : sepW s (r.take (k + 1)) = if k = 0 then r[k] else sepW s (r.take k) ++ s :: r[k] := by
 rw [List.take_succ_eq_append_getElem h, sepW_snoc]
 by_cases hk : k = 0
 · subst hk; simp
 · rw [if_neg hk, if_neg]
   intro e
   have h1 := congrArg List.length e
   have h2 : (r.take k).length = k := by rw [List.length_take]; omega
   rw [h2] at h1
   exact hk h1
theorem sepW_le (s : ByteArray) : ∀ (r : List (List ByteArray)) (k : Nat), jl (sepW s (r.take k)) ≤ jl (sepW s r)
 | [], k => by simp [sepW]
 | [x], 0 => by simp [sepW, jl]
 | [x], k + 1 => by simp [sepW]
 | x :: y :: r, 0 => by simp [sepW, jl]
 | x :: y :: r, 1 => by simp [sepW, jl_app]
 | x :: y :: r, k + 2 => by
  have h := sepW_le s (y :: r) (k + 1)
  simp only [List.take_succ_cons, sepW, jl_app, jl] at h ⊢
  omega
theorem list_g (h : Gp B pb v0 w0 l W bs) (n : Nat) (rv cp : Array Value) (hcf : ∀ (x9 : Array Value) (w : World), (callFunc n x9).run Tryz.prog w = .ok (.enter n x9) w) (K : List Ty) (ao : Option Addr) (cap : Nat) (hS : SlD w0 (fun b => b < B) K ao cap) (hB : B ≤ w0.heap.size) (s : ByteArray) (wss : List (List ByteArray)) (hw : wss.length = K.length) (hK : K.length ≤ 5000000000) (hl : jl l + jl (sepW s wss) ≤ 4000000000)
 (H : ∀ i (hi : i < K.length) (hi2 : i < wss.length) l1 W1 ap cq, Gp B pb v0 w0 l1 W1 bs → SlD w0 (fun b => b < B) K[i].args ap cq → jl l1 + jl wss[i] ≤ 4000000000 → Calls Tryz.prog n (rv ++ #[.agg (rowOf K[i] ap cq)] ++ cp) W1 (Wr B pb v0 w0 bs l1 wss[i])) :
 Calls Tryz.prog 93 #[pp pb, .slice ao K.length cap, .string s, .func (.func n) rv cp] W (Wr B pb v0 w0 bs l (sepW s wss)) := by
 have HH := lh H
 have G := lh h
 have HC := lh hcf
 have HS := lh hS
 obtain ⟨c, hc⟩ : ∃ c, c = K.length := ⟨_, rfl⟩
 have HCC := lh hc
 have HW := lh hw
 rw [← hc] at hK ⊢
 clear H h hcf hS hc hw
 go_enter Tryz.func93, Tryz.ntmps93
 go_wp2_with fail
 go_loopw [8, 9, 12] (fun _ _ i wr => ∃ k : Nat, i = .int .i64 k ∧ k ≤ c ∧ Gp B pb v0 w0 (l ++ sepW s (wss.take k)) wr bs) (fun _ _ i _ => c - (Lib.intOf i).toNat)
 case atStart => exact ⟨0, rfl, by omega, by simpa [sepW] using G.out⟩
 case round =>
  obtain ⟨k, rfl, hk, hg⟩ := hrel
  have G1 := lh hg
  clear hg
  by_cases hkc : k < c
  · have hk9 : k < K.length := by rw [← HCC.out]; exact hkc
    have hk8 : k < wss.length := by rw [HW.out]; exact hk9
    obtain ⟨b, p, ap, cq, hs, hbw, hix, x⟩ := G1.out.kid HS.out hB hk9
    have hlb : jl l + jl (sepW s (wss.take (k + 1))) ≤ 4000000000 := Nat.le_trans (Nat.add_le_add_left (sepW_le s wss (k + 1)) _) hl
    rw [sepW_take hk8] at hlb
    obtain ⟨u, hu⟩ : ∃ u, u = K[k] := ⟨_, rfl⟩
    rw [← hu] at x hs
    rw [← HCC.out] at hix
    obtain ⟨V, hV⟩ : ∃ V, V = wr.alloc (.cells (rowOf u ap cq) 26) := ⟨_, rfl⟩
    have G2 := lh (G1.out.box hV)
    have HH2 : Hid (∀ l1 W1, Gp B pb v0 w0 l1 W1 bs → jl l1 + jl wss[k] ≤ 4000000000 → Calls Tryz.prog n (rv ++ #[.agg (rowOf u ap cq)] ++ cp) W1 (Wr B pb v0 w0 bs l1 wss[k])) := lh (by subst hu; exact fun l1 W1 h1 h3 => HH.out k hk9 hk8 l1 W1 ap cq h1 hs h3)
    have HLB := lh hlb
    unfold rowOf at hV HH2 G2
    clear hu hs hlb
    have hkc2 : (k : Int) < (c : Int) := by omega
    go_upto_region 3 with fail
    rw [← hV]
    have y := five G2.out.hd
    clear hV x hix
    by_cases hk0 : k = 0
    · have hd : decide (0 < k) = false := by simp; omega
      have HK0 := lh hk0
      clear hk0
      go_wp2_with (first | ((with_reducible show wpList _ _ _ _ _ _); refine wpList_fn1 HC.out (by rfl) (.tmp 23) (.tmp 24) (by rfl) (by rfl) (by rfl) (HH2.out _ _ (G2.out.mono (fun x hx => List.mem_cons_of_mem _ hx)) (by have := HLB.out; rw [if_pos HK0.out] at this; simp only [HK0.out, sepW, List.take_zero, jl_app, jl] at this ⊢; omega)) ?_; rintro e w7 ⟨rfl, hg⟩; refine ⟨_, rfl, ?_⟩; have G7 := lh hg; clear hg))
      go_roundw
      case rel =>
       refine ⟨k + 1, by go_num, hkc, ?_⟩
       rw [sepW_take hk8, if_pos HK0.out]
       have := G7.out
       simpa [HK0.out, sepW] using this
      case measure => simp only [Lib.intOf]; omega
    · have hd : 0 < k := by omega
      go_upto_region 5 with (go_at_call 85; refine (put1 G2.out s (by have := HLB.out; rw [if_neg hk0] at this; simp only [jl_app, jl] at this ⊢; omega)).mono ?_; rintro e w6 ⟨rfl, hg⟩; have G6 := lh hg; clear hg)
      have z := five G6.out.hd
      go_wp2_with (first | ((with_reducible show wpList _ _ _ _ _ _); refine wpList_fn1 HC.out (by rfl) (.tmp 23) (.tmp 24) (by rfl) (by rfl) (by rfl) (HH2.out _ _ (G6.out.mono (fun x hx => List.mem_cons_of_mem _ hx)) (by have := HLB.out; rw [if_neg hk0] at this; simp only [jl_app, jl] at this ⊢; omega)) ?_; rintro e w7 ⟨rfl, hg⟩; refine ⟨_, rfl, ?_⟩; have G7 := lh hg; clear hg))
      go_roundw
      case rel =>
       refine ⟨k + 1, by go_num, hkc, ?_⟩
       rw [sepW_take hk8, if_neg hk0]
       have := G7.out
       simpa using this
      case measure => simp only [Lib.intOf]; omega
  · obtain rfl : k = c := by omega
    have hd : decide ((k : Int) < (k : Int)) = false := by simp
    go_wp2_with fail
    go_end0
    refine ⟨rfl, ?_⟩
    have := G1.out
    rw [List.take_of_length_le (by rw [HW.out, HCC.out]; exact Nat.le_refl _)] at this
    exact this
end
def preQ (s : ByteArray) (k : Nat) : List UInt8 := 34 :: (s.data.toList.take k).flatMap esc
theorem preQ_step (s : ByteArray) (k : Nat) (h : k < s.size) : preQ s (k + 1) = preQ s k ++ esc (UInt8.ofNat (bt s k)) := by
 have h2 : k < s.data.toList.length := by rw [sizeL]; exact h
 unfold preQ
 rw [List.take_succ_eq_append_getElem h2, List.flatMap_append]
 have e : UInt8.ofNat (bt s k) = s.data.toList[k] := by unfold bt; rw [List.getD_eq_getElem?_getD, List.getElem?_eq_getElem h2]; simp
 rw [e]
 simp
theorem esc_len (b : UInt8) : (esc b).length ≤ 4 := by
 rcases esc_cases b with ⟨_, e⟩ | ⟨_, e⟩ | ⟨_, e⟩ | ⟨_, e, _⟩ | ⟨_, _, _, _, e⟩ <;> rw [e] <;> simp
theorem preQ_len (s : ByteArray) (k : Nat) : (preQ s k).length ≤ 4 * k + 1 := by
 have h : ∀ l : List UInt8, (l.flatMap esc).length ≤ 4 * l.length := by
  intro l
  induction l with
  | nil => simp
  | cons b l ih => have := esc_len b; simp at *; omega
 have := h (s.data.toList.take k)
 rw [List.length_take] at this
 simp only [preQ, List.length_cons]
 omega
theorem preQ_end (s : ByteArray) : preQ s s.size ++ [34] = quoteL s.data.toList := by
 unfold preQ quoteL
 rw [← sizeL, List.take_length]
 rfl
theorem esc_nl : esc (UInt8.ofNat 10) = [92, 110] := by decide
theorem esc_tab : esc (UInt8.ofNat 9) = [92, 116] := by decide
theorem u8n {c : Nat} (h : c < 256) : (UInt8.ofNat c).toNat = c := by simp; omega
theorem esc_code {c : Nat} (h : c < 256) (h1 : c ≠ 10) (h2 : c ≠ 9) (h3 : c < 32 ∨ 126 < c) : esc (UInt8.ofNat c) = [92, UInt8.ofNat (48 + c / 100), UInt8.ofNat (48 + c / 10 % 10), UInt8.ofNat (48 + c % 10)] := by
 unfold esc; rw [u8n h, if_neg h1, if_neg h2, if_neg (by omega), if_pos h3]
theorem esc_plain {c : Nat} (h : c < 256) (h1 : 32 ≤ c) (h2 : c ≤ 126) (h3 : c ≠ 34) (h4 : c ≠ 92) : esc (UInt8.ofNat c) = [UInt8.ofNat c] := by
 unfold esc; rw [u8n h, if_neg (by omega), if_neg (by omega), if_neg (by omega), if_neg (by omega)]
theorem bv_all (l : List UInt8) : ∀ u ∈ l.map bv, u.oneCell' = true := by
 intro u hu
 obtain ⟨_, _, rfl⟩ := List.mem_map.1 hu
 rfl
theorem own_lit (w : World) (l : List UInt8) (c : Array Value) (hc : c.toList = l.map bv) (hl : l.length ≤ 100) : (w.alloc (.cells c 5)).ownsRow w.heap.size 5 1 (.slice (some ⟨w.heap.size, 0, none⟩) l.length l.length) l.length (l.map bv) := by
 have hs : c.size = l.length := by rw [← Array.length_toList, hc, List.length_map]
 refine ⟨by simp, .inr ⟨w.heap.size, l.length, c, rfl, Nat.le_refl _, heap_alloc_new w _, Nat.le_refl _, by unfold maxLen; omega, by omega, ?_⟩⟩
 rw [hc, List.take_of_length_le (by simp)]
theorem code_bv {c : Nat} (h : c < 256) : ([92, UInt8.ofNat (48 + c / 100), UInt8.ofNat (48 + c / 10 % 10), UInt8.ofNat (48 + c % 10)].map bv : List Value) = [.int .u8 92, .int .u8 (48 + (c : Int) / 100), .int .u8 (48 + (c : Int) / 10 % 10), .int .u8 (48 + (c : Int) % 10)] := by
 rw [List.map_cons, List.map_cons, List.map_cons, List.map_cons, List.map_nil, bv_of (show 48 + c / 100 < 256 by omega), bv_of (show 48 + c / 10 % 10 < 256 by omega), bv_of (show 48 + c % 10 < 256 by omega)]
 push_cast
 rfl
theorem pquote_any (s : ByteArray) (w : World) (hs : s.size ≤ 1048576) : Calls Tryz.prog 90 #[.string s] w fun e w' => e = .returned (.string (quoteD s)) ∧ Below w.heap.size w w' := by
 obtain ⟨i5, hi5, hz0, hz1, hz2⟩ := info_parts info5
 have HI := lh hi5
 clear hi5
 go_enter Tryz.func90, Tryz.ntmps90
 go_wp2_with fail
 go_loopw [3, 9] (fun v i wr => ∃ (k g cap : Nat), k ≤ s.size ∧ i = .int .i64 k ∧ v = .slice (some ⟨g, 0, none⟩) (preQ s k).length cap ∧ wr.ownsRow w.heap.size 5 1 v (preQ s k).length ((preQ s k).map bv) ∧ Below w.heap.size w wr) (fun _ i _ => s.size - (intOf i).toNat)
 case atStart => exact ⟨0, w.heap.size, 1, Nat.zero_le _, rfl, rfl, own_lit w [34] _ rfl (by decide), balloc (Below.refl _ _) _⟩
 case round =>
  obtain ⟨k, g, cap, hk, rfl, rfl, hown, hbl⟩ := hrel
  have HB := lh hbl
  have HO := lh hown
  clear hbl hown
  have hpl := preQ_len s k
  have hlo : ∀ q, (Value.slice (some ⟨g, 0, none⟩) (preQ s k).length cap).ownBlock = some q → w.heap.size ≤ q := fun q hq => (HO.out.lt q hq).1
  have hWs : w.heap.size ≤ wr.heap.size := HB.out.size
  by_cases hlt : k < s.size
  · have hd : decide ((k : Int) < (s.size : Int)) = true := by simp; omega
    have k0 : (0 : Int) ≤ (k : Int) := by omega
    have k1 : (k : Int) < (s.size : Int) := by omega
    obtain ⟨c, hcb⟩ : ∃ c, c = bt s k := ⟨_, rfl⟩
    have hck := bt_eq hlt hcb
    have hc8 : c < 256 := by rw [hcb]; exact bt_lt s k
    have hst := preQ_step s k hlt
    rw [← hcb] at hst
    have HST := lh hst
    generalize preQ s k = L at *
    clear hcb hst
    by_cases c10 : c = 10
    · have e10 : ((c : Int) == 10) = true := by simp [c10]
      have he : esc (UInt8.ofNat c) = [92, 110] := by rw [c10]; exact esc_nl
      have hbvs : ([92, 110] : List UInt8).map bv = [.int .u8 92, .int .u8 110] := rfl
      have HE := lh he
      have HBV := lh hbvs
      clear he hbvs
      go_wp2_with (first | (at_builtin; go_must (refine wpList_append_own _ rfl (.tmp 22) (.tmp 23) 74 rfl w.heap.size 5 i5 (.int .u8 0) 1 1 Tryz.underlying74 HI.out hz0 hz1 hz2 rfl (by decide) (.slice (some ⟨g, 0, none⟩) L.length cap) L.length (L.map bv) rfl (HO.out.alloc _) ⟨wr.heap.size, 0, none⟩ 2 2 [.int .u8 92, .int .u8 110] rfl rfl (new_cells (c := #[.int .u8 92, .int .u8 110]) _ (by simp)) (by rw [← HBV.out]; exact bv_all _) (by unfold maxLen; omega) (by omega) (by simp; omega) ?_)))
      intro v4 w4 hown4 hg4 hnil4
      obtain ⟨g4, cap4, hv4⟩ := own_shape hown4 hnil4
      rw [hv4] at hown4 ⊢
      clear hnil4 hv4
      have hb4 : Below w.heap.size w w4 := (balloc HB.out _).grown hg4 (by simp; omega) hlo
      have ho4 : w4.ownsRow w.heap.size 5 1 (.slice (some ⟨g4, 0, none⟩) (preQ s (k + 1)).length cap4) (preQ s (k + 1)).length ((preQ s (k + 1)).map bv) := by
       rw [HST.out, HE.out, List.map_append, List.length_append, HBV.out]
       exact hown4
      have hln : (preQ s (k + 1)).length = L.length + 2 := by rw [HST.out, HE.out, List.length_append]; rfl
      have HB4 := lh hb4
      have HO4 := lh ho4
      clear hb4 ho4 hown4 hg4 hlo
      go_wp2_with fail
      go_roundw
      case rel => exact ⟨k + 1, g4, cap4, by omega, by go_num, by rw [hln], by rw [← hln]; exact HO4.out, HB4.out⟩
      case measure => simp [intOf]; omega
    · have e10 : ((c : Int) == 10) = false := by simp; omega
      by_cases c9 : c = 9
      · have e9 : ((c : Int) == 9) = true := by simp [c9]
        have he : esc (UInt8.ofNat c) = [92, 116] := by rw [c9]; exact esc_tab
        have hbvs : ([92, 116] : List UInt8).map bv = [.int .u8 92, .int .u8 116] := rfl
        have HE := lh he
        have HBV := lh hbvs
        clear he hbvs
        go_wp2_with (first | (at_builtin; go_must (refine wpList_append_own _ rfl (.tmp 28) (.tmp 29) 74 rfl w.heap.size 5 i5 (.int .u8 0) 1 1 Tryz.underlying74 HI.out hz0 hz1 hz2 rfl (by decide) (.slice (some ⟨g, 0, none⟩) L.length cap) L.length (L.map bv) rfl (HO.out.alloc _) ⟨wr.heap.size, 0, none⟩ 2 2 [.int .u8 92, .int .u8 116] rfl rfl (new_cells (c := #[.int .u8 92, .int .u8 116]) _ (by simp)) (by rw [← HBV.out]; exact bv_all _) (by unfold maxLen; omega) (by omega) (by simp; omega) ?_)))
        intro v4 w4 hown4 hg4 hnil4
        obtain ⟨g4, cap4, hv4⟩ := own_shape hown4 hnil4
        rw [hv4] at hown4 ⊢
        clear hnil4 hv4
        have hb4 : Below w.heap.size w w4 := (balloc HB.out _).grown hg4 (by simp; omega) hlo
        have ho4 : w4.ownsRow w.heap.size 5 1 (.slice (some ⟨g4, 0, none⟩) (preQ s (k + 1)).length cap4) (preQ s (k + 1)).length ((preQ s (k + 1)).map bv) := by
         rw [HST.out, HE.out, List.map_append, List.length_append, HBV.out]
         exact hown4
        have hln : (preQ s (k + 1)).length = L.length + 2 := by rw [HST.out, HE.out, List.length_append]; rfl
        have HB4 := lh hb4
        have HO4 := lh ho4
        clear hb4 ho4 hown4 hg4 hlo
        go_wp2_with fail
        go_roundw
        case rel => exact ⟨k + 1, g4, cap4, by omega, by go_num, by rw [hln], by rw [← hln]; exact HO4.out, HB4.out⟩
        case measure => simp [intOf]; omega
      · have e9 : ((c : Int) == 9) = false := by simp; omega
        by_cases c34 : c = 34
        · have e34 : ((c : Int) == 34) = true := by simp [c34]
          have he : esc (UInt8.ofNat c) = [92, 34] := by rw [c34]; decide
          have hbvs : ([92, 34] : List UInt8).map bv = [.int .u8 92, .int .u8 34] := rfl
          have HE := lh he
          have HBV := lh hbvs
          clear he hbvs
          go_wp2_with (first | (at_builtin; go_must (refine wpList_append_own _ rfl (.tmp 36) (.tmp 38) 74 rfl w.heap.size 5 i5 (.int .u8 0) 1 1 Tryz.underlying74 HI.out hz0 hz1 hz2 rfl (by decide) (.slice (some ⟨g, 0, none⟩) L.length cap) L.length (L.map bv) rfl (HO.out.alloc _) ⟨wr.heap.size, 0, none⟩ 2 2 [.int .u8 92, .int .u8 34] rfl rfl (new_cells (c := #[.int .u8 92, .int .u8 34]) _ (by simp)) (by rw [← HBV.out]; exact bv_all _) (by unfold maxLen; omega) (by omega) (by simp; omega) ?_)))
          intro v4 w4 hown4 hg4 hnil4
          obtain ⟨g4, cap4, hv4⟩ := own_shape hown4 hnil4
          rw [hv4] at hown4 ⊢
          clear hnil4 hv4
          have hb4 : Below w.heap.size w w4 := (balloc HB.out _).grown hg4 (by simp; omega) hlo
          have ho4 : w4.ownsRow w.heap.size 5 1 (.slice (some ⟨g4, 0, none⟩) (preQ s (k + 1)).length cap4) (preQ s (k + 1)).length ((preQ s (k + 1)).map bv) := by
           rw [HST.out, HE.out, List.map_append, List.length_append, HBV.out]
           exact hown4
          have hln : (preQ s (k + 1)).length = L.length + 2 := by rw [HST.out, HE.out, List.length_append]; rfl
          have HB4 := lh hb4
          have HO4 := lh ho4
          clear hb4 ho4 hown4 hg4 hlo
          go_wp2_with fail
          go_roundw
          case rel => exact ⟨k + 1, g4, cap4, by omega, by go_num, by rw [hln], by rw [← hln]; exact HO4.out, HB4.out⟩
          case measure => simp [intOf]; omega
        · have e34 : ((c : Int) == 34) = false := by simp; omega
          by_cases c92 : c = 92
          · have e92 : ((c : Int) == 92) = true := by simp [c92]
            have he : esc (UInt8.ofNat c) = [92, 92] := by rw [c92]; decide
            have hbvs : ([92, 92] : List UInt8).map bv = [.int .u8 92, .int .u8 92] := rfl
            have HE := lh he
            have HBV := lh hbvs
            clear he hbvs
            go_wp2_with (first | (at_builtin; go_must (refine wpList_append_own _ rfl (.tmp 36) (.tmp 38) 74 rfl w.heap.size 5 i5 (.int .u8 0) 1 1 Tryz.underlying74 HI.out hz0 hz1 hz2 rfl (by decide) (.slice (some ⟨g, 0, none⟩) L.length cap) L.length (L.map bv) rfl (HO.out.alloc _) ⟨wr.heap.size, 0, none⟩ 2 2 [.int .u8 92, .int .u8 92] rfl rfl (new_cells (c := #[.int .u8 92, .int .u8 92]) _ (by simp)) (by rw [← HBV.out]; exact bv_all _) (by unfold maxLen; omega) (by omega) (by simp; omega) ?_)))
            intro v4 w4 hown4 hg4 hnil4
            obtain ⟨g4, cap4, hv4⟩ := own_shape hown4 hnil4
            rw [hv4] at hown4 ⊢
            clear hnil4 hv4
            have hb4 : Below w.heap.size w w4 := (balloc HB.out _).grown hg4 (by simp; omega) hlo
            have ho4 : w4.ownsRow w.heap.size 5 1 (.slice (some ⟨g4, 0, none⟩) (preQ s (k + 1)).length cap4) (preQ s (k + 1)).length ((preQ s (k + 1)).map bv) := by
             rw [HST.out, HE.out, List.map_append, List.length_append, HBV.out]
             exact hown4
            have hln : (preQ s (k + 1)).length = L.length + 2 := by rw [HST.out, HE.out, List.length_append]; rfl
            have HB4 := lh hb4
            have HO4 := lh ho4
            clear hb4 ho4 hown4 hg4 hlo
            go_wp2_with fail
            go_roundw
            case rel => exact ⟨k + 1, g4, cap4, by omega, by go_num, by rw [hln], by rw [← hln]; exact HO4.out, HB4.out⟩
            case measure => simp [intOf]; omega
          · have e92 : ((c : Int) == 92) = false := by simp; omega
            by_cases c32 : c < 32
            · have e32 : decide ((c : Int) < 32) = true := by simp; omega
              have he : esc (UInt8.ofNat c) = [92, UInt8.ofNat (48 + c / 100), UInt8.ofNat (48 + c / 10 % 10), UInt8.ofNat (48 + c % 10)] := esc_code hc8 c10 c9 (by omega)
              have hbvs : ([92, UInt8.ofNat (48 + c / 100), UInt8.ofNat (48 + c / 10 % 10), UInt8.ofNat (48 + c % 10)] : List UInt8).map bv = [.int .u8 92, .int .u8 (48 + (c : Int) / 100), .int .u8 (48 + (c : Int) / 10 % 10), .int .u8 (48 + (c : Int) % 10)] := code_bv hc8
              have HE := lh he
              have HBV := lh hbvs
              clear he hbvs
              go_wp2_with (first | (at_builtin; go_must (refine wpList_append_own _ rfl (.tmp 45) (.tmp 56) 74 rfl w.heap.size 5 i5 (.int .u8 0) 1 1 Tryz.underlying74 HI.out hz0 hz1 hz2 rfl (by decide) (.slice (some ⟨g, 0, none⟩) L.length cap) L.length (L.map bv) rfl (HO.out.alloc _) ⟨wr.heap.size, 0, none⟩ 4 4 [.int .u8 92, .int .u8 (48 + (c : Int) / 100), .int .u8 (48 + (c : Int) / 10 % 10), .int .u8 (48 + (c : Int) % 10)] rfl rfl (new_cells (c := #[.int .u8 92, .int .u8 (48 + (c : Int) / 100), .int .u8 (48 + (c : Int) / 10 % 10), .int .u8 (48 + (c : Int) % 10)]) _ (by simp)) (by rw [← HBV.out]; exact bv_all _) (by unfold maxLen; omega) (by omega) (by simp; omega) ?_)))
              intro v4 w4 hown4 hg4 hnil4
              obtain ⟨g4, cap4, hv4⟩ := own_shape hown4 hnil4
              rw [hv4] at hown4 ⊢
              clear hnil4 hv4
              have hb4 : Below w.heap.size w w4 := (balloc HB.out _).grown hg4 (by simp; omega) hlo
              have ho4 : w4.ownsRow w.heap.size 5 1 (.slice (some ⟨g4, 0, none⟩) (preQ s (k + 1)).length cap4) (preQ s (k + 1)).length ((preQ s (k + 1)).map bv) := by
               rw [HST.out, HE.out, List.map_append, List.length_append, HBV.out]
               exact hown4
              have hln : (preQ s (k + 1)).length = L.length + 4 := by rw [HST.out, HE.out, List.length_append]; rfl
              have HB4 := lh hb4
              have HO4 := lh ho4
              clear hb4 ho4 hown4 hg4 hlo
              go_wp2_with fail
              go_roundw
              case rel => exact ⟨k + 1, g4, cap4, by omega, by go_num, by rw [hln], by rw [← hln]; exact HO4.out, HB4.out⟩
              case measure => simp [intOf]; omega
            · have e32 : decide ((c : Int) < 32) = false := by simp; omega
              by_cases c126 : 126 < c
              · have e126 : decide ((126 : Int) < (c : Int)) = true := by simp; omega
                have he : esc (UInt8.ofNat c) = [92, UInt8.ofNat (48 + c / 100), UInt8.ofNat (48 + c / 10 % 10), UInt8.ofNat (48 + c % 10)] := esc_code hc8 c10 c9 (by omega)
                have hbvs : ([92, UInt8.ofNat (48 + c / 100), UInt8.ofNat (48 + c / 10 % 10), UInt8.ofNat (48 + c % 10)] : List UInt8).map bv = [.int .u8 92, .int .u8 (48 + (c : Int) / 100), .int .u8 (48 + (c : Int) / 10 % 10), .int .u8 (48 + (c : Int) % 10)] := code_bv hc8
                have HE := lh he
                have HBV := lh hbvs
                clear he hbvs
                go_wp2_with (first | (at_builtin; go_must (refine wpList_append_own _ rfl (.tmp 45) (.tmp 56) 74 rfl w.heap.size 5 i5 (.int .u8 0) 1 1 Tryz.underlying74 HI.out hz0 hz1 hz2 rfl (by decide) (.slice (some ⟨g, 0, none⟩) L.length cap) L.length (L.map bv) rfl (HO.out.alloc _) ⟨wr.heap.size, 0, none⟩ 4 4 [.int .u8 92, .int .u8 (48 + (c : Int) / 100), .int .u8 (48 + (c : Int) / 10 % 10), .int .u8 (48 + (c : Int) % 10)] rfl rfl (new_cells (c := #[.int .u8 92, .int .u8 (48 + (c : Int) / 100), .int .u8 (48 + (c : Int) / 10 % 10), .int .u8 (48 + (c : Int) % 10)]) _ (by simp)) (by rw [← HBV.out]; exact bv_all _) (by unfold maxLen; omega) (by omega) (by simp; omega) ?_)))
                intro v4 w4 hown4 hg4 hnil4
                obtain ⟨g4, cap4, hv4⟩ := own_shape hown4 hnil4
                rw [hv4] at hown4 ⊢
                clear hnil4 hv4
                have hb4 : Below w.heap.size w w4 := (balloc HB.out _).grown hg4 (by simp; omega) hlo
                have ho4 : w4.ownsRow w.heap.size 5 1 (.slice (some ⟨g4, 0, none⟩) (preQ s (k + 1)).length cap4) (preQ s (k + 1)).length ((preQ s (k + 1)).map bv) := by
                 rw [HST.out, HE.out, List.map_append, List.length_append, HBV.out]
                 exact hown4
                have hln : (preQ s (k + 1)).length = L.length + 4 := by rw [HST.out, HE.out, List.length_append]; rfl
                have HB4 := lh hb4
                have HO4 := lh ho4
                clear hb4 ho4 hown4 hg4 hlo
                go_wp2_with fail
                go_roundw
                case rel => exact ⟨k + 1, g4, cap4, by omega, by go_num, by rw [hln], by rw [← hln]; exact HO4.out, HB4.out⟩
                case measure => simp [intOf]; omega
              · have e126 : decide ((126 : Int) < (c : Int)) = false := by simp; omega
                have he : esc (UInt8.ofNat c) = [UInt8.ofNat c] := esc_plain hc8 (by omega) (by omega) c34 c92
                have hbvs : ([UInt8.ofNat c] : List UInt8).map bv = [.int .u8 (c : Nat)] := by rw [List.map_cons, List.map_nil, bv_of hc8]
                have HE := lh he
                have HBV := lh hbvs
                clear he hbvs
                go_wp2_with (first | (at_builtin; go_must (refine wpList_append_own _ rfl (.tmp 15) (.tmp 17) 74 rfl w.heap.size 5 i5 (.int .u8 0) 1 1 Tryz.underlying74 HI.out hz0 hz1 hz2 rfl (by decide) (.slice (some ⟨g, 0, none⟩) L.length cap) L.length (L.map bv) rfl (HO.out.alloc _) ⟨wr.heap.size, 0, none⟩ 1 1 [.int .u8 (c : Nat)] rfl rfl (new_cells (c := #[.int .u8 (c : Nat)]) _ (by simp)) (by rw [← HBV.out]; exact bv_all _) (by unfold maxLen; omega) (by omega) (by simp; omega) ?_)))
                intro v4 w4 hown4 hg4 hnil4
                obtain ⟨g4, cap4, hv4⟩ := own_shape hown4 hnil4
                rw [hv4] at hown4 ⊢
                clear hnil4 hv4
                have hb4 : Below w.heap.size w w4 := (balloc HB.out _).grown hg4 (by simp; omega) hlo
                have ho4 : w4.ownsRow w.heap.size 5 1 (.slice (some ⟨g4, 0, none⟩) (preQ s (k + 1)).length cap4) (preQ s (k + 1)).length ((preQ s (k + 1)).map bv) := by
                 rw [HST.out, HE.out, List.map_append, List.length_append, HBV.out]
                 exact hown4
                have hln : (preQ s (k + 1)).length = L.length + 1 := by rw [HST.out, HE.out, List.length_append]; rfl
                have HB4 := lh hb4
                have HO4 := lh ho4
                clear hb4 ho4 hown4 hg4 hlo
                go_wp2_with fail
                go_roundw
                case rel => exact ⟨k + 1, g4, cap4, by omega, by go_num, by rw [hln], by rw [← hln]; exact HO4.out, HB4.out⟩
                case measure => simp [intOf]; omega
  · obtain rfl : k = s.size := by omega
    have hd : decide ((s.size : Int) < (s.size : Int)) = false := by simp
    have hpe := preQ_end s
    have HPE := lh hpe
    clear hpe
    generalize preQ s s.size = L at *
    go_wp2_with (first | (at_builtin; go_must (refine wpList_append_own _ rfl (.tmp 59) (.tmp 60) 74 rfl w.heap.size 5 i5 (.int .u8 0) 1 1 Tryz.underlying74 HI.out hz0 hz1 hz2 rfl (by decide) (.slice (some ⟨g, 0, none⟩) L.length cap) L.length (L.map bv) rfl (HO.out.alloc _) ⟨wr.heap.size, 0, none⟩ 1 1 [.int .u8 34] rfl rfl (new_cells (c := #[.int .u8 34]) _ (by simp)) (bv_all [34]) (by unfold maxLen; omega) (by omega) (by simp; omega) ?_)))
    intro v4 w4 hown4 hg4 hnil4
    obtain ⟨g4, cap4, hv4⟩ := own_shape hown4 hnil4
    rw [hv4] at hown4 ⊢
    clear hnil4 hv4
    have hb4 : Below w.heap.size w w4 := (balloc HB.out _).grown hg4 (by simp; omega) hlo
    have ho4 : w4.ownsRow w.heap.size 5 1 (.slice (some ⟨g4, 0, none⟩) (L ++ [34]).length cap4) (L ++ [34]).length ((L ++ [34]).map bv) := by
     rw [List.map_append, List.length_append]
     exact hown4
    have hcv := conv_any 74 9 5 Tryz.underlying74 Tryz.underlying5 Tryz.underlying9 ho4
    have hln : (L ++ [34]).length = L.length + 1 := by simp
    rw [hln] at hcv
    have HB4 := lh hb4
    clear hb4 ho4 hown4 hg4 hlo
    generalize hQ : L ++ [34] = Q at hcv
    go_wp2_with fail
    go_ret
    refine ⟨?_, HB4.out⟩
    rw [← hQ, HPE.out]
    rfl
open Go.RowKit Go.Shelf
theorem extra : Builder.Extra Tryz.prog Tryz.lays155_ren where
 sizeBuilder := by kernel_rfl
 liesBuilder := by kernel_rfl
 t5 := Tryz.lays155.t5
 a5 := Tryz.lays155.a5
 z5 := Tryz.lays155.z5
 v5 := Tryz.lays155.v5
 infoByte := by kernel_rfl
 cellsByte := by kernel_rfl
 sizeByte := by kernel_rfl
 neB5 := by decide
theorem extraJ : Builder.Extra Tryz.prog Tryz.lays156_ren where
 sizeBuilder := by kernel_rfl
 liesBuilder := by kernel_rfl
 t5 := Tryz.lays155.t5
 a5 := Tryz.lays155.a5
 z5 := Tryz.lays155.z5
 v5 := Tryz.lays155.v5
 infoByte := by kernel_rfl
 cellsByte := by kernel_rfl
 sizeByte := by kernel_rfl
 neB5 := by decide
section
variable {B pb : Nat} {v0 : Value} {w0 W : World} {l : List ByteArray} {bs : List Bx}
theorem path_g (h : Gp B pb v0 w0 l W bs) {s : ByteArray} {ws : List ByteArray} (hp : PathT s ws) (hl : jl l + jl ws ≤ 4000000000) :
 Calls Tryz.prog 91 #[pp pb, .string s] W (Wr B pb v0 w0 bs l ws) := by
 obtain ⟨m, hm⟩ := h.gl.mx
 have hs := hp.len
 have hj := jb_len ws
 obtain ⟨hc, he⟩ := hp.split
 have hco : Lib.countB s ⟨#[46]⟩ ≤ s.size := Lib.countB_le _ (by decide) _ _ (Nat.le_refl _)
 have cR : Calls Tryz.prog 136 #[.string s, .string ⟨#[46]⟩, .string ⟨#[32, 46, 32]⟩] W fun e w' => e = .returned (.string ⟨(Lib.replaceAll s.data.toList [46] [32, 46, 32]).toArray⟩) ∧ Below W.heap.size W w' := Any.strings_ReplaceAll Tryz.lays155 extra s ⟨#[46]⟩ ⟨#[32, 46, 32]⟩ m W (by omega) hm (by decide) (by show s.size + _ * 3 ≤ _; omega)
 rw [hp.rep] at cR
 have hz : (⟨(jb ws).toArray⟩ : ByteArray).size = (jb ws).length := by simp [ByteArray.size]
 have cS : Hid (∀ W1 : World, Gp B pb v0 w0 l W1 bs → Calls Tryz.prog 135 #[.string ⟨(jb ws).toArray⟩, .string ⟨#[32]⟩] W1 fun e w' => e = .returned (.slice (some ⟨W1.heap.size, 0, none⟩) ws.length ws.length) ∧ w' = W1.alloc (.cells (ws.map Value.string).toArray 9)) := lh (fun W1 h1 => by
  obtain ⟨m1, hm1⟩ := h1.gl.mx
  have c : Calls Tryz.prog 135 #[.string ⟨(jb ws).toArray⟩, .string ⟨#[32]⟩] W1 fun e w' => e = .returned (.slice (some ⟨W1.heap.size, 0, none⟩) (Lib.countB ⟨(jb ws).toArray⟩ ⟨#[32]⟩ + 1) (Lib.countB ⟨(jb ws).toArray⟩ ⟨#[32]⟩ + 1)) ∧ w' = W1.alloc (.cells ((Lib.splitB ⟨#[32]⟩ 0 (Lib.countB ⟨(jb ws).toArray⟩ ⟨#[32]⟩) ⟨(jb ws).toArray⟩).map Value.string).toArray 9) := Any.strings_Split Tryz.lays146 (by kernel_rfl) ⟨(jb ws).toArray⟩ ⟨#[32]⟩ m1 W1 (by rw [hz]; omega) hm1 (by decide)
  rw [he, hc] at c
  exact c)
 have h0 : 0 < ws.length := by rw [← hc]; omega
 have CR := lh cR
 have G := lh h
 obtain ⟨j, hjj⟩ : ∃ j : ByteArray, j = ⟨(jb ws).toArray⟩ := ⟨_, rfl⟩
 rw [← hjj] at CR cS
 have HL := lh hl
 have H0 := lh h0
 clear hm hs hj hc he hco cR hz h hp hjj hl h0
 go_enter Tryz.func91, Tryz.ntmps91
 go_wp2_with (first
  | (go_at_call 136; refine CR.out.mono ?_; rintro e w1 ⟨rfl, hb⟩; have G1 := lh (G.out.below hb); clear hb)
  | (go_at_call 135; refine (cS.out w1 G1.out).mono ?_; rintro e w2 ⟨rfl, hw2⟩; have G2 : Hid (Gp B pb v0 w0 l w2 bs) := lh (G1.out.below (by rw [hw2]; exact balloc (Below.refl _ _) _)); have HC2 : Hid (∀ j u, (ws.map Value.string)[j]? = some u → w2.cell? ((⟨w1.heap.size, 0, none⟩ : Addr).add j) = some u) := lh (by rw [hw2]; exact new_cells (c := (ws.map Value.string).toArray) _ rfl); clear hw2)
  | (go_at_call 85; refine (put_g ws w1.heap.size 0 ws.length ws.length rfl H0.out HC2.out _ _ _ _ G2.out (by simp) HL.out).mono ?_; rintro e w3 ⟨rfl, hg⟩; have G3 := lh hg; clear hg))
 go_end0
 exact ⟨rfl, G3.out⟩
theorem dec_dg (n : Nat) : Lib.decDigits n = dgL n := by
 induction n using Nat.strongRecOn with
 | ind n ih =>
  unfold Lib.decDigits dgL
  by_cases h : n < 10
  · rw [dif_pos h, dif_pos h]
  · rw [dif_neg h, dif_neg h, ih (n / 10) (by omega)]
theorem itoa_dg (n : Nat) : (⟨(Lib.itoa (n : Int)).toArray⟩ : ByteArray) = dgW n := by
 unfold Lib.itoa dgW
 rw [if_neg (by omega), Int.toNat_natCast, dec_dg]
theorem itoa_g (h : Gp B pb v0 w0 l W bs) (n : Nat) (hn : n ≤ 1000000000) : Calls Tryz.prog 89 #[.int .i64 n] W fun e w' => e = .returned (.string (dgW n)) ∧ Gp B pb v0 w0 l w' bs := by
 have c : Calls Tryz.prog 89 #[.int .i64 n] W fun e w' => e = .returned (.string ⟨(Lib.itoa n).toArray⟩) ∧ ∃ k os, w' = Go.Sort.grow (W.drewN k) os := Any.strconv_Itoa Tryz.lays171 (n : Int) (by omega) (by omega) W h.gl.tb
 refine c.mono ?_
 rintro e w' ⟨rfl, k, os, rfl⟩
 exact ⟨by rw [itoa_dg], h.below ⟨rfl, rfl, rfl, by simp [Go.Sort.grow], fun k9 hk => by show (W.heap ++ os)[k9]? = _; rw [Array.getElem?_append_left hk]⟩⟩
theorem quote_g (h : Gp B pb v0 w0 l W bs) (s : ByteArray) (hs : s.size ≤ 200) : Calls Tryz.prog 90 #[.string s] W fun e w' => e = .returned (.string (quoteD s)) ∧ Gp B pb v0 w0 l w' bs :=
 (pquote_any s W (by omega)).mono (by rintro e w' ⟨rfl, hb⟩; exact ⟨rfl, h.below hb⟩)
end
end Go.Proofs.YthehjeeiodbkjaaGreatDoor
