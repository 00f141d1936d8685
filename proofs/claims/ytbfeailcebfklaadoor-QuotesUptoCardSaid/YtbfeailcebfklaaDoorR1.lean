/-
  Proved: the contract of the reference's Quote. Condition: a text of at most 1048576 bytes.
-/
import Derived.Test.YtbfeailcebfklaaDoorL5
import Derived.Test.YtbfeailcebfklaaDoorP1
set_option linter.unusedSimpArgs false
set_option linter.unusedVariables false
namespace Go.Proofs.YtbfeailcebfklaaDoor
open Go.RowKit

/-- what is written of the first bytes -/
def preQ (s : ByteArray) (k : Nat) : List UInt8 := 34 :: (s.data.toList.take k).flatMap esc
theorem preQ_step (s : ByteArray) (k : Nat) (h : k < s.size) : preQ s (k + 1) = preQ s k ++ esc (UInt8.ofNat (bt s k)) := by
  have h2 : k < s.data.toList.length := by rw [sizeL]; exact h
  unfold preQ
  rw [List.take_succ_eq_append_getElem h2, List.flatMap_append]
  have e : UInt8.ofNat (bt s k) = s.data.toList[k] := by unfold bt; rw [List.getD_eq_getElem?_getD, List.getElem?_eq_getElem h2]; simp
  rw [e]
  simp
theorem esc_len (b : UInt8) : (esc b).length ≤ 4 := by
  rcases esc_cases b with ⟨_, e⟩ | ⟨_, e⟩ | ⟨_, e⟩ | ⟨_, e, _⟩ | ⟨_, _, _, _, e⟩ <;> rw [e] <;> simp
theorem preQ_len (s : ByteArray) (k : Nat) : (preQ s k).length ≤ 4 * k + 1 := by
  have h : ∀ l : List UInt8, (l.flatMap esc).length ≤ 4 * l.length := by
    intro l
    induction l with
    | nil => simp
    | cons b l ih => have := esc_len b; simp at *; omega
  have := h (s.data.toList.take k)
  rw [List.length_take] at this
  simp only [preQ, List.length_cons]
  omega
theorem preQ_end (s : ByteArray) : preQ s s.size ++ [34] = quoteL s.data.toList := by
  unfold preQ quoteL
  rw [← sizeL, List.take_length]
  rfl
theorem app_list (l m : List UInt8) : (⟨l.toArray⟩ : ByteArray) ++ ⟨m.toArray⟩ = ⟨(l ++ m).toArray⟩ := by
  apply ByteArray.ext
  apply Array.ext'
  simp [ByteArray.data_append]
theorem esc_nl : esc (UInt8.ofNat 10) = [92, 110] := by decide
theorem esc_tab : esc (UInt8.ofNat 9) = [92, 116] := by decide
theorem u8n {c : Nat} (h : c < 256) : (UInt8.ofNat c).toNat = c := by simp; omega
theorem esc_self {c : Nat} (h : c < 256) (hc : c = 34 ∨ c = 92) : esc (UInt8.ofNat c) = [92, UInt8.ofNat c] := by
  unfold esc; rw [u8n h, if_neg (by omega), if_neg (by omega), if_pos hc]
theorem esc_code {c : Nat} (h : c < 256) (h1 : c ≠ 10) (h2 : c ≠ 9) (h3 : c < 32 ∨ 126 < c) : esc (UInt8.ofNat c) = [92, UInt8.ofNat (48 + c / 100), UInt8.ofNat (48 + c / 10 % 10), UInt8.ofNat (48 + c % 10)] := by
  unfold esc; rw [u8n h, if_neg h1, if_neg h2, if_neg (by omega), if_pos h3]
theorem esc_plain {c : Nat} (h : c < 256) (h1 : 32 ≤ c) (h2 : c ≤ 126) (h3 : c ≠ 34) (h4 : c ≠ 92) : esc (UInt8.ofNat c) = [UInt8.ofNat c] := by
  unfold esc; rw [u8n h, if_neg (by omega), if_neg (by omega), if_neg (by omega), if_neg (by omega)]

theorem conv_code {c : Nat} (h : c < 256) (wr : World) : (convert 40 9 (.slice (some ⟨wr.heap.size, 0, none⟩) 3 3)).run Tryd.prog (wr.alloc (.cells #[.int .u8 (48 + (c : Int) / 100), .int .u8 (48 + (c : Int) / 10 % 10), .int .u8 (48 + (c : Int) % 10)] 5)) =
    .ok (.string ⟨[UInt8.ofNat (48 + c / 100), UInt8.ofNat (48 + c / 10 % 10), UInt8.ofNat (48 + c % 10)].toArray⟩) (wr.alloc (.cells #[.int .u8 (48 + (c : Int) / 100), .int .u8 (48 + (c : Int) / 10 % 10), .int .u8 (48 + (c : Int) % 10)] 5)) := by
  refine conv_new wr 40 9 5 _ Tryd.underlying40 Tryd.underlying5 Tryd.underlying9 _ 3 rfl _ ?_ 3 rfl
  have e1 : (UInt8.ofNat (48 + c / 100)).toNat = 48 + c / 100 := u8n (by omega)
  have e2 : (UInt8.ofNat (48 + c / 10 % 10)).toNat = 48 + c / 10 % 10 := u8n (by omega)
  have e3 : (UInt8.ofNat (48 + c % 10)).toNat = 48 + c % 10 := u8n (by omega)
  rw [List.map_cons, List.map_cons, List.map_cons, List.map_nil, e1, e2, e3]
  push_cast
  rfl

set_option maxRecDepth 100000 in
set_option maxHeartbeats 4000000 in
theorem rquote_any (s : ByteArray) (w : World) (hs : s.size ≤ 1048576) : Calls Tryd.prog 9 #[.string s] w fun e w' => e = .returned (.string (quoteD s)) ∧ Below w.heap.size w w' := by
  go_enter Tryd.func9, Tryd.ntmps9
  go_wp2_with fail
  go_loopw [3, 4] (fun q i wr => ∃ k : Nat, k ≤ s.size ∧ i = .int .i64 k ∧ q = .string ⟨(preQ s k).toArray⟩ ∧ Below w.heap.size w wr) (fun _ i _ => s.size - (intOf i).toNat)
  case atStart => exact ⟨0, Nat.zero_le _, rfl, rfl, Below.refl _ _⟩
  case round =>
    obtain ⟨k, hk, rfl, rfl, hbl⟩ := hrel
    have HB := Lib.hid hbl
    clear hbl
    have hpl := preQ_len s k
    by_cases hlt : k < s.size
    · have hd : decide ((k : Int) < (s.size : Int)) = true := by simp; omega
      have k0 : (0 : Int) ≤ (k : Int) := by omega
      have k1 : (k : Int) < (s.size : Int) := by omega
      obtain ⟨c, hcb⟩ : ∃ c, c = bt s k := ⟨_, rfl⟩
      have hck := bt_eq hlt hcb
      have hc8 : c < 256 := by rw [hcb]; exact bt_lt s k
      have hst := preQ_step s k hlt
      rw [← hcb] at hst
      have hap := str_app (preQ s k) s k hlt
      rw [← hcb] at hap
      have HCB := Lib.hid hcb
      have HST := Lib.hid hst
      have HAP := Lib.hid hap
      generalize preQ s k = L at *
      have hsz : (⟨L.toArray⟩ : ByteArray).size = L.length := by simp [ByteArray.size]
      clear hcb hst hap
      by_cases c10 : c = 10
      · have e10 : ((c : Int) == 10) = true := by simp [c10]
        go_wp2_with fail
        go_roundw
        case rel => exact ⟨k + 1, by omega, by go_num, by rw [HST.out, c10, esc_nl, ← app_list], HB.out⟩
        case measure => simp [intOf]; omega
      · have e10 : ((c : Int) == 10) = false := by simp; omega
        by_cases c9 : c = 9
        · have e9 : ((c : Int) == 9) = true := by simp [c9]
          go_wp2_with fail
          go_roundw
          case rel => exact ⟨k + 1, by omega, by go_num, by rw [HST.out, c9, esc_tab, ← app_list], HB.out⟩
          case measure => simp [intOf]; omega
        · have e9 : ((c : Int) == 9) = false := by simp; omega
          by_cases c34 : c = 34 ∨ c = 92
          · have he := esc_self hc8 c34
            have hap2 := str_app (L ++ [92]) s k hlt
            rw [← HCB.out] at hap2
            have HAP2 := Lib.hid hap2
            have HE := Lib.hid he
            have hw1 : IntKind.i64.wrap ((k : Int) + 1) = (k : Int) + 1 := IntWalk.i64_in _ (by omega)
            clear hap2 he
            by_cases c34b : c = 34
            · have e34 : ((c : Int) == 34) = true := by simp [c34b]
              clear c34 c34b
              go_wp2_with fail
              go_roundw
              case rel => exact ⟨k + 1, by omega, by go_num, by rw [HST.out, HE.out, app_one, HAP2.out]; simp, HB.out⟩
              case measure => simp [intOf]; omega
            · have e34 : ((c : Int) == 34) = false := by simp; omega
              have e92 : ((c : Int) == 92) = true := by simp; omega
              clear c34 c34b
              go_wp2_with fail
              go_roundw
              case rel => exact ⟨k + 1, by omega, by go_num, by rw [HST.out, HE.out, app_one, HAP2.out]; simp, HB.out⟩
              case measure => simp [intOf]; omega
          · have e34 : ((c : Int) == 34) = false := by simp; omega
            have e92 : ((c : Int) == 92) = false := by simp; omega
            by_cases c32 : c < 32
            · have e32 : decide ((c : Int) < 32) = true := by simp; omega
              obtain ⟨D, hD⟩ : ∃ D : List UInt8, D = [UInt8.ofNat (48 + c / 100), UInt8.ofNat (48 + c / 10 % 10), UInt8.ofNat (48 + c % 10)] := ⟨_, rfl⟩
              have he : esc (UInt8.ofNat c) = 92 :: [UInt8.ofNat (48 + c / 100), UInt8.ofNat (48 + c / 10 % 10), UInt8.ofNat (48 + c % 10)] := esc_code hc8 c10 c9 (by omega)
              have hcv := conv_code hc8 wr
              rw [← hD] at he hcv
              have HE := Lib.hid he
              have hDs : (⟨D.toArray⟩ : ByteArray).size = 3 := by rw [hD]; rfl
              clear he hD
              go_wp2_with fail
              go_roundw
              case rel => exact ⟨k + 1, by omega, by go_num, by rw [HST.out, HE.out, app_one, app_list, List.append_assoc]; rfl, balloc HB.out _⟩
              case measure => simp [intOf]; omega
            · have e32 : decide ((c : Int) < 32) = false := by simp; omega
              by_cases c126 : 126 < c
              · have e126 : decide ((126 : Int) < (c : Int)) = true := by simp; omega
                obtain ⟨D, hD⟩ : ∃ D : List UInt8, D = [UInt8.ofNat (48 + c / 100), UInt8.ofNat (48 + c / 10 % 10), UInt8.ofNat (48 + c % 10)] := ⟨_, rfl⟩
                have he : esc (UInt8.ofNat c) = 92 :: [UInt8.ofNat (48 + c / 100), UInt8.ofNat (48 + c / 10 % 10), UInt8.ofNat (48 + c % 10)] := esc_code hc8 c10 c9 (by omega)
                have hcv := conv_code hc8 wr
                rw [← hD] at he hcv
                have HE := Lib.hid he
                have hDs : (⟨D.toArray⟩ : ByteArray).size = 3 := by rw [hD]; rfl
                clear he hD
                go_wp2_with fail
                go_roundw
                case rel => exact ⟨k + 1, by omega, by go_num, by rw [HST.out, HE.out, app_one, app_list, List.append_assoc]; rfl, balloc HB.out _⟩
                case measure => simp [intOf]; omega
              · have e126 : decide ((126 : Int) < (c : Int)) = false := by simp; omega
                have he := esc_plain hc8 (by omega) (by omega) (by omega) (by omega)
                have HE := Lib.hid he
                clear he
                go_wp2_with fail
                go_roundw
                case rel => exact ⟨k + 1, by omega, by go_num, by rw [HST.out, HE.out, HAP.out], HB.out⟩
                case measure => simp [intOf]; omega
    · obtain rfl : k = s.size := by omega
      have hd : decide ((s.size : Int) < (s.size : Int)) = false := by simp
      go_wp2_with fail
      go_ret
      refine ⟨?_, HB.out⟩
      rw [app_one, preQ_end]
      rfl

end Go.Proofs.YtbfeailcebfklaaDoor
