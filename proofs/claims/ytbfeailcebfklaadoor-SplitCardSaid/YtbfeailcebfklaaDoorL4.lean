/-
  Proved: the contracts of the reference's words, signs, Among. Conditions: the list as it stands in memory.
-/
import Derived.Test.YtbfeailcebfklaaDoorL3
import Derived.Test.YtbfeailcebfklaaDoorW
set_option linter.unusedSimpArgs false
set_option linter.unusedVariables false
namespace Go.Proofs.YtbfeailcebfklaaDoor
open Go.RowKit

def wordB : List ByteArray := [⟨#[97, 110, 100]⟩, ⟨#[97, 110, 100, 97, 108, 115, 111]⟩, ⟨#[97, 115]⟩, ⟨#[99, 97, 115, 101]⟩, ⟨#[100, 97, 116, 97]⟩, ⟨#[101, 108, 115, 101]⟩, ⟨#[101, 110, 100]⟩, ⟨#[101, 120, 99, 101, 112, 116, 105, 111, 110]⟩, ⟨#[102, 97, 108, 115, 101]⟩, ⟨#[102, 110]⟩, ⟨#[102, 117, 110]⟩, ⟨#[105, 102]⟩, ⟨#[105, 110]⟩, ⟨#[108, 101, 116]⟩, ⟨#[111, 102]⟩, ⟨#[111, 112, 101, 110]⟩, ⟨#[111, 114, 101, 108, 115, 101]⟩, ⟨#[114, 97, 105, 115, 101]⟩, ⟨#[115, 105, 103]⟩, ⟨#[115, 105, 103, 110, 97, 116, 117, 114, 101]⟩, ⟨#[115, 116, 114, 117, 99, 116]⟩, ⟨#[115, 116, 114, 117, 99, 116, 117, 114, 101]⟩, ⟨#[116, 104, 101, 110]⟩, ⟨#[116, 114, 117, 101]⟩, ⟨#[116, 114, 121]⟩, ⟨#[116, 121, 112, 101]⟩, ⟨#[118, 97, 108]⟩, ⟨#[119, 105, 116, 104]⟩]
def signB : List ByteArray := [⟨#[61, 62]⟩, ⟨#[45, 62]⟩, ⟨#[58, 61]⟩, ⟨#[58, 58]⟩, ⟨#[58, 62]⟩, ⟨#[60, 62]⟩, ⟨#[60, 61]⟩, ⟨#[62, 61]⟩, ⟨#[40]⟩, ⟨#[41]⟩, ⟨#[91]⟩, ⟨#[93]⟩, ⟨#[44]⟩, ⟨#[59]⟩, ⟨#[58]⟩, ⟨#[124]⟩, ⟨#[61]⟩, ⟨#[60]⟩, ⟨#[62]⟩, ⟨#[43]⟩, ⟨#[45]⟩, ⟨#[42]⟩, ⟨#[47]⟩, ⟨#[37]⟩, ⟨#[94]⟩, ⟨#[126]⟩, ⟨#[33]⟩, ⟨#[46]⟩]
abbrev wordV : Array Value := #[.string ⟨#[97, 110, 100]⟩, .string ⟨#[97, 110, 100, 97, 108, 115, 111]⟩, .string ⟨#[97, 115]⟩, .string ⟨#[99, 97, 115, 101]⟩, .string ⟨#[100, 97, 116, 97]⟩, .string ⟨#[101, 108, 115, 101]⟩, .string ⟨#[101, 110, 100]⟩, .string ⟨#[101, 120, 99, 101, 112, 116, 105, 111, 110]⟩, .string ⟨#[102, 97, 108, 115, 101]⟩, .string ⟨#[102, 110]⟩, .string ⟨#[102, 117, 110]⟩, .string ⟨#[105, 102]⟩, .string ⟨#[105, 110]⟩, .string ⟨#[108, 101, 116]⟩, .string ⟨#[111, 102]⟩, .string ⟨#[111, 112, 101, 110]⟩, .string ⟨#[111, 114, 101, 108, 115, 101]⟩, .string ⟨#[114, 97, 105, 115, 101]⟩, .string ⟨#[115, 105, 103]⟩, .string ⟨#[115, 105, 103, 110, 97, 116, 117, 114, 101]⟩, .string ⟨#[115, 116, 114, 117, 99, 116]⟩, .string ⟨#[115, 116, 114, 117, 99, 116, 117, 114, 101]⟩, .string ⟨#[116, 104, 101, 110]⟩, .string ⟨#[116, 114, 117, 101]⟩, .string ⟨#[116, 114, 121]⟩, .string ⟨#[116, 121, 112, 101]⟩, .string ⟨#[118, 97, 108]⟩, .string ⟨#[119, 105, 116, 104]⟩]
abbrev signV : Array Value := #[.string ⟨#[61, 62]⟩, .string ⟨#[45, 62]⟩, .string ⟨#[58, 61]⟩, .string ⟨#[58, 58]⟩, .string ⟨#[58, 62]⟩, .string ⟨#[60, 62]⟩, .string ⟨#[60, 61]⟩, .string ⟨#[62, 61]⟩, .string ⟨#[40]⟩, .string ⟨#[41]⟩, .string ⟨#[91]⟩, .string ⟨#[93]⟩, .string ⟨#[44]⟩, .string ⟨#[59]⟩, .string ⟨#[58]⟩, .string ⟨#[124]⟩, .string ⟨#[61]⟩, .string ⟨#[60]⟩, .string ⟨#[62]⟩, .string ⟨#[43]⟩, .string ⟨#[45]⟩, .string ⟨#[42]⟩, .string ⟨#[47]⟩, .string ⟨#[37]⟩, .string ⟨#[94]⟩, .string ⟨#[126]⟩, .string ⟨#[33]⟩, .string ⟨#[46]⟩]
theorem words_any (w : World) : Calls Tryd.prog 32 #[] w fun e w' => e = .returned (.slice (some ⟨w.heap.size, 0, none⟩) 28 28) ∧ w' = w.alloc (.cells wordV 9) := by
  go_enter Tryd.func32, Tryd.ntmps32
  go_wp2
  go_ret
  exact ⟨rfl, rfl⟩
theorem signs_any (w : World) : Calls Tryd.prog 33 #[] w fun e w' => e = .returned (.slice (some ⟨w.heap.size, 0, none⟩) 28 28) ∧ w' = w.alloc (.cells signV 9) := by
  go_enter Tryd.func33, Tryd.ntmps33
  go_wp2
  go_ret
  exact ⟨rfl, rfl⟩
/-- a list of strings lies at a block -/
def StrsAt (w : World) (b : Nat) (l : List ByteArray) : Prop := ∀ k, k < l.length → w.cell? ⟨b, k, none⟩ = some (.string (l.getD k ByteArray.empty))
theorem strs_new (w : World) (l : List ByteArray) (c : Array Value) (t : TypeId) (h : c = (l.map Value.string).toArray) : StrsAt (w.alloc (.cells c t)) w.heap.size l := by
  subst h
  intro k hk
  rw [blk_cell (heap_alloc_new w _)]
  simp [hk]
theorem words_at (w : World) : StrsAt (w.alloc (.cells wordV 9)) w.heap.size wordB := strs_new w _ _ _ rfl
theorem signs_at (w : World) : StrsAt (w.alloc (.cells signV 9)) w.heap.size signB := strs_new w _ _ _ rfl
def amongD (l : List ByteArray) (s : ByteArray) : Bool := l.any fun x => decide (x = s)
theorem amongD_drop (l : List ByteArray) (s : ByteArray) (k : Nat) (h : k < l.length) : amongD (l.drop k) s = (decide (l.getD k ByteArray.empty = s) || amongD (l.drop (k + 1)) s) := by
  rw [List.drop_eq_getElem_cons h]
  have e : l.getD k ByteArray.empty = l[k] := by rw [List.getD_eq_getElem?_getD, List.getElem?_eq_getElem h]; rfl
  rw [e]
  rfl
set_option maxHeartbeats 1000000 in
theorem among_any (l : List ByteArray) (b : Nat) (s : ByteArray) (w : World) (hl : StrsAt w b l) (hn : l.length ≤ 4000) :
    Calls Tryd.prog 31 #[.slice (some ⟨b, 0, none⟩) l.length l.length, .string s] w fun e w' => e = .returned (.bool (amongD l s)) ∧ w = w' := by
  have HL := Lib.hid hl
  clear hl
  go_enter Tryd.func31, Tryd.ntmps31
  go_wp2_with fail
  go_loop [5] (fun i => ∃ k : Nat, k ≤ l.length ∧ i = .int .i64 k ∧ amongD (l.drop k) s = amongD l s) (fun i => l.length - (intOf i).toNat)
  case atStart => exact ⟨0, Nat.zero_le _, rfl, rfl⟩
  case round =>
    obtain ⟨k, hk, rfl, hc⟩ := hrel
    have HC := Lib.hid hc
    clear hc
    by_cases hlt : k < l.length
    · have k0 : (0 : Int) ≤ (k : Int) := by omega
      have k1 : (k : Int) < (l.length : Int) := by omega
      have hcell := HL.out k hlt
      have hst := amongD_drop l s k hlt
      generalize l.getD k ByteArray.empty = x at hcell hst
      have HST := Lib.hid hst
      clear hst
      cases hx : decide (x = s) with
      | true =>
        have hb : (x.toList == s.toList) = true := by rw [str_eq, hx]
        have HX := Lib.hid hx
        clear hx
        go_wp2_with fail
        go_ret
        exact ⟨ret_bool (by rw [← HC.out, HST.out, HX.out]; rfl), rfl⟩
      | false =>
        have hb : (x.toList == s.toList) = false := by rw [str_eq, hx]
        have HX := Lib.hid hx
        clear hx
        go_wp2_with fail
        go_round
        case rel => exact ⟨k + 1, by omega, by go_num, by rw [← HC.out, HST.out, HX.out]; rfl⟩
        case measure => simp [intOf]; omega
    · obtain rfl : k = l.length := by omega
      go_wp2_with fail
      go_ret
      exact ⟨ret_bool (by rw [← HC.out, List.drop_length]; rfl), rfl⟩

end Go.Proofs.YtbfeailcebfklaaDoor
