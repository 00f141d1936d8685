/-
  Proved: the contracts of the program's digits and letters. Condition: small numbers.
-/
import Derived.Test.YtdeomphilggokaaS1
set_option linter.unusedSimpArgs false
set_option linter.unusedVariables false
namespace Go.Proofs.Ytdeomphilggokaa
open Go.RowKit

theorem conv_one (w : World) (c : Nat) (hc : c < 256) : (convert 87 9 (.slice (some ⟨w.heap.size, 0, none⟩) 1 1)).run Try.prog (w.alloc (.cells #[.int .u8 (c : Int)] 5)) = .ok (.string ⟨#[UInt8.ofNat c]⟩) (w.alloc (.cells #[.int .u8 (c : Int)] 5)) := by
  have h := conv_new (P := Try.prog) w 87 9 5 [UInt8.ofNat c] Try.underlying87 Try.underlying5 Try.underlying9 w.heap.size 1 rfl #[.int .u8 (c : Int)] (by simp [bv, Nat.mod_eq_of_lt hc]) (m := 1) rfl
  exact h
set_option maxRecDepth 100000 in
set_option maxHeartbeats 4000000 in
theorem pdig1 (n : Nat) (h : n < 10) (w : World) : Calls Try.prog 57 #[.int .i64 (n : Int)] w fun e w' => e = .returned (.string (digD n)) ∧ Below w.heap.size w w' := by
  have hd : decide ((n : Int) < 10) = true := by simp; omega
  have H := Lib.hid h
  obtain ⟨c, hc⟩ : ∃ c, c = 48 + n := ⟨_, rfl⟩
  have hcn : (48 : Int) + (n : Int) = (c : Int) := by omega
  have w1 : IntKind.i64.wrap (c : Int) = (c : Int) := wrap_small _ (by omega) (by omega)
  have w2 : IntKind.u8.wrap (c : Int) = (c : Int) := by rw [IntKind.wrap_u8]; omega
  have hconv := conv_one w c (by omega)
  have HC := Lib.hid hc
  clear hc
  go_enter Try.func57, Try.ntmps57
  go_wp2_with fail
  go_ret
  refine ⟨?_, balloc (Below.refl _ _) _⟩
  exact congrArg (fun s => Ending.returned (Value.string s)) (by rw [digD_small H.out, ← HC.out])
theorem conv_blk {w : World} {b c : Nat} (hb : w.heap[b]? = some (.cells #[.int .u8 (c : Int)] 5 (0, 0))) (hc : c < 256) : (convert 87 9 (.slice (some ⟨b, 0, none⟩) 1 1)).run Try.prog w = .ok (.string ⟨#[UInt8.ofNat c]⟩) w := by
  refine run_convert_bytes_back w 87 9 5 ⟨b, 0, none⟩ 1 [UInt8.ofNat c] Try.underlying87 Try.underlying5 Try.underlying9 fun j hj => ?_
  have hj0 : j = 0 := by simpa using hj
  subst hj0
  have e : (⟨b, 0, none⟩ : Addr).add 0 = ⟨b, 0, none⟩ := rfl
  rw [e, blk_cell hb]
  simp [Nat.mod_eq_of_lt hc]
set_option maxRecDepth 100000 in
set_option maxHeartbeats 4000000 in
theorem pdigits_any (n : Nat) (hn9 : n < 100) (w : World) : Calls Try.prog 57 #[.int .i64 (n : Int)] w fun e w' => e = .returned (.string (digD n)) ∧ Below w.heap.size w w' := by
  by_cases h : n < 10
  · exact pdig1 n h w
  · have hd : decide ((n : Int) < 10) = false := by simp; omega
    have H := Lib.hid h
    obtain ⟨q, hq⟩ : ∃ q, q = n / 10 := ⟨_, rfl⟩
    obtain ⟨c, hc⟩ : ∃ c, c = 48 + n % 10 := ⟨_, rfl⟩
    obtain ⟨r, hr⟩ : ∃ r, r = n % 10 := ⟨_, rfl⟩
    have eq : (n : Int).tdiv 10 = (q : Int) := by rw [Int.tdiv_eq_ediv_of_nonneg (by omega)]; omega
    have er : (n : Int).tmod 10 = (r : Int) := by rw [Int.tmod_eq_emod_of_nonneg (by omega)]; omega
    have hcr : (48 : Int) + (r : Int) = (c : Int) := by omega
    have wq : IntKind.i64.wrap (q : Int) = (q : Int) := wrap_small _ (by omega) (by omega)
    have wr : IntKind.i64.wrap (r : Int) = (r : Int) := wrap_small _ (by omega) (by omega)
    have wc : IntKind.i64.wrap (c : Int) = (c : Int) := wrap_small _ (by omega) (by omega)
    have wu : IntKind.u8.wrap (c : Int) = (c : Int) := by rw [IntKind.wrap_u8]; omega
    obtain ⟨s, hs⟩ : ∃ s, s = digD q := ⟨_, rfl⟩
    have hs9 : s.size ≤ 1001 := by rw [hs]; have := digD_size q q (Nat.le_refl _); omega
    have hz : ¬ 9223372036854775807 < s.size + 1 := by omega
    have hc256 : c < 256 := by omega
    have hone : ∀ V : World, (convert 87 9 (.slice (some ⟨V.heap.size, 0, none⟩) 1 1)).run Try.prog (V.alloc (.cells #[.int .u8 (c : Int)] 5)) = .ok (.string ⟨#[UInt8.ofNat c]⟩) (V.alloc (.cells #[.int .u8 (c : Int)] 5)) := fun V => conv_one V c hc256
    have hfirst : (convert 87 9 (.slice (some ⟨w.heap.size, 0, none⟩) 1 1)).run Try.prog (w.alloc (.cells #[.int .u8 (c : Int)] 5)).drew = .ok (.string ⟨#[UInt8.ofNat c]⟩) (w.alloc (.cells #[.int .u8 (c : Int)] 5)).drew := conv_blk (show (w.alloc (.cells #[.int .u8 (c : Int)] 5)).heap[w.heap.size]? = _ from heap_alloc_new w _) hc256
    have G1 : Hid (Calls Try.prog 57 #[.int .i64 (q : Int)] w.drew fun e w' => e = .returned (.string s) ∧ Below w.heap.size w w') := (pdig1 q (by omega) w.drew).mono (by rintro e w' ⟨rfl, hb⟩; rw [hs]; exact ⟨rfl, (Below.refl _ _).drew.trans hb⟩)
    have G2 : Hid (Calls Try.prog 57 #[.int .i64 (q : Int)] (w.alloc (.cells #[.int .u8 (c : Int)] 5)).drew fun e w' => e = .returned (.string s) ∧ Below w.heap.size w w' ∧ w'.heap[w.heap.size]? = some (.cells #[.int .u8 (c : Int)] 5 (0, 0))) := (pdig1 q (by omega) _).mono (by
      rintro e w' ⟨rfl, hb⟩
      rw [hs]
      have h0 : Below w.heap.size w (w.alloc (.cells #[.int .u8 (c : Int)] 5)).drew := (balloc (Below.refl _ _) _).drew
      refine ⟨rfl, h0.trans (hb.mono h0.size), ?_⟩
      rw [hb.block w.heap.size (by simp [World.size_drew])]
      exact heap_alloc_new w _)
    have HQ := Lib.hid hq
    have HCC := Lib.hid hc
    have HS := Lib.hid hs
    clear h hq hr hs hc
    go_enter Try.func57, Try.ntmps57
    go_upto_region 3 with fail
    go_region_with (first
      | (go_at_call 57; refine G1.out.mono ?_; rintro e w7 ⟨rfl, hb7⟩)
      | (go_at_call 57; refine G2.out.mono ?_; rintro e w7 ⟨rfl, hb7, hx7⟩; have hcv := conv_blk hx7 hc256))
    all_goals (go_wp2_with fail; go_ret)
    all_goals refine ⟨congrArg (fun s => Ending.returned (Value.string s)) (by rw [digD_big H.out, ← HQ.out, ← HS.out, ← HCC.out]), ?_⟩
    · exact balloc hb7 _
    · exact hb7
    · exact hb7
end Go.Proofs.Ytdeomphilggokaa
