/-
  Proved: the contract of the printer's level, by kinds; the contracts of the printer's exp, pat, typ (over their closures) and rule. Conditions: the printer as it stands in memory; the printer as it stands in memory; the contracts of what they call.
-/
import Derived.Test.YthehjeeiodbkjaaGreatDoorA01
import Derived.Test.YthehjeeiodbkjaaGreatDoorA36
import Derived.Test.YthehjeeiodbkjaaGreatDoorA03
import Derived.Test.YthehjeeiodbkjaaGreatDoorA37
import Derived.Laws.EntriesVeiled
set_option linter.unusedSimpArgs false
set_option linter.unusedVariables false
set_option maxRecDepth 100000
set_option maxHeartbeats 16000000
namespace Go.Proofs.YthehjeeiodbkjaaGreatDoor
open Go.RowKit
structure LV (n : Ty) (k : Nat) : Prop where
 call : ∀ {B pb : Nat} {v0 : Value} {w0 : World} {l : List ByteArray} {W : World} {bs : List Bx} {ao : Option Addr} {cap : Nat}, Gp B pb v0 w0 l W bs → Calls Tryz.prog 81 #[.agg (rowOf n ao cap)] W fun e w' => e = .returned (.int .i64 k) ∧ Gp B pb v0 w0 l w' bs
theorem lv_fn {a q : Int} {s : ByteArray} {K : List Ty} : LV (.mk 7 a s q K) 0 := by
 refine ⟨fun {B pb v0 w0 l W bs ao cap} h => ?_⟩
 obtain ⟨V, hV⟩ : ∃ V, V = W.alloc (.cells #[.int .i64 7, .int .i64 a, .string s, .int .i64 q, .slice ao K.length cap] 26) := ⟨_, rfl⟩
 have G := lh (h.box hV)
 have c := five G.out.hd
 clear h
 show Calls Tryz.prog 81 #[.agg #[.int .i64 7, .int .i64 a, .string s, .int .i64 q, .slice ao K.length cap]] W _
 go_enter Tryz.func81, Tryz.ntmps81
 go_upto_region 1 with fail
 rw [← hV]
 clear hV
 go_wp2_with fail
 go_ret
 exact ⟨rfl, G.out.mono fun x hx => List.mem_cons_of_mem _ hx⟩
theorem lv_if {a q : Int} {s : ByteArray} {K : List Ty} : LV (.mk 9 a s q K) 0 := by
 refine ⟨fun {B pb v0 w0 l W bs ao cap} h => ?_⟩
 obtain ⟨V, hV⟩ : ∃ V, V = W.alloc (.cells #[.int .i64 9, .int .i64 a, .string s, .int .i64 q, .slice ao K.length cap] 26) := ⟨_, rfl⟩
 have G := lh (h.box hV)
 have c := five G.out.hd
 clear h
 show Calls Tryz.prog 81 #[.agg #[.int .i64 9, .int .i64 a, .string s, .int .i64 q, .slice ao K.length cap]] W _
 go_enter Tryz.func81, Tryz.ntmps81
 go_upto_region 1 with fail
 rw [← hV]
 clear hV
 go_wp2_with fail
 go_ret
 exact ⟨rfl, G.out.mono fun x hx => List.mem_cons_of_mem _ hx⟩
theorem lv_raise {a q : Int} {s : ByteArray} {K : List Ty} : LV (.mk 13 a s q K) 0 := by
 refine ⟨fun {B pb v0 w0 l W bs ao cap} h => ?_⟩
 obtain ⟨V, hV⟩ : ∃ V, V = W.alloc (.cells #[.int .i64 13, .int .i64 a, .string s, .int .i64 q, .slice ao K.length cap] 26) := ⟨_, rfl⟩
 have G := lh (h.box hV)
 have c := five G.out.hd
 clear h
 show Calls Tryz.prog 81 #[.agg #[.int .i64 13, .int .i64 a, .string s, .int .i64 q, .slice ao K.length cap]] W _
 go_enter Tryz.func81, Tryz.ntmps81
 go_upto_region 1 with fail
 rw [← hV]
 clear hV
 go_wp2_with fail
 go_ret
 exact ⟨rfl, G.out.mono fun x hx => List.mem_cons_of_mem _ hx⟩
theorem lv_or {a q : Int} {s : ByteArray} {K : List Ty} : LV (.mk 17 a s q K) 2 := by
 refine ⟨fun {B pb v0 w0 l W bs ao cap} h => ?_⟩
 obtain ⟨V, hV⟩ : ∃ V, V = W.alloc (.cells #[.int .i64 17, .int .i64 a, .string s, .int .i64 q, .slice ao K.length cap] 26) := ⟨_, rfl⟩
 have G := lh (h.box hV)
 have c := five G.out.hd
 clear h
 show Calls Tryz.prog 81 #[.agg #[.int .i64 17, .int .i64 a, .string s, .int .i64 q, .slice ao K.length cap]] W _
 go_enter Tryz.func81, Tryz.ntmps81
 go_upto_region 1 with fail
 rw [← hV]
 clear hV
 go_wp2_with fail
 go_ret
 exact ⟨rfl, G.out.mono fun x hx => List.mem_cons_of_mem _ hx⟩
theorem lv_and {a q : Int} {s : ByteArray} {K : List Ty} : LV (.mk 16 a s q K) 3 := by
 refine ⟨fun {B pb v0 w0 l W bs ao cap} h => ?_⟩
 obtain ⟨V, hV⟩ : ∃ V, V = W.alloc (.cells #[.int .i64 16, .int .i64 a, .string s, .int .i64 q, .slice ao K.length cap] 26) := ⟨_, rfl⟩
 have G := lh (h.box hV)
 have c := five G.out.hd
 clear h
 show Calls Tryz.prog 81 #[.agg #[.int .i64 16, .int .i64 a, .string s, .int .i64 q, .slice ao K.length cap]] W _
 go_enter Tryz.func81, Tryz.ntmps81
 go_upto_region 1 with fail
 rw [← hV]
 clear hV
 go_wp2_with fail
 go_ret
 exact ⟨rfl, G.out.mono fun x hx => List.mem_cons_of_mem _ hx⟩
theorem lv_app {a q : Int} {s : ByteArray} {K : List Ty} : LV (.mk 8 a s q K) 8 := by
 refine ⟨fun {B pb v0 w0 l W bs ao cap} h => ?_⟩
 obtain ⟨V, hV⟩ : ∃ V, V = W.alloc (.cells #[.int .i64 8, .int .i64 a, .string s, .int .i64 q, .slice ao K.length cap] 26) := ⟨_, rfl⟩
 have G := lh (h.box hV)
 have c := five G.out.hd
 clear h
 show Calls Tryz.prog 81 #[.agg #[.int .i64 8, .int .i64 a, .string s, .int .i64 q, .slice ao K.length cap]] W _
 go_enter Tryz.func81, Tryz.ntmps81
 go_upto_region 1 with fail
 rw [← hV]
 clear hV
 go_wp2_with fail
 go_ret
 exact ⟨rfl, G.out.mono fun x hx => List.mem_cons_of_mem _ hx⟩
theorem lv_un {a q : Int} {s : ByteArray} {x : Ty} : LV (.mk 18 a s q [x]) 9 := by
 refine ⟨fun {B pb v0 w0 l W bs ao cap} h => ?_⟩
 obtain ⟨V, hV⟩ : ∃ V, V = W.alloc (.cells #[.int .i64 18, .int .i64 a, .string s, .int .i64 q, .slice ao 1 cap] 26) := ⟨_, rfl⟩
 have G := lh (h.box hV)
 have c := five G.out.hd
 clear h
 show Calls Tryz.prog 81 #[.agg #[.int .i64 18, .int .i64 a, .string s, .int .i64 q, .slice ao 1 cap]] W _
 go_enter Tryz.func81, Tryz.ntmps81
 go_upto_region 1 with fail
 rw [← hV]
 clear hV
 go_wp2_with fail
 go_ret
 exact ⟨rfl, G.out.mono fun x hx => List.mem_cons_of_mem _ hx⟩
theorem lv_at {k a q : Int} {s : ByteArray} {K : List Ty} (hk : k ≠ 17 ∧ k ≠ 16 ∧ k ≠ 18 ∧ k ≠ 8 ∧ k ≠ 7 ∧ k ≠ 9 ∧ k ≠ 13) : LV (.mk k a s q K) 10 := by
 refine ⟨fun {B pb v0 w0 l W bs ao cap} h => ?_⟩
 obtain ⟨V, hV⟩ : ∃ V, V = W.alloc (.cells #[.int .i64 k, .int .i64 a, .string s, .int .i64 q, .slice ao K.length cap] 26) := ⟨_, rfl⟩
 have G := lh (h.box hV)
 have c := five G.out.hd
 have e7 : (k == 7) = false := by simp; omega
 have e9 : (k == 9) = false := by simp; omega
 have e13 : (k == 13) = false := by simp; omega
 have e17 : (k == 17) = false := by simp; omega
 have e16 : (k == 16) = false := by simp; omega
 have e18 : (k == 18) = false := by simp; omega
 have e8 : (k == 8) = false := by simp; omega
 clear hk
 clear h
 show Calls Tryz.prog 81 #[.agg #[.int .i64 k, .int .i64 a, .string s, .int .i64 q, .slice ao K.length cap]] W _
 go_enter Tryz.func81, Tryz.ntmps81
 go_upto_region 1 with fail
 rw [← hV]
 clear hV
 go_wp2_with fail
 go_ret
 exact ⟨rfl, G.out.mono fun x hx => List.mem_cons_of_mem _ hx⟩
theorem op_words {k : Nat} {s : ByteArray} (h : s ∈ opL k) : (1 ≤ k ∧ k ≤ 7) ∧ s.size ≤ 4000 ∧ ∀ j, j < 7 → hasB (lvT j) s = decide (j + 1 = k) := by
 have hk : k = 1 ∨ k = 4 ∨ k = 5 ∨ k = 6 ∨ k = 7 := by
  unfold opL at h
  split at h; omega
  split at h; omega
  split at h; omega
  split at h; omega
  split at h; omega
  cases h
 have hm : anyB (wordsA ++ signsA) s = true → s ∈ wordsA ++ signsA := by
  intro h
  unfold anyB at h
  rw [List.any_eq_true] at h
  obtain ⟨t, ht, e⟩ := h
  rw [of_decide_eq_true e]; exact ht
 have hw : (s.size ≤ 4000 ∧ anyB (wordsA ++ signsA) s = true) ∧ ∀ j, j < 7 → anyB (lvL (7 - j)) s = decide (j + 1 = k) := by
  rcases hk with rfl | rfl | rfl | rfl | rfl <;> (clear hm; revert s; decide +kernel)
 obtain ⟨⟨h1, h2⟩, h3⟩ := hw
 exact ⟨by omega, h1, fun j hj => by rw [has_lv hj s (hm h2), h3 j hj]⟩
theorem lv_op {a q : Int} {s : ByteArray} {x y : Ty} {k : Nat} (ho : s ∈ opL k) : LV (.mk 18 a s q [x, y]) k := by
 refine ⟨fun {B pb v0 w0 l W bs ao cap} h => ?_⟩
 obtain ⟨V, hV⟩ : ∃ V, V = W.alloc (.cells #[.int .i64 18, .int .i64 a, .string s, .int .i64 q, .slice ao 2 cap] 26) := ⟨_, rfl⟩
 have G := lh (h.box hV)
 have c := five G.out.hd
 obtain ⟨hk, hs, hj⟩ := op_words ho
 have HJ := lh hj
 have g : V.cell? ⟨2, 0, none⟩ = some (.string t_lv0) ∧ V.cell? ⟨2, 1, none⟩ = some (.int .i64 0) ∧ V.cell? ⟨2, 2, none⟩ = some (.string t_lv1) ∧ V.cell? ⟨2, 3, none⟩ = some (.int .i64 1) ∧ V.cell? ⟨2, 4, none⟩ = some (.string t_lv2) ∧ V.cell? ⟨2, 5, none⟩ = some (.int .i64 1) ∧ V.cell? ⟨2, 6, none⟩ = some (.string t_lv3) ∧ V.cell? ⟨2, 7, none⟩ = some (.int .i64 0) ∧ V.cell? ⟨2, 8, none⟩ = some (.string t_lv4) ∧ V.cell? ⟨2, 9, none⟩ = some (.int .i64 2) ∧ V.cell? ⟨2, 10, none⟩ = some (.string t_lv5) ∧ V.cell? ⟨2, 11, none⟩ = some (.int .i64 1) ∧ V.cell? ⟨2, 12, none⟩ = some (.string t_lv6) ∧ V.cell? ⟨2, 13, none⟩ = some (.int .i64 1) := by
  have h9 := G.out.gl.lv.1
  exact ⟨(h9 0 (by omega)).1, (h9 0 (by omega)).2, (h9 1 (by omega)).1, (h9 1 (by omega)).2, (h9 2 (by omega)).1, (h9 2 (by omega)).2, (h9 3 (by omega)).1, (h9 3 (by omega)).2, (h9 4 (by omega)).1, (h9 4 (by omega)).2, (h9 5 (by omega)).1, (h9 5 (by omega)).2, (h9 6 (by omega)).1, (h9 6 (by omega)).2⟩
 clear ho hj
 clear h
 show Calls Tryz.prog 81 #[.agg #[.int .i64 18, .int .i64 a, .string s, .int .i64 q, .slice ao 2 cap]] W _
 go_enter Tryz.func81, Tryz.ntmps81
 go_upto_region 1 with fail
 rw [← hV]
 clear hV
 go_upto_region 14 with fail
 clear g c
 have hk7 := hk.2
 go_wp2_with fail
 go_loopw [3, 4, 22] (fun _ _ i wr => ((i = .int .i64 0 ∧ 0 < k) ∨ (i = .int .i64 1 ∧ 1 < k) ∨ (i = .int .i64 2 ∧ 2 < k) ∨ (i = .int .i64 3 ∧ 3 < k) ∨ (i = .int .i64 4 ∧ 4 < k) ∨ (i = .int .i64 5 ∧ 5 < k) ∨ (i = .int .i64 6 ∧ 6 < k)) ∧ Gp B pb v0 w0 l wr ((W.heap.size, #[.int .i64 18, .int .i64 a, .string s, .int .i64 q, .slice ao 2 cap], 26) :: bs)) (fun _ _ i _ => 8 - (Lib.intOf i).toNat)
 case atStart => exact ⟨.inl ⟨rfl, by omega⟩, G.out⟩
 case round =>
  obtain ⟨hrel, hg⟩ := hrel
  have G := lh hg
  clear hg
  rcases hrel with ⟨rfl, hj9⟩ | ⟨rfl, hj9⟩ | ⟨rfl, hj9⟩ | ⟨rfl, hj9⟩ | ⟨rfl, hj9⟩ | ⟨rfl, hj9⟩ | ⟨rfl, hj9⟩
  · obtain ⟨V, hV⟩ : ∃ V, V = wr.alloc (.cells #[.string t_lv0, .int .i64 0] 103) := ⟨_, rfl⟩
    have G2 := lh (G.out.box hV)
    have hh : hasB t_lv0 s = decide (0 + 1 = k) := HJ.out 0 (by omega)
    have d : V.cell? ⟨wr.heap.size, 0, none⟩ = some (.string t_lv0) ∧ V.cell? ⟨wr.heap.size, 1, none⟩ = some (.int .i64 0) := ⟨blk_cell G2.out.hd 0, blk_cell G2.out.hd 1⟩
    have c := five (G2.out.at i1)
    have hx : ∀ w' : World, (Instr.index 104 (.agg #[.string t_lv0, .int .i64 0, .string t_lv1, .int .i64 1, .string t_lv2, .int .i64 1, .string t_lv3, .int .i64 0, .string t_lv4, .int .i64 2, .string t_lv5, .int .i64 1, .string t_lv6, .int .i64 1]) (.int .i64 0)).run Tryz.prog w' = .ok (.agg #[.string t_lv0, .int .i64 0]) w' := fun w' => by kernel_rfl
    go_upto_region 16 with fail
    rw [← hV]
    clear hV hx
    have HC := lh (has_any t_lv0 s V (lv_size 0) hs)
    rw [hh] at HC
    clear hh
    by_cases hjk : 0 + 1 = k
    · have HC2 : Hid (Calls Tryz.prog 62 #[.string t_lv0, .string s] V fun e w' => e = .returned (.bool true) ∧ w' = V) := lh (by have := HC.out; rw [decide_eq_true hjk] at this; exact this)
      obtain rfl := hjk
      go_wp2_with (go_at_call 62; refine HC2.out.mono ?_; rintro e w2 ⟨rfl, rfl⟩)
      go_ret
      exact ⟨rfl, G2.out.mono fun x hx => List.mem_cons_of_mem _ (List.mem_cons_of_mem _ hx)⟩
    · have HC2 : Hid (Calls Tryz.prog 62 #[.string t_lv0, .string s] V fun e w' => e = .returned (.bool false) ∧ w' = V) := lh (by have := HC.out; rw [decide_eq_false hjk] at this; exact this)
      go_wp2_with (go_at_call 62; refine HC2.out.mono ?_; rintro e w2 ⟨rfl, rfl⟩)
      go_roundw
      case rel => exact ⟨.inr (.inl ⟨rfl, by omega⟩), G2.out.mono fun x hx => List.mem_cons_of_mem _ hx⟩
      case measure => simp [Lib.intOf]
  · obtain ⟨V, hV⟩ : ∃ V, V = wr.alloc (.cells #[.string t_lv1, .int .i64 1] 103) := ⟨_, rfl⟩
    have G2 := lh (G.out.box hV)
    have hh : hasB t_lv1 s = decide (1 + 1 = k) := HJ.out 1 (by omega)
    have d : V.cell? ⟨wr.heap.size, 0, none⟩ = some (.string t_lv1) ∧ V.cell? ⟨wr.heap.size, 1, none⟩ = some (.int .i64 1) := ⟨blk_cell G2.out.hd 0, blk_cell G2.out.hd 1⟩
    have c := five (G2.out.at i1)
    have hx : ∀ w' : World, (Instr.index 104 (.agg #[.string t_lv0, .int .i64 0, .string t_lv1, .int .i64 1, .string t_lv2, .int .i64 1, .string t_lv3, .int .i64 0, .string t_lv4, .int .i64 2, .string t_lv5, .int .i64 1, .string t_lv6, .int .i64 1]) (.int .i64 1)).run Tryz.prog w' = .ok (.agg #[.string t_lv1, .int .i64 1]) w' := fun w' => by kernel_rfl
    go_upto_region 16 with fail
    rw [← hV]
    clear hV hx
    have HC := lh (has_any t_lv1 s V (lv_size 1) hs)
    rw [hh] at HC
    clear hh
    by_cases hjk : 1 + 1 = k
    · have HC2 : Hid (Calls Tryz.prog 62 #[.string t_lv1, .string s] V fun e w' => e = .returned (.bool true) ∧ w' = V) := lh (by have := HC.out; rw [decide_eq_true hjk] at this; exact this)
      obtain rfl := hjk
      go_wp2_with (go_at_call 62; refine HC2.out.mono ?_; rintro e w2 ⟨rfl, rfl⟩)
      go_ret
      exact ⟨rfl, G2.out.mono fun x hx => List.mem_cons_of_mem _ (List.mem_cons_of_mem _ hx)⟩
    · have HC2 : Hid (Calls Tryz.prog 62 #[.string t_lv1, .string s] V fun e w' => e = .returned (.bool false) ∧ w' = V) := lh (by have := HC.out; rw [decide_eq_false hjk] at this; exact this)
      go_wp2_with (go_at_call 62; refine HC2.out.mono ?_; rintro e w2 ⟨rfl, rfl⟩)
      go_roundw
      case rel => exact ⟨.inr (.inr (.inl ⟨rfl, by omega⟩)), G2.out.mono fun x hx => List.mem_cons_of_mem _ hx⟩
      case measure => simp [Lib.intOf]
  · obtain ⟨V, hV⟩ : ∃ V, V = wr.alloc (.cells #[.string t_lv2, .int .i64 1] 103) := ⟨_, rfl⟩
    have G2 := lh (G.out.box hV)
    have hh : hasB t_lv2 s = decide (2 + 1 = k) := HJ.out 2 (by omega)
    have d : V.cell? ⟨wr.heap.size, 0, none⟩ = some (.string t_lv2) ∧ V.cell? ⟨wr.heap.size, 1, none⟩ = some (.int .i64 1) := ⟨blk_cell G2.out.hd 0, blk_cell G2.out.hd 1⟩
    have c := five (G2.out.at i1)
    have hx : ∀ w' : World, (Instr.index 104 (.agg #[.string t_lv0, .int .i64 0, .string t_lv1, .int .i64 1, .string t_lv2, .int .i64 1, .string t_lv3, .int .i64 0, .string t_lv4, .int .i64 2, .string t_lv5, .int .i64 1, .string t_lv6, .int .i64 1]) (.int .i64 2)).run Tryz.prog w' = .ok (.agg #[.string t_lv2, .int .i64 1]) w' := fun w' => by kernel_rfl
    go_upto_region 16 with fail
    rw [← hV]
    clear hV hx
    have HC := lh (has_any t_lv2 s V (lv_size 2) hs)
    rw [hh] at HC
    clear hh
    by_cases hjk : 2 + 1 = k
    · have HC2 : Hid (Calls Tryz.prog 62 #[.string t_lv2, .string s] V fun e w' => e = .returned (.bool true) ∧ w' = V) := lh (by have := HC.out; rw [decide_eq_true hjk] at this; exact this)
      obtain rfl := hjk
      go_wp2_with (go_at_call 62; refine HC2.out.mono ?_; rintro e w2 ⟨rfl, rfl⟩)
      go_ret
      exact ⟨rfl, G2.out.mono fun x hx => List.mem_cons_of_mem _ (List.mem_cons_of_mem _ hx)⟩
    · have HC2 : Hid (Calls Tryz.prog 62 #[.string t_lv2, .string s] V fun e w' => e = .returned (.bool false) ∧ w' = V) := lh (by have := HC.out; rw [decide_eq_false hjk] at this; exact this)
      go_wp2_with (go_at_call 62; refine HC2.out.mono ?_; rintro e w2 ⟨rfl, rfl⟩)
      go_roundw
      case rel => exact ⟨.inr (.inr (.inr (.inl ⟨rfl, by omega⟩))), G2.out.mono fun x hx => List.mem_cons_of_mem _ hx⟩
      case measure => simp [Lib.intOf]
  · obtain ⟨V, hV⟩ : ∃ V, V = wr.alloc (.cells #[.string t_lv3, .int .i64 0] 103) := ⟨_, rfl⟩
    have G2 := lh (G.out.box hV)
    have hh : hasB t_lv3 s = decide (3 + 1 = k) := HJ.out 3 (by omega)
    have d : V.cell? ⟨wr.heap.size, 0, none⟩ = some (.string t_lv3) ∧ V.cell? ⟨wr.heap.size, 1, none⟩ = some (.int .i64 0) := ⟨blk_cell G2.out.hd 0, blk_cell G2.out.hd 1⟩
    have c := five (G2.out.at i1)
    have hx : ∀ w' : World, (Instr.index 104 (.agg #[.string t_lv0, .int .i64 0, .string t_lv1, .int .i64 1, .string t_lv2, .int .i64 1, .string t_lv3, .int .i64 0, .string t_lv4, .int .i64 2, .string t_lv5, .int .i64 1, .string t_lv6, .int .i64 1]) (.int .i64 3)).run Tryz.prog w' = .ok (.agg #[.string t_lv3, .int .i64 0]) w' := fun w' => by kernel_rfl
    go_upto_region 16 with fail
    rw [← hV]
    clear hV hx
    have HC := lh (has_any t_lv3 s V (lv_size 3) hs)
    rw [hh] at HC
    clear hh
    by_cases hjk : 3 + 1 = k
    · have HC2 : Hid (Calls Tryz.prog 62 #[.string t_lv3, .string s] V fun e w' => e = .returned (.bool true) ∧ w' = V) := lh (by have := HC.out; rw [decide_eq_true hjk] at this; exact this)
      obtain rfl := hjk
      go_wp2_with (go_at_call 62; refine HC2.out.mono ?_; rintro e w2 ⟨rfl, rfl⟩)
      go_ret
      exact ⟨rfl, G2.out.mono fun x hx => List.mem_cons_of_mem _ (List.mem_cons_of_mem _ hx)⟩
    · have HC2 : Hid (Calls Tryz.prog 62 #[.string t_lv3, .string s] V fun e w' => e = .returned (.bool false) ∧ w' = V) := lh (by have := HC.out; rw [decide_eq_false hjk] at this; exact this)
      go_wp2_with (go_at_call 62; refine HC2.out.mono ?_; rintro e w2 ⟨rfl, rfl⟩)
      go_roundw
      case rel => exact ⟨.inr (.inr (.inr (.inr (.inl ⟨rfl, by omega⟩)))), G2.out.mono fun x hx => List.mem_cons_of_mem _ hx⟩
      case measure => simp [Lib.intOf]
  · obtain ⟨V, hV⟩ : ∃ V, V = wr.alloc (.cells #[.string t_lv4, .int .i64 2] 103) := ⟨_, rfl⟩
    have G2 := lh (G.out.box hV)
    have hh : hasB t_lv4 s = decide (4 + 1 = k) := HJ.out 4 (by omega)
    have d : V.cell? ⟨wr.heap.size, 0, none⟩ = some (.string t_lv4) ∧ V.cell? ⟨wr.heap.size, 1, none⟩ = some (.int .i64 2) := ⟨blk_cell G2.out.hd 0, blk_cell G2.out.hd 1⟩
    have c := five (G2.out.at i1)
    have hx : ∀ w' : World, (Instr.index 104 (.agg #[.string t_lv0, .int .i64 0, .string t_lv1, .int .i64 1, .string t_lv2, .int .i64 1, .string t_lv3, .int .i64 0, .string t_lv4, .int .i64 2, .string t_lv5, .int .i64 1, .string t_lv6, .int .i64 1]) (.int .i64 4)).run Tryz.prog w' = .ok (.agg #[.string t_lv4, .int .i64 2]) w' := fun w' => by kernel_rfl
    go_upto_region 16 with fail
    rw [← hV]
    clear hV hx
    have HC := lh (has_any t_lv4 s V (lv_size 4) hs)
    rw [hh] at HC
    clear hh
    by_cases hjk : 4 + 1 = k
    · have HC2 : Hid (Calls Tryz.prog 62 #[.string t_lv4, .string s] V fun e w' => e = .returned (.bool true) ∧ w' = V) := lh (by have := HC.out; rw [decide_eq_true hjk] at this; exact this)
      obtain rfl := hjk
      go_wp2_with (go_at_call 62; refine HC2.out.mono ?_; rintro e w2 ⟨rfl, rfl⟩)
      go_ret
      exact ⟨rfl, G2.out.mono fun x hx => List.mem_cons_of_mem _ (List.mem_cons_of_mem _ hx)⟩
    · have HC2 : Hid (Calls Tryz.prog 62 #[.string t_lv4, .string s] V fun e w' => e = .returned (.bool false) ∧ w' = V) := lh (by have := HC.out; rw [decide_eq_false hjk] at this; exact this)
      go_wp2_with (go_at_call 62; refine HC2.out.mono ?_; rintro e w2 ⟨rfl, rfl⟩)
      go_roundw
      case rel => exact ⟨.inr (.inr (.inr (.inr (.inr (.inl ⟨rfl, by omega⟩))))), G2.out.mono fun x hx => List.mem_cons_of_mem _ hx⟩
      case measure => simp [Lib.intOf]
  · obtain ⟨V, hV⟩ : ∃ V, V = wr.alloc (.cells #[.string t_lv5, .int .i64 1] 103) := ⟨_, rfl⟩
    have G2 := lh (G.out.box hV)
    have hh : hasB t_lv5 s = decide (5 + 1 = k) := HJ.out 5 (by omega)
    have d : V.cell? ⟨wr.heap.size, 0, none⟩ = some (.string t_lv5) ∧ V.cell? ⟨wr.heap.size, 1, none⟩ = some (.int .i64 1) := ⟨blk_cell G2.out.hd 0, blk_cell G2.out.hd 1⟩
    have c := five (G2.out.at i1)
    have hx : ∀ w' : World, (Instr.index 104 (.agg #[.string t_lv0, .int .i64 0, .string t_lv1, .int .i64 1, .string t_lv2, .int .i64 1, .string t_lv3, .int .i64 0, .string t_lv4, .int .i64 2, .string t_lv5, .int .i64 1, .string t_lv6, .int .i64 1]) (.int .i64 5)).run Tryz.prog w' = .ok (.agg #[.string t_lv5, .int .i64 1]) w' := fun w' => by kernel_rfl
    go_upto_region 16 with fail
    rw [← hV]
    clear hV hx
    have HC := lh (has_any t_lv5 s V (lv_size 5) hs)
    rw [hh] at HC
    clear hh
    by_cases hjk : 5 + 1 = k
    · have HC2 : Hid (Calls Tryz.prog 62 #[.string t_lv5, .string s] V fun e w' => e = .returned (.bool true) ∧ w' = V) := lh (by have := HC.out; rw [decide_eq_true hjk] at this; exact this)
      obtain rfl := hjk
      go_wp2_with (go_at_call 62; refine HC2.out.mono ?_; rintro e w2 ⟨rfl, rfl⟩)
      go_ret
      exact ⟨rfl, G2.out.mono fun x hx => List.mem_cons_of_mem _ (List.mem_cons_of_mem _ hx)⟩
    · have HC2 : Hid (Calls Tryz.prog 62 #[.string t_lv5, .string s] V fun e w' => e = .returned (.bool false) ∧ w' = V) := lh (by have := HC.out; rw [decide_eq_false hjk] at this; exact this)
      go_wp2_with (go_at_call 62; refine HC2.out.mono ?_; rintro e w2 ⟨rfl, rfl⟩)
      go_roundw
      case rel => exact ⟨.inr (.inr (.inr (.inr (.inr (.inr (⟨rfl, by omega⟩)))))), G2.out.mono fun x hx => List.mem_cons_of_mem _ hx⟩
      case measure => simp [Lib.intOf]
  · obtain ⟨V, hV⟩ : ∃ V, V = wr.alloc (.cells #[.string t_lv6, .int .i64 1] 103) := ⟨_, rfl⟩
    have G2 := lh (G.out.box hV)
    have hh : hasB t_lv6 s = decide (6 + 1 = k) := HJ.out 6 (by omega)
    have d : V.cell? ⟨wr.heap.size, 0, none⟩ = some (.string t_lv6) ∧ V.cell? ⟨wr.heap.size, 1, none⟩ = some (.int .i64 1) := ⟨blk_cell G2.out.hd 0, blk_cell G2.out.hd 1⟩
    have c := five (G2.out.at i1)
    have hx : ∀ w' : World, (Instr.index 104 (.agg #[.string t_lv0, .int .i64 0, .string t_lv1, .int .i64 1, .string t_lv2, .int .i64 1, .string t_lv3, .int .i64 0, .string t_lv4, .int .i64 2, .string t_lv5, .int .i64 1, .string t_lv6, .int .i64 1]) (.int .i64 6)).run Tryz.prog w' = .ok (.agg #[.string t_lv6, .int .i64 1]) w' := fun w' => by kernel_rfl
    go_upto_region 16 with fail
    rw [← hV]
    clear hV hx
    have HC := lh (has_any t_lv6 s V (lv_size 6) hs)
    rw [hh] at HC
    clear hh
    by_cases hjk : 6 + 1 = k
    · have HC2 : Hid (Calls Tryz.prog 62 #[.string t_lv6, .string s] V fun e w' => e = .returned (.bool true) ∧ w' = V) := lh (by have := HC.out; rw [decide_eq_true hjk] at this; exact this)
      obtain rfl := hjk
      go_wp2_with (go_at_call 62; refine HC2.out.mono ?_; rintro e w2 ⟨rfl, rfl⟩)
      go_ret
      exact ⟨rfl, G2.out.mono fun x hx => List.mem_cons_of_mem _ (List.mem_cons_of_mem _ hx)⟩
    · have HC2 : Hid (Calls Tryz.prog 62 #[.string t_lv6, .string s] V fun e w' => e = .returned (.bool false) ∧ w' = V) := lh (by have := HC.out; rw [decide_eq_false hjk] at this; exact this)
      omega
structure CX (n : Ty) (k : Nat) (ws : List ByteArray) : Prop where
 c : ∀ {B pb : Nat} {v0 : Value} {w0 : World} {bs : List Bx} {ao : Option Addr} {cap nb xb kb : Nat}, (nb, rowOf n ao cap, 26) ∈ bs → (xb, #[pp pb], 43) ∈ bs → (kb, #[.int .i64 k], 3) ∈ bs → SlD w0 (fun b => b < B) n.args ao cap → CV 83 #[.pointer (some ⟨nb, 0, none⟩), .pointer (some ⟨xb, 0, none⟩), .pointer (some ⟨kb, 0, none⟩)] ws B pb v0 w0 bs
structure CPX (n : Ty) (ws : List ByteArray) : Prop where
 c : ∀ {B pb : Nat} {v0 : Value} {w0 : World} {bs : List Bx} {ao : Option Addr} {cap nb xb ab : Nat}, (nb, rowOf n ao cap, 26) ∈ bs → (xb, #[pp pb], 43) ∈ bs → (ab, #[.func (.func 87) #[] #[.pointer (some ⟨xb, 0, none⟩)]], 47) ∈ bs → SlD w0 (fun b => b < B) n.args ao cap → CV 88 #[.pointer (some ⟨nb, 0, none⟩), .pointer (some ⟨xb, 0, none⟩), .pointer (some ⟨ab, 0, none⟩)] ws B pb v0 w0 bs
structure CTX (n : Ty) (ws : List ByteArray) : Prop where
 c : ∀ {B pb : Nat} {v0 : Value} {w0 : World} {bs : List Bx} {ao : Option Addr} {cap nb xb : Nat}, (nb, rowOf n ao cap, 26) ∈ bs → (xb, #[pp pb], 43) ∈ bs → SlD w0 (fun b => b < B) n.args ao cap → CV 94 #[.pointer (some ⟨nb, 0, none⟩), .pointer (some ⟨xb, 0, none⟩)] ws B pb v0 w0 bs
theorem exp_c {k a q : Int} {s : ByteArray} {K : List Ty} {m least : Nat} {ws : List ByteArray} (h1 : LV (.mk k a s q K) m) (h2 : CX (.mk k a s q K) m ws) : CF 43 (some (.int .i64 least)) (.mk k a s q K) (rnd (decide (m < least)) ws) := by
 refine ⟨fun {B pb v0 w0 l W bs ao cap} h hS => ?_⟩
 obtain ⟨V2, hV2, G, HF, c2⟩ := h.b2 k a s q (.slice ao K.length cap)
 have HS : Hid (SlD w0 (fun b => b < B) K ao cap) := lh hS
 have H1 := lh h1
 have H2 := lh h2
 clear h hS h1 h2
 show Calls Tryz.prog 43 #[pp pb, .agg #[.int .i64 k, .int .i64 a, .string s, .int .i64 q, .slice ao K.length cap], (.int .i64 least)] W _
 go_enter Tryz.func43, Tryz.ntmps43
 go_upto_region 1 with fail
 rw [← hV2]
 clear hV2
 have c := c2
 clear c2
 skip
 go_upto_region 2 with (go_at_call 81; refine (H1.out.call (ao := ao) (cap := cap) G.out.g).mono ?_; rintro e u1 ⟨rfl, hg⟩; have G := lh (show Gt B pb v0 w0 l (rnd (decide (m < least)) ws) u1 ((W.heap.size + 1, #[.int .i64 k, .int .i64 a, .string s, .int .i64 q, .slice ao K.length cap], 26) :: (W.heap.size, #[pp pb], 43) :: bs) from ⟨hg, G.out.hl⟩); clear hg)
 obtain ⟨V4, hV4⟩ : ∃ V4, V4 = u1.alloc (.cells #[.int .i64 m] 3) := ⟨_, rfl⟩
 have G := lh (G.out.box hV4)
 rw [← hV4]
 clear hV4 c
 have c := And.intro (one1 G.out.g.hd) (one1 (G.out.g.at i2))
 replace G := lh G.out.nil
 go_wp2_with (go_at_call 82; refine G.out.round (fun _ _ => rfl) (H2.out.c i1 i2 i0 HS.out) ?_; intro u2 G)
 go_end0
 exact G.out.end j3 (by simp)
theorem pat_cons {a q : Int} {s : ByteArray} {K : List Ty} {least : Nat} {ws : List ByteArray} (h2 : CPX (.mk 27 a s q K) ws) : CF 44 (some (.int .i64 least)) (.mk 27 a s q K) (rnd (decide (0 < least)) ws) := by
 refine ⟨fun {B pb v0 w0 l W bs ao cap} h hS => ?_⟩
 obtain ⟨V2, V3, hV2, hV3, G, HF, c2⟩ := h.b3 87 27 a s q (.slice ao K.length cap)
 have HS : Hid (SlD w0 (fun b => b < B) K ao cap) := lh hS
 have H2 := lh h2
 clear h hS h2
 show Calls Tryz.prog 44 #[pp pb, .agg #[.int .i64 27, .int .i64 a, .string s, .int .i64 q, .slice ao K.length cap], (.int .i64 least)] W _
 go_enter Tryz.func44, Tryz.ntmps44
 go_upto_region 1 with fail
 rw [← hV2]
 clear hV2
 have c := c2
 go_upto_region 7 with fail
 clear c
 rw [← hV3]
 clear hV3 c2
 have c := HF.out _ _ G.out.g
 replace G := lh G.out.nil
 go_wp2_with (go_at_call 82; refine G.out.round (fun _ _ => rfl) (H2.out.c i1 i2 i0 HS.out) ?_; intro u2 G)
 go_end0
 exact G.out.end j3 (by simp)
theorem pat_arg {a q : Int} {s : ByteArray} {x : Ty} {K : List Ty} {least : Nat} {ws : List ByteArray} (h2 : CPX (.mk 24 a s q (x :: K)) ws) : CF 44 (some (.int .i64 least)) (.mk 24 a s q (x :: K)) (rnd (decide ((1 : Int) < (least : Int))) ws) := by
 refine ⟨fun {B pb v0 w0 l W bs ao cap} h hS => ?_⟩
 obtain ⟨V2, V3, hV2, hV3, G, HF, c2⟩ := h.b3 87 24 a s q (.slice ao (K.length + 1) cap)
 have HS : Hid (SlD w0 (fun b => b < B) (x :: K) ao cap) := lh hS
 have H2 := lh h2
 clear h hS h2
 show Calls Tryz.prog 44 #[pp pb, .agg #[.int .i64 24, .int .i64 a, .string s, .int .i64 q, .slice ao (K.length + 1) cap], (.int .i64 least)] W _
 go_enter Tryz.func44, Tryz.ntmps44
 go_upto_region 1 with fail
 rw [← hV2]
 clear hV2
 have c := c2
 go_upto_region 7 with fail
 clear c
 rw [← hV3]
 clear hV3 c2
 have c := HF.out _ _ G.out.g
 replace G := lh G.out.nil
 go_wp2_with (go_at_call 82; refine G.out.round (fun _ _ => rfl) (H2.out.c i1 i2 i0 HS.out) ?_; intro u2 G)
 go_end0
 exact G.out.end j3 (by simp)
theorem pat_nul {a q : Int} {s : ByteArray} {least : Nat} {ws : List ByteArray} (h2 : CPX (.mk 24 a s q []) ws) : CF 44 (some (.int .i64 least)) (.mk 24 a s q []) (rnd (decide ((2 : Int) < (least : Int))) ws) := by
 refine ⟨fun {B pb v0 w0 l W bs ao cap} h hS => ?_⟩
 obtain ⟨V2, V3, hV2, hV3, G, HF, c2⟩ := h.b3 87 24 a s q (.slice ao 0 cap)
 have HS : Hid (SlD w0 (fun b => b < B) [] ao cap) := lh hS
 have H2 := lh h2
 clear h hS h2
 show Calls Tryz.prog 44 #[pp pb, .agg #[.int .i64 24, .int .i64 a, .string s, .int .i64 q, .slice ao 0 cap], (.int .i64 least)] W _
 go_enter Tryz.func44, Tryz.ntmps44
 go_upto_region 1 with fail
 rw [← hV2]
 clear hV2
 have c := c2
 go_upto_region 7 with fail
 clear c
 rw [← hV3]
 clear hV3 c2
 have c := HF.out _ _ G.out.g
 replace G := lh G.out.nil
 go_wp2_with (go_at_call 82; refine G.out.round (fun _ _ => rfl) (H2.out.c i1 i2 i0 HS.out) ?_; intro u2 G)
 go_end0
 exact G.out.end j3 (by simp)
theorem pat_at {k a q : Int} {s : ByteArray} {K : List Ty} (hk : k ≠ 27 ∧ k ≠ 24) {least : Nat} {ws : List ByteArray} (h2 : CPX (.mk k a s q K) ws) : CF 44 (some (.int .i64 least)) (.mk k a s q K) (rnd (decide ((2 : Int) < (least : Int))) ws) := by
 refine ⟨fun {B pb v0 w0 l W bs ao cap} h hS => ?_⟩
 obtain ⟨V2, V3, hV2, hV3, G, HF, c2⟩ := h.b3 87 k a s q (.slice ao K.length cap)
 have HS : Hid (SlD w0 (fun b => b < B) K ao cap) := lh hS
 have H2 := lh h2
 clear h hS h2
 show Calls Tryz.prog 44 #[pp pb, .agg #[.int .i64 k, .int .i64 a, .string s, .int .i64 q, .slice ao K.length cap], (.int .i64 least)] W _
 go_enter Tryz.func44, Tryz.ntmps44
 go_upto_region 1 with fail
 rw [← hV2]
 clear hV2
 have c := c2
 have e1 : (k == 27) = false := by simp; omega
 have e2 : (k == 24) = false := by simp; omega
 clear hk
 go_upto_region 7 with fail
 clear c
 rw [← hV3]
 clear hV3 c2
 have c := HF.out _ _ G.out.g
 replace G := lh G.out.nil
 go_wp2_with (go_at_call 82; refine G.out.round (fun _ _ => rfl) (H2.out.c i1 i2 i0 HS.out) ?_; intro u2 G)
 go_end0
 exact G.out.end j3 (by simp)
theorem typ_arr {a q : Int} {s : ByteArray} {K : List Ty} {least : Nat} {ws : List ByteArray} (h2 : CTX (.mk 33 a s q K) ws) : CF 45 (some (.int .i64 least)) (.mk 33 a s q K) (rnd (decide (0 < least)) ws) := by
 refine ⟨fun {B pb v0 w0 l W bs ao cap} h hS => ?_⟩
 obtain ⟨V2, hV2, G, HF, c2⟩ := h.b2 33 a s q (.slice ao K.length cap)
 have HS : Hid (SlD w0 (fun b => b < B) K ao cap) := lh hS
 have H2 := lh h2
 clear h hS h2
 show Calls Tryz.prog 45 #[pp pb, .agg #[.int .i64 33, .int .i64 a, .string s, .int .i64 q, .slice ao K.length cap], (.int .i64 least)] W _
 go_enter Tryz.func45, Tryz.ntmps45
 go_upto_region 1 with fail
 rw [← hV2]
 clear hV2
 have c := c2
 clear c2
 replace G := lh G.out.nil
 go_wp2_with (go_at_call 82; refine G.out.round (fun _ _ => rfl) (H2.out.c i0 i1 HS.out) ?_; intro u2 G)
 go_end0
 exact G.out.end j2 (by simp)
theorem typ_tup {a q : Int} {s : ByteArray} {K : List Ty} {least : Nat} {ws : List ByteArray} (h2 : CTX (.mk 32 a s q K) ws) : CF 45 (some (.int .i64 least)) (.mk 32 a s q K) (rnd (decide ((1 : Int) < (least : Int))) ws) := by
 refine ⟨fun {B pb v0 w0 l W bs ao cap} h hS => ?_⟩
 obtain ⟨V2, hV2, G, HF, c2⟩ := h.b2 32 a s q (.slice ao K.length cap)
 have HS : Hid (SlD w0 (fun b => b < B) K ao cap) := lh hS
 have H2 := lh h2
 clear h hS h2
 show Calls Tryz.prog 45 #[pp pb, .agg #[.int .i64 32, .int .i64 a, .string s, .int .i64 q, .slice ao K.length cap], (.int .i64 least)] W _
 go_enter Tryz.func45, Tryz.ntmps45
 go_upto_region 1 with fail
 rw [← hV2]
 clear hV2
 have c := c2
 clear c2
 replace G := lh G.out.nil
 go_wp2_with (go_at_call 82; refine G.out.round (fun _ _ => rfl) (H2.out.c i0 i1 HS.out) ?_; intro u2 G)
 go_end0
 exact G.out.end j2 (by simp)
theorem typ_at {k a q : Int} {s : ByteArray} {K : List Ty} (hk : k ≠ 33 ∧ k ≠ 32) {least : Nat} {ws : List ByteArray} (h2 : CTX (.mk k a s q K) ws) : CF 45 (some (.int .i64 least)) (.mk k a s q K) (rnd (decide ((2 : Int) < (least : Int))) ws) := by
 refine ⟨fun {B pb v0 w0 l W bs ao cap} h hS => ?_⟩
 obtain ⟨V2, hV2, G, HF, c2⟩ := h.b2 k a s q (.slice ao K.length cap)
 have HS : Hid (SlD w0 (fun b => b < B) K ao cap) := lh hS
 have H2 := lh h2
 clear h hS h2
 show Calls Tryz.prog 45 #[pp pb, .agg #[.int .i64 k, .int .i64 a, .string s, .int .i64 q, .slice ao K.length cap], (.int .i64 least)] W _
 go_enter Tryz.func45, Tryz.ntmps45
 go_upto_region 1 with fail
 rw [← hV2]
 clear hV2
 have c := c2
 clear c2
 have e1 : (k == 33) = false := by simp; omega
 have e2 : (k == 32) = false := by simp; omega
 clear hk
 replace G := lh G.out.nil
 go_wp2_with (go_at_call 82; refine G.out.round (fun _ _ => rfl) (H2.out.c i0 i1 HS.out) ?_; intro u2 G)
 go_end0
 exact G.out.end j2 (by simp)
theorem rule_c {a : Int} {p e : Ty} {pw ew : List ByteArray} (h1 : CF 44 (some (.int .i64 0)) p pw) (h2 : CF 43 (some (.int .i64 0)) e ew) : CF 46 none (.mk 12 a e_ 0 [p, e]) (pw ++ s_arr :: ew) := by
 refine ⟨fun {B pb v0 w0 l W bs ao cap} h hS => ?_⟩
 obtain ⟨V, hV, G, HF⟩ := h.b1 12 a e_ 0 (.slice ao 2 cap)
 have HS : Hid (SlD w0 (fun b => b < B) [p, e] ao cap) := lh hS
 have H1 := lh h1
 have H2 := lh h2
 have c := HF.out _ _ G.out.g
 clear h hS h1 h2
 show Calls Tryz.prog 46 #[pp pb, .agg #[.int .i64 12, .int .i64 a, .string e_, .int .i64 0, .slice ao 2 cap]] W _
 go_enter Tryz.func46, Tryz.ntmps46
 go_upto_region 1 with fail
 rw [← hV]
 clear hV
 have c := HF.out _ _ G.out.g
 obtain ⟨b, p9, ap, cp, HS1, x⟩ := G.out.kid HS.out 0 p rfl 2 rfl 0 rfl
 go_upto_region 2 with (go_at_call 44; refine G.out.call H1.out HS1.out ?_; intro u1 G)
 have c := HF.out _ _ G.out.g
 go_upto_region 3 with (go_at_call 85; refine G.out.put ?_; intro u2 G)
 have c := HF.out _ _ G.out.g
 obtain ⟨b, p9, ap, cp, HS1, x⟩ := G.out.kid HS.out 1 e rfl 2 rfl 1 rfl
 replace G := lh G.out.nil
 go_wp2_with (go_at_call 43; refine G.out.call H2.out HS1.out ?_; intro u3 G)
 have c := HF.out _ _ G.out.g
 go_end0
 exact G.out.end j1 (by simp)
end Go.Proofs.YthehjeeiodbkjaaGreatDoor
