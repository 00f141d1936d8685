/-
  Proved: the contract of the printer's closed, by kinds of expressions. Conditions: the printer as it stands in memory; the contracts of what it calls.
-/
import Derived.Test.YthehjeeiodbkjaaGreatDoorA01
import Derived.Test.YthehjeeiodbkjaaGreatDoorA37
import Derived.Laws.EntriesVeiled
set_option linter.unusedSimpArgs false
set_option linter.unusedVariables false
set_option maxRecDepth 100000
set_option maxHeartbeats 16000000
namespace Go.Proofs.YthehjeeiodbkjaaGreatDoor
open Go.RowKit
theorem k_int {a : Int} {s : ByteArray} {K : List Ty} {N : Nat} (h1 : N ≤ 1000000000) : CF 86 none (.mk 1 a s N K) ([dgW N]) := by
 refine ⟨fun {B pb v0 w0 l W bs ao cap} h hS => ?_⟩
 obtain ⟨V2, V3, hV2, hV3, G, HF, c2⟩ := h.b3 131 1 a s N (.slice ao K.length cap)
 have HS : Hid (SlD w0 (fun b => b < B) K ao cap) := lh hS
 have H1 := lh h1
 clear h hS h1
 show Calls Tryz.prog 86 #[pp pb, .agg #[.int .i64 1, .int .i64 a, .string s, .int .i64 N, .slice ao K.length cap]] W _
 go_enter Tryz.func86, Tryz.ntmps86
 go_upto_region 1 with fail
 rw [← hV2]
 clear hV2
 go_upto_region 2 with fail
 rw [← hV3]
 clear hV3 c2
 have c := HF.out _ _ G.out.g
 go_upto_region 4 with fail
 have HS9 := lh (fun l W9 g => And.intro (HF.out l W9 g).1.2.2.2.1 (HF.out l W9 g).2.1)
 replace G := lh G.out.drew
 clear c
 go_region_held3 (fun w9 => w9.cell? ⟨W.heap.size + 1, 3, none⟩ = some (.int .i64 N) ∧ w9.cell? ⟨W.heap.size, 0, none⟩ = some (pp pb)) (first | exact HS9.out _ _ G.out.g | exact HS9.out _ _ (G.out.g.below (balloc (Below.refl _ _) _))) (first | (go_at_call 89; refine G.out.itoa H1.out ?_; intro u1 G) | (go_at_call 85; refine G.out.put ?_; intro u2 G))
 go_end0
 exact G.out.end j3 (by simp)
theorem k_str {a q : Int} {s : ByteArray} {K : List Ty} (h1 : s.size ≤ 200) : CF 86 none (.mk 2 a s q K) ([quoteD s]) := by
 refine ⟨fun {B pb v0 w0 l W bs ao cap} h hS => ?_⟩
 obtain ⟨V2, V3, hV2, hV3, G, HF, c2⟩ := h.b3 131 2 a s q (.slice ao K.length cap)
 have HS : Hid (SlD w0 (fun b => b < B) K ao cap) := lh hS
 have H1 := lh h1
 clear h hS h1
 show Calls Tryz.prog 86 #[pp pb, .agg #[.int .i64 2, .int .i64 a, .string s, .int .i64 q, .slice ao K.length cap]] W _
 go_enter Tryz.func86, Tryz.ntmps86
 go_upto_region 1 with fail
 rw [← hV2]
 clear hV2
 go_upto_region 2 with fail
 rw [← hV3]
 clear hV3 c2
 have c := HF.out _ _ G.out.g
 go_upto_region 6 with fail
 have HS9 := lh (fun l W9 g => And.intro (HF.out l W9 g).1.2.2.1 (HF.out l W9 g).2.1)
 replace G := lh G.out.drew
 clear c
 go_region_held3 (fun w9 => w9.cell? ⟨W.heap.size + 1, 2, none⟩ = some (.string s) ∧ w9.cell? ⟨W.heap.size, 0, none⟩ = some (pp pb)) (first | exact HS9.out _ _ G.out.g | exact HS9.out _ _ (G.out.g.below (balloc (Below.refl _ _) _))) (first | (go_at_call 90; refine G.out.quote H1.out ?_; intro u1 G) | (go_at_call 85; refine G.out.put ?_; intro u2 G))
 go_end0
 exact G.out.end j3 (by simp)
theorem k_var {a q : Int} {s : ByteArray} {K : List Ty} {ws : List ByteArray} (h1 : PathT s ws) : CF 86 none (.mk 3 a s q K) (ws) := by
 refine ⟨fun {B pb v0 w0 l W bs ao cap} h hS => ?_⟩
 obtain ⟨V2, V3, hV2, hV3, G, HF, c2⟩ := h.b3 131 3 a s q (.slice ao K.length cap)
 have HS : Hid (SlD w0 (fun b => b < B) K ao cap) := lh hS
 have H1 := lh h1
 clear h hS h1
 show Calls Tryz.prog 86 #[pp pb, .agg #[.int .i64 3, .int .i64 a, .string s, .int .i64 q, .slice ao K.length cap]] W _
 go_enter Tryz.func86, Tryz.ntmps86
 go_upto_region 1 with fail
 rw [← hV2]
 clear hV2
 go_upto_region 2 with fail
 rw [← hV3]
 clear hV3 c2
 have c := HF.out _ _ G.out.g
 replace G := lh G.out.nil
 go_wp2_with (go_at_call 91; refine G.out.path H1.out ?_; intro u1 G)
 have c := HF.out _ _ G.out.g
 go_end0
 exact G.out.end j3 (by simp)
theorem k_con {a q : Int} {s : ByteArray} {K : List Ty} {ws : List ByteArray} (h1 : PathT s ws) : CF 86 none (.mk 4 a s q K) (ws) := by
 refine ⟨fun {B pb v0 w0 l W bs ao cap} h hS => ?_⟩
 obtain ⟨V2, V3, hV2, hV3, G, HF, c2⟩ := h.b3 131 4 a s q (.slice ao K.length cap)
 have HS : Hid (SlD w0 (fun b => b < B) K ao cap) := lh hS
 have H1 := lh h1
 clear h hS h1
 show Calls Tryz.prog 86 #[pp pb, .agg #[.int .i64 4, .int .i64 a, .string s, .int .i64 q, .slice ao K.length cap]] W _
 go_enter Tryz.func86, Tryz.ntmps86
 go_upto_region 1 with fail
 rw [← hV2]
 clear hV2
 go_upto_region 2 with fail
 rw [← hV3]
 clear hV3 c2
 have c := HF.out _ _ G.out.g
 replace G := lh G.out.nil
 go_wp2_with (go_at_call 91; refine G.out.path H1.out ?_; intro u1 G)
 have c := HF.out _ _ G.out.g
 go_end0
 exact G.out.end j3 (by simp)
theorem k_tup {a q : Int} {s : ByteArray} {K : List Ty} {ws : List ByteArray} (h1 : RowC (CF 43 (some (.int .i64 0))) s_com K ws) : CF 86 none (.mk 5 a s q K) (rnd true ws) := by
 refine ⟨fun {B pb v0 w0 l W bs ao cap} h hS => ?_⟩
 obtain ⟨V2, V3, hV2, hV3, G, HF, c2⟩ := h.b3 131 5 a s q (.slice ao K.length cap)
 have HS : Hid (SlD w0 (fun b => b < B) K ao cap) := lh hS
 have H1 := lh h1
 clear h hS h1
 show Calls Tryz.prog 86 #[pp pb, .agg #[.int .i64 5, .int .i64 a, .string s, .int .i64 q, .slice ao K.length cap]] W _
 go_enter Tryz.func86, Tryz.ntmps86
 go_upto_region 1 with fail
 rw [← hV2]
 clear hV2
 go_upto_region 2 with fail
 rw [← hV3]
 clear hV3 c2
 have c := HF.out _ _ G.out.g
 obtain ⟨V4, hV4⟩ : ∃ V4, V4 = V3.alloc (.cells #[.string s_com] 9) := ⟨_, rfl⟩
 have G := lh (G.out.box hV4)
 go_upto_region 13 with fail
 rw [← hV4]
 clear hV4 c
 have HM := lh (fun (x : Bx) (hx : x ∈ ((V2.heap.size, #[.func (.func 131) #[] #[.pointer (some ⟨W.heap.size, 0, none⟩)]], 47) :: (W.heap.size + 1, #[.int .i64 5, .int .i64 a, .string s, .int .i64 q, .slice ao K.length cap], 26) :: (W.heap.size, #[pp pb], 43) :: bs)) => List.mem_cons_of_mem (V3.heap.size, #[Value.string s_com], 9) hx)
 have c := HF.out _ _ (G.out.g.mono HM.out)
 replace G := lh G.out.nil
 go_wp2_with (go_at_call 82; refine G.out.round (fun _ _ => rfl) (c132 H1.out rfl i3 i2 i0 i1 HS.out) ?_; intro u1 G)
 go_end0
 exact G.out.end j4 (by simp)
theorem k_seq {a q : Int} {s : ByteArray} {K : List Ty} {ws : List ByteArray} (h1 : RowC (CF 43 (some (.int .i64 0))) s_sem K ws) : CF 86 none (.mk 15 a s q K) (rnd true ws) := by
 refine ⟨fun {B pb v0 w0 l W bs ao cap} h hS => ?_⟩
 obtain ⟨V2, V3, hV2, hV3, G, HF, c2⟩ := h.b3 131 15 a s q (.slice ao K.length cap)
 have HS : Hid (SlD w0 (fun b => b < B) K ao cap) := lh hS
 have H1 := lh h1
 clear h hS h1
 show Calls Tryz.prog 86 #[pp pb, .agg #[.int .i64 15, .int .i64 a, .string s, .int .i64 q, .slice ao K.length cap]] W _
 go_enter Tryz.func86, Tryz.ntmps86
 go_upto_region 1 with fail
 rw [← hV2]
 clear hV2
 go_upto_region 2 with fail
 rw [← hV3]
 clear hV3 c2
 have c := HF.out _ _ G.out.g
 have HLT9 : Hid (B ≤ V3.heap.size ∧ w0.heap.size ≤ V3.heap.size ∧ ∀ x ∈ ((V2.heap.size, #[.func (.func 131) #[] #[.pointer (some ⟨W.heap.size, 0, none⟩)]], 47) :: (W.heap.size + 1, #[.int .i64 15, .int .i64 a, .string s, .int .i64 q, .slice ao K.length cap], 26) :: (W.heap.size, #[pp pb], 43) :: bs), x.1 < V3.heap.size) := lh ⟨G.out.g.low.2, G.out.g.old, fun x hx => G.out.g.lt hx⟩
 obtain ⟨V4, hV4⟩ : ∃ V4, V4 = V3.alloc (.cells #[.string s_com] 9) := ⟨_, rfl⟩
 have G := lh (G.out.box hV4)
 go_upto_region 13 with fail
 rw [← hV4]
 clear hV4 c
 have HM := lh (fun (x : Bx) (hx : x ∈ ((V2.heap.size, #[.func (.func 131) #[] #[.pointer (some ⟨W.heap.size, 0, none⟩)]], 47) :: (W.heap.size + 1, #[.int .i64 15, .int .i64 a, .string s, .int .i64 q, .slice ao K.length cap], 26) :: (W.heap.size, #[pp pb], 43) :: bs)) => List.mem_cons_of_mem (V3.heap.size, #[Value.string s_com], 9) hx)
 have c := HF.out _ _ (G.out.g.mono HM.out)
 have d := one1 G.out.g.hd
 have d2 : V4.frozen? ⟨V3.heap.size, 0, none⟩ = false := blk_free G.out.g.hd 0
 obtain ⟨V5, hV5⟩ : ∃ V5, V5 = V4.setCell ⟨V3.heap.size, 0, none⟩ (.string s_sem) := ⟨_, rfl⟩
 have HLT := lh (show B ≤ V3.heap.size ∧ w0.heap.size ≤ V3.heap.size ∧ ∀ x ∈ ((V2.heap.size, #[.func (.func 131) #[] #[.pointer (some ⟨W.heap.size, 0, none⟩)]], 47) :: (W.heap.size + 1, #[.int .i64 15, .int .i64 a, .string s, .int .i64 q, .slice ao K.length cap], 26) :: (W.heap.size, #[pp pb], 43) :: bs), x.1 < V3.heap.size from HLT9.out)
 have G := lh (show Gt B pb v0 w0 l (rnd true ws) V5 ((V3.heap.size, #[.string s_sem], 9) :: ((V2.heap.size, #[.func (.func 131) #[] #[.pointer (some ⟨W.heap.size, 0, none⟩)]], 47) :: (W.heap.size + 1, #[.int .i64 15, .int .i64 a, .string s, .int .i64 q, .slice ao K.length cap], 26) :: (W.heap.size, #[pp pb], 43) :: bs)) from ⟨by rw [hV5]; exact G.out.g.set i0 (fun x hx => ⟨Nat.ne_of_lt (HLT.out.2.2 x hx), List.mem_cons_of_mem _ hx⟩) HLT.out.1 HLT.out.2.1, G.out.hl⟩)
 go_upto_region 15 with fail
 rw [← hV5]
 clear hV5 c d d2
 have c := HF.out _ _ (G.out.g.mono j1)
 replace G := lh G.out.nil
 go_wp2_with (go_at_call 82; refine G.out.round (fun _ _ => rfl) (c132 H1.out rfl i3 i2 i0 i1 HS.out) ?_; intro u1 G)
 go_end0
 exact G.out.end j4 (by simp)
theorem k_list {a q : Int} {s : ByteArray} {K : List Ty} {ws : List ByteArray} (h1 : RowC (CF 43 (some (.int .i64 0))) s_com K ws) : CF 86 none (.mk 6 a s q K) (s_lb :: (ws ++ [s_rb])) := by
 refine ⟨fun {B pb v0 w0 l W bs ao cap} h hS => ?_⟩
 obtain ⟨V2, V3, hV2, hV3, G, HF, c2⟩ := h.b3 131 6 a s q (.slice ao K.length cap)
 have HS : Hid (SlD w0 (fun b => b < B) K ao cap) := lh hS
 have H1 := lh h1
 clear h hS h1
 show Calls Tryz.prog 86 #[pp pb, .agg #[.int .i64 6, .int .i64 a, .string s, .int .i64 q, .slice ao K.length cap]] W _
 go_enter Tryz.func86, Tryz.ntmps86
 go_upto_region 1 with fail
 rw [← hV2]
 clear hV2
 go_upto_region 2 with fail
 rw [← hV3]
 clear hV3 c2
 have c := HF.out _ _ G.out.g
 go_upto_region 18 with (go_at_call 85; refine G.out.put ?_; intro u1 G)
 have c := HF.out _ _ G.out.g
 go_upto_region 19 with (go_at_call 93; refine G.out.list (one131 i2) H1.out rfl HS.out ?_; intro u2 G)
 have c := HF.out _ _ G.out.g
 go_wp2_with (go_at_call 85; refine G.out.put ?_; intro u3 G)
 have c := HF.out _ _ G.out.g
 go_end0
 exact G.out.end j3 (by simp)
theorem k_has {a q : Int} {s : ByteArray} {e t : Ty} {ew tw : List ByteArray} (h1 : CF 43 (some (.int .i64 0)) e ew) (h2 : CF 45 (some (.int .i64 0)) t tw) : CF 86 none (.mk 19 a s q [e, t]) (rnd true (ew ++ s_col :: tw)) := by
 refine ⟨fun {B pb v0 w0 l W bs ao cap} h hS => ?_⟩
 obtain ⟨V2, V3, hV2, hV3, G, HF, c2⟩ := h.b3 131 19 a s q (.slice ao 2 cap)
 have HS : Hid (SlD w0 (fun b => b < B) [e, t] ao cap) := lh hS
 have H1 := lh h1
 have H2 := lh h2
 clear h hS h1 h2
 show Calls Tryz.prog 86 #[pp pb, .agg #[.int .i64 19, .int .i64 a, .string s, .int .i64 q, .slice ao 2 cap]] W _
 go_enter Tryz.func86, Tryz.ntmps86
 go_upto_region 1 with fail
 rw [← hV2]
 clear hV2
 go_upto_region 2 with fail
 rw [← hV3]
 clear hV3 c2
 have c := HF.out _ _ G.out.g
 replace G := lh G.out.nil
 go_wp2_with (go_at_call 82; refine G.out.round (fun _ _ => rfl) (c133 H1.out H2.out i1 i2 HS.out) ?_; intro u1 G)
 have c := HF.out _ _ G.out.g
 go_end0
 exact G.out.end j3 (by simp)
theorem k_let {a : Int} {s : ByteArray} {K : List Ty} {e : Ty} {lw ew : List ByteArray} (h1 : ManyC (CF 48 none) K lw) (h2 : CF 43 (some (.int .i64 0)) e ew) : CF 86 none (.mk 14 a s K.length (K ++ [e])) (w_let :: (lw ++ w_in :: (ew ++ [w_end]))) := by
 refine ⟨fun {B pb v0 w0 l W bs ao cap} h hS => ?_⟩
 obtain ⟨V2, V3, hV2, hV3, G, HF, c2⟩ := h.b3 131 14 a s K.length (.slice ao (K.length + 1) cap)
 have HS : Hid (SlD w0 (fun b => b < B) (K ++ [e]) ao cap) := lh hS
 have H1 := lh h1
 have H2 := lh h2
 clear h hS h1 h2
 show Calls Tryz.prog 86 #[pp pb, .agg #[.int .i64 14, .int .i64 a, .string s, .int .i64 K.length, .slice ao (K ++ [e]).length cap]] W _
 rw [show (K ++ [e]).length = (K.length + 1) from by simp]
 go_enter Tryz.func86, Tryz.ntmps86
 go_upto_region 1 with fail
 rw [← hV2]
 clear hV2
 go_upto_region 2 with fail
 rw [← hV3]
 clear hV3 c2
 have c := HF.out _ _ G.out.g
 have HT : Hid (SlD w0 (fun b => b < B) K ao cap) := lh (by have h9 := HS.out.take K.length; rwa [List.take_left'] at h9; rfl)
 go_upto_region 24 with (go_at_call 85; refine G.out.put ?_; intro u1 G)
 have c := HF.out _ _ G.out.g
 have hcap := lh HT.out.1
 have s1 : ∀ w' : World, (Instr.slice 24 (.slice ao (K.length + 1) cap) none (some (.int .i64 (K.length : Int))) none).run Tryz.prog w' = .ok (.slice ao K.length cap) w' := fun w' => slice_head24 ao _ cap K.length hcap.out _ rfl w'
 go_still_tail 6, (by kernel_rfl)
 change wpList _ _ _ _ _ u1.drew
 replace G := lh G.out.drew
 clear c s1
 go_upto_region 25 with (go_at_call 42; refine G.out.decs H1.out rfl HT.out ?_; intro u2 G)
 have c := HF.out _ _ G.out.g
 go_upto_region 26 with (go_at_call 85; refine G.out.put ?_; intro u3 G)
 have c := HF.out _ _ G.out.g
 obtain ⟨b, p9, ap, cp, HS1, x⟩ := G.out.kid HS.out K.length e (by simp) (K.length + 1) (by simp) K.length rfl
 go_still_tail 7, (by kernel_rfl)
 change wpList _ _ _ _ _ u3.drew
 replace G := lh G.out.drew
 clear c x
 go_upto_region 27 with (go_at_call 43; refine G.out.call H2.out HS1.out ?_; intro u4 G)
 have c := HF.out _ _ G.out.g
 go_wp2_with (go_at_call 85; refine G.out.put ?_; intro u5 G)
 have c := HF.out _ _ G.out.g
 go_end0
 exact G.out.end j3 (by simp)
theorem k_case {a q : Int} {s : ByteArray} {e : Ty} {K : List Ty} {ew rw9 : List ByteArray} (h1 : CF 43 (some (.int .i64 0)) e ew) (h2 : RowC (CF 46 none) s_bar K rw9) : CF 86 none (.mk 10 a s q (e :: K)) (w_case :: (ew ++ w_of :: (rw9 ++ [w_end]))) := by
 refine ⟨fun {B pb v0 w0 l W bs ao cap} h hS => ?_⟩
 obtain ⟨V2, V3, hV2, hV3, G, HF, c2⟩ := h.b3 131 10 a s q (.slice ao (K.length + 1) cap)
 have HS : Hid (SlD w0 (fun b => b < B) (e :: K) ao cap) := lh hS
 have H1 := lh h1
 have H2 := lh h2
 clear h hS h1 h2
 show Calls Tryz.prog 86 #[pp pb, .agg #[.int .i64 10, .int .i64 a, .string s, .int .i64 q, .slice ao (K.length + 1) cap]] W _
 go_enter Tryz.func86, Tryz.ntmps86
 go_upto_region 1 with fail
 rw [← hV2]
 clear hV2
 go_upto_region 2 with fail
 rw [← hV3]
 clear hV3 c2
 have c := HF.out _ _ G.out.g
 obtain ⟨V4, hV4⟩ : ∃ V4, V4 = V3.alloc (.cells #[.string w_case, .string w_of] 122) := ⟨_, rfl⟩
 have G := lh (G.out.box hV4)
 go_upto_region 31 with fail
 rw [← hV4]
 clear hV4 c
 have HM := lh (fun (x : Bx) (hx : x ∈ ((V2.heap.size, #[.func (.func 131) #[] #[.pointer (some ⟨W.heap.size, 0, none⟩)]], 47) :: (W.heap.size + 1, #[.int .i64 10, .int .i64 a, .string s, .int .i64 q, .slice ao (K.length + 1) cap], 26) :: (W.heap.size, #[pp pb], 43) :: bs)) => List.mem_cons_of_mem (V3.heap.size, #[Value.string w_case, Value.string w_of], 122) hx)
 have c := HF.out _ _ (G.out.g.mono HM.out)
 have c := HF.out _ _ (G.out.g.mono HM.out)
 have d : V4.cell? ⟨V3.heap.size, 0, none⟩ = some (.string w_case) ∧ V4.cell? ⟨V3.heap.size, 1, none⟩ = some (.string w_of) := ⟨blk_cell G.out.g.hd 0, blk_cell G.out.g.hd 1⟩
 go_upto_region 34 with (go_at_call 85; refine G.out.put ?_; intro u1 G)
 have c := HF.out _ _ (G.out.g.mono HM.out)
 have d : u1.cell? ⟨V3.heap.size, 0, none⟩ = some (.string w_case) ∧ u1.cell? ⟨V3.heap.size, 1, none⟩ = some (.string w_of) := ⟨blk_cell G.out.g.hd 0, blk_cell G.out.g.hd 1⟩
 obtain ⟨b, p9, ap, cp, HS1, x⟩ := G.out.kid HS.out 0 e rfl (K.length + 1) rfl 0 rfl
 go_still_tail 5, (by kernel_rfl)
 change wpList _ _ _ _ _ u1.drew
 replace G := lh G.out.drew
 clear c x
 go_upto_region 35 with (go_at_call 43; refine G.out.call H1.out HS1.out ?_; intro u2 G)
 have c := HF.out _ _ (G.out.g.mono HM.out)
 have d : u2.cell? ⟨V3.heap.size, 0, none⟩ = some (.string w_case) ∧ u2.cell? ⟨V3.heap.size, 1, none⟩ = some (.string w_of) := ⟨blk_cell G.out.g.hd 0, blk_cell G.out.g.hd 1⟩
 go_upto_region 36 with (go_at_call 85; refine G.out.put ?_; intro u3 G)
 have c := HF.out _ _ (G.out.g.mono HM.out)
 have d : u3.cell? ⟨V3.heap.size, 0, none⟩ = some (.string w_case) ∧ u3.cell? ⟨V3.heap.size, 1, none⟩ = some (.string w_of) := ⟨blk_cell G.out.g.hd 0, blk_cell G.out.g.hd 1⟩
 have HT : Hid (SlD w0 (fun b => b < B) K (tailT ao cap 1) (cap - 1)) := lh (HS.out.drop 1)
 have s1 : ∀ w' : World, (Instr.slice 24 (.slice ao (K.length + 1) cap) (some (.int .i64 1)) none none).run Tryz.prog w' = .ok (.slice (tailT ao cap 1) K.length (cap - 1)) w' := fun w' => slice_tail24 ao (K.length + 1) cap 1 (by omega) 1 rfl w'
 go_still_tail 6, (by kernel_rfl)
 change wpList _ _ _ _ _ u3.drew
 replace G := lh G.out.drew
 clear c d s1
 go_upto_region 37 with (go_at_call 93; refine G.out.list (CF.one (fun _ _ => rfl)) H2.out rfl HT.out ?_; intro u4 G)
 have c := HF.out _ _ (G.out.g.mono HM.out)
 have d : u4.cell? ⟨V3.heap.size, 0, none⟩ = some (.string w_case) ∧ u4.cell? ⟨V3.heap.size, 1, none⟩ = some (.string w_of) := ⟨blk_cell G.out.g.hd 0, blk_cell G.out.g.hd 1⟩
 go_wp2_with (go_at_call 85; refine G.out.put ?_; intro u5 G)
 have c := HF.out _ _ (G.out.g.mono HM.out)
 have d : u5.cell? ⟨V3.heap.size, 0, none⟩ = some (.string w_case) ∧ u5.cell? ⟨V3.heap.size, 1, none⟩ = some (.string w_of) := ⟨blk_cell G.out.g.hd 0, blk_cell G.out.g.hd 1⟩
 go_end0
 exact G.out.end j4 (by simp)
theorem k_try {a q : Int} {s : ByteArray} {e : Ty} {K : List Ty} {ew rw9 : List ByteArray} (h1 : CF 43 (some (.int .i64 0)) e ew) (h2 : RowC (CF 46 none) s_bar K rw9) : CF 86 none (.mk 11 a s q (e :: K)) (w_try :: (ew ++ w_with :: (rw9 ++ [w_end]))) := by
 refine ⟨fun {B pb v0 w0 l W bs ao cap} h hS => ?_⟩
 obtain ⟨V2, V3, hV2, hV3, G, HF, c2⟩ := h.b3 131 11 a s q (.slice ao (K.length + 1) cap)
 have HS : Hid (SlD w0 (fun b => b < B) (e :: K) ao cap) := lh hS
 have H1 := lh h1
 have H2 := lh h2
 clear h hS h1 h2
 show Calls Tryz.prog 86 #[pp pb, .agg #[.int .i64 11, .int .i64 a, .string s, .int .i64 q, .slice ao (K.length + 1) cap]] W _
 go_enter Tryz.func86, Tryz.ntmps86
 go_upto_region 1 with fail
 rw [← hV2]
 clear hV2
 go_upto_region 2 with fail
 rw [← hV3]
 clear hV3 c2
 have c := HF.out _ _ G.out.g
 obtain ⟨V4, hV4⟩ : ∃ V4, V4 = V3.alloc (.cells #[.string w_case, .string w_of] 122) := ⟨_, rfl⟩
 have HLT : Hid (B ≤ V3.heap.size ∧ w0.heap.size ≤ V3.heap.size ∧ ∀ x ∈ ((V2.heap.size, #[.func (.func 131) #[] #[.pointer (some ⟨W.heap.size, 0, none⟩)]], 47) :: (W.heap.size + 1, #[.int .i64 11, .int .i64 a, .string s, .int .i64 q, .slice ao (K.length + 1) cap], 26) :: (W.heap.size, #[pp pb], 43) :: bs), x.1 < V3.heap.size) := lh ⟨G.out.g.low.2, G.out.g.old, fun x hx => G.out.g.lt hx⟩
 have G := lh (G.out.box hV4)
 go_upto_region 31 with fail
 rw [← hV4]
 clear hV4 c
 have HM := lh (fun (x : Bx) (hx : x ∈ ((V2.heap.size, #[.func (.func 131) #[] #[.pointer (some ⟨W.heap.size, 0, none⟩)]], 47) :: (W.heap.size + 1, #[.int .i64 11, .int .i64 a, .string s, .int .i64 q, .slice ao (K.length + 1) cap], 26) :: (W.heap.size, #[pp pb], 43) :: bs)) => List.mem_cons_of_mem (V3.heap.size, #[Value.string w_try, Value.string w_with], 122) hx)
 have c := HF.out _ _ (G.out.g.mono j1)
 have d : V4.cell? ⟨V3.heap.size, 0, none⟩ = some (.string w_case) ∧ V4.cell? ⟨V3.heap.size, 1, none⟩ = some (.string w_of) := ⟨blk_cell G.out.g.hd 0, blk_cell G.out.g.hd 1⟩
 have d2 : V4.frozen? ⟨V3.heap.size, 0, none⟩ = false ∧ V4.frozen? ⟨V3.heap.size, 1, none⟩ = false := ⟨blk_free G.out.g.hd 0, blk_free G.out.g.hd 1⟩
 obtain ⟨V5, hV5⟩ : ∃ V5, V5 = (V4.setCell ⟨V3.heap.size, 0, none⟩ (.string w_try)).setCell ⟨V3.heap.size, 1, none⟩ (.string w_with) := ⟨_, rfl⟩
 have G := lh (show Gt B pb v0 w0 l (w_try :: (ew ++ w_with :: (rw9 ++ [w_end]))) V5 ((V3.heap.size, #[.string w_try, .string w_with], 122) :: ((V2.heap.size, #[.func (.func 131) #[] #[.pointer (some ⟨W.heap.size, 0, none⟩)]], 47) :: (W.heap.size + 1, #[.int .i64 11, .int .i64 a, .string s, .int .i64 q, .slice ao (K.length + 1) cap], 26) :: (W.heap.size, #[pp pb], 43) :: bs)) from ⟨by rw [hV5]; exact (G.out.g.set i0 (fun x hx => ⟨Nat.ne_of_lt (HLT.out.2.2 x hx), List.mem_cons_of_mem _ hx⟩) HLT.out.1 HLT.out.2.1).set i0 (fun x hx => ⟨Nat.ne_of_lt (HLT.out.2.2 x hx), List.mem_cons_of_mem _ hx⟩) HLT.out.1 HLT.out.2.1, G.out.hl⟩)
 go_upto_region 33 with fail
 rw [← hV5]
 clear hV5 c d d2
 have c := HF.out _ _ (G.out.g.mono HM.out)
 have c := HF.out _ _ (G.out.g.mono HM.out)
 have d : V5.cell? ⟨V3.heap.size, 0, none⟩ = some (.string w_try) ∧ V5.cell? ⟨V3.heap.size, 1, none⟩ = some (.string w_with) := ⟨blk_cell G.out.g.hd 0, blk_cell G.out.g.hd 1⟩
 go_upto_region 34 with (go_at_call 85; refine G.out.put ?_; intro u1 G)
 have c := HF.out _ _ (G.out.g.mono HM.out)
 have d : u1.cell? ⟨V3.heap.size, 0, none⟩ = some (.string w_try) ∧ u1.cell? ⟨V3.heap.size, 1, none⟩ = some (.string w_with) := ⟨blk_cell G.out.g.hd 0, blk_cell G.out.g.hd 1⟩
 obtain ⟨b, p9, ap, cp, HS1, x⟩ := G.out.kid HS.out 0 e rfl (K.length + 1) rfl 0 rfl
 go_still_tail 5, (by kernel_rfl)
 change wpList _ _ _ _ _ u1.drew
 replace G := lh G.out.drew
 clear c x
 go_upto_region 35 with (go_at_call 43; refine G.out.call H1.out HS1.out ?_; intro u2 G)
 have c := HF.out _ _ (G.out.g.mono HM.out)
 have d : u2.cell? ⟨V3.heap.size, 0, none⟩ = some (.string w_try) ∧ u2.cell? ⟨V3.heap.size, 1, none⟩ = some (.string w_with) := ⟨blk_cell G.out.g.hd 0, blk_cell G.out.g.hd 1⟩
 go_upto_region 36 with (go_at_call 85; refine G.out.put ?_; intro u3 G)
 have c := HF.out _ _ (G.out.g.mono HM.out)
 have d : u3.cell? ⟨V3.heap.size, 0, none⟩ = some (.string w_try) ∧ u3.cell? ⟨V3.heap.size, 1, none⟩ = some (.string w_with) := ⟨blk_cell G.out.g.hd 0, blk_cell G.out.g.hd 1⟩
 have HT : Hid (SlD w0 (fun b => b < B) K (tailT ao cap 1) (cap - 1)) := lh (HS.out.drop 1)
 have s1 : ∀ w' : World, (Instr.slice 24 (.slice ao (K.length + 1) cap) (some (.int .i64 1)) none none).run Tryz.prog w' = .ok (.slice (tailT ao cap 1) K.length (cap - 1)) w' := fun w' => slice_tail24 ao (K.length + 1) cap 1 (by omega) 1 rfl w'
 go_still_tail 6, (by kernel_rfl)
 change wpList _ _ _ _ _ u3.drew
 replace G := lh G.out.drew
 clear c d s1
 go_upto_region 37 with (go_at_call 93; refine G.out.list (CF.one (fun _ _ => rfl)) H2.out rfl HT.out ?_; intro u4 G)
 have c := HF.out _ _ (G.out.g.mono HM.out)
 have d : u4.cell? ⟨V3.heap.size, 0, none⟩ = some (.string w_try) ∧ u4.cell? ⟨V3.heap.size, 1, none⟩ = some (.string w_with) := ⟨blk_cell G.out.g.hd 0, blk_cell G.out.g.hd 1⟩
 go_wp2_with (go_at_call 85; refine G.out.put ?_; intro u5 G)
 have c := HF.out _ _ (G.out.g.mono HM.out)
 have d : u5.cell? ⟨V3.heap.size, 0, none⟩ = some (.string w_try) ∧ u5.cell? ⟨V3.heap.size, 1, none⟩ = some (.string w_with) := ⟨blk_cell G.out.g.hd 0, blk_cell G.out.g.hd 1⟩
 go_end0
 exact G.out.end j4 (by simp)
end Go.Proofs.YthehjeeiodbkjaaGreatDoor
