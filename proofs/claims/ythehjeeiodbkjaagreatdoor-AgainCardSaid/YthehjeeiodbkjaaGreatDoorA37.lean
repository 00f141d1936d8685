/-
  Proved: the contract of the printer's operation, by signs; the contracts of the small closures of the printer; parts of a slice of trees: the first ones, the last ones; the contract of the printer's decs. Conditions: the printer as it stands in memory; the contract of exp on the two parts; the printer as it stands in memory; the contracts of what they call; the printer as it stands in memory; the contract of dec.
-/
import Derived.Test.YthehjeeiodbkjaaGreatDoorA01
import Derived.Test.YthehjeeiodbkjaaGreatDoorA36
import Derived.MapKept
set_option linter.unusedSimpArgs false
set_option linter.unusedVariables false
set_option maxRecDepth 100000
set_option maxHeartbeats 16000000
namespace Go.Proofs.YthehjeeiodbkjaaGreatDoor
open Go.RowKit
theorem mupd (es : Array MapEntry) (n : Nat) (k : Int) (v : Value) (w : World) (h : Instr.findNow (.int .i64) (.int .i64 k) es.toList 0 = some none) : (Instr.mapUpdate 121 (.map (some w.heap.size)) (.int .i64 k) v).run Tryz.prog (w.alloc (.map es n)) = .ok () (w.alloc (.map (es.push { key := .int .i64 k, val := v, born := n }) (n + 1))) := by
 have hb := heap_alloc_new w (.map es n)
 have hc : (Instr.checkKey false 10000 3 (.int .i64 k)).run Tryz.prog (w.alloc (.map es n)) = .ok () (w.alloc (.map es n)) := MapKept.run_checkKey (k := .int .i64 k) Tryz.underlying3 (by simp [MapKept.IsKey]) false 9999
 have hs : (w.alloc (.map es n)).heap.setIfInBounds w.heap.size (.map (es.push { key := .int .i64 k, val := v, born := n }) (n + 1)) = (w.alloc (.map (es.push { key := .int .i64 k, val := v, born := n }) (n + 1))).heap := by
  show (w.heap.push _).setIfInBounds w.heap.size _ = w.heap.push _
  apply Array.ext'
  simp
 simp [Instr.mapUpdate, run_underlying Tryz.underlying121, MapKept.run_getObj_map hb, hc, MapKept.run_findKey Tryz.underlying3 h, MapKept.run_setObj_map _ hb, Result.andThen]
 rw [hs]
 rfl
theorem mlook (es : Array MapEntry) (n : Nat) (k : Int) (v : Value) (i : Nat) (w : World) (h : Instr.findNow (.int .i64) (.int .i64 k) es.toList 0 = some (some (i, v))) : (Instr.lookup 121 (.map (some w.heap.size)) (.int .i64 k) false).run Tryz.prog (w.alloc (.map es n)) = .ok v (w.alloc (.map es n)) := by
 have hb := heap_alloc_new w (.map es n)
 have hc : (Instr.checkKey es.isEmpty 10000 3 (.int .i64 k)).run Tryz.prog (w.alloc (.map es n)) = .ok () (w.alloc (.map es n)) := MapKept.run_checkKey (k := .int .i64 k) Tryz.underlying3 (by simp [MapKept.IsKey]) _ 9999
 simp [Instr.lookup, run_underlying Tryz.underlying121, MapKept.run_getObj_map hb, hc, MapKept.run_findKey Tryz.underlying3 h, Result.andThen]
theorem mops (s : ByteArray) (V : World) (k : Int) (i : Nat) {v : Value} (h : Instr.findNow (.int .i64) (.int .i64 k) [{ key := .int .i64 17, val := .string w_orelse, born := 0 }, { key := .int .i64 16, val := .string w_andalso, born := 1 }, { key := .int .i64 18, val := .string s, born := 2 }] 0 = some (some (i, v))) : ∃ V2, V2 = V.alloc (.map #[{ key := .int .i64 17, val := .string w_orelse, born := 0 }, { key := .int .i64 16, val := .string w_andalso, born := 1 }, { key := .int .i64 18, val := .string s, born := 2 }] 3) ∧ (Instr.makeMap 121 none).run Tryz.prog V = .ok (.map (some V.heap.size)) (V.alloc (.map #[] 0)) ∧ (Instr.mapUpdate 121 (.map (some V.heap.size)) (.int .i64 17) (.string w_orelse)).run Tryz.prog (V.alloc (.map #[] 0)) = .ok () (V.alloc (.map #[{ key := .int .i64 17, val := .string w_orelse, born := 0 }] 1)) ∧ (Instr.mapUpdate 121 (.map (some V.heap.size)) (.int .i64 16) (.string w_andalso)).run Tryz.prog (V.alloc (.map #[{ key := .int .i64 17, val := .string w_orelse, born := 0 }] 1)) = .ok () (V.alloc (.map #[{ key := .int .i64 17, val := .string w_orelse, born := 0 }, { key := .int .i64 16, val := .string w_andalso, born := 1 }] 2)) ∧ (Instr.mapUpdate 121 (.map (some V.heap.size)) (.int .i64 18) (.string s)).run Tryz.prog (V.alloc (.map #[{ key := .int .i64 17, val := .string w_orelse, born := 0 }, { key := .int .i64 16, val := .string w_andalso, born := 1 }] 2)) = .ok () (V.alloc (.map #[{ key := .int .i64 17, val := .string w_orelse, born := 0 }, { key := .int .i64 16, val := .string w_andalso, born := 1 }, { key := .int .i64 18, val := .string s, born := 2 }] 3)) ∧ (Instr.lookup 121 (.map (some V.heap.size)) (.int .i64 k) false).run Tryz.prog (V.alloc (.map #[{ key := .int .i64 17, val := .string w_orelse, born := 0 }, { key := .int .i64 16, val := .string w_andalso, born := 1 }, { key := .int .i64 18, val := .string s, born := 2 }] 3)) = .ok v (V.alloc (.map #[{ key := .int .i64 17, val := .string w_orelse, born := 0 }, { key := .int .i64 16, val := .string w_andalso, born := 1 }, { key := .int .i64 18, val := .string s, born := 2 }] 3)) :=
 ⟨_, rfl, rfl, mupd _ 0 17 _ V rfl, mupd _ 1 16 _ V rfl, mupd _ 2 18 _ V rfl, mlook _ 3 k _ i V h⟩
theorem o_un {a : Int} {s : ByteArray} {x : Ty} {xw : List ByteArray} (h1 : CF 43 (some (.int .i64 9)) x xw) : CF 84 (some (.int .i64 9)) (.mk 18 a s 0 [x]) (s :: xw) := by
 refine ⟨fun {B pb v0 w0 l W bs ao cap} h hS => ?_⟩
 obtain ⟨V, hV, G, HF⟩ := h.b1 18 a s 0 (.slice ao 1 cap)
 have HS : Hid (SlD w0 (fun b => b < B) [x] ao cap) := lh hS
 have H1 := lh h1
 have c := HF.out _ _ G.out.g
 clear h hS h1
 show Calls Tryz.prog 84 #[pp pb, .agg #[.int .i64 18, .int .i64 a, .string s, .int .i64 0, .slice ao 1 cap], (.int .i64 9)] W _
 go_enter Tryz.func84, Tryz.ntmps84
 go_upto_region 1 with fail
 rw [← hV]
 clear hV
 obtain ⟨V2, hV2, m0, m1, m2, m3, m4⟩ := mops s V 18 2 rfl
 have c5 := fun (m : Array MapEntry) (n : Nat) => five (blk_alloc G.out.g.hd (.map m n))
 go_upto_region 2 with fail
 replace G := lh (G.out.al hV2)
 rw [← hV2]
 clear hV2 m0 m1 m2 m3 m4 c c5
 have c := HF.out _ _ G.out.g
 go_upto_region 4 with (go_at_call 85; refine G.out.put ?_; intro u1 G)
 have c := HF.out _ _ G.out.g
 obtain ⟨b, p9, ap, cp, HS1, x⟩ := G.out.kid HS.out 0 x rfl 1 rfl 0 rfl
 replace G := lh G.out.nil
 go_wp2_with (go_at_call 43; refine G.out.call H1.out HS1.out ?_; intro u2 G)
 have c := HF.out _ _ G.out.g
 go_end0
 exact G.out.end j1 (by simp)
theorem o_or {a : Int} {s : ByteArray} {x y : Ty} {xw yw : List ByteArray} (h1 : CF 43 (some (.int .i64 2)) x xw) (h2 : CF 43 (some (.int .i64 3)) y yw) : CF 84 (some (.int .i64 2)) (.mk 17 a s 0 [x, y]) (xw ++ w_orelse :: yw) := by
 refine ⟨fun {B pb v0 w0 l W bs ao cap} h hS => ?_⟩
 obtain ⟨V, hV, G, HF⟩ := h.b1 17 a s 0 (.slice ao 2 cap)
 have HS : Hid (SlD w0 (fun b => b < B) [x, y] ao cap) := lh hS
 have H1 := lh h1
 have H2 := lh h2
 have c := HF.out _ _ G.out.g
 clear h hS h1 h2
 show Calls Tryz.prog 84 #[pp pb, .agg #[.int .i64 17, .int .i64 a, .string s, .int .i64 0, .slice ao 2 cap], (.int .i64 2)] W _
 go_enter Tryz.func84, Tryz.ntmps84
 go_upto_region 1 with fail
 rw [← hV]
 clear hV
 obtain ⟨V2, hV2, m0, m1, m2, m3, m4⟩ := mops s V 17 0 rfl
 have c5 := fun (m : Array MapEntry) (n : Nat) => five (blk_alloc G.out.g.hd (.map m n))
 go_upto_region 2 with fail
 replace G := lh (G.out.al hV2)
 rw [← hV2]
 clear hV2 m0 m1 m2 m3 m4 c c5
 have c := HF.out _ _ G.out.g
 have g : V2.cell? ⟨2, 3, none⟩ = some (.int .i64 1) := (G.out.g.gl.lv.1 1 (by omega)).2
 go_upto_region 11 with fail
 obtain ⟨b, p9, ap, cp, HS1, x⟩ := G.out.kid HS.out 0 x rfl 2 rfl 0 rfl
 go_upto_region 12 with (go_at_call 43; refine G.out.call H1.out HS1.out ?_; intro u1 G)
 have c := HF.out _ _ G.out.g
 go_upto_region 13 with (go_at_call 85; refine G.out.put ?_; intro u2 G)
 have c := HF.out _ _ G.out.g
 obtain ⟨b, p9, ap, cp, HS1, x⟩ := G.out.kid HS.out 1 y rfl 2 rfl 1 rfl
 replace G := lh G.out.nil
 go_wp2_with (go_at_call 43; refine G.out.call H2.out HS1.out ?_; intro u3 G)
 have c := HF.out _ _ G.out.g
 go_end0
 exact G.out.end j1 (by simp)
theorem o_and {a : Int} {s : ByteArray} {x y : Ty} {xw yw : List ByteArray} (h1 : CF 43 (some (.int .i64 3)) x xw) (h2 : CF 43 (some (.int .i64 4)) y yw) : CF 84 (some (.int .i64 3)) (.mk 16 a s 0 [x, y]) (xw ++ w_andalso :: yw) := by
 refine ⟨fun {B pb v0 w0 l W bs ao cap} h hS => ?_⟩
 obtain ⟨V, hV, G, HF⟩ := h.b1 16 a s 0 (.slice ao 2 cap)
 have HS : Hid (SlD w0 (fun b => b < B) [x, y] ao cap) := lh hS
 have H1 := lh h1
 have H2 := lh h2
 have c := HF.out _ _ G.out.g
 clear h hS h1 h2
 show Calls Tryz.prog 84 #[pp pb, .agg #[.int .i64 16, .int .i64 a, .string s, .int .i64 0, .slice ao 2 cap], (.int .i64 3)] W _
 go_enter Tryz.func84, Tryz.ntmps84
 go_upto_region 1 with fail
 rw [← hV]
 clear hV
 obtain ⟨V2, hV2, m0, m1, m2, m3, m4⟩ := mops s V 16 1 rfl
 have c5 := fun (m : Array MapEntry) (n : Nat) => five (blk_alloc G.out.g.hd (.map m n))
 go_upto_region 2 with fail
 replace G := lh (G.out.al hV2)
 rw [← hV2]
 clear hV2 m0 m1 m2 m3 m4 c c5
 have c := HF.out _ _ G.out.g
 have g : V2.cell? ⟨2, 5, none⟩ = some (.int .i64 1) := (G.out.g.gl.lv.1 2 (by omega)).2
 go_upto_region 11 with fail
 obtain ⟨b, p9, ap, cp, HS1, x⟩ := G.out.kid HS.out 0 x rfl 2 rfl 0 rfl
 go_upto_region 12 with (go_at_call 43; refine G.out.call H1.out HS1.out ?_; intro u1 G)
 have c := HF.out _ _ G.out.g
 go_upto_region 13 with (go_at_call 85; refine G.out.put ?_; intro u2 G)
 have c := HF.out _ _ G.out.g
 obtain ⟨b, p9, ap, cp, HS1, x⟩ := G.out.kid HS.out 1 y rfl 2 rfl 1 rfl
 replace G := lh G.out.nil
 go_wp2_with (go_at_call 43; refine G.out.call H2.out HS1.out ?_; intro u3 G)
 have c := HF.out _ _ G.out.g
 go_end0
 exact G.out.end j1 (by simp)
theorem o_op1 {a : Int} {s : ByteArray} {x y : Ty} {xw yw : List ByteArray} (h1 : CF 43 (some (.int .i64 2)) x xw) (h2 : CF 43 (some (.int .i64 2)) y yw) : CF 84 (some (.int .i64 1)) (.mk 18 a s 0 [x, y]) (xw ++ s :: yw) := by
 refine ⟨fun {B pb v0 w0 l W bs ao cap} h hS => ?_⟩
 obtain ⟨V, hV, G, HF⟩ := h.b1 18 a s 0 (.slice ao 2 cap)
 have HS : Hid (SlD w0 (fun b => b < B) [x, y] ao cap) := lh hS
 have H1 := lh h1
 have H2 := lh h2
 have c := HF.out _ _ G.out.g
 clear h hS h1 h2
 show Calls Tryz.prog 84 #[pp pb, .agg #[.int .i64 18, .int .i64 a, .string s, .int .i64 0, .slice ao 2 cap], (.int .i64 1)] W _
 go_enter Tryz.func84, Tryz.ntmps84
 go_upto_region 1 with fail
 rw [← hV]
 clear hV
 obtain ⟨V2, hV2, m0, m1, m2, m3, m4⟩ := mops s V 18 2 rfl
 have c5 := fun (m : Array MapEntry) (n : Nat) => five (blk_alloc G.out.g.hd (.map m n))
 go_upto_region 2 with fail
 replace G := lh (G.out.al hV2)
 rw [← hV2]
 clear hV2 m0 m1 m2 m3 m4 c c5
 have c := HF.out _ _ G.out.g
 have g : V2.cell? ⟨2, 1, none⟩ = some (.int .i64 0) := (G.out.g.gl.lv.1 0 (by omega)).2
 go_upto_region 11 with fail
 obtain ⟨b, p9, ap, cp, HS1, x⟩ := G.out.kid HS.out 0 x rfl 2 rfl 0 rfl
 go_upto_region 12 with (go_at_call 43; refine G.out.call H1.out HS1.out ?_; intro u1 G)
 have c := HF.out _ _ G.out.g
 go_upto_region 13 with (go_at_call 85; refine G.out.put ?_; intro u2 G)
 have c := HF.out _ _ G.out.g
 obtain ⟨b, p9, ap, cp, HS1, x⟩ := G.out.kid HS.out 1 y rfl 2 rfl 1 rfl
 replace G := lh G.out.nil
 go_wp2_with (go_at_call 43; refine G.out.call H2.out HS1.out ?_; intro u3 G)
 have c := HF.out _ _ G.out.g
 go_end0
 exact G.out.end j1 (by simp)
theorem o_op4 {a : Int} {s : ByteArray} {x y : Ty} {xw yw : List ByteArray} (h1 : CF 43 (some (.int .i64 5)) x xw) (h2 : CF 43 (some (.int .i64 5)) y yw) : CF 84 (some (.int .i64 4)) (.mk 18 a s 0 [x, y]) (xw ++ s :: yw) := by
 refine ⟨fun {B pb v0 w0 l W bs ao cap} h hS => ?_⟩
 obtain ⟨V, hV, G, HF⟩ := h.b1 18 a s 0 (.slice ao 2 cap)
 have HS : Hid (SlD w0 (fun b => b < B) [x, y] ao cap) := lh hS
 have H1 := lh h1
 have H2 := lh h2
 have c := HF.out _ _ G.out.g
 clear h hS h1 h2
 show Calls Tryz.prog 84 #[pp pb, .agg #[.int .i64 18, .int .i64 a, .string s, .int .i64 0, .slice ao 2 cap], (.int .i64 4)] W _
 go_enter Tryz.func84, Tryz.ntmps84
 go_upto_region 1 with fail
 rw [← hV]
 clear hV
 obtain ⟨V2, hV2, m0, m1, m2, m3, m4⟩ := mops s V 18 2 rfl
 have c5 := fun (m : Array MapEntry) (n : Nat) => five (blk_alloc G.out.g.hd (.map m n))
 go_upto_region 2 with fail
 replace G := lh (G.out.al hV2)
 rw [← hV2]
 clear hV2 m0 m1 m2 m3 m4 c c5
 have c := HF.out _ _ G.out.g
 have g : V2.cell? ⟨2, 7, none⟩ = some (.int .i64 0) := (G.out.g.gl.lv.1 3 (by omega)).2
 go_upto_region 11 with fail
 obtain ⟨b, p9, ap, cp, HS1, x⟩ := G.out.kid HS.out 0 x rfl 2 rfl 0 rfl
 go_upto_region 12 with (go_at_call 43; refine G.out.call H1.out HS1.out ?_; intro u1 G)
 have c := HF.out _ _ G.out.g
 go_upto_region 13 with (go_at_call 85; refine G.out.put ?_; intro u2 G)
 have c := HF.out _ _ G.out.g
 obtain ⟨b, p9, ap, cp, HS1, x⟩ := G.out.kid HS.out 1 y rfl 2 rfl 1 rfl
 replace G := lh G.out.nil
 go_wp2_with (go_at_call 43; refine G.out.call H2.out HS1.out ?_; intro u3 G)
 have c := HF.out _ _ G.out.g
 go_end0
 exact G.out.end j1 (by simp)
theorem o_op5 {a : Int} {s : ByteArray} {x y : Ty} {xw yw : List ByteArray} (h1 : CF 43 (some (.int .i64 6)) x xw) (h2 : CF 43 (some (.int .i64 5)) y yw) : CF 84 (some (.int .i64 5)) (.mk 18 a s 0 [x, y]) (xw ++ s :: yw) := by
 refine ⟨fun {B pb v0 w0 l W bs ao cap} h hS => ?_⟩
 obtain ⟨V, hV, G, HF⟩ := h.b1 18 a s 0 (.slice ao 2 cap)
 have HS : Hid (SlD w0 (fun b => b < B) [x, y] ao cap) := lh hS
 have H1 := lh h1
 have H2 := lh h2
 have c := HF.out _ _ G.out.g
 clear h hS h1 h2
 show Calls Tryz.prog 84 #[pp pb, .agg #[.int .i64 18, .int .i64 a, .string s, .int .i64 0, .slice ao 2 cap], (.int .i64 5)] W _
 go_enter Tryz.func84, Tryz.ntmps84
 go_upto_region 1 with fail
 rw [← hV]
 clear hV
 obtain ⟨V2, hV2, m0, m1, m2, m3, m4⟩ := mops s V 18 2 rfl
 have c5 := fun (m : Array MapEntry) (n : Nat) => five (blk_alloc G.out.g.hd (.map m n))
 go_upto_region 2 with fail
 replace G := lh (G.out.al hV2)
 rw [← hV2]
 clear hV2 m0 m1 m2 m3 m4 c c5
 have c := HF.out _ _ G.out.g
 have g : V2.cell? ⟨2, 9, none⟩ = some (.int .i64 2) := (G.out.g.gl.lv.1 4 (by omega)).2
 go_upto_region 11 with fail
 obtain ⟨b, p9, ap, cp, HS1, x⟩ := G.out.kid HS.out 0 x rfl 2 rfl 0 rfl
 go_upto_region 12 with (go_at_call 43; refine G.out.call H1.out HS1.out ?_; intro u1 G)
 have c := HF.out _ _ G.out.g
 go_upto_region 13 with (go_at_call 85; refine G.out.put ?_; intro u2 G)
 have c := HF.out _ _ G.out.g
 obtain ⟨b, p9, ap, cp, HS1, x⟩ := G.out.kid HS.out 1 y rfl 2 rfl 1 rfl
 replace G := lh G.out.nil
 go_wp2_with (go_at_call 43; refine G.out.call H2.out HS1.out ?_; intro u3 G)
 have c := HF.out _ _ G.out.g
 go_end0
 exact G.out.end j1 (by simp)
theorem o_op6 {a : Int} {s : ByteArray} {x y : Ty} {xw yw : List ByteArray} (h1 : CF 43 (some (.int .i64 6)) x xw) (h2 : CF 43 (some (.int .i64 7)) y yw) : CF 84 (some (.int .i64 6)) (.mk 18 a s 0 [x, y]) (xw ++ s :: yw) := by
 refine ⟨fun {B pb v0 w0 l W bs ao cap} h hS => ?_⟩
 obtain ⟨V, hV, G, HF⟩ := h.b1 18 a s 0 (.slice ao 2 cap)
 have HS : Hid (SlD w0 (fun b => b < B) [x, y] ao cap) := lh hS
 have H1 := lh h1
 have H2 := lh h2
 have c := HF.out _ _ G.out.g
 clear h hS h1 h2
 show Calls Tryz.prog 84 #[pp pb, .agg #[.int .i64 18, .int .i64 a, .string s, .int .i64 0, .slice ao 2 cap], (.int .i64 6)] W _
 go_enter Tryz.func84, Tryz.ntmps84
 go_upto_region 1 with fail
 rw [← hV]
 clear hV
 obtain ⟨V2, hV2, m0, m1, m2, m3, m4⟩ := mops s V 18 2 rfl
 have c5 := fun (m : Array MapEntry) (n : Nat) => five (blk_alloc G.out.g.hd (.map m n))
 go_upto_region 2 with fail
 replace G := lh (G.out.al hV2)
 rw [← hV2]
 clear hV2 m0 m1 m2 m3 m4 c c5
 have c := HF.out _ _ G.out.g
 have g : V2.cell? ⟨2, 11, none⟩ = some (.int .i64 1) := (G.out.g.gl.lv.1 5 (by omega)).2
 go_upto_region 11 with fail
 obtain ⟨b, p9, ap, cp, HS1, x⟩ := G.out.kid HS.out 0 x rfl 2 rfl 0 rfl
 go_upto_region 12 with (go_at_call 43; refine G.out.call H1.out HS1.out ?_; intro u1 G)
 have c := HF.out _ _ G.out.g
 go_upto_region 13 with (go_at_call 85; refine G.out.put ?_; intro u2 G)
 have c := HF.out _ _ G.out.g
 obtain ⟨b, p9, ap, cp, HS1, x⟩ := G.out.kid HS.out 1 y rfl 2 rfl 1 rfl
 replace G := lh G.out.nil
 go_wp2_with (go_at_call 43; refine G.out.call H2.out HS1.out ?_; intro u3 G)
 have c := HF.out _ _ G.out.g
 go_end0
 exact G.out.end j1 (by simp)
theorem o_op7 {a : Int} {s : ByteArray} {x y : Ty} {xw yw : List ByteArray} (h1 : CF 43 (some (.int .i64 7)) x xw) (h2 : CF 43 (some (.int .i64 8)) y yw) : CF 84 (some (.int .i64 7)) (.mk 18 a s 0 [x, y]) (xw ++ s :: yw) := by
 refine ⟨fun {B pb v0 w0 l W bs ao cap} h hS => ?_⟩
 obtain ⟨V, hV, G, HF⟩ := h.b1 18 a s 0 (.slice ao 2 cap)
 have HS : Hid (SlD w0 (fun b => b < B) [x, y] ao cap) := lh hS
 have H1 := lh h1
 have H2 := lh h2
 have c := HF.out _ _ G.out.g
 clear h hS h1 h2
 show Calls Tryz.prog 84 #[pp pb, .agg #[.int .i64 18, .int .i64 a, .string s, .int .i64 0, .slice ao 2 cap], (.int .i64 7)] W _
 go_enter Tryz.func84, Tryz.ntmps84
 go_upto_region 1 with fail
 rw [← hV]
 clear hV
 obtain ⟨V2, hV2, m0, m1, m2, m3, m4⟩ := mops s V 18 2 rfl
 have c5 := fun (m : Array MapEntry) (n : Nat) => five (blk_alloc G.out.g.hd (.map m n))
 go_upto_region 2 with fail
 replace G := lh (G.out.al hV2)
 rw [← hV2]
 clear hV2 m0 m1 m2 m3 m4 c c5
 have c := HF.out _ _ G.out.g
 have g : V2.cell? ⟨2, 13, none⟩ = some (.int .i64 1) := (G.out.g.gl.lv.1 6 (by omega)).2
 go_upto_region 11 with fail
 obtain ⟨b, p9, ap, cp, HS1, x⟩ := G.out.kid HS.out 0 x rfl 2 rfl 0 rfl
 go_upto_region 12 with (go_at_call 43; refine G.out.call H1.out HS1.out ?_; intro u1 G)
 have c := HF.out _ _ G.out.g
 go_upto_region 13 with (go_at_call 85; refine G.out.put ?_; intro u2 G)
 have c := HF.out _ _ G.out.g
 obtain ⟨b, p9, ap, cp, HS1, x⟩ := G.out.kid HS.out 1 y rfl 2 rfl 1 rfl
 replace G := lh G.out.nil
 go_wp2_with (go_at_call 43; refine G.out.call H2.out HS1.out ?_; intro u3 G)
 have c := HF.out _ _ G.out.g
 go_end0
 exact G.out.end j1 (by simp)
theorem one131 {B pb xb : Nat} {v0 : Value} {w0 : World} {bs : List Bx} (m : (xb, #[pp pb], 43) ∈ bs) : OneC 131 #[] #[.pointer (some ⟨xb, 0, none⟩)] (CF 43 (some (.int .i64 0))) B pb v0 w0 bs := by
 refine ⟨fun _ _ => rfl, fun {x ws} hp {l W ao cap} h hS => ?_⟩
 rw [show (#[] ++ #[Value.agg (rowOf x ao cap)] ++ #[.pointer (some ⟨xb, 0, none⟩)] : Array Value) = #[.agg (rowOf x ao cap), .pointer (some ⟨xb, 0, none⟩)] by simp]
 obtain ⟨V, hV⟩ : ∃ V, V = W.alloc (.cells #[.int .i64 x.k, .int .i64 x.n, .string x.s, .int .i64 x.q, .slice ao x.args.length cap] 26) := ⟨_, rfl⟩
 have G := lh (h.box hV).nil
 have c := five G.out.g.hd
 have d := one1 (G.out.g.at (List.mem_cons_of_mem _ m))
 have HP := lh hp
 have HS := lh hS
 clear h hp hS m
 show Calls Tryz.prog 131 #[.agg #[.int .i64 x.k, .int .i64 x.n, .string x.s, .int .i64 x.q, .slice ao x.args.length cap], .pointer (some ⟨xb, 0, none⟩)] W _
 go_enter Tryz.func131, Tryz.ntmps131
 go_upto_region 1 with fail
 rw [← hV]
 clear hV
 go_wp2_with (go_at_call 43; refine G.out.call HP.out HS.out ?_; intro u1 G)
 go_end0
 exact G.out.end j1 rfl
theorem one87 {B pb xb : Nat} {v0 : Value} {w0 : World} {bs : List Bx} (m : (xb, #[pp pb], 43) ∈ bs) : OneC 87 #[] #[.pointer (some ⟨xb, 0, none⟩)] (CF 44 (some (.int .i64 0))) B pb v0 w0 bs := by
 refine ⟨fun _ _ => rfl, fun {x ws} hp {l W ao cap} h hS => ?_⟩
 rw [show (#[] ++ #[Value.agg (rowOf x ao cap)] ++ #[.pointer (some ⟨xb, 0, none⟩)] : Array Value) = #[.agg (rowOf x ao cap), .pointer (some ⟨xb, 0, none⟩)] by simp]
 obtain ⟨V, hV⟩ : ∃ V, V = W.alloc (.cells #[.int .i64 x.k, .int .i64 x.n, .string x.s, .int .i64 x.q, .slice ao x.args.length cap] 26) := ⟨_, rfl⟩
 have G := lh (h.box hV).nil
 have c := five G.out.g.hd
 have d := one1 (G.out.g.at (List.mem_cons_of_mem _ m))
 have HP := lh hp
 have HS := lh hS
 clear h hp hS m
 show Calls Tryz.prog 87 #[.agg #[.int .i64 x.k, .int .i64 x.n, .string x.s, .int .i64 x.q, .slice ao x.args.length cap], .pointer (some ⟨xb, 0, none⟩)] W _
 go_enter Tryz.func87, Tryz.ntmps87
 go_upto_region 1 with fail
 rw [← hV]
 clear hV
 go_wp2_with (go_at_call 44; refine G.out.call HP.out HS.out ?_; intro u1 G)
 go_end0
 exact G.out.end j1 rfl
theorem one95 {B pb xb : Nat} {v0 : Value} {w0 : World} {bs : List Bx} (m : (xb, #[pp pb], 43) ∈ bs) : OneC 95 #[] #[.pointer (some ⟨xb, 0, none⟩)] (CF 45 (some (.int .i64 2))) B pb v0 w0 bs := by
 refine ⟨fun _ _ => rfl, fun {x ws} hp {l W ao cap} h hS => ?_⟩
 rw [show (#[] ++ #[Value.agg (rowOf x ao cap)] ++ #[.pointer (some ⟨xb, 0, none⟩)] : Array Value) = #[.agg (rowOf x ao cap), .pointer (some ⟨xb, 0, none⟩)] by simp]
 obtain ⟨V, hV⟩ : ∃ V, V = W.alloc (.cells #[.int .i64 x.k, .int .i64 x.n, .string x.s, .int .i64 x.q, .slice ao x.args.length cap] 26) := ⟨_, rfl⟩
 have G := lh (h.box hV).nil
 have c := five G.out.g.hd
 have d := one1 (G.out.g.at (List.mem_cons_of_mem _ m))
 have HP := lh hp
 have HS := lh hS
 clear h hp hS m
 show Calls Tryz.prog 95 #[.agg #[.int .i64 x.k, .int .i64 x.n, .string x.s, .int .i64 x.q, .slice ao x.args.length cap], .pointer (some ⟨xb, 0, none⟩)] W _
 go_enter Tryz.func95, Tryz.ntmps95
 go_upto_region 1 with fail
 rw [← hV]
 clear hV
 go_wp2_with (go_at_call 45; refine G.out.call HP.out HS.out ?_; intro u1 G)
 go_end0
 exact G.out.end j1 rfl
theorem one97 {B pb xb : Nat} {v0 : Value} {w0 : World} {bs : List Bx} (m : (xb, #[pp pb], 43) ∈ bs) : OneC 97 #[] #[.pointer (some ⟨xb, 0, none⟩)] (CF 45 (some (.int .i64 0))) B pb v0 w0 bs := by
 refine ⟨fun _ _ => rfl, fun {x ws} hp {l W ao cap} h hS => ?_⟩
 rw [show (#[] ++ #[Value.agg (rowOf x ao cap)] ++ #[.pointer (some ⟨xb, 0, none⟩)] : Array Value) = #[.agg (rowOf x ao cap), .pointer (some ⟨xb, 0, none⟩)] by simp]
 obtain ⟨V, hV⟩ : ∃ V, V = W.alloc (.cells #[.int .i64 x.k, .int .i64 x.n, .string x.s, .int .i64 x.q, .slice ao x.args.length cap] 26) := ⟨_, rfl⟩
 have G := lh (h.box hV).nil
 have c := five G.out.g.hd
 have d := one1 (G.out.g.at (List.mem_cons_of_mem _ m))
 have HP := lh hp
 have HS := lh hS
 clear h hp hS m
 show Calls Tryz.prog 97 #[.agg #[.int .i64 x.k, .int .i64 x.n, .string x.s, .int .i64 x.q, .slice ao x.args.length cap], .pointer (some ⟨xb, 0, none⟩)] W _
 go_enter Tryz.func97, Tryz.ntmps97
 go_upto_region 1 with fail
 rw [← hV]
 clear hV
 go_wp2_with (go_at_call 45; refine G.out.call HP.out HS.out ?_; intro u1 G)
 go_end0
 exact G.out.end j1 rfl
theorem c132 {k a q : Int} {sn s : ByteArray} {K : List Ty} {ws : List ByteArray} (h1 : RowC (CF 43 (some (.int .i64 0))) s K ws) {B pb : Nat} {v0 : Value} {w0 : World} {bs : List Bx} {ao : Option Addr} {cap c9 xb nb wb ab : Nat} (hc : c9 = K.length) (m0 : (xb, #[pp pb], 43) ∈ bs) (m1 : (nb, #[.int .i64 k, .int .i64 a, .string sn, .int .i64 q, .slice ao c9 cap], 26) ∈ bs) (m2 : (wb, #[.string s], 9) ∈ bs) (m3 : (ab, #[.func (.func 131) #[] #[.pointer (some ⟨xb, 0, none⟩)]], 47) ∈ bs) (hS : SlD w0 (fun b => b < B) K ao cap) : CV 132 #[.pointer (some ⟨xb, 0, none⟩), .pointer (some ⟨nb, 0, none⟩), .pointer (some ⟨wb, 0, none⟩), .pointer (some ⟨ab, 0, none⟩)] ws B pb v0 w0 bs := by
 refine ⟨fun {l W} h => ?_⟩
 have G := lh h.nil
 have f0 := one1 (h.g.at m0)
 have f1 := five (h.g.at m1)
 have f2 := one1 (h.g.at m2)
 have f3 := one1 (h.g.at m3)
 have HS := lh hS
 have H1 := lh h1
 have HC := lh hc
 have HO := lh (one131 (B := B) (v0 := v0) (w0 := w0) m0)
 clear h hS h1 hc m0 m1 m2 m3
 go_enter Tryz.func132, Tryz.ntmps132
 go_wp2_with (go_at_call 93; refine G.out.list HO.out H1.out HC.out HS.out ?_; intro u1 G)
 go_end0
 exact G.out.end (fun _ h => h) rfl
theorem c92 {k a q : Int} {sn s : ByteArray} {K : List Ty} {ws : List ByteArray} (h1 : RowC (CF 44 (some (.int .i64 0))) s_com K ws) {B pb : Nat} {v0 : Value} {w0 : World} {bs : List Bx} {ao : Option Addr} {cap c9 xb nb ab : Nat} (hc : c9 = K.length) (m0 : (xb, #[pp pb], 43) ∈ bs) (m1 : (nb, #[.int .i64 k, .int .i64 a, .string sn, .int .i64 q, .slice ao c9 cap], 26) ∈ bs) (m2 : (ab, #[.func (.func 87) #[] #[.pointer (some ⟨xb, 0, none⟩)]], 47) ∈ bs) (hS : SlD w0 (fun b => b < B) K ao cap) : CV 92 #[.pointer (some ⟨xb, 0, none⟩), .pointer (some ⟨nb, 0, none⟩), .pointer (some ⟨ab, 0, none⟩)] ws B pb v0 w0 bs := by
 refine ⟨fun {l W} h => ?_⟩
 have G := lh h.nil
 have f0 := one1 (h.g.at m0)
 have f1 := five (h.g.at m1)
 have f2 := one1 (h.g.at m2)
 have HS := lh hS
 have H1 := lh h1
 have HC := lh hc
 have HO := lh (one87 (B := B) (v0 := v0) (w0 := w0) m0)
 clear h hS h1 hc m0 m1 m2
 go_enter Tryz.func92, Tryz.ntmps92
 go_wp2_with (go_at_call 93; refine G.out.list HO.out H1.out HC.out HS.out ?_; intro u1 G)
 go_end0
 exact G.out.end (fun _ h => h) rfl
theorem c96 {k a q : Int} {sn s : ByteArray} {K : List Ty} {ws : List ByteArray} (h1 : RowC (CF 45 (some (.int .i64 0))) s_com K ws) {B pb : Nat} {v0 : Value} {w0 : World} {bs : List Bx} {ao : Option Addr} {cap c9 xb nb : Nat} (hc : c9 = K.length) (m0 : (xb, #[pp pb], 43) ∈ bs) (m1 : (nb, #[.int .i64 k, .int .i64 a, .string sn, .int .i64 q, .slice ao c9 cap], 26) ∈ bs) (hS : SlD w0 (fun b => b < B) K ao cap) : CV 96 #[.pointer (some ⟨xb, 0, none⟩), .pointer (some ⟨nb, 0, none⟩)] ws B pb v0 w0 bs := by
 refine ⟨fun {l W} h => ?_⟩
 have G := lh h.nil
 have f0 := one1 (h.g.at m0)
 have f1 := five (h.g.at m1)
 have HS := lh hS
 have H1 := lh h1
 have HC := lh hc
 have HO := lh (one97 (B := B) (v0 := v0) (w0 := w0) m0)
 clear h hS h1 hc m0 m1
 go_enter Tryz.func96, Tryz.ntmps96
 go_wp2_with (go_at_call 93; refine G.out.list HO.out H1.out HC.out HS.out ?_; intro u1 G)
 go_end0
 exact G.out.end (fun _ h => h) rfl
theorem c133 {a q : Int} {sn : ByteArray} {k : Int} {e t : Ty} {ew tw : List ByteArray} (h1 : CF 43 (some (.int .i64 0)) e ew) (h2 : CF 45 (some (.int .i64 0)) t tw) {B pb : Nat} {v0 : Value} {w0 : World} {bs : List Bx} {ao : Option Addr} {cap xb nb : Nat} (m0 : (nb, #[.int .i64 k, .int .i64 a, .string sn, .int .i64 q, .slice ao 2 cap], 26) ∈ bs) (m1 : (xb, #[pp pb], 43) ∈ bs) (hS : SlD w0 (fun b => b < B) [e, t] ao cap) : CV 133 #[.pointer (some ⟨xb, 0, none⟩), .pointer (some ⟨nb, 0, none⟩)] (ew ++ s_col :: tw) B pb v0 w0 bs := by
 refine ⟨fun {l W} h => ?_⟩
 have G := lh h
 have HF := lh (fun (l : List ByteArray) (W : World) (g : Gp B pb v0 w0 l W bs) => And.intro (five (g.at m0)) (one1 (g.at m1)))
 have HS : Hid (SlD w0 (fun b => b < B) [e, t] ao cap) := lh hS
 have H1 := lh h1
 have H2 := lh h2
 have c := HF.out _ _ G.out.g
 clear h hS h1 h2 m0 m1
 go_enter Tryz.func133, Tryz.ntmps133
 go_upto_region 0 with fail
 obtain ⟨b, p9, ap, cp, HS1, x⟩ := G.out.kid HS.out 0 e rfl 2 rfl 0 rfl
 go_still_tail 5, (by kernel_rfl)
 change wpList _ _ _ _ _ W.drew
 replace G := lh G.out.drew
 clear c x
 go_upto_region 1 with (go_at_call 43; refine G.out.call H1.out HS1.out ?_; intro u1 G)
 have c := HF.out _ _ G.out.g
 go_upto_region 2 with (go_at_call 85; refine G.out.put ?_; intro u2 G)
 have c := HF.out _ _ G.out.g
 obtain ⟨b, p9, ap, cp, HS1, x⟩ := G.out.kid HS.out 1 t rfl 2 rfl 1 rfl
 go_still_tail 5, (by kernel_rfl)
 change wpList _ _ _ _ _ u2.drew
 replace G := lh G.out.drew.nil
 clear c x
 go_wp2_with (go_at_call 45; refine G.out.call H2.out HS1.out ?_; intro u3 G)
 have c := HF.out _ _ G.out.g
 go_end0
 exact G.out.end (fun _ h => h) (by simp)
def tailT (ao : Option Addr) (cap k : Nat) : Option Addr := if cap = k then ao else ao.map (·.add (k * 5))
theorem slice_head24 (ao : Option Addr) (n cap k : Nat) (hk : k ≤ cap) (i : Int) (hi : i = (k : Int)) (w : World) : (Instr.slice 24 (.slice ao n cap) none (some (.int .i64 i)) none).run Tryz.prog w = .ok (.slice ao k cap) w := by
 subst hi
 rw [run_slice_h w 24 ao n cap Tryz.underlying24 .i64 (k : Int) (by omega) (by omega)]
 have he : (sizeOf (Tryz.prog.elem 24)).run Tryz.prog w = .ok 5 w := size26 w
 rw [he]
 cases ao <;> simp [sliced, Result.andThen, Addr.add]
theorem slice_tail24 (ao : Option Addr) (n cap k : Nat) (hk : k ≤ n) (i : Int) (hi : i = (k : Int)) (w : World) : (Instr.slice 24 (.slice ao n cap) (some (.int .i64 i)) none none).run Tryz.prog w = .ok (.slice (tailT ao cap k) (n - k) (cap - k)) w := by
 subst hi
 rw [run_slice_l w 24 ao n cap Tryz.underlying24 .i64 (k : Int) (by omega) (by omega)]
 have he : (sizeOf (Tryz.prog.elem 24)).run Tryz.prog w = .ok 5 w := size26 w
 rw [he]
 simp [sliced, Result.andThen, tailT]
theorem SlD.take {w : World} {D : Nat → Prop} {K : List Ty} {ao : Option Addr} {cap : Nat} (h : SlD w D K ao cap) (k : Nat) : SlD w D (K.take k) ao cap := by
 refine ⟨by rw [List.length_take]; exact Nat.le_trans (Nat.min_le_right _ _) h.1, ArgsV.of fun j hj => ?_⟩
 rw [List.length_take] at hj
 have h2 := h.2.get (k := j) (by omega)
 rw [List.getElem_take]
 exact h2
theorem SlD.drop {w : World} {D : Nat → Prop} {K : List Ty} {ao : Option Addr} {cap : Nat} (h : SlD w D K ao cap) (k : Nat) : SlD w D (K.drop k) (tailT ao cap k) (cap - k) := by
 refine ⟨by rw [List.length_drop]; have := h.1; omega, ArgsV.of fun j hj => ?_⟩
 rw [List.length_drop] at hj
 obtain ⟨b, off, row, ha, hb, hc, hp⟩ := h.2.get (k := k + j) (by omega)
 have h1 := h.1
 rw [List.getElem_drop]
 refine ⟨b, off + k * 5, row, ?_, hb, fun i hi => ?_, hp⟩
 · unfold tailT
   rw [if_neg (by omega), ha]
   simp only [Option.map_some]
   congr 1
   unfold Addr.add
   split <;> simp_all
 · rw [← hc i hi, show off + k * 5 + (0 + j) * 5 + i = off + (0 + (k + j)) * 5 + i by omega]
theorem flat_len : ∀ (r : List (List ByteArray)), (∀ x ∈ r, x ≠ []) → r.length ≤ jl r.flatten
 | [], _ => by simp
 | x :: r, h => by
  have h1 := flat_len r fun y hy => h y (List.mem_cons_of_mem _ hy)
  have h2 : 1 ≤ jl x := by
   cases x with
   | nil => exact absurd rfl (h [] (by simp))
   | cons w x => simp only [jl]; omega
  simp only [List.flatten_cons, jl_app, List.length_cons]; omega
theorem flat_drop {r : List (List ByteArray)} {k : Nat} (h : k < r.length) (s : List ByteArray) : (r.drop k).flatten ++ s = r[k] ++ ((r.drop (k + 1)).flatten ++ s) := by rw [List.drop_eq_getElem_cons h, List.flatten_cons, List.append_assoc]
theorem flat_take {r : List (List ByteArray)} {k : Nat} (h : k < r.length) : (r.take (k + 1)).flatten = (r.take k).flatten ++ r[k] := by rw [List.take_succ_eq_append_getElem h, List.flatten_append, List.flatten_cons, List.flatten_nil, List.append_nil]
theorem decs_c {B pb : Nat} {v0 : Value} {w0 W : World} {l ws : List ByteArray} {bs : List Bx} {K : List Ty} {ao : Option Addr} {cap : Nat} (h : Gt B pb v0 w0 l ws W bs) (hm : ManyC (CF 48 none) K ws) (hS : SlD w0 (fun b => b < B) K ao cap) : Calls Tryz.prog 42 #[pp pb, .slice ao K.length cap] W (Wr B pb v0 w0 bs l ws) := by
 obtain ⟨G, HM, HS2⟩ := (⟨lh h.nil, lh hm, lh hS⟩ : Hid (Gt B pb v0 w0 l (ws ++ []) W bs) ∧ Hid (ManyC (CF 48 none) K ws) ∧ Hid (SlD w0 (fun b => b < B) K ao cap))
 obtain ⟨c, hc⟩ : ∃ c, c = K.length := ⟨_, rfl⟩
 have HC := lh hc
 rw [← hc]
 clear h hm hS hc
 go_enter Tryz.func42, Tryz.ntmps42
 have c9 : True := trivial
 obtain ⟨wss, hwl, hwe, hwp⟩ := HM.out.ex
 have HWL := lh hwl
 have HWP := lh hwp
 have HWE := lh hwe
 rw [hwe] at G ⊢
 have HLB : Hid (c ≤ 5000000000) := lh (by have h1 := G.out.hl; have h2 := flat_len wss (fun x hx => by obtain ⟨i, hi, rfl⟩ := List.mem_iff_getElem.1 hx; exact (hwp i (by omega) hi).2); simp only [jl_app] at h1; have h3 : c = (K).length := HC.out; omega)
 have hlb := HLB.out
 clear hwl hwe hwp HM c9
 go_wp2_with fail
 go_loopw [5, 8] (fun _ i wr => ∃ k : Nat, i = .int .i64 k ∧ k ≤ c ∧ Gt B pb v0 w0 (l ++ (wss.take k).flatten) ((wss.drop k).flatten ++ []) wr bs) (fun _ i _ => c - (Lib.intOf i).toNat)
 case atStart => exact ⟨0, rfl, by omega, by simpa using G.out⟩
 case round =>
  obtain ⟨k, rfl, hk, hg⟩ := hrel
  have G := lh hg
  clear hg
  by_cases hkc : k < c
  · have hk9 : k < (K).length := by have h3 : c = (K).length := HC.out; omega
    have hk8 : k < wss.length := by rw [HWL.out]; exact hk9
    obtain ⟨b, p9, ap, cp, HS1, hb9, hix, x⟩ := G.out.kid HS2.out k _ (List.getElem?_eq_getElem hk9) c HC.out k rfl
    obtain ⟨u, hu⟩ : ∃ u, u = (K)[k] := ⟨_, rfl⟩
    rw [← hu] at x HS1
    obtain ⟨V, hV⟩ : ∃ V, V = wr.alloc (.cells (rowOf u ap cp) 26) := ⟨_, rfl⟩
    have HP : Hid (CF 48 none u wss[k]) := lh (by rw [hu]; exact (HWP.out k hk9 hk8).1)
    rw [flat_drop hk8] at G
    have G := lh (G.out.box hV)
    unfold rowOf at hV G
    clear hu
    have hkc2 : (k : Int) < ((c : Nat) : Int) := by omega
    go_upto_region 3 with fail
    rw [← hV]
    have y := five G.out.g.hd
    clear hV x hix
    go_wp2_with (go_at_call 48; refine G.out.call HP.out HS1.out ?_; intro u1 G)
    go_roundw
    case rel =>
     refine ⟨k + 1, by go_num, hkc, ?_⟩
     rw [flat_take hk8, ← List.append_assoc]
     exact ⟨G.out.g.mono j1, G.out.hl⟩
    case measure => simp only [Lib.intOf]; omega
  · obtain rfl : k = c := by omega
    have hd : decide ((k : Int) < (k : Int)) = false := by simp
    replace G : Hid (Gt B pb v0 w0 (l ++ wss.flatten) ([]) wr bs) := lh (by have h := G.out; have h3 : k = (K).length := HC.out; rw [List.take_of_length_le (by rw [HWL.out]; omega), List.drop_of_length_le (by rw [HWL.out]; omega)] at h; exact h)
    skip
    go_wp2_with fail
    go_end0
    exact G.out.end (fun _ h => h) rfl
theorem Gt.decs {B pb : Nat} {v0 : Value} {w0 W : World} {l ws r : List ByteArray} {bs : List Bx} {K : List Ty} {ao : Option Addr} {cap c : Nat} (h : Gt B pb v0 w0 l (ws ++ r) W bs) (hm : ManyC (CF 48 none) K ws) (hc : c = K.length) (hS : SlD w0 (fun b => b < B) K ao cap) {R : Ending → World → Prop} (k : ∀ u, Hid (Gt B pb v0 w0 (l ++ ws) r u bs) → R (.returned (.tuple #[])) u) : Calls Tryz.prog 42 #[pp pb, .slice ao c cap] W R := by
 subst hc
 exact (decs_c h.hd hm hS).mono (by intro e w' hw; obtain ⟨rfl, h2⟩ := h.wr hw; exact k _ (lh h2))
end Go.Proofs.YthehjeeiodbkjaaGreatDoor
