/-
  Proved: the contracts of the printer's module and any, by kinds; the closure of the printer's pat at numbers; what follows the grammar is printed as its words; the contract of the program's Print at whatever one of the four readers reads. Conditions: the printer as it stands in memory; the contracts of what they call; the printer as it stands in memory; the tree in memory; its words' bytes.
-/
import Derived.Test.YthehjeeiodbkjaaGreatDoorA01
import Derived.Test.YthehjeeiodbkjaaGreatDoorA37
import Derived.Test.YthehjeeiodbkjaaGreatDoorA36
import Derived.Test.YthehjeeiodbkjaaGreatDoorA38
import Derived.Test.YthehjeeiodbkjaaGreatDoorA39
import Derived.Test.YthehjeeiodbkjaaGreatDoorA40
import Derived.Test.YthehjeeiodbkjaaGreatDoorA41
import Derived.Test.YthehjeeiodbkjaaGreatDoorA25
set_option linter.unusedSimpArgs false
set_option linter.unusedVariables false
set_option maxRecDepth 100000
set_option maxHeartbeats 16000000
namespace Go.Proofs.YthehjeeiodbkjaaGreatDoor
open Go.RowKit
theorem m_body {a q : Int} {s : ByteArray} {K : List Ty} {ws : List ByteArray} (h1 : ManyC (CF 48 none) K ws) : CF 47 none (.mk 45 a s q K) (w_struct :: (ws ++ [w_end])) := by
 refine ⟨fun {B pb v0 w0 l W bs ao cap} h hS => ?_⟩
 obtain ⟨V, hV, G, HF⟩ := h.b1 45 a s q (.slice ao K.length cap)
 have HS : Hid (SlD w0 (fun b => b < B) K ao cap) := lh hS
 have H1 := lh h1
 have c := HF.out _ _ G.out.g
 clear h hS h1
 show Calls Tryz.prog 47 #[pp pb, .agg #[.int .i64 45, .int .i64 a, .string s, .int .i64 q, .slice ao K.length cap]] W _
 go_enter Tryz.func47, Tryz.ntmps47
 go_upto_region 1 with fail
 rw [← hV]
 clear hV
 have c := HF.out _ _ G.out.g
 go_upto_region 5 with (go_at_call 85; refine G.out.put ?_; intro u1 G)
 have c := HF.out _ _ G.out.g
 go_upto_region 6 with (go_at_call 42; refine G.out.decs H1.out rfl HS.out ?_; intro u7 G)
 have c := HF.out _ _ G.out.g
 go_wp2_with (go_at_call 85; refine G.out.put ?_; intro u8 G)
 have c := HF.out _ _ G.out.g
 go_end0
 exact G.out.end j1 (by simp)
theorem m_path {a q : Int} {s : ByteArray} {K : List Ty} {ws : List ByteArray} (h1 : PathT s ws) : CF 47 none (.mk 46 a s q K) (ws) := by
 refine ⟨fun {B pb v0 w0 l W bs ao cap} h hS => ?_⟩
 obtain ⟨V, hV, G, HF⟩ := h.b1 46 a s q (.slice ao K.length cap)
 have HS : Hid (SlD w0 (fun b => b < B) K ao cap) := lh hS
 have H1 := lh h1
 have c := HF.out _ _ G.out.g
 clear h hS h1
 show Calls Tryz.prog 47 #[pp pb, .agg #[.int .i64 46, .int .i64 a, .string s, .int .i64 q, .slice ao K.length cap]] W _
 go_enter Tryz.func47, Tryz.ntmps47
 go_upto_region 1 with fail
 rw [← hV]
 clear hV
 have c := HF.out _ _ G.out.g
 replace G := lh G.out.nil
 go_wp2_with (go_at_call 91; refine G.out.path H1.out ?_; intro u1 G)
 have c := HF.out _ _ G.out.g
 go_end0
 exact G.out.end j1 (by simp)
theorem m_name {a q : Int} {s : ByteArray} {K : List Ty} {ws : List ByteArray} (h1 : PathT s ws) : CF 47 none (.mk 48 a s q K) (ws) := by
 refine ⟨fun {B pb v0 w0 l W bs ao cap} h hS => ?_⟩
 obtain ⟨V, hV, G, HF⟩ := h.b1 48 a s q (.slice ao K.length cap)
 have HS : Hid (SlD w0 (fun b => b < B) K ao cap) := lh hS
 have H1 := lh h1
 have c := HF.out _ _ G.out.g
 clear h hS h1
 show Calls Tryz.prog 47 #[pp pb, .agg #[.int .i64 48, .int .i64 a, .string s, .int .i64 q, .slice ao K.length cap]] W _
 go_enter Tryz.func47, Tryz.ntmps47
 go_upto_region 1 with fail
 rw [← hV]
 clear hV
 have c := HF.out _ _ G.out.g
 replace G := lh G.out.nil
 go_wp2_with (go_at_call 91; refine G.out.path H1.out ?_; intro u1 G)
 have c := HF.out _ _ G.out.g
 go_end0
 exact G.out.end j1 (by simp)
theorem m_sig {a q : Int} {s : ByteArray} {K : List Ty} {kw : List ByteArray} (h1 : ManyC (CF 47 none) K kw) : CF 47 none (.mk 47 a s q K) (w_sig :: (kw ++ [w_end])) := by
 refine ⟨fun {B pb v0 w0 l W bs ao cap} h hS => ?_⟩
 obtain ⟨V, hV, G, HF⟩ := h.b1 47 a s q (.slice ao K.length cap)
 have HS : Hid (SlD w0 (fun b => b < B) K ao cap) := lh hS
 have H1 := lh h1
 have c := HF.out _ _ G.out.g
 clear h hS h1
 show Calls Tryz.prog 47 #[pp pb, .agg #[.int .i64 47, .int .i64 a, .string s, .int .i64 q, .slice ao K.length cap]] W _
 go_enter Tryz.func47, Tryz.ntmps47
 go_upto_region 1 with fail
 rw [← hV]
 clear hV
 have c := HF.out _ _ G.out.g
 obtain ⟨c9, hc9⟩ : ∃ c9, c9 = K.length := ⟨_, rfl⟩
 have HC := lh hc9
 go_upto_region 12 with (go_at_call 85; refine G.out.put ?_; intro u1 G)
 have c := HF.out _ _ G.out.g
 have HS2 := HS
 rw [← hc9] at c
 clear hc9
 go_upto_region 13 with fail
 obtain ⟨wss, hwl, hwe, hwp⟩ := H1.out.ex
 have HWL := lh hwl
 have HWP := lh hwp
 have HWE := lh hwe
 rw [hwe] at G ⊢
 have HLB : Hid (c9 ≤ 5000000000) := lh (by have h1 := G.out.hl; have h2 := flat_len wss (fun x hx => by obtain ⟨i, hi, rfl⟩ := List.mem_iff_getElem.1 hx; exact (hwp i (by omega) hi).2); simp only [jl_app] at h1; have h3 : c9 = (K).length := HC.out; omega)
 have hlb := HLB.out
 clear hwl hwe hwp H1 c
 go_wp2_with fail
 go_loopw [5, 40] (fun _ i wr => ∃ k : Nat, i = .int .i64 k ∧ k ≤ c9 ∧ Gt B pb v0 w0 (l ++ [w_sig] ++ (wss.take k).flatten) ((wss.drop k).flatten ++ [w_end]) wr ((W.heap.size, #[.int .i64 47, .int .i64 a, .string s, .int .i64 q, .slice ao K.length cap], 26) :: bs)) (fun _ i _ => c9 - (Lib.intOf i).toNat)
 case atStart => exact ⟨0, rfl, by omega, by simpa using G.out⟩
 case round =>
  obtain ⟨k, rfl, hk, hg⟩ := hrel
  have G := lh hg
  clear hg
  by_cases hkc : k < c9
  · have hk9 : k < (K).length := by have h3 : c9 = (K).length := HC.out; omega
    have hk8 : k < wss.length := by rw [HWL.out]; exact hk9
    obtain ⟨b, p9, ap, cp, HS1, hb9, hix, x⟩ := G.out.kid HS2.out k _ (List.getElem?_eq_getElem hk9) c9 HC.out k rfl
    obtain ⟨u, hu⟩ : ∃ u, u = (K)[k] := ⟨_, rfl⟩
    rw [← hu] at x HS1
    obtain ⟨V, hV⟩ : ∃ V, V = wr.alloc (.cells (rowOf u ap cp) 26) := ⟨_, rfl⟩
    have HP : Hid (CF 47 none u wss[k]) := lh (by rw [hu]; exact (HWP.out k hk9 hk8).1)
    rw [flat_drop hk8] at G
    have G := lh (G.out.box hV)
    unfold rowOf at hV G
    clear hu
    have hkc2 : (k : Int) < ((c9 : Nat) : Int) := by omega
    go_upto_region 15 with fail
    rw [← hV]
    have y := five G.out.g.hd
    clear hV x hix
    go_wp2_with (go_at_call 47; refine G.out.call HP.out HS1.out ?_; intro u1 G)
    go_roundw
    case rel =>
     refine ⟨k + 1, by go_num, hkc, ?_⟩
     rw [flat_take hk8, ← List.append_assoc]
     exact ⟨G.out.g.mono j1, G.out.hl⟩
    case measure => simp only [Lib.intOf]; omega
  · obtain rfl : k = c9 := by omega
    have hd : decide ((k : Int) < (k : Int)) = false := by simp
    replace G : Hid (Gt B pb v0 w0 (l ++ [w_sig] ++ wss.flatten) ([w_end]) wr ((W.heap.size, #[.int .i64 47, .int .i64 a, .string s, .int .i64 q, .slice ao K.length cap], 26) :: bs)) := lh (by have h := G.out; have h3 : k = (K).length := HC.out; rw [List.take_of_length_le (by rw [HWL.out]; omega), List.drop_of_length_le (by rw [HWL.out]; omega)] at h; exact h)
    skip
    go_wp2_with (go_at_call 85; refine G.out.put ?_; intro u7 G)
    go_end0
    exact G.out.end j1 (by simp [HWE.out])
theorem m_val {a q : Int} {s : ByteArray} {t : Ty} {tw : List ByteArray} (h1 : CF 45 (some (.int .i64 0)) t tw) : CF 47 none (.mk 49 a s q [t]) (w_val :: s :: s_col :: tw) := by
 refine ⟨fun {B pb v0 w0 l W bs ao cap} h hS => ?_⟩
 obtain ⟨V, hV, G, HF⟩ := h.b1 49 a s q (.slice ao 1 cap)
 have HS : Hid (SlD w0 (fun b => b < B) [t] ao cap) := lh hS
 have H1 := lh h1
 have c := HF.out _ _ G.out.g
 clear h hS h1
 show Calls Tryz.prog 47 #[pp pb, .agg #[.int .i64 49, .int .i64 a, .string s, .int .i64 q, .slice ao 1 cap]] W _
 go_enter Tryz.func47, Tryz.ntmps47
 go_upto_region 1 with fail
 rw [← hV]
 clear hV
 have c := HF.out _ _ G.out.g
 go_upto_region 20 with (go_at_call 85; refine G.out.put3 ?_; intro u1 G)
 have c := HF.out _ _ G.out.g
 obtain ⟨b, p9, ap, cp, HS1, x⟩ := G.out.kid HS.out 0 t rfl 1 rfl 0 rfl
 replace G := lh G.out.nil
 go_wp2_with (go_at_call 45; refine G.out.call H1.out HS1.out ?_; intro u2 G)
 have c := HF.out _ _ G.out.g
 go_end0
 exact G.out.end j1 (by simp)
theorem m_str {a q : Int} {s : ByteArray} {y : Ty} {yw : List ByteArray} (h1 : CF 47 none y yw) : CF 47 none (.mk 51 a s q [y]) (w_structure :: s :: s_col :: yw) := by
 refine ⟨fun {B pb v0 w0 l W bs ao cap} h hS => ?_⟩
 obtain ⟨V, hV, G, HF⟩ := h.b1 51 a s q (.slice ao 1 cap)
 have HS : Hid (SlD w0 (fun b => b < B) [y] ao cap) := lh hS
 have H1 := lh h1
 have c := HF.out _ _ G.out.g
 clear h hS h1
 show Calls Tryz.prog 47 #[pp pb, .agg #[.int .i64 51, .int .i64 a, .string s, .int .i64 q, .slice ao 1 cap]] W _
 go_enter Tryz.func47, Tryz.ntmps47
 go_upto_region 1 with fail
 rw [← hV]
 clear hV
 have c := HF.out _ _ G.out.g
 go_upto_region 32 with (go_at_call 85; refine G.out.put3 ?_; intro u1 G)
 have c := HF.out _ _ G.out.g
 obtain ⟨b, p9, ap, cp, HS1, x⟩ := G.out.kid HS.out 0 y rfl 1 rfl 0 rfl
 replace G := lh G.out.nil
 go_wp2_with (go_at_call 47; refine G.out.call H1.out HS1.out ?_; intro u2 G)
 have c := HF.out _ _ G.out.g
 go_end0
 exact G.out.end j1 (by simp)
theorem m_type0 {a : Int} {s : ByteArray} {L9 : List Ty} {hw : List ByteArray} (h1 : CF 98 none (.mk 50 a s L9.length L9) hw) : CF 47 none (.mk 50 a s L9.length L9) (w_type :: hw) := by
 refine ⟨fun {B pb v0 w0 l W bs ao cap} h hS => ?_⟩
 obtain ⟨V, hV, G, HF⟩ := h.b1 50 a s L9.length (.slice ao L9.length cap)
 have HS : Hid (SlD w0 (fun b => b < B) L9 ao cap) := lh hS
 have H1 := lh h1
 have c := HF.out _ _ G.out.g
 clear h hS h1
 show Calls Tryz.prog 47 #[pp pb, .agg #[.int .i64 50, .int .i64 a, .string s, .int .i64 L9.length, .slice ao L9.length cap]] W _
 go_enter Tryz.func47, Tryz.ntmps47
 go_upto_region 1 with fail
 rw [← hV]
 clear hV
 have c := HF.out _ _ G.out.g
 replace G := lh (show Gt B pb v0 w0 l (w_type :: (hw ++ [])) V _ by simpa using G.out)
 go_upto_region 23 with (go_at_call 85; refine G.out.put ?_; intro u1 G)
 have c := HF.out _ _ G.out.g
 have HH := lh (hdc (pb := pb) (v0 := v0) H1.out HS.out (by simp : _ = L9.length))
 go_upto_region 24 with (go_at_call 98; refine HH.out _ _ _ _ _ G.out ?_; intro u2 G)
 have c := HF.out _ _ G.out.g
 have s1 : ∀ w' : World, (Instr.slice 24 (.slice ao L9.length cap) (some (.int .i64 (L9.length : Int))) none none).run Tryz.prog w' = .ok (.slice (tailT ao cap L9.length) 0 (cap - L9.length)) w' := fun w' => by rw [slice_tail24 ao L9.length cap L9.length (by omega) _ rfl w', Nat.sub_self]
 go_wp2_with fail
 clear c s1
 go_loopw [7, 78] (fun _ i wr => i = .int .i64 0 ∧ Gt B pb v0 w0 (l ++ [w_type] ++ hw) [] wr ((W.heap.size, #[.int .i64 50, .int .i64 a, .string s, .int .i64 L9.length, .slice ao L9.length cap], 26) :: bs)) (fun _ _ _ => 0)
 case atStart => exact ⟨rfl, G.out⟩
 case round =>
  obtain ⟨rfl, hg⟩ := hrel
  have G := lh hg
  clear hg
  go_wp2_with fail
  go_end0
  exact G.out.end j1 (by simp)
theorem m_type1 {a : Int} {s : ByteArray} {L9 : List Ty} {hw : List ByteArray} {t : Ty} {tw : List ByteArray} (h1 : CF 98 none (.mk 50 a s L9.length (L9 ++ [t])) hw) (h2 : CF 45 (some (.int .i64 0)) t tw) : CF 47 none (.mk 50 a s L9.length (L9 ++ [t])) (w_type :: (hw ++ s_eq :: tw)) := by
 refine ⟨fun {B pb v0 w0 l W bs ao cap} h hS => ?_⟩
 obtain ⟨V, hV, G, HF⟩ := h.b1 50 a s L9.length (.slice ao (L9.length + 1) cap)
 have HS : Hid (SlD w0 (fun b => b < B) (L9 ++ [t]) ao cap) := lh hS
 have H1 := lh h1
 have H2 := lh h2
 have c := HF.out _ _ G.out.g
 clear h hS h1 h2
 show Calls Tryz.prog 47 #[pp pb, .agg #[.int .i64 50, .int .i64 a, .string s, .int .i64 L9.length, .slice ao (L9 ++ [t]).length cap]] W _
 rw [show (L9 ++ [t]).length = (L9.length + 1) from by simp]
 go_enter Tryz.func47, Tryz.ntmps47
 go_upto_region 1 with fail
 rw [← hV]
 clear hV
 have c := HF.out _ _ G.out.g
 go_upto_region 23 with (go_at_call 85; refine G.out.put ?_; intro u1 G)
 have c := HF.out _ _ G.out.g
 have HH := lh (hdc (pb := pb) (v0 := v0) H1.out HS.out (by simp : _ = (L9.length + 1)))
 go_upto_region 24 with (go_at_call 98; refine HH.out _ _ _ _ _ G.out ?_; intro u2 G)
 have c := HF.out _ _ G.out.g
 have s1 : ∀ w' : World, (Instr.slice 24 (.slice ao (L9.length + 1) cap) (some (.int .i64 (L9.length : Int))) none none).run Tryz.prog w' = .ok (.slice (tailT ao cap L9.length) 1 (cap - L9.length)) w' := fun w' => by rw [slice_tail24 ao (L9.length + 1) cap L9.length (by omega) _ rfl w', Nat.add_sub_cancel_left]
 have HT : Hid (SlD w0 (fun b => b < B) [t] (tailT ao cap L9.length) (cap - L9.length)) := lh (by have h9 := HS.out.drop L9.length; rwa [List.drop_left'] at h9; rfl)
 go_wp2_with fail
 clear c s1
 go_loopw [7, 78] (fun _ i wr => (i = .int .i64 0 ∧ Gt B pb v0 w0 (l ++ [w_type] ++ hw) (s_eq :: tw) wr ((W.heap.size, #[.int .i64 50, .int .i64 a, .string s, .int .i64 L9.length, .slice ao (L9.length + 1) cap], 26) :: bs)) ∨ (i = .int .i64 1 ∧ Gt B pb v0 w0 (l ++ [w_type] ++ hw ++ [s_eq] ++ tw) [] wr ((W.heap.size, #[.int .i64 50, .int .i64 a, .string s, .int .i64 L9.length, .slice ao (L9.length + 1) cap], 26) :: bs))) (fun _ i _ => 1 - (Lib.intOf i).toNat)
 case atStart => exact .inl ⟨rfl, G.out⟩
 case round =>
  rcases hrel with ⟨rfl, hg⟩ | ⟨rfl, hg⟩
  · have G := lh hg
    clear hg
    obtain ⟨b, p9, ap, cp, HS1, hb9, hix, x⟩ := G.out.kid HT.out 0 t rfl 1 rfl 0 rfl
    obtain ⟨V9, hV9⟩ : ∃ V, V = wr.alloc (.cells (rowOf t ap cp) 26) := ⟨_, rfl⟩
    have G := lh (G.out.box hV9)
    unfold rowOf at hV9 G
    go_upto_region 27 with fail
    rw [← hV9]
    clear hV9 x hix
    go_upto_region 28 with (go_at_call 85; refine G.out.put ?_; intro u7 G)
    have y := five G.out.g.hd
    replace G := lh G.out.nil
    go_wp2_with (go_at_call 45; refine G.out.call H2.out HS1.out ?_; intro u8 G)
    go_roundw
    case rel => exact .inr ⟨rfl, G.out.g.mono j1, G.out.hl⟩
    case measure => simp [Lib.intOf]
  · have G := lh hg
    clear hg
    go_wp2_with fail
    go_end0
    exact G.out.end j1 (by simp)
theorem m_dec {k a q : Int} {s : ByteArray} {K : List Ty} {ws : List ByteArray} (hk : k = 38 ∨ k = 41) (h1 : CF 48 none (.mk k a s q K) ws) : CF 47 none (.mk k a s q K) (ws) := by
 refine ⟨fun {B pb v0 w0 l W bs ao cap} h hS => ?_⟩
 obtain ⟨V, hV, G, HF⟩ := h.b1 k a s q (.slice ao K.length cap)
 have HS : Hid (SlD w0 (fun b => b < B) K ao cap) := lh hS
 have H1 := lh h1
 have c := HF.out _ _ G.out.g
 have e45 : (k == 45) = false := by simp; omega
 have e46 : (k == 46) = false := by simp; omega
 have e48 : (k == 48) = false := by simp; omega
 have e47 : (k == 47) = false := by simp; omega
 have e49 : (k == 49) = false := by simp; omega
 have e50 : (k == 50) = false := by simp; omega
 have e51 : (k == 51) = false := by simp; omega
 clear hk
 clear h hS h1
 show Calls Tryz.prog 47 #[pp pb, .agg #[.int .i64 k, .int .i64 a, .string s, .int .i64 q, .slice ao K.length cap]] W _
 go_enter Tryz.func47, Tryz.ntmps47
 go_upto_region 1 with fail
 rw [← hV]
 clear hV
 have c := HF.out _ _ G.out.g
 replace G := lh G.out.nil
 go_wp2_with (go_at_call 48; refine G.out.call H1.out (n := .mk k a s q K) HS.out ?_; intro u1 G)
 have c := HF.out _ _ G.out.g
 go_end0
 exact G.out.end j1 (by simp)
theorem any_prog {a q : Int} {s : ByteArray} {K : List Ty} {ws : List ByteArray} (h1 : ManyC (CF 48 none) K ws) : CF 18 none (.mk 0 a s q K) (ws) := by
 refine ⟨fun {B pb v0 w0 l W bs ao cap} h hS => ?_⟩
 obtain ⟨V, hV, G, HF⟩ := h.b1 0 a s q (.slice ao K.length cap)
 have HS : Hid (SlD w0 (fun b => b < B) K ao cap) := lh hS
 have H1 := lh h1
 have c := HF.out _ _ G.out.g
 clear h hS h1
 show Calls Tryz.prog 18 #[pp pb, .agg #[.int .i64 0, .int .i64 a, .string s, .int .i64 q, .slice ao K.length cap]] W _
 go_enter Tryz.func18, Tryz.ntmps18
 go_upto_region 1 with fail
 rw [← hV]
 clear hV
 have c := HF.out _ _ G.out.g
 replace G := lh G.out.nil
 go_wp2_with (go_at_call 42; refine G.out.decs H1.out rfl HS.out ?_; intro u7 G)
 go_end0
 exact G.out.end j1 (by simp)
theorem any_exp {k a q : Int} {s : ByteArray} {K : List Ty} {ws : List ByteArray} (hk : 1 ≤ k ∧ k ≤ 19 ∧ k ≠ 12) (h1 : CF 43 (some (.int .i64 0)) (.mk k a s q K) ws) : CF 18 none (.mk k a s q K) (ws) := by
 refine ⟨fun {B pb v0 w0 l W bs ao cap} h hS => ?_⟩
 obtain ⟨V, hV, G, HF⟩ := h.b1 k a s q (.slice ao K.length cap)
 have HS : Hid (SlD w0 (fun b => b < B) K ao cap) := lh hS
 have H1 := lh h1
 have c := HF.out _ _ G.out.g
 have e0 : (k == 0) = false := by simp; omega
 have e1 : k ≤ 19 := hk.2.1
 have e2 : ¬ k = 12 := hk.2.2
 clear hk
 clear h hS h1
 show Calls Tryz.prog 18 #[pp pb, .agg #[.int .i64 k, .int .i64 a, .string s, .int .i64 q, .slice ao K.length cap]] W _
 go_enter Tryz.func18, Tryz.ntmps18
 go_upto_region 1 with fail
 rw [← hV]
 clear hV
 have c := HF.out _ _ G.out.g
 replace G := lh G.out.nil
 go_wp2_with (go_at_call 43; refine G.out.call H1.out (n := .mk k a s q K) HS.out ?_; intro u1 G)
 have c := HF.out _ _ G.out.g
 go_end0
 exact G.out.end j1 (by simp)
theorem any_pat {k a q : Int} {s : ByteArray} {K : List Ty} {ws : List ByteArray} (hk : 20 ≤ k ∧ k ≤ 29) (h1 : CF 44 (some (.int .i64 0)) (.mk k a s q K) ws) : CF 18 none (.mk k a s q K) (ws) := by
 refine ⟨fun {B pb v0 w0 l W bs ao cap} h hS => ?_⟩
 obtain ⟨V, hV, G, HF⟩ := h.b1 k a s q (.slice ao K.length cap)
 have HS : Hid (SlD w0 (fun b => b < B) K ao cap) := lh hS
 have H1 := lh h1
 have c := HF.out _ _ G.out.g
 have e0 : (k == 0) = false := by simp; omega
 have e1 : decide (k ≤ 19) = false := by simp; omega
 have e2 : k ≥ 20 := hk.1
 have e3 : k ≤ 29 := hk.2
 have e4 : (20 : Int) ≤ k := hk.1
 clear hk
 clear h hS h1
 show Calls Tryz.prog 18 #[pp pb, .agg #[.int .i64 k, .int .i64 a, .string s, .int .i64 q, .slice ao K.length cap]] W _
 go_enter Tryz.func18, Tryz.ntmps18
 go_upto_region 1 with fail
 rw [← hV]
 clear hV
 have c := HF.out _ _ G.out.g
 replace G := lh G.out.nil
 go_wp2_with (go_at_call 44; refine G.out.call H1.out (n := .mk k a s q K) HS.out ?_; intro u1 G)
 have c := HF.out _ _ G.out.g
 go_end0
 exact G.out.end j1 (by simp)
theorem any_typ {k a q : Int} {s : ByteArray} {K : List Ty} {ws : List ByteArray} (hk : 30 ≤ k ∧ k ≤ 33) (h1 : CF 45 (some (.int .i64 0)) (.mk k a s q K) ws) : CF 18 none (.mk k a s q K) (ws) := by
 refine ⟨fun {B pb v0 w0 l W bs ao cap} h hS => ?_⟩
 obtain ⟨V, hV, G, HF⟩ := h.b1 k a s q (.slice ao K.length cap)
 have HS : Hid (SlD w0 (fun b => b < B) K ao cap) := lh hS
 have H1 := lh h1
 have c := HF.out _ _ G.out.g
 have e0 : (k == 0) = false := by simp; omega
 have e1 : decide (k ≤ 19) = false := by simp; omega
 have e3 : decide (k ≤ 29) = false := by simp; omega
 have e2 : (20 : Int) ≤ k := by omega
 have e4 : (30 : Int) ≤ k := hk.1
 have e5 : k ≤ 33 := hk.2
 clear hk
 clear h hS h1
 show Calls Tryz.prog 18 #[pp pb, .agg #[.int .i64 k, .int .i64 a, .string s, .int .i64 q, .slice ao K.length cap]] W _
 go_enter Tryz.func18, Tryz.ntmps18
 go_upto_region 1 with fail
 rw [← hV]
 clear hV
 have c := HF.out _ _ G.out.g
 replace G := lh G.out.nil
 go_wp2_with (go_at_call 45; refine G.out.call H1.out (n := .mk k a s q K) HS.out ?_; intro u1 G)
 have c := HF.out _ _ G.out.g
 go_end0
 exact G.out.end j1 (by simp)
theorem wrap_neg (x : Int) (h0 : -9223372036854775808 ≤ x) (h1 : x ≤ 9223372036854775807) : IntKind.i64.wrap x = x := IntWalk.i64_in _ ⟨h0, h1⟩
theorem max_run (x y : Int) (h : y ≤ x) (w : World) : (Builtin.max_ #[3, 3] 3 #[.int .i64 x, .int .i64 y]).run Tryz.prog w = .ok (.int .i64 x) w := by
 rw [run_max_int2, if_neg (by omega)]
theorem max_run2 (x y : Int) (h : x ≤ y) (w : World) : (Builtin.max_ #[3, 3] 3 #[.int .i64 x, .int .i64 y]).run Tryz.prog w = .ok (.int .i64 y) w := by
 rw [run_max_int2]
 by_cases c : y > x
 · rw [if_pos c]
 · rw [if_neg c, show x = y by omega]
theorem q_int {a : Int} {s : ByteArray} {K : List Ty} {N : Nat} (h1 : N ≤ 1000000000) {B pb : Nat} {v0 : Value} {w0 : World} {bs : List Bx} {ao : Option Addr} {cap nb xb ab : Nat} (m0 : (nb, #[.int .i64 22, .int .i64 a, .string s, .int .i64 N, .slice ao K.length cap], 26) ∈ bs) (m1 : (xb, #[pp pb], 43) ∈ bs) (m2 : (ab, #[.func (.func 87) #[] #[.pointer (some ⟨xb, 0, none⟩)]], 47) ∈ bs) (hS : SlD w0 (fun b => b < B) K ao cap) : CV 88 #[.pointer (some ⟨nb, 0, none⟩), .pointer (some ⟨xb, 0, none⟩), .pointer (some ⟨ab, 0, none⟩)] ([dgW N]) B pb v0 w0 bs := by
 refine ⟨fun {l W} h => ?_⟩
 have G := lh h
 have HF := lh (fun (l : List ByteArray) (W : World) (g : Gp B pb v0 w0 l W bs) => And.intro (five (g.at m0)) (And.intro (one1 (g.at m1)) (one1 (g.at m2))))
 have HS : Hid (SlD w0 (fun b => b < B) K ao cap) := lh hS
 have H1 := lh h1
 have c := HF.out _ _ G.out.g
 have hw : IntKind.i64.wrap (-(N : Int)) = -(N : Int) := wrap_neg _ (by omega) (by omega)
 have hm : ∀ w9 : World, (Builtin.max_ #[3, 3] 3 #[.int .i64 (N : Int), .int .i64 (-(N : Int))]).run Tryz.prog w9 = .ok (.int .i64 (N : Int)) w9 := fun w9 => max_run _ _ (by omega) w9
 have hd : decide ((N : Int) < 0) = false := by simp
 clear h hS h1 m0 m1 m2
 go_enter Tryz.func88, Tryz.ntmps88
 go_upto_region 8 with fail
 have HS9 := lh (fun l W9 g => And.intro (HF.out l W9 g).1.2.2.2.1 (HF.out l W9 g).2.1)
 replace G := lh G.out.drew
 clear c
 go_region_held3 (fun w9 => w9.cell? ⟨nb, 3, none⟩ = some (.int .i64 N) ∧ w9.cell? ⟨xb, 0, none⟩ = some (pp pb)) (first | exact HS9.out _ _ G.out.g | exact HS9.out _ _ (G.out.g.below (balloc (Below.refl _ _) _))) (first | (go_at_call 89; refine G.out.itoa H1.out ?_; intro u1 G) | (go_at_call 85; refine G.out.put ?_; intro u2 G))
 go_end0
 exact G.out.end (fun _ h => h) (by simp)
theorem q_neg {a : Int} {s : ByteArray} {K : List Ty} {N : Nat} (h0 : 0 < N) (h1 : N ≤ 1000000000) {B pb : Nat} {v0 : Value} {w0 : World} {bs : List Bx} {ao : Option Addr} {cap nb xb ab : Nat} (m0 : (nb, #[.int .i64 22, .int .i64 a, .string s, .int .i64 (-(N : Int)), .slice ao K.length cap], 26) ∈ bs) (m1 : (xb, #[pp pb], 43) ∈ bs) (m2 : (ab, #[.func (.func 87) #[] #[.pointer (some ⟨xb, 0, none⟩)]], 47) ∈ bs) (hS : SlD w0 (fun b => b < B) K ao cap) : CV 88 #[.pointer (some ⟨nb, 0, none⟩), .pointer (some ⟨xb, 0, none⟩), .pointer (some ⟨ab, 0, none⟩)] ([s_ti, dgW N]) B pb v0 w0 bs := by
 refine ⟨fun {l W} h => ?_⟩
 have G := lh h
 have HF := lh (fun (l : List ByteArray) (W : World) (g : Gp B pb v0 w0 l W bs) => And.intro (five (g.at m0)) (And.intro (one1 (g.at m1)) (one1 (g.at m2))))
 have HS : Hid (SlD w0 (fun b => b < B) K ao cap) := lh hS
 have H1 := lh h1
 have c := HF.out _ _ G.out.g
 have hw : IntKind.i64.wrap (N : Int) = (N : Int) := wrap_neg _ (by omega) (by omega)
 have hx : max (-(N : Int)) (N : Int) = (N : Int) := by omega
 have hm : ∀ w9 : World, (Builtin.max_ #[3, 3] 3 #[.int .i64 (-(N : Int)), .int .i64 (N : Int)]).run Tryz.prog w9 = .ok (.int .i64 (N : Int)) w9 := fun w9 => max_run2 _ _ (by omega) w9
 have hd : -(N : Int) < 0 := by omega
 have hd2 : -(N : Int) < (N : Int) := by omega
 clear h hS h1 m0 m1 m2
 go_enter Tryz.func88, Tryz.ntmps88
 go_upto_region 8 with (go_at_call 85; refine G.out.put ?_; intro u1 G)
 have c := HF.out _ _ G.out.g
 go_upto_region 8 with fail
 have HS9 := lh (fun l W9 g => And.intro (HF.out l W9 g).1.2.2.2.1 (HF.out l W9 g).2.1)
 replace G := lh G.out.drew
 clear c
 go_region_held3 (fun w9 => w9.cell? ⟨nb, 3, none⟩ = some (.int .i64 (-(N : Int))) ∧ w9.cell? ⟨xb, 0, none⟩ = some (pp pb)) (first | exact HS9.out _ _ G.out.g | exact HS9.out _ _ (G.out.g.below (balloc (Below.refl _ _) _))) (first | (go_at_call 89; refine G.out.itoa H1.out ?_; intro u1 G) | (go_at_call 85; refine G.out.put ?_; intro u2 G))
 go_end0
 exact G.out.end (fun _ h => h) (by simp)
def PS1 : Cat → Ty → List ByteArray → Prop
 | .e0 k, n, ws => CX n k ws ∧ LV n k
 | .ex k, n, ws => CF 43 (some (.int .i64 k)) n ws
 | .rule, n, ws => CF 46 none n ws
 | .p0 k, n, ws => ∀ m : Nat, CF 44 (some (.int .i64 m)) n (rnd (decide (k < m)) ws)
 | .pt k, n, ws => CF 44 (some (.int .i64 k)) n ws
 | .t0 k, n, ws => ∀ m : Nat, CF 45 (some (.int .i64 m)) n (rnd (decide (k < m)) ws)
 | .ty k, n, ws => CF 45 (some (.int .i64 k)) n ws
 | .dec _, n, ws => CF 48 none n ws
 | .dx, n, ws => CF 48 none n ws ∧ (n.k = 38 ∨ n.k = 41)
 | .fb, n, ws => CF 48 none n ws
 | .db, n, ws => CF 48 none n ws
 | .con, n, ws => CF 48 none n ws
 | .body, n, ws => CF 47 none n ws
 | .sig, n, ws => CF 47 none n ws
 | .spec, n, ws => CF 47 none n ws
 | .tv, n, ws => ws = [n.s]
 | _, _, _ => True
def isMany : Cat → Bool
 | .many _ => true
 | .row c _ => isMany c
 | _ => false
theorem pathW_ne {k : Nat} {s : ByteArray} {ws : List ByteArray} (h : PathW k s ws) : ws ≠ [] := by cases h <;> simp
def PD : Cat → List Ty → List ByteArray → Prop
 | .row c s, l, ws => RowC (PS1 c) s l ws
 | .many c, l, ws => isMany c = false → ManyC (PS1 c) l ws
 | .head s, l, ws => ∀ (k a : Int) (r : List Ty), CF 98 none (.mk k a s l.length (l ++ r)) ws
 | c, l, ws => ∀ n, l = [n] → PS1 c n ws
theorem PD.one {c : Cat} {n : Ty} {ws : List ByteArray} (h : PD c [n] ws) : PS1 c n ws := by
 cases c <;> first | exact trivial | exact h n rfl
theorem DX.ne {c : Cat} {g : Nat} {l : List Ty} {ws : List ByteArray} (h : D c g l ws) : isMany c = false → ws ≠ [] := by
 induction h with
 | row1 _ ih => exact ih
 | ex_np _ _ _ ih => exact fun _ => ih rfl
 | pt_np _ _ _ ih => exact fun _ => ih rfl
 | ty_np _ _ _ ih => exact fun _ => ih rfl
 | d_dx _ _ ih => exact fun _ => ih rfl
 | sp_dx _ ih => exact fun _ => ih rfl
 | t_tup _ ih => exact fun _ => ih rfl
 | mnil => exact fun h => by simp [isMany] at h
 | mcons => exact fun h => by simp [isMany] at h
 | e_path hp => exact fun _ => pathW_ne hp
 | p_con hp => exact fun _ => pathW_ne hp
 | t_con hp => exact fun _ => pathW_ne hp
 | b_path hp => exact fun _ => pathW_ne hp
 | e_app _ _ ih _ => intro _ e; exact ih rfl (List.append_eq_nil_iff.1 e).1
 | p_arg hp _ _ => intro _ e; exact pathW_ne hp (List.append_eq_nil_iff.1 e).1
 | t_one _ hp _ => intro _ e; exact pathW_ne hp (List.append_eq_nil_iff.1 e).2
 | _ => intro _; simp
theorem dec1 (k : Nat) (m : Nat) : decide ((k : Int) < (m : Int)) = decide (k < m) := decide_eq_decide.2 (by omega)
theorem rowc1 {P : Ty → List ByteArray → Prop} {s : ByteArray} {n : Ty} {ws : List ByteArray} (h : P n ws) : RowC P s [n] ws := ⟨[ws], rfl, rfl, fun i hi _ => by
 cases i with
 | zero => exact h
 | succ i => simp at hi⟩
theorem rowcS {P : Ty → List ByteArray → Prop} {s : ByteArray} {n m : Ty} {l : List Ty} {ws vs : List ByteArray} (h : P n ws) (h2 : RowC P s (m :: l) vs) : RowC P s (n :: m :: l) (ws ++ s :: vs) := by
 obtain ⟨wss, hl, rfl, hp⟩ := h2.ex
 cases wss with
 | nil => simp at hl
 | cons w r =>
  refine ⟨ws :: w :: r, by simp at hl ⊢; omega, rfl, fun i hi hi2 => ?_⟩
  cases i with
  | zero => exact h
  | succ i => exact hp i (by simpa using hi) (by simpa using hi2)
theorem manycS {P : Ty → List ByteArray → Prop} {n : Ty} {l : List Ty} {ws vs : List ByteArray} (h : P n ws) (h0 : ws ≠ []) (h2 : ManyC P l vs) : ManyC P (n :: l) (ws ++ vs) := by
 obtain ⟨wss, hl, rfl, hp⟩ := h2.ex
 refine ⟨ws :: wss, by simp; omega, rfl, fun i hi hi2 => ?_⟩
 cases i with
 | zero => exact ⟨h, h0⟩
 | succ i => exact hp i (by simpa using hi) (by simpa using hi2)
theorem rowc0 {P : Ty → List ByteArray → Prop} {s : ByteArray} : RowC P s [] [] := ⟨[], rfl, rfl, fun i hi => by simp at hi⟩
theorem manyc0 {P : Ty → List ByteArray → Prop} : ManyC P [] [] := ⟨[], rfl, rfl, fun i hi => by simp at hi⟩
theorem manyc1 {P : Ty → List ByteArray → Prop} {n : Ty} {ws : List ByteArray} (h : P n ws) (h0 : ws ≠ []) : ManyC P [n] ws := by have := manycS h h0 manyc0; simpa using this
theorem cx {k a q : Int} {s : ByteArray} {K : List Ty} {ws : List ByteArray} (hk : k ≠ 17 ∧ k ≠ 16 ∧ k ≠ 18 ∧ k ≠ 8 ∧ k ≠ 7 ∧ k ≠ 9 ∧ k ≠ 13) (h : CF 86 none (.mk k a s q K) ws) : CX (.mk k a s q K) 10 ws ∧ LV (.mk k a s q K) 10 := ⟨⟨fun m1 m2 m3 hS => x_cl hk h m1 m2 hS⟩, lv_at hk⟩
theorem rndF {k l : Nat} {ws : List ByteArray} (h : l ≤ k) : rnd (decide (k < l)) ws = ws := by rw [decide_eq_false (by omega)]; rfl
theorem rndT {k l : Nat} {ws : List ByteArray} (h : k < l) : rnd (decide (k < l)) ws = s_lp :: (ws ++ [s_rp]) := by rw [decide_eq_true h]; rfl
theorem p27 {a q : Int} {s : ByteArray} {K : List Ty} {ws : List ByteArray} (h : CPX (.mk 27 a s q K) ws) : PS1 (.p0 0) (.mk 27 a s q K) ws := fun m => pat_cons h
theorem p24 {a q : Int} {s : ByteArray} {x : Ty} {ws : List ByteArray} (h : CPX (.mk 24 a s q [x]) ws) : PS1 (.p0 1) (.mk 24 a s q [x]) ws := fun m => by rw [← dec1]; exact pat_arg h
theorem p24n {a q : Int} {s : ByteArray} {ws : List ByteArray} (h : CPX (.mk 24 a s q []) ws) : PS1 (.p0 2) (.mk 24 a s q []) ws := fun m => by rw [← dec1]; exact pat_nul h
theorem p2 {k a q : Int} {s : ByteArray} {K : List Ty} {ws : List ByteArray} (hk : k ≠ 27 ∧ k ≠ 24) (h : CPX (.mk k a s q K) ws) : PS1 (.p0 2) (.mk k a s q K) ws := fun m => by rw [← dec1]; exact pat_at hk h
theorem t2 {k a q : Int} {s : ByteArray} {K : List Ty} {ws : List ByteArray} (hk : k ≠ 33 ∧ k ≠ 32) (h : CTX (.mk k a s q K) ws) : PS1 (.t0 2) (.mk k a s q K) ws := fun m => by rw [← dec1]; exact typ_at hk h
def sg : Cat → Bool
 | .row _ _ | .many _ | .head _ => false
 | _ => true
theorem pd1 {c : Cat} {n : Ty} {ws : List ByteArray} (hc : sg c = true) (h : PS1 c n ws) : PD c [n] ws := by
 cases c <;> first | (simp [sg] at hc; done) | exact fun m e => by cases e; exact h
theorem rnd_has (a b : List ByteArray) (s : ByteArray) : rnd true (a ++ s :: b) = s_lp :: (a ++ s :: (b ++ [s_rp])) := by simp [rnd]
theorem rnd_app (a b : List ByteArray) : rnd true a ++ b = s_lp :: (a ++ s_rp :: b) := by simp [rnd]
theorem q_con0 {a : Int} {s : ByteArray} {ws : List ByteArray} (hp : PathT s ws) : CPX (.mk 24 a s 0 []) ws := ⟨fun m1 m2 m3 hS => by rw [← List.append_nil ws]; exact q_con hp manyc0 m1 m2 m3 hS⟩
theorem tvs {K : List Ty} {ws : List ByteArray} (h : RowC (PS1 .tv) s_com K ws) : RowC (fun x w => w = [x.s]) s_com K ws := h
theorem printD {c : Cat} {g : Nat} {l : List Ty} {ws : List ByteArray} (h : D c g l ws) : PD c l ws := by
 induction h with
 | row1 h ih => exact rowc1 ih.one
 | rowS h h2 ih ih2 => exact rowcS ih.one ih2
 | mnil => exact fun _ => manyc0
 | mcons h h2 ih ih2 => exact fun hm => manycS ih.one (h.ne hm) (ih2 hm)
 | e_int hN => exact pd1 rfl (cx (by decide) (k_int hN))
 | e_str hs => exact pd1 rfl (cx (by decide) (k_str hs))
 | e_path hp =>
  rcases path_kind hp with rfl | rfl
  · exact pd1 rfl (cx (by decide) (k_var (.inl ⟨_, hp⟩)))
  · exact pd1 rfl (cx (by decide) (k_con (.inl ⟨_, hp⟩)))
 | e_tf h => exact pd1 rfl (cx (by decide) (k_con (.inr ⟨h, rfl⟩)))
 | e_unit => exact pd1 rfl (cx (by decide) (k_tup rowc0))
 | e_tup h ih => exact pd1 rfl (cx (by decide) (k_tup ih))
 | e_seq h ih => exact pd1 rfl (cx (by decide) (k_seq ih))
 | e_nil => exact pd1 rfl (cx (by decide) (k_list rowc0))
 | e_list h ih => exact pd1 rfl (cx (by decide) (k_list ih))
 | e_app h h2 ih ih2 => exact pd1 rfl ⟨⟨fun m1 m2 m3 hS => x_app ih.one ih2.one m1 m2 hS⟩, lv_app⟩
 | e_fn h h2 ih ih2 => exact pd1 rfl ⟨⟨fun m1 m2 m3 hS => x_fn ih.one ih2.one m1 m2 hS⟩, lv_fn⟩
 | e_if h h2 h3 ih ih2 ih3 => exact pd1 rfl ⟨⟨fun m1 m2 m3 hS => x_if ih.one ih2.one ih3.one m1 m2 hS⟩, lv_if⟩
 | e_raise h ih => exact pd1 rfl ⟨⟨fun m1 m2 m3 hS => x_raise ih.one m1 m2 hS⟩, lv_raise⟩
 | e_case h h2 ih ih2 => exact pd1 rfl (cx (by decide) (k_case ih.one ih2))
 | e_try h h2 ih ih2 => exact pd1 rfl (cx (by decide) (k_try ih.one ih2))
 | e_let h h2 ih ih2 => exact pd1 rfl (cx (by decide) (k_let (ih rfl) ih2.one))
 | @e_has g a e t ew tw h h2 ih ih2 =>
  have h7 := k_has (a := a) (q := 0) (s := e_) ih.one ih2.one
  rw [rnd_has] at h7
  exact pd1 rfl (cx (by decide) h7)
 | e_or h h2 ih ih2 => exact pd1 rfl ⟨⟨fun m1 m2 m3 hS => x_or (k := 2) (o_or ih.one ih2.one) m1 m2 m3 hS⟩, lv_or⟩
 | e_and h h2 ih ih2 => exact pd1 rfl ⟨⟨fun m1 m2 m3 hS => x_and (k := 3) (o_and ih.one ih2.one) m1 m2 m3 hS⟩, lv_and⟩
 | @e_op g a s k x y xw yw ho h h2 ih ih2 =>
  refine pd1 rfl ⟨⟨fun m1 m2 m3 hS => x_op (k := k) ?_ m1 m2 m3 hS⟩, lv_op ho⟩
  have hk : k = 1 ∨ k = 4 ∨ k = 5 ∨ k = 6 ∨ k = 7 := by
   unfold opL at ho
   split at ho; omega
   split at ho; omega
   split at ho; omega
   split at ho; omega
   split at ho; omega
   cases ho
  rcases hk with rfl | rfl | rfl | rfl | rfl
  · exact o_op1 ih.one ih2.one
  · exact o_op4 ih.one ih2.one
  · exact o_op5 ih.one ih2.one
  · exact o_op6 ih.one ih2.one
  · exact o_op7 ih.one ih2.one
 | e_un hs h ih => exact pd1 rfl ⟨⟨fun m1 m2 m3 hS => x_op (k := 9) (o_un ih.one) m1 m2 m3 hS⟩, lv_un⟩
 | @ex_np g h k l n ws hd hl hg ih =>
  cases n
  have h9 := exp_c (least := l) ih.one.2 ih.one.1
  rw [rndF hl] at h9
  exact pd1 rfl h9
 | @ex_par g h k l n ws hd hl hg ih =>
  cases n
  have h9 := exp_c (least := l) ih.one.2 ih.one.1
  rw [rndT hl] at h9
  exact pd1 rfl h9
 | rule h h2 ih ih2 => exact pd1 rfl (rule_c ih.one ih2.one)
 | p_any => exact pd1 rfl (p2 (by decide) ⟨fun m1 m2 m3 hS => q_any m1 m2 m3 hS⟩)
 | p_var h => exact pd1 rfl (p2 (by decide) ⟨fun m1 m2 m3 hS => q_var m1 m2 m3 hS⟩)
 | p_int hN => exact pd1 rfl (p2 (by decide) ⟨fun m1 m2 m3 hS => q_int hN m1 m2 m3 hS⟩)
 | p_neg h0 hN => exact pd1 rfl (p2 (by decide) ⟨fun m1 m2 m3 hS => q_neg h0 hN m1 m2 m3 hS⟩)
 | p_str hs => exact pd1 rfl (p2 (by decide) ⟨fun m1 m2 m3 hS => q_str hs m1 m2 m3 hS⟩)
 | p_con hp => exact pd1 rfl (p24n (q_con0 (.inl ⟨_, hp⟩)))
 | p_tf h => exact pd1 rfl (p24n (q_con0 (.inr ⟨h, rfl⟩)))
 | p_arg hp h ih => exact pd1 rfl (p24 ⟨fun m1 m2 m3 hS => q_con (.inl ⟨_, hp⟩) (manyc1 ih.one (h.ne rfl)) m1 m2 m3 hS⟩)
 | p_unit => exact pd1 rfl (p2 (by decide) ⟨fun m1 m2 m3 hS => q_tup rowc0 m1 m2 m3 hS⟩)
 | p_tup h ih => exact pd1 rfl (p2 (by decide) ⟨fun m1 m2 m3 hS => q_tup ih m1 m2 m3 hS⟩)
 | p_nil => exact pd1 rfl (p2 (by decide) ⟨fun m1 m2 m3 hS => q_list rowc0 m1 m2 m3 hS⟩)
 | p_list h ih => exact pd1 rfl (p2 (by decide) ⟨fun m1 m2 m3 hS => q_list ih m1 m2 m3 hS⟩)
 | p_cons h h2 ih ih2 => exact pd1 rfl (p27 ⟨fun m1 m2 m3 hS => q_cons ih.one ih2.one m1 m2 m3 hS⟩)
 | p_as hs h ih => exact pd1 rfl (p2 (by decide) ⟨fun m1 m2 m3 hS => q_as ih.one m1 m2 m3 hS⟩)
 | p_has h h2 ih ih2 => exact pd1 rfl (p2 (by decide) ⟨fun m1 m2 m3 hS => q_has ih.one ih2.one m1 m2 m3 hS⟩)
 | @pt_np g h k l n ws hd hl hg ih =>
  have h9 := ih.one l
  rw [rndF hl] at h9
  exact pd1 rfl h9
 | @pt_par g h k l n ws hd hl hg ih =>
  have h9 := ih.one l
  rw [rndT hl] at h9
  exact pd1 rfl h9
 | t_var h => exact pd1 rfl (t2 (by decide) ⟨fun m1 m2 hS => t_var m1 m2 hS⟩)
 | t_con hp => exact pd1 rfl (t2 (by decide) ⟨fun m1 m2 hS => t_con (.inl ⟨_, hp⟩) m1 m2 hS⟩)
 | t_one h hp ih => exact pd1 rfl (t2 (by decide) ⟨fun m1 m2 hS => t_one ih.one (.inl ⟨_, hp⟩) m1 m2 hS⟩)
 | t_more h hp ih => exact pd1 rfl (t2 (by decide) ⟨fun m1 m2 hS => by rw [← rnd_app]; exact t_more ih (.inl ⟨_, hp⟩) m1 m2 hS⟩)
 | t_tup h ih => exact pd1 rfl (fun m => by rw [← dec1]; exact typ_tup ⟨fun m1 m2 hS => t_tup ih m1 m2 hS⟩)
 | t_arr h h2 ih ih2 => exact pd1 rfl (fun m => typ_arr ⟨fun m1 m2 hS => t_arr ih.one ih2.one m1 m2 hS⟩)
 | @ty_np g h k l n ws hd hl hg ih =>
  have h9 := ih.one l
  rw [rndF hl] at h9
  exact pd1 rfl h9
 | @ty_par g h k l n ws hd hl hg ih =>
  have h9 := ih.one l
  rw [rndT hl] at h9
  exact pd1 rfl h9
 | d_val h h2 ih ih2 => exact pd1 rfl (d_val ih.one ih2.one)
 | d_fun h ih => exact pd1 rfl (d_fun ih)
 | fb hs h h2 ih ih2 => exact pd1 rfl (d_fb (ih rfl) ih2.one)
 | @fb_has g a b s p l e t lw ew tw hX hs h h2 h3 ih ih2 ih3 =>
  have h7 := k_has (a := b) (q := 0) (s := e_) ih2.one ih3.one
  rw [rnd_has] at h7
  have h8 := cx (by decide) h7
  have h9 := exp_c (least := 0) h8.2 h8.1
  rw [rndF (Nat.zero_le _)] at h9
  exact pd1 rfl (d_fb (ih rfl) h9)
 | d_type hw h h2 ih ih2 => exact pd1 rfl (d_type (ih _ _ _) ih2.one)
 | d_dx hw h ih => exact pd1 rfl ih.one.1
 | dx_data h ih => exact pd1 rfl ⟨d_data ih, .inl rfl⟩
 | dx_exn0 h => exact pd1 rfl ⟨d_exn0, .inr rfl⟩
 | dx_exn1 h h2 ih => exact pd1 rfl ⟨d_exn1 ih.one, .inr rfl⟩
 | db h h2 ih ih2 => exact pd1 rfl (d_db (ih _ _ _) ih2)
 | con0 h => exact pd1 rfl d_con0
 | con1 h h2 ih => exact pd1 rfl (d_con1 ih.one)
 | d_str0 hw h h2 ih => exact pd1 rfl (d_str0 ih.one)
 | d_str1 hw h hc h2 h3 ih ih2 =>
  rcases hc with ⟨rfl, rfl⟩ | ⟨rfl, rfl⟩
  · exact pd1 rfl (d_str1 ih.one ih2.one)
  · exact pd1 rfl (d_str2 ih.one ih2.one)
 | d_sig hw h h2 ih => exact pd1 rfl (d_sig ih.one)
 | d_open hp => exact pd1 rfl (d_open (.inl ⟨_, hp⟩))
 | b_nil => exact pd1 rfl (m_body manyc0)
 | b_str h ih => exact pd1 rfl (m_body (ih rfl))
 | b_path hp => exact pd1 rfl (m_path (.inl ⟨_, hp⟩))
 | s_body h ih => exact pd1 rfl (m_sig (ih rfl))
 | s_name h => exact pd1 rfl (m_name (.inl ⟨4, .up h⟩))
 | sp_val h h2 ih => exact pd1 rfl (m_val ih.one)
 | @sp_type g a s l hw h ih => exact pd1 rfl (m_type0 (by have h9 := ih 50 a []; rw [List.append_nil] at h9; exact h9))
 | sp_type1 h h2 ih ih2 => exact pd1 rfl (m_type1 (ih _ _ _) ih2.one)
 | @sp_dx g n ws h ih =>
  cases n
  exact pd1 rfl (m_dec ih.one.2 ih.one.1)
 | sp_str h h2 ih => exact pd1 rfl (m_str ih.one)
 | tv h => exact pd1 rfl rfl
 | h_none h => exact fun k a r => head_0
 | @h_one g s v ws h h2 ih =>
  intro k a r
  have h9 := head_v (k := k) (a := a) (s := s) (V := [v]) (K := r) (by simp) (rowc1 ih.one)
  exact h9
 | @h_more g s x y l ws h h2 ih =>
  intro k a r
  have h9 := head_v (k := k) (a := a) (s := s) (V := x :: y :: l) (K := r) (by simp) (tvs ih)
  rw [show decide ((1 : Int) < ((x :: y :: l).length : Int)) = true from by simp; omega] at h9
  have e : rnd true ws ++ [s] = s_lp :: (ws ++ [s_rp, s]) := by simp [rnd]
  rw [e] at h9
  exact h9
theorem e0_kind {k g : Nat} {n : Ty} {ws : List ByteArray} (h : D (.e0 k) g [n] ws) : 1 ≤ n.k ∧ n.k ≤ 19 ∧ n.k ≠ 12 := by
 cases h with
 | e_path hp => rcases path_kind hp with rfl | rfl <;> simp [Ty.k]
 | _ => simp [Ty.k]
theorem p0_kind {k g : Nat} {n : Ty} {ws : List ByteArray} (h : D (.p0 k) g [n] ws) : 20 ≤ n.k ∧ n.k ≤ 29 := by cases h <;> simp [Ty.k]
theorem t0_kind {k g : Nat} {n : Ty} {ws : List ByteArray} (h : D (.t0 k) g [n] ws) : 30 ≤ n.k ∧ n.k ≤ 33 := by cases h <;> simp [Ty.k]
theorem top_print {k : Nat} {n : Ty} {ws : List ByteArray} (h : TopG k n ws) : CF 18 none n ws := by
 unfold TopG at h
 split at h
 · obtain ⟨l, rfl, h⟩ := h
   exact any_prog (printD h rfl)
 split at h
 · have h2 : 1 ≤ n.k ∧ n.k ≤ 19 ∧ n.k ≠ 12 := by cases h with | ex_np h _ _ => exact e0_kind h | ex_par h _ _ => exact e0_kind h
   cases n
   exact any_exp h2 (printD h).one
 split at h
 · have h2 : 20 ≤ n.k ∧ n.k ≤ 29 := by cases h with | pt_np h _ _ => exact p0_kind h | pt_par h _ _ => exact p0_kind h
   cases n
   exact any_pat h2 (printD h).one
 · have h2 : 30 ≤ n.k ∧ n.k ≤ 33 := by cases h with | ty_np h _ _ => exact t0_kind h | ty_par h _ _ => exact t0_kind h
   cases n
   exact any_typ h2 (printD h).one
end Go.Proofs.YthehjeeiodbkjaaGreatDoor
