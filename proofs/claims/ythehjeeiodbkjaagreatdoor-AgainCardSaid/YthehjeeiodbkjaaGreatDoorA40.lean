/-
  Proved: the closures of the printer's pat and typ, by kinds. Conditions: the printer as it stands in memory; the contracts of what they call.
-/
import Derived.Test.YthehjeeiodbkjaaGreatDoorA01
import Derived.Test.YthehjeeiodbkjaaGreatDoorA37
set_option linter.unusedSimpArgs false
set_option linter.unusedVariables false
set_option maxRecDepth 100000
set_option maxHeartbeats 16000000
namespace Go.Proofs.YthehjeeiodbkjaaGreatDoor
open Go.RowKit
theorem q_any {a q : Int} {s : ByteArray} {K : List Ty}  {B pb : Nat} {v0 : Value} {w0 : World} {bs : List Bx} {ao : Option Addr} {cap nb xb ab : Nat} (m0 : (nb, #[.int .i64 20, .int .i64 a, .string s, .int .i64 q, .slice ao K.length cap], 26) ∈ bs) (m1 : (xb, #[pp pb], 43) ∈ bs) (m2 : (ab, #[.func (.func 87) #[] #[.pointer (some ⟨xb, 0, none⟩)]], 47) ∈ bs) (hS : SlD w0 (fun b => b < B) K ao cap) : CV 88 #[.pointer (some ⟨nb, 0, none⟩), .pointer (some ⟨xb, 0, none⟩), .pointer (some ⟨ab, 0, none⟩)] ([s_us]) B pb v0 w0 bs := by
 refine ⟨fun {l W} h => ?_⟩
 have G := lh h
 have HF := lh (fun (l : List ByteArray) (W : World) (g : Gp B pb v0 w0 l W bs) => And.intro (five (g.at m0)) (And.intro (one1 (g.at m1)) (one1 (g.at m2))))
 have HS : Hid (SlD w0 (fun b => b < B) K ao cap) := lh hS
 have c := HF.out _ _ G.out.g
 clear h hS  m0 m1 m2
 go_enter Tryz.func88, Tryz.ntmps88
 go_wp2_with (go_at_call 85; refine G.out.put ?_; intro u1 G)
 have c := HF.out _ _ G.out.g
 go_end0
 exact G.out.end (fun _ h => h) (by simp)
theorem q_var {a q : Int} {s : ByteArray} {K : List Ty}  {B pb : Nat} {v0 : Value} {w0 : World} {bs : List Bx} {ao : Option Addr} {cap nb xb ab : Nat} (m0 : (nb, #[.int .i64 21, .int .i64 a, .string s, .int .i64 q, .slice ao K.length cap], 26) ∈ bs) (m1 : (xb, #[pp pb], 43) ∈ bs) (m2 : (ab, #[.func (.func 87) #[] #[.pointer (some ⟨xb, 0, none⟩)]], 47) ∈ bs) (hS : SlD w0 (fun b => b < B) K ao cap) : CV 88 #[.pointer (some ⟨nb, 0, none⟩), .pointer (some ⟨xb, 0, none⟩), .pointer (some ⟨ab, 0, none⟩)] ([s]) B pb v0 w0 bs := by
 refine ⟨fun {l W} h => ?_⟩
 have G := lh h
 have HF := lh (fun (l : List ByteArray) (W : World) (g : Gp B pb v0 w0 l W bs) => And.intro (five (g.at m0)) (And.intro (one1 (g.at m1)) (one1 (g.at m2))))
 have HS : Hid (SlD w0 (fun b => b < B) K ao cap) := lh hS
 have c := HF.out _ _ G.out.g
 clear h hS  m0 m1 m2
 go_enter Tryz.func88, Tryz.ntmps88
 go_wp2_with (go_at_call 85; refine G.out.put ?_; intro u1 G)
 have c := HF.out _ _ G.out.g
 go_end0
 exact G.out.end (fun _ h => h) (by simp)
theorem q_str {a q : Int} {s : ByteArray} {K : List Ty} (h1 : s.size ≤ 200) {B pb : Nat} {v0 : Value} {w0 : World} {bs : List Bx} {ao : Option Addr} {cap nb xb ab : Nat} (m0 : (nb, #[.int .i64 23, .int .i64 a, .string s, .int .i64 q, .slice ao K.length cap], 26) ∈ bs) (m1 : (xb, #[pp pb], 43) ∈ bs) (m2 : (ab, #[.func (.func 87) #[] #[.pointer (some ⟨xb, 0, none⟩)]], 47) ∈ bs) (hS : SlD w0 (fun b => b < B) K ao cap) : CV 88 #[.pointer (some ⟨nb, 0, none⟩), .pointer (some ⟨xb, 0, none⟩), .pointer (some ⟨ab, 0, none⟩)] ([quoteD s]) B pb v0 w0 bs := by
 refine ⟨fun {l W} h => ?_⟩
 have G := lh h
 have HF := lh (fun (l : List ByteArray) (W : World) (g : Gp B pb v0 w0 l W bs) => And.intro (five (g.at m0)) (And.intro (one1 (g.at m1)) (one1 (g.at m2))))
 have HS : Hid (SlD w0 (fun b => b < B) K ao cap) := lh hS
 have H1 := lh h1
 have c := HF.out _ _ G.out.g
 clear h hS h1 m0 m1 m2
 go_enter Tryz.func88, Tryz.ntmps88
 go_upto_region 10 with fail
 have HS9 := lh (fun l W9 g => And.intro (HF.out l W9 g).1.2.2.1 (HF.out l W9 g).2.1)
 replace G := lh G.out.drew
 clear c
 go_region_held3 (fun w9 => w9.cell? ⟨nb, 2, none⟩ = some (.string s) ∧ w9.cell? ⟨xb, 0, none⟩ = some (pp pb)) (first | exact HS9.out _ _ G.out.g | exact HS9.out _ _ (G.out.g.below (balloc (Below.refl _ _) _))) (first | (go_at_call 90; refine G.out.quote H1.out ?_; intro u1 G) | (go_at_call 85; refine G.out.put ?_; intro u2 G))
 go_end0
 exact G.out.end (fun _ h => h) (by simp)
theorem q_con {a q : Int} {s : ByteArray} {K : List Ty} {ws kw : List ByteArray} (h1 : PathT s ws) (h2 : ManyC (CF 44 (some (.int .i64 2))) K kw) {B pb : Nat} {v0 : Value} {w0 : World} {bs : List Bx} {ao : Option Addr} {cap nb xb ab : Nat} (m0 : (nb, #[.int .i64 24, .int .i64 a, .string s, .int .i64 q, .slice ao K.length cap], 26) ∈ bs) (m1 : (xb, #[pp pb], 43) ∈ bs) (m2 : (ab, #[.func (.func 87) #[] #[.pointer (some ⟨xb, 0, none⟩)]], 47) ∈ bs) (hS : SlD w0 (fun b => b < B) K ao cap) : CV 88 #[.pointer (some ⟨nb, 0, none⟩), .pointer (some ⟨xb, 0, none⟩), .pointer (some ⟨ab, 0, none⟩)] (ws ++ kw) B pb v0 w0 bs := by
 refine ⟨fun {l W} h => ?_⟩
 have G := lh h
 have HF := lh (fun (l : List ByteArray) (W : World) (g : Gp B pb v0 w0 l W bs) => And.intro (five (g.at m0)) (And.intro (one1 (g.at m1)) (one1 (g.at m2))))
 have HS : Hid (SlD w0 (fun b => b < B) K ao cap) := lh hS
 have H1 := lh h1
 have H2 := lh h2
 have c := HF.out _ _ G.out.g
 clear h hS h1 h2 m0 m1 m2
 go_enter Tryz.func88, Tryz.ntmps88
 replace G := lh (show Gt B pb v0 w0 l (ws ++ (kw ++ [])) W bs by simpa using G.out)
 go_upto_region 13 with (go_at_call 91; refine G.out.path H1.out ?_; intro u1 G)
 have c := HF.out _ _ G.out.g
 have HS2 := HS
 obtain ⟨c9, hc9⟩ : ∃ c9, c9 = K.length := ⟨_, rfl⟩
 have HC := lh hc9
 rw [← hc9] at c
 clear hc9
 go_upto_region 14 with fail
 obtain ⟨wss, hwl, hwe, hwp⟩ := H2.out.ex
 have HWL := lh hwl
 have HWP := lh hwp
 have HWE := lh hwe
 rw [hwe] at G ⊢
 have HLB : Hid (c9 ≤ 5000000000) := lh (by have h1 := G.out.hl; have h2 := flat_len wss (fun x hx => by obtain ⟨i, hi, rfl⟩ := List.mem_iff_getElem.1 hx; exact (hwp i (by omega) hi).2); simp only [jl_app] at h1; have h3 : c9 = (K).length := HC.out; omega)
 have hlb := HLB.out
 clear hwl hwe hwp H2 c
 go_wp2_with fail
 go_loopw [4, 54] (fun _ i wr => ∃ k : Nat, i = .int .i64 k ∧ k ≤ c9 ∧ Gt B pb v0 w0 (l ++ ws ++ (wss.take k).flatten) ((wss.drop k).flatten ++ []) wr bs) (fun _ i _ => c9 - (Lib.intOf i).toNat)
 case atStart => exact ⟨0, rfl, by omega, by simpa using G.out⟩
 case round =>
  obtain ⟨k, rfl, hk, hg⟩ := hrel
  have G := lh hg
  clear hg
  by_cases hkc : k < c9
  · have hk9 : k < (K).length := by have h3 : c9 = (K).length := HC.out; omega
    have hk8 : k < wss.length := by rw [HWL.out]; exact hk9
    obtain ⟨b, p9, ap, cp, HS1, hb9, hix, x⟩ := G.out.kid HS2.out k _ (List.getElem?_eq_getElem hk9) c9 HC.out k rfl
    obtain ⟨u, hu⟩ : ∃ u, u = (K)[k] := ⟨_, rfl⟩
    rw [← hu] at x HS1
    obtain ⟨V, hV⟩ : ∃ V, V = wr.alloc (.cells (rowOf u ap cp) 26) := ⟨_, rfl⟩
    have HP : Hid (CF 44 (some (.int .i64 2)) u wss[k]) := lh (by rw [hu]; exact (HWP.out k hk9 hk8).1)
    rw [flat_drop hk8] at G
    have G := lh (G.out.box hV)
    unfold rowOf at hV G
    clear hu
    have hkc2 : (k : Int) < ((c9 : Nat) : Int) := by omega
    go_upto_region 16 with fail
    rw [← hV]
    have y := five G.out.g.hd
    have d := (HF.out _ _ (G.out.g.mono j1)).2
    clear hV x hix
    go_wp2_with (go_at_call 44; refine G.out.call HP.out HS1.out ?_; intro u1 G)
    go_roundw
    case rel =>
     refine ⟨k + 1, by go_num, hkc, ?_⟩
     rw [flat_take hk8, ← List.append_assoc]
     exact ⟨G.out.g.mono j1, G.out.hl⟩
    case measure => simp only [Lib.intOf]; omega
  · obtain rfl : k = c9 := by omega
    have hd : decide ((k : Int) < (k : Int)) = false := by simp
    replace G : Hid (Gt B pb v0 w0 (l ++ ws ++ wss.flatten) ([]) wr bs) := lh (by have h := G.out; have h3 : k = (K).length := HC.out; rw [List.take_of_length_le (by rw [HWL.out]; omega), List.drop_of_length_le (by rw [HWL.out]; omega)] at h; exact h)
    skip
    go_wp2_with fail
    go_end0
    exact G.out.end (fun _ h => h) (by simp)
theorem q_tup {a q : Int} {s : ByteArray} {K : List Ty} {ws : List ByteArray} (h1 : RowC (CF 44 (some (.int .i64 0))) s_com K ws) {B pb : Nat} {v0 : Value} {w0 : World} {bs : List Bx} {ao : Option Addr} {cap nb xb ab : Nat} (m0 : (nb, #[.int .i64 25, .int .i64 a, .string s, .int .i64 q, .slice ao K.length cap], 26) ∈ bs) (m1 : (xb, #[pp pb], 43) ∈ bs) (m2 : (ab, #[.func (.func 87) #[] #[.pointer (some ⟨xb, 0, none⟩)]], 47) ∈ bs) (hS : SlD w0 (fun b => b < B) K ao cap) : CV 88 #[.pointer (some ⟨nb, 0, none⟩), .pointer (some ⟨xb, 0, none⟩), .pointer (some ⟨ab, 0, none⟩)] (rnd true ws) B pb v0 w0 bs := by
 refine ⟨fun {l W} h => ?_⟩
 have G := lh h
 have HF := lh (fun (l : List ByteArray) (W : World) (g : Gp B pb v0 w0 l W bs) => And.intro (five (g.at m0)) (And.intro (one1 (g.at m1)) (one1 (g.at m2))))
 have HS : Hid (SlD w0 (fun b => b < B) K ao cap) := lh hS
 have H1 := lh h1
 have c := HF.out _ _ G.out.g
 have HV := lh (c92 (s := s_com) h1 rfl m1 m0 m2 hS : CV 92 _ ws B pb v0 w0 bs)
 clear h hS h1 m0 m1 m2
 go_enter Tryz.func88, Tryz.ntmps88
 replace G := lh G.out.nil
 go_wp2_with (go_at_call 82; refine G.out.round (fun _ _ => rfl) HV.out ?_; intro u1 G)
 have c := HF.out _ _ G.out.g
 go_end0
 exact G.out.end (fun _ h => h) (by simp)
theorem q_list {a q : Int} {s : ByteArray} {K : List Ty} {ws : List ByteArray} (h1 : RowC (CF 44 (some (.int .i64 0))) s_com K ws) {B pb : Nat} {v0 : Value} {w0 : World} {bs : List Bx} {ao : Option Addr} {cap nb xb ab : Nat} (m0 : (nb, #[.int .i64 26, .int .i64 a, .string s, .int .i64 q, .slice ao K.length cap], 26) ∈ bs) (m1 : (xb, #[pp pb], 43) ∈ bs) (m2 : (ab, #[.func (.func 87) #[] #[.pointer (some ⟨xb, 0, none⟩)]], 47) ∈ bs) (hS : SlD w0 (fun b => b < B) K ao cap) : CV 88 #[.pointer (some ⟨nb, 0, none⟩), .pointer (some ⟨xb, 0, none⟩), .pointer (some ⟨ab, 0, none⟩)] (s_lb :: (ws ++ [s_rb])) B pb v0 w0 bs := by
 refine ⟨fun {l W} h => ?_⟩
 have G := lh h
 have HF := lh (fun (l : List ByteArray) (W : World) (g : Gp B pb v0 w0 l W bs) => And.intro (five (g.at m0)) (And.intro (one1 (g.at m1)) (one1 (g.at m2))))
 have HS : Hid (SlD w0 (fun b => b < B) K ao cap) := lh hS
 have H1 := lh h1
 have c := HF.out _ _ G.out.g
 have HO := lh (one87 (B := B) (v0 := v0) (w0 := w0) m1)
 clear h hS h1 m0 m1 m2
 go_enter Tryz.func88, Tryz.ntmps88
 go_upto_region 22 with (go_at_call 85; refine G.out.put ?_; intro u1 G)
 have c := HF.out _ _ G.out.g
 go_upto_region 23 with (go_at_call 93; refine G.out.list HO.out H1.out rfl HS.out ?_; intro u2 G)
 have c := HF.out _ _ G.out.g
 go_wp2_with (go_at_call 85; refine G.out.put ?_; intro u3 G)
 have c := HF.out _ _ G.out.g
 go_end0
 exact G.out.end (fun _ h => h) (by simp)
theorem q_cons {a q : Int} {s : ByteArray} {p r : Ty} {pw qw : List ByteArray} (h1 : CF 44 (some (.int .i64 1)) p pw) (h2 : CF 44 (some (.int .i64 0)) r qw) {B pb : Nat} {v0 : Value} {w0 : World} {bs : List Bx} {ao : Option Addr} {cap nb xb ab : Nat} (m0 : (nb, #[.int .i64 27, .int .i64 a, .string s, .int .i64 q, .slice ao 2 cap], 26) ∈ bs) (m1 : (xb, #[pp pb], 43) ∈ bs) (m2 : (ab, #[.func (.func 87) #[] #[.pointer (some ⟨xb, 0, none⟩)]], 47) ∈ bs) (hS : SlD w0 (fun b => b < B) [p, r] ao cap) : CV 88 #[.pointer (some ⟨nb, 0, none⟩), .pointer (some ⟨xb, 0, none⟩), .pointer (some ⟨ab, 0, none⟩)] (pw ++ s_cons :: qw) B pb v0 w0 bs := by
 refine ⟨fun {l W} h => ?_⟩
 have G := lh h
 have HF := lh (fun (l : List ByteArray) (W : World) (g : Gp B pb v0 w0 l W bs) => And.intro (five (g.at m0)) (And.intro (one1 (g.at m1)) (one1 (g.at m2))))
 have HS : Hid (SlD w0 (fun b => b < B) [p, r] ao cap) := lh hS
 have H1 := lh h1
 have H2 := lh h2
 have c := HF.out _ _ G.out.g
 clear h hS h1 h2 m0 m1 m2
 go_enter Tryz.func88, Tryz.ntmps88
 go_upto_region 25 with fail
 obtain ⟨b, p9, ap, cp, HS1, x⟩ := G.out.kid HS.out 0 p rfl 2 rfl 0 rfl
 go_still_tail 5, (by kernel_rfl)
 change wpList _ _ _ _ _ W.drew
 replace G := lh G.out.drew
 clear c x
 go_upto_region 26 with (go_at_call 44; refine G.out.call H1.out HS1.out ?_; intro u1 G)
 have c := HF.out _ _ G.out.g
 go_upto_region 27 with (go_at_call 85; refine G.out.put ?_; intro u2 G)
 have c := HF.out _ _ G.out.g
 obtain ⟨b, p9, ap, cp, HS1, x⟩ := G.out.kid HS.out 1 r rfl 2 rfl 1 rfl
 go_still_tail 5, (by kernel_rfl)
 change wpList _ _ _ _ _ u2.drew
 replace G := lh G.out.drew.nil
 clear c x
 go_wp2_with (go_at_call 44; refine G.out.call H2.out HS1.out ?_; intro u3 G)
 have c := HF.out _ _ G.out.g
 go_end0
 exact G.out.end (fun _ h => h) (by simp)
theorem q_as {a q : Int} {s : ByteArray} {p : Ty} {pw : List ByteArray} (h1 : CF 44 (some (.int .i64 0)) p pw) {B pb : Nat} {v0 : Value} {w0 : World} {bs : List Bx} {ao : Option Addr} {cap nb xb ab : Nat} (m0 : (nb, #[.int .i64 28, .int .i64 a, .string s, .int .i64 q, .slice ao 1 cap], 26) ∈ bs) (m1 : (xb, #[pp pb], 43) ∈ bs) (m2 : (ab, #[.func (.func 87) #[] #[.pointer (some ⟨xb, 0, none⟩)]], 47) ∈ bs) (hS : SlD w0 (fun b => b < B) [p] ao cap) : CV 88 #[.pointer (some ⟨nb, 0, none⟩), .pointer (some ⟨xb, 0, none⟩), .pointer (some ⟨ab, 0, none⟩)] (s_lp :: s :: w_as :: (pw ++ [s_rp])) B pb v0 w0 bs := by
 refine ⟨fun {l W} h => ?_⟩
 have G := lh h
 have HF := lh (fun (l : List ByteArray) (W : World) (g : Gp B pb v0 w0 l W bs) => And.intro (five (g.at m0)) (And.intro (one1 (g.at m1)) (one1 (g.at m2))))
 have HS : Hid (SlD w0 (fun b => b < B) [p] ao cap) := lh hS
 have H1 := lh h1
 have c := HF.out _ _ G.out.g
 clear h hS h1 m0 m1 m2
 go_enter Tryz.func88, Tryz.ntmps88
 go_upto_region 30 with (go_at_call 85; refine G.out.put3 ?_; intro u1 G)
 have c := HF.out _ _ G.out.g
 obtain ⟨b, p9, ap, cp, HS1, x⟩ := G.out.kid HS.out 0 p rfl 1 rfl 0 rfl
 go_still_tail 5, (by kernel_rfl)
 change wpList _ _ _ _ _ u1.drew
 replace G := lh G.out.drew
 clear c x
 go_upto_region 31 with (go_at_call 44; refine G.out.call H1.out HS1.out ?_; intro u2 G)
 have c := HF.out _ _ G.out.g
 go_wp2_with (go_at_call 85; refine G.out.put ?_; intro u3 G)
 have c := HF.out _ _ G.out.g
 go_end0
 exact G.out.end (fun _ h => h) (by simp)
theorem q_has {a q : Int} {s : ByteArray} {p t : Ty} {pw tw : List ByteArray} (h1 : CF 44 (some (.int .i64 0)) p pw) (h2 : CF 45 (some (.int .i64 0)) t tw) {B pb : Nat} {v0 : Value} {w0 : World} {bs : List Bx} {ao : Option Addr} {cap nb xb ab : Nat} (m0 : (nb, #[.int .i64 29, .int .i64 a, .string s, .int .i64 q, .slice ao 2 cap], 26) ∈ bs) (m1 : (xb, #[pp pb], 43) ∈ bs) (m2 : (ab, #[.func (.func 87) #[] #[.pointer (some ⟨xb, 0, none⟩)]], 47) ∈ bs) (hS : SlD w0 (fun b => b < B) [p, t] ao cap) : CV 88 #[.pointer (some ⟨nb, 0, none⟩), .pointer (some ⟨xb, 0, none⟩), .pointer (some ⟨ab, 0, none⟩)] (s_lp :: (pw ++ s_col :: (tw ++ [s_rp]))) B pb v0 w0 bs := by
 refine ⟨fun {l W} h => ?_⟩
 have G := lh h
 have HF := lh (fun (l : List ByteArray) (W : World) (g : Gp B pb v0 w0 l W bs) => And.intro (five (g.at m0)) (And.intro (one1 (g.at m1)) (one1 (g.at m2))))
 have HS : Hid (SlD w0 (fun b => b < B) [p, t] ao cap) := lh hS
 have H1 := lh h1
 have H2 := lh h2
 have c := HF.out _ _ G.out.g
 clear h hS h1 h2 m0 m1 m2
 go_enter Tryz.func88, Tryz.ntmps88
 go_upto_region 34 with (go_at_call 85; refine G.out.put ?_; intro u1 G)
 have c := HF.out _ _ G.out.g
 obtain ⟨b, p9, ap, cp, HS1, x⟩ := G.out.kid HS.out 0 p rfl 2 rfl 0 rfl
 go_still_tail 5, (by kernel_rfl)
 change wpList _ _ _ _ _ u1.drew
 replace G := lh G.out.drew
 clear c x
 go_upto_region 35 with (go_at_call 44; refine G.out.call H1.out HS1.out ?_; intro u2 G)
 have c := HF.out _ _ G.out.g
 go_upto_region 36 with (go_at_call 85; refine G.out.put ?_; intro u3 G)
 have c := HF.out _ _ G.out.g
 obtain ⟨b, p9, ap, cp, HS1, x⟩ := G.out.kid HS.out 1 t rfl 2 rfl 1 rfl
 go_still_tail 5, (by kernel_rfl)
 change wpList _ _ _ _ _ u3.drew
 replace G := lh G.out.drew
 clear c x
 go_upto_region 37 with (go_at_call 45; refine G.out.call H2.out HS1.out ?_; intro u4 G)
 have c := HF.out _ _ G.out.g
 go_wp2_with (go_at_call 85; refine G.out.put ?_; intro u5 G)
 have c := HF.out _ _ G.out.g
 go_end0
 exact G.out.end (fun _ h => h) (by simp)
theorem t_var {a q : Int} {s : ByteArray} {K : List Ty}  {B pb : Nat} {v0 : Value} {w0 : World} {bs : List Bx} {ao : Option Addr} {cap nb xb : Nat} (m0 : (nb, #[.int .i64 30, .int .i64 a, .string s, .int .i64 q, .slice ao K.length cap], 26) ∈ bs) (m1 : (xb, #[pp pb], 43) ∈ bs) (hS : SlD w0 (fun b => b < B) K ao cap) : CV 94 #[.pointer (some ⟨nb, 0, none⟩), .pointer (some ⟨xb, 0, none⟩)] ([s]) B pb v0 w0 bs := by
 refine ⟨fun {l W} h => ?_⟩
 have G := lh h
 have HF := lh (fun (l : List ByteArray) (W : World) (g : Gp B pb v0 w0 l W bs) => And.intro (five (g.at m0)) (one1 (g.at m1)))
 have HS : Hid (SlD w0 (fun b => b < B) K ao cap) := lh hS
 have c := HF.out _ _ G.out.g
 clear h hS  m0 m1
 go_enter Tryz.func94, Tryz.ntmps94
 go_wp2_with (go_at_call 85; refine G.out.put ?_; intro u1 G)
 have c := HF.out _ _ G.out.g
 go_end0
 exact G.out.end (fun _ h => h) (by simp)
theorem t_arr {a q : Int} {s : ByteArray} {x y : Ty} {xw yw : List ByteArray} (h1 : CF 45 (some (.int .i64 1)) x xw) (h2 : CF 45 (some (.int .i64 0)) y yw) {B pb : Nat} {v0 : Value} {w0 : World} {bs : List Bx} {ao : Option Addr} {cap nb xb : Nat} (m0 : (nb, #[.int .i64 33, .int .i64 a, .string s, .int .i64 q, .slice ao 2 cap], 26) ∈ bs) (m1 : (xb, #[pp pb], 43) ∈ bs) (hS : SlD w0 (fun b => b < B) [x, y] ao cap) : CV 94 #[.pointer (some ⟨nb, 0, none⟩), .pointer (some ⟨xb, 0, none⟩)] (xw ++ s_to :: yw) B pb v0 w0 bs := by
 refine ⟨fun {l W} h => ?_⟩
 have G := lh h
 have HF := lh (fun (l : List ByteArray) (W : World) (g : Gp B pb v0 w0 l W bs) => And.intro (five (g.at m0)) (one1 (g.at m1)))
 have HS : Hid (SlD w0 (fun b => b < B) [x, y] ao cap) := lh hS
 have H1 := lh h1
 have H2 := lh h2
 have c := HF.out _ _ G.out.g
 clear h hS h1 h2 m0 m1
 go_enter Tryz.func94, Tryz.ntmps94
 go_upto_region 4 with fail
 obtain ⟨b, p9, ap, cp, HS1, x⟩ := G.out.kid HS.out 0 x rfl 2 rfl 0 rfl
 go_still_tail 5, (by kernel_rfl)
 change wpList _ _ _ _ _ W.drew
 replace G := lh G.out.drew
 clear c x
 go_upto_region 5 with (go_at_call 45; refine G.out.call H1.out HS1.out ?_; intro u1 G)
 have c := HF.out _ _ G.out.g
 go_upto_region 6 with (go_at_call 85; refine G.out.put ?_; intro u2 G)
 have c := HF.out _ _ G.out.g
 obtain ⟨b, p9, ap, cp, HS1, x⟩ := G.out.kid HS.out 1 y rfl 2 rfl 1 rfl
 go_still_tail 5, (by kernel_rfl)
 change wpList _ _ _ _ _ u2.drew
 replace G := lh G.out.drew.nil
 clear c x
 go_wp2_with (go_at_call 45; refine G.out.call H2.out HS1.out ?_; intro u3 G)
 have c := HF.out _ _ G.out.g
 go_end0
 exact G.out.end (fun _ h => h) (by simp)
theorem t_tup {a q : Int} {s : ByteArray} {K : List Ty} {ws : List ByteArray} (h1 : RowC (CF 45 (some (.int .i64 2))) s_st K ws) {B pb : Nat} {v0 : Value} {w0 : World} {bs : List Bx} {ao : Option Addr} {cap nb xb : Nat} (m0 : (nb, #[.int .i64 32, .int .i64 a, .string s, .int .i64 q, .slice ao K.length cap], 26) ∈ bs) (m1 : (xb, #[pp pb], 43) ∈ bs) (hS : SlD w0 (fun b => b < B) K ao cap) : CV 94 #[.pointer (some ⟨nb, 0, none⟩), .pointer (some ⟨xb, 0, none⟩)] (ws) B pb v0 w0 bs := by
 refine ⟨fun {l W} h => ?_⟩
 have G := lh h
 have HF := lh (fun (l : List ByteArray) (W : World) (g : Gp B pb v0 w0 l W bs) => And.intro (five (g.at m0)) (one1 (g.at m1)))
 have HS : Hid (SlD w0 (fun b => b < B) K ao cap) := lh hS
 have H1 := lh h1
 have c := HF.out _ _ G.out.g
 have HO := lh (one95 (B := B) (v0 := v0) (w0 := w0) m1)
 clear h hS h1 m0 m1
 go_enter Tryz.func94, Tryz.ntmps94
 replace G := lh G.out.nil
 go_wp2_with (go_at_call 93; refine G.out.list HO.out H1.out rfl HS.out ?_; intro u1 G)
 have c := HF.out _ _ G.out.g
 go_end0
 exact G.out.end (fun _ h => h) (by simp)
theorem t_con {a q : Int} {s : ByteArray} {ws : List ByteArray} (h1 : PathT s ws) {B pb : Nat} {v0 : Value} {w0 : World} {bs : List Bx} {ao : Option Addr} {cap nb xb : Nat} (m0 : (nb, #[.int .i64 31, .int .i64 a, .string s, .int .i64 q, .slice ao 0 cap], 26) ∈ bs) (m1 : (xb, #[pp pb], 43) ∈ bs) (hS : SlD w0 (fun b => b < B) [] ao cap) : CV 94 #[.pointer (some ⟨nb, 0, none⟩), .pointer (some ⟨xb, 0, none⟩)] (ws) B pb v0 w0 bs := by
 refine ⟨fun {l W} h => ?_⟩
 have G := lh h
 have HF := lh (fun (l : List ByteArray) (W : World) (g : Gp B pb v0 w0 l W bs) => And.intro (five (g.at m0)) (one1 (g.at m1)))
 have HS : Hid (SlD w0 (fun b => b < B) [] ao cap) := lh hS
 have H1 := lh h1
 have c := HF.out _ _ G.out.g
 clear h hS h1 m0 m1
 go_enter Tryz.func94, Tryz.ntmps94
 replace G := lh G.out.nil
 go_wp2_with (go_at_call 91; refine G.out.path H1.out ?_; intro u1 G)
 have c := HF.out _ _ G.out.g
 go_end0
 exact G.out.end (fun _ h => h) (by simp)
theorem t_one {a q : Int} {s : ByteArray} {x : Ty} {xw ws : List ByteArray} (h1 : CF 45 (some (.int .i64 2)) x xw) (h2 : PathT s ws) {B pb : Nat} {v0 : Value} {w0 : World} {bs : List Bx} {ao : Option Addr} {cap nb xb : Nat} (m0 : (nb, #[.int .i64 31, .int .i64 a, .string s, .int .i64 q, .slice ao 1 cap], 26) ∈ bs) (m1 : (xb, #[pp pb], 43) ∈ bs) (hS : SlD w0 (fun b => b < B) [x] ao cap) : CV 94 #[.pointer (some ⟨nb, 0, none⟩), .pointer (some ⟨xb, 0, none⟩)] (xw ++ ws) B pb v0 w0 bs := by
 refine ⟨fun {l W} h => ?_⟩
 have G := lh h
 have HF := lh (fun (l : List ByteArray) (W : World) (g : Gp B pb v0 w0 l W bs) => And.intro (five (g.at m0)) (one1 (g.at m1)))
 have HS : Hid (SlD w0 (fun b => b < B) [x] ao cap) := lh hS
 have H1 := lh h1
 have H2 := lh h2
 have c := HF.out _ _ G.out.g
 clear h hS h1 h2 m0 m1
 go_enter Tryz.func94, Tryz.ntmps94
 go_upto_region 14 with fail
 obtain ⟨b, p9, ap, cp, HS1, x⟩ := G.out.kid HS.out 0 x rfl 1 rfl 0 rfl
 go_still_tail 5, (by kernel_rfl)
 change wpList _ _ _ _ _ W.drew
 replace G := lh G.out.drew
 clear c x
 go_upto_region 15 with (go_at_call 45; refine G.out.call H1.out HS1.out ?_; intro u1 G)
 have c := HF.out _ _ G.out.g
 replace G := lh G.out.nil
 go_wp2_with (go_at_call 91; refine G.out.path H2.out ?_; intro u2 G)
 have c := HF.out _ _ G.out.g
 go_end0
 exact G.out.end (fun _ h => h) (by simp)
theorem t_more {a q : Int} {s : ByteArray} {x y : Ty} {K : List Ty} {kw ws : List ByteArray} (h1 : RowC (CF 45 (some (.int .i64 0))) s_com (x :: y :: K) kw) (h2 : PathT s ws) {B pb : Nat} {v0 : Value} {w0 : World} {bs : List Bx} {ao : Option Addr} {cap nb xb : Nat} (m0 : (nb, #[.int .i64 31, .int .i64 a, .string s, .int .i64 q, .slice ao (K.length + 1 + 1) cap], 26) ∈ bs) (m1 : (xb, #[pp pb], 43) ∈ bs) (hS : SlD w0 (fun b => b < B) (x :: y :: K) ao cap) : CV 94 #[.pointer (some ⟨nb, 0, none⟩), .pointer (some ⟨xb, 0, none⟩)] (rnd true kw ++ ws) B pb v0 w0 bs := by
 refine ⟨fun {l W} h => ?_⟩
 have G := lh h
 have HF := lh (fun (l : List ByteArray) (W : World) (g : Gp B pb v0 w0 l W bs) => And.intro (five (g.at m0)) (one1 (g.at m1)))
 have HS : Hid (SlD w0 (fun b => b < B) (x :: y :: K) ao cap) := lh hS
 have H1 := lh h1
 have H2 := lh h2
 have c := HF.out _ _ G.out.g
 have HV := lh (c96 (s := s_com) h1 rfl m1 m0 hS : CV 96 _ kw B pb v0 w0 bs)
 have e0 : ((K.length : Int) + 1 + 1 == 0) = false := by simp; omega
 have e1 : ((K.length : Int) + 1 + 1 == 1) = false := by simp; omega
 clear h hS h1 h2 m0 m1
 go_enter Tryz.func94, Tryz.ntmps94
 go_upto_region 15 with (go_at_call 82; refine G.out.round (fun _ _ => rfl) HV.out ?_; intro u1 G)
 have c := HF.out _ _ G.out.g
 replace G := lh G.out.nil
 go_wp2_with (go_at_call 91; refine G.out.path H2.out ?_; intro u2 G)
 have c := HF.out _ _ G.out.g
 go_end0
 exact G.out.end (fun _ h => h) (by simp)
end Go.Proofs.YthehjeeiodbkjaaGreatDoor
