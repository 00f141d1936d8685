/-
  Proved: the closure of the printer's exp, by kinds of expressions; the contract of the printer's operation, by signs; the contracts of the kf closures of the printer; the contract of the printer's decs; the contract of the printer's closed, by kinds of expressions; the contract of the printer's level, by kinds. Conditions: the printer as it stands in memory; the contracts of what it calls; the printer as it stands in memory; the contract of exp on the two parts; the printer as it stands in memory; the contracts of what they call; the printer as it stands in memory; the contract of dec; the printer as it stands in memory.
-/
import Derived.Test.YthehjeeiodbkjaaGreatDoorP01
import Derived.Test.YthehjeeiodbkjaaGreatDoorP04
import Derived.Test.YthehjeeiodbkjaaGreatDoorP06
import Derived.MapKept
import Derived.Laws.EntriesVeiled
set_option linter.unusedSimpArgs false
set_option linter.unusedVariables false
set_option maxRecDepth 100000
set_option maxHeartbeats 16000000
namespace Go.Proofs.YthehjeeiodbkjaaGreatDoor
open Go.RowKit
theorem x_app {a : Int} {f x : Ty} {fw xw : List ByteArray} (h1 : CF 43 (some (.int .i64 8)) f fw) (h2 : CF 43 (some (.int .i64 9)) x xw) {B pb : Nat} {v0 : Value} {w0 : World} {bs : List Bx} {ao : Option Addr} {cap nb xb kb : Nat} (m0 : (nb, #[.int .i64 8, .int .i64 a, .string e_, .int .i64 0, .slice ao 2 cap], 26) ∈ bs) (m1 : (xb, #[pp pb], 43) ∈ bs) (hS : SlD w0 (fun b => b < B) [f, x] ao cap) : CV 83 #[.pointer (some ⟨nb, 0, none⟩), .pointer (some ⟨xb, 0, none⟩), .pointer (some ⟨kb, 0, none⟩)] (fw ++ xw) B pb v0 w0 bs := by
 refine ⟨fun {l W} h => ?_⟩;have G := lh h;have HF := lh (fun (l : List ByteArray) (W : World) (g : Gp B pb v0 w0 l W bs) => And.intro (jM (g.at m0)) (jV (g.at m1)));have HS : Hid (SlD w0 (fun b => b < B) [f, x] ao cap) := lh hS;have H1 := lh h1;have H2 := lh h2;have c := HF.out _ _ G.out.g;clear h hS h1 h2 m0 m1;go_enter Tryz.func83, Tryz.ntmps83
 go_upto_region 7 with fail
 obtain ⟨b, p9, ap, cp, HS1, x⟩ := G.out.kid HS.out 0 f rfl 2 rfl 0 rfl;go_still_tail 5, (by kernel_rfl)
 change wpList _ _ _ _ _ W.drew
 replace G := lh G.out.drew;clear c x;go_upto_region 8 with (go_at_call 43; refine G.out.call H1.out HS1.out ?_; intro u1 G)
 have c := HF.out _ _ G.out.g;obtain ⟨b, p9, ap, cp, HS1, x⟩ := G.out.kid HS.out 1 x rfl 2 rfl 1 rfl;go_still_tail 5, (by kernel_rfl)
 change wpList _ _ _ _ _ u1.drew
 replace G := lh G.out.drew.nil;clear c x;go_wp2_with (go_at_call 43; refine G.out.call H2.out HS1.out ?_; intro u2 G)
 have c := HF.out _ _ G.out.g;go_end0
 exact G.out.end (fun _ h => h) (by simp)
theorem x_fn {a : Int} {p e : Ty} {pw ew : List ByteArray} (h1 : CF 44 (some (.int .i64 2)) p pw) (h2 : CF 43 (some (.int .i64 0)) e ew) {B pb : Nat} {v0 : Value} {w0 : World} {bs : List Bx} {ao : Option Addr} {cap nb xb kb : Nat} (m0 : (nb, #[.int .i64 7, .int .i64 a, .string e_, .int .i64 0, .slice ao 2 cap], 26) ∈ bs) (m1 : (xb, #[pp pb], 43) ∈ bs) (hS : SlD w0 (fun b => b < B) [p, e] ao cap) : CV 83 #[.pointer (some ⟨nb, 0, none⟩), .pointer (some ⟨xb, 0, none⟩), .pointer (some ⟨kb, 0, none⟩)] (w_fn :: (pw ++ s_arr :: ew)) B pb v0 w0 bs := by
 refine ⟨fun {l W} h => ?_⟩;have G := lh h;have HF := lh (fun (l : List ByteArray) (W : World) (g : Gp B pb v0 w0 l W bs) => And.intro (jM (g.at m0)) (jV (g.at m1)));have HS : Hid (SlD w0 (fun b => b < B) [p, e] ao cap) := lh hS;have H1 := lh h1;have H2 := lh h2;have c := HF.out _ _ G.out.g;clear h hS h1 h2 m0 m1;go_enter Tryz.func83, Tryz.ntmps83
 go_upto_region 11 with (go_at_call 85; refine G.out.put ?_; intro u1 G)
 have c := HF.out _ _ G.out.g;obtain ⟨b, p9, ap, cp, HS1, x⟩ := G.out.kid HS.out 0 p rfl 2 rfl 0 rfl;go_still_tail 5, (by kernel_rfl)
 change wpList _ _ _ _ _ u1.drew
 replace G := lh G.out.drew;clear c x;go_upto_region 12 with (go_at_call 44; refine G.out.call H1.out HS1.out ?_; intro u2 G)
 have c := HF.out _ _ G.out.g;go_upto_region 13 with (go_at_call 85; refine G.out.put ?_; intro u3 G)
 have c := HF.out _ _ G.out.g;obtain ⟨b, p9, ap, cp, HS1, x⟩ := G.out.kid HS.out 1 e rfl 2 rfl 1 rfl;go_still_tail 5, (by kernel_rfl)
 change wpList _ _ _ _ _ u3.drew
 replace G := lh G.out.drew.nil;clear c x;go_wp2_with (go_at_call 43; refine G.out.call H2.out HS1.out ?_; intro u4 G)
 have c := HF.out _ _ G.out.g;go_end0
 exact G.out.end (fun _ h => h) (by simp)
theorem x_raise {a : Int} {e : Ty} {ew : List ByteArray} (h1 : CF 43 (some (.int .i64 0)) e ew) {B pb : Nat} {v0 : Value} {w0 : World} {bs : List Bx} {ao : Option Addr} {cap nb xb kb : Nat} (m0 : (nb, #[.int .i64 13, .int .i64 a, .string e_, .int .i64 0, .slice ao 1 cap], 26) ∈ bs) (m1 : (xb, #[pp pb], 43) ∈ bs) (hS : SlD w0 (fun b => b < B) [e] ao cap) : CV 83 #[.pointer (some ⟨nb, 0, none⟩), .pointer (some ⟨xb, 0, none⟩), .pointer (some ⟨kb, 0, none⟩)] (w_raise :: ew) B pb v0 w0 bs := by
 refine ⟨fun {l W} h => ?_⟩;have G := lh h;have HF := lh (fun (l : List ByteArray) (W : World) (g : Gp B pb v0 w0 l W bs) => And.intro (jM (g.at m0)) (jV (g.at m1)));have HS : Hid (SlD w0 (fun b => b < B) [e] ao cap) := lh hS;have H1 := lh h1;have c := HF.out _ _ G.out.g;clear h hS h1 m0 m1;go_enter Tryz.func83, Tryz.ntmps83
 go_upto_region 23 with (go_at_call 85; refine G.out.put ?_; intro u1 G)
 have c := HF.out _ _ G.out.g;obtain ⟨b, p9, ap, cp, HS1, x⟩ := G.out.kid HS.out 0 e rfl 1 rfl 0 rfl;go_still_tail 5, (by kernel_rfl)
 change wpList _ _ _ _ _ u1.drew
 replace G := lh G.out.drew.nil;clear c x;go_wp2_with (go_at_call 43; refine G.out.call H1.out HS1.out ?_; intro u2 G)
 have c := HF.out _ _ G.out.g;go_end0
 exact G.out.end (fun _ h => h) (by simp)
theorem x_or {a : Int} {s : ByteArray} {K : List Ty} {ws : List ByteArray} {k : Nat} (h1 : CF 84 (some (.int .i64 k)) (.mk 17 a s 0 K) ws) {B pb : Nat} {v0 : Value} {w0 : World} {bs : List Bx} {ao : Option Addr} {cap nb xb kb : Nat} (m0 : (nb, #[.int .i64 17, .int .i64 a, .string s, .int .i64 0, .slice ao K.length cap], 26) ∈ bs) (m1 : (xb, #[pp pb], 43) ∈ bs) (m2 : (kb, #[.int .i64 k], 3) ∈ bs) (hS : SlD w0 (fun b => b < B) K ao cap) : CV 83 #[.pointer (some ⟨nb, 0, none⟩), .pointer (some ⟨xb, 0, none⟩), .pointer (some ⟨kb, 0, none⟩)] (ws) B pb v0 w0 bs := by
 refine ⟨fun {l W} h => ?_⟩;have G := lh h;have HF := lh (fun (l : List ByteArray) (W : World) (g : Gp B pb v0 w0 l W bs) => And.intro (jM (g.at m0)) (And.intro (jV (g.at m1)) (jV (g.at m2))));have HS : Hid (SlD w0 (fun b => b < B) K ao cap) := lh hS;have H1 := lh h1;have c := HF.out _ _ G.out.g;clear h hS h1 m0 m1 m2;go_enter Tryz.func83, Tryz.ntmps83
 replace G := lh G.out.nil;go_wp2_with (go_at_call 84; refine G.out.call H1.out (n := .mk 17 a s 0 K) HS.out ?_; intro u1 G)
 have c := HF.out _ _ G.out.g;go_end0
 exact G.out.end (fun _ h => h) (by simp)
theorem x_and {a : Int} {s : ByteArray} {K : List Ty} {ws : List ByteArray} {k : Nat} (h1 : CF 84 (some (.int .i64 k)) (.mk 16 a s 0 K) ws) {B pb : Nat} {v0 : Value} {w0 : World} {bs : List Bx} {ao : Option Addr} {cap nb xb kb : Nat} (m0 : (nb, #[.int .i64 16, .int .i64 a, .string s, .int .i64 0, .slice ao K.length cap], 26) ∈ bs) (m1 : (xb, #[pp pb], 43) ∈ bs) (m2 : (kb, #[.int .i64 k], 3) ∈ bs) (hS : SlD w0 (fun b => b < B) K ao cap) : CV 83 #[.pointer (some ⟨nb, 0, none⟩), .pointer (some ⟨xb, 0, none⟩), .pointer (some ⟨kb, 0, none⟩)] (ws) B pb v0 w0 bs := by
 refine ⟨fun {l W} h => ?_⟩;have G := lh h;have HF := lh (fun (l : List ByteArray) (W : World) (g : Gp B pb v0 w0 l W bs) => And.intro (jM (g.at m0)) (And.intro (jV (g.at m1)) (jV (g.at m2))));have HS : Hid (SlD w0 (fun b => b < B) K ao cap) := lh hS;have H1 := lh h1;have c := HF.out _ _ G.out.g;clear h hS h1 m0 m1 m2;go_enter Tryz.func83, Tryz.ntmps83
 replace G := lh G.out.nil;go_wp2_with (go_at_call 84; refine G.out.call H1.out (n := .mk 16 a s 0 K) HS.out ?_; intro u1 G)
 have c := HF.out _ _ G.out.g;go_end0
 exact G.out.end (fun _ h => h) (by simp)
theorem x_op {a : Int} {s : ByteArray} {K : List Ty} {ws : List ByteArray} {k : Nat} (h1 : CF 84 (some (.int .i64 k)) (.mk 18 a s 0 K) ws) {B pb : Nat} {v0 : Value} {w0 : World} {bs : List Bx} {ao : Option Addr} {cap nb xb kb : Nat} (m0 : (nb, #[.int .i64 18, .int .i64 a, .string s, .int .i64 0, .slice ao K.length cap], 26) ∈ bs) (m1 : (xb, #[pp pb], 43) ∈ bs) (m2 : (kb, #[.int .i64 k], 3) ∈ bs) (hS : SlD w0 (fun b => b < B) K ao cap) : CV 83 #[.pointer (some ⟨nb, 0, none⟩), .pointer (some ⟨xb, 0, none⟩), .pointer (some ⟨kb, 0, none⟩)] (ws) B pb v0 w0 bs := by
 refine ⟨fun {l W} h => ?_⟩;have G := lh h;have HF := lh (fun (l : List ByteArray) (W : World) (g : Gp B pb v0 w0 l W bs) => And.intro (jM (g.at m0)) (And.intro (jV (g.at m1)) (jV (g.at m2))));have HS : Hid (SlD w0 (fun b => b < B) K ao cap) := lh hS;have H1 := lh h1;have c := HF.out _ _ G.out.g;clear h hS h1 m0 m1 m2;go_enter Tryz.func83, Tryz.ntmps83
 replace G := lh G.out.nil;go_wp2_with (go_at_call 84; refine G.out.call H1.out (n := .mk 18 a s 0 K) HS.out ?_; intro u1 G)
 have c := HF.out _ _ G.out.g;go_end0
 exact G.out.end (fun _ h => h) (by simp)
theorem x_cl {k a q : Int} {s : ByteArray} {K : List Ty} {ws : List ByteArray} (hk : k ≠ 17 ∧ k ≠ 16 ∧ k ≠ 18 ∧ k ≠ 8 ∧ k ≠ 7 ∧ k ≠ 9 ∧ k ≠ 13) (h1 : CF 86 none (.mk k a s q K) ws) {B pb : Nat} {v0 : Value} {w0 : World} {bs : List Bx} {ao : Option Addr} {cap nb xb kb : Nat} (m0 : (nb, #[.int .i64 k, .int .i64 a, .string s, .int .i64 q, .slice ao K.length cap], 26) ∈ bs) (m1 : (xb, #[pp pb], 43) ∈ bs) (hS : SlD w0 (fun b => b < B) K ao cap) : CV 83 #[.pointer (some ⟨nb, 0, none⟩), .pointer (some ⟨xb, 0, none⟩), .pointer (some ⟨kb, 0, none⟩)] (ws) B pb v0 w0 bs := by
 refine ⟨fun {l W} h => ?_⟩;have G := lh h;have HF := lh (fun (l : List ByteArray) (W : World) (g : Gp B pb v0 w0 l W bs) => And.intro (jM (g.at m0)) (jV (g.at m1)));have HS : Hid (SlD w0 (fun b => b < B) K ao cap) := lh hS;have H1 := lh h1;have c := HF.out _ _ G.out.g;have e17 : (k == 17) = false := by simp; omega
 have e16 : (k == 16) = false := by simp; omega
 have e18 : (k == 18) = false := by simp; omega
 have e8 : (k == 8) = false := by simp; omega
 have e7 : (k == 7) = false := by simp; omega
 have e9 : (k == 9) = false := by simp; omega
 have e13 : (k == 13) = false := by simp; omega
 clear hk;clear h hS h1 m0 m1;go_enter Tryz.func83, Tryz.ntmps83
 replace G := lh G.out.nil;go_wp2_with (go_at_call 86; refine G.out.call H1.out (n := .mk k a s q K) HS.out ?_; intro u1 G)
 have c := HF.out _ _ G.out.g;go_end0
 exact G.out.end (fun _ h => h) (by simp)
theorem x_if {a : Int} {x y z : Ty} {xw yw zw : List ByteArray} (h1 : CF 43 (some (.int .i64 0)) x xw) (h2 : CF 43 (some (.int .i64 0)) y yw) (h3 : CF 43 (some (.int .i64 0)) z zw) {B pb : Nat} {v0 : Value} {w0 : World} {bs : List Bx} {ao : Option Addr} {cap nb xb kb : Nat} (m0 : (nb, #[.int .i64 9, .int .i64 a, .string e_, .int .i64 0, .slice ao 3 cap], 26) ∈ bs) (m1 : (xb, #[pp pb], 43) ∈ bs) (hS : SlD w0 (fun b => b < B) [x, y, z] ao cap) : CV 83 #[.pointer (some ⟨nb, 0, none⟩), .pointer (some ⟨xb, 0, none⟩), .pointer (some ⟨kb, 0, none⟩)] (w_if :: (xw ++ w_then :: (yw ++ w_else :: zw))) B pb v0 w0 bs := by
 refine ⟨fun {l W} h => ?_⟩;have G := lh h;have HF := lh (fun (l : List ByteArray) (W : World) (bs2 : List Bx) (hb : ∀ x ∈ bs, x ∈ bs2) (g : Gp B pb v0 w0 l W bs2) => And.intro (jM (g.at (hb _ m0))) (jV (g.at (hb _ m1))));have HS : Hid (SlD w0 (fun b => b < B) [x, y, z] ao cap) := lh hS;have H1 := lh h1;have H2 := lh h2;have H3 := lh h3;have c := HF.out _ _ _ (fun _ h => h) G.out.g;clear h hS h1 h2 h3 m0 m1;go_enter Tryz.func83, Tryz.ntmps83
 go_upto_region 16 with fail
 obtain ⟨V, hV⟩ : ∃ V, V = W.alloc (.cells #[.string w_if, .string w_then, .string w_else] 9) := ⟨_, rfl⟩
 replace G := lh (G.out.box hV);rw [← hV];clear hV c;obtain ⟨wb, hwb⟩ : ∃ wb, wb = W.heap.size := ⟨_, rfl⟩
 rw [← hwb] at G ⊢;have HSt : Hid (∀ k : Nat, k = 0 ∨ k = 1 ∨ k = 2 ∨ k = 3 → True) := lh (fun _ _ => trivial);clear HSt hwb;go_wp2_with fail
 go_loopw [3, 4, 56] (fun _ _ i wr => (i = .int .i64 0 ∧ Gt B pb v0 w0 l (w_if :: (xw ++ w_then :: (yw ++ w_else :: zw))) wr ((wb, #[.string w_if, .string w_then, .string w_else], 9) :: bs)) ∨ (i = .int .i64 1 ∧ Gt B pb v0 w0 (l ++ [w_if] ++ xw) (w_then :: (yw ++ w_else :: zw)) wr ((wb, #[.string w_if, .string w_then, .string w_else], 9) :: bs)) ∨ (i = .int .i64 2 ∧ Gt B pb v0 w0 (l ++ [w_if] ++ xw ++ [w_then] ++ yw) (w_else :: zw) wr ((wb, #[.string w_if, .string w_then, .string w_else], 9) :: bs)) ∨ (i = .int .i64 3 ∧ Gt B pb v0 w0 (l ++ [w_if] ++ xw ++ [w_then] ++ yw ++ [w_else] ++ zw) [] wr ((wb, #[.string w_if, .string w_then, .string w_else], 9) :: bs))) (fun _ _ i _ => 3 - (Lib.intOf i).toNat)
 case atStart => exact .inl ⟨rfl, G.out⟩
 case round =>
  have HB : Hid (∀ x ∈ bs, x ∈ ((wb, #[.string w_if, .string w_then, .string w_else], 9) :: bs)) := lh (fun _ h => List.mem_cons_of_mem _ h);rcases hrel with ⟨rfl, hg⟩ | ⟨rfl, hg⟩ | ⟨rfl, hg⟩ | ⟨rfl, hg⟩
  · have G := lh hg;clear hg;have c := HF.out _ _ _ HB.out G.out.g;have c2 : wr.cell? ⟨wb, 0, none⟩ = some (.string w_if) := ja G.out.g.hd 0;go_upto_region 19 with (go_at_call 85; refine G.out.put ?_; intro u1 G)
    have c := HF.out _ _ _ HB.out G.out.g;obtain ⟨b, p9, ap, cp, HS1, x9⟩ := G.out.kid HS.out 0 x rfl 3 rfl 0 rfl;go_still_tail 6, (by kernel_rfl)
    change wpList _ _ _ _ _ u1.drew
    replace G := lh G.out.drew;clear c c2 x9;go_wp2_with (go_at_call 43; refine G.out.call H1.out HS1.out ?_; intro u2 G)
    go_roundw
    case rel => exact .inr (.inl ⟨rfl, G.out⟩)
    case measure => simp [Lib.intOf]
  · have G := lh hg;clear hg;have c := HF.out _ _ _ HB.out G.out.g;have c2 : wr.cell? ⟨wb, 1, none⟩ = some (.string w_then) := ja G.out.g.hd 1;go_upto_region 19 with (go_at_call 85; refine G.out.put ?_; intro u1 G)
    have c := HF.out _ _ _ HB.out G.out.g;obtain ⟨b, p9, ap, cp, HS1, x9⟩ := G.out.kid HS.out 1 y rfl 3 rfl 1 rfl;go_still_tail 6, (by kernel_rfl)
    change wpList _ _ _ _ _ u1.drew
    replace G := lh G.out.drew;clear c c2 x9;go_wp2_with (go_at_call 43; refine G.out.call H2.out HS1.out ?_; intro u2 G)
    go_roundw
    case rel => exact .inr (.inr (.inl ⟨rfl, G.out⟩))
    case measure => simp [Lib.intOf]
  · have G := lh hg;clear hg;have c := HF.out _ _ _ HB.out G.out.g;have c2 : wr.cell? ⟨wb, 2, none⟩ = some (.string w_else) := ja G.out.g.hd 2;go_upto_region 19 with (go_at_call 85; refine G.out.put ?_; intro u1 G)
    have c := HF.out _ _ _ HB.out G.out.g;obtain ⟨b, p9, ap, cp, HS1, x9⟩ := G.out.kid HS.out 2 z rfl 3 rfl 2 rfl;go_still_tail 6, (by kernel_rfl)
    change wpList _ _ _ _ _ u1.drew
    replace G := lh G.out.drew.nil;clear c c2 x9;go_wp2_with (go_at_call 43; refine G.out.call H3.out HS1.out ?_; intro u2 G)
    go_roundw
    case rel => exact .inr (.inr (.inr ⟨rfl, G.out⟩))
    case measure => simp [Lib.intOf]
  · have G := lh hg;clear hg;go_wp2_with fail
    go_end0
    exact G.out.end HB.out (by simp)
theorem mupd (es : Array MapEntry) (n : Nat) (k : Int) (v : Value) (w : World) (h : Instr.findNow (.int .i64) (.int .i64 k) es.toList 0 = some none) : (Instr.mapUpdate 121 (.map (some w.heap.size)) (.int .i64 k) v).run Tryz.prog (w.alloc (.map es n)) = .ok () (w.alloc (.map (es.push { key := .int .i64 k, val := v, born := n }) (n + 1))) := by
 have hb := heap_alloc_new w (.map es n);have hc : (Instr.checkKey false 10000 3 (.int .i64 k)).run Tryz.prog (w.alloc (.map es n)) = .ok () (w.alloc (.map es n)) := MapKept.run_checkKey (k := .int .i64 k) Tryz.underlying3 (by simp [MapKept.IsKey]) false 9999
 have hs : (w.alloc (.map es n)).heap.setIfInBounds w.heap.size (.map (es.push { key := .int .i64 k, val := v, born := n }) (n + 1)) = (w.alloc (.map (es.push { key := .int .i64 k, val := v, born := n }) (n + 1))).heap := by
  show (w.heap.push _).setIfInBounds w.heap.size _ = w.heap.push _
  apply Array.ext'
  simp
 simp [Instr.mapUpdate, run_underlying Tryz.underlying121, MapKept.run_getObj_map hb, hc, MapKept.run_findKey Tryz.underlying3 h, MapKept.run_setObj_map _ hb, Result.andThen]
 rw [hs];rfl
theorem mlook (es : Array MapEntry) (n : Nat) (k : Int) (v : Value) (i : Nat) (w : World) (h : Instr.findNow (.int .i64) (.int .i64 k) es.toList 0 = some (some (i, v))) : (Instr.lookup 121 (.map (some w.heap.size)) (.int .i64 k) false).run Tryz.prog (w.alloc (.map es n)) = .ok v (w.alloc (.map es n)) := by
 have hb := heap_alloc_new w (.map es n);have hc : (Instr.checkKey es.isEmpty 10000 3 (.int .i64 k)).run Tryz.prog (w.alloc (.map es n)) = .ok () (w.alloc (.map es n)) := MapKept.run_checkKey (k := .int .i64 k) Tryz.underlying3 (by simp [MapKept.IsKey]) _ 9999;simp [Instr.lookup, run_underlying Tryz.underlying121, MapKept.run_getObj_map hb, hc, MapKept.run_findKey Tryz.underlying3 h, Result.andThen]
theorem mops (s : ByteArray) (V : World) (k : Int) (i : Nat) {v : Value} (h : Instr.findNow (.int .i64) (.int .i64 k) [{ key := .int .i64 17, val := .string w_orelse, born := 0 }, { key := .int .i64 16, val := .string w_andalso, born := 1 }, { key := .int .i64 18, val := .string s, born := 2 }] 0 = some (some (i, v))) : ∃ V2, V2 = V.alloc (.map #[{ key := .int .i64 17, val := .string w_orelse, born := 0 }, { key := .int .i64 16, val := .string w_andalso, born := 1 }, { key := .int .i64 18, val := .string s, born := 2 }] 3) ∧ (Instr.makeMap 121 none).run Tryz.prog V = .ok (.map (some V.heap.size)) (V.alloc (.map #[] 0)) ∧ (Instr.mapUpdate 121 (.map (some V.heap.size)) (.int .i64 17) (.string w_orelse)).run Tryz.prog (V.alloc (.map #[] 0)) = .ok () (V.alloc (.map #[{ key := .int .i64 17, val := .string w_orelse, born := 0 }] 1)) ∧ (Instr.mapUpdate 121 (.map (some V.heap.size)) (.int .i64 16) (.string w_andalso)).run Tryz.prog (V.alloc (.map #[{ key := .int .i64 17, val := .string w_orelse, born := 0 }] 1)) = .ok () (V.alloc (.map #[{ key := .int .i64 17, val := .string w_orelse, born := 0 }, { key := .int .i64 16, val := .string w_andalso, born := 1 }] 2)) ∧ (Instr.mapUpdate 121 (.map (some V.heap.size)) (.int .i64 18) (.string s)).run Tryz.prog (V.alloc (.map #[{ key := .int .i64 17, val := .string w_orelse, born := 0 }, { key := .int .i64 16, val := .string w_andalso, born := 1 }] 2)) = .ok () (V.alloc (.map #[{ key := .int .i64 17, val := .string w_orelse, born := 0 }, { key := .int .i64 16, val := .string w_andalso, born := 1 }, { key := .int .i64 18, val := .string s, born := 2 }] 3)) ∧ (Instr.lookup 121 (.map (some V.heap.size)) (.int .i64 k) false).run Tryz.prog (V.alloc (.map #[{ key := .int .i64 17, val := .string w_orelse, born := 0 }, { key := .int .i64 16, val := .string w_andalso, born := 1 }, { key := .int .i64 18, val := .string s, born := 2 }] 3)) = .ok v (V.alloc (.map #[{ key := .int .i64 17, val := .string w_orelse, born := 0 }, { key := .int .i64 16, val := .string w_andalso, born := 1 }, { key := .int .i64 18, val := .string s, born := 2 }] 3)) :=
 ⟨_, rfl, rfl, mupd _ 0 17 _ V rfl, mupd _ 1 16 _ V rfl, mupd _ 2 18 _ V rfl, mlook _ 3 k _ i V h⟩
theorem o_un {a : Int} {s : ByteArray} {x : Ty} {xw : List ByteArray} (h1 : CF 43 (some (.int .i64 9)) x xw) : CF 84 (some (.int .i64 9)) (.mk 18 a s 0 [x]) (s :: xw) := by
 refine ⟨fun {B pb v0 w0 l W bs ao cap} h hS => ?_⟩;obtain ⟨V, hV, G, HF⟩ := h.b1 18 a s 0 (.slice ao 1 cap);have HS : Hid (SlD w0 (fun b => b < B) [x] ao cap) := lh hS;have H1 := lh h1;have c := HF.out _ _ G.out.g;clear h hS h1
 show Calls Tryz.prog 84 #[pp pb, .agg #[.int .i64 18, .int .i64 a, .string s, .int .i64 0, .slice ao 1 cap], (.int .i64 9)] W _
 go_enter Tryz.func84, Tryz.ntmps84
 go_upto_region 1 with fail
 rw [← hV];clear hV;obtain ⟨V2, hV2, m0, m1, m2, m3, m4⟩ := mops s V 18 2 rfl;have c5 := fun (m : Array MapEntry) (n : Nat) => jM (js G.out.g.hd (.map m n))
 go_upto_region 2 with fail
 replace G := lh (G.out.al hV2);rw [← hV2];clear hV2 m0 m1 m2 m3 m4 c c5;have c := HF.out _ _ G.out.g;go_upto_region 4 with (go_at_call 85; refine G.out.put ?_; intro u1 G)
 have c := HF.out _ _ G.out.g;obtain ⟨b, p9, ap, cp, HS1, x⟩ := G.out.kid HS.out 0 x rfl 1 rfl 0 rfl;replace G := lh G.out.nil;go_wp2_with (go_at_call 43; refine G.out.call H1.out HS1.out ?_; intro u2 G)
 have c := HF.out _ _ G.out.g;go_end0
 exact G.out.end j1 (by simp)
theorem o_or {a : Int} {s : ByteArray} {x y : Ty} {xw yw : List ByteArray} (h1 : CF 43 (some (.int .i64 2)) x xw) (h2 : CF 43 (some (.int .i64 3)) y yw) : CF 84 (some (.int .i64 2)) (.mk 17 a s 0 [x, y]) (xw ++ w_orelse :: yw) := by
 refine ⟨fun {B pb v0 w0 l W bs ao cap} h hS => ?_⟩;obtain ⟨V, hV, G, HF⟩ := h.b1 17 a s 0 (.slice ao 2 cap);have HS : Hid (SlD w0 (fun b => b < B) [x, y] ao cap) := lh hS;have H1 := lh h1;have H2 := lh h2;have c := HF.out _ _ G.out.g;clear h hS h1 h2
 show Calls Tryz.prog 84 #[pp pb, .agg #[.int .i64 17, .int .i64 a, .string s, .int .i64 0, .slice ao 2 cap], (.int .i64 2)] W _
 go_enter Tryz.func84, Tryz.ntmps84
 go_upto_region 1 with fail
 rw [← hV];clear hV;obtain ⟨V2, hV2, m0, m1, m2, m3, m4⟩ := mops s V 17 0 rfl;have c5 := fun (m : Array MapEntry) (n : Nat) => jM (js G.out.g.hd (.map m n))
 go_upto_region 2 with fail
 replace G := lh (G.out.al hV2);rw [← hV2];clear hV2 m0 m1 m2 m3 m4 c c5;have c := HF.out _ _ G.out.g;have g : V2.cell? ⟨2, 3, none⟩ = some (.int .i64 1) := (G.out.g.gl.lv.1 1 (by omega)).2;go_upto_region 11 with fail
 obtain ⟨b, p9, ap, cp, HS1, x⟩ := G.out.kid HS.out 0 x rfl 2 rfl 0 rfl;go_upto_region 12 with (go_at_call 43; refine G.out.call H1.out HS1.out ?_; intro u1 G)
 have c := HF.out _ _ G.out.g;go_upto_region 13 with (go_at_call 85; refine G.out.put ?_; intro u2 G)
 have c := HF.out _ _ G.out.g;obtain ⟨b, p9, ap, cp, HS1, x⟩ := G.out.kid HS.out 1 y rfl 2 rfl 1 rfl;replace G := lh G.out.nil;go_wp2_with (go_at_call 43; refine G.out.call H2.out HS1.out ?_; intro u3 G)
 have c := HF.out _ _ G.out.g;go_end0
 exact G.out.end j1 (by simp)
theorem o_and {a : Int} {s : ByteArray} {x y : Ty} {xw yw : List ByteArray} (h1 : CF 43 (some (.int .i64 3)) x xw) (h2 : CF 43 (some (.int .i64 4)) y yw) : CF 84 (some (.int .i64 3)) (.mk 16 a s 0 [x, y]) (xw ++ w_andalso :: yw) := by
 refine ⟨fun {B pb v0 w0 l W bs ao cap} h hS => ?_⟩;obtain ⟨V, hV, G, HF⟩ := h.b1 16 a s 0 (.slice ao 2 cap);have HS : Hid (SlD w0 (fun b => b < B) [x, y] ao cap) := lh hS;have H1 := lh h1;have H2 := lh h2;have c := HF.out _ _ G.out.g;clear h hS h1 h2
 show Calls Tryz.prog 84 #[pp pb, .agg #[.int .i64 16, .int .i64 a, .string s, .int .i64 0, .slice ao 2 cap], (.int .i64 3)] W _
 go_enter Tryz.func84, Tryz.ntmps84
 go_upto_region 1 with fail
 rw [← hV];clear hV;obtain ⟨V2, hV2, m0, m1, m2, m3, m4⟩ := mops s V 16 1 rfl;have c5 := fun (m : Array MapEntry) (n : Nat) => jM (js G.out.g.hd (.map m n))
 go_upto_region 2 with fail
 replace G := lh (G.out.al hV2);rw [← hV2];clear hV2 m0 m1 m2 m3 m4 c c5;have c := HF.out _ _ G.out.g;have g : V2.cell? ⟨2, 5, none⟩ = some (.int .i64 1) := (G.out.g.gl.lv.1 2 (by omega)).2;go_upto_region 11 with fail
 obtain ⟨b, p9, ap, cp, HS1, x⟩ := G.out.kid HS.out 0 x rfl 2 rfl 0 rfl;go_upto_region 12 with (go_at_call 43; refine G.out.call H1.out HS1.out ?_; intro u1 G)
 have c := HF.out _ _ G.out.g;go_upto_region 13 with (go_at_call 85; refine G.out.put ?_; intro u2 G)
 have c := HF.out _ _ G.out.g;obtain ⟨b, p9, ap, cp, HS1, x⟩ := G.out.kid HS.out 1 y rfl 2 rfl 1 rfl;replace G := lh G.out.nil;go_wp2_with (go_at_call 43; refine G.out.call H2.out HS1.out ?_; intro u3 G)
 have c := HF.out _ _ G.out.g;go_end0
 exact G.out.end j1 (by simp)
theorem o_op1 {a : Int} {s : ByteArray} {x y : Ty} {xw yw : List ByteArray} (h1 : CF 43 (some (.int .i64 2)) x xw) (h2 : CF 43 (some (.int .i64 2)) y yw) : CF 84 (some (.int .i64 1)) (.mk 18 a s 0 [x, y]) (xw ++ s :: yw) := by
 refine ⟨fun {B pb v0 w0 l W bs ao cap} h hS => ?_⟩;obtain ⟨V, hV, G, HF⟩ := h.b1 18 a s 0 (.slice ao 2 cap);have HS : Hid (SlD w0 (fun b => b < B) [x, y] ao cap) := lh hS;have H1 := lh h1;have H2 := lh h2;have c := HF.out _ _ G.out.g;clear h hS h1 h2
 show Calls Tryz.prog 84 #[pp pb, .agg #[.int .i64 18, .int .i64 a, .string s, .int .i64 0, .slice ao 2 cap], (.int .i64 1)] W _
 go_enter Tryz.func84, Tryz.ntmps84
 go_upto_region 1 with fail
 rw [← hV];clear hV;obtain ⟨V2, hV2, m0, m1, m2, m3, m4⟩ := mops s V 18 2 rfl;have c5 := fun (m : Array MapEntry) (n : Nat) => jM (js G.out.g.hd (.map m n))
 go_upto_region 2 with fail
 replace G := lh (G.out.al hV2);rw [← hV2];clear hV2 m0 m1 m2 m3 m4 c c5;have c := HF.out _ _ G.out.g;have g : V2.cell? ⟨2, 1, none⟩ = some (.int .i64 0) := (G.out.g.gl.lv.1 0 (by omega)).2;go_upto_region 11 with fail
 obtain ⟨b, p9, ap, cp, HS1, x⟩ := G.out.kid HS.out 0 x rfl 2 rfl 0 rfl;go_upto_region 12 with (go_at_call 43; refine G.out.call H1.out HS1.out ?_; intro u1 G)
 have c := HF.out _ _ G.out.g;go_upto_region 13 with (go_at_call 85; refine G.out.put ?_; intro u2 G)
 have c := HF.out _ _ G.out.g;obtain ⟨b, p9, ap, cp, HS1, x⟩ := G.out.kid HS.out 1 y rfl 2 rfl 1 rfl;replace G := lh G.out.nil;go_wp2_with (go_at_call 43; refine G.out.call H2.out HS1.out ?_; intro u3 G)
 have c := HF.out _ _ G.out.g;go_end0
 exact G.out.end j1 (by simp)
theorem o_op4 {a : Int} {s : ByteArray} {x y : Ty} {xw yw : List ByteArray} (h1 : CF 43 (some (.int .i64 5)) x xw) (h2 : CF 43 (some (.int .i64 5)) y yw) : CF 84 (some (.int .i64 4)) (.mk 18 a s 0 [x, y]) (xw ++ s :: yw) := by
 refine ⟨fun {B pb v0 w0 l W bs ao cap} h hS => ?_⟩;obtain ⟨V, hV, G, HF⟩ := h.b1 18 a s 0 (.slice ao 2 cap);have HS : Hid (SlD w0 (fun b => b < B) [x, y] ao cap) := lh hS;have H1 := lh h1;have H2 := lh h2;have c := HF.out _ _ G.out.g;clear h hS h1 h2
 show Calls Tryz.prog 84 #[pp pb, .agg #[.int .i64 18, .int .i64 a, .string s, .int .i64 0, .slice ao 2 cap], (.int .i64 4)] W _
 go_enter Tryz.func84, Tryz.ntmps84
 go_upto_region 1 with fail
 rw [← hV];clear hV;obtain ⟨V2, hV2, m0, m1, m2, m3, m4⟩ := mops s V 18 2 rfl;have c5 := fun (m : Array MapEntry) (n : Nat) => jM (js G.out.g.hd (.map m n))
 go_upto_region 2 with fail
 replace G := lh (G.out.al hV2);rw [← hV2];clear hV2 m0 m1 m2 m3 m4 c c5;have c := HF.out _ _ G.out.g;have g : V2.cell? ⟨2, 7, none⟩ = some (.int .i64 0) := (G.out.g.gl.lv.1 3 (by omega)).2;go_upto_region 11 with fail
 obtain ⟨b, p9, ap, cp, HS1, x⟩ := G.out.kid HS.out 0 x rfl 2 rfl 0 rfl;go_upto_region 12 with (go_at_call 43; refine G.out.call H1.out HS1.out ?_; intro u1 G)
 have c := HF.out _ _ G.out.g;go_upto_region 13 with (go_at_call 85; refine G.out.put ?_; intro u2 G)
 have c := HF.out _ _ G.out.g;obtain ⟨b, p9, ap, cp, HS1, x⟩ := G.out.kid HS.out 1 y rfl 2 rfl 1 rfl;replace G := lh G.out.nil;go_wp2_with (go_at_call 43; refine G.out.call H2.out HS1.out ?_; intro u3 G)
 have c := HF.out _ _ G.out.g;go_end0
 exact G.out.end j1 (by simp)
theorem o_op5 {a : Int} {s : ByteArray} {x y : Ty} {xw yw : List ByteArray} (h1 : CF 43 (some (.int .i64 6)) x xw) (h2 : CF 43 (some (.int .i64 5)) y yw) : CF 84 (some (.int .i64 5)) (.mk 18 a s 0 [x, y]) (xw ++ s :: yw) := by
 refine ⟨fun {B pb v0 w0 l W bs ao cap} h hS => ?_⟩;obtain ⟨V, hV, G, HF⟩ := h.b1 18 a s 0 (.slice ao 2 cap);have HS : Hid (SlD w0 (fun b => b < B) [x, y] ao cap) := lh hS;have H1 := lh h1;have H2 := lh h2;have c := HF.out _ _ G.out.g;clear h hS h1 h2
 show Calls Tryz.prog 84 #[pp pb, .agg #[.int .i64 18, .int .i64 a, .string s, .int .i64 0, .slice ao 2 cap], (.int .i64 5)] W _
 go_enter Tryz.func84, Tryz.ntmps84
 go_upto_region 1 with fail
 rw [← hV];clear hV;obtain ⟨V2, hV2, m0, m1, m2, m3, m4⟩ := mops s V 18 2 rfl;have c5 := fun (m : Array MapEntry) (n : Nat) => jM (js G.out.g.hd (.map m n))
 go_upto_region 2 with fail
 replace G := lh (G.out.al hV2);rw [← hV2];clear hV2 m0 m1 m2 m3 m4 c c5;have c := HF.out _ _ G.out.g;have g : V2.cell? ⟨2, 9, none⟩ = some (.int .i64 2) := (G.out.g.gl.lv.1 4 (by omega)).2;go_upto_region 11 with fail
 obtain ⟨b, p9, ap, cp, HS1, x⟩ := G.out.kid HS.out 0 x rfl 2 rfl 0 rfl;go_upto_region 12 with (go_at_call 43; refine G.out.call H1.out HS1.out ?_; intro u1 G)
 have c := HF.out _ _ G.out.g;go_upto_region 13 with (go_at_call 85; refine G.out.put ?_; intro u2 G)
 have c := HF.out _ _ G.out.g;obtain ⟨b, p9, ap, cp, HS1, x⟩ := G.out.kid HS.out 1 y rfl 2 rfl 1 rfl;replace G := lh G.out.nil;go_wp2_with (go_at_call 43; refine G.out.call H2.out HS1.out ?_; intro u3 G)
 have c := HF.out _ _ G.out.g;go_end0
 exact G.out.end j1 (by simp)
theorem o_op6 {a : Int} {s : ByteArray} {x y : Ty} {xw yw : List ByteArray} (h1 : CF 43 (some (.int .i64 6)) x xw) (h2 : CF 43 (some (.int .i64 7)) y yw) : CF 84 (some (.int .i64 6)) (.mk 18 a s 0 [x, y]) (xw ++ s :: yw) := by
 refine ⟨fun {B pb v0 w0 l W bs ao cap} h hS => ?_⟩;obtain ⟨V, hV, G, HF⟩ := h.b1 18 a s 0 (.slice ao 2 cap);have HS : Hid (SlD w0 (fun b => b < B) [x, y] ao cap) := lh hS;have H1 := lh h1;have H2 := lh h2;have c := HF.out _ _ G.out.g;clear h hS h1 h2
 show Calls Tryz.prog 84 #[pp pb, .agg #[.int .i64 18, .int .i64 a, .string s, .int .i64 0, .slice ao 2 cap], (.int .i64 6)] W _
 go_enter Tryz.func84, Tryz.ntmps84
 go_upto_region 1 with fail
 rw [← hV];clear hV;obtain ⟨V2, hV2, m0, m1, m2, m3, m4⟩ := mops s V 18 2 rfl;have c5 := fun (m : Array MapEntry) (n : Nat) => jM (js G.out.g.hd (.map m n))
 go_upto_region 2 with fail
 replace G := lh (G.out.al hV2);rw [← hV2];clear hV2 m0 m1 m2 m3 m4 c c5;have c := HF.out _ _ G.out.g;have g : V2.cell? ⟨2, 11, none⟩ = some (.int .i64 1) := (G.out.g.gl.lv.1 5 (by omega)).2;go_upto_region 11 with fail
 obtain ⟨b, p9, ap, cp, HS1, x⟩ := G.out.kid HS.out 0 x rfl 2 rfl 0 rfl;go_upto_region 12 with (go_at_call 43; refine G.out.call H1.out HS1.out ?_; intro u1 G)
 have c := HF.out _ _ G.out.g;go_upto_region 13 with (go_at_call 85; refine G.out.put ?_; intro u2 G)
 have c := HF.out _ _ G.out.g;obtain ⟨b, p9, ap, cp, HS1, x⟩ := G.out.kid HS.out 1 y rfl 2 rfl 1 rfl;replace G := lh G.out.nil;go_wp2_with (go_at_call 43; refine G.out.call H2.out HS1.out ?_; intro u3 G)
 have c := HF.out _ _ G.out.g;go_end0
 exact G.out.end j1 (by simp)
theorem o_op7 {a : Int} {s : ByteArray} {x y : Ty} {xw yw : List ByteArray} (h1 : CF 43 (some (.int .i64 7)) x xw) (h2 : CF 43 (some (.int .i64 8)) y yw) : CF 84 (some (.int .i64 7)) (.mk 18 a s 0 [x, y]) (xw ++ s :: yw) := by
 refine ⟨fun {B pb v0 w0 l W bs ao cap} h hS => ?_⟩;obtain ⟨V, hV, G, HF⟩ := h.b1 18 a s 0 (.slice ao 2 cap);have HS : Hid (SlD w0 (fun b => b < B) [x, y] ao cap) := lh hS;have H1 := lh h1;have H2 := lh h2;have c := HF.out _ _ G.out.g;clear h hS h1 h2
 show Calls Tryz.prog 84 #[pp pb, .agg #[.int .i64 18, .int .i64 a, .string s, .int .i64 0, .slice ao 2 cap], (.int .i64 7)] W _
 go_enter Tryz.func84, Tryz.ntmps84
 go_upto_region 1 with fail
 rw [← hV];clear hV;obtain ⟨V2, hV2, m0, m1, m2, m3, m4⟩ := mops s V 18 2 rfl;have c5 := fun (m : Array MapEntry) (n : Nat) => jM (js G.out.g.hd (.map m n))
 go_upto_region 2 with fail
 replace G := lh (G.out.al hV2);rw [← hV2];clear hV2 m0 m1 m2 m3 m4 c c5;have c := HF.out _ _ G.out.g;have g : V2.cell? ⟨2, 13, none⟩ = some (.int .i64 1) := (G.out.g.gl.lv.1 6 (by omega)).2;go_upto_region 11 with fail
 obtain ⟨b, p9, ap, cp, HS1, x⟩ := G.out.kid HS.out 0 x rfl 2 rfl 0 rfl;go_upto_region 12 with (go_at_call 43; refine G.out.call H1.out HS1.out ?_; intro u1 G)
 have c := HF.out _ _ G.out.g;go_upto_region 13 with (go_at_call 85; refine G.out.put ?_; intro u2 G)
 have c := HF.out _ _ G.out.g;obtain ⟨b, p9, ap, cp, HS1, x⟩ := G.out.kid HS.out 1 y rfl 2 rfl 1 rfl;replace G := lh G.out.nil;go_wp2_with (go_at_call 43; refine G.out.call H2.out HS1.out ?_; intro u3 G)
 have c := HF.out _ _ G.out.g;go_end0
 exact G.out.end j1 (by simp)
theorem one131 {B pb xb : Nat} {v0 : Value} {w0 : World} {bs : List Bx} (m : (xb, #[pp pb], 43) ∈ bs) : OneC 131 #[] #[.pointer (some ⟨xb, 0, none⟩)] (CF 43 (some (.int .i64 0))) B pb v0 w0 bs := by
 refine ⟨fun _ _ => rfl, fun {x ws} hp {l W ao cap} h hS => ?_⟩;rw [show (#[] ++ #[Value.agg (jh x ao cap)] ++ #[.pointer (some ⟨xb, 0, none⟩)] : Array Value) = #[.agg (jh x ao cap), .pointer (some ⟨xb, 0, none⟩)] by simp];obtain ⟨V, hV⟩ : ∃ V, V = W.alloc (.cells #[.int .i64 x.k, .int .i64 x.n, .string x.s, .int .i64 x.q, .slice ao x.args.length cap] 26) := ⟨_, rfl⟩
 have G := lh (h.box hV).nil;have c := jM G.out.g.hd;have d := jV (G.out.g.at (List.mem_cons_of_mem _ m));have HP := lh hp;have HS := lh hS;clear h hp hS m
 show Calls Tryz.prog 131 #[.agg #[.int .i64 x.k, .int .i64 x.n, .string x.s, .int .i64 x.q, .slice ao x.args.length cap], .pointer (some ⟨xb, 0, none⟩)] W _
 go_enter Tryz.func131, Tryz.ntmps131
 go_upto_region 1 with fail
 rw [← hV];clear hV;go_wp2_with (go_at_call 43; refine G.out.call HP.out HS.out ?_; intro u1 G)
 go_end0
 exact G.out.end j1 rfl
theorem one87 {B pb xb : Nat} {v0 : Value} {w0 : World} {bs : List Bx} (m : (xb, #[pp pb], 43) ∈ bs) : OneC 87 #[] #[.pointer (some ⟨xb, 0, none⟩)] (CF 44 (some (.int .i64 0))) B pb v0 w0 bs := by
 refine ⟨fun _ _ => rfl, fun {x ws} hp {l W ao cap} h hS => ?_⟩;rw [show (#[] ++ #[Value.agg (jh x ao cap)] ++ #[.pointer (some ⟨xb, 0, none⟩)] : Array Value) = #[.agg (jh x ao cap), .pointer (some ⟨xb, 0, none⟩)] by simp];obtain ⟨V, hV⟩ : ∃ V, V = W.alloc (.cells #[.int .i64 x.k, .int .i64 x.n, .string x.s, .int .i64 x.q, .slice ao x.args.length cap] 26) := ⟨_, rfl⟩
 have G := lh (h.box hV).nil;have c := jM G.out.g.hd;have d := jV (G.out.g.at (List.mem_cons_of_mem _ m));have HP := lh hp;have HS := lh hS;clear h hp hS m
 show Calls Tryz.prog 87 #[.agg #[.int .i64 x.k, .int .i64 x.n, .string x.s, .int .i64 x.q, .slice ao x.args.length cap], .pointer (some ⟨xb, 0, none⟩)] W _
 go_enter Tryz.func87, Tryz.ntmps87
 go_upto_region 1 with fail
 rw [← hV];clear hV;go_wp2_with (go_at_call 44; refine G.out.call HP.out HS.out ?_; intro u1 G)
 go_end0
 exact G.out.end j1 rfl
theorem one95 {B pb xb : Nat} {v0 : Value} {w0 : World} {bs : List Bx} (m : (xb, #[pp pb], 43) ∈ bs) : OneC 95 #[] #[.pointer (some ⟨xb, 0, none⟩)] (CF 45 (some (.int .i64 2))) B pb v0 w0 bs := by
 refine ⟨fun _ _ => rfl, fun {x ws} hp {l W ao cap} h hS => ?_⟩;rw [show (#[] ++ #[Value.agg (jh x ao cap)] ++ #[.pointer (some ⟨xb, 0, none⟩)] : Array Value) = #[.agg (jh x ao cap), .pointer (some ⟨xb, 0, none⟩)] by simp];obtain ⟨V, hV⟩ : ∃ V, V = W.alloc (.cells #[.int .i64 x.k, .int .i64 x.n, .string x.s, .int .i64 x.q, .slice ao x.args.length cap] 26) := ⟨_, rfl⟩
 have G := lh (h.box hV).nil;have c := jM G.out.g.hd;have d := jV (G.out.g.at (List.mem_cons_of_mem _ m));have HP := lh hp;have HS := lh hS;clear h hp hS m
 show Calls Tryz.prog 95 #[.agg #[.int .i64 x.k, .int .i64 x.n, .string x.s, .int .i64 x.q, .slice ao x.args.length cap], .pointer (some ⟨xb, 0, none⟩)] W _
 go_enter Tryz.func95, Tryz.ntmps95
 go_upto_region 1 with fail
 rw [← hV];clear hV;go_wp2_with (go_at_call 45; refine G.out.call HP.out HS.out ?_; intro u1 G)
 go_end0
 exact G.out.end j1 rfl
theorem one97 {B pb xb : Nat} {v0 : Value} {w0 : World} {bs : List Bx} (m : (xb, #[pp pb], 43) ∈ bs) : OneC 97 #[] #[.pointer (some ⟨xb, 0, none⟩)] (CF 45 (some (.int .i64 0))) B pb v0 w0 bs := by
 refine ⟨fun _ _ => rfl, fun {x ws} hp {l W ao cap} h hS => ?_⟩;rw [show (#[] ++ #[Value.agg (jh x ao cap)] ++ #[.pointer (some ⟨xb, 0, none⟩)] : Array Value) = #[.agg (jh x ao cap), .pointer (some ⟨xb, 0, none⟩)] by simp];obtain ⟨V, hV⟩ : ∃ V, V = W.alloc (.cells #[.int .i64 x.k, .int .i64 x.n, .string x.s, .int .i64 x.q, .slice ao x.args.length cap] 26) := ⟨_, rfl⟩
 have G := lh (h.box hV).nil;have c := jM G.out.g.hd;have d := jV (G.out.g.at (List.mem_cons_of_mem _ m));have HP := lh hp;have HS := lh hS;clear h hp hS m
 show Calls Tryz.prog 97 #[.agg #[.int .i64 x.k, .int .i64 x.n, .string x.s, .int .i64 x.q, .slice ao x.args.length cap], .pointer (some ⟨xb, 0, none⟩)] W _
 go_enter Tryz.func97, Tryz.ntmps97
 go_upto_region 1 with fail
 rw [← hV];clear hV;go_wp2_with (go_at_call 45; refine G.out.call HP.out HS.out ?_; intro u1 G)
 go_end0
 exact G.out.end j1 rfl
theorem c132 {k a q : Int} {sn s : ByteArray} {K : List Ty} {ws : List ByteArray} (h1 : RowC (CF 43 (some (.int .i64 0))) s K ws) {B pb : Nat} {v0 : Value} {w0 : World} {bs : List Bx} {ao : Option Addr} {cap c9 xb nb wb ab : Nat} (hc : c9 = K.length) (m0 : (xb, #[pp pb], 43) ∈ bs) (m1 : (nb, #[.int .i64 k, .int .i64 a, .string sn, .int .i64 q, .slice ao c9 cap], 26) ∈ bs) (m2 : (wb, #[.string s], 9) ∈ bs) (m3 : (ab, #[.func (.func 131) #[] #[.pointer (some ⟨xb, 0, none⟩)]], 47) ∈ bs) (hS : SlD w0 (fun b => b < B) K ao cap) : CV 132 #[.pointer (some ⟨xb, 0, none⟩), .pointer (some ⟨nb, 0, none⟩), .pointer (some ⟨wb, 0, none⟩), .pointer (some ⟨ab, 0, none⟩)] ws B pb v0 w0 bs := by
 refine ⟨fun {l W} h => ?_⟩;have G := lh h.nil;have f0 := jV (h.g.at m0);have f1 := jM (h.g.at m1);have f2 := jV (h.g.at m2);have f3 := jV (h.g.at m3);have HS := lh hS;have H1 := lh h1;have HC := lh hc;have HO := lh (one131 (B := B) (v0 := v0) (w0 := w0) m0);clear h hS h1 hc m0 m1 m2 m3;go_enter Tryz.func132, Tryz.ntmps132
 go_wp2_with (go_at_call 93; refine G.out.list HO.out H1.out HC.out HS.out ?_; intro u1 G)
 go_end0
 exact G.out.end (fun _ h => h) rfl
theorem c92 {k a q : Int} {sn s : ByteArray} {K : List Ty} {ws : List ByteArray} (h1 : RowC (CF 44 (some (.int .i64 0))) s_com K ws) {B pb : Nat} {v0 : Value} {w0 : World} {bs : List Bx} {ao : Option Addr} {cap c9 xb nb ab : Nat} (hc : c9 = K.length) (m0 : (xb, #[pp pb], 43) ∈ bs) (m1 : (nb, #[.int .i64 k, .int .i64 a, .string sn, .int .i64 q, .slice ao c9 cap], 26) ∈ bs) (m2 : (ab, #[.func (.func 87) #[] #[.pointer (some ⟨xb, 0, none⟩)]], 47) ∈ bs) (hS : SlD w0 (fun b => b < B) K ao cap) : CV 92 #[.pointer (some ⟨xb, 0, none⟩), .pointer (some ⟨nb, 0, none⟩), .pointer (some ⟨ab, 0, none⟩)] ws B pb v0 w0 bs := by
 refine ⟨fun {l W} h => ?_⟩;have G := lh h.nil;have f0 := jV (h.g.at m0);have f1 := jM (h.g.at m1);have f2 := jV (h.g.at m2);have HS := lh hS;have H1 := lh h1;have HC := lh hc;have HO := lh (one87 (B := B) (v0 := v0) (w0 := w0) m0);clear h hS h1 hc m0 m1 m2;go_enter Tryz.func92, Tryz.ntmps92
 go_wp2_with (go_at_call 93; refine G.out.list HO.out H1.out HC.out HS.out ?_; intro u1 G)
 go_end0
 exact G.out.end (fun _ h => h) rfl
theorem c96 {k a q : Int} {sn s : ByteArray} {K : List Ty} {ws : List ByteArray} (h1 : RowC (CF 45 (some (.int .i64 0))) s_com K ws) {B pb : Nat} {v0 : Value} {w0 : World} {bs : List Bx} {ao : Option Addr} {cap c9 xb nb : Nat} (hc : c9 = K.length) (m0 : (xb, #[pp pb], 43) ∈ bs) (m1 : (nb, #[.int .i64 k, .int .i64 a, .string sn, .int .i64 q, .slice ao c9 cap], 26) ∈ bs) (hS : SlD w0 (fun b => b < B) K ao cap) : CV 96 #[.pointer (some ⟨xb, 0, none⟩), .pointer (some ⟨nb, 0, none⟩)] ws B pb v0 w0 bs := by
 refine ⟨fun {l W} h => ?_⟩;have G := lh h.nil;have f0 := jV (h.g.at m0);have f1 := jM (h.g.at m1);have HS := lh hS;have H1 := lh h1;have HC := lh hc;have HO := lh (one97 (B := B) (v0 := v0) (w0 := w0) m0);clear h hS h1 hc m0 m1;go_enter Tryz.func96, Tryz.ntmps96
 go_wp2_with (go_at_call 93; refine G.out.list HO.out H1.out HC.out HS.out ?_; intro u1 G)
 go_end0
 exact G.out.end (fun _ h => h) rfl
theorem c133 {a q : Int} {sn : ByteArray} {k : Int} {e t : Ty} {ew tw : List ByteArray} (h1 : CF 43 (some (.int .i64 0)) e ew) (h2 : CF 45 (some (.int .i64 0)) t tw) {B pb : Nat} {v0 : Value} {w0 : World} {bs : List Bx} {ao : Option Addr} {cap xb nb : Nat} (m0 : (nb, #[.int .i64 k, .int .i64 a, .string sn, .int .i64 q, .slice ao 2 cap], 26) ∈ bs) (m1 : (xb, #[pp pb], 43) ∈ bs) (hS : SlD w0 (fun b => b < B) [e, t] ao cap) : CV 133 #[.pointer (some ⟨xb, 0, none⟩), .pointer (some ⟨nb, 0, none⟩)] (ew ++ s_col :: tw) B pb v0 w0 bs := by
 refine ⟨fun {l W} h => ?_⟩;have G := lh h;have HF := lh (fun (l : List ByteArray) (W : World) (g : Gp B pb v0 w0 l W bs) => And.intro (jM (g.at m0)) (jV (g.at m1)));have HS : Hid (SlD w0 (fun b => b < B) [e, t] ao cap) := lh hS;have H1 := lh h1;have H2 := lh h2;have c := HF.out _ _ G.out.g;clear h hS h1 h2 m0 m1;go_enter Tryz.func133, Tryz.ntmps133
 go_upto_region 0 with fail
 obtain ⟨b, p9, ap, cp, HS1, x⟩ := G.out.kid HS.out 0 e rfl 2 rfl 0 rfl;go_still_tail 5, (by kernel_rfl)
 change wpList _ _ _ _ _ W.drew
 replace G := lh G.out.drew;clear c x;go_upto_region 1 with (go_at_call 43; refine G.out.call H1.out HS1.out ?_; intro u1 G)
 have c := HF.out _ _ G.out.g;go_upto_region 2 with (go_at_call 85; refine G.out.put ?_; intro u2 G)
 have c := HF.out _ _ G.out.g;obtain ⟨b, p9, ap, cp, HS1, x⟩ := G.out.kid HS.out 1 t rfl 2 rfl 1 rfl;go_still_tail 5, (by kernel_rfl)
 change wpList _ _ _ _ _ u2.drew
 replace G := lh G.out.drew.nil;clear c x;go_wp2_with (go_at_call 45; refine G.out.call H2.out HS1.out ?_; intro u3 G)
 have c := HF.out _ _ G.out.g;go_end0
 exact G.out.end (fun _ h => h) (by simp)
theorem decs_c {B pb : Nat} {v0 : Value} {w0 W : World} {l ws : List ByteArray} {bs : List Bx} {K : List Ty} {ao : Option Addr} {cap : Nat} (h : Gt B pb v0 w0 l ws W bs) (hm : ManyC (CF 48 none) K ws) (hS : SlD w0 (fun b => b < B) K ao cap) : Calls Tryz.prog 42 #[pp pb, .slice ao K.length cap] W (Wr B pb v0 w0 bs l ws) := by
 obtain ⟨G, HM, HS2⟩ := (⟨lh h.nil, lh hm, lh hS⟩ : Hid (Gt B pb v0 w0 l (ws ++ []) W bs) ∧ Hid (ManyC (CF 48 none) K ws) ∧ Hid (SlD w0 (fun b => b < B) K ao cap));obtain ⟨c, hc⟩ : ∃ c, c = K.length := ⟨_, rfl⟩
 have HC := lh hc;rw [← hc];clear h hm hS hc;go_enter Tryz.func42, Tryz.ntmps42
 have c9 : True := trivial;obtain ⟨wss, hwl, hwe, hwp⟩ := HM.out.ex;have HWL := lh hwl;have HWP := lh hwp;have HWE := lh hwe;rw [hwe] at G ⊢;have HLB : Hid (c ≤ 5000000000) := lh (by have h1 := G.out.hl; have h2 := qR wss (fun x hx => by obtain ⟨i, hi, rfl⟩ := List.mem_iff_getElem.1 hx; exact (hwp i (by omega) hi).2); simp only [jL] at h1; have h3 : c = (K).length := HC.out; omega);have hlb := HLB.out;clear hwl hwe hwp HM c9;go_wp2_with fail
 go_loopw [5, 8] (fun _ i wr => ∃ k : Nat, i = .int .i64 k ∧ k ≤ c ∧ Gt B pb v0 w0 (l ++ (wss.take k).flatten) ((wss.drop k).flatten ++ []) wr bs) (fun _ i _ => c - (Lib.intOf i).toNat)
 case atStart => exact ⟨0, rfl, by omega, by simpa using G.out⟩
 case round =>
  obtain ⟨k, rfl, hk, hg⟩ := hrel;have G := lh hg;clear hg
  by_cases hkc : k < c
  · have hk9 : k < (K).length := (by have h3 : c = (K).length := HC.out; omega);have hk8 : k < wss.length := (by rw [HWL.out]; exact hk9);obtain ⟨b, p9, ap, cp, HS1, hb9, hix, x⟩ := G.out.kid HS2.out k _ (List.getElem?_eq_getElem hk9) c HC.out k rfl;obtain ⟨u, hu⟩ : ∃ u, u = (K)[k] := ⟨_, rfl⟩
    rw [← hu] at x HS1;obtain ⟨V, hV⟩ : ∃ V, V = wr.alloc (.cells (jh u ap cp) 26) := ⟨_, rfl⟩
    have HP : Hid (CF 48 none u wss[k]) := lh (by rw [hu]; exact (HWP.out k hk9 hk8).1);rw [flat_drop hk8] at G;have G := lh (G.out.box hV);unfold jh at hV G;clear hu;have hkc2 : (k : Int) < ((c : Nat) : Int) := (by omega);go_upto_region 3 with fail
    rw [← hV];have y := jM G.out.g.hd;clear hV x hix;go_wp2_with (go_at_call 48; refine G.out.call HP.out HS1.out ?_; intro u1 G)
    go_roundw
    case rel =>
     refine ⟨k + 1, by go_num, hkc, ?_⟩;rw [vL hk8, ← List.append_assoc];exact ⟨G.out.g.mono j1, G.out.hl⟩
    case measure => simp only [Lib.intOf]; omega
  · obtain rfl : k = c := by omega
    have hd : decide ((k : Int) < (k : Int)) = false := (by simp);replace G : Hid (Gt B pb v0 w0 (l ++ wss.flatten) ([]) wr bs) := lh (by have h := G.out; have h3 : k = (K).length := HC.out; rw [List.take_of_length_le (by rw [HWL.out]; omega), List.drop_of_length_le (by rw [HWL.out]; omega)] at h; exact h)
    skip
    go_wp2_with fail
    go_end0
    exact G.out.end (fun _ h => h) rfl
theorem Gt.decs {B pb : Nat} {v0 : Value} {w0 W : World} {l ws r : List ByteArray} {bs : List Bx} {K : List Ty} {ao : Option Addr} {cap c : Nat} (h : Gt B pb v0 w0 l (ws ++ r) W bs) (hm : ManyC (CF 48 none) K ws) (hc : c = K.length) (hS : SlD w0 (fun b => b < B) K ao cap) {R : Ending → World → Prop} (k : ∀ u, Hid (Gt B pb v0 w0 (l ++ ws) r u bs) → R (.returned (.tuple #[])) u) : Calls Tryz.prog 42 #[pp pb, .slice ao c cap] W R := by
 subst hc;exact (decs_c h.hd hm hS).mono (by intro e w' hw; obtain ⟨rfl, h2⟩ := h.wr hw; exact k _ (lh h2))
theorem k_int {a : Int} {s : ByteArray} {K : List Ty} {N : Nat} (h1 : N ≤ 1000000000) : CF 86 none (.mk 1 a s N K) ([dgW N]) := by
 refine ⟨fun {B pb v0 w0 l W bs ao cap} h hS => ?_⟩;obtain ⟨V2, V3, hV2, hV3, G, HF, c2⟩ := h.b3 131 1 a s N (.slice ao K.length cap);have HS : Hid (SlD w0 (fun b => b < B) K ao cap) := lh hS;have H1 := lh h1;clear h hS h1
 show Calls Tryz.prog 86 #[pp pb, .agg #[.int .i64 1, .int .i64 a, .string s, .int .i64 N, .slice ao K.length cap]] W _
 go_enter Tryz.func86, Tryz.ntmps86
 go_upto_region 1 with fail
 rw [← hV2];clear hV2;go_upto_region 2 with fail
 rw [← hV3];clear hV3 c2;have c := HF.out _ _ G.out.g;go_upto_region 4 with fail
 have HS9 := lh (fun l W9 g => And.intro (HF.out l W9 g).1.2.2.2.1 (HF.out l W9 g).2.1);replace G := lh G.out.drew;clear c;go_region_held3 (fun w9 => w9.cell? ⟨W.heap.size + 1, 3, none⟩ = some (.int .i64 N) ∧ w9.cell? ⟨W.heap.size, 0, none⟩ = some (pp pb)) (first | exact HS9.out _ _ G.out.g | exact HS9.out _ _ (G.out.g.below (jk (Below.refl _ _) _))) (first | (go_at_call 89; refine G.out.itoa H1.out ?_; intro u1 G) | (go_at_call 85; refine G.out.put ?_; intro u2 G))
 go_end0
 exact G.out.end j3 (by simp)
theorem k_str {a q : Int} {s : ByteArray} {K : List Ty} (h1 : s.size ≤ 200) : CF 86 none (.mk 2 a s q K) ([qC s]) := by
 refine ⟨fun {B pb v0 w0 l W bs ao cap} h hS => ?_⟩;obtain ⟨V2, V3, hV2, hV3, G, HF, c2⟩ := h.b3 131 2 a s q (.slice ao K.length cap);have HS : Hid (SlD w0 (fun b => b < B) K ao cap) := lh hS;have H1 := lh h1;clear h hS h1
 show Calls Tryz.prog 86 #[pp pb, .agg #[.int .i64 2, .int .i64 a, .string s, .int .i64 q, .slice ao K.length cap]] W _
 go_enter Tryz.func86, Tryz.ntmps86
 go_upto_region 1 with fail
 rw [← hV2];clear hV2;go_upto_region 2 with fail
 rw [← hV3];clear hV3 c2;have c := HF.out _ _ G.out.g;go_upto_region 6 with fail
 have HS9 := lh (fun l W9 g => And.intro (HF.out l W9 g).1.2.2.1 (HF.out l W9 g).2.1);replace G := lh G.out.drew;clear c;go_region_held3 (fun w9 => w9.cell? ⟨W.heap.size + 1, 2, none⟩ = some (.string s) ∧ w9.cell? ⟨W.heap.size, 0, none⟩ = some (pp pb)) (first | exact HS9.out _ _ G.out.g | exact HS9.out _ _ (G.out.g.below (jk (Below.refl _ _) _))) (first | (go_at_call 90; refine G.out.quote H1.out ?_; intro u1 G) | (go_at_call 85; refine G.out.put ?_; intro u2 G))
 go_end0
 exact G.out.end j3 (by simp)
theorem k_var {a q : Int} {s : ByteArray} {K : List Ty} {ws : List ByteArray} (h1 : PathT s ws) : CF 86 none (.mk 3 a s q K) (ws) := by
 refine ⟨fun {B pb v0 w0 l W bs ao cap} h hS => ?_⟩;obtain ⟨V2, V3, hV2, hV3, G, HF, c2⟩ := h.b3 131 3 a s q (.slice ao K.length cap);have HS : Hid (SlD w0 (fun b => b < B) K ao cap) := lh hS;have H1 := lh h1;clear h hS h1
 show Calls Tryz.prog 86 #[pp pb, .agg #[.int .i64 3, .int .i64 a, .string s, .int .i64 q, .slice ao K.length cap]] W _
 go_enter Tryz.func86, Tryz.ntmps86
 go_upto_region 1 with fail
 rw [← hV2];clear hV2;go_upto_region 2 with fail
 rw [← hV3];clear hV3 c2;have c := HF.out _ _ G.out.g;replace G := lh G.out.nil;go_wp2_with (go_at_call 91; refine G.out.path H1.out ?_; intro u1 G)
 have c := HF.out _ _ G.out.g;go_end0
 exact G.out.end j3 (by simp)
theorem k_con {a q : Int} {s : ByteArray} {K : List Ty} {ws : List ByteArray} (h1 : PathT s ws) : CF 86 none (.mk 4 a s q K) (ws) := by
 refine ⟨fun {B pb v0 w0 l W bs ao cap} h hS => ?_⟩;obtain ⟨V2, V3, hV2, hV3, G, HF, c2⟩ := h.b3 131 4 a s q (.slice ao K.length cap);have HS : Hid (SlD w0 (fun b => b < B) K ao cap) := lh hS;have H1 := lh h1;clear h hS h1
 show Calls Tryz.prog 86 #[pp pb, .agg #[.int .i64 4, .int .i64 a, .string s, .int .i64 q, .slice ao K.length cap]] W _
 go_enter Tryz.func86, Tryz.ntmps86
 go_upto_region 1 with fail
 rw [← hV2];clear hV2;go_upto_region 2 with fail
 rw [← hV3];clear hV3 c2;have c := HF.out _ _ G.out.g;replace G := lh G.out.nil;go_wp2_with (go_at_call 91; refine G.out.path H1.out ?_; intro u1 G)
 have c := HF.out _ _ G.out.g;go_end0
 exact G.out.end j3 (by simp)
theorem k_tup {a q : Int} {s : ByteArray} {K : List Ty} {ws : List ByteArray} (h1 : RowC (CF 43 (some (.int .i64 0))) s_com K ws) : CF 86 none (.mk 5 a s q K) (rnd true ws) := by
 refine ⟨fun {B pb v0 w0 l W bs ao cap} h hS => ?_⟩;obtain ⟨V2, V3, hV2, hV3, G, HF, c2⟩ := h.b3 131 5 a s q (.slice ao K.length cap);have HS : Hid (SlD w0 (fun b => b < B) K ao cap) := lh hS;have H1 := lh h1;clear h hS h1
 show Calls Tryz.prog 86 #[pp pb, .agg #[.int .i64 5, .int .i64 a, .string s, .int .i64 q, .slice ao K.length cap]] W _
 go_enter Tryz.func86, Tryz.ntmps86
 go_upto_region 1 with fail
 rw [← hV2];clear hV2;go_upto_region 2 with fail
 rw [← hV3];clear hV3 c2;have c := HF.out _ _ G.out.g;obtain ⟨V4, hV4⟩ : ∃ V4, V4 = V3.alloc (.cells #[.string s_com] 9) := ⟨_, rfl⟩
 have G := lh (G.out.box hV4);go_upto_region 13 with fail
 rw [← hV4];clear hV4 c;have HM := lh (fun (x : Bx) (hx : x ∈ ((V2.heap.size, #[.func (.func 131) #[] #[.pointer (some ⟨W.heap.size, 0, none⟩)]], 47) :: (W.heap.size + 1, #[.int .i64 5, .int .i64 a, .string s, .int .i64 q, .slice ao K.length cap], 26) :: (W.heap.size, #[pp pb], 43) :: bs)) => List.mem_cons_of_mem (V3.heap.size, #[Value.string s_com], 9) hx);have c := HF.out _ _ (G.out.g.mono HM.out);replace G := lh G.out.nil;go_wp2_with (go_at_call 82; refine G.out.round (fun _ _ => rfl) (c132 H1.out rfl i3 i2 i0 i1 HS.out) ?_; intro u1 G)
 go_end0
 exact G.out.end j4 (by simp)
theorem k_seq {a q : Int} {s : ByteArray} {K : List Ty} {ws : List ByteArray} (h1 : RowC (CF 43 (some (.int .i64 0))) s_sem K ws) : CF 86 none (.mk 15 a s q K) (rnd true ws) := by
 refine ⟨fun {B pb v0 w0 l W bs ao cap} h hS => ?_⟩;obtain ⟨V2, V3, hV2, hV3, G, HF, c2⟩ := h.b3 131 15 a s q (.slice ao K.length cap);have HS : Hid (SlD w0 (fun b => b < B) K ao cap) := lh hS;have H1 := lh h1;clear h hS h1
 show Calls Tryz.prog 86 #[pp pb, .agg #[.int .i64 15, .int .i64 a, .string s, .int .i64 q, .slice ao K.length cap]] W _
 go_enter Tryz.func86, Tryz.ntmps86
 go_upto_region 1 with fail
 rw [← hV2];clear hV2;go_upto_region 2 with fail
 rw [← hV3];clear hV3 c2;have c := HF.out _ _ G.out.g;have HLT9 : Hid (B ≤ V3.heap.size ∧ w0.heap.size ≤ V3.heap.size ∧ ∀ x ∈ ((V2.heap.size, #[.func (.func 131) #[] #[.pointer (some ⟨W.heap.size, 0, none⟩)]], 47) :: (W.heap.size + 1, #[.int .i64 15, .int .i64 a, .string s, .int .i64 q, .slice ao K.length cap], 26) :: (W.heap.size, #[pp pb], 43) :: bs), x.1 < V3.heap.size) := lh ⟨G.out.g.low.2, G.out.g.old, fun x hx => G.out.g.lt hx⟩;obtain ⟨V4, hV4⟩ : ∃ V4, V4 = V3.alloc (.cells #[.string s_com] 9) := ⟨_, rfl⟩
 have G := lh (G.out.box hV4);go_upto_region 13 with fail
 rw [← hV4];clear hV4 c;have HM := lh (fun (x : Bx) (hx : x ∈ ((V2.heap.size, #[.func (.func 131) #[] #[.pointer (some ⟨W.heap.size, 0, none⟩)]], 47) :: (W.heap.size + 1, #[.int .i64 15, .int .i64 a, .string s, .int .i64 q, .slice ao K.length cap], 26) :: (W.heap.size, #[pp pb], 43) :: bs)) => List.mem_cons_of_mem (V3.heap.size, #[Value.string s_com], 9) hx);have c := HF.out _ _ (G.out.g.mono HM.out);have d := jV G.out.g.hd;have d2 : V4.frozen? ⟨V3.heap.size, 0, none⟩ = false := jd G.out.g.hd 0;obtain ⟨V5, hV5⟩ : ∃ V5, V5 = V4.setCell ⟨V3.heap.size, 0, none⟩ (.string s_sem) := ⟨_, rfl⟩
 have HLT := lh (show B ≤ V3.heap.size ∧ w0.heap.size ≤ V3.heap.size ∧ ∀ x ∈ ((V2.heap.size, #[.func (.func 131) #[] #[.pointer (some ⟨W.heap.size, 0, none⟩)]], 47) :: (W.heap.size + 1, #[.int .i64 15, .int .i64 a, .string s, .int .i64 q, .slice ao K.length cap], 26) :: (W.heap.size, #[pp pb], 43) :: bs), x.1 < V3.heap.size from HLT9.out);have G := lh (show Gt B pb v0 w0 l (rnd true ws) V5 ((V3.heap.size, #[.string s_sem], 9) :: ((V2.heap.size, #[.func (.func 131) #[] #[.pointer (some ⟨W.heap.size, 0, none⟩)]], 47) :: (W.heap.size + 1, #[.int .i64 15, .int .i64 a, .string s, .int .i64 q, .slice ao K.length cap], 26) :: (W.heap.size, #[pp pb], 43) :: bs)) from ⟨by rw [hV5]; exact G.out.g.set i0 (fun x hx => ⟨Nat.ne_of_lt (HLT.out.2.2 x hx), List.mem_cons_of_mem _ hx⟩) HLT.out.1 HLT.out.2.1, G.out.hl⟩);go_upto_region 15 with fail
 rw [← hV5];clear hV5 c d d2;have c := HF.out _ _ (G.out.g.mono j1);replace G := lh G.out.nil;go_wp2_with (go_at_call 82; refine G.out.round (fun _ _ => rfl) (c132 H1.out rfl i3 i2 i0 i1 HS.out) ?_; intro u1 G)
 go_end0
 exact G.out.end j4 (by simp)
theorem k_list {a q : Int} {s : ByteArray} {K : List Ty} {ws : List ByteArray} (h1 : RowC (CF 43 (some (.int .i64 0))) s_com K ws) : CF 86 none (.mk 6 a s q K) (s_lb :: (ws ++ [s_rb])) := by
 refine ⟨fun {B pb v0 w0 l W bs ao cap} h hS => ?_⟩;obtain ⟨V2, V3, hV2, hV3, G, HF, c2⟩ := h.b3 131 6 a s q (.slice ao K.length cap);have HS : Hid (SlD w0 (fun b => b < B) K ao cap) := lh hS;have H1 := lh h1;clear h hS h1
 show Calls Tryz.prog 86 #[pp pb, .agg #[.int .i64 6, .int .i64 a, .string s, .int .i64 q, .slice ao K.length cap]] W _
 go_enter Tryz.func86, Tryz.ntmps86
 go_upto_region 1 with fail
 rw [← hV2];clear hV2;go_upto_region 2 with fail
 rw [← hV3];clear hV3 c2;have c := HF.out _ _ G.out.g;go_upto_region 18 with (go_at_call 85; refine G.out.put ?_; intro u1 G)
 have c := HF.out _ _ G.out.g;go_upto_region 19 with (go_at_call 93; refine G.out.list (one131 i2) H1.out rfl HS.out ?_; intro u2 G)
 have c := HF.out _ _ G.out.g;go_wp2_with (go_at_call 85; refine G.out.put ?_; intro u3 G)
 have c := HF.out _ _ G.out.g;go_end0
 exact G.out.end j3 (by simp)
theorem k_has {a q : Int} {s : ByteArray} {e t : Ty} {ew tw : List ByteArray} (h1 : CF 43 (some (.int .i64 0)) e ew) (h2 : CF 45 (some (.int .i64 0)) t tw) : CF 86 none (.mk 19 a s q [e, t]) (rnd true (ew ++ s_col :: tw)) := by
 refine ⟨fun {B pb v0 w0 l W bs ao cap} h hS => ?_⟩;obtain ⟨V2, V3, hV2, hV3, G, HF, c2⟩ := h.b3 131 19 a s q (.slice ao 2 cap);have HS : Hid (SlD w0 (fun b => b < B) [e, t] ao cap) := lh hS;have H1 := lh h1;have H2 := lh h2;clear h hS h1 h2
 show Calls Tryz.prog 86 #[pp pb, .agg #[.int .i64 19, .int .i64 a, .string s, .int .i64 q, .slice ao 2 cap]] W _
 go_enter Tryz.func86, Tryz.ntmps86
 go_upto_region 1 with fail
 rw [← hV2];clear hV2;go_upto_region 2 with fail
 rw [← hV3];clear hV3 c2;have c := HF.out _ _ G.out.g;replace G := lh G.out.nil;go_wp2_with (go_at_call 82; refine G.out.round (fun _ _ => rfl) (c133 H1.out H2.out i1 i2 HS.out) ?_; intro u1 G)
 have c := HF.out _ _ G.out.g;go_end0
 exact G.out.end j3 (by simp)
theorem k_let {a : Int} {s : ByteArray} {K : List Ty} {e : Ty} {lw ew : List ByteArray} (h1 : ManyC (CF 48 none) K lw) (h2 : CF 43 (some (.int .i64 0)) e ew) : CF 86 none (.mk 14 a s K.length (K ++ [e])) (w_let :: (lw ++ w_in :: (ew ++ [w_end]))) := by
 refine ⟨fun {B pb v0 w0 l W bs ao cap} h hS => ?_⟩;obtain ⟨V2, V3, hV2, hV3, G, HF, c2⟩ := h.b3 131 14 a s K.length (.slice ao (K.length + 1) cap);have HS : Hid (SlD w0 (fun b => b < B) (K ++ [e]) ao cap) := lh hS;have H1 := lh h1;have H2 := lh h2;clear h hS h1 h2
 show Calls Tryz.prog 86 #[pp pb, .agg #[.int .i64 14, .int .i64 a, .string s, .int .i64 K.length, .slice ao (K ++ [e]).length cap]] W _
 rw [show (K ++ [e]).length = (K.length + 1) from by simp];go_enter Tryz.func86, Tryz.ntmps86
 go_upto_region 1 with fail
 rw [← hV2];clear hV2;go_upto_region 2 with fail
 rw [← hV3];clear hV3 c2;have c := HF.out _ _ G.out.g;have HT : Hid (SlD w0 (fun b => b < B) K ao cap) := lh (by have h9 := HS.out.take K.length; rwa [List.take_left'] at h9; rfl);go_upto_region 24 with (go_at_call 85; refine G.out.put ?_; intro u1 G)
 have c := HF.out _ _ G.out.g;have hcap := lh HT.out.1;have s1 : ∀ w' : World, (Instr.slice 24 (.slice ao (K.length + 1) cap) none (some (.int .i64 (K.length : Int))) none).run Tryz.prog w' = .ok (.slice ao K.length cap) w' := fun w' => kW ao _ cap K.length hcap.out _ rfl w'
 go_still_tail 6, (by kernel_rfl)
 change wpList _ _ _ _ _ u1.drew
 replace G := lh G.out.drew;clear c s1;go_upto_region 25 with (go_at_call 42; refine G.out.decs H1.out rfl HT.out ?_; intro u2 G)
 have c := HF.out _ _ G.out.g;go_upto_region 26 with (go_at_call 85; refine G.out.put ?_; intro u3 G)
 have c := HF.out _ _ G.out.g;obtain ⟨b, p9, ap, cp, HS1, x⟩ := G.out.kid HS.out K.length e (by simp) (K.length + 1) (by simp) K.length rfl;go_still_tail 7, (by kernel_rfl)
 change wpList _ _ _ _ _ u3.drew
 replace G := lh G.out.drew;clear c x;go_upto_region 27 with (go_at_call 43; refine G.out.call H2.out HS1.out ?_; intro u4 G)
 have c := HF.out _ _ G.out.g;go_wp2_with (go_at_call 85; refine G.out.put ?_; intro u5 G)
 have c := HF.out _ _ G.out.g;go_end0
 exact G.out.end j3 (by simp)
theorem k_case {a q : Int} {s : ByteArray} {e : Ty} {K : List Ty} {ew rw9 : List ByteArray} (h1 : CF 43 (some (.int .i64 0)) e ew) (h2 : RowC (CF 46 none) s_bar K rw9) : CF 86 none (.mk 10 a s q (e :: K)) (w_case :: (ew ++ w_of :: (rw9 ++ [w_end]))) := by
 refine ⟨fun {B pb v0 w0 l W bs ao cap} h hS => ?_⟩;obtain ⟨V2, V3, hV2, hV3, G, HF, c2⟩ := h.b3 131 10 a s q (.slice ao (K.length + 1) cap);have HS : Hid (SlD w0 (fun b => b < B) (e :: K) ao cap) := lh hS;have H1 := lh h1;have H2 := lh h2;clear h hS h1 h2
 show Calls Tryz.prog 86 #[pp pb, .agg #[.int .i64 10, .int .i64 a, .string s, .int .i64 q, .slice ao (K.length + 1) cap]] W _
 go_enter Tryz.func86, Tryz.ntmps86
 go_upto_region 1 with fail
 rw [← hV2];clear hV2;go_upto_region 2 with fail
 rw [← hV3];clear hV3 c2;have c := HF.out _ _ G.out.g;obtain ⟨V4, hV4⟩ : ∃ V4, V4 = V3.alloc (.cells #[.string w_case, .string w_of] 122) := ⟨_, rfl⟩
 have G := lh (G.out.box hV4);go_upto_region 31 with fail
 rw [← hV4];clear hV4 c;have HM := lh (fun (x : Bx) (hx : x ∈ ((V2.heap.size, #[.func (.func 131) #[] #[.pointer (some ⟨W.heap.size, 0, none⟩)]], 47) :: (W.heap.size + 1, #[.int .i64 10, .int .i64 a, .string s, .int .i64 q, .slice ao (K.length + 1) cap], 26) :: (W.heap.size, #[pp pb], 43) :: bs)) => List.mem_cons_of_mem (V3.heap.size, #[Value.string w_case, Value.string w_of], 122) hx);have c := HF.out _ _ (G.out.g.mono HM.out);have c := HF.out _ _ (G.out.g.mono HM.out);have d : V4.cell? ⟨V3.heap.size, 0, none⟩ = some (.string w_case) ∧ V4.cell? ⟨V3.heap.size, 1, none⟩ = some (.string w_of) := ⟨ja G.out.g.hd 0, ja G.out.g.hd 1⟩;go_upto_region 34 with (go_at_call 85; refine G.out.put ?_; intro u1 G)
 have c := HF.out _ _ (G.out.g.mono HM.out);have d : u1.cell? ⟨V3.heap.size, 0, none⟩ = some (.string w_case) ∧ u1.cell? ⟨V3.heap.size, 1, none⟩ = some (.string w_of) := ⟨ja G.out.g.hd 0, ja G.out.g.hd 1⟩;obtain ⟨b, p9, ap, cp, HS1, x⟩ := G.out.kid HS.out 0 e rfl (K.length + 1) rfl 0 rfl;go_still_tail 5, (by kernel_rfl)
 change wpList _ _ _ _ _ u1.drew
 replace G := lh G.out.drew;clear c x;go_upto_region 35 with (go_at_call 43; refine G.out.call H1.out HS1.out ?_; intro u2 G)
 have c := HF.out _ _ (G.out.g.mono HM.out);have d : u2.cell? ⟨V3.heap.size, 0, none⟩ = some (.string w_case) ∧ u2.cell? ⟨V3.heap.size, 1, none⟩ = some (.string w_of) := ⟨ja G.out.g.hd 0, ja G.out.g.hd 1⟩;go_upto_region 36 with (go_at_call 85; refine G.out.put ?_; intro u3 G)
 have c := HF.out _ _ (G.out.g.mono HM.out);have d : u3.cell? ⟨V3.heap.size, 0, none⟩ = some (.string w_case) ∧ u3.cell? ⟨V3.heap.size, 1, none⟩ = some (.string w_of) := ⟨ja G.out.g.hd 0, ja G.out.g.hd 1⟩;have HT : Hid (SlD w0 (fun b => b < B) K (qq ao cap 1) (cap - 1)) := lh (HS.out.drop 1);have s1 : ∀ w' : World, (Instr.slice 24 (.slice ao (K.length + 1) cap) (some (.int .i64 1)) none none).run Tryz.prog w' = .ok (.slice (qq ao cap 1) K.length (cap - 1)) w' := fun w' => kv ao (K.length + 1) cap 1 (by omega) 1 rfl w'
 go_still_tail 6, (by kernel_rfl)
 change wpList _ _ _ _ _ u3.drew
 replace G := lh G.out.drew;clear c d s1;go_upto_region 37 with (go_at_call 93; refine G.out.list (CF.one (fun _ _ => rfl)) H2.out rfl HT.out ?_; intro u4 G)
 have c := HF.out _ _ (G.out.g.mono HM.out);have d : u4.cell? ⟨V3.heap.size, 0, none⟩ = some (.string w_case) ∧ u4.cell? ⟨V3.heap.size, 1, none⟩ = some (.string w_of) := ⟨ja G.out.g.hd 0, ja G.out.g.hd 1⟩;go_wp2_with (go_at_call 85; refine G.out.put ?_; intro u5 G)
 have c := HF.out _ _ (G.out.g.mono HM.out);have d : u5.cell? ⟨V3.heap.size, 0, none⟩ = some (.string w_case) ∧ u5.cell? ⟨V3.heap.size, 1, none⟩ = some (.string w_of) := ⟨ja G.out.g.hd 0, ja G.out.g.hd 1⟩;go_end0
 exact G.out.end j4 (by simp)
theorem k_try {a q : Int} {s : ByteArray} {e : Ty} {K : List Ty} {ew rw9 : List ByteArray} (h1 : CF 43 (some (.int .i64 0)) e ew) (h2 : RowC (CF 46 none) s_bar K rw9) : CF 86 none (.mk 11 a s q (e :: K)) (w_try :: (ew ++ w_with :: (rw9 ++ [w_end]))) := by
 refine ⟨fun {B pb v0 w0 l W bs ao cap} h hS => ?_⟩;obtain ⟨V2, V3, hV2, hV3, G, HF, c2⟩ := h.b3 131 11 a s q (.slice ao (K.length + 1) cap);have HS : Hid (SlD w0 (fun b => b < B) (e :: K) ao cap) := lh hS;have H1 := lh h1;have H2 := lh h2;clear h hS h1 h2
 show Calls Tryz.prog 86 #[pp pb, .agg #[.int .i64 11, .int .i64 a, .string s, .int .i64 q, .slice ao (K.length + 1) cap]] W _
 go_enter Tryz.func86, Tryz.ntmps86
 go_upto_region 1 with fail
 rw [← hV2];clear hV2;go_upto_region 2 with fail
 rw [← hV3];clear hV3 c2;have c := HF.out _ _ G.out.g;obtain ⟨V4, hV4⟩ : ∃ V4, V4 = V3.alloc (.cells #[.string w_case, .string w_of] 122) := ⟨_, rfl⟩
 have HLT : Hid (B ≤ V3.heap.size ∧ w0.heap.size ≤ V3.heap.size ∧ ∀ x ∈ ((V2.heap.size, #[.func (.func 131) #[] #[.pointer (some ⟨W.heap.size, 0, none⟩)]], 47) :: (W.heap.size + 1, #[.int .i64 11, .int .i64 a, .string s, .int .i64 q, .slice ao (K.length + 1) cap], 26) :: (W.heap.size, #[pp pb], 43) :: bs), x.1 < V3.heap.size) := lh ⟨G.out.g.low.2, G.out.g.old, fun x hx => G.out.g.lt hx⟩;have G := lh (G.out.box hV4);go_upto_region 31 with fail
 rw [← hV4];clear hV4 c;have HM := lh (fun (x : Bx) (hx : x ∈ ((V2.heap.size, #[.func (.func 131) #[] #[.pointer (some ⟨W.heap.size, 0, none⟩)]], 47) :: (W.heap.size + 1, #[.int .i64 11, .int .i64 a, .string s, .int .i64 q, .slice ao (K.length + 1) cap], 26) :: (W.heap.size, #[pp pb], 43) :: bs)) => List.mem_cons_of_mem (V3.heap.size, #[Value.string w_try, Value.string w_with], 122) hx);have c := HF.out _ _ (G.out.g.mono j1);have d : V4.cell? ⟨V3.heap.size, 0, none⟩ = some (.string w_case) ∧ V4.cell? ⟨V3.heap.size, 1, none⟩ = some (.string w_of) := ⟨ja G.out.g.hd 0, ja G.out.g.hd 1⟩;have d2 : V4.frozen? ⟨V3.heap.size, 0, none⟩ = false ∧ V4.frozen? ⟨V3.heap.size, 1, none⟩ = false := ⟨jd G.out.g.hd 0, jd G.out.g.hd 1⟩;obtain ⟨V5, hV5⟩ : ∃ V5, V5 = (V4.setCell ⟨V3.heap.size, 0, none⟩ (.string w_try)).setCell ⟨V3.heap.size, 1, none⟩ (.string w_with) := ⟨_, rfl⟩
 have G := lh (show Gt B pb v0 w0 l (w_try :: (ew ++ w_with :: (rw9 ++ [w_end]))) V5 ((V3.heap.size, #[.string w_try, .string w_with], 122) :: ((V2.heap.size, #[.func (.func 131) #[] #[.pointer (some ⟨W.heap.size, 0, none⟩)]], 47) :: (W.heap.size + 1, #[.int .i64 11, .int .i64 a, .string s, .int .i64 q, .slice ao (K.length + 1) cap], 26) :: (W.heap.size, #[pp pb], 43) :: bs)) from ⟨by rw [hV5]; exact (G.out.g.set i0 (fun x hx => ⟨Nat.ne_of_lt (HLT.out.2.2 x hx), List.mem_cons_of_mem _ hx⟩) HLT.out.1 HLT.out.2.1).set i0 (fun x hx => ⟨Nat.ne_of_lt (HLT.out.2.2 x hx), List.mem_cons_of_mem _ hx⟩) HLT.out.1 HLT.out.2.1, G.out.hl⟩);go_upto_region 33 with fail
 rw [← hV5];clear hV5 c d d2;have c := HF.out _ _ (G.out.g.mono HM.out);have c := HF.out _ _ (G.out.g.mono HM.out);have d : V5.cell? ⟨V3.heap.size, 0, none⟩ = some (.string w_try) ∧ V5.cell? ⟨V3.heap.size, 1, none⟩ = some (.string w_with) := ⟨ja G.out.g.hd 0, ja G.out.g.hd 1⟩;go_upto_region 34 with (go_at_call 85; refine G.out.put ?_; intro u1 G)
 have c := HF.out _ _ (G.out.g.mono HM.out);have d : u1.cell? ⟨V3.heap.size, 0, none⟩ = some (.string w_try) ∧ u1.cell? ⟨V3.heap.size, 1, none⟩ = some (.string w_with) := ⟨ja G.out.g.hd 0, ja G.out.g.hd 1⟩;obtain ⟨b, p9, ap, cp, HS1, x⟩ := G.out.kid HS.out 0 e rfl (K.length + 1) rfl 0 rfl;go_still_tail 5, (by kernel_rfl)
 change wpList _ _ _ _ _ u1.drew
 replace G := lh G.out.drew;clear c x;go_upto_region 35 with (go_at_call 43; refine G.out.call H1.out HS1.out ?_; intro u2 G)
 have c := HF.out _ _ (G.out.g.mono HM.out);have d : u2.cell? ⟨V3.heap.size, 0, none⟩ = some (.string w_try) ∧ u2.cell? ⟨V3.heap.size, 1, none⟩ = some (.string w_with) := ⟨ja G.out.g.hd 0, ja G.out.g.hd 1⟩;go_upto_region 36 with (go_at_call 85; refine G.out.put ?_; intro u3 G)
 have c := HF.out _ _ (G.out.g.mono HM.out);have d : u3.cell? ⟨V3.heap.size, 0, none⟩ = some (.string w_try) ∧ u3.cell? ⟨V3.heap.size, 1, none⟩ = some (.string w_with) := ⟨ja G.out.g.hd 0, ja G.out.g.hd 1⟩;have HT : Hid (SlD w0 (fun b => b < B) K (qq ao cap 1) (cap - 1)) := lh (HS.out.drop 1);have s1 : ∀ w' : World, (Instr.slice 24 (.slice ao (K.length + 1) cap) (some (.int .i64 1)) none none).run Tryz.prog w' = .ok (.slice (qq ao cap 1) K.length (cap - 1)) w' := fun w' => kv ao (K.length + 1) cap 1 (by omega) 1 rfl w'
 go_still_tail 6, (by kernel_rfl)
 change wpList _ _ _ _ _ u3.drew
 replace G := lh G.out.drew;clear c d s1;go_upto_region 37 with (go_at_call 93; refine G.out.list (CF.one (fun _ _ => rfl)) H2.out rfl HT.out ?_; intro u4 G)
 have c := HF.out _ _ (G.out.g.mono HM.out);have d : u4.cell? ⟨V3.heap.size, 0, none⟩ = some (.string w_try) ∧ u4.cell? ⟨V3.heap.size, 1, none⟩ = some (.string w_with) := ⟨ja G.out.g.hd 0, ja G.out.g.hd 1⟩;go_wp2_with (go_at_call 85; refine G.out.put ?_; intro u5 G)
 have c := HF.out _ _ (G.out.g.mono HM.out);have d : u5.cell? ⟨V3.heap.size, 0, none⟩ = some (.string w_try) ∧ u5.cell? ⟨V3.heap.size, 1, none⟩ = some (.string w_with) := ⟨ja G.out.g.hd 0, ja G.out.g.hd 1⟩;go_end0
 exact G.out.end j4 (by simp)
structure LV (n : Ty) (k : Nat) : Prop where
 call : ∀ {B pb : Nat} {v0 : Value} {w0 : World} {l : List ByteArray} {W : World} {bs : List Bx} {ao : Option Addr} {cap : Nat}, Gp B pb v0 w0 l W bs → Calls Tryz.prog 81 #[.agg (jh n ao cap)] W fun e w' => e = .returned (.int .i64 k) ∧ Gp B pb v0 w0 l w' bs
theorem lv_fn {a q : Int} {s : ByteArray} {K : List Ty} : LV (.mk 7 a s q K) 0 := by
 refine ⟨fun {B pb v0 w0 l W bs ao cap} h => ?_⟩;obtain ⟨V, hV⟩ : ∃ V, V = W.alloc (.cells #[.int .i64 7, .int .i64 a, .string s, .int .i64 q, .slice ao K.length cap] 26) := ⟨_, rfl⟩
 have G := lh (h.box hV);have c := jM G.out.hd;clear h
 show Calls Tryz.prog 81 #[.agg #[.int .i64 7, .int .i64 a, .string s, .int .i64 q, .slice ao K.length cap]] W _
 go_enter Tryz.func81, Tryz.ntmps81
 go_upto_region 1 with fail
 rw [← hV];clear hV;go_wp2_with fail
 go_ret
 exact ⟨rfl, G.out.mono fun x hx => List.mem_cons_of_mem _ hx⟩
theorem lv_if {a q : Int} {s : ByteArray} {K : List Ty} : LV (.mk 9 a s q K) 0 := by
 refine ⟨fun {B pb v0 w0 l W bs ao cap} h => ?_⟩;obtain ⟨V, hV⟩ : ∃ V, V = W.alloc (.cells #[.int .i64 9, .int .i64 a, .string s, .int .i64 q, .slice ao K.length cap] 26) := ⟨_, rfl⟩
 have G := lh (h.box hV);have c := jM G.out.hd;clear h
 show Calls Tryz.prog 81 #[.agg #[.int .i64 9, .int .i64 a, .string s, .int .i64 q, .slice ao K.length cap]] W _
 go_enter Tryz.func81, Tryz.ntmps81
 go_upto_region 1 with fail
 rw [← hV];clear hV;go_wp2_with fail
 go_ret
 exact ⟨rfl, G.out.mono fun x hx => List.mem_cons_of_mem _ hx⟩
theorem lv_raise {a q : Int} {s : ByteArray} {K : List Ty} : LV (.mk 13 a s q K) 0 := by
 refine ⟨fun {B pb v0 w0 l W bs ao cap} h => ?_⟩;obtain ⟨V, hV⟩ : ∃ V, V = W.alloc (.cells #[.int .i64 13, .int .i64 a, .string s, .int .i64 q, .slice ao K.length cap] 26) := ⟨_, rfl⟩
 have G := lh (h.box hV);have c := jM G.out.hd;clear h
 show Calls Tryz.prog 81 #[.agg #[.int .i64 13, .int .i64 a, .string s, .int .i64 q, .slice ao K.length cap]] W _
 go_enter Tryz.func81, Tryz.ntmps81
 go_upto_region 1 with fail
 rw [← hV];clear hV;go_wp2_with fail
 go_ret
 exact ⟨rfl, G.out.mono fun x hx => List.mem_cons_of_mem _ hx⟩
theorem lv_or {a q : Int} {s : ByteArray} {K : List Ty} : LV (.mk 17 a s q K) 2 := by
 refine ⟨fun {B pb v0 w0 l W bs ao cap} h => ?_⟩;obtain ⟨V, hV⟩ : ∃ V, V = W.alloc (.cells #[.int .i64 17, .int .i64 a, .string s, .int .i64 q, .slice ao K.length cap] 26) := ⟨_, rfl⟩
 have G := lh (h.box hV);have c := jM G.out.hd;clear h
 show Calls Tryz.prog 81 #[.agg #[.int .i64 17, .int .i64 a, .string s, .int .i64 q, .slice ao K.length cap]] W _
 go_enter Tryz.func81, Tryz.ntmps81
 go_upto_region 1 with fail
 rw [← hV];clear hV;go_wp2_with fail
 go_ret
 exact ⟨rfl, G.out.mono fun x hx => List.mem_cons_of_mem _ hx⟩
theorem lv_and {a q : Int} {s : ByteArray} {K : List Ty} : LV (.mk 16 a s q K) 3 := by
 refine ⟨fun {B pb v0 w0 l W bs ao cap} h => ?_⟩;obtain ⟨V, hV⟩ : ∃ V, V = W.alloc (.cells #[.int .i64 16, .int .i64 a, .string s, .int .i64 q, .slice ao K.length cap] 26) := ⟨_, rfl⟩
 have G := lh (h.box hV);have c := jM G.out.hd;clear h
 show Calls Tryz.prog 81 #[.agg #[.int .i64 16, .int .i64 a, .string s, .int .i64 q, .slice ao K.length cap]] W _
 go_enter Tryz.func81, Tryz.ntmps81
 go_upto_region 1 with fail
 rw [← hV];clear hV;go_wp2_with fail
 go_ret
 exact ⟨rfl, G.out.mono fun x hx => List.mem_cons_of_mem _ hx⟩
theorem lv_app {a q : Int} {s : ByteArray} {K : List Ty} : LV (.mk 8 a s q K) 8 := by
 refine ⟨fun {B pb v0 w0 l W bs ao cap} h => ?_⟩;obtain ⟨V, hV⟩ : ∃ V, V = W.alloc (.cells #[.int .i64 8, .int .i64 a, .string s, .int .i64 q, .slice ao K.length cap] 26) := ⟨_, rfl⟩
 have G := lh (h.box hV);have c := jM G.out.hd;clear h
 show Calls Tryz.prog 81 #[.agg #[.int .i64 8, .int .i64 a, .string s, .int .i64 q, .slice ao K.length cap]] W _
 go_enter Tryz.func81, Tryz.ntmps81
 go_upto_region 1 with fail
 rw [← hV];clear hV;go_wp2_with fail
 go_ret
 exact ⟨rfl, G.out.mono fun x hx => List.mem_cons_of_mem _ hx⟩
theorem lv_un {a q : Int} {s : ByteArray} {x : Ty} : LV (.mk 18 a s q [x]) 9 := by
 refine ⟨fun {B pb v0 w0 l W bs ao cap} h => ?_⟩;obtain ⟨V, hV⟩ : ∃ V, V = W.alloc (.cells #[.int .i64 18, .int .i64 a, .string s, .int .i64 q, .slice ao 1 cap] 26) := ⟨_, rfl⟩
 have G := lh (h.box hV);have c := jM G.out.hd;clear h
 show Calls Tryz.prog 81 #[.agg #[.int .i64 18, .int .i64 a, .string s, .int .i64 q, .slice ao 1 cap]] W _
 go_enter Tryz.func81, Tryz.ntmps81
 go_upto_region 1 with fail
 rw [← hV];clear hV;go_wp2_with fail
 go_ret
 exact ⟨rfl, G.out.mono fun x hx => List.mem_cons_of_mem _ hx⟩
theorem lv_at {k a q : Int} {s : ByteArray} {K : List Ty} (hk : k ≠ 17 ∧ k ≠ 16 ∧ k ≠ 18 ∧ k ≠ 8 ∧ k ≠ 7 ∧ k ≠ 9 ∧ k ≠ 13) : LV (.mk k a s q K) 10 := by
 refine ⟨fun {B pb v0 w0 l W bs ao cap} h => ?_⟩;obtain ⟨V, hV⟩ : ∃ V, V = W.alloc (.cells #[.int .i64 k, .int .i64 a, .string s, .int .i64 q, .slice ao K.length cap] 26) := ⟨_, rfl⟩
 have G := lh (h.box hV);have c := jM G.out.hd;have e7 : (k == 7) = false := by simp; omega
 have e9 : (k == 9) = false := by simp; omega
 have e13 : (k == 13) = false := by simp; omega
 have e17 : (k == 17) = false := by simp; omega
 have e16 : (k == 16) = false := by simp; omega
 have e18 : (k == 18) = false := by simp; omega
 have e8 : (k == 8) = false := by simp; omega
 clear hk;clear h
 show Calls Tryz.prog 81 #[.agg #[.int .i64 k, .int .i64 a, .string s, .int .i64 q, .slice ao K.length cap]] W _
 go_enter Tryz.func81, Tryz.ntmps81
 go_upto_region 1 with fail
 rw [← hV];clear hV;go_wp2_with fail
 go_ret
 exact ⟨rfl, G.out.mono fun x hx => List.mem_cons_of_mem _ hx⟩
theorem op_words {k : Nat} {s : ByteArray} (h : s ∈ opL k) : (1 ≤ k ∧ k ≤ 7) ∧ s.size ≤ 4000 ∧ ∀ j, j < 7 → qp (lvT j) s = decide (j + 1 = k) := by
 have hk : k = 1 ∨ k = 4 ∨ k = 5 ∨ k = 6 ∨ k = 7 := by
  unfold opL at h;split at h; omega
  split at h; omega
  split at h; omega
  split at h; omega
  split at h; omega
  cases h
 have hm : anyB (kO ++ signsA) s = true → s ∈ kO ++ signsA := by
  intro h;unfold anyB at h;rw [List.any_eq_true] at h;obtain ⟨t, ht, e⟩ := h;rw [of_decide_eq_true e]; exact ht
 have hw : (s.size ≤ 4000 ∧ anyB (kO ++ signsA) s = true) ∧ ∀ j, j < 7 → anyB (lvL (7 - j)) s = decide (j + 1 = k) := by
  rcases hk with rfl | rfl | rfl | rfl | rfl <;> (clear hm; revert s; decide +kernel)
 obtain ⟨⟨h1, h2⟩, h3⟩ := hw;exact ⟨by omega, h1, fun j hj => by rw [has_lv hj s (hm h2), h3 j hj]⟩
theorem lv_op {a q : Int} {s : ByteArray} {x y : Ty} {k : Nat} (ho : s ∈ opL k) : LV (.mk 18 a s q [x, y]) k := by
 refine ⟨fun {B pb v0 w0 l W bs ao cap} h => ?_⟩;obtain ⟨V, hV⟩ : ∃ V, V = W.alloc (.cells #[.int .i64 18, .int .i64 a, .string s, .int .i64 q, .slice ao 2 cap] 26) := ⟨_, rfl⟩
 have G := lh (h.box hV);have c := jM G.out.hd;obtain ⟨hk, hs, hj⟩ := op_words ho;have HJ := lh hj
 have g : V.cell? ⟨2, 0, none⟩ = some (.string qS) ∧ V.cell? ⟨2, 1, none⟩ = some (.int .i64 0) ∧ V.cell? ⟨2, 2, none⟩ = some (.string qN) ∧ V.cell? ⟨2, 3, none⟩ = some (.int .i64 1) ∧ V.cell? ⟨2, 4, none⟩ = some (.string qU) ∧ V.cell? ⟨2, 5, none⟩ = some (.int .i64 1) ∧ V.cell? ⟨2, 6, none⟩ = some (.string qV) ∧ V.cell? ⟨2, 7, none⟩ = some (.int .i64 0) ∧ V.cell? ⟨2, 8, none⟩ = some (.string qP) ∧ V.cell? ⟨2, 9, none⟩ = some (.int .i64 2) ∧ V.cell? ⟨2, 10, none⟩ = some (.string qY) ∧ V.cell? ⟨2, 11, none⟩ = some (.int .i64 1) ∧ V.cell? ⟨2, 12, none⟩ = some (.string qO) ∧ V.cell? ⟨2, 13, none⟩ = some (.int .i64 1) := by
  have h9 := G.out.gl.lv.1;exact ⟨(h9 0 (by omega)).1, (h9 0 (by omega)).2, (h9 1 (by omega)).1, (h9 1 (by omega)).2, (h9 2 (by omega)).1, (h9 2 (by omega)).2, (h9 3 (by omega)).1, (h9 3 (by omega)).2, (h9 4 (by omega)).1, (h9 4 (by omega)).2, (h9 5 (by omega)).1, (h9 5 (by omega)).2, (h9 6 (by omega)).1, (h9 6 (by omega)).2⟩
 clear ho hj;clear h
 show Calls Tryz.prog 81 #[.agg #[.int .i64 18, .int .i64 a, .string s, .int .i64 q, .slice ao 2 cap]] W _
 go_enter Tryz.func81, Tryz.ntmps81
 go_upto_region 1 with fail
 rw [← hV];clear hV;go_upto_region 14 with fail
 clear g c;have hk7 := hk.2;go_wp2_with fail
 go_loopw [3, 4, 22] (fun _ _ i wr => ((i = .int .i64 0 ∧ 0 < k) ∨ (i = .int .i64 1 ∧ 1 < k) ∨ (i = .int .i64 2 ∧ 2 < k) ∨ (i = .int .i64 3 ∧ 3 < k) ∨ (i = .int .i64 4 ∧ 4 < k) ∨ (i = .int .i64 5 ∧ 5 < k) ∨ (i = .int .i64 6 ∧ 6 < k)) ∧ Gp B pb v0 w0 l wr ((W.heap.size, #[.int .i64 18, .int .i64 a, .string s, .int .i64 q, .slice ao 2 cap], 26) :: bs)) (fun _ _ i _ => 8 - (Lib.intOf i).toNat)
 case atStart => exact ⟨.inl ⟨rfl, by omega⟩, G.out⟩
 case round =>
  obtain ⟨hrel, hg⟩ := hrel;have G := lh hg;clear hg;rcases hrel with ⟨rfl, hj9⟩ | ⟨rfl, hj9⟩ | ⟨rfl, hj9⟩ | ⟨rfl, hj9⟩ | ⟨rfl, hj9⟩ | ⟨rfl, hj9⟩ | ⟨rfl, hj9⟩
  · obtain ⟨V, hV⟩ : ∃ V, V = wr.alloc (.cells #[.string qS, .int .i64 0] 103) := ⟨_, rfl⟩
    have G2 := lh (G.out.box hV);have hh : qp qS s = decide (0 + 1 = k) := HJ.out 0 (by omega);have d : V.cell? ⟨wr.heap.size, 0, none⟩ = some (.string qS) ∧ V.cell? ⟨wr.heap.size, 1, none⟩ = some (.int .i64 0) := ⟨ja G2.out.hd 0, ja G2.out.hd 1⟩;have c := jM (G2.out.at i1);have hx : ∀ w' : World, (Instr.index 104 (.agg #[.string qS, .int .i64 0, .string qN, .int .i64 1, .string qU, .int .i64 1, .string qV, .int .i64 0, .string qP, .int .i64 2, .string qY, .int .i64 1, .string qO, .int .i64 1]) (.int .i64 0)).run Tryz.prog w' = .ok (.agg #[.string qS, .int .i64 0]) w' := fun w' => by kernel_rfl
    go_upto_region 16 with fail
    rw [← hV];clear hV hx;have HC := lh (qL qS s V (vE 0) hs);rw [hh] at HC;clear hh
    by_cases hjk : 0 + 1 = k
    · have HC2 : Hid (Calls Tryz.prog 62 #[.string qS, .string s] V fun e w' => e = .returned (.bool true) ∧ w' = V) := lh (by have := HC.out; rw [decide_eq_true hjk] at this; exact this);obtain rfl := hjk;go_wp2_with (go_at_call 62; refine HC2.out.mono ?_; rintro e w2 ⟨rfl, rfl⟩)
      go_ret
      exact ⟨rfl, G2.out.mono fun x hx => List.mem_cons_of_mem _ (List.mem_cons_of_mem _ hx)⟩
    · have HC2 : Hid (Calls Tryz.prog 62 #[.string qS, .string s] V fun e w' => e = .returned (.bool false) ∧ w' = V) := lh (by have := HC.out; rw [decide_eq_false hjk] at this; exact this);go_wp2_with (go_at_call 62; refine HC2.out.mono ?_; rintro e w2 ⟨rfl, rfl⟩)
      go_roundw
      case rel => exact ⟨.inr (.inl ⟨rfl, by omega⟩), G2.out.mono fun x hx => List.mem_cons_of_mem _ hx⟩
      case measure => simp [Lib.intOf]
  · obtain ⟨V, hV⟩ : ∃ V, V = wr.alloc (.cells #[.string qN, .int .i64 1] 103) := ⟨_, rfl⟩
    have G2 := lh (G.out.box hV);have hh : qp qN s = decide (1 + 1 = k) := HJ.out 1 (by omega);have d : V.cell? ⟨wr.heap.size, 0, none⟩ = some (.string qN) ∧ V.cell? ⟨wr.heap.size, 1, none⟩ = some (.int .i64 1) := ⟨ja G2.out.hd 0, ja G2.out.hd 1⟩;have c := jM (G2.out.at i1);have hx : ∀ w' : World, (Instr.index 104 (.agg #[.string qS, .int .i64 0, .string qN, .int .i64 1, .string qU, .int .i64 1, .string qV, .int .i64 0, .string qP, .int .i64 2, .string qY, .int .i64 1, .string qO, .int .i64 1]) (.int .i64 1)).run Tryz.prog w' = .ok (.agg #[.string qN, .int .i64 1]) w' := fun w' => by kernel_rfl
    go_upto_region 16 with fail
    rw [← hV];clear hV hx;have HC := lh (qL qN s V (vE 1) hs);rw [hh] at HC;clear hh
    by_cases hjk : 1 + 1 = k
    · have HC2 : Hid (Calls Tryz.prog 62 #[.string qN, .string s] V fun e w' => e = .returned (.bool true) ∧ w' = V) := lh (by have := HC.out; rw [decide_eq_true hjk] at this; exact this);obtain rfl := hjk;go_wp2_with (go_at_call 62; refine HC2.out.mono ?_; rintro e w2 ⟨rfl, rfl⟩)
      go_ret
      exact ⟨rfl, G2.out.mono fun x hx => List.mem_cons_of_mem _ (List.mem_cons_of_mem _ hx)⟩
    · have HC2 : Hid (Calls Tryz.prog 62 #[.string qN, .string s] V fun e w' => e = .returned (.bool false) ∧ w' = V) := lh (by have := HC.out; rw [decide_eq_false hjk] at this; exact this);go_wp2_with (go_at_call 62; refine HC2.out.mono ?_; rintro e w2 ⟨rfl, rfl⟩)
      go_roundw
      case rel => exact ⟨.inr (.inr (.inl ⟨rfl, by omega⟩)), G2.out.mono fun x hx => List.mem_cons_of_mem _ hx⟩
      case measure => simp [Lib.intOf]
  · obtain ⟨V, hV⟩ : ∃ V, V = wr.alloc (.cells #[.string qU, .int .i64 1] 103) := ⟨_, rfl⟩
    have G2 := lh (G.out.box hV);have hh : qp qU s = decide (2 + 1 = k) := HJ.out 2 (by omega);have d : V.cell? ⟨wr.heap.size, 0, none⟩ = some (.string qU) ∧ V.cell? ⟨wr.heap.size, 1, none⟩ = some (.int .i64 1) := ⟨ja G2.out.hd 0, ja G2.out.hd 1⟩;have c := jM (G2.out.at i1);have hx : ∀ w' : World, (Instr.index 104 (.agg #[.string qS, .int .i64 0, .string qN, .int .i64 1, .string qU, .int .i64 1, .string qV, .int .i64 0, .string qP, .int .i64 2, .string qY, .int .i64 1, .string qO, .int .i64 1]) (.int .i64 2)).run Tryz.prog w' = .ok (.agg #[.string qU, .int .i64 1]) w' := fun w' => by kernel_rfl
    go_upto_region 16 with fail
    rw [← hV];clear hV hx;have HC := lh (qL qU s V (vE 2) hs);rw [hh] at HC;clear hh
    by_cases hjk : 2 + 1 = k
    · have HC2 : Hid (Calls Tryz.prog 62 #[.string qU, .string s] V fun e w' => e = .returned (.bool true) ∧ w' = V) := lh (by have := HC.out; rw [decide_eq_true hjk] at this; exact this);obtain rfl := hjk;go_wp2_with (go_at_call 62; refine HC2.out.mono ?_; rintro e w2 ⟨rfl, rfl⟩)
      go_ret
      exact ⟨rfl, G2.out.mono fun x hx => List.mem_cons_of_mem _ (List.mem_cons_of_mem _ hx)⟩
    · have HC2 : Hid (Calls Tryz.prog 62 #[.string qU, .string s] V fun e w' => e = .returned (.bool false) ∧ w' = V) := lh (by have := HC.out; rw [decide_eq_false hjk] at this; exact this);go_wp2_with (go_at_call 62; refine HC2.out.mono ?_; rintro e w2 ⟨rfl, rfl⟩)
      go_roundw
      case rel => exact ⟨.inr (.inr (.inr (.inl ⟨rfl, by omega⟩))), G2.out.mono fun x hx => List.mem_cons_of_mem _ hx⟩
      case measure => simp [Lib.intOf]
  · obtain ⟨V, hV⟩ : ∃ V, V = wr.alloc (.cells #[.string qV, .int .i64 0] 103) := ⟨_, rfl⟩
    have G2 := lh (G.out.box hV);have hh : qp qV s = decide (3 + 1 = k) := HJ.out 3 (by omega);have d : V.cell? ⟨wr.heap.size, 0, none⟩ = some (.string qV) ∧ V.cell? ⟨wr.heap.size, 1, none⟩ = some (.int .i64 0) := ⟨ja G2.out.hd 0, ja G2.out.hd 1⟩;have c := jM (G2.out.at i1);have hx : ∀ w' : World, (Instr.index 104 (.agg #[.string qS, .int .i64 0, .string qN, .int .i64 1, .string qU, .int .i64 1, .string qV, .int .i64 0, .string qP, .int .i64 2, .string qY, .int .i64 1, .string qO, .int .i64 1]) (.int .i64 3)).run Tryz.prog w' = .ok (.agg #[.string qV, .int .i64 0]) w' := fun w' => by kernel_rfl
    go_upto_region 16 with fail
    rw [← hV];clear hV hx;have HC := lh (qL qV s V (vE 3) hs);rw [hh] at HC;clear hh
    by_cases hjk : 3 + 1 = k
    · have HC2 : Hid (Calls Tryz.prog 62 #[.string qV, .string s] V fun e w' => e = .returned (.bool true) ∧ w' = V) := lh (by have := HC.out; rw [decide_eq_true hjk] at this; exact this);obtain rfl := hjk;go_wp2_with (go_at_call 62; refine HC2.out.mono ?_; rintro e w2 ⟨rfl, rfl⟩)
      go_ret
      exact ⟨rfl, G2.out.mono fun x hx => List.mem_cons_of_mem _ (List.mem_cons_of_mem _ hx)⟩
    · have HC2 : Hid (Calls Tryz.prog 62 #[.string qV, .string s] V fun e w' => e = .returned (.bool false) ∧ w' = V) := lh (by have := HC.out; rw [decide_eq_false hjk] at this; exact this);go_wp2_with (go_at_call 62; refine HC2.out.mono ?_; rintro e w2 ⟨rfl, rfl⟩)
      go_roundw
      case rel => exact ⟨.inr (.inr (.inr (.inr (.inl ⟨rfl, by omega⟩)))), G2.out.mono fun x hx => List.mem_cons_of_mem _ hx⟩
      case measure => simp [Lib.intOf]
  · obtain ⟨V, hV⟩ : ∃ V, V = wr.alloc (.cells #[.string qP, .int .i64 2] 103) := ⟨_, rfl⟩
    have G2 := lh (G.out.box hV);have hh : qp qP s = decide (4 + 1 = k) := HJ.out 4 (by omega);have d : V.cell? ⟨wr.heap.size, 0, none⟩ = some (.string qP) ∧ V.cell? ⟨wr.heap.size, 1, none⟩ = some (.int .i64 2) := ⟨ja G2.out.hd 0, ja G2.out.hd 1⟩;have c := jM (G2.out.at i1);have hx : ∀ w' : World, (Instr.index 104 (.agg #[.string qS, .int .i64 0, .string qN, .int .i64 1, .string qU, .int .i64 1, .string qV, .int .i64 0, .string qP, .int .i64 2, .string qY, .int .i64 1, .string qO, .int .i64 1]) (.int .i64 4)).run Tryz.prog w' = .ok (.agg #[.string qP, .int .i64 2]) w' := fun w' => by kernel_rfl
    go_upto_region 16 with fail
    rw [← hV];clear hV hx;have HC := lh (qL qP s V (vE 4) hs);rw [hh] at HC;clear hh
    by_cases hjk : 4 + 1 = k
    · have HC2 : Hid (Calls Tryz.prog 62 #[.string qP, .string s] V fun e w' => e = .returned (.bool true) ∧ w' = V) := lh (by have := HC.out; rw [decide_eq_true hjk] at this; exact this);obtain rfl := hjk;go_wp2_with (go_at_call 62; refine HC2.out.mono ?_; rintro e w2 ⟨rfl, rfl⟩)
      go_ret
      exact ⟨rfl, G2.out.mono fun x hx => List.mem_cons_of_mem _ (List.mem_cons_of_mem _ hx)⟩
    · have HC2 : Hid (Calls Tryz.prog 62 #[.string qP, .string s] V fun e w' => e = .returned (.bool false) ∧ w' = V) := lh (by have := HC.out; rw [decide_eq_false hjk] at this; exact this);go_wp2_with (go_at_call 62; refine HC2.out.mono ?_; rintro e w2 ⟨rfl, rfl⟩)
      go_roundw
      case rel => exact ⟨.inr (.inr (.inr (.inr (.inr (.inl ⟨rfl, by omega⟩))))), G2.out.mono fun x hx => List.mem_cons_of_mem _ hx⟩
      case measure => simp [Lib.intOf]
  · obtain ⟨V, hV⟩ : ∃ V, V = wr.alloc (.cells #[.string qY, .int .i64 1] 103) := ⟨_, rfl⟩
    have G2 := lh (G.out.box hV);have hh : qp qY s = decide (5 + 1 = k) := HJ.out 5 (by omega);have d : V.cell? ⟨wr.heap.size, 0, none⟩ = some (.string qY) ∧ V.cell? ⟨wr.heap.size, 1, none⟩ = some (.int .i64 1) := ⟨ja G2.out.hd 0, ja G2.out.hd 1⟩;have c := jM (G2.out.at i1);have hx : ∀ w' : World, (Instr.index 104 (.agg #[.string qS, .int .i64 0, .string qN, .int .i64 1, .string qU, .int .i64 1, .string qV, .int .i64 0, .string qP, .int .i64 2, .string qY, .int .i64 1, .string qO, .int .i64 1]) (.int .i64 5)).run Tryz.prog w' = .ok (.agg #[.string qY, .int .i64 1]) w' := fun w' => by kernel_rfl
    go_upto_region 16 with fail
    rw [← hV];clear hV hx;have HC := lh (qL qY s V (vE 5) hs);rw [hh] at HC;clear hh
    by_cases hjk : 5 + 1 = k
    · have HC2 : Hid (Calls Tryz.prog 62 #[.string qY, .string s] V fun e w' => e = .returned (.bool true) ∧ w' = V) := lh (by have := HC.out; rw [decide_eq_true hjk] at this; exact this);obtain rfl := hjk;go_wp2_with (go_at_call 62; refine HC2.out.mono ?_; rintro e w2 ⟨rfl, rfl⟩)
      go_ret
      exact ⟨rfl, G2.out.mono fun x hx => List.mem_cons_of_mem _ (List.mem_cons_of_mem _ hx)⟩
    · have HC2 : Hid (Calls Tryz.prog 62 #[.string qY, .string s] V fun e w' => e = .returned (.bool false) ∧ w' = V) := lh (by have := HC.out; rw [decide_eq_false hjk] at this; exact this);go_wp2_with (go_at_call 62; refine HC2.out.mono ?_; rintro e w2 ⟨rfl, rfl⟩)
      go_roundw
      case rel => exact ⟨.inr (.inr (.inr (.inr (.inr (.inr (⟨rfl, by omega⟩)))))), G2.out.mono fun x hx => List.mem_cons_of_mem _ hx⟩
      case measure => simp [Lib.intOf]
  · obtain ⟨V, hV⟩ : ∃ V, V = wr.alloc (.cells #[.string qO, .int .i64 1] 103) := ⟨_, rfl⟩
    have G2 := lh (G.out.box hV);have hh : qp qO s = decide (6 + 1 = k) := HJ.out 6 (by omega);have d : V.cell? ⟨wr.heap.size, 0, none⟩ = some (.string qO) ∧ V.cell? ⟨wr.heap.size, 1, none⟩ = some (.int .i64 1) := ⟨ja G2.out.hd 0, ja G2.out.hd 1⟩;have c := jM (G2.out.at i1);have hx : ∀ w' : World, (Instr.index 104 (.agg #[.string qS, .int .i64 0, .string qN, .int .i64 1, .string qU, .int .i64 1, .string qV, .int .i64 0, .string qP, .int .i64 2, .string qY, .int .i64 1, .string qO, .int .i64 1]) (.int .i64 6)).run Tryz.prog w' = .ok (.agg #[.string qO, .int .i64 1]) w' := fun w' => by kernel_rfl
    go_upto_region 16 with fail
    rw [← hV];clear hV hx;have HC := lh (qL qO s V (vE 6) hs);rw [hh] at HC;clear hh
    by_cases hjk : 6 + 1 = k
    · have HC2 : Hid (Calls Tryz.prog 62 #[.string qO, .string s] V fun e w' => e = .returned (.bool true) ∧ w' = V) := lh (by have := HC.out; rw [decide_eq_true hjk] at this; exact this);obtain rfl := hjk;go_wp2_with (go_at_call 62; refine HC2.out.mono ?_; rintro e w2 ⟨rfl, rfl⟩)
      go_ret
      exact ⟨rfl, G2.out.mono fun x hx => List.mem_cons_of_mem _ (List.mem_cons_of_mem _ hx)⟩
    · have HC2 : Hid (Calls Tryz.prog 62 #[.string qO, .string s] V fun e w' => e = .returned (.bool false) ∧ w' = V) := lh (by have := HC.out; rw [decide_eq_false hjk] at this; exact this);omega
end Go.Proofs.YthehjeeiodbkjaaGreatDoor
