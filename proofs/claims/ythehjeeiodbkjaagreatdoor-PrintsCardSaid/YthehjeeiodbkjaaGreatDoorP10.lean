/-
  Proved: the contracts of the printer's exp, pat, typ (over their closures) and rule; the closures of the printer's pat and typ, by kinds; the contracts of the printer's head and of its dec, by kinds; the contracts of the printer's module and any, by kinds; the closure of the printer's pat at numbers. Conditions: the printer as it stands in memory; the contracts of what they call; the printer as it stands in memory.
-/
import Derived.Test.YthehjeeiodbkjaaGreatDoorP01
import Derived.Test.YthehjeeiodbkjaaGreatDoorP09
import Derived.Test.YthehjeeiodbkjaaGreatDoorP04
import Derived.Laws.EntriesVeiled
set_option linter.unusedSimpArgs false
set_option linter.unusedVariables false
set_option maxRecDepth 100000
set_option maxHeartbeats 16000000
namespace Go.Proofs.YthehjeeiodbkjaaGreatDoor
open Go.RowKit
structure CX (n : Ty) (k : Nat) (ws : List ByteArray) : Prop where
 c : ∀ {B pb : Nat} {v0 : Value} {w0 : World} {bs : List Bx} {ao : Option Addr} {cap nb xb kb : Nat}, (nb, jh n ao cap, 26) ∈ bs → (xb, #[pp pb], 43) ∈ bs → (kb, #[.int .i64 k], 3) ∈ bs → SlD w0 (fun b => b < B) n.args ao cap → CV 83 #[.pointer (some ⟨nb, 0, none⟩), .pointer (some ⟨xb, 0, none⟩), .pointer (some ⟨kb, 0, none⟩)] ws B pb v0 w0 bs
structure CPX (n : Ty) (ws : List ByteArray) : Prop where
 c : ∀ {B pb : Nat} {v0 : Value} {w0 : World} {bs : List Bx} {ao : Option Addr} {cap nb xb ab : Nat}, (nb, jh n ao cap, 26) ∈ bs → (xb, #[pp pb], 43) ∈ bs → (ab, #[.func (.func 87) #[] #[.pointer (some ⟨xb, 0, none⟩)]], 47) ∈ bs → SlD w0 (fun b => b < B) n.args ao cap → CV 88 #[.pointer (some ⟨nb, 0, none⟩), .pointer (some ⟨xb, 0, none⟩), .pointer (some ⟨ab, 0, none⟩)] ws B pb v0 w0 bs
structure CTX (n : Ty) (ws : List ByteArray) : Prop where
 c : ∀ {B pb : Nat} {v0 : Value} {w0 : World} {bs : List Bx} {ao : Option Addr} {cap nb xb : Nat}, (nb, jh n ao cap, 26) ∈ bs → (xb, #[pp pb], 43) ∈ bs → SlD w0 (fun b => b < B) n.args ao cap → CV 94 #[.pointer (some ⟨nb, 0, none⟩), .pointer (some ⟨xb, 0, none⟩)] ws B pb v0 w0 bs
theorem exp_c {k a q : Int} {s : ByteArray} {K : List Ty} {m least : Nat} {ws : List ByteArray} (h1 : LV (.mk k a s q K) m) (h2 : CX (.mk k a s q K) m ws) : CF 43 (some (.int .i64 least)) (.mk k a s q K) (rnd (decide (m < least)) ws) := by
 refine ⟨fun {B pb v0 w0 l W bs ao cap} h hS => ?_⟩;obtain ⟨V2, hV2, G, HF, c2⟩ := h.b2 k a s q (.slice ao K.length cap);have HS : Hid (SlD w0 (fun b => b < B) K ao cap) := lh hS;have H1 := lh h1;have H2 := lh h2;clear h hS h1 h2
 show Calls Tryz.prog 43 #[pp pb, .agg #[.int .i64 k, .int .i64 a, .string s, .int .i64 q, .slice ao K.length cap], (.int .i64 least)] W _
 go_enter Tryz.func43, Tryz.ntmps43
 go_upto_region 1 with fail
 rw [← hV2];clear hV2;have c := c2;clear c2
 skip
 go_upto_region 2 with (go_at_call 81; refine (H1.out.call (ao := ao) (cap := cap) G.out.g).mono ?_; rintro e u1 ⟨rfl, hg⟩; have G := lh (show Gt B pb v0 w0 l (rnd (decide (m < least)) ws) u1 ((W.heap.size + 1, #[.int .i64 k, .int .i64 a, .string s, .int .i64 q, .slice ao K.length cap], 26) :: (W.heap.size, #[pp pb], 43) :: bs) from ⟨hg, G.out.hl⟩); clear hg)
 obtain ⟨V4, hV4⟩ : ∃ V4, V4 = u1.alloc (.cells #[.int .i64 m] 3) := ⟨_, rfl⟩
 have G := lh (G.out.box hV4);rw [← hV4];clear hV4 c;have c := And.intro (jV G.out.g.hd) (jV (G.out.g.at i2));replace G := lh G.out.nil;go_wp2_with (go_at_call 82; refine G.out.round (fun _ _ => rfl) (H2.out.c i1 i2 i0 HS.out) ?_; intro u2 G)
 go_end0
 exact G.out.end j3 (by simp)
theorem pat_cons {a q : Int} {s : ByteArray} {K : List Ty} {least : Nat} {ws : List ByteArray} (h2 : CPX (.mk 27 a s q K) ws) : CF 44 (some (.int .i64 least)) (.mk 27 a s q K) (rnd (decide (0 < least)) ws) := by
 refine ⟨fun {B pb v0 w0 l W bs ao cap} h hS => ?_⟩;obtain ⟨V2, V3, hV2, hV3, G, HF, c2⟩ := h.b3 87 27 a s q (.slice ao K.length cap);have HS : Hid (SlD w0 (fun b => b < B) K ao cap) := lh hS;have H2 := lh h2;clear h hS h2
 show Calls Tryz.prog 44 #[pp pb, .agg #[.int .i64 27, .int .i64 a, .string s, .int .i64 q, .slice ao K.length cap], (.int .i64 least)] W _
 go_enter Tryz.func44, Tryz.ntmps44
 go_upto_region 1 with fail
 rw [← hV2];clear hV2;have c := c2;go_upto_region 7 with fail
 clear c;rw [← hV3];clear hV3 c2;have c := HF.out _ _ G.out.g;replace G := lh G.out.nil;go_wp2_with (go_at_call 82; refine G.out.round (fun _ _ => rfl) (H2.out.c i1 i2 i0 HS.out) ?_; intro u2 G)
 go_end0
 exact G.out.end j3 (by simp)
theorem pat_arg {a q : Int} {s : ByteArray} {x : Ty} {K : List Ty} {least : Nat} {ws : List ByteArray} (h2 : CPX (.mk 24 a s q (x :: K)) ws) : CF 44 (some (.int .i64 least)) (.mk 24 a s q (x :: K)) (rnd (decide ((1 : Int) < (least : Int))) ws) := by
 refine ⟨fun {B pb v0 w0 l W bs ao cap} h hS => ?_⟩;obtain ⟨V2, V3, hV2, hV3, G, HF, c2⟩ := h.b3 87 24 a s q (.slice ao (K.length + 1) cap);have HS : Hid (SlD w0 (fun b => b < B) (x :: K) ao cap) := lh hS;have H2 := lh h2;clear h hS h2
 show Calls Tryz.prog 44 #[pp pb, .agg #[.int .i64 24, .int .i64 a, .string s, .int .i64 q, .slice ao (K.length + 1) cap], (.int .i64 least)] W _
 go_enter Tryz.func44, Tryz.ntmps44
 go_upto_region 1 with fail
 rw [← hV2];clear hV2;have c := c2;go_upto_region 7 with fail
 clear c;rw [← hV3];clear hV3 c2;have c := HF.out _ _ G.out.g;replace G := lh G.out.nil;go_wp2_with (go_at_call 82; refine G.out.round (fun _ _ => rfl) (H2.out.c i1 i2 i0 HS.out) ?_; intro u2 G)
 go_end0
 exact G.out.end j3 (by simp)
theorem pat_nul {a q : Int} {s : ByteArray} {least : Nat} {ws : List ByteArray} (h2 : CPX (.mk 24 a s q []) ws) : CF 44 (some (.int .i64 least)) (.mk 24 a s q []) (rnd (decide ((2 : Int) < (least : Int))) ws) := by
 refine ⟨fun {B pb v0 w0 l W bs ao cap} h hS => ?_⟩;obtain ⟨V2, V3, hV2, hV3, G, HF, c2⟩ := h.b3 87 24 a s q (.slice ao 0 cap);have HS : Hid (SlD w0 (fun b => b < B) [] ao cap) := lh hS;have H2 := lh h2;clear h hS h2
 show Calls Tryz.prog 44 #[pp pb, .agg #[.int .i64 24, .int .i64 a, .string s, .int .i64 q, .slice ao 0 cap], (.int .i64 least)] W _
 go_enter Tryz.func44, Tryz.ntmps44
 go_upto_region 1 with fail
 rw [← hV2];clear hV2;have c := c2;go_upto_region 7 with fail
 clear c;rw [← hV3];clear hV3 c2;have c := HF.out _ _ G.out.g;replace G := lh G.out.nil;go_wp2_with (go_at_call 82; refine G.out.round (fun _ _ => rfl) (H2.out.c i1 i2 i0 HS.out) ?_; intro u2 G)
 go_end0
 exact G.out.end j3 (by simp)
theorem pat_at {k a q : Int} {s : ByteArray} {K : List Ty} (hk : k ≠ 27 ∧ k ≠ 24) {least : Nat} {ws : List ByteArray} (h2 : CPX (.mk k a s q K) ws) : CF 44 (some (.int .i64 least)) (.mk k a s q K) (rnd (decide ((2 : Int) < (least : Int))) ws) := by
 refine ⟨fun {B pb v0 w0 l W bs ao cap} h hS => ?_⟩;obtain ⟨V2, V3, hV2, hV3, G, HF, c2⟩ := h.b3 87 k a s q (.slice ao K.length cap);have HS : Hid (SlD w0 (fun b => b < B) K ao cap) := lh hS;have H2 := lh h2;clear h hS h2
 show Calls Tryz.prog 44 #[pp pb, .agg #[.int .i64 k, .int .i64 a, .string s, .int .i64 q, .slice ao K.length cap], (.int .i64 least)] W _
 go_enter Tryz.func44, Tryz.ntmps44
 go_upto_region 1 with fail
 rw [← hV2];clear hV2;have c := c2;have e1 : (k == 27) = false := by simp; omega
 have e2 : (k == 24) = false := by simp; omega
 clear hk;go_upto_region 7 with fail
 clear c;rw [← hV3];clear hV3 c2;have c := HF.out _ _ G.out.g;replace G := lh G.out.nil;go_wp2_with (go_at_call 82; refine G.out.round (fun _ _ => rfl) (H2.out.c i1 i2 i0 HS.out) ?_; intro u2 G)
 go_end0
 exact G.out.end j3 (by simp)
theorem typ_arr {a q : Int} {s : ByteArray} {K : List Ty} {least : Nat} {ws : List ByteArray} (h2 : CTX (.mk 33 a s q K) ws) : CF 45 (some (.int .i64 least)) (.mk 33 a s q K) (rnd (decide (0 < least)) ws) := by
 refine ⟨fun {B pb v0 w0 l W bs ao cap} h hS => ?_⟩;obtain ⟨V2, hV2, G, HF, c2⟩ := h.b2 33 a s q (.slice ao K.length cap);have HS : Hid (SlD w0 (fun b => b < B) K ao cap) := lh hS;have H2 := lh h2;clear h hS h2
 show Calls Tryz.prog 45 #[pp pb, .agg #[.int .i64 33, .int .i64 a, .string s, .int .i64 q, .slice ao K.length cap], (.int .i64 least)] W _
 go_enter Tryz.func45, Tryz.ntmps45
 go_upto_region 1 with fail
 rw [← hV2];clear hV2;have c := c2;clear c2;replace G := lh G.out.nil;go_wp2_with (go_at_call 82; refine G.out.round (fun _ _ => rfl) (H2.out.c i0 i1 HS.out) ?_; intro u2 G)
 go_end0
 exact G.out.end j2 (by simp)
theorem typ_tup {a q : Int} {s : ByteArray} {K : List Ty} {least : Nat} {ws : List ByteArray} (h2 : CTX (.mk 32 a s q K) ws) : CF 45 (some (.int .i64 least)) (.mk 32 a s q K) (rnd (decide ((1 : Int) < (least : Int))) ws) := by
 refine ⟨fun {B pb v0 w0 l W bs ao cap} h hS => ?_⟩;obtain ⟨V2, hV2, G, HF, c2⟩ := h.b2 32 a s q (.slice ao K.length cap);have HS : Hid (SlD w0 (fun b => b < B) K ao cap) := lh hS;have H2 := lh h2;clear h hS h2
 show Calls Tryz.prog 45 #[pp pb, .agg #[.int .i64 32, .int .i64 a, .string s, .int .i64 q, .slice ao K.length cap], (.int .i64 least)] W _
 go_enter Tryz.func45, Tryz.ntmps45
 go_upto_region 1 with fail
 rw [← hV2];clear hV2;have c := c2;clear c2;replace G := lh G.out.nil;go_wp2_with (go_at_call 82; refine G.out.round (fun _ _ => rfl) (H2.out.c i0 i1 HS.out) ?_; intro u2 G)
 go_end0
 exact G.out.end j2 (by simp)
theorem typ_at {k a q : Int} {s : ByteArray} {K : List Ty} (hk : k ≠ 33 ∧ k ≠ 32) {least : Nat} {ws : List ByteArray} (h2 : CTX (.mk k a s q K) ws) : CF 45 (some (.int .i64 least)) (.mk k a s q K) (rnd (decide ((2 : Int) < (least : Int))) ws) := by
 refine ⟨fun {B pb v0 w0 l W bs ao cap} h hS => ?_⟩;obtain ⟨V2, hV2, G, HF, c2⟩ := h.b2 k a s q (.slice ao K.length cap);have HS : Hid (SlD w0 (fun b => b < B) K ao cap) := lh hS;have H2 := lh h2;clear h hS h2
 show Calls Tryz.prog 45 #[pp pb, .agg #[.int .i64 k, .int .i64 a, .string s, .int .i64 q, .slice ao K.length cap], (.int .i64 least)] W _
 go_enter Tryz.func45, Tryz.ntmps45
 go_upto_region 1 with fail
 rw [← hV2];clear hV2;have c := c2;clear c2;have e1 : (k == 33) = false := by simp; omega
 have e2 : (k == 32) = false := by simp; omega
 clear hk;replace G := lh G.out.nil;go_wp2_with (go_at_call 82; refine G.out.round (fun _ _ => rfl) (H2.out.c i0 i1 HS.out) ?_; intro u2 G)
 go_end0
 exact G.out.end j2 (by simp)
theorem rule_c {a : Int} {p e : Ty} {pw ew : List ByteArray} (h1 : CF 44 (some (.int .i64 0)) p pw) (h2 : CF 43 (some (.int .i64 0)) e ew) : CF 46 none (.mk 12 a e_ 0 [p, e]) (pw ++ s_arr :: ew) := by
 refine ⟨fun {B pb v0 w0 l W bs ao cap} h hS => ?_⟩;obtain ⟨V, hV, G, HF⟩ := h.b1 12 a e_ 0 (.slice ao 2 cap);have HS : Hid (SlD w0 (fun b => b < B) [p, e] ao cap) := lh hS;have H1 := lh h1;have H2 := lh h2;have c := HF.out _ _ G.out.g;clear h hS h1 h2
 show Calls Tryz.prog 46 #[pp pb, .agg #[.int .i64 12, .int .i64 a, .string e_, .int .i64 0, .slice ao 2 cap]] W _
 go_enter Tryz.func46, Tryz.ntmps46
 go_upto_region 1 with fail
 rw [← hV];clear hV;have c := HF.out _ _ G.out.g;obtain ⟨b, p9, ap, cp, HS1, x⟩ := G.out.kid HS.out 0 p rfl 2 rfl 0 rfl;go_upto_region 2 with (go_at_call 44; refine G.out.call H1.out HS1.out ?_; intro u1 G)
 have c := HF.out _ _ G.out.g;go_upto_region 3 with (go_at_call 85; refine G.out.put ?_; intro u2 G)
 have c := HF.out _ _ G.out.g;obtain ⟨b, p9, ap, cp, HS1, x⟩ := G.out.kid HS.out 1 e rfl 2 rfl 1 rfl;replace G := lh G.out.nil;go_wp2_with (go_at_call 43; refine G.out.call H2.out HS1.out ?_; intro u3 G)
 have c := HF.out _ _ G.out.g;go_end0
 exact G.out.end j1 (by simp)
theorem q_any {a q : Int} {s : ByteArray} {K : List Ty}  {B pb : Nat} {v0 : Value} {w0 : World} {bs : List Bx} {ao : Option Addr} {cap nb xb ab : Nat} (m0 : (nb, #[.int .i64 20, .int .i64 a, .string s, .int .i64 q, .slice ao K.length cap], 26) ∈ bs) (m1 : (xb, #[pp pb], 43) ∈ bs) (m2 : (ab, #[.func (.func 87) #[] #[.pointer (some ⟨xb, 0, none⟩)]], 47) ∈ bs) (hS : SlD w0 (fun b => b < B) K ao cap) : CV 88 #[.pointer (some ⟨nb, 0, none⟩), .pointer (some ⟨xb, 0, none⟩), .pointer (some ⟨ab, 0, none⟩)] ([s_us]) B pb v0 w0 bs := by
 refine ⟨fun {l W} h => ?_⟩;have G := lh h;have HF := lh (fun (l : List ByteArray) (W : World) (g : Gp B pb v0 w0 l W bs) => And.intro (jM (g.at m0)) (And.intro (jV (g.at m1)) (jV (g.at m2))));have HS : Hid (SlD w0 (fun b => b < B) K ao cap) := lh hS;have c := HF.out _ _ G.out.g;clear h hS  m0 m1 m2;go_enter Tryz.func88, Tryz.ntmps88
 go_wp2_with (go_at_call 85; refine G.out.put ?_; intro u1 G)
 have c := HF.out _ _ G.out.g;go_end0
 exact G.out.end (fun _ h => h) (by simp)
theorem q_var {a q : Int} {s : ByteArray} {K : List Ty}  {B pb : Nat} {v0 : Value} {w0 : World} {bs : List Bx} {ao : Option Addr} {cap nb xb ab : Nat} (m0 : (nb, #[.int .i64 21, .int .i64 a, .string s, .int .i64 q, .slice ao K.length cap], 26) ∈ bs) (m1 : (xb, #[pp pb], 43) ∈ bs) (m2 : (ab, #[.func (.func 87) #[] #[.pointer (some ⟨xb, 0, none⟩)]], 47) ∈ bs) (hS : SlD w0 (fun b => b < B) K ao cap) : CV 88 #[.pointer (some ⟨nb, 0, none⟩), .pointer (some ⟨xb, 0, none⟩), .pointer (some ⟨ab, 0, none⟩)] ([s]) B pb v0 w0 bs := by
 refine ⟨fun {l W} h => ?_⟩;have G := lh h;have HF := lh (fun (l : List ByteArray) (W : World) (g : Gp B pb v0 w0 l W bs) => And.intro (jM (g.at m0)) (And.intro (jV (g.at m1)) (jV (g.at m2))));have HS : Hid (SlD w0 (fun b => b < B) K ao cap) := lh hS;have c := HF.out _ _ G.out.g;clear h hS  m0 m1 m2;go_enter Tryz.func88, Tryz.ntmps88
 go_wp2_with (go_at_call 85; refine G.out.put ?_; intro u1 G)
 have c := HF.out _ _ G.out.g;go_end0
 exact G.out.end (fun _ h => h) (by simp)
theorem q_str {a q : Int} {s : ByteArray} {K : List Ty} (h1 : s.size ≤ 200) {B pb : Nat} {v0 : Value} {w0 : World} {bs : List Bx} {ao : Option Addr} {cap nb xb ab : Nat} (m0 : (nb, #[.int .i64 23, .int .i64 a, .string s, .int .i64 q, .slice ao K.length cap], 26) ∈ bs) (m1 : (xb, #[pp pb], 43) ∈ bs) (m2 : (ab, #[.func (.func 87) #[] #[.pointer (some ⟨xb, 0, none⟩)]], 47) ∈ bs) (hS : SlD w0 (fun b => b < B) K ao cap) : CV 88 #[.pointer (some ⟨nb, 0, none⟩), .pointer (some ⟨xb, 0, none⟩), .pointer (some ⟨ab, 0, none⟩)] ([qC s]) B pb v0 w0 bs := by
 refine ⟨fun {l W} h => ?_⟩;have G := lh h;have HF := lh (fun (l : List ByteArray) (W : World) (g : Gp B pb v0 w0 l W bs) => And.intro (jM (g.at m0)) (And.intro (jV (g.at m1)) (jV (g.at m2))));have HS : Hid (SlD w0 (fun b => b < B) K ao cap) := lh hS;have H1 := lh h1;have c := HF.out _ _ G.out.g;clear h hS h1 m0 m1 m2;go_enter Tryz.func88, Tryz.ntmps88
 go_upto_region 10 with fail
 have HS9 := lh (fun l W9 g => And.intro (HF.out l W9 g).1.2.2.1 (HF.out l W9 g).2.1);replace G := lh G.out.drew;clear c;go_region_held3 (fun w9 => w9.cell? ⟨nb, 2, none⟩ = some (.string s) ∧ w9.cell? ⟨xb, 0, none⟩ = some (pp pb)) (first | exact HS9.out _ _ G.out.g | exact HS9.out _ _ (G.out.g.below (jk (Below.refl _ _) _))) (first | (go_at_call 90; refine G.out.quote H1.out ?_; intro u1 G) | (go_at_call 85; refine G.out.put ?_; intro u2 G))
 go_end0
 exact G.out.end (fun _ h => h) (by simp)
theorem q_con {a q : Int} {s : ByteArray} {K : List Ty} {ws kw : List ByteArray} (h1 : PathT s ws) (h2 : ManyC (CF 44 (some (.int .i64 2))) K kw) {B pb : Nat} {v0 : Value} {w0 : World} {bs : List Bx} {ao : Option Addr} {cap nb xb ab : Nat} (m0 : (nb, #[.int .i64 24, .int .i64 a, .string s, .int .i64 q, .slice ao K.length cap], 26) ∈ bs) (m1 : (xb, #[pp pb], 43) ∈ bs) (m2 : (ab, #[.func (.func 87) #[] #[.pointer (some ⟨xb, 0, none⟩)]], 47) ∈ bs) (hS : SlD w0 (fun b => b < B) K ao cap) : CV 88 #[.pointer (some ⟨nb, 0, none⟩), .pointer (some ⟨xb, 0, none⟩), .pointer (some ⟨ab, 0, none⟩)] (ws ++ kw) B pb v0 w0 bs := by
 refine ⟨fun {l W} h => ?_⟩;have G := lh h;have HF := lh (fun (l : List ByteArray) (W : World) (g : Gp B pb v0 w0 l W bs) => And.intro (jM (g.at m0)) (And.intro (jV (g.at m1)) (jV (g.at m2))));have HS : Hid (SlD w0 (fun b => b < B) K ao cap) := lh hS;have H1 := lh h1;have H2 := lh h2;have c := HF.out _ _ G.out.g;clear h hS h1 h2 m0 m1 m2;go_enter Tryz.func88, Tryz.ntmps88
 replace G := lh (show Gt B pb v0 w0 l (ws ++ (kw ++ [])) W bs by simpa using G.out);go_upto_region 13 with (go_at_call 91; refine G.out.path H1.out ?_; intro u1 G)
 have c := HF.out _ _ G.out.g;have HS2 := HS;obtain ⟨c9, hc9⟩ : ∃ c9, c9 = K.length := ⟨_, rfl⟩
 have HC := lh hc9;rw [← hc9] at c;clear hc9;go_upto_region 14 with fail
 obtain ⟨wss, hwl, hwe, hwp⟩ := H2.out.ex;have HWL := lh hwl;have HWP := lh hwp;have HWE := lh hwe;rw [hwe] at G ⊢;have HLB : Hid (c9 ≤ 5000000000) := lh (by have h1 := G.out.hl; have h2 := qR wss (fun x hx => by obtain ⟨i, hi, rfl⟩ := List.mem_iff_getElem.1 hx; exact (hwp i (by omega) hi).2); simp only [jL] at h1; have h3 : c9 = (K).length := HC.out; omega);have hlb := HLB.out;clear hwl hwe hwp H2 c;go_wp2_with fail
 go_loopw [4, 54] (fun _ i wr => ∃ k : Nat, i = .int .i64 k ∧ k ≤ c9 ∧ Gt B pb v0 w0 (l ++ ws ++ (wss.take k).flatten) ((wss.drop k).flatten ++ []) wr bs) (fun _ i _ => c9 - (Lib.intOf i).toNat)
 case atStart => exact ⟨0, rfl, by omega, by simpa using G.out⟩
 case round =>
  obtain ⟨k, rfl, hk, hg⟩ := hrel;have G := lh hg;clear hg
  by_cases hkc : k < c9
  · have hk9 : k < (K).length := (by have h3 : c9 = (K).length := HC.out; omega);have hk8 : k < wss.length := (by rw [HWL.out]; exact hk9);obtain ⟨b, p9, ap, cp, HS1, hb9, hix, x⟩ := G.out.kid HS2.out k _ (List.getElem?_eq_getElem hk9) c9 HC.out k rfl;obtain ⟨u, hu⟩ : ∃ u, u = (K)[k] := ⟨_, rfl⟩
    rw [← hu] at x HS1;obtain ⟨V, hV⟩ : ∃ V, V = wr.alloc (.cells (jh u ap cp) 26) := ⟨_, rfl⟩
    have HP : Hid (CF 44 (some (.int .i64 2)) u wss[k]) := lh (by rw [hu]; exact (HWP.out k hk9 hk8).1);rw [flat_drop hk8] at G;have G := lh (G.out.box hV);unfold jh at hV G;clear hu;have hkc2 : (k : Int) < ((c9 : Nat) : Int) := (by omega);go_upto_region 16 with fail
    rw [← hV];have y := jM G.out.g.hd;have d := (HF.out _ _ (G.out.g.mono j1)).2;clear hV x hix;go_wp2_with (go_at_call 44; refine G.out.call HP.out HS1.out ?_; intro u1 G)
    go_roundw
    case rel =>
     refine ⟨k + 1, by go_num, hkc, ?_⟩;rw [vL hk8, ← List.append_assoc];exact ⟨G.out.g.mono j1, G.out.hl⟩
    case measure => simp only [Lib.intOf]; omega
  · obtain rfl : k = c9 := by omega
    have hd : decide ((k : Int) < (k : Int)) = false := (by simp);replace G : Hid (Gt B pb v0 w0 (l ++ ws ++ wss.flatten) ([]) wr bs) := lh (by have h := G.out; have h3 : k = (K).length := HC.out; rw [List.take_of_length_le (by rw [HWL.out]; omega), List.drop_of_length_le (by rw [HWL.out]; omega)] at h; exact h)
    skip
    go_wp2_with fail
    go_end0
    exact G.out.end (fun _ h => h) (by simp)
theorem q_tup {a q : Int} {s : ByteArray} {K : List Ty} {ws : List ByteArray} (h1 : RowC (CF 44 (some (.int .i64 0))) s_com K ws) {B pb : Nat} {v0 : Value} {w0 : World} {bs : List Bx} {ao : Option Addr} {cap nb xb ab : Nat} (m0 : (nb, #[.int .i64 25, .int .i64 a, .string s, .int .i64 q, .slice ao K.length cap], 26) ∈ bs) (m1 : (xb, #[pp pb], 43) ∈ bs) (m2 : (ab, #[.func (.func 87) #[] #[.pointer (some ⟨xb, 0, none⟩)]], 47) ∈ bs) (hS : SlD w0 (fun b => b < B) K ao cap) : CV 88 #[.pointer (some ⟨nb, 0, none⟩), .pointer (some ⟨xb, 0, none⟩), .pointer (some ⟨ab, 0, none⟩)] (rnd true ws) B pb v0 w0 bs := by
 refine ⟨fun {l W} h => ?_⟩;have G := lh h;have HF := lh (fun (l : List ByteArray) (W : World) (g : Gp B pb v0 w0 l W bs) => And.intro (jM (g.at m0)) (And.intro (jV (g.at m1)) (jV (g.at m2))));have HS : Hid (SlD w0 (fun b => b < B) K ao cap) := lh hS;have H1 := lh h1;have c := HF.out _ _ G.out.g;have HV := lh (c92 (s := s_com) h1 rfl m1 m0 m2 hS : CV 92 _ ws B pb v0 w0 bs);clear h hS h1 m0 m1 m2;go_enter Tryz.func88, Tryz.ntmps88
 replace G := lh G.out.nil;go_wp2_with (go_at_call 82; refine G.out.round (fun _ _ => rfl) HV.out ?_; intro u1 G)
 have c := HF.out _ _ G.out.g;go_end0
 exact G.out.end (fun _ h => h) (by simp)
theorem q_list {a q : Int} {s : ByteArray} {K : List Ty} {ws : List ByteArray} (h1 : RowC (CF 44 (some (.int .i64 0))) s_com K ws) {B pb : Nat} {v0 : Value} {w0 : World} {bs : List Bx} {ao : Option Addr} {cap nb xb ab : Nat} (m0 : (nb, #[.int .i64 26, .int .i64 a, .string s, .int .i64 q, .slice ao K.length cap], 26) ∈ bs) (m1 : (xb, #[pp pb], 43) ∈ bs) (m2 : (ab, #[.func (.func 87) #[] #[.pointer (some ⟨xb, 0, none⟩)]], 47) ∈ bs) (hS : SlD w0 (fun b => b < B) K ao cap) : CV 88 #[.pointer (some ⟨nb, 0, none⟩), .pointer (some ⟨xb, 0, none⟩), .pointer (some ⟨ab, 0, none⟩)] (s_lb :: (ws ++ [s_rb])) B pb v0 w0 bs := by
 refine ⟨fun {l W} h => ?_⟩;have G := lh h;have HF := lh (fun (l : List ByteArray) (W : World) (g : Gp B pb v0 w0 l W bs) => And.intro (jM (g.at m0)) (And.intro (jV (g.at m1)) (jV (g.at m2))));have HS : Hid (SlD w0 (fun b => b < B) K ao cap) := lh hS;have H1 := lh h1;have c := HF.out _ _ G.out.g;have HO := lh (one87 (B := B) (v0 := v0) (w0 := w0) m1);clear h hS h1 m0 m1 m2;go_enter Tryz.func88, Tryz.ntmps88
 go_upto_region 22 with (go_at_call 85; refine G.out.put ?_; intro u1 G)
 have c := HF.out _ _ G.out.g;go_upto_region 23 with (go_at_call 93; refine G.out.list HO.out H1.out rfl HS.out ?_; intro u2 G)
 have c := HF.out _ _ G.out.g;go_wp2_with (go_at_call 85; refine G.out.put ?_; intro u3 G)
 have c := HF.out _ _ G.out.g;go_end0
 exact G.out.end (fun _ h => h) (by simp)
theorem q_cons {a q : Int} {s : ByteArray} {p r : Ty} {pw qw : List ByteArray} (h1 : CF 44 (some (.int .i64 1)) p pw) (h2 : CF 44 (some (.int .i64 0)) r qw) {B pb : Nat} {v0 : Value} {w0 : World} {bs : List Bx} {ao : Option Addr} {cap nb xb ab : Nat} (m0 : (nb, #[.int .i64 27, .int .i64 a, .string s, .int .i64 q, .slice ao 2 cap], 26) ∈ bs) (m1 : (xb, #[pp pb], 43) ∈ bs) (m2 : (ab, #[.func (.func 87) #[] #[.pointer (some ⟨xb, 0, none⟩)]], 47) ∈ bs) (hS : SlD w0 (fun b => b < B) [p, r] ao cap) : CV 88 #[.pointer (some ⟨nb, 0, none⟩), .pointer (some ⟨xb, 0, none⟩), .pointer (some ⟨ab, 0, none⟩)] (pw ++ s_cons :: qw) B pb v0 w0 bs := by
 refine ⟨fun {l W} h => ?_⟩;have G := lh h;have HF := lh (fun (l : List ByteArray) (W : World) (g : Gp B pb v0 w0 l W bs) => And.intro (jM (g.at m0)) (And.intro (jV (g.at m1)) (jV (g.at m2))));have HS : Hid (SlD w0 (fun b => b < B) [p, r] ao cap) := lh hS;have H1 := lh h1;have H2 := lh h2;have c := HF.out _ _ G.out.g;clear h hS h1 h2 m0 m1 m2;go_enter Tryz.func88, Tryz.ntmps88
 go_upto_region 25 with fail
 obtain ⟨b, p9, ap, cp, HS1, x⟩ := G.out.kid HS.out 0 p rfl 2 rfl 0 rfl;go_still_tail 5, (by kernel_rfl)
 change wpList _ _ _ _ _ W.drew
 replace G := lh G.out.drew;clear c x;go_upto_region 26 with (go_at_call 44; refine G.out.call H1.out HS1.out ?_; intro u1 G)
 have c := HF.out _ _ G.out.g;go_upto_region 27 with (go_at_call 85; refine G.out.put ?_; intro u2 G)
 have c := HF.out _ _ G.out.g;obtain ⟨b, p9, ap, cp, HS1, x⟩ := G.out.kid HS.out 1 r rfl 2 rfl 1 rfl;go_still_tail 5, (by kernel_rfl)
 change wpList _ _ _ _ _ u2.drew
 replace G := lh G.out.drew.nil;clear c x;go_wp2_with (go_at_call 44; refine G.out.call H2.out HS1.out ?_; intro u3 G)
 have c := HF.out _ _ G.out.g;go_end0
 exact G.out.end (fun _ h => h) (by simp)
theorem q_as {a q : Int} {s : ByteArray} {p : Ty} {pw : List ByteArray} (h1 : CF 44 (some (.int .i64 0)) p pw) {B pb : Nat} {v0 : Value} {w0 : World} {bs : List Bx} {ao : Option Addr} {cap nb xb ab : Nat} (m0 : (nb, #[.int .i64 28, .int .i64 a, .string s, .int .i64 q, .slice ao 1 cap], 26) ∈ bs) (m1 : (xb, #[pp pb], 43) ∈ bs) (m2 : (ab, #[.func (.func 87) #[] #[.pointer (some ⟨xb, 0, none⟩)]], 47) ∈ bs) (hS : SlD w0 (fun b => b < B) [p] ao cap) : CV 88 #[.pointer (some ⟨nb, 0, none⟩), .pointer (some ⟨xb, 0, none⟩), .pointer (some ⟨ab, 0, none⟩)] (s_lp :: s :: w_as :: (pw ++ [s_rp])) B pb v0 w0 bs := by
 refine ⟨fun {l W} h => ?_⟩;have G := lh h;have HF := lh (fun (l : List ByteArray) (W : World) (g : Gp B pb v0 w0 l W bs) => And.intro (jM (g.at m0)) (And.intro (jV (g.at m1)) (jV (g.at m2))));have HS : Hid (SlD w0 (fun b => b < B) [p] ao cap) := lh hS;have H1 := lh h1;have c := HF.out _ _ G.out.g;clear h hS h1 m0 m1 m2;go_enter Tryz.func88, Tryz.ntmps88
 go_upto_region 30 with (go_at_call 85; refine G.out.put3 ?_; intro u1 G)
 have c := HF.out _ _ G.out.g;obtain ⟨b, p9, ap, cp, HS1, x⟩ := G.out.kid HS.out 0 p rfl 1 rfl 0 rfl;go_still_tail 5, (by kernel_rfl)
 change wpList _ _ _ _ _ u1.drew
 replace G := lh G.out.drew;clear c x;go_upto_region 31 with (go_at_call 44; refine G.out.call H1.out HS1.out ?_; intro u2 G)
 have c := HF.out _ _ G.out.g;go_wp2_with (go_at_call 85; refine G.out.put ?_; intro u3 G)
 have c := HF.out _ _ G.out.g;go_end0
 exact G.out.end (fun _ h => h) (by simp)
theorem q_has {a q : Int} {s : ByteArray} {p t : Ty} {pw tw : List ByteArray} (h1 : CF 44 (some (.int .i64 0)) p pw) (h2 : CF 45 (some (.int .i64 0)) t tw) {B pb : Nat} {v0 : Value} {w0 : World} {bs : List Bx} {ao : Option Addr} {cap nb xb ab : Nat} (m0 : (nb, #[.int .i64 29, .int .i64 a, .string s, .int .i64 q, .slice ao 2 cap], 26) ∈ bs) (m1 : (xb, #[pp pb], 43) ∈ bs) (m2 : (ab, #[.func (.func 87) #[] #[.pointer (some ⟨xb, 0, none⟩)]], 47) ∈ bs) (hS : SlD w0 (fun b => b < B) [p, t] ao cap) : CV 88 #[.pointer (some ⟨nb, 0, none⟩), .pointer (some ⟨xb, 0, none⟩), .pointer (some ⟨ab, 0, none⟩)] (s_lp :: (pw ++ s_col :: (tw ++ [s_rp]))) B pb v0 w0 bs := by
 refine ⟨fun {l W} h => ?_⟩;have G := lh h;have HF := lh (fun (l : List ByteArray) (W : World) (g : Gp B pb v0 w0 l W bs) => And.intro (jM (g.at m0)) (And.intro (jV (g.at m1)) (jV (g.at m2))));have HS : Hid (SlD w0 (fun b => b < B) [p, t] ao cap) := lh hS;have H1 := lh h1;have H2 := lh h2;have c := HF.out _ _ G.out.g;clear h hS h1 h2 m0 m1 m2;go_enter Tryz.func88, Tryz.ntmps88
 go_upto_region 34 with (go_at_call 85; refine G.out.put ?_; intro u1 G)
 have c := HF.out _ _ G.out.g;obtain ⟨b, p9, ap, cp, HS1, x⟩ := G.out.kid HS.out 0 p rfl 2 rfl 0 rfl;go_still_tail 5, (by kernel_rfl)
 change wpList _ _ _ _ _ u1.drew
 replace G := lh G.out.drew;clear c x;go_upto_region 35 with (go_at_call 44; refine G.out.call H1.out HS1.out ?_; intro u2 G)
 have c := HF.out _ _ G.out.g;go_upto_region 36 with (go_at_call 85; refine G.out.put ?_; intro u3 G)
 have c := HF.out _ _ G.out.g;obtain ⟨b, p9, ap, cp, HS1, x⟩ := G.out.kid HS.out 1 t rfl 2 rfl 1 rfl;go_still_tail 5, (by kernel_rfl)
 change wpList _ _ _ _ _ u3.drew
 replace G := lh G.out.drew;clear c x;go_upto_region 37 with (go_at_call 45; refine G.out.call H2.out HS1.out ?_; intro u4 G)
 have c := HF.out _ _ G.out.g;go_wp2_with (go_at_call 85; refine G.out.put ?_; intro u5 G)
 have c := HF.out _ _ G.out.g;go_end0
 exact G.out.end (fun _ h => h) (by simp)
theorem t_var {a q : Int} {s : ByteArray} {K : List Ty}  {B pb : Nat} {v0 : Value} {w0 : World} {bs : List Bx} {ao : Option Addr} {cap nb xb : Nat} (m0 : (nb, #[.int .i64 30, .int .i64 a, .string s, .int .i64 q, .slice ao K.length cap], 26) ∈ bs) (m1 : (xb, #[pp pb], 43) ∈ bs) (hS : SlD w0 (fun b => b < B) K ao cap) : CV 94 #[.pointer (some ⟨nb, 0, none⟩), .pointer (some ⟨xb, 0, none⟩)] ([s]) B pb v0 w0 bs := by
 refine ⟨fun {l W} h => ?_⟩;have G := lh h;have HF := lh (fun (l : List ByteArray) (W : World) (g : Gp B pb v0 w0 l W bs) => And.intro (jM (g.at m0)) (jV (g.at m1)));have HS : Hid (SlD w0 (fun b => b < B) K ao cap) := lh hS;have c := HF.out _ _ G.out.g;clear h hS  m0 m1;go_enter Tryz.func94, Tryz.ntmps94
 go_wp2_with (go_at_call 85; refine G.out.put ?_; intro u1 G)
 have c := HF.out _ _ G.out.g;go_end0
 exact G.out.end (fun _ h => h) (by simp)
theorem t_arr {a q : Int} {s : ByteArray} {x y : Ty} {xw yw : List ByteArray} (h1 : CF 45 (some (.int .i64 1)) x xw) (h2 : CF 45 (some (.int .i64 0)) y yw) {B pb : Nat} {v0 : Value} {w0 : World} {bs : List Bx} {ao : Option Addr} {cap nb xb : Nat} (m0 : (nb, #[.int .i64 33, .int .i64 a, .string s, .int .i64 q, .slice ao 2 cap], 26) ∈ bs) (m1 : (xb, #[pp pb], 43) ∈ bs) (hS : SlD w0 (fun b => b < B) [x, y] ao cap) : CV 94 #[.pointer (some ⟨nb, 0, none⟩), .pointer (some ⟨xb, 0, none⟩)] (xw ++ s_to :: yw) B pb v0 w0 bs := by
 refine ⟨fun {l W} h => ?_⟩;have G := lh h;have HF := lh (fun (l : List ByteArray) (W : World) (g : Gp B pb v0 w0 l W bs) => And.intro (jM (g.at m0)) (jV (g.at m1)));have HS : Hid (SlD w0 (fun b => b < B) [x, y] ao cap) := lh hS;have H1 := lh h1;have H2 := lh h2;have c := HF.out _ _ G.out.g;clear h hS h1 h2 m0 m1;go_enter Tryz.func94, Tryz.ntmps94
 go_upto_region 4 with fail
 obtain ⟨b, p9, ap, cp, HS1, x⟩ := G.out.kid HS.out 0 x rfl 2 rfl 0 rfl;go_still_tail 5, (by kernel_rfl)
 change wpList _ _ _ _ _ W.drew
 replace G := lh G.out.drew;clear c x;go_upto_region 5 with (go_at_call 45; refine G.out.call H1.out HS1.out ?_; intro u1 G)
 have c := HF.out _ _ G.out.g;go_upto_region 6 with (go_at_call 85; refine G.out.put ?_; intro u2 G)
 have c := HF.out _ _ G.out.g;obtain ⟨b, p9, ap, cp, HS1, x⟩ := G.out.kid HS.out 1 y rfl 2 rfl 1 rfl;go_still_tail 5, (by kernel_rfl)
 change wpList _ _ _ _ _ u2.drew
 replace G := lh G.out.drew.nil;clear c x;go_wp2_with (go_at_call 45; refine G.out.call H2.out HS1.out ?_; intro u3 G)
 have c := HF.out _ _ G.out.g;go_end0
 exact G.out.end (fun _ h => h) (by simp)
theorem t_tup {a q : Int} {s : ByteArray} {K : List Ty} {ws : List ByteArray} (h1 : RowC (CF 45 (some (.int .i64 2))) s_st K ws) {B pb : Nat} {v0 : Value} {w0 : World} {bs : List Bx} {ao : Option Addr} {cap nb xb : Nat} (m0 : (nb, #[.int .i64 32, .int .i64 a, .string s, .int .i64 q, .slice ao K.length cap], 26) ∈ bs) (m1 : (xb, #[pp pb], 43) ∈ bs) (hS : SlD w0 (fun b => b < B) K ao cap) : CV 94 #[.pointer (some ⟨nb, 0, none⟩), .pointer (some ⟨xb, 0, none⟩)] (ws) B pb v0 w0 bs := by
 refine ⟨fun {l W} h => ?_⟩;have G := lh h;have HF := lh (fun (l : List ByteArray) (W : World) (g : Gp B pb v0 w0 l W bs) => And.intro (jM (g.at m0)) (jV (g.at m1)));have HS : Hid (SlD w0 (fun b => b < B) K ao cap) := lh hS;have H1 := lh h1;have c := HF.out _ _ G.out.g;have HO := lh (one95 (B := B) (v0 := v0) (w0 := w0) m1);clear h hS h1 m0 m1;go_enter Tryz.func94, Tryz.ntmps94
 replace G := lh G.out.nil;go_wp2_with (go_at_call 93; refine G.out.list HO.out H1.out rfl HS.out ?_; intro u1 G)
 have c := HF.out _ _ G.out.g;go_end0
 exact G.out.end (fun _ h => h) (by simp)
theorem t_con {a q : Int} {s : ByteArray} {ws : List ByteArray} (h1 : PathT s ws) {B pb : Nat} {v0 : Value} {w0 : World} {bs : List Bx} {ao : Option Addr} {cap nb xb : Nat} (m0 : (nb, #[.int .i64 31, .int .i64 a, .string s, .int .i64 q, .slice ao 0 cap], 26) ∈ bs) (m1 : (xb, #[pp pb], 43) ∈ bs) (hS : SlD w0 (fun b => b < B) [] ao cap) : CV 94 #[.pointer (some ⟨nb, 0, none⟩), .pointer (some ⟨xb, 0, none⟩)] (ws) B pb v0 w0 bs := by
 refine ⟨fun {l W} h => ?_⟩;have G := lh h;have HF := lh (fun (l : List ByteArray) (W : World) (g : Gp B pb v0 w0 l W bs) => And.intro (jM (g.at m0)) (jV (g.at m1)));have HS : Hid (SlD w0 (fun b => b < B) [] ao cap) := lh hS;have H1 := lh h1;have c := HF.out _ _ G.out.g;clear h hS h1 m0 m1;go_enter Tryz.func94, Tryz.ntmps94
 replace G := lh G.out.nil;go_wp2_with (go_at_call 91; refine G.out.path H1.out ?_; intro u1 G)
 have c := HF.out _ _ G.out.g;go_end0
 exact G.out.end (fun _ h => h) (by simp)
theorem t_one {a q : Int} {s : ByteArray} {x : Ty} {xw ws : List ByteArray} (h1 : CF 45 (some (.int .i64 2)) x xw) (h2 : PathT s ws) {B pb : Nat} {v0 : Value} {w0 : World} {bs : List Bx} {ao : Option Addr} {cap nb xb : Nat} (m0 : (nb, #[.int .i64 31, .int .i64 a, .string s, .int .i64 q, .slice ao 1 cap], 26) ∈ bs) (m1 : (xb, #[pp pb], 43) ∈ bs) (hS : SlD w0 (fun b => b < B) [x] ao cap) : CV 94 #[.pointer (some ⟨nb, 0, none⟩), .pointer (some ⟨xb, 0, none⟩)] (xw ++ ws) B pb v0 w0 bs := by
 refine ⟨fun {l W} h => ?_⟩;have G := lh h;have HF := lh (fun (l : List ByteArray) (W : World) (g : Gp B pb v0 w0 l W bs) => And.intro (jM (g.at m0)) (jV (g.at m1)));have HS : Hid (SlD w0 (fun b => b < B) [x] ao cap) := lh hS;have H1 := lh h1;have H2 := lh h2;have c := HF.out _ _ G.out.g;clear h hS h1 h2 m0 m1;go_enter Tryz.func94, Tryz.ntmps94
 go_upto_region 14 with fail
 obtain ⟨b, p9, ap, cp, HS1, x⟩ := G.out.kid HS.out 0 x rfl 1 rfl 0 rfl;go_still_tail 5, (by kernel_rfl)
 change wpList _ _ _ _ _ W.drew
 replace G := lh G.out.drew;clear c x;go_upto_region 15 with (go_at_call 45; refine G.out.call H1.out HS1.out ?_; intro u1 G)
 have c := HF.out _ _ G.out.g;replace G := lh G.out.nil;go_wp2_with (go_at_call 91; refine G.out.path H2.out ?_; intro u2 G)
 have c := HF.out _ _ G.out.g;go_end0
 exact G.out.end (fun _ h => h) (by simp)
theorem t_more {a q : Int} {s : ByteArray} {x y : Ty} {K : List Ty} {kw ws : List ByteArray} (h1 : RowC (CF 45 (some (.int .i64 0))) s_com (x :: y :: K) kw) (h2 : PathT s ws) {B pb : Nat} {v0 : Value} {w0 : World} {bs : List Bx} {ao : Option Addr} {cap nb xb : Nat} (m0 : (nb, #[.int .i64 31, .int .i64 a, .string s, .int .i64 q, .slice ao (K.length + 1 + 1) cap], 26) ∈ bs) (m1 : (xb, #[pp pb], 43) ∈ bs) (hS : SlD w0 (fun b => b < B) (x :: y :: K) ao cap) : CV 94 #[.pointer (some ⟨nb, 0, none⟩), .pointer (some ⟨xb, 0, none⟩)] (rnd true kw ++ ws) B pb v0 w0 bs := by
 refine ⟨fun {l W} h => ?_⟩;have G := lh h;have HF := lh (fun (l : List ByteArray) (W : World) (g : Gp B pb v0 w0 l W bs) => And.intro (jM (g.at m0)) (jV (g.at m1)));have HS : Hid (SlD w0 (fun b => b < B) (x :: y :: K) ao cap) := lh hS;have H1 := lh h1;have H2 := lh h2;have c := HF.out _ _ G.out.g;have HV := lh (c96 (s := s_com) h1 rfl m1 m0 hS : CV 96 _ kw B pb v0 w0 bs);have e0 : ((K.length : Int) + 1 + 1 == 0) = false := by simp; omega
 have e1 : ((K.length : Int) + 1 + 1 == 1) = false := by simp; omega
 clear h hS h1 h2 m0 m1;go_enter Tryz.func94, Tryz.ntmps94
 go_upto_region 15 with (go_at_call 82; refine G.out.round (fun _ _ => rfl) HV.out ?_; intro u1 G)
 have c := HF.out _ _ G.out.g;replace G := lh G.out.nil;go_wp2_with (go_at_call 91; refine G.out.path H2.out ?_; intro u2 G)
 have c := HF.out _ _ G.out.g;go_end0
 exact G.out.end (fun _ h => h) (by simp)
theorem one137 {B pb xb : Nat} {v0 : Value} {w0 : World} {bs : List Bx} (m : (xb, #[pp pb], 43) ∈ bs) : OneC 137 #[] #[.pointer (some ⟨xb, 0, none⟩)] (fun (x : Ty) (w : List ByteArray) => w = [x.s]) B pb v0 w0 bs := by
 refine ⟨fun _ _ => rfl, fun {x ws} hp {l W ao cap} h hS => ?_⟩;rw [show (#[] ++ #[Value.agg (jh x ao cap)] ++ #[.pointer (some ⟨xb, 0, none⟩)] : Array Value) = #[.agg (jh x ao cap), .pointer (some ⟨xb, 0, none⟩)] by simp];have hp : ws = [x.s] := hp;subst hp;obtain ⟨V, hV⟩ : ∃ V, V = W.alloc (.cells #[.int .i64 x.k, .int .i64 x.n, .string x.s, .int .i64 x.q, .slice ao x.args.length cap] 26) := ⟨_, rfl⟩
 have G := lh (h.box hV);have c := jM G.out.g.hd;have d := jV (G.out.g.at (List.mem_cons_of_mem _ m));clear h hS m
 show Calls Tryz.prog 137 #[.agg #[.int .i64 x.k, .int .i64 x.n, .string x.s, .int .i64 x.q, .slice ao x.args.length cap], .pointer (some ⟨xb, 0, none⟩)] W _
 go_enter Tryz.func137, Tryz.ntmps137
 go_upto_region 1 with fail
 rw [← hV];clear hV;go_wp2_with (go_at_call 85; refine G.out.put ?_; intro u1 G)
 go_end0
 exact G.out.end j1 rfl
theorem c138 {k a : Int} {s : ByteArray} {V K : List Ty} {ws : List ByteArray} {c9 : Nat} (hc9 : c9 = V.length + K.length) (h1 : RowC (fun (x : Ty) (w : List ByteArray) => w = [x.s]) s_com V ws) {B pb : Nat} {v0 : Value} {w0 : World} {bs : List Bx} {ao : Option Addr} {cap xb nb ob : Nat} (m0 : (nb, #[.int .i64 k, .int .i64 a, .string s, .int .i64 V.length, .slice ao c9 cap], 26) ∈ bs) (m1 : (xb, #[pp pb], 43) ∈ bs) (m2 : (ob, #[.func (.func 137) #[] #[.pointer (some ⟨xb, 0, none⟩)]], 47) ∈ bs) (hS : SlD w0 (fun b => b < B) (V ++ K) ao cap) : CV 138 #[.pointer (some ⟨xb, 0, none⟩), .pointer (some ⟨nb, 0, none⟩), .pointer (some ⟨ob, 0, none⟩)] (ws) B pb v0 w0 bs := by
 refine ⟨fun {l W} h => ?_⟩;have G := lh h;have HF := lh (fun (l : List ByteArray) (W : World) (g : Gp B pb v0 w0 l W bs) => And.intro (jM (g.at m0)) (And.intro (jV (g.at m1)) (jV (g.at m2))));have HS : Hid (SlD w0 (fun b => b < B) (V ++ K) ao cap) := lh hS;have H1 := lh h1;have c := HF.out _ _ G.out.g;clear hc9;have HO := lh (one137 (B := B) (v0 := v0) (w0 := w0) m1);have HT : Hid (SlD w0 (fun b => b < B) V ao cap) := lh (by have h9 := hS.take V.length; rwa [List.take_left'] at h9; rfl);have hcap := lh HT.out.1;have s1 : ∀ w' : World, (Instr.slice 24 (.slice ao c9 cap) none (some (.int .i64 (V.length : Int))) none).run Tryz.prog w' = .ok (.slice ao V.length cap) w' := fun w' => kW ao _ cap V.length hcap.out _ rfl w'
 clear h hS h1 m0 m1 m2;go_enter Tryz.func138, Tryz.ntmps138
 go_upto_region 0 with fail
 go_still_tail 7, (by kernel_rfl)
 change wpList _ _ _ _ _ W.drew
 replace G := lh G.out.drew.nil;clear c s1;go_wp2_with (go_at_call 93; refine G.out.list HO.out H1.out rfl HT.out ?_; intro u1 G)
 go_end0
 exact G.out.end (fun _ h => h) (by simp)
theorem head_0 {k a : Int} {s : ByteArray} {K : List Ty}  : CF 98 none (.mk k a s 0 K) ([s]) := by
 refine ⟨fun {B pb v0 w0 l W bs ao cap} h hS => ?_⟩;obtain ⟨V2, V3, hV2, hV3, G, HF, c2⟩ := h.b3 137 k a s 0 (.slice ao K.length cap);have HS : Hid (SlD w0 (fun b => b < B) K ao cap) := lh hS;clear h hS 
 show Calls Tryz.prog 98 #[pp pb, .agg #[.int .i64 k, .int .i64 a, .string s, .int .i64 0, .slice ao K.length cap]] W _
 go_enter Tryz.func98, Tryz.ntmps98
 go_upto_region 1 with fail
 rw [← hV2];clear hV2;go_upto_region 2 with fail
 rw [← hV3];clear hV3 c2;have c := HF.out _ _ G.out.g;go_wp2_with (go_at_call 85; refine G.out.put ?_; intro u1 G)
 have c := HF.out _ _ G.out.g;go_end0
 exact G.out.end j3 (by simp)
theorem head_v {k a : Int} {s : ByteArray} {V K : List Ty} {vw : List ByteArray} (hv : 0 < V.length) (h1 : RowC (fun (x : Ty) (w : List ByteArray) => w = [x.s]) s_com V vw) : CF 98 none (.mk k a s V.length (V ++ K)) (rnd (decide ((1 : Int) < (V.length : Int))) vw ++ [s]) := by
 refine ⟨fun {B pb v0 w0 l W bs ao cap} h hS => ?_⟩;obtain ⟨V2, V3, hV2, hV3, G, HF, c2⟩ := h.b3 137 k a s V.length (.slice ao (V.length + K.length) cap);have HS : Hid (SlD w0 (fun b => b < B) (V ++ K) ao cap) := lh hS;have H1 := lh h1;clear h hS h1
 show Calls Tryz.prog 98 #[pp pb, .agg #[.int .i64 k, .int .i64 a, .string s, .int .i64 V.length, .slice ao (V ++ K).length cap]] W _
 rw [show (V ++ K).length = (V.length + K.length) from by simp];go_enter Tryz.func98, Tryz.ntmps98
 go_upto_region 1 with fail
 rw [← hV2];clear hV2;go_upto_region 2 with fail
 rw [← hV3];clear hV3 c2;have c := HF.out _ _ G.out.g;go_upto_region 4 with (go_at_call 82; refine G.out.round (fun _ _ => rfl) (c138 rfl H1.out i1 i2 i0 HS.out) ?_; intro u1 G)
 have c := HF.out _ _ G.out.g;go_wp2_with (go_at_call 85; refine G.out.put ?_; intro u2 G)
 have c := HF.out _ _ G.out.g;go_end0
 exact G.out.end j3 (by simp)
theorem d_val {a q : Int} {s : ByteArray} {p e : Ty} {pw ew : List ByteArray} (h1 : CF 44 (some (.int .i64 0)) p pw) (h2 : CF 43 (some (.int .i64 0)) e ew) : CF 48 none (.mk 34 a s q [p, e]) (w_val :: (pw ++ s_eq :: ew)) := by
 refine ⟨fun {B pb v0 w0 l W bs ao cap} h hS => ?_⟩;obtain ⟨V, hV, G, HF⟩ := h.b1 34 a s q (.slice ao 2 cap);have HS : Hid (SlD w0 (fun b => b < B) [p, e] ao cap) := lh hS;have H1 := lh h1;have H2 := lh h2;have c := HF.out _ _ G.out.g;clear h hS h1 h2
 show Calls Tryz.prog 48 #[pp pb, .agg #[.int .i64 34, .int .i64 a, .string s, .int .i64 q, .slice ao 2 cap]] W _
 go_enter Tryz.func48, Tryz.ntmps48
 go_upto_region 1 with fail
 rw [← hV];clear hV;have c := HF.out _ _ G.out.g;go_upto_region 4 with (go_at_call 85; refine G.out.put ?_; intro u1 G)
 have c := HF.out _ _ G.out.g;obtain ⟨b, p9, ap, cp, HS1, x⟩ := G.out.kid HS.out 0 p rfl 2 rfl 0 rfl;go_upto_region 5 with (go_at_call 44; refine G.out.call H1.out HS1.out ?_; intro u2 G)
 have c := HF.out _ _ G.out.g;go_upto_region 6 with (go_at_call 85; refine G.out.put ?_; intro u3 G)
 have c := HF.out _ _ G.out.g;obtain ⟨b, p9, ap, cp, HS1, x⟩ := G.out.kid HS.out 1 e rfl 2 rfl 1 rfl;replace G := lh G.out.nil;go_wp2_with (go_at_call 43; refine G.out.call H2.out HS1.out ?_; intro u4 G)
 have c := HF.out _ _ G.out.g;go_end0
 exact G.out.end j1 (by simp)
theorem d_fun {a q : Int} {s : ByteArray} {K : List Ty} {ws : List ByteArray} (h1 : RowC (CF 48 none) w_and K ws) : CF 48 none (.mk 35 a s q K) (w_fun :: ws) := by
 refine ⟨fun {B pb v0 w0 l W bs ao cap} h hS => ?_⟩;obtain ⟨V, hV, G, HF⟩ := h.b1 35 a s q (.slice ao K.length cap);have HS : Hid (SlD w0 (fun b => b < B) K ao cap) := lh hS;have H1 := lh h1;have c := HF.out _ _ G.out.g;clear h hS h1
 show Calls Tryz.prog 48 #[pp pb, .agg #[.int .i64 35, .int .i64 a, .string s, .int .i64 q, .slice ao K.length cap]] W _
 go_enter Tryz.func48, Tryz.ntmps48
 go_upto_region 1 with fail
 rw [← hV];clear hV;have c := HF.out _ _ G.out.g;go_upto_region 9 with (go_at_call 85; refine G.out.put ?_; intro u1 G)
 have c := HF.out _ _ G.out.g;replace G := lh G.out.nil;go_wp2_with (go_at_call 93; refine G.out.list (CF.one (fun _ _ => rfl)) H1.out rfl HS.out ?_; intro u2 G)
 have c := HF.out _ _ G.out.g;go_end0
 exact G.out.end j1 (by simp)
theorem d_data {a q : Int} {s : ByteArray} {K : List Ty} {ws : List ByteArray} (h1 : RowC (CF 48 none) w_and K ws) : CF 48 none (.mk 38 a s q K) (w_data :: ws) := by
 refine ⟨fun {B pb v0 w0 l W bs ao cap} h hS => ?_⟩;obtain ⟨V, hV, G, HF⟩ := h.b1 38 a s q (.slice ao K.length cap);have HS : Hid (SlD w0 (fun b => b < B) K ao cap) := lh hS;have H1 := lh h1;have c := HF.out _ _ G.out.g;clear h hS h1
 show Calls Tryz.prog 48 #[pp pb, .agg #[.int .i64 38, .int .i64 a, .string s, .int .i64 q, .slice ao K.length cap]] W _
 go_enter Tryz.func48, Tryz.ntmps48
 go_upto_region 1 with fail
 rw [← hV];clear hV;have c := HF.out _ _ G.out.g;go_upto_region 26 with (go_at_call 85; refine G.out.put ?_; intro u1 G)
 have c := HF.out _ _ G.out.g;replace G := lh G.out.nil;go_wp2_with (go_at_call 93; refine G.out.list (CF.one (fun _ _ => rfl)) H1.out rfl HS.out ?_; intro u2 G)
 have c := HF.out _ _ G.out.g;go_end0
 exact G.out.end j1 (by simp)
theorem d_fb {a q : Int} {s : ByteArray} {K : List Ty} {e : Ty} {kw ew : List ByteArray} (h1 : ManyC (CF 44 (some (.int .i64 2))) K kw) (h2 : CF 43 (some (.int .i64 0)) e ew) : CF 48 none (.mk 36 a s q (K ++ [e])) (s :: (kw ++ s_eq :: ew)) := by
 refine ⟨fun {B pb v0 w0 l W bs ao cap} h hS => ?_⟩;obtain ⟨V, hV, G, HF⟩ := h.b1 36 a s q (.slice ao (K.length + 1) cap);have HS : Hid (SlD w0 (fun b => b < B) (K ++ [e]) ao cap) := lh hS;have H1 := lh h1;have H2 := lh h2;have c := HF.out _ _ G.out.g;clear h hS h1 h2
 show Calls Tryz.prog 48 #[pp pb, .agg #[.int .i64 36, .int .i64 a, .string s, .int .i64 q, .slice ao (K ++ [e]).length cap]] W _
 rw [show (K ++ [e]).length = (K.length + 1) from by simp];go_enter Tryz.func48, Tryz.ntmps48
 go_upto_region 1 with fail
 rw [← hV];clear hV;have c := HF.out _ _ G.out.g;go_upto_region 12 with (go_at_call 85; refine G.out.put ?_; intro u1 G)
 have c := HF.out _ _ G.out.g;have HT : Hid (SlD w0 (fun b => b < B) K ao cap) := lh (by have h9 := HS.out.take K.length; rwa [List.take_left'] at h9; rfl);have hcap := lh HT.out.1;have s1 : ∀ w' : World, (Instr.slice 24 (.slice ao (K.length + 1) cap) none (some (.int .i64 (K.length : Int))) none).run Tryz.prog w' = .ok (.slice ao K.length cap) w' := fun w' => kW ao _ cap K.length hcap.out _ rfl w'
 have HLK : Hid (K.length ≤ 5000000000) := lh (by obtain ⟨wss, hwl, hwe, hwp⟩ := H1.out.ex; have h1 := G.out.hl; have h2 := qR wss (fun x hx => by obtain ⟨i, hi, rfl⟩ := List.mem_iff_getElem.1 hx; exact (hwp i (by omega) hi).2); rw [hwe] at h1; simp only [jL] at h1; omega);have hlk := HLK.out;obtain ⟨c9, hc9⟩ : ∃ c9, c9 = K.length := ⟨_, rfl⟩
 have HC := lh hc9;rw [← hc9] at s1 hlk c;clear hc9;have HF2 := HF;go_upto_region 13 with fail
 clear s1;have HS2 := HT;obtain ⟨wss, hwl, hwe, hwp⟩ := H1.out.ex;have HWL := lh hwl;have HWP := lh hwp;have HWE := lh hwe;rw [hwe] at G ⊢;have HLB : Hid (c9 ≤ 5000000000) := lh (by have h1 := G.out.hl; have h2 := qR wss (fun x hx => by obtain ⟨i, hi, rfl⟩ := List.mem_iff_getElem.1 hx; exact (hwp i (by omega) hi).2); simp only [jL] at h1; have h3 : c9 = (K).length := HC.out; omega);have hlb := HLB.out;clear hwl hwe hwp H1 c;go_wp2_with fail
 go_loopw [5, 56] (fun _ i wr => ∃ k : Nat, i = .int .i64 k ∧ k ≤ c9 ∧ Gt B pb v0 w0 (l ++ [s] ++ (wss.take k).flatten) ((wss.drop k).flatten ++ (s_eq :: ew)) wr ((W.heap.size, #[.int .i64 36, .int .i64 a, .string s, .int .i64 q, .slice ao (K.length + 1) cap], 26) :: bs)) (fun _ i _ => c9 - (Lib.intOf i).toNat)
 case atStart => exact ⟨0, rfl, by omega, by simpa using G.out⟩
 case round =>
  obtain ⟨k, rfl, hk, hg⟩ := hrel;have G := lh hg;clear hg
  by_cases hkc : k < c9
  · have hk9 : k < (K).length := (by have h3 : c9 = (K).length := HC.out; omega);have hk8 : k < wss.length := (by rw [HWL.out]; exact hk9);obtain ⟨b, p9, ap, cp, HS1, hb9, hix, x⟩ := G.out.kid HS2.out k _ (List.getElem?_eq_getElem hk9) c9 HC.out k rfl;obtain ⟨u, hu⟩ : ∃ u, u = (K)[k] := ⟨_, rfl⟩
    rw [← hu] at x HS1;obtain ⟨V, hV⟩ : ∃ V, V = wr.alloc (.cells (jh u ap cp) 26) := ⟨_, rfl⟩
    have HP : Hid (CF 44 (some (.int .i64 2)) u wss[k]) := lh (by rw [hu]; exact (HWP.out k hk9 hk8).1);rw [flat_drop hk8] at G;have G := lh (G.out.box hV);unfold jh at hV G;clear hu;have hkc2 : (k : Int) < ((c9 : Nat) : Int) := (by omega);go_upto_region 15 with fail
    rw [← hV];have y := jM G.out.g.hd;clear hV x hix;go_wp2_with (go_at_call 44; refine G.out.call HP.out HS1.out ?_; intro u1 G)
    go_roundw
    case rel =>
     refine ⟨k + 1, by go_num, hkc, ?_⟩;rw [vL hk8, ← List.append_assoc];exact ⟨G.out.g.mono j1, G.out.hl⟩
    case measure => simp only [Lib.intOf]; omega
  · obtain rfl : k = c9 := by omega
    have hd : decide ((k : Int) < (k : Int)) = false := (by simp);replace G : Hid (Gt B pb v0 w0 (l ++ [s] ++ wss.flatten) ((s_eq :: ew)) wr ((W.heap.size, #[.int .i64 36, .int .i64 a, .string s, .int .i64 q, .slice ao (K.length + 1) cap], 26) :: bs)) := lh (by have h := G.out; have h3 : k = (K).length := HC.out; rw [List.take_of_length_le (by rw [HWL.out]; omega), List.drop_of_length_le (by rw [HWL.out]; omega)] at h; exact h)
    skip
    have c := HF.out _ _ G.out.g;go_upto_region 18 with (go_at_call 85; refine G.out.put ?_; intro u1 G)
    have c := HF.out _ _ G.out.g;obtain ⟨b, p9, ap, cp, HS1, x⟩ := G.out.kid HS.out k e (by rw [HC.out]; simp) (K.length + 1) (by simp) k rfl;rw [← HC.out] at c x;replace G := lh G.out.nil;go_wp2_with (go_at_call 43; refine G.out.call H2.out HS1.out ?_; intro u2 G)
    go_end0
    exact G.out.end j1 (by simp [HWE.out])
theorem d_type {a : Int} {s : ByteArray} {L9 : List Ty} {t : Ty} {hw tw : List ByteArray} (h1 : CF 98 none (.mk 37 a s L9.length (L9 ++ [t])) hw) (h2 : CF 45 (some (.int .i64 0)) t tw) : CF 48 none (.mk 37 a s L9.length (L9 ++ [t])) (w_type :: (hw ++ s_eq :: tw)) := by
 refine ⟨fun {B pb v0 w0 l W bs ao cap} h hS => ?_⟩;obtain ⟨V, hV, G, HF⟩ := h.b1 37 a s L9.length (.slice ao (L9.length + 1) cap);have HS : Hid (SlD w0 (fun b => b < B) (L9 ++ [t]) ao cap) := lh hS;have H1 := lh h1;have H2 := lh h2;have c := HF.out _ _ G.out.g;clear h hS h1 h2
 show Calls Tryz.prog 48 #[pp pb, .agg #[.int .i64 37, .int .i64 a, .string s, .int .i64 L9.length, .slice ao (L9 ++ [t]).length cap]] W _
 rw [show (L9 ++ [t]).length = (L9.length + 1) from by simp];go_enter Tryz.func48, Tryz.ntmps48
 go_upto_region 1 with fail
 rw [← hV];clear hV;have c := HF.out _ _ G.out.g;go_upto_region 21 with (go_at_call 85; refine G.out.put ?_; intro u1 G)
 have c := HF.out _ _ G.out.g;have HH := lh (hdc (pb := pb) (v0 := v0) H1.out HS.out (by simp : _ = (L9.length + 1)));go_upto_region 22 with (go_at_call 98; refine HH.out _ _ _ _ _ G.out ?_; intro u2 G)
 have c := HF.out _ _ G.out.g;go_upto_region 23 with (go_at_call 85; refine G.out.put ?_; intro u3 G)
 have c := HF.out _ _ G.out.g;obtain ⟨b, p9, ap, cp, HS1, x⟩ := G.out.kid HS.out L9.length t (by simp) (L9.length + 1) (by simp) L9.length rfl;replace G := lh G.out.nil;go_wp2_with (go_at_call 45; refine G.out.call H2.out HS1.out ?_; intro u5 G)
 go_end0
 exact G.out.end j1 (by simp)
theorem d_db {a : Int} {s : ByteArray} {L9 K : List Ty} {hw kw : List ByteArray} (h1 : CF 98 none (.mk 39 a s L9.length (L9 ++ K)) hw) (h2 : RowC (CF 48 none) s_bar K kw) : CF 48 none (.mk 39 a s L9.length (L9 ++ K)) (hw ++ s_eq :: kw) := by
 refine ⟨fun {B pb v0 w0 l W bs ao cap} h hS => ?_⟩;obtain ⟨V, hV, G, HF⟩ := h.b1 39 a s L9.length (.slice ao (L9.length + K.length) cap);have HS : Hid (SlD w0 (fun b => b < B) (L9 ++ K) ao cap) := lh hS;have H1 := lh h1;have H2 := lh h2;have c := HF.out _ _ G.out.g;clear h hS h1 h2
 show Calls Tryz.prog 48 #[pp pb, .agg #[.int .i64 39, .int .i64 a, .string s, .int .i64 L9.length, .slice ao (L9 ++ K).length cap]] W _
 rw [show (L9 ++ K).length = (L9.length + K.length) from by simp];go_enter Tryz.func48, Tryz.ntmps48
 go_upto_region 1 with fail
 rw [← hV];clear hV;have c := HF.out _ _ G.out.g;have HH := lh (hdc (pb := pb) (v0 := v0) H1.out HS.out (by simp : _ = (L9.length + K.length)));go_upto_region 29 with (go_at_call 98; refine HH.out _ _ _ _ _ G.out ?_; intro u1 G)
 have c := HF.out _ _ G.out.g;go_upto_region 30 with (go_at_call 85; refine G.out.put ?_; intro u2 G)
 have c := HF.out _ _ G.out.g;have HT : Hid (SlD w0 (fun b => b < B) K (qq ao cap L9.length) (cap - L9.length)) := lh (by have h9 := HS.out.drop L9.length; rwa [List.drop_left'] at h9; rfl);have s1 : ∀ w' : World, (Instr.slice 24 (.slice ao (L9.length + K.length) cap) (some (.int .i64 (L9.length : Int))) none none).run Tryz.prog w' = .ok (.slice (qq ao cap L9.length) K.length (cap - L9.length)) w' := fun w' => by rw [kv ao (L9.length + K.length) cap L9.length (by omega) _ rfl w', Nat.add_sub_cancel_left]
 replace G := lh G.out.nil;go_wp2_with (go_at_call 93; refine G.out.list (CF.one (fun _ _ => rfl)) H2.out rfl HT.out ?_; intro u5 G)
 go_end0
 exact G.out.end j1 (by simp)
theorem d_con0 {a q : Int} {s : ByteArray}  : CF 48 none (.mk 40 a s q []) (s :: []) := by
 refine ⟨fun {B pb v0 w0 l W bs ao cap} h hS => ?_⟩;obtain ⟨V, hV, G, HF⟩ := h.b1 40 a s q (.slice ao 0 cap);have HS : Hid (SlD w0 (fun b => b < B) [] ao cap) := lh hS;have c := HF.out _ _ G.out.g;clear h hS 
 show Calls Tryz.prog 48 #[pp pb, .agg #[.int .i64 40, .int .i64 a, .string s, .int .i64 q, .slice ao 0 cap]] W _
 go_enter Tryz.func48, Tryz.ntmps48
 go_upto_region 1 with fail
 rw [← hV];clear hV;have c := HF.out _ _ G.out.g;go_upto_region 36 with (go_at_call 85; refine G.out.put ?_; intro u1 G)
 have c := HF.out _ _ G.out.g;go_wp2_with fail
 clear c;go_loopw [7, 141] (fun _ i wr => i = .int .i64 0 ∧ Gt B pb v0 w0 (l ++ [s]) [] wr ((W.heap.size, #[.int .i64 40, .int .i64 a, .string s, .int .i64 q, .slice ao 0 cap], 26) :: bs)) (fun _ _ _ => 0)
 case atStart => exact ⟨rfl, G.out⟩
 case round =>
  obtain ⟨rfl, hg⟩ := hrel;have G := lh hg;clear hg;go_wp2_with fail
  go_end0
  exact G.out.end j1 (by simp)
theorem d_con1 {a q : Int} {s : ByteArray} {t : Ty} {tw : List ByteArray} (h1 : CF 45 (some (.int .i64 0)) t tw) : CF 48 none (.mk 40 a s q [t]) (s :: w_of :: tw) := by
 refine ⟨fun {B pb v0 w0 l W bs ao cap} h hS => ?_⟩;obtain ⟨V, hV, G, HF⟩ := h.b1 40 a s q (.slice ao 1 cap);have HS : Hid (SlD w0 (fun b => b < B) [t] ao cap) := lh hS;have H1 := lh h1;have c := HF.out _ _ G.out.g;clear h hS h1
 show Calls Tryz.prog 48 #[pp pb, .agg #[.int .i64 40, .int .i64 a, .string s, .int .i64 q, .slice ao 1 cap]] W _
 go_enter Tryz.func48, Tryz.ntmps48
 go_upto_region 1 with fail
 rw [← hV];clear hV;have c := HF.out _ _ G.out.g;go_upto_region 36 with (go_at_call 85; refine G.out.put ?_; intro u1 G)
 have c := HF.out _ _ G.out.g;go_wp2_with fail
 clear c;go_loopw [7, 141] (fun _ i wr => (i = .int .i64 0 ∧ Gt B pb v0 w0 (l ++ [s]) (w_of :: tw) wr ((W.heap.size, #[.int .i64 40, .int .i64 a, .string s, .int .i64 q, .slice ao 1 cap], 26) :: bs)) ∨ (i = .int .i64 1 ∧ Gt B pb v0 w0 (l ++ [s] ++ [w_of] ++ tw) [] wr ((W.heap.size, #[.int .i64 40, .int .i64 a, .string s, .int .i64 q, .slice ao 1 cap], 26) :: bs))) (fun _ i _ => 1 - (Lib.intOf i).toNat)
 case atStart => exact .inl ⟨rfl, G.out⟩
 case round =>
  rcases hrel with ⟨rfl, hg⟩ | ⟨rfl, hg⟩
  · have G := lh hg;clear hg;obtain ⟨b, p9, ap, cp, HS1, hb9, hix, x⟩ := G.out.kid HS.out 0 t rfl 1 rfl 0 rfl;obtain ⟨V9, hV9⟩ : ∃ V, V = wr.alloc (.cells (jh t ap cp) 26) := ⟨_, rfl⟩
    have G := lh (G.out.box hV9);unfold jh at hV9 G;go_upto_region 39 with fail
    rw [← hV9];clear hV9 x hix;go_upto_region 40 with (go_at_call 85; refine G.out.put ?_; intro u7 G)
    have y := jM G.out.g.hd;replace G := lh G.out.nil;go_wp2_with (go_at_call 45; refine G.out.call H1.out HS1.out ?_; intro u8 G)
    go_roundw
    case rel => exact .inr ⟨rfl, G.out.g.mono j1, G.out.hl⟩
    case measure => simp [Lib.intOf]
  · have G := lh hg;clear hg;go_wp2_with fail
    go_end0
    exact G.out.end j1 (by simp)
theorem d_exn0 {a q : Int} {s : ByteArray}  : CF 48 none (.mk 41 a s q []) (w_exception :: s :: []) := by
 refine ⟨fun {B pb v0 w0 l W bs ao cap} h hS => ?_⟩;obtain ⟨V, hV, G, HF⟩ := h.b1 41 a s q (.slice ao 0 cap);have HS : Hid (SlD w0 (fun b => b < B) [] ao cap) := lh hS;have c := HF.out _ _ G.out.g;clear h hS 
 show Calls Tryz.prog 48 #[pp pb, .agg #[.int .i64 41, .int .i64 a, .string s, .int .i64 q, .slice ao 0 cap]] W _
 go_enter Tryz.func48, Tryz.ntmps48
 go_upto_region 1 with fail
 rw [← hV];clear hV;have c := HF.out _ _ G.out.g;go_upto_region 35 with (go_at_call 85; refine G.out.put ?_; intro u1 G)
 have c := HF.out _ _ G.out.g;go_upto_region 36 with (go_at_call 85; refine G.out.put ?_; intro u2 G)
 have c := HF.out _ _ G.out.g;go_wp2_with fail
 clear c;go_loopw [7, 141] (fun _ i wr => i = .int .i64 0 ∧ Gt B pb v0 w0 (l ++ [w_exception] ++ [s]) [] wr ((W.heap.size, #[.int .i64 41, .int .i64 a, .string s, .int .i64 q, .slice ao 0 cap], 26) :: bs)) (fun _ _ _ => 0)
 case atStart => exact ⟨rfl, G.out⟩
 case round =>
  obtain ⟨rfl, hg⟩ := hrel;have G := lh hg;clear hg;go_wp2_with fail
  go_end0
  exact G.out.end j1 (by simp)
theorem d_exn1 {a q : Int} {s : ByteArray} {t : Ty} {tw : List ByteArray} (h1 : CF 45 (some (.int .i64 0)) t tw) : CF 48 none (.mk 41 a s q [t]) (w_exception :: s :: w_of :: tw) := by
 refine ⟨fun {B pb v0 w0 l W bs ao cap} h hS => ?_⟩;obtain ⟨V, hV, G, HF⟩ := h.b1 41 a s q (.slice ao 1 cap);have HS : Hid (SlD w0 (fun b => b < B) [t] ao cap) := lh hS;have H1 := lh h1;have c := HF.out _ _ G.out.g;clear h hS h1
 show Calls Tryz.prog 48 #[pp pb, .agg #[.int .i64 41, .int .i64 a, .string s, .int .i64 q, .slice ao 1 cap]] W _
 go_enter Tryz.func48, Tryz.ntmps48
 go_upto_region 1 with fail
 rw [← hV];clear hV;have c := HF.out _ _ G.out.g;go_upto_region 35 with (go_at_call 85; refine G.out.put ?_; intro u1 G)
 have c := HF.out _ _ G.out.g;go_upto_region 36 with (go_at_call 85; refine G.out.put ?_; intro u2 G)
 have c := HF.out _ _ G.out.g;go_wp2_with fail
 clear c;go_loopw [7, 141] (fun _ i wr => (i = .int .i64 0 ∧ Gt B pb v0 w0 (l ++ [w_exception] ++ [s]) (w_of :: tw) wr ((W.heap.size, #[.int .i64 41, .int .i64 a, .string s, .int .i64 q, .slice ao 1 cap], 26) :: bs)) ∨ (i = .int .i64 1 ∧ Gt B pb v0 w0 (l ++ [w_exception] ++ [s] ++ [w_of] ++ tw) [] wr ((W.heap.size, #[.int .i64 41, .int .i64 a, .string s, .int .i64 q, .slice ao 1 cap], 26) :: bs))) (fun _ i _ => 1 - (Lib.intOf i).toNat)
 case atStart => exact .inl ⟨rfl, G.out⟩
 case round =>
  rcases hrel with ⟨rfl, hg⟩ | ⟨rfl, hg⟩
  · have G := lh hg;clear hg;obtain ⟨b, p9, ap, cp, HS1, hb9, hix, x⟩ := G.out.kid HS.out 0 t rfl 1 rfl 0 rfl;obtain ⟨V9, hV9⟩ : ∃ V, V = wr.alloc (.cells (jh t ap cp) 26) := ⟨_, rfl⟩
    have G := lh (G.out.box hV9);unfold jh at hV9 G;go_upto_region 39 with fail
    rw [← hV9];clear hV9 x hix;go_upto_region 40 with (go_at_call 85; refine G.out.put ?_; intro u7 G)
    have y := jM G.out.g.hd;replace G := lh G.out.nil;go_wp2_with (go_at_call 45; refine G.out.call H1.out HS1.out ?_; intro u8 G)
    go_roundw
    case rel => exact .inr ⟨rfl, G.out.g.mono j1, G.out.hl⟩
    case measure => simp [Lib.intOf]
  · have G := lh hg;clear hg;go_wp2_with fail
    go_end0
    exact G.out.end j1 (by simp)
theorem d_str0 {a : Int} {s : ByteArray} {z : Ty} {bw : List ByteArray} (h1 : CF 47 none z bw) : CF 48 none (.mk 42 a s 0 [z]) (w_structure :: s :: s_eq :: bw) := by
 refine ⟨fun {B pb v0 w0 l W bs ao cap} h hS => ?_⟩;obtain ⟨V, hV, G, HF⟩ := h.b1 42 a s 0 (.slice ao 1 cap);have HS : Hid (SlD w0 (fun b => b < B) [z] ao cap) := lh hS;have H1 := lh h1;have c := HF.out _ _ G.out.g;clear h hS h1
 show Calls Tryz.prog 48 #[pp pb, .agg #[.int .i64 42, .int .i64 a, .string s, .int .i64 0, .slice ao 1 cap]] W _
 go_enter Tryz.func48, Tryz.ntmps48
 go_upto_region 1 with fail
 rw [← hV];clear hV;have c := HF.out _ _ G.out.g;go_upto_region 44 with (go_at_call 85; refine G.out.put2 ?_; intro u1 G)
 have c := HF.out _ _ G.out.g;go_upto_region 48 with (go_at_call 85; refine G.out.put ?_; intro u2 G)
 have c := HF.out _ _ G.out.g;obtain ⟨b, p9, ap, cp, HS1, x⟩ := G.out.kid HS.out 0 z rfl 1 rfl 0 rfl;replace G := lh G.out.nil;go_wp2_with (go_at_call 47; refine G.out.call H1.out HS1.out ?_; intro u3 G)
 have c := HF.out _ _ G.out.g;go_end0
 exact G.out.end j1 (by simp)
theorem d_str1 {a : Int} {s : ByteArray} {y z : Ty} {yw bw : List ByteArray} (h1 : CF 47 none y yw) (h2 : CF 47 none z bw) : CF 48 none (.mk 42 a s 1 [y, z]) (w_structure :: s :: s_col :: (yw ++ s_eq :: bw)) := by
 refine ⟨fun {B pb v0 w0 l W bs ao cap} h hS => ?_⟩;obtain ⟨V, hV, G, HF⟩ := h.b1 42 a s 1 (.slice ao 2 cap);have HS : Hid (SlD w0 (fun b => b < B) [y, z] ao cap) := lh hS;have H1 := lh h1;have H2 := lh h2;have c := HF.out _ _ G.out.g;clear h hS h1 h2
 show Calls Tryz.prog 48 #[pp pb, .agg #[.int .i64 42, .int .i64 a, .string s, .int .i64 1, .slice ao 2 cap]] W _
 go_enter Tryz.func48, Tryz.ntmps48
 go_upto_region 1 with fail
 rw [← hV];clear hV;have c := HF.out _ _ G.out.g;go_upto_region 44 with (go_at_call 85; refine G.out.put2 ?_; intro u1 G)
 have c := HF.out _ _ G.out.g;go_upto_region 45 with fail
 obtain ⟨V4, hV4⟩ : ∃ V4, V4 = u1.alloc (.cells #[.string e_, .string s_col, .string s_opq] 9) := ⟨_, rfl⟩
 have d : V4.cell? ⟨u1.heap.size, 1, none⟩ = some (.string s_col) := by rw [hV4]; exact ja (heap_alloc_new _ _) 1
 have c5 : _ := jM (js G.out.g.hd (.cells #[.string e_, .string s_col, .string s_opq] 9));have d5 : (u1.alloc (.cells #[.string e_, .string s_col, .string s_opq] 9)).cell? ⟨u1.heap.size, 1, none⟩ = some (.string s_col) := by rw [← hV4]; exact d
 clear hV4 d;go_upto_region 46 with (go_at_call 85; refine Gt.putm (W := u1.alloc (.cells #[.string e_, .string s_col, .string s_opq] 9)) ⟨G.out.g.below (jk (Below.refl _ _) _), G.out.hl⟩ (by simp) ?_; intro u2 G)
 clear c5 d5;have c := HF.out _ _ G.out.g;obtain ⟨b, p9, ap, cp, HS1, x⟩ := G.out.kid HS.out 0 y rfl 2 rfl 0 rfl;go_upto_region 47 with (go_at_call 47; refine G.out.call H1.out HS1.out ?_; intro u3 G)
 have c := HF.out _ _ G.out.g;go_upto_region 48 with (go_at_call 85; refine G.out.put ?_; intro u4 G)
 have c := HF.out _ _ G.out.g;obtain ⟨b, p9, ap, cp, HS1, x⟩ := G.out.kid HS.out 1 z rfl 2 rfl 1 rfl;replace G := lh G.out.nil;go_wp2_with (go_at_call 47; refine G.out.call H2.out HS1.out ?_; intro u5 G)
 have c := HF.out _ _ G.out.g;go_end0
 exact G.out.end j1 (by simp)
theorem d_str2 {a : Int} {s : ByteArray} {y z : Ty} {yw bw : List ByteArray} (h1 : CF 47 none y yw) (h2 : CF 47 none z bw) : CF 48 none (.mk 42 a s 2 [y, z]) (w_structure :: s :: s_opq :: (yw ++ s_eq :: bw)) := by
 refine ⟨fun {B pb v0 w0 l W bs ao cap} h hS => ?_⟩;obtain ⟨V, hV, G, HF⟩ := h.b1 42 a s 2 (.slice ao 2 cap);have HS : Hid (SlD w0 (fun b => b < B) [y, z] ao cap) := lh hS;have H1 := lh h1;have H2 := lh h2;have c := HF.out _ _ G.out.g;clear h hS h1 h2
 show Calls Tryz.prog 48 #[pp pb, .agg #[.int .i64 42, .int .i64 a, .string s, .int .i64 2, .slice ao 2 cap]] W _
 go_enter Tryz.func48, Tryz.ntmps48
 go_upto_region 1 with fail
 rw [← hV];clear hV;have c := HF.out _ _ G.out.g;go_upto_region 44 with (go_at_call 85; refine G.out.put2 ?_; intro u1 G)
 have c := HF.out _ _ G.out.g;go_upto_region 45 with fail
 obtain ⟨V4, hV4⟩ : ∃ V4, V4 = u1.alloc (.cells #[.string e_, .string s_col, .string s_opq] 9) := ⟨_, rfl⟩
 have d : V4.cell? ⟨u1.heap.size, 2, none⟩ = some (.string s_opq) := by rw [hV4]; exact ja (heap_alloc_new _ _) 2
 have c5 : _ := jM (js G.out.g.hd (.cells #[.string e_, .string s_col, .string s_opq] 9));have d5 : (u1.alloc (.cells #[.string e_, .string s_col, .string s_opq] 9)).cell? ⟨u1.heap.size, 2, none⟩ = some (.string s_opq) := by rw [← hV4]; exact d
 clear hV4 d;go_upto_region 46 with (go_at_call 85; refine Gt.putm (W := u1.alloc (.cells #[.string e_, .string s_col, .string s_opq] 9)) ⟨G.out.g.below (jk (Below.refl _ _) _), G.out.hl⟩ (by simp) ?_; intro u2 G)
 clear c5 d5;have c := HF.out _ _ G.out.g;obtain ⟨b, p9, ap, cp, HS1, x⟩ := G.out.kid HS.out 0 y rfl 2 rfl 0 rfl;go_upto_region 47 with (go_at_call 47; refine G.out.call H1.out HS1.out ?_; intro u3 G)
 have c := HF.out _ _ G.out.g;go_upto_region 48 with (go_at_call 85; refine G.out.put ?_; intro u4 G)
 have c := HF.out _ _ G.out.g;obtain ⟨b, p9, ap, cp, HS1, x⟩ := G.out.kid HS.out 1 z rfl 2 rfl 1 rfl;replace G := lh G.out.nil;go_wp2_with (go_at_call 47; refine G.out.call H2.out HS1.out ?_; intro u5 G)
 have c := HF.out _ _ G.out.g;go_end0
 exact G.out.end j1 (by simp)
theorem d_sig {a q : Int} {s : ByteArray} {y : Ty} {yw : List ByteArray} (h1 : CF 47 none y yw) : CF 48 none (.mk 43 a s q [y]) (w_signature :: s :: s_eq :: yw) := by
 refine ⟨fun {B pb v0 w0 l W bs ao cap} h hS => ?_⟩;obtain ⟨V, hV, G, HF⟩ := h.b1 43 a s q (.slice ao 1 cap);have HS : Hid (SlD w0 (fun b => b < B) [y] ao cap) := lh hS;have H1 := lh h1;have c := HF.out _ _ G.out.g;clear h hS h1
 show Calls Tryz.prog 48 #[pp pb, .agg #[.int .i64 43, .int .i64 a, .string s, .int .i64 q, .slice ao 1 cap]] W _
 go_enter Tryz.func48, Tryz.ntmps48
 go_upto_region 1 with fail
 rw [← hV];clear hV;have c := HF.out _ _ G.out.g;go_upto_region 51 with (go_at_call 85; refine G.out.put3 ?_; intro u1 G)
 have c := HF.out _ _ G.out.g;obtain ⟨b, p9, ap, cp, HS1, x⟩ := G.out.kid HS.out 0 y rfl 1 rfl 0 rfl;replace G := lh G.out.nil;go_wp2_with (go_at_call 47; refine G.out.call H1.out HS1.out ?_; intro u2 G)
 have c := HF.out _ _ G.out.g;go_end0
 exact G.out.end j1 (by simp)
theorem d_open {a q : Int} {s : ByteArray} {K : List Ty} {ws : List ByteArray} (h1 : PathT s ws) : CF 48 none (.mk 44 a s q K) (w_open :: ws) := by
 refine ⟨fun {B pb v0 w0 l W bs ao cap} h hS => ?_⟩;obtain ⟨V, hV, G, HF⟩ := h.b1 44 a s q (.slice ao K.length cap);have HS : Hid (SlD w0 (fun b => b < B) K ao cap) := lh hS;have H1 := lh h1;have c := HF.out _ _ G.out.g;clear h hS h1
 show Calls Tryz.prog 48 #[pp pb, .agg #[.int .i64 44, .int .i64 a, .string s, .int .i64 q, .slice ao K.length cap]] W _
 go_enter Tryz.func48, Tryz.ntmps48
 go_upto_region 1 with fail
 rw [← hV];clear hV;have c := HF.out _ _ G.out.g;go_upto_region 54 with (go_at_call 85; refine G.out.put ?_; intro u1 G)
 have c := HF.out _ _ G.out.g;replace G := lh G.out.nil;go_wp2_with (go_at_call 91; refine G.out.path H1.out ?_; intro u2 G)
 have c := HF.out _ _ G.out.g;go_end0
 exact G.out.end j1 (by simp)
theorem m_body {a q : Int} {s : ByteArray} {K : List Ty} {ws : List ByteArray} (h1 : ManyC (CF 48 none) K ws) : CF 47 none (.mk 45 a s q K) (w_struct :: (ws ++ [w_end])) := by
 refine ⟨fun {B pb v0 w0 l W bs ao cap} h hS => ?_⟩;obtain ⟨V, hV, G, HF⟩ := h.b1 45 a s q (.slice ao K.length cap);have HS : Hid (SlD w0 (fun b => b < B) K ao cap) := lh hS;have H1 := lh h1;have c := HF.out _ _ G.out.g;clear h hS h1
 show Calls Tryz.prog 47 #[pp pb, .agg #[.int .i64 45, .int .i64 a, .string s, .int .i64 q, .slice ao K.length cap]] W _
 go_enter Tryz.func47, Tryz.ntmps47
 go_upto_region 1 with fail
 rw [← hV];clear hV;have c := HF.out _ _ G.out.g;go_upto_region 5 with (go_at_call 85; refine G.out.put ?_; intro u1 G)
 have c := HF.out _ _ G.out.g;go_upto_region 6 with (go_at_call 42; refine G.out.decs H1.out rfl HS.out ?_; intro u7 G)
 have c := HF.out _ _ G.out.g;go_wp2_with (go_at_call 85; refine G.out.put ?_; intro u8 G)
 have c := HF.out _ _ G.out.g;go_end0
 exact G.out.end j1 (by simp)
theorem m_path {a q : Int} {s : ByteArray} {K : List Ty} {ws : List ByteArray} (h1 : PathT s ws) : CF 47 none (.mk 46 a s q K) (ws) := by
 refine ⟨fun {B pb v0 w0 l W bs ao cap} h hS => ?_⟩;obtain ⟨V, hV, G, HF⟩ := h.b1 46 a s q (.slice ao K.length cap);have HS : Hid (SlD w0 (fun b => b < B) K ao cap) := lh hS;have H1 := lh h1;have c := HF.out _ _ G.out.g;clear h hS h1
 show Calls Tryz.prog 47 #[pp pb, .agg #[.int .i64 46, .int .i64 a, .string s, .int .i64 q, .slice ao K.length cap]] W _
 go_enter Tryz.func47, Tryz.ntmps47
 go_upto_region 1 with fail
 rw [← hV];clear hV;have c := HF.out _ _ G.out.g;replace G := lh G.out.nil;go_wp2_with (go_at_call 91; refine G.out.path H1.out ?_; intro u1 G)
 have c := HF.out _ _ G.out.g;go_end0
 exact G.out.end j1 (by simp)
theorem m_name {a q : Int} {s : ByteArray} {K : List Ty} {ws : List ByteArray} (h1 : PathT s ws) : CF 47 none (.mk 48 a s q K) (ws) := by
 refine ⟨fun {B pb v0 w0 l W bs ao cap} h hS => ?_⟩;obtain ⟨V, hV, G, HF⟩ := h.b1 48 a s q (.slice ao K.length cap);have HS : Hid (SlD w0 (fun b => b < B) K ao cap) := lh hS;have H1 := lh h1;have c := HF.out _ _ G.out.g;clear h hS h1
 show Calls Tryz.prog 47 #[pp pb, .agg #[.int .i64 48, .int .i64 a, .string s, .int .i64 q, .slice ao K.length cap]] W _
 go_enter Tryz.func47, Tryz.ntmps47
 go_upto_region 1 with fail
 rw [← hV];clear hV;have c := HF.out _ _ G.out.g;replace G := lh G.out.nil;go_wp2_with (go_at_call 91; refine G.out.path H1.out ?_; intro u1 G)
 have c := HF.out _ _ G.out.g;go_end0
 exact G.out.end j1 (by simp)
theorem m_sig {a q : Int} {s : ByteArray} {K : List Ty} {kw : List ByteArray} (h1 : ManyC (CF 47 none) K kw) : CF 47 none (.mk 47 a s q K) (w_sig :: (kw ++ [w_end])) := by
 refine ⟨fun {B pb v0 w0 l W bs ao cap} h hS => ?_⟩;obtain ⟨V, hV, G, HF⟩ := h.b1 47 a s q (.slice ao K.length cap);have HS : Hid (SlD w0 (fun b => b < B) K ao cap) := lh hS;have H1 := lh h1;have c := HF.out _ _ G.out.g;clear h hS h1
 show Calls Tryz.prog 47 #[pp pb, .agg #[.int .i64 47, .int .i64 a, .string s, .int .i64 q, .slice ao K.length cap]] W _
 go_enter Tryz.func47, Tryz.ntmps47
 go_upto_region 1 with fail
 rw [← hV];clear hV;have c := HF.out _ _ G.out.g;obtain ⟨c9, hc9⟩ : ∃ c9, c9 = K.length := ⟨_, rfl⟩
 have HC := lh hc9;go_upto_region 12 with (go_at_call 85; refine G.out.put ?_; intro u1 G)
 have c := HF.out _ _ G.out.g;have HS2 := HS;rw [← hc9] at c;clear hc9;go_upto_region 13 with fail
 obtain ⟨wss, hwl, hwe, hwp⟩ := H1.out.ex;have HWL := lh hwl;have HWP := lh hwp;have HWE := lh hwe;rw [hwe] at G ⊢;have HLB : Hid (c9 ≤ 5000000000) := lh (by have h1 := G.out.hl; have h2 := qR wss (fun x hx => by obtain ⟨i, hi, rfl⟩ := List.mem_iff_getElem.1 hx; exact (hwp i (by omega) hi).2); simp only [jL] at h1; have h3 : c9 = (K).length := HC.out; omega);have hlb := HLB.out;clear hwl hwe hwp H1 c;go_wp2_with fail
 go_loopw [5, 40] (fun _ i wr => ∃ k : Nat, i = .int .i64 k ∧ k ≤ c9 ∧ Gt B pb v0 w0 (l ++ [w_sig] ++ (wss.take k).flatten) ((wss.drop k).flatten ++ [w_end]) wr ((W.heap.size, #[.int .i64 47, .int .i64 a, .string s, .int .i64 q, .slice ao K.length cap], 26) :: bs)) (fun _ i _ => c9 - (Lib.intOf i).toNat)
 case atStart => exact ⟨0, rfl, by omega, by simpa using G.out⟩
 case round =>
  obtain ⟨k, rfl, hk, hg⟩ := hrel;have G := lh hg;clear hg
  by_cases hkc : k < c9
  · have hk9 : k < (K).length := (by have h3 : c9 = (K).length := HC.out; omega);have hk8 : k < wss.length := (by rw [HWL.out]; exact hk9);obtain ⟨b, p9, ap, cp, HS1, hb9, hix, x⟩ := G.out.kid HS2.out k _ (List.getElem?_eq_getElem hk9) c9 HC.out k rfl;obtain ⟨u, hu⟩ : ∃ u, u = (K)[k] := ⟨_, rfl⟩
    rw [← hu] at x HS1;obtain ⟨V, hV⟩ : ∃ V, V = wr.alloc (.cells (jh u ap cp) 26) := ⟨_, rfl⟩
    have HP : Hid (CF 47 none u wss[k]) := lh (by rw [hu]; exact (HWP.out k hk9 hk8).1);rw [flat_drop hk8] at G;have G := lh (G.out.box hV);unfold jh at hV G;clear hu;have hkc2 : (k : Int) < ((c9 : Nat) : Int) := (by omega);go_upto_region 15 with fail
    rw [← hV];have y := jM G.out.g.hd;clear hV x hix;go_wp2_with (go_at_call 47; refine G.out.call HP.out HS1.out ?_; intro u1 G)
    go_roundw
    case rel =>
     refine ⟨k + 1, by go_num, hkc, ?_⟩;rw [vL hk8, ← List.append_assoc];exact ⟨G.out.g.mono j1, G.out.hl⟩
    case measure => simp only [Lib.intOf]; omega
  · obtain rfl : k = c9 := by omega
    have hd : decide ((k : Int) < (k : Int)) = false := (by simp);replace G : Hid (Gt B pb v0 w0 (l ++ [w_sig] ++ wss.flatten) ([w_end]) wr ((W.heap.size, #[.int .i64 47, .int .i64 a, .string s, .int .i64 q, .slice ao K.length cap], 26) :: bs)) := lh (by have h := G.out; have h3 : k = (K).length := HC.out; rw [List.take_of_length_le (by rw [HWL.out]; omega), List.drop_of_length_le (by rw [HWL.out]; omega)] at h; exact h)
    skip
    go_wp2_with (go_at_call 85; refine G.out.put ?_; intro u7 G)
    go_end0
    exact G.out.end j1 (by simp [HWE.out])
theorem m_val {a q : Int} {s : ByteArray} {t : Ty} {tw : List ByteArray} (h1 : CF 45 (some (.int .i64 0)) t tw) : CF 47 none (.mk 49 a s q [t]) (w_val :: s :: s_col :: tw) := by
 refine ⟨fun {B pb v0 w0 l W bs ao cap} h hS => ?_⟩;obtain ⟨V, hV, G, HF⟩ := h.b1 49 a s q (.slice ao 1 cap);have HS : Hid (SlD w0 (fun b => b < B) [t] ao cap) := lh hS;have H1 := lh h1;have c := HF.out _ _ G.out.g;clear h hS h1
 show Calls Tryz.prog 47 #[pp pb, .agg #[.int .i64 49, .int .i64 a, .string s, .int .i64 q, .slice ao 1 cap]] W _
 go_enter Tryz.func47, Tryz.ntmps47
 go_upto_region 1 with fail
 rw [← hV];clear hV;have c := HF.out _ _ G.out.g;go_upto_region 20 with (go_at_call 85; refine G.out.put3 ?_; intro u1 G)
 have c := HF.out _ _ G.out.g;obtain ⟨b, p9, ap, cp, HS1, x⟩ := G.out.kid HS.out 0 t rfl 1 rfl 0 rfl;replace G := lh G.out.nil;go_wp2_with (go_at_call 45; refine G.out.call H1.out HS1.out ?_; intro u2 G)
 have c := HF.out _ _ G.out.g;go_end0
 exact G.out.end j1 (by simp)
theorem m_str {a q : Int} {s : ByteArray} {y : Ty} {yw : List ByteArray} (h1 : CF 47 none y yw) : CF 47 none (.mk 51 a s q [y]) (w_structure :: s :: s_col :: yw) := by
 refine ⟨fun {B pb v0 w0 l W bs ao cap} h hS => ?_⟩;obtain ⟨V, hV, G, HF⟩ := h.b1 51 a s q (.slice ao 1 cap);have HS : Hid (SlD w0 (fun b => b < B) [y] ao cap) := lh hS;have H1 := lh h1;have c := HF.out _ _ G.out.g;clear h hS h1
 show Calls Tryz.prog 47 #[pp pb, .agg #[.int .i64 51, .int .i64 a, .string s, .int .i64 q, .slice ao 1 cap]] W _
 go_enter Tryz.func47, Tryz.ntmps47
 go_upto_region 1 with fail
 rw [← hV];clear hV;have c := HF.out _ _ G.out.g;go_upto_region 32 with (go_at_call 85; refine G.out.put3 ?_; intro u1 G)
 have c := HF.out _ _ G.out.g;obtain ⟨b, p9, ap, cp, HS1, x⟩ := G.out.kid HS.out 0 y rfl 1 rfl 0 rfl;replace G := lh G.out.nil;go_wp2_with (go_at_call 47; refine G.out.call H1.out HS1.out ?_; intro u2 G)
 have c := HF.out _ _ G.out.g;go_end0
 exact G.out.end j1 (by simp)
theorem m_type0 {a : Int} {s : ByteArray} {L9 : List Ty} {hw : List ByteArray} (h1 : CF 98 none (.mk 50 a s L9.length L9) hw) : CF 47 none (.mk 50 a s L9.length L9) (w_type :: hw) := by
 refine ⟨fun {B pb v0 w0 l W bs ao cap} h hS => ?_⟩;obtain ⟨V, hV, G, HF⟩ := h.b1 50 a s L9.length (.slice ao L9.length cap);have HS : Hid (SlD w0 (fun b => b < B) L9 ao cap) := lh hS;have H1 := lh h1;have c := HF.out _ _ G.out.g;clear h hS h1
 show Calls Tryz.prog 47 #[pp pb, .agg #[.int .i64 50, .int .i64 a, .string s, .int .i64 L9.length, .slice ao L9.length cap]] W _
 go_enter Tryz.func47, Tryz.ntmps47
 go_upto_region 1 with fail
 rw [← hV];clear hV;have c := HF.out _ _ G.out.g;replace G := lh (show Gt B pb v0 w0 l (w_type :: (hw ++ [])) V _ by simpa using G.out);go_upto_region 23 with (go_at_call 85; refine G.out.put ?_; intro u1 G)
 have c := HF.out _ _ G.out.g;have HH := lh (hdc (pb := pb) (v0 := v0) H1.out HS.out (by simp : _ = L9.length));go_upto_region 24 with (go_at_call 98; refine HH.out _ _ _ _ _ G.out ?_; intro u2 G)
 have c := HF.out _ _ G.out.g;have s1 : ∀ w' : World, (Instr.slice 24 (.slice ao L9.length cap) (some (.int .i64 (L9.length : Int))) none none).run Tryz.prog w' = .ok (.slice (qq ao cap L9.length) 0 (cap - L9.length)) w' := fun w' => by rw [kv ao L9.length cap L9.length (by omega) _ rfl w', Nat.sub_self]
 go_wp2_with fail
 clear c s1;go_loopw [7, 78] (fun _ i wr => i = .int .i64 0 ∧ Gt B pb v0 w0 (l ++ [w_type] ++ hw) [] wr ((W.heap.size, #[.int .i64 50, .int .i64 a, .string s, .int .i64 L9.length, .slice ao L9.length cap], 26) :: bs)) (fun _ _ _ => 0)
 case atStart => exact ⟨rfl, G.out⟩
 case round =>
  obtain ⟨rfl, hg⟩ := hrel;have G := lh hg;clear hg;go_wp2_with fail
  go_end0
  exact G.out.end j1 (by simp)
theorem m_type1 {a : Int} {s : ByteArray} {L9 : List Ty} {hw : List ByteArray} {t : Ty} {tw : List ByteArray} (h1 : CF 98 none (.mk 50 a s L9.length (L9 ++ [t])) hw) (h2 : CF 45 (some (.int .i64 0)) t tw) : CF 47 none (.mk 50 a s L9.length (L9 ++ [t])) (w_type :: (hw ++ s_eq :: tw)) := by
 refine ⟨fun {B pb v0 w0 l W bs ao cap} h hS => ?_⟩;obtain ⟨V, hV, G, HF⟩ := h.b1 50 a s L9.length (.slice ao (L9.length + 1) cap);have HS : Hid (SlD w0 (fun b => b < B) (L9 ++ [t]) ao cap) := lh hS;have H1 := lh h1;have H2 := lh h2;have c := HF.out _ _ G.out.g;clear h hS h1 h2
 show Calls Tryz.prog 47 #[pp pb, .agg #[.int .i64 50, .int .i64 a, .string s, .int .i64 L9.length, .slice ao (L9 ++ [t]).length cap]] W _
 rw [show (L9 ++ [t]).length = (L9.length + 1) from by simp];go_enter Tryz.func47, Tryz.ntmps47
 go_upto_region 1 with fail
 rw [← hV];clear hV;have c := HF.out _ _ G.out.g;go_upto_region 23 with (go_at_call 85; refine G.out.put ?_; intro u1 G)
 have c := HF.out _ _ G.out.g;have HH := lh (hdc (pb := pb) (v0 := v0) H1.out HS.out (by simp : _ = (L9.length + 1)));go_upto_region 24 with (go_at_call 98; refine HH.out _ _ _ _ _ G.out ?_; intro u2 G)
 have c := HF.out _ _ G.out.g;have s1 : ∀ w' : World, (Instr.slice 24 (.slice ao (L9.length + 1) cap) (some (.int .i64 (L9.length : Int))) none none).run Tryz.prog w' = .ok (.slice (qq ao cap L9.length) 1 (cap - L9.length)) w' := fun w' => by rw [kv ao (L9.length + 1) cap L9.length (by omega) _ rfl w', Nat.add_sub_cancel_left]
 have HT : Hid (SlD w0 (fun b => b < B) [t] (qq ao cap L9.length) (cap - L9.length)) := lh (by have h9 := HS.out.drop L9.length; rwa [List.drop_left'] at h9; rfl);go_wp2_with fail
 clear c s1;go_loopw [7, 78] (fun _ i wr => (i = .int .i64 0 ∧ Gt B pb v0 w0 (l ++ [w_type] ++ hw) (s_eq :: tw) wr ((W.heap.size, #[.int .i64 50, .int .i64 a, .string s, .int .i64 L9.length, .slice ao (L9.length + 1) cap], 26) :: bs)) ∨ (i = .int .i64 1 ∧ Gt B pb v0 w0 (l ++ [w_type] ++ hw ++ [s_eq] ++ tw) [] wr ((W.heap.size, #[.int .i64 50, .int .i64 a, .string s, .int .i64 L9.length, .slice ao (L9.length + 1) cap], 26) :: bs))) (fun _ i _ => 1 - (Lib.intOf i).toNat)
 case atStart => exact .inl ⟨rfl, G.out⟩
 case round =>
  rcases hrel with ⟨rfl, hg⟩ | ⟨rfl, hg⟩
  · have G := lh hg;clear hg;obtain ⟨b, p9, ap, cp, HS1, hb9, hix, x⟩ := G.out.kid HT.out 0 t rfl 1 rfl 0 rfl;obtain ⟨V9, hV9⟩ : ∃ V, V = wr.alloc (.cells (jh t ap cp) 26) := ⟨_, rfl⟩
    have G := lh (G.out.box hV9);unfold jh at hV9 G;go_upto_region 27 with fail
    rw [← hV9];clear hV9 x hix;go_upto_region 28 with (go_at_call 85; refine G.out.put ?_; intro u7 G)
    have y := jM G.out.g.hd;replace G := lh G.out.nil;go_wp2_with (go_at_call 45; refine G.out.call H2.out HS1.out ?_; intro u8 G)
    go_roundw
    case rel => exact .inr ⟨rfl, G.out.g.mono j1, G.out.hl⟩
    case measure => simp [Lib.intOf]
  · have G := lh hg;clear hg;go_wp2_with fail
    go_end0
    exact G.out.end j1 (by simp)
theorem m_dec {k a q : Int} {s : ByteArray} {K : List Ty} {ws : List ByteArray} (hk : k = 38 ∨ k = 41) (h1 : CF 48 none (.mk k a s q K) ws) : CF 47 none (.mk k a s q K) (ws) := by
 refine ⟨fun {B pb v0 w0 l W bs ao cap} h hS => ?_⟩;obtain ⟨V, hV, G, HF⟩ := h.b1 k a s q (.slice ao K.length cap);have HS : Hid (SlD w0 (fun b => b < B) K ao cap) := lh hS;have H1 := lh h1;have c := HF.out _ _ G.out.g;have e45 : (k == 45) = false := by simp; omega
 have e46 : (k == 46) = false := by simp; omega
 have e48 : (k == 48) = false := by simp; omega
 have e47 : (k == 47) = false := by simp; omega
 have e49 : (k == 49) = false := by simp; omega
 have e50 : (k == 50) = false := by simp; omega
 have e51 : (k == 51) = false := by simp; omega
 clear hk;clear h hS h1
 show Calls Tryz.prog 47 #[pp pb, .agg #[.int .i64 k, .int .i64 a, .string s, .int .i64 q, .slice ao K.length cap]] W _
 go_enter Tryz.func47, Tryz.ntmps47
 go_upto_region 1 with fail
 rw [← hV];clear hV;have c := HF.out _ _ G.out.g;replace G := lh G.out.nil;go_wp2_with (go_at_call 48; refine G.out.call H1.out (n := .mk k a s q K) HS.out ?_; intro u1 G)
 have c := HF.out _ _ G.out.g;go_end0
 exact G.out.end j1 (by simp)
theorem any_prog {a q : Int} {s : ByteArray} {K : List Ty} {ws : List ByteArray} (h1 : ManyC (CF 48 none) K ws) : CF 18 none (.mk 0 a s q K) (ws) := by
 refine ⟨fun {B pb v0 w0 l W bs ao cap} h hS => ?_⟩;obtain ⟨V, hV, G, HF⟩ := h.b1 0 a s q (.slice ao K.length cap);have HS : Hid (SlD w0 (fun b => b < B) K ao cap) := lh hS;have H1 := lh h1;have c := HF.out _ _ G.out.g;clear h hS h1
 show Calls Tryz.prog 18 #[pp pb, .agg #[.int .i64 0, .int .i64 a, .string s, .int .i64 q, .slice ao K.length cap]] W _
 go_enter Tryz.func18, Tryz.ntmps18
 go_upto_region 1 with fail
 rw [← hV];clear hV;have c := HF.out _ _ G.out.g;replace G := lh G.out.nil;go_wp2_with (go_at_call 42; refine G.out.decs H1.out rfl HS.out ?_; intro u7 G)
 go_end0
 exact G.out.end j1 (by simp)
theorem any_exp {k a q : Int} {s : ByteArray} {K : List Ty} {ws : List ByteArray} (hk : 1 ≤ k ∧ k ≤ 19 ∧ k ≠ 12) (h1 : CF 43 (some (.int .i64 0)) (.mk k a s q K) ws) : CF 18 none (.mk k a s q K) (ws) := by
 refine ⟨fun {B pb v0 w0 l W bs ao cap} h hS => ?_⟩;obtain ⟨V, hV, G, HF⟩ := h.b1 k a s q (.slice ao K.length cap);have HS : Hid (SlD w0 (fun b => b < B) K ao cap) := lh hS;have H1 := lh h1;have c := HF.out _ _ G.out.g;have e0 : (k == 0) = false := by simp; omega
 have e1 : k ≤ 19 := hk.2.1;have e2 : ¬ k = 12 := hk.2.2;clear hk;clear h hS h1
 show Calls Tryz.prog 18 #[pp pb, .agg #[.int .i64 k, .int .i64 a, .string s, .int .i64 q, .slice ao K.length cap]] W _
 go_enter Tryz.func18, Tryz.ntmps18
 go_upto_region 1 with fail
 rw [← hV];clear hV;have c := HF.out _ _ G.out.g;replace G := lh G.out.nil;go_wp2_with (go_at_call 43; refine G.out.call H1.out (n := .mk k a s q K) HS.out ?_; intro u1 G)
 have c := HF.out _ _ G.out.g;go_end0
 exact G.out.end j1 (by simp)
theorem any_pat {k a q : Int} {s : ByteArray} {K : List Ty} {ws : List ByteArray} (hk : 20 ≤ k ∧ k ≤ 29) (h1 : CF 44 (some (.int .i64 0)) (.mk k a s q K) ws) : CF 18 none (.mk k a s q K) (ws) := by
 refine ⟨fun {B pb v0 w0 l W bs ao cap} h hS => ?_⟩;obtain ⟨V, hV, G, HF⟩ := h.b1 k a s q (.slice ao K.length cap);have HS : Hid (SlD w0 (fun b => b < B) K ao cap) := lh hS;have H1 := lh h1;have c := HF.out _ _ G.out.g;have e0 : (k == 0) = false := by simp; omega
 have e1 : decide (k ≤ 19) = false := by simp; omega
 have e2 : k ≥ 20 := hk.1;have e3 : k ≤ 29 := hk.2;have e4 : (20 : Int) ≤ k := hk.1;clear hk;clear h hS h1
 show Calls Tryz.prog 18 #[pp pb, .agg #[.int .i64 k, .int .i64 a, .string s, .int .i64 q, .slice ao K.length cap]] W _
 go_enter Tryz.func18, Tryz.ntmps18
 go_upto_region 1 with fail
 rw [← hV];clear hV;have c := HF.out _ _ G.out.g;replace G := lh G.out.nil;go_wp2_with (go_at_call 44; refine G.out.call H1.out (n := .mk k a s q K) HS.out ?_; intro u1 G)
 have c := HF.out _ _ G.out.g;go_end0
 exact G.out.end j1 (by simp)
theorem any_typ {k a q : Int} {s : ByteArray} {K : List Ty} {ws : List ByteArray} (hk : 30 ≤ k ∧ k ≤ 33) (h1 : CF 45 (some (.int .i64 0)) (.mk k a s q K) ws) : CF 18 none (.mk k a s q K) (ws) := by
 refine ⟨fun {B pb v0 w0 l W bs ao cap} h hS => ?_⟩;obtain ⟨V, hV, G, HF⟩ := h.b1 k a s q (.slice ao K.length cap);have HS : Hid (SlD w0 (fun b => b < B) K ao cap) := lh hS;have H1 := lh h1;have c := HF.out _ _ G.out.g;have e0 : (k == 0) = false := by simp; omega
 have e1 : decide (k ≤ 19) = false := by simp; omega
 have e3 : decide (k ≤ 29) = false := by simp; omega
 have e2 : (20 : Int) ≤ k := by omega
 have e4 : (30 : Int) ≤ k := hk.1;have e5 : k ≤ 33 := hk.2;clear hk;clear h hS h1
 show Calls Tryz.prog 18 #[pp pb, .agg #[.int .i64 k, .int .i64 a, .string s, .int .i64 q, .slice ao K.length cap]] W _
 go_enter Tryz.func18, Tryz.ntmps18
 go_upto_region 1 with fail
 rw [← hV];clear hV;have c := HF.out _ _ G.out.g;replace G := lh G.out.nil;go_wp2_with (go_at_call 45; refine G.out.call H1.out (n := .mk k a s q K) HS.out ?_; intro u1 G)
 have c := HF.out _ _ G.out.g;go_end0
 exact G.out.end j1 (by simp)
theorem wrap_neg (x : Int) (h0 : -9223372036854775808 ≤ x) (h1 : x ≤ 9223372036854775807) : IntKind.i64.wrap x = x := IntWalk.i64_in _ ⟨h0, h1⟩
theorem max_run (x y : Int) (h : y ≤ x) (w : World) : (Builtin.max_ #[3, 3] 3 #[.int .i64 x, .int .i64 y]).run Tryz.prog w = .ok (.int .i64 x) w := by
 rw [run_max_int2, if_neg (by omega)]
theorem max_run2 (x y : Int) (h : x ≤ y) (w : World) : (Builtin.max_ #[3, 3] 3 #[.int .i64 x, .int .i64 y]).run Tryz.prog w = .ok (.int .i64 y) w := by
 rw [run_max_int2]
 by_cases c : y > x
 · rw [if_pos c]
 · rw [if_neg c, show x = y by omega]
theorem q_int {a : Int} {s : ByteArray} {K : List Ty} {N : Nat} (h1 : N ≤ 1000000000) {B pb : Nat} {v0 : Value} {w0 : World} {bs : List Bx} {ao : Option Addr} {cap nb xb ab : Nat} (m0 : (nb, #[.int .i64 22, .int .i64 a, .string s, .int .i64 N, .slice ao K.length cap], 26) ∈ bs) (m1 : (xb, #[pp pb], 43) ∈ bs) (m2 : (ab, #[.func (.func 87) #[] #[.pointer (some ⟨xb, 0, none⟩)]], 47) ∈ bs) (hS : SlD w0 (fun b => b < B) K ao cap) : CV 88 #[.pointer (some ⟨nb, 0, none⟩), .pointer (some ⟨xb, 0, none⟩), .pointer (some ⟨ab, 0, none⟩)] ([dgW N]) B pb v0 w0 bs := by
 refine ⟨fun {l W} h => ?_⟩;have G := lh h;have HF := lh (fun (l : List ByteArray) (W : World) (g : Gp B pb v0 w0 l W bs) => And.intro (jM (g.at m0)) (And.intro (jV (g.at m1)) (jV (g.at m2))));have HS : Hid (SlD w0 (fun b => b < B) K ao cap) := lh hS;have H1 := lh h1;have c := HF.out _ _ G.out.g;have hw : IntKind.i64.wrap (-(N : Int)) = -(N : Int) := wrap_neg _ (by omega) (by omega);have hm : ∀ w9 : World, (Builtin.max_ #[3, 3] 3 #[.int .i64 (N : Int), .int .i64 (-(N : Int))]).run Tryz.prog w9 = .ok (.int .i64 (N : Int)) w9 := fun w9 => max_run _ _ (by omega) w9
 have hd : decide ((N : Int) < 0) = false := by simp
 clear h hS h1 m0 m1 m2;go_enter Tryz.func88, Tryz.ntmps88
 go_upto_region 8 with fail
 have HS9 := lh (fun l W9 g => And.intro (HF.out l W9 g).1.2.2.2.1 (HF.out l W9 g).2.1);replace G := lh G.out.drew;clear c;go_region_held3 (fun w9 => w9.cell? ⟨nb, 3, none⟩ = some (.int .i64 N) ∧ w9.cell? ⟨xb, 0, none⟩ = some (pp pb)) (first | exact HS9.out _ _ G.out.g | exact HS9.out _ _ (G.out.g.below (jk (Below.refl _ _) _))) (first | (go_at_call 89; refine G.out.itoa H1.out ?_; intro u1 G) | (go_at_call 85; refine G.out.put ?_; intro u2 G))
 go_end0
 exact G.out.end (fun _ h => h) (by simp)
theorem q_neg {a : Int} {s : ByteArray} {K : List Ty} {N : Nat} (h0 : 0 < N) (h1 : N ≤ 1000000000) {B pb : Nat} {v0 : Value} {w0 : World} {bs : List Bx} {ao : Option Addr} {cap nb xb ab : Nat} (m0 : (nb, #[.int .i64 22, .int .i64 a, .string s, .int .i64 (-(N : Int)), .slice ao K.length cap], 26) ∈ bs) (m1 : (xb, #[pp pb], 43) ∈ bs) (m2 : (ab, #[.func (.func 87) #[] #[.pointer (some ⟨xb, 0, none⟩)]], 47) ∈ bs) (hS : SlD w0 (fun b => b < B) K ao cap) : CV 88 #[.pointer (some ⟨nb, 0, none⟩), .pointer (some ⟨xb, 0, none⟩), .pointer (some ⟨ab, 0, none⟩)] ([s_ti, dgW N]) B pb v0 w0 bs := by
 refine ⟨fun {l W} h => ?_⟩;have G := lh h;have HF := lh (fun (l : List ByteArray) (W : World) (g : Gp B pb v0 w0 l W bs) => And.intro (jM (g.at m0)) (And.intro (jV (g.at m1)) (jV (g.at m2))));have HS : Hid (SlD w0 (fun b => b < B) K ao cap) := lh hS;have H1 := lh h1;have c := HF.out _ _ G.out.g;have hw : IntKind.i64.wrap (N : Int) = (N : Int) := wrap_neg _ (by omega) (by omega);have hx : max (-(N : Int)) (N : Int) = (N : Int) := by omega
 have hm : ∀ w9 : World, (Builtin.max_ #[3, 3] 3 #[.int .i64 (-(N : Int)), .int .i64 (N : Int)]).run Tryz.prog w9 = .ok (.int .i64 (N : Int)) w9 := fun w9 => max_run2 _ _ (by omega) w9
 have hd : -(N : Int) < 0 := by omega
 have hd2 : -(N : Int) < (N : Int) := by omega
 clear h hS h1 m0 m1 m2;go_enter Tryz.func88, Tryz.ntmps88
 go_upto_region 8 with (go_at_call 85; refine G.out.put ?_; intro u1 G)
 have c := HF.out _ _ G.out.g;go_upto_region 8 with fail
 have HS9 := lh (fun l W9 g => And.intro (HF.out l W9 g).1.2.2.2.1 (HF.out l W9 g).2.1);replace G := lh G.out.drew;clear c;go_region_held3 (fun w9 => w9.cell? ⟨nb, 3, none⟩ = some (.int .i64 (-(N : Int))) ∧ w9.cell? ⟨xb, 0, none⟩ = some (pp pb)) (first | exact HS9.out _ _ G.out.g | exact HS9.out _ _ (G.out.g.below (jk (Below.refl _ _) _))) (first | (go_at_call 89; refine G.out.itoa H1.out ?_; intro u1 G) | (go_at_call 85; refine G.out.put ?_; intro u2 G))
 go_end0
 exact G.out.end (fun _ h => h) (by simp)
end Go.Proofs.YthehjeeiodbkjaaGreatDoor
