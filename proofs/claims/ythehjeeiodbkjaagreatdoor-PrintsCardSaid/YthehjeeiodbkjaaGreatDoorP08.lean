/-
  Proved: the reference's between, operation and bare, by kinds; the reference's head, of, declared and Print, by kinds. Conditions: the tree in memory; the contracts of what is called; words that are not empty.
-/
import Derived.Test.YthehjeeiodbkjaaGreatDoorP01
import Derived.Test.YthehjeeiodbkjaaGreatDoorP07
import Derived.StillTailTactics
import Derived.BigRegion
set_option linter.unusedSimpArgs false
set_option linter.unusedVariables false
set_option maxRecDepth 100000
set_option maxHeartbeats 16000000
namespace Go.Proofs.YthehjeeiodbkjaaGreatDoor
open Go.RowKit
abbrev C5 (w : World) (b : Nat) (k a : Int) (s : ByteArray) (q : Int) (x : Value) : Prop := w.cell? ⟨b, 0, none⟩ = some (.int .i64 k) ∧ w.cell? ⟨b, 1, none⟩ = some (.int .i64 a) ∧ w.cell? ⟨b, 2, none⟩ = some (.string s) ∧ w.cell? ⟨b, 3, none⟩ = some (.int .i64 q) ∧ w.cell? ⟨b, 4, none⟩ = some x
abbrev K5 (w : World) (b p : Nat) (k a : Int) (s : ByteArray) (q : Int) (x : Value) : Prop := w.cell? ⟨b, p, none⟩ = some (.int .i64 k) ∧ w.cell? ⟨b, p + 1, none⟩ = some (.int .i64 a) ∧ w.cell? ⟨b, p + 2, none⟩ = some (.string s) ∧ w.cell? ⟨b, p + 3, none⟩ = some (.int .i64 q) ∧ w.cell? ⟨b, p + 4, none⟩ = some x
theorem fin {l ws : List ByteArray} (e : l = ws) : Ending.returned (.string (tx l)) = .returned (.string (tx ws)) := by rw [e]
theorem yi {s : ByteArray} {ws ts : List ByteArray} {w : World} {R : Ending → World → Prop} (HW : Hid (Wz ts)) (hp : Wz ws → PathR s ws) (k : R (.returned (.string (tx ws))) w)
 (hq : Pt ws ts := by exact ⟨(by intro w hw; (try simp only [qz, rnd_f] at hw ⊢); grind), (by (try simp only [jl, jL, qz, rnd_f, sz_lit, List.length_cons, List.length_nil]) <;> omega)⟩) : Calls Tryz.prog 115 #[.string s] w R :=
 (wpath_any s ws (hp (HW.out.pt hq)) w).mono (by rintro e w' ⟨rfl, rfl⟩; exact k)
structure MR (wd : ByteArray) (K : List Ty) (ws : List ByteArray) : Prop where
 call : Wz ws → ∀ {W : World} {ao : Option Addr} {c cap : Nat}, c = K.length → SlD W (fun b => b < W.heap.size) K ao cap → Calls Tryz.prog 24 #[.slice ao c cap, .string wd] W fun e w' => e = .returned (.string (tx ws)) ∧ Below W.heap.size W w'
theorem MR.row {s : ByteArray} {K : List Ty} {ws : List ByteArray} (h : RowC (CR 10 none) s K ws) (hs : 0 < s.size ∧ s.size ≤ 1000) : MR s K ws := by
 obtain ⟨wss, hl, rfl, hp⟩ := h.ex;refine ⟨fun hw {W ao c cap} hc hS => ?_⟩;have h2 := sepW_len s wss;have h3 := hw.le;rw [← sepT_one] at hw ⊢;have := wmany_any (ss := [s]) hl hp hw ⟨fun w h => by simp at h; subst h; exact hs.1, by simp only [jl]; omega⟩ (by omega) hc hS;rw [ya] at this;exact this
theorem MR.many {K : List Ty} {ws : List ByteArray} (h : ManyC (CR 10 none) K ws) : MR ⟨#[]⟩ K ws := by
 obtain ⟨wss, hl, rfl, hp⟩ := h.ex;refine ⟨fun hw {W ao c cap} hc hS => ?_⟩
 have h2 := qR wss fun x hx => by
  obtain ⟨i, hi, rfl⟩ := List.getElem_of_mem hx;exact (hp i (by omega) hi).2
 have h3 := hw.le;rw [← sepT_nil] at hw ⊢;exact wmany_any (ss := []) hl (fun i hi hi2 => (hp i hi hi2).1) hw Wz.nil (by omega) hc hS
theorem Rg.many {w0 W : World} {bs : List Bx} {ts ws : List ByteArray} {wd : ByteArray} {K : List Ty} (h : Hid (Rg w0 W bs)) (HW : Hid (Wz ts)) (hm : MR wd K ws) {ao : Option Addr} {c cap : Nat} (hc : c = K.length) (hs : SlD w0 (fun b => b < w0.heap.size) K ao cap) {R : Ending → World → Prop} (k : ∀ u, Hid (Rg w0 u bs) → R (.returned (.string (tx ws))) u)
 (hp : Pt ws ts := by exact ⟨(by intro w hw; (try simp only [qz, rnd_f] at hw ⊢); grind), (by (try simp only [jl, jL, qz, rnd_f, sz_lit, List.length_cons, List.length_nil]) <;> omega)⟩) : Calls Tryz.prog 24 #[.slice ao c cap, .string wd] W R :=
 (hm.call (HW.out.pt hp) hc (h.out.sl hs)).mono (by rintro e u ⟨rfl, hb⟩; exact k u (lh (h.out.below hb)))
structure BR (wd : ByteArray) (A B : Int) (K : List Ty) (ws : List ByteArray) : Prop where
 call : Wz ws → ∀ {W : World} {ao : Option Addr} {c cap : Nat} {k a q : Int} {s : ByteArray}, c = K.length → SlD W (fun b => b < W.heap.size) K ao cap → Calls Tryz.prog 116 #[.agg #[.int .i64 k, .int .i64 a, .string s, .int .i64 q, .slice ao c cap], .string wd, .int .i64 A, .int .i64 B] W fun e w' => e = .returned (.string (tx ws)) ∧ Below W.heap.size W w'
theorem Rg.betw {w0 W : World} {bs : List Bx} {ts ws : List ByteArray} {wd : ByteArray} {A B : Int} {K : List Ty} (h : Hid (Rg w0 W bs)) (HW : Hid (Wz ts)) (hm : BR wd A B K ws) {ao : Option Addr} {c cap : Nat} {k a q : Int} {s : ByteArray} (hc : c = K.length) (hs : SlD w0 (fun b => b < w0.heap.size) K ao cap) {R : Ending → World → Prop} (z : ∀ u, Hid (Rg w0 u bs) → R (.returned (.string (tx ws))) u)
 (hp : Pt ws ts := by exact ⟨(by intro w hw; (try simp only [qz, rnd_f] at hw ⊢); grind), (by (try simp only [jl, jL, qz, rnd_f, sz_lit, List.length_cons, List.length_nil]) <;> omega)⟩) : Calls Tryz.prog 116 #[.agg #[.int .i64 k, .int .i64 a, .string s, .int .i64 q, .slice ao c cap], .string wd, .int .i64 A, .int .i64 B] W R :=
 (hm.call (HW.out.pt hp) hc (h.out.sl hs)).mono (by rintro e u ⟨rfl, hb⟩; exact z u (lh (h.out.below hb)))
theorem vx {wd : ByteArray} {A B : Int} {x y : Ty} {r : List Ty} {xw ss yw : List ByteArray} [hi : IsTx wd ss] (h1 : CR 26 (some (.int .i64 A)) x xw) (h2 : CR 26 (some (.int .i64 B)) y yw) : BR wd A B (x :: y :: r) (xw ++ (ss ++ yw)) := by
 refine ⟨fun hw {W ao c9 cap k a q s} hc hs => ?_⟩;rw [hi.eq];obtain ⟨V, hV, G, HF⟩ := jN W k a s q (.slice ao c9 cap);have HS := lh hs;have HW := lh hw;have H1 := lh h1;have H2 := lh h2;have HC := lh hc;have c := HF.out _ G.out;clear hw hs h1 h2 hc;go_enter Tryz.func116, Tryz.ntmps116
 go_upto_region 1 with fail
 rw [← hV];clear hV;obtain ⟨b0, i0, ap0, cp0, HS1, hix0, HX0⟩ := G.out.kid HS.out 0 x rfl c9 HC.out 0 rfl;obtain ⟨b1, i1, ap1, cp1, HS2, hix1, HX1⟩ := G.out.kid HS.out 1 y rfl c9 HC.out 1 rfl;have x0 := HX0.out _ _ G.out;go_upto_region 2 with (go_at_call 26; refine Rg.call G HW H1.out HS1.out ?_; intro u G)
 have c := HF.out _ G.out;have x1 := HX1.out _ _ G.out;go_upto_region 3 with (go_at_call 26; refine Rg.call G HW H2.out HS2.out ?_; intro u G)
 go_wp2_with (go_at_call 25; refine kl HW ?_)
 go_ret
 exact ⟨fin (by simp), G.out.b⟩
theorem b_int {a : Int} {s : ByteArray} {K : List Ty} {N : Nat} (h1 : N ≤ 1000000000) : CR 60 (some (.int .i64 10)) (.mk 1 a s N K) [dgW N] := by
 refine ⟨fun hw {W ao cap} hs => ?_⟩;obtain ⟨V, hV, G, HF⟩ := jN W 1 a s N (.slice ao K.length cap);have HS : Hid (SlD W (fun b => b < W.heap.size) K ao cap) := lh hs;have HW := lh hw;have H1 := lh h1;have c := HF.out _ G.out;clear hw hs h1
 show Calls Tryz.prog 60 #[.agg #[.int .i64 1, .int .i64 a, .string s, .int .i64 N, .slice ao K.length cap], .int .i64 10] W _
 go_enter Tryz.func60, Tryz.ntmps60
 go_upto_region 1 with fail
 rw [← hV];clear hV;have HD := lh (wdig_any N H1.out);go_wp2_with (go_at_call 113; refine (HD.out _).mono ?_; rintro e u ⟨rfl, hb⟩; replace G := lh (G.out.below hb); clear hb)
 go_ret
 exact ⟨by rw [ya]; rfl, G.out.b⟩
theorem b_str {a q : Int} {s : ByteArray} {K : List Ty} (h1 : s.size ≤ 200) : CR 60 (some (.int .i64 10)) (.mk 2 a s q K) [qC s] := by
 refine ⟨fun hw {W ao cap} hs => ?_⟩;obtain ⟨V, hV, G, HF⟩ := jN W 2 a s q (.slice ao K.length cap);have HS : Hid (SlD W (fun b => b < W.heap.size) K ao cap) := lh hs;have HW := lh hw;have H1 := lh h1;have c := HF.out _ G.out;clear hw hs h1
 show Calls Tryz.prog 60 #[.agg #[.int .i64 2, .int .i64 a, .string s, .int .i64 q, .slice ao K.length cap], .int .i64 10] W _
 go_enter Tryz.func60, Tryz.ntmps60
 go_upto_region 1 with fail
 rw [← hV];clear hV;have HD := lh (fun w => rquote_any s w (by have := H1.out; omega));go_wp2_with (go_at_call 114; refine (HD.out _).mono ?_; rintro e u ⟨rfl, hb⟩; replace G := lh (G.out.below hb); clear hb)
 go_ret
 exact ⟨by rw [ya]; rfl, G.out.b⟩
theorem b_pstr {a q : Int} {s : ByteArray} {K : List Ty} (h1 : s.size ≤ 200) : CR 60 (some (.int .i64 10)) (.mk 23 a s q K) [qC s] := by
 refine ⟨fun hw {W ao cap} hs => ?_⟩;obtain ⟨V, hV, G, HF⟩ := jN W 23 a s q (.slice ao K.length cap);have HS : Hid (SlD W (fun b => b < W.heap.size) K ao cap) := lh hs;have HW := lh hw;have H1 := lh h1;have c := HF.out _ G.out;clear hw hs h1
 show Calls Tryz.prog 60 #[.agg #[.int .i64 23, .int .i64 a, .string s, .int .i64 q, .slice ao K.length cap], .int .i64 10] W _
 go_enter Tryz.func60, Tryz.ntmps60
 go_upto_region 1 with fail
 rw [← hV];clear hV;have HD := lh (fun w => rquote_any s w (by have := H1.out; omega));go_wp2_with (go_at_call 114; refine (HD.out _).mono ?_; rintro e u ⟨rfl, hb⟩; replace G := lh (G.out.below hb); clear hb)
 go_ret
 exact ⟨by rw [ya]; rfl, G.out.b⟩
theorem b_path3 {a q : Int} {s : ByteArray} {K : List Ty} {ws : List ByteArray} (hp : Wz ws → PathR s ws) : CR 60 (some (.int .i64 10)) (.mk 3 a s q K) ws := by
 refine ⟨fun hw {W ao cap} hs => ?_⟩;obtain ⟨V, hV, G, HF⟩ := jN W 3 a s q (.slice ao K.length cap);have HS : Hid (SlD W (fun b => b < W.heap.size) K ao cap) := lh hs;have HW := lh hw;have HP := lh hp;have c := HF.out _ G.out;clear hw hs hp
 show Calls Tryz.prog 60 #[.agg #[.int .i64 3, .int .i64 a, .string s, .int .i64 q, .slice ao K.length cap], .int .i64 10] W _
 go_enter Tryz.func60, Tryz.ntmps60
 go_upto_region 1 with fail
 rw [← hV];clear hV;go_wp2_with (go_at_call 115; refine yi HW HP.out ?_)
 go_ret
 exact ⟨rfl, G.out.b⟩
theorem b_path4 {a q : Int} {s : ByteArray} {K : List Ty} {ws : List ByteArray} (hp : Wz ws → PathR s ws) : CR 60 (some (.int .i64 10)) (.mk 4 a s q K) ws := by
 refine ⟨fun hw {W ao cap} hs => ?_⟩;obtain ⟨V, hV, G, HF⟩ := jN W 4 a s q (.slice ao K.length cap);have HS : Hid (SlD W (fun b => b < W.heap.size) K ao cap) := lh hs;have HW := lh hw;have HP := lh hp;have c := HF.out _ G.out;clear hw hs hp
 show Calls Tryz.prog 60 #[.agg #[.int .i64 4, .int .i64 a, .string s, .int .i64 q, .slice ao K.length cap], .int .i64 10] W _
 go_enter Tryz.func60, Tryz.ntmps60
 go_upto_region 1 with fail
 rw [← hV];clear hV;go_wp2_with (go_at_call 115; refine yi HW HP.out ?_)
 go_ret
 exact ⟨rfl, G.out.b⟩
theorem b_path21 {a q : Int} {s : ByteArray} {K : List Ty} {ws : List ByteArray} (hp : Wz ws → PathR s ws) : CR 60 (some (.int .i64 10)) (.mk 21 a s q K) ws := by
 refine ⟨fun hw {W ao cap} hs => ?_⟩;obtain ⟨V, hV, G, HF⟩ := jN W 21 a s q (.slice ao K.length cap);have HS : Hid (SlD W (fun b => b < W.heap.size) K ao cap) := lh hs;have HW := lh hw;have HP := lh hp;have c := HF.out _ G.out;clear hw hs hp
 show Calls Tryz.prog 60 #[.agg #[.int .i64 21, .int .i64 a, .string s, .int .i64 q, .slice ao K.length cap], .int .i64 10] W _
 go_enter Tryz.func60, Tryz.ntmps60
 go_upto_region 1 with fail
 rw [← hV];clear hV;go_wp2_with (go_at_call 115; refine yi HW HP.out ?_)
 go_ret
 exact ⟨rfl, G.out.b⟩
theorem b_path30 {a q : Int} {s : ByteArray} {K : List Ty} {ws : List ByteArray} (hp : Wz ws → PathR s ws) : CR 60 (some (.int .i64 10)) (.mk 30 a s q K) ws := by
 refine ⟨fun hw {W ao cap} hs => ?_⟩;obtain ⟨V, hV, G, HF⟩ := jN W 30 a s q (.slice ao K.length cap);have HS : Hid (SlD W (fun b => b < W.heap.size) K ao cap) := lh hs;have HW := lh hw;have HP := lh hp;have c := HF.out _ G.out;clear hw hs hp
 show Calls Tryz.prog 60 #[.agg #[.int .i64 30, .int .i64 a, .string s, .int .i64 q, .slice ao K.length cap], .int .i64 10] W _
 go_enter Tryz.func60, Tryz.ntmps60
 go_upto_region 1 with fail
 rw [← hV];clear hV;go_wp2_with (go_at_call 115; refine yi HW HP.out ?_)
 go_ret
 exact ⟨rfl, G.out.b⟩
theorem b_path46 {a q : Int} {s : ByteArray} {K : List Ty} {ws : List ByteArray} (hp : Wz ws → PathR s ws) : CR 60 (some (.int .i64 10)) (.mk 46 a s q K) ws := by
 refine ⟨fun hw {W ao cap} hs => ?_⟩;obtain ⟨V, hV, G, HF⟩ := jN W 46 a s q (.slice ao K.length cap);have HS : Hid (SlD W (fun b => b < W.heap.size) K ao cap) := lh hs;have HW := lh hw;have HP := lh hp;have c := HF.out _ G.out;clear hw hs hp
 show Calls Tryz.prog 60 #[.agg #[.int .i64 46, .int .i64 a, .string s, .int .i64 q, .slice ao K.length cap], .int .i64 10] W _
 go_enter Tryz.func60, Tryz.ntmps60
 go_upto_region 1 with fail
 rw [← hV];clear hV;go_wp2_with (go_at_call 115; refine yi HW HP.out ?_)
 go_ret
 exact ⟨rfl, G.out.b⟩
theorem b_path48 {a q : Int} {s : ByteArray} {K : List Ty} {ws : List ByteArray} (hp : Wz ws → PathR s ws) : CR 60 (some (.int .i64 10)) (.mk 48 a s q K) ws := by
 refine ⟨fun hw {W ao cap} hs => ?_⟩;obtain ⟨V, hV, G, HF⟩ := jN W 48 a s q (.slice ao K.length cap);have HS : Hid (SlD W (fun b => b < W.heap.size) K ao cap) := lh hs;have HW := lh hw;have HP := lh hp;have c := HF.out _ G.out;clear hw hs hp
 show Calls Tryz.prog 60 #[.agg #[.int .i64 48, .int .i64 a, .string s, .int .i64 q, .slice ao K.length cap], .int .i64 10] W _
 go_enter Tryz.func60, Tryz.ntmps60
 go_upto_region 1 with fail
 rw [← hV];clear hV;go_wp2_with (go_at_call 115; refine yi HW HP.out ?_)
 go_ret
 exact ⟨rfl, G.out.b⟩
theorem b_any {a q : Int} {s : ByteArray} {K : List Ty}  : CR 60 (some (.int .i64 10)) (.mk 20 a s q K) [s_us] := by
 refine ⟨fun hw {W ao cap} hs => ?_⟩;obtain ⟨V, hV, G, HF⟩ := jN W 20 a s q (.slice ao K.length cap);have HS : Hid (SlD W (fun b => b < W.heap.size) K ao cap) := lh hs;have HW := lh hw;have c := HF.out _ G.out;clear hw hs 
 show Calls Tryz.prog 60 #[.agg #[.int .i64 20, .int .i64 a, .string s, .int .i64 q, .slice ao K.length cap], .int .i64 10] W _
 go_enter Tryz.func60, Tryz.ntmps60
 go_upto_region 1 with fail
 rw [← hV];clear hV;go_wp2_with fail
 go_ret
 exact ⟨by rw [ya]; rfl, G.out.b⟩
theorem b_pint {a : Int} {s : ByteArray} {K : List Ty} {N : Nat} (h1 : N ≤ 1000000000) : CR 60 (some (.int .i64 10)) (.mk 22 a s N K) [dgW N] := by
 refine ⟨fun hw {W ao cap} hs => ?_⟩;obtain ⟨V, hV, G, HF⟩ := jN W 22 a s N (.slice ao K.length cap);have HS : Hid (SlD W (fun b => b < W.heap.size) K ao cap) := lh hs;have HW := lh hw;have H1 := lh h1;have c := HF.out _ G.out;clear hw hs h1
 show Calls Tryz.prog 60 #[.agg #[.int .i64 22, .int .i64 a, .string s, .int .i64 N, .slice ao K.length cap], .int .i64 10] W _
 go_enter Tryz.func60, Tryz.ntmps60
 go_upto_region 1 with fail
 rw [← hV];clear hV;have HD := lh (wdig_any N H1.out);have e1 : decide ((N : Int) < 0) = false := by simp
 go_wp2_with (go_at_call 113; refine (HD.out _).mono ?_; rintro e u ⟨rfl, hb⟩; replace G := lh (G.out.below hb); clear hb)
 go_ret
 exact ⟨by rw [ya]; rfl, G.out.b⟩
theorem b_pneg {a : Int} {s : ByteArray} {K : List Ty} {N : Nat} (h0 : 0 < N) (h1 : N ≤ 1000000000) : CR 60 (some (.int .i64 10)) (.mk 22 a s (-(N : Int)) K) [s_ti, dgW N] := by
 refine ⟨fun hw {W ao cap} hs => ?_⟩;obtain ⟨V, hV, G, HF⟩ := jN W 22 a s (-(N : Int)) (.slice ao K.length cap);have HS : Hid (SlD W (fun b => b < W.heap.size) K ao cap) := lh hs;have HW := lh hw;have H0 := lh h0;have H1 := lh h1;have c := HF.out _ G.out;clear hw hs h0 h1
 show Calls Tryz.prog 60 #[.agg #[.int .i64 22, .int .i64 a, .string s, .int .i64 (-(N : Int)), .slice ao K.length cap], .int .i64 10] W _
 go_enter Tryz.func60, Tryz.ntmps60
 go_upto_region 1 with fail
 rw [← hV];clear hV;have HD := lh (wdig_any N H1.out);have e1 : decide (-(N : Int) < 0) = true := by have := H0.out; simp; omega
 have e2 : -(-(N : Int)) = N := by omega
 have e3 := dgW_le H1.out;have e4 : (N : Int) ≤ 1000000000 := by have := H1.out; omega
 have e5 : 0 < N := H0.out;go_wp2_with (go_at_call 113; refine (HD.out _).mono ?_; rintro e u ⟨rfl, hb⟩; replace G := lh (G.out.below hb); clear hb)
 go_ret
 exact ⟨rfl, G.out.b⟩
theorem b_tup {a q : Int} {s : ByteArray} {K : List Ty} {ws : List ByteArray} (h1 : MR s_com K ws) : CR 60 (some (.int .i64 10)) (.mk 5 a s q K) (rnd true ws) := by
 refine ⟨fun hw {W ao cap} hs => ?_⟩;obtain ⟨V, hV, G, HF⟩ := jN W 5 a s q (.slice ao K.length cap);have HS : Hid (SlD W (fun b => b < W.heap.size) K ao cap) := lh hs;have HW := lh hw;have H1 := lh h1;have c := HF.out _ G.out;clear hw hs h1
 show Calls Tryz.prog 60 #[.agg #[.int .i64 5, .int .i64 a, .string s, .int .i64 q, .slice ao K.length cap], .int .i64 10] W _
 go_enter Tryz.func60, Tryz.ntmps60
 go_upto_region 1 with fail
 rw [← hV];clear hV;go_wp2_with (first | (go_at_call 24; refine Rg.many G HW H1.out rfl HS.out ?_; intro u G) | (go_at_call 61; refine vH HW ?_))
 go_ret
 exact ⟨rfl, G.out.b⟩
theorem b_ptup {a q : Int} {s : ByteArray} {K : List Ty} {ws : List ByteArray} (h1 : MR s_com K ws) : CR 60 (some (.int .i64 10)) (.mk 25 a s q K) (rnd true ws) := by
 refine ⟨fun hw {W ao cap} hs => ?_⟩;obtain ⟨V, hV, G, HF⟩ := jN W 25 a s q (.slice ao K.length cap);have HS : Hid (SlD W (fun b => b < W.heap.size) K ao cap) := lh hs;have HW := lh hw;have H1 := lh h1;have c := HF.out _ G.out;clear hw hs h1
 show Calls Tryz.prog 60 #[.agg #[.int .i64 25, .int .i64 a, .string s, .int .i64 q, .slice ao K.length cap], .int .i64 10] W _
 go_enter Tryz.func60, Tryz.ntmps60
 go_upto_region 1 with fail
 rw [← hV];clear hV;go_wp2_with (first | (go_at_call 24; refine Rg.many G HW H1.out rfl HS.out ?_; intro u G) | (go_at_call 61; refine vH HW ?_))
 go_ret
 exact ⟨rfl, G.out.b⟩
theorem b_seq {a q : Int} {s : ByteArray} {K : List Ty} {ws : List ByteArray} (h1 : MR s_sem K ws) : CR 60 (some (.int .i64 10)) (.mk 15 a s q K) (rnd true ws) := by
 refine ⟨fun hw {W ao cap} hs => ?_⟩;obtain ⟨V, hV, G, HF⟩ := jN W 15 a s q (.slice ao K.length cap);have HS : Hid (SlD W (fun b => b < W.heap.size) K ao cap) := lh hs;have HW := lh hw;have H1 := lh h1;have c := HF.out _ G.out;clear hw hs h1
 show Calls Tryz.prog 60 #[.agg #[.int .i64 15, .int .i64 a, .string s, .int .i64 q, .slice ao K.length cap], .int .i64 10] W _
 go_enter Tryz.func60, Tryz.ntmps60
 go_upto_region 1 with fail
 rw [← hV];clear hV;go_wp2_with (first | (go_at_call 24; refine Rg.many G HW H1.out rfl HS.out ?_; intro u G) | (go_at_call 61; refine vH HW ?_))
 go_ret
 exact ⟨rfl, G.out.b⟩
theorem b_list {a q : Int} {s : ByteArray} {K : List Ty} {ws : List ByteArray} (h1 : MR s_com K ws) : CR 60 (some (.int .i64 10)) (.mk 6 a s q K) (s_lb :: (ws ++ [s_rb])) := by
 refine ⟨fun hw {W ao cap} hs => ?_⟩;obtain ⟨V, hV, G, HF⟩ := jN W 6 a s q (.slice ao K.length cap);have HS : Hid (SlD W (fun b => b < W.heap.size) K ao cap) := lh hs;have HW := lh hw;have H1 := lh h1;have c := HF.out _ G.out;clear hw hs h1
 show Calls Tryz.prog 60 #[.agg #[.int .i64 6, .int .i64 a, .string s, .int .i64 q, .slice ao K.length cap], .int .i64 10] W _
 go_enter Tryz.func60, Tryz.ntmps60
 go_upto_region 1 with fail
 rw [← hV];clear hV;go_wp2_with (first | (go_at_call 24; refine Rg.many G HW H1.out rfl HS.out ?_; intro u G) | (go_at_call 25; refine kl HW ?_))
 go_ret
 exact ⟨rfl, G.out.b⟩
theorem b_plist {a q : Int} {s : ByteArray} {K : List Ty} {ws : List ByteArray} (h1 : MR s_com K ws) : CR 60 (some (.int .i64 10)) (.mk 26 a s q K) (s_lb :: (ws ++ [s_rb])) := by
 refine ⟨fun hw {W ao cap} hs => ?_⟩;obtain ⟨V, hV, G, HF⟩ := jN W 26 a s q (.slice ao K.length cap);have HS : Hid (SlD W (fun b => b < W.heap.size) K ao cap) := lh hs;have HW := lh hw;have H1 := lh h1;have c := HF.out _ G.out;clear hw hs h1
 show Calls Tryz.prog 60 #[.agg #[.int .i64 26, .int .i64 a, .string s, .int .i64 q, .slice ao K.length cap], .int .i64 10] W _
 go_enter Tryz.func60, Tryz.ntmps60
 go_upto_region 1 with fail
 rw [← hV];clear hV;go_wp2_with (first | (go_at_call 24; refine Rg.many G HW H1.out rfl HS.out ?_; intro u G) | (go_at_call 25; refine kl HW ?_))
 go_ret
 exact ⟨rfl, G.out.b⟩
theorem b_has {a q : Int} {s : ByteArray} {x y : Ty} {xw yw : List ByteArray} (h1 : CR 26 (some (.int .i64 0)) x xw) (h2 : CR 26 (some (.int .i64 0)) y yw) : CR 60 (some (.int .i64 10)) (.mk 19 a s q [x, y]) (s_lp :: (xw ++ s_col :: (yw ++ [s_rp]))) := by
 refine ⟨fun hw {W ao cap} hs => ?_⟩;obtain ⟨V, hV, G, HF⟩ := jN W 19 a s q (.slice ao 2 cap);have HS : Hid (SlD W (fun b => b < W.heap.size) [x, y] ao cap) := lh hs;have HW := lh hw;have H1 := lh h1;have H2 := lh h2;have c := HF.out _ G.out;clear hw hs h1 h2
 show Calls Tryz.prog 60 #[.agg #[.int .i64 19, .int .i64 a, .string s, .int .i64 q, .slice ao 2 cap], .int .i64 10] W _
 have HB := lh (vx (r := []) (wd := s_col) H1.out H2.out);go_enter Tryz.func60, Tryz.ntmps60
 go_upto_region 1 with fail
 rw [← hV];clear hV;go_wp2_with (first | (go_at_call 116; refine Rg.betw G HW HB.out rfl HS.out ?_; intro u G) | (go_at_call 61; refine vH HW ?_))
 go_ret
 exact ⟨fin (by simp [rnd]), G.out.b⟩
theorem b_phas {a q : Int} {s : ByteArray} {x y : Ty} {xw yw : List ByteArray} (h1 : CR 26 (some (.int .i64 0)) x xw) (h2 : CR 26 (some (.int .i64 0)) y yw) : CR 60 (some (.int .i64 10)) (.mk 29 a s q [x, y]) (s_lp :: (xw ++ s_col :: (yw ++ [s_rp]))) := by
 refine ⟨fun hw {W ao cap} hs => ?_⟩;obtain ⟨V, hV, G, HF⟩ := jN W 29 a s q (.slice ao 2 cap);have HS : Hid (SlD W (fun b => b < W.heap.size) [x, y] ao cap) := lh hs;have HW := lh hw;have H1 := lh h1;have H2 := lh h2;have c := HF.out _ G.out;clear hw hs h1 h2
 show Calls Tryz.prog 60 #[.agg #[.int .i64 29, .int .i64 a, .string s, .int .i64 q, .slice ao 2 cap], .int .i64 10] W _
 have HB := lh (vx (r := []) (wd := s_col) H1.out H2.out);go_enter Tryz.func60, Tryz.ntmps60
 go_upto_region 1 with fail
 rw [← hV];clear hV;go_wp2_with (first | (go_at_call 116; refine Rg.betw G HW HB.out rfl HS.out ?_; intro u G) | (go_at_call 61; refine vH HW ?_))
 go_ret
 exact ⟨fin (by simp [rnd]), G.out.b⟩
theorem b_as {a q : Int} {s : ByteArray} {p : Ty} {pw : List ByteArray} (h1 : CR 26 (some (.int .i64 0)) p pw) : CR 60 (some (.int .i64 10)) (.mk 28 a s q [p]) (s_lp :: s :: w_as :: (pw ++ [s_rp])) := by
 refine ⟨fun hw {W ao cap} hs => ?_⟩;obtain ⟨V, hV, G, HF⟩ := jN W 28 a s q (.slice ao 1 cap);have HS : Hid (SlD W (fun b => b < W.heap.size) [p] ao cap) := lh hs;have HW := lh hw;have H1 := lh h1;have c := HF.out _ G.out;clear hw hs h1
 show Calls Tryz.prog 60 #[.agg #[.int .i64 28, .int .i64 a, .string s, .int .i64 q, .slice ao 1 cap], .int .i64 10] W _
 go_enter Tryz.func60, Tryz.ntmps60
 go_upto_region 1 with fail
 rw [← hV];clear hV;obtain ⟨b0, i0, ap0, cp0, HS1, hix0, HX0⟩ := G.out.kid HS.out 0 p rfl 1 rfl 0 rfl;go_upto_region 32 with fail
 replace G := lh G.out.drew;have HQ := lh (fun u g => And.intro (HF.out u g) (HX0.out u _ g));clear c;go_region_held3 (fun w9 => C5 w9 W.heap.size 28 a s q (.slice ao 1 cap) ∧ K5 w9 b0 i0 p.k p.n p.s p.q (.slice ap0 p.args.length cp0)) (first | exact HQ.out _ G.out) (first | (go_at_call 26; refine Rg.call G HW H1.out HS1.out ?_; intro u G) | (go_at_call 25; refine kl HW ?_) | (go_at_call 61; refine vH HW ?_))
 go_wp2_with fail
 go_ret
 exact ⟨fin (by simp [rnd]), G.out.b⟩
theorem b_or {a q : Int} {s : ByteArray} {x y : Ty} {xw yw : List ByteArray} (h1 : CR 26 (some (.int .i64 2)) x xw) (h2 : CR 26 (some (.int .i64 3)) y yw) : CR 60 (some (.int .i64 2)) (.mk 17 a s q [x, y]) (xw ++ w_orelse :: yw) := by
 refine ⟨fun hw {W ao cap} hs => ?_⟩;obtain ⟨V, hV, G, HF⟩ := jN W 17 a s q (.slice ao 2 cap);have HS : Hid (SlD W (fun b => b < W.heap.size) [x, y] ao cap) := lh hs;have HW := lh hw;have H1 := lh h1;have H2 := lh h2;have c := HF.out _ G.out;clear hw hs h1 h2
 show Calls Tryz.prog 60 #[.agg #[.int .i64 17, .int .i64 a, .string s, .int .i64 q, .slice ao 2 cap], .int .i64 2] W _
 have HB := lh (vx (r := []) (wd := w_orelse) H1.out H2.out);go_enter Tryz.func60, Tryz.ntmps60
 go_upto_region 1 with fail
 rw [← hV];clear hV;go_wp2_with (go_at_call 116; refine Rg.betw G HW HB.out rfl HS.out ?_; intro u G)
 go_ret
 exact ⟨fin (by simp [rnd]), G.out.b⟩
theorem b_and {a q : Int} {s : ByteArray} {x y : Ty} {xw yw : List ByteArray} (h1 : CR 26 (some (.int .i64 3)) x xw) (h2 : CR 26 (some (.int .i64 4)) y yw) : CR 60 (some (.int .i64 3)) (.mk 16 a s q [x, y]) (xw ++ w_andalso :: yw) := by
 refine ⟨fun hw {W ao cap} hs => ?_⟩;obtain ⟨V, hV, G, HF⟩ := jN W 16 a s q (.slice ao 2 cap);have HS : Hid (SlD W (fun b => b < W.heap.size) [x, y] ao cap) := lh hs;have HW := lh hw;have H1 := lh h1;have H2 := lh h2;have c := HF.out _ G.out;clear hw hs h1 h2
 show Calls Tryz.prog 60 #[.agg #[.int .i64 16, .int .i64 a, .string s, .int .i64 q, .slice ao 2 cap], .int .i64 3] W _
 have HB := lh (vx (r := []) (wd := w_andalso) H1.out H2.out);go_enter Tryz.func60, Tryz.ntmps60
 go_upto_region 1 with fail
 rw [← hV];clear hV;go_wp2_with (go_at_call 116; refine Rg.betw G HW HB.out rfl HS.out ?_; intro u G)
 go_ret
 exact ⟨fin (by simp [rnd]), G.out.b⟩
theorem b_app {a q : Int} {s : ByteArray} {x y : Ty} {xw yw : List ByteArray} (h1 : CR 26 (some (.int .i64 8)) x xw) (h2 : CR 26 (some (.int .i64 9)) y yw) : CR 60 (some (.int .i64 8)) (.mk 8 a s q [x, y]) (xw ++ yw) := by
 refine ⟨fun hw {W ao cap} hs => ?_⟩;obtain ⟨V, hV, G, HF⟩ := jN W 8 a s q (.slice ao 2 cap);have HS : Hid (SlD W (fun b => b < W.heap.size) [x, y] ao cap) := lh hs;have HW := lh hw;have H1 := lh h1;have H2 := lh h2;have c := HF.out _ G.out;clear hw hs h1 h2
 show Calls Tryz.prog 60 #[.agg #[.int .i64 8, .int .i64 a, .string s, .int .i64 q, .slice ao 2 cap], .int .i64 8] W _
 have HB := lh (vx (r := []) (wd := ⟨#[]⟩) H1.out H2.out);go_enter Tryz.func60, Tryz.ntmps60
 go_upto_region 1 with fail
 rw [← hV];clear hV;go_wp2_with (go_at_call 116; refine Rg.betw G HW HB.out rfl HS.out ?_; intro u G)
 go_ret
 exact ⟨fin (by simp [rnd]), G.out.b⟩
theorem b_cons {a q : Int} {s : ByteArray} {x y : Ty} {xw yw : List ByteArray} (h1 : CR 26 (some (.int .i64 1)) x xw) (h2 : CR 26 (some (.int .i64 0)) y yw) : CR 60 (some (.int .i64 0)) (.mk 27 a s q [x, y]) (xw ++ s_cons :: yw) := by
 refine ⟨fun hw {W ao cap} hs => ?_⟩;obtain ⟨V, hV, G, HF⟩ := jN W 27 a s q (.slice ao 2 cap);have HS : Hid (SlD W (fun b => b < W.heap.size) [x, y] ao cap) := lh hs;have HW := lh hw;have H1 := lh h1;have H2 := lh h2;have c := HF.out _ G.out;clear hw hs h1 h2
 show Calls Tryz.prog 60 #[.agg #[.int .i64 27, .int .i64 a, .string s, .int .i64 q, .slice ao 2 cap], .int .i64 0] W _
 have HB := lh (vx (r := []) (wd := s_cons) H1.out H2.out);go_enter Tryz.func60, Tryz.ntmps60
 go_upto_region 1 with fail
 rw [← hV];clear hV;go_wp2_with (go_at_call 116; refine Rg.betw G HW HB.out rfl HS.out ?_; intro u G)
 go_ret
 exact ⟨fin (by simp [rnd]), G.out.b⟩
theorem b_arr {a q : Int} {s : ByteArray} {x y : Ty} {xw yw : List ByteArray} (h1 : CR 26 (some (.int .i64 1)) x xw) (h2 : CR 26 (some (.int .i64 0)) y yw) : CR 60 (some (.int .i64 0)) (.mk 33 a s q [x, y]) (xw ++ s_to :: yw) := by
 refine ⟨fun hw {W ao cap} hs => ?_⟩;obtain ⟨V, hV, G, HF⟩ := jN W 33 a s q (.slice ao 2 cap);have HS : Hid (SlD W (fun b => b < W.heap.size) [x, y] ao cap) := lh hs;have HW := lh hw;have H1 := lh h1;have H2 := lh h2;have c := HF.out _ G.out;clear hw hs h1 h2
 show Calls Tryz.prog 60 #[.agg #[.int .i64 33, .int .i64 a, .string s, .int .i64 q, .slice ao 2 cap], .int .i64 0] W _
 have HB := lh (vx (r := []) (wd := s_to) H1.out H2.out);go_enter Tryz.func60, Tryz.ntmps60
 go_upto_region 1 with fail
 rw [← hV];clear hV;go_wp2_with (go_at_call 116; refine Rg.betw G HW HB.out rfl HS.out ?_; intro u G)
 go_ret
 exact ⟨fin (by simp [rnd]), G.out.b⟩
theorem b_fn {a q : Int} {s : ByteArray} {x y : Ty} {xw yw : List ByteArray} (h1 : CR 26 (some (.int .i64 2)) x xw) (h2 : CR 26 (some (.int .i64 0)) y yw) : CR 60 (some (.int .i64 0)) (.mk 7 a s q [x, y]) (w_fn :: (xw ++ s_arr :: yw)) := by
 refine ⟨fun hw {W ao cap} hs => ?_⟩;obtain ⟨V, hV, G, HF⟩ := jN W 7 a s q (.slice ao 2 cap);have HS : Hid (SlD W (fun b => b < W.heap.size) [x, y] ao cap) := lh hs;have HW := lh hw;have H1 := lh h1;have H2 := lh h2;have c := HF.out _ G.out;clear hw hs h1 h2
 show Calls Tryz.prog 60 #[.agg #[.int .i64 7, .int .i64 a, .string s, .int .i64 q, .slice ao 2 cap], .int .i64 0] W _
 have HB := lh (vx (r := []) (wd := s_arr) H1.out H2.out);go_enter Tryz.func60, Tryz.ntmps60
 go_upto_region 1 with fail
 rw [← hV];clear hV;go_wp2_with (first | (go_at_call 116; refine Rg.betw G HW HB.out rfl HS.out ?_; intro u G) | (go_at_call 25; refine kl HW ?_))
 go_ret
 exact ⟨fin (by simp [rnd]), G.out.b⟩
theorem w_op1 {a q : Int} {s : ByteArray} {x y : Ty} {xw yw : List ByteArray} (h1 : CR 26 (some (.int .i64 2)) x xw) (h2 : CR 26 (some (.int .i64 2)) y yw) : CR 117 (some (.int .i64 1)) (.mk 18 a s q [x, y]) (xw ++ s :: yw) := by
 refine ⟨fun hw {W ao cap} hs => ?_⟩;obtain ⟨V, hV, G, HF⟩ := jN W 18 a s q (.slice ao 2 cap);have HS : Hid (SlD W (fun b => b < W.heap.size) [x, y] ao cap) := lh hs;have HW := lh hw;have H1 := lh h1;have H2 := lh h2;have c := HF.out _ G.out;clear hw hs h1 h2
 show Calls Tryz.prog 117 #[.agg #[.int .i64 18, .int .i64 a, .string s, .int .i64 q, .slice ao 2 cap], .int .i64 1] W _
 have HB : Hid (BR s 2 2 [x, y] (xw ++ ([s] ++ yw))) := lh (vx H1.out H2.out);go_enter Tryz.func117, Tryz.ntmps117
 go_upto_region 1 with fail
 rw [← hV];clear hV;go_wp2_with (go_at_call 116; refine Rg.betw G HW HB.out rfl HS.out ?_; intro u G)
 go_ret
 exact ⟨fin (by simp [rnd]), G.out.b⟩
theorem w_op4 {a q : Int} {s : ByteArray} {x y : Ty} {xw yw : List ByteArray} (h1 : CR 26 (some (.int .i64 5)) x xw) (h2 : CR 26 (some (.int .i64 5)) y yw) : CR 117 (some (.int .i64 4)) (.mk 18 a s q [x, y]) (xw ++ s :: yw) := by
 refine ⟨fun hw {W ao cap} hs => ?_⟩;obtain ⟨V, hV, G, HF⟩ := jN W 18 a s q (.slice ao 2 cap);have HS : Hid (SlD W (fun b => b < W.heap.size) [x, y] ao cap) := lh hs;have HW := lh hw;have H1 := lh h1;have H2 := lh h2;have c := HF.out _ G.out;clear hw hs h1 h2
 show Calls Tryz.prog 117 #[.agg #[.int .i64 18, .int .i64 a, .string s, .int .i64 q, .slice ao 2 cap], .int .i64 4] W _
 have HB : Hid (BR s 5 5 [x, y] (xw ++ ([s] ++ yw))) := lh (vx H1.out H2.out);go_enter Tryz.func117, Tryz.ntmps117
 go_upto_region 1 with fail
 rw [← hV];clear hV;go_wp2_with (go_at_call 116; refine Rg.betw G HW HB.out rfl HS.out ?_; intro u G)
 go_ret
 exact ⟨fin (by simp [rnd]), G.out.b⟩
theorem w_op5 {a q : Int} {s : ByteArray} {x y : Ty} {xw yw : List ByteArray} (h1 : CR 26 (some (.int .i64 6)) x xw) (h2 : CR 26 (some (.int .i64 5)) y yw) : CR 117 (some (.int .i64 5)) (.mk 18 a s q [x, y]) (xw ++ s :: yw) := by
 refine ⟨fun hw {W ao cap} hs => ?_⟩;obtain ⟨V, hV, G, HF⟩ := jN W 18 a s q (.slice ao 2 cap);have HS : Hid (SlD W (fun b => b < W.heap.size) [x, y] ao cap) := lh hs;have HW := lh hw;have H1 := lh h1;have H2 := lh h2;have c := HF.out _ G.out;clear hw hs h1 h2
 show Calls Tryz.prog 117 #[.agg #[.int .i64 18, .int .i64 a, .string s, .int .i64 q, .slice ao 2 cap], .int .i64 5] W _
 have HB : Hid (BR s 6 5 [x, y] (xw ++ ([s] ++ yw))) := lh (vx H1.out H2.out);go_enter Tryz.func117, Tryz.ntmps117
 go_upto_region 1 with fail
 rw [← hV];clear hV;go_wp2_with (go_at_call 116; refine Rg.betw G HW HB.out rfl HS.out ?_; intro u G)
 go_ret
 exact ⟨fin (by simp [rnd]), G.out.b⟩
theorem w_op6 {a q : Int} {s : ByteArray} {x y : Ty} {xw yw : List ByteArray} (h1 : CR 26 (some (.int .i64 6)) x xw) (h2 : CR 26 (some (.int .i64 7)) y yw) : CR 117 (some (.int .i64 6)) (.mk 18 a s q [x, y]) (xw ++ s :: yw) := by
 refine ⟨fun hw {W ao cap} hs => ?_⟩;obtain ⟨V, hV, G, HF⟩ := jN W 18 a s q (.slice ao 2 cap);have HS : Hid (SlD W (fun b => b < W.heap.size) [x, y] ao cap) := lh hs;have HW := lh hw;have H1 := lh h1;have H2 := lh h2;have c := HF.out _ G.out;clear hw hs h1 h2
 show Calls Tryz.prog 117 #[.agg #[.int .i64 18, .int .i64 a, .string s, .int .i64 q, .slice ao 2 cap], .int .i64 6] W _
 have HB : Hid (BR s 6 7 [x, y] (xw ++ ([s] ++ yw))) := lh (vx H1.out H2.out);go_enter Tryz.func117, Tryz.ntmps117
 go_upto_region 1 with fail
 rw [← hV];clear hV;go_wp2_with (go_at_call 116; refine Rg.betw G HW HB.out rfl HS.out ?_; intro u G)
 go_ret
 exact ⟨fin (by simp [rnd]), G.out.b⟩
theorem w_op7 {a q : Int} {s : ByteArray} {x y : Ty} {xw yw : List ByteArray} (h1 : CR 26 (some (.int .i64 7)) x xw) (h2 : CR 26 (some (.int .i64 8)) y yw) : CR 117 (some (.int .i64 7)) (.mk 18 a s q [x, y]) (xw ++ s :: yw) := by
 refine ⟨fun hw {W ao cap} hs => ?_⟩;obtain ⟨V, hV, G, HF⟩ := jN W 18 a s q (.slice ao 2 cap);have HS : Hid (SlD W (fun b => b < W.heap.size) [x, y] ao cap) := lh hs;have HW := lh hw;have H1 := lh h1;have H2 := lh h2;have c := HF.out _ G.out;clear hw hs h1 h2
 show Calls Tryz.prog 117 #[.agg #[.int .i64 18, .int .i64 a, .string s, .int .i64 q, .slice ao 2 cap], .int .i64 7] W _
 have HB : Hid (BR s 7 8 [x, y] (xw ++ ([s] ++ yw))) := lh (vx H1.out H2.out);go_enter Tryz.func117, Tryz.ntmps117
 go_upto_region 1 with fail
 rw [← hV];clear hV;go_wp2_with (go_at_call 116; refine Rg.betw G HW HB.out rfl HS.out ?_; intro u G)
 go_ret
 exact ⟨fin (by simp [rnd]), G.out.b⟩
theorem w_un {a q : Int} {s : ByteArray} {x : Ty} {xw : List ByteArray} (h1 : CR 26 (some (.int .i64 9)) x xw) : CR 117 (some (.int .i64 9)) (.mk 18 a s q [x]) (s :: xw) := by
 refine ⟨fun hw {W ao cap} hs => ?_⟩;obtain ⟨V, hV, G, HF⟩ := jN W 18 a s q (.slice ao 1 cap);have HS : Hid (SlD W (fun b => b < W.heap.size) [x] ao cap) := lh hs;have HW := lh hw;have H1 := lh h1;have c := HF.out _ G.out;clear hw hs h1
 show Calls Tryz.prog 117 #[.agg #[.int .i64 18, .int .i64 a, .string s, .int .i64 q, .slice ao 1 cap], .int .i64 9] W _
 go_enter Tryz.func117, Tryz.ntmps117
 go_upto_region 1 with fail
 rw [← hV];clear hV;obtain ⟨b0, i0, ap0, cp0, HS1, hix0, HX0⟩ := G.out.kid HS.out 0 x rfl 1 rfl 0 rfl;have c := HF.out _ G.out;have x0 := HX0.out _ _ G.out;go_upto_region 4 with (go_at_call 26; refine Rg.call G HW H1.out HS1.out ?_; intro u G)
 have c := HF.out _ G.out;have x0 := HX0.out _ _ G.out;go_wp2_with (go_at_call 25; refine kl HW ?_)
 go_ret
 exact ⟨fin (by simp [rnd]), G.out.b⟩
theorem b_op {a q : Int} {s : ByteArray} {K : List Ty} {X : Int} {ws : List ByteArray} (h1 : CR 117 (some (.int .i64 X)) (.mk 18 a s q K) ws) : CR 60 (some (.int .i64 X)) (.mk 18 a s q K) ws := by
 refine ⟨fun hw {W ao cap} hs => ?_⟩;obtain ⟨V, hV, G, HF⟩ := jN W 18 a s q (.slice ao K.length cap);have HS : Hid (SlD W (fun b => b < W.heap.size) K ao cap) := lh hs;have HW := lh hw;have H1 := lh h1;have c := HF.out _ G.out;clear hw hs h1
 show Calls Tryz.prog 60 #[.agg #[.int .i64 18, .int .i64 a, .string s, .int .i64 q, .slice ao K.length cap], .int .i64 X] W _
 go_enter Tryz.func60, Tryz.ntmps60
 go_upto_region 1 with fail
 rw [← hV];clear hV;go_wp2_with (go_at_call 117; refine Rg.call G HW H1.out (n := .mk 18 a s q K) HS.out ?_ (pt_refl _); intro u G)
 go_ret
 exact ⟨rfl, G.out.b⟩
theorem b_if {a q : Int} {s : ByteArray} {x y z : Ty} {xw yw zw : List ByteArray} (h1 : CR 26 (some (.int .i64 0)) x xw) (h2 : CR 26 (some (.int .i64 0)) y yw) (h3 : CR 26 (some (.int .i64 0)) z zw) : CR 60 (some (.int .i64 0)) (.mk 9 a s q [x, y, z]) (w_if :: (xw ++ w_then :: (yw ++ w_else :: zw))) := by
 refine ⟨fun hw {W ao cap} hs => ?_⟩;obtain ⟨V, hV, G, HF⟩ := jN W 9 a s q (.slice ao 3 cap);have HS : Hid (SlD W (fun b => b < W.heap.size) [x, y, z] ao cap) := lh hs;have HW := lh hw;have H1 := lh h1;have H2 := lh h2;have H3 := lh h3;have c := HF.out _ G.out;clear hw hs h1 h2 h3
 show Calls Tryz.prog 60 #[.agg #[.int .i64 9, .int .i64 a, .string s, .int .i64 q, .slice ao 3 cap], .int .i64 0] W _
 have HB := lh (vx (r := [z]) (wd := w_then) H1.out H2.out);go_enter Tryz.func60, Tryz.ntmps60
 go_upto_region 1 with fail
 rw [← hV];clear hV;obtain ⟨b0, i0, ap0, cp0, HS1, hix0, HX0⟩ := G.out.kid HS.out 2 z rfl 3 rfl 2 rfl;go_upto_region 44 with fail
 replace G := lh G.out.drew;have HQ := lh (fun u g => And.intro (HF.out u g) (HX0.out u _ g));clear c;go_region_held3 (fun w9 => C5 w9 W.heap.size 9 a s q (.slice ao 3 cap) ∧ K5 w9 b0 i0 z.k z.n z.s z.q (.slice ap0 z.args.length cp0)) (first | exact HQ.out _ G.out) (first | (go_at_call 26; refine Rg.call G HW H3.out HS1.out ?_; intro u G) | (go_at_call 116; refine Rg.betw G HW HB.out rfl HS.out ?_; intro u G) | (go_at_call 25; refine kl HW ?_))
 go_wp2_with fail
 go_ret
 exact ⟨fin (by simp [rnd]), G.out.b⟩
theorem b_raise {a q : Int} {s : ByteArray} {x : Ty} {xw : List ByteArray} (h1 : CR 26 (some (.int .i64 0)) x xw) : CR 60 (some (.int .i64 0)) (.mk 13 a s q [x]) (w_raise :: xw) := by
 refine ⟨fun hw {W ao cap} hs => ?_⟩;obtain ⟨V, hV, G, HF⟩ := jN W 13 a s q (.slice ao 1 cap);have HS : Hid (SlD W (fun b => b < W.heap.size) [x] ao cap) := lh hs;have HW := lh hw;have H1 := lh h1;have c := HF.out _ G.out;clear hw hs h1
 show Calls Tryz.prog 60 #[.agg #[.int .i64 13, .int .i64 a, .string s, .int .i64 q, .slice ao 1 cap], .int .i64 0] W _
 go_enter Tryz.func60, Tryz.ntmps60
 go_upto_region 1 with fail
 rw [← hV];clear hV;obtain ⟨b0, i0, ap0, cp0, HS1, hix0, HX0⟩ := G.out.kid HS.out 0 x rfl 1 rfl 0 rfl;have c := HF.out _ G.out;have x0 := HX0.out _ _ G.out;go_wp2_with (first | (go_at_call 26; refine Rg.call G HW H1.out HS1.out ?_; intro u G) | (go_at_call 25; refine kl HW ?_))
 go_ret
 exact ⟨fin (by simp [rnd]), G.out.b⟩
theorem b_let {a : Int} {s : ByteArray} {K : List Ty} {e : Ty} {lw ew : List ByteArray} (h1 : MR ⟨#[]⟩ K lw) (h2 : CR 26 (some (.int .i64 0)) e ew) : CR 60 (some (.int .i64 10)) (.mk 14 a s K.length (K ++ [e])) (w_let :: (lw ++ w_in :: (ew ++ [w_end]))) := by
 refine ⟨fun hw {W ao cap} hs => ?_⟩;obtain ⟨V, hV, G, HF⟩ := jN W 14 a s K.length (.slice ao (K.length + 1) cap);have HS : Hid (SlD W (fun b => b < W.heap.size) (K ++ [e]) ao cap) := lh hs;have HW := lh hw;have H1 := lh h1;have H2 := lh h2;have c := HF.out _ G.out;clear hw hs h1 h2
 show Calls Tryz.prog 60 #[.agg #[.int .i64 14, .int .i64 a, .string s, .int .i64 K.length, .slice ao (K ++ [e]).length cap], .int .i64 10] W _
 rw [show (K ++ [e]).length = (K.length + 1) from by simp];go_enter Tryz.func60, Tryz.ntmps60
 go_upto_region 1 with fail
 rw [← hV];clear hV;have HT : Hid (SlD W (fun b => b < W.heap.size) K ao cap) := lh (by have h9 := HS.out.take K.length; rwa [List.take_left'] at h9; rfl);have hcap := lh HT.out.1;have s1 : ∀ w' : World, (Instr.slice 24 (.slice ao (K.length + 1) cap) none (some (.int .i64 (K.length : Int))) none).run Tryz.prog w' = .ok (.slice ao K.length cap) w' := fun w' => kW ao _ cap K.length hcap.out _ rfl w'
 obtain ⟨b0, i0, ap0, cp0, HS1, hix0, HX0⟩ := G.out.kid HS.out K.length e (by simp) (K.length + 1) (by simp) K.length rfl;go_upto_region 48 with fail
 replace G := lh G.out.drew;have HQ := lh (fun u g => And.intro (HF.out u g) (HX0.out u _ g));clear c;go_region_held3 (fun w9 => C5 w9 W.heap.size 14 a s K.length (.slice ao (K.length + 1) cap) ∧ K5 w9 b0 i0 e.k e.n e.s e.q (.slice ap0 e.args.length cp0)) (first | exact HQ.out _ G.out) (first | (go_at_call 26; refine Rg.call G HW H2.out HS1.out ?_; intro u G) | (go_at_call 24; refine Rg.many G HW H1.out rfl HT.out ?_; intro u G) | (go_at_call 25; refine kl HW ?_))
 go_wp2_with fail
 go_ret
 exact ⟨fin (by simp [rnd]), G.out.b⟩
theorem b_case {a q : Int} {s : ByteArray} {e : Ty} {K : List Ty} {ew kw : List ByteArray} (h1 : CR 26 (some (.int .i64 0)) e ew) (h2 : MR s_bar K kw) : CR 60 (some (.int .i64 10)) (.mk 10 a s q (e :: K)) (w_case :: (ew ++ w_of :: (kw ++ [w_end]))) := by
 refine ⟨fun hw {W ao cap} hs => ?_⟩;obtain ⟨V, hV, G, HF⟩ := jN W 10 a s q (.slice ao (K.length + 1) cap);have HS : Hid (SlD W (fun b => b < W.heap.size) (e :: K) ao cap) := lh hs;have HW := lh hw;have H1 := lh h1;have H2 := lh h2;have c := HF.out _ G.out;clear hw hs h1 h2
 show Calls Tryz.prog 60 #[.agg #[.int .i64 10, .int .i64 a, .string s, .int .i64 q, .slice ao (K.length + 1) cap], .int .i64 10] W _
 go_enter Tryz.func60, Tryz.ntmps60
 go_upto_region 1 with fail
 rw [← hV];clear hV;have HT : Hid (SlD W (fun b => b < W.heap.size) K (qq ao cap 1) (cap - 1)) := lh (HS.out.drop 1);have s1 : ∀ w' : World, (Instr.slice 24 (.slice ao (K.length + 1) cap) (some (.int .i64 1)) none none).run Tryz.prog w' = .ok (.slice (qq ao cap 1) K.length (cap - 1)) w' := fun w' => kv ao (K.length + 1) cap 1 (by omega) _ rfl w'
 obtain ⟨b0, i0, ap0, cp0, HS1, hix0, HX0⟩ := G.out.kid HS.out 0 e rfl (K.length + 1) rfl 0 rfl;go_upto_region 50 with fail
 replace G := lh G.out.drew;have HQ := lh (fun u g => And.intro (HF.out u g) (HX0.out u _ g));clear c;go_region_held3 (fun w9 => C5 w9 W.heap.size 10 a s q (.slice ao (K.length + 1) cap) ∧ K5 w9 b0 i0 e.k e.n e.s e.q (.slice ap0 e.args.length cp0)) (first | exact HQ.out _ G.out) (first | (go_at_call 26; refine Rg.call G HW H1.out HS1.out ?_; intro u G) | (go_at_call 24; refine Rg.many G HW H2.out rfl HT.out ?_; intro u G) | (go_at_call 25; refine kl HW ?_))
 go_wp2_with fail
 go_ret
 exact ⟨fin (by simp [rnd]), G.out.b⟩
theorem b_try {a q : Int} {s : ByteArray} {e : Ty} {K : List Ty} {ew kw : List ByteArray} (h1 : CR 26 (some (.int .i64 0)) e ew) (h2 : MR s_bar K kw) : CR 60 (some (.int .i64 10)) (.mk 11 a s q (e :: K)) (w_try :: (ew ++ w_with :: (kw ++ [w_end]))) := by
 refine ⟨fun hw {W ao cap} hs => ?_⟩;obtain ⟨V, hV, G, HF⟩ := jN W 11 a s q (.slice ao (K.length + 1) cap);have HS : Hid (SlD W (fun b => b < W.heap.size) (e :: K) ao cap) := lh hs;have HW := lh hw;have H1 := lh h1;have H2 := lh h2;have c := HF.out _ G.out;clear hw hs h1 h2
 show Calls Tryz.prog 60 #[.agg #[.int .i64 11, .int .i64 a, .string s, .int .i64 q, .slice ao (K.length + 1) cap], .int .i64 10] W _
 go_enter Tryz.func60, Tryz.ntmps60
 go_upto_region 1 with fail
 rw [← hV];clear hV;have HT : Hid (SlD W (fun b => b < W.heap.size) K (qq ao cap 1) (cap - 1)) := lh (HS.out.drop 1);have s1 : ∀ w' : World, (Instr.slice 24 (.slice ao (K.length + 1) cap) (some (.int .i64 1)) none none).run Tryz.prog w' = .ok (.slice (qq ao cap 1) K.length (cap - 1)) w' := fun w' => kv ao (K.length + 1) cap 1 (by omega) _ rfl w'
 obtain ⟨b0, i0, ap0, cp0, HS1, hix0, HX0⟩ := G.out.kid HS.out 0 e rfl (K.length + 1) rfl 0 rfl;go_upto_region 52 with fail
 replace G := lh G.out.drew;have HQ := lh (fun u g => And.intro (HF.out u g) (HX0.out u _ g));clear c;go_region_held3 (fun w9 => C5 w9 W.heap.size 11 a s q (.slice ao (K.length + 1) cap) ∧ K5 w9 b0 i0 e.k e.n e.s e.q (.slice ap0 e.args.length cp0)) (first | exact HQ.out _ G.out) (first | (go_at_call 26; refine Rg.call G HW H1.out HS1.out ?_; intro u G) | (go_at_call 24; refine Rg.many G HW H2.out rfl HT.out ?_; intro u G) | (go_at_call 25; refine kl HW ?_))
 go_wp2_with fail
 go_ret
 exact ⟨fin (by simp [rnd]), G.out.b⟩
theorem b_con {a q : Int} {s : ByteArray} {ws : List ByteArray} (hp : Wz ws → PathR s ws) : CR 60 (some (.int .i64 10)) (.mk 24 a s q []) ws := by
 refine ⟨fun hw {W ao cap} hs => ?_⟩;obtain ⟨V, hV, G, HF⟩ := jN W 24 a s q (.slice ao 0 cap);have HS : Hid (SlD W (fun b => b < W.heap.size) [] ao cap) := lh hs;have HW := lh hw;have HP := lh hp;have c := HF.out _ G.out;clear hw hs hp
 show Calls Tryz.prog 60 #[.agg #[.int .i64 24, .int .i64 a, .string s, .int .i64 q, .slice ao 0 cap], .int .i64 10] W _
 go_enter Tryz.func60, Tryz.ntmps60
 go_upto_region 1 with fail
 rw [← hV];clear hV;go_wp2_with (go_at_call 115; refine yi HW HP.out ?_)
 go_ret
 exact ⟨rfl, G.out.b⟩
theorem b_arg {a q : Int} {s : ByteArray} {x : Ty} {ws xw : List ByteArray} (hp : Wz ws → PathR s ws) (h1 : CR 26 (some (.int .i64 2)) x xw) : CR 60 (some (.int .i64 1)) (.mk 24 a s q [x]) (ws ++ xw) := by
 refine ⟨fun hw {W ao cap} hs => ?_⟩;obtain ⟨V, hV, G, HF⟩ := jN W 24 a s q (.slice ao 1 cap);have HS : Hid (SlD W (fun b => b < W.heap.size) [x] ao cap) := lh hs;have HW := lh hw;have HP := lh hp;have H1 := lh h1;have c := HF.out _ G.out;clear hw hs hp h1
 show Calls Tryz.prog 60 #[.agg #[.int .i64 24, .int .i64 a, .string s, .int .i64 q, .slice ao 1 cap], .int .i64 1] W _
 go_enter Tryz.func60, Tryz.ntmps60
 go_upto_region 1 with fail
 rw [← hV];clear hV;obtain ⟨b0, i0, ap0, cp0, HS1, hix0, HX0⟩ := G.out.kid HS.out 0 x rfl 1 rfl 0 rfl;go_upto_region 55 with fail
 replace G := lh G.out.drew;have HQ := lh (fun u g => And.intro (HF.out u g) (HX0.out u _ g));clear c;go_region_held3 (fun w9 => C5 w9 W.heap.size 24 a s q (.slice ao 1 cap) ∧ K5 w9 b0 i0 x.k x.n x.s x.q (.slice ap0 x.args.length cp0)) (first | exact HQ.out _ G.out) (first | (go_at_call 26; refine Rg.call G HW H1.out HS1.out ?_; intro u G) | (go_at_call 115; refine yi HW HP.out ?_) | (go_at_call 25; refine kl HW ?_))
 go_wp2_with fail
 go_ret
 exact ⟨fin (by simp [rnd]), G.out.b⟩
theorem n_0 {k a q : Int} {s : ByteArray} {ws : List ByteArray} (hp : Wz ws → PathR s ws) : CR 118 none (.mk k a s q []) ws := by
 refine ⟨fun hw {W ao cap} hs => ?_⟩;obtain ⟨V, hV, G, HF⟩ := jN W k a s q (.slice ao 0 cap);have HS : Hid (SlD W (fun b => b < W.heap.size) [] ao cap) := lh hs;have HW := lh hw;have HP := lh hp;have c := HF.out _ G.out;clear hw hs hp
 show Calls Tryz.prog 118 #[.agg #[.int .i64 k, .int .i64 a, .string s, .int .i64 q, .slice ao 0 cap]] W _
 go_enter Tryz.func118, Tryz.ntmps118
 go_upto_region 1 with fail
 rw [← hV];clear hV;go_wp2_with (go_at_call 115; refine yi HW HP.out ?_)
 go_ret
 exact ⟨rfl, G.out.b⟩
theorem n_1 {k a q : Int} {s : ByteArray} {x : Ty} {ws xw : List ByteArray} (hp : Wz ws → PathR s ws) (h1 : CR 26 (some (.int .i64 2)) x xw) : CR 118 none (.mk k a s q [x]) (xw ++ ws) := by
 refine ⟨fun hw {W ao cap} hs => ?_⟩;obtain ⟨V, hV, G, HF⟩ := jN W k a s q (.slice ao 1 cap);have HS : Hid (SlD W (fun b => b < W.heap.size) [x] ao cap) := lh hs;have HW := lh hw;have HP := lh hp;have H1 := lh h1;have c := HF.out _ G.out;clear hw hs hp h1
 show Calls Tryz.prog 118 #[.agg #[.int .i64 k, .int .i64 a, .string s, .int .i64 q, .slice ao 1 cap]] W _
 go_enter Tryz.func118, Tryz.ntmps118
 go_upto_region 1 with fail
 rw [← hV];clear hV;obtain ⟨b0, i0, ap0, cp0, HS1, hix0, HX0⟩ := G.out.kid HS.out 0 x rfl 1 rfl 0 rfl;go_upto_region 5 with fail
 replace G := lh G.out.drew;have HQ := lh (fun u g => And.intro (HF.out u g) (HX0.out u _ g));clear c;go_region_held3 (fun w9 => C5 w9 W.heap.size k a s q (.slice ao 1 cap) ∧ K5 w9 b0 i0 x.k x.n x.s x.q (.slice ap0 x.args.length cp0)) (first | exact HQ.out _ G.out) (first | (go_at_call 26; refine Rg.call G HW H1.out HS1.out ?_; intro u G) | (go_at_call 115; refine yi HW HP.out ?_) | (go_at_call 25; refine kl HW ?_))
 go_wp2_with fail
 go_ret
 exact ⟨fin (by simp [rnd]), G.out.b⟩
theorem n_2 {k a q : Int} {s : ByteArray} {x y : Ty} {l : List Ty} {ws xw : List ByteArray} (hp : Wz ws → PathR s ws) (h1 : MR s_com (x :: y :: l) xw) : CR 118 none (.mk k a s q (x :: y :: l)) (s_lp :: (xw ++ s_rp :: ws)) := by
 refine ⟨fun hw {W ao cap} hs => ?_⟩;obtain ⟨V, hV, G, HF⟩ := jN W k a s q (.slice ao (l.length + 2) cap);have HS : Hid (SlD W (fun b => b < W.heap.size) (x :: y :: l) ao cap) := lh hs;have HW := lh hw;have HP := lh hp;have H1 := lh h1;have c := HF.out _ G.out;clear hw hs hp h1
 show Calls Tryz.prog 118 #[.agg #[.int .i64 k, .int .i64 a, .string s, .int .i64 q, .slice ao (l.length + 2) cap]] W _
 have e0 : (((l.length + 2 : Nat) : Int) == 0) = false := by simp; omega
 have e1 : (((l.length + 2 : Nat) : Int) == 1) = false := by simp; omega
 go_enter Tryz.func118, Tryz.ntmps118
 go_upto_region 1 with fail
 rw [← hV];clear hV;go_upto_region 6 with fail
 replace G := lh G.out.drew;have HQ := lh (fun u g => HF.out u g);clear c;go_region_held3 (fun w9 => C5 w9 W.heap.size k a s q (.slice ao (l.length + 2) cap)) (first | exact HQ.out _ G.out) (first | (go_at_call 24; refine Rg.many G HW H1.out rfl HS.out ?_; intro u G) | (go_at_call 61; refine vH HW ?_) | (go_at_call 115; refine yi HW HP.out ?_) | (go_at_call 25; refine kl HW ?_))
 go_wp2_with fail
 go_ret
 exact ⟨fin (by simp [rnd]), G.out.b⟩
theorem b_ycon {a q : Int} {s : ByteArray} {K : List Ty} {ws : List ByteArray} (h1 : CR 118 none (.mk 31 a s q K) ws) : CR 60 (some (.int .i64 10)) (.mk 31 a s q K) ws := by
 refine ⟨fun hw {W ao cap} hs => ?_⟩;obtain ⟨V, hV, G, HF⟩ := jN W 31 a s q (.slice ao K.length cap);have HS : Hid (SlD W (fun b => b < W.heap.size) K ao cap) := lh hs;have HW := lh hw;have H1 := lh h1;have c := HF.out _ G.out;clear hw hs h1
 show Calls Tryz.prog 60 #[.agg #[.int .i64 31, .int .i64 a, .string s, .int .i64 q, .slice ao K.length cap], .int .i64 10] W _
 go_enter Tryz.func60, Tryz.ntmps60
 go_upto_region 1 with fail
 rw [← hV];clear hV;go_wp2_with (go_at_call 118; refine Rg.call G HW H1.out (n := .mk 31 a s q K) HS.out ?_ (pt_refl _); intro u G)
 go_ret
 exact ⟨rfl, G.out.b⟩
theorem k34 {k : Int} (h : 34 ≤ k) (h2 : k ≠ 46) (h3 : k ≠ 48) : (k == 1) = false ∧ (k == 2) = false ∧ (k == 23) = false ∧ (k == 3) = false ∧ (k == 4) = false ∧ (k == 21) = false ∧ (k == 30) = false ∧ (k == 46) = false ∧ (k == 48) = false ∧ (k == 20) = false ∧ (k == 22) = false ∧ (k == 5) = false ∧ (k == 25) = false ∧ (k == 15) = false ∧ (k == 6) = false ∧ (k == 26) = false ∧ (k == 19) = false ∧ (k == 29) = false ∧ (k == 28) = false ∧ (k == 18) = false ∧ (k == 17) = false ∧ (k == 16) = false ∧ (k == 8) = false ∧ (k == 7) = false ∧ (k == 9) = false ∧ (k == 13) = false ∧ (k == 14) = false ∧ (k == 10) = false ∧ (k == 11) = false ∧ (k == 24) = false ∧ (k == 27) = false ∧ (k == 33) = false ∧ (k == 32) = false ∧ (k == 31) = false := by
 refine ⟨?_, ?_, ?_, ?_, ?_, ?_, ?_, ?_, ?_, ?_, ?_, ?_, ?_, ?_, ?_, ?_, ?_, ?_, ?_, ?_, ?_, ?_, ?_, ?_, ?_, ?_, ?_, ?_, ?_, ?_, ?_, ?_, ?_, ?_⟩ <;> simp <;> omega
theorem Rg.callc {w0 W : World} {bs : List Bx} {ts ws : List ByteArray} {f : Nat} {k a q : Int} {s : ByteArray} {K : List Ty} (h : Hid (Rg w0 W bs)) (HW : Hid (Wz ts)) (hc : CR f none (.mk k a s q K) ws) {ao : Option Addr} {c cap : Nat} (hl : K.length = c) (hs : SlD w0 (fun b => b < w0.heap.size) K ao cap) {R : Ending → World → Prop} (z : ∀ u, Hid (Rg w0 u bs) → R (.returned (.string (tx ws))) u)
 (hp : Pt ws ts := by exact ⟨(by intro w hw; (try simp only [qz, rnd_f] at hw ⊢); grind), (by (try simp only [jl, jL, qz, rnd_f, sz_lit, List.length_cons, List.length_nil]) <;> omega)⟩) : Calls Tryz.prog f #[.agg #[.int .i64 k, .int .i64 a, .string s, .int .i64 q, .slice ao c cap]] W R := by
 subst hl;exact Rg.call h HW hc hs z hp
theorem b_decl {k a q : Int} {s : ByteArray} {K : List Ty} {ws : List ByteArray} (hk : 34 ≤ k ∧ k ≠ 46 ∧ k ≠ 48) (h1 : CR 119 none (.mk k a s q K) ws) : CR 60 (some (.int .i64 10)) (.mk k a s q K) ws := by
 refine ⟨fun hw {W ao cap} hs => ?_⟩;obtain ⟨V, hV, G, HF⟩ := jN W k a s q (.slice ao K.length cap);have HS : Hid (SlD W (fun b => b < W.heap.size) K ao cap) := lh hs;have HW := lh hw;have H1 := lh h1;have c := HF.out _ G.out;have e := k34 hk.1 hk.2.1 hk.2.2;clear hw hs h1 hk
 show Calls Tryz.prog 60 #[.agg #[.int .i64 k, .int .i64 a, .string s, .int .i64 q, .slice ao K.length cap], .int .i64 10] W _
 go_enter Tryz.func60, Tryz.ntmps60
 go_upto_region 1 with fail
 rw [← hV];clear hV;go_wp2_with (go_at_call 119; refine Rg.call G HW H1.out (n := .mk k a s q K) HS.out ?_ (pt_refl _); intro u G)
 go_ret
 exact ⟨rfl, G.out.b⟩
theorem h_f {k a : Int} {s : ByteArray} {L9 K : List Ty} {vw : List ByteArray} (hv : L9.length ≤ 1) (h1 : MR s_com L9 vw) : CR 158 none (.mk k a s L9.length (L9 ++ K)) (vw ++ [s]) := by
 refine ⟨fun hw {W ao cap} hs => ?_⟩;obtain ⟨V, hV, G, HF⟩ := jN W k a s L9.length (.slice ao (L9.length + K.length) cap);have HS : Hid (SlD W (fun b => b < W.heap.size) (L9 ++ K) ao cap) := lh hs;have HW := lh hw;have HV := lh hv;have H1 := lh h1;have c := HF.out _ G.out;clear hw hs hv h1
 show Calls Tryz.prog 158 #[.agg #[.int .i64 k, .int .i64 a, .string s, .int .i64 L9.length, .slice ao (L9 ++ K).length cap]] W _
 rw [show (L9 ++ K).length = (L9.length + K.length) from by simp];go_enter Tryz.func158, Tryz.ntmps158
 go_upto_region 1 with fail
 rw [← hV];clear hV;have HT : Hid (SlD W (fun b => b < W.heap.size) L9 ao cap) := lh (by have h9 := HS.out.take L9.length; rwa [List.take_left'] at h9; rfl);have hcap := lh HT.out.1;have s1 : ∀ w' : World, (Instr.slice 24 (.slice ao (L9.length + K.length) cap) none (some (.int .i64 (L9.length : Int))) none).run Tryz.prog w' = .ok (.slice ao L9.length cap) w' := fun w' => kW ao _ cap L9.length hcap.out _ rfl w'
 go_upto_region 2 with (go_at_call 24; refine Rg.many G HW H1.out rfl HT.out ?_; intro u G)
 have c := HF.out _ G.out;have e1 : decide ((1 : Int) < (L9.length : Int)) = false := by have := HV.out; simp; omega
 replace G := lh G.out.drew;have HQ := lh (fun u g => HF.out u g);clear c;go_region_held3 (fun w9 => C5 w9 W.heap.size k a s L9.length (.slice ao (L9.length + K.length) cap)) (first | exact HQ.out _ G.out) (first | (go_at_call 61; refine vH HW ?_) | (go_at_call 25; refine kl HW ?_))
 go_wp2_with fail
 go_ret
 exact ⟨fin (by simp [rnd]), G.out.b⟩
theorem h_t {k a : Int} {s : ByteArray} {L9 K : List Ty} {vw : List ByteArray} (hv : 1 < L9.length) (h1 : MR s_com L9 vw) : CR 158 none (.mk k a s L9.length (L9 ++ K)) (s_lp :: (vw ++ [s_rp, s])) := by
 refine ⟨fun hw {W ao cap} hs => ?_⟩;obtain ⟨V, hV, G, HF⟩ := jN W k a s L9.length (.slice ao (L9.length + K.length) cap);have HS : Hid (SlD W (fun b => b < W.heap.size) (L9 ++ K) ao cap) := lh hs;have HW := lh hw;have HV := lh hv;have H1 := lh h1;have c := HF.out _ G.out;clear hw hs hv h1
 show Calls Tryz.prog 158 #[.agg #[.int .i64 k, .int .i64 a, .string s, .int .i64 L9.length, .slice ao (L9 ++ K).length cap]] W _
 rw [show (L9 ++ K).length = (L9.length + K.length) from by simp];go_enter Tryz.func158, Tryz.ntmps158
 go_upto_region 1 with fail
 rw [← hV];clear hV;have HT : Hid (SlD W (fun b => b < W.heap.size) L9 ao cap) := lh (by have h9 := HS.out.take L9.length; rwa [List.take_left'] at h9; rfl);have hcap := lh HT.out.1;have s1 : ∀ w' : World, (Instr.slice 24 (.slice ao (L9.length + K.length) cap) none (some (.int .i64 (L9.length : Int))) none).run Tryz.prog w' = .ok (.slice ao L9.length cap) w' := fun w' => kW ao _ cap L9.length hcap.out _ rfl w'
 go_upto_region 2 with (go_at_call 24; refine Rg.many G HW H1.out rfl HT.out ?_; intro u G)
 have c := HF.out _ G.out;have e1 : decide ((1 : Int) < (L9.length : Int)) = true := by have := HV.out; simp; omega
 replace G := lh G.out.drew;have HQ := lh (fun u g => HF.out u g);clear c;go_region_held3 (fun w9 => C5 w9 W.heap.size k a s L9.length (.slice ao (L9.length + K.length) cap)) (first | exact HQ.out _ G.out) (first | (go_at_call 61; refine vH HW ?_) | (go_at_call 25; refine kl HW ?_))
 go_wp2_with fail
 go_ret
 exact ⟨fin (by simp [rnd]), G.out.b⟩
theorem o_0 {k a q : Int} {s : ByteArray}  : CR 159 none (.mk k a s q []) [s] := by
 refine ⟨fun hw {W ao cap} hs => ?_⟩;obtain ⟨V, hV, G, HF⟩ := jN W k a s q (.slice ao 0 cap);have HS : Hid (SlD W (fun b => b < W.heap.size) [] ao cap) := lh hs;have HW := lh hw;have c := HF.out _ G.out;clear hw hs 
 show Calls Tryz.prog 159 #[.agg #[.int .i64 k, .int .i64 a, .string s, .int .i64 q, .slice ao 0 cap]] W _
 go_enter Tryz.func159, Tryz.ntmps159
 go_upto_region 1 with fail
 rw [← hV];clear hV;go_wp2_with fail
 go_ret
 exact ⟨by rw [ya]; rfl, G.out.b⟩
theorem o_1 {k a q : Int} {s : ByteArray} {x : Ty} {xw : List ByteArray} (h1 : CR 26 (some (.int .i64 0)) x xw) : CR 159 none (.mk k a s q [x]) (s :: w_of :: xw) := by
 refine ⟨fun hw {W ao cap} hs => ?_⟩;obtain ⟨V, hV, G, HF⟩ := jN W k a s q (.slice ao 1 cap);have HS : Hid (SlD W (fun b => b < W.heap.size) [x] ao cap) := lh hs;have HW := lh hw;have H1 := lh h1;have c := HF.out _ G.out;clear hw hs h1
 show Calls Tryz.prog 159 #[.agg #[.int .i64 k, .int .i64 a, .string s, .int .i64 q, .slice ao 1 cap]] W _
 go_enter Tryz.func159, Tryz.ntmps159
 go_upto_region 1 with fail
 rw [← hV];clear hV;obtain ⟨b0, i0, ap0, cp0, HS1, hix0, HX0⟩ := G.out.kid HS.out 0 x rfl 1 rfl 0 rfl;go_upto_region 3 with fail
 replace G := lh G.out.drew;have HQ := lh (fun u g => And.intro (HF.out u g) (HX0.out u _ g));clear c;go_region_held3 (fun w9 => C5 w9 W.heap.size k a s q (.slice ao 1 cap) ∧ K5 w9 b0 i0 x.k x.n x.s x.q (.slice ap0 x.args.length cp0)) (first | exact HQ.out _ G.out) (first | (go_at_call 26; refine Rg.call G HW H1.out HS1.out ?_; intro u G) | (go_at_call 25; refine kl HW ?_))
 go_wp2_with fail
 go_ret
 exact ⟨fin (by simp [rnd]), G.out.b⟩
theorem d_val2 {a q : Int} {s : ByteArray} {x y : Ty} {xw yw : List ByteArray} (h1 : CR 26 (some (.int .i64 0)) x xw) (h2 : CR 26 (some (.int .i64 0)) y yw) : CR 119 none (.mk 34 a s q [x, y]) (w_val :: (xw ++ s_eq :: yw)) := by
 refine ⟨fun hw {W ao cap} hs => ?_⟩;obtain ⟨V, hV, G, HF⟩ := jN W 34 a s q (.slice ao 2 cap);have HS : Hid (SlD W (fun b => b < W.heap.size) [x, y] ao cap) := lh hs;have HW := lh hw;have H1 := lh h1;have H2 := lh h2;have c := HF.out _ G.out;clear hw hs h1 h2
 show Calls Tryz.prog 119 #[.agg #[.int .i64 34, .int .i64 a, .string s, .int .i64 q, .slice ao 2 cap]] W _
 have HB := lh (vx (r := []) (wd := s_eq) H1.out H2.out);go_enter Tryz.func119, Tryz.ntmps119
 go_upto_region 1 with fail
 rw [← hV];clear hV;go_wp2_with (first | (go_at_call 116; refine Rg.betw G HW HB.out rfl HS.out ?_; intro u G) | (go_at_call 25; refine kl HW ?_))
 go_ret
 exact ⟨fin (by simp [rnd]), G.out.b⟩
theorem d_fun2 {a q : Int} {s : ByteArray} {K : List Ty} {ws : List ByteArray} (h1 : MR w_and K ws) : CR 119 none (.mk 35 a s q K) (w_fun :: ws) := by
 refine ⟨fun hw {W ao cap} hs => ?_⟩;obtain ⟨V, hV, G, HF⟩ := jN W 35 a s q (.slice ao K.length cap);have HS : Hid (SlD W (fun b => b < W.heap.size) K ao cap) := lh hs;have HW := lh hw;have H1 := lh h1;have c := HF.out _ G.out;clear hw hs h1
 show Calls Tryz.prog 119 #[.agg #[.int .i64 35, .int .i64 a, .string s, .int .i64 q, .slice ao K.length cap]] W _
 go_enter Tryz.func119, Tryz.ntmps119
 go_upto_region 1 with fail
 rw [← hV];clear hV;go_wp2_with (first | (go_at_call 24; refine Rg.many G HW H1.out rfl HS.out ?_; intro u G) | (go_at_call 25; refine kl HW ?_))
 go_ret
 exact ⟨fin (by simp [rnd]), G.out.b⟩
theorem d_data2 {a q : Int} {s : ByteArray} {K : List Ty} {ws : List ByteArray} (h1 : MR w_and K ws) : CR 119 none (.mk 38 a s q K) (w_data :: ws) := by
 refine ⟨fun hw {W ao cap} hs => ?_⟩;obtain ⟨V, hV, G, HF⟩ := jN W 38 a s q (.slice ao K.length cap);have HS : Hid (SlD W (fun b => b < W.heap.size) K ao cap) := lh hs;have HW := lh hw;have H1 := lh h1;have c := HF.out _ G.out;clear hw hs h1
 show Calls Tryz.prog 119 #[.agg #[.int .i64 38, .int .i64 a, .string s, .int .i64 q, .slice ao K.length cap]] W _
 go_enter Tryz.func119, Tryz.ntmps119
 go_upto_region 1 with fail
 rw [← hV];clear hV;go_wp2_with (first | (go_at_call 24; refine Rg.many G HW H1.out rfl HS.out ?_; intro u G) | (go_at_call 25; refine kl HW ?_))
 go_ret
 exact ⟨fin (by simp [rnd]), G.out.b⟩
theorem d_type2 {a : Int} {s : ByteArray} {L9 : List Ty} {t : Ty} {hw9 tw : List ByteArray} (h1 : CR 158 none (.mk 37 a s L9.length (L9 ++ [t])) hw9) (h2 : CR 26 (some (.int .i64 0)) t tw) : CR 119 none (.mk 37 a s L9.length (L9 ++ [t])) (w_type :: (hw9 ++ s_eq :: tw)) := by
 refine ⟨fun hw {W ao cap} hs => ?_⟩;obtain ⟨V, hV, G, HF⟩ := jN W 37 a s L9.length (.slice ao (L9.length + 1) cap);have HS : Hid (SlD W (fun b => b < W.heap.size) (L9 ++ [t]) ao cap) := lh hs;have HW := lh hw;have H1 := lh h1;have H2 := lh h2;have c := HF.out _ G.out;clear hw hs h1 h2
 show Calls Tryz.prog 119 #[.agg #[.int .i64 37, .int .i64 a, .string s, .int .i64 L9.length, .slice ao (L9 ++ [t]).length cap]] W _
 rw [show (L9 ++ [t]).length = (L9.length + 1) from by simp];go_enter Tryz.func119, Tryz.ntmps119
 go_upto_region 1 with fail
 rw [← hV];clear hV;have e1 : decide ((L9.length : Int) < ((L9.length + 1 : Nat) : Int)) = true := by simp; omega
 have e2 : decide ((L9.length : Int) < (L9.length : Int) + 1) = true := by simp; omega
 have e3 : L9.length < L9.length + 1 := by omega
 obtain ⟨b0, i0, ap0, cp0, HS1, hix0, HX0⟩ := G.out.kid HS.out L9.length t (by simp) (L9.length + 1) (by simp) L9.length rfl;go_upto_region 16 with (first | (go_at_call 158; refine Rg.callc G HW H1.out (by simp) HS.out ?_; intro u G) | (go_at_call 25; refine kl HW ?_))
 have c := HF.out _ G.out;go_upto_region 17 with fail
 replace G := lh G.out.drew;have HQ := lh (fun u g => And.intro (HF.out u g) (HX0.out u _ g));clear c;go_region_held3 (fun w9 => C5 w9 W.heap.size 37 a s L9.length (.slice ao (L9.length + 1) cap) ∧ K5 w9 b0 i0 t.k t.n t.s t.q (.slice ap0 t.args.length cp0)) (first | exact HQ.out _ G.out) (first | (go_at_call 26; refine Rg.call G HW H2.out HS1.out ?_; intro u G) | (go_at_call 25; refine kl HW ?_))
 go_wp2_with fail
 go_ret
 exact ⟨fin (by simp [rnd]), G.out.b⟩
theorem g_type2 {a : Int} {s : ByteArray} {L9 : List Ty} {t : Ty} {hw9 tw : List ByteArray} (h1 : CR 158 none (.mk 50 a s L9.length (L9 ++ [t])) hw9) (h2 : CR 26 (some (.int .i64 0)) t tw) : CR 119 none (.mk 50 a s L9.length (L9 ++ [t])) (w_type :: (hw9 ++ s_eq :: tw)) := by
 refine ⟨fun hw {W ao cap} hs => ?_⟩;obtain ⟨V, hV, G, HF⟩ := jN W 50 a s L9.length (.slice ao (L9.length + 1) cap);have HS : Hid (SlD W (fun b => b < W.heap.size) (L9 ++ [t]) ao cap) := lh hs;have HW := lh hw;have H1 := lh h1;have H2 := lh h2;have c := HF.out _ G.out;clear hw hs h1 h2
 show Calls Tryz.prog 119 #[.agg #[.int .i64 50, .int .i64 a, .string s, .int .i64 L9.length, .slice ao (L9 ++ [t]).length cap]] W _
 rw [show (L9 ++ [t]).length = (L9.length + 1) from by simp];go_enter Tryz.func119, Tryz.ntmps119
 go_upto_region 1 with fail
 rw [← hV];clear hV;have e1 : decide ((L9.length : Int) < ((L9.length + 1 : Nat) : Int)) = true := by simp; omega
 have e2 : decide ((L9.length : Int) < (L9.length : Int) + 1) = true := by simp; omega
 have e3 : L9.length < L9.length + 1 := by omega
 obtain ⟨b0, i0, ap0, cp0, HS1, hix0, HX0⟩ := G.out.kid HS.out L9.length t (by simp) (L9.length + 1) (by simp) L9.length rfl;go_upto_region 16 with (first | (go_at_call 158; refine Rg.callc G HW H1.out (by simp) HS.out ?_; intro u G) | (go_at_call 25; refine kl HW ?_))
 have c := HF.out _ G.out;go_upto_region 17 with fail
 replace G := lh G.out.drew;have HQ := lh (fun u g => And.intro (HF.out u g) (HX0.out u _ g));clear c;go_region_held3 (fun w9 => C5 w9 W.heap.size 50 a s L9.length (.slice ao (L9.length + 1) cap) ∧ K5 w9 b0 i0 t.k t.n t.s t.q (.slice ap0 t.args.length cp0)) (first | exact HQ.out _ G.out) (first | (go_at_call 26; refine Rg.call G HW H2.out HS1.out ?_; intro u G) | (go_at_call 25; refine kl HW ?_))
 go_wp2_with fail
 go_ret
 exact ⟨fin (by simp [rnd]), G.out.b⟩
theorem g_type0 {a : Int} {s : ByteArray} {L9 : List Ty} {hw9 : List ByteArray} (h1 : CR 158 none (.mk 50 a s L9.length L9) hw9) : CR 119 none (.mk 50 a s L9.length L9) (w_type :: hw9) := by
 refine ⟨fun hw {W ao cap} hs => ?_⟩;obtain ⟨V, hV, G, HF⟩ := jN W 50 a s L9.length (.slice ao L9.length cap);have HS : Hid (SlD W (fun b => b < W.heap.size) L9 ao cap) := lh hs;have HW := lh hw;have H1 := lh h1;have c := HF.out _ G.out;clear hw hs h1
 show Calls Tryz.prog 119 #[.agg #[.int .i64 50, .int .i64 a, .string s, .int .i64 L9.length, .slice ao L9.length cap]] W _
 go_enter Tryz.func119, Tryz.ntmps119
 go_upto_region 1 with fail
 rw [← hV];clear hV;go_upto_region 16 with (first | (go_at_call 158; refine Rg.callc G HW H1.out rfl HS.out ?_; intro u G) | (go_at_call 25; refine kl HW ?_))
 have c := HF.out _ G.out;go_wp2_with fail
 go_ret
 exact ⟨fin (by simp [rnd]), G.out.b⟩
theorem d_bind2 {a : Int} {s : ByteArray} {L9 K : List Ty} {hw9 kw : List ByteArray} (h1 : CR 158 none (.mk 39 a s L9.length (L9 ++ K)) hw9) (h2 : MR s_bar K kw) : CR 119 none (.mk 39 a s L9.length (L9 ++ K)) (hw9 ++ s_eq :: kw) := by
 refine ⟨fun hw {W ao cap} hs => ?_⟩;obtain ⟨V, hV, G, HF⟩ := jN W 39 a s L9.length (.slice ao (L9.length + K.length) cap);have HS : Hid (SlD W (fun b => b < W.heap.size) (L9 ++ K) ao cap) := lh hs;have HW := lh hw;have H1 := lh h1;have H2 := lh h2;have c := HF.out _ G.out;clear hw hs h1 h2
 show Calls Tryz.prog 119 #[.agg #[.int .i64 39, .int .i64 a, .string s, .int .i64 L9.length, .slice ao (L9 ++ K).length cap]] W _
 rw [show (L9 ++ K).length = (L9.length + K.length) from by simp];go_enter Tryz.func119, Tryz.ntmps119
 go_upto_region 1 with fail
 rw [← hV];clear hV;have HT : Hid (SlD W (fun b => b < W.heap.size) K (qq ao cap L9.length) (cap - L9.length)) := lh (by have h9 := HS.out.drop L9.length; rwa [List.drop_left'] at h9; rfl);have s1 : ∀ w' : World, (Instr.slice 24 (.slice ao (L9.length + K.length) cap) (some (.int .i64 (L9.length : Int))) none none).run Tryz.prog w' = .ok (.slice (qq ao cap L9.length) K.length (cap - L9.length)) w' := fun w' => by have h9 := kv ao (L9.length + K.length) cap L9.length (by omega) (L9.length : Int) rfl w'; rwa [Nat.add_sub_cancel_left] at h9
 go_upto_region 22 with fail
 replace G := lh G.out.drew;have HQ := lh (fun u g => HF.out u g);clear c;go_region_held3 (fun w9 => C5 w9 W.heap.size 39 a s L9.length (.slice ao (L9.length + K.length) cap)) (first | exact HQ.out _ G.out) (first | (go_at_call 158; refine Rg.callc G HW H1.out (by simp) HS.out ?_; intro u G) | (go_at_call 24; refine Rg.many G HW H2.out rfl HT.out ?_; intro u G) | (go_at_call 25; refine kl HW ?_))
 go_wp2_with fail
 go_ret
 exact ⟨fin (by simp [rnd]), G.out.b⟩
theorem d_con2 {a q : Int} {s : ByteArray} {K : List Ty} {ws : List ByteArray} (h1 : CR 159 none (.mk 40 a s q K) ws) : CR 119 none (.mk 40 a s q K) ws := by
 refine ⟨fun hw {W ao cap} hs => ?_⟩;obtain ⟨V, hV, G, HF⟩ := jN W 40 a s q (.slice ao K.length cap);have HS : Hid (SlD W (fun b => b < W.heap.size) K ao cap) := lh hs;have HW := lh hw;have H1 := lh h1;have c := HF.out _ G.out;clear hw hs h1
 show Calls Tryz.prog 119 #[.agg #[.int .i64 40, .int .i64 a, .string s, .int .i64 q, .slice ao K.length cap]] W _
 go_enter Tryz.func119, Tryz.ntmps119
 go_upto_region 1 with fail
 rw [← hV];clear hV;go_wp2_with (go_at_call 159; refine Rg.callc G HW H1.out rfl HS.out ?_; intro u G)
 go_ret
 exact ⟨rfl, G.out.b⟩
theorem d_exn2 {a q : Int} {s : ByteArray} {K : List Ty} {ws : List ByteArray} (h1 : CR 159 none (.mk 41 a s q K) ws) : CR 119 none (.mk 41 a s q K) (w_exception :: ws) := by
 refine ⟨fun hw {W ao cap} hs => ?_⟩;obtain ⟨V, hV, G, HF⟩ := jN W 41 a s q (.slice ao K.length cap);have HS : Hid (SlD W (fun b => b < W.heap.size) K ao cap) := lh hs;have HW := lh hw;have H1 := lh h1;have c := HF.out _ G.out;clear hw hs h1
 show Calls Tryz.prog 119 #[.agg #[.int .i64 41, .int .i64 a, .string s, .int .i64 q, .slice ao K.length cap]] W _
 go_enter Tryz.func119, Tryz.ntmps119
 go_upto_region 1 with fail
 rw [← hV];clear hV;go_wp2_with (first | (go_at_call 159; refine Rg.callc G HW H1.out rfl HS.out ?_; intro u G) | (go_at_call 25; refine kl HW ?_))
 go_ret
 exact ⟨fin (by simp [rnd]), G.out.b⟩
theorem d_str20 {a : Int} {s : ByteArray} {x : Ty} {xw : List ByteArray} (h1 : CR 26 (some (.int .i64 0)) x xw) : CR 119 none (.mk 42 a s 0 [x]) (w_structure :: s :: s_eq :: xw) := by
 refine ⟨fun hw {W ao cap} hs => ?_⟩;obtain ⟨V, hV, G, HF⟩ := jN W 42 a s 0 (.slice ao 1 cap);have HS : Hid (SlD W (fun b => b < W.heap.size) [x] ao cap) := lh hs;have HW := lh hw;have H1 := lh h1;have c := HF.out _ G.out;clear hw hs h1
 show Calls Tryz.prog 119 #[.agg #[.int .i64 42, .int .i64 a, .string s, .int .i64 0, .slice ao 1 cap]] W _
 go_enter Tryz.func119, Tryz.ntmps119
 go_upto_region 1 with fail
 rw [← hV];clear hV;have hw0 : IntKind.i64.wrap 0 = 0 := rfl;obtain ⟨b0, i0, ap0, cp0, HS1, hix0, HX0⟩ := G.out.kid HS.out 0 x rfl 1 rfl 0 rfl;go_upto_region 29 with (go_at_call 25; refine kl HW ?_)
 have c := HF.out _ G.out;go_upto_region 33 with fail
 replace G := lh G.out.drew;have HQ := lh (fun u g => And.intro (HF.out u g) (HX0.out u _ g));clear c;go_region_held3 (fun w9 => C5 w9 W.heap.size 42 a s 0 (.slice ao 1 cap) ∧ K5 w9 b0 i0 x.k x.n x.s x.q (.slice ap0 x.args.length cp0)) (first | exact HQ.out _ G.out) (first | (go_at_call 26; refine Rg.call G HW H1.out HS1.out ?_; intro u G) | (go_at_call 25; refine kl HW ?_))
 go_wp2_with fail
 go_ret
 exact ⟨fin (by simp [rnd]), G.out.b⟩
theorem d_str21 {a : Int} {s : ByteArray} {x y : Ty} {xw yw : List ByteArray} (h1 : CR 26 (some (.int .i64 0)) x xw) (h2 : CR 26 (some (.int .i64 0)) y yw) : CR 119 none (.mk 42 a s 1 [x, y]) (w_structure :: s :: s_col :: (xw ++ s_eq :: yw)) := by
 refine ⟨fun hw {W ao cap} hs => ?_⟩;obtain ⟨V, hV, G, HF⟩ := jN W 42 a s 1 (.slice ao 2 cap);have HS : Hid (SlD W (fun b => b < W.heap.size) [x, y] ao cap) := lh hs;have HW := lh hw;have H1 := lh h1;have H2 := lh h2;have c := HF.out _ G.out;clear hw hs h1 h2
 show Calls Tryz.prog 119 #[.agg #[.int .i64 42, .int .i64 a, .string s, .int .i64 1, .slice ao 2 cap]] W _
 go_enter Tryz.func119, Tryz.ntmps119
 go_upto_region 1 with fail
 rw [← hV];clear hV;have hw0 : IntKind.i64.wrap 1 = 1 := rfl;obtain ⟨b0, i0, ap0, cp0, HS1, hix0, HX0⟩ := G.out.kid HS.out 0 x rfl 2 rfl 0 rfl;obtain ⟨b1, i1, ap1, cp1, HS2, hix1, HX1⟩ := G.out.kid HS.out 1 y rfl 2 rfl 1 rfl;go_upto_region 29 with (go_at_call 25; refine kl HW ?_)
 have c := HF.out _ G.out;go_upto_region 30 with fail
 replace G := lh G.out.drew;have HQ := lh (fun u g => And.intro (HF.out u g) (HX0.out u _ g));clear c;go_region_held3 (fun w9 => C5 w9 W.heap.size 42 a s 1 (.slice ao 2 cap) ∧ K5 w9 b0 i0 x.k x.n x.s x.q (.slice ap0 x.args.length cp0)) (first | exact HQ.out _ G.out) (first | (go_at_call 26; refine Rg.call G HW H1.out HS1.out ?_; intro u G) | (go_at_call 25; refine kl HW ?_))
 have c := HF.out _ G.out;go_upto_region 33 with fail
 replace G := lh G.out.drew;have HQ := lh (fun u g => And.intro (HF.out u g) (HX1.out u _ g));clear c;go_region_held3 (fun w9 => C5 w9 W.heap.size 42 a s 1 (.slice ao 2 cap) ∧ K5 w9 b1 i1 y.k y.n y.s y.q (.slice ap1 y.args.length cp1)) (first | exact HQ.out _ G.out) (first | (go_at_call 26; refine Rg.call G HW H2.out HS2.out ?_; intro u G) | (go_at_call 25; refine kl HW ?_))
 go_wp2_with fail
 go_ret
 exact ⟨fin (by simp [rnd]), G.out.b⟩
theorem d_str22 {a : Int} {s : ByteArray} {x y : Ty} {xw yw : List ByteArray} (h1 : CR 26 (some (.int .i64 0)) x xw) (h2 : CR 26 (some (.int .i64 0)) y yw) : CR 119 none (.mk 42 a s 2 [x, y]) (w_structure :: s :: s_opq :: (xw ++ s_eq :: yw)) := by
 refine ⟨fun hw {W ao cap} hs => ?_⟩;obtain ⟨V, hV, G, HF⟩ := jN W 42 a s 2 (.slice ao 2 cap);have HS : Hid (SlD W (fun b => b < W.heap.size) [x, y] ao cap) := lh hs;have HW := lh hw;have H1 := lh h1;have H2 := lh h2;have c := HF.out _ G.out;clear hw hs h1 h2
 show Calls Tryz.prog 119 #[.agg #[.int .i64 42, .int .i64 a, .string s, .int .i64 2, .slice ao 2 cap]] W _
 go_enter Tryz.func119, Tryz.ntmps119
 go_upto_region 1 with fail
 rw [← hV];clear hV;have hw0 : IntKind.i64.wrap 1 = 1 := rfl;obtain ⟨b0, i0, ap0, cp0, HS1, hix0, HX0⟩ := G.out.kid HS.out 0 x rfl 2 rfl 0 rfl;obtain ⟨b1, i1, ap1, cp1, HS2, hix1, HX1⟩ := G.out.kid HS.out 1 y rfl 2 rfl 1 rfl;go_upto_region 29 with (go_at_call 25; refine kl HW ?_)
 have c := HF.out _ G.out;go_upto_region 32 with fail
 replace G := lh G.out.drew;have HQ := lh (fun u g => And.intro (HF.out u g) (HX0.out u _ g));clear c;go_region_held3 (fun w9 => C5 w9 W.heap.size 42 a s 2 (.slice ao 2 cap) ∧ K5 w9 b0 i0 x.k x.n x.s x.q (.slice ap0 x.args.length cp0)) (first | exact HQ.out _ G.out) (first | (go_at_call 26; refine Rg.call G HW H1.out HS1.out ?_; intro u G) | (go_at_call 25; refine kl HW ?_))
 have c := HF.out _ G.out;go_upto_region 33 with fail
 replace G := lh G.out.drew;have HQ := lh (fun u g => And.intro (HF.out u g) (HX1.out u _ g));clear c;go_region_held3 (fun w9 => C5 w9 W.heap.size 42 a s 2 (.slice ao 2 cap) ∧ K5 w9 b1 i1 y.k y.n y.s y.q (.slice ap1 y.args.length cp1)) (first | exact HQ.out _ G.out) (first | (go_at_call 26; refine Rg.call G HW H2.out HS2.out ?_; intro u G) | (go_at_call 25; refine kl HW ?_))
 go_wp2_with fail
 go_ret
 exact ⟨fin (by simp [rnd]), G.out.b⟩
theorem d_sig2 {a q : Int} {s : ByteArray} {x : Ty} {xw : List ByteArray} (h1 : CR 26 (some (.int .i64 0)) x xw) : CR 119 none (.mk 43 a s q [x]) (w_signature :: s :: s_eq :: xw) := by
 refine ⟨fun hw {W ao cap} hs => ?_⟩;obtain ⟨V, hV, G, HF⟩ := jN W 43 a s q (.slice ao 1 cap);have HS : Hid (SlD W (fun b => b < W.heap.size) [x] ao cap) := lh hs;have HW := lh hw;have H1 := lh h1;have c := HF.out _ G.out;clear hw hs h1
 show Calls Tryz.prog 119 #[.agg #[.int .i64 43, .int .i64 a, .string s, .int .i64 q, .slice ao 1 cap]] W _
 go_enter Tryz.func119, Tryz.ntmps119
 go_upto_region 1 with fail
 rw [← hV];clear hV;obtain ⟨b0, i0, ap0, cp0, HS1, hix0, HX0⟩ := G.out.kid HS.out 0 x rfl 1 rfl 0 rfl;go_upto_region 35 with fail
 replace G := lh G.out.drew;have HQ := lh (fun u g => And.intro (HF.out u g) (HX0.out u _ g));clear c;go_region_held3 (fun w9 => C5 w9 W.heap.size 43 a s q (.slice ao 1 cap) ∧ K5 w9 b0 i0 x.k x.n x.s x.q (.slice ap0 x.args.length cp0)) (first | exact HQ.out _ G.out) (first | (go_at_call 26; refine Rg.call G HW H1.out HS1.out ?_; intro u G) | (go_at_call 25; refine kl HW ?_))
 go_wp2_with fail
 go_ret
 exact ⟨fin (by simp [rnd]), G.out.b⟩
theorem d_open2 {a q : Int} {s : ByteArray} {K : List Ty} {ws : List ByteArray} (hp : Wz ws → PathR s ws) : CR 119 none (.mk 44 a s q K) (w_open :: ws) := by
 refine ⟨fun hw {W ao cap} hs => ?_⟩;obtain ⟨V, hV, G, HF⟩ := jN W 44 a s q (.slice ao K.length cap);have HS : Hid (SlD W (fun b => b < W.heap.size) K ao cap) := lh hs;have HW := lh hw;have HP := lh hp;have c := HF.out _ G.out;clear hw hs hp
 show Calls Tryz.prog 119 #[.agg #[.int .i64 44, .int .i64 a, .string s, .int .i64 q, .slice ao K.length cap]] W _
 go_enter Tryz.func119, Tryz.ntmps119
 go_upto_region 1 with fail
 rw [← hV];clear hV;go_wp2_with (first | (go_at_call 115; refine yi HW HP.out ?_) | (go_at_call 25; refine kl HW ?_))
 go_ret
 exact ⟨fin (by simp [rnd]), G.out.b⟩
theorem d_body2 {a q : Int} {s : ByteArray} {K : List Ty} {ws : List ByteArray} (h1 : MR ⟨#[]⟩ K ws) : CR 119 none (.mk 45 a s q K) (w_struct :: (ws ++ [w_end])) := by
 refine ⟨fun hw {W ao cap} hs => ?_⟩;obtain ⟨V, hV, G, HF⟩ := jN W 45 a s q (.slice ao K.length cap);have HS : Hid (SlD W (fun b => b < W.heap.size) K ao cap) := lh hs;have HW := lh hw;have H1 := lh h1;have c := HF.out _ G.out;clear hw hs h1
 show Calls Tryz.prog 119 #[.agg #[.int .i64 45, .int .i64 a, .string s, .int .i64 q, .slice ao K.length cap]] W _
 go_enter Tryz.func119, Tryz.ntmps119
 go_upto_region 1 with fail
 rw [← hV];clear hV;go_wp2_with (first | (go_at_call 24; refine Rg.many G HW H1.out rfl HS.out ?_; intro u G) | (go_at_call 25; refine kl HW ?_))
 go_ret
 exact ⟨fin (by simp [rnd]), G.out.b⟩
theorem d_sign2 {a q : Int} {s : ByteArray} {K : List Ty} {ws : List ByteArray} (h1 : MR ⟨#[]⟩ K ws) : CR 119 none (.mk 47 a s q K) (w_sig :: (ws ++ [w_end])) := by
 refine ⟨fun hw {W ao cap} hs => ?_⟩;obtain ⟨V, hV, G, HF⟩ := jN W 47 a s q (.slice ao K.length cap);have HS : Hid (SlD W (fun b => b < W.heap.size) K ao cap) := lh hs;have HW := lh hw;have H1 := lh h1;have c := HF.out _ G.out;clear hw hs h1
 show Calls Tryz.prog 119 #[.agg #[.int .i64 47, .int .i64 a, .string s, .int .i64 q, .slice ao K.length cap]] W _
 go_enter Tryz.func119, Tryz.ntmps119
 go_upto_region 1 with fail
 rw [← hV];clear hV;go_wp2_with (first | (go_at_call 24; refine Rg.many G HW H1.out rfl HS.out ?_; intro u G) | (go_at_call 25; refine kl HW ?_))
 go_ret
 exact ⟨fin (by simp [rnd]), G.out.b⟩
theorem g_val2 {a q : Int} {s : ByteArray} {x : Ty} {xw : List ByteArray} (h1 : CR 26 (some (.int .i64 0)) x xw) : CR 119 none (.mk 49 a s q [x]) (w_val :: s :: s_col :: xw) := by
 refine ⟨fun hw {W ao cap} hs => ?_⟩;obtain ⟨V, hV, G, HF⟩ := jN W 49 a s q (.slice ao 1 cap);have HS : Hid (SlD W (fun b => b < W.heap.size) [x] ao cap) := lh hs;have HW := lh hw;have H1 := lh h1;have c := HF.out _ G.out;clear hw hs h1
 show Calls Tryz.prog 119 #[.agg #[.int .i64 49, .int .i64 a, .string s, .int .i64 q, .slice ao 1 cap]] W _
 go_enter Tryz.func119, Tryz.ntmps119
 go_upto_region 1 with fail
 rw [← hV];clear hV;obtain ⟨b0, i0, ap0, cp0, HS1, hix0, HX0⟩ := G.out.kid HS.out 0 x rfl 1 rfl 0 rfl;go_upto_region 43 with fail
 replace G := lh G.out.drew;have HQ := lh (fun u g => And.intro (HF.out u g) (HX0.out u _ g));clear c;go_region_held3 (fun w9 => C5 w9 W.heap.size 49 a s q (.slice ao 1 cap) ∧ K5 w9 b0 i0 x.k x.n x.s x.q (.slice ap0 x.args.length cp0)) (first | exact HQ.out _ G.out) (first | (go_at_call 26; refine Rg.call G HW H1.out HS1.out ?_; intro u G) | (go_at_call 25; refine kl HW ?_))
 go_wp2_with fail
 go_ret
 exact ⟨fin (by simp [rnd]), G.out.b⟩
theorem g_str2 {a q : Int} {s : ByteArray} {x : Ty} {xw : List ByteArray} (h1 : CR 26 (some (.int .i64 0)) x xw) : CR 119 none (.mk 51 a s q [x]) (w_structure :: s :: s_col :: xw) := by
 refine ⟨fun hw {W ao cap} hs => ?_⟩;obtain ⟨V, hV, G, HF⟩ := jN W 51 a s q (.slice ao 1 cap);have HS : Hid (SlD W (fun b => b < W.heap.size) [x] ao cap) := lh hs;have HW := lh hw;have H1 := lh h1;have c := HF.out _ G.out;clear hw hs h1
 show Calls Tryz.prog 119 #[.agg #[.int .i64 51, .int .i64 a, .string s, .int .i64 q, .slice ao 1 cap]] W _
 go_enter Tryz.func119, Tryz.ntmps119
 go_upto_region 1 with fail
 rw [← hV];clear hV;obtain ⟨b0, i0, ap0, cp0, HS1, hix0, HX0⟩ := G.out.kid HS.out 0 x rfl 1 rfl 0 rfl;go_upto_region 45 with fail
 replace G := lh G.out.drew;have HQ := lh (fun u g => And.intro (HF.out u g) (HX0.out u _ g));clear c;go_region_held3 (fun w9 => C5 w9 W.heap.size 51 a s q (.slice ao 1 cap) ∧ K5 w9 b0 i0 x.k x.n x.s x.q (.slice ap0 x.args.length cp0)) (first | exact HQ.out _ G.out) (first | (go_at_call 26; refine Rg.call G HW H1.out HS1.out ?_; intro u G) | (go_at_call 25; refine kl HW ?_))
 go_wp2_with fail
 go_ret
 exact ⟨fin (by simp [rnd]), G.out.b⟩
theorem p_prog {a q : Int} {s : ByteArray} {K : List Ty} {ws : List ByteArray} (h1 : MR ⟨#[]⟩ K ws) : CR 10 none (.mk 0 a s q K) ws := by
 refine ⟨fun hw {W ao cap} hs => ?_⟩;obtain ⟨V, hV, G, HF⟩ := jN W 0 a s q (.slice ao K.length cap);have HS : Hid (SlD W (fun b => b < W.heap.size) K ao cap) := lh hs;have HW := lh hw;have H1 := lh h1;have c := HF.out _ G.out;clear hw hs h1
 show Calls Tryz.prog 10 #[.agg #[.int .i64 0, .int .i64 a, .string s, .int .i64 q, .slice ao K.length cap]] W _
 go_enter Tryz.func10, Tryz.ntmps10
 go_upto_region 1 with fail
 rw [← hV];clear hV;go_wp2_with (go_at_call 24; refine Rg.many G HW H1.out rfl HS.out ?_; intro u G)
 go_ret
 exact ⟨rfl, G.out.b⟩
theorem p_one {k a q : Int} {s : ByteArray} {K : List Ty} {ws : List ByteArray} (h0 : k ≠ 0 ∧ k ≠ 12) (h1 : CR 26 (some (.int .i64 0)) (.mk k a s q K) ws) : CR 10 none (.mk k a s q K) ws := by
 refine ⟨fun hw {W ao cap} hs => ?_⟩;obtain ⟨V, hV, G, HF⟩ := jN W k a s q (.slice ao K.length cap);have HS : Hid (SlD W (fun b => b < W.heap.size) K ao cap) := lh hs;have HW := lh hw;have H0 := lh h0;have H1 := lh h1;have c := HF.out _ G.out;clear hw hs h0 h1
 show Calls Tryz.prog 10 #[.agg #[.int .i64 k, .int .i64 a, .string s, .int .i64 q, .slice ao K.length cap]] W _
 have e0 : (k == 0) = false := by have := H0.out.1; simpa using this
 have e1 : (k == 12) = false := by have := H0.out.2; simpa using this
 go_enter Tryz.func10, Tryz.ntmps10
 go_upto_region 1 with fail
 rw [← hV];clear hV;go_wp2_with (go_at_call 26; refine Rg.call G HW H1.out (n := .mk k a s q K) HS.out ?_ (pt_refl _); intro u G)
 go_ret
 exact ⟨rfl, G.out.b⟩
theorem p_rule {a q : Int} {s : ByteArray} {x y : Ty} {xw yw : List ByteArray} (h1 : CR 26 (some (.int .i64 0)) x xw) (h2 : CR 26 (some (.int .i64 0)) y yw) : CR 10 none (.mk 12 a s q [x, y]) (xw ++ s_arr :: yw) := by
 refine ⟨fun hw {W ao cap} hs => ?_⟩;obtain ⟨V, hV, G, HF⟩ := jN W 12 a s q (.slice ao 2 cap);have HS : Hid (SlD W (fun b => b < W.heap.size) [x, y] ao cap) := lh hs;have HW := lh hw;have H1 := lh h1;have H2 := lh h2;have c := HF.out _ G.out;clear hw hs h1 h2
 show Calls Tryz.prog 10 #[.agg #[.int .i64 12, .int .i64 a, .string s, .int .i64 q, .slice ao 2 cap]] W _
 go_enter Tryz.func10, Tryz.ntmps10
 go_upto_region 1 with fail
 rw [← hV];clear hV;obtain ⟨b0, i0, ap0, cp0, HS1, hix0, HX0⟩ := G.out.kid HS.out 0 x rfl 2 rfl 0 rfl;obtain ⟨b1, i1, ap1, cp1, HS2, hix1, HX1⟩ := G.out.kid HS.out 1 y rfl 2 rfl 1 rfl;go_upto_region 4 with fail
 replace G := lh G.out.drew;have HQ := lh (fun u g => And.intro (HF.out u g) (And.intro (HX0.out u _ g) (HX1.out u _ g)));clear c;go_region_held3 (fun w9 => C5 w9 W.heap.size 12 a s q (.slice ao 2 cap) ∧ K5 w9 b0 i0 x.k x.n x.s x.q (.slice ap0 x.args.length cp0) ∧ K5 w9 b1 i1 y.k y.n y.s y.q (.slice ap1 y.args.length cp1)) (first | exact HQ.out _ G.out) (first | (go_at_call 26; have hq := HU; refine Rg.call G HW H2.out HS2.out ?_; intro u2 G) | (go_at_call 26; refine Rg.call G HW H1.out HS1.out ?_; intro u G; have HU := lh trivial) | (go_at_call 25; refine kl HW ?_))
 go_wp2_with fail
 go_ret
 exact ⟨fin (by simp [rnd]), G.out.b⟩
theorem b_ytup {a q : Int} {s : ByteArray} {x : Ty} {K : List Ty} {ws : List ByteArray} (h1 : RowC (CR 26 (some (.int .i64 2))) s_st (x :: K) ws) : CR 60 (some (.int .i64 1)) (.mk 32 a s q (x :: K)) ws := by
 refine ⟨fun hw {W ao cap} hs => ?_⟩;obtain ⟨V, hV, G, HF⟩ := jN W 32 a s q (.slice ao (K.length + 1) cap);have HS : Hid (SlD W (fun b => b < W.heap.size) (x :: K) ao cap) := lh hs;have HW := lh hw;have H1 := lh h1;have c := HF.out _ G.out;clear hw hs h1
 show Calls Tryz.prog 60 #[.agg #[.int .i64 32, .int .i64 a, .string s, .int .i64 q, .slice ao (K.length + 1) cap], .int .i64 1] W _
 go_enter Tryz.func60, Tryz.ntmps60
 go_upto_region 1 with fail
 rw [← hV];clear hV;obtain ⟨wss, hl, hws, hp⟩ := H1.out.ex;have HL := lh hl;have HP := lh hp;have hn : K.length + 1 ≤ 4000000001 := by have h2 := sepW_len s_st wss; have h3 := HW.out.le; rw [hws] at h3; simp only [List.length_cons] at hl; omega
 have HX := lh (by rw [sepT_one]; exact hws : ws = qe [s_st] wss);have h0w : 0 < wss.length := by rw [hl]; simp
 have hx0 := hp 0 (by simp) h0w;have H0 := lh hx0;have HWT := lh (fun (j : Nat) => (by have := HW.out; rw [HX.out] at this; exact this.pt (sepT_pt [s_st] wss j) : Wz (qe [s_st] (wss.take j))));have hw1 := lh (HWT.out 1);have HF1 := lh (sepT_step [s_st] (l := wss) (i := 0) h0w);rw [if_pos rfl, List.nil_append] at HF1;rw [HF1.out] at hw1;clear hl hws hp hx0;obtain ⟨b0, i0, ap0, cp0, HS1, hix0, HX0⟩ := G.out.kid HS.out 0 x rfl (K.length + 1) rfl 0 rfl;have c := HF.out _ G.out;have x0 := HX0.out _ _ G.out;go_upto_region 63 with (go_at_call 26; refine Rg.call G hw1 H0.out HS1.out ?_; intro u G)
 go_wp2_with fail
 go_loopw [5, 6] (fun v i wr => ∃ j : Nat, 1 ≤ j ∧ j ≤ K.length + 1 ∧ i = .int .i64 (j : Int) ∧ v = .string (tx (qe [s_st] (wss.take j))) ∧ Rg W wr [(W.heap.size, #[.int .i64 32, .int .i64 a, .string s, .int .i64 q, .slice ao (K.length + 1) cap], 26)]) (fun _ i _ => K.length + 1 - (intOf i).toNat)
 case atStart => exact ⟨1, Nat.le_refl _, by omega, rfl, by rw [HF1.out], G.out⟩
 case round =>
  obtain ⟨j, hj1, hj, rfl, rfl, hg⟩ := hrel;have G := lh hg;have c := HF.out _ G.out;clear hg
  by_cases hlt : j < K.length + 1
  · have hd : decide ((j : Int) < ((K.length + 1 : Nat) : Int)) = true := (by simp; omega);have hd2 : decide ((j : Int) < (K.length : Int) + 1) = true := (by simp; omega);have hjl : j < (x :: K).length := by simpa using hlt
    have hjw : j < wss.length := (by rw [HL.out]; exact hjl);obtain ⟨b1, i1, ap1, cp1, HS2, hix1, HX1⟩ := G.out.kid HS.out j (x :: K)[j] (List.getElem?_eq_getElem hjl) (K.length + 1) rfl j rfl;have HST := lh (sepT_step [s_st] hjw);have HK := lh (HP.out j hjl hjw);have HW9 := lh (HWT.out (j + 1));rw [HST.out, if_neg (by omega)] at HW9;have HS9 : Hid (qe [s_st] (wss.take (j + 1)) = qe [s_st] (wss.take j) ++ [s_st] ++ wss[j]) := lh (by have := HST.out; rwa [if_neg (by omega)] at this);generalize qe [s_st] (wss.take j) = S0 at *
    generalize wss[j] = ws1 at *
    generalize (x :: K)[j] = n1 at *
    clear HST;go_upto_region 66 with fail
    replace G := lh G.out.drew;have HQ := lh (fun u g => And.intro (HF.out u g) (HX1.out u _ g));clear c;go_region_held3 (fun w9 => C5 w9 W.heap.size 32 a s q (.slice ao (K.length + 1) cap) ∧ K5 w9 b1 i1 n1.k n1.n n1.s n1.q (.slice ap1 n1.args.length cp1)) (first | exact HQ.out _ G.out) (first | (go_at_call 26; refine Rg.call G HW9 HK.out HS2.out ?_; intro u2 G) | (go_at_call 25; refine kl HW9 ?_))
    go_wp2_with fail
    go_roundw
    case rel => exact ⟨j + 1, by omega, by omega, by go_num, by rw [HS9.out]; simp, G.out⟩
    case measure => simp [intOf]; omega
  · have hd : decide ((j : Int) < ((K.length + 1 : Nat) : Int)) = false := (by simp; omega);have hd2 : decide ((j : Int) < (K.length : Int) + 1) = false := (by simp; omega);go_wp2_with fail
    go_ret
    exact ⟨by rw [HX.out, List.take_of_length_le (by rw [HL.out]; simp; omega)]; rfl, G.out.b⟩
theorem d_fb2 {a q : Int} {s : ByteArray} {K : List Ty} {e : Ty} {kw ew : List ByteArray} (h1 : ManyC (CR 26 (some (.int .i64 2))) K kw) (h2 : CR 26 (some (.int .i64 0)) e ew) : CR 119 none (.mk 36 a s q (K ++ [e])) (s :: (kw ++ s_eq :: ew)) := by
 refine ⟨fun hw {W ao cap} hs => ?_⟩;obtain ⟨V, hV, G, HF⟩ := jN W 36 a s q (.slice ao (K.length + 1) cap);have HS : Hid (SlD W (fun b => b < W.heap.size) (K ++ [e]) ao cap) := lh hs;have HW := lh hw;have H1 := lh h1;have H2 := lh h2;have c := HF.out _ G.out;clear hw hs h1 h2
 show Calls Tryz.prog 119 #[.agg #[.int .i64 36, .int .i64 a, .string s, .int .i64 q, .slice ao (K ++ [e]).length cap]] W _
 rw [show (K ++ [e]).length = (K.length + 1) from by simp];go_enter Tryz.func119, Tryz.ntmps119
 go_upto_region 1 with fail
 rw [← hV];clear hV;obtain ⟨wss, hl, hws, hp⟩ := H1.out.ex;have HL := lh hl;have HP := lh hp;have h0w := HL.out
 have hn : K.length + 1 ≤ 4000000001 := by
  have h2 := qR wss fun x hx => by
   obtain ⟨i, hi, rfl⟩ := List.getElem_of_mem hx;exact (hp i (by omega) hi).2
  have h3 := HW.out.le; rw [hws] at h3; simp only [jl, jL] at h3; omega
 have hw9 : IntKind.i64.wrap (K.length : Int) = K.length := IntWalk.i64_in _ (by omega);clear h0w;have HX := lh hws
 have HWT := lh (fun (j : Nat) => (HW.out.pt (by
  rw [HX.out]; exact ⟨fun w hw => by simp only [List.mem_cons, List.mem_append] at hw ⊢; rcases hw with rfl | hw; exact .inl rfl; exact .inr (.inl (by rw [← List.take_append_drop j wss, List.flatten_append]; exact List.mem_append_left _ hw)), by have h9 := congrArg jl (congrArg List.flatten (List.take_append_drop j wss)); rw [List.flatten_append, jL] at h9; simp only [jl, jL]; omega⟩) : Wz (s :: (wss.take j).flatten)))
 clear hl hws hp;obtain ⟨b0, i0, ap0, cp0, HS1, hix0, HX0⟩ := G.out.kid HS.out K.length e (by simp) (K.length + 1) (by simp) K.length rfl;go_upto_region 9 with fail
 go_wp2_with fail
 go_loopw [3, 4] (fun v i wr => ∃ j : Nat, j ≤ K.length ∧ i = .int .i64 (j : Int) ∧ v = .string (tx (s :: (wss.take j).flatten)) ∧ Rg W wr [(W.heap.size, #[.int .i64 36, .int .i64 a, .string s, .int .i64 q, .slice ao (K.length + 1) cap], 26)]) (fun _ i _ => K.length - (intOf i).toNat)
 case atStart => exact ⟨0, Nat.zero_le _, rfl, by rw [List.take_zero, List.flatten_nil, ya], G.out⟩
 case round =>
  obtain ⟨j, hj, rfl, rfl, hg⟩ := hrel;have G := lh hg;have c := HF.out _ G.out;clear hg
  by_cases hlt : j < K.length
  · have hd : decide ((j : Int) + 1 < ((K.length + 1 : Nat) : Int)) = true := (by simp; omega);have hd2 : decide ((j : Int) + 1 < (K.length : Int) + 1) = true := (by simp; omega);have hd3 : decide ((j : Int) < (K.length : Int)) = true := (by simp; omega);have hjw : j < wss.length := (by rw [HL.out]; exact hlt);obtain ⟨b1, i1, ap1, cp1, HS2, hix1, HX1⟩ := G.out.kid HS.out j K[j] (by rw [List.getElem?_append_left hlt, List.getElem?_eq_getElem hlt]) (K.length + 1) (by simp) j rfl;have HST := lh (vL hjw);have HK := lh (HP.out j hlt hjw).1;have HW9 := lh (HWT.out (j + 1));rw [HST.out] at HW9;have x1 := HX1.out _ _ G.out;have HW8 : Hid (Wz ((s :: (wss.take j).flatten) ++ wss[j])) := lh (by rw [List.cons_append]; exact HW9.out);generalize hS0 : s :: (wss.take j).flatten = S0 at *
    have HS0 := lh hS0;clear hS0;generalize wss[j] = ws1 at *
    generalize K[j] = n1 at *
    go_upto_region 11 with fail
    go_wp2_with (first | (go_at_call 26; refine Rg.call G HW8 HK.out HS2.out ?_; intro u2 G) | (go_at_call 25; refine kl HW8 ?_))
    go_roundw
    case rel => exact ⟨j + 1, by omega, by go_num, by rw [HST.out, ← HS0.out]; rfl, G.out⟩
    case measure => simp [intOf]; omega
  · have hd : decide ((j : Int) + 1 < ((K.length + 1 : Nat) : Int)) = false := (by simp; omega);have hd2 : decide ((j : Int) + 1 < (K.length : Int) + 1) = false := (by simp; omega);have hd3 : decide ((j : Int) < (K.length : Int)) = false := (by simp; omega);have HE : Hid (s :: (wss.take j).flatten = s :: kw) := lh (by rw [HX.out, List.take_of_length_le (by rw [HL.out]; omega)]);rw [HE.out];have hk0 : ((K.length + 1 : Nat) : Int) - 1 = (K.length : Int) := (by omega);go_upto_region 12 with fail
    replace G := lh G.out.drew;have HQ := lh (fun u g => And.intro (HF.out u g) (HX0.out u _ g));clear c;go_region_held3 (fun w9 => C5 w9 W.heap.size 36 a s q (.slice ao (K.length + 1) cap) ∧ K5 w9 b0 i0 e.k e.n e.s e.q (.slice ap0 e.args.length cp0)) (first | exact HQ.out _ G.out) (first | (go_at_call 26; refine Rg.call G HW H2.out HS1.out ?_; intro u2 G) | (go_at_call 25; refine kl HW ?_))
    go_wp2_with fail
    go_ret
    exact ⟨fin (by simp), G.out.b⟩
end Go.Proofs.YthehjeeiodbkjaaGreatDoor
