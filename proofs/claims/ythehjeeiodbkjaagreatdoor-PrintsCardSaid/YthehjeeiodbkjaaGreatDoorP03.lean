/-
  Proved: the contracts of the program's printer's round, list and path; what the library makes of a name with dots: its words; the contracts of the reference's kf functions: digit, kf, kB, jB, qn, at, comment, Gap, name, variable; the contracts of the reference's name, variable, Among, words, signs; the contracts of the reference's words, signs, Among; the contract of the reference's text; the contract of the reference's Quote; the contracts of the scanner's has and while; the contract of the scanner's gap; the contract of the scanner's escape; the contract of the scanner's text. Conditions: the printer as it stands in memory; the contract of what is handed in; places inside the text; a text of at most 4000 bytes; the list as it stands in memory; a text of at most 1048576 bytes; the table of sorts, a text of at most 4000 bytes below 128.
-/
import Derived.Test.YthehjeeiodbkjaaGreatDoorP01
import Derived.Test.YthehjeeiodbkjaaGreatDoorP02
import Derived.Test.YthehjeeiodbkjaaGreatDoorChecked
import Derived.Lib.SplitLaws
import Derived.Lib.ReplaceLaws
import Derived.Lib.IndexBytes
import Derived.Lib.Replace
import Derived.WalkKit
import Derived.IntWalk
import Derived.Lib.Hide
import Derived.Deep.QuietTactic
import Derived.BigQuiet
import Derived.Deep.DeepCutAuto
import Derived.Deep.CutBlock
import Derived.Deep.RegionHeld3
import Derived.ScopeJumps
import Derived.WalkMore
set_option linter.unusedSimpArgs false
set_option linter.unusedVariables false
set_option linter.unusedSectionVars false
set_option maxRecDepth 100000
set_option maxHeartbeats 16000000
namespace Go.Proofs.YthehjeeiodbkjaaGreatDoor
open Go.RowKit
def rnd (must : Bool) (ws : List ByteArray) : List ByteArray := if must then ⟨#[40]⟩ :: (ws ++ [⟨#[41]⟩]) else ws
def Wr (B pb : Nat) (v0 : Value) (w0 : World) (bs : List Bx) (l ws : List ByteArray) (e : Ending) (w' : World) : Prop := e = .returned (.tuple #[]) ∧ Gp B pb v0 w0 (l ++ ws) w' bs
section
variable {B pb : Nat} {v0 : Value} {w0 W : World} {l : List ByteArray} {bs : List Bx}
theorem round_g (h : Gp B pb v0 w0 l W bs) (n : Nat) (cp : Array Value) (hcf : ∀ (x9 : Array Value) (w : World), (callFunc n x9).run Tryz.prog w = .ok (.enter n x9) w) (ws : List ByteArray) (must : Bool) (hl : jl l + jl (rnd must ws) ≤ 4000000000)
 (H : ∀ l1 W1, Gp B pb v0 w0 l1 W1 bs → jl l1 + jl ws ≤ 4000000000 → Calls Tryz.prog n cp W1 (Wr B pb v0 w0 bs l1 ws)) :
 Calls Tryz.prog 82 #[pp pb, .bool must, .func (.func n) #[] cp] W (Wr B pb v0 w0 bs l (rnd must ws)) := by
 have HH := lh H;have G := lh h;have HC := lh hcf;clear H h hcf
 cases must with
 | false =>
  have HL : Hid (jl l + jl ws ≤ 4000000000) := lh hl;clear hl;go_enter Tryz.func82, Tryz.ntmps82
  go_wp2_with (first | ((with_reducible show wpList _ _ _ _ _ _); refine wpList_fn0 HC.out (by rfl) (.tmp 10) (by rfl) (by rfl) (HH.out l W G.out HL.out) ?_; rintro e w' ⟨rfl, hg⟩; refine ⟨_, rfl, ?_⟩; have G2 := lh hg; clear hg))
  go_wp2_with fail
  go_end0
  exact ⟨rfl, G2.out⟩
 | true =>
  have hl1 : jl l + (2 + jl ws + 2) ≤ 4000000000 := by simp only [rnd, if_true, jl, jL] at hl; simp [ByteArray.size] at hl; omega
  clear hl;go_enter Tryz.func82, Tryz.ntmps82
  go_upto_region 2 with (go_at_call 85; refine (put1 G.out ⟨#[40]⟩ (by show jl l + 2 ≤ _; omega)).mono ?_; rintro e w2 ⟨rfl, hg⟩; have G2 := lh hg; clear hg)
  go_upto_region 3 with (first | ((with_reducible show wpList _ _ _ _ _ _); refine wpList_fn0 HC.out (by rfl) (.tmp 10) (by rfl) (by rfl) (HH.out _ w2 G2.out (by rw [jL]; show jl l + 2 + _ ≤ _; omega)) ?_; rintro e w3 ⟨rfl, hg⟩; refine ⟨_, rfl, ?_⟩; have G3 := lh hg; clear hg))
  go_wp2_with (go_at_call 85; refine (put1 G3.out ⟨#[41]⟩ (by rw [jL, jL]; show jl l + 2 + _ + 2 ≤ _; omega)).mono ?_; rintro e w4 ⟨rfl, hg⟩; have G4 := lh hg; clear hg)
  go_end0
  exact ⟨rfl, by have := G4.out; simpa [rnd] using this⟩
def qG (s : ByteArray) : List (List ByteArray) → List ByteArray
 | [] => []
 | [x] => x
 | x :: y :: r => x ++ s :: qG s (y :: r)
theorem sepW_snoc (s : ByteArray) (x : List ByteArray) : ∀ (r : List (List ByteArray)), qG s (r ++ [x]) = if r = [] then x else qG s r ++ s :: x
 | [] => rfl
 | [y] => rfl
 | y :: z :: r => by
  have h := sepW_snoc s x (z :: r)
  show y ++ s :: qG s ((z :: r) ++ [x]) = _
  rw [h, if_neg (by simp), if_neg (by simp)]
  simp [qG]
theorem sepW_take {s : ByteArray} {r : List (List ByteArray)} {k : Nat} (h : k < r.length) : qG s (r.take (k + 1)) = if k = 0 then r[k] else qG s (r.take k) ++ s :: r[k] := by
 rw [List.take_succ_eq_append_getElem h, sepW_snoc]
 by_cases hk : k = 0
 · subst hk; simp
 · rw [if_neg hk, if_neg];intro e;have h1 := congrArg List.length e;have h2 : (r.take k).length = k := (by rw [List.length_take]; omega);rw [h2] at h1;exact hk h1
theorem sepW_le (s : ByteArray) : ∀ (r : List (List ByteArray)) (k : Nat), jl (qG s (r.take k)) ≤ jl (qG s r)
 | [], k => by simp [qG]
 | [x], 0 => by simp [qG, jl]
 | [x], k + 1 => by simp [qG]
 | x :: y :: r, 0 => by simp [qG, jl]
 | x :: y :: r, 1 => by simp [qG, jL]
 | x :: y :: r, k + 2 => by
  have h := sepW_le s (y :: r) (k + 1)
  simp only [List.take_succ_cons, qG, jL, jl] at h ⊢
  omega
theorem list_g (h : Gp B pb v0 w0 l W bs) (n : Nat) (rv cp : Array Value) (hcf : ∀ (x9 : Array Value) (w : World), (callFunc n x9).run Tryz.prog w = .ok (.enter n x9) w) (K : List Ty) (ao : Option Addr) (cap : Nat) (hS : SlD w0 (fun b => b < B) K ao cap) (hB : B ≤ w0.heap.size) (s : ByteArray) (wss : List (List ByteArray)) (hw : wss.length = K.length) (hK : K.length ≤ 5000000000) (hl : jl l + jl (qG s wss) ≤ 4000000000)
 (H : ∀ i (hi : i < K.length) (hi2 : i < wss.length) l1 W1 ap cq, Gp B pb v0 w0 l1 W1 bs → SlD w0 (fun b => b < B) K[i].args ap cq → jl l1 + jl wss[i] ≤ 4000000000 → Calls Tryz.prog n (rv ++ #[.agg (jh K[i] ap cq)] ++ cp) W1 (Wr B pb v0 w0 bs l1 wss[i])) :
 Calls Tryz.prog 93 #[pp pb, .slice ao K.length cap, .string s, .func (.func n) rv cp] W (Wr B pb v0 w0 bs l (qG s wss)) := by
 have HH := lh H;have G := lh h;have HC := lh hcf;have HS := lh hS;obtain ⟨c, hc⟩ : ∃ c, c = K.length := ⟨_, rfl⟩
 have HCC := lh hc;have HW := lh hw;rw [← hc] at hK ⊢;clear H h hcf hS hc hw;go_enter Tryz.func93, Tryz.ntmps93
 go_wp2_with fail
 go_loopw [8, 9, 12] (fun _ _ i wr => ∃ k : Nat, i = .int .i64 k ∧ k ≤ c ∧ Gp B pb v0 w0 (l ++ qG s (wss.take k)) wr bs) (fun _ _ i _ => c - (Lib.intOf i).toNat)
 case atStart => exact ⟨0, rfl, by omega, by simpa [qG] using G.out⟩
 case round =>
  obtain ⟨k, rfl, hk, hg⟩ := hrel;have G1 := lh hg;clear hg
  by_cases hkc : k < c
  · have hk9 : k < K.length := (by rw [← HCC.out]; exact hkc);have hk8 : k < wss.length := (by rw [HW.out]; exact hk9);obtain ⟨b, p, ap, cq, hs, hbw, hix, x⟩ := G1.out.kid HS.out hB hk9;have hlb : jl l + jl (qG s (wss.take (k + 1))) ≤ 4000000000 := Nat.le_trans (Nat.add_le_add_left (sepW_le s wss (k + 1)) _) hl;rw [sepW_take hk8] at hlb;obtain ⟨u, hu⟩ : ∃ u, u = K[k] := ⟨_, rfl⟩
    rw [← hu] at x hs;rw [← HCC.out] at hix;obtain ⟨V, hV⟩ : ∃ V, V = wr.alloc (.cells (jh u ap cq) 26) := ⟨_, rfl⟩
    have G2 := lh (G1.out.box hV);have HH2 : Hid (∀ l1 W1, Gp B pb v0 w0 l1 W1 bs → jl l1 + jl wss[k] ≤ 4000000000 → Calls Tryz.prog n (rv ++ #[.agg (jh u ap cq)] ++ cp) W1 (Wr B pb v0 w0 bs l1 wss[k])) := lh (by subst hu; exact fun l1 W1 h1 h3 => HH.out k hk9 hk8 l1 W1 ap cq h1 hs h3);have HLB := lh hlb;unfold jh at hV HH2 G2;clear hu hs hlb;have hkc2 : (k : Int) < (c : Int) := (by omega);go_upto_region 3 with fail
    rw [← hV];have y := jM G2.out.hd;clear hV x hix
    by_cases hk0 : k = 0
    · have hd : decide (0 < k) = false := (by simp; omega);have HK0 := lh hk0;clear hk0;go_wp2_with (first | ((with_reducible show wpList _ _ _ _ _ _); refine wpList_fn1 HC.out (by rfl) (.tmp 23) (.tmp 24) (by rfl) (by rfl) (by rfl) (HH2.out _ _ (G2.out.mono (fun x hx => List.mem_cons_of_mem _ hx)) (by have := HLB.out; rw [if_pos HK0.out] at this; simp only [HK0.out, qG, List.take_zero, jL, jl] at this ⊢; omega)) ?_; rintro e w7 ⟨rfl, hg⟩; refine ⟨_, rfl, ?_⟩; have G7 := lh hg; clear hg))
      go_roundw
      case rel =>
       refine ⟨k + 1, by go_num, hkc, ?_⟩;rw [sepW_take hk8, if_pos HK0.out];have := G7.out
       simpa [HK0.out, qG] using this
      case measure => simp only [Lib.intOf]; omega
    · have hd : 0 < k := (by omega);go_upto_region 5 with (go_at_call 85; refine (put1 G2.out s (by have := HLB.out; rw [if_neg hk0] at this; simp only [jL, jl] at this ⊢; omega)).mono ?_; rintro e w6 ⟨rfl, hg⟩; have G6 := lh hg; clear hg)
      have z := jM G6.out.hd;go_wp2_with (first | ((with_reducible show wpList _ _ _ _ _ _); refine wpList_fn1 HC.out (by rfl) (.tmp 23) (.tmp 24) (by rfl) (by rfl) (by rfl) (HH2.out _ _ (G6.out.mono (fun x hx => List.mem_cons_of_mem _ hx)) (by have := HLB.out; rw [if_neg hk0] at this; simp only [jL, jl] at this ⊢; omega)) ?_; rintro e w7 ⟨rfl, hg⟩; refine ⟨_, rfl, ?_⟩; have G7 := lh hg; clear hg))
      go_roundw
      case rel =>
       refine ⟨k + 1, by go_num, hkc, ?_⟩;rw [sepW_take hk8, if_neg hk0];have := G7.out
       simpa using this
      case measure => simp only [Lib.intOf]; omega
  · obtain rfl : k = c := by omega
    have hd : decide ((k : Int) < (k : Int)) = false := (by simp);go_wp2_with fail
    go_end0
    refine ⟨rfl, ?_⟩;have := G1.out;rw [List.take_of_length_le (by rw [HW.out, HCC.out]; exact Nat.le_refl _)] at this;exact this
end
theorem ixb (c : UInt8) (b : List UInt8) : ∀ (a : List UInt8), c ∉ a → Lib.indexByte (a ++ c :: b) c = a.length
 | [], _ => by simp [Lib.indexByte]
 | x :: a, h => by
  have h1 : x ≠ c := fun e => h (by simp [e])
  have h2 := ixb c b a fun e => h (List.mem_cons_of_mem _ e)
  show (if x == c then (0 : Int) else if Lib.indexByte (a ++ c :: b) c == -1 then -1 else Lib.indexByte (a ++ c :: b) c + 1) = _
  rw [if_neg (by simpa using h1), h2, if_neg (by simp)]
  rfl
def jb : List ByteArray → List UInt8
 | [] => []
 | [w] => w.data.toList
 | w :: x :: r => w.data.toList ++ 32 :: jb (x :: r)
theorem nm_no {k : Nat} {s : ByteArray} (h : Nm k s) : (46 : UInt8) ∉ s.data.toList ∧ (32 : UInt8) ∉ s.data.toList :=
 ⟨fun e => by have := h.bytes _ e; revert this; decide, fun e => by have := h.bytes _ e; revert this; decide⟩
theorem pathW_cons {k : Nat} {s : ByteArray} {ws : List ByteArray} (h : PathW k s ws) : ∃ x r, ws = x :: r := by cases h <;> exact ⟨_, _, rfl⟩
theorem rep_path {k : Nat} {s : ByteArray} {ws : List ByteArray} (h : PathW k s ws) : Lib.replaceK [46] [32, 46, 32] (Lib.count s.data.toList [46]) s.data.toList = jb ws := by
 induction h with
 | low h => rw [Lib.count_one, List.count_eq_zero_of_not_mem (nm_no h).1]; rfl
 | up h => rw [Lib.count_one, List.count_eq_zero_of_not_mem (nm_no h).1]; rfl
 | @more k s t ws h hp ih =>
  obtain ⟨x, r, rfl⟩ := pathW_cons hp;have e : (s ++ s_dot ++ t).data.toList = s.data.toList ++ 46 :: t.data.toList := by simp [ByteArray.data_append]
  rw [e]
  have hc : Lib.count (s.data.toList ++ 46 :: t.data.toList) [46] = Lib.count t.data.toList [46] + 1 := by
   rw [Lib.count_one, Lib.count_one, List.count_append, List.count_eq_zero_of_not_mem (nm_no h).1]; simp
  have hi : Lib.index (s.data.toList ++ 46 :: t.data.toList) [46] = (s.data.toList.length : Nat) := by rw [Lib.index_one, ixb _ _ _ (nm_no h).1]
  rw [hc, Lib.replaceK_hit _ _ _ _ _ hi, List.take_left, show ∀ a b : List UInt8, (a ++ 46 :: b).drop (a.length + ([46] : List UInt8).length) = b from fun a b => by rw [show a ++ 46 :: b = (a ++ [46]) ++ b by simp]; exact List.drop_left' (by simp), ih];simp [jb]
theorem replace_path {k : Nat} {s : ByteArray} {ws : List ByteArray} (h : PathW k s ws) : Lib.replaceAll s.data.toList [46] [32, 46, 32] = jb ws := by
 show Lib.replace _ _ _ _ = _
 unfold Lib.replace;rw [if_neg (by decide)];unfold Lib.replaceNum;rw [if_pos (.inl (by decide))];exact rep_path h
theorem jb_count {ws : List ByteArray} : ws ≠ [] → (∀ w ∈ ws, (32 : UInt8) ∉ w.data.toList) → Lib.count (jb ws) [32] + 1 = ws.length := by
 induction ws with
 | nil => intro h; exact absurd rfl h
 | cons w r ih =>
  intro _ hw;have h1 := hw w (by simp);rw [Lib.count_one] at *
  cases r with
  | nil => simp [jb, List.count_eq_zero_of_not_mem h1]
  | cons x r =>
   have h2 := ih (by simp) fun y hy => hw y (List.mem_cons_of_mem _ hy)
   show List.count 32 (w.data.toList ++ 32 :: jb (x :: r)) + 1 = _
   rw [List.count_append, List.count_eq_zero_of_not_mem h1, List.count_cons_self];simp only [List.length_cons] at h2 ⊢;omega
theorem split_jb : ∀ {ws : List ByteArray}, ws ≠ [] → (∀ w ∈ ws, (32 : UInt8) ∉ w.data.toList) → Lib.splitK [32] 0 (ws.length - 1) (jb ws) = ws.map (·.data.toList)
 | [], h, _ => absurd rfl h
 | [w], _, _ => rfl
 | w :: x :: r, _, hw => by
  have h1 := hw w (by simp)
  have h2 := split_jb (ws := x :: r) (by simp) fun y hy => hw y (List.mem_cons_of_mem _ hy)
  have hi : Lib.index (w.data.toList ++ 32 :: jb (x :: r)) [32] = (w.data.toList.length : Nat) := by rw [Lib.index_one, ixb _ _ _ h1]
  show Lib.splitK [32] 0 (r.length + 1) (w.data.toList ++ 32 :: jb (x :: r)) = _
  unfold Lib.splitK
  rw [hi, if_neg (by simp)]
  have e1 : ((w.data.toList.length : Int)).toNat = w.data.toList.length := by simp
  rw [e1, show ∀ a b : List UInt8, (a ++ 32 :: b).drop (a.length + ([32] : List UInt8).length) = b from fun a b => by rw [show a ++ 32 :: b = (a ++ [32]) ++ b by simp]; exact List.drop_left' (by simp), Nat.add_zero, List.take_left]
  rw [show (x :: r).length - 1 = r.length from rfl] at h2
  rw [h2]
  rfl
theorem path_words {k : Nat} {s : ByteArray} {ws : List ByteArray} (h : PathW k s ws) : ws ≠ [] ∧ ∀ w ∈ ws, (32 : UInt8) ∉ w.data.toList := by
 induction h with
 | low h => exact ⟨by simp, fun w hw => by simp at hw; subst hw; exact (nm_no h).2⟩
 | up h => exact ⟨by simp, fun w hw => by simp at hw; subst hw; exact (nm_no h).2⟩
 | more h hp ih =>
  refine ⟨by simp, fun w hw => ?_⟩;rcases List.mem_cons.1 hw with rfl | hw
  · exact (nm_no h).2
  · rcases List.mem_cons.1 hw with rfl | hw
    · decide
    · exact ih.2 w hw
theorem map_data_inj : ∀ {a b : List ByteArray}, a.map (·.data.toList) = b.map (·.data.toList) → a = b
 | [], [], _ => rfl
 | [], _ :: _, h => by simp at h
 | _ :: _, [], h => by simp at h
 | x :: a, y :: b, h => by
  simp only [List.map_cons, List.cons.injEq] at h
  rw [map_data_inj h.2]
  have : x = y := by ext1; exact Array.toList_inj.1 h.1
  rw [this]
theorem split_path {k : Nat} {s : ByteArray} {ws : List ByteArray} (h : PathW k s ws) : Lib.countB ⟨(jb ws).toArray⟩ ⟨#[32]⟩ + 1 = ws.length ∧ Lib.splitB ⟨#[32]⟩ 0 (Lib.countB ⟨(jb ws).toArray⟩ ⟨#[32]⟩) ⟨(jb ws).toArray⟩ = ws := by
 obtain ⟨h1, h2⟩ := path_words h;have hc : Lib.countB ⟨(jb ws).toArray⟩ ⟨#[32]⟩ + 1 = ws.length := jb_count h1 h2;refine ⟨hc, map_data_inj ?_⟩;rw [Lib.splitB_data, show Lib.countB ⟨(jb ws).toArray⟩ ⟨#[32]⟩ = ws.length - 1 by omega];exact split_jb h1 h2
theorem ba_len (w : ByteArray) : w.data.toList.length = w.size := by rw [Array.length_toList]; rfl
theorem jb_len : ∀ (ws : List ByteArray), (jb ws).length ≤ jl ws
 | [] => by simp [jb]
 | [w] => by simp only [jb, jl, ba_len]; omega
 | w :: x :: r => by
  have h := jb_len (x :: r)
  simp only [jb, jl, List.length_append, List.length_cons, ba_len] at *
  omega
theorem path_len {k : Nat} {s : ByteArray} {ws : List ByteArray} (h : PathW k s ws) : s.size + 1 ≤ jl ws := by
 induction h with
 | low h => simp [jl]
 | up h => simp [jl]
 | @more k s t ws h hp ih =>
  have e : (s ++ s_dot ++ t).size = s.size + 1 + t.size := by rw [ByteArray.size_append, ByteArray.size_append]; rfl
  have e2 : s_dot.size = 1 := rfl;simp only [jl]; omega
def PathT (s : ByteArray) (ws : List ByteArray) : Prop := (∃ k, PathW k s ws) ∨ ((s = w_true ∨ s = w_false) ∧ ws = [s])
theorem PathT.rep {s : ByteArray} {ws : List ByteArray} (h : PathT s ws) : Lib.replaceAll s.data.toList [46] [32, 46, 32] = jb ws := by
 rcases h with ⟨k, h⟩ | ⟨rfl | rfl, rfl⟩
 · exact replace_path h
 · decide +kernel
 · decide +kernel
theorem PathT.split {s : ByteArray} {ws : List ByteArray} (h : PathT s ws) : Lib.countB ⟨(jb ws).toArray⟩ ⟨#[32]⟩ + 1 = ws.length ∧ Lib.splitB ⟨#[32]⟩ 0 (Lib.countB ⟨(jb ws).toArray⟩ ⟨#[32]⟩) ⟨(jb ws).toArray⟩ = ws := by
 rcases h with ⟨k, h⟩ | ⟨rfl | rfl, rfl⟩
 · exact split_path h
 · decide +kernel
 · decide +kernel
theorem PathT.len {s : ByteArray} {ws : List ByteArray} (h : PathT s ws) : s.size + 1 ≤ jl ws := by
 rcases h with ⟨k, h⟩ | ⟨rfl | rfl, rfl⟩
 · exact path_len h
 · decide
 · decide
theorem kI {a b : Bool} (h : a = b) : Ending.returned (.bool a) = .returned (.bool b) := by rw [h]
theorem ret_int {k : IntKind} {a b : Int} (h : a = b) : Ending.returned (.int k a) = .returned (.int k b) := by rw [h]
theorem jS (c : Nat) (w : World) : Calls Tryz.prog 172 #[.int .u8 c] w fun e w' => e = .returned (.bool (dig c)) ∧ w = w' := by
 go_enter Tryz.func172, Tryz.ntmps172
 go_wp2
 all_goals
  go_ret
  exact ⟨kI (by rw [Bool.eq_iff_iff]; simp [dig]; omega), rfl⟩
theorem qF (c : Nat) (w : World) : Calls Tryz.prog 175 #[.int .u8 c] w fun e w' => e = .returned (.bool (kf c)) ∧ w = w' := by
 go_enter Tryz.func175, Tryz.ntmps175
 go_wp2
 all_goals
  go_ret
  exact ⟨kI (by rw [Bool.eq_iff_iff]; simp [kf]; omega), rfl⟩
theorem vj (c : Nat) (w : World) : Calls Tryz.prog 176 #[.int .u8 c] w fun e w' => e = .returned (.bool (kB c)) ∧ w = w' := by
 go_enter Tryz.func176, Tryz.ntmps176
 go_wp2
 all_goals
  go_ret
  exact ⟨kI (by rw [Bool.eq_iff_iff]; simp [kB]; omega), rfl⟩
theorem blank_any (c : Nat) (w : World) : Calls Tryz.prog 171 #[.int .u8 c] w fun e w' => e = .returned (.bool (qn c)) ∧ w = w' := by
 go_enter Tryz.func171, Tryz.ntmps171
 go_wp2
 all_goals
  go_ret
  exact ⟨kI (by rw [Bool.eq_iff_iff]; simp [qn]; omega), rfl⟩
theorem inName_any (c : Nat) (w : World) : Calls Tryz.prog 198 #[.int .u8 c] w fun e w' => e = .returned (.bool (jB c)) ∧ w = w' := by
 cases h1 : dig c <;> cases h2 : kf c <;> cases h3 : kB c
 all_goals
  go_enter Tryz.func198, Tryz.ntmps198
  go_wp2_with (first
   | (go_at_call 172; refine (jS _ _).mono ?_; rintro e w' ⟨rfl, rfl⟩)
   | (go_at_call 175; refine (qF _ _).mono ?_; rintro e w' ⟨rfl, rfl⟩)
   | (go_at_call 176; refine (vj _ _).mono ?_; rintro e w' ⟨rfl, rfl⟩))
  all_goals
   go_ret
   exact ⟨kI (by rw [Bool.eq_iff_iff]; simp [jB, h1, h2, h3]; try omega), rfl⟩
theorem str_eq (a b : ByteArray) : (a.toList == b.toList) = decide (a = b) := by
 rw [Bool.eq_iff_iff];simp only [beq_iff_eq, decide_eq_true_eq, ByteArray.toList_eq];constructor
 · intro h;exact ByteArray.ext (Array.ext' h)
 · intro h; rw [h]
def atD (s : ByteArray) (i : Nat) (t : ByteArray) : Bool := decide (i + t.size ≤ s.size ∧ cut s i (i + t.size) = t)
theorem at_any (s : ByteArray) (i : Nat) (t : ByteArray) (w : World) (hs : s.size ≤ 4000) (hi : i ≤ s.size) (ht : t.size ≤ 4000000000) :
 Calls Tryz.prog 169 #[.string s, .int .i64 i, .string t] w fun e w' => e = .returned (.bool (atD s i t)) ∧ w = w' := by
 have hw : IntKind.i64.wrap ((i : Int) + t.size) = i + t.size := IntWalk.i64_in _ (by omega)
 by_cases h : i + t.size ≤ s.size
 · have hd : decide ((i : Int) + t.size ≤ s.size) = true := (by simp; omega);have k0 : (0 : Int) ≤ (i : Int) := (by omega);have k1 : (i : Int) ≤ (i : Int) + t.size := (by omega);have k2 : (i : Int) + t.size ≤ (s.size : Int) := (by omega);go_enter Tryz.func169, Tryz.ntmps169
   go_wp2
   all_goals
    go_ret
    refine ⟨kI ?_, rfl⟩;rw [str_eq, Bool.eq_iff_iff];simp [atD, cut, h]
 · have hd : decide ((i : Int) + t.size ≤ s.size) = false := (by simp; omega);go_enter Tryz.func169, Tryz.ntmps169
   go_wp2
   all_goals
    go_ret
    refine ⟨kI ?_, rfl⟩;simp [atD, h]
theorem cut_two (s : ByteArray) (k : Nat) (h : k + 2 ≤ s.size) : cut s k (k + 2) = ⟨#[s[k], s[k + 1]]⟩ := by
 have hz := sizeL s;apply ByteArray.ext
 apply Array.ext'
 have h1 : k < s.data.toList.length := by omega
 have h2 : k + 1 < s.data.toList.length := by omega
 simp only [cut, ByteArray.data_extract, Array.toList_extract];rw [List.extract_eq_take_drop, List.drop_eq_getElem_cons h1, show k + 2 - k = 2 from by omega, List.drop_eq_getElem_cons h2];rfl
theorem u8_eq (a b : UInt8) : a = b ↔ a.toNat = b.toNat := UInt8.toNat_inj.symm
theorem atD_two (s : ByteArray) (k : Nat) (a b : UInt8) : atD s k ⟨#[a, b]⟩ = qf s k a.toNat b.toNat := by
 have e : (⟨#[a, b]⟩ : ByteArray).size = 2 := rfl;unfold atD qf;rw [e]
 by_cases h : k + 2 ≤ s.size
 · rw [cut_two s k h, ← kQ s k (by omega), ← kQ s (k + 1) (by omega), Bool.eq_iff_iff];simp [u8_eq, h]
 · simp [h]
theorem at2_any (s : ByteArray) (i : Nat) (a b : UInt8) (w : World) (hs : s.size ≤ 4000) (hi : i ≤ s.size) :
 Calls Tryz.prog 169 #[.string s, .int .i64 i, .string ⟨#[a, b]⟩] w fun e w' => e = .returned (.bool (qf s i a.toNat b.toNat)) ∧ w = w' := by
 rw [← atD_two];exact at_any s i ⟨#[a, b]⟩ w hs hi (by show 2 ≤ _; omega)
theorem vD (s : ByteArray) (i : Nat) (w : World) (hs : s.size ≤ 4000) (hi : i ≤ s.size) :
 Calls Tryz.prog 169 #[.string s, .int .i64 i, .string ⟨#[40, 42]⟩] w fun e w' => e = .returned (.bool (qf s i 40 42)) ∧ w = w' := at2_any s i 40 42 w hs hi
theorem at_close (s : ByteArray) (i : Nat) (w : World) (hs : s.size ≤ 4000) (hi : i ≤ s.size) :
 Calls Tryz.prog 169 #[.string s, .int .i64 i, .string ⟨#[42, 41]⟩] w fun e w' => e = .returned (.bool (qf s i 42 41)) ∧ w = w' := at2_any s i 42 41 w hs hi
def comI (s : ByteArray) (i : Nat) : Int := match comD s i 0 with | some j => j | none => -1
theorem comment_any (s : ByteArray) (i0 : Nat) (w : World) (hs : s.size ≤ 4000) (hh : qf s i0 40 42 = true) :
 Calls Tryz.prog 170 #[.string s, .int .i64 i0] w fun e w' => e = .returned (.int .i64 (comI s i0)) ∧ w = w' := by
 have hi0 := (vy hh).1;have HH := lh hh;clear hh;go_enter Tryz.func170, Tryz.ntmps170
 go_wp2_with fail
 go_loop [1, 5] (fun i o => ∃ k q : Nat, k ≤ s.size ∧ q ≤ k ∧ i = .int .i64 k ∧ o = .int .i64 q ∧ ((k = i0 ∧ q = 0) ∨ 1 ≤ q) ∧ comD s k q = comD s i0 0) (fun i _ => s.size - (intOf i).toNat)
 case atStart => exact ⟨i0, 0, by omega, by omega, rfl, rfl, .inl ⟨rfl, rfl⟩, rfl⟩
 case round =>
  obtain ⟨k, q, hk, hq, rfl, rfl, hor, hc⟩ := hrel;have HC := lh hc;have HOR := lh hor;clear hc hor
  by_cases hlt : k < s.size
  · cases hb : qf s k 40 42 with
    | true =>
     have hst := comD_open (o := q) hlt hb;have HST := lh hst;have hp := (vy hb).1;have hz : ((q : Int) + 1 == 0) = false := (by simp; omega);clear hst;go_wp2_with fail
     refine (vD s k _ hs hk).mono ?_;rintro e w' ⟨rfl, rfl⟩;go_wp2_with fail
     refine (at_close s k _ hs hk).mono ?_;rintro e w' ⟨rfl, rfl⟩;go_wp2_with fail
     go_round
     case rel => exact ⟨k + 2, q + 1, by omega, by omega, by go_num, by go_num, .inr (by omega), by rw [← HC.out, HST.out]⟩
     case measure => simp [intOf]; omega
    | false =>
     have hq1 : 1 ≤ q := by
      rcases HOR.out with ⟨rfl, _⟩ | h
      · have := HH.out; rw [hb] at this; cases this
      · exact h
     cases he : qf s k 42 41 with
     | true =>
      have hst := comD_close (o := q) hlt he;have HST := lh hst;have hp := (vy he).1;clear hst
      by_cases h1 : q = 1
      · subst h1;go_wp2_with fail
        refine (vD s k _ hs hk).mono ?_;rintro e w' ⟨rfl, rfl⟩;go_wp2_with fail
        refine (at_close s k _ hs hk).mono ?_;rintro e w' ⟨rfl, rfl⟩;go_wp2_with fail
        go_ret
        refine ⟨ret_int ?_, rfl⟩;unfold comI;rw [← HC.out, HST.out];simp
      · have hz : ((q : Int) - 1 == 0) = false := (by simp; omega);have hk1 : (0 : Int) ≤ (q : Int) - 1 := (by omega);have H1 := lh h1;clear h1;go_wp2_with fail
        refine (vD s k _ hs hk).mono ?_;rintro e w' ⟨rfl, rfl⟩;go_wp2_with fail
        refine (at_close s k _ hs hk).mono ?_;rintro e w' ⟨rfl, rfl⟩;go_wp2_with fail
        go_round
        case rel => exact ⟨k + 2, q - 1, by omega, by omega, by go_num, by rw [show ((q - 1 : Nat) : Int) = (q : Int) - 1 from by omega], .inr (by have := H1.out; omega), by rw [← HC.out, HST.out, if_neg H1.out]⟩
        case measure => simp [intOf]; omega
     | false =>
      have hst := comD_else (o := q) hlt hb he;rw [if_neg (by omega)] at hst;have HST := lh hst;have hz : ((q : Int) == 0) = false := (by simp; omega);clear hst;go_wp2_with fail
      refine (vD s k _ hs hk).mono ?_;rintro e w' ⟨rfl, rfl⟩;go_wp2_with fail
      refine (at_close s k _ hs hk).mono ?_;rintro e w' ⟨rfl, rfl⟩;go_wp2_with fail
      go_round
      case rel => exact ⟨k + 1, q, by omega, by omega, by go_num, rfl, .inr hq1, by rw [← HC.out, HST.out]⟩
      case measure => simp [intOf]; omega
  · obtain rfl : k = s.size := by omega
    have hst := comD_end (s := s) (i := s.size) (o := q) (Nat.le_refl _);have HST := lh hst;clear hst;go_wp2_with fail
    go_ret
    refine ⟨ret_int ?_, rfl⟩;unfold comI;rw [← HC.out, HST.out]
def blankGap (s : ByteArray) (i : Nat) : Value := .tuple #[.int .i64 (gapD s i).1, .bool (gapD s i).2]
theorem rgap_any (s : ByteArray) (i0 : Nat) (w : World) (hs : s.size ≤ 4000) (hi : i0 ≤ s.size) :
 Calls Tryz.prog 141 #[.string s, .int .i64 i0] w fun e w' => e = .returned (blankGap s i0) ∧ w = w' := by
 go_enter Tryz.func141, Tryz.ntmps141
 go_wp2_with fail
 go_loop [1] (fun i => ∃ k : Nat, k ≤ s.size ∧ i = .int .i64 k ∧ gapD s k = gapD s i0) (fun i => s.size - (intOf i).toNat)
 case atStart => exact ⟨i0, hi, rfl, rfl⟩
 case round =>
  obtain ⟨k, hk, rfl, hc⟩ := hrel;have HC := lh hc;clear hc
  by_cases hlt : k < s.size
  · cases hb : qf s k 40 42 with
    | true =>
     cases hcm : comD s k 0 with
     | none =>
      have hst := gapD_bad hb hcm;have HST := lh hst;have hci : comI s k = -1 := (by unfold comI; rw [hcm]);clear hst hcm;go_wp2_with fail
      refine (vD s k _ hs hk).mono ?_;rintro e w' ⟨rfl, rfl⟩;go_wp2_with fail
      refine (comment_any s k _ hs hb).mono ?_;rintro e w' ⟨rfl, rfl⟩;go_wp2_with fail
      go_ret2
      unfold blankGap;rw [← HC.out, HST.out];exact ⟨rfl, rfl⟩
     | some j =>
      have hst := gapD_com hb hcm;have hj := comD_lt _ _ hcm;have HST := lh hst;have hci : comI s k = j := (by unfold comI; rw [hcm]);have hj0 : (0 : Int) ≤ (j : Int) := (by omega);clear hst hcm;go_wp2_with fail
      refine (vD s k _ hs hk).mono ?_;rintro e w' ⟨rfl, rfl⟩;go_wp2_with fail
      refine (comment_any s k _ hs hb).mono ?_;rintro e w' ⟨rfl, rfl⟩;go_wp2_with fail
      go_round
      case rel => exact ⟨j, by omega, rfl, by rw [← HC.out, HST.out]⟩
      case measure => simp [intOf]; omega
    | false =>
     have k1 : (k : Int) < (s.size : Int) := (by omega);have k0 : (0 : Int) ≤ (k : Int) := by omega
     cases hbl : qn (bt s k) with
     | true =>
      have hst := gapD_blank hlt hbl;have HST := lh hst;clear hst;go_wp2_with fail
      refine (vD s k _ hs hk).mono ?_;rintro e w' ⟨rfl, rfl⟩;go_wp2_with fail
      refine (blank_any _ _).mono ?_;rintro e w' ⟨rfl, rfl⟩;rw [kQ s k hlt];go_wp2_with fail
      go_round
      case rel => exact ⟨k + 1, by omega, by go_num, by rw [← HC.out, HST.out]⟩
      case measure => simp [intOf]; omega
     | false =>
      have hst := gapD_stop hb (fun _ => hbl);have HST := lh hst;clear hst;go_wp2_with fail
      refine (vD s k _ hs hk).mono ?_;rintro e w' ⟨rfl, rfl⟩;go_wp2_with fail
      refine (blank_any _ _).mono ?_;rintro e w' ⟨rfl, rfl⟩;rw [kQ s k hlt];go_wp2_with fail
      go_ret2
      unfold blankGap;rw [← HC.out, HST.out];exact ⟨rfl, rfl⟩
  · have hst := gapD_end (s := s) (i := k) (by omega);have HST := lh hst;clear hst;go_wp2_with fail
    go_ret2
    unfold blankGap;rw [← HC.out, HST.out];exact ⟨rfl, rfl⟩
theorem name_any (s : ByteArray) (i0 : Nat) (w : World) (hs : s.size ≤ 4000) (hi : i0 ≤ s.size) :
 Calls Tryz.prog 177 #[.string s, .int .i64 i0] w fun e w' => e = .returned (.int .i64 (whD s jB i0)) ∧ w = w' := by
 go_enter Tryz.func177, Tryz.ntmps177
 go_wp2_with fail
 go_loop [1] (fun i => ∃ k : Nat, k ≤ s.size ∧ i = .int .i64 k ∧ whD s jB k = whD s jB i0) (fun i => s.size - (intOf i).toNat)
 case atStart => exact ⟨i0, hi, rfl, rfl⟩
 case round =>
  obtain ⟨k, hk, rfl, hc⟩ := hrel;have HC := lh hc;clear hc;have k0 : (0 : Int) ≤ (k : Int) := by omega
  by_cases hlt : k < s.size
  · have k1 : (k : Int) < (s.size : Int) := by omega
    cases hb : jB (bt s k) with
    | true =>
     have hst := kS hlt hb;have HST := lh hst;clear hst;go_wp2_with fail
     refine (inName_any _ _).mono ?_;rintro e w' ⟨rfl, rfl⟩;rw [kQ s k hlt];go_wp2_with fail
     go_round
     case rel => exact ⟨k + 1, by omega, by go_num, by rw [← HC.out, HST.out]⟩
     case measure => simp [intOf]; omega
    | false =>
     have hst := vm hlt hb;have HST := lh hst;clear hst;go_wp2_with fail
     refine (inName_any _ _).mono ?_;rintro e w' ⟨rfl, rfl⟩;rw [kQ s k hlt];go_wp2_with fail
     go_ret
     exact ⟨ret_int (by rw [← HC.out, HST.out]), rfl⟩
  · have hst := vC (s := s) (p := jB) (i := k) (by omega);have HST := lh hst;clear hst;go_wp2_with fail
    go_ret
    exact ⟨ret_int (by rw [← HC.out, HST.out]), rfl⟩
def vfD (s : ByteArray) (i : Nat) : Nat := if tokD.hasQ s (i + 1) then i + 2 else i + 1
def varI (s : ByteArray) (i : Nat) : Int := if vfD s i < varD s (vfD s i) (vfD s i) ∧ varD s (vfD s i) (vfD s i) - vfD s i ≤ 20 then varD s (vfD s i) (vfD s i) else -1
theorem rvariable_any (s : ByteArray) (i0 : Nat) (w : World) (hs : s.size ≤ 4000) (hi : i0 < s.size) :
 Calls Tryz.prog 174 #[.string s, .int .i64 i0] w fun e w' => e = .returned (.int .i64 (varI s i0)) ∧ w = w' := by
 obtain ⟨f0, hf0⟩ : ∃ f0, f0 = vfD s i0 := ⟨_, rfl⟩
 have hfs : f0 ≤ s.size ∧ i0 < f0 := by
  rw [hf0]; unfold vfD;split
  · rename_i h; simp [tokD.hasQ] at h; omega
  · omega
 obtain ⟨hfs, hfi⟩ := hfs;have hv : varI s i0 = if f0 < varD s f0 f0 ∧ varD s f0 f0 - f0 ≤ 20 then (varD s f0 f0 : Int) else -1 := by unfold varI; rw [hf0]
 have HV := lh hv;have hq0 : (0 : Int) ≤ (i0 : Int) + 1 := by omega
 have hqn : ((i0 : Int) + 1).toNat = i0 + 1 := by omega
 have HR : Hid (∀ k, varD s f0 f0 = k → f0 ≤ k → (((k : Int) == (f0 : Int)) = true ∧ varI s i0 = -1) ∨ ((((k : Int) == (f0 : Int)) = false ∧ decide ((20 : Int) < (k : Int) - f0) = false) ∧ varI s i0 = k) ∨ ((((k : Int) == (f0 : Int)) = false ∧ decide ((20 : Int) < (k : Int) - f0) = true) ∧ varI s i0 = -1)) := lh (by
  intro k h h2;rw [hv, h]
  by_cases hkf : k = f0
  · exact .inl ⟨by simp [hkf], if_neg (by omega)⟩
  by_cases h20 : k - f0 ≤ 20
  · exact .inr (.inl ⟨⟨by simp; omega, by simp; omega⟩, if_pos (by omega)⟩)
  · exact .inr (.inr ⟨⟨by simp; omega, by simp; omega⟩, if_neg (by omega)⟩))
 clear hv HV;unfold vfD at hf0;rcases (by omega : ¬ i0 + 1 < s.size ∨ i0 + 1 < s.size) with hl | hl
 focus
  have hl1 : ¬ (i0 : Int) + 1 < (s.size : Int) := by omega
  have e0 : f0 = i0 + 1 := by rw [hf0, if_neg (by simp [tokD.hasQ]; omega)]
  have HE := lh e0;clear e0 hf0;go_enter Tryz.func174, Tryz.ntmps174
  go_wp2_with fail
  simp only [show (i0 : Int) + 1 = (f0 : Int) from by rw [HE.out]; rfl]
 rotate_left
 have hl1 : (i0 : Int) + 1 < (s.size : Int) := by omega
 by_cases h39 : bt s (i0 + 1) = 39
 focus
  have e0 : f0 = i0 + 2 := by rw [hf0, if_pos (by simp [tokD.hasQ, hl, h39])]
  have hb : (((s[i0 + 1]'hl).toNat : Int) == 39) = true := by rw [kQ s (i0 + 1) hl, h39]; rfl
  have HE := lh e0;clear e0 hf0 h39;go_enter Tryz.func174, Tryz.ntmps174
  go_wp2_with fail
  rw [show (i0 : Int) + 1 + 1 = (f0 : Int) from by rw [HE.out]; push_cast; omega]
 rotate_left
 focus
  have e0 : f0 = i0 + 1 := by rw [hf0, if_neg (by simp [tokD.hasQ, hl, h39])]
  have hb : (((s[i0 + 1]'hl).toNat : Int) == 39) = false := by rw [kQ s (i0 + 1) hl]; simp; omega
  have HE := lh e0;clear e0 hf0 h39;go_enter Tryz.func174, Tryz.ntmps174
  go_wp2_with fail
  simp only [show (i0 : Int) + 1 = (f0 : Int) from by rw [HE.out]; rfl]
 all_goals
  go_loop [1] (fun i => ∃ k : Nat, f0 ≤ k ∧ k ≤ s.size ∧ i = .int .i64 k ∧ varD s f0 k = varD s f0 f0) (fun i => s.size - (intOf i).toNat)
  case atStart => exact ⟨f0, Nat.le_refl _, hfs, rfl, rfl⟩
  case round =>
   obtain ⟨k, hfk, hk, rfl, hc⟩ := hrel;have HC := lh hc;clear hc;have k0 : (0 : Int) ≤ (k : Int) := by omega
   by_cases hlt : k < s.size
   · have k1 : (k : Int) < (s.size : Int) := (by omega);have hbt := kQ s k hlt
     by_cases hgo : (kf (bt s k) || (decide (f0 < k) && dig (bt s k))) = true
     · have HST := lh (varD_step (f := f0) hlt hgo)
       have hcs : kf (bt s k) = true ∨ (kf (bt s k) = false ∧ dig (bt s k) = true ∧ f0 < k ∧ decide ((f0 : Int) < (k : Int)) = true) := by
        cases hsm : kf (bt s k) with
        | true => exact .inl rfl
        | false => rw [hsm] at hgo; simp at hgo; exact .inr ⟨rfl, hgo.2, hgo.1, by simp; omega⟩
       clear hgo;rcases hcs with hsm | ⟨hsm, hdg, hff, hd⟩
       all_goals
        go_wp2_with (first | (go_at_call 175; refine (qF _ _).mono ?_; rintro e w' ⟨rfl, rfl⟩) | (go_at_call 172; refine (jS _ _).mono ?_; rintro e w' ⟨rfl, rfl⟩))
        go_round
        case rel => exact ⟨k + 1, by omega, by omega, by go_num, by rw [← HC.out, HST.out]⟩
        case measure => simp [intOf]; omega
     · have hst := qI (s := s) (f := f0) (i := k) (fun _ => by simpa using hgo)
       have hcs : kf (bt s k) = false ∧ ((¬ f0 < k ∧ decide ((f0 : Int) < (k : Int)) = false) ∨ (dig (bt s k) = false ∧ f0 < k ∧ decide ((f0 : Int) < (k : Int)) = true)) := by
        simp at hgo
        refine ⟨hgo.1, ?_⟩
        by_cases hff : f0 < k
        · exact .inr ⟨hgo.2 hff, hff, by simp; omega⟩
        · exact .inl ⟨hff, by simp; omega⟩
       obtain ⟨hsm, hcs⟩ := hcs;have hr := HR.out k (by rw [← HC.out, hst]) hfk;clear hst hgo;rcases hcs with ⟨hff, hd⟩ | ⟨hdg, hff, hd⟩
       all_goals
        rcases hr with ⟨hb1, hr⟩ | ⟨⟨hb1, hd20⟩, hr⟩ | ⟨⟨hb1, hd20⟩, hr⟩
        all_goals
         have HR2 := lh hr;clear hr;go_wp2_with (first | (go_at_call 175; refine (qF _ _).mono ?_; rintro e w' ⟨rfl, rfl⟩) | (go_at_call 172; refine (jS _ _).mono ?_; rintro e w' ⟨rfl, rfl⟩))
         go_ret
         exact ⟨ret_int HR2.out.symm, rfl⟩
   · have hst := qI (s := s) (f := f0) (i := k) (fun h => absurd h hlt);have hr := HR.out k (by rw [← HC.out, hst]) hfk;clear hst;rcases hr with ⟨hb1, hr⟩ | ⟨⟨hb1, hd20⟩, hr⟩ | ⟨⟨hb1, hd20⟩, hr⟩
     all_goals
      have HR2 := lh hr;clear hr;go_wp2_with fail
      go_ret
      exact ⟨ret_int HR2.out.symm, rfl⟩
def wordB : List ByteArray := [⟨#[97, 110, 100]⟩, ⟨#[97, 110, 100, 97, 108, 115, 111]⟩, ⟨#[97, 115]⟩, ⟨#[99, 97, 115, 101]⟩, ⟨#[100, 97, 116, 97]⟩, ⟨#[101, 108, 115, 101]⟩, ⟨#[101, 110, 100]⟩, ⟨#[101, 120, 99, 101, 112, 116, 105, 111, 110]⟩, ⟨#[102, 97, 108, 115, 101]⟩, ⟨#[102, 110]⟩, ⟨#[102, 117, 110]⟩, ⟨#[105, 102]⟩, ⟨#[105, 110]⟩, ⟨#[108, 101, 116]⟩, ⟨#[111, 102]⟩, ⟨#[111, 112, 101, 110]⟩, ⟨#[111, 114, 101, 108, 115, 101]⟩, ⟨#[114, 97, 105, 115, 101]⟩, ⟨#[115, 105, 103]⟩, ⟨#[115, 105, 103, 110, 97, 116, 117, 114, 101]⟩, ⟨#[115, 116, 114, 117, 99, 116]⟩, ⟨#[115, 116, 114, 117, 99, 116, 117, 114, 101]⟩, ⟨#[116, 104, 101, 110]⟩, ⟨#[116, 114, 117, 101]⟩, ⟨#[116, 114, 121]⟩, ⟨#[116, 121, 112, 101]⟩, ⟨#[118, 97, 108]⟩, ⟨#[119, 105, 116, 104]⟩]
def signB : List ByteArray := [⟨#[61, 62]⟩, ⟨#[45, 62]⟩, ⟨#[58, 61]⟩, ⟨#[58, 58]⟩, ⟨#[58, 62]⟩, ⟨#[60, 62]⟩, ⟨#[60, 61]⟩, ⟨#[62, 61]⟩, ⟨#[40]⟩, ⟨#[41]⟩, ⟨#[91]⟩, ⟨#[93]⟩, ⟨#[44]⟩, ⟨#[59]⟩, ⟨#[58]⟩, ⟨#[124]⟩, ⟨#[61]⟩, ⟨#[60]⟩, ⟨#[62]⟩, ⟨#[43]⟩, ⟨#[45]⟩, ⟨#[42]⟩, ⟨#[47]⟩, ⟨#[37]⟩, ⟨#[94]⟩, ⟨#[126]⟩, ⟨#[33]⟩, ⟨#[46]⟩]
abbrev wordV : Array Value := #[.string ⟨#[97, 110, 100]⟩, .string ⟨#[97, 110, 100, 97, 108, 115, 111]⟩, .string ⟨#[97, 115]⟩, .string ⟨#[99, 97, 115, 101]⟩, .string ⟨#[100, 97, 116, 97]⟩, .string ⟨#[101, 108, 115, 101]⟩, .string ⟨#[101, 110, 100]⟩, .string ⟨#[101, 120, 99, 101, 112, 116, 105, 111, 110]⟩, .string ⟨#[102, 97, 108, 115, 101]⟩, .string ⟨#[102, 110]⟩, .string ⟨#[102, 117, 110]⟩, .string ⟨#[105, 102]⟩, .string ⟨#[105, 110]⟩, .string ⟨#[108, 101, 116]⟩, .string ⟨#[111, 102]⟩, .string ⟨#[111, 112, 101, 110]⟩, .string ⟨#[111, 114, 101, 108, 115, 101]⟩, .string ⟨#[114, 97, 105, 115, 101]⟩, .string ⟨#[115, 105, 103]⟩, .string ⟨#[115, 105, 103, 110, 97, 116, 117, 114, 101]⟩, .string ⟨#[115, 116, 114, 117, 99, 116]⟩, .string ⟨#[115, 116, 114, 117, 99, 116, 117, 114, 101]⟩, .string ⟨#[116, 104, 101, 110]⟩, .string ⟨#[116, 114, 117, 101]⟩, .string ⟨#[116, 114, 121]⟩, .string ⟨#[116, 121, 112, 101]⟩, .string ⟨#[118, 97, 108]⟩, .string ⟨#[119, 105, 116, 104]⟩]
abbrev signV : Array Value := #[.string ⟨#[61, 62]⟩, .string ⟨#[45, 62]⟩, .string ⟨#[58, 61]⟩, .string ⟨#[58, 58]⟩, .string ⟨#[58, 62]⟩, .string ⟨#[60, 62]⟩, .string ⟨#[60, 61]⟩, .string ⟨#[62, 61]⟩, .string ⟨#[40]⟩, .string ⟨#[41]⟩, .string ⟨#[91]⟩, .string ⟨#[93]⟩, .string ⟨#[44]⟩, .string ⟨#[59]⟩, .string ⟨#[58]⟩, .string ⟨#[124]⟩, .string ⟨#[61]⟩, .string ⟨#[60]⟩, .string ⟨#[62]⟩, .string ⟨#[43]⟩, .string ⟨#[45]⟩, .string ⟨#[42]⟩, .string ⟨#[47]⟩, .string ⟨#[37]⟩, .string ⟨#[94]⟩, .string ⟨#[126]⟩, .string ⟨#[33]⟩, .string ⟨#[46]⟩]
theorem words_any (w : World) : Calls Tryz.prog 178 #[] w fun e w' => e = .returned (.slice (some ⟨w.heap.size, 0, none⟩) 28 28) ∧ w' = w.alloc (.cells wordV 9) := by
 go_enter Tryz.func178, Tryz.ntmps178
 go_wp2
 go_ret
 exact ⟨rfl, rfl⟩
theorem signs_any (w : World) : Calls Tryz.prog 179 #[] w fun e w' => e = .returned (.slice (some ⟨w.heap.size, 0, none⟩) 28 28) ∧ w' = w.alloc (.cells signV 9) := by
 go_enter Tryz.func179, Tryz.ntmps179
 go_wp2
 go_ret
 exact ⟨rfl, rfl⟩
def StrsAt (w : World) (b : Nat) (l : List ByteArray) : Prop := ∀ k, k < l.length → w.cell? ⟨b, k, none⟩ = some (.string (l.getD k ByteArray.empty))
theorem strs_new (w : World) (l : List ByteArray) (c : Array Value) (t : TypeId) (h : c = (l.map Value.string).toArray) : StrsAt (w.alloc (.cells c t)) w.heap.size l := by
 subst h;intro k hk;rw [ja (heap_alloc_new w _)];simp [hk]
theorem words_at (w : World) : StrsAt (w.alloc (.cells wordV 9)) w.heap.size wordB := strs_new w _ _ _ rfl
theorem signs_at (w : World) : StrsAt (w.alloc (.cells signV 9)) w.heap.size signB := strs_new w _ _ _ rfl
def ve (l : List ByteArray) (s : ByteArray) : Bool := l.any fun x => decide (x = s)
theorem amongD_drop (l : List ByteArray) (s : ByteArray) (k : Nat) (h : k < l.length) : ve (l.drop k) s = (decide (l.getD k ByteArray.empty = s) || ve (l.drop (k + 1)) s) := by
 rw [List.drop_eq_getElem_cons h];have e : l.getD k ByteArray.empty = l[k] := by rw [List.getD_eq_getElem?_getD, List.getElem?_eq_getElem h]; rfl
 rw [e];rfl
theorem among_any (l : List ByteArray) (b : Nat) (s : ByteArray) (w : World) (hl : StrsAt w b l) (hn : l.length ≤ 4000) :
 Calls Tryz.prog 143 #[.slice (some ⟨b, 0, none⟩) l.length l.length, .string s] w fun e w' => e = .returned (.bool (ve l s)) ∧ w = w' := by
 have HL := lh hl;clear hl;go_enter Tryz.func143, Tryz.ntmps143
 go_wp2_with fail
 go_loop [5] (fun i => ∃ k : Nat, k ≤ l.length ∧ i = .int .i64 k ∧ ve (l.drop k) s = ve l s) (fun i => l.length - (intOf i).toNat)
 case atStart => exact ⟨0, Nat.zero_le _, rfl, rfl⟩
 case round =>
  obtain ⟨k, hk, rfl, hc⟩ := hrel;have HC := lh hc;clear hc
  by_cases hlt : k < l.length
  · have k0 : (0 : Int) ≤ (k : Int) := (by omega);have k1 : (k : Int) < (l.length : Int) := (by omega);have hcell := HL.out k hlt;have hst := amongD_drop l s k hlt;generalize l.getD k ByteArray.empty = x at hcell hst;have HST := lh hst;clear hst
    cases hx : decide (x = s) with
    | true =>
     have hb : (x.toList == s.toList) = true := (by rw [str_eq, hx]);have HX := lh hx;clear hx;go_wp2_with fail
     go_ret
     exact ⟨kI (by rw [← HC.out, HST.out, HX.out]; rfl), rfl⟩
    | false =>
     have hb : (x.toList == s.toList) = false := (by rw [str_eq, hx]);have HX := lh hx;clear hx;go_wp2_with fail
     go_round
     case rel => exact ⟨k + 1, by omega, by go_num, by rw [← HC.out, HST.out, HX.out]; rfl⟩
     case measure => simp [intOf]; omega
  · obtain rfl : k = l.length := by omega
    go_wp2_with fail
    go_ret
    exact ⟨kI (by rw [← HC.out, List.drop_length]; rfl), rfl⟩
def textV (s : ByteArray) (i : Nat) : Value := match textD s (i + 1) [] with
 | some (r, j) => .tuple #[.string ⟨r.toArray⟩, .int .i64 j]
 | none => .tuple #[.string ⟨#[]⟩, .int .i64 (-1)]
theorem qo {s : ByteArray} {k c : Nat} (h : k < s.size) (hc : c = bt s k) : (s[k]'h).toNat = c := by rw [hc, kQ]
theorem str_app (l : List UInt8) (s : ByteArray) (k : Nat) (h : k < s.size) : (⟨l.toArray⟩ : ByteArray) ++ s.extract k (k + 1) = ⟨(l ++ [UInt8.ofNat (bt s k)]).toArray⟩ := by
 have hz := sizeL s;have h1 : k < s.data.toList.length := by omega
 apply ByteArray.ext
 apply Array.ext'
 simp only [ByteArray.data_append, ByteArray.data_extract, Array.toList_append, Array.toList_extract];rw [List.extract_eq_take_drop, List.drop_eq_getElem_cons h1, show k + 1 - k = 1 from by omega];simp only [List.take_succ_cons, List.take_zero]
 congr 2
 rw [← kQ s k h, UInt8.ofNat_toNat];rfl
theorem vA (l : List UInt8) (b : UInt8) : (⟨l.toArray⟩ : ByteArray) ++ ⟨#[b]⟩ = ⟨(l ++ [b]).toArray⟩ := by
 apply ByteArray.ext
 apply Array.ext'
 simp [ByteArray.data_append]
def TxRel (s : ByteArray) (w : World) (i0 : Nat) (i o : Value) (wr : World) : Prop :=
 ∃ (k : Nat) (l : List UInt8), k ≤ s.size ∧ l.length ≤ k ∧ i = .int .i64 k ∧ o = .string ⟨l.toArray⟩ ∧ textD s k l = textD s (i0 + 1) [] ∧ Below w.heap.size w wr
theorem kz {s : ByteArray} {i : Nat} (h : textD s (i + 1) [] = none) : textV s i = .tuple #[.string ⟨#[]⟩, .int .i64 (-1)] := by unfold textV; rw [h]
theorem textV_some {s : ByteArray} {i j : Nat} {r : List UInt8} (h : textD s (i + 1) [] = some (r, j)) : textV s i = .tuple #[.string ⟨r.toArray⟩, .int .i64 j] := by unfold textV; rw [h]
theorem rtext_any (s : ByteArray) (i0 : Nat) (w : World) (hs : s.size ≤ 4000) (hi : i0 < s.size) :
 Calls Tryz.prog 173 #[.string s, .int .i64 i0] w fun e w' => e = .returned (textV s i0) ∧ Below w.heap.size w w' := by
 go_enter Tryz.func173, Tryz.ntmps173
 go_wp2_with fail
 go_loopw [1, 6] (fun i o wr => TxRel s w i0 i o wr) (fun i _ _ => s.size - (intOf i).toNat)
 case atStart => exact ⟨i0 + 1, [], by omega, Nat.zero_le _, by go_num, rfl, rfl, Below.refl _ _⟩
 case round =>
  obtain ⟨k, l, hk, hl, rfl, rfl, hc, hb⟩ := hrel;have HC := lh hc;have HB := lh hb;clear hc hb;have k0 : (0 : Int) ≤ (k : Int) := by omega
  have hsz : (⟨l.toArray⟩ : ByteArray).size = l.length := by simp [ByteArray.size]
  by_cases hlt : k < s.size
  · have k1 : (k : Int) < (s.size : Int) := (by omega);obtain ⟨c, hcb⟩ : ∃ c, c = bt s k := ⟨_, rfl⟩
    have hck := qo hlt hcb;have HCB := lh hcb;clear hcb
    by_cases c34 : c = 34
    · have e34 : ((c : Int) == 34) = true := (by simp [c34]);have hst := textD_quote (l := l) hlt (by rw [← HCB.out]; exact c34);have HST := lh hst;clear hst c34
      by_cases h2 : l.length ≤ 200
      · have hd : decide ((200 : Int) < (l.length : Int)) = false := (by simp; omega);go_wp2_with fail
        go_ret2
        rw [textV_some (r := l) (j := k + 1) (by rw [← HC.out, HST.out, if_pos h2])];exact ⟨rfl, HB.out⟩
      · have hd : decide ((200 : Int) < (l.length : Int)) = true := (by simp; omega);go_wp2_with fail
        go_ret2
        rw [kz (by rw [← HC.out, HST.out, if_neg h2])];exact ⟨rfl, HB.out⟩
    · have e34 : ((c : Int) == 34) = false := by simp; omega
      by_cases c32 : c < 32
      · have e32 : decide ((c : Int) < 32) = true := (by simp; omega);have hst := textD_low (l := l) hlt (by rw [← HCB.out]; exact c32);have HST := lh hst;clear hst c34 c32;go_wp2_with fail
        go_ret2
        rw [kz (by rw [← HC.out, HST.out])];exact ⟨rfl, HB.out⟩
      · have e32 : decide ((c : Int) < 32) = false := by simp; omega
        by_cases c92 : c = 92
        · skip
          have e92 : ((c : Int) != 92) = false := by simp [c92]
          by_cases h1 : k + 1 < s.size
          · have k2 : (0 : Int) ≤ (k : Int) + 1 := (by omega);have k3 : (k : Int) + 1 < (s.size : Int) := (by omega);have k4 : ((k : Int) + 1).toNat = k + 1 := (by omega);obtain ⟨d, hdb⟩ : ∃ d, d = bt s (k + 1) := ⟨_, rfl⟩
            have hdk := qo h1 hdb;have HDB := lh hdb;clear hdb
            by_cases d110 : d = 110
            · have f110 : ((d : Int) == 110) = true := (by simp [d110]);have hst := vQ (l := l) (v := 10) (j := k + 1 + 1) hlt (by rw [← HCB.out]; exact c92) (by unfold escD; rw [if_pos h1, ← HDB.out, if_pos d110]);have HST := lh hst;clear hst d110 c92 c34 c32;go_wp2_with fail
              go_roundw
              case rel =>
               refine ⟨k + 2, l ++ [UInt8.ofNat 10], by omega, by simp; omega, by go_num, by rw [vA]; rfl, ?_, HB.out⟩;rw [← HC.out, HST.out]
              case measure => simp [intOf]; omega
            · have f110 : ((d : Int) == 110) = false := by simp; omega
              by_cases d116 : d = 116
              · have f116 : ((d : Int) == 116) = true := (by simp [d116]);have hst := vQ (l := l) (v := 9) (j := k + 1 + 1) hlt (by rw [← HCB.out]; exact c92) (by unfold escD; rw [if_pos h1, ← HDB.out, if_neg d110, if_pos d116]);have HST := lh hst;clear hst d110 d116 c92 c34 c32;go_wp2_with fail
                go_roundw
                case rel =>
                 refine ⟨k + 2, l ++ [UInt8.ofNat 9], by omega, by simp; omega, by go_num, by rw [vA]; rfl, ?_, HB.out⟩;rw [← HC.out, HST.out]
                case measure => simp [intOf]; omega
              · have f116 : ((d : Int) == 116) = false := by simp; omega
                by_cases dq : d = 92 ∨ d = 34
                · have hst := vQ (l := l) (v := bt s (k + 1)) (j := k + 1 + 1) hlt (by rw [← HCB.out]; exact c92) (by unfold escD; rw [if_pos h1, ← HDB.out, if_neg d110, if_neg d116, if_pos dq]);have HST := lh hst;have k5 : (k : Int) + 1 ≤ (k : Int) + 2 := (by omega);have k6 : (k : Int) + 2 ≤ (s.size : Int) := (by omega);have k7 : ((k : Int) + 2).toNat = k + 2 := by omega
                  by_cases d34 : d = 34
                  · have f34 : ((d : Int) == 34) = true := (by simp [d34]);clear hst d110 d116 c92 c34 c32 dq d34;go_wp2_with fail
                    go_roundw
                    case rel =>
                     refine ⟨k + 2, l ++ [UInt8.ofNat (bt s (k + 1))], by omega, by simp; omega, by go_num, by rw [str_app l s (k + 1) h1], ?_, HB.out⟩;rw [← HC.out, HST.out]
                    case measure => simp [intOf]; omega
                  · have f34 : ((d : Int) == 34) = false := (by simp; omega);have f92 : ((d : Int) == 92) = true := (by simp; omega);clear hst d110 d116 c92 c34 c32 dq d34;go_wp2_with fail
                    go_roundw
                    case rel =>
                     refine ⟨k + 2, l ++ [UInt8.ofNat (bt s (k + 1))], by omega, by simp; omega, by go_num, by rw [str_app l s (k + 1) h1], ?_, HB.out⟩;rw [← HC.out, HST.out]
                    case measure => simp [intOf]; omega
                · have f34 : ((d : Int) == 34) = false := (by simp; omega);have f92 : ((d : Int) == 92) = false := by simp; omega
                  by_cases h3 : k + 3 < s.size
                  · have k5 : (0 : Int) ≤ (k : Int) + 2 := (by omega);have k6 : (k : Int) + 2 < (s.size : Int) := (by omega);have k7 : ((k : Int) + 2).toNat = k + 2 := (by omega);have k8 : (0 : Int) ≤ (k : Int) + 3 := (by omega);have k9 : (k : Int) + 3 < (s.size : Int) := (by omega);have k10 : ((k : Int) + 3).toNat = k + 3 := (by omega);have h2 : k + 2 < s.size := (by omega);obtain ⟨d2, hdb2⟩ : ∃ d2, d2 = bt s (k + 2) := ⟨_, rfl⟩
                    have hdk2 := qo h2 hdb2;have HDB2 := lh hdb2;obtain ⟨d3, hdb3⟩ : ∃ d3, d3 = bt s (k + 3) := ⟨_, rfl⟩
                    have hdk3 := qo h3 hdb3;have HDB3 := lh hdb3;clear hdb2 hdb3
                    have hesc : escD s (k + 1) = if dig d ∧ dig d2 ∧ dig d3 then (if 100 * (d - 48) + 10 * (d2 - 48) + (d3 - 48) < 256 then some (100 * (d - 48) + 10 * (d2 - 48) + (d3 - 48), k + 4) else none) else none := by
                     unfold escD;rw [if_pos h1, ← HDB.out, if_neg d110, if_neg d116, if_neg dq, show k + 1 + 1 = k + 2 from rfl, show k + 1 + 2 = k + 3 from rfl, ← HDB2.out, ← HDB3.out]
                     by_cases hh : dig d ∧ dig d2 ∧ dig d3
                     · rw [if_pos hh, if_pos ⟨h3, hh⟩]
                     · rw [if_neg hh, if_neg (fun h => hh h.2)]
                    have HESC := lh hesc;clear hesc d110 d116 dq
                    cases g1 : dig d with
                    | false =>
                     have hst := qJ (l := l) hlt (by rw [← HCB.out]; exact c92) (by rw [HESC.out, if_neg (by simp [g1])]);have HST := lh hst;clear hst;clear c92 c34 c32;go_wp2_with fail
                     refine (jS _ _).mono ?_;rintro e w' ⟨rfl, rfl⟩;go_wp2_with fail
                     go_ret2
                     rw [kz (by rw [← HC.out, HST.out])];exact ⟨rfl, HB.out⟩
                    | true =>
                     cases g2 : dig d2 with
                     | false =>
                      have hst := qJ (l := l) hlt (by rw [← HCB.out]; exact c92) (by rw [HESC.out, if_neg (by simp [g2])]);have HST := lh hst;clear hst;clear c92 c34 c32;go_wp2_with fail
                      refine (jS _ _).mono ?_;rintro e w' ⟨rfl, rfl⟩;go_wp2_with fail
                      refine (jS _ _).mono ?_;rintro e w' ⟨rfl, rfl⟩;go_wp2_with fail
                      go_ret2
                      rw [kz (by rw [← HC.out, HST.out])];exact ⟨rfl, HB.out⟩
                     | true =>
                      cases g3 : dig d3 with
                      | false =>
                       have hst := qJ (l := l) hlt (by rw [← HCB.out]; exact c92) (by rw [HESC.out, if_neg (by simp [g3])]);have HST := lh hst;clear hst;clear c92 c34 c32;go_wp2_with fail
                       refine (jS _ _).mono ?_;rintro e w' ⟨rfl, rfl⟩;go_wp2_with fail
                       refine (jS _ _).mono ?_;rintro e w' ⟨rfl, rfl⟩;go_wp2_with fail
                       refine (jS _ _).mono ?_;rintro e w' ⟨rfl, rfl⟩;go_wp2_with fail
                       go_ret2
                       rw [kz (by rw [← HC.out, HST.out])];exact ⟨rfl, HB.out⟩
                      | true =>
                       obtain ⟨n, hn⟩ : ∃ n, n = 100 * (d - 48) + 10 * (d2 - 48) + (d3 - 48) := ⟨_, rfl⟩
                       have hesc := HESC.out;rw [if_pos ⟨g1, g2, g3⟩, ← hn] at hesc;have HN := lh hn;have HESC2 := lh hesc;have b1 : 48 ≤ d ∧ d ≤ 57 := by simpa [dig] using g1
                       have b2 : 48 ≤ d2 ∧ d2 ≤ 57 := by simpa [dig] using g2
                       have b3 : 48 ≤ d3 ∧ d3 ≤ 57 := by simpa [dig] using g3
                       have HB3 := lh (And.intro b1 (And.intro b2 b3));clear hn hesc b1 b2 b3;go_upto_region 24 with (first | (go_at_call 172; refine (jS _ _).mono ?_; rintro e w' ⟨rfl, rfl⟩))
                       go_quiet (fail)
                       have hval : 100 * (((d : Int) - 48) % 256) + 10 * (((d2 : Int) - 48) % 256) + ((d3 : Int) - 48) % 256 = (n : Int) := by
                        have h1 := HN.out;have h2 := HB3.out;omega
                       rw [hval];have hb1 : Below w.heap.size w (wr.drewN nq) := bdrewN HB.out nq;clear hval;generalize wr.drewN nq = wn at hb1 ⊢;have HB1 := lh hb1;clear hb1
                       by_cases h255 : n < 256
                       · have hst := vQ (l := l) (v := n) (j := k + 4) hlt (by rw [← HCB.out]; exact c92) (by rw [HESC2.out, if_pos h255]);have HST := lh hst;have hd255 : decide ((255 : Int) < (n : Int)) = false := (by simp; omega);have hn0 : (0 : Int) ≤ (n : Int) := (by omega);have hn1 : (n : Int) < 256 := by omega
                         have hcv : ∀ c : TypeId, c = 5 → (convert 74 9 (.slice (some ⟨wn.heap.size, 0, none⟩) 1 1)).run Tryz.prog (wn.alloc (.cells #[.int .u8 n] c)) = .ok (.string ⟨[UInt8.ofNat n].toArray⟩) (wn.alloc (.cells #[.int .u8 n] c)) :=
                          fun c hc => by subst hc; exact conv_new wn 74 9 5 [UInt8.ofNat n] Tryz.underlying74 Tryz.underlying5 Tryz.underlying9 _ _ rfl _ (by simp; omega) _ rfl
                         have hcv5 := hcv 5 rfl;clear hst c92 c34 c32 h255 hcv;go_wp2_with fail
                         go_roundw
                         case rel =>
                          refine ⟨k + 4, l ++ [UInt8.ofNat n], by omega, by simp; omega, by go_num, by rw [vA], ?_, jk HB1.out _⟩;rw [← HC.out, HST.out]
                         case measure => simp [intOf]; omega
                       · have hst := qJ (l := l) hlt (by rw [← HCB.out]; exact c92) (by rw [HESC2.out, if_neg h255]);have HST := lh hst;have hd255 : decide ((255 : Int) < (n : Int)) = true := (by simp; omega);clear hst c92 c34 c32 h255;go_wp2_with fail
                         go_ret2
                         rw [kz (by rw [← HC.out, HST.out])];exact ⟨rfl, HB1.out⟩
                  · have hst := qJ (l := l) hlt (by rw [← HCB.out]; exact c92) (by unfold escD; rw [if_pos h1, ← HDB.out, if_neg d110, if_neg d116, if_neg dq, if_neg (fun h => h3 (by omega))]);have HST := lh hst;have hd3 : decide ((k : Int) + 3 < (s.size : Int)) = false := (by simp; omega);clear hst d110 d116 dq c92 c34 c32;go_wp2_with fail
                    go_ret2
                    rw [kz (by rw [← HC.out, HST.out])];exact ⟨rfl, HB.out⟩
          · have hst := qJ (l := l) hlt (by rw [← HCB.out]; exact c92) (by unfold escD; rw [if_neg h1]);have HST := lh hst;have hd1 : decide ((k : Int) + 1 < (s.size : Int)) = false := (by simp; omega);have hd3 : decide ((k : Int) + 3 < (s.size : Int)) = false := (by simp; omega);clear hst c92 c34 c32;go_wp2_with fail
            go_ret2
            rw [kz (by rw [← HC.out, HST.out])];exact ⟨rfl, HB.out⟩
        · have e92 : ((c : Int) != 92) = true := (by simp; omega);have hst := textD_byte (l := l) hlt (by rw [← HCB.out]; exact c34) (by rw [← HCB.out]; omega) (by rw [← HCB.out]; exact c92);have HST := lh hst;have k2 : (k : Int) ≤ (k : Int) + 1 := (by omega);have k3 : (k : Int) + 1 ≤ (s.size : Int) := (by omega);have k4 : ((k : Int) + 1).toNat = k + 1 := (by omega);clear hst c34 c32 c92;go_wp2_with fail
          go_roundw
          case rel =>
           refine ⟨k + 1, l ++ [UInt8.ofNat (bt s k)], by omega, by simp; omega, by go_num, by rw [str_app l s k hlt], ?_, HB.out⟩;rw [← HC.out, HST.out]
          case measure => simp [intOf]; omega
  · skip
    have hst := textD_end (s := s) (i := k) (l := l) (by omega);have HST := lh hst;clear hst;go_wp2_with fail
    go_ret2
    rw [kz (by rw [← HC.out, HST.out])];exact ⟨rfl, HB.out⟩
def kt (s : ByteArray) (k : Nat) : List UInt8 := 34 :: (s.data.toList.take k).flatMap esc
theorem preQ_step (s : ByteArray) (k : Nat) (h : k < s.size) : kt s (k + 1) = kt s k ++ esc (UInt8.ofNat (bt s k)) := by
 have h2 : k < s.data.toList.length := by rw [sizeL]; exact h
 unfold kt;rw [List.take_succ_eq_append_getElem h2, List.flatMap_append];have e : UInt8.ofNat (bt s k) = s.data.toList[k] := by unfold bt; rw [List.getD_eq_getElem?_getD, List.getElem?_eq_getElem h2]; simp
 rw [e];simp
theorem esc_len (b : UInt8) : (esc b).length ≤ 4 := by
 rcases esc_cases b with ⟨_, e⟩ | ⟨_, e⟩ | ⟨_, e⟩ | ⟨_, e, _⟩ | ⟨_, _, _, _, e⟩ <;> rw [e] <;> simp
theorem preQ_len (s : ByteArray) (k : Nat) : (kt s k).length ≤ 4 * k + 1 := by
 have h : ∀ l : List UInt8, (l.flatMap esc).length ≤ 4 * l.length := by
  intro l
  induction l with
  | nil => simp
  | cons b l ih => have := esc_len b; simp at *; omega
 have := h (s.data.toList.take k);rw [List.length_take] at this;simp only [kt, List.length_cons];omega
theorem preQ_end (s : ByteArray) : kt s s.size ++ [34] = quoteL s.data.toList := by
 unfold kt quoteL;rw [← sizeL, List.take_length];rfl
theorem app_list (l m : List UInt8) : (⟨l.toArray⟩ : ByteArray) ++ ⟨m.toArray⟩ = ⟨(l ++ m).toArray⟩ := by
 apply ByteArray.ext
 apply Array.ext'
 simp [ByteArray.data_append]
theorem esc_nl : esc (UInt8.ofNat 10) = [92, 110] := by decide
theorem esc_tab : esc (UInt8.ofNat 9) = [92, 116] := by decide
theorem u8n {c : Nat} (h : c < 256) : (UInt8.ofNat c).toNat = c := by simp; omega
theorem esc_self {c : Nat} (h : c < 256) (hc : c = 34 ∨ c = 92) : esc (UInt8.ofNat c) = [92, UInt8.ofNat c] := by
 unfold esc; rw [u8n h, if_neg (by omega), if_neg (by omega), if_pos hc]
theorem esc_code {c : Nat} (h : c < 256) (h1 : c ≠ 10) (h2 : c ≠ 9) (h3 : c < 32 ∨ 126 < c) : esc (UInt8.ofNat c) = [92, UInt8.ofNat (48 + c / 100), UInt8.ofNat (48 + c / 10 % 10), UInt8.ofNat (48 + c % 10)] := by
 unfold esc; rw [u8n h, if_neg h1, if_neg h2, if_neg (by omega), if_pos h3]
theorem esc_plain {c : Nat} (h : c < 256) (h1 : 32 ≤ c) (h2 : c ≤ 126) (h3 : c ≠ 34) (h4 : c ≠ 92) : esc (UInt8.ofNat c) = [UInt8.ofNat c] := by
 unfold esc; rw [u8n h, if_neg (by omega), if_neg (by omega), if_neg (by omega), if_neg (by omega)]
theorem conv_code {c : Nat} (h : c < 256) (wr : World) : (convert 74 9 (.slice (some ⟨wr.heap.size, 0, none⟩) 3 3)).run Tryz.prog (wr.alloc (.cells #[.int .u8 (48 + (c : Int) / 100), .int .u8 (48 + (c : Int) / 10 % 10), .int .u8 (48 + (c : Int) % 10)] 5)) =
 .ok (.string ⟨[UInt8.ofNat (48 + c / 100), UInt8.ofNat (48 + c / 10 % 10), UInt8.ofNat (48 + c % 10)].toArray⟩) (wr.alloc (.cells #[.int .u8 (48 + (c : Int) / 100), .int .u8 (48 + (c : Int) / 10 % 10), .int .u8 (48 + (c : Int) % 10)] 5)) := by
 refine conv_new wr 74 9 5 _ Tryz.underlying74 Tryz.underlying5 Tryz.underlying9 _ 3 rfl _ ?_ 3 rfl;have e1 : (UInt8.ofNat (48 + c / 100)).toNat = 48 + c / 100 := u8n (by omega);have e2 : (UInt8.ofNat (48 + c / 10 % 10)).toNat = 48 + c / 10 % 10 := u8n (by omega);have e3 : (UInt8.ofNat (48 + c % 10)).toNat = 48 + c % 10 := u8n (by omega);rw [List.map_cons, List.map_cons, List.map_cons, List.map_nil, e1, e2, e3];push_cast
 rfl
theorem rquote_any (s : ByteArray) (w : World) (hs : s.size ≤ 1048576) : Calls Tryz.prog 114 #[.string s] w fun e w' => e = .returned (.string (qC s)) ∧ Below w.heap.size w w' := by
 go_enter Tryz.func114, Tryz.ntmps114
 go_wp2_with fail
 go_loopw [3, 4] (fun q i wr => ∃ k : Nat, k ≤ s.size ∧ i = .int .i64 k ∧ q = .string ⟨(kt s k).toArray⟩ ∧ Below w.heap.size w wr) (fun _ i _ => s.size - (intOf i).toNat)
 case atStart => exact ⟨0, Nat.zero_le _, rfl, rfl, Below.refl _ _⟩
 case round =>
  obtain ⟨k, hk, rfl, rfl, hbl⟩ := hrel;have HB := lh hbl;clear hbl;have hpl := preQ_len s k
  by_cases hlt : k < s.size
  · have hd : decide ((k : Int) < (s.size : Int)) = true := (by simp; omega);have k0 : (0 : Int) ≤ (k : Int) := (by omega);have k1 : (k : Int) < (s.size : Int) := (by omega);obtain ⟨c, hcb⟩ : ∃ c, c = bt s k := ⟨_, rfl⟩
    have hck := qo hlt hcb;have hc8 : c < 256 := (by rw [hcb]; exact bt_lt s k);have hst := preQ_step s k hlt;rw [← hcb] at hst;have hap := str_app (kt s k) s k hlt;rw [← hcb] at hap;have HCB := lh hcb;have HST := lh hst;have HAP := lh hap;generalize kt s k = L at *
    have hsz : (⟨L.toArray⟩ : ByteArray).size = L.length := (by simp [ByteArray.size]);clear hcb hst hap
    by_cases c10 : c = 10
    · have e10 : ((c : Int) == 10) = true := (by simp [c10]);go_wp2_with fail
      go_roundw
      case rel => exact ⟨k + 1, by omega, by go_num, by rw [HST.out, c10, esc_nl, ← app_list], HB.out⟩
      case measure => simp [intOf]; omega
    · have e10 : ((c : Int) == 10) = false := by simp; omega
      by_cases c9 : c = 9
      · have e9 : ((c : Int) == 9) = true := (by simp [c9]);go_wp2_with fail
        go_roundw
        case rel => exact ⟨k + 1, by omega, by go_num, by rw [HST.out, c9, esc_tab, ← app_list], HB.out⟩
        case measure => simp [intOf]; omega
      · have e9 : ((c : Int) == 9) = false := by simp; omega
        by_cases c34 : c = 34 ∨ c = 92
        · have he := esc_self hc8 c34;have hap2 := str_app (L ++ [92]) s k hlt;rw [← HCB.out] at hap2;have HAP2 := lh hap2;have HE := lh he;have hw1 : IntKind.i64.wrap ((k : Int) + 1) = (k : Int) + 1 := IntWalk.i64_in _ (by omega);clear hap2 he
          by_cases c34b : c = 34
          · have e34 : ((c : Int) == 34) = true := (by simp [c34b]);clear c34 c34b;go_wp2_with fail
            go_roundw
            case rel => exact ⟨k + 1, by omega, by go_num, by rw [HST.out, HE.out, vA, HAP2.out]; simp, HB.out⟩
            case measure => simp [intOf]; omega
          · have e34 : ((c : Int) == 34) = false := (by simp; omega);have e92 : ((c : Int) == 92) = true := (by simp; omega);clear c34 c34b;go_wp2_with fail
            go_roundw
            case rel => exact ⟨k + 1, by omega, by go_num, by rw [HST.out, HE.out, vA, HAP2.out]; simp, HB.out⟩
            case measure => simp [intOf]; omega
        · have e34 : ((c : Int) == 34) = false := (by simp; omega);have e92 : ((c : Int) == 92) = false := by simp; omega
          by_cases c32 : c < 32
          · have e32 : decide ((c : Int) < 32) = true := (by simp; omega);obtain ⟨D, hD⟩ : ∃ D : List UInt8, D = [UInt8.ofNat (48 + c / 100), UInt8.ofNat (48 + c / 10 % 10), UInt8.ofNat (48 + c % 10)] := ⟨_, rfl⟩
            have he : esc (UInt8.ofNat c) = 92 :: [UInt8.ofNat (48 + c / 100), UInt8.ofNat (48 + c / 10 % 10), UInt8.ofNat (48 + c % 10)] := esc_code hc8 c10 c9 (by omega);have hcv := conv_code hc8 wr;rw [← hD] at he hcv;have HE := lh he;have hDs : (⟨D.toArray⟩ : ByteArray).size = 3 := (by rw [hD]; rfl);clear he hD;go_wp2_with fail
            go_roundw
            case rel => exact ⟨k + 1, by omega, by go_num, by rw [HST.out, HE.out, vA, app_list, List.append_assoc]; rfl, jk HB.out _⟩
            case measure => simp [intOf]; omega
          · have e32 : decide ((c : Int) < 32) = false := by simp; omega
            by_cases c126 : 126 < c
            · have e126 : decide ((126 : Int) < (c : Int)) = true := (by simp; omega);obtain ⟨D, hD⟩ : ∃ D : List UInt8, D = [UInt8.ofNat (48 + c / 100), UInt8.ofNat (48 + c / 10 % 10), UInt8.ofNat (48 + c % 10)] := ⟨_, rfl⟩
              have he : esc (UInt8.ofNat c) = 92 :: [UInt8.ofNat (48 + c / 100), UInt8.ofNat (48 + c / 10 % 10), UInt8.ofNat (48 + c % 10)] := esc_code hc8 c10 c9 (by omega);have hcv := conv_code hc8 wr;rw [← hD] at he hcv;have HE := lh he;have hDs : (⟨D.toArray⟩ : ByteArray).size = 3 := (by rw [hD]; rfl);clear he hD;go_wp2_with fail
              go_roundw
              case rel => exact ⟨k + 1, by omega, by go_num, by rw [HST.out, HE.out, vA, app_list, List.append_assoc]; rfl, jk HB.out _⟩
              case measure => simp [intOf]; omega
            · have e126 : decide ((126 : Int) < (c : Int)) = false := (by simp; omega);have he := esc_plain hc8 (by omega) (by omega) (by omega) (by omega);have HE := lh he;clear he;go_wp2_with fail
              go_roundw
              case rel => exact ⟨k + 1, by omega, by go_num, by rw [HST.out, HE.out, HAP.out], HB.out⟩
              case measure => simp [intOf]; omega
  · obtain rfl : k = s.size := by omega
    have hd : decide ((s.size : Int) < (s.size : Int)) = false := (by simp);go_wp2_with fail
    go_ret
    refine ⟨?_, HB.out⟩;rw [vA, preQ_end];rfl
def Scan (w : World) (b : Nat) (s : ByteArray) (i : Nat) : Prop := w.heap[b]? = some (.cells #[.string s, .int .i64 i] 56 (0, 0))
def Sorts (w : World) : Prop := ∀ k, k < 128 → w.cell? ⟨1, k, none⟩ = some (.int .i64 (srt k))
abbrev pv (b : Nat) : Value := .pointer (some ⟨b, 0, none⟩)
theorem Scan.lt {w : World} {b : Nat} {s : ByteArray} {i : Nat} (h : Scan w b s i) : b < w.heap.size := lt_of_block h
theorem Scan.below {w w' : World} {b : Nat} {s : ByteArray} {i : Nat} (h : Scan w b s i) (hb : Below w.heap.size w w') : Scan w' b s i := jo h hb h.lt
theorem Scan.set {w : World} {b : Nat} {s : ByteArray} {i : Nat} (h : Scan w b s i) (i' : Int) (k : Nat) (hk : i' = k) : Scan (w.setCell ⟨b, 1, none⟩ (.int .i64 i')) b s k := by
 subst hk; exact jy h 1 _
theorem Scan.drew {w : World} {b : Nat} {s : ByteArray} {i : Nat} (h : Scan w b s i) (n : Nat) : Scan (w.drewN n) b s i := h
def atOf (w : World) (b : Nat) : Nat := match w.cell? ⟨b, 1, none⟩ with | some (.int _ i) => i.toNat | _ => 0
theorem Scan.at {w : World} {b : Nat} {s : ByteArray} {i : Nat} (h : Scan w b s i) : atOf w b = i := by
 have r1 : w.cell? ⟨b, 1, none⟩ = some (.int .i64 i) := ja h 1;unfold atOf; rw [r1]; simp
theorem lhas_any (s t : ByteArray) (b i : Nat) (w : World) (hsc : Scan w b s i) (hs : s.size ≤ 4000) (hi : i ≤ s.size) (ht : t.size ≤ 4000) :
 Calls Tryz.prog 67 #[pv b, .string t] w fun e w' => e = .returned (.bool (atD s i t)) ∧ Below w.heap.size w w' := by
 have hlt := hsc.lt;have r0 : w.cell? ⟨b, 0, none⟩ = some (.string s) := ja hsc 0;have r1 : w.cell? ⟨b, 1, none⟩ = some (.int .i64 i) := ja hsc 1;clear hsc;have hw1 : IntKind.i64.wrap ((s.size : Int) - (i : Int)) = (s.size : Int) - i := IntWalk.i64_in _ (by omega)
 by_cases h : i + t.size ≤ s.size
 · have hd : decide ((t.size : Int) ≤ (s.size : Int) - (i : Int)) = true := (by simp; omega);have hd2 : decide ((s.size : Int) - (i : Int) < (t.size : Int)) = false := (by simp; omega);have hw2 : IntKind.i64.wrap ((i : Int) + t.size) = i + t.size := IntWalk.i64_in _ (by omega);have h0 : (0 : Int) ≤ (i : Int) := (by omega);have h1 : (i : Int) ≤ (i : Int) + t.size := (by omega);have h2 : (i : Int) + t.size ≤ (s.size : Int) := (by omega);go_enter Tryz.func67, Tryz.ntmps67
   go_wp2_with fail
   go_quiet (fail)
   go_wp2_with fail
   go_ret
   refine ⟨kI ?_, (by exact bdrewN (Below.refl _ _) _)⟩;rw [str_eq, Bool.eq_iff_iff];simp [atD, cut, h]
 · have hd : decide ((t.size : Int) ≤ (s.size : Int) - (i : Int)) = false := (by simp; omega);have hd2 : decide ((s.size : Int) - (i : Int) < (t.size : Int)) = true := (by simp; omega);go_enter Tryz.func67, Tryz.ntmps67
   go_wp2_with fail
   go_quiet (fail)
   go_wp2_with fail
   go_ret
   refine ⟨kI ?_, (by exact bdrewN (Below.refl _ _) _)⟩;simp [atD, h]
def inL (L : List Nat) (c : Nat) : Bool := L.any fun k => decide (c = k)
theorem inL_take (L : List Nat) (c k : Nat) (h : k < L.length) : inL (L.take (k + 1)) c = (inL (L.take k) c || decide (c = L.getD k 0)) := by
 unfold inL;rw [List.take_succ_eq_append_getElem h, List.any_append];simp [List.getD, h]
def IntsAt (w : World) (q : Nat) (L : List Nat) : Prop := ∀ k, k < L.length → w.cell? ⟨q, k, none⟩ = some (.int .i64 (L.getD k 0 : Nat))
theorem gr_cell {w w' : World} {b q k : Nat} {v : Value} (h : w.grownBy w' (some b)) (hne : q ≠ b) (hc : w.cell? ⟨q, k, none⟩ = some v) : w'.cell? ⟨q, k, none⟩ = some v := by
 have hl := World.block_lt_of_cell? w _ hc;have e : w'.heap[q]? = w.heap[q]? := h.block q hl (fun e => hne (Option.some.inj e));unfold World.cell? at hc ⊢;simp only at hc ⊢;rw [e];exact hc
theorem gr_refl (w : World) (row : Option Nat) : w.grownBy w row := ⟨rfl, rfl, rfl, Nat.le_refl _, fun _ _ _ => rfl⟩
theorem while_any (s : ByteArray) (b q i0 : Nat) (L : List Nat) (p : Nat → Bool) (w : World) (hsc : Scan w b s i0) (hs : s.size ≤ 4000) (hi : i0 ≤ s.size) (hso : Sorts w) (hA : ∀ k, k < s.size → bt s k < 128) (hL : IntsAt w q L) (hq : q ≠ b) (hb : 1 ≠ b) (hn : L.length ≤ 4000) (hp : ∀ c, c < 128 → inL L (srt c) = p c) :
 Calls Tryz.prog 66 #[pv b, .slice (some ⟨q, 0, none⟩) L.length L.length] w fun e w' => e = .returned (.tuple #[]) ∧ Scan w' b s (whD s p i0) ∧ w.grownBy w' (some b) := by
 have HSC := lh hsc;have HSO := lh hso;have HL := lh hL;have HP := lh hp;clear hsc hso hL hp;go_enter Tryz.func66, Tryz.ntmps66
 go_wp2_with fail
 go_loopw [] (fun wr => ∃ i : Nat, i ≤ s.size ∧ Scan wr b s i ∧ w.grownBy wr (some b) ∧ whD s p i = whD s p i0) (fun wr => s.size - atOf wr b)
 case atStart => exact ⟨i0, hi, HSC.out, gr_refl _ _, rfl⟩
 case round =>
  obtain ⟨i, hi, hsc, hgr, hst⟩ := hrel;have r0 : wr.cell? ⟨b, 0, none⟩ = some (.string s) := ja hsc 0;have r1 : wr.cell? ⟨b, 1, none⟩ = some (.int .i64 i) := ja hsc 1;have z1 : wr.frozen? ⟨b, 1, none⟩ = false := jd hsc 1;have hbl := hsc.lt;have hat := hsc.at
  by_cases hlt : i < s.size
  · have h0 : (0 : Int) ≤ (i : Int) := (by omega);have h1 : (i : Int) < (s.size : Int) := (by omega);obtain ⟨c, hcb⟩ : ∃ c, c = bt s i := ⟨_, rfl⟩
    have hck := qo hlt hcb;have hc := hA i hlt;rw [← hcb] at hc;have hsr : wr.cell? ⟨1, c, none⟩ = some (.int .i64 (srt c)) := gr_cell hgr hb (HSO.out c hc);have HGR := lh hgr;have HST := lh hst;have HS := lh hsc;have HC := lh hcb;have HAT := lh hat;clear hgr hst hsc hcb hat;have c0 : (0 : Int) ≤ (c : Int) := (by omega);have c1 : (c : Int) < 128 := (by omega);go_wp2_with fail
    go_quiet (fail)
    go_wp2_with fail
    have hs1 := HS.out.drew nq;have hg1 := jr HGR.out (gr_drew wr nq (some b));clear HGR HS r0 r1 z1 hbl hsr;generalize wr.drewN nq = w1 at hs1 hg1 ⊢;have r0 : w1.cell? ⟨b, 0, none⟩ = some (.string s) := ja hs1 0;have r1 : w1.cell? ⟨b, 1, none⟩ = some (.int .i64 i) := ja hs1 1;have hsr : w1.cell? ⟨1, c, none⟩ = some (.int .i64 (srt c)) := gr_cell hg1 hb (HSO.out c hc);have hbl := hs1.lt;have HS1 := lh hs1;have HG1 := lh hg1;clear hs1 hg1;go_quiet (fail)
    go_wp2_with fail
    have hs2 := HS1.out.drew nq;have hg2 := jr HG1.out (gr_drew w1 nq (some b));clear HG1 HS1 r0 r1 hbl hsr;generalize w1.drewN nq = w2 at hs2 hg2 ⊢;have r0 : w2.cell? ⟨b, 0, none⟩ = some (.string s) := ja hs2 0;have r1 : w2.cell? ⟨b, 1, none⟩ = some (.int .i64 i) := ja hs2 1;have z1 : w2.frozen? ⟨b, 1, none⟩ = false := jd hs2 1;have hbl : b < w2.heap.size := hs2.lt;have HS2 := lh hs2;have HG2 := lh hg2;clear hs2 hg2 hck;generalize hz : srt c = z;have HZ := lh hz;clear hz;go_loop [5, 31] (fun v j => ∃ k : Nat, k ≤ L.length ∧ j = .int .i64 k ∧ v = .bool (inL (L.take k) z)) (fun _ j => L.length - (intOf j).toNat)
    case atStart => exact ⟨0, Nat.zero_le _, rfl, rfl⟩
    case round =>
     obtain ⟨k, hk, rfl, rfl⟩ := hrel
     by_cases hk2 : k < L.length
     · have hcell := gr_cell HG2.out hq (HL.out k hk2);have htk := inL_take L z k hk2;generalize L.getD k 0 = g at hcell htk;have HTK := lh htk;clear htk;have k0 : (0 : Int) ≤ (k : Int) := (by omega);have k1 : (k : Int) < (L.length : Int) := by omega
       cases hv : inL (L.take k) z with
       | true =>
        have HV := lh hv;clear hv;go_wp2_with fail
        go_round
        case rel => exact ⟨k + 1, by omega, by go_num, by rw [HTK.out, HV.out]; rfl⟩
        case measure => simp [intOf]; omega
       | false =>
        have HV := lh hv;clear hv;go_wp2_with fail
        go_round
        case rel => exact ⟨k + 1, by omega, by go_num, by rw [HTK.out, HV.out, Bool.false_or]; congr 1; rw [Bool.eq_iff_iff]; simp; omega⟩
        case measure => simp [intOf]; omega
     · obtain rfl : k = L.length := by omega
       have hpc := HP.out c hc;rw [HZ.out] at hpc;have k1 : ¬ (L.length : Int) < (L.length : Int) := (by omega);rw [List.take_length, hpc];have HPC := lh hpc;clear hpc
       cases hv : p c with
       | true =>
        have hst := kS (s := s) (p := p) hlt (by rw [← HC.out]; exact hv);have HST2 := lh hst;have hwx : IntKind.i64.wrap ((i : Int) + 1) = i + 1 := IntWalk.i64_in _ (by omega);clear hst;go_wp2_with fail
        go_roundw
        case rel => exact ⟨i + 1, by omega, HS2.out.set _ _ (by push_cast; rfl), jr HG2.out (jX _ _ _ _), by rw [← HST2.out]; exact HST.out⟩
        case measure => rw [(HS2.out.set _ (i + 1) (by push_cast; rfl)).at, HAT.out]; omega
       | false =>
        have hst := vm (s := s) (p := p) hlt (by rw [← HC.out]; exact hv);have HST2 := lh hst;clear hst;go_wp2_with fail
        refine bodyPost_ret (results_none rfl _ _ _) rfl ?_;exact ⟨rfl, by rw [← HST.out, HST2.out]; exact HS2.out, HG2.out⟩
  · have h1 : ¬ (i : Int) < (s.size : Int) := (by omega);have hend := vC (s := s) (p := p) (i := i) (by omega);rw [hend] at hst;have HST := lh hst;have HGR := lh hgr;have HS := lh hsc;clear hst hgr hsc hend hat;have hd : decide ((i : Int) < (s.size : Int)) = false := (by simp; omega);go_wp2_with fail
    go_quiet (fail)
    go_wp2_with fail
    go_end0
    exact ⟨rfl, by rw [← HST.out]; exact HS.out.drew _, jr HGR.out (gr_drew _ _ _)⟩
theorem Scan.facts {w : World} {b : Nat} {s : ByteArray} {i : Nat} (h : Scan w b s i) : w.cell? ⟨b, 0, none⟩ = some (.string s) ∧ w.cell? ⟨b, 1, none⟩ = some (.int .i64 i) ∧ w.frozen? ⟨b, 1, none⟩ = false ∧ b < w.heap.size :=
 ⟨ja h 0, ja h 1, jd h 1, h.lt⟩
theorem Sorts.gr {w w' : World} {b : Nat} (h : Sorts w) (hg : w.grownBy w' (some b)) (hb : 1 ≠ b) : Sorts w' := fun k hk => gr_cell hg hb (h k hk)
theorem ints_new (w : World) (L : List Nat) (c : Array Value) (t : TypeId) (h : c = (L.map fun (k : Nat) => (Value.int .i64 k : Value)).toArray) : IntsAt (w.alloc (.cells c t)) w.heap.size L := by
 subst h;intro k hk;rw [World.cell?_alloc_at _ _ _ _ rfl];simp [hk]
theorem whD_not (s : ByteArray) (p : Nat → Bool) (i : Nat) : whD s p i < s.size → p (bt s (whD s p i)) = false := by
 induction i using whD.induct s p with
 | case1 i h hp ih => rw [kS h hp]; exact ih
 | case2 i h hp => rw [vm h (by simpa using hp)]; intro _; simpa using hp
 | case3 i h => rw [vC (by omega)]; intro h2; exact absurd h2 h
theorem has2 (s : ByteArray) (b i : Nat) (a c : UInt8) (w : World) (hsc : Scan w b s i) (hs : s.size ≤ 4000) (hi : i ≤ s.size) :
 Calls Tryz.prog 67 #[pv b, .string ⟨#[a, c]⟩] w fun e w' => e = .returned (.bool (qf s i a.toNat c.toNat)) ∧ Below w.heap.size w w' := by
 rw [← atD_two];exact lhas_any s _ b i w hsc hs hi (by show 2 ≤ _; omega)
theorem has_open (s : ByteArray) (b i : Nat) (w : World) (hsc : Scan w b s i) (hs : s.size ≤ 4000) (hi : i ≤ s.size) :
 Calls Tryz.prog 67 #[pv b, .string ⟨#[40, 42]⟩] w fun e w' => e = .returned (.bool (qf s i 40 42)) ∧ Below w.heap.size w w' := has2 s b i 40 42 w hsc hs hi
theorem wp_again {P : Program} {a : Act} {w : World} {Q : Exit → Act → World → Prop} {rest : Code} {l : Nat} (J : Act → World → Prop) (μ : Act → World → Nat) (start : J a w)
 (pass : ∀ a w, J a w → rest.wp P (Exit.jump l (fun a' w' => J a' w' ∧ μ a' w' < μ a w) Q) a w) : (Code.scope ((Code.label l).seq rest)).wp P Q a w :=
 wp_scope_jumps l J μ (by simp [findLabel]) (wp_seq (wp_label (wp_mono (pass a w start) (by
  intro e a w h
  cases e <;> first | exact h | exact ⟨h.1, h.2.1⟩)))) (fun a w h => wp_seq (wp_skip (pass a w h)))
theorem blank_sort : ∀ c, c < 128 → inL [1] (srt c) = qn c := by decide +kernel
theorem dig_ge {c : Nat} (h : dig c = true) : 48 ≤ c ∧ c ≤ 57 := by simpa [dig] using h
theorem info5 : (Tryz.prog.info? 5).map (fun i => (i.zero, i.size, i.bytes)) = some (some (.int .u8 0), 1, 1) := by kernel_rfl
theorem conv_any {P : Program} {w : World} {B : Nat} {v : Value} {l : List UInt8} (src dst e : TypeId) (hs : P.underlying src = some (.slice e)) (he : P.underlying e = some (.int .u8)) (hd : P.underlying dst = some .string) (hown : w.ownsRow B e 1 v l.length (l.map bv)) :
 (convert src dst v).run P w = .ok (.string ⟨l.toArray⟩) w := by
 by_cases hv : v = .slice none 0 0
 · subst hv
   have hl : l = [] := by
    rcases hown.2 with ⟨_, h⟩ | ⟨_, _, _, h, _⟩
    · exact List.eq_nil_of_length_eq_zero h
    · simp at h
   subst hl;exact run_convert_bytes_nil w src e hs he 0 0 dst hd
 · exact conv_own src dst e hs he hd hown hv
theorem bv_of {c : Nat} (h : c < 256) : bv (UInt8.ofNat c) = .int .u8 c := by
 have e : (UInt8.ofNat c).toNat = c := by simp; omega
 unfold bv; rw [e]
end Go.Proofs.YthehjeeiodbkjaaGreatDoor
