/-
  Proved: the contract of the reference's shown at an arrow, that of its arguments given. Condition: a type that may be, of at most 400 parts.
-/
import Derived.Test.YtdeomphilggokaaS10
set_option linter.unusedSimpArgs false
set_option linter.unusedVariables false
namespace Go.Proofs.Ytdeomphilggokaa
open Go.RowKit

set_option maxRecDepth 100000 in
set_option maxHeartbeats 4000000 in
theorem rshow_arrow (f : Nat) (IH : RShowAt f) (t : Ty) (ht : parts t ≤ f + 1) (hk : t.k = 3) (D : Nat → Prop) (ao : Option Addr) (cap : Nat) (v : Value) (L : List Int) (least : Int) (w : World) (hD : ∀ b, D b → b < w.heap.size) (hv : SlD w D t.args ao cap) (hown : OwnI 0 w v L) (hfit : Fits t) (hsh : shapedD t = true) (hocc : ∀ n ∈ occD t, n ∈ L) (hL9 : L.length ≤ 1000) (hp : parts t ≤ 400) :
    Calls Try.prog 44 #[.agg (rowOf t ao cap), .int .i64 least, v] w (ShPost w (showD L t least)) := by
  obtain ⟨W, hW⟩ : ∃ W, W = w.alloc (.cells (rowOf t ao cap) 33) := ⟨_, rfl⟩
  obtain ⟨hbW, hlW, hrow⟩ := box_at hW
  have h2 := shaped_arrow hsh hk
  obtain ⟨u, u1, hargs⟩ : ∃ u u1, t.args = [u, u1] := by
    match t.args, h2 with
    | [a, b], _ => exact ⟨a, b, rfl⟩
  have hshow : showD L t least = roundD (decide (0 < least)) ((showD L u 1 ++ arrowS) ++ showD L u1 0) := by
    rw [show_args, if_neg (by omega), if_pos hk, hargs]
    simp [showL]
  obtain ⟨b, p, ap, cp, hA⟩ := argR IH ht (by omega) hD hv hown hfit hsh hocc hL9 hp 1 (j := 0) (u := u) (by rw [hargs]; rfl)
  obtain ⟨b1, p1, ap1, cp1, hA1⟩ := argR IH ht (by omega) hD hv hown hfit hsh hocc hL9 hp 0 (j := 1) (u := u1) (by rw [hargs]; rfl)
  have z0 := showD_small hL9 (hfit.args.get (t := u) (by rw [hargs]; simp)) (parts_le (t := t) (u := u) (by rw [hargs]; simp) hp) 1
  have z1 := showD_small hL9 (hfit.args.get (t := u1) (by rw [hargs]; simp)) (parts_le (t := t) (u := u1) (by rw [hargs]; simp) hp) 0
  rw [hshow]
  obtain ⟨s0, hs0⟩ : ∃ s, s = showD L u 1 := ⟨_, rfl⟩
  obtain ⟨s1, hs1⟩ : ∃ s, s = showD L u1 0 := ⟨_, rfl⟩
  have hcall := hA.call
  have hcall1 := hA1.call
  rw [← hs0] at z0 hcall
  rw [← hs1] at z1 hcall1
  rw [← hs0, ← hs1]
  have hix := hA.ix
  have hix1 := hA1.ix
  rw [h2] at hix hix1
  have hixa : ∀ w' : World, (Instr.indexAt 31 (.slice ao 2 cap) (.int .i64 0)).run Try.prog w' = .ok (.pointer (some ⟨b, p, none⟩)) w' := hix
  have hixb : ∀ w' : World, (Instr.indexAt 31 (.slice ao 2 cap) (.int .i64 1)).run Try.prog w' = .ok (.pointer (some ⟨b1, p1, none⟩)) w' := hix1
  have q1 : ∀ w' : World, (Op.stringOp .add s0 ⟨#[32, 45, 62, 32]⟩).run Try.prog w' = .ok (.string (s0 ++ arrowS)) w' := fun w' => run_string_add_sum w' _ _ (by show s0.size + 4 ≤ _; omega)
  have q2 : ∀ w' : World, (Op.stringOp .add (s0 ++ arrowS) s1).run Try.prog w' = .ok (.string ((s0 ++ arrowS) ++ s1)) w' := fun w' => run_string_add_sum w' _ _ (by rw [ByteArray.size_append]; show s0.size + 4 + s1.size ≤ _; omega)
  have zc : ((s0 ++ arrowS) ++ s1).size = s0.size + 4 + s1.size := by rw [ByteArray.size_append, ByteArray.size_append]; rfl
  obtain ⟨sc, hsc⟩ : ∃ sc, sc = (s0 ++ arrowS) ++ s1 := ⟨_, rfl⟩
  rw [← hsc] at q2 zc ⊢
  have y1 : ¬ 9223372036854775807 < 1 + sc.size := by omega
  have y2 : ¬ 9223372036854775807 < 1 + sc.size + 1 := by omega
  unfold rowOf at hW hrow ⊢
  rw [h2] at hW hrow ⊢
  have HC := Lib.hid hcall
  have HC1 := Lib.hid hcall1
  have HROW := Lib.hid hrow
  have HA := Lib.hid hA
  have HA1 := Lib.hid hA1
  have HBW := Lib.hid hbW
  have c0 : W.cell? ⟨w.heap.size, 0, none⟩ = some (.int .i64 t.k) := blk_cell hrow 0
  have KEEP : Hid (∀ w' : World, Below W.heap.size W w' → w'.cell? ⟨w.heap.size, 4, none⟩ = some (.slice ao 2 cap) ∧ (w'.cell? ⟨b, p, none⟩ = some (.int .i64 u.k) ∧ w'.cell? ⟨b, p + 1, none⟩ = some (.int .i64 u.n) ∧ w'.cell? ⟨b, p + 2, none⟩ = some (.string u.s) ∧ w'.cell? ⟨b, p + 3, none⟩ = some (.int .i64 u.q) ∧ w'.cell? ⟨b, p + 4, none⟩ = some (.slice ap u.args.length cp)) ∧ w'.cell? ⟨b1, p1, none⟩ = some (.int .i64 u1.k) ∧ w'.cell? ⟨b1, p1 + 1, none⟩ = some (.int .i64 u1.n) ∧ w'.cell? ⟨b1, p1 + 2, none⟩ = some (.string u1.s) ∧ w'.cell? ⟨b1, p1 + 3, none⟩ = some (.int .i64 u1.q) ∧ w'.cell? ⟨b1, p1 + 4, none⟩ = some (.slice ap1 u1.args.length cp1)) := Lib.hid (fun w' h =>
    have hr := blk_below HROW.out h (lt_of_block HROW.out)
    ⟨blk_cell hr 4, HA.out.cells w' (bthen HBW.out h), HA1.out.cells w' (bthen HBW.out h)⟩)
  have e0 : (t.k == 0) = false := by simp [hk]
  have e3 : (t.k == 3) = true := by simp [hk]
  have START := Lib.hid (KEEP.out W.drew (Below.refl _ _).drew)
  have FIN : Hid (∀ V : World, Below W.heap.size W V → ∀ s, s = roundD (decide (0 < least)) sc → ShPost w (roundD (decide (0 < least)) sc) (.returned (.string s)) V) := Lib.hid (fun V hV s hs => ⟨by rw [hs], bthen HBW.out hV⟩)
  clear hk hbW hlW hrow hshow hL9 hfit hcall hcall1 hargs hs0 hs1 hD hv hsh ht hp IH hix hix1 hA hA1 hown hocc h2 hsc
  have HT : ∀ bb : Bool, decide (0 < least) = bb → Calls Try.prog 44 #[.agg #[.int .i64 t.k, .int .i64 t.n, .string t.s, .int .i64 t.q, .slice ao 2 cap], .int .i64 least, v] w (ShPost w (roundD (decide (0 < least)) sc)) := by
    intro bb hbb
    cases bb with
    | true =>
      have HBB := Lib.hid hbb
      go_enter Try.func44, Try.ntmps44
      go_upto_region 1 with fail
      rw [← hW]
      clear hW
      generalize Value.agg #[.int .i64 t.k, .int .i64 t.n, .string t.s, .int .i64 t.q, .slice ao 2 cap] = v0
      go_upto_region 6 with fail
      clear c0
      go_region_held3 (fun w' => w'.cell? ⟨w.heap.size, 4, none⟩ = some (.slice ao 2 cap) ∧ (w'.cell? ⟨b, p, none⟩ = some (.int .i64 u.k) ∧ w'.cell? ⟨b, p + 1, none⟩ = some (.int .i64 u.n) ∧ w'.cell? ⟨b, p + 2, none⟩ = some (.string u.s) ∧ w'.cell? ⟨b, p + 3, none⟩ = some (.int .i64 u.q) ∧ w'.cell? ⟨b, p + 4, none⟩ = some (.slice ap u.args.length cp)) ∧ w'.cell? ⟨b1, p1, none⟩ = some (.int .i64 u1.k) ∧ w'.cell? ⟨b1, p1 + 1, none⟩ = some (.int .i64 u1.n) ∧ w'.cell? ⟨b1, p1 + 2, none⟩ = some (.string u1.s) ∧ w'.cell? ⟨b1, p1 + 3, none⟩ = some (.int .i64 u1.q) ∧ w'.cell? ⟨b1, p1 + 4, none⟩ = some (.slice ap1 u1.args.length cp1))
        (first | exact d10 | exact d9 | exact START.out)
        (first | (go_at_call 44; refine (HC1.out w7 (bthen HBW.out HB7.out)).mono ?_; rintro e w8 ⟨rfl, hb8⟩; have hb81 := bthen HB7.out hb8; have d10 := KEEP.out w8 hb81; have HB8 := Lib.hid hb81; clear hb8 hb81) | (go_at_call 44; refine (HC.out W.drew HBW.out.drew).mono ?_; rintro e w7 ⟨rfl, hb7⟩; have hb71 := (Below.refl W.heap.size W).drew.trans hb7; have d9 := KEEP.out w7 hb71; have HB7 := Lib.hid hb71; clear hb7 hb71))
      go_wp2_with fail
      go_ret
      exact FIN.out _ HB8.out _ (by rw [HBB.out]; rfl)
    | false =>
      have HBB := Lib.hid hbb
      go_enter Try.func44, Try.ntmps44
      go_upto_region 1 with fail
      rw [← hW]
      clear hW
      generalize Value.agg #[.int .i64 t.k, .int .i64 t.n, .string t.s, .int .i64 t.q, .slice ao 2 cap] = v0
      go_upto_region 6 with fail
      clear c0
      go_region_held3 (fun w' => w'.cell? ⟨w.heap.size, 4, none⟩ = some (.slice ao 2 cap) ∧ (w'.cell? ⟨b, p, none⟩ = some (.int .i64 u.k) ∧ w'.cell? ⟨b, p + 1, none⟩ = some (.int .i64 u.n) ∧ w'.cell? ⟨b, p + 2, none⟩ = some (.string u.s) ∧ w'.cell? ⟨b, p + 3, none⟩ = some (.int .i64 u.q) ∧ w'.cell? ⟨b, p + 4, none⟩ = some (.slice ap u.args.length cp)) ∧ w'.cell? ⟨b1, p1, none⟩ = some (.int .i64 u1.k) ∧ w'.cell? ⟨b1, p1 + 1, none⟩ = some (.int .i64 u1.n) ∧ w'.cell? ⟨b1, p1 + 2, none⟩ = some (.string u1.s) ∧ w'.cell? ⟨b1, p1 + 3, none⟩ = some (.int .i64 u1.q) ∧ w'.cell? ⟨b1, p1 + 4, none⟩ = some (.slice ap1 u1.args.length cp1))
        (first | exact d10 | exact d9 | exact START.out)
        (first | (go_at_call 44; refine (HC1.out w7 (bthen HBW.out HB7.out)).mono ?_; rintro e w8 ⟨rfl, hb8⟩; have hb81 := bthen HB7.out hb8; have d10 := KEEP.out w8 hb81; have HB8 := Lib.hid hb81; clear hb8 hb81) | (go_at_call 44; refine (HC.out W.drew HBW.out.drew).mono ?_; rintro e w7 ⟨rfl, hb7⟩; have hb71 := (Below.refl W.heap.size W).drew.trans hb7; have d9 := KEEP.out w7 hb71; have HB7 := Lib.hid hb71; clear hb7 hb71))
      go_wp2_with fail
      go_ret
      exact FIN.out _ HB8.out _ (by rw [HBB.out]; rfl)
  exact HT _ rfl
end Go.Proofs.Ytdeomphilggokaa
