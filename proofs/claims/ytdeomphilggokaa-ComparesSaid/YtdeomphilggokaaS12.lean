/-
  Proved: the contract of the reference's shown at a tuple and at a constructor of two arguments or more, that of its arguments given. Condition: a type that may be, of at most 400 parts.
-/
import Derived.Test.YtdeomphilggokaaS10
set_option linter.unusedSimpArgs false
set_option linter.unusedVariables false
namespace Go.Proofs.Ytdeomphilggokaa
open Go.RowKit

theorem join_one (sep : ByteArray) (L : List Int) (c : Int) {l : List Ty} {u : Ty} (hj : l[0]? = some u) : joinB sep ((showL L l c).take 1) = showD L u c := by
  have h := join_end sep L c hj
  simpa using h
theorem join_more (sep : ByteArray) (L : List Int) (c : Int) {l : List Ty} {j : Nat} {u : Ty} (hj : l[j]? = some u) (h0 : 1 ≤ j) : joinB sep ((showL L l c).take (j + 1)) = (joinB sep ((showL L l c).take j) ++ sep) ++ showD L u c := by
  rw [join_end sep L c hj, if_neg (by omega)]
set_option maxRecDepth 100000 in
set_option maxHeartbeats 4000000 in
theorem rshow_tuple (f : Nat) (IH : RShowAt f) (t : Ty) (ht : parts t ≤ f + 1) (hk : t.k = 2) (hlen2 : 2 ≤ t.args.length) (D : Nat → Prop) (ao : Option Addr) (cap : Nat) (v : Value) (L : List Int) (least : Int) (w : World) (hD : ∀ b, D b → b < w.heap.size) (hv : SlD w D t.args ao cap) (hown : OwnI 0 w v L) (hfit : Fits t) (hsh : shapedD t = true) (hocc : ∀ n ∈ occD t, n ∈ L) (hL9 : L.length ≤ 1000) (hp : parts t ≤ 400) :
    Calls Try.prog 44 #[.agg (rowOf t ao cap), .int .i64 least, v] w (ShPost w (showD L t least)) := by
  obtain ⟨W, hW⟩ : ∃ W, W = w.alloc (.cells (rowOf t ao cap) 33) := ⟨_, rfl⟩
  obtain ⟨hbW, hlW, hrow⟩ := box_at hW
  obtain ⟨ss, hss⟩ : ∃ ss, ss = joinB starS (showL L t.args 2) := ⟨_, rfl⟩
  obtain ⟨rr, hrr⟩ : ∃ rr, rr = roundD (decide (1 < least)) ss := ⟨_, rfl⟩
  have hshow : showD L t least = rr := by rw [show_args, if_neg (by omega), if_neg (by omega), if_pos hk, hrr, hss]
  rw [hshow]
  have hfull : joinB starS ((showL L t.args 2).take t.args.length) = ss := by rw [hss, ← showL_len L 2 t.args, List.take_length]
  have y3 : ss.size ≤ 112590000000000000 := by
    have := join_small hL9 hfit.args (parts_args_le hp) 2 starS (by decide) t.args.length
    rw [hfull] at this
    omega
  have o1 : ¬ 9223372036854775807 < 1 + ss.size := by omega
  have o2 : ¬ 9223372036854775807 < 1 + ss.size + 1 := by omega
  have HARG := Lib.hid (fun (j : Nat) (u : Ty) (hj : t.args[j]? = some u) => argR IH ht (by omega) hD hv hown hfit hsh hocc hL9 hp 2 hj)
  have HZ := Lib.hid (fun (j : Nat) => join_small hL9 hfit.args (parts_args_le hp) 2 starS (by decide) j)
  have HZ1 := Lib.hid (fun (u : Ty) (hu : u ∈ t.args) => showD_small hL9 (hfit.args.get hu) (parts_le hu hp) 2)
  obtain ⟨c, hc⟩ : ∃ c, c = t.args.length := ⟨_, rfl⟩
  have hcl : c ≤ 3000000000000 := by rw [hc]; exact hfit.len
  have hc2 : 2 ≤ c := by rw [hc]; exact hlen2
  rw [← hc] at HARG hfull
  unfold rowOf at hW hrow ⊢
  rw [← hc] at hW hrow ⊢
  have HC := Lib.hid hc
  have HFULL := Lib.hid hfull
  have HRR := Lib.hid hrr
  have HROW := Lib.hid hrow
  have HBW := Lib.hid hbW
  have HC2 := Lib.hid hc2
  have hl1 : w.heap.size < W.heap.size := hlW
  have c0 : W.cell? ⟨w.heap.size, 0, none⟩ = some (.int .i64 t.k) := blk_cell hrow 0
  have c4 : W.cell? ⟨w.heap.size, 4, none⟩ = some (.slice ao c cap) := blk_cell hrow 4
  have e0 : (t.k == 0) = false := by simp [hk]
  have e3 : (t.k == 3) = false := by simp [hk]
  have e2 : (t.k == 2) = true := by simp [hk]
  have HFIN : Hid (∀ V : World, Below W.heap.size W V → ∀ s, s = rr → ShPost w rr (.returned (.string s)) V) := Lib.hid (fun V hV s hs => ⟨by rw [hs], bthen HBW.out hV⟩)
  have hc0 : 0 < t.args.length := by omega
  obtain ⟨u0, hu0⟩ : ∃ u, t.args[0]? = some u := ⟨_, List.getElem?_eq_getElem hc0⟩
  obtain ⟨b, p, ap, cp, hA⟩ := HARG.out 0 u0 hu0
  have hix := hA.ix
  have hixa : ∀ w' : World, (Instr.indexAt 31 (.slice ao c cap) (.int .i64 0)).run Try.prog w' = .ok (.pointer (some ⟨b, p, none⟩)) w' := hix
  obtain ⟨x0, x1, x2, x3, x4⟩ := hA.cells W hbW
  have HCALL0 := Lib.hid (hA.call W hbW)
  have HJ1 : Hid (joinB starS ((showL L t.args 2).take 1) = showD L u0 2) := Lib.hid (join_one starS L 2 hu0)
  clear hk hbW hlW hrow hshow hL9 hfit hc hss hrr y3 hfull hD hv hsh ht hp IH hlen2 hA hu0 hix hown hocc hc0
  go_enter Try.func44, Try.ntmps44
  go_upto_region 1 with fail
  rw [← hW]
  clear hW
  generalize Value.agg #[.int .i64 t.k, .int .i64 t.n, .string t.s, .int .i64 t.q, .slice ao c cap] = v0
  go_wp2_with (first | (go_at_call 44; refine HCALL0.out.mono ?_; rintro e w5 ⟨rfl, hb5⟩; have HB5 := Lib.hid hb5; clear hb5))
  rw [← HJ1.out]
  go_loopw [7, 8] (fun s i wr => ∃ j : Nat, s = .string (joinB starS ((showL L t.args 2).take j)) ∧ i = .int .i64 (j : Int) ∧ 1 ≤ j ∧ j ≤ c ∧ Below W.heap.size W wr) (fun _ i _ => c - (intOf i).toNat)
  case atStart => exact ⟨1, rfl, rfl, Nat.le_refl _, (by have := HC2.out; omega), HB5.out⟩
  case round =>
    obtain ⟨j, rfl, rfl, hj1, hj, hbo⟩ := hrel
    obtain ⟨wo, rfl⟩ : ∃ wo : World, wo = wr := ⟨_, rfl⟩
    obtain ⟨cur, hcur⟩ : ∃ cur, cur = joinB starS ((showL L t.args 2).take j) := ⟨_, rfl⟩
    rw [← hcur]
    have HCUR := Lib.hid hcur
    have HBO := Lib.hid hbo
    have HJJ := Lib.hid hj1
    have hro := blk_below HROW.out hbo (lt_of_block HROW.out)
    have r4 : wo.cell? ⟨w.heap.size, 4, none⟩ = some (.slice ao c cap) := blk_cell hro 4
    have r2 : wo.cell? ⟨w.heap.size, 2, none⟩ = some (.string t.s) := blk_cell hro 2
    clear x0 x1 x2 x3 x4 c0 c4 hixa hro
    by_cases hlt : j < c
    · have hd : decide ((j : Int) < (c : Int)) = true := by simp; omega
      have hjk : j < t.args.length := by rw [← HC.out]; exact hlt
      obtain ⟨u, hu⟩ : ∃ u, t.args[j]? = some u := ⟨_, List.getElem?_eq_getElem hjk⟩
      obtain ⟨b', p', ap', cp', hA⟩ := HARG.out j u hu
      have hix := hA.ix
      obtain ⟨x0, x1, x2, x3, x4⟩ := hA.cells wo (bthen HBW.out hbo)
      have HCALL := Lib.hid (hA.call wo (bthen HBW.out hbo))
      have y0 : cur.size ≤ 112590000000000000 := by rw [hcur]; exact HZ.out j
      have y1 := HZ1.out u (List.mem_of_getElem? hu)
      obtain ⟨s0, hs0⟩ : ∃ s, s = showD L u 2 := ⟨_, rfl⟩
      rw [← hs0] at y1 HCALL
      have y2 : ¬ 9223372036854775807 < cur.size + 3 := by omega
      have y3 : ¬ 9223372036854775807 < cur.size + 3 + s0.size := by omega
      have HJ : Hid (joinB starS ((showL L t.args 2).take (j + 1)) = (cur ++ starS) ++ s0) := Lib.hid (by rw [join_more starS L 2 hu hj1, hcur, hs0])
      clear hA hu hcur hbo hs0
      go_wp2_with (first | (go_at_call 44; refine HCALL.out.mono ?_; rintro e w7 ⟨rfl, hb7⟩; have HB7 := Lib.hid hb7; clear hb7))
      go_roundw
      case rel =>
        refine ⟨j + 1, ?_, by go_num, by omega, hlt, bthen HBO.out HB7.out⟩
        exact congrArg Value.string (by rw [HJ.out]; rfl)
      case measure => simp only [intOf]; omega
    · obtain rfl : j = c := by omega
      have hd : decide ((j : Int) < (j : Int)) = false := by simp
      have hc2' : cur = ss := by rw [hcur, HFULL.out]
      rw [hc2']
      clear hcur hc2' hbo
      cases hbb : decide (1 < least) with
      | true =>
        have HE := Lib.hid HRR.out
        rw [hbb] at HE
        go_wp2_with fail
        go_ret
        exact HFIN.out _ HBO.out _ HE.out.symm
      | false =>
        have HE := Lib.hid HRR.out
        rw [hbb] at HE
        go_wp2_with fail
        go_ret
        exact HFIN.out _ HBO.out _ HE.out.symm
set_option maxRecDepth 100000 in
set_option maxHeartbeats 4000000 in
theorem rshow_con2 (f : Nat) (IH : RShowAt f) (t : Ty) (ht : parts t ≤ f + 1) (hk : t.k = 1) (hlen2 : 2 ≤ t.args.length) (D : Nat → Prop) (ao : Option Addr) (cap : Nat) (v : Value) (L : List Int) (least : Int) (w : World) (hD : ∀ b, D b → b < w.heap.size) (hv : SlD w D t.args ao cap) (hown : OwnI 0 w v L) (hfit : Fits t) (hsh : shapedD t = true) (hocc : ∀ n ∈ occD t, n ∈ L) (hL9 : L.length ≤ 1000) (hp : parts t ≤ 400) :
    Calls Try.prog 44 #[.agg (rowOf t ao cap), .int .i64 least, v] w (ShPost w (showD L t least)) := by
  obtain ⟨W, hW⟩ : ∃ W, W = w.alloc (.cells (rowOf t ao cap) 33) := ⟨_, rfl⟩
  obtain ⟨hbW, hlW, hrow⟩ := box_at hW
  obtain ⟨ss, hss⟩ : ∃ ss, ss = joinB commaS (showL L t.args 0) := ⟨_, rfl⟩
  obtain ⟨rr, hrr⟩ : ∃ rr, rr = ((⟨#[40]⟩ ++ ss) ++ closeS) ++ t.s := ⟨_, rfl⟩
  have hshow : showD L t least = rr := by rw [show_args, if_neg (by omega), if_neg (by omega), if_neg (by omega), con_many L t.s hlen2, hrr, hss]
  rw [hshow]
  have hfull : joinB commaS ((showL L t.args 0).take t.args.length) = ss := by rw [hss, ← showL_len L 0 t.args, List.take_length]
  have y3 : ss.size ≤ 112590000000000000 := by
    have := join_small hL9 hfit.args (parts_args_le hp) 0 commaS (by decide) t.args.length
    rw [hfull] at this
    omega
  have zs : t.s.size ≤ 140737488355328 := hfit.s
  have o1 : ¬ 9223372036854775807 < 1 + ss.size := by omega
  have o2 : ¬ 9223372036854775807 < 1 + ss.size + 2 := by omega
  have o3 : ¬ 9223372036854775807 < 1 + ss.size + 2 + t.s.size := by omega
  have HARG := Lib.hid (fun (j : Nat) (u : Ty) (hj : t.args[j]? = some u) => argR IH ht (by omega) hD hv hown hfit hsh hocc hL9 hp 0 hj)
  have HZ := Lib.hid (fun (j : Nat) => join_small hL9 hfit.args (parts_args_le hp) 0 commaS (by decide) j)
  have HZ1 := Lib.hid (fun (u : Ty) (hu : u ∈ t.args) => showD_small hL9 (hfit.args.get hu) (parts_le hu hp) 0)
  obtain ⟨c, hc⟩ : ∃ c, c = t.args.length := ⟨_, rfl⟩
  have hcl : c ≤ 3000000000000 := by rw [hc]; exact hfit.len
  have hc2 : 2 ≤ c := by rw [hc]; exact hlen2
  have f0 : (c == 0) = false := by simp; omega
  have f1 : (c == 1) = false := by simp; omega
  have g0 : ((c : Int) == 0) = false := by simp; omega
  have g1 : ((c : Int) == 1) = false := by simp; omega
  rw [← hc] at HARG hfull
  unfold rowOf at hW hrow ⊢
  rw [← hc] at hW hrow ⊢
  have HC := Lib.hid hc
  have HFULL := Lib.hid hfull
  have HRR := Lib.hid hrr
  have HROW := Lib.hid hrow
  have HBW := Lib.hid hbW
  have HC2 := Lib.hid hc2
  have hl1 : w.heap.size < W.heap.size := hlW
  have c0 : W.cell? ⟨w.heap.size, 0, none⟩ = some (.int .i64 t.k) := blk_cell hrow 0
  have c4 : W.cell? ⟨w.heap.size, 4, none⟩ = some (.slice ao c cap) := blk_cell hrow 4
  have e0 : (t.k == 0) = false := by simp [hk]
  have e3 : (t.k == 3) = false := by simp [hk]
  have e2 : (t.k == 2) = false := by simp [hk]
  have HFIN : Hid (∀ V : World, Below W.heap.size W V → ∀ s, s = rr → ShPost w rr (.returned (.string s)) V) := Lib.hid (fun V hV s hs => ⟨by rw [hs], bthen HBW.out hV⟩)
  have hc0 : 0 < t.args.length := by omega
  obtain ⟨u0, hu0⟩ : ∃ u, t.args[0]? = some u := ⟨_, List.getElem?_eq_getElem hc0⟩
  obtain ⟨b, p, ap, cp, hA⟩ := HARG.out 0 u0 hu0
  have hix := hA.ix
  have hixa : ∀ w' : World, (Instr.indexAt 31 (.slice ao c cap) (.int .i64 0)).run Try.prog w' = .ok (.pointer (some ⟨b, p, none⟩)) w' := hix
  obtain ⟨x0, x1, x2, x3, x4⟩ := hA.cells W hbW
  have HCALL0 := Lib.hid (hA.call W hbW)
  have HJ1 : Hid (joinB commaS ((showL L t.args 0).take 1) = showD L u0 0) := Lib.hid (join_one commaS L 0 hu0)
  clear hk hbW hlW hrow hshow hL9 hfit hc hss hrr y3 hfull hD hv hsh ht hp IH hlen2 hA hu0 hix hown hocc hc0
  go_enter Try.func44, Try.ntmps44
  go_upto_region 1 with fail
  rw [← hW]
  clear hW
  generalize Value.agg #[.int .i64 t.k, .int .i64 t.n, .string t.s, .int .i64 t.q, .slice ao c cap] = v0
  go_wp2_with (first | (go_at_call 44; refine HCALL0.out.mono ?_; rintro e w5 ⟨rfl, hb5⟩; have HB5 := Lib.hid hb5; clear hb5))
  rw [← HJ1.out]
  go_loopw [7, 9] (fun s i wr => ∃ j : Nat, s = .string (joinB commaS ((showL L t.args 0).take j)) ∧ i = .int .i64 (j : Int) ∧ 1 ≤ j ∧ j ≤ c ∧ Below W.heap.size W wr) (fun _ i _ => c - (intOf i).toNat)
  case atStart => exact ⟨1, rfl, rfl, Nat.le_refl _, (by have := HC2.out; omega), HB5.out⟩
  case round =>
    obtain ⟨j, rfl, rfl, hj1, hj, hbo⟩ := hrel
    obtain ⟨wo, rfl⟩ : ∃ wo : World, wo = wr := ⟨_, rfl⟩
    obtain ⟨cur, hcur⟩ : ∃ cur, cur = joinB commaS ((showL L t.args 0).take j) := ⟨_, rfl⟩
    rw [← hcur]
    have HCUR := Lib.hid hcur
    have HBO := Lib.hid hbo
    have HJJ := Lib.hid hj1
    have hro := blk_below HROW.out hbo (lt_of_block HROW.out)
    have r4 : wo.cell? ⟨w.heap.size, 4, none⟩ = some (.slice ao c cap) := blk_cell hro 4
    have r2 : wo.cell? ⟨w.heap.size, 2, none⟩ = some (.string t.s) := blk_cell hro 2
    clear x0 x1 x2 x3 x4 c0 c4 hixa hro
    by_cases hlt : j < c
    · have hd : decide ((j : Int) < (c : Int)) = true := by simp; omega
      have hjk : j < t.args.length := by rw [← HC.out]; exact hlt
      obtain ⟨u, hu⟩ : ∃ u, t.args[j]? = some u := ⟨_, List.getElem?_eq_getElem hjk⟩
      obtain ⟨b', p', ap', cp', hA⟩ := HARG.out j u hu
      have hix := hA.ix
      obtain ⟨x0, x1, x2, x3, x4⟩ := hA.cells wo (bthen HBW.out hbo)
      have HCALL := Lib.hid (hA.call wo (bthen HBW.out hbo))
      have y0 : cur.size ≤ 112590000000000000 := by rw [hcur]; exact HZ.out j
      have y1 := HZ1.out u (List.mem_of_getElem? hu)
      obtain ⟨s0, hs0⟩ : ∃ s, s = showD L u 0 := ⟨_, rfl⟩
      rw [← hs0] at y1 HCALL
      have y2 : ¬ 9223372036854775807 < cur.size + 2 := by omega
      have y3 : ¬ 9223372036854775807 < cur.size + 2 + s0.size := by omega
      have HJ : Hid (joinB commaS ((showL L t.args 0).take (j + 1)) = (cur ++ commaS) ++ s0) := Lib.hid (by rw [join_more commaS L 0 hu hj1, hcur, hs0])
      clear hA hu hcur hbo hs0
      go_wp2_with (first | (go_at_call 44; refine HCALL.out.mono ?_; rintro e w7 ⟨rfl, hb7⟩; have HB7 := Lib.hid hb7; clear hb7))
      go_roundw
      case rel =>
        refine ⟨j + 1, ?_, by go_num, by omega, hlt, bthen HBO.out HB7.out⟩
        exact congrArg Value.string (by rw [HJ.out]; rfl)
      case measure => simp only [intOf]; omega
    · obtain rfl : j = c := by omega
      have hd : decide ((j : Int) < (j : Int)) = false := by simp
      have hc2' : cur = ss := by rw [hcur, HFULL.out]
      rw [hc2']
      clear hcur hc2' hbo
      go_wp2_with fail
      go_ret
      have hfin := HFIN.out _ HBO.out _ HRR.out.symm
      exact hfin
end Go.Proofs.Ytdeomphilggokaa
