/-
  Proved: the contracts of the reference's has and Vars. Condition: at most 2^40 numbers.
-/
import Derived.Test.YtdeomphilggokaaA8
import Derived.OwnWalk
import Derived.Maps.AppendAt
set_option linter.unusedSimpArgs false
set_option linter.unusedVariables false
namespace Go.Proofs.Ytdeomphilggokaa
open Go.RowKit

abbrev iv (n : Int) : Value := .int .i64 n
/-- a list of numbers in a row of one's own, at B or above -/
abbrev OwnI (B : Nat) (w : World) (v : Value) (xs : List Int) : Prop := w.ownsRow B 3 1 v xs.length (xs.map iv)
theorem iv_all (l : List Int) : ∀ u ∈ l.map iv, u.oneCell' = true := by
  intro u hu
  obtain ⟨_, _, rfl⟩ := List.mem_map.1 hu
  rfl
theorem OwnI.get {B : Nat} {w : World} {v : Value} {xs : List Int} (h : OwnI B w v xs) : ∃ ao cap, v = .slice ao xs.length cap ∧ ∀ i (_ : i < xs.length), ∃ g, ao = some ⟨g, 0, none⟩ ∧ B ≤ g ∧ w.cell? ⟨g, i, none⟩ = some (.int .i64 xs[i]) := by
  rcases h.2 with ⟨rfl, h0⟩ | ⟨g, cap, cur, rfl, hB, hg, hc, hm, hs, ht⟩
  · exact ⟨none, 0, by rw [h0], fun i hi => by omega⟩
  · refine ⟨_, cap, rfl, fun i hi => ⟨g, rfl, hB, ?_⟩⟩
    have h4 : (xs.map iv)[i]? = some (iv xs[i]) := by simp [hi]
    rw [← ht, List.getElem?_take, if_pos (by omega), Array.getElem?_toList] at h4
    rw [blk_cell hg]
    exact h4
theorem OwnI.carry {B : Nat} {w w' : World} {v : Value} {xs : List Int} (h : OwnI B w v xs) (hb : Below w.heap.size w w') : OwnI B w' v xs :=
  own_carry h fun g c f hg => blk_below hg hb (lt_of_block hg)
theorem size3 (w : World) : (sizeOf 3).run Try.prog w = .ok 1 w := by kernel_rfl
theorem info3 : (Try.prog.info? 3).map (fun i => (i.zero, i.size, i.bytes)) = some (some (.int .i64 0), 1, 8) := by kernel_rfl
set_option maxRecDepth 100000 in
set_option maxHeartbeats 4000000 in
theorem has_any (B : Nat) (v : Value) (xs : List Int) (n : Int) (w : World) (h : OwnI B w v xs) (hl : xs.length ≤ 3000000000000) :
    Calls Try.prog 46 #[v, .int .i64 n] w fun e w' => e = .returned (.bool (decide (n ∈ xs))) ∧ w' = w := by
  obtain ⟨ao, cap, rfl, hget⟩ := h.get
  obtain ⟨c, hc⟩ : ∃ c, c = xs.length := ⟨_, rfl⟩
  obtain ⟨ans, hans⟩ : ∃ ans, ans = decide (n ∈ xs) := ⟨_, rfl⟩
  rw [← hc] at hl
  rw [← hc, ← hans]
  have HC := Lib.hid hc
  have HANS := Lib.hid hans
  have HG := Lib.hid hget
  clear hc hget h hans
  go_enter Try.func46, Try.ntmps46
  go_wp2_with fail
  go_loopw [5] (fun i wr => ∃ j : Nat, i = .int .i64 (j : Int) ∧ j ≤ c ∧ n ∉ xs.take j ∧ wr = w) (fun i _ => c - (intOf i).toNat)
  case atStart => exact ⟨0, rfl, Nat.zero_le _, by simp, rfl⟩
  case round =>
    obtain ⟨j, rfl, hj, hno, hw⟩ := hrel
    subst hw
    have HNO := Lib.hid hno
    clear hno
    by_cases hlt : j < c
    · have hd : decide ((j : Int) < (c : Int)) = true := by simp; omega
      have hjk : j < xs.length := by rw [← HC.out]; exact hlt
      obtain ⟨g, hao, _, hcell⟩ := HG.out j hjk
      have hix := index_at Try.underlying47 size3 hao c cap j hlt
      rw [Nat.zero_add, Nat.mul_one] at hix
      obtain ⟨x, hx⟩ : ∃ x, x = xs[j] := ⟨_, rfl⟩
      rw [← hx] at hcell
      have HX := Lib.hid hx
      clear hx hao
      by_cases hxn : x = n
      · have e : (x == n) = true := by simp [hxn]
        have HXN := Lib.hid hxn
        clear hxn
        go_wp2_with fail
        go_ret
        refine ⟨?_, rfl⟩
        have e : ans = true := by rw [HANS.out, decide_eq_true_eq, ← HXN.out, HX.out]; exact List.getElem_mem _
        exact congrArg (fun b : Bool => Ending.returned (.bool b)) e.symm
      · have e : (x == n) = false := by simp [hxn]
        have HXN := Lib.hid hxn
        clear hxn
        go_wp2_with fail
        go_roundw
        case rel =>
          refine ⟨j + 1, by go_num, hlt, ?_, trivial⟩
          rw [List.take_succ_eq_append_getElem hjk, List.mem_append, not_or]
          refine ⟨HNO.out, ?_⟩
          rw [List.mem_singleton, ← HX.out]
          exact fun h => HXN.out h.symm
        case measure => simp only [intOf]; omega
    · obtain rfl : j = c := by omega
      have hd : decide ((j : Int) < (j : Int)) = false := by simp
      go_wp2_with fail
      go_ret
      refine ⟨?_, rfl⟩
      have h1 := HNO.out
      rw [HC.out, List.take_length] at h1
      have e : ans = false := by rw [HANS.out]; simpa using h1
      exact congrArg (fun b : Bool => Ending.returned (.bool b)) e.symm
def addV (xs : List Int) (n : Int) : List Int := if n ∈ xs then xs else xs ++ [n]
mutual
/-- the variables of a type behind those of a list -/
def varsD (xs : List Int) : Ty → List Int
  | .mk k n _ _ args => if k = 0 then addV xs n else varsL xs args
def varsL (xs : List Int) : List Ty → List Int
  | [] => xs
  | p :: ps => varsL (varsD xs p) ps
end
theorem varsL_append : ∀ (l r : List Ty) (xs : List Int), varsL xs (l ++ r) = varsL (varsL xs l) r
  | [], r, xs => by simp [varsL]
  | p :: ps, r, xs => by rw [List.cons_append, varsL, varsL, varsL_append ps r]
theorem varsL_take {l : List Ty} {j : Nat} (h : j < l.length) (xs : List Int) : varsL xs (l.take (j + 1)) = varsD (varsL xs (l.take j)) l[j] := by
  rw [List.take_succ_eq_append_getElem h, varsL_append, varsL, varsL]
theorem vars_args (xs : List Int) (t : Ty) : varsD xs t = if t.k = 0 then addV xs t.n else varsL xs t.args := by cases t; rw [varsD]; rfl
theorem addV_len (xs : List Int) (n : Int) : (addV xs n).length ≤ xs.length + 1 := by unfold addV; split <;> simp
mutual
theorem varsD_len : ∀ (t : Ty) (xs : List Int), (varsD xs t).length ≤ xs.length + parts t
  | .mk k n s q args, xs => by
    rw [varsD, parts]
    split
    · have := addV_len xs n; omega
    · have := varsL_len args xs; omega
theorem varsL_len : ∀ (l : List Ty) (xs : List Int), (varsL xs l).length ≤ xs.length + partsL l
  | [], xs => by simp [varsL, partsL]
  | p :: ps, xs => by
    rw [varsL, partsL]
    have h1 := varsD_len p xs
    have h2 := varsL_len ps (varsD xs p)
    omega
end
/-- a row grows on: in its own block or in a new one -/
theorem gr_on {w W W' : World} {r r' : Option Nat} (h : w.grownBy W r) (hg : W.grownBy W' r') (hr : r' = r ∨ ∀ g, r' = some g → w.heap.size ≤ g) : w.grownBy W' r :=
  ⟨hg.os.trans h.os, hg.tape.trans h.tape, hg.output.trans h.output, Nat.le_trans h.size hg.size, fun k hk hne => (hg.block k (Nat.lt_of_lt_of_le hk h.size) (fun e => by
    rcases hr with rfl | hr
    · exact hne e
    · have := hr k e.symm; omega)).trans (h.block k hk hne)⟩
/-- where the row lies behind a growth -/
def OnAt (w : World) (v v' : Value) : Prop := v'.ownBlock = v.ownBlock ∨ ∃ g, v'.ownBlock = some g ∧ w.heap.size ≤ g
theorem OnAt.trans {w W : World} {v v1 v2 : Value} (h : OnAt w v v1) (h2 : OnAt W v1 v2) (hs : w.heap.size ≤ W.heap.size) : OnAt w v v2 := by
  rcases h2 with e | ⟨g, e, hg⟩
  · rcases h with e1 | ⟨g, e1, hg⟩
    · exact .inl (e.trans e1)
    · exact .inr ⟨g, e.trans e1, hg⟩
  · exact .inr ⟨g, e, Nat.le_trans hs hg⟩
theorem OnAt.far {w : World} {v v' : Value} (h : OnAt w v v') : v'.ownBlock = v.ownBlock ∨ ∀ g, v'.ownBlock = some g → w.heap.size ≤ g := by
  rcases h with e | ⟨g, e, hg⟩
  · exact .inl e
  · exact .inr fun g' e' => by have := Option.some.inj (e.symm.trans e'); omega
theorem OwnI.lt' {B : Nat} {w : World} {v : Value} {xs : List Int} (h : OwnI B w v xs) {g : Nat} (hg : v.ownBlock = some g) : g < w.heap.size := (h.lt g hg).2
/-- a list with what was appended, and all that it has touched -/
structure GrewI (w : World) (v : Value) (ys : List Int) (w' : World) (v' : Value) : Prop where
  own : OwnI 0 w' v' ys
  gr : w.grownBy w' v.ownBlock
  at' : OnAt w v v'
set_option maxRecDepth 100000 in
set_option maxHeartbeats 4000000 in
theorem vars_any : ∀ (f : Nat) (t : Ty), parts t ≤ f → ∀ (D : Nat → Prop) (ao : Option Addr) (cap : Nat) (v : Value) (xs : List Int) (w : World), (∀ b, D b → b < w.heap.size ∧ v.ownBlock ≠ some b) → SlD w D t.args ao cap → OwnI 0 w v xs → Fits t → xs.length + parts t ≤ 1000000000000 →
    Calls Try.prog 22 #[v, .agg (rowOf t ao cap)] w fun e w' => ∃ v', e = .returned v' ∧ GrewI w v (varsD xs t) w' v' := by
  intro f
  induction f with
  | zero => intro t ht; have := parts_pos t; omega
  | succ f IH =>
    intro t ht D ao cap v xs w hD hv hown hfit hlen
    obtain ⟨c, hc⟩ : ∃ c, c = t.args.length := ⟨_, rfl⟩
    obtain ⟨W, hW⟩ : ∃ W, W = w.alloc (.cells (rowOf t ao cap) 33) := ⟨_, rfl⟩
    obtain ⟨hbW, hlW, hrow⟩ := box_at hW
    have hcl : c ≤ 3000000000000 := by rw [hc]; exact hfit.len
    obtain ⟨ans, hans⟩ : ∃ ans, ans = varsD xs t := ⟨_, rfl⟩
    rw [← hans]
    rw [vars_args] at hans
    have hownW : OwnI 0 W v xs := hown.carry hbW
    have hgW : w.grownBy W v.ownBlock := gr_below hbW _
    have hvlt : ∀ g, v.ownBlock = some g → g < w.heap.size := fun g e => hown.lt' e
    obtain ⟨va, vc, rfl, _⟩ := hown.get
    have hhas := has_any 0 _ xs t.n W hownW (by omega)
    obtain ⟨m, hm⟩ : ∃ m, m = xs.length := ⟨_, rfl⟩
    rw [← hm] at hhas hgW hvlt hD
    have HOWN : Hid (W.ownsRow 0 3 1 (.slice va m vc) m (xs.map iv)) := Lib.hid (by rw [hm]; exact hownW)
    unfold rowOf at hW hrow
    unfold rowOf
    rw [← hc] at hW hrow
    rw [← hc]
    have HC := Lib.hid hc
    have HT := Lib.hid ht
    have HFIT := Lib.hid hfit
    have HIH := Lib.hid IH
    have HD := Lib.hid hD
    have HV := Lib.hid hv
    have HGW := Lib.hid hgW
    have HROW := Lib.hid hrow
    have HANS := Lib.hid hans
    have HHAS := Lib.hid hhas
    have HLEN := Lib.hid hlen
    have HM := Lib.hid hm
    have HVLT := Lib.hid hvlt
    have c0 : W.cell? ⟨w.heap.size, 0, none⟩ = some (.int .i64 t.k) := blk_cell hrow 0
    have c1 : W.cell? ⟨w.heap.size, 1, none⟩ = some (.int .i64 t.n) := blk_cell hrow 1
    obtain ⟨i3, hi, hz0, hz1, hz2⟩ := info_parts info3
    have HI := Lib.hid hi
    have hm9 : m ≤ 1000000000000 := by rw [hm]; omega
    rw [← hm]
    clear IH hD hv hc ht hfit hbW hrow hown hownW hans hhas hlen hi hgW hvlt hm
    go_enter Try.func22, Try.ntmps22
    go_upto_region 1 with fail
    rw [← hW]
    have HWW := Lib.hid hW
    clear hW
    generalize Value.agg #[.int .i64 t.k, .int .i64 t.n, .string t.s, .int .i64 t.q, .slice ao c cap] = v0
    by_cases hk : t.k = 0
    · have e0 : (t.k == 0) = true := by simp [hk]
      have HK := Lib.hid hk
      clear hk
      have HA2 : Hid (ans = addV xs t.n) := Lib.hid (by rw [HANS.out, if_pos HK.out])
      by_cases hin : t.n ∈ xs
      · have hd : decide (t.n ∈ xs) = true := by simpa using hin
        rw [hd] at HHAS
        go_wp2_with (first | (go_at_call 46; refine HHAS.out.mono ?_; rintro e w7 ⟨rfl, hw7⟩; subst w7))
        go_ret
        refine ⟨.slice va m vc, rfl, ?_, HGW.out, .inl rfl⟩
        rw [HA2.out, addV, if_pos hin]
        have h := HOWN.out
        rw [HM.out] at h ⊢
        exact h
      · have hd : decide (t.n ∈ xs) = false := by simpa using hin
        rw [hd] at HHAS
        have e : ans = xs ++ [t.n] := by rw [HA2.out, addV, if_neg hin]
        have HE := Lib.hid e
        have hoA := HOWN.out.alloc (.cells #[.int .i64 t.n] 3)
        have HOA := Lib.hid hoA
        clear e hoA hin hd
        go_wp2_with (first
          | (go_at_call 46; refine HHAS.out.mono ?_; rintro e w7 ⟨rfl, hw7⟩; subst w7)
          | (at_builtin; go_must (refine wpList_append_own_at _ rfl (.tmp 16) (.tmp 19) 47 rfl 0 3 i3 (.int .i64 0) 1 8 Try.underlying47 HI.out hz0 hz1 hz2 rfl (by decide) (.slice va m vc) m (xs.map iv) rfl HOA.out ⟨W.heap.size, 0, none⟩ 1 1 [.int .i64 t.n] rfl rfl (new_cells (c := #[.int .i64 t.n]) _ (by simp)) (by simp [Value.oneCell']) (by unfold maxLen; omega) (by omega) (Nat.zero_le _) ?_)))
        intro v4 w4 hown4 hg4 hnil4 hat4
        have FIN : GrewI w (.slice va m vc) ans w4 v4 := by
          refine ⟨?_, gr_on (gr_trans HGW.out (gr_below (balloc (Below.refl _ _) _) _)) hg4 (.inl rfl), ?_⟩
          · rw [HE.out]
            show w4.ownsRow 0 3 1 v4 (xs ++ [t.n]).length ((xs ++ [t.n]).map iv)
            rw [List.length_append, List.map_append, ← HM.out]
            exact hown4
          · rcases hat4 with e | e
            · exact .inl e
            · exact .inr ⟨_, e, Nat.le_trans (Nat.le_of_lt hlW) (by simp)⟩
        clear hown4 hg4 hnil4 hat4
        go_wp2_with fail
        go_ret
        exact ⟨v4, rfl, FIN⟩
    · have e0 : (t.k == 0) = false := by simp [hk]
      have HA2 : Hid (ans = varsL xs t.args) := Lib.hid (by rw [HANS.out, if_neg hk])
      clear hk
      go_wp2_with fail
      go_loopw [0, 6] (fun v i wr => ∃ j : Nat, i = .int .i64 (j : Int) ∧ j ≤ c ∧ GrewI w (.slice va m vc) (varsL xs (t.args.take j)) wr v ∧ wr.heap[w.heap.size]? = some (.cells #[.int .i64 t.k, .int .i64 t.n, .string t.s, .int .i64 t.q, .slice ao c cap] 33 (0, 0))) (fun _ i _ => c - (intOf i).toNat)
      case atStart => exact ⟨0, rfl, Nat.zero_le _, ⟨by simp only [List.take_zero, varsL]; have h := HOWN.out; rw [HM.out] at h ⊢; exact h, HGW.out, .inl rfl⟩, HROW.out⟩
      case round =>
        obtain ⟨j, rfl, hj, hgi, hrr⟩ := hrel
        obtain ⟨wo, rfl⟩ : ∃ wo : World, wo = wr := ⟨_, rfl⟩
        have c4 : wo.cell? ⟨w.heap.size, 4, none⟩ = some (.slice ao c cap) := blk_cell hrr 4
        have HRR := Lib.hid hrr
        have hlr := lt_of_block hrr
        have HGI := Lib.hid hgi
        have hszo := hgi.gr.size
        obtain ⟨va2, vc2, hv2, _⟩ := hgi.own.get
        obtain ⟨m2, hm2⟩ : ∃ m2, m2 = (varsL xs (t.args.take j)).length := ⟨_, rfl⟩
        rw [← hm2] at hv2
        subst hv2
        have HM2 := Lib.hid hm2
        clear hrr hgi hm2
        by_cases hlt : j < c
        · have hd : decide ((j : Int) < (c : Int)) = true := by simp; omega
          have hjk : j < t.args.length := by rw [← HC.out]; exact hlt
          have hvr : SlD wo D t.args ao cap := HV.out.keep fun b hb off => World.cell?_of_block (HGI.out.gr.block b (HD.out b hb).1 (fun e => (HD.out b hb).2 e.symm))
          obtain ⟨b, p, ap, cp, hDb, hix, x0, x1, x2, x3, x4, hs⟩ := arg_cells hvr hjk
          rw [← HC.out] at hix
          obtain ⟨u, hu⟩ : ∃ u, u = t.args[j] := ⟨_, rfl⟩
          rw [← hu] at x0 x1 x2 x3 x4 hs
          have hmem : u ∈ t.args := by rw [hu]; exact List.getElem_mem _
          have hcall := HIH.out u (by have h1 := HT.out; rw [parts_args] at h1; have := parts_mem hmem; omega) D ap cp (.slice va2 m2 vc2) (varsL xs (t.args.take j)) wo (fun b hb => ⟨Nat.lt_of_lt_of_le (HD.out b hb).1 hszo, fun e => by
              rcases HGI.out.at' with e1 | ⟨g, e1, hg⟩
              · exact (HD.out b hb).2 (e1.symm.trans e)
              · have := Option.some.inj (e1.symm.trans e)
                have := (HD.out b hb).1
                omega⟩) hs HGI.out.own (HFIT.out.args.get hmem) (by
              have h1 := HLEN.out
              rw [parts_args] at h1
              have h2 := partsL_take hjk
              have h3 := partsL_take_le t.args (j + 1)
              have h4 := varsL_len (t.args.take j) xs
              rw [← hu] at h2
              omega)
          unfold rowOf at hcall
          have HCALL := Lib.hid hcall
          have HU := Lib.hid hu
          clear hcall hvr hs hu hmem
          go_wp2_with (first | (go_at_call 22; refine HCALL.out.mono ?_; rintro e w7 ⟨v7, rfl, hg7⟩; have HG7 := Lib.hid hg7; clear hg7))
          go_roundw
          case rel =>
            refine ⟨j + 1, by go_num, hlt, ⟨?_, gr_on HGI.out.gr HG7.out.gr HGI.out.at'.far, HGI.out.at'.trans HG7.out.at' hszo⟩, ?_⟩
            · rw [varsL_take hjk, ← HU.out]; exact HG7.out.own
            · exact (HG7.out.gr.block _ hlr (fun e => own_ne HRR.out HGI.out.own (by decide) e.symm)).trans HRR.out
          case measure => simp only [intOf]; omega
        · obtain rfl : j = c := by omega
          have hd : decide ((j : Int) < (j : Int)) = false := by simp
          go_wp2_with fail
          go_ret
          refine ⟨_, rfl, ?_⟩
          have h1 := HGI.out
          rw [HC.out, List.take_length, ← HA2.out] at h1
          exact h1
end Go.Proofs.Ytdeomphilggokaa
