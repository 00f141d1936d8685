/-
  Proved: the contract of the reference's shown, that of its arguments given, kind by kind. Condition: a type that may be, of at most 400 parts.
-/
import Derived.Test.YtdeomphilggokaaS9
set_option linter.unusedSimpArgs false
set_option linter.unusedVariables false
namespace Go.Proofs.Ytdeomphilggokaa
open Go.RowKit

theorem occL_mem {l : List Ty} {u : Ty} (h : u ∈ l) {n : Int} (hn : n ∈ occD u) : n ∈ occL l := by
  induction l with
  | nil => cases h
  | cons p ps ih =>
    rw [occL, List.mem_append]
    rcases List.mem_cons.1 h with rfl | h
    · exact .inl hn
    · exact .inr (ih h)
theorem fold_keep {xs : List Int} {n : Int} : ∀ l : List Int, n ∈ xs → n ∈ l.foldl addV xs := by
  intro l
  induction l generalizing xs with
  | nil => intro h; exact h
  | cons m ms ih =>
    intro h
    rw [List.foldl_cons]
    refine ih ?_
    unfold addV
    split
    · exact h
    · simp [h]
theorem fold_mem {n : Int} : ∀ (l xs : List Int), n ∈ l → n ∈ l.foldl addV xs := by
  intro l
  induction l with
  | nil => intro xs h; cases h
  | cons m ms ih =>
    intro xs h
    rw [List.foldl_cons]
    rcases List.mem_cons.1 h with rfl | h
    · exact fold_keep ms (mem_addV xs _)
    · exact ih _ h
/-- what shown leaves -/
abbrev ShPost (w : World) (s : ByteArray) (e : Ending) (w' : World) : Prop := e = .returned (.string s) ∧ Below w.heap.size w w'
/-- the contract of the reference's shown at all types of so many parts -/
def RShowAt (f : Nat) : Prop := ∀ (t : Ty), parts t ≤ f → ∀ (D : Nat → Prop) (ao : Option Addr) (cap : Nat) (v : Value) (L : List Int) (least : Int) (w : World), (∀ b, D b → b < w.heap.size) → SlD w D t.args ao cap → OwnI 0 w v L → Fits t → shapedD t = true → (∀ n ∈ occD t, n ∈ L) → L.length ≤ 1000 → parts t ≤ 400 →
    Calls Try.prog 44 #[.agg (rowOf t ao cap), .int .i64 least, v] w (ShPost w (showD L t least))
/-- an argument, its cells and what shown says of it -/
structure ArgR (w : World) (ao : Option Addr) (c cap : Nat) (v : Value) (L : List Int) (least : Int) (j : Nat) (u : Ty) (b p : Nat) (ap : Option Addr) (cp : Nat) : Prop where
  lt : b < w.heap.size
  ix : ∀ w' : World, (Instr.indexAt 31 (.slice ao c cap) (.int .i64 j)).run Try.prog w' = .ok (.pointer (some ⟨b, p, none⟩)) w'
  cells : ∀ V : World, Below w.heap.size w V → V.cell? ⟨b, p, none⟩ = some (.int .i64 u.k) ∧ V.cell? ⟨b, p + 1, none⟩ = some (.int .i64 u.n) ∧ V.cell? ⟨b, p + 2, none⟩ = some (.string u.s) ∧ V.cell? ⟨b, p + 3, none⟩ = some (.int .i64 u.q) ∧ V.cell? ⟨b, p + 4, none⟩ = some (.slice ap u.args.length cp)
  call : ∀ V : World, Below w.heap.size w V → Calls Try.prog 44 #[.agg #[.int .i64 u.k, .int .i64 u.n, .string u.s, .int .i64 u.q, .slice ap u.args.length cp], .int .i64 least, v] V (ShPost V (showD L u least))
theorem argR {f : Nat} (IH : RShowAt f) {t : Ty} (ht : parts t ≤ f + 1) (hk : t.k ≠ 0) {D : Nat → Prop} {ao : Option Addr} {cap : Nat} {v : Value} {L : List Int} {w : World} (hD : ∀ b, D b → b < w.heap.size) (hv : SlD w D t.args ao cap) (hown : OwnI 0 w v L) (hfit : Fits t) (hsh : shapedD t = true) (hocc : ∀ n ∈ occD t, n ∈ L) (hL9 : L.length ≤ 1000) (hp : parts t ≤ 400) (least : Int) {j : Nat} {u : Ty} (hj : t.args[j]? = some u) :
    ∃ b p ap cp, ArgR w ao t.args.length cap v L least j u b p ap cp := by
  obtain ⟨hjl, rfl⟩ := List.getElem?_eq_some_iff.1 hj
  obtain ⟨b, p, ap, cp, hDb, hix, x0, x1, x2, x3, x4, hs⟩ := arg_cells hv hjl
  have hmem : t.args[j] ∈ t.args := List.getElem_mem _
  have hlt := hD b hDb
  refine ⟨b, p, ap, cp, hlt, hix, fun V hV => ?_, fun V hV => ?_⟩
  · have q : ∀ (o : Nat) (x : Value), w.cell? ⟨b, o, none⟩ = some x → V.cell? ⟨b, o, none⟩ = some x := fun o x e => (hV.cell (p := ⟨b, o, none⟩) hlt).trans e
    exact ⟨q _ _ x0, q _ _ x1, q _ _ x2, q _ _ x3, q _ _ x4⟩
  · refine IH _ (by have := parts_kid hmem; omega) D ap cp v L least V (fun b h => Nat.lt_of_lt_of_le (hD b h) hV.size) (hs.keep fun b hD' off => below_cells hV b (hD b hD') off) (hown.carry hV) (hfit.args.get hmem) (shaped_mem hsh hmem) (fun n hn => hocc n ?_) hL9 (parts_le hmem hp)
    rw [occ_args, if_neg hk]
    exact occL_mem hmem hn
set_option maxRecDepth 100000 in
set_option maxHeartbeats 4000000 in
theorem rshow_var (t : Ty) (hk : t.k = 0) (ao : Option Addr) (cap : Nat) (v : Value) (L : List Int) (least : Int) (w : World) (hown : OwnI 0 w v L) (hocc : ∀ n ∈ occD t, n ∈ L) (hL9 : L.length ≤ 1000) :
    Calls Try.prog 44 #[.agg (rowOf t ao cap), .int .i64 least, v] w (ShPost w (showD L t least)) := by
  obtain ⟨W, hW⟩ : ∃ W, W = w.alloc (.cells (rowOf t ao cap) 33) := ⟨_, rfl⟩
  obtain ⟨hbW, hlW, hrow⟩ := box_at hW
  have hn : t.n ∈ L := hocc _ (by rw [occ_args, if_pos hk]; simp)
  have HC := Lib.hid (rname_any t ao cap v L W (hown.carry hbW) hL9 hn)
  have hs : nameD L t.n t.q = showD L t least := by rw [show_args, if_pos hk]
  rw [hs] at HC
  obtain ⟨ss, hss⟩ : ∃ ss, ss = showD L t least := ⟨_, rfl⟩
  rw [← hss] at HC ⊢
  obtain ⟨c, hc⟩ : ∃ c, c = t.args.length := ⟨_, rfl⟩
  obtain ⟨va, vc, rfl, _⟩ := hown.get
  unfold rowOf at hW hrow HC ⊢
  rw [← hc] at hW hrow HC ⊢
  have c0 : W.cell? ⟨w.heap.size, 0, none⟩ = some (.int .i64 t.k) := blk_cell hrow 0
  have c1 : W.cell? ⟨w.heap.size, 1, none⟩ = some (.int .i64 t.n) := blk_cell hrow 1
  have c2 : W.cell? ⟨w.heap.size, 2, none⟩ = some (.string t.s) := blk_cell hrow 2
  have c3 : W.cell? ⟨w.heap.size, 3, none⟩ = some (.int .i64 t.q) := blk_cell hrow 3
  have c4 : W.cell? ⟨w.heap.size, 4, none⟩ = some (.slice ao c cap) := blk_cell hrow 4
  have e0 : (t.k == 0) = true := by simp [hk]
  have HBW := Lib.hid hbW
  clear hk hbW hlW hrow hs hL9 hc hss hown hocc hn
  go_enter Try.func44, Try.ntmps44
  go_upto_region 1 with fail
  rw [← hW]
  clear hW
  generalize Value.agg #[.int .i64 t.k, .int .i64 t.n, .string t.s, .int .i64 t.q, .slice ao c cap] = v0
  go_wp2_with (first | (go_at_call 63; refine HC.out.mono ?_; rintro e w7 ⟨rfl, hb7⟩; have HB7 := Lib.hid hb7; clear hb7))
  go_ret
  exact ⟨rfl, bthen HBW.out HB7.out⟩
set_option maxRecDepth 100000 in
set_option maxHeartbeats 4000000 in
theorem rshow_con0 (t : Ty) (hk : t.k = 1) (hlen : t.args.length = 0) (ao : Option Addr) (cap : Nat) (v : Value) (L : List Int) (least : Int) (w : World) :
    Calls Try.prog 44 #[.agg (rowOf t ao cap), .int .i64 least, v] w (ShPost w (showD L t least)) := by
  obtain ⟨W, hW⟩ : ∃ W, W = w.alloc (.cells (rowOf t ao cap) 33) := ⟨_, rfl⟩
  obtain ⟨hbW, hlW, hrow⟩ := box_at hW
  have hshow : showD L t least = t.s := by
    rw [show_args, if_neg (by omega), if_neg (by omega), if_neg (by omega), con_none L t.s hlen]
  rw [hshow]
  unfold rowOf at hW hrow ⊢
  rw [hlen] at hW hrow ⊢
  have c0 : W.cell? ⟨w.heap.size, 0, none⟩ = some (.int .i64 t.k) := blk_cell hrow 0
  have c2 : W.cell? ⟨w.heap.size, 2, none⟩ = some (.string t.s) := blk_cell hrow 2
  have c4 : W.cell? ⟨w.heap.size, 4, none⟩ = some (.slice ao 0 cap) := blk_cell hrow 4
  have e0 : (t.k == 0) = false := by simp [hk]
  have e3 : (t.k == 3) = false := by simp [hk]
  have e2 : (t.k == 2) = false := by simp [hk]
  have HBW := Lib.hid hbW
  clear hk hbW hlW hrow hshow hlen
  go_enter Try.func44, Try.ntmps44
  go_upto_region 1 with fail
  rw [← hW]
  clear hW
  generalize Value.agg #[.int .i64 t.k, .int .i64 t.n, .string t.s, .int .i64 t.q, .slice ao 0 cap] = v0
  go_wp2_with fail
  go_ret
  exact ⟨rfl, HBW.out⟩
set_option maxRecDepth 100000 in
set_option maxHeartbeats 4000000 in
theorem rshow_con1 (f : Nat) (IH : RShowAt f) (t : Ty) (ht : parts t ≤ f + 1) (hk : t.k = 1) (hlen : t.args.length = 1) (D : Nat → Prop) (ao : Option Addr) (cap : Nat) (v : Value) (L : List Int) (least : Int) (w : World) (hD : ∀ b, D b → b < w.heap.size) (hv : SlD w D t.args ao cap) (hown : OwnI 0 w v L) (hfit : Fits t) (hsh : shapedD t = true) (hocc : ∀ n ∈ occD t, n ∈ L) (hL9 : L.length ≤ 1000) (hp : parts t ≤ 400) :
    Calls Try.prog 44 #[.agg (rowOf t ao cap), .int .i64 least, v] w (ShPost w (showD L t least)) := by
  obtain ⟨W, hW⟩ : ∃ W, W = w.alloc (.cells (rowOf t ao cap) 33) := ⟨_, rfl⟩
  obtain ⟨hbW, hlW, hrow⟩ := box_at hW
  obtain ⟨u, hargs⟩ : ∃ u, t.args = [u] := by
    match t.args, hlen with
    | [a], _ => exact ⟨a, rfl⟩
  have hshow : showD L t least = (showD L u 2 ++ blankS) ++ t.s := by
    rw [show_args, if_neg (by omega), if_neg (by omega), if_neg (by omega), con_one L t.s hlen]
    simp [hargs]
  obtain ⟨b, p, ap, cp, hA⟩ := argR IH ht (by omega) hD hv hown hfit hsh hocc hL9 hp 2 (j := 0) (u := u) (by rw [hargs]; rfl)
  have hmem0 : u ∈ t.args := by rw [hargs]; simp
  have z0 := showD_small hL9 (hfit.args.get hmem0) (parts_le hmem0 hp) 2
  have zs : t.s.size ≤ 140737488355328 := hfit.s
  rw [hshow]
  obtain ⟨s0, hs0⟩ : ∃ s, s = showD L u 2 := ⟨_, rfl⟩
  have hcall := hA.call W.drew hbW.drew
  rw [← hs0] at z0 hcall
  rw [← hs0]
  have hix := hA.ix
  rw [hlen] at hix
  have hixa : ∀ w' : World, (Instr.indexAt 31 (.slice ao 1 cap) (.int .i64 0)).run Try.prog w' = .ok (.pointer (some ⟨b, p, none⟩)) w' := hix
  have q1 : ∀ w' : World, (Op.stringOp .add s0 ⟨#[32]⟩).run Try.prog w' = .ok (.string (s0 ++ blankS)) w' := fun w' => run_string_add_sum w' _ _ (by show s0.size + 1 ≤ _; omega)
  have q2 : ∀ w' : World, (Op.stringOp .add (s0 ++ blankS) t.s).run Try.prog w' = .ok (.string ((s0 ++ blankS) ++ t.s)) w' := fun w' => run_string_add_sum w' _ _ (by rw [ByteArray.size_append]; show s0.size + 1 + t.s.size ≤ _; omega)
  unfold rowOf at hW hrow ⊢
  rw [hlen] at hW hrow ⊢
  have HC := Lib.hid hcall
  have HROW := Lib.hid hrow
  have HA := Lib.hid hA
  have HBW := Lib.hid hbW
  have c0 : W.cell? ⟨w.heap.size, 0, none⟩ = some (.int .i64 t.k) := blk_cell hrow 0
  have c2 : W.cell? ⟨w.heap.size, 2, none⟩ = some (.string t.s) := blk_cell hrow 2
  have c4 : W.cell? ⟨w.heap.size, 4, none⟩ = some (.slice ao 1 cap) := blk_cell hrow 4
  have KEEP : Hid (∀ w' : World, Below W.heap.size W w' → w'.cell? ⟨w.heap.size, 2, none⟩ = some (.string t.s) ∧ w'.cell? ⟨w.heap.size, 4, none⟩ = some (.slice ao 1 cap) ∧ w'.cell? ⟨b, p, none⟩ = some (.int .i64 u.k) ∧ w'.cell? ⟨b, p + 1, none⟩ = some (.int .i64 u.n) ∧ w'.cell? ⟨b, p + 2, none⟩ = some (.string u.s) ∧ w'.cell? ⟨b, p + 3, none⟩ = some (.int .i64 u.q) ∧ w'.cell? ⟨b, p + 4, none⟩ = some (.slice ap u.args.length cp)) := Lib.hid (fun w' h =>
    have hr := blk_below HROW.out h (lt_of_block HROW.out)
    ⟨blk_cell hr 2, blk_cell hr 4, HA.out.cells w' (bthen HBW.out h)⟩)
  have e0 : (t.k == 0) = false := by simp [hk]
  have e3 : (t.k == 3) = false := by simp [hk]
  have e2 : (t.k == 2) = false := by simp [hk]
  have START := Lib.hid (KEEP.out W.drew (Below.refl _ _).drew)
  clear hk hbW hlW hrow hshow hL9 hfit hcall hmem0 hargs hs0 hlen hD hv hsh ht hp IH hix hA hown hocc
  go_enter Try.func44, Try.ntmps44
  go_upto_region 1 with fail
  rw [← hW]
  clear hW
  generalize Value.agg #[.int .i64 t.k, .int .i64 t.n, .string t.s, .int .i64 t.q, .slice ao 1 cap] = v0
  go_upto_region 22 with fail
  clear c0 c2 c4
  go_region_held3 (fun w' => w'.cell? ⟨w.heap.size, 2, none⟩ = some (.string t.s) ∧ w'.cell? ⟨w.heap.size, 4, none⟩ = some (.slice ao 1 cap) ∧ w'.cell? ⟨b, p, none⟩ = some (.int .i64 u.k) ∧ w'.cell? ⟨b, p + 1, none⟩ = some (.int .i64 u.n) ∧ w'.cell? ⟨b, p + 2, none⟩ = some (.string u.s) ∧ w'.cell? ⟨b, p + 3, none⟩ = some (.int .i64 u.q) ∧ w'.cell? ⟨b, p + 4, none⟩ = some (.slice ap u.args.length cp))
    (first | exact START.out | exact d9)
    (first | (go_at_call 44; refine HC.out.mono ?_; rintro e w7 ⟨rfl, hb7⟩; have d9 := KEEP.out w7 ((Below.refl _ _).drew.trans hb7); have HB7 := Lib.hid ((Below.refl W.heap.size W).drew.trans hb7); clear hb7))
  go_wp2_with fail
  go_ret
  exact ⟨rfl, bthen HBW.out HB7.out⟩
end Go.Proofs.Ytdeomphilggokaa
