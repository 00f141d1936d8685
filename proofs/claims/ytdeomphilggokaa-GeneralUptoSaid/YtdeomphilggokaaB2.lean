/-
  Proved: the contract of the function that Variables hands to walk. Condition: at most 1000 variables.
-/
import Derived.Test.YtdeomphilggokaaM1
set_option linter.unusedSimpArgs false
set_option linter.unusedVariables false
namespace Go.Proofs.Ytdeomphilggokaa
open Go.RowKit

/-- how often a number was met -/
def cntF (oc : List Int) (k : Int) : Option Value := if k ∈ oc then some (.int .i64 (oc.count k : Nat)) else none
theorem cnt_snoc (oc : List Int) (n k : Int) : cntF (oc ++ [n]) k = if k = n then some (.int .i64 ((oc.count n + 1 : Nat) : Int)) else cntF oc k := by
  unfold cntF
  by_cases e : k = n
  · subst e
    simp
  · have e2 : ¬ n = k := fun h => e h.symm
    simp [e, List.count_append, List.count_cons, e2]
theorem cnt_old (oc : List Int) (n : Int) : (cntF oc n).getD (.int .i64 0) = .int .i64 ((oc.count n : Nat) : Int) := by
  unfold cntF
  by_cases e : n ∈ oc
  · rw [if_pos e]; rfl
  · rw [if_neg e, List.count_eq_zero.2 e]; rfl
/-- what Variables keeps in memory, all of it at B or above -/
structure VarSt (B : Nat) (w : World) (m4 mm l3 : Nat) (oc : List Int) : Prop where
  m : w.heap[m4]? = some (.cells #[.map (some mm)] 77 (0, 0))
  mp : MapF w mm oc.length (cntF oc)
  l : ∃ v, w.heap[l3]? = some (.cells #[v] 47 (0, 0)) ∧ OwnI B w v (oc.foldl addV [])
  b1 : B ≤ m4
  b2 : B ≤ mm
  b3 : B ≤ l3
theorem VarSt.keep {B : Nat} {w w' : World} {m4 mm l3 : Nat} {oc : List Int} (h : VarSt B w m4 mm l3 oc) (hb : Below w.heap.size w w') : VarSt B w' m4 mm l3 oc := by
  obtain ⟨v, h1, h2⟩ := h.l
  exact ⟨blk_below h.m hb (lt_of_block h.m), h.mp.of_same (hb.block _ h.mp.lt), ⟨v, blk_below h1 hb (lt_of_block h1), h2.carry hb⟩, h.b1, h.b2, h.b3⟩
/-- what a visit leaves: the boxes of types stand as they stood -/
structure VarPost (B : Nat) (w : World) (m4 mm l3 : Nat) (oc : List Int) (e : Ending) (w' : World) : Prop where
  e : e = .returned (.tuple #[])
  st : VarSt B w' m4 mm l3 oc
  bel : Below B w w'
  box : ∀ (b : Nat) (c : Array Value) (f : Nat × Nat), w.heap[b]? = some (.cells c 33 f) → w'.heap[b]? = some (.cells c 33 f)
theorem zero3 (w : World) : (zeroValue 3).run Try.prog w = .ok (.int .i64 0) w := by kernel_rfl
theorem wrap_small (n : Int) (h0 : 0 ≤ n) (h1 : n < 2 ^ 62) : IntKind.i64.wrap n = n := by
  rw [IntKind.wrap_i64]; omega
theorem foldl_len (oc : List Int) : (oc.foldl addV []).length ≤ oc.length := by
  suffices h : ∀ (l xs : List Int), (l.foldl addV xs).length ≤ xs.length + l.length by simpa using h oc []
  intro l
  induction l with
  | nil => intro xs; simp
  | cons x l ih =>
    intro xs
    rw [List.foldl_cons]
    have h1 := ih (addV xs x)
    have h2 := addV_len xs x
    simp only [List.length_cons]
    omega
theorem mem_foldl (n : Int) (oc : List Int) : n ∈ oc.foldl addV [] ↔ n ∈ oc := by
  suffices h : ∀ (l xs : List Int), n ∈ l.foldl addV xs ↔ n ∈ xs ∨ n ∈ l by simpa using h oc []
  intro l
  induction l with
  | nil => intro xs; simp
  | cons x l ih =>
    intro xs
    rw [List.foldl_cons, ih, List.mem_cons]
    unfold addV
    by_cases e : x ∈ xs
    · rw [if_pos e]
      constructor
      · rintro (h | h)
        · exact .inl h
        · exact .inr (.inr h)
      · rintro (h | h | h)
        · exact .inl h
        · rw [h]; exact .inl e
        · exact .inr h
    · rw [if_neg e, List.mem_append, List.mem_singleton]
      constructor
      · rintro ((h | h) | h)
        · exact .inl h
        · exact .inr (.inl h)
        · exact .inr (.inr h)
      · rintro (h | h | h)
        · exact .inl (.inl h)
        · exact .inl (.inr h)
        · exact .inr h
set_option maxRecDepth 100000 in
set_option maxHeartbeats 4000000 in
theorem visit_any (B : Nat) (w : World) (m4 mm l3 : Nat) (oc : List Int) (h : VarSt B w m4 mm l3 oc) (t : Ty) (ao : Option Addr) (cap : Nat) (hn : I64 t.n) (hlen : oc.length ≤ 1000000) (hB : B ≤ w.heap.size) :
    Calls Try.prog 45 #[.agg (rowOf t ao cap), .pointer (some ⟨m4, 0, none⟩), .pointer (some ⟨l3, 0, none⟩)] w (VarPost B w m4 mm l3 (oc ++ [t.n])) := by
  obtain ⟨W, hW⟩ : ∃ W, W = w.alloc (.cells (rowOf t ao cap) 33) := ⟨_, rfl⟩
  obtain ⟨hbW, hlW, hrow⟩ := box_at hW
  have hS := h.keep hbW
  obtain ⟨n, hnn⟩ : ∃ n, n = t.n := ⟨_, rfl⟩
  rw [← hnn] at hn
  rw [← hnn]
  have c1 : W.cell? ⟨w.heap.size, 1, none⟩ = some (.int .i64 n) := by rw [hnn]; exact blk_cell hrow 1
  have q0 : W.cell? ⟨m4, 0, none⟩ = some (.map (some mm)) := blk_cell hS.m 0
  have hl1 := (hS.mp.look Try.underlying77 (zero3 W) hn).1
  rw [cnt_old] at hl1
  obtain ⟨k, hk⟩ : ∃ k, k = oc.count n := ⟨_, rfl⟩
  rw [← hk] at hl1
  have hk9 : k ≤ 1000000 := by rw [hk]; exact Nat.le_trans List.count_le_length hlen
  have hw64 : IntKind.i64.wrap ((k : Int) + 1) = (k : Int) + 1 := wrap_small _ (by omega) (by omega)
  obtain ⟨w9, hst9, hmap9, hg9⟩ := hS.mp.store Try.underlying77 (by unfold maxLen; omega) hn (.int .i64 ((k : Int) + 1))
  have hmF : MapF w9 mm (oc ++ [n]).length (cntF (oc ++ [n])) := by
    rw [List.length_append]
    refine hmap9.congr fun j _ => ?_
    rw [cnt_snoc, ← hk]
    by_cases e : j = n
    · rw [if_pos e, if_pos e]; rfl
    · rw [if_neg e, if_neg e]
  have hc9 : ∀ (b : Nat) (c : Array Value) (t : TypeId) (f : Nat × Nat), W.heap[b]? = some (.cells c t f) → w9.heap[b]? = some (.cells c t f) := fun b c t f h =>
    (hg9.block b (lt_of_block h) (fun e => map_ne hS.mp h (Option.some.inj e))).trans h
  have hl9 := (hmF.look Try.underlying77 (zero3 w9) hn).1
  rw [cnt_old, List.count_append, ← hk, show List.count n [n] = 1 from by simp] at hl9
  obtain ⟨v, hv, hown⟩ := hS.l
  have hv9 := hc9 _ _ _ _ hv
  have hown9 : OwnI B w9 v (oc.foldl addV []) := own_carry hown fun g c f h => hc9 g c 3 f h
  have r1 : w9.cell? ⟨m4, 0, none⟩ = some (.map (some mm)) := blk_cell (hc9 _ _ _ _ hS.m) 0
  have r2 : w9.cell? ⟨w.heap.size, 1, none⟩ = some (.int .i64 n) := by rw [hnn]; exact blk_cell (hc9 _ _ _ _ hrow) 1
  have hbel : Below B w w9 := by
    have h1 := hbW.mono hB
    have h2 : Below B W w9 := grown_below hg9 (Nat.le_trans hB hbW.size) hS.b2
    exact h1.trans h2
  have hbox : ∀ (b : Nat) (c : Array Value) (f : Nat × Nat), w.heap[b]? = some (.cells c 33 f) → w9.heap[b]? = some (.cells c 33 f) := fun b c f h => hc9 b c 33 f (blk_below h hbW (lt_of_block h))
  have hfold : (oc ++ [n]).foldl addV [] = addV (oc.foldl addV []) n := by rw [List.foldl_append]; rfl
  have HS := Lib.hid hS
  have HMF := Lib.hid hmF
  have HM9 := Lib.hid (hc9 _ _ _ _ hS.m)
  have HV9 := Lib.hid hv9
  have HOWN := Lib.hid hown9
  have HBEL := Lib.hid hbel
  have HBOX := Lib.hid hbox
  have HFOLD := Lib.hid hfold
  have HK := Lib.hid hk
  have hbb := (show B ≤ m4 ∧ B ≤ mm ∧ B ≤ l3 from ⟨hS.b1, hS.b2, hS.b3⟩)
  have HBB := Lib.hid hbb
  unfold rowOf at hW ⊢
  by_cases h0 : n ∈ oc
  · have hk1 : 0 < k := by rw [hk]; exact List.count_pos_iff.2 h0
    have hd : ((k : Int) + 1 == 1) = false := by simp; omega
    have H0 := Lib.hid h0
    clear hS hbW hrow h hnn hk hmap9 hg9 hmF hc9 hv hown hv9 hown9 hbel hbox hfold hbb h0
    go_enter Try.func45, Try.ntmps45
    go_upto_region 1 with fail
    rw [← hW]
    have HW := Lib.hid hW
    clear hW
    go_wp2_with fail
    go_end0
    obtain ⟨b1, b2, b3⟩ := HBB.out
    refine ⟨rfl, ⟨HM9.out, HMF.out, ⟨v, HV9.out, ?_⟩, b1, b2, b3⟩, HBEL.out, HBOX.out⟩
    rw [HFOLD.out, addV, if_pos ((mem_foldl n oc).2 H0.out)]
    exact HOWN.out
  · have hk1 : k = 0 := by rw [hk]; exact List.count_eq_zero.2 h0
    have H0 := Lib.hid h0
    have hd : ((k : Int) + 1 == 1) = true := by simp; omega
    clear hk1
    obtain ⟨va, vc, hva, _⟩ := hown9.get
    obtain ⟨m, hm⟩ : ∃ m, m = (oc.foldl addV []).length := ⟨_, rfl⟩
    rw [← hm] at hva
    subst hva
    have r3 : w9.cell? ⟨l3, 0, none⟩ = some (.slice va m vc) := blk_cell hv9 0
    have hoA : (w9.alloc (.cells #[.int .i64 n] 3)).ownsRow B 3 1 (.slice va m vc) m ((oc.foldl addV []).map iv) := by rw [hm]; rw [hm] at hown9; exact hown9.alloc _
    have HOA := Lib.hid hoA
    have hm9 : m ≤ 1000000 := by rw [hm]; have := foldl_len oc; omega
    obtain ⟨i3, hi, hz0, hz1, hz2⟩ := info_parts info3
    have HI := Lib.hid hi
    have HM := Lib.hid hm
    have hB9 : B ≤ w9.heap.size := Nat.le_trans hB hbel.size
    have hB99 : B ≤ (w9.alloc (.cells #[.int .i64 n] 3)).heap.size := Nat.le_trans hB9 (by simp)
    have hl39 : l3 < w9.heap.size := lt_of_block hv9
    have hne3 : (Value.slice va m vc).ownBlock ≠ some l3 := own_ne hv9 hown9 (by decide)
    have HNE := Lib.hid hne3
    have HNM := Lib.hid (own_ne (HM9.out) hown9 (by decide) : (Value.slice va m vc).ownBlock ≠ some m4)
    have HMB := Lib.hid (fun e => by
      obtain ⟨c, f, hc⟩ := own_row hown9 _ e
      exact map_ne HMF.out hc rfl : (Value.slice va m vc).ownBlock ≠ some mm)
    have hNB := Lib.hid (fun (b : Nat) (c : Array Value) (f : Nat × Nat) (h : w9.heap[b]? = some (.cells c 33 f)) => own_ne h hown9 (by decide))
    have hlow := Lib.hid (fun g e => (hown9.lt g e).1)
    have hlm : mm < w9.heap.size := hmF.lt
    clear hS hbW hrow h hnn hk hmap9 hg9 hmF hc9 hv hown hv9 hown9 hbel hbox hfold hbb h0 hoA hi hm hne3
    go_enter Try.func45, Try.ntmps45
    go_upto_region 1 with fail
    rw [← hW]
    have HW := Lib.hid hW
    clear hW
    go_wp2_with (first | (at_builtin; go_must (refine wpList_append_own_at _ rfl (.tmp 14) (.tmp 17) 47 rfl B 3 i3 (.int .i64 0) 1 8 Try.underlying47 HI.out hz0 hz1 hz2 rfl (by decide) (.slice va m vc) m ((oc.foldl addV []).map iv) rfl HOA.out ⟨w9.heap.size, 0, none⟩ 1 1 [.int .i64 n] rfl rfl (new_cells (c := #[.int .i64 n]) _ (by simp)) (by simp [Value.oneCell']) (by unfold maxLen; omega) (by omega) hB99 ?_)))
    intro v4 w4 hown4 hg4 hnil4 hat4
    obtain ⟨g4, cap4, hv44⟩ := own_shape hown4 (by simpa using hnil4)
    subst hv44
    have carry : ∀ (b : Nat) (o : Obj), w9.heap[b]? = some o → (Value.slice va m vc).ownBlock ≠ some b → w4.heap[b]? = some o := fun b o h hne => by
      have h1 := blk_alloc h (.cells #[.int .i64 n] 3)
      rw [hg4.block b (lt_of_block h1) (fun e => hne e.symm)]
      exact h1
    have hv4 := carry l3 _ HV9.out HNE.out
    have s0 : w4.cell? ⟨l3, 0, none⟩ = some (.slice va m vc) := blk_cell hv4 0
    have f0 := blk_free hv4 0
    have FIN : VarPost B w m4 mm l3 (oc ++ [n]) (.returned (.tuple #[])) (w4.setCell ⟨l3, 0, none⟩ (.slice (some ⟨g4, 0, none⟩) (m + 1) cap4)) := by
      obtain ⟨b1, b2, b3⟩ := HBB.out
      have hfo : (oc ++ [n]).foldl addV [] = oc.foldl addV [] ++ [n] := by rw [HFOLD.out, addV, if_neg (fun h => H0.out ((mem_foldl n oc).1 h))]
      have hk9 : Below B w9 w4 := ((Below.refl B w9).alloc hB9 _).grown hg4 hB99 (fun g e => hlow.out g e)
      refine ⟨rfl, ⟨blk_set_ne (carry m4 _ HM9.out HNM.out) (fun e => ?_) _ _, HMF.out.of_same ?_, ⟨_, blk_set hv4 0 _, ?_⟩, b1, b2, b3⟩, HBEL.out.trans (hk9.setCell (p := ⟨l3, 0, none⟩) b3 _), fun b c f h => ?_⟩
      · have h1 := HM9.out
        rw [e, HV9.out] at h1
        simp at h1
      · rw [Below.heap_setCell _ _ _ _ (fun e => map_ne HMF.out HV9.out e.symm)]
        obtain ⟨es, clock, hmm⟩ := HMF.out.isMap
        rw [carry mm _ hmm HMB.out, hmm]
      · rw [hfo]
        have h1 : OwnI B w4 (.slice (some ⟨g4, 0, none⟩) (m + 1) cap4) (oc.foldl addV [] ++ [n]) := by
          show w4.ownsRow B 3 1 (.slice (some ⟨g4, 0, none⟩) (m + 1) cap4) (oc.foldl addV [] ++ [n]).length ((oc.foldl addV [] ++ [n]).map iv)
          rw [List.length_append, List.map_append, ← HM.out]
          exact hown4
        exact own_set h1 hv4 (by decide) 0 _
      · have h1 := HBOX.out b c f h
        refine blk_set_ne (carry b _ h1 (hNB.out b c f h1)) (fun e => ?_) _ _
        rw [e, HV9.out] at h1
        simp at h1
    clear hown4 hg4 hnil4 hat4 carry hv4
    go_wp2_with fail
    go_end0
    exact FIN
end Go.Proofs.Ytdeomphilggokaa
