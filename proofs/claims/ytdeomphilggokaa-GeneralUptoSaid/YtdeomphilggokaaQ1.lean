/-
  Proved: the library's sort of a row of ints of one's own; what a sorted row says once each. Condition: at most a million. (The laying of the library's contract was printed by the kit's plain mode.)
-/
import Derived.Test.YtdeomphilggokaaP10
import Derived.Test.YtdeomphilggokaaL1
import Derived.Shelf.Sort.Plain
import Derived.Shelf.Slices.In.SortNone2
import Derived.Sort.OwnSortedInts
set_option linter.unusedSimpArgs false
set_option linter.unusedVariables false
namespace Go.Proofs
open Go.Shelf
def Try.lays191_ren : Go.Shelf.Ren := ⟨fun | 191 => 29 | 189 => 54 | 125 => 61 | 257 => 68 | 128 => 78 | 129 => 79 | 294 => 91 | 295 => 92 | 296 => 93 | 297 => 94 | 298 => 95 | 299 => 96 | 216 => 97 | 300 => 98 | 301 => 99 | 328 => 105 | 329 => 106 | 330 => 107 | 331 => 108 | 332 => 109 | 215 => 110 | 343 => 112 | n => n, fun | 28 => 47 | 0 => 0 | 3 => 3 | 46 => 98 | 51 => 112 | 53 => 114 | 4 => 4 | 183 => 126 | 182 => 125 | 131 => 121 | 5 => 5 | 9 => 9 | 218 => 136 | 222 => 69 | 228 => 143 | 229 => 141 | n => n, fun | n => n⟩
theorem Try.lays191 : Go.Proofs.Lays.n191 Try.prog Try.lays191_ren := {
  mixed := by kernel_rfl
  f125 := Try.func61.trans (congrArg some (by kernel_rfl))
  f128 := Try.func78.trans (congrArg some (by kernel_rfl))
  f129 := Try.func79.trans (congrArg some (by kernel_rfl))
  f189 := Try.func54.trans (congrArg some (by kernel_rfl))
  f191 := Try.func29.trans (congrArg some (by kernel_rfl))
  f215 := Try.func110.trans (congrArg some (by kernel_rfl))
  f216 := Try.func97.trans (congrArg some (by kernel_rfl))
  f257 := Try.func68.trans (congrArg some (by kernel_rfl))
  f294 := Try.func91.trans (congrArg some (by kernel_rfl))
  f295 := Try.func92.trans (congrArg some (by kernel_rfl))
  f296 := Try.func93.trans (congrArg some (by kernel_rfl))
  f297 := Try.func94.trans (congrArg some (by kernel_rfl))
  f298 := Try.func95.trans (congrArg some (by kernel_rfl))
  f299 := Try.func96.trans (congrArg some (by kernel_rfl))
  f300 := Try.func98.trans (congrArg some (by kernel_rfl))
  f301 := Try.func99.trans (congrArg some (by kernel_rfl))
  f328 := Try.func105.trans (congrArg some (by kernel_rfl))
  f329 := Try.func106.trans (congrArg some (by kernel_rfl))
  f330 := Try.func107.trans (congrArg some (by kernel_rfl))
  f331 := Try.func108.trans (congrArg some (by kernel_rfl))
  f332 := Try.func109.trans (congrArg some (by kernel_rfl))
  f343 := Try.func112.trans (congrArg some (by kernel_rfl))
  t0 := Try.underlying0
  a0 := Try.isAgg0
  z0 := Try.sizeOf0
  v0 := Try.zeroValue0
  t3 := Try.underlying3
  a3 := Try.isAgg3
  z3 := Try.sizeOf3
  v3 := Try.zeroValue3
  t4 := Try.underlying4
  a4 := Try.isAgg4
  z4 := Try.sizeOf4
  v4 := Try.zeroValue4
  t5 := Try.underlying5
  a5 := Try.isAgg5
  z5 := Try.sizeOf5
  v5 := Try.zeroValue5
  t9 := Try.underlying9
  a9 := Try.isAgg9
  z9 := Try.sizeOf9
  v9 := Try.zeroValue9
  t28 := Try.underlying47
  a28 := Try.isAgg47
  z28 := Try.sizeOf47
  v28 := Try.zeroValue47
  t46 := Try.underlying98
  a46 := Try.isAgg98
  z46 := Try.sizeOf98
  v46 := Try.zeroValue98
  t51 := Try.underlying112
  a51 := Try.isAgg112
  z51 := Try.sizeOf112
  v51 := Try.zeroValue112
  t53 := Try.underlying114
  a53 := Try.isAgg114
  z53 := Try.sizeOf114
  v53 := Try.zeroValue114
  t131 := Try.underlying121
  a131 := Try.isAgg121
  z131 := Try.sizeOf121
  v131 := Try.zeroValue121
  t182 := Try.underlying125
  a182 := Try.isAgg125
  z182 := Try.sizeOf125
  v182 := Try.zeroValue125
  t183 := Try.underlying126
  a183 := Try.isAgg126
  z183 := Try.sizeOf126
  v183 := Try.zeroValue126
  t218 := Try.underlying136
  a218 := Try.isAgg136
  z218 := Try.sizeOf136
  v218 := Try.zeroValue136
  t222 := Try.underlying69
  a222 := Try.isAgg69
  z222 := Try.sizeOf69
  v222 := Try.zeroValue69
  t228 := Try.underlying143
  a228 := Try.isAgg143
  z228 := Try.sizeOf143
  v228 := Try.zeroValue143
  t229 := Try.underlying141
  a229 := Try.isAgg141
  z229 := Try.sizeOf141
  v229 := Try.zeroValue141 }
end Go.Proofs
namespace Go.Proofs.Ytdeomphilggokaa
open Go.RowKit

def sortI (xs : List Int) : List Int := xs.mergeSort fun x y => decide (x ≤ y)
theorem sortI_perm (xs : List Int) : (sortI xs).Perm xs := List.mergeSort_perm _ _
theorem sortI_len (xs : List Int) : (sortI xs).length = xs.length := (sortI_perm xs).length_eq
theorem sortI_sorted (xs : List Int) : (sortI xs).Pairwise (· ≤ ·) := by
  have h := List.pairwise_mergeSort (le := fun x y : Int => decide (x ≤ y)) (fun a b c h1 h2 => by simp at *; omega) (fun a b => by simp; omega) xs
  exact h.imp fun {a b} h => by simpa using h
/-- what the library's sort leaves -/
structure SortedP (B : Nat) (v : Value) (xs : List Int) (w : World) (en : Ending) (w' : World) : Prop where
  val : en = .returned (.tuple #[])
  own : OwnI B w' v (sortI xs)
  gr : w.grownBy w' v.ownBlock
theorem ints_any (B : Nat) (v : Value) (xs : List Int) (w : World) (h : OwnI B w v xs) (hl : xs.length ≤ 1000000) : Calls Try.prog 29 #[v] w (SortedP B v xs w) := by
  rcases h.2 with ⟨hv, h0⟩ | ⟨g, cap, cur, hv, hg, hb, hn, hcap, hsz, ht⟩
  · have hx : xs = [] := List.length_eq_zero_iff.1 h0
    subst hx
    subst hv
    have h1 : Calls Try.prog 29 #[.slice none 0 0] w fun e w' => e = .returned (.tuple #[]) ∧ w' = w := Any.sort_Ints_none Try.lays191 none 0 w
    refine h1.mono ?_
    rintro e w' ⟨rfl, rfl⟩
    exact ⟨rfl, by rw [show sortI [] = [] from by simp [sortI]]; exact h, World.grownBy.refl _ _⟩
  · subst hv
    have hH := holds_of_blockI (ss := xs) hb (by simpa using ht)
    have h1 : Calls Try.prog 29 #[.slice (some ⟨g, 0, none⟩) xs.length cap] w fun e w' => e = .returned (.tuple #[]) ∧ ∃ n os, w' = Sort.grow (Sort.putRow (Value.int .i64) (Sort.ahead w n) g 0 (sortI xs).toArray) os := Any.sort_Ints Try.lays191 g 0 cap xs w hH (lt_of_block hb) (by omega)
    refine h1.mono ?_
    rintro e w' ⟨rfl, n, os, rfl⟩
    refine ⟨rfl, ?_, ?_⟩
    · have h2 := ownsRow_sortedI (n := n) (os := os) (sortI_len xs) hg hb hn hcap hsz
      rw [← sortI_len xs] at h2
      unfold OwnI
      rw [← sortI_len xs]
      exact h2
    · have h2 := grownBy_sortedI (w := w) (g := g) (n := n) (os := os) (sortI xs).toArray
      exact h2
/-- each number once, of a row that goes up -/
def dd : Option Int → List Int → List Int
  | _, [] => []
  | p, n :: ns => if p = some n then dd (some n) ns else n :: dd (some n) ns
theorem dd_mem : ∀ (l : List Int) (p : Option Int) (n : Int), n ∈ l → n ∈ dd p l ∨ p = some n
  | [], p, n, h => by cases h
  | m :: ms, p, n, h => by
    rw [dd]
    rcases List.mem_cons.1 h with rfl | h
    · split
      · rename_i hp; exact .inr hp
      · exact .inl (by simp)
    · rcases dd_mem ms (some m) n h with h1 | h1
      · split
        · exact .inl h1
        · exact .inl (by simp [h1])
      · cases h1
        split
        · rename_i hp; exact .inr hp
        · exact .inl (by simp)
theorem dd_sub : ∀ (l : List Int) (p : Option Int) (n : Int), n ∈ dd p l → n ∈ l
  | [], p, n, h => by rw [dd] at h; cases h
  | m :: ms, p, n, h => by
    rw [dd] at h
    split at h
    · exact List.mem_cons_of_mem _ (dd_sub ms _ n h)
    · rcases List.mem_cons.1 h with rfl | h
      · simp
      · exact List.mem_cons_of_mem _ (dd_sub ms _ n h)
theorem dd_up : ∀ (l : List Int) (p : Option Int), l.Pairwise (· ≤ ·) → (∀ m, p = some m → ∀ n ∈ l, m ≤ n) → (dd p l).Pairwise (· < ·) ∧ ∀ m, p = some m → ∀ n ∈ dd p l, m < n
  | [], p, _, _ => by rw [dd]; exact ⟨List.Pairwise.nil, fun m _ n h => by cases h⟩
  | x :: xs, p, hs, hp => by
    rw [List.pairwise_cons] at hs
    obtain ⟨h1, h2⟩ := dd_up xs (some x) hs.2 (fun m hm n hn => by cases hm; exact hs.1 n hn)
    rw [dd]
    split
    · rename_i hx
      refine ⟨h1, fun m hm n hn => ?_⟩
      rw [hx] at hm
      cases hm
      exact h2 _ rfl n hn
    · rename_i hx
      refine ⟨List.pairwise_cons.2 ⟨fun n hn => h2 _ rfl n hn, h1⟩, fun m hm n hn => ?_⟩
      have h3 := hp m hm x (by simp)
      have h4 : m ≠ x := fun e => hx (by rw [hm, e])
      rcases List.mem_cons.1 hn with rfl | hn
      · omega
      · have := h2 _ rfl n hn; omega
/-- all places of variables, sorted, each once: the variables, sorted -/
theorem dd_rising (l : List (Ty × Ty)) : dd none (sortI (ocP l)) = risingD (vsP [] l) := by
  obtain ⟨h1, -⟩ := dd_up (sortI (ocP l)) none (sortI_sorted _) (fun m h => by cases h)
  have hs := rising_sorted (vsP [] l)
  have hn1 : (dd none (sortI (ocP l))).Nodup := h1.imp fun {a b} h => by omega
  have hp := rising_perm (vsP [] l)
  have hn2 : (risingD (vsP [] l)).Nodup := hp.nodup_iff.2 (vsP_nodup l)
  refine List.Perm.eq_of_pairwise (le := fun a b => a ≤ b) (fun a b _ _ h1 h2 => by omega) (h1.imp fun {a b} h => by omega) hs ((List.perm_ext_iff_of_nodup hn1 hn2).2 fun n => ⟨fun h => ?_, fun h => ?_⟩)
  · exact hp.symm.subset (vsP_mem ((sortI_perm _).subset (dd_sub _ _ _ h)))
  · have h2 := hp.subset h
    rw [vsP_occ] at h2
    rcases fold_sub _ _ n h2 with h3 | h3
    · cases h3
    · rcases dd_mem _ none n ((sortI_perm _).symm.subset h3) with h4 | h4
      · exact h4
      · cases h4
/-- one step along the row -/
theorem dd_step {so : List Int} {q : Nat} {n : Int} (h : so[q]? = some n) (p : Option Int) : dd p (so.drop q) = if p = some n then dd (some n) (so.drop (q + 1)) else n :: dd (some n) (so.drop (q + 1)) := by
  obtain ⟨h1, rfl⟩ := List.getElem?_eq_some_iff.1 h
  rw [← List.getElem_cons_drop (h := h1), dd]
end Go.Proofs.Ytdeomphilggokaa
