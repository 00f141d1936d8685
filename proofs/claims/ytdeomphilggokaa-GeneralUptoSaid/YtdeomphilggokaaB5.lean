/-
  Proved: the contract of the reference's rising. Condition: at most 1000000 numbers.
-/
import Derived.Test.YtdeomphilggokaaB4
import Derived.Test.YtdeomphilggokaaApp
set_option linter.unusedSimpArgs false
set_option linter.unusedVariables false
namespace Go.Proofs.Ytdeomphilggokaa
open Go.RowKit

/-- a number laid into a rising list -/
def insD (out : List Int) (x : Int) : List Int := out.takeWhile (fun y => decide (y < x)) ++ x :: out.dropWhile (fun y => decide (y < x))
def risingD (l : List Int) : List Int := l.foldl insD []
theorem insD_at (out : List Int) (x : Int) (k : Nat) (hk : k ≤ out.length) (h1 : ∀ i (h : i < k), out[i]'(by omega) < x) (h2 : ∀ h : k < out.length, ¬ out[k] < x) : insD out x = out.take k ++ x :: out.drop k := by
  unfold insD
  have e : ∀ (l : List Int) (k : Nat), k ≤ l.length → (∀ i (h : i < k) (h' : i < l.length), l[i] < x) → (∀ h : k < l.length, ¬ l[k] < x) → l.takeWhile (fun y => decide (y < x)) = l.take k ∧ l.dropWhile (fun y => decide (y < x)) = l.drop k := by
    intro l
    induction l with
    | nil => intro k _ _ _; simp
    | cons y l ih =>
      intro k hk h1 h2
      cases k with
      | zero =>
        have := h2 (by simp)
        simp only [List.getElem_cons_zero] at this
        simp [this]
      | succ k =>
        have h0 := h1 0 (by omega) (by simp)
        simp only [List.getElem_cons_zero] at h0
        obtain ⟨a, b⟩ := ih k (by simpa using hk) (fun i hi h' => by have := h1 (i + 1) (by omega) (by simpa using h'); simpa using this) (fun h => by have := h2 (by simpa using h); simpa using this)
        simp [h0, a, b]
  obtain ⟨a, b⟩ := e out k hk (fun i h h' => h1 i h) h2
  rw [a, b]
theorem insD_len (out : List Int) (x : Int) : (insD out x).length = out.length + 1 := by
  unfold insD
  have h := congrArg List.length (List.takeWhile_append_dropWhile (p := fun y => decide (y < x)) (l := out))
  rw [List.length_append] at h
  rw [List.length_append, List.length_cons]
  omega
theorem rising_len (l : List Int) : (risingD l).length = l.length := by
  unfold risingD
  suffices h : ∀ (l out : List Int), (l.foldl insD out).length = out.length + l.length by simpa using h l []
  intro l
  induction l with
  | nil => intro out; simp
  | cons x l ih => intro out; rw [List.foldl_cons, ih, insD_len, List.length_cons]; omega
theorem rising_take {l : List Int} {j : Nat} (h : j < l.length) : risingD (l.take (j + 1)) = insD (risingD (l.take j)) l[j] := by
  unfold risingD
  rw [List.take_succ_eq_append_getElem h, List.foldl_append]; rfl
def tailA (ao : Option Addr) (cap k : Nat) : Option Addr := if cap = k then ao else ao.map (·.add k)
set_option maxRecDepth 100000 in
theorem slice_head (ao : Option Addr) (n cap k : Nat) (hk : k ≤ cap) (w : World) : (Instr.slice 47 (.slice ao n cap) none (some (.int .i64 (k : Int))) none).run Try.prog w = .ok (.slice ao k cap) w := by
  rw [run_slice_h w 47 ao n cap Try.underlying47 .i64 (k : Int) (by omega) (by omega)]
  have he : (sizeOf (Try.prog.elem 47)).run Try.prog w = .ok 1 w := size3 w
  rw [he]
  cases ao <;> simp [sliced, Result.andThen, Addr.add]
set_option maxRecDepth 100000 in
theorem slice_tail (ao : Option Addr) (n cap k : Nat) (hk : k ≤ n) (w : World) : (Instr.slice 47 (.slice ao n cap) (some (.int .i64 (k : Int))) none none).run Try.prog w = .ok (.slice (tailA ao cap k) (n - k) (cap - k)) w := by
  rw [run_slice_l w 47 ao n cap Try.underlying47 .i64 (k : Int) (by omega) (by omega)]
  have he : (sizeOf (Try.prog.elem 47)).run Try.prog w = .ok 1 w := size3 w
  rw [he]
  simp [sliced, Result.andThen, tailA]
/-- what both appends of rising read -/
theorem OwnI.news {B : Nat} {w : World} {ao : Option Addr} {cap n : Nat} {xs : List Int} (h : w.ownsRow B 3 1 (.slice ao n cap) n (xs.map iv)) (hn : xs.length = n) (k : Nat) (hk : k ≤ n) :
    n ≤ cap ∧ (0 < k → ∃ ad, ao = some ad ∧ ∀ j u, ((xs.take k).map iv)[j]? = some u → w.cell? (ad.add j) = some u) ∧ (0 < n - k → ∃ ad, tailA ao cap k = some ad ∧ ∀ j u, ((xs.drop k).map iv)[j]? = some u → w.cell? (ad.add j) = some u) := by
  rcases h.2 with ⟨h0, h1⟩ | ⟨g, cap', cur, h0, hB, hg, hc, hm, hs, ht⟩
  · cases h0
    exact ⟨by omega, fun h => by omega, fun h => by omega⟩
  · cases h0
    have hadd : ∀ j, (⟨g, 0, none⟩ : Addr).add j = ⟨g, j, none⟩ := fun j => by unfold Addr.add; split <;> simp_all
    have hread : ∀ (i : Nat) (u : Value), (xs.map iv)[i]? = some u → w.cell? ⟨g, i, none⟩ = some u := fun i u hu => by
      rw [← ht, List.getElem?_take] at hu
      split at hu
      · rw [blk_cell hg]; simpa using hu
      · cases hu
    refine ⟨hc, fun _ => ⟨_, rfl, fun j u hu => ?_⟩, fun hnk => ?_⟩
    · rw [hadd]
      rw [List.map_take, List.getElem?_take] at hu
      split at hu
      · exact hread j u hu
      · cases hu
    · by_cases hck : cap = k
      · omega
      · refine ⟨⟨g, k, none⟩, by rw [tailA, if_neg hck]; simp [hadd], fun j u hu => ?_⟩
        have e : (⟨g, k, none⟩ : Addr).add j = ⟨g, k + j, none⟩ := by unfold Addr.add; split <;> simp_all
        rw [e]
        rw [List.map_drop, List.getElem?_drop] at hu
        exact hread (k + j) u hu
end Go.Proofs.Ytdeomphilggokaa
