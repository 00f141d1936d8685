/-
  Proved: the contract of the law's fitted: what it makes of whatever pattern is typed. Condition: what fits a machine.
-/
import Derived.Test.YtcieoelogocjkaaZ2
set_option linter.unusedSimpArgs false
set_option linter.unusedVariables false
namespace Go.Proofs.Ytcieoelogocjkaa
open Go.RowKit Srt

def sm : Srt → Nat | s0 => 2 | s1 => 2 | s2 => 3 | s3 => 4 | s4 => 6 | s5 => 7 | s6 => 7
def rk : Srt → Nat | s0 => 0 | s1 => 0 | s2 => 1 | s3 => 0 | s4 => 2 | s5 => 3 | s6 => 0
def bd (p : Pt) (s : Srt) : Nat := if p.kids = [] then sm s else 16 * parts p - 8
def kb (p : Pt) (i : Nat) (s : Srt) (value : Bool) : Nat := if i < p.kids.length then 16 * parts (kidD p i) - 8 else if value then sm s else 1
theorem sm_le (s : Srt) : 2 ≤ sm s ∧ sm s ≤ 8 := by cases s <;> simp [sm]
theorem parts_pos (p : Pt) : 1 ≤ parts p := by cases p; rw [parts]; omega
theorem bd_le (p : Pt) (s : Srt) : bd p s ≤ 16 * parts p - 8 := by
  unfold bd
  have := sm_le s
  have := parts_pos p
  split <;> omega
theorem FitCB.mono {p : Pt} {s : Srt} {value : Bool} {B B' : Nat} (h : FitCB p s value B) (hB : B ≤ B') : FitCB p s value B' := fun ao cap w hv =>
  Calls.mono (h ao cap w hv) fun e w' ⟨t, a, c, h1, h2, h3, h4⟩ => ⟨t, a, c, h1, h2, ⟨h3.ty, h3.noa, h3.val, h3.fits, Nat.le_trans h3.size hB⟩, h4⟩
theorem kidD_mem {p : Pt} {i : Nat} (h : i < p.kids.length) : kidD p i ∈ p.kids := by
  unfold kidD
  rw [List.getD_eq_getElem?_getD, List.getElem?_eq_getElem h]
  exact List.getElem_mem h
theorem kidD_any {p : Pt} {i : Nat} (h : ¬ i < p.kids.length) : kidD p i = anyP := by
  unfold kidD
  rw [List.getD_eq_getElem?_getD, List.getElem?_eq_none (by omega)]
  rfl
theorem parts_in {p q : Pt} (h : q ∈ p.kids) : parts q + 1 ≤ parts p := by
  cases p with | mk k n o a s kids =>
  have := parts_mem (l := kids) h
  rw [parts]
  omega
theorem one_bd {p : Pt} {s s' : Srt} {value : Bool} (h : value = true → sm s' + 1 ≤ sm s) : kb p 0 s' value + 1 ≤ bd p s := by
  unfold kb bd
  have h1 := sm_le s
  by_cases hk : p.kids = []
  · rw [if_pos hk, if_neg (by rw [hk]; simp)]
    cases value with
    | true => simp; exact h rfl
    | false => simp; omega
  · have hl : 0 < p.kids.length := List.length_pos_iff.2 hk
    rw [if_neg hk, if_pos hl]
    have := parts_in (kidD_mem hl)
    omega
theorem two_bd {p : Pt} {s a b : Srt} {value : Bool} (m : Nat) (hm : m ≤ 2) (h0 : p.kids = [] → value = false → 2 + m ≤ sm s) (h1 : p.kids = [] → value = true → sm a + sm b + m ≤ sm s) : kb p 0 a value + kb p 1 b value + m ≤ bd p s := by
  unfold kb bd
  have hb := sm_le b
  by_cases hk : p.kids = []
  · have e0 : ¬ 0 < p.kids.length := by rw [hk]; simp
    have e1 : ¬ 1 < p.kids.length := by rw [hk]; simp
    rw [if_pos hk, if_neg e0, if_neg e1]
    cases value with
    | true => exact h1 hk rfl
    | false => have := h0 hk rfl; show 1 + 1 + m ≤ _; omega
  · have hl : 0 < p.kids.length := List.length_pos_iff.2 hk
    rw [if_neg hk, if_pos hl]
    have hm0 := parts_in (kidD_mem hl)
    by_cases h2 : 1 < p.kids.length
    · rw [if_pos h2]
      have : parts (kidD p 0) + parts (kidD p 1) + 1 ≤ parts p := by
        cases p with | mk k n o a s kids =>
        match kids, h2 with
        | x :: y :: r, _ => simp only [parts, partsL, kidD, Pt.kids, List.getD_cons_zero, List.getD_cons_succ]; omega
      omega
    · rw [if_neg h2]
      have hv : (if value = true then sm b else 1) ≤ 8 := by split <;> omega
      have hp0 := parts_pos (kidD p 0)
      omega
/-- the constructor's part -/
theorem con_part {s : Srt} {n : Int} (hs : 0 < ofS s) (h0 : 0 ≤ n) (h1 : n < ofS s) : ofD (sI s) = ofS s ∧
    ((partsD (sI s) n = -1 ∧ conK s n = []) ∨ (partsD (sI s) n = -2 ∧ s = s3 ∧ n = 1) ∨ ∃ s', partsD (sI s) n = sI s' ∧ conK s n = [s'] ∧ 0 ≤ sI s' ∧ s' ≠ s6 ∧ rk s' < rk s ∧ sm s' + 1 ≤ sm s) := by
  cases s <;> simp only [ofS] at hs h1 <;> try omega
  · exact ⟨rfl, .inl ⟨by simp [partsD, sI], rfl⟩⟩
  · refine ⟨rfl, ?_⟩
    by_cases hn : n = 1
    · subst hn
      exact .inr (.inr ⟨s0, rfl, rfl, by decide, by decide, by decide, by decide⟩)
    · exact .inl ⟨by simp [partsD, sI, hn], by simp [conK, hn]⟩
  · refine ⟨rfl, ?_⟩
    by_cases hn : n = 1
    · exact .inr (.inl ⟨by subst hn; rfl, rfl, hn⟩)
    · exact .inl ⟨by simp [partsD, sI, hn], by simp [conK, hn]⟩
  · refine ⟨rfl, ?_⟩
    by_cases hn : n = 1
    · subst hn
      exact .inr (.inr ⟨s1, rfl, rfl, by decide, by decide, by decide, by decide⟩)
    · by_cases hn2 : n = 2
      · subst hn2
        exact .inr (.inr ⟨s4, rfl, rfl, by decide, by decide, by decide, by decide⟩)
      · exact .inl ⟨by simp [partsD, sI, hn, hn2], by simp [conK, hn, hn2]⟩
theorem i64_small {x : Int} (h : -1000 ≤ x ∧ x ≤ 1000) : I64 x := by unfold I64; omega
theorem fits_mk {k n o : Int} {l : List Pt} (hk : -1000 ≤ k ∧ k ≤ 1000) (hn : I64 n) (ho : -1000 ≤ o ∧ o ≤ 1000) (hl : l.length ≤ 10) (h : FitsL l) : Fits (.mk k n o 0 ⟨#[]⟩ l) := by
  unfold Fits
  exact ⟨⟨i64_small hk, hn, i64_small ho, i64_small (by omega), Nat.zero_le _⟩, by omega, h⟩
theorem good_var (s : Srt) {n : Int} (hn : I64 n) : Good s false 1 (.mk 1 n 0 0 ⟨#[]⟩ []) :=
  ⟨by unfold Pty; exact .inr (.inl ⟨rfl, rfl⟩), by unfold NoA; exact ⟨by decide, by unfold NoAL; trivial⟩, (fun h => by cases h), fits_mk (by omega) hn (by omega) (by simp) (by unfold FitsL; trivial), by rw [parts, partsL]; omega⟩
theorem good_as {s : Srt} {n : Int} {B : Nat} {t : Pt} (hn : I64 n) (h : Good s false B t) : Good s false (B + 1) (.mk 2 n 0 0 ⟨#[]⟩ [t]) :=
  ⟨by unfold Pty; exact .inr (.inr (.inl ⟨rfl, by unfold PtyL; exact ⟨h.ty, by unfold PtyL; trivial⟩⟩)), by unfold NoA; exact ⟨by decide, by unfold NoAL; exact ⟨h.noa, by unfold NoAL; trivial⟩⟩, (fun h => by cases h), fits_mk (by omega) hn (by omega) (by simp) (fitsL_mk h.fits (by unfold FitsL; trivial)), by rw [parts, partsL, partsL]; have := h.size; omega⟩
theorem good_int {n : Int} (value : Bool) (h0 : 0 ≤ n) (h1 : n < 3) : Good s0 value 1 (.mk 3 n 0 0 ⟨#[]⟩ []) :=
  ⟨by unfold Pty; exact .inr (.inr (.inr (.inl ⟨rfl, rfl, rfl⟩))), by unfold NoA; exact ⟨by decide, by unfold NoAL; trivial⟩, fun _ => by unfold Vty; exact ⟨.inl ⟨rfl, rfl⟩, by unfold VtyL inK; trivial⟩, fits_mk (by omega) (i64_small (by omega)) (by omega) (by simp) (by unfold FitsL; trivial), by rw [parts, partsL]; omega⟩
theorem good_tup {s a b : Srt} {value : Bool} {BA BB : Nat} {x y : Pt} (hs : tupK s = [a, b]) (hx : Good a value BA x) (hy : Good b value BB y) : Good s value (BA + BB + 1) (tupP x y) := by
  unfold tupP
  refine ⟨?_, ?_, fun hv => ?_, fits_mk (by omega) (i64_small (by omega)) (by omega) (by simp) (fitsL_mk hx.fits (fitsL_mk hy.fits (by unfold FitsL; trivial))), ?_⟩
  · unfold Pty
    refine .inr (.inr (.inr (.inr (.inl ⟨rfl, rfl, by rw [hs]; simp, ?_⟩))))
    rw [hs]
    unfold PtyL
    refine ⟨hx.ty, ?_⟩
    unfold PtyL
    exact ⟨hy.ty, by unfold PtyL; trivial⟩
  · unfold NoA
    refine ⟨by decide, ?_⟩
    unfold NoAL
    refine ⟨hx.noa, ?_⟩
    unfold NoAL
    exact ⟨hy.noa, by unfold NoAL; trivial⟩
  · unfold Vty
    refine ⟨.inr (.inl ⟨rfl, rfl, by rw [hs]; simp⟩), ?_⟩
    rw [show inK s 5 0 = [a, b] from hs]
    unfold VtyL
    refine ⟨hx.val hv, ?_⟩
    unfold VtyL
    exact ⟨hy.val hv, by unfold VtyL; trivial⟩
  · have h1 := hx.size
    have h2 := hy.size
    rw [parts, partsL, partsL, partsL]
    omega
theorem good_con {s : Srt} {value : Bool} {n o : Int} {B : Nat} {l : List Pt} (h0 : 0 ≤ n) (h1 : n < ofS s) (ho : o = ofS s) (hob : o ≤ 10) (hll : l.length ≤ 1) (hp : PtyL (conK s n) l) (hna : NoAL l) (hv : value = true → VtyL (conK s n) l) (hf : FitsL l) (hb : partsL l ≤ B) : Good s value (B + 1) (.mk 6 n o 0 ⟨#[]⟩ l) := by
  refine ⟨?_, ?_, fun h => ?_, fits_mk (by omega) (i64_small (by omega)) (by omega) (by omega) hf, by rw [parts]; omega⟩
  · unfold Pty
    exact .inr (.inr (.inr (.inr (.inr ⟨rfl, h0, h1, ho, hp⟩))))
  · unfold NoA; exact ⟨by decide, hna⟩
  · unfold Vty
    exact ⟨.inr (.inr ⟨rfl, h0, h1⟩), hv h⟩
theorem good_leaf {s : Srt} {n : Int} (value : Bool) (h0 : 0 ≤ n) (h1 : n < ofS s) (hob : ofS s ≤ 10) (hk : conK s n = []) : Good s value 1 (conP n (ofS s)) := by
  unfold conP
  refine good_con (B := 0) h0 h1 rfl hob (by simp) ?_ (by unfold NoAL; trivial) (fun _ => ?_) (by unfold FitsL; trivial) (by rw [partsL]; omega)
  · rw [hk]; unfold PtyL; trivial
  · rw [hk]; unfold VtyL; trivial
theorem good_con1 {s s' : Srt} {value : Bool} {n : Int} {B : Nat} {x : Pt} (h0 : 0 ≤ n) (h1 : n < ofS s) (hob : ofS s ≤ 10) (hk : conK s n = [s']) (hx : Good s' value B x) : Good s value (B + 1) (.mk 6 n (ofS s) 0 ⟨#[]⟩ [x]) := by
  refine good_con (B := B) h0 h1 rfl hob (by simp) ?_ (by unfold NoAL; exact ⟨hx.noa, by unfold NoAL; trivial⟩) (fun h => ?_) (fitsL_mk hx.fits (by unfold FitsL; trivial)) (by rw [partsL, partsL]; have := hx.size; omega)
  · rw [hk]; unfold PtyL; exact ⟨hx.ty, by unfold PtyL; trivial⟩
  · rw [hk]; unfold VtyL; exact ⟨hx.val h, by unfold VtyL; trivial⟩
theorem fit_fin {s : Srt} {value : Bool} {B lo : Nat} {w wx : World} {t q : Pt} {a aq : Option Addr} {c cq : Nat} (hz : PB wx (w.heap.size + 1) q aq cq) (hk : SlD wx (NewD lo wx) t.kids a c) (hlo : w.heap.size + 1 < lo) (hB : Below w.heap.size w wx) (hg : Good s value B t) :
    PB (set6 wx (w.heap.size + 1) t a c) (w.heap.size + 1) t a c ∧ FitPost s value B w (.returned (.agg (rowOf t a c))) (set6 wx (w.heap.size + 1) t a c) := by
  refine ⟨hz.set, t, a, c, rfl, ?_, hg, below_set6 hB (by omega)⟩
  refine (hk.keep fun b hb off => cell_set6 (by have h1 : lo ≤ b := hb.1; omega) off).mono fun b hb => ⟨by have h1 : lo ≤ b := hb.1; omega, by rw [size_set6]; exact hb.2⟩
end Go.Proofs.Ytcieoelogocjkaa
