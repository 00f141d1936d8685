/-
  Proved: the contracts of isPair, isWord. No condition.
-/
import Derived.Test.YtbfeailcebfklaaDoorQ3
import Derived.Test.YtbfeailcebfklaaDoorL4
set_option linter.unusedSimpArgs false
set_option linter.unusedVariables false
namespace Go.Proofs.YtbfeailcebfklaaDoor
open Go.RowKit

def pairB : List ByteArray := [⟨#[61, 62]⟩, ⟨#[45, 62]⟩, ⟨#[58, 61]⟩, ⟨#[58, 58]⟩, ⟨#[58, 62]⟩, ⟨#[60, 62]⟩, ⟨#[60, 61]⟩, ⟨#[62, 61]⟩]
set_option maxHeartbeats 1000000 in
theorem isPair_any (t : ByteArray) (w : World) : Calls Tryd.prog 20 #[.string t] w fun e w' => e = .returned (.bool (pairB.any fun x => t.toList == x.data.toList)) ∧ w = w' := by
  have hL : (pairB.any fun x => t.toList == x.data.toList) = ((t.toList == [61, 62]) || ((t.toList == [45, 62]) || ((t.toList == [58, 61]) || ((t.toList == [58, 58]) || ((t.toList == [58, 62]) || ((t.toList == [60, 62]) || ((t.toList == [60, 61]) || ((t.toList == [62, 61]) || false)))))))) := rfl
  rw [hL]
  go_enter Tryd.func20, Tryd.ntmps20
  go_wp2
  all_goals
    go_ret
    refine ⟨ret_bool ?_, rfl⟩
    simp_all
/-- the map's entries behind the first words -/
def ent (k : Nat) : Array MapEntry := ((wordB.take k).zipIdx.map fun p => ({ key := .string p.1, val := .int .i64 1, born := p.2 } : MapEntry)).toArray
theorem ent_step (k : Nat) (h : k < 28) : (ent k).push { key := .string (wordB.getD k ByteArray.empty), val := .int .i64 1, born := k } = ent (k + 1) := by
  have hl : k < wordB.length := h
  unfold ent
  rw [List.take_succ_eq_append_getElem hl, List.zipIdx_append, List.map_append]
  have e : wordB.getD k ByteArray.empty = wordB[k] := by rw [List.getD_eq_getElem?_getD, List.getElem?_eq_getElem hl]; rfl
  rw [e]
  simp
  omega
theorem ent_keys (k : Nat) : ∀ x ∈ (ent k).toList, ∃ j, j < k ∧ j < 28 ∧ x.key = .string (wordB.getD j ByteArray.empty) ∧ x.val = .int .i64 1 := by
  intro x hx
  simp only [ent, List.mem_map] at hx
  obtain ⟨p, hp, rfl⟩ := hx
  obtain ⟨i, hi⟩ := List.mem_iff_getElem?.1 hp
  rw [List.getElem?_zipIdx] at hi
  cases hg : (wordB.take k)[i]? with
  | none => rw [hg] at hi; cases hi
  | some y =>
    rw [hg] at hi
    simp at hi
    have hlt := (List.getElem?_eq_some_iff.1 hg).1
    rw [List.length_take] at hlt
    have h28 : wordB.length = 28 := rfl
    refine ⟨i, by omega, by omega, ?_, rfl⟩
    rw [List.getElem?_take_of_lt (by omega)] at hg
    rw [List.getD_eq_getElem?_getD, hg, ← hi]
    rfl
theorem words_nodup : ∀ i j : Fin 28, wordB.getD i ByteArray.empty = wordB.getD j ByteArray.empty → i = j := by decide +kernel
theorem upd (k : Nat) (h : k < 28) (w : World) : (Instr.mapUpdate 61 (.map (some w.heap.size)) (.string (wordB.getD k ByteArray.empty)) (.int .i64 1)).run Tryd.prog (w.alloc (.map (ent k) k)) = .ok () (w.alloc (.map (ent (k + 1)) (k + 1))) := by
  have hb := heap_alloc_new w (.map (ent k) k)
  have hkeys : ∀ x ∈ (ent k).toList, MapKept.IsKey .string x.key := fun x hx => by
    obtain ⟨j, _, _, e, _⟩ := ent_keys k x hx
    rw [e]; trivial
  have hc : (Instr.checkKey false 10000 9 (.string (wordB.getD k ByteArray.empty))).run Tryd.prog (w.alloc (.map (ent k) k)) = .ok () (w.alloc (.map (ent k) k)) := MapKept.run_checkKey (k := .string _) Tryd.underlying9 (by simp [MapKept.IsKey]) false 9999
  have hs : (w.alloc (.map (ent k) k)).heap.setIfInBounds w.heap.size (.map (ent (k + 1)) (k + 1)) = (w.alloc (.map (ent (k + 1)) (k + 1))).heap := by
    show (w.heap.push _).setIfInBounds w.heap.size _ = w.heap.push _
    apply Array.ext'
    simp
  rcases MapKept.findNow_spec (d := .string) (k := .string (wordB.getD k ByteArray.empty)) trivial (ent k).toList 0 hkeys with ⟨h1, _⟩ | ⟨j, e0, _, h2, h3⟩
  · have hst := ent_step k h
    clear hkeys
    generalize wordB.getD k ByteArray.empty = x at *
    simp [Instr.mapUpdate, run_underlying Tryd.underlying61, MapKept.run_getObj_map hb, hc, MapKept.run_findKey Tryd.underlying9 h1, MapKept.run_setObj_map _ hb, Result.andThen]
    rw [hst, hs]
    rfl
  · obtain ⟨i, hi, hi28, e, _⟩ := ent_keys k e0 (List.mem_of_getElem? h2)
    rw [e] at h3
    have := words_nodup ⟨i, hi28⟩ ⟨k, h⟩ (by injection h3)
    simp at this
    omega
theorem ent_mem (j : Nat) (h : j < 28) : ∃ x ∈ (ent 28).toList, x.key = .string (wordB.getD j ByteArray.empty) := by
  have hl : j < wordB.length := h
  refine ⟨{ key := .string (wordB.getD j ByteArray.empty), val := .int .i64 1, born := j }, ?_, rfl⟩
  unfold ent
  have e : wordB.getD j ByteArray.empty = wordB[j] := by rw [List.getD_eq_getElem?_getD, List.getElem?_eq_getElem hl]; rfl
  have h28 : wordB.take 28 = wordB := rfl
  rw [h28, List.mem_map]
  refine ⟨(wordB[j], j), ?_, by rw [e]⟩
  rw [List.mem_iff_getElem?]
  refine ⟨j, ?_⟩
  rw [List.getElem?_zipIdx, List.getElem?_eq_getElem hl]
  simp
theorem look (t : ByteArray) (w : World) : (Instr.lookup 61 (.map (some w.heap.size)) (.string t) false).run Tryd.prog (w.alloc (.map (ent 28) 28)) = .ok (.int .i64 (if amongD wordB t then 1 else 0)) (w.alloc (.map (ent 28) 28)) := by
  have hb := heap_alloc_new w (.map (ent 28) 28)
  have hkeys : ∀ x ∈ (ent 28).toList, MapKept.IsKey .string x.key := fun x hx => by
    obtain ⟨j, _, _, e, _⟩ := ent_keys 28 x hx
    rw [e]; trivial
  have hc : (Instr.checkKey (ent 28).isEmpty 10000 9 (.string t)).run Tryd.prog (w.alloc (.map (ent 28) 28)) = .ok () (w.alloc (.map (ent 28) 28)) := MapKept.run_checkKey (k := .string _) Tryd.underlying9 (by simp [MapKept.IsKey]) _ 9999
  rcases MapKept.findNow_spec (d := .string) (k := .string t) trivial (ent 28).toList 0 hkeys with ⟨h1, h2⟩ | ⟨j, e0, h1, h2, h3⟩
  · have ha : amongD wordB t = false := by
      unfold amongD
      rw [List.any_eq_false]
      intro x hx
      obtain ⟨j, hj⟩ := List.mem_iff_getElem?.1 hx
      have hlt := (List.getElem?_eq_some_iff.1 hj).1
      obtain ⟨y, hy, hk⟩ := ent_mem j hlt
      have hne := h2 y hy
      rw [hk, List.getD_eq_getElem?_getD, hj] at hne
      simp only [decide_eq_true_eq]
      intro h
      exact hne (by rw [← h]; rfl)
    rw [ha]
    simp [Instr.lookup, run_underlying Tryd.underlying61, MapKept.run_getObj_map hb, hc, MapKept.run_findKey Tryd.underlying9 h1, Result.andThen]
  · obtain ⟨i, hi, hi28, e, ev⟩ := ent_keys 28 e0 (List.mem_of_getElem? h2)
    rw [e] at h3
    have ha : amongD wordB t = true := by
      unfold amongD
      rw [List.any_eq_true]
      have hl : i < wordB.length := hi28
      refine ⟨wordB[i], List.getElem_mem hl, ?_⟩
      have e2 : wordB.getD i ByteArray.empty = wordB[i] := by rw [List.getD_eq_getElem?_getD, List.getElem?_eq_getElem hl]; rfl
      rw [← e2]
      injection h3 with h3
      simp only [decide_eq_true_eq]
      exact h3
    rw [ha]
    simp [Instr.lookup, run_underlying Tryd.underlying61, MapKept.run_getObj_map hb, hc, MapKept.run_findKey Tryd.underlying9 h1, Result.andThen, ev]
set_option maxRecDepth 100000 in
set_option maxHeartbeats 4000000 in
theorem isWord_any (t : ByteArray) (w : World) : Calls Tryd.prog 21 #[.string t] w fun e w' => e = .returned (.bool (amongD wordB t)) ∧ Below w.heap.size w w' := by
  have hmm : (Instr.makeMap 61 none).run Tryd.prog w = .ok (.map (some w.heap.size)) (w.alloc (.map (ent 0) 0)) := rfl
  have u0 : (Instr.mapUpdate 61 (.map (some w.heap.size)) (.string ⟨#[97, 110, 100]⟩) (.int .i64 1)).run Tryd.prog (w.alloc (.map (ent 0) 0)) = .ok () (w.alloc (.map (ent 1) 1)) := upd 0 (by decide) w
  have u1 : (Instr.mapUpdate 61 (.map (some w.heap.size)) (.string ⟨#[97, 110, 100, 97, 108, 115, 111]⟩) (.int .i64 1)).run Tryd.prog (w.alloc (.map (ent 1) 1)) = .ok () (w.alloc (.map (ent 2) 2)) := upd 1 (by decide) w
  have u2 : (Instr.mapUpdate 61 (.map (some w.heap.size)) (.string ⟨#[97, 115]⟩) (.int .i64 1)).run Tryd.prog (w.alloc (.map (ent 2) 2)) = .ok () (w.alloc (.map (ent 3) 3)) := upd 2 (by decide) w
  have u3 : (Instr.mapUpdate 61 (.map (some w.heap.size)) (.string ⟨#[99, 97, 115, 101]⟩) (.int .i64 1)).run Tryd.prog (w.alloc (.map (ent 3) 3)) = .ok () (w.alloc (.map (ent 4) 4)) := upd 3 (by decide) w
  have u4 : (Instr.mapUpdate 61 (.map (some w.heap.size)) (.string ⟨#[100, 97, 116, 97]⟩) (.int .i64 1)).run Tryd.prog (w.alloc (.map (ent 4) 4)) = .ok () (w.alloc (.map (ent 5) 5)) := upd 4 (by decide) w
  have u5 : (Instr.mapUpdate 61 (.map (some w.heap.size)) (.string ⟨#[101, 108, 115, 101]⟩) (.int .i64 1)).run Tryd.prog (w.alloc (.map (ent 5) 5)) = .ok () (w.alloc (.map (ent 6) 6)) := upd 5 (by decide) w
  have u6 : (Instr.mapUpdate 61 (.map (some w.heap.size)) (.string ⟨#[101, 110, 100]⟩) (.int .i64 1)).run Tryd.prog (w.alloc (.map (ent 6) 6)) = .ok () (w.alloc (.map (ent 7) 7)) := upd 6 (by decide) w
  have u7 : (Instr.mapUpdate 61 (.map (some w.heap.size)) (.string ⟨#[101, 120, 99, 101, 112, 116, 105, 111, 110]⟩) (.int .i64 1)).run Tryd.prog (w.alloc (.map (ent 7) 7)) = .ok () (w.alloc (.map (ent 8) 8)) := upd 7 (by decide) w
  have u8 : (Instr.mapUpdate 61 (.map (some w.heap.size)) (.string ⟨#[102, 97, 108, 115, 101]⟩) (.int .i64 1)).run Tryd.prog (w.alloc (.map (ent 8) 8)) = .ok () (w.alloc (.map (ent 9) 9)) := upd 8 (by decide) w
  have u9 : (Instr.mapUpdate 61 (.map (some w.heap.size)) (.string ⟨#[102, 110]⟩) (.int .i64 1)).run Tryd.prog (w.alloc (.map (ent 9) 9)) = .ok () (w.alloc (.map (ent 10) 10)) := upd 9 (by decide) w
  have u10 : (Instr.mapUpdate 61 (.map (some w.heap.size)) (.string ⟨#[102, 117, 110]⟩) (.int .i64 1)).run Tryd.prog (w.alloc (.map (ent 10) 10)) = .ok () (w.alloc (.map (ent 11) 11)) := upd 10 (by decide) w
  have u11 : (Instr.mapUpdate 61 (.map (some w.heap.size)) (.string ⟨#[105, 102]⟩) (.int .i64 1)).run Tryd.prog (w.alloc (.map (ent 11) 11)) = .ok () (w.alloc (.map (ent 12) 12)) := upd 11 (by decide) w
  have u12 : (Instr.mapUpdate 61 (.map (some w.heap.size)) (.string ⟨#[105, 110]⟩) (.int .i64 1)).run Tryd.prog (w.alloc (.map (ent 12) 12)) = .ok () (w.alloc (.map (ent 13) 13)) := upd 12 (by decide) w
  have u13 : (Instr.mapUpdate 61 (.map (some w.heap.size)) (.string ⟨#[108, 101, 116]⟩) (.int .i64 1)).run Tryd.prog (w.alloc (.map (ent 13) 13)) = .ok () (w.alloc (.map (ent 14) 14)) := upd 13 (by decide) w
  have u14 : (Instr.mapUpdate 61 (.map (some w.heap.size)) (.string ⟨#[111, 102]⟩) (.int .i64 1)).run Tryd.prog (w.alloc (.map (ent 14) 14)) = .ok () (w.alloc (.map (ent 15) 15)) := upd 14 (by decide) w
  have u15 : (Instr.mapUpdate 61 (.map (some w.heap.size)) (.string ⟨#[111, 112, 101, 110]⟩) (.int .i64 1)).run Tryd.prog (w.alloc (.map (ent 15) 15)) = .ok () (w.alloc (.map (ent 16) 16)) := upd 15 (by decide) w
  have u16 : (Instr.mapUpdate 61 (.map (some w.heap.size)) (.string ⟨#[111, 114, 101, 108, 115, 101]⟩) (.int .i64 1)).run Tryd.prog (w.alloc (.map (ent 16) 16)) = .ok () (w.alloc (.map (ent 17) 17)) := upd 16 (by decide) w
  have u17 : (Instr.mapUpdate 61 (.map (some w.heap.size)) (.string ⟨#[114, 97, 105, 115, 101]⟩) (.int .i64 1)).run Tryd.prog (w.alloc (.map (ent 17) 17)) = .ok () (w.alloc (.map (ent 18) 18)) := upd 17 (by decide) w
  have u18 : (Instr.mapUpdate 61 (.map (some w.heap.size)) (.string ⟨#[115, 105, 103]⟩) (.int .i64 1)).run Tryd.prog (w.alloc (.map (ent 18) 18)) = .ok () (w.alloc (.map (ent 19) 19)) := upd 18 (by decide) w
  have u19 : (Instr.mapUpdate 61 (.map (some w.heap.size)) (.string ⟨#[115, 105, 103, 110, 97, 116, 117, 114, 101]⟩) (.int .i64 1)).run Tryd.prog (w.alloc (.map (ent 19) 19)) = .ok () (w.alloc (.map (ent 20) 20)) := upd 19 (by decide) w
  have u20 : (Instr.mapUpdate 61 (.map (some w.heap.size)) (.string ⟨#[115, 116, 114, 117, 99, 116]⟩) (.int .i64 1)).run Tryd.prog (w.alloc (.map (ent 20) 20)) = .ok () (w.alloc (.map (ent 21) 21)) := upd 20 (by decide) w
  have u21 : (Instr.mapUpdate 61 (.map (some w.heap.size)) (.string ⟨#[115, 116, 114, 117, 99, 116, 117, 114, 101]⟩) (.int .i64 1)).run Tryd.prog (w.alloc (.map (ent 21) 21)) = .ok () (w.alloc (.map (ent 22) 22)) := upd 21 (by decide) w
  have u22 : (Instr.mapUpdate 61 (.map (some w.heap.size)) (.string ⟨#[116, 104, 101, 110]⟩) (.int .i64 1)).run Tryd.prog (w.alloc (.map (ent 22) 22)) = .ok () (w.alloc (.map (ent 23) 23)) := upd 22 (by decide) w
  have u23 : (Instr.mapUpdate 61 (.map (some w.heap.size)) (.string ⟨#[116, 114, 117, 101]⟩) (.int .i64 1)).run Tryd.prog (w.alloc (.map (ent 23) 23)) = .ok () (w.alloc (.map (ent 24) 24)) := upd 23 (by decide) w
  have u24 : (Instr.mapUpdate 61 (.map (some w.heap.size)) (.string ⟨#[116, 114, 121]⟩) (.int .i64 1)).run Tryd.prog (w.alloc (.map (ent 24) 24)) = .ok () (w.alloc (.map (ent 25) 25)) := upd 24 (by decide) w
  have u25 : (Instr.mapUpdate 61 (.map (some w.heap.size)) (.string ⟨#[116, 121, 112, 101]⟩) (.int .i64 1)).run Tryd.prog (w.alloc (.map (ent 25) 25)) = .ok () (w.alloc (.map (ent 26) 26)) := upd 25 (by decide) w
  have u26 : (Instr.mapUpdate 61 (.map (some w.heap.size)) (.string ⟨#[118, 97, 108]⟩) (.int .i64 1)).run Tryd.prog (w.alloc (.map (ent 26) 26)) = .ok () (w.alloc (.map (ent 27) 27)) := upd 26 (by decide) w
  have u27 : (Instr.mapUpdate 61 (.map (some w.heap.size)) (.string ⟨#[119, 105, 116, 104]⟩) (.int .i64 1)).run Tryd.prog (w.alloc (.map (ent 27) 27)) = .ok () (w.alloc (.map (ent 28) 28)) := upd 27 (by decide) w
  have hl := look t w
  have hb := (Below.refl w.heap.size w).alloc (Nat.le_refl _) (.map (ent 28) 28)
  have HB := Lib.hid hb
  clear hb
  cases ha : amongD wordB t
  all_goals
    rw [ha] at hl
    simp only [if_true, if_false, Bool.false_eq_true] at hl
    go_enter Tryd.func21, Tryd.ntmps21
    go_wp2_with fail
    go_ret
    exact ⟨rfl, HB.out⟩

end Go.Proofs.YtbfeailcebfklaaDoor
