/-
  Proved: the contract of the reference's alike. Condition: lengths of at most 1048576.
-/
import Derived.Test.YtcieoelogocjkaaG1
set_option linter.unusedSimpArgs false
set_option linter.unusedVariables false
namespace Go.Proofs.Ytcieoelogocjkaa
open Go.RowKit

theorem beqI (a b : Int) : (a == b) = decide (a = b) := by rw [Bool.eq_iff_iff]; simp
set_option maxRecDepth 100000 in
set_option maxHeartbeats 4000000 in
theorem alike_any (p q : Pt) (ap aq : Option Addr) (cp cq : Nat) (w : World) (hp : p.kids.length ≤ 1048576) (hq : q.kids.length ≤ 1048576) :
    Calls Try.prog 31 #[.agg (rowOf p ap cp), .agg (rowOf q aq cq)] w fun e w' => e = .returned (.bool (decide (headOf p = headOf q))) ∧ Below w.heap.size w w' := by
  obtain ⟨k, n, o, a, s, kids⟩ := p
  obtain ⟨k', n', o', a', s', kids'⟩ := q
  obtain ⟨c, hc⟩ : ∃ c, c = kids.length := ⟨_, rfl⟩
  obtain ⟨c', hc'⟩ : ∃ c', c' = kids'.length := ⟨_, rfl⟩
  simp only [Pt.kids] at hp hq
  rw [← hc] at hp
  rw [← hc'] at hq
  have hh : headOf (.mk k n o a s kids) = ⟨k, if k = 5 then 0 else n, c, if k = 4 then s else ⟨#[]⟩⟩ := by rw [hc]; rfl
  have hh' : headOf (.mk k' n' o' a' s' kids') = ⟨k', if k' = 5 then 0 else n', c', if k' = 4 then s' else ⟨#[]⟩⟩ := by rw [hc']; rfl
  rw [hh, hh']
  rw [show rowOf (.mk k n o a s kids) ap cp = #[.int .i64 k, .int .i64 n, .int .i64 o, .int .i64 a, .string s, .slice ap c cp] from by rw [hc]; rfl]
  rw [show rowOf (.mk k' n' o' a' s' kids') aq cq = #[.int .i64 k', .int .i64 n', .int .i64 o', .int .i64 a', .string s', .slice aq c' cq] from by rw [hc']; rfl]
  clear hh hh' hc hc'
  obtain ⟨ans, hans⟩ : ∃ ans, ans = decide ((⟨k, if k = 5 then 0 else n, c, if k = 4 then s else ⟨#[]⟩⟩ : Hd) = ⟨k', if k' = 5 then 0 else n', c', if k' = 4 then s' else ⟨#[]⟩⟩) := ⟨_, rfl⟩
  rw [← hans]
  have HANS := Lib.hid hans
  clear hans
  obtain ⟨W, hW⟩ : ∃ W, W = (w.alloc (.cells #[.int .i64 k, .int .i64 n, .int .i64 o, .int .i64 a, .string s, .slice ap c cp] 26)).alloc (.cells #[.int .i64 k', .int .i64 n', .int .i64 o', .int .i64 a', .string s', .slice aq c' cq] 26) := ⟨_, rfl⟩
  have e1 := heap_alloc_new w (.cells #[.int .i64 k, .int .i64 n, .int .i64 o, .int .i64 a, .string s, .slice ap c cp] 26)
  have e2 := heap_alloc_new (w.alloc (.cells #[.int .i64 k, .int .i64 n, .int .i64 o, .int .i64 a, .string s, .slice ap c cp] 26)) (.cells #[.int .i64 k', .int .i64 n', .int .i64 o', .int .i64 a', .string s', .slice aq c' cq] 26)
  rw [World.size_alloc] at e2
  have h1 : W.heap[w.heap.size]? = some (.cells #[.int .i64 k, .int .i64 n, .int .i64 o, .int .i64 a, .string s, .slice ap c cp] 26 (0, 0)) := by rw [hW]; exact blk_alloc e1 _
  have h2 : W.heap[w.heap.size + 1]? = some (.cells #[.int .i64 k', .int .i64 n', .int .i64 o', .int .i64 a', .string s', .slice aq c' cq] 26 (0, 0)) := by rw [hW]; exact e2
  have h3 : Below w.heap.size w W := by rw [hW]; exact balloc (balloc (Below.refl _ _) _) _
  have c0 : W.cell? ⟨w.heap.size, 0, none⟩ = some (.int .i64 k) := blk_cell h1 0
  have c1 : W.cell? ⟨w.heap.size, 1, none⟩ = some (.int .i64 n) := blk_cell h1 1
  have c4 : W.cell? ⟨w.heap.size, 4, none⟩ = some (.string s) := blk_cell h1 4
  have c5 : W.cell? ⟨w.heap.size, 5, none⟩ = some (.slice ap c cp) := blk_cell h1 5
  have d0 : W.cell? ⟨w.heap.size + 1, 0, none⟩ = some (.int .i64 k') := blk_cell h2 0
  have d1 : W.cell? ⟨w.heap.size + 1, 1, none⟩ = some (.int .i64 n') := blk_cell h2 1
  have d4 : W.cell? ⟨w.heap.size + 1, 4, none⟩ = some (.string s') := blk_cell h2 4
  have d5 : W.cell? ⟨w.heap.size + 1, 5, none⟩ = some (.slice aq c' cq) := blk_cell h2 5
  have HW := Lib.hid hW
  have H3 := Lib.hid h3
  clear hW e1 e2 h1 h2 h3
  go_enter Try.func31, Try.ntmps31
  go_upto_region 1 with fail
  rw [← HW.out]
  by_cases hk : k = k'
  · subst hk
    by_cases hcc : c = c'
    · subst hcc
      by_cases hk5 : k = 5
      · subst hk5
        go_wp2_with fail
        go_ret
        exact ⟨by rw [HANS.out]; simp, H3.out⟩
      · by_cases hk4 : k = 4
        · subst hk4
          clear hk5
          go_wp2_with fail
          all_goals
            rename_i h
            rw [str_list] at h
            go_ret
            refine ⟨?_, H3.out⟩
            rw [HANS.out]
            simp [h, beqI]
        · have b5 : (k == 5) = false := by simp [hk5]
          have b4 : (k == 4) = false := by simp [hk4]
          have HK5 := Lib.hid hk5
          have HK4 := Lib.hid hk4
          clear hk5 hk4
          go_wp2_with fail
          go_ret
          refine ⟨?_, H3.out⟩
          have h5 := HK5.out
          have h4 := HK4.out
          rw [HANS.out]
          simp [h5, h4, beqI]
    · have b1 : ((c : Int) != (c' : Int)) = true := by simp; omega
      have HCC := Lib.hid hcc
      clear hcc
      go_wp2_with fail
      go_ret
      exact ⟨by rw [HANS.out]; simp [HCC.out], H3.out⟩
  · have b1 : (k != k') = true := by simpa using hk
    have HK := Lib.hid hk
    clear hk
    go_wp2_with fail
    go_ret
    exact ⟨by rw [HANS.out]; simp [HK.out], H3.out⟩
end Go.Proofs.Ytcieoelogocjkaa
