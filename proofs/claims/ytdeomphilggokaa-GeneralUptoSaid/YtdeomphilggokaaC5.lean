/-
  Proved: sort.Slice over a row of binds leaves a permutation of it, sorted by the binds' numbers. Condition: two binds or more. (The laying of the library's contracts was written by the kit's command.)
-/
import Derived.Test.YtdeomphilggokaaC4
import Derived.Shelf.SlSortFuncK.WholeK
set_option linter.unusedSimpArgs false
set_option linter.unusedVariables false
namespace Go.Proofs.Ytdeomphilggokaa
open Go.Shelf Go.RowKit Go.Lib Go.Sort

def sl6_ren : Go.Shelf.Ren := ⟨fun | 6 => 39 | 10 => 58 | 11 => 59 | 12 => 60 | 13 => 61 | 14 => 62 | 24 => 78 | 25 => 79 | 26 => 80 | 27 => 81 | 28 => 82 | 29 => 83 | 30 => 84 | 31 => 85 | 32 => 86 | 33 => 87 | 34 => 100 | 35 => 101 | 36 => 102 | 37 => 103 | 38 => 104 | 39 => 111 | n => n, fun | 20 => 20 | 26 => 73 | 35 => 92 | 0 => 0 | 37 => 94 | 3 => 3 | 41 => 98 | 44 => 101 | 49 => 112 | 51 => 114 | 4 => 4 | 54 => 117 | 53 => 116 | 58 => 121 | 5 => 5 | 9 => 9 | 60 => 131 | 64 => 69 | 66 => 140 | 67 => 141 | 17 => 17 | 32 => 89 | 33 => 90 | 82 => 158 | 12 => 12 | 75 => 151 | 76 => 152 | 77 => 153 | 78 => 154 | 79 => 155 | 80 => 156 | n => n, fun | n => n⟩
theorem sl6 : Go.Proofs.LaysGg.n6 Try.prog sl6_ren :=
  { mixed := by kernel_rfl
    f6 := Try.func39.trans (congrArg some (by kernel_rfl))
    f10 := Try.func58.trans (congrArg some (by kernel_rfl))
    f11 := Try.func59.trans (congrArg some (by kernel_rfl))
    f12 := Try.func60.trans (congrArg some (by kernel_rfl))
    f13 := Try.func61.trans (congrArg some (by kernel_rfl))
    f14 := Try.func62.trans (congrArg some (by kernel_rfl))
    f24 := Try.func78.trans (congrArg some (by kernel_rfl))
    f25 := Try.func79.trans (congrArg some (by kernel_rfl))
    f26 := Try.func80.trans (congrArg some (by kernel_rfl))
    f27 := Try.func81.trans (congrArg some (by kernel_rfl))
    f28 := Try.func82.trans (congrArg some (by kernel_rfl))
    f29 := Try.func83.trans (congrArg some (by kernel_rfl))
    f30 := Try.func84.trans (congrArg some (by kernel_rfl))
    f31 := Try.func85.trans (congrArg some (by kernel_rfl))
    f32 := Try.func86.trans (congrArg some (by kernel_rfl))
    f33 := Try.func87.trans (congrArg some (by kernel_rfl))
    f34 := Try.func100.trans (congrArg some (by kernel_rfl))
    f35 := Try.func101.trans (congrArg some (by kernel_rfl))
    f36 := Try.func102.trans (congrArg some (by kernel_rfl))
    f37 := Try.func103.trans (congrArg some (by kernel_rfl))
    f38 := Try.func104.trans (congrArg some (by kernel_rfl))
    f39 := Try.func111.trans (congrArg some (by kernel_rfl))
    t0 := Try.underlying0
    a0 := Try.isAgg0
    z0 := Try.sizeOf0
    v0 := Try.zeroValue0
    i0 := by kernel_rfl
    t3 := Try.underlying3
    a3 := Try.isAgg3
    z3 := Try.sizeOf3
    v3 := Try.zeroValue3
    i3 := by kernel_rfl
    t4 := Try.underlying4
    a4 := Try.isAgg4
    z4 := Try.sizeOf4
    v4 := Try.zeroValue4
    i4 := by kernel_rfl
    t5 := Try.underlying5
    a5 := Try.isAgg5
    z5 := Try.sizeOf5
    v5 := Try.zeroValue5
    i5 := by kernel_rfl
    t9 := Try.underlying9
    a9 := Try.isAgg9
    z9 := Try.sizeOf9
    v9 := Try.zeroValue9
    i9 := by kernel_rfl
    t12 := Try.underlying12
    a12 := Try.isAgg12
    z12 := Try.sizeOf12
    v12 := Try.zeroValue12
    i12 := by kernel_rfl
    t17 := Try.underlying17
    a17 := Try.isAgg17
    z17 := Try.sizeOf17
    v17 := Try.zeroValue17
    i17 := by kernel_rfl
    t20 := Try.underlying20
    a20 := Try.isAgg20
    z20 := Try.sizeOf20
    v20 := Try.zeroValue20
    i20 := by kernel_rfl
    t26 := Try.underlying73
    a26 := Try.isAgg73
    z26 := Try.sizeOf73
    v26 := Try.zeroValue73
    i26 := by kernel_rfl
    t32 := Try.underlying89
    a32 := Try.isAgg89
    z32 := Try.sizeOf89
    v32 := Try.zeroValue89
    i32 := by kernel_rfl
    t33 := Try.underlying90
    a33 := Try.isAgg90
    z33 := Try.sizeOf90
    v33 := Try.zeroValue90
    i33 := by kernel_rfl
    t35 := Try.underlying92
    a35 := Try.isAgg92
    z35 := Try.sizeOf92
    v35 := Try.zeroValue92
    i35 := by kernel_rfl
    t37 := Try.underlying94
    a37 := Try.isAgg94
    z37 := Try.sizeOf94
    v37 := Try.zeroValue94
    i37 := by kernel_rfl
    t41 := Try.underlying98
    a41 := Try.isAgg98
    z41 := Try.sizeOf98
    v41 := Try.zeroValue98
    i41 := by kernel_rfl
    t44 := Try.underlying101
    a44 := Try.isAgg101
    z44 := Try.sizeOf101
    v44 := Try.zeroValue101
    i44 := by kernel_rfl
    t49 := Try.underlying112
    a49 := Try.isAgg112
    z49 := Try.sizeOf112
    v49 := Try.zeroValue112
    i49 := by kernel_rfl
    t51 := Try.underlying114
    a51 := Try.isAgg114
    z51 := Try.sizeOf114
    v51 := Try.zeroValue114
    i51 := by kernel_rfl
    t53 := Try.underlying116
    a53 := Try.isAgg116
    z53 := Try.sizeOf116
    v53 := Try.zeroValue116
    i53 := by kernel_rfl
    t54 := Try.underlying117
    a54 := Try.isAgg117
    z54 := Try.sizeOf117
    v54 := Try.zeroValue117
    i54 := by kernel_rfl
    t58 := Try.underlying121
    a58 := Try.isAgg121
    z58 := Try.sizeOf121
    v58 := Try.zeroValue121
    i58 := by kernel_rfl
    t60 := Try.underlying131
    a60 := Try.isAgg131
    z60 := Try.sizeOf131
    v60 := Try.zeroValue131
    i60 := by kernel_rfl
    t64 := Try.underlying69
    a64 := Try.isAgg69
    z64 := Try.sizeOf69
    v64 := Try.zeroValue69
    i64 := by kernel_rfl
    t66 := Try.underlying140
    a66 := Try.isAgg140
    z66 := Try.sizeOf140
    v66 := Try.zeroValue140
    i66 := by kernel_rfl
    t67 := Try.underlying141
    a67 := Try.isAgg141
    z67 := Try.sizeOf141
    v67 := Try.zeroValue141
    i67 := by kernel_rfl
    t75 := Try.underlying151
    a75 := Try.isAgg151
    z75 := Try.sizeOf151
    v75 := Try.zeroValue151
    i75 := by kernel_rfl
    t76 := Try.underlying152
    a76 := Try.isAgg152
    z76 := Try.sizeOf152
    v76 := Try.zeroValue152
    i76 := by kernel_rfl
    t77 := Try.underlying153
    a77 := Try.isAgg153
    z77 := Try.sizeOf153
    v77 := Try.zeroValue153
    i77 := by kernel_rfl
    t78 := Try.underlying154
    a78 := Try.isAgg154
    z78 := Try.sizeOf154
    v78 := Try.zeroValue154
    i78 := by kernel_rfl
    t79 := Try.underlying155
    a79 := Try.isAgg155
    z79 := Try.sizeOf155
    v79 := Try.zeroValue155
    i79 := by kernel_rfl
    t80 := Try.underlying156
    a80 := Try.isAgg156
    z80 := Try.sizeOf156
    v80 := Try.zeroValue156
    i80 := by kernel_rfl
    t82 := Try.underlying158
    a82 := Try.isAgg158
    z82 := Try.sizeOf158
    v82 := Try.zeroValue158
    i82 := by kernel_rfl }

noncomputable def svT : TypeInfo := (Try.prog.info? 25).get (by kernel_rfl)
noncomputable def svE : TypeInfo := (Try.prog.info? 35).get (by kernel_rfl)
theorem svK (n : Nat) (h2 : 2 ≤ n) : Lib.swapperK n svE 25 = 9 := by
  have b : svE.bytes = 72 := by kernel_rfl
  have c : (n == 0) = false := by simp; omega
  have d : (n == 1) = false := by simp; omega
  simp [Lib.swapperK, b, c, d]
def ltB (a b : Bd) : Bool := decide (a.n < b.n)
theorem swo_ltB : SWO ltB where
  irrefl := fun x => by simp [ltB]
  trans := fun x y z h1 h2 => by simp [ltB] at *; omega
  ntrans := fun x y z h1 h2 => by simp [ltB] at *; omega
set_option maxRecDepth 100000 in
set_option maxHeartbeats 2000000 in
theorem less_any (blk c Bs size : Nat) (W : World) (G : Nat → Int) (hs : W.cell? ⟨Bs, 0, none⟩ = some (.slice (some ⟨blk, 0, none⟩) size c))
    (hc : ∀ t, t < size → W.cell? ⟨blk, t * 6, none⟩ = some (.int .i64 (G t))) (i j : Nat) (hi : i < size) (hj : j < size) (hsz : size < 4611686018427387904) :
    Calls Try.prog 40 #[.int .i64 i, .int .i64 j, .pointer (some ⟨Bs, 0, none⟩)] W fun e w' => e = .returned (.bool (decide (G i < G j))) ∧ ∃ q, w' = W.drewN q := by
  have ci := hc i hi
  have cj := hc j hj
  have hxi := index_at Try.underlying25 size35 (ao := some ⟨blk, 0, none⟩) rfl size c i hi
  have hxj := index_at Try.underlying25 size35 (ao := some ⟨blk, 0, none⟩) rfl size c j hj
  simp only [Nat.zero_add] at hxi hxj
  clear hc
  go_enter Try.func40, Try.ntmps40
  go_upto_region 1 with fail
  go_quiet (fail)
  go_wp2
  go_ret
  exact ⟨rfl, nq, rfl⟩
theorem sort_any (blk c Bs : Nat) (d : Array Bd) (h2 : 2 ≤ d.size) (hsz : d.size < 4611686018427387904) (w : World) (hH : HoldsK Bd.cells 6 w blk 0 d) (hblk : blk < w.heap.size)
    (hBs : w.cell? ⟨Bs, 0, none⟩ = some (.slice (some ⟨blk, 0, none⟩) d.size c)) (hB1 : Bs < w.heap.size) (hB2 : Bs ≠ blk) :
    Calls Try.prog 39 #[.iface 25 (.slice (some ⟨blk, 0, none⟩) d.size c), .func (.func 40) #[] #[.pointer (some ⟨Bs, 0, none⟩)]] w fun e w' =>
      e = .returned (.tuple #[]) ∧ ∃ d' n os, PermIn 0 d.size d d' ∧ SortedIn ltB 0 d.size d' ∧ w' = grow (putRowK Bd.cells 6 (Sort.ahead w n) blk 0 d') os := by
  have hless : LessReadsK Try.prog 40 #[.pointer (some ⟨Bs, 0, none⟩)] Bd.cells 6 ltB blk 0 d.size w := by
    intro m os dk hs i j hi hj
    have e : sortWorldK Bd.cells 6 w blk 0 m dk os = putRowK Bd.cells 6 (grow (Sort.ahead w m) os) blk 0 dk := by
      unfold sortWorldK; rw [putRowK_grow _ _ (Sort.ahead w m) _ blk 0 _ hblk]
    have hHg : HoldsK Bd.cells 6 (grow (Sort.ahead w m) os) blk 0 d := holdsK_grow _ _ _ _ blk 0 d hblk (holdsK_ahead _ _ _ _ _ _ _ hH)
    refine less_any blk c Bs d.size _ (fun t => dk[t]!.n) ?_ (fun t ht => ?_) i j hi hj (by omega)
    · rw [e, cell?_putRowK_other _ _ _ blk 0 dk _ (by exact hB2), cell?_grow _ _ _ (by exact hB1)]; exact hBs
    · rw [e]
      have h := ((holdsK_putRowK _ _ _ blk 0 d dk hHg hs).cell (i := t) (c := 0) (by omega) (by omega)).1
      simpa [Bd.cells] using h
  exact Any.sort_Slice_cells_sorted sl6 25 35 svT svE (by kernel_rfl) (by kernel_rfl) (by kernel_rfl) (by kernel_rfl) 25 (fun _ => by kernel_rfl) Bd.cells 6 (fun _ => rfl) (by kernel_rfl) (fun _ => by kernel_rfl)
    (fun x v hv => bd_one x v hv) ltB swo_ltB 40 _
    (enters_of Try.func40 (by kernel_rfl) rfl) blk 0 c d h2 hsz 77 (by rw [svK _ h2]; kernel_rfl) false
    (fun args W => run_callFunc_extern Try.func77 (by kernel_rfl) (by kernel_rfl) (by kernel_rfl) (e := Extern.ReflectliteSwapper.swap false) (by kernel_rfl) args W) w hless hH hblk
end Go.Proofs.Ytdeomphilggokaa
