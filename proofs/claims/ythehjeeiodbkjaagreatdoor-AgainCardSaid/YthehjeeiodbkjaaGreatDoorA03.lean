/-
  Proved: the contracts of the reader's within, of what ends it, and of path; the contract of the syntax's has, at any list and word; what it says of the words and signs that there are; how trees lie in memory: a node's five cells, rows of nodes of one's own; the contracts of node and of the reader's begins, begun, sign; the contract of the reader's sign. Conditions: the reader as it stands in memory; a list of at most 400 bytes, a word of at most 4000; the reader and the table of levels as they stand in memory.
-/
import Derived.Test.YthehjeeiodbkjaaGreatDoorA02
import Derived.Test.YthehjeeiodbkjaaGreatDoorA01
import Derived.Recover
import Derived.Deep.DeepCutAuto
import Derived.Deep.CutBlock
import Derived.StillTailTactics
import Derived.Deep.RegionHeld3
import Derived.BigRegion
import Derived.Deep.AppendLies
import Derived.BigQuiet
set_option linter.unusedSimpArgs false
set_option linter.unusedVariables false
set_option maxRecDepth 100000
set_option maxHeartbeats 16000000
namespace Go.Proofs.YthehjeeiodbkjaaGreatDoor
open Go.RowKit
def endV (b : Nat) : Value := .func (.func 72) #[] #[.pointer (some ⟨b, 0, none⟩)]
def WPost (E : Env) (i d : Nat) (w : World) (e : Ending) (w' : World) : Prop :=
 w.grownBy w' (some E.rb) ∧ ((d < 60 ∧ e = .returned (endV w.heap.size) ∧ Rd E w' i (d + 1) ∧ w.heap.size < w'.heap.size ∧ w'.heap[w.heap.size]? = some (.cells #[pr E] 42 (0, 0))) ∨ (¬ d < 60 ∧ ∃ k a, (failD E.P 5 i : Res Unit) = .bad k a ∧ e = .panicked (slipV k a) ∧ Rd E w' i d))
theorem within_any (E : Env) (w : World) (i d : Nat) (h : Rd E w i d) : Calls Tryz.prog 37 #[pr E] w (WPost E i d w) := by
 have hlt := h.ltr
 have hmf : ∀ (fn : Fn) (first cap : Array Value) (w : World), (Instr.makeFunc fn first cap).run Tryz.prog w = .ok (.func fn first cap) w := fun _ _ _ _ => rfl
 obtain ⟨W, hW⟩ : ∃ W, W = w.alloc (.cells #[pr E] 42) := ⟨_, rfl⟩
 have hbW : Below w.heap.size w W := by rw [hW]; exact balloc (Below.refl _ _) _
 have hrW : W.heap[w.heap.size]? = some (.cells #[pr E] 42 (0, 0)) := by rw [hW]; exact heap_alloc_new w _
 have hR := h.keep hbW
 obtain ⟨⟨r0, r1, r2, r3, r4⟩, ⟨z0, z1, z2, z3, z4⟩⟩ := hR.cells
 have HFA : Hid (Calls Tryz.prog 36 #[pr E, .int .i64 5] W fun e w' => (∃ x y, (failD E.P 5 i : Res Unit) = .bad x y ∧ e = .panicked (slipV x y)) ∧ Below W.heap.size W w') := lh (fail_any E W i d 5 hR)
 have c0 : W.cell? ⟨w.heap.size, 0, none⟩ = some (pr E) := blk_cell hrW 0
 have HR := lh hR
 have HBW := lh hbW
 have HRW := lh hrW
 have hd9 := h.d60
 unfold pr at hW c0 HFA ⊢
 have hl : w.heap.size < W.heap.size := lt_of_block hrW
 have n1 : ¬ (w.heap.size = E.rb) := by omega
 clear h hR hbW hrW
 have HWW := lh hW
 clear hW
 go_enter Tryz.func37, Tryz.ntmps37
 go_upto_region 1 with fail
 rw [← HWW.out]
 clear HWW
 by_cases hd : d < 60
 · have h1 : ¬ ((60 : Int) ≤ (d : Int)) := by omega
   have h2 : decide ((60 : Int) ≤ (d : Int)) = false := by simp; omega
   have h3 : decide ((d : Int) ≥ 60) = false := by simp; omega
   have HDD := lh hd
   clear hd
   go_wp2_with fail
   go_ret
   have hr := HR.out.setd (d' := d + 1) (by have := HDD.out; omega)
   refine ⟨gr_trans (gr_below HBW.out _) (gr_set _ _ _ _), .inl ⟨HDD.out, rfl, hr, ?_, ?_⟩⟩
   · rw [World.size_setCell]; exact hl
   · exact blk_set_ne HRW.out n1 4 _
 · have h1 : (60 : Int) ≤ (d : Int) := by omega
   have h2 : decide ((60 : Int) ≤ (d : Int)) = true := by simp; omega
   have h3 : decide ((d : Int) ≥ 60) = true := by simp; omega
   have HDD := lh hd
   clear hd
   go_wp2_with (first | (go_at_call 36; refine HFA.out.mono ?_; rintro e w2 ⟨⟨x, y, hx, rfl⟩, hb2⟩; have HX := lh hx; have HB2 := lh hb2; clear hx hb2))
   exact ⟨rfl, gr_trans (gr_below HBW.out _) (gr_below HB2.out _), .inr ⟨HDD.out, _, _, HX.out, rfl, HR.out.keep HB2.out⟩⟩
theorem end_any (E : Env) (w : World) (i d b : Nat) (u : FrameMode) (h : Rd E w i (d + 1)) (hb : w.heap[b]? = some (.cells #[pr E] 42 (0, 0))) :
 CallsD Tryz.prog 72 #[.pointer (some ⟨b, 0, none⟩)] u w fun e u' w' => u' = u ∧ (e = .returned (.tuple #[]) ∧ w' = w.setCell ⟨E.rb, 4, none⟩ (.int .i64 (d : Int))) := by
 have c0 : w.cell? ⟨b, 0, none⟩ = some (pr E) := blk_cell hb 0
 obtain ⟨⟨r0, r1, r2, r3, r4⟩, ⟨z0, z1, z2, z3, z4⟩⟩ := h.cells
 have hd := h.d60
 unfold pr at c0
 clear h hb
 go_enter_d Tryz.func72, Tryz.ntmps72
 go_wp2_with fail
 go_end0
 exact ⟨rfl, rfl⟩
theorem pathL_at (P : Src) (last f : Nat) (s : ByteArray) (i : Nat) : pathL P last (f + 1) s i = if P.K i = 3 ∧ last ≠ 4 then .ok (s ++ P.T i, 3) (i + 1) else if P.K i ≠ 4 then failD P 4 i else if isD P s_dot (i + 1) = true then pathL P last f (s ++ P.T i ++ s_dot) (i + 2) else if last = 3 then failD P 4 (i + 1) else .ok (s ++ P.T i, 4) (i + 1) := rfl
def posOf (w : World) (b : Nat) : Nat := match w.cell? ⟨b, 1, none⟩ with
 | some (.int _ x) => x.toNat
 | _ => 0
theorem Rd.pos {E : Env} {w : World} {i d : Nat} (h : Rd E w i d) : posOf w E.rb = i := by
 unfold posOf
 rw [h.cells.1.2.1]
 rfl
theorem Rd.tsize {E : Env} {w : World} {i d : Nat} (h : Rd E w i d) (j : Nat) : (E.P.T j).size ≤ 4000 := by
 by_cases hj : j < E.P.toks.length
 · rw [(Src.at' hj).2.2.1]
   exact (h.ok.tok _ (List.getElem_mem hj)).2.2.2
 · rw [(Src.out' hj).2.2.1]
   decide
theorem path_any (E : Env) (w : World) (i d last : Nat) (h : Rd E w i d) (hl : last ≤ 10) : Calls Tryz.prog 75 #[pr E, .int .i64 (last : Int)] w (PPost E d w (pathD E.P last i) fun x v _ => v = .tuple #[.string x.1, .int .i64 (x.2 : Int)]) := by
 obtain ⟨T, hT⟩ : ∃ T, T = pathD E.P last i := ⟨_, rfl⟩
 rw [← hT]
 unfold pathD at hT
 have HT := lh hT
 have H := lh h
 have hN := h.ok.len
 have hi9 := h.le
 have HNOW : Hid (∀ w1 j, Rd E w1 j d → Calls Tryz.prog 35 #[pr E] w1 fun e w' => e = .returned (tkVal E.P j) ∧ Below w1.heap.size w1 w') := lh (fun w1 j h1 => now_any E w1 j d h1)
 have HFA : Hid (∀ w1 j, Rd E w1 j d → Calls Tryz.prog 36 #[pr E, .int .i64 4] w1 fun e w' => (∃ x y, (failD E.P 4 j : Res (ByteArray × Nat)) = .bad x y ∧ e = .panicked (slipV x y)) ∧ Below w1.heap.size w1 w') := lh (fun w1 j h1 => (fail_any E w1 j d 4 h1).mono (by
  rintro e w' ⟨⟨x, y, hx, he⟩, hb⟩
  refine ⟨⟨x, y, ?_, he⟩, hb⟩
  unfold failD at hx ⊢
  split at hx
  · rename_i hc; rw [if_pos hc]; cases hx; rfl
  · rename_i hc; rw [if_neg hc]; cases hx; rfl))
 have HIS : Hid (∀ w1 j, Rd E w1 j d → Calls Tryz.prog 73 #[pr E, .string ⟨#[46]⟩] w1 fun e w' => e = .returned (.bool (isD E.P s_dot j)) ∧ Below w1.heap.size w1 w') := lh (fun w1 j h1 => is_any E w1 j d s_dot h1)
 unfold tkVal at HNOW
 unfold pr at HNOW HFA HIS ⊢
 obtain ⟨N, hNN⟩ : ∃ N, N = E.P.toks.length := ⟨_, rfl⟩
 rw [← hNN] at HT hN hi9
 have HNN := lh hNN
 clear h hT hNN
 go_enter Tryz.func75, Tryz.ntmps75
 go_wp2_with fail
 go_loopw [6, 7] (fun s _ wr => ∃ (x : ByteArray) (j f : Nat), s = .string x ∧ T = pathL E.P last f x j ∧ N < j + f ∧ x.size ≤ 5000 * j ∧ Rd E wr j d ∧ w.grownBy wr (some E.rb)) (fun _ _ wr => N - posOf wr E.rb)
 case atStart => exact ⟨⟨#[]⟩, i, N + 1, rfl, HT.out, by omega, by show 0 ≤ _; omega, H.out, World.grownBy.refl _ _⟩
 case round =>
  obtain ⟨x, j, f, rfl, hT, hf, hx, hr, hg⟩ := hrel
  obtain ⟨wo, rfl⟩ : ∃ wo : World, wo = wr := ⟨_, rfl⟩
  have hjN : j ≤ N := by rw [HNN.out]; exact hr.le
  obtain ⟨f, rfl⟩ : ∃ f', f = f' + 1 := ⟨f - 1, by omega⟩
  have HR := lh hr
  have HG := lh hg
  have HTJ := lh hT
  have hts := hr.tsize j
  clear hr hg hT
  go_upto_region 3 with (first | (go_at_call 35; refine (HNOW.out wo j HR.out).mono ?_; rintro e w1 ⟨rfl, hb1⟩; have HB1 := lh hb1; clear hb1))
  obtain ⟨W, hW⟩ : ∃ W, W = w1.alloc (.cells #[.int .i64 (E.P.K j), .int .i64 (E.P.A j : Int), .string (E.P.T j), .int .i64 (E.P.N j : Int)] 59) := ⟨_, rfl⟩
  obtain ⟨hbW, hrW⟩ := tok_box hW HB1.out
  rw [← hW]
  obtain ⟨c0, c1, c2, c3⟩ := tok_cells hrW
  have hR := HR.out.keep hbW
  obtain ⟨⟨r0, r1, r2, r3, r4⟩, ⟨z0, z1, z2, z3, z4⟩⟩ := hR.cells
  have HRW := lh hR
  have HBW := lh hbW
  have HGW := lh (gr_trans HG.out (gr_below hbW _))
  have HWR := lh hrW
  have n1 : ¬ (w1.heap.size = E.rb) := by have := HR.out.ltr; have := HB1.out.size; omega
  have n2 : ¬ (E.rb = w1.heap.size) := fun e => n1 e.symm
  have q1 : ∀ w' : World, (Op.stringOp .add x (E.P.T j)).run Tryz.prog w' = .ok (.string (x ++ E.P.T j)) w' := fun w' => run_string_add_sum w' _ _ (by omega)
  clear hW hbW hrW hR
  by_cases h3 : E.P.K j = 3 ∧ last ≠ 4
  · have e1 : (E.P.K j == 3) = true := by simp [h3.1]
    have e2 : ((last : Int) != 4) = true := by have := h3.2; simp; omega
    have H3 := lh h3
    have hlt : j < N := by rw [HNN.out]; exact K_lt (by rw [h3.1]; decide)
    clear h3
    go_upto_region 5 with fail
    obtain ⟨V, hV⟩ : ∃ V, V = W.setCell ⟨E.rb, 1, none⟩ (.int .i64 ((j : Int) + 1)) := ⟨_, rfl⟩
    rw [← hV]
    have hrV : V.heap[w1.heap.size]? = some (.cells #[.int .i64 (E.P.K j), .int .i64 (E.P.A j : Int), .string (E.P.T j), .int .i64 (E.P.N j : Int)] 59 (0, 0)) := by rw [hV]; exact blk_set_ne HWR.out n1 1 _
    have hRV : Rd E V (j + 1) d := by rw [hV]; exact HRW.out.seti (j := j + 1) (by rw [← HNN.out]; omega)
    have HRV := lh hRV
    have HGV : Hid (w.grownBy V (some E.rb)) := lh (gr_trans HGW.out (by rw [hV]; exact gr_set _ _ _ _))
    clear c0 c1 c2 c3 r0 r1 r2 r3 r4 z0 z1 z2 z3 z4
    obtain ⟨c0, c1, c2, c3⟩ := tok_cells hrV
    clear hV hrV hRV
    go_quiet (fail)
    go_wp2_with fail
    go_ret2
    have ht := HTJ.out
    rw [pathL_at, if_pos H3.out] at ht
    exact PPost.ok (gr_trans HGV.out (gr_drew _ _ _)) ht (by rw [H3.out.1]; rfl) (HRV.out.keep (below_drewN (Below.refl _ _) _))
  · by_cases h4 : E.P.K j = 4
    · have e4 : (E.P.K j != 4) = false := by simp [h4]
      have e3 : (E.P.K j == 3) = false := by simp [h4]
      have H3 := lh h3
      have H4 := lh h4
      have hlt : j < N := by rw [HNN.out]; exact K_lt (by rw [h4]; decide)
      have q2 : ∀ w' : World, (Op.stringOp .add (x ++ E.P.T j) ⟨#[46]⟩).run Tryz.prog w' = .ok (.string (x ++ E.P.T j ++ s_dot)) w' := fun w' => run_string_add_sum w' _ _ (by rw [ByteArray.size_append]; show x.size + (E.P.T j).size + 1 ≤ _; omega)
      clear h3 h4
      go_upto_region 9 with fail
      obtain ⟨V, hV⟩ : ∃ V, V = W.setCell ⟨E.rb, 1, none⟩ (.int .i64 ((j : Int) + 1)) := ⟨_, rfl⟩
      rw [← hV]
      have hrV : V.heap[w1.heap.size]? = some (.cells #[.int .i64 (E.P.K j), .int .i64 (E.P.A j : Int), .string (E.P.T j), .int .i64 (E.P.N j : Int)] 59 (0, 0)) := by rw [hV]; exact blk_set_ne HWR.out n1 1 _
      have hRV : Rd E V (j + 1) d := by rw [hV]; exact HRW.out.seti (j := j + 1) (by rw [← HNN.out]; omega)
      have HRV := lh hRV
      have HGV : Hid (w.grownBy V (some E.rb)) := lh (gr_trans HGW.out (by rw [hV]; exact gr_set _ _ _ _))
      have HVR := lh hrV
      clear c0 c1 c2 c3 r0 r1 r2 r3 r4 z0 z1 z2 z3 z4
      obtain ⟨c0, c1, c2, c3⟩ := tok_cells hrV
      clear hV hrV hRV
      have HIJ := lh (HIS.out V (j + 1) HRV.out)
      obtain ⟨b, hb⟩ : ∃ b, b = isD E.P s_dot (j + 1) := ⟨_, rfl⟩
      rw [← hb] at HIJ
      have HB := lh hb
      have hbl : b = true → j + 1 < N := fun e => by rw [HNN.out]; exact isD_lt (by rw [← hb]; exact e)
      have HBL := lh hbl
      clear hb hbl
      cases b with
      | true =>
       have hl2 := HBL.out rfl
       go_upto_region 14 with (first | (go_at_call 73; refine HIJ.out.mono ?_; rintro e w2 ⟨rfl, hb2⟩; have HB2 := lh hb2; obtain ⟨⟨r0, r1, r2, r3, r4⟩, ⟨z0, z1, z2, z3, z4⟩⟩ := (HRV.out.keep hb2).cells; clear hb2))
       clear c0 c1 c2 c3
       go_wp2_with fail
       go_roundw
       case rel =>
        have ht := HTJ.out
        rw [pathL_at, if_neg H3.out, if_neg (by rw [H4.out]; decide), if_pos (by rw [← HB.out])] at ht
        refine ⟨x ++ E.P.T j ++ s_dot, j + 2, f, rfl, ht, by omega, ?_, ?_, ?_⟩
        · rw [ByteArray.size_append, ByteArray.size_append]; show x.size + (E.P.T j).size + 1 ≤ _; omega
        · have h := (HRV.out.keep HB2.out).seti (j := j + 2) (by rw [← HNN.out]; omega)
          exact h
        · exact gr_trans HGV.out (gr_trans (gr_below HB2.out _) (gr_set _ _ _ _))
       case measure =>
        have h1 := HR.out.pos
        have h2 := ((HRV.out.keep HB2.out).seti (j := j + 2) (by rw [← HNN.out]; omega)).pos
        have h3 : (((j + 2 : Nat) : Int)) = (j : Int) + 1 + 1 := by omega
        rw [h3] at h2
        rw [h1, h2]
        omega
      | false =>
       by_cases h5 : last = 3
       · have e5 : ((last : Int) == 3) = true := by simp; omega
         have H5 := lh h5
         clear h5
         go_wp2_with (first | (go_at_call 73; refine HIJ.out.mono ?_; rintro e w2 ⟨rfl, hb2⟩; have HB2 := lh hb2; clear hb2) | (go_at_call 36; refine (HFA.out w2 (j + 1) (HRV.out.keep HB2.out)).mono ?_; rintro e w3 ⟨⟨a, b, hx, rfl⟩, hb3⟩; have HX := lh hx; have HB3 := lh hb3; clear hx hb3))
         have ht := HTJ.out
         rw [pathL_at, if_neg H3.out, if_neg (by rw [H4.out]; decide), if_neg (by rw [← HB.out]; decide), if_pos H5.out, HX.out] at ht
         exact ⟨rfl, PPost.bad (gr_trans HGV.out (gr_trans (gr_below HB2.out _) (gr_below HB3.out _))) ht ((HRV.out.keep HB2.out).keep HB3.out)⟩
       · have e5 : ((last : Int) == 3) = false := by simp; omega
         have H5 := lh h5
         clear h5
         go_upto_region 13 with (first | (go_at_call 73; refine HIJ.out.mono ?_; rintro e w2 ⟨rfl, hb2⟩; have HB2 := lh hb2; obtain ⟨k0, k1, k2, k3⟩ := tok_cells (blk_below HVR.out hb2 (lt_of_block HVR.out)); clear hb2))
         clear c0 c1 c2 c3
         go_quiet (fail)
         go_wp2_with fail
         go_ret2
         have ht := HTJ.out
         rw [pathL_at, if_neg H3.out, if_neg (by rw [H4.out]; decide), if_neg (by rw [← HB.out]; decide), if_neg H5.out] at ht
         exact PPost.ok (gr_trans HGV.out (gr_trans (gr_below HB2.out _) (gr_drew _ _ _))) ht (by rw [H4.out]; rfl) ((HRV.out.keep HB2.out).keep (below_drewN (Below.refl _ _) _))
    · have e4 : (E.P.K j != 4) = true := by simp [h4]
      have H3 := lh h3
      have H4 := lh h4
      by_cases h33 : E.P.K j = 3
      · have e3 : (E.P.K j == 3) = true := by simp [h33]
        have e5 : ((last : Int) != 4) = false := by
         by_cases hl4 : last = 4
         · simp; omega
         · exact absurd ⟨h33, hl4⟩ h3
        clear h3 h4 h33
        go_wp2_with (first | (go_at_call 36; refine (HFA.out W j HRW.out).mono ?_; rintro e w2 ⟨⟨a, b, hx, rfl⟩, hb2⟩; have HX := lh hx; have HB2 := lh hb2; clear hx hb2))
        have ht := HTJ.out
        rw [pathL_at, if_neg H3.out, if_pos H4.out, HX.out] at ht
        exact ⟨rfl, PPost.bad (gr_trans HGW.out (gr_below HB2.out _)) ht (HRW.out.keep HB2.out)⟩
      · have e3 : (E.P.K j == 3) = false := by simp [h33]
        clear h3 h4 h33
        go_wp2_with (first | (go_at_call 36; refine (HFA.out W j HRW.out).mono ?_; rintro e w2 ⟨⟨a, b, hx, rfl⟩, hb2⟩; have HX := lh hx; have HB2 := lh hb2; clear hx hb2))
        have ht := HTJ.out
        rw [pathL_at, if_neg H3.out, if_pos H4.out, HX.out] at ht
        exact ⟨rfl, PPost.bad (gr_trans HGW.out (gr_below HB2.out _)) ht (HRW.out.keep HB2.out)⟩
theorem hasB_hit {l w : ByteArray} {i : Nat} (h : hitB l w i = true) : hasB l w = true := by
 unfold hasB
 rw [List.any_eq_true]
 refine ⟨i, List.mem_range.2 ?_, h⟩
 unfold hitB at h
 simp at h
 omega
theorem hasB_none {l w : ByteArray} {n : Nat} (h : ∀ i, i < n → hitB l w i = false) (hn : ¬ n + w.size + 2 ≤ l.size) : hasB l w = false := by
 unfold hasB
 rw [List.any_eq_false]
 intro i _ hi
 by_cases hin : i < n
 · rw [h i hin] at hi; cases hi
 · unfold hitB at hi
   simp at hi
   omega
theorem str_eqB (a b : ByteArray) : (a.toList == b.toList) = decide (a = b) := by
 rw [Bool.eq_iff_iff]
 simp only [beq_iff_eq, decide_eq_true_eq]
 exact ba_eq
theorem has_any (l x : ByteArray) (w : World) (hl : l.size ≤ 400) (hx : x.size ≤ 4000) : Calls Tryz.prog 62 #[.string l, .string x] w fun e w' => e = .returned (.bool (hasB l x)) ∧ w' = w := by
 obtain ⟨b, hb⟩ : ∃ b, b = hasB l x := ⟨_, rfl⟩
 rw [← hb]
 have HB := lh hb
 have q1 : ∀ w' : World, (Op.stringOp .add ⟨#[32]⟩ x).run Tryz.prog w' = .ok (.string (⟨#[32]⟩ ++ x)) w' := fun w' => run_string_add_sum w' _ _ (by show 1 + x.size ≤ _; omega)
 have q2 : ∀ w' : World, (Op.stringOp .add (⟨#[32]⟩ ++ x) ⟨#[32]⟩).run Tryz.prog w' = .ok (.string (⟨#[32]⟩ ++ x ++ ⟨#[32]⟩)) w' := fun w' => run_string_add_sum w' _ _ (by rw [ByteArray.size_append]; show 1 + x.size + 1 ≤ _; omega)
 clear hb
 go_enter Tryz.func62, Tryz.ntmps62
 go_wp2_with fail
 go_loopw [5] (fun i wr => ∃ j : Nat, i = .int .i64 (j : Int) ∧ j ≤ l.size ∧ (∀ k, k < j → hitB l x k = false) ∧ wr = w) (fun i _ => l.size - (intOf i).toNat)
 case atStart => exact ⟨0, rfl, Nat.zero_le _, fun k hk => by omega, rfl⟩
 case round =>
  obtain ⟨j, rfl, hj, hno, rfl⟩ := hrel
  have HNO := lh hno
  clear hno
  by_cases hlt : j + x.size + 2 ≤ l.size
  · have hd : decide ((j : Int) + (x.size : Int) + 2 ≤ (l.size : Int)) = true := by simp; omega
    have k0 : (0 : Int) ≤ (j : Int) := by omega
    have k1 : (j : Int) ≤ (j : Int) + (x.size : Int) + 2 := by omega
    have k2 : (j : Int) + (x.size : Int) + 2 ≤ (l.size : Int) := by omega
    have e0 : ((j : Int) + (x.size : Int) + 2).toNat = j + x.size + 2 := by omega
    by_cases he : l.extract j (j + x.size + 2) = ⟨#[32]⟩ ++ x ++ ⟨#[32]⟩
    · have hh : hitB l x j = true := by unfold hitB; rw [decide_eq_true hlt, decide_eq_true he]; rfl
      have hb1 : b = true := by rw [HB.out, hasB_hit hh]
      have hs : (l.extract j (j + x.size + 2)).toList = (⟨#[32]⟩ ++ x ++ ⟨#[32]⟩ : ByteArray).toList := by rw [he]
      have HB1 := lh hb1
      clear hh hb1 he
      go_wp2_with fail
      go_ret
      exact ⟨by rw [HB1.out]; first | rfl | simp, rfl⟩
    · have hh : hitB l x j = false := by unfold hitB; rw [decide_eq_false he, Bool.and_false]
      have hs : ((l.extract j (j + x.size + 2)).toList == (⟨#[32]⟩ ++ x ++ ⟨#[32]⟩ : ByteArray).toList) = false := by rw [str_eqB]; exact decide_eq_false he
      have HH := lh hh
      clear hh he
      go_wp2_with fail
      refine ⟨⟨j + 1, by go_num, by omega, fun k hk => ?_, trivial⟩, by simp only [intOf]; omega⟩
      by_cases e : k = j
      · rw [e]; exact HH.out
      · exact HNO.out k (by omega)
  · have hd : decide ((j : Int) + (x.size : Int) + 2 ≤ (l.size : Int)) = false := by simp; omega
    go_wp2_with fail
    go_ret
    exact ⟨by rw [HB.out, hasB_none HNO.out hlt]; rfl, rfl⟩
theorem box_at {w W : World} {t : Ty} {ao : Option Addr} {cap : Nat} (hW : W = w.alloc (.cells (rowOf t ao cap) 26)) : Below w.heap.size w W ∧ w.heap.size < W.heap.size ∧ W.heap[w.heap.size]? = some (.cells (rowOf t ao cap) 26 (0, 0)) := by
 rw [hW]
 exact ⟨balloc (Below.refl _ _) _, by simp, heap_alloc_new w _⟩
theorem five_cells {w : World} {b : Nat} {v0 v1 v2 v3 v4 : Value} (h : w.heap[b]? = some (.cells #[v0, v1, v2, v3, v4] 26 (0, 0))) : (w.cell? ⟨b, 0, none⟩ = some v0 ∧ w.cell? ⟨b, 1, none⟩ = some v1 ∧ w.cell? ⟨b, 2, none⟩ = some v2 ∧ w.cell? ⟨b, 3, none⟩ = some v3 ∧ w.cell? ⟨b, 4, none⟩ = some v4) ∧ (w.frozen? ⟨b, 0, none⟩ = false ∧ w.frozen? ⟨b, 1, none⟩ = false ∧ w.frozen? ⟨b, 2, none⟩ = false ∧ w.frozen? ⟨b, 3, none⟩ = false ∧ w.frozen? ⟨b, 4, none⟩ = false) :=
 ⟨⟨blk_cell h 0, blk_cell h 1, blk_cell h 2, blk_cell h 3, blk_cell h 4⟩, ⟨blk_free h 0, blk_free h 1, blk_free h 2, blk_free h 3, blk_free h 4⟩⟩
abbrev TB (W : World) (b : Nat) (p : Ty) (ao : Option Addr) (cap : Nat) : Prop := W.heap[b]? = some (.cells (rowOf p ao cap) 26 (0, 0))
abbrev set5 (W : World) (b : Nat) (p : Ty) (ao : Option Addr) (cap : Nat) : World :=
 ((((W.setCell ⟨b, 0, none⟩ (.int .i64 p.k)).setCell ⟨b, 1, none⟩ (.int .i64 p.n)).setCell ⟨b, 2, none⟩ (.string p.s)).setCell ⟨b, 3, none⟩ (.int .i64 p.q)).setCell ⟨b, 4, none⟩ (.slice ao p.args.length cap)
theorem TB.set {W : World} {b : Nat} {v0 v1 v2 v3 v4 : Value} (h : W.heap[b]? = some (.cells #[v0, v1, v2, v3, v4] 26 (0, 0))) (q : Ty) (aq : Option Addr) (cq : Nat) : TB (set5 W b q aq cq) b q aq cq :=
 blk_set (blk_set (blk_set (blk_set (blk_set h 0 _) 1 _) 2 _) 3 _) 4 _
theorem set5_ne {W : World} {b c : Nat} {o : Option Obj} {q : Ty} {aq : Option Addr} {cq : Nat} (h : W.heap[c]? = o) (hne : c ≠ b) : (set5 W b q aq cq).heap[c]? = o :=
 blk_set_ne (blk_set_ne (blk_set_ne (blk_set_ne (blk_set_ne h hne _ _) hne _ _) hne _ _) hne _ _) hne _ _
theorem below_set5 {N : Nat} {w W : World} {b : Nat} {q : Ty} {aq : Option Addr} {cq : Nat} (h : Below N w W) (hb : N ≤ b) : Below N w (set5 W b q aq cq) :=
 ((((h.setCell (p := ⟨b, 0, none⟩) hb _).setCell (p := ⟨b, 1, none⟩) hb _).setCell (p := ⟨b, 2, none⟩) hb _).setCell (p := ⟨b, 3, none⟩) hb _).setCell (p := ⟨b, 4, none⟩) hb _
theorem res_ty {fn : Func} {t : Tmp} (h : fn.results = #[.cell t 26]) {tmps : Array Value} {w : World} {b : Nat} {p : Ty} {ao : Option Addr} {cap : Nat} (ht : tmps.getD t undef = .pointer (some ⟨b, 0, none⟩)) (hb : TB w b p ao cap) :
 (results fn tmps).run Tryz.prog w = .ok (.agg (rowOf p ao cap)) w :=
 results_cell_row (h := h) _ _ b 26 _ (0, 0) _ ht hb Tryz.underlying26 rfl (by kernel_rfl)
theorem sl_nil {w : World} {D : Nat → Prop} {l : List Ty} {ao : Option Addr} {cap : Nat} (h : l = []) : SlD w D l ao cap := by rw [h]; exact ⟨Nat.zero_le _, by unfold ArgsV; trivial⟩
def zeroRow : Array Value := #[.int .i64 0, .int .i64 0, .string ⟨#[]⟩, .int .i64 0, .slice none 0 0]
structure Bt where
 t : Ty
 ao : Option Addr
 cap : Nat
def tcells : List Bt → List Value
 | [] => []
 | b :: bs => (rowOf b.t b.ao b.cap).toList ++ tcells bs
theorem tcells_len : ∀ (bs : List Bt), (tcells bs).length = bs.length * 5
 | [] => rfl
 | b :: bs => by rw [tcells, List.length_append, tcells_len bs, List.length_cons]; show 5 + _ = _; omega
theorem tcells_append : ∀ (bs cs : List Bt), tcells (bs ++ cs) = tcells bs ++ tcells cs
 | [], cs => by simp [tcells]
 | b :: bs, cs => by rw [List.cons_append, tcells, tcells, tcells_append bs cs, List.append_assoc]
theorem tcells_get : ∀ {bs : List Bt} {i j : Nat} (h : i < bs.length), j < 5 → (tcells bs)[i * 5 + j]? = (rowOf bs[i].t bs[i].ao bs[i].cap).toList[j]?
 | b :: bs, 0, j, _, hj => by rw [tcells, Nat.zero_mul, Nat.zero_add, List.getElem?_append_left (by show j < 5; exact hj)]; rfl
 | b :: bs, i + 1, j, h, hj => by
  rw [tcells, List.getElem?_append_right (by show 5 ≤ _; omega)]
  show (tcells bs)[(i + 1) * 5 + j - 5]? = _
  rw [show (i + 1) * 5 + j - 5 = i * 5 + j from by omega, tcells_get (by simpa using h) hj]
  rfl
theorem ty_one (b : Bt) : ∀ u ∈ (rowOf b.t b.ao b.cap).toList, u.oneCell' = true := by
 intro u hu
 simp [rowOf] at hu
 rcases hu with rfl | rfl | rfl | rfl | rfl <;> rfl
theorem tcells_one : ∀ (bs : List Bt), ∀ u ∈ tcells bs, u.oneCell' = true
 | b :: bs, u, hu => by
  rw [tcells, List.mem_append] at hu
  rcases hu with hu | hu
  · exact ty_one b u hu
  · exact tcells_one bs u hu
structure OwnT (B : Nat) (w : World) (D : Nat → Prop) (v : Value) (bs : List Bt) : Prop where
 own : w.ownsRow B 26 5 v bs.length (tcells bs)
 sl : ∀ b ∈ bs, SlD w D b.t.args b.ao b.cap
theorem OwnT.nil (B : Nat) (w : World) (D : Nat → Prop) : OwnT B w D (.slice none 0 0) [] := ⟨World.ownsRow_nil _ _ _ _, fun b h => by cases h⟩
theorem OwnT.read {B : Nat} {w : World} {D D' : Nat → Prop} {v : Value} {bs : List Bt} (h : OwnT B w D v bs) (hD : ∀ b, D b → D' b) (hv : ∀ b, v.ownBlock = some b → D' b) : ∃ ao cap, v = .slice ao bs.length cap ∧ SlD w D' (bs.map Bt.t) ao cap := by
 rcases h.own.2 with ⟨rfl, h0⟩ | ⟨g, cap, cur, rfl, hB, hg, hc, hm, hs, ht⟩
 · have hb : bs = [] := List.eq_nil_of_length_eq_zero h0
   subst hb
   exact ⟨none, 0, rfl, Nat.le_refl _, by unfold ArgsV; trivial⟩
 · refine ⟨_, cap, rfl, ⟨by simpa using hc, ArgsV.of fun k hk => ?_⟩⟩
   have hk' : k < bs.length := by simpa using hk
   refine ⟨g, 0, (rowOf bs[k].t bs[k].ao bs[k].cap).toList, rfl, hv g rfl, fun j hj => ?_, ?_⟩
   · have h4 := tcells_get hk' hj
     rw [← ht, List.getElem?_take, if_pos (by omega), Array.getElem?_toList] at h4
     rw [blk_cell hg, Nat.zero_add, Nat.zero_add]
     exact h4
   · rw [List.getElem_map]
     exact TyV.mk' ((h.sl _ (List.getElem_mem hk')).mono hD)
theorem info26 : (Tryz.prog.info? 26).map (fun i => (i.zero, i.size, i.bytes)) = some (some (.agg #[.int .i64 0, .int .i64 0, .string ⟨#[]⟩, .int .i64 0, .slice none 0 0]), 5, 64) := by kernel_rfl
theorem grew_none {w w' : World} {v : Value} (h : w.grownBy w' v.ownBlock) {N : Nat} (hN : N ≤ w.heap.size) (hv : ∀ g, v.ownBlock = some g → N ≤ g) : Below N w w' :=
 ⟨h.os, h.tape, h.output, h.size, fun k hk => h.block k (Nat.lt_of_lt_of_le hk hN) (fun e => by have := hv k e.symm; omega)⟩
theorem gr_on {w W W' : World} {r r' : Option Nat} (h : w.grownBy W r) (hg : W.grownBy W' r') (hr : r' = r ∨ ∀ g, r' = some g → w.heap.size ≤ g) : w.grownBy W' r :=
 ⟨hg.os.trans h.os, hg.tape.trans h.tape, hg.output.trans h.output, Nat.le_trans h.size hg.size, fun k hk hne => (hg.block k (Nat.lt_of_lt_of_le hk h.size) (fun e => by
  rcases hr with rfl | hr
  · exact hne e
  · have := hr k e.symm; omega)).trans (h.block k hk hne)⟩
theorem node_any (k a : Int) (ao : Option Addr) (n cap : Nat) (w : World) : Calls Tryz.prog 28 #[.int .i64 k, .int .i64 a, .slice ao n cap] w fun e w' => e = .returned (.agg #[.int .i64 k, .int .i64 a, .string ⟨#[]⟩, .int .i64 0, .slice ao n cap]) ∧ Below w.heap.size w w' := by
 obtain ⟨W, hW⟩ : ∃ W, W = w.alloc (.cells zeroRow 26) := ⟨_, rfl⟩
 have hbW : Below w.heap.size w W := by rw [hW]; exact balloc (Below.refl _ _) _
 have hrW : W.heap[w.heap.size]? = some (.cells zeroRow 26 (0, 0)) := by rw [hW]; exact heap_alloc_new w _
 have HBW := lh hbW
 have HRW := lh hrW
 unfold zeroRow at hW hrW
 obtain ⟨⟨c0, c1, c2, c3, c4⟩, ⟨z0, z1, z2, z3, z4⟩⟩ := five_cells hrW
 clear hbW hrW
 go_enter Tryz.func28, Tryz.ntmps28
 go_upto_region 1 with fail
 rw [← hW]
 clear hW
 go_wp2_with fail
 have hr := HRW.out
 unfold zeroRow at hr
 refine bodyPost_ret (v := .agg #[.int .i64 k, .int .i64 a, .string ⟨#[]⟩, .int .i64 0, .slice ao n cap]) (results_cell_row rfl _ _ w.heap.size 26 _ (0, 0) _ rfl (blk_set (blk_set (blk_set (blk_set (blk_set hr 0 (.int .i64 k)) 1 (.int .i64 a)) 2 (.string ⟨#[]⟩)) 3 (.int .i64 0)) 4 (.slice ao n cap)) Tryz.underlying26 rfl (by kernel_rfl)) rfl ⟨rfl, ?_⟩
 exact ((((HBW.out.setCell (p := ⟨w.heap.size, 0, none⟩) (Nat.le_refl _) _).setCell (p := ⟨w.heap.size, 1, none⟩) (Nat.le_refl _) _).setCell (p := ⟨w.heap.size, 2, none⟩) (Nat.le_refl _) _).setCell (p := ⟨w.heap.size, 3, none⟩) (Nat.le_refl _) _).setCell (p := ⟨w.heap.size, 4, none⟩) (Nat.le_refl _) _
theorem Rd.word {E : Env} {w : World} {i d : Nat} (h : Rd E w i d) {j : Nat} (hk : E.P.K j = 6) : E.P.T j ∈ wordsA := by
 have hj := K_lt (P := E.P) (i := j) (by rw [hk]; decide)
 rw [(Src.at' hj).2.2.1]
 refine h.ok.words _ (List.getElem_mem hj) ?_
 have := (Src.at' hj).1
 omega
theorem Rd.sign {E : Env} {w : World} {i d : Nat} (h : Rd E w i d) {j : Nat} (hk : E.P.K j = 7) : E.P.T j ∈ signsA := by
 have hj := K_lt (P := E.P) (i := j) (by rw [hk]; decide)
 rw [(Src.at' hj).2.2.1]
 refine h.ok.signs _ (List.getElem_mem hj) ?_
 have := (Src.at' hj).1
 omega
theorem one_any (P : Src) (l : List ByteArray) (i : Nat) : oneD P l i = (decide (P.K i = 6 ∨ P.K i = 7) && anyB l (P.T i)) := rfl
theorem begins_any (E : Env) (w : World) (i d : Nat) (h : Rd E w i d) : Calls Tryz.prog 130 #[pr E] w fun e w' => e = .returned (.bool (beginsB E.P i)) ∧ Below w.heap.size w w' := by
 have HNOW := lh (now_any E w i d h)
 have H := lh h
 have hts := h.tsize i
 obtain ⟨b, hb⟩ : ∃ b, b = beginsB E.P i := ⟨_, rfl⟩
 rw [← hb]
 have HB := lh hb
 have H7 : Hid (∀ w' : World, Calls Tryz.prog 62 #[.string t_be7, .string (E.P.T i)] w' fun e w2 => e = .returned (.bool (hasB t_be7 (E.P.T i))) ∧ w2 = w') := lh (fun w' => has_any t_be7 (E.P.T i) w' (by decide) hts)
 have H6 : Hid (∀ w' : World, Calls Tryz.prog 62 #[.string t_be6, .string (E.P.T i)] w' fun e w2 => e = .returned (.bool (hasB t_be6 (E.P.T i))) ∧ w2 = w') := lh (fun w' => has_any t_be6 (E.P.T i) w' (by decide) hts)
 unfold tkVal at HNOW
 unfold pr at HNOW ⊢
 clear h hb hts
 go_enter Tryz.func130, Tryz.ntmps130
 go_upto_region 2 with (first | (go_at_call 35; refine HNOW.out.mono ?_; rintro e w1 ⟨rfl, hb1⟩; have HB1 := lh hb1; clear hb1))
 obtain ⟨W, hW⟩ : ∃ W, W = w1.alloc (.cells #[.int .i64 (E.P.K i), .int .i64 (E.P.A i : Int), .string (E.P.T i), .int .i64 (E.P.N i : Int)] 59) := ⟨_, rfl⟩
 obtain ⟨hbW, hrW⟩ := tok_box hW HB1.out
 rw [← hW]
 obtain ⟨c0, c1, c2, c3⟩ := tok_cells hrW
 have HBW := lh hbW
 clear hW hbW hrW
 by_cases h1 : E.P.K i = 1
 · have e1 : (E.P.K i == 1) = true := by simp [h1]
   have hb1 : b = true := by rw [HB.out]; unfold beginsB; simp [h1]
   have HB1 := lh hb1
   clear h1 hb1
   go_wp2_with fail
   go_ret
   exact ⟨by rw [HB1.out]; rfl, HBW.out⟩
 have e1 : (E.P.K i == 1) = false := by simp [h1]
 by_cases h2 : E.P.K i = 2
 · have e2 : (E.P.K i == 2) = true := by simp [h2]
   have hb1 : b = true := by rw [HB.out]; unfold beginsB; simp [h2]
   have HB1 := lh hb1
   clear h1 h2 hb1
   go_wp2_with fail
   go_ret
   exact ⟨by rw [HB1.out]; rfl, HBW.out⟩
 have e2 : (E.P.K i == 2) = false := by simp [h2]
 by_cases h3 : E.P.K i = 3
 · have e3 : (E.P.K i == 3) = true := by simp [h3]
   have hb1 : b = true := by rw [HB.out]; unfold beginsB; simp [h3]
   have HB1 := lh hb1
   clear h1 h2 h3 hb1
   go_wp2_with fail
   go_ret
   exact ⟨by rw [HB1.out]; rfl, HBW.out⟩
 have e3 : (E.P.K i == 3) = false := by simp [h3]
 by_cases h4 : E.P.K i = 4
 · have e4 : (E.P.K i == 4) = true := by simp [h4]
   have hb1 : b = true := by rw [HB.out]; unfold beginsB; simp [h4]
   have HB1 := lh hb1
   clear h1 h2 h3 h4 hb1
   go_wp2_with fail
   go_ret
   exact ⟨by rw [HB1.out]; rfl, HBW.out⟩
 have e4 : (E.P.K i == 4) = false := by simp [h4]
 by_cases h7 : E.P.K i = 7
 · have e7 : (E.P.K i == 7) = true := by simp [h7]
   have hb1 : b = hasB t_be7 (E.P.T i) := by rw [HB.out, has_be7 _ (H.out.sign h7)]; unfold beginsB; rw [one_any, h7]; rfl
   have HB1 := lh hb1
   clear h1 h2 h3 h4 h7 hb1
   go_wp2_with (first | (go_at_call 62; refine (H7.out W).mono ?_; rintro e w2 ⟨rfl, hw2⟩; subst hw2))
   go_ret
   exact ⟨by rw [HB1.out]; rfl, HBW.out⟩
 have e7 : (E.P.K i == 7) = false := by simp [h7]
 by_cases h6 : E.P.K i = 6
 · have e6 : (E.P.K i == 6) = true := by simp [h6]
   have hb1 : b = hasB t_be6 (E.P.T i) := by rw [HB.out, has_be6 _ (H.out.word h6)]; unfold beginsB; rw [one_any, h6]; rfl
   have HB1 := lh hb1
   clear h1 h2 h3 h4 h7 h6 hb1
   go_wp2_with (first | (go_at_call 62; refine (H6.out W).mono ?_; rintro e w2 ⟨rfl, hw2⟩; subst hw2))
   go_ret
   exact ⟨by rw [HB1.out]; rfl, HBW.out⟩
 have e6 : (E.P.K i == 6) = false := by simp [h6]
 have hb1 : b = false := by
  rw [HB.out]; unfold beginsB; rw [one_any, decide_eq_false (show ¬ (1 ≤ E.P.K i ∧ E.P.K i ≤ 4) by omega), decide_eq_false (show ¬ (E.P.K i = 6 ∨ E.P.K i = 7) by omega)]; rfl
 have HB1 := lh hb1
 clear h1 h2 h3 h4 h7 h6 hb1
 go_wp2_with fail
 go_ret
 exact ⟨by rw [HB1.out]; rfl, HBW.out⟩
theorem begun_any (E : Env) (w : World) (i d : Nat) (h : Rd E w i d) : Calls Tryz.prog 160 #[pr E] w fun e w' => e = .returned (.bool (begunB E.P i)) ∧ Below w.heap.size w w' := by
 have HNOW := lh (now_any E w i d h)
 have H := lh h
 have hts := h.tsize i
 obtain ⟨b, hb⟩ : ∃ b, b = begunB E.P i := ⟨_, rfl⟩
 rw [← hb]
 have HB := lh hb
 have H7 : Hid (∀ w' : World, Calls Tryz.prog 62 #[.string t_bp7, .string (E.P.T i)] w' fun e w2 => e = .returned (.bool (hasB t_bp7 (E.P.T i))) ∧ w2 = w') := lh (fun w' => has_any t_bp7 (E.P.T i) w' (by decide) hts)
 have H6 : Hid (∀ w' : World, Calls Tryz.prog 62 #[.string t_bp6, .string (E.P.T i)] w' fun e w2 => e = .returned (.bool (hasB t_bp6 (E.P.T i))) ∧ w2 = w') := lh (fun w' => has_any t_bp6 (E.P.T i) w' (by decide) hts)
 unfold tkVal at HNOW
 unfold pr at HNOW ⊢
 clear h hb hts
 go_enter Tryz.func160, Tryz.ntmps160
 go_upto_region 2 with (first | (go_at_call 35; refine HNOW.out.mono ?_; rintro e w1 ⟨rfl, hb1⟩; have HB1 := lh hb1; clear hb1))
 obtain ⟨W, hW⟩ : ∃ W, W = w1.alloc (.cells #[.int .i64 (E.P.K i), .int .i64 (E.P.A i : Int), .string (E.P.T i), .int .i64 (E.P.N i : Int)] 59) := ⟨_, rfl⟩
 obtain ⟨hbW, hrW⟩ := tok_box hW HB1.out
 rw [← hW]
 obtain ⟨c0, c1, c2, c3⟩ := tok_cells hrW
 have HBW := lh hbW
 clear hW hbW hrW
 by_cases h1 : E.P.K i = 1
 · have e1 : (E.P.K i == 1) = true := by simp [h1]
   have hb1 : b = true := by rw [HB.out]; unfold begunB; simp [h1]
   have HB1 := lh hb1
   clear h1 hb1
   go_wp2_with fail
   go_ret
   exact ⟨by rw [HB1.out]; rfl, HBW.out⟩
 have e1 : (E.P.K i == 1) = false := by simp [h1]
 by_cases h2 : E.P.K i = 2
 · have e2 : (E.P.K i == 2) = true := by simp [h2]
   have hb1 : b = true := by rw [HB.out]; unfold begunB; simp [h2]
   have HB1 := lh hb1
   clear h1 h2 hb1
   go_wp2_with fail
   go_ret
   exact ⟨by rw [HB1.out]; rfl, HBW.out⟩
 have e2 : (E.P.K i == 2) = false := by simp [h2]
 by_cases h3 : E.P.K i = 3
 · have e3 : (E.P.K i == 3) = true := by simp [h3]
   have hb1 : b = true := by rw [HB.out]; unfold begunB; simp [h3]
   have HB1 := lh hb1
   clear h1 h2 h3 hb1
   go_wp2_with fail
   go_ret
   exact ⟨by rw [HB1.out]; rfl, HBW.out⟩
 have e3 : (E.P.K i == 3) = false := by simp [h3]
 by_cases h4 : E.P.K i = 4
 · have e4 : (E.P.K i == 4) = true := by simp [h4]
   have hb1 : b = true := by rw [HB.out]; unfold begunB; simp [h4]
   have HB1 := lh hb1
   clear h1 h2 h3 h4 hb1
   go_wp2_with fail
   go_ret
   exact ⟨by rw [HB1.out]; rfl, HBW.out⟩
 have e4 : (E.P.K i == 4) = false := by simp [h4]
 by_cases h7 : E.P.K i = 7
 · have e7 : (E.P.K i == 7) = true := by simp [h7]
   have hb1 : b = hasB t_bp7 (E.P.T i) := by rw [HB.out, has_bp7 _ (H.out.sign h7)]; unfold begunB; rw [one_any, h7]; rfl
   have HB1 := lh hb1
   clear h1 h2 h3 h4 h7 hb1
   go_wp2_with (first | (go_at_call 62; refine (H7.out W).mono ?_; rintro e w2 ⟨rfl, hw2⟩; subst hw2))
   go_ret
   exact ⟨by rw [HB1.out]; rfl, HBW.out⟩
 have e7 : (E.P.K i == 7) = false := by simp [h7]
 by_cases h6 : E.P.K i = 6
 · have e6 : (E.P.K i == 6) = true := by simp [h6]
   have hb1 : b = hasB t_bp6 (E.P.T i) := by rw [HB.out, has_bp6 _ (H.out.word h6)]; unfold begunB; rw [one_any, h6]; rfl
   have HB1 := lh hb1
   clear h1 h2 h3 h4 h7 h6 hb1
   go_wp2_with (first | (go_at_call 62; refine (H6.out W).mono ?_; rintro e w2 ⟨rfl, hw2⟩; subst hw2))
   go_ret
   exact ⟨by rw [HB1.out]; rfl, HBW.out⟩
 have e6 : (E.P.K i == 6) = false := by simp [h6]
 have hb1 : b = false := by
  rw [HB.out]; unfold begunB; rw [one_any, decide_eq_false (show ¬ (1 ≤ E.P.K i ∧ E.P.K i ≤ 4) by omega), decide_eq_false (show ¬ (E.P.K i = 6 ∨ E.P.K i = 7) by omega)]; rfl
 have HB1 := lh hb1
 clear h1 h2 h3 h4 h7 h6 hb1
 go_wp2_with fail
 go_ret
 exact ⟨by rw [HB1.out]; rfl, HBW.out⟩
theorem oneD_lt {P : Src} {l : List ByteArray} {i : Nat} (h : oneD P l i = true) : i < P.toks.length := by
 unfold oneD at h
 refine K_lt (P := P) ?_
 simp only [Bool.and_eq_true, decide_eq_true_eq] at h
 have := h.1
 omega
theorem sign_any (E : Env) (w : World) (i d j : Nat) (h : Rd E w i d) (hj : j < 7) : Calls Tryz.prog 79 #[pr E, .int .i64 (j : Int)] w fun e w' => e = .returned (.tuple #[.string (E.P.T i), .bool (oneD E.P (lvL (7 - j)) i)]) ∧ Rd E w' (if oneD E.P (lvL (7 - j)) i = true then i + 1 else i) d ∧ w.grownBy w' (some E.rb) := by
 have HNOW := lh (now_any E w i d h)
 have H := lh h
 have hts := h.tsize i
 have hi9 : i ≤ 100000 := Nat.le_trans h.le h.ok.len
 obtain ⟨b, hb⟩ : ∃ b, b = oneD E.P (lvL (7 - j)) i := ⟨_, rfl⟩
 have hbl : b = true → i < E.P.toks.length := fun e => oneD_lt (by rw [← hb]; exact e)
 rw [← hb]
 have HB := lh hb
 have HBL := lh hbl
 have HHAS : Hid (∀ w' : World, Calls Tryz.prog 62 #[.string (lvT j), .string (E.P.T i)] w' fun e w2 => e = .returned (.bool (hasB (lvT j) (E.P.T i))) ∧ w2 = w') := lh (fun w' => has_any (lvT j) (E.P.T i) w' (lv_size j) hts)
 unfold tkVal at HNOW
 unfold pr at HNOW ⊢
 clear h hb hts hbl
 go_enter Tryz.func79, Tryz.ntmps79
 go_upto_region 2 with (first | (go_at_call 35; refine HNOW.out.mono ?_; rintro e w1 ⟨rfl, hb1⟩; have HB1 := lh hb1; clear hb1))
 obtain ⟨W, hW⟩ : ∃ W, W = w1.alloc (.cells #[.int .i64 (E.P.K i), .int .i64 (E.P.A i : Int), .string (E.P.T i), .int .i64 (E.P.N i : Int)] 59) := ⟨_, rfl⟩
 obtain ⟨hbW, hrW⟩ := tok_box hW HB1.out
 rw [← hW]
 obtain ⟨c0, c1, c2, c3⟩ := tok_cells hrW
 have hR := H.out.keep hbW
 have HR := lh hR
 have HBW := lh hbW
 have HWR := lh hrW
 have HW1 := lh HB1.out.size
 have l0 := (hR.gl.1 j hj).1
 have k0 : (0 : Int) ≤ (j : Int) := by omega
 have k1 : (j : Int) < 7 := by omega
 have n1 : ¬ (w1.heap.size = E.rb) := by have := H.out.ltr; have := HW1.out; omega
 have n2 : ¬ (E.rb = w1.heap.size) := fun e => n1 e.symm
 clear hW hbW hrW hR
 by_cases hk : E.P.K i = 6 ∨ E.P.K i = 7
 · have hb1 : b = hasB (lvT j) (E.P.T i) := by
    rw [HB.out, one_any, decide_eq_true hk, Bool.true_and]
    rcases hk with hk | hk
    · exact (has_lv hj _ (List.mem_append_left _ (H.out.word hk))).symm
    · exact (has_lv hj _ (List.mem_append_right _ (H.out.sign hk))).symm
   rw [← hb1] at HHAS
   clear hb1
   rcases hk with hk | hk
   · have e7 : (E.P.K i == 7) = false := by simp [hk]
     have e6 : (E.P.K i == 6) = true := by simp [hk]
     clear hk
     go_quiet (exact Calls.quiet_of_same (HHAS.out _))
     obtain ⟨V, hV⟩ : ∃ V : World, V = W.drewN nq := ⟨_, rfl⟩
     rw [← hV]
     have hbV : Below W.heap.size W V := by rw [hV]; exact below_drewN (Below.refl _ _) _
     have hRV := HR.out.keep hbV
     have hrV := blk_below HWR.out hbV (lt_of_block HWR.out)
     clear c0 c1 c2 c3 l0
     obtain ⟨⟨r0, r1, r2, r3, r4⟩, ⟨z0, z1, z2, z3, z4⟩⟩ := hRV.cells
     obtain ⟨c0, c1, c2, c3⟩ := tok_cells hrV
     have HRV := lh hRV
     have HGV : Hid (w.grownBy V (some E.rb)) := lh (gr_trans (gr_below HBW.out _) (gr_below hbV _))
     clear hV hbV hRV hrV
     cases b with
     | true =>
      have hlt := HBL.out rfl
      go_wp2_with fail
      go_ret2
      have hr := HRV.out.seti (j := i + 1) (by omega)
      exact ⟨rfl, by simpa using hr, gr_trans HGV.out (gr_set _ _ _ _)⟩
     | false =>
      go_wp2_with fail
      go_ret2
      exact ⟨rfl, by simpa using HRV.out, HGV.out⟩
   · have e7 : (E.P.K i == 7) = true := by simp [hk]
     clear hk
     go_quiet (exact Calls.quiet_of_same (HHAS.out _))
     obtain ⟨V, hV⟩ : ∃ V : World, V = W.drewN nq := ⟨_, rfl⟩
     rw [← hV]
     have hbV : Below W.heap.size W V := by rw [hV]; exact below_drewN (Below.refl _ _) _
     have hRV := HR.out.keep hbV
     have hrV := blk_below HWR.out hbV (lt_of_block HWR.out)
     clear c0 c1 c2 c3 l0
     obtain ⟨⟨r0, r1, r2, r3, r4⟩, ⟨z0, z1, z2, z3, z4⟩⟩ := hRV.cells
     obtain ⟨c0, c1, c2, c3⟩ := tok_cells hrV
     have HRV := lh hRV
     have HGV : Hid (w.grownBy V (some E.rb)) := lh (gr_trans (gr_below HBW.out _) (gr_below hbV _))
     clear hV hbV hRV hrV
     cases b with
     | true =>
      have hlt := HBL.out rfl
      go_wp2_with fail
      go_ret2
      have hr := HRV.out.seti (j := i + 1) (by omega)
      exact ⟨rfl, by simpa using hr, gr_trans HGV.out (gr_set _ _ _ _)⟩
     | false =>
      go_wp2_with fail
      go_ret2
      exact ⟨rfl, by simpa using HRV.out, HGV.out⟩
 · have hb1 : b = false := by rw [HB.out, one_any, decide_eq_false hk, Bool.false_and]
   subst hb1
   have e7 : (E.P.K i == 7) = false := by simp; omega
   have e6 : (E.P.K i == 6) = false := by simp; omega
   clear hk
   go_quiet (fail)
   obtain ⟨V, hV⟩ : ∃ V : World, V = W.drewN nq := ⟨_, rfl⟩
   rw [← hV]
   have hbV : Below W.heap.size W V := by rw [hV]; exact below_drewN (Below.refl _ _) _
   have hRV := HR.out.keep hbV
   have hrV := blk_below HWR.out hbV (lt_of_block HWR.out)
   clear c0 c1 c2 c3 l0
   obtain ⟨⟨r0, r1, r2, r3, r4⟩, ⟨z0, z1, z2, z3, z4⟩⟩ := hRV.cells
   obtain ⟨c0, c1, c2, c3⟩ := tok_cells hrV
   have HRV := lh hRV
   have HGV : Hid (w.grownBy V (some E.rb)) := lh (gr_trans (gr_below HBW.out _) (gr_below hbV _))
   clear hV hbV hRV hrV
   go_wp2_with fail
   go_ret2
   exact ⟨rfl, by simpa using HRV.out, HGV.out⟩
end Go.Proofs.YthehjeeiodbkjaaGreatDoor
