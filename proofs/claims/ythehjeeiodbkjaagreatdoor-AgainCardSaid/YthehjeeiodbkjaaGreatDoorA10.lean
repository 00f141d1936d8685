/-
  Proved: the contract of the reader's decs; the contract of the document's atom. Conditions: the reader as it stands in memory; what the reader reads within; the reader as it stands in memory; what it reads within.
-/
import Derived.Test.YthehjeeiodbkjaaGreatDoorA01
import Derived.Test.YthehjeeiodbkjaaGreatDoorA04
import Derived.Test.YthehjeeiodbkjaaGreatDoorA05
import Derived.Test.YthehjeeiodbkjaaGreatDoorA09
import Derived.Test.YthehjeeiodbkjaaGreatDoorA06
set_option linter.unusedSimpArgs false
set_option linter.unusedVariables false
set_option maxRecDepth 100000
set_option maxHeartbeats 16000000
namespace Go.Proofs.YthehjeeiodbkjaaGreatDoor
open Go.RowKit
theorem starts_mem {k : Nat} (hk : k < 3) : ∀ s ∈ startsL k, s ∈ startsL 0 := by
 obtain rfl | rfl | rfl : k = 0 ∨ k = 1 ∨ k = 2 := by omega
 · exact fun s h => h
 · intro s h
   simp only [startsL] at h ⊢
   simp at h ⊢
   rcases h with h | h | h | h | h | h | h <;> simp [h]
 · intro s h
   simp only [startsL] at h ⊢
   simp at h ⊢
   rcases h with h | h | h | h <;> simp [h]
theorem starts_sub {P : Src} {k i : Nat} (hk : k < 3) (h : oneD P (startsL k) i = true) : oneD P (startsL 0) i = true := by
 unfold oneD at h ⊢
 rw [Bool.and_eq_true] at h ⊢
 refine ⟨h.1, ?_⟩
 have h2 := h.2
 rw [List.any_eq_true] at h2 ⊢
 obtain ⟨s, hs, he⟩ := h2
 exact ⟨s, starts_mem hk s hs, he⟩
theorem decs_any (E : Env) (g : Nat) (PA : PAll E g) (w : World) (i : Nat) (k : Nat) (hk : k < 3) (h : Rd E w i (60 - g)) : Calls Tryz.prog 29 #[pr E, .int .i64 (k : Int)] w (PPost E (60 - g) w ((decsB E.P (recS E.P g) k) i) (OwQ w)) := by
 obtain ⟨d, hd⟩ : ∃ d, d = 60 - g := ⟨_, rfl⟩
 have HI : ∀ w1 j, Rd E w1 j d → oneD E.P (startsL 0) j = true → Calls Tryz.prog 63 #[pr E] w1 (PPost E d w1 (readS E.P g .dec j) (NdQ w1)) := by rw [hd]; exact PA.dec
 have HST : Hid (∀ i x j, readS E.P g .dec i = .ok x j → i + 1 ≤ j) := lh ((st_rec E.P g).1 .dec)
 rw [← hd] at h ⊢
 obtain ⟨item, hit⟩ : ∃ item : M Ty, item = readS E.P g .dec := ⟨_, rfl⟩
 obtain ⟨T, hT⟩ : ∃ T, T = (decsB E.P (recS E.P g) k) i := ⟨_, rfl⟩
 rw [← hT]
 have HT : Hid (T = manyL (oneD E.P (startsL k)) item (E.P.toks.length + 1) [] i) := lh (by rw [hit]; exact hT)
 rw [← hit] at HI HST
 clear hit hT
 have H := lh h
 have hlr := h.ltr
 have hN := h.ok.len
 have hi9 := h.le
 have HNOW : Hid (∀ w1 j, Rd E w1 j d → Calls Tryz.prog 35 #[pr E] w1 fun e w' => e = .returned (tkVal E.P j) ∧ Below w1.heap.size w1 w') := lh (fun w1 j h1 => now_any E w1 j d h1)
 have HHAS : Hid (∀ j, (E.P.T j).size ≤ 4000 → ∀ w' : World, Calls Tryz.prog 62 #[.string (bgT k), .string (E.P.T j)] w' fun e w2 => e = .returned (.bool (hasB (bgT k) (E.P.T j))) ∧ w2 = w') := lh (fun j hj w' => has_any (bgT k) (E.P.T j) w' (bg_size k) hj)
 have HCJ : Hid (∀ w1 j, Rd E w1 j d → oneD E.P (startsL k) j = true → Calls Tryz.prog 63 #[pr E] w1 (PPost E d w1 (item j) (NdQ w1))) := lh (fun w1 j h1 h2 => HI w1 j h1 (starts_sub hk h2))
 have HGL := lh (fun (w1 : World) j (h1 : Rd E w1 j d) => h1.gl.2 k hk)
 have HBG := lh (has_bg hk)
 have k0 : (0 : Int) ≤ (k : Int) := by omega
 have k1 : (k : Int) < 3 := by omega
 unfold tkVal at HNOW
 unfold pr at HNOW HCJ ⊢
 obtain ⟨N, hNN⟩ : ∃ N, N = E.P.toks.length := ⟨_, rfl⟩
 rw [← hNN] at HT hN hi9
 have HNN := lh hNN
 clear h HI hNN hd hk
 go_enter Tryz.func29, Tryz.ntmps29
 go_wp2_with fail
 go_loopw [5] (fun v wr => ∃ (bs : List Bt) (Dj : Nat → Prop) (m f : Nat), T = manyL (oneD E.P (startsL k)) item f (bs.map Bt.t) m ∧ N < m + f ∧ bs.length ≤ m ∧ OwnT w.heap.size wr Dj v bs ∧ (∀ b, Dj b → w.heap.size ≤ b ∧ b < wr.heap.size ∧ v.ownBlock ≠ some b) ∧ Rd E wr m d ∧ w.grownBy wr (some E.rb)) (fun _ wr => N - posOf wr E.rb)
 case atStart => exact ⟨[], fun _ => False, i, N + 1, HT.out, by omega, by simp, OwnT.nil _ _ _, fun b hb => hb.elim, H.out, World.grownBy.refl _ _⟩
 case round =>
  obtain ⟨bs, Dj, m, f, hT, hf, hlen, hown, hDj, hr, hg⟩ := hrel
  obtain ⟨wo, rfl⟩ : ∃ wo : World, wo = wr := ⟨_, rfl⟩
  have hmN : m ≤ N := by rw [HNN.out]; exact hr.le
  obtain ⟨f, rfl⟩ : ∃ f', f = f' + 1 := ⟨f - 1, by omega⟩
  have HR := lh hr
  have HG := lh hg
  have HTJ := lh hT
  have HOWN := lh hown
  have HDJ := lh hDj
  have HPOS := lh hr.pos
  have HTS := lh (hr.tsize m)
  clear hr hg hT hown hDj
  obtain ⟨va, vc, hvs, hread⟩ := HOWN.out.read (D' := fun b => w.heap.size ≤ b ∧ b < wo.heap.size) (fun b hb => ⟨(HDJ.out b hb).1, (HDJ.out b hb).2.1⟩) (fun b hb => HOWN.out.own.lt b hb)
  subst hvs
  clear hread
  go_upto_region 3 with (first | (go_at_call 35; refine (HNOW.out wo m HR.out).mono ?_; rintro e w1 ⟨rfl, hb1⟩; have HB1 := lh hb1; clear hb1))
  obtain ⟨W, hW⟩ : ∃ W, W = w1.alloc (.cells #[.int .i64 (E.P.K m), .int .i64 (E.P.A m : Int), .string (E.P.T m), .int .i64 (E.P.N m : Int)] 59) := ⟨_, rfl⟩
  obtain ⟨hbW, hrW⟩ := tok_box hW HB1.out
  rw [← hW]
  obtain ⟨c0, c1, c2, c3⟩ := tok_cells hrW
  have hR := HR.out.keep hbW
  have HRW := lh hR
  have HBW := lh hbW
  have l0 := HGL.out W m hR
  have n1 : ¬ (w1.heap.size = E.rb) := by have := HR.out.ltr; have := HB1.out.size; omega
  have n2 : ¬ (E.rb = w1.heap.size) := fun e => n1 e.symm
  clear hW hbW hrW hR
  obtain ⟨b, hb⟩ : ∃ b, b = oneD E.P (startsL k) m := ⟨_, rfl⟩
  have hbl : b = true → m < N := fun e => by rw [HNN.out]; exact oneD_lt (by rw [← hb]; exact e)
  have HB := lh hb
  have HBL := lh hbl
  clear hb hbl
  have FIN0 : ∀ V : World, Below W.heap.size W V → Hid (b = false) → PPost E d w T (OwQ w) (.returned (.slice va bs.length vc)) V := by
   intro V hbV hb0
   have hgV : wo.grownBy V (some E.rb) := gr_trans (gr_below HBW.out _) (gr_below hbV _)
   have ht := HTJ.out
   rw [manyL_at, if_neg (by rw [← HB.out, hb0.out]; decide)] at ht
   exact PPost.ok (gr_trans HG.out hgV) ht ⟨bs, Dj, rfl, HOWN.out.gr hgV (by have := H.out.ltr; omega) (fun b hb => ⟨(HDJ.out b hb).2.1, by have := (HDJ.out b hb).1; omega⟩), fun b hb => ⟨(HDJ.out b hb).1, Nat.lt_of_lt_of_le (HDJ.out b hb).2.1 hgV.size, (HDJ.out b hb).2.2⟩⟩ (HRW.out.keep hbV)
  have HF0 := lh FIN0
  clear FIN0
  by_cases hk6 : E.P.K m = 6
  · have hb1 : b = hasB (bgT k) (E.P.T m) := by
     rw [HB.out, one_any, decide_eq_true (.inl hk6), Bool.true_and]
     exact (HBG.out.1 _ (HR.out.word hk6)).symm
    have HH := lh (HHAS.out m HTS.out)
    rw [← hb1] at HH
    have e6 : (E.P.K m != 6) = false := by simp [hk6]
    clear hb1 hk6
    go_quiet (exact Calls.quiet_of_same (HH.out _))
    obtain ⟨V, hV⟩ : ∃ V : World, V = W.drewN nq := ⟨_, rfl⟩
    rw [← hV]
    have hbV : Below W.heap.size W V := by rw [hV]; exact below_drewN (Below.refl _ _) _
    have HBV := lh hbV
    clear c0 c1 c2 c3 l0 hV hbV
    cases b with
    | false =>
     go_wp2_with fail
     go_ret
     first | exact HF0.out V HBV.out (lh rfl) | exact HF0.out V HBV.out (lh trivial)
    | true =>
     have hm1 := HBL.out rfl
     clear HF0
     have HR2 := lh (HRW.out.keep HBV.out)
     have HG2 : Hid (wo.grownBy V (some E.rb)) := lh (gr_trans (gr_below HBW.out _) (gr_below HBV.out _))
     have HC := lh (HCJ.out V m HR2.out HB.out.symm)
     have ht := HTJ.out
     rw [manyL_at, if_pos (by rw [← HB.out])] at ht
     have HTK := lh ht
     clear ht HTJ
     obtain ⟨i26, hi, hz0, hz1, hz2⟩ := info_parts info26
     have HI26 := lh hi
     clear hi
     obtain ⟨w2, hw2⟩ : ∃ w2 : World, w2 = V := ⟨_, rfl⟩
     rw [← hw2] at HC HR2 HG2 ⊢
     clear hw2
     go_wp2_with (first
      | (go_at_call 63; refine HC.out.mono ?_; rintro e w3 ⟨hg3, h3⟩; rcases h3.symm with ⟨k, a, hx, rfl, jj, hr3⟩ | ⟨y, jj, v, hx, rfl, ⟨a7, k7, rfl, hs7⟩, hr3⟩; exact ⟨rfl, PPost.bad (gr_trans HG.out (gr_trans HG2.out hg3)) (HTK.out.trans (bind_bad hx)) hr3⟩; have HX := lh hx; have HS7 := lh hs7; have HR3 := lh hr3; have HG3 := lh hg3; have HOA : Hid ((w3.alloc (.cells (rowOf y a7 k7) 26)).ownsRow w.heap.size 26 5 (.slice va bs.length vc) bs.length (tcells bs)) := lh (((HOWN.out.gr (gr_trans HG2.out hg3) (by omega) (fun b hb => ⟨(HDJ.out b hb).2.1, by have := (HDJ.out b hb).1; omega⟩)).own).alloc _); have hone := ty_one ⟨y, a7, k7⟩; have hbase : w.heap.size ≤ (w3.alloc (.cells (rowOf y a7 k7) 26)).heap.size := (by rw [World.size_alloc]; have := (gr_trans HG.out (gr_trans HG2.out hg3)).size; omega); unfold rowOf at HOA hone hbase ⊢; clear hx hs7 hr3 hg3 h3)
      | (at_builtin; go_must (refine wpList_append3 rfl (.tmp 22) (.tmp 25) 24 24 rfl w.heap.size 26 26 i26 _ 5 64 Tryz.underlying24 Tryz.underlying24 HI26.out hz0 hz1 hz2 rfl (by decide) (.slice va bs.length vc) bs.length (tcells bs) rfl HOA.out (some ⟨w3.heap.size, 0, none⟩) 1 1 [.int .i64 y.k, .int .i64 y.n, .string y.s, .int .i64 y.q, .slice a7 y.args.length k7] rfl rfl (fun _ => ⟨_, rfl, new_cells (c := #[.int .i64 y.k, .int .i64 y.n, .string y.s, .int .i64 y.q, .slice a7 y.args.length k7]) _ (by simp)⟩) hone (by unfold maxLen; omega) (by omega) hbase ?_); intro v1 w9 hown1 hgr1 hat1; have HO1 := lh hown1; have HGR1 := lh hgr1; have HAT1 := lh hat1; clear hown1 hgr1 hat1))
     have FIN : OwnT w.heap.size w9 (fun b => Dj b ∨ (w2.heap.size ≤ b ∧ b < w3.heap.size)) v1 (bs ++ [⟨y, a7, k7⟩]) ∧ (∀ b, (Dj b ∨ (w2.heap.size ≤ b ∧ b < w3.heap.size)) → w.heap.size ≤ b ∧ b < w9.heap.size ∧ v1.ownBlock ≠ some b) ∧ Rd E w9 jj d ∧ w.grownBy w9 (some E.rb) := by
      obtain ⟨A, hA⟩ : ∃ A, A = w3.alloc (.cells (rowOf y a7 k7) 26) := ⟨_, rfl⟩
      have hgr1 := HGR1.out
      have hown1 := HO1.out
      have hat1 : v1.ownBlock = (Value.slice va bs.length vc).ownBlock ∨ v1.ownBlock = some A.heap.size := by
       rw [hA]
       simpa [rowOf] using HAT1.out
      have eA : A = w3.alloc (.cells #[.int .i64 y.k, .int .i64 y.n, .string y.s, .int .i64 y.q, .slice a7 y.args.length k7] 26) := hA
      rw [← eA] at hgr1
      have hwo2 := HG2.out.size
      have h23 := HG3.out.size
      have hwwo := HG.out.size
      have hsA : A.heap.size = w3.heap.size + 1 := by rw [hA, World.size_alloc]
      have h3A : Below w3.heap.size w3 A := by rw [hA]; exact balloc (Below.refl _ _) _
      have hold : ∀ g, (Value.slice va bs.length vc).ownBlock = some g → w.heap.size ≤ g ∧ g < wo.heap.size := fun g hg => HOWN.out.own.lt g hg
      have hgwo3 : wo.grownBy w3 (some E.rb) := gr_trans HG2.out HG3.out
      have hgwoA : wo.grownBy A (some E.rb) := gr_trans hgwo3 (gr_below h3A _)
      have hDwo : ∀ b, Dj b → b < wo.heap.size ∧ b ≠ E.rb := fun b hb => ⟨(HDJ.out b hb).2.1, by have := (HDJ.out b hb).1; omega⟩
      have hc9 : ∀ b, b < A.heap.size → (Value.slice va bs.length vc).ownBlock ≠ some b → ∀ off, w9.cell? ⟨b, off, none⟩ = A.cell? ⟨b, off, none⟩ := fun b hb hne off => World.cell?_of_block (hgr1.block b hb (fun e => hne e.symm))
      have hw9 := hgr1.size
      refine ⟨⟨?_, fun b hb => ?_⟩, fun b hb => ?_, ?_, ?_⟩
      · rw [List.length_append, tcells_append]
        have e : tcells [⟨y, a7, k7⟩] = [.int .i64 y.k, .int .i64 y.n, .string y.s, .int .i64 y.q, .slice a7 y.args.length k7] := rfl
        rw [e]
        exact hown1
      · rcases List.mem_append.1 hb with hb | hb
        · refine ((HOWN.out.sl b hb).keep fun d' hd' off => ?_).mono fun b h => .inl h
          have h1 := HDJ.out d' hd'
          rw [hc9 d' (by omega) h1.2.2 off]
          exact gr_cells hgwoA hDwo d' hd' off
        · rw [List.mem_singleton] at hb
          subst hb
          refine (HS7.out.keep fun d' hd' off => ?_).mono fun b h => .inr h
          rw [hc9 d' (by omega) (fun e => by have := (hold d' e).2; omega) off]
          exact below_cells h3A d' hd'.2 off
      · have hb9 : w.heap.size ≤ b ∧ b < w3.heap.size ∧ (Value.slice va bs.length vc).ownBlock ≠ some b := by
         rcases hb with hb | hb
         · exact ⟨(HDJ.out b hb).1, by have := (HDJ.out b hb).2.1; omega, (HDJ.out b hb).2.2⟩
         · exact ⟨by omega, hb.2, fun e => by have := (hold b e).2; omega⟩
        refine ⟨hb9.1, by omega, ?_⟩
        rcases hat1 with e | e
        · rw [e]; exact hb9.2.2
        · rw [e, hsA]
          intro e2
          have := Option.some.inj e2
          omega
      · exact (HR3.out.keep h3A).keepB (grew_none hgr1 (N := w.heap.size) (by omega) (fun g hg => (hold g hg).1)) H.out.low.2
      · exact gr_on (gr_trans HG.out hgwoA) hgr1 (.inr fun g hg => (hold g hg).1)
     have HFIN := lh FIN
     have hmj := HST.out m y jj HX.out
     have hT9 : T = manyL (oneD E.P (startsL k)) item f ((bs ++ [Bt.mk y a7 k7]).map Bt.t) jj := by rw [HTK.out, bind_ok HX.out, List.map_append]; rfl
     go_roundw
     case rel => exact ⟨bs ++ [⟨y, a7, k7⟩], _, jj, f, hT9, by omega, by rw [List.length_append]; simp; omega, HFIN.out.1, HFIN.out.2.1, HFIN.out.2.2.1, HFIN.out.2.2.2⟩
     case measure =>
      have h1 := HFIN.out.2.2.1.pos
      have h2 := HPOS.out
      have h3 : jj ≤ N := by rw [HNN.out]; exact HFIN.out.2.2.1.le
      omega
  · have hb1 : b = false := by
     rw [HB.out]
     by_cases h7 : E.P.K m = 7
     · rw [one_any, HBG.out.2 _ (HR.out.sign h7), Bool.and_false]
     · rw [one_any, decide_eq_false (by omega), Bool.false_and]
    have HB1' := lh hb1
    have e6 : (E.P.K m != 6) = true := by simp [hk6]
    clear hb1 hk6
    go_quiet (fail)
    obtain ⟨V, hV⟩ : ∃ V : World, V = W.drewN nq := ⟨_, rfl⟩
    rw [← hV]
    have HBV : Hid (Below W.heap.size W V) := lh (by rw [hV]; exact below_drewN (Below.refl _ _) _)
    clear c0 c1 c2 c3 l0 hV
    go_wp2_with fail
    go_ret
    exact HF0.out V HBV.out HB1'
theorem atom_1 {P : Src} {R : Rec} {i : Nat} (h : P.K i = 1) : atomB P R i = .ok (.mk 1 (P.A i) ⟨#[]⟩ (P.N i) []) (i + 1) := by
 unfold atomB
 rw [if_pos h]
theorem atom_2 {P : Src} {R : Rec} {i : Nat} (h : P.K i = 2) : atomB P R i = .ok (.mk 2 (P.A i) (P.T i) 0 []) (i + 1) := by
 unfold atomB
 rw [if_neg (by rw [h]; decide), if_pos h]
theorem atom_3 {P : Src} {R : Rec} {i : Nat} (h : P.K i = 3 ∨ P.K i = 4) : atomB P R i = (pathD P 0 >>= fun p => (ret (.mk (if p.2 = 3 then 3 else 4) (P.A i) p.1 0 []) : M Ty)) i := by
 unfold atomB
 rw [if_neg (by omega), if_neg (by omega), if_pos h]
theorem atom_w {P : Src} {R : Rec} {i : Nat} (hk : P.K i = 6 ∨ P.K i = 7) (h : P.T i = w_true ∨ P.T i = w_false) : atomB P R i = .ok (.mk 4 (P.A i) (P.T i) 0 []) (i + 1) := by
 unfold atomB
 have h9 : isD P w_true i = true ∨ isD P w_false i = true := by rw [isD_w hk, isD_w hk]; rcases h with h | h <;> rw [h] <;> decide
 rw [if_neg (by omega), if_neg (by omega), if_neg (by omega), if_pos h9]
theorem atom_no {P : Src} {R : Rec} {i : Nat} (h1 : P.K i ≠ 1) (h2 : P.K i ≠ 2) (h3 : ¬ (P.K i = 3 ∨ P.K i = 4)) (h : oneD P [w_true, w_false, s_lp, s_lb, w_let, w_case, w_try] i = false) : atomB P R i = failD P 4 i := by
 have hn : ∀ x ∈ [w_true, w_false, s_lp, s_lb, w_let, w_case, w_try], ¬ isD P x i = true := fun x hx h9 => by
  unfold isD at h9
  unfold oneD at h
  rw [Bool.and_eq_true] at h9
  rw [h9.1, Bool.true_and] at h
  exact List.any_eq_false.1 h x hx h9.2
 unfold atomB
 rw [if_neg h1, if_neg h2, if_neg h3, if_neg (fun h => h.elim (hn _ (by simp)) (hn _ (by simp))), if_neg (hn _ (by simp)), if_neg (hn _ (by simp)), if_neg (hn _ (by simp)), if_neg (hn _ (by simp)), if_neg (hn _ (by simp))]
theorem atom_s_lp {P : Src} {R : Rec} {i : Nat} (hk : P.K i = 6 ∨ P.K i = 7) (h : P.T i = s_lp) : atomB P R i = roundB P R (P.A i) (i + 1) := by
 unfold atomB
 rw [if_neg (by omega), if_neg (by omega), if_neg (by omega), if_neg (by rw [isD_w hk, isD_w hk, h]; decide), if_pos (by rw [isD_w hk, h]; decide)]
theorem atom_s_lb {P : Src} {R : Rec} {i : Nat} (hk : P.K i = 6 ∨ P.K i = 7) (h : P.T i = s_lb) : atomB P R i = (eatD P s_rb >>= fun e => if e = true then (pure (.mk 6 (P.A i) ⟨#[]⟩ 0 []) : M Ty) else rowD P (R.go .exp) s_com >>= fun l => mustD P s_rb >>= fun _ => (pure (.mk 6 (P.A i) ⟨#[]⟩ 0 l) : M Ty)) (i + 1) := by
 unfold atomB
 rw [if_neg (by omega), if_neg (by omega), if_neg (by omega), if_neg (by rw [isD_w hk, isD_w hk, h]; decide), if_neg (by rw [isD_w hk, h]; decide), if_pos (by rw [isD_w hk, h]; decide)]
theorem atom_w_let {P : Src} {R : Rec} {i : Nat} (hk : P.K i = 6 ∨ P.K i = 7) (h : P.T i = w_let) : atomB P R i = (decsB P R 2 >>= fun l => mustD P w_in >>= fun _ => R.go .exp >>= fun e => mustD P w_end >>= fun _ => (pure (.mk 14 (P.A i) ⟨#[]⟩ l.length (l ++ [e])) : M Ty)) (i + 1) := by
 unfold atomB
 rw [if_neg (by omega), if_neg (by omega), if_neg (by omega), if_neg (by rw [isD_w hk, isD_w hk, h]; decide), if_neg (by rw [isD_w hk, h]; decide), if_neg (by rw [isD_w hk, h]; decide), if_pos (by rw [isD_w hk, h]; decide)]
theorem atom_w_case {P : Src} {R : Rec} {i : Nat} (hk : P.K i = 6 ∨ P.K i = 7) (h : P.T i = w_case) : atomB P R i = rulesB P R 10 (P.A i) w_of (i + 1) := by
 unfold atomB
 rw [if_neg (by omega), if_neg (by omega), if_neg (by omega), if_neg (by rw [isD_w hk, isD_w hk, h]; decide), if_neg (by rw [isD_w hk, h]; decide), if_neg (by rw [isD_w hk, h]; decide), if_neg (by rw [isD_w hk, h]; decide), if_pos (by rw [isD_w hk, h]; decide)]
theorem atom_w_try {P : Src} {R : Rec} {i : Nat} (hk : P.K i = 6 ∨ P.K i = 7) (h : P.T i = w_try) : atomB P R i = rulesB P R 11 (P.A i) w_with (i + 1) := by
 unfold atomB
 rw [if_neg (by omega), if_neg (by omega), if_neg (by omega), if_neg (by rw [isD_w hk, isD_w hk, h]; decide), if_neg (by rw [isD_w hk, h]; decide), if_neg (by rw [isD_w hk, h]; decide), if_neg (by rw [isD_w hk, h]; decide), if_neg (by rw [isD_w hk, h]; decide), if_pos (by rw [isD_w hk, h]; decide)]
end Go.Proofs.YthehjeeiodbkjaaGreatDoor
