/-
  Proved: the contract of the reader's decs; Proved: the contract of joined. No condition.. Conditions: the reader as it stands in memory; what the reader reads within.
-/
import Derived.Test.YthehjeeiodbkjaaGreatDoorE19
import Derived.Test.YthehjeeiodbkjaaGreatDoorE13
set_option linter.unusedSimpArgs false
set_option linter.unusedVariables false
set_option maxRecDepth 100000
set_option maxHeartbeats 16000000
namespace Go.Proofs.YthehjeeiodbkjaaGreatDoor
open Go.RowKit
theorem starts_mem {k : Nat} (hk : k < 3) : ∀ s ∈ startsL k, s ∈ startsL 0 := by
 obtain rfl | rfl | rfl : k = 0 ∨ k = 1 ∨ k = 2 := by omega
 · exact fun s h => h
 · intro s h
   simp only [startsL] at h ⊢
   simp at h ⊢
   rcases h with h | h | h | h | h | h | h <;> simp [h]
 · intro s h
   simp only [startsL] at h ⊢
   simp at h ⊢
   rcases h with h | h | h | h <;> simp [h]
theorem starts_sub {P : Src} {k i : Nat} (hk : k < 3) (h : oneD P (startsL k) i = true) : oneD P (startsL 0) i = true := by
 unfold oneD at h ⊢
 rw [Bool.and_eq_true] at h ⊢
 refine ⟨h.1, ?_⟩
 have h2 := h.2
 rw [List.any_eq_true] at h2 ⊢
 obtain ⟨s, hs, he⟩ := h2
 exact ⟨s, starts_mem hk s hs, he⟩
theorem decs_any (E : Env) (g : Nat) (PA : PAll E g) (w : World) (i : Nat) (k : Nat) (hk : k < 3) (h : Rd E w i (60 - g)) : Calls Tryz.prog 29 #[pr E, .int .i64 (k : Int)] w (PPost E (60 - g) w ((decsB E.P (recS E.P g) k) i) (OwQ w)) := by
 obtain ⟨d, hd⟩ : ∃ d, d = 60 - g := ⟨_, rfl⟩
 have HI : ∀ w1 j, Rd E w1 j d → oneD E.P (startsL 0) j = true → Calls Tryz.prog 63 #[pr E] w1 (PPost E d w1 (readS E.P g .dec j) (NdQ w1)) := by rw [hd]; exact PA.dec
 have HST : Hid (∀ i x j, readS E.P g .dec i = .ok x j → i + 1 ≤ j) := lh ((st_rec E.P g).1 .dec)
 rw [← hd] at h ⊢
 obtain ⟨item, hit⟩ : ∃ item : M Ty, item = readS E.P g .dec := ⟨_, rfl⟩
 obtain ⟨T, hT⟩ : ∃ T, T = (decsB E.P (recS E.P g) k) i := ⟨_, rfl⟩
 rw [← hT]
 have HT : Hid (T = manyL (oneD E.P (startsL k)) item (E.P.toks.length + 1) [] i) := lh (by rw [hit]; exact hT)
 rw [← hit] at HI HST
 clear hit hT
 have H := lh h
 have hlr := h.ltr
 have hN := h.ok.len
 have hi9 := h.le
 have HNOW : Hid (∀ w1 j, Rd E w1 j d → Calls Tryz.prog 35 #[pr E] w1 fun e w' => e = .returned (tkVal E.P j) ∧ Below w1.heap.size w1 w') := lh (fun w1 j h1 => now_any E w1 j d h1)
 have HHAS : Hid (∀ j, (E.P.T j).size ≤ 4000 → ∀ w' : World, Calls Tryz.prog 62 #[.string (bgT k), .string (E.P.T j)] w' fun e w2 => e = .returned (.bool (hasB (bgT k) (E.P.T j))) ∧ w2 = w') := lh (fun j hj w' => has_any (bgT k) (E.P.T j) w' (bg_size k) hj)
 have HCJ : Hid (∀ w1 j, Rd E w1 j d → oneD E.P (startsL k) j = true → Calls Tryz.prog 63 #[pr E] w1 (PPost E d w1 (item j) (NdQ w1))) := lh (fun w1 j h1 h2 => HI w1 j h1 (starts_sub hk h2))
 have HGL := lh (fun (w1 : World) j (h1 : Rd E w1 j d) => h1.gl.2 k hk)
 have HBG := lh (has_bg hk)
 have k0 : (0 : Int) ≤ (k : Int) := by omega
 have k1 : (k : Int) < 3 := by omega
 unfold tkVal at HNOW
 unfold pr at HNOW HCJ ⊢
 obtain ⟨N, hNN⟩ : ∃ N, N = E.P.toks.length := ⟨_, rfl⟩
 rw [← hNN] at HT hN hi9
 have HNN := lh hNN
 clear h HI hNN hd hk
 go_enter Tryz.func29, Tryz.ntmps29
 go_wp2_with fail
 go_loopw [5] (fun v wr => ∃ (bs : List Bt) (Dj : Nat → Prop) (m f : Nat), T = manyL (oneD E.P (startsL k)) item f (bs.map Bt.t) m ∧ N < m + f ∧ bs.length ≤ m ∧ OwnT w.heap.size wr Dj v bs ∧ (∀ b, Dj b → w.heap.size ≤ b ∧ b < wr.heap.size ∧ v.ownBlock ≠ some b) ∧ Rd E wr m d ∧ w.grownBy wr (some E.rb)) (fun _ wr => N - posOf wr E.rb)
 case atStart => exact ⟨[], fun _ => False, i, N + 1, HT.out, by omega, by simp, OwnT.nil _ _ _, fun b hb => hb.elim, H.out, World.grownBy.refl _ _⟩
 case round =>
  obtain ⟨bs, Dj, m, f, hT, hf, hlen, hown, hDj, hr, hg⟩ := hrel
  obtain ⟨wo, rfl⟩ : ∃ wo : World, wo = wr := ⟨_, rfl⟩
  have hmN : m ≤ N := by rw [HNN.out]; exact hr.le
  obtain ⟨f, rfl⟩ : ∃ f', f = f' + 1 := ⟨f - 1, by omega⟩
  have HR := lh hr
  have HG := lh hg
  have HTJ := lh hT
  have HOWN := lh hown
  have HDJ := lh hDj
  have HPOS := lh hr.pos
  have HTS := lh (hr.tsize m)
  clear hr hg hT hown hDj
  obtain ⟨va, vc, hvs, hread⟩ := HOWN.out.read (D' := fun b => w.heap.size ≤ b ∧ b < wo.heap.size) (fun b hb => ⟨(HDJ.out b hb).1, (HDJ.out b hb).2.1⟩) (fun b hb => HOWN.out.own.lt b hb)
  subst hvs
  clear hread
  go_upto_region 3 with (first | (go_at_call 35; refine (HNOW.out wo m HR.out).mono ?_; rintro e w1 ⟨rfl, hb1⟩; have HB1 := lh hb1; clear hb1))
  obtain ⟨W, hW⟩ : ∃ W, W = w1.alloc (.cells #[.int .i64 (E.P.K m), .int .i64 (E.P.A m : Int), .string (E.P.T m), .int .i64 (E.P.N m : Int)] 59) := ⟨_, rfl⟩
  obtain ⟨hbW, hrW⟩ := tok_box hW HB1.out
  rw [← hW]
  obtain ⟨c0, c1, c2, c3⟩ := tok_cells hrW
  have hR := HR.out.keep hbW
  have HRW := lh hR
  have HBW := lh hbW
  have l0 := HGL.out W m hR
  have n1 : ¬ (w1.heap.size = E.rb) := by have := HR.out.ltr; have := HB1.out.size; omega
  have n2 : ¬ (E.rb = w1.heap.size) := fun e => n1 e.symm
  clear hW hbW hrW hR
  obtain ⟨b, hb⟩ : ∃ b, b = oneD E.P (startsL k) m := ⟨_, rfl⟩
  have hbl : b = true → m < N := fun e => by rw [HNN.out]; exact oneD_lt (by rw [← hb]; exact e)
  have HB := lh hb
  have HBL := lh hbl
  clear hb hbl
  have FIN0 : ∀ V : World, Below W.heap.size W V → Hid (b = false) → PPost E d w T (OwQ w) (.returned (.slice va bs.length vc)) V := by
   intro V hbV hb0
   have hgV : wo.grownBy V (some E.rb) := gr_trans (gr_below HBW.out _) (gr_below hbV _)
   have ht := HTJ.out
   rw [manyL_at, if_neg (by rw [← HB.out, hb0.out]; decide)] at ht
   exact PPost.ok (gr_trans HG.out hgV) ht ⟨bs, Dj, rfl, HOWN.out.gr hgV (by have := H.out.ltr; omega) (fun b hb => ⟨(HDJ.out b hb).2.1, by have := (HDJ.out b hb).1; omega⟩), fun b hb => ⟨(HDJ.out b hb).1, Nat.lt_of_lt_of_le (HDJ.out b hb).2.1 hgV.size, (HDJ.out b hb).2.2⟩⟩ (HRW.out.keep hbV)
  have HF0 := lh FIN0
  clear FIN0
  by_cases hk6 : E.P.K m = 6
  · have hb1 : b = hasB (bgT k) (E.P.T m) := by
     rw [HB.out, one_any, decide_eq_true (.inl hk6), Bool.true_and]
     exact (HBG.out.1 _ (HR.out.word hk6)).symm
    have HH := lh (HHAS.out m HTS.out)
    rw [← hb1] at HH
    have e6 : (E.P.K m != 6) = false := by simp [hk6]
    clear hb1 hk6
    go_quiet (exact Calls.quiet_of_same (HH.out _))
    obtain ⟨V, hV⟩ : ∃ V : World, V = W.drewN nq := ⟨_, rfl⟩
    rw [← hV]
    have hbV : Below W.heap.size W V := by rw [hV]; exact below_drewN (Below.refl _ _) _
    have HBV := lh hbV
    clear c0 c1 c2 c3 l0 hV hbV
    cases b with
    | false =>
     go_wp2_with fail
     go_ret
     first | exact HF0.out V HBV.out (lh rfl) | exact HF0.out V HBV.out (lh trivial)
    | true =>
     have hm1 := HBL.out rfl
     clear HF0
     have HR2 := lh (HRW.out.keep HBV.out)
     have HG2 : Hid (wo.grownBy V (some E.rb)) := lh (gr_trans (gr_below HBW.out _) (gr_below HBV.out _))
     have HC := lh (HCJ.out V m HR2.out HB.out.symm)
     have ht := HTJ.out
     rw [manyL_at, if_pos (by rw [← HB.out])] at ht
     have HTK := lh ht
     clear ht HTJ
     obtain ⟨i26, hi, hz0, hz1, hz2⟩ := info_parts info26
     have HI26 := lh hi
     clear hi
     obtain ⟨w2, hw2⟩ : ∃ w2 : World, w2 = V := ⟨_, rfl⟩
     rw [← hw2] at HC HR2 HG2 ⊢
     clear hw2
     go_wp2_with (first
      | (go_at_call 63; refine HC.out.mono ?_; rintro e w3 ⟨hg3, h3⟩; rcases h3.symm with ⟨k, a, hx, rfl, jj, hr3⟩ | ⟨y, jj, v, hx, rfl, ⟨a7, k7, rfl, hs7⟩, hr3⟩; exact ⟨rfl, PPost.bad (gr_trans HG.out (gr_trans HG2.out hg3)) (HTK.out.trans (bind_bad hx)) hr3⟩; have HX := lh hx; have HS7 := lh hs7; have HR3 := lh hr3; have HG3 := lh hg3; have HOA : Hid ((w3.alloc (.cells (rowOf y a7 k7) 26)).ownsRow w.heap.size 26 5 (.slice va bs.length vc) bs.length (tcells bs)) := lh (((HOWN.out.gr (gr_trans HG2.out hg3) (by omega) (fun b hb => ⟨(HDJ.out b hb).2.1, by have := (HDJ.out b hb).1; omega⟩)).own).alloc _); have hone := ty_one ⟨y, a7, k7⟩; have hbase : w.heap.size ≤ (w3.alloc (.cells (rowOf y a7 k7) 26)).heap.size := (by rw [World.size_alloc]; have := (gr_trans HG.out (gr_trans HG2.out hg3)).size; omega); unfold rowOf at HOA hone hbase ⊢; clear hx hs7 hr3 hg3 h3)
      | (at_builtin; go_must (refine wpList_append3 rfl (.tmp 22) (.tmp 25) 24 24 rfl w.heap.size 26 26 i26 _ 5 64 Tryz.underlying24 Tryz.underlying24 HI26.out hz0 hz1 hz2 rfl (by decide) (.slice va bs.length vc) bs.length (tcells bs) rfl HOA.out (some ⟨w3.heap.size, 0, none⟩) 1 1 [.int .i64 y.k, .int .i64 y.n, .string y.s, .int .i64 y.q, .slice a7 y.args.length k7] rfl rfl (fun _ => ⟨_, rfl, new_cells (c := #[.int .i64 y.k, .int .i64 y.n, .string y.s, .int .i64 y.q, .slice a7 y.args.length k7]) _ (by simp)⟩) hone (by unfold maxLen; omega) (by omega) hbase ?_); intro v1 w9 hown1 hgr1 hat1; have HO1 := lh hown1; have HGR1 := lh hgr1; have HAT1 := lh hat1; clear hown1 hgr1 hat1))
     have FIN : OwnT w.heap.size w9 (fun b => Dj b ∨ (w2.heap.size ≤ b ∧ b < w3.heap.size)) v1 (bs ++ [⟨y, a7, k7⟩]) ∧ (∀ b, (Dj b ∨ (w2.heap.size ≤ b ∧ b < w3.heap.size)) → w.heap.size ≤ b ∧ b < w9.heap.size ∧ v1.ownBlock ≠ some b) ∧ Rd E w9 jj d ∧ w.grownBy w9 (some E.rb) := by
      obtain ⟨A, hA⟩ : ∃ A, A = w3.alloc (.cells (rowOf y a7 k7) 26) := ⟨_, rfl⟩
      have hgr1 := HGR1.out
      have hown1 := HO1.out
      have hat1 : v1.ownBlock = (Value.slice va bs.length vc).ownBlock ∨ v1.ownBlock = some A.heap.size := by
       rw [hA]
       simpa [rowOf] using HAT1.out
      have eA : A = w3.alloc (.cells #[.int .i64 y.k, .int .i64 y.n, .string y.s, .int .i64 y.q, .slice a7 y.args.length k7] 26) := hA
      rw [← eA] at hgr1
      have hwo2 := HG2.out.size
      have h23 := HG3.out.size
      have hwwo := HG.out.size
      have hsA : A.heap.size = w3.heap.size + 1 := by rw [hA, World.size_alloc]
      have h3A : Below w3.heap.size w3 A := by rw [hA]; exact balloc (Below.refl _ _) _
      have hold : ∀ g, (Value.slice va bs.length vc).ownBlock = some g → w.heap.size ≤ g ∧ g < wo.heap.size := fun g hg => HOWN.out.own.lt g hg
      have hgwo3 : wo.grownBy w3 (some E.rb) := gr_trans HG2.out HG3.out
      have hgwoA : wo.grownBy A (some E.rb) := gr_trans hgwo3 (gr_below h3A _)
      have hDwo : ∀ b, Dj b → b < wo.heap.size ∧ b ≠ E.rb := fun b hb => ⟨(HDJ.out b hb).2.1, by have := (HDJ.out b hb).1; omega⟩
      have hc9 : ∀ b, b < A.heap.size → (Value.slice va bs.length vc).ownBlock ≠ some b → ∀ off, w9.cell? ⟨b, off, none⟩ = A.cell? ⟨b, off, none⟩ := fun b hb hne off => World.cell?_of_block (hgr1.block b hb (fun e => hne e.symm))
      have hw9 := hgr1.size
      refine ⟨⟨?_, fun b hb => ?_⟩, fun b hb => ?_, ?_, ?_⟩
      · rw [List.length_append, tcells_append]
        have e : tcells [⟨y, a7, k7⟩] = [.int .i64 y.k, .int .i64 y.n, .string y.s, .int .i64 y.q, .slice a7 y.args.length k7] := rfl
        rw [e]
        exact hown1
      · rcases List.mem_append.1 hb with hb | hb
        · refine ((HOWN.out.sl b hb).keep fun d' hd' off => ?_).mono fun b h => .inl h
          have h1 := HDJ.out d' hd'
          rw [hc9 d' (by omega) h1.2.2 off]
          exact gr_cells hgwoA hDwo d' hd' off
        · rw [List.mem_singleton] at hb
          subst hb
          refine (HS7.out.keep fun d' hd' off => ?_).mono fun b h => .inr h
          rw [hc9 d' (by omega) (fun e => by have := (hold d' e).2; omega) off]
          exact below_cells h3A d' hd'.2 off
      · have hb9 : w.heap.size ≤ b ∧ b < w3.heap.size ∧ (Value.slice va bs.length vc).ownBlock ≠ some b := by
         rcases hb with hb | hb
         · exact ⟨(HDJ.out b hb).1, by have := (HDJ.out b hb).2.1; omega, (HDJ.out b hb).2.2⟩
         · exact ⟨by omega, hb.2, fun e => by have := (hold b e).2; omega⟩
        refine ⟨hb9.1, by omega, ?_⟩
        rcases hat1 with e | e
        · rw [e]; exact hb9.2.2
        · rw [e, hsA]
          intro e2
          have := Option.some.inj e2
          omega
      · exact (HR3.out.keep h3A).keepB (grew_none hgr1 (N := w.heap.size) (by omega) (fun g hg => (hold g hg).1)) H.out.low.2
      · exact gr_on (gr_trans HG.out hgwoA) hgr1 (.inr fun g hg => (hold g hg).1)
     have HFIN := lh FIN
     have hmj := HST.out m y jj HX.out
     have hT9 : T = manyL (oneD E.P (startsL k)) item f ((bs ++ [Bt.mk y a7 k7]).map Bt.t) jj := by rw [HTK.out, bind_ok HX.out, List.map_append]; rfl
     go_roundw
     case rel => exact ⟨bs ++ [⟨y, a7, k7⟩], _, jj, f, hT9, by omega, by rw [List.length_append]; simp; omega, HFIN.out.1, HFIN.out.2.1, HFIN.out.2.2.1, HFIN.out.2.2.2⟩
     case measure =>
      have h1 := HFIN.out.2.2.1.pos
      have h2 := HPOS.out
      have h3 : jj ≤ N := by rw [HNN.out]; exact HFIN.out.2.2.1.le
      omega
  · have hb1 : b = false := by
     rw [HB.out]
     by_cases h7 : E.P.K m = 7
     · rw [one_any, HBG.out.2 _ (HR.out.sign h7), Bool.and_false]
     · rw [one_any, decide_eq_false (by omega), Bool.false_and]
    have HB1' := lh hb1
    have e6 : (E.P.K m != 6) = true := by simp [hk6]
    clear hb1 hk6
    go_quiet (fail)
    obtain ⟨V, hV⟩ : ∃ V : World, V = W.drewN nq := ⟨_, rfl⟩
    rw [← hV]
    have HBV : Hid (Below W.heap.size W V) := lh (by rw [hV]; exact below_drewN (Below.refl _ _) _)
    clear c0 c1 c2 c3 l0 hV
    go_wp2_with fail
    go_ret
    exact HF0.out V HBV.out HB1'
theorem tl_andalso : w_andalso.toList = [97, 110, 100, 97, 108, 115, 111] := by rw [ByteArray.toList_eq]
theorem tl_orelse : w_orelse.toList = [111, 114, 101, 108, 115, 101] := by rw [ByteArray.toList_eq]
def twoRow (a b : Ty) (ao bo : Option Addr) (ca cb : Nat) : Array Value := #[.int .i64 a.k, .int .i64 a.n, .string a.s, .int .i64 a.q, .slice ao a.args.length ca, .int .i64 b.k, .int .i64 b.n, .string b.s, .int .i64 b.q, .slice bo b.args.length cb]
/-- what joined leaves -/
def JoinP (w : World) (s : ByteArray) (a b : Ty) (ao bo : Option Addr) (ca cb : Nat) (e : Ending) (w' : World) : Prop :=
 ∃ g, w.heap.size ≤ g ∧ e = .returned (.agg (rowOf (joinD s a b) (some ⟨g, 0, none⟩) 2)) ∧ Below w.heap.size w w' ∧ w'.heap[g]? = some (.cells (twoRow a b ao bo ca cb) 26 (0, 0))
theorem joined_any (s : ByteArray) (a b : Ty) (ao bo : Option Addr) (ca cb : Nat) (w : World) : Calls Tryz.prog 80 #[.string s, .agg (rowOf a ao ca), .agg (rowOf b bo cb)] w (JoinP w s a b ao bo ca cb) := by
 obtain ⟨W1, hW1⟩ : ∃ W1, W1 = w.alloc (.cells (rowOf a ao ca) 26) := ⟨_, rfl⟩
 obtain ⟨W2, hW2⟩ : ∃ W2, W2 = W1.alloc (.cells (rowOf b bo cb) 26) := ⟨_, rfl⟩
 obtain ⟨W, hW⟩ : ∃ W, W = W2.alloc (.cells zeroRow 26) := ⟨_, rfl⟩
 have s1 : W1.heap.size = w.heap.size + 1 := by rw [hW1, World.size_alloc]
 have s2 : W2.heap.size = w.heap.size + 1 + 1 := by rw [hW2, World.size_alloc, s1]
 have s3 : W.heap.size = w.heap.size + 3 := by rw [hW, World.size_alloc, s2]
 have hb1 : Below w.heap.size w W1 := by rw [hW1]; exact balloc (Below.refl _ _) _
 have hb2 : Below w.heap.size w W2 := by rw [hW2]; exact balloc hb1 _
 have hb : Below w.heap.size w W := by rw [hW]; exact balloc hb2 _
 have r0 : W.heap[w.heap.size]? = some (.cells (rowOf a ao ca) 26 (0, 0)) := by rw [hW]; refine blk_alloc ?_ _; rw [hW2]; refine blk_alloc ?_ _; rw [hW1]; exact heap_alloc_new w _
 have r1 : W.heap[w.heap.size + 1]? = some (.cells (rowOf b bo cb) 26 (0, 0)) := by rw [hW]; refine blk_alloc ?_ _; rw [hW2, ← s1]; exact heap_alloc_new W1 _
 have r2 : W.heap[w.heap.size + 1 + 1]? = some (.cells zeroRow 26 (0, 0)) := by rw [hW, ← s2]; exact heap_alloc_new W2 _
 obtain ⟨rb, hrb⟩ : ∃ rb, rb = w.heap.size + 1 + 1 := ⟨_, rfl⟩
 obtain ⟨pb, hpb⟩ : ∃ pb, pb = w.heap.size + 1 := ⟨_, rfl⟩
 rw [← hpb] at r1
 rw [← hrb] at r2
 have HPB := lh hpb
 have HRB := lh hrb
 have HBW := lh hb
 have HR2 := lh r2
 have HS := lh s3
 have HNODE : Hid (∀ (k a : Int) (ao : Option Addr) (n cap : Nat) (w1 : World), Calls Tryz.prog 28 #[.int .i64 k, .int .i64 a, .slice ao n cap] w1 fun e w' => e = .returned (.agg #[.int .i64 k, .int .i64 a, .string ⟨#[]⟩, .int .i64 0, .slice ao n cap]) ∧ Below w1.heap.size w1 w') := lh node_any
 have hWW : W = ((w.alloc (.cells (rowOf a ao ca) 26)).alloc (.cells (rowOf b bo cb) 26)).alloc (.cells zeroRow 26) := by rw [hW, hW2, hW1]
 unfold rowOf at r0 r1
 obtain ⟨⟨c0, c1, c2, c3, c4⟩, -⟩ := five_cells r0
 obtain ⟨⟨d0, d1, d2, d3, d4⟩, -⟩ := five_cells r1
 unfold zeroRow rowOf at hWW
 have HWW := lh hWW
 unfold rowOf
 have n1 : ¬ (w.heap.size = W.heap.size) := by omega
 have n2 : ¬ (pb = W.heap.size) := by omega
 clear hpb hrb hW hW1 hW2 hb1 hb2 hb s1 s2 s3 r0 r1 r2 hWW
 go_enter Tryz.func80, Tryz.ntmps80
 go_upto_region 1 with fail
 rw [← HWW.out, ← HRB.out, ← HPB.out]
 clear HWW
 obtain ⟨A, hA⟩ : ∃ A, A = W.alloc (.cells (twoRow a b ao bo ca cb) 26) := ⟨_, rfl⟩
 have rA : A.heap[W.heap.size]? = some (.cells (twoRow a b ao bo ca cb) 26 (0, 0)) := by rw [hA]; exact heap_alloc_new W _
 have bA : Below W.heap.size W A := by rw [hA]; exact balloc (Below.refl _ _) _
 have HRA := lh rA
 have HBA := lh bA
 unfold twoRow at hA
 have HA := lh hA
 clear hA rA bA
 go_upto_region 2 with (first | (go_at_call 28; rw [← HA.out]; refine (HNODE.out _ _ _ _ _ A).mono ?_; rintro e w2 ⟨rfl, hb2⟩; have HB2 := lh hb2; clear hb2))
 obtain ⟨V, hV⟩ : ∃ V, V = w2.alloc (.cells #[.int .i64 18, .int .i64 a.n, .string ⟨#[]⟩, .int .i64 0, .slice (some ⟨W.heap.size, 0, none⟩) 2 2] 26) := ⟨_, rfl⟩
 have hsz : W.heap.size < A.heap.size := lt_of_block HRA.out
 have hsz2 := HB2.out.size
 have hbV : Below w2.heap.size w2 V := by rw [hV]; exact balloc (Below.refl _ _) _
 have bV : Below w.heap.size w V := ((HBW.out.trans (HBA.out.mono HBW.out.size)).trans (HB2.out.mono (by have := HS.out; have := HRB.out; omega))).trans (hbV.mono (by have := HS.out; have := HRB.out; omega))
 have rg : V.heap[W.heap.size]? = some (.cells (twoRow a b ao bo ca cb) 26 (0, 0)) := blk_below (blk_below HRA.out HB2.out hsz) hbV (by omega)
 have rr : V.heap[rb]? = some (.cells zeroRow 26 (0, 0)) := blk_below (blk_below (blk_below HR2.out HBA.out (by have := HS.out; have := HRB.out; omega)) HB2.out (by have := HS.out; have := HRB.out; omega)) hbV (by have := HS.out; have := HRB.out; omega)
 have rn : V.heap[w2.heap.size]? = some (.cells #[.int .i64 18, .int .i64 a.n, .string ⟨#[]⟩, .int .i64 0, .slice (some ⟨W.heap.size, 0, none⟩) 2 2] 26 (0, 0)) := by rw [hV]; exact heap_alloc_new w2 _
 obtain ⟨nb, hnb⟩ : ∃ nb, nb = w2.heap.size := ⟨_, rfl⟩
 have m1 : ¬ (nb = rb) := by have := HS.out; have := HRB.out; omega
 have m2 : ¬ (rb = nb) := by have := HS.out; have := HRB.out; omega
 have m3 : nb ≠ W.heap.size := by omega
 have M3 := lh m3
 have HNB : Hid (w.heap.size ≤ nb) := lh (by have := HS.out; have := HRB.out; omega)
 rw [← hV]
 rw [← hnb] at rn ⊢
 have HBV := lh bV
 have HRG := lh rg
 have HRR := lh rr
 have hrr := rr
 unfold zeroRow at hrr
 obtain ⟨⟨e0, e1, e2, e3, e4⟩, ⟨z0, z1, z2, z3, z4⟩⟩ := five_cells rn
 obtain ⟨⟨x0, x1, x2, x3, x4⟩, ⟨y0, y1, y2, y3, y4⟩⟩ := five_cells hrr
 clear hV hbV bV rg rr rn hnb hsz hsz2 hrr m3 c0 c1 c2 c3 c4 d0 d1 d2 d3 d4 n1 n2
 have FIN : ∀ (k : Int) (u : ByteArray) (q : Nat) (x : Value), joinD s a b = .mk k a.n u 0 [a, b] → TB (set5 (V.setCell ⟨nb, q, none⟩ x) (rb) (.mk k a.n u 0 [a, b]) (some ⟨W.heap.size, 0, none⟩) 2) (rb) (.mk k a.n u 0 [a, b]) (some ⟨W.heap.size, 0, none⟩) 2 ∧ JoinP w s a b ao bo ca cb (.returned (.agg (rowOf (.mk k a.n u 0 [a, b]) (some ⟨W.heap.size, 0, none⟩) 2))) (set5 (V.setCell ⟨nb, q, none⟩ x) (rb) (.mk k a.n u 0 [a, b]) (some ⟨W.heap.size, 0, none⟩) 2) := by
  intro k u q x hj
  have h0 := HRR.out
  unfold zeroRow at h0
  have hs := HS.out
  have hrb := HRB.out
  refine ⟨TB.set (blk_set_ne h0 m2 q x) _ _ _, W.heap.size, by omega, by rw [hj], below_set5 (HBV.out.setCell (p := ⟨nb, q, none⟩) HNB.out x) (by omega), set5_ne (blk_set_ne HRG.out (fun e => M3.out e.symm) q x) (by omega)⟩
 have HFIN := lh FIN
 clear FIN
 by_cases ha : s = w_andalso
 · have e5 : (s.toList == [97, 110, 100, 97, 108, 115, 111]) = true := by rw [← tl_andalso, str_eqB]; exact decide_eq_true ha
   have e6 : s.toList = [97, 110, 100, 97, 108, 115, 111] := by rw [← tl_andalso]; exact ba_eq.2 ha
   obtain ⟨f1, f2⟩ := HFIN.out 16 ⟨#[]⟩ 0 (.int .i64 16) (by rw [ha]; rfl)
   have H1 := lh f1
   have H2 := lh f2
   clear f1 f2 ha
   go_wp2_with fail
   exact bodyPost_ret (res_ty rfl rfl H1.out) rfl H2.out
 · have e5 : (s.toList == [97, 110, 100, 97, 108, 115, 111]) = false := by rw [← tl_andalso, str_eqB]; exact decide_eq_false ha
   by_cases ho : s = w_orelse
   · have e7 : (s.toList == [111, 114, 101, 108, 115, 101]) = true := by rw [← tl_orelse, str_eqB]; exact decide_eq_true ho
     have e6 : s.toList = [111, 114, 101, 108, 115, 101] := by rw [← tl_orelse]; exact ba_eq.2 ho
     obtain ⟨f1, f2⟩ := HFIN.out 17 ⟨#[]⟩ 0 (.int .i64 17) (by rw [ho]; rfl)
     have H1 := lh f1
     have H2 := lh f2
     clear f1 f2 ha ho
     go_wp2_with fail
     exact bodyPost_ret (res_ty rfl rfl H1.out) rfl H2.out
   · have e7 : (s.toList == [111, 114, 101, 108, 115, 101]) = false := by rw [← tl_orelse, str_eqB]; exact decide_eq_false ho
     obtain ⟨f1, f2⟩ := HFIN.out 18 s 2 (.string s) (by unfold joinD; rw [if_neg ha, if_neg ho])
     have H1 := lh f1
     have H2 := lh f2
     clear f1 f2 ha ho
     go_wp2_with fail
     exact bodyPost_ret (res_ty rfl rfl H1.out) rfl H2.out
end Go.Proofs.YthehjeeiodbkjaaGreatDoor
