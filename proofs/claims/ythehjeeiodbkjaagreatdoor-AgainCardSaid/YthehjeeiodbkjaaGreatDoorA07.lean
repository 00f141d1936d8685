/-
  Proved: the contract of the reader's row, of further things; what is left at the door of a function that reads within. Conditions: the reader as it stands in memory; the contract of what the row is of.
-/
import Derived.Test.YthehjeeiodbkjaaGreatDoorA01
import Derived.Test.YthehjeeiodbkjaaGreatDoorA04
import Derived.Defers
set_option linter.unusedSimpArgs false
set_option linter.unusedVariables false
set_option maxRecDepth 100000
set_option maxHeartbeats 16000000
namespace Go.Proofs.YthehjeeiodbkjaaGreatDoor
open Go.RowKit
theorem wpList_itm {P : Program} {ops : Array Oper} {rest : List Oper} {o : Oper} {a : Act} {Q : Exit → Act → World → Prop} {w : World} {n : Nat} {v : Value} {R : Ending → World → Prop} {ts : Array TypeId} (hc : ∀ (x9 : Array Value) (w : World), (callFunc n x9).run P w = .ok (.enter n x9) w) (hgd : o.guard = none) (f x : Operand) (ho : o.op = .call { callee := .value f, args := #[x], argTypes := ts }) (hf : a.eval f = .func (.func n) #[] #[]) (hx : a.eval x = v) (h : Calls P n #[v] w R) (hp : ∀ c w', R (.panicked c) w' → Q (.panic c) a w') (hn : ∀ w', ¬ R .outgrown w') (k : ∀ v w', R (.returned v) w' → wpList P ops Q rest (a.put o.dst v) w') : wpList P ops Q (o :: rest) a w := by
 refine wpList_plain hgd fun K hK => ?_
 unfold Oper.wp execOp
 simp only [ho, resolve, invoke, Sem.run_bind, Sem.run_pure, Result.andThen_ok, List.map_toArray, List.map_cons, List.map_nil, hf, hx, Deferred.ofValue, hc]
 rw [Oper.upon_enter, show (#[] ++ #[v] ++ #[] : Array Value) = #[v] by simp]
 refine h.mono ?_
 intro e w' hR
 cases e with
 | returned v => exact hK _ _ (k v w' hR)
 | panicked c => exact hp c w' hR
 | outgrown => exact absurd hR (hn w')
theorem PPost.out {α : Type} {E : Env} {d : Nat} {w w' : World} {T : Res α} {Q : α → Value → World → Prop} : ¬ PPost E d w T Q .outgrown w' := by
 rintro ⟨-, ⟨x, j, v, -, h, -⟩ | ⟨k, a, -, h, -⟩⟩ <;> cases h
theorem PPost.got {α : Type} {E : Env} {d : Nat} {w w' : World} {T : Res α} {Q : α → Value → World → Prop} {v : Value} (h : PPost E d w T Q (.returned v) w') : w.grownBy w' (some E.rb) ∧ ∃ x j, T = .ok x j ∧ Q x v w' ∧ Rd E w' j d := by
 obtain ⟨hg, ⟨x, j, v, hT, h, hq, hr⟩ | ⟨k, a, -, h, -⟩⟩ := h
 · cases h; exact ⟨hg, x, j, hT, hq, hr⟩
 · cases h
theorem PPost.pan {α β : Type} {E : Env} {d : Nat} {w w1 w' : World} {T : Res α} {U : Res β} {Q : α → Value → World → Prop} {Q2 : β → Value → World → Prop} {c : List PanicEntry} (h : PPost E d w1 T Q (.panicked c) w') (hg : w.grownBy w1 (some E.rb)) (hT : ∀ k a, T = .bad k a → U = .bad k a) : PPost E d w U Q2 (.panicked c) w' := by
 obtain ⟨h1, ⟨x, j, v, -, h, -⟩ | ⟨k, a, hx, h, jj, hr⟩⟩ := h
 · cases h
 · cases h; exact PPost.bad (gr_trans hg h1) (hT _ _ hx) hr
theorem rowN_any (n : Nat) (hcf : ∀ (x9 : Array Value) (w : World), (callFunc n x9).run Tryz.prog w = .ok (.enter n x9) w) (E : Env) (d : Nat) (item : M Ty) (HI : ItemP E d n item) (s : ByteArray) (w : World) (i : Nat) (h : Rd E w i d) : Calls Tryz.prog 76 #[pr E, .func (.func n) #[] #[], .string s] w (PPost E d w (rowD E.P item s i) (OwQ w)) := by
 have HCF := lh hcf
 clear hcf
 obtain ⟨T, hT⟩ : ∃ T, T = rowD E.P item s i := ⟨_, rfl⟩
 rw [← hT]
 have HT : Hid (T = (item >>= fun x => sepL E.P item s (E.P.toks.length + 1) [x]) i) := lh hT
 have H := lh h
 have HIT := lh HI
 have hlr := h.ltr
 have hN := h.ok.len
 have hi9 := h.le
 have HC0 := lh (HI.call w i h)
 have HEAT : Hid (∀ w1 j, Rd E w1 j d → Calls Tryz.prog 38 #[pr E, .string s] w1 fun e w' => e = .returned (.bool (isD E.P s j)) ∧ Rd E w' (if isD E.P s j = true then j + 1 else j) d ∧ w1.grownBy w' (some E.rb)) := lh (fun w1 j h1 => eat_any E w1 j d s h1)
 have HCJ : Hid (∀ w1 j, Rd E w1 j d → Calls Tryz.prog n #[pr E] w1 (PPost E d w1 (item j) (NdQ w1))) := lh (fun w1 j h1 => HI.call w1 j h1)
 unfold pr at HC0 HEAT HCJ ⊢
 clear h HI hT
 go_enter Tryz.func76, Tryz.ntmps76
 go_upto_region 2 with (first | ((with_reducible show wpList _ _ _ _ _ _); refine wpList_itm HCF.out (by rfl) (.tmp 8) (.tmp 9) (by rfl) (by rfl) (by rfl) HC0.out ?_ ?_ ?_; exact (fun c w1 h1 => ⟨rfl, h1.pan (World.grownBy.refl _ _) fun k a hx => HT.out.trans (bind_bad hx)⟩); exact (fun w1 => PPost.out); intro v w1 h1; obtain ⟨hg1, x, j, hx, ⟨ao, cap, rfl, hsl⟩, hr1⟩ := h1.got; have HX := lh hx; have HSL := lh hsl; have HR1 := lh hr1; have HG1 := lh hg1; unfold rowOf at ⊢; clear hx hsl hr1 hg1 h1))
 obtain ⟨W, hW⟩ : ∃ W, W = w1.alloc (.cells (rowOf x ao cap) 26) := ⟨_, rfl⟩
 have HONE : Hid (OwnT w.heap.size W (fun b => w.heap.size ≤ b ∧ b < w1.heap.size) (.slice (some ⟨w1.heap.size, 0, none⟩) 1 1) [⟨x, ao, cap⟩]) := lh (OwnT.one ⟨x, ao, cap⟩ hW HG1.out.size HSL.out (fun b hb => hb.2))
 have hbW : Below w1.heap.size w1 W := by rw [hW]; exact balloc (Below.refl _ _) _
 have HRW := lh (HR1.out.keep hbW)
 have HGW := lh (gr_trans HG1.out (gr_below hbW _))
 have hlW : w1.heap.size < W.heap.size := by rw [hW, World.size_alloc]; omega
 have HT1 : Hid (T = sepL E.P item s (E.P.toks.length + 1) [x] j) := lh (HT.out.trans (bind_ok HX.out))
 have hij := HIT.out.mono i x j hi9 HX.out
 have hjN := HR1.out.le
 unfold rowOf at hW
 rw [← hW]
 clear hW hbW
 obtain ⟨N, hNN⟩ : ∃ N, N = E.P.toks.length := ⟨_, rfl⟩
 rw [← hNN] at HT1 hN hi9 hjN
 have HNN := lh hNN
 have HWS := lh hlW
 have HW1S := lh HG1.out.size
 clear hNN HT HX HSL HR1 HG1 HC0
 go_wp2_with fail
 go_loopw [7] (fun v wr => ∃ (bs : List Bt) (Dj : Nat → Prop) (m f : Nat), T = sepL E.P item s f (bs.map Bt.t) m ∧ N < m + f ∧ bs.length ≤ m + 1 ∧ OwnT w.heap.size wr Dj v bs ∧ (∀ b, Dj b → w.heap.size ≤ b ∧ b < wr.heap.size ∧ v.ownBlock ≠ some b) ∧ Rd E wr m d ∧ w.grownBy wr (some E.rb)) (fun _ wr => N - posOf wr E.rb)
 case atStart => exact ⟨[⟨x, ao, cap⟩], _, j, N + 1, HT1.out, by omega, by simp, HONE.out, fun b hb => ⟨hb.1, Nat.lt_trans hb.2 HWS.out, fun e => by have := hb.2; simp [Value.ownBlock] at e; omega⟩, HRW.out, HGW.out⟩
 case round =>
  obtain ⟨bs, Dj, m, f, hT, hf, hlen, hown, hDj, hr, hg⟩ := hrel
  obtain ⟨wo, rfl⟩ : ∃ wo : World, wo = wr := ⟨_, rfl⟩
  have hmN : m ≤ N := by rw [HNN.out]; exact hr.le
  obtain ⟨f, rfl⟩ : ∃ f', f = f' + 1 := ⟨f - 1, by omega⟩
  have HR := lh hr
  have HG := lh hg
  have HTJ := lh hT
  have HOWN := lh hown
  have HDJ := lh hDj
  have hpos := hr.pos
  have HE := lh (HEAT.out wo m hr)
  obtain ⟨b, hb⟩ : ∃ b, b = isD E.P s m := ⟨_, rfl⟩
  rw [← hb] at HE
  have HB := lh hb
  have hbl : b = true → m < N := fun e => by rw [HNN.out]; exact isD_lt (by rw [← hb]; exact e)
  have HBL := lh hbl
  have HPOS := lh hpos
  clear hr hg hT hown hDj hb hbl hpos
  obtain ⟨va, vc, hvs, hread⟩ := HOWN.out.read (D' := fun b => w.heap.size ≤ b ∧ b < wo.heap.size) (fun b hb => ⟨(HDJ.out b hb).1, (HDJ.out b hb).2.1⟩) (fun b hb => HOWN.out.own.lt b hb)
  subst hvs
  have HREAD := lh hread
  clear hread
  cases b with
  | false =>
   go_wp2_with (first | (go_at_call 38; refine HE.out.mono ?_; rintro e w2 ⟨rfl, hr2, hg2⟩; have HR2 : Hid (Rd E w2 m d) := lh (by simpa using hr2); have HG2 := lh hg2; clear hr2 hg2))
   go_ret
   have ht := HTJ.out
   rw [sepL_at, if_neg (by rw [← HB.out]; decide)] at ht
   exact PPost.ok (gr_trans HG.out HG2.out) ht ⟨bs, Dj, rfl, HOWN.out.gr HG2.out (by omega) (fun b hb => ⟨(HDJ.out b hb).2.1, by have := (HDJ.out b hb).1; omega⟩), fun b hb => ⟨(HDJ.out b hb).1, Nat.lt_of_lt_of_le (HDJ.out b hb).2.1 HG2.out.size, (HDJ.out b hb).2.2⟩⟩ HR2.out
  | true =>
   have hm1 := HBL.out rfl
   go_upto_region 3 with (first | (go_at_call 38; refine HE.out.mono ?_; rintro e w2 ⟨rfl, hr2, hg2⟩; have HR2 : Hid (Rd E w2 (m + 1) d) := lh (by simpa using hr2); have HG2 := lh hg2; clear hr2 hg2))
   have HC := lh (HCJ.out w2 (m + 1) HR2.out)
   have ht := HTJ.out
   rw [sepL_at, if_pos (by rw [← HB.out])] at ht
   have HTK := lh ht
   clear ht HTJ
   obtain ⟨i26, hi, hz0, hz1, hz2⟩ := info_parts info26
   have HI26 := lh hi
   clear hi
   go_wp2_with (first
    | ((with_reducible show wpList _ _ _ _ _ _); refine wpList_itm HCF.out (by rfl) (.tmp 16) (.tmp 17) (by rfl) (by rfl) (by rfl) HC.out ?_ ?_ ?_; exact (fun c w3 h3 => ⟨rfl, h3.pan (gr_trans HG.out HG2.out) fun k a hx => HTK.out.trans (bind_bad hx)⟩); exact (fun w3 => PPost.out); intro v w3 h3; obtain ⟨hg3, y, jj, hx, ⟨a7, k7, rfl, hs7⟩, hr3⟩ := h3.got; have HX := lh hx; have HS7 := lh hs7; have HR3 := lh hr3; have HG3 := lh hg3; have HOA : Hid ((w3.alloc (.cells (rowOf y a7 k7) 26)).ownsRow w.heap.size 26 5 (.slice va bs.length vc) bs.length (tcells bs)) := lh (((HOWN.out.gr (gr_trans HG2.out hg3) (by omega) (fun b hb => ⟨(HDJ.out b hb).2.1, by have := (HDJ.out b hb).1; omega⟩)).own).alloc _); have hone := ty_one ⟨y, a7, k7⟩; have hbase : w.heap.size ≤ (w3.alloc (.cells (rowOf y a7 k7) 26)).heap.size := (by rw [World.size_alloc]; have := (gr_trans HG.out (gr_trans HG2.out hg3)).size; omega); unfold rowOf at HOA hone hbase ⊢; clear hx hs7 hr3 hg3 h3)
    | (at_builtin; go_must (refine wpList_append3 rfl (.tmp 15) (.tmp 19) 24 24 rfl w.heap.size 26 26 i26 _ 5 64 Tryz.underlying24 Tryz.underlying24 HI26.out hz0 hz1 hz2 rfl (by decide) (.slice va bs.length vc) bs.length (tcells bs) rfl HOA.out (some ⟨w3.heap.size, 0, none⟩) 1 1 [.int .i64 y.k, .int .i64 y.n, .string y.s, .int .i64 y.q, .slice a7 y.args.length k7] rfl rfl (fun _ => ⟨_, rfl, new_cells (c := #[.int .i64 y.k, .int .i64 y.n, .string y.s, .int .i64 y.q, .slice a7 y.args.length k7]) _ (by simp)⟩) hone (by unfold maxLen; omega) (by omega) hbase ?_); intro v1 w9 hown1 hgr1 hat1; have HO1 := lh hown1; have HGR1 := lh hgr1; have HAT1 := lh hat1; clear hown1 hgr1 hat1))
   have FIN : OwnT w.heap.size w9 (fun b => Dj b ∨ (w2.heap.size ≤ b ∧ b < w3.heap.size)) v1 (bs ++ [⟨y, a7, k7⟩]) ∧ (∀ b, (Dj b ∨ (w2.heap.size ≤ b ∧ b < w3.heap.size)) → w.heap.size ≤ b ∧ b < w9.heap.size ∧ v1.ownBlock ≠ some b) ∧ Rd E w9 jj d ∧ w.grownBy w9 (some E.rb) := by
    obtain ⟨A, hA⟩ : ∃ A, A = w3.alloc (.cells (rowOf y a7 k7) 26) := ⟨_, rfl⟩
    have hgr1 := HGR1.out
    have hown1 := HO1.out
    have hat1 : v1.ownBlock = (Value.slice va bs.length vc).ownBlock ∨ v1.ownBlock = some A.heap.size := by
     rw [hA]
     simpa [rowOf] using HAT1.out
    have eA : A = w3.alloc (.cells #[.int .i64 y.k, .int .i64 y.n, .string y.s, .int .i64 y.q, .slice a7 y.args.length k7] 26) := hA
    rw [← eA] at hgr1
    have hwo2 := HG2.out.size
    have h23 := HG3.out.size
    have hwwo := HG.out.size
    have hsA : A.heap.size = w3.heap.size + 1 := by rw [hA, World.size_alloc]
    have h3A : Below w3.heap.size w3 A := by rw [hA]; exact balloc (Below.refl _ _) _
    have hold : ∀ g, (Value.slice va bs.length vc).ownBlock = some g → w.heap.size ≤ g ∧ g < wo.heap.size := fun g hg => HOWN.out.own.lt g hg
    have hgwo3 : wo.grownBy w3 (some E.rb) := gr_trans HG2.out HG3.out
    have hgwoA : wo.grownBy A (some E.rb) := gr_trans hgwo3 (gr_below h3A _)
    have hDwo : ∀ b, Dj b → b < wo.heap.size ∧ b ≠ E.rb := fun b hb => ⟨(HDJ.out b hb).2.1, by have := (HDJ.out b hb).1; omega⟩
    have hc9 : ∀ b, b < A.heap.size → (Value.slice va bs.length vc).ownBlock ≠ some b → ∀ off, w9.cell? ⟨b, off, none⟩ = A.cell? ⟨b, off, none⟩ := fun b hb hne off => World.cell?_of_block (hgr1.block b hb (fun e => hne e.symm))
    have hw9 := hgr1.size
    refine ⟨⟨?_, fun b hb => ?_⟩, fun b hb => ?_, ?_, ?_⟩
    · rw [List.length_append, tcells_append]
      have e : tcells [⟨y, a7, k7⟩] = [.int .i64 y.k, .int .i64 y.n, .string y.s, .int .i64 y.q, .slice a7 y.args.length k7] := rfl
      rw [e]
      exact hown1
    · rcases List.mem_append.1 hb with hb | hb
      · refine ((HOWN.out.sl b hb).keep fun d' hd' off => ?_).mono fun b h => .inl h
        have h1 := HDJ.out d' hd'
        rw [hc9 d' (by omega) h1.2.2 off]
        exact gr_cells hgwoA hDwo d' hd' off
      · rw [List.mem_singleton] at hb
        subst hb
        refine (HS7.out.keep fun d' hd' off => ?_).mono fun b h => .inr h
        rw [hc9 d' (by omega) (fun e => by have := (hold d' e).2; omega) off]
        exact below_cells h3A d' hd'.2 off
    · have hb9 : w.heap.size ≤ b ∧ b < w3.heap.size ∧ (Value.slice va bs.length vc).ownBlock ≠ some b := by
       rcases hb with hb | hb
       · exact ⟨(HDJ.out b hb).1, by have := (HDJ.out b hb).2.1; omega, (HDJ.out b hb).2.2⟩
       · exact ⟨by omega, hb.2, fun e => by have := (hold b e).2; omega⟩
      refine ⟨hb9.1, by omega, ?_⟩
      rcases hat1 with e | e
      · rw [e]; exact hb9.2.2
      · rw [e, hsA]
        intro e2
        have := Option.some.inj e2
        omega
    · exact (HR3.out.keep h3A).keepB (grew_none hgr1 (N := w.heap.size) (by omega) (fun g hg => (hold g hg).1)) H.out.low.2
    · exact gr_on (gr_trans HG.out hgwoA) hgr1 (.inr fun g hg => (hold g hg).1)
   have HFIN := lh FIN
   have hmj := HIT.out.mono (m + 1) y jj (by rw [← HNN.out]; omega) HX.out
   have hT9 : T = sepL E.P item s f ((bs ++ [Bt.mk y a7 k7]).map Bt.t) jj := by rw [HTK.out, bind_ok HX.out, List.map_append]; rfl
   go_roundw
   case rel => exact ⟨bs ++ [⟨y, a7, k7⟩], _, jj, f, hT9, by omega, by rw [List.length_append]; simp; omega, HFIN.out.1, HFIN.out.2.1, HFIN.out.2.2.1, HFIN.out.2.2.2⟩
   case measure =>
    have h1 := HFIN.out.2.2.1.pos
    have h2 := HPOS.out
    have h3 : jj ≤ N := by rw [HNN.out]; exact HFIN.out.2.2.1.le
    omega
theorem leaves_end {fn : Func} {tmps : Array Value} {R : Ending → World → Prop} {b i d : Nat} {E : Env} {w : World} {u : FrameMode} (hu : u ≠ .run) (hr : Rd E w i (d + 1)) (hc : w.heap[b]? = some (.cells #[.pointer (some ⟨E.rb, 0, none⟩)] 42 (0, 0))) (h : Leaves Tryz.prog fn tmps R [] (settle u) (w.setCell ⟨E.rb, 4, none⟩ (.int .i64 (d : Int)))) :
 Leaves Tryz.prog fn tmps R [{ target := Target.fn (Fn.func 72) #[.pointer (some ⟨b, 0, none⟩)], args := #[] }] u w := by
 refine leaves_cons (f := 72) (args := #[.pointer (some ⟨b, 0, none⟩)]) hu (by simp [go_sem]) ?_
 refine (end_any E w i d b u hr hc).mono ?_
 rintro e u' w'' ⟨rfl, rfl, rfl⟩
 exact h
theorem dleave_bad {E : Env} {d d1 k a b i' : Nat} (hdd : d1 = d + 1) {w W : World} {fn : Func} {tmps : Array Value} {T : Res Ty} {Q : Ty → Value → World → Prop} (hg : w.grownBy W (some E.rb)) (hT : T = .bad k a) (hr : Rd E W i' d1) (hc : W.heap[b]? = some (.cells #[.pointer (some ⟨E.rb, 0, none⟩)] 42 (0, 0))) :
 Leaves Tryz.prog fn tmps (PPost E d w T Q) [{ target := Target.fn (Fn.func 72) #[.pointer (some ⟨b, 0, none⟩)], args := #[] }] (.panicking (slipV k a)) W := by
 subst hdd
 exact leaves_end (by intro h; cases h) hr hc (PPost.bad (gr_trans hg (gr_set _ _ _ _)) hT (hr.setd (d' := d) (by have := hr.d60; omega)))
theorem dleave_ok {E : Env} {d d1 b j : Nat} (hdd : d1 = d + 1) {w W : World} {fn : Func} {t : Tmp} (hres : fn.results = #[.cell t 26]) {tmps : Array Value} (ht : tmps.getD t undef = .pointer (some ⟨w.heap.size, 0, none⟩)) {T : Res Ty} {x : Ty} {ao : Option Addr} {cap : Nat} (hrb : E.rb < w.heap.size) (f1 : TB W w.heap.size x ao cap) (hg : w.grownBy W (some E.rb)) (hT : T = .ok x j) (hr : Rd E W j d1) (hq : NdQ w x (.agg (rowOf x ao cap)) W) (hc : W.heap[b]? = some (.cells #[.pointer (some ⟨E.rb, 0, none⟩)] 42 (0, 0))) :
 Leaves Tryz.prog fn tmps (PPost E d w T (NdQ w)) [{ target := Target.fn (Fn.func 72) #[.pointer (some ⟨b, 0, none⟩)], args := #[] }]   .returning W := by
 subst hdd
 refine leaves_end (by intro h; cases h) hr hc ?_
 refine ⟨_, res_ty hres ht (blk_set_ne f1 (by omega) 4 _), PPost.ok (gr_trans hg (gr_set _ _ _ _)) hT ?_ (hr.setd (d' := d) (by have := hr.d60; omega))⟩
 obtain ⟨ao', cap', e, hs⟩ := hq
 refine ⟨ao', cap', e, (hs.keep fun b hb off => World.cell?_of_block (a := ⟨b, off, none⟩) (blk_set_ne rfl (by have := hb.1; show b ≠ E.rb; omega) 4 _)).mono fun b hb => ⟨hb.1, by rw [World.size_setCell]; exact hb.2⟩⟩
def bodyPostE (fn : Func) (E : Env) (d : Nat) (w : World) (T : Res Ty) : Exit → Act → World → Prop
 | .normal, a, W | .ret, a, W => Leaves Tryz.prog fn a.tmps (PPost E d w T (NdQ w)) a.defers .returning W
 | .panic chain, a, W => ∃ b k q i', a.defers = [{ target := Target.fn (Fn.func 72) #[.pointer (some ⟨b, 0, none⟩)], args := #[] }] ∧ chain = slipV k q ∧ w.grownBy W (some E.rb) ∧ T = .bad k q ∧ Rd E W i' (d + 1) ∧ W.heap[b]? = some (.cells #[.pointer (some ⟨E.rb, 0, none⟩)] 42 (0, 0))
 | _, _, _ => False
theorem bodyPostE_le (fn : Func) (E : Env) (d : Nat) (w : World) (T : Res Ty) : ∀ e a W, bodyPostE fn E d w T e a W → bodyPostD Tryz.prog fn (PPost E d w T (NdQ w)) e a W := by
 intro e a W h
 cases e with
 | normal => exact h
 | ret => exact h
 | panic chain =>
  obtain ⟨b, k, q, i', hd, rfl, hg, hT, hr, hc⟩ := h
  show Leaves _ _ _ _ a.defers _ _
  rw [hd]
  exact dleave_bad rfl hg hT hr hc
 | exit id => exact h.elim
 | goto l => exact h.elim
 | outgrown => exact h.elim
theorem bad_E {E : Env} {d d1 k q b i' : Nat} (hdd : d1 = d + 1) {w W : World} {fn : Func} {tmps : Array Value} {T : Res Ty} (hg : w.grownBy W (some E.rb)) (hT : T = .bad k q) (hr : Rd E W i' d1) (hc : W.heap[b]? = some (.cells #[.pointer (some ⟨E.rb, 0, none⟩)] 42 (0, 0))) :
 bodyPostE fn E d w T (.panic (slipV k q)) { tmps := tmps, defers := [{ target := Target.fn (Fn.func 72) #[.pointer (some ⟨b, 0, none⟩)], args := #[] }] } W := by
 subst hdd
 exact ⟨b, k, q, i', rfl, rfl, hg, hT, hr, hc⟩
theorem ret_E {E : Env} {d d1 b j : Nat} (hdd : d1 = d + 1) {w W : World} {fn : Func} {t : Tmp} (hres : fn.results = #[.cell t 26]) {tmps : Array Value} (ht : tmps.getD t undef = .pointer (some ⟨w.heap.size, 0, none⟩)) {T : Res Ty} {x : Ty} {ao : Option Addr} {cap : Nat} (hrb : E.rb < w.heap.size) (f1 : TB W w.heap.size x ao cap) (hg : w.grownBy W (some E.rb)) (hT : T = .ok x j) (hr : Rd E W j d1) (hq : NdQ w x (.agg (rowOf x ao cap)) W) (hc : W.heap[b]? = some (.cells #[.pointer (some ⟨E.rb, 0, none⟩)] 42 (0, 0))) :
 bodyPostE fn E d w T .ret { tmps := tmps, defers := [{ target := Target.fn (Fn.func 72) #[.pointer (some ⟨b, 0, none⟩)], args := #[] }] } W := dleave_ok hdd hres ht hrb f1 hg hT hr hq hc
def bodyPostF (fn : Func) (E : Env) (d : Nat) (w : World) (T : Res Ty) : Exit → Act → World → Prop
 | .normal, a, W | .ret, a, W => Leaves Tryz.prog fn a.tmps (PPost E d w T (NdQ w)) a.defers .returning W
 | .panic chain, a, W => (a.defers = [] ∧ PPost E d w T (NdQ w) (.panicked chain) W) ∨ bodyPostE fn E d w T (.panic chain) a W
 | _, _, _ => False
theorem bodyPostF_le (fn : Func) (E : Env) (d : Nat) (w : World) (T : Res Ty) : ∀ e a W, bodyPostF fn E d w T e a W → bodyPostD Tryz.prog fn (PPost E d w T (NdQ w)) e a W := by
 intro e a W h
 cases e with
 | normal => exact h
 | ret => exact h
 | panic chain =>
  rcases h with ⟨hd, hp⟩ | h
  · show Leaves _ _ _ _ a.defers _ _
    rw [hd]
    exact hp
  · exact bodyPostE_le fn E d w T _ a W h
 | exit id => exact h.elim
 | goto l => exact h.elim
 | outgrown => exact h.elim
theorem bad_F {E : Env} {d d1 k q b i' : Nat} (hdd : d1 = d + 1) {w W : World} {fn : Func} {tmps : Array Value} {T : Res Ty} (hg : w.grownBy W (some E.rb)) (hT : T = .bad k q) (hr : Rd E W i' d1) (hc : W.heap[b]? = some (.cells #[.pointer (some ⟨E.rb, 0, none⟩)] 42 (0, 0))) :
 bodyPostF fn E d w T (.panic (slipV k q)) { tmps := tmps, defers := [{ target := Target.fn (Fn.func 72) #[.pointer (some ⟨b, 0, none⟩)], args := #[] }] } W := .inr (bad_E hdd hg hT hr hc)
theorem bad_N {E : Env} {d k q i' : Nat} {w W : World} {fn : Func} {tmps : Array Value} {T : Res Ty} (hg : w.grownBy W (some E.rb)) (hT : T = .bad k q) (hr : Rd E W i' d) :
 bodyPostF fn E d w T (.panic (slipV k q)) { tmps := tmps, defers := [] } W := .inl ⟨rfl, PPost.bad hg hT hr⟩
theorem ret_N {E : Env} {d j : Nat} {w W : World} {fn : Func} {t : Tmp} (hres : fn.results = #[.cell t 26]) {tmps : Array Value} (ht : tmps.getD t undef = .pointer (some ⟨w.heap.size, 0, none⟩)) {T : Res Ty} {x : Ty} {ao : Option Addr} {cap : Nat} (f1 : TB W w.heap.size x ao cap) (hg : w.grownBy W (some E.rb)) (hT : T = .ok x j) (hr : Rd E W j d) (hq : NdQ w x (.agg (rowOf x ao cap)) W) :
 bodyPostF fn E d w T .ret { tmps := tmps, defers := [] } W := ⟨_, res_ty hres ht f1, PPost.ok hg hT hq hr⟩
theorem ret_F {E : Env} {d d1 b j : Nat} (hdd : d1 = d + 1) {w W : World} {fn : Func} {t : Tmp} (hres : fn.results = #[.cell t 26]) {tmps : Array Value} (ht : tmps.getD t undef = .pointer (some ⟨w.heap.size, 0, none⟩)) {T : Res Ty} {x : Ty} {ao : Option Addr} {cap : Nat} (hrb : E.rb < w.heap.size) (f1 : TB W w.heap.size x ao cap) (hg : w.grownBy W (some E.rb)) (hT : T = .ok x j) (hr : Rd E W j d1) (hq : NdQ w x (.agg (rowOf x ao cap)) W) (hc : W.heap[b]? = some (.cells #[.pointer (some ⟨E.rb, 0, none⟩)] 42 (0, 0))) :
 bodyPostF fn E d w T .ret { tmps := tmps, defers := [{ target := Target.fn (Fn.func 72) #[.pointer (some ⟨b, 0, none⟩)], args := #[] }] } W := dleave_ok hdd hres ht hrb f1 hg hT hr hq hc
end Go.Proofs.YthehjeeiodbkjaaGreatDoor
