/-
  Proved: what is written is read as it was: declarations; what follows the grammar (no fun with a type) is read from its words as it was. Conditions: the tokens are those of the words.
-/
import Derived.Test.YthehjeeiodbkjaaGreatDoorA01
import Derived.Test.YthehjeeiodbkjaaGreatDoorA28
import Derived.Test.YthehjeeiodbkjaaGreatDoorA27
set_option linter.unusedSimpArgs false
set_option linter.unusedVariables false
set_option linter.unusedSectionVars false
set_option maxRecDepth 100000
set_option maxHeartbeats 16000000
namespace Go.Proofs.YthehjeeiodbkjaaGreatDoor
open Go.RowKit
section
variable {P : Src}
theorem mo_tv {g : Nat} {a : Int} {s : ByteArray} (h : Nm 5 s) : Mo P .tv g [.mk 30 a s 0 []] [s] := by
 intro G i j hG hA hj hO hF
 refine ⟨[.mk 30 (P.A i) s 0 []], by simp only [stripL, strip_mk], ?_⟩
 rw [← hj]
 exact bind_to (kind_ok (hA.1.nm h)) rfl
theorem one_k {i j : Nat} {n : Ty} (h : oneB P i = .ok n j) : P.K i = 5 := by
 obtain ⟨s, k, h1, -⟩ := bind_invv (show (kindD P 5 >>= fun s => (ret (Ty.mk 30 (P.A i) s 0 []) : M Ty)) i = Res.ok n j from h)
 exact (kind_inv h1).1
theorem mo_h_none {g : Nat} {s : ByteArray} (h : Nm 3 s) : Mo P (.head s) g [] [s] := by
 intro G i j hG hA hj hO hF
 have hk := hA.1.nm h
 have hk1 : P.K i = 3 := hk.1
 refine ⟨[], rfl, fun k a => ?_⟩
 unfold headB
 rw [if_neg (by rw [hk1]; decide), if_neg (by rw [nsg hk1]; decide), ← hj]
 exact bind_to (kind_ok hk) rfl
theorem mo_h_one {g : Nat} {s : ByteArray} {v : Ty} {ws : List ByteArray} (h : Nm 3 s) (hv : Mo P .tv g [v] ws) : Mo P (.head s) g [v] (ws ++ [s]) := by
 intro G i j hG hA hj hO hF
 obtain ⟨ha, hb, -⟩ := hA.app
 simp only [List.length_append, List.length_cons, List.length_nil] at hj
 obtain ⟨v', e1, h2⟩ := hv.one hG ha rfl trivial
 refine ⟨[v'], by simp only [stripL, e1], fun k a => ?_⟩
 unfold headB
 rw [if_pos (one_k h2)]
 refine bind_to h2 (bind_to (kind_ok (hb.nm h)) ?_)
 rw [show j = i + ws.length + 1 by omega]; rfl
theorem mo_h_more {g : Nat} {s : ByteArray} {x y : Ty} {l : List Ty} {ws : List ByteArray} (h : Nm 3 s) (hv : Mo P (.row .tv s_com) g (x :: y :: l) ws) : Mo P (.head s) g (x :: y :: l) (s_lp :: (ws ++ [s_rp, s])) := by
 intro G i j hG hA hj hO hF
 obtain ⟨h1, hA⟩ := hA
 obtain ⟨ha, hb, hc, -⟩ := hA.app
 simp only [List.length_append, List.length_cons, List.length_nil] at hj
 have hle := AtW.le ha
 obtain ⟨l', e1, h2⟩ := hv G _ _ hG ha rfl row_tv ⟨trivial, by rw [hb.sg.is]; decide⟩
 refine ⟨l', e1, fun k a => ?_⟩
 unfold headB
 rw [if_neg h1.sg.nk.2.2.2.2, if_pos h1.sg.me]
 refine bind_to (row_rd hle h2) (bind_to (must_ok hb.sg) (bind_to (kind_ok (hc.nm h)) ?_))
 rw [show j = i + 1 + ws.length + 1 + 1 by omega]; rfl
theorem mo_con0 {g : Nat} {a : Int} {s : ByteArray} (h : Nm 4 s) : Mo P .con g [.mk 40 a s 0 []] [s] := by
 intro G i j hG hA hj hO hF
 refine ⟨[.mk 40 (P.A i) s 0 []], by simp only [stripL, strip_mk], ?_⟩
 show conB P _ i = _
 have hF : isD P w_of j = false := hF.2
 rw [← hj] at hF ⊢
 exact bind_to (kind_ok (hA.1.nm h)) (bind_to (eat_no hF) rfl)
theorem mo_con1 {g : Nat} {a : Int} {s : ByteArray} {t : Ty} {tw : List ByteArray} (h : Nm 4 s) (ht : Mo P (.ty 0) g [t] tw) : Mo P .con (g + 1) [.mk 40 a s 0 [t]] (s :: w_of :: tw) := by
 intro G i j hG hA hj hO hF
 obtain ⟨H, rfl, hH⟩ := up hG
 obtain ⟨h1, h2, hA⟩ := hA
 simp only [List.length_cons] at hj
 obtain ⟨t', e1, h3⟩ := ht.one (j := j) hH hA (by omega) hF.1
 refine ⟨[.mk 40 (P.A i) s 0 [t']], by simp only [stripL, strip_mk, e1], ?_⟩
 exact bind_to (kind_ok (h1.nm h)) (bind_to (eat_ok h2.sg) (bind_to (go_typ h3) rfl))
theorem mo_db {g : Nat} {a : Int} {s : ByteArray} {v : List Ty} {x : Ty} {l : List Ty} {hw ws : List ByteArray} (hh : Mo P (.head s) g v hw) (hr : Mo P (.row .con s_bar) g (x :: l) ws) : Mo P .db g [.mk 39 a s v.length (v ++ x :: l)] (hw ++ s_eq :: ws) := by
 intro G i j hG hA hj hO hF
 obtain ⟨ha, hb, hc⟩ := hA.app
 simp only [List.length_append, List.length_cons] at hj
 have hle := AtW.le hc
 obtain ⟨v', e1, h2⟩ := hh G _ _ hG ha rfl trivial trivial
 obtain ⟨l', e2, h3⟩ := hr G _ j hG hc (by omega) row_con ⟨⟨hF.1, hF.2.2⟩, hF.2.1⟩
 have hlen : v.length = v'.length := by rw [← stripL_len v, ← stripL_len v', e1]
 refine ⟨[.mk 39 (P.A i) s v'.length (v' ++ l')], by simp only [stripL, strip_mk, stripL_app] at e2 ⊢; rw [hlen, e1, e2], ?_⟩
 exact bind_to (h2 39 (P.A i)) (bind_to (must_ok hb.sg) (bind_to (row_rd (by omega) h3) rfl))
theorem dx_data_ok {R : Rec} {i j : Nat} {l : List Ty} (hs : Sg P i w_data) (hr : rowD P (dbindB P R) w_and (i + 1) = .ok l j) : dxB P R i = .ok (.mk 38 (P.A i) e_ 0 l) j := by
 unfold dxB
 rw [if_pos hs.me]
 exact bind_to hr rfl
theorem mo_dx_data {g : Nat} {a : Int} {x : Ty} {l : List Ty} {ws : List ByteArray} (hr : Mo P (.row .db w_and) g (x :: l) ws) : Mo P .dx g [.mk 38 a e_ 0 (x :: l)] (w_data :: ws) := by
 intro G i j hG hA hj hO (hF : FA P j)
 obtain ⟨h1, hc⟩ := hA
 simp only [List.length_cons] at hj
 have hle := AtW.le hc
 obtain ⟨l', e2, h3⟩ := hr G _ j hG hc (by omega) row_db ⟨⟨hF.t, hF.bar, hF.of_⟩, hF.and_⟩
 exact ⟨[.mk 38 (P.A i) e_ 0 l'], by simp only [stripL, strip_mk] at e2 ⊢; rw [e2], .inl h1.sg.me, dx_data_ok h1.sg (row_rd (by omega) h3)⟩
theorem dx_exn_ok {R : Rec} {i j : Nat} {c : Ty} (hs : Sg P i w_exception) (hr : conB P R (i + 1) = .ok c j) : dxB P R i = .ok (.mk 41 (P.A i) c.s c.q c.args) j := by
 unfold dxB
 rw [if_neg (by rw [hs.is]; decide)]
 exact bind_to hr rfl
theorem mo_dx_exn {g : Nat} {a b : Int} {s : ByteArray} {l : List Ty} {ws : List ByteArray} (hr : Mo P .con g [.mk 40 b s 0 l] ws) : Mo P .dx g [.mk 41 a s 0 l] (w_exception :: ws) := by
 intro G i j hG hA hj hO (hF : FA P j)
 obtain ⟨h1, hc⟩ := hA
 simp only [List.length_cons] at hj
 obtain ⟨c, e2, h3⟩ := hr.one (j := j) hG hc (by omega) ⟨hF.t, hF.of_⟩
 refine ⟨[.mk 41 (P.A i) c.s c.q c.args], ?_, .inr h1.sg.me, dx_exn_ok h1.sg h3⟩
 cases c with
 | mk k n s' q' l' =>
  simp only [strip_mk, Ty.mk.injEq] at e2
  simp only [stripL, strip_mk, Ty.s, Ty.q, Ty.args, e2]
theorem mo_fb {g : Nat} {a : Int} {s : ByteArray} {p e : Ty} {l : List Ty} {lw ew : List ByteArray} (hn : Nm 3 s) (hl : Mo P (.many (.pt 2)) (g + 1) (p :: l) lw) (he : Mo P (.ex 0) g [e] ew) : Mo P .fb (g + 1) [.mk 36 a s 0 ((p :: l) ++ [e])] (s :: (lw ++ s_eq :: ew)) := by
 intro G i j hG hA hj hO (hF : FE P 1 j)
 obtain ⟨H, rfl, hH⟩ := up hG
 obtain ⟨h1, hA⟩ := hA
 obtain ⟨ha, hb, hc⟩ := hA.app
 simp only [List.length_append, List.length_cons] at hj
 have hs := hb.sg
 obtain ⟨l', e1, h2⟩ := hl (H + 1) _ _ (by omega) ha rfl many_pt ⟨hs.fp, by show begunB P _ = _; rw [hs.begun]; decide⟩
 obtain ⟨e', e2, h3⟩ := he.one (j := j) hH hc (by omega) hF
 refine ⟨[.mk 36 (P.A i) s 0 (l' ++ [e'])], by simp only [stripL, strip_mk, stripL_app, List.cons_append] at e1 ⊢; rw [← e1, e2]; rfl, ?_⟩
 obtain ⟨m, r, rfl, -, -⟩ := strip_cons e1
 have h4 := h2 (P.toks.length + 1 + 1) [] (by omega)
 rw [show manyL (beg P (.pt 2)) (rd P (recS P (H + 1)) (.pt 2)) (P.toks.length + 1 + 1) [] (i + 1) = if begunB P (i + 1) then (apatB P (recS P (H + 1)) >>= fun x => manyL (begunB P) (apatB P (recS P (H + 1))) (P.toks.length + 1) [x]) (i + 1) else .ok [] (i + 1) from rfl] at h4
 split at h4
 · obtain ⟨x, k, h5, h6⟩ := bind_invv h4
   refine bind_to (kind_ok (h1.nm hn)) (bind_to h5 (bind_to h6 (bind_to (eat_no (by rw [hs.is]; decide)) ?_)))
   show (mustD P s_eq >>= _) _ = _
   refine bind_to (must_ok hs) (bind_to (go_exp h3) rfl)
 · simp at h4
theorem mo_b_nil {g : Nat} {a : Int} : Mo P .body g [.mk 45 a e_ 0 []] [w_struct, w_end] := by
 intro G i j hG hA hj hO hF
 obtain ⟨h1, h2, -⟩ := hA
 refine ⟨[.mk 45 (P.A i) e_ 0 []], by simp only [stripL, strip_mk], ?_⟩
 show bodyB P _ i = _
 unfold bodyB
 rw [if_pos h1.sg.me, ← hj]
 exact bind_to (many_stop (by show oneD P (startsL 1) _ = _; rw [h2.sg.one]; decide) _ _) (bind_to (must_ok h2.sg) rfl)
theorem mo_b_str {g : Nat} {a : Int} {x : Ty} {l : List Ty} {ws : List ByteArray} (h : Mo P (.many (.dec 1)) g (x :: l) ws) : Mo P .body (g + 1) [.mk 45 a e_ 0 (x :: l)] (w_struct :: (ws ++ [w_end])) := by
 intro G i j hG hA hj hO hF
 obtain ⟨H, rfl, hH⟩ := up hG
 obtain ⟨h1, hA⟩ := hA
 obtain ⟨ha, hb, -⟩ := hA.app
 simp only [List.length_append, List.length_cons, List.length_nil] at hj
 obtain ⟨l', e1, h2⟩ := h H _ _ hH ha rfl many_dec ⟨hb.sg.fa, by show oneD P (startsL 1) _ = _; rw [hb.sg.one]; decide⟩
 refine ⟨[.mk 45 (P.A i) e_ 0 l'], by simp only [stripL, strip_mk] at e1 ⊢; rw [e1], ?_⟩
 show bodyB P _ i = _
 unfold bodyB
 rw [if_pos h1.sg.me]
 refine bind_to (x := l') (j := i + 1 + ws.length) ?_ (bind_to (must_ok hb.sg) ?_)
 · unfold decsB
   rw [go_s]
   exact h2 _ [] (by omega)
 · rw [show j = i + 1 + ws.length + 1 by omega]; rfl
theorem mo_b_path {g : Nat} {a : Int} {s : ByteArray} {ws : List ByteArray} (h : PathW 4 s ws) : Mo P .body g [.mk 46 a s 0 []] ws := by
 intro G i j hG hA hj hO (hF : isD P s_dot j = false)
 refine ⟨[.mk 46 (P.A i) s 0 []], by simp only [stripL, strip_mk], ?_⟩
 show bodyB P _ i = _
 unfold bodyB
 rw [if_neg (by rw [nsg ((path_at h hA).2.1 rfl)]; decide)]
 exact bind_to (path_ok h hA hj (by omega) (fun _ => ⟨by omega, hF⟩)) rfl
theorem specs_of {R : Rec} {j : Nat} (hj : isD P w_end j = true) : ∀ (f : Nat) (acc : List Ty) (i : Nat) {r : List Ty}, manyL (oneD P specW) (specB P R) f acc i = .ok r j → ∀ F, f + 1 ≤ F → specsL P R F acc i = .ok r (j + 1)
 | 0, acc, i, r, h, F, hF => by
  obtain ⟨rfl, rfl⟩ := ret_inv h
  cases F with
  | zero => omega
  | succ F => show (if _ then _ else _) = _; rw [if_pos hj]
 | f + 1, acc, i, r, h, F, hF => by
  cases F with
  | zero => omega
  | succ F =>
   rcases ite_inv h with ⟨c, h⟩ | ⟨c, h⟩
   · obtain ⟨x, k, h1, h2⟩ := bind_invv h
     obtain ⟨s, hs, h3⟩ := one_sg c
     have h4 : isD P w_end i = false := by
      rw [h3.is]
      have := (show ∀ s ∈ specW, decide (s = w_end) = false by decide) s hs
      exact this
     show (if _ then _ else _) = _
     rw [if_neg (by rw [h4]; decide)]
     exact bind_to h1 (specs_of hj f _ _ h2 F (by omega))
   · obtain ⟨rfl, rfl⟩ := ok_inv h
     show (if _ then _ else _) = _
     rw [if_pos hj]
theorem mo_s_body {g : Nat} {a : Int} {l : List Ty} {ws : List ByteArray} (h : Mo P (.many .spec) g l ws) : Mo P .sig g [.mk 47 a e_ 0 l] (w_sig :: (ws ++ [w_end])) := by
 intro G i j hG hA hj hO hF
 obtain ⟨h1, hA⟩ := hA
 obtain ⟨ha, hb, -⟩ := hA.app
 simp only [List.length_append, List.length_cons, List.length_nil] at hj
 obtain ⟨l', e1, h2⟩ := h G _ _ hG ha rfl many_spec ⟨hb.sg.fa, by show oneD P specW _ = _; rw [hb.sg.one]; decide⟩
 refine ⟨[.mk 47 (P.A i) e_ 0 l'], by simp only [stripL, strip_mk, e1], ?_⟩
 show sigsB P _ i = _
 unfold sigsB
 rw [if_pos h1.sg.me]
 refine bind_to (specs_of hb.sg.me P.toks.length [] (i + 1) (h2 _ [] (by omega)) _ (Nat.le_refl _)) ?_
 rw [show j = i + 1 + ws.length + 1 by omega]; rfl
theorem mo_s_name {g : Nat} {a : Int} {s : ByteArray} (h : Nm 4 s) : Mo P .sig g [.mk 48 a s 0 []] [s] := by
 intro G i j hG hA hj hO hF
 have hk := hA.1.nm h
 refine ⟨[.mk 48 (P.A i) s 0 []], by simp only [stripL, strip_mk], ?_⟩
 show sigsB P _ i = _
 unfold sigsB
 rw [if_neg (by rw [nsg hk.1]; decide), ← hj]
 exact bind_to (kind_ok hk) rfl
theorem mo_sp_val {g : Nat} {a : Int} {s : ByteArray} {t : Ty} {tw : List ByteArray} (hn : Nm 3 s) (ht : Mo P (.ty 0) g [t] tw) : Mo P .spec (g + 1) [.mk 49 a s 0 [t]] (w_val :: s :: s_col :: tw) := by
 intro G i j hG hA hj hO (hF : FA P j)
 obtain ⟨H, rfl, hH⟩ := up hG
 obtain ⟨h1, h2, h3, hA⟩ := hA
 simp only [List.length_cons] at hj
 have hs := h1.sg
 obtain ⟨t', e1, h4⟩ := ht.one (j := j) hH hA (by omega) hF.t
 refine ⟨[.mk 49 (P.A i) s 0 [t']], by simp only [stripL, strip_mk, e1], by rw [hs.one]; decide, ?_⟩
 unfold specB
 rw [if_pos hs.me]
 exact bind_to (kind_ok (h2.nm hn)) (bind_to (must_ok h3.sg) (bind_to (go_typ h4) rfl))
theorem mo_sp_type {g : Nat} {a : Int} {s : ByteArray} {l : List Ty} {hw : List ByteArray} (hh : Mo P (.head s) g l hw) : Mo P .spec g [.mk 50 a s l.length l] (w_type :: hw) := by
 intro G i j hG hA hj hO (hF : FA P j)
 obtain ⟨h1, hA⟩ := hA
 simp only [List.length_cons] at hj
 have hs := h1.sg
 obtain ⟨l', e1, h4⟩ := hh G _ j hG hA (by omega) trivial trivial
 have hlen : l.length = l'.length := by rw [← stripL_len l, ← stripL_len l', e1]
 refine ⟨[.mk 50 (P.A i) s l'.length l'], by simp only [stripL, strip_mk, e1, hlen], by rw [hs.one]; decide, ?_⟩
 unfold specB
 rw [if_neg (by rw [hs.is]; decide), if_pos hs.me]
 exact bind_to (h4 50 (P.A i)) (bind_to (eat_no hF.eq_) rfl)
theorem mo_sp_type1 {g : Nat} {a : Int} {s : ByteArray} {l : List Ty} {t : Ty} {hw tw : List ByteArray} (hh : Mo P (.head s) g l hw) (ht : Mo P (.ty 0) g [t] tw) : Mo P .spec (g + 1) [.mk 50 a s l.length (l ++ [t])] (w_type :: (hw ++ s_eq :: tw)) := by
 intro G i j hG hA hj hO (hF : FA P j)
 obtain ⟨H, rfl, hH⟩ := up hG
 obtain ⟨h1, hA⟩ := hA
 obtain ⟨ha, hb, hc⟩ := hA.app
 simp only [List.length_append, List.length_cons] at hj
 have hs := h1.sg
 obtain ⟨l', e1, h4⟩ := hh (H + 1) _ _ (by omega) ha rfl trivial trivial
 obtain ⟨t', e2, h5⟩ := ht.one (j := j) hH hc (by omega) hF.t
 have hlen : l.length = l'.length := by rw [← stripL_len l, ← stripL_len l', e1]
 refine ⟨[.mk 50 (P.A i) s l'.length (l' ++ [t'])], by simp only [stripL, strip_mk, stripL_app, e1, e2, hlen], by rw [hs.one]; decide, ?_⟩
 unfold specB
 rw [if_neg (by rw [hs.is]; decide), if_pos hs.me]
 refine bind_to (h4 50 (P.A i)) (bind_to (eat_ok hb.sg) ?_)
 show ((recS P (H + 1)).go .typ >>= _) _ = _
 exact bind_to (go_typ h5) rfl
theorem mo_sp_dx {g : Nat} {n : Ty} {ws : List ByteArray} (hd : Mo P .dx g [n] ws) : Mo P .spec g [n] ws := by
 intro G i j hG hA hj hO (hF : FA P j)
 obtain ⟨m, e, h1, h2⟩ := hd.one (j := j) hG hA hj hF
 unfold dxB at h2
 rcases h1 with h1 | h1
 · have hs : Sg P i w_data := by unfold isD at h1; simp at h1; exact ⟨h1.1, h1.2⟩
   rw [if_pos h1] at h2
   refine ⟨[m], by simp only [stripL, e], by rw [hs.one]; decide, ?_⟩
   unfold specB
   rw [if_neg (by rw [hs.is]; decide), if_neg (by rw [hs.is]; decide), if_pos h1]
   exact h2
 · have hs : Sg P i w_exception := by unfold isD at h1; simp at h1; exact ⟨h1.1, h1.2⟩
   rw [if_neg (by rw [hs.is]; decide)] at h2
   refine ⟨[m], by simp only [stripL, e], by rw [hs.one]; decide, ?_⟩
   unfold specB
   rw [if_neg (by rw [hs.is]; decide), if_neg (by rw [hs.is]; decide), if_neg (by rw [hs.is]; decide), if_pos h1]
   exact h2
theorem mo_sp_str {g : Nat} {a : Int} {s : ByteArray} {x : Ty} {xw : List ByteArray} (hn : Nm 4 s) (hx : Mo P .sig g [x] xw) : Mo P .spec (g + 1) [.mk 51 a s 0 [x]] (w_structure :: s :: s_col :: xw) := by
 intro G i j hG hA hj hO (hF : FA P j)
 obtain ⟨H, rfl, hH⟩ := up hG
 obtain ⟨h1, h2, h3, hA⟩ := hA
 simp only [List.length_cons] at hj
 have hs := h1.sg
 obtain ⟨t', e1, h4⟩ := hx.one (j := j) hH hA (by omega) trivial
 refine ⟨[.mk 51 (P.A i) s 0 [t']], by simp only [stripL, strip_mk, e1], by rw [hs.one]; decide, ?_⟩
 unfold specB
 rw [if_neg (by rw [hs.is]; decide), if_neg (by rw [hs.is]; decide), if_neg (by rw [hs.is]; decide), if_neg (by rw [hs.is]; decide), if_pos hs.me]
 exact bind_to (kind_ok (h2.nm hn)) (bind_to (must_ok h3.sg) (bind_to (by rw [go_s]; exact h4) rfl))
theorem mo_d_val {g w : Nat} {a : Int} {p e : Ty} {pw ew : List ByteArray} (hp : Mo P (.pt 0) g [p] pw) (he : Mo P (.ex 0) g [e] ew) : Mo P (.dec w) (g + 1) [.mk 34 a e_ 0 [p, e]] (w_val :: (pw ++ s_eq :: ew)) := by
 intro G i j hG hA hj hO (hF : FA P j)
 obtain ⟨H, rfl, hH⟩ := up hG
 obtain ⟨h1, hA⟩ := hA
 obtain ⟨ha, hb, hc⟩ := hA.app
 simp only [List.length_append, List.length_cons] at hj
 have hs := h1.sg
 have hle := AtW.le ha
 obtain ⟨p', e1, h2⟩ := hp.one hH ha rfl hb.sg.fp
 obtain ⟨e', e2, h3⟩ := he.one (j := j) hH hc (by omega) hF.e
 refine ⟨[.mk 34 (P.A i) e_ 0 [p', e']], by simp only [stripL, strip_mk, e1, e2], by rw [hs.one]; unfold startsL; split; decide; split <;> decide, ?_⟩
 unfold decB
 rw [if_pos hs.t]
 exact bind_to (go_pat hle h2) (bind_to (must_ok hb.sg) (bind_to (go_exp h3) rfl))
theorem mo_d_fun {g w : Nat} {a : Int} {x : Ty} {l : List Ty} {ws : List ByteArray} (h : Mo P (.row .fb w_and) g (x :: l) ws) : Mo P (.dec w) g [.mk 35 a e_ 0 (x :: l)] (w_fun :: ws) := by
 intro G i j hG hA hj hO (hF : FA P j)
 obtain ⟨h1, hA⟩ := hA
 simp only [List.length_cons] at hj
 have hs := h1.sg
 have hle := AtW.le hA
 obtain ⟨l', e1, h2⟩ := h G _ j hG hA (by omega) row_fb ⟨hF.e, hF.and_⟩
 refine ⟨[.mk 35 (P.A i) e_ 0 l'], by simp only [stripL, strip_mk] at e1 ⊢; rw [e1], by rw [hs.one]; unfold startsL; split; decide; split <;> decide, ?_⟩
 unfold decB
 rw [if_neg (by rw [hs.t]; decide), if_pos hs.t]
 exact bind_to (row_rd (by omega) h2) rfl
theorem mo_d_type {g w : Nat} {a : Int} {s : ByteArray} {l : List Ty} {t : Ty} {hw tw : List ByteArray} (hw1 : w ≤ 1) (hh : Mo P (.head s) g l hw) (ht : Mo P (.ty 0) g [t] tw) : Mo P (.dec w) (g + 1) [.mk 37 a s l.length (l ++ [t])] (w_type :: (hw ++ s_eq :: tw)) := by
 intro G i j hG hA hj hO (hF : FA P j)
 obtain ⟨H, rfl, hH⟩ := up hG
 obtain ⟨h1, hA⟩ := hA
 obtain ⟨ha, hb, hc⟩ := hA.app
 simp only [List.length_append, List.length_cons] at hj
 have hs := h1.sg
 obtain ⟨l', e1, h4⟩ := hh (H + 1) _ _ (by omega) ha rfl trivial trivial
 obtain ⟨t', e2, h5⟩ := ht.one (j := j) hH hc (by omega) hF.t
 have hlen : l.length = l'.length := by rw [← stripL_len l, ← stripL_len l', e1]
 refine ⟨[.mk 37 (P.A i) s l'.length (l' ++ [t'])], by simp only [stripL, strip_mk, stripL_app, e1, e2, hlen], by rw [hs.one]; unfold startsL; split; decide; split; decide; omega, ?_⟩
 unfold decB
 rw [if_neg (by rw [hs.t]; decide), if_neg (by rw [hs.t]; decide), if_pos hs.t]
 exact bind_to (h4 37 (P.A i)) (bind_to (must_ok hb.sg) (bind_to (go_typ h5) rfl))
theorem mo_d_dx {g w : Nat} {n : Ty} {ws : List ByteArray} (hn : n.k = 41 ∨ w ≤ 1) (hd : Mo P .dx g [n] ws) : Mo P (.dec w) g [n] ws := by
 intro G i j hG hA hj hO (hF : FA P j)
 obtain ⟨m, e, h1, h2⟩ := hd.one (j := j) hG hA hj hF
 have hk : n.k = m.k := by
  cases n; cases m
  simp only [strip_mk, Ty.mk.injEq] at e
  exact e.1
 unfold dxB at h2
 rcases h1 with h1 | h1
 · have hs : Sg P i w_data := by unfold isD at h1; simp at h1; exact ⟨h1.1, h1.2⟩
   rw [if_pos h1] at h2
   have hw1 : w ≤ 1 := by
    rcases hn with hn | hn
    · obtain ⟨l, k, h3, h4⟩ := bind_invv (show (rowD P (dbindB P (recS P G)) w_and >>= fun l => (ret (Ty.mk 38 (P.A i) ⟨#[]⟩ 0 l) : M Ty)) (i + 1) = Res.ok m j from h2)
      obtain ⟨h5, -⟩ := ret_inv h4
      rw [hk, show m = _ from h5.symm] at hn
      simp [Ty.k] at hn
    · exact hn
   refine ⟨[m], by simp only [stripL, e], by rw [hs.one]; unfold startsL; split; decide; split; decide; omega, ?_⟩
   unfold decB
   rw [if_neg (by rw [hs.t]; decide), if_neg (by rw [hs.t]; decide), if_neg (by rw [hs.t]; decide), if_pos hs.t]
   exact h2
 · have hs : Sg P i w_exception := by unfold isD at h1; simp at h1; exact ⟨h1.1, h1.2⟩
   rw [if_neg (by rw [hs.is]; decide)] at h2
   refine ⟨[m], by simp only [stripL, e], by rw [hs.one]; unfold startsL; split; decide; split <;> decide, ?_⟩
   unfold decB
   rw [if_neg (by rw [hs.t]; decide), if_neg (by rw [hs.t]; decide), if_neg (by rw [hs.t]; decide), if_neg (by rw [hs.t]; decide), if_pos hs.t]
   exact h2
theorem mo_d_str0 {g w : Nat} {a : Int} {s : ByteArray} {b : Ty} {bw : List ByteArray} (hw1 : w ≤ 1) (hn : Nm 4 s) (hb : Mo P .body g [b] bw) : Mo P (.dec w) g [.mk 42 a s 0 [b]] (w_structure :: s :: s_eq :: bw) := by
 intro G i j hG hA hj hO (hF : FA P j)
 obtain ⟨h1, h2, h3, hA⟩ := hA
 simp only [List.length_cons] at hj
 have hs := h1.sg
 obtain ⟨b', e1, h4⟩ := hb.one (j := j) hG hA (by omega) hF.e.dot
 refine ⟨[.mk 42 (P.A i) s 0 [b']], by simp only [stripL, strip_mk, e1], by rw [hs.one]; unfold startsL; split; decide; split; decide; omega, ?_⟩
 unfold decB
 rw [if_neg (by rw [hs.t]; decide), if_neg (by rw [hs.t]; decide), if_neg (by rw [hs.t]; decide), if_neg (by rw [hs.t]; decide), if_neg (by rw [hs.t]; decide), if_pos hs.t]
 refine bind_to (kind_ok (h2.nm hn)) (bind_to (x := (0, [])) (j := i + 1 + 1) ?_ (bind_to (must_ok h3.sg) (bind_to h4 rfl)))
 unfold annB
 rw [if_neg (by rw [h3.sg.is]; decide), if_neg (by rw [h3.sg.is]; decide)]
theorem mo_d_str1 {g w N : Nat} {a : Int} {s c : ByteArray} {x b : Ty} {xw bw : List ByteArray} (hw1 : w ≤ 1) (hn : Nm 4 s) (hc : c = s_col ∧ N = 1 ∨ c = s_opq ∧ N = 2) (hx : Mo P .sig g [x] xw) (hb : Mo P .body (g + 1) [b] bw) : Mo P (.dec w) (g + 1) [.mk 42 a s N [x, b]] (w_structure :: s :: c :: (xw ++ s_eq :: bw)) := by
 intro G i j hG hA hj hO (hF : FA P j)
 obtain ⟨H, rfl, hH⟩ := up hG
 obtain ⟨h1, h2, h3, hA⟩ := hA
 obtain ⟨ha, hd, he⟩ := hA.app
 simp only [List.length_append, List.length_cons] at hj
 have hs := h1.sg
 obtain ⟨x', e1, h4⟩ := hx.one hH ha rfl trivial
 obtain ⟨b', e2, h5⟩ := hb.one (j := j) (show g + 1 ≤ H + 1 by omega) he (by omega) hF.e.dot
 refine ⟨[.mk 42 (P.A i) s N [x', b']], by simp only [stripL, strip_mk, e1, e2], by rw [hs.one]; unfold startsL; split; decide; split; decide; omega, ?_⟩
 unfold decB
 rw [if_neg (by rw [hs.t]; decide), if_neg (by rw [hs.t]; decide), if_neg (by rw [hs.t]; decide), if_neg (by rw [hs.t]; decide), if_neg (by rw [hs.t]; decide), if_pos hs.t]
 refine bind_to (kind_ok (h2.nm hn)) (bind_to (x := ((N : Int), [x'])) (j := i + 1 + 1 + 1 + xw.length) ?_ (bind_to (must_ok hd.sg) (bind_to h5 rfl)))
 unfold annB
 rcases hc with ⟨rfl, rfl⟩ | ⟨rfl, rfl⟩
 · rw [if_pos h3.sg.me, go_s]
   exact bind_to h4 rfl
 · rw [if_neg (by rw [h3.sg.is]; decide), if_pos h3.sg.me, go_s]
   exact bind_to h4 rfl
theorem mo_d_sig {g w : Nat} {a : Int} {s : ByteArray} {x : Ty} {xw : List ByteArray} (hw1 : w = 0) (hn : Nm 4 s) (hx : Mo P .sig g [x] xw) : Mo P (.dec w) (g + 1) [.mk 43 a s 0 [x]] (w_signature :: s :: s_eq :: xw) := by
 intro G i j hG hA hj hO (hF : FA P j)
 obtain ⟨H, rfl, hH⟩ := up hG
 obtain ⟨h1, h2, h3, hA⟩ := hA
 simp only [List.length_cons] at hj
 have hs := h1.sg
 subst hw1
 obtain ⟨t', e1, h4⟩ := hx.one (j := j) hH hA (by omega) trivial
 refine ⟨[.mk 43 (P.A i) s 0 [t']], by simp only [stripL, strip_mk, e1], by rw [hs.one]; decide, ?_⟩
 unfold decB
 rw [if_neg (by rw [hs.t]; decide), if_neg (by rw [hs.t]; decide), if_neg (by rw [hs.t]; decide), if_neg (by rw [hs.t]; decide), if_neg (by rw [hs.t]; decide), if_neg (by rw [hs.t]; decide), if_pos hs.t]
 exact bind_to (kind_ok (h2.nm hn)) (bind_to (must_ok h3.sg) (bind_to (by rw [go_s]; exact h4) rfl))
theorem mo_d_open {g w : Nat} {a : Int} {s : ByteArray} {ws : List ByteArray} (h : PathW 4 s ws) : Mo P (.dec w) g [.mk 44 a s 0 []] (w_open :: ws) := by
 intro G i j hG hA hj hO (hF : FA P j)
 obtain ⟨h1, hA⟩ := hA
 simp only [List.length_cons] at hj
 have hs := h1.sg
 refine ⟨[.mk 44 (P.A i) s 0 []], by simp only [stripL, strip_mk], by rw [hs.one]; unfold startsL; split; decide; split <;> decide, ?_⟩
 unfold decB
 rw [if_neg (by rw [hs.t]; decide), if_neg (by rw [hs.t]; decide), if_neg (by rw [hs.t]; decide), if_neg (by rw [hs.t]; decide), if_neg (by rw [hs.t]; decide), if_neg (by rw [hs.t]; decide), if_neg (by rw [hs.t]; decide)]
 exact bind_to (path_ok h hA (show i + 1 + ws.length = j by omega) (by omega) (fun _ => ⟨by omega, hF.e.dot⟩)) rfl
end
def isMa : Cat → Bool
 | .row c _ => isMa c
 | .many _ => true
 | _ => false
theorem DX.pos {X : Prop} {c : Cat} {g : Nat} {l : List Ty} {ws : List ByteArray} (h : DX X c g l ws) : isMa c = false → 0 < ws.length := by
 induction h with
 | row1 _ ih => exact ih
 | ex_np _ _ _ ih => exact fun _ => ih rfl
 | pt_np _ _ _ ih => exact fun _ => ih rfl
 | ty_np _ _ _ ih => exact fun _ => ih rfl
 | d_dx _ _ ih => exact fun _ => ih rfl
 | sp_dx _ ih => exact fun _ => ih rfl
 | t_tup _ ih => exact fun _ => ih rfl
 | mnil => exact fun h => by simp [isMa] at h
 | mcons => exact fun h => by simp [isMa] at h
 | e_path hp => exact fun _ => pathW_pos hp
 | p_con hp => exact fun _ => pathW_pos hp
 | t_con hp => exact fun _ => pathW_pos hp
 | b_path hp => exact fun _ => pathW_pos hp
 | e_app _ _ ih _ => intro _; have := ih rfl; simp only [List.length_append]; omega
 | p_arg hp _ _ => intro _; have := pathW_pos hp; simp only [List.length_append]; omega
 | t_one _ hp _ => intro _; have := pathW_pos hp; simp only [List.length_append]; omega
 | _ => intro _; simp <;> omega
theorem lim {X : Prop} {c : Cat} {g : Nat} {l : List Ty} {ws : List ByteArray} (h : DX X c g l ws) : (∀ k, c = .e0 k → k ≤ 10) ∧ (∀ k, c = .p0 k → k ≤ 2) ∧ (∀ k, c = .t0 k → k ≤ 2) := by
 cases h with
 | e_op hs => exact ⟨(fun k e => by cases e; have := (op_ok hs).1; omega), (fun k e => by cases e), (fun k e => by cases e)⟩
 | _ => refine ⟨fun k e => ?_, fun k e => ?_, fun k e => ?_⟩ <;> first | (cases e; omega) | (cases e; done)
theorem reread {P : Src} {c : Cat} {g : Nat} {l : List Ty} {ws : List ByteArray} (h : DX False c g l ws) : Mo P c g l ws := by
 induction h with
 | row1 _ ih => exact mo_row1 ih
 | rowS _ _ ih ih2 => exact mo_rowS ih ih2
 | mnil => exact mo_mnil
 | mcons h _ ih ih2 => exact mo_mcons ih ih2 (fun hb => h.pos (by revert hb; clear ih ih2 h; rename_i c _ _ _ _ _ _; cases c <;> first | (intro _; rfl) | (intro h; simp [base] at h)))
 | e_int h => exact mo_e_int h
 | e_str h => exact mo_e_str h
 | e_path h => exact mo_e_path h
 | e_tf h => exact mo_e_tf h
 | e_unit => exact mo_e_unit
 | e_tup _ ih => exact mo_e_tup ih
 | e_seq _ ih => exact mo_e_seq ih
 | e_nil => exact mo_e_nil
 | e_list _ ih => exact mo_e_list ih
 | e_app _ _ ih ih2 => exact mo_e_app ih ih2
 | e_fn _ _ ih ih2 => exact mo_e_fn ih ih2
 | e_if _ _ _ ih ih2 ih3 => exact mo_e_if ih ih2 ih3
 | e_raise _ ih => exact mo_e_raise ih
 | e_case _ _ ih ih2 => exact mo_e_case ih ih2
 | e_try _ _ ih ih2 => exact mo_e_try ih ih2
 | e_let _ _ ih ih2 => exact mo_e_let ih ih2
 | e_has _ _ ih ih2 => exact mo_e_has ih ih2
 | e_or _ _ ih ih2 => exact mo_e_or ih ih2
 | e_and _ _ ih ih2 => exact mo_e_and ih ih2
 | e_op hs _ _ ih ih2 => exact mo_e_op hs ih ih2
 | e_un hs _ ih => exact mo_e_un hs ih
 | ex_np hd h1 h2 ih => exact mo_ex_np ih h1 h2 ((lim hd).1 _ rfl)
 | ex_par hd h1 h2 ih => exact mo_ex_par ih h1 h2 ((lim hd).1 _ rfl)
 | rule _ _ ih ih2 => exact mo_rule ih ih2
 | p_any => exact mo_p_any
 | p_var h => exact mo_p_var h
 | p_int h => exact mo_p_int h
 | p_neg _ h => exact mo_p_neg h
 | p_str h => exact mo_p_str h
 | p_con h => exact mo_p_con h
 | p_tf h => exact mo_p_tf h
 | p_arg h _ ih => exact mo_p_arg h ih
 | p_unit => exact mo_p_unit
 | p_tup _ ih => exact mo_p_tup ih
 | p_nil => exact mo_p_nil
 | p_list _ ih => exact mo_p_list ih
 | p_cons _ _ ih ih2 => exact mo_p_cons ih ih2
 | p_as h _ ih => exact mo_p_as h ih
 | p_has _ _ ih ih2 => exact mo_p_has ih ih2
 | pt_np hd h1 h2 ih => exact mo_pt_np ih h1 h2 ((lim hd).2.1 _ rfl)
 | pt_par hd h1 h2 ih => exact mo_pt_par ih h1 h2 ((lim hd).2.1 _ rfl)
 | t_var h => exact mo_t_var h
 | t_con h => exact mo_t_con h
 | t_one _ h ih => exact mo_t_one ih h
 | t_more _ h ih => exact mo_t_more ih h
 | t_tup _ ih => exact mo_t_tup ih
 | t_arr _ _ ih ih2 => exact mo_t_arr ih ih2
 | ty_np hd h1 h2 ih => exact mo_ty_np ih h1 h2 ((lim hd).2.2 _ rfl)
 | ty_par hd h1 h2 ih => exact mo_ty_par ih h1 h2 ((lim hd).2.2 _ rfl)
 | d_val _ _ ih ih2 => exact mo_d_val ih ih2
 | d_fun _ ih => exact mo_d_fun ih
 | fb h _ _ ih ih2 => exact mo_fb h ih ih2
 | fb_has hX => exact hX.elim
 | d_type h _ _ ih ih2 => exact mo_d_type h ih ih2
 | d_dx h _ ih => exact mo_d_dx h ih
 | dx_data _ ih => exact mo_dx_data ih
 | dx_exn0 h => exact mo_dx_exn (b := 0) (mo_con0 h)
 | dx_exn1 h _ ih => exact mo_dx_exn (b := 0) (mo_con1 h ih)
 | db _ _ ih ih2 => exact mo_db ih ih2
 | con0 h => exact mo_con0 h
 | con1 h _ ih => exact mo_con1 h ih
 | d_str0 h h2 _ ih => exact mo_d_str0 h h2 ih
 | d_str1 h h2 h3 _ _ ih ih2 => exact mo_d_str1 h h2 h3 ih ih2
 | d_sig h h2 _ ih => exact mo_d_sig h h2 ih
 | d_open h => exact mo_d_open h
 | b_nil => exact mo_b_nil
 | b_str _ ih => exact mo_b_str ih
 | b_path h => exact mo_b_path h
 | s_body _ ih => exact mo_s_body ih
 | s_name h => exact mo_s_name h
 | sp_val h _ ih => exact mo_sp_val h ih
 | sp_type _ ih => exact mo_sp_type ih
 | sp_type1 _ _ ih ih2 => exact mo_sp_type1 ih ih2
 | sp_dx _ ih => exact mo_sp_dx ih
 | sp_str h _ ih => exact mo_sp_str h ih
 | tv h => exact mo_tv h
 | h_none h => exact mo_h_none h
 | h_one h _ ih => exact mo_h_one h ih
 | h_more h _ ih => exact mo_h_more h ih
end Go.Proofs.YthehjeeiodbkjaaGreatDoor
