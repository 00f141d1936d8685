/-
  Proved: what is written is read as it was: patterns, types. Conditions: the tokens are those of the words.
-/
import Derived.Test.YthehjeeiodbkjaaGreatDoorA01
import Derived.Test.YthehjeeiodbkjaaGreatDoorA27
set_option linter.unusedSimpArgs false
set_option linter.unusedVariables false
set_option linter.unusedSectionVars false
set_option maxRecDepth 100000
set_option maxHeartbeats 16000000
namespace Go.Proofs.YthehjeeiodbkjaaGreatDoor
open Go.RowKit
section
variable {P : Src}
theorem lvp2 {R : Rec} {n : Ty} {i j : Nat} (hb : begunB P i = true) (hq : P.K i = 3 → i + 1 = j) (hij : i < j) (h : apatB P R i = .ok n j) : LvP P R 2 n i j := ⟨hb, fun e => .inl (hq e), hij, h⟩
theorem lvp2s {R : Rec} {n : Ty} {i j : Nat} {s : ByteArray} (h : Sg P i s) (hij : i < j) (ha : apatB P R i = .ok n j) (hs : inW begP s = true := by decide) : LvP P R 2 n i j := lvp2 (by rw [h.begun]; exact hs) (fun e => absurd e h.nk.2.2.1) hij ha
theorem lvp2k {R : Rec} {n : Ty} {i j : Nat} {k : Int} (h : P.K i = k) (hk : 1 ≤ k ∧ k ≤ 4) (hq : k = 3 → i + 1 = j) (hij : i < j) (ha : apatB P R i = .ok n j) : LvP P R 2 n i j := lvp2 (by unfold begunB; simp [h, hk]) (fun e => hq (by omega)) hij ha
theorem mo_p_any {g : Nat} {a : Int} : Mo P (.p0 2) g [.mk 20 a e_ 0 []] [s_us] := by
 intro G i j hG hA hj hO hF
 have hs := hA.1.sg
 refine ⟨[.mk 20 (P.A i) e_ 0 []], by simp only [stripL, strip_mk], lvp2s hs (by simp at hj; omega) ?_⟩
 unfold apatB
 rw [if_pos hs.me, ← hj]; rfl
theorem mo_p_var {g : Nat} {a : Int} {s : ByteArray} (h : Nm 3 s) : Mo P (.p0 2) g [.mk 21 a s 0 []] [s] := by
 intro G i j hG hA hj hO hF
 have hk := hA.1.nm h
 have hk1 : P.K i = 3 := hk.1
 refine ⟨[.mk 21 (P.A i) s 0 []], by simp only [stripL, strip_mk], lvp2k hk1 (by omega) (fun _ => by simpa using hj) (by simp at hj; omega) ?_⟩
 unfold apatB
 rw [if_neg (by rw [nsg hk1]; decide), if_pos hk1, hk.2, ← hj]; rfl
theorem mo_p_int {g : Nat} {a : Int} {N : Nat} (hN : N ≤ 1000000000) : Mo P (.p0 2) g [.mk 22 a e_ N []] [dgW N] := by
 intro G i j hG hA hj hO hF
 obtain ⟨hk, hn⟩ := hA.1.num hN
 refine ⟨[.mk 22 (P.A i) e_ N []], by simp only [stripL, strip_mk], lvp2k hk (by omega) (by omega) (by simp at hj; omega) ?_⟩
 unfold apatB
 rw [if_neg (by rw [nsg hk]; decide), if_neg (by rw [hk]; decide), if_pos hk, hn, ← hj]; rfl
theorem mo_p_neg {g : Nat} {a : Int} {N : Nat} (hN : N ≤ 1000000000) : Mo P (.p0 2) g [.mk 22 a e_ (-(N : Int)) []] [s_ti, dgW N] := by
 intro G i j hG hA hj hO hF
 obtain ⟨h1, h2, -⟩ := hA
 obtain ⟨hk, hn⟩ := h2.num hN
 have hs := h1.sg
 have hnk := hs.nk
 refine ⟨[.mk 22 (P.A i) e_ (-(N : Int)) []], by simp only [stripL, strip_mk], lvp2s hs (by simp at hj; omega) ?_⟩
 unfold apatB
 rw [if_neg (by rw [hs.is]; decide), if_neg hnk.2.2.1, if_neg hnk.1, if_pos hs.me, if_pos hk, hn, ← hj]; rfl
theorem mo_p_str {g : Nat} {a : Int} {s : ByteArray} (hN : s.size ≤ 200) : Mo P (.p0 2) g [.mk 23 a s 0 []] [quoteD s] := by
 intro G i j hG hA hj hO hF
 obtain ⟨hk, hn⟩ := hA.1.str hN
 refine ⟨[.mk 23 (P.A i) s 0 []], by simp only [stripL, strip_mk], lvp2k hk (by omega) (by omega) (by simp at hj; omega) ?_⟩
 unfold apatB
 rw [if_neg (by rw [nsg hk]; decide), if_neg (by rw [hk]; decide), if_neg (by rw [hk]; decide), if_neg (by rw [nsg hk]; decide), if_pos hk, hn, ← hj]; rfl
theorem con_apat {R : Rec} {s : ByteArray} {ws : List ByteArray} (h : PathW 4 s ws) {i j : Nat} (hA : AtW P i ws) (hj : i + ws.length = j) (hd : isD P s_dot j = false) : P.K i = 4 ∧ i < j ∧ apatB P R i = .ok (.mk 24 (P.A i) s 0 []) j := by
 have hk := (path_at h hA).2.1 rfl
 have hp := path_ok h (last := 4) hA hj (by omega) (fun _ => ⟨by omega, hd⟩)
 have hpos := pathW_pos h
 refine ⟨hk, by omega, ?_⟩
 unfold apatB
 rw [if_neg (by rw [nsg hk]; decide), if_neg (by rw [hk]; decide), if_neg (by rw [hk]; decide), if_neg (by rw [nsg hk]; decide), if_neg (by rw [hk]; decide), if_pos hk]
 exact bind_to hp rfl
theorem mo_p_con {g : Nat} {a : Int} {s : ByteArray} {ws : List ByteArray} (h : PathW 4 s ws) : Mo P (.p0 2) g [.mk 24 a s 0 []] ws := by
 intro G i j hG hA hj hO (hF : FP P 2 j)
 obtain ⟨hk, hij, hp⟩ := con_apat (R := recS P G) h hA hj hF.dot
 exact ⟨[.mk 24 (P.A i) s 0 []], by simp only [stripL, strip_mk], lvp2k hk (by omega) (by omega) hij hp⟩
theorem mo_p_tf {g : Nat} {a : Int} {s : ByteArray} (hs : s = w_true ∨ s = w_false) : Mo P (.p0 2) g [.mk 24 a s 0 []] [s] := by
 intro G i j hG hA hj hO hF
 have h1 : Sg P i s := by rcases hs with rfl | rfl <;> exact hA.1.sg
 have hk := h1.nk
 refine ⟨[.mk 24 (P.A i) s 0 []], by simp only [stripL, strip_mk], lvp2s h1 (by simp at hj; omega) ?_ (by rcases hs with rfl | rfl <;> decide)⟩
 unfold apatB
 rw [if_neg (by rw [h1.is]; rcases hs with rfl | rfl <;> decide), if_neg hk.2.2.1, if_neg hk.1, if_neg (by rw [h1.is]; rcases hs with rfl | rfl <;> decide), if_neg hk.2.1, if_neg hk.2.2.2.1, if_pos (by rcases hs with rfl | rfl; exact .inl h1.me; exact .inr h1.me), h1.t, ← hj]; rfl
theorem mo_p_arg {g : Nat} {a : Int} {s : ByteArray} {ws : List ByteArray} {p : Ty} {pw : List ByteArray} (h : PathW 4 s ws) (hp : Mo P (.pt 2) g [p] pw) : Mo P (.p0 1) g [.mk 24 a s 0 [p]] (ws ++ pw) := by
 intro G i j hG hA hj hO (hF : FP P 1 j)
 obtain ⟨ha, hb⟩ := hA.app
 simp only [List.length_append] at hj
 obtain ⟨p', e1, h2⟩ := hp.one (j := j) hG hb (by omega) (hF.mono (by omega))
 obtain ⟨hk, hij, h3⟩ := con_apat (R := recS P G) h ha rfl (begun_dot h2.1)
 refine ⟨[.mk 24 (P.A i) s 0 [p']], by simp only [stripL, strip_mk, e1], by unfold begunB; simp [hk], fun e => by omega, by have := h2.2.2.1; omega, ?_⟩
 show cpatB P _ i = _
 unfold cpatB
 refine bind_to h3 ?_
 show (if _ then _ else _) = _
 rw [if_pos ⟨hk, h2.1⟩]
 exact bind_to h2.2.2.2 rfl
theorem apat_lpp {R : Rec} {i : Nat} (hs : Sg P i s_lp) : apatB P R i = roundPatB P R (P.A i) (i + 1) := by
 have hk := hs.nk
 unfold apatB
 rw [if_neg (by rw [hs.is]; decide), if_neg hk.2.2.1, if_neg hk.1, if_neg (by rw [hs.is]; decide), if_neg hk.2.1, if_neg hk.2.2.2.1, if_neg (by rw [hs.is, hs.is]; decide), if_neg (by rw [hs.is]; decide), if_pos hs.me]
theorem apat_lbb {R : Rec} {i : Nat} (hs : Sg P i s_lb) {r : Res Ty} (hr : (eatD P s_rb >>= fun e => if e then ret (.mk 26 (P.A i) ⟨#[]⟩ 0 []) else (rowD P (R.go .pat) s_com >>= fun l => mustD P s_rb >>= fun _ => ret (.mk 26 (P.A i) ⟨#[]⟩ 0 l))) (i + 1) = r) : apatB P R i = r := by
 have hk := hs.nk
 unfold apatB
 rw [if_neg (by rw [hs.is]; decide), if_neg hk.2.2.1, if_neg hk.1, if_neg (by rw [hs.is]; decide), if_neg hk.2.1, if_neg hk.2.2.2.1, if_neg (by rw [hs.is, hs.is]; decide), if_pos hs.me]
 exact hr
theorem mo_p_unit {g : Nat} {a : Int} : Mo P (.p0 2) g [.mk 25 a e_ 0 []] [s_lp, s_rp] := by
 intro G i j hG hA hj hO hF
 obtain ⟨h1, h2, -⟩ := hA
 refine ⟨[.mk 25 (P.A i) e_ 0 []], by simp only [stripL, strip_mk], lvp2s h1.sg (by simp at hj; omega) ?_⟩
 rw [apat_lpp h1.sg]
 unfold roundPatB
 rw [if_pos h2.sg.me, ← hj]; rfl
theorem round_pat {R : Rec} {n : Ty} {k a i j : Nat} {s : ByteArray} (h : LvP P R k n i j) (hs : Sg P j s) (hsa : s ≠ w_as) {Q : Rec} {r : Res Ty} (hr : (Q.go .pat >>= fun p => eatD P s_com >>= fun c => if c then (rowD P (Q.go .pat) s_com >>= fun l => mustD P s_rp >>= fun _ => ret (.mk 25 a ⟨#[]⟩ 0 (p :: l))) else (eatD P s_col >>= fun h => if h then (Q.go .typ >>= fun t => mustD P s_rp >>= fun _ => ret (.mk 29 a ⟨#[]⟩ 0 [p, t])) else (mustD P s_rp >>= fun _ => ret p))) i = r) : roundPatB P Q a i = r := by
 obtain ⟨hb, hq, -⟩ := h
 unfold roundPatB
 rw [if_neg (by rw [begun_dot hb]; decide), if_neg]
 · exact hr
 · rintro ⟨h1, h2, h3⟩
   rcases hq h1 with h4 | h4
   · rw [h4, hs.t] at h3; exact hsa h3
   · exact h4 h3
theorem mo_p_tup {g : Nat} {a : Int} {x y : Ty} {l : List Ty} {ws : List ByteArray} (h : Mo P (.row (.pt 0) s_com) g (x :: y :: l) ws) : Mo P (.p0 2) (g + 1) [.mk 25 a e_ 0 (x :: y :: l)] (s_lp :: (ws ++ [s_rp])) := by
 intro G i j hG hA hj hO hF
 obtain ⟨H, rfl, hH⟩ := up hG
 obtain ⟨h1, hA⟩ := hA
 obtain ⟨ha, hb, -⟩ := hA.app
 simp only [List.length_append, List.length_cons, List.length_nil] at hj
 have hs := hb.sg
 obtain ⟨l', e, h2⟩ := h H _ _ hH ha rfl row_pt ⟨hs.fp, by rw [hs.is]; decide⟩
 refine ⟨[.mk 25 (P.A i) e_ 0 l'], by simp only [stripL, strip_mk] at e ⊢; rw [e], lvp2s h1.sg (by omega) ?_⟩
 obtain ⟨x', r, i0, rfl, h3, h4, h5, h6⟩ := row_more h2 e
 have h7 : Sg P i0 s_com := by unfold isD at h5; simp at h5; exact ⟨h5.1, h5.2⟩
 rw [apat_lpp h1.sg]
 refine round_pat (R := recS P H) (k := 0) h3 h7 (by decide) ?_
 rw [go_s]
 refine bind_to h4 (bind_to (eat_ok h7) ?_)
 show (rowD P _ _ >>= _) _ = _
 refine bind_to h6 (bind_to (must_ok hs) ?_)
 rw [show j = i + 1 + ws.length + 1 by omega]; rfl
theorem mo_p_nil {g : Nat} {a : Int} : Mo P (.p0 2) g [.mk 26 a e_ 0 []] [s_lb, s_rb] := by
 intro G i j hG hA hj hO hF
 obtain ⟨h1, h2, -⟩ := hA
 refine ⟨[.mk 26 (P.A i) e_ 0 []], by simp only [stripL, strip_mk], lvp2s h1.sg (by simp at hj; omega) (apat_lbb h1.sg ?_)⟩
 refine bind_to (eat_ok h2.sg) ?_
 rw [← hj]; rfl
theorem mo_p_list {g : Nat} {a : Int} {x : Ty} {l : List Ty} {ws : List ByteArray} (h : Mo P (.row (.pt 0) s_com) g (x :: l) ws) : Mo P (.p0 2) (g + 1) [.mk 26 a e_ 0 (x :: l)] (s_lb :: (ws ++ [s_rb])) := by
 intro G i j hG hA hj hO hF
 obtain ⟨H, rfl, hH⟩ := up hG
 obtain ⟨h1, hA⟩ := hA
 obtain ⟨ha, hb, -⟩ := hA.app
 simp only [List.length_append, List.length_cons, List.length_nil] at hj
 have hs := hb.sg
 have hle := AtW.le ha
 obtain ⟨l', e, h2⟩ := h H _ _ hH ha rfl row_pt ⟨hs.fp, by rw [hs.is]; decide⟩
 refine ⟨[.mk 26 (P.A i) e_ 0 l'], by simp only [stripL, strip_mk] at e ⊢; rw [e], lvp2s h1.sg (by omega) (apat_lbb h1.sg ?_)⟩
 have hr := row_rd hle h2
 obtain ⟨x', r, i0, rfl, h3, -⟩ := h2
 rw [go_s]
 refine bind_to (eat_no (begun_dot h3.1)) ?_
 show (rowD P _ _ >>= _) _ = _
 refine bind_to hr (bind_to (must_ok hs) ?_)
 rw [show j = i + 1 + ws.length + 1 by omega]; rfl
theorem mo_p_cons {g : Nat} {a : Int} {p q : Ty} {pw qw : List ByteArray} (hp : Mo P (.pt 1) g [p] pw) (hq : Mo P (.pt 0) g [q] qw) : Mo P (.p0 0) g [.mk 27 a e_ 0 [p, q]] (pw ++ s_cons :: qw) := by
 intro G i j hG hA hj hO (hF : FP P 0 j)
 obtain ⟨ha, hb, hc⟩ := hA.app
 simp only [List.length_append, List.length_cons] at hj
 have hs := hb.sg
 have hle := AtW.le ha
 have hlc := AtW.le hc
 obtain ⟨p', e1, h2⟩ := hp.one hG ha rfl hs.fp
 obtain ⟨q', e2, h3⟩ := hq.one (j := j) hG hc (by omega) hF
 obtain ⟨b1, b2, b3, h2⟩ := h2
 obtain ⟨-, -, b4, x, r, i0, h4, h4a, h5, h6, h7⟩ := h3
 have h6 : q' = consesD (x :: r) := h6
 refine ⟨[.mk 27 p'.n e_ 0 [p', q']], by simp only [stripL, strip_mk, e1, e2], b1, fun e => .inr ?_, by omega, p', x :: r, _, h2, by omega, by omega, ?_, fun f acc hf => ?_⟩
 · rcases b2 e with h | h
   · rw [h, hs.t]; decide
   · exact h
 · rw [h6]; rfl
 · cases f with
   | zero => omega
   | succ f =>
    show (if _ then _ else _) = _
    rw [if_pos hs.me]
    refine bind_to h4 ?_
    rw [h7 f (acc ++ [x]) (by omega)]; simp
theorem mo_p_as {g : Nat} {a : Int} {s : ByteArray} {p : Ty} {pw : List ByteArray} (hn : Nm 3 s) (hp : Mo P (.pt 0) g [p] pw) : Mo P (.p0 2) (g + 1) [.mk 28 a s 0 [p]] (s_lp :: s :: w_as :: (pw ++ [s_rp])) := by
 intro G i j hG hA hj hO hF
 obtain ⟨H, rfl, hH⟩ := up hG
 obtain ⟨h1, h2, h3, hA⟩ := hA
 obtain ⟨ha, hb, -⟩ := hA.app
 simp only [List.length_append, List.length_cons, List.length_nil] at hj
 have hk := h2.nm hn
 have hk1 : P.K (i + 1) = 3 := hk.1
 have hle := AtW.le ha
 obtain ⟨p', e1, h4⟩ := hp.one hH ha rfl hb.sg.fp
 refine ⟨[.mk 28 (P.A i) s 0 [p']], by simp only [stripL, strip_mk, e1], lvp2s h1.sg (by omega) ?_⟩
 rw [apat_lpp h1.sg]
 unfold roundPatB
 have h3s := h3.sg
 have hk6 : P.K (i + 1 + 1) = 6 := by
  obtain ⟨k, t, n, w1, w2, w3, -⟩ := h3
  obtain ⟨rfl, -⟩ := w1.fn (sg_words w_as (inL_mem (by decide)))
  exact w2
 rw [if_neg (by rw [nsg hk1]; decide), if_pos ⟨hk1, hk6, h3s.t⟩]
 refine bind_to (go_pat hle h4) (bind_to (must_ok hb.sg) ?_)
 rw [hk.2, show j = i + 1 + 1 + 1 + pw.length + 1 by omega]; rfl
theorem mo_p_has {g : Nat} {a : Int} {p t : Ty} {pw tw : List ByteArray} (hp : Mo P (.pt 0) g [p] pw) (ht : Mo P (.ty 0) g [t] tw) : Mo P (.p0 2) (g + 1) [.mk 29 a e_ 0 [p, t]] (s_lp :: (pw ++ s_col :: (tw ++ [s_rp]))) := by
 intro G i j hG hA hj hO hF
 obtain ⟨H, rfl, hH⟩ := up hG
 obtain ⟨h1, hA⟩ := hA
 obtain ⟨ha, hb, hc⟩ := hA.app
 obtain ⟨hc, hd, -⟩ := hc.app
 simp only [List.length_append, List.length_cons, List.length_nil] at hj
 have hle := AtW.le ha
 obtain ⟨p', e1, h2⟩ := hp.one hH ha rfl hb.sg.fp
 obtain ⟨t', e2, h3⟩ := ht.one hH hc rfl hd.sg.ft
 refine ⟨[.mk 29 (P.A i) e_ 0 [p', t']], by simp only [stripL, strip_mk, e1, e2], lvp2s h1.sg (by omega) ?_⟩
 rw [apat_lpp h1.sg]
 refine round_pat (R := recS P H) (k := 0) h2 hb.sg (by decide) ?_
 refine bind_to (go_pat hle h2) (bind_to (eat_no (by rw [hb.sg.is]; decide)) ?_)
 show (eatD P s_col >>= _) _ = _
 refine bind_to (eat_ok hb.sg) ?_
 show ((recS P (H + 1)).go .typ >>= _) _ = _
 refine bind_to (go_typ h3) (bind_to (must_ok hd.sg) ?_)
 rw [show j = i + 1 + pw.length + 1 + tw.length + 1 by omega]; rfl
theorem mo_pt_np {g h k l : Nat} {n : Ty} {ws : List ByteArray} (hd : Mo P (.p0 k) h [n] ws) (hl : l ≤ k) (hh : h ≤ g) (hk : k ≤ 2) : Mo P (.pt l) g [n] ws := by
 intro G i j hG hA hj hO (hF : FP P l j)
 obtain ⟨m, e, h2⟩ := hd.one (j := j) (show h ≤ G by omega) hA hj (hF.mono (by omega))
 exact ⟨[m], by simp only [stripL, e], LvP.to hl hk hF h2⟩
theorem mo_pt_par {g h k l : Nat} {n : Ty} {ws : List ByteArray} (hd : Mo P (.p0 k) h [n] ws) (hl : k < l) (hh : h < g) (hk : k ≤ 2) : Mo P (.pt l) g [n] (s_lp :: (ws ++ [s_rp])) := by
 intro G i j hG hA hj hO (hF : FP P l j)
 obtain ⟨H, rfl, hH⟩ := up (show h + 1 ≤ G by omega)
 obtain ⟨h1, hA⟩ := hA
 obtain ⟨ha, hb, -⟩ := hA.app
 simp only [List.length_append, List.length_cons, List.length_nil] at hj
 have hla := AtW.le ha
 obtain ⟨m, e, h2⟩ := hd.one hH ha rfl (Sg.fp (m := k) hb.sg (by
  have : ∀ q, q < 3 → fp q s_rp = true := by decide
  exact this k (by omega)))
 have h3 : LvP P (recS P H) 0 m (i + 1) (i + 1 + ws.length) := LvP.to (by omega) hk hb.sg.fp h2
 have h4 : LvP P (recS P (H + 1)) 2 m i j := by
  refine lvp2s h1.sg (by omega) ?_
  rw [apat_lpp h1.sg]
  refine round_pat h3 hb.sg (by decide) ?_
  refine bind_to (go_pat hla h3) (bind_to (eat_no (by rw [hb.sg.is]; decide)) ?_)
  show (eatD P s_col >>= _) _ = _
  refine bind_to (eat_no (by rw [hb.sg.is]; decide)) ?_
  show (mustD P s_rp >>= _) _ = _
  refine bind_to (must_ok hb.sg) ?_
  rw [show j = i + 1 + ws.length + 1 by omega]; rfl
 refine ⟨[m], by simp only [stripL, e], ?_⟩
 by_cases hl2 : l ≤ 2
 · exact LvP.to hl2 (Nat.le_refl _) hF h4
 · show LvP P _ l m i j
   unfold LvP at h4 ⊢
   rw [if_neg (by omega), if_neg (by omega)] at h4 ⊢
   exact h4
theorem lvt2 {R : Rec} {n : Ty} {i j : Nat} (h : ∃ a f, P.toks.length + 1 ≤ f + j ∧ appliedB P R i = appL P a f [n] j) : LvT P R 2 n i j := h
theorem appL_path {a f i j : Nat} {l : List Ty} {s : ByteArray} {ws : List ByteArray} (h : PathW 3 s ws) (hA : AtW P i ws) (hj : i + ws.length = j) : appL P a (f + 1) l i = appL P a f [.mk 31 a s 0 l] j := by
 have hk := (path_at h hA).1
 have hp := path_ok h (last := 3) hA hj (by omega) (fun e => by omega)
 show (if _ then _ else _) = _
 rw [if_pos (.inr hk)]
 exact bind_to hp rfl
theorem mo_t_var {g : Nat} {a : Int} {s : ByteArray} (h : Nm 5 s) : Mo P (.t0 2) g [.mk 30 a s 0 []] [s] := by
 intro G i j hG hA hj hO hF
 have hk := hA.1.nm h
 have hk1 : P.K i = 5 := hk.1
 have hle := AtW.le hA
 simp only [List.length_cons, List.length_nil] at hj hle
 refine ⟨[.mk 30 (P.A i) s 0 []], by simp only [stripL, strip_mk], lvt2 ⟨P.A i, P.toks.length + 1, by omega, ?_⟩⟩
 unfold appliedB
 rw [if_pos hk1, hk.2, ← hj]; rfl
theorem applied_path {R : Rec} {i : Nat} (h : P.K i = 3 ∨ P.K i = 4) : appliedB P R i = appL P (P.A i) (P.toks.length + 1) [] i := by
 unfold appliedB
 rw [if_neg (by omega), if_neg]
 rcases h with h | h <;> rw [nsg h] <;> decide
theorem mo_t_con {g : Nat} {a : Int} {s : ByteArray} {ws : List ByteArray} (h : PathW 3 s ws) : Mo P (.t0 2) g [.mk 31 a s 0 []] ws := by
 intro G i j hG hA hj hO hF
 have hpos := pathW_pos h
 exact ⟨[.mk 31 (P.A i) s 0 []], by simp only [stripL, strip_mk], lvt2 ⟨P.A i, P.toks.length, by omega, by rw [applied_path (path_at h hA).1, appL_path h hA hj]; rfl⟩⟩
theorem mo_t_one {g : Nat} {a : Int} {s : ByteArray} {ws : List ByteArray} {t : Ty} {tw : List ByteArray} (ht : Mo P (.ty 2) g [t] tw) (h : PathW 3 s ws) : Mo P (.t0 2) g [.mk 31 a s 0 [t]] (tw ++ ws) := by
 intro G i j hG hA hj hO hF
 obtain ⟨ha, hb⟩ := hA.app
 simp only [List.length_append] at hj
 have hle := AtW.le ha
 have hpos := pathW_pos h
 have hk := (path_at h hb).1
 obtain ⟨t', e1, a1, f, h1, h2⟩ := ht.one hG ha rfl (show FT P 3 _ from ⟨by rcases hk with hk | hk <;> exact nsg hk (s := _), fun h => by omega, fun h => by omega, fun h => by omega⟩)
 cases f with
 | zero => omega
 | succ f => exact ⟨[.mk 31 a1 s 0 [t']], by simp only [stripL, strip_mk, e1], lvt2 ⟨a1, f, by omega, by rw [h2]; exact appL_path h hb (by omega)⟩⟩
theorem applied_lp {R : Rec} {i : Nat} (hs : Sg P i s_lp) {l : List Ty} {j : Nat} (h : rowD P (R.go .typ) s_com (i + 1) = .ok l j) (hb : Sg P j s_rp) : appliedB P R i = appL P (P.A i) (P.toks.length + 1) l (j + 1) := by
 unfold appliedB
 rw [if_neg hs.nk.2.2.2.2, if_pos hs.me]
 exact bind_to h (bind_to (must_ok hb) rfl)
theorem mo_t_more {g : Nat} {a : Int} {s : ByteArray} {ws tw : List ByteArray} {x y : Ty} {l : List Ty} (ht : Mo P (.row (.ty 0) s_com) g (x :: y :: l) tw) (h : PathW 3 s ws) : Mo P (.t0 2) (g + 1) [.mk 31 a s 0 (x :: y :: l)] (s_lp :: (tw ++ s_rp :: ws)) := by
 intro G i j hG hA hj hO hF
 obtain ⟨H, rfl, hH⟩ := up hG
 obtain ⟨h1, hA⟩ := hA
 obtain ⟨ha, hb, hc⟩ := hA.app
 simp only [List.length_append, List.length_cons] at hj
 have hle := AtW.le ha
 obtain ⟨l', e1, h2⟩ := ht H _ _ hH ha rfl row_ty0 ⟨hb.sg.ft, by rw [hb.sg.is]; decide⟩
 have hr := row_rd hle h2
 refine ⟨[.mk 31 (P.A i) s 0 l'], by simp only [stripL, strip_mk] at e1 ⊢; rw [e1], lvt2 ⟨P.A i, P.toks.length, by omega, ?_⟩⟩
 rw [applied_lp h1.sg (by rw [go_s]; exact hr) hb.sg]
 exact appL_path h hc (by omega)
theorem mo_t_tup {g : Nat} {a : Int} {x y : Ty} {l : List Ty} {ws : List ByteArray} (h : Mo P (.row (.ty 2) s_st) g (x :: y :: l) ws) : Mo P (.t0 1) g [.mk 32 a e_ 0 (x :: y :: l)] ws := by
 intro G i j hG hA hj hO (hF : FT P 1 j)
 have hle := AtW.le hA
 obtain ⟨l', e1, h2⟩ := h G i j hG hA hj row_ty2 ⟨hF.mono (by omega), hF.st (by omega)⟩
 have hr := row_rd (by omega) h2
 have hlen : (x :: y :: l).length = l'.length := by rw [← stripL_len (x :: y :: l), ← stripL_len l', e1]
 simp only [List.length_cons] at hlen
 refine ⟨[.mk 32 (l'.headD default).n e_ 0 l'], by simp only [stripL, strip_mk] at e1 ⊢; rw [e1], l', hr, ?_⟩
 rw [if_pos (by omega)]; rfl
theorem mo_t_arr {g : Nat} {a : Int} {x y : Ty} {xw yw : List ByteArray} (hx : Mo P (.ty 1) (g + 1) [x] xw) (hy : Mo P (.ty 0) g [y] yw) : Mo P (.t0 0) (g + 1) [.mk 33 a e_ 0 [x, y]] (xw ++ s_to :: yw) := by
 intro G i j hG hA hj hO (hF : FT P 0 j)
 obtain ⟨H, rfl, hH⟩ := up hG
 obtain ⟨ha, hb, hc⟩ := hA.app
 simp only [List.length_append, List.length_cons] at hj
 obtain ⟨x', e1, l, h1, h2⟩ := hx.one hG ha rfl hb.sg.ft
 obtain ⟨y', e2, h3⟩ := hy.one (j := j) hH hc (by omega) hF
 have h2 : x' = _ := h2
 refine ⟨[.mk 33 x'.n e_ 0 [x', y']], by simp only [stripL, strip_mk, e1, e2], ?_⟩
 show arrowB P _ i = _
 unfold arrowB
 refine bind_to h1 ?_
 rw [← h2]
 refine bind_to (eat_ok hb.sg) ?_
 show ((recS P (H + 1)).go .typ >>= _) _ = _
 exact bind_to (go_typ h3) rfl
theorem mo_ty_np {g h k l : Nat} {n : Ty} {ws : List ByteArray} (hd : Mo P (.t0 k) h [n] ws) (hl : l ≤ k) (hh : h ≤ g) (hk : k ≤ 2) : Mo P (.ty l) g [n] ws := by
 intro G i j hG hA hj hO hF
 have hF : FT P (if l = 0 then 0 else if l = 1 then 1 else 3) j := hF
 have hle := AtW.le hA
 obtain ⟨m, e, h2⟩ := hd.one (j := j) (show h ≤ G by omega) hA hj (show FT P _ j from hF.mono (by split <;> split <;> (try split) <;> (try split) <;> omega))
 exact ⟨[m], by simp only [stripL, e], LvT.to (by omega) hl hk (fun h => hF.mono (by split <;> (try split) <;> omega)) h2⟩
theorem mo_ty_par {g h k l : Nat} {n : Ty} {ws : List ByteArray} (hd : Mo P (.t0 k) h [n] ws) (hl : k < l) (hh : h < g) (hk : k ≤ 2) : Mo P (.ty l) g [n] (s_lp :: (ws ++ [s_rp])) := by
 intro G i j hG hA hj hO hF
 have hF : FT P (if l = 0 then 0 else if l = 1 then 1 else 3) j := hF
 obtain ⟨H, rfl, hH⟩ := up (show h + 1 ≤ G by omega)
 obtain ⟨h1, hA⟩ := hA
 obtain ⟨ha, hb, hb2⟩ := hA.app
 simp only [List.length_append, List.length_cons, List.length_nil] at hj
 have hla := AtW.le ha
 have hlb : i + 1 + ws.length + 1 ≤ P.toks.length := hb2
 obtain ⟨m, e, h2⟩ := hd.one hH ha rfl (show FT P _ _ from (hb.sg.ft (m := 0)).mono (by omega))
 have h3 : LvT P (recS P H) 0 m (i + 1) (i + 1 + ws.length) := LvT.to hla (by omega) hk (fun _ => hb.sg.ft) h2
 have hr : rowD P ((recS P (H + 1)).go .typ) s_com (i + 1) = .ok [m] (i + 1 + ws.length) := by
  rw [go_s]
  exact bind_to h3 (sep_stop (by rw [hb.sg.is]; decide) _ _)
 have h4 : LvT P (recS P (H + 1)) 2 m i j := lvt2 ⟨P.A i, P.toks.length + 1, by omega, by rw [applied_lp h1.sg hr hb.sg, show j = i + 1 + ws.length + 1 by omega]⟩
 refine ⟨[m], by simp only [stripL, e], ?_⟩
 by_cases hl2 : l ≤ 2
 · exact LvT.to (by omega) hl2 (Nat.le_refl _) (fun h => hF.mono (by split <;> (try split) <;> omega)) h4
 · show LvT P _ l m i j
   unfold LvT at h4 ⊢
   rw [if_neg (by omega), if_neg (by omega)] at h4 ⊢
   exact h4
end
end Go.Proofs.YthehjeeiodbkjaaGreatDoor
