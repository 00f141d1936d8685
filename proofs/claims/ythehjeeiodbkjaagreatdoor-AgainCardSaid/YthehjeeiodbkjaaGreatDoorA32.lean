/-
  Proved: THE PLAIN LAW OF AGAIN: what one of the four reads is read from its words as it was, or it is too deep where a fun's body has a type; its words are the same; the grammar asks for no places; THE PLAIN LAW OF AGAIN for texts: what a text's answer is, its words, what the joined words' answer is; how the program's printer stands in memory, and what stands while it prints; the contract of its put. Conditions: none but the words' tokens; the printer as it stands in memory.
-/
import Derived.Test.YthehjeeiodbkjaaGreatDoorA30
import Derived.Test.YthehjeeiodbkjaaGreatDoorA31
import Derived.Test.YthehjeeiodbkjaaGreatDoorA21
import Derived.Test.YthehjeeiodbkjaaGreatDoorA22
import Derived.Test.YthehjeeiodbkjaaGreatDoorA01
import Derived.Test.YthehjeeiodbkjaaGreatDoorA02
import Derived.Deep.DeepCutAuto
import Derived.Deep.CutBlock
import Derived.Deep.RegionLaw
import Derived.Deep.AppendLies
import Derived.Deep.RegionHeld3
import Derived.BigRegion
set_option linter.unusedSimpArgs false
set_option linter.unusedVariables false
set_option maxRecDepth 100000
set_option maxHeartbeats 16000000
namespace Go.Proofs.YthehjeeiodbkjaaGreatDoor
open Go.RowKit
theorem Tl.len : ∀ {ws : List ByteArray} {b : List Tok}, Tl ws b → b.length = ws.length + 1
 | [], b, ⟨a, h⟩ => by rw [h]; rfl
 | w :: r, b, ⟨k, a, t, n, c, h, e, h2⟩ => by rw [e]; simp [Tl.len h2]
theorem tl_at {P : Src} : ∀ {ws : List ByteArray} {b p : List Tok}, P.toks = p ++ b → Tl ws b → AtW P p.length ws ∧ P.K (p.length + ws.length) = 0
 | [], b, p, hp, ⟨a, h⟩ => by
  have e : P.toks[p.length]? = some (0, a, ByteArray.empty, 0) := by rw [hp, h]; simp
  exact ⟨by show p.length ≤ P.toks.length; rw [hp]; simp, by show P.K p.length = 0; unfold Src.K; rw [e]; rfl⟩
 | w :: r, b, p, hp, ⟨k, a, t, n, c, h, e, h2⟩ => by
  have e1 : P.toks[p.length]? = some (k, a, t, n) := by rw [hp, e]; simp
  have h3 := tl_at (P := P) (ws := r) (b := c) (p := p ++ [(k, a, t, n)]) (by rw [hp, e]; simp) h2
  simp only [List.length_append, List.length_cons, List.length_nil] at h3 ⊢
  refine ⟨⟨⟨k, t, n, h, by unfold Src.K; rw [e1], by unfold Src.T; rw [e1], by unfold Src.N; rw [e1]⟩, h3.1⟩, by rw [show p.length + (r.length + 1) = p.length + (0 + 1) + r.length by omega]; exact h3.2⟩
theorem lvl {c : Cat} {g : Nat} {l : List Ty} {ws : List ByteArray} (h : D c g l ws) : ∃ m, DX False c (g + m) l ws ∧ (typL l = false → m = 0) := by
 cases e : typL l with
 | false => exact ⟨0, h.un e, fun _ => rfl⟩
 | true =>
  obtain ⟨m, h2⟩ := h.some
  exact ⟨m, h2 _ (by omega), fun h => by cases h⟩
theorem one_again {P : Src} {c : Cat} {nt : NT} {n : Ty} {ws : List ByteArray} (hT : Tl ws P.toks) (h : D c 59 [n] ws) (hb : base c = true) (hF : Fl P c ws.length) (hr : ∀ G m, Rk P (recS P G) c [m] 0 ws.length → readS P (G + 1) nt 0 = .ok m ws.length) : (∃ m, readS P 60 nt 0 = .ok m ws.length ∧ strip n = strip m) ∨ (typT n = true ∧ ∃ a, readS P 60 nt 0 = .bad 5 a) := by
 obtain ⟨hA, hK⟩ := tl_at (P := P) (p := []) (by simp) hT
 have hlen := hT.len
 obtain ⟨d, h2, h3⟩ := lvl h
 obtain ⟨m, e, h4⟩ := (reread h2).one (G := 59 + d) (j := ws.length) (Nat.le_refl _) hA (by simp) hF hb
 have h5 := hr _ _ h4
 have hq := ((sq_rec P 60 d).1 nt 0).2
 rw [show 60 + d = 59 + d + 1 by omega, h5] at hq
 rcases hq with hq | hq | hq
 · exact .inl ⟨m, hq, e⟩
 · cases ht : typT n with
   | true => exact .inr ⟨rfl, hq⟩
   | false =>
    rw [h3 (by rw [typL_one]; exact ht)] at h5
    exact .inl ⟨m, h5, e⟩
 · have := hq _ _ rfl
   omega
theorem whole_okk {P : Src} {m : M Ty} {n : Ty} {j : Nat} (h : m 0 = .ok n j) (hk : P.K j = 0) : wholeD P m = .ok n j := by
 unfold wholeD
 rw [h]
 show (if _ then _ else _) = _
 rw [if_pos hk]
theorem whole_badd {P : Src} {m : M Ty} {k a : Nat} (h : m 0 = .bad k a) : wholeD P m = .bad k a := by
 unfold wholeD
 rw [h]
theorem top_again {P : Src} {k : Nat} {n : Ty} {ws : List ByteArray} (h : TopG k n ws) (hT : Tl ws P.toks) : (∃ m, topD P k = .ok m ws.length ∧ strip n = strip m) ∨ (typT n = true ∧ ∃ a, topD P k = .bad 5 a) := by
 obtain ⟨hA, hK⟩ := tl_at (P := P) (p := []) (by simp) hT
 have hlen := hT.len
 simp only [List.length_nil, Nat.zero_add] at hK
 have fin : ∀ {nt : NT}, ((∃ m, readS P 60 nt 0 = .ok m ws.length ∧ strip n = strip m) ∨ (typT n = true ∧ ∃ a, readS P 60 nt 0 = .bad 5 a)) → (∃ m, wholeD P (readS P 60 nt) = .ok m ws.length ∧ strip n = strip m) ∨ (typT n = true ∧ ∃ a, wholeD P (readS P 60 nt) = .bad 5 a) := by
  intro nt h
  rcases h with ⟨m, h1, h2⟩ | ⟨h1, a, h2⟩
  · exact .inl ⟨m, whole_okk h1 hK, h2⟩
  · exact .inr ⟨h1, a, whole_badd h2⟩
 unfold TopG at h
 unfold topD
 split at h
 · rename_i h0
   rw [if_pos h0]
   obtain ⟨l, rfl, h⟩ := h
   obtain ⟨d, h2, h3⟩ := lvl h
   obtain ⟨l', e, h4⟩ := reread h2 (59 + d) 0 ws.length (Nat.le_refl _) hA (by simp) many_dec ⟨FA.end hK, by show oneD P (startsL 0) _ = _; exact none1 hK (l := _)⟩
   have h5 : decsB P (recS P (60 + d)) 0 0 = .ok l' ws.length := by
    unfold decsB
    rw [show 60 + d = 59 + d + 1 by omega, go_s]
    exact h4 _ [] (by omega)
   have go : ∀ {l9}, decsB P (recS P 60) 0 0 = .ok l9 ws.length → wholeD P (decsB P (recS P 60) 0 >>= fun l => ret (.mk 0 0 ⟨#[]⟩ 0 l)) = .ok (.mk 0 0 ⟨#[]⟩ 0 l9) ws.length := fun h => whole_okk (bind_to h rfl) hK
   have es : strip (.mk 0 0 e_ 0 l) = strip (.mk 0 0 e_ 0 l') := by simp only [strip_mk, e]
   rcases (q_decs P _ _ (sq_rec P 60 d).2 0 0).2 with hq | ⟨a, hq⟩ | hq
   · rw [h5] at hq; exact .inl ⟨_, go hq, es⟩
   · cases ht : typL l with
     | true => exact .inr ⟨by rw [typT, ht]; simp, a, whole_badd (bind_bad hq)⟩
     | false =>
      rw [h3 ht] at h5
      exact .inl ⟨_, go h5, es⟩
   · have := hq _ _ h5
     omega
 split at h
 · rename_i h0 h1
   rw [if_neg h0, if_pos h1]
   exact fin (one_again hT h rfl (FA.end hK).e (fun G m h => by rw [readS_succ]; simp only [Rk, LvE, if_pos] at h; exact h.1))
 split at h
 · rename_i h0 h1 h2
   rw [if_neg h0, if_neg h1, if_pos h2]
   exact fin (one_again hT h rfl (FP.end hK) (fun G m h => by rw [readS_succ]; exact LvP.pat (by omega) h))
 · rename_i h0 h1 h2
   rw [if_neg h0, if_neg h1, if_neg h2]
   exact fin (one_again hT h rfl (FA.end hK).t (fun G m h => by rw [readS_succ]; exact h))
theorem strip_kids {k a : Int} {s : ByteArray} {q : Int} {l : List Ty} {m : Ty} (h : strip (.mk k a s q l) = strip m) : ∃ b r, m = .mk k b s q r ∧ stripL l = stripL r := by
 cases m with
 | mk k' b s' q' r =>
  simp only [strip_mk, Ty.mk.injEq] at h
  obtain ⟨rfl, -, rfl, rfl, h⟩ := h
  exact ⟨b, r, rfl, h⟩
theorem strip_nil {l : List Ty} (h : stripL [] = stripL l) : l = [] := by
 cases l with
 | nil => rfl
 | cons m r => simp [stripL] at h
theorem strip_app : ∀ {a b l : List Ty}, stripL (a ++ b) = stripL l → ∃ c d, l = c ++ d ∧ stripL a = stripL c ∧ stripL b = stripL d
 | [], b, l, h => ⟨[], l, rfl, rfl, h⟩
 | x :: a, b, l, h => by
  obtain ⟨m, r, rfl, h1, h2⟩ := strip_cons h
  obtain ⟨c, d, rfl, h3, h4⟩ := strip_app h2
  exact ⟨m :: c, d, rfl, by simp only [stripL, h1, h3], h4⟩
theorem strip_len {a b : List Ty} (h : stripL a = stripL b) : a.length = b.length := by rw [← stripL_len a, ← stripL_len b, h]
theorem strip_k {n m : Ty} (h : strip n = strip m) : n.k = m.k := by
 cases n; cases m
 simp only [strip_mk, Ty.mk.injEq] at h
 exact h.1
theorem DX.places {X : Prop} {c : Cat} {g : Nat} {l : List Ty} {ws : List ByteArray} (h : DX X c g l ws) : ∀ {r}, stripL l = stripL r → DX X c g r ws := by
 induction h with
 | row1 h0 i0 => intro r e; obtain ⟨z1, z2, rfl, z3, z4⟩ := strip_cons e; obtain rfl := strip_nil z4; exact .row1 (i0 (by simp_all [stripL]))
 | rowS h0 h1 i0 i1 => intro r e; obtain ⟨z5, z6, rfl, z7, z8⟩ := strip_cons e; obtain ⟨z9, z10, rfl, z11, z12⟩ := strip_cons z8; exact .rowS (i0 (by simp_all [stripL])) (i1 (by simp_all [stripL]))
 | mnil  => intro r e; obtain rfl := strip_nil e; exact .mnil 
 | mcons h0 h1 i0 i1 => intro r e; obtain ⟨z13, z14, rfl, z15, z16⟩ := strip_cons e; exact .mcons (i0 (by simp_all [stripL])) (i1 (by simp_all [stripL]))
 | e_int h0 => intro r e; obtain ⟨z20, rfl, z21⟩ := strip_one e; obtain ⟨z17, z18, rfl, z19⟩ := strip_kids z21; obtain rfl := strip_nil z19; exact .e_int h0
 | e_str h0 => intro r e; obtain ⟨z25, rfl, z26⟩ := strip_one e; obtain ⟨z22, z23, rfl, z24⟩ := strip_kids z26; obtain rfl := strip_nil z24; exact .e_str h0
 | e_path h0 => intro r e; obtain ⟨z30, rfl, z31⟩ := strip_one e; obtain ⟨z27, z28, rfl, z29⟩ := strip_kids z31; obtain rfl := strip_nil z29; exact .e_path h0
 | e_tf h0 => intro r e; obtain ⟨z35, rfl, z36⟩ := strip_one e; obtain ⟨z32, z33, rfl, z34⟩ := strip_kids z36; obtain rfl := strip_nil z34; exact .e_tf h0
 | e_unit  => intro r e; obtain ⟨z40, rfl, z41⟩ := strip_one e; obtain ⟨z37, z38, rfl, z39⟩ := strip_kids z41; obtain rfl := strip_nil z39; exact .e_unit 
 | e_tup h0 i0 => intro r e; obtain ⟨z45, rfl, z46⟩ := strip_one e; obtain ⟨z42, z43, rfl, z44⟩ := strip_kids z46; obtain ⟨z47, z48, rfl, z49, z50⟩ := strip_cons z44; obtain ⟨z51, z52, rfl, z53, z54⟩ := strip_cons z50; exact .e_tup (i0 (by simp_all [stripL]))
 | e_seq h0 i0 => intro r e; obtain ⟨z58, rfl, z59⟩ := strip_one e; obtain ⟨z55, z56, rfl, z57⟩ := strip_kids z59; obtain ⟨z60, z61, rfl, z62, z63⟩ := strip_cons z57; obtain ⟨z64, z65, rfl, z66, z67⟩ := strip_cons z63; exact .e_seq (i0 (by simp_all [stripL]))
 | e_nil  => intro r e; obtain ⟨z71, rfl, z72⟩ := strip_one e; obtain ⟨z68, z69, rfl, z70⟩ := strip_kids z72; obtain rfl := strip_nil z70; exact .e_nil 
 | e_list h0 i0 => intro r e; obtain ⟨z76, rfl, z77⟩ := strip_one e; obtain ⟨z73, z74, rfl, z75⟩ := strip_kids z77; obtain ⟨z78, z79, rfl, z80, z81⟩ := strip_cons z75; exact .e_list (i0 (by simp_all [stripL]))
 | e_app h0 h1 i0 i1 => intro r e; obtain ⟨z85, rfl, z86⟩ := strip_one e; obtain ⟨z82, z83, rfl, z84⟩ := strip_kids z86; obtain ⟨z87, z88, rfl, z89, z90⟩ := strip_cons z84; obtain ⟨z91, z92, rfl, z93, z94⟩ := strip_cons z90; obtain rfl := strip_nil z94; exact .e_app (i0 (by simp_all [stripL])) (i1 (by simp_all [stripL]))
 | e_fn h0 h1 i0 i1 => intro r e; obtain ⟨z98, rfl, z99⟩ := strip_one e; obtain ⟨z95, z96, rfl, z97⟩ := strip_kids z99; obtain ⟨z100, z101, rfl, z102, z103⟩ := strip_cons z97; obtain ⟨z104, z105, rfl, z106, z107⟩ := strip_cons z103; obtain rfl := strip_nil z107; exact .e_fn (i0 (by simp_all [stripL])) (i1 (by simp_all [stripL]))
 | e_if h0 h1 h2 i0 i1 i2 => intro r e; obtain ⟨z111, rfl, z112⟩ := strip_one e; obtain ⟨z108, z109, rfl, z110⟩ := strip_kids z112; obtain ⟨z113, z114, rfl, z115, z116⟩ := strip_cons z110; obtain ⟨z117, z118, rfl, z119, z120⟩ := strip_cons z116; obtain ⟨z121, z122, rfl, z123, z124⟩ := strip_cons z120; obtain rfl := strip_nil z124; exact .e_if (i0 (by simp_all [stripL])) (i1 (by simp_all [stripL])) (i2 (by simp_all [stripL]))
 | e_raise h0 i0 => intro r e; obtain ⟨z128, rfl, z129⟩ := strip_one e; obtain ⟨z125, z126, rfl, z127⟩ := strip_kids z129; obtain ⟨z130, z131, rfl, z132, z133⟩ := strip_cons z127; obtain rfl := strip_nil z133; exact .e_raise (i0 (by simp_all [stripL]))
 | e_case h0 h1 i0 i1 => intro r e; obtain ⟨z137, rfl, z138⟩ := strip_one e; obtain ⟨z134, z135, rfl, z136⟩ := strip_kids z138; obtain ⟨z139, z140, rfl, z141, z142⟩ := strip_cons z136; obtain ⟨z143, z144, rfl, z145, z146⟩ := strip_cons z142; exact .e_case (i0 (by simp_all [stripL])) (i1 (by simp_all [stripL]))
 | e_try h0 h1 i0 i1 => intro r e; obtain ⟨z150, rfl, z151⟩ := strip_one e; obtain ⟨z147, z148, rfl, z149⟩ := strip_kids z151; obtain ⟨z152, z153, rfl, z154, z155⟩ := strip_cons z149; obtain ⟨z156, z157, rfl, z158, z159⟩ := strip_cons z155; exact .e_try (i0 (by simp_all [stripL])) (i1 (by simp_all [stripL]))
 | e_let h0 h1 i0 i1 => intro r e; obtain ⟨z163, rfl, z164⟩ := strip_one e; obtain ⟨z160, z161, rfl, z162⟩ := strip_kids z164; obtain ⟨z165, z166, rfl, z167, z168⟩ := strip_app z162; obtain ⟨z169, z170, rfl, z171, z172⟩ := strip_cons z168; obtain rfl := strip_nil z172; rw [strip_len z167]; exact .e_let (i0 (by simp_all [stripL])) (i1 (by simp_all [stripL]))
 | e_has h0 h1 i0 i1 => intro r e; obtain ⟨z176, rfl, z177⟩ := strip_one e; obtain ⟨z173, z174, rfl, z175⟩ := strip_kids z177; obtain ⟨z178, z179, rfl, z180, z181⟩ := strip_cons z175; obtain ⟨z182, z183, rfl, z184, z185⟩ := strip_cons z181; obtain rfl := strip_nil z185; exact .e_has (i0 (by simp_all [stripL])) (i1 (by simp_all [stripL]))
 | e_or h0 h1 i0 i1 => intro r e; obtain ⟨z189, rfl, z190⟩ := strip_one e; obtain ⟨z186, z187, rfl, z188⟩ := strip_kids z190; obtain ⟨z191, z192, rfl, z193, z194⟩ := strip_cons z188; obtain ⟨z195, z196, rfl, z197, z198⟩ := strip_cons z194; obtain rfl := strip_nil z198; exact .e_or (i0 (by simp_all [stripL])) (i1 (by simp_all [stripL]))
 | e_and h0 h1 i0 i1 => intro r e; obtain ⟨z202, rfl, z203⟩ := strip_one e; obtain ⟨z199, z200, rfl, z201⟩ := strip_kids z203; obtain ⟨z204, z205, rfl, z206, z207⟩ := strip_cons z201; obtain ⟨z208, z209, rfl, z210, z211⟩ := strip_cons z207; obtain rfl := strip_nil z211; exact .e_and (i0 (by simp_all [stripL])) (i1 (by simp_all [stripL]))
 | e_op h0 h1 h2 i1 i2 => intro r e; obtain ⟨z215, rfl, z216⟩ := strip_one e; obtain ⟨z212, z213, rfl, z214⟩ := strip_kids z216; obtain ⟨z217, z218, rfl, z219, z220⟩ := strip_cons z214; obtain ⟨z221, z222, rfl, z223, z224⟩ := strip_cons z220; obtain rfl := strip_nil z224; exact .e_op h0 (i1 (by simp_all [stripL])) (i2 (by simp_all [stripL]))
 | e_un h0 h1 i1 => intro r e; obtain ⟨z228, rfl, z229⟩ := strip_one e; obtain ⟨z225, z226, rfl, z227⟩ := strip_kids z229; obtain ⟨z230, z231, rfl, z232, z233⟩ := strip_cons z227; obtain rfl := strip_nil z233; exact .e_un h0 (i1 (by simp_all [stripL]))
 | ex_np h0 h1 h2 i0 => intro r e; obtain ⟨z234, z235, rfl, z236, z237⟩ := strip_cons e; obtain rfl := strip_nil z237; exact .ex_np (i0 (by simp_all [stripL])) h1 h2
 | ex_par h0 h1 h2 i0 => intro r e; obtain ⟨z238, z239, rfl, z240, z241⟩ := strip_cons e; obtain rfl := strip_nil z241; exact .ex_par (i0 (by simp_all [stripL])) h1 h2
 | rule h0 h1 i0 i1 => intro r e; obtain ⟨z245, rfl, z246⟩ := strip_one e; obtain ⟨z242, z243, rfl, z244⟩ := strip_kids z246; obtain ⟨z247, z248, rfl, z249, z250⟩ := strip_cons z244; obtain ⟨z251, z252, rfl, z253, z254⟩ := strip_cons z250; obtain rfl := strip_nil z254; exact .rule (i0 (by simp_all [stripL])) (i1 (by simp_all [stripL]))
 | p_any  => intro r e; obtain ⟨z258, rfl, z259⟩ := strip_one e; obtain ⟨z255, z256, rfl, z257⟩ := strip_kids z259; obtain rfl := strip_nil z257; exact .p_any 
 | p_var h0 => intro r e; obtain ⟨z263, rfl, z264⟩ := strip_one e; obtain ⟨z260, z261, rfl, z262⟩ := strip_kids z264; obtain rfl := strip_nil z262; exact .p_var h0
 | p_int h0 => intro r e; obtain ⟨z268, rfl, z269⟩ := strip_one e; obtain ⟨z265, z266, rfl, z267⟩ := strip_kids z269; obtain rfl := strip_nil z267; exact .p_int h0
 | p_neg h0 h1 => intro r e; obtain ⟨z273, rfl, z274⟩ := strip_one e; obtain ⟨z270, z271, rfl, z272⟩ := strip_kids z274; obtain rfl := strip_nil z272; exact .p_neg h0 h1
 | p_str h0 => intro r e; obtain ⟨z278, rfl, z279⟩ := strip_one e; obtain ⟨z275, z276, rfl, z277⟩ := strip_kids z279; obtain rfl := strip_nil z277; exact .p_str h0
 | p_con h0 => intro r e; obtain ⟨z283, rfl, z284⟩ := strip_one e; obtain ⟨z280, z281, rfl, z282⟩ := strip_kids z284; obtain rfl := strip_nil z282; exact .p_con h0
 | p_tf h0 => intro r e; obtain ⟨z288, rfl, z289⟩ := strip_one e; obtain ⟨z285, z286, rfl, z287⟩ := strip_kids z289; obtain rfl := strip_nil z287; exact .p_tf h0
 | p_arg h0 h1 i1 => intro r e; obtain ⟨z293, rfl, z294⟩ := strip_one e; obtain ⟨z290, z291, rfl, z292⟩ := strip_kids z294; obtain ⟨z295, z296, rfl, z297, z298⟩ := strip_cons z292; obtain rfl := strip_nil z298; exact .p_arg h0 (i1 (by simp_all [stripL]))
 | p_unit  => intro r e; obtain ⟨z302, rfl, z303⟩ := strip_one e; obtain ⟨z299, z300, rfl, z301⟩ := strip_kids z303; obtain rfl := strip_nil z301; exact .p_unit 
 | p_tup h0 i0 => intro r e; obtain ⟨z307, rfl, z308⟩ := strip_one e; obtain ⟨z304, z305, rfl, z306⟩ := strip_kids z308; obtain ⟨z309, z310, rfl, z311, z312⟩ := strip_cons z306; obtain ⟨z313, z314, rfl, z315, z316⟩ := strip_cons z312; exact .p_tup (i0 (by simp_all [stripL]))
 | p_nil  => intro r e; obtain ⟨z320, rfl, z321⟩ := strip_one e; obtain ⟨z317, z318, rfl, z319⟩ := strip_kids z321; obtain rfl := strip_nil z319; exact .p_nil 
 | p_list h0 i0 => intro r e; obtain ⟨z325, rfl, z326⟩ := strip_one e; obtain ⟨z322, z323, rfl, z324⟩ := strip_kids z326; obtain ⟨z327, z328, rfl, z329, z330⟩ := strip_cons z324; exact .p_list (i0 (by simp_all [stripL]))
 | p_cons h0 h1 i0 i1 => intro r e; obtain ⟨z334, rfl, z335⟩ := strip_one e; obtain ⟨z331, z332, rfl, z333⟩ := strip_kids z335; obtain ⟨z336, z337, rfl, z338, z339⟩ := strip_cons z333; obtain ⟨z340, z341, rfl, z342, z343⟩ := strip_cons z339; obtain rfl := strip_nil z343; exact .p_cons (i0 (by simp_all [stripL])) (i1 (by simp_all [stripL]))
 | p_as h0 h1 i1 => intro r e; obtain ⟨z347, rfl, z348⟩ := strip_one e; obtain ⟨z344, z345, rfl, z346⟩ := strip_kids z348; obtain ⟨z349, z350, rfl, z351, z352⟩ := strip_cons z346; obtain rfl := strip_nil z352; exact .p_as h0 (i1 (by simp_all [stripL]))
 | p_has h0 h1 i0 i1 => intro r e; obtain ⟨z356, rfl, z357⟩ := strip_one e; obtain ⟨z353, z354, rfl, z355⟩ := strip_kids z357; obtain ⟨z358, z359, rfl, z360, z361⟩ := strip_cons z355; obtain ⟨z362, z363, rfl, z364, z365⟩ := strip_cons z361; obtain rfl := strip_nil z365; exact .p_has (i0 (by simp_all [stripL])) (i1 (by simp_all [stripL]))
 | pt_np h0 h1 h2 i0 => intro r e; obtain ⟨z366, z367, rfl, z368, z369⟩ := strip_cons e; obtain rfl := strip_nil z369; exact .pt_np (i0 (by simp_all [stripL])) h1 h2
 | pt_par h0 h1 h2 i0 => intro r e; obtain ⟨z370, z371, rfl, z372, z373⟩ := strip_cons e; obtain rfl := strip_nil z373; exact .pt_par (i0 (by simp_all [stripL])) h1 h2
 | t_var h0 => intro r e; obtain ⟨z377, rfl, z378⟩ := strip_one e; obtain ⟨z374, z375, rfl, z376⟩ := strip_kids z378; obtain rfl := strip_nil z376; exact .t_var h0
 | t_con h0 => intro r e; obtain ⟨z382, rfl, z383⟩ := strip_one e; obtain ⟨z379, z380, rfl, z381⟩ := strip_kids z383; obtain rfl := strip_nil z381; exact .t_con h0
 | t_one h0 h1 i0 => intro r e; obtain ⟨z387, rfl, z388⟩ := strip_one e; obtain ⟨z384, z385, rfl, z386⟩ := strip_kids z388; obtain ⟨z389, z390, rfl, z391, z392⟩ := strip_cons z386; obtain rfl := strip_nil z392; exact .t_one (i0 (by simp_all [stripL])) h1
 | t_more h0 h1 i0 => intro r e; obtain ⟨z396, rfl, z397⟩ := strip_one e; obtain ⟨z393, z394, rfl, z395⟩ := strip_kids z397; obtain ⟨z398, z399, rfl, z400, z401⟩ := strip_cons z395; obtain ⟨z402, z403, rfl, z404, z405⟩ := strip_cons z401; exact .t_more (i0 (by simp_all [stripL])) h1
 | t_tup h0 i0 => intro r e; obtain ⟨z409, rfl, z410⟩ := strip_one e; obtain ⟨z406, z407, rfl, z408⟩ := strip_kids z410; obtain ⟨z411, z412, rfl, z413, z414⟩ := strip_cons z408; obtain ⟨z415, z416, rfl, z417, z418⟩ := strip_cons z414; exact .t_tup (i0 (by simp_all [stripL]))
 | t_arr h0 h1 i0 i1 => intro r e; obtain ⟨z422, rfl, z423⟩ := strip_one e; obtain ⟨z419, z420, rfl, z421⟩ := strip_kids z423; obtain ⟨z424, z425, rfl, z426, z427⟩ := strip_cons z421; obtain ⟨z428, z429, rfl, z430, z431⟩ := strip_cons z427; obtain rfl := strip_nil z431; exact .t_arr (i0 (by simp_all [stripL])) (i1 (by simp_all [stripL]))
 | ty_np h0 h1 h2 i0 => intro r e; obtain ⟨z432, z433, rfl, z434, z435⟩ := strip_cons e; obtain rfl := strip_nil z435; exact .ty_np (i0 (by simp_all [stripL])) h1 h2
 | ty_par h0 h1 h2 i0 => intro r e; obtain ⟨z436, z437, rfl, z438, z439⟩ := strip_cons e; obtain rfl := strip_nil z439; exact .ty_par (i0 (by simp_all [stripL])) h1 h2
 | d_val h0 h1 i0 i1 => intro r e; obtain ⟨z443, rfl, z444⟩ := strip_one e; obtain ⟨z440, z441, rfl, z442⟩ := strip_kids z444; obtain ⟨z445, z446, rfl, z447, z448⟩ := strip_cons z442; obtain ⟨z449, z450, rfl, z451, z452⟩ := strip_cons z448; obtain rfl := strip_nil z452; exact .d_val (i0 (by simp_all [stripL])) (i1 (by simp_all [stripL]))
 | d_fun h0 i0 => intro r e; obtain ⟨z456, rfl, z457⟩ := strip_one e; obtain ⟨z453, z454, rfl, z455⟩ := strip_kids z457; obtain ⟨z458, z459, rfl, z460, z461⟩ := strip_cons z455; exact .d_fun (i0 (by simp_all [stripL]))
 | fb h0 h1 h2 i1 i2 => intro r e; obtain ⟨z465, rfl, z466⟩ := strip_one e; obtain ⟨z462, z463, rfl, z464⟩ := strip_kids z466; obtain ⟨z467, z468, rfl, z469, z470⟩ := strip_app z464; obtain ⟨z471, z472, rfl, z473, z474⟩ := strip_cons z469; obtain ⟨z475, z476, rfl, z477, z478⟩ := strip_cons z470; obtain rfl := strip_nil z478; exact .fb h0 (i1 (by simp_all [stripL])) (i2 (by simp_all [stripL]))
 | fb_has h0 h1 h2 h3 h4 i2 i3 i4 => intro r e; obtain ⟨z482, rfl, z483⟩ := strip_one e; obtain ⟨z479, z480, rfl, z481⟩ := strip_kids z483; obtain ⟨z484, z485, rfl, z486, z487⟩ := strip_app z481; obtain ⟨z488, z489, rfl, z490, z491⟩ := strip_cons z486; obtain ⟨z492, z493, rfl, z494, z495⟩ := strip_cons z487; obtain ⟨z496, z497, rfl, z498⟩ := strip_kids z494; obtain ⟨z499, z500, rfl, z501, z502⟩ := strip_cons z498; obtain ⟨z503, z504, rfl, z505, z506⟩ := strip_cons z502; obtain rfl := strip_nil z506; obtain rfl := strip_nil z495; exact .fb_has h0 h1 (i2 (by simp_all [stripL])) (i3 (by simp_all [stripL])) (i4 (by simp_all [stripL]))
 | d_type h0 h1 h2 i1 i2 => intro r e; obtain ⟨z510, rfl, z511⟩ := strip_one e; obtain ⟨z507, z508, rfl, z509⟩ := strip_kids z511; obtain ⟨z512, z513, rfl, z514, z515⟩ := strip_app z509; obtain ⟨z516, z517, rfl, z518, z519⟩ := strip_cons z515; obtain rfl := strip_nil z519; rw [strip_len z514]; exact .d_type h0 (i1 (by simp_all [stripL])) (i2 (by simp_all [stripL]))
 | d_dx h0 h1 i1 => intro r e; obtain ⟨z520, z521, rfl, z522, z523⟩ := strip_cons e; obtain rfl := strip_nil z523; exact .d_dx (by rw [← strip_k (by assumption)]; exact h0) (i1 (by simp_all [stripL]))
 | dx_data h0 i0 => intro r e; obtain ⟨z527, rfl, z528⟩ := strip_one e; obtain ⟨z524, z525, rfl, z526⟩ := strip_kids z528; obtain ⟨z529, z530, rfl, z531, z532⟩ := strip_cons z526; exact .dx_data (i0 (by simp_all [stripL]))
 | dx_exn0 h0 => intro r e; obtain ⟨z536, rfl, z537⟩ := strip_one e; obtain ⟨z533, z534, rfl, z535⟩ := strip_kids z537; obtain rfl := strip_nil z535; exact .dx_exn0 h0
 | dx_exn1 h0 h1 i1 => intro r e; obtain ⟨z541, rfl, z542⟩ := strip_one e; obtain ⟨z538, z539, rfl, z540⟩ := strip_kids z542; obtain ⟨z543, z544, rfl, z545, z546⟩ := strip_cons z540; obtain rfl := strip_nil z546; exact .dx_exn1 h0 (i1 (by simp_all [stripL]))
 | db h0 h1 i0 i1 => intro r e; obtain ⟨z550, rfl, z551⟩ := strip_one e; obtain ⟨z547, z548, rfl, z549⟩ := strip_kids z551; obtain ⟨z552, z553, rfl, z554, z555⟩ := strip_app z549; obtain ⟨z556, z557, rfl, z558, z559⟩ := strip_cons z555; rw [strip_len z554]; exact .db (i0 (by simp_all [stripL])) (i1 (by simp_all [stripL]))
 | con0 h0 => intro r e; obtain ⟨z563, rfl, z564⟩ := strip_one e; obtain ⟨z560, z561, rfl, z562⟩ := strip_kids z564; obtain rfl := strip_nil z562; exact .con0 h0
 | con1 h0 h1 i1 => intro r e; obtain ⟨z568, rfl, z569⟩ := strip_one e; obtain ⟨z565, z566, rfl, z567⟩ := strip_kids z569; obtain ⟨z570, z571, rfl, z572, z573⟩ := strip_cons z567; obtain rfl := strip_nil z573; exact .con1 h0 (i1 (by simp_all [stripL]))
 | d_str0 h0 h1 h2 i2 => intro r e; obtain ⟨z577, rfl, z578⟩ := strip_one e; obtain ⟨z574, z575, rfl, z576⟩ := strip_kids z578; obtain ⟨z579, z580, rfl, z581, z582⟩ := strip_cons z576; obtain rfl := strip_nil z582; exact .d_str0 h0 h1 (i2 (by simp_all [stripL]))
 | d_str1 h0 h1 h2 h3 h4 i3 i4 => intro r e; obtain ⟨z586, rfl, z587⟩ := strip_one e; obtain ⟨z583, z584, rfl, z585⟩ := strip_kids z587; obtain ⟨z588, z589, rfl, z590, z591⟩ := strip_cons z585; obtain ⟨z592, z593, rfl, z594, z595⟩ := strip_cons z591; obtain rfl := strip_nil z595; exact .d_str1 h0 h1 h2 (i3 (by simp_all [stripL])) (i4 (by simp_all [stripL]))
 | d_sig h0 h1 h2 i2 => intro r e; obtain ⟨z599, rfl, z600⟩ := strip_one e; obtain ⟨z596, z597, rfl, z598⟩ := strip_kids z600; obtain ⟨z601, z602, rfl, z603, z604⟩ := strip_cons z598; obtain rfl := strip_nil z604; exact .d_sig h0 h1 (i2 (by simp_all [stripL]))
 | d_open h0 => intro r e; obtain ⟨z608, rfl, z609⟩ := strip_one e; obtain ⟨z605, z606, rfl, z607⟩ := strip_kids z609; obtain rfl := strip_nil z607; exact .d_open h0
 | b_nil  => intro r e; obtain ⟨z613, rfl, z614⟩ := strip_one e; obtain ⟨z610, z611, rfl, z612⟩ := strip_kids z614; obtain rfl := strip_nil z612; exact .b_nil 
 | b_str h0 i0 => intro r e; obtain ⟨z618, rfl, z619⟩ := strip_one e; obtain ⟨z615, z616, rfl, z617⟩ := strip_kids z619; obtain ⟨z620, z621, rfl, z622, z623⟩ := strip_cons z617; exact .b_str (i0 (by simp_all [stripL]))
 | b_path h0 => intro r e; obtain ⟨z627, rfl, z628⟩ := strip_one e; obtain ⟨z624, z625, rfl, z626⟩ := strip_kids z628; obtain rfl := strip_nil z626; exact .b_path h0
 | s_body h0 i0 => intro r e; obtain ⟨z632, rfl, z633⟩ := strip_one e; obtain ⟨z629, z630, rfl, z631⟩ := strip_kids z633; exact .s_body (i0 (by simp_all [stripL]))
 | s_name h0 => intro r e; obtain ⟨z637, rfl, z638⟩ := strip_one e; obtain ⟨z634, z635, rfl, z636⟩ := strip_kids z638; obtain rfl := strip_nil z636; exact .s_name h0
 | sp_val h0 h1 i1 => intro r e; obtain ⟨z642, rfl, z643⟩ := strip_one e; obtain ⟨z639, z640, rfl, z641⟩ := strip_kids z643; obtain ⟨z644, z645, rfl, z646, z647⟩ := strip_cons z641; obtain rfl := strip_nil z647; exact .sp_val h0 (i1 (by simp_all [stripL]))
 | sp_type h0 i0 => intro r e; obtain ⟨z651, rfl, z652⟩ := strip_one e; obtain ⟨z648, z649, rfl, z650⟩ := strip_kids z652; rw [strip_len z650]; exact .sp_type (i0 (by simp_all [stripL]))
 | sp_type1 h0 h1 i0 i1 => intro r e; obtain ⟨z656, rfl, z657⟩ := strip_one e; obtain ⟨z653, z654, rfl, z655⟩ := strip_kids z657; obtain ⟨z658, z659, rfl, z660, z661⟩ := strip_app z655; obtain ⟨z662, z663, rfl, z664, z665⟩ := strip_cons z661; obtain rfl := strip_nil z665; rw [strip_len z660]; exact .sp_type1 (i0 (by simp_all [stripL])) (i1 (by simp_all [stripL]))
 | sp_dx h0 i0 => intro r e; obtain ⟨z666, z667, rfl, z668, z669⟩ := strip_cons e; obtain rfl := strip_nil z669; exact .sp_dx (i0 (by simp_all [stripL]))
 | sp_str h0 h1 i1 => intro r e; obtain ⟨z673, rfl, z674⟩ := strip_one e; obtain ⟨z670, z671, rfl, z672⟩ := strip_kids z674; obtain ⟨z675, z676, rfl, z677, z678⟩ := strip_cons z672; obtain rfl := strip_nil z678; exact .sp_str h0 (i1 (by simp_all [stripL]))
 | tv h0 => intro r e; obtain ⟨z682, rfl, z683⟩ := strip_one e; obtain ⟨z679, z680, rfl, z681⟩ := strip_kids z683; obtain rfl := strip_nil z681; exact .tv h0
 | h_none h0 => intro r e; obtain rfl := strip_nil e; exact .h_none h0
 | h_one h0 h1 i1 => intro r e; obtain ⟨z684, z685, rfl, z686, z687⟩ := strip_cons e; obtain rfl := strip_nil z687; exact .h_one h0 (i1 (by simp_all [stripL]))
 | h_more h0 h1 i1 => intro r e; obtain ⟨z688, z689, rfl, z690, z691⟩ := strip_cons e; obtain ⟨z692, z693, rfl, z694, z695⟩ := strip_cons z691; exact .h_more h0 (i1 (by simp_all [stripL]))
theorem TopG.places {k : Nat} {n m : Ty} {ws : List ByteArray} (h : TopG k n ws) (e : strip n = strip m) (hm : k = 0 → ∃ l, m = .mk 0 0 e_ 0 l) : TopG k m ws := by
 have e1 : stripL [n] = stripL [m] := by simp only [stripL, e]
 unfold TopG at h ⊢
 by_cases h0 : k = 0
 · rw [if_pos h0] at h ⊢
   obtain ⟨l, rfl, h⟩ := h
   obtain ⟨l', rfl⟩ := hm h0
   simp only [strip_mk, Ty.mk.injEq] at e
   exact ⟨l', rfl, h.places e.2.2.2.2⟩
 rw [if_neg h0] at h ⊢
 by_cases h1 : k = 1
 · rw [if_pos h1] at h ⊢; exact h.places e1
 rw [if_neg h1] at h ⊢
 by_cases h2 : k = 2
 · rw [if_pos h2] at h ⊢; exact h.places e1
 rw [if_neg h2] at h ⊢; exact h.places e1
theorem topD_zero {P : Src} {m : Ty} {j : Nat} (h : topD P 0 = .ok m j) : ∃ l, m = .mk 0 0 e_ 0 l := by
 unfold topD at h
 rw [if_pos rfl] at h
 unfold wholeD at h
 cases hx : (decsB P (recS P 60) 0 >>= fun l => ret (.mk 0 0 ⟨#[]⟩ 0 l) : M Ty) 0 with
 | bad k a => rw [hx] at h; cases h
 | ok n i =>
  rw [hx] at h
  rcases ite_inv h with ⟨c, h⟩ | ⟨c, h⟩
  · obtain ⟨rfl, rfl⟩ := ok_inv h
    obtain ⟨l, k, h1, h2⟩ := bind_invv hx
    obtain ⟨rfl, -⟩ := ret_inv h2
    exact ⟨l, rfl⟩
  · exact (fail_inv h).elim
theorem again_words {P : Src} {k : Nat} {n : Ty} {ws : List ByteArray} (h : TopG k n ws) (hT : Tl ws P.toks) : (∃ m, topD P k = .ok m ws.length ∧ strip n = strip m ∧ TopG k m ws) ∨ (typT n = true ∧ ∃ a, topD P k = .bad 5 a) := by
 rcases top_again h hT with ⟨m, h1, h2⟩ | h1
 · exact .inl ⟨m, h1, h2, h.places h2 fun e => by subst e; exact topD_zero h1⟩
 · exact .inr h1
def AllW (ws : List ByteArray) : Prop := ∀ w ∈ ws, ∃ k t n, Wt w k t n
theorem AllW.app {a b : List ByteArray} (h : AllW a) (h2 : AllW b) : AllW (a ++ b) := fun w hw => (List.mem_append.1 hw).elim (h w) (h2 w)
theorem AllW.cons {a : ByteArray} {b : List ByteArray} (h : ∃ k t n, Wt a k t n) (h2 : AllW b) : AllW (a :: b) := fun w hw => by
 rcases List.mem_cons.1 hw with rfl | hw
 · exact h
 · exact h2 w hw
theorem AllW.nil : AllW [] := fun w hw => by cases hw
theorem wsg {w : ByteArray} (hw : inW (wordsA ++ signsA) w = true := by decide) : ∃ k t n, Wt w k t n := by
 rcases sg_all w (inL_mem hw) with h | h
 · exact ⟨_, _, _, h⟩
 · exact ⟨_, _, _, h⟩
theorem wnm {k : Nat} {w : ByteArray} (h : Nm k w) : ∃ k t n, Wt w k t n := ⟨_, _, _, h.wt⟩
theorem path_all {k : Nat} {s : ByteArray} {ws : List ByteArray} (h : PathW k s ws) : AllW ws := by
 induction h with
 | low h => exact .cons (wnm h) .nil
 | up h => exact .cons (wnm h) .nil
 | more h _ ih => exact .cons (wnm h) (.cons wsg ih)
def SepOk : Cat → Prop
 | .row c s => inW (wordsA ++ signsA) s = true ∧ SepOk c
 | .many c => SepOk c
 | _ => True
theorem op_sg {k : Nat} {s : ByteArray} (h : s ∈ opL k) : ∃ k t n, Wt s k t n := by
 have := (op_ok h).2
 simp only [opOk, Bool.and_eq_true] at this
 exact wsg this.1.1.1.1.1
theorem or_sg {s a b : ByteArray} (h : s = a ∨ s = b) (ha : inW (wordsA ++ signsA) a = true := by decide) (hb : inW (wordsA ++ signsA) b = true := by decide) : ∃ k t n, Wt s k t n := by
 rcases h with rfl | rfl
 · exact wsg ha
 · exact wsg hb
theorem or_sg2 {s a b : ByteArray} {p q : Prop} (h : s = a ∧ p ∨ s = b ∧ q) (ha : inW (wordsA ++ signsA) a = true := by decide) (hb : inW (wordsA ++ signsA) b = true := by decide) : ∃ k t n, Wt s k t n := or_sg (h.elim (fun h => .inl h.1) (fun h => .inr h.1)) ha hb
theorem trv {p : Prop} (h : p := by first | exact trivial | exact ⟨by decide, trivial⟩) : p := h
theorem allwL {p : Prop} (h : p := by repeat' first | exact AllW.nil | exact path_all (by assumption) | assumption | refine AllW.app ?_ ?_ | refine AllW.cons ?_ ?_ | exact wnm (by assumption) | exact wsg | exact ⟨_, _, _, wt_num (by assumption)⟩ | exact ⟨_, _, _, wt_str (by assumption)⟩ | exact op_sg (by assumption) | exact or_sg (by assumption) | exact or_sg2 (by assumption)) : p := h
theorem DX.all {X : Prop} {c : Cat} {g : Nat} {l : List Ty} {ws : List ByteArray} (h : DX X c g l ws) : SepOk c → AllW ws := by
 induction h with
 | row1 _ ih => exact fun h => ih h.2
 | rowS _ _ ih ih2 => exact fun h => .app (ih h.2) (.cons (wsg h.1) (ih2 h))
 | mnil => exact fun _ => .nil
 | mcons _ _ ih ih2 => exact fun h => .app (ih h) (ih2 h)
 | e_int h0 => intro _;  exact allwL
 | e_str h0 => intro _;  exact allwL
 | e_path h0 => intro _;  exact allwL
 | e_tf h0 => intro _;  exact allwL
 | e_unit  => intro _;  exact allwL
 | e_tup h0 i0 => intro _; have ki0 := i0 trv; exact allwL
 | e_seq h0 i0 => intro _; have ki0 := i0 trv; exact allwL
 | e_nil  => intro _;  exact allwL
 | e_list h0 i0 => intro _; have ki0 := i0 trv; exact allwL
 | e_app h0 h1 i0 i1 => intro _; have ki0 := i0 trv; have ki1 := i1 trv; exact allwL
 | e_fn h0 h1 i0 i1 => intro _; have ki0 := i0 trv; have ki1 := i1 trv; exact allwL
 | e_if h0 h1 h2 i0 i1 i2 => intro _; have ki0 := i0 trv; have ki1 := i1 trv; have ki2 := i2 trv; exact allwL
 | e_raise h0 i0 => intro _; have ki0 := i0 trv; exact allwL
 | e_case h0 h1 i0 i1 => intro _; have ki0 := i0 trv; have ki1 := i1 trv; exact allwL
 | e_try h0 h1 i0 i1 => intro _; have ki0 := i0 trv; have ki1 := i1 trv; exact allwL
 | e_let h0 h1 i0 i1 => intro _; have ki0 := i0 trv; have ki1 := i1 trv; exact allwL
 | e_has h0 h1 i0 i1 => intro _; have ki0 := i0 trv; have ki1 := i1 trv; exact allwL
 | e_or h0 h1 i0 i1 => intro _; have ki0 := i0 trv; have ki1 := i1 trv; exact allwL
 | e_and h0 h1 i0 i1 => intro _; have ki0 := i0 trv; have ki1 := i1 trv; exact allwL
 | e_op h0 h1 h2 i1 i2 => intro _; have ki1 := i1 trv; have ki2 := i2 trv; exact allwL
 | e_un h0 h1 i1 => intro _; have ki1 := i1 trv; exact allwL
 | ex_np h0 h1 h2 i0 => intro _; have ki0 := i0 trv; exact allwL
 | ex_par h0 h1 h2 i0 => intro _; have ki0 := i0 trv; exact allwL
 | rule h0 h1 i0 i1 => intro _; have ki0 := i0 trv; have ki1 := i1 trv; exact allwL
 | p_any  => intro _;  exact allwL
 | p_var h0 => intro _;  exact allwL
 | p_int h0 => intro _;  exact allwL
 | p_neg h0 h1 => intro _;  exact allwL
 | p_str h0 => intro _;  exact allwL
 | p_con h0 => intro _;  exact allwL
 | p_tf h0 => intro _;  exact allwL
 | p_arg h0 h1 i1 => intro _; have ki1 := i1 trv; exact allwL
 | p_unit  => intro _;  exact allwL
 | p_tup h0 i0 => intro _; have ki0 := i0 trv; exact allwL
 | p_nil  => intro _;  exact allwL
 | p_list h0 i0 => intro _; have ki0 := i0 trv; exact allwL
 | p_cons h0 h1 i0 i1 => intro _; have ki0 := i0 trv; have ki1 := i1 trv; exact allwL
 | p_as h0 h1 i1 => intro _; have ki1 := i1 trv; exact allwL
 | p_has h0 h1 i0 i1 => intro _; have ki0 := i0 trv; have ki1 := i1 trv; exact allwL
 | pt_np h0 h1 h2 i0 => intro _; have ki0 := i0 trv; exact allwL
 | pt_par h0 h1 h2 i0 => intro _; have ki0 := i0 trv; exact allwL
 | t_var h0 => intro _;  exact allwL
 | t_con h0 => intro _;  exact allwL
 | t_one h0 h1 i0 => intro _; have ki0 := i0 trv; exact allwL
 | t_more h0 h1 i0 => intro _; have ki0 := i0 trv; exact allwL
 | t_tup h0 i0 => intro _; have ki0 := i0 trv; exact allwL
 | t_arr h0 h1 i0 i1 => intro _; have ki0 := i0 trv; have ki1 := i1 trv; exact allwL
 | ty_np h0 h1 h2 i0 => intro _; have ki0 := i0 trv; exact allwL
 | ty_par h0 h1 h2 i0 => intro _; have ki0 := i0 trv; exact allwL
 | d_val h0 h1 i0 i1 => intro _; have ki0 := i0 trv; have ki1 := i1 trv; exact allwL
 | d_fun h0 i0 => intro _; have ki0 := i0 trv; exact allwL
 | fb h0 h1 h2 i1 i2 => intro _; have ki1 := i1 trv; have ki2 := i2 trv; exact allwL
 | fb_has h0 h1 h2 h3 h4 i2 i3 i4 => intro _; have ki2 := i2 trv; have ki3 := i3 trv; have ki4 := i4 trv; exact allwL
 | d_type h0 h1 h2 i1 i2 => intro _; have ki1 := i1 trv; have ki2 := i2 trv; exact allwL
 | d_dx h0 h1 i1 => intro _; have ki1 := i1 trv; exact allwL
 | dx_data h0 i0 => intro _; have ki0 := i0 trv; exact allwL
 | dx_exn0 h0 => intro _;  exact allwL
 | dx_exn1 h0 h1 i1 => intro _; have ki1 := i1 trv; exact allwL
 | db h0 h1 i0 i1 => intro _; have ki0 := i0 trv; have ki1 := i1 trv; exact allwL
 | con0 h0 => intro _;  exact allwL
 | con1 h0 h1 i1 => intro _; have ki1 := i1 trv; exact allwL
 | d_str0 h0 h1 h2 i2 => intro _; have ki2 := i2 trv; exact allwL
 | d_str1 h0 h1 h2 h3 h4 i3 i4 => intro _; have ki3 := i3 trv; have ki4 := i4 trv; exact allwL
 | d_sig h0 h1 h2 i2 => intro _; have ki2 := i2 trv; exact allwL
 | d_open h0 => intro _;  exact allwL
 | b_nil  => intro _;  exact allwL
 | b_str h0 i0 => intro _; have ki0 := i0 trv; exact allwL
 | b_path h0 => intro _;  exact allwL
 | s_body h0 i0 => intro _; have ki0 := i0 trv; exact allwL
 | s_name h0 => intro _;  exact allwL
 | sp_val h0 h1 i1 => intro _; have ki1 := i1 trv; exact allwL
 | sp_type h0 i0 => intro _; have ki0 := i0 trv; exact allwL
 | sp_type1 h0 h1 i0 i1 => intro _; have ki0 := i0 trv; have ki1 := i1 trv; exact allwL
 | sp_dx h0 i0 => intro _; have ki0 := i0 trv; exact allwL
 | sp_str h0 h1 i1 => intro _; have ki1 := i1 trv; exact allwL
 | tv h0 => intro _;  exact allwL
 | h_none h0 => intro _;  exact allwL
 | h_one h0 h1 i1 => intro _; have ki1 := i1 trv; exact allwL
 | h_more h0 h1 i1 => intro _; have ki1 := i1 trv; exact allwL
theorem TopG.all {k : Nat} {n : Ty} {ws : List ByteArray} (h : TopG k n ws) : AllW ws := by
 unfold TopG at h
 split at h
 · obtain ⟨l, -, h⟩ := h; exact h.all trivial
 split at h
 · exact h.all trivial
 split at h
 · exact h.all trivial
 · exact h.all trivial
theorem topD_M (P : Src) (q : Nat) : topD P q = wholeD P (topM q P) := by
 unfold topD
 match q with
 | 0 => rfl
 | 1 => rfl
 | 2 => rfl
 | q + 3 => rw [if_neg (by omega), if_neg (by omega), if_neg (by omega)]; rfl
theorem ans_cases (s : ByteArray) (q : Nat) : (∃ k, k ≠ 0 ∧ ∃ z a, ansD s (topM q) = (z, k, a)) ∨ ∃ n j, SrcOk (srcD s) ∧ topD (srcD s) q = .ok n j ∧ ansD s (topM q) = (n, 0, 0) := by
 unfold ansD
 by_cases hl : (lexD s).2.1 = 1 ∨ (lexD s).2.1 = 2
 · rw [if_pos hl]
   exact .inl ⟨(lexD s).2.1, by omega, _, _, rfl⟩
 · rw [if_neg hl]
   have hok : SrcOk (srcD s) := by
    rcases lexD_cases s with ⟨h, -⟩ | ⟨-, h⟩
    · exact absurd h hl
    · exact h
   rw [← topD_M]
   have HE : EndOk (srcD s) := fun e i hi => by
    have := (hok.ends e).2
    rw [show (srcD s).toks.length - 1 = i by omega] at this
    exact this
   have h0 : In (srcD s) 0 := by
    by_cases e : (srcD s).fk = 0
    · exact .inr (by have := (hok.ends e).1; omega)
    · exact .inl e
   cases hx : topD (srcD s) q with
   | bad k a => exact .inl ⟨k, top_kind HE h0 k a q hx, _, _, rfl⟩
   | ok n j => exact .inr ⟨n, j, hok, rfl, rfl⟩
theorem ans_read {s : ByteArray} {q : Nat} {n : Ty} {a : Nat} (h : ansD s (topM q) = (n, 0, a)) : a = 0 ∧ ∃ ws, TopG q n ws ∧ jl ws ≤ 4000000000 := by
 rcases ans_cases s q with ⟨k, hk, z, b, e⟩ | ⟨m, j, hok, h1, e⟩
 · rw [e] at h
   simp only [Prod.mk.injEq] at h
   omega
 · rw [e] at h
   simp only [Prod.mk.injEq] at h
   obtain ⟨rfl, -, rfl⟩ := h
   obtain ⟨hg, hs⟩ := good_src (P := srcD s) (lex_good s)
   obtain ⟨hk, ws, h2, h3⟩ := top_inv hg h1
   refine ⟨rfl, ws, h2, ?_⟩
   have h4 := Ph_le hs j
   have h5 := K_ltt (k := 0) hk
   have := hok.len
   omega
theorem ans_again {q : Nat} {n : Ty} {ws : List ByteArray} (h : TopG q n ws) (hl : (jb ws).length ≤ 4000) : ∃ b, lexD ⟨(jb ws).toArray⟩ = (b, (0, 0)) ∧ b.length = ws.length + 1 ∧ ((∃ m, ansD ⟨(jb ws).toArray⟩ (topM q) = (m, 0, 0) ∧ strip n = strip m ∧ TopG q m ws) ∨ (typT n = true ∧ ∃ z a, ansD ⟨(jb ws).toArray⟩ (topM q) = (z, 5, a))) := by
 obtain ⟨b, hb, hT⟩ := jb_lex h.all hl
 refine ⟨b, hb, hT.len, ?_⟩
 have hs : srcD ⟨(jb ws).toArray⟩ = ⟨b, 0, 0⟩ := by unfold srcD; rw [hb]
 unfold ansD
 rw [if_neg (by rw [hb]; simp), ← topD_M, hs]
 rcases again_words (P := ⟨b, 0, 0⟩) h hT with ⟨m, h1, h2, h3⟩ | ⟨h1, a, h2⟩
 · exact .inl ⟨m, by rw [h1], h2, h3⟩
 · exact .inr ⟨h1, _, a, by rw [h2]⟩
mutual
theorem strip_same : ∀ {t u : Ty}, strip t = strip u → sameD false t u = true
 | .mk k n s q l, .mk k' n' s' q' l', h => by
  simp only [strip_mk, Ty.mk.injEq] at h
  obtain ⟨rfl, -, rfl, rfl, h⟩ := h
  have h1 := strip_len h
  have h2 := stripL_same h
  simp [sameD, headS, Ty.k, Ty.s, Ty.q, Ty.args, h1, h2]
theorem stripL_same : ∀ {t u : List Ty}, stripL t = stripL u → sameL false t u = true
 | [], _, _ => by simp [sameL]
 | x :: t, [], h => by simp [stripL] at h
 | x :: t, y :: u, h => by
  simp only [stripL, List.cons.injEq] at h
  simp [sameL, strip_same h.1, stripL_same h.2]
end
structure PS (B pb : Nat) (l : List ByteArray) (v : Value) (w : World) : Prop where
 row : w.heap[pb]? = some (.cells #[v] 46 (0, 0))
 own : w.ownsRow B 9 1 v l.length (l.map Value.string)
 low : B ≤ pb
 top : B ≤ w.heap.size
structure FrP (pb : Nat) (v : Value) (w : World) (v' : Value) (w' : World) : Prop where
 os : w'.os = w.os
 tape : w'.tape = w.tape
 output : w'.output = w.output
 size : w.heap.size ≤ w'.heap.size
 block : ∀ b, b < w.heap.size → b ≠ pb → v.ownBlock ≠ some b → w'.heap[b]? = w.heap[b]?
 lies : ∀ g, v'.ownBlock = some g → v.ownBlock = some g ∨ w.heap.size ≤ g
theorem FrP.refl (pb : Nat) (v : Value) (w : World) : FrP pb v w v w := ⟨rfl, rfl, rfl, Nat.le_refl _, fun _ _ _ _ => rfl, fun _ h => .inl h⟩
theorem FrP.trans {pb : Nat} {v v1 v2 : Value} {w w1 w2 : World} (h : FrP pb v w v1 w1) (h2 : FrP pb v1 w1 v2 w2) : FrP pb v w v2 w2 :=
 ⟨h2.os.trans h.os, h2.tape.trans h.tape, h2.output.trans h.output, Nat.le_trans h.size h2.size, fun b hb hp hv => (h2.block b (Nat.lt_of_lt_of_le hb h.size) hp fun e => (h.lies b e).elim hv fun h3 => by omega).trans (h.block b hb hp hv), fun g hg => (h2.lies g hg).elim (fun h3 => h.lies g h3) fun h3 => .inr (Nat.le_trans h.size h3)⟩
theorem FrP.below {pb : Nat} {v : Value} {w w' : World} (h : Below w.heap.size w w') : FrP pb v w v w' := ⟨h.os, h.tape, h.output, h.size, fun b hb _ _ => h.block b hb, fun _ h => .inl h⟩
theorem PS.lt {B pb : Nat} {l : List ByteArray} {v : Value} {w : World} (h : PS B pb l v w) : pb < w.heap.size := lt_of_block h.row
theorem PS.ne {B pb : Nat} {l : List ByteArray} {v : Value} {w : World} (h : PS B pb l v w) : v.ownBlock ≠ some pb := own_ne h.row h.own (by decide)
theorem PS.below {B pb : Nat} {l : List ByteArray} {v : Value} {w w' : World} (h : PS B pb l v w) (hb : Below w.heap.size w w') : PS B pb l v w' :=
 ⟨blk_below h.row hb h.lt, h.own.kept (gr_below hb (some w.heap.size)) (.inr fun e => by have := (h.own.lt _ e).2; omega), h.low, Nat.le_trans h.top hb.size⟩
def Put (B pb : Nat) (v : Value) (w : World) (l : List ByteArray) (e : Ending) (w' : World) : Prop := e = .returned (.tuple #[]) ∧ ∃ v', PS B pb l v' w' ∧ FrP pb v w v' w'
abbrev pp (pb : Nat) : Value := .pointer (some ⟨pb, 0, none⟩)
theorem info9q : (Tryz.prog.info? 9).map (fun i => (i.zero, i.size, i.bytes)) = some (some (.string ⟨#[]⟩), 1, 16) := by kernel_rfl
theorem put_any (B pb : Nat) (l : List ByteArray) (v : Value) (w : World) (h : PS B pb l v w) (ws : List ByteArray) (g o c m : Nat) (hm : m = ws.length) (h0 : 0 < m) (hc : ∀ j u, (ws.map Value.string)[j]? = some u → w.cell? ((⟨g, o, none⟩ : Addr).add j) = some u) (hn : l.length + ws.length ≤ 4000000000) :
 Calls Tryz.prog 85 #[pp pb, .slice (some ⟨g, o, none⟩) m c] w (Put B pb v w (l ++ ws)) := by
 obtain ⟨i, hi, hz0, hz1, hz2⟩ := info_parts info9q
 have hlen : (ws.map Value.string).length = m := by rw [List.length_map, hm]
 have c0 : w.cell? ⟨pb, 0, none⟩ = some v := blk_cell h.row 0
 have HI := lh hi
 have H := lh h
 have HC := lh hc
 have HL := lh hlen
 have HM := lh hm
 have hb := h.top
 clear hi h hc hlen hm
 go_enter Tryz.func85, Tryz.ntmps85
 go_wp2_with (at_builtin; go_must (refine wpList_append_lies _ (by rfl) _ _ _ (by rfl) B 9 i _ 1 16 Tryz.underlying44 HI.out hz0 hz1 hz2 rfl (by omega) v l.length (l.map Value.string) (by rfl) H.out.own ⟨g, o, none⟩ m c (ws.map Value.string) (by rfl) (by rw [HL.out]; omega) HC.out (by simp [Value.oneCell']) h0 (by have := HM.out; unfold maxLen; omega) (by have := HM.out; omega) hb w.heap.size (by rfl) ?_); intro gg cap w1 hown1 hgrow hat hlt1; have hp1 := blk_grown H.out.row hgrow H.out.ne; have c0' : w1.cell? ⟨pb, 0, none⟩ = some v := blk_cell hp1 0; have f0' := blk_free hp1 0; have HW := lh hown1; have HG := lh hgrow; have HA := lh hat; have HP := lh hp1; clear hown1 hgrow hat hp1)
 go_end0
 have hs : Below (w1.heap.size) w1 w1 := Below.refl _ _
 have hG := HG.out
 have hA := HA.out
 refine ⟨rfl, .slice (some ⟨gg, 0, none⟩) (l.length + m) cap, ⟨blk_set HP.out 0 _, ?_, H.out.low, ?_⟩, hG.os, hG.tape, hG.output, ?_, fun b hb hp hv => ?_, fun g1 hg1 => ?_⟩
 · rw [List.length_append, List.map_append, ← HM.out]
   exact own_set HW.out HP.out (by decide) _ _
 · show B ≤ (w1.heap.modify _ _).size
   rw [Array.size_modify]; exact Nat.le_trans H.out.top hG.size
 · show _ ≤ (w1.heap.modify _ _).size
   rw [Array.size_modify]; exact hG.size
 · rw [Below.heap_setCell _ _ _ _ hp]
   exact hG.block b hb fun e => hv e.symm
 · cases hg1
   exact hA.imp id fun e => by rw [e]; exact Nat.le_refl _
end Go.Proofs.YthehjeeiodbkjaaGreatDoor
