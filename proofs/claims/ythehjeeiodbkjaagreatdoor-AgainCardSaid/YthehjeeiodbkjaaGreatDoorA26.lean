/-
  Proved: what the library makes of a name with dots: its words; the tokens of words with a blank between; that what the lexer tells is names, numbers, strings; what may follow; what a level reads; from a level to the one below. Conditions: the tokens.
-/
import Derived.Test.YthehjeeiodbkjaaGreatDoorA01
import Derived.Test.YthehjeeiodbkjaaGreatDoorA24
import Derived.Test.YthehjeeiodbkjaaGreatDoorA23
import Derived.Test.YthehjeeiodbkjaaGreatDoorA25
import Derived.Lib.SplitLaws
import Derived.Lib.ReplaceLaws
import Derived.Lib.IndexBytes
import Derived.Lib.Replace
set_option linter.unusedSimpArgs false
set_option linter.unusedVariables false
set_option linter.unusedSectionVars false
set_option maxRecDepth 100000
set_option maxHeartbeats 16000000
namespace Go.Proofs.YthehjeeiodbkjaaGreatDoor
open Go.RowKit
theorem ixb (c : UInt8) (b : List UInt8) : ∀ (a : List UInt8), c ∉ a → Lib.indexByte (a ++ c :: b) c = a.length
 | [], _ => by simp [Lib.indexByte]
 | x :: a, h => by
  have h1 : x ≠ c := fun e => h (by simp [e])
  have h2 := ixb c b a fun e => h (List.mem_cons_of_mem _ e)
  show (if x == c then (0 : Int) else if Lib.indexByte (a ++ c :: b) c == -1 then -1 else Lib.indexByte (a ++ c :: b) c + 1) = _
  rw [if_neg (by simpa using h1), h2, if_neg (by simp)]
  rfl
def jb : List ByteArray → List UInt8
 | [] => []
 | [w] => w.data.toList
 | w :: x :: r => w.data.toList ++ 32 :: jb (x :: r)
theorem nm_no {k : Nat} {s : ByteArray} (h : Nm k s) : (46 : UInt8) ∉ s.data.toList ∧ (32 : UInt8) ∉ s.data.toList :=
 ⟨fun e => by have := h.bytes _ e; revert this; decide, fun e => by have := h.bytes _ e; revert this; decide⟩
theorem pathW_cons {k : Nat} {s : ByteArray} {ws : List ByteArray} (h : PathW k s ws) : ∃ x r, ws = x :: r := by cases h <;> exact ⟨_, _, rfl⟩
theorem rep_path {k : Nat} {s : ByteArray} {ws : List ByteArray} (h : PathW k s ws) : Lib.replaceK [46] [32, 46, 32] (Lib.count s.data.toList [46]) s.data.toList = jb ws := by
 induction h with
 | low h => rw [Lib.count_one, List.count_eq_zero_of_not_mem (nm_no h).1]; rfl
 | up h => rw [Lib.count_one, List.count_eq_zero_of_not_mem (nm_no h).1]; rfl
 | @more k s t ws h hp ih =>
  obtain ⟨x, r, rfl⟩ := pathW_cons hp
  have e : (s ++ s_dot ++ t).data.toList = s.data.toList ++ 46 :: t.data.toList := by simp [ByteArray.data_append]
  rw [e]
  have hc : Lib.count (s.data.toList ++ 46 :: t.data.toList) [46] = Lib.count t.data.toList [46] + 1 := by
   rw [Lib.count_one, Lib.count_one, List.count_append, List.count_eq_zero_of_not_mem (nm_no h).1]; simp
  have hi : Lib.index (s.data.toList ++ 46 :: t.data.toList) [46] = (s.data.toList.length : Nat) := by rw [Lib.index_one, ixb _ _ _ (nm_no h).1]
  rw [hc, Lib.replaceK_hit _ _ _ _ _ hi, List.take_left, show ∀ a b : List UInt8, (a ++ 46 :: b).drop (a.length + ([46] : List UInt8).length) = b from fun a b => by rw [show a ++ 46 :: b = (a ++ [46]) ++ b by simp]; exact List.drop_left' (by simp), ih]
  simp [jb]
theorem replace_path {k : Nat} {s : ByteArray} {ws : List ByteArray} (h : PathW k s ws) : Lib.replaceAll s.data.toList [46] [32, 46, 32] = jb ws := by
 show Lib.replace _ _ _ _ = _
 unfold Lib.replace
 rw [if_neg (by decide)]
 unfold Lib.replaceNum
 rw [if_pos (.inl (by decide))]
 exact rep_path h
theorem jb_count {ws : List ByteArray} : ws ≠ [] → (∀ w ∈ ws, (32 : UInt8) ∉ w.data.toList) → Lib.count (jb ws) [32] + 1 = ws.length := by
 induction ws with
 | nil => intro h; exact absurd rfl h
 | cons w r ih =>
  intro _ hw
  have h1 := hw w (by simp)
  rw [Lib.count_one] at *
  cases r with
  | nil => simp [jb, List.count_eq_zero_of_not_mem h1]
  | cons x r =>
   have h2 := ih (by simp) fun y hy => hw y (List.mem_cons_of_mem _ hy)
   show List.count 32 (w.data.toList ++ 32 :: jb (x :: r)) + 1 = _
   rw [List.count_append, List.count_eq_zero_of_not_mem h1, List.count_cons_self]
   simp only [List.length_cons] at h2 ⊢
   omega
theorem split_jb : ∀ {ws : List ByteArray}, ws ≠ [] → (∀ w ∈ ws, (32 : UInt8) ∉ w.data.toList) → Lib.splitK [32] 0 (ws.length - 1) (jb ws) = ws.map (·.data.toList)
 | [], h, _ => absurd rfl h
 | [w], _, _ => rfl
 | w :: x :: r, _, hw => by
  have h1 := hw w (by simp)
  have h2 := split_jb (ws := x :: r) (by simp) fun y hy => hw y (List.mem_cons_of_mem _ hy)
  have hi : Lib.index (w.data.toList ++ 32 :: jb (x :: r)) [32] = (w.data.toList.length : Nat) := by rw [Lib.index_one, ixb _ _ _ h1]
  show Lib.splitK [32] 0 (r.length + 1) (w.data.toList ++ 32 :: jb (x :: r)) = _
  unfold Lib.splitK
  rw [hi, if_neg (by simp)]
  have e1 : ((w.data.toList.length : Int)).toNat = w.data.toList.length := by simp
  rw [e1, show ∀ a b : List UInt8, (a ++ 32 :: b).drop (a.length + ([32] : List UInt8).length) = b from fun a b => by rw [show a ++ 32 :: b = (a ++ [32]) ++ b by simp]; exact List.drop_left' (by simp), Nat.add_zero, List.take_left]
  rw [show (x :: r).length - 1 = r.length from rfl] at h2
  rw [h2]
  rfl
theorem path_words {k : Nat} {s : ByteArray} {ws : List ByteArray} (h : PathW k s ws) : ws ≠ [] ∧ ∀ w ∈ ws, (32 : UInt8) ∉ w.data.toList := by
 induction h with
 | low h => exact ⟨by simp, fun w hw => by simp at hw; subst hw; exact (nm_no h).2⟩
 | up h => exact ⟨by simp, fun w hw => by simp at hw; subst hw; exact (nm_no h).2⟩
 | more h hp ih =>
  refine ⟨by simp, fun w hw => ?_⟩
  rcases List.mem_cons.1 hw with rfl | hw
  · exact (nm_no h).2
  · rcases List.mem_cons.1 hw with rfl | hw
    · decide
    · exact ih.2 w hw
theorem map_data_inj : ∀ {a b : List ByteArray}, a.map (·.data.toList) = b.map (·.data.toList) → a = b
 | [], [], _ => rfl
 | [], _ :: _, h => by simp at h
 | _ :: _, [], h => by simp at h
 | x :: a, y :: b, h => by
  simp only [List.map_cons, List.cons.injEq] at h
  rw [map_data_inj h.2]
  have : x = y := by ext1; exact Array.toList_inj.1 h.1
  rw [this]
theorem split_path {k : Nat} {s : ByteArray} {ws : List ByteArray} (h : PathW k s ws) : Lib.countB ⟨(jb ws).toArray⟩ ⟨#[32]⟩ + 1 = ws.length ∧ Lib.splitB ⟨#[32]⟩ 0 (Lib.countB ⟨(jb ws).toArray⟩ ⟨#[32]⟩) ⟨(jb ws).toArray⟩ = ws := by
 obtain ⟨h1, h2⟩ := path_words h
 have hc : Lib.countB ⟨(jb ws).toArray⟩ ⟨#[32]⟩ + 1 = ws.length := jb_count h1 h2
 refine ⟨hc, map_data_inj ?_⟩
 rw [Lib.splitB_data, show Lib.countB ⟨(jb ws).toArray⟩ ⟨#[32]⟩ = ws.length - 1 by omega]
 exact split_jb h1 h2
theorem ba_len (w : ByteArray) : w.data.toList.length = w.size := by rw [Array.length_toList]; rfl
theorem jb_len : ∀ (ws : List ByteArray), (jb ws).length ≤ jl ws
 | [] => by simp [jb]
 | [w] => by simp only [jb, jl, ba_len]; omega
 | w :: x :: r => by
  have h := jb_len (x :: r)
  simp only [jb, jl, List.length_append, List.length_cons, ba_len] at *
  omega
theorem path_len {k : Nat} {s : ByteArray} {ws : List ByteArray} (h : PathW k s ws) : s.size + 1 ≤ jl ws := by
 induction h with
 | low h => simp [jl]
 | up h => simp [jl]
 | @more k s t ws h hp ih =>
  have e : (s ++ s_dot ++ t).size = s.size + 1 + t.size := by rw [ByteArray.size_append, ByteArray.size_append]; rfl
  have e2 : s_dot.size = 1 := rfl
  simp only [jl]; omega
def PathT (s : ByteArray) (ws : List ByteArray) : Prop := (∃ k, PathW k s ws) ∨ ((s = w_true ∨ s = w_false) ∧ ws = [s])
theorem PathT.rep {s : ByteArray} {ws : List ByteArray} (h : PathT s ws) : Lib.replaceAll s.data.toList [46] [32, 46, 32] = jb ws := by
 rcases h with ⟨k, h⟩ | ⟨rfl | rfl, rfl⟩
 · exact replace_path h
 · decide +kernel
 · decide +kernel
theorem PathT.split {s : ByteArray} {ws : List ByteArray} (h : PathT s ws) : Lib.countB ⟨(jb ws).toArray⟩ ⟨#[32]⟩ + 1 = ws.length ∧ Lib.splitB ⟨#[32]⟩ 0 (Lib.countB ⟨(jb ws).toArray⟩ ⟨#[32]⟩) ⟨(jb ws).toArray⟩ = ws := by
 rcases h with ⟨k, h⟩ | ⟨rfl | rfl, rfl⟩
 · exact split_path h
 · decide +kernel
 · decide +kernel
theorem PathT.len {s : ByteArray} {ws : List ByteArray} (h : PathT s ws) : s.size + 1 ≤ jl ws := by
 rcases h with ⟨k, h⟩ | ⟨rfl | rfl, rfl⟩
 · exact path_len h
 · decide
 · decide
def SgW (w : ByteArray) : Prop := Wt w 6 w 0 ∨ Wt w 7 w 0
theorem sg_words : ∀ w ∈ wordsA, Wt w 6 w 0 := by
 intro w hw
 simp only [wordsA, List.mem_cons, List.not_mem_nil, or_false] at hw
 rcases hw with rfl | rfl | rfl | rfl | rfl | rfl | rfl | rfl | rfl | rfl | rfl | rfl | rfl | rfl | rfl | rfl | rfl | rfl | rfl | rfl | rfl | rfl | rfl | rfl | rfl | rfl | rfl | rfl
 all_goals (unfold Wt; kernel_rfl)
theorem sg_signs : ∀ w ∈ signsA, Wt w 7 w 0 := by
 intro w hw
 simp only [signsA, List.mem_cons, List.not_mem_nil, or_false] at hw
 rcases hw with rfl | rfl | rfl | rfl | rfl | rfl | rfl | rfl | rfl | rfl | rfl | rfl | rfl | rfl | rfl | rfl | rfl | rfl | rfl | rfl | rfl | rfl | rfl | rfl | rfl | rfl | rfl | rfl | rfl
 all_goals (unfold Wt; kernel_rfl)
theorem sg_all : ∀ w ∈ wordsA ++ signsA, SgW w := fun w hw => (List.mem_append.1 hw).elim (fun h => .inl (sg_words w h)) (fun h => .inr (sg_signs w h))
def ns (c a : Nat) (d : UInt8) : Nat := min (10 * a + (d.toNat - 48)) c
def nv (c a : Nat) (l : List UInt8) : Nat := l.foldl (ns c) a
theorem nv_nil (c a : Nat) : nv c a [] = a := List.foldl_nil
theorem nv_cons (c a : Nat) (d : UInt8) (l : List UInt8) : nv c a (d :: l) = nv c (ns c a d) l := List.foldl_cons ..
theorem nv_app (c a : Nat) (l m : List UInt8) : nv c a (l ++ m) = nv c (nv c a l) m := List.foldl_append ..
theorem numD_read (q : List UInt8) : ∀ (p : List UInt8) (a : Nat), (∀ d ∈ q, dig d.toNat = true) → numD ⟨(p ++ q).toArray⟩ p.length a = (nv 1000000001 a q, (p ++ q).length) := by
 induction q with
 | nil =>
  intro p a h
  rw [numD, dif_neg (by rw [sizeA]; simp)]
  rw [nv_nil]; simp
 | cons d q ih =>
  intro p a h
  have hb : bt ⟨(p ++ d :: q).toArray⟩ p.length = d.toNat := bt_app0 p (d :: q)
  rw [numD_step (by rw [sizeA]; simp) (by rw [hb]; exact h d (by simp)), hb]
  show numD _ _ (ns 1000000001 a d) = _
  have h2 := ih (p ++ [d]) (ns 1000000001 a d) (fun x hx => h x (by simp [hx]))
  simp only [List.append_assoc, List.singleton_append, List.length_append, List.length_singleton] at h2
  rw [h2, nv_cons]
  simp
theorem dgL_dig (n : Nat) : ∀ d ∈ dgL n, dig d.toNat = true := by
 have h1 : ∀ m, m < 10 → dig (UInt8.ofNat (48 + m)).toNat = true := by
  intro m hm
  have e : (UInt8.ofNat (48 + m)).toNat = 48 + m := by simp; omega
  rw [e]; exact dig_of hm
 induction n using dgL.induct with
 | case1 n h => rw [dgL, dif_pos h]; intro d hd; rw [List.mem_singleton.1 hd]; exact h1 n h
 | case2 n h ih =>
  rw [dgL, dif_neg h]
  intro d hd
  rcases List.mem_append.1 hd with hd | hd
  · exact ih d hd
  · rw [List.mem_singleton.1 hd]; exact h1 _ (Nat.mod_lt _ (by omega))
theorem nv_dgL (n : Nat) : n ≤ 1000000000 → nv 1000000001 0 (dgL n) = n := by
 have e : ∀ m, m < 10 → (UInt8.ofNat (48 + m)).toNat = 48 + m := by intro m hm; simp; omega
 induction n using dgL.induct with
 | case1 n h => intro _; rw [dgL, dif_pos h, nv_cons, nv_nil]; show min (10 * 0 + ((UInt8.ofNat (48 + n)).toNat - 48)) 1000000001 = n; rw [e n h]; omega
 | case2 n h ih =>
  intro hn
  rw [dgL, dif_neg h, nv_app, ih (by omega), nv_cons, nv_nil]
  show min (10 * (n / 10) + ((UInt8.ofNat (48 + n % 10)).toNat - 48)) 1000000001 = n
  rw [e _ (Nat.mod_lt _ (by omega))]; omega
theorem dgL_pos (n : Nat) : 0 < (dgL n).length := by rw [dgL]; split <;> simp
theorem lex_one {s : ByteArray} {k : Nat} {t : ByteArray} {n : Nat} (h0 : 0 < s.size) (h1 : s.size ≤ 4000) (hb : ∀ i, i < s.size → okB (bt s i) = true) (hg : hasD s 0 40 42 = false) (hl : blank (bt s 0) = false) (ht : tokD s 0 = some ((k, 0, t, n), s.size)) : Wt s k t n := by
 unfold Wt lexD
 rw [if_neg (by omega), badD_none 0 (fun i _ hi => hb i hi)]
 simp only
 rw [toksD_some (by omega) (gapD_stop hg fun _ => hl) (by omega) ht, toksD_end (gapD_end (by omega))]
 rfl
theorem wt_num {n : Nat} (h : n ≤ 1000000000) : Wt (dgW n) 1 ByteArray.empty n := by
 have hs : (dgW n).size = (dgL n).length := sizeA _
 have hp := dgL_pos n
 have hl := dgW_le h
 have hd : ∀ i, i < (dgW n).size → dig (bt (dgW n) i) = true := by
  intro i hi
  unfold dgW
  rw [btL, List.getD_eq_getElem?_getD, List.getElem?_eq_getElem (by omega)]
  exact dgL_dig n _ (List.getElem_mem _)
 have h0 := hd 0 (by omega)
 have hr := numD_read (dgL n) [] 0 (dgL_dig n)
 rw [nv_dgL n h] at hr
 have hr2 : numD (dgW n) 0 0 = (n, (dgW n).size) := by rw [hs]; exact hr
 have h00 : 48 ≤ bt (dgW n) 0 ∧ bt (dgW n) 0 ≤ 57 := by simpa [dig] using h0
 refine lex_one (by omega) (by omega) ?_ ?_ ?_ ?_
 · intro i hi
   have h9 : 48 ≤ bt (dgW n) i ∧ bt (dgW n) i ≤ 57 := by simpa [dig] using hd i hi
   simp [okB]; omega
 · simp [hasD]; omega
 · simp [blank]; omega
 · unfold tokD
   rw [if_pos h0, hr2, if_pos h]
theorem wt_str {s : ByteArray} (h : s.size ≤ 200) : Wt (quoteD s) 2 s 0 := by
 unfold Wt
 have := quoteD_le s
 rw [lex_quote, if_neg (by omega), if_pos h]
theorem Wt.fn {w t t' : ByteArray} {k n k' n' : Nat} (h : Wt w k t n) (h' : Wt w k' t' n') : k = k' ∧ t = t' ∧ n = n' := by
 unfold Wt at h h'
 rw [h] at h'
 simp at h'
 exact h'
def Tl : List ByteArray → List Tok → Prop
 | [], b => ∃ a, b = [(0, a, ByteArray.empty, 0)]
 | w :: r, b => ∃ k a t n c, Wt w k t n ∧ b = (k, a, t, n) :: c ∧ Tl r c
theorem Tl.mvB (d : Nat) : ∀ {ws : List ByteArray} {b : List Tok}, Tl ws b → Tl ws (b.map (mvB d))
 | [], _, ⟨a, rfl⟩ => ⟨_, rfl⟩
 | w :: r, _, ⟨k, a, t, n, c, h, rfl, h2⟩ => ⟨k, _, t, n, _, h, rfl, h2.mvB d⟩
theorem jb_lex : ∀ {ws : List ByteArray}, (∀ w ∈ ws, ∃ k t n, Wt w k t n) → (jb ws).length ≤ 4000 → ∃ b, lexD ⟨(jb ws).toArray⟩ = (b, (0, 0)) ∧ Tl ws b
 | [], _, _ => ⟨[(0, 0, ByteArray.empty, 0)], by unfold lexD; kernel_rfl, 0, rfl⟩
 | [w], h, _ => by
  obtain ⟨k, t, n, hw⟩ := h w (by simp)
  exact ⟨_, hw, k, 0, t, n, _, hw, rfl, _, rfl⟩
 | w :: x :: r, h, hl => by
  obtain ⟨k, t, n, hw⟩ := h w (by simp)
  have e : (⟨(jb (w :: x :: r)).toArray⟩ : ByteArray) = w ++ ⟨#[32]⟩ ++ ⟨(jb (x :: r)).toArray⟩ := by ext1; simp [jb, ByteArray.data_append]
  have hs := sizeL w
  have hl2 : (jb (w :: x :: r)).length = w.size + 1 + (jb (x :: r)).length := by simp [jb]; omega
  obtain ⟨b, hb, ht⟩ := jb_lex (ws := x :: r) (fun y hy => h y (by simp [hy])) (by omega)
  obtain ⟨a', ea, hj⟩ := lex_sideB (side_ofB w ⟨(jb (x :: r)).toArray⟩) (by rw [← e, sizeA]; exact hl) hw hb
  rw [e]
  refine ⟨_, hj, k, 0, t, n, b.map (mvB (w.size + 1)), hw, ?_, ht.mvB _⟩
  have : a' = [(k, 0, t, n)] := by
   have : a' ++ [(0, w.size, ByteArray.empty, 0)] = [(k, 0, t, n)] ++ [(0, w.size, ByteArray.empty, 0)] := by rw [← ea]; rfl
   exact (List.append_inj' this rfl).1
  rw [this]; rfl
mutual
def strip : Ty → Ty
 | .mk k _ s q l => .mk k 0 s q (stripL l)
def stripL : List Ty → List Ty
 | [] => []
 | x :: r => strip x :: stripL r
end
theorem stripL_app : ∀ (a b : List Ty), stripL (a ++ b) = stripL a ++ stripL b
 | [], b => by simp [stripL]
 | x :: a, b => by simp [stripL, stripL_app a b]
theorem stripL_len : ∀ (a : List Ty), (stripL a).length = a.length
 | [] => by simp [stripL]
 | x :: a => by simp [stripL, stripL_len a]
theorem strip_mk (k a : Int) (s : ByteArray) (q : Int) (l : List Ty) : strip (.mk k a s q l) = .mk k 0 s q (stripL l) := by rw [strip]
def inW (l : List ByteArray) (s : ByteArray) : Bool := l.any fun x => decide (s = x)
section
variable (P : Src)
structure Sg (i : Nat) (s : ByteArray) : Prop where
 k : P.K i = 6 ∨ P.K i = 7
 t : P.T i = s
def Tk (i : Nat) (w : ByteArray) : Prop := ∃ k t n, Wt w k t n ∧ P.K i = (k : Int) ∧ P.T i = t ∧ P.N i = n
def AtW : Nat → List ByteArray → Prop
 | i, [] => i ≤ P.toks.length
 | i, w :: r => Tk P i w ∧ AtW (i + 1) r
structure FE (m j : Nat) : Prop where
 dot : isD P s_dot j = false
 beg : m ≤ 8 → beginsB P j = false
 op : ∀ q, m ≤ q → q ≤ 7 → oneD P (lvL (8 - q)) j = false
structure FP (m j : Nat) : Prop where
 dot : isD P s_dot j = false
 beg : m ≤ 1 → begunB P j = false
 op : m ≤ 0 → isD P s_cons j = false
structure FT (m j : Nat) : Prop where
 dot : isD P s_dot j = false
 nm : m ≤ 2 → P.K j ≠ 3 ∧ P.K j ≠ 4
 st : m ≤ 1 → isD P s_st j = false
 toy : m ≤ 0 → isD P s_to j = false
structure FA (j : Nat) : Prop where
 e : FE P 1 j
 t : FT P 0 j
 and_ : isD P w_and j = false
 bar : isD P s_bar j = false
 of_ : isD P w_of j = false
 eq_ : isD P s_eq j = false
def LvM (R : Rec) (k : Nat) (n : Ty) (i j : Nat) : Prop :=
 ∃ a0 i0 l, betB P R (7 - k) i = .ok a0 i0 ∧ i ≤ i0 ∧ i0 ≤ j ∧ (∀ acc f, (neverB (8 - k) = true → acc = []) → P.toks.length + 1 ≤ f + i0 → ∃ f', P.toks.length + 1 ≤ f' + j ∧ colL P (8 - k) (betB P R (7 - k)) f acc i0 = colL P (8 - k) (betB P R (7 - k)) f' (acc ++ l) j) ∧ n = if 8 - k = 3 then foldR a0 l else foldLd a0 l
def LvE (R : Rec) (k : Nat) (n : Ty) (i j : Nat) : Prop :=
 if k = 0 then openB P R i = .ok n j ∧ isD P s_rp i = false ∧ isD P s_rb i = false
 else beginsB P i = true ∧ i < j ∧ (if k ≤ 7 then LvM P R k n i j
 else if k = 8 then ∃ f, P.toks.length + 1 ≤ f + j ∧ applyB P R i = applyL P R f n j
 else if k = 9 then ∀ f, j ≤ f + i → prefixL P R f i = .ok n j
 else isD P s_ti i = false ∧ isD P s_ex i = false ∧ atomB P R i = .ok n j)
def LvP (R : Rec) (k : Nat) (n : Ty) (i j : Nat) : Prop :=
 begunB P i = true ∧ (P.K i = 3 → i + 1 = j ∨ P.T (i + 1) ≠ w_as) ∧ i < j ∧
 if k = 0 then ∃ x r i0, cpatB P R i = .ok x i0 ∧ i ≤ i0 ∧ i0 ≤ j ∧ n = consesD (x :: r) ∧ ∀ f acc, P.toks.length + 1 ≤ f + i0 → sepL P (cpatB P R) s_cons f acc i0 = .ok (acc ++ r) j
 else if k = 1 then cpatB P R i = .ok n j
 else apatB P R i = .ok n j
def LvT (R : Rec) (k : Nat) (n : Ty) (i j : Nat) : Prop :=
 if k = 0 then arrowB P R i = .ok n j
 else if k = 1 then ∃ l, rowD P (appliedB P R) s_st i = .ok l j ∧ n = if l.length > 1 then .mk 32 (l.headD default).n ⟨#[]⟩ 0 l else l.headD default
 else ∃ a f, P.toks.length + 1 ≤ f + j ∧ appliedB P R i = appL P a f [n] j
def dxB (R : Rec) : M Ty := fun i => if isD P w_data i then dataB P R (P.A i) (i + 1) else (conB P R >>= fun c => ret (.mk 41 (P.A i) c.s c.q c.args)) (i + 1)
def specW : List ByteArray := [w_val, w_type, w_data, w_exception, w_structure]
def beg : Cat → Nat → Bool
 | .dec w => oneD P (startsL w)
 | .spec => oneD P specW
 | .pt _ => begunB P
 | _ => fun _ => false
def rd (R : Rec) : Cat → M Ty
 | .ex _ => openB P R
 | .rule => ruleB P R
 | .pt k => if k = 0 then patB P R else apatB P R
 | .ty k => if k = 0 then arrowB P R else appliedB P R
 | .fb => fbindB P R
 | .db => dbindB P R
 | .con => conB P R
 | .tv => oneB P
 | .dec _ => decB P R
 | .spec => specB P R
 | _ => failD P 4
def Rk (R : Rec) : Cat → List Ty → Nat → Nat → Prop
 | .e0 k, l, i, j => LvE P R k (l.headD default) i j
 | .ex k, l, i, j => LvE P R k (l.headD default) i j
 | .rule, l, i, j => ruleB P R i = .ok (l.headD default) j
 | .p0 k, l, i, j => LvP P R k (l.headD default) i j
 | .pt k, l, i, j => LvP P R k (l.headD default) i j
 | .t0 k, l, i, j => LvT P R k (l.headD default) i j
 | .ty k, l, i, j => LvT P R k (l.headD default) i j
 | .dec w, l, i, j => oneD P (startsL w) i = true ∧ decB P R i = .ok (l.headD default) j
 | .dx, l, i, j => (isD P w_data i = true ∨ isD P w_exception i = true) ∧ dxB P R i = .ok (l.headD default) j
 | .fb, l, i, j => fbindB P R i = .ok (l.headD default) j
 | .db, l, i, j => dbindB P R i = .ok (l.headD default) j
 | .con, l, i, j => conB P R i = .ok (l.headD default) j
 | .body, l, i, j => bodyB P R i = .ok (l.headD default) j
 | .sig, l, i, j => sigsB P R i = .ok (l.headD default) j
 | .spec, l, i, j => oneD P specW i = true ∧ specB P R i = .ok (l.headD default) j
 | .tv, l, i, j => oneB P i = .ok (l.headD default) j
 | .head s, l, i, j => ∀ k a, headB P k a i = .ok (.mk k a s l.length l) j
 | .row c s, l, i, j => ∃ x r i0, l = x :: r ∧ Rk R c [x] i i0 ∧ rd P R c i = .ok x i0 ∧ i ≤ i0 ∧ i0 ≤ j ∧ ∀ f acc, P.toks.length + 1 ≤ f + i0 → sepL P (rd P R c) s f acc i0 = .ok (acc ++ r) j
 | .many c, l, i, j => ∀ f acc, P.toks.length + 1 ≤ f + i → manyL (beg P c) (rd P R c) f acc i = .ok (acc ++ l) j
def Fi : Cat → Nat → Prop
 | .e0 k, j => FE P (k + 1) j
 | .ex k, j => FE P (k + 1) j
 | .rule, j => FE P 1 j
 | .p0 k, j => FP P k j
 | .pt k, j => FP P k j
 | .t0 k, j => FT P k j
 | .ty k, j => FT P k j
 | .dec _, j => FA P j
 | .dx, j => FA P j
 | .fb, j => FE P 1 j
 | .db, j => FT P 0 j ∧ isD P s_bar j = false ∧ isD P w_of j = false
 | .con, j => FT P 0 j ∧ isD P w_of j = false
 | .body, j => isD P s_dot j = false
 | .spec, j => FA P j
 | _, j => True
def Fl : Cat → Nat → Prop
 | .t0 k, j => FT P (if k = 0 then 0 else if k = 1 then 1 else 3) j
 | .ty k, j => FT P (if k = 0 then 0 else if k = 1 then 1 else 3) j
 | .row c s, j => Fi P c j ∧ isD P s j = false
 | .many c, j => Fi P c j ∧ beg P c j = false
 | c, j => Fi P c j
def base : Cat → Bool
 | .row _ _ => false
 | .many _ => false
 | _ => true
structure RowOk (c : Cat) (s : ByteArray) : Prop where
 b : base c = true
 sg : inW (wordsA ++ signsA) s = true
 fi : ∀ {j}, Sg P j s → Fi P c j
 rd : ∀ {R n i j}, j ≤ P.toks.length → Rk P R c [n] i j → Fi P c j → rd P R c i = .ok n j
 fl : ∀ {j}, Fi P c j → Fl P c j
structure ManyOk (c : Cat) : Prop where
 b : base c = true
 fi : ∀ {j}, beg P c j = true → Fi P c j
 rd : ∀ {R n i j}, Rk P R c [n] i j → beg P c i = true ∧ rd P R c i = .ok n j
 fl : ∀ {j}, Fi P c j → Fl P c j
def Ok : Cat → Prop
 | .row c s => RowOk P c s
 | .many c => ManyOk P c
 | _ => True
theorem ok_base {c : Cat} (h : base c = true) : Ok P c := by cases c <;> first | trivial | (simp [base] at h)
end
section
variable {P : Src}
theorem K_ltt {i : Nat} {k : Nat} (h : P.K i = (k : Int)) : i < P.toks.length := by
 unfold Src.K at h
 cases e : P.toks[i]? with
 | none => rw [e] at h; simp at h
 | some t => exact (List.getElem?_eq_some_iff.1 e).1
theorem AtW.le : ∀ {ws : List ByteArray} {i : Nat}, AtW P i ws → i + ws.length ≤ P.toks.length
 | [], i, h => h
 | w :: r, i, h => by have := AtW.le h.2; simp only [List.length_cons]; omega
theorem AtW.app : ∀ {ws vs : List ByteArray} {i : Nat}, AtW P i (ws ++ vs) → AtW P i ws ∧ AtW P (i + ws.length) vs
 | [], vs, i, h => ⟨by have := AtW.le h; show i ≤ _; omega, h⟩
 | w :: r, vs, i, h => by
  have h2 := AtW.app (ws := r) h.2
  exact ⟨⟨h.1, h2.1⟩, by rw [List.length_cons, show i + (r.length + 1) = i + 1 + r.length by omega]; exact h2.2⟩
theorem inL_mem {l : List ByteArray} {s : ByteArray} (h : inW l s = true) : s ∈ l := by
 unfold inW at h
 simp only [List.any_eq_true, decide_eq_true_eq] at h
 obtain ⟨x, hx, rfl⟩ := h
 exact hx
theorem Tk.sg {i : Nat} {w : ByteArray} (h : Tk P i w) (hw : inW (wordsA ++ signsA) w = true := by decide) : Sg P i w := by
 obtain ⟨k, t, n, h1, h2, h3, -⟩ := h
 rcases sg_all w (inL_mem hw) with h4 | h4
 · obtain ⟨rfl, rfl, -⟩ := h1.fn h4; exact ⟨.inl h2, h3⟩
 · obtain ⟨rfl, rfl, -⟩ := h1.fn h4; exact ⟨.inr h2, h3⟩
theorem Tk.nm {i k : Nat} {s : ByteArray} (h : Tk P i s) (hn : Nm k s) : P.K i = (k : Int) ∧ P.T i = s := by
 obtain ⟨k', t, n, h1, h2, h3, -⟩ := h
 obtain ⟨rfl, rfl, -⟩ := h1.fn hn.wt
 exact ⟨h2, h3⟩
theorem Tk.num {i n : Nat} (h : Tk P i (dgW n)) (hn : n ≤ 1000000000) : P.K i = 1 ∧ P.N i = n := by
 obtain ⟨k', t, m, h1, h2, h3, h4⟩ := h
 obtain ⟨rfl, -, rfl⟩ := h1.fn (wt_num hn)
 exact ⟨h2, h4⟩
theorem Tk.str {i : Nat} {s : ByteArray} (h : Tk P i (quoteD s)) (hn : s.size ≤ 200) : P.K i = 2 ∧ P.T i = s := by
 obtain ⟨k', t, m, h1, h2, h3, h4⟩ := h
 obtain ⟨rfl, rfl, -⟩ := h1.fn (wt_str hn)
 exact ⟨h2, h3⟩
theorem Sg.is {i : Nat} {s : ByteArray} (h : Sg P i s) (s' : ByteArray) : isD P s' i = decide (s = s') := by
 unfold isD; rw [h.t]; simp [h.k]
theorem Sg.one {i : Nat} {s : ByteArray} (h : Sg P i s) (l : List ByteArray) : oneD P l i = inW l s := by
 unfold oneD inW; rw [h.t]; simp [h.k]
theorem Sg.me {i : Nat} {s : ByteArray} (h : Sg P i s) : isD P s i = true := by rw [h.is]; simp
theorem Sg.nk {i : Nat} {s : ByteArray} (h : Sg P i s) : ¬ P.K i = 1 ∧ ¬ P.K i = 2 ∧ ¬ P.K i = 3 ∧ ¬ P.K i = 4 ∧ ¬ P.K i = 5 := by rcases h.k with h | h <;> rw [h] <;> decide
theorem nsg {i : Nat} {k : Int} (h : P.K i = k) (hk : k < 6 := by decide) (s : ByteArray) : isD P s i = false := by
 unfold isD; rw [h]
 have : ¬ (k = 6 ∨ k = 7) := by omega
 simp [this]
theorem none1 {i : Nat} {k : Int} (h : P.K i = k) (hk : k < 6 := by decide) (l : List ByteArray) : oneD P l i = false := by
 unfold oneD; rw [h]
 have : ¬ (k = 6 ∨ k = 7) := by omega
 simp [this]
def begLe : List ByteArray := [s_lp, s_lb, s_ti, s_ex, w_let, w_case, w_try, w_true, w_false]
def begP : List ByteArray := [s_lp, s_lb, s_ti, s_us, w_true, w_false]
theorem Sg.begins {i : Nat} {s : ByteArray} (h : Sg P i s) : beginsB P i = inW begLe s := by
 unfold beginsB
 rw [h.one]
 have : ¬ (1 ≤ P.K i ∧ P.K i ≤ 4) := by rcases h.k with h | h <;> rw [h] <;> decide
 simp [this, begLe]
theorem Sg.begun {i : Nat} {s : ByteArray} (h : Sg P i s) : begunB P i = inW begP s := by
 unfold begunB
 rw [h.one]
 have : ¬ (1 ≤ P.K i ∧ P.K i ≤ 4) := by rcases h.k with h | h <;> rw [h] <;> decide
 simp [this, begP]
def fe (m : Nat) (s : ByteArray) : Bool := !decide (s = s_dot) && (decide (8 < m) || !inW begLe s) && (List.range 8).all fun q => decide (q < m) || !inW (lvL (8 - q)) s
def fp (m : Nat) (s : ByteArray) : Bool := !decide (s = s_dot) && (decide (1 < m) || !inW begP s) && (decide (0 < m) || !decide (s = s_cons))
def ft (m : Nat) (s : ByteArray) : Bool := !decide (s = s_dot) && (decide (1 < m) || !decide (s = s_st)) && (decide (0 < m) || !decide (s = s_to))
def fa (s : ByteArray) : Bool := fe 1 s && ft 0 s && !inW [w_and, s_bar, w_of, s_eq] s
theorem Sg.fe {m j : Nat} {s : ByteArray} (h : Sg P j s) (hf : Go.Proofs.YthehjeeiodbkjaaGreatDoor.fe m s = true := by decide) : FE P m j := by
 simp only [Go.Proofs.YthehjeeiodbkjaaGreatDoor.fe, Bool.and_eq_true, Bool.or_eq_true, Bool.not_eq_true', decide_eq_true_eq, decide_eq_false_iff_not, List.all_eq_true, List.mem_range] at hf
 obtain ⟨⟨h1, h2⟩, h3⟩ := hf
 refine ⟨by rw [h.is]; simpa using h1, fun h8 => ?_, fun q h4 h5 => ?_⟩
 · rw [h.begins]; rcases h2 with h2 | h2; omega; exact h2
 · rw [h.one]; rcases h3 q (by omega) with h3 | h3; omega; exact h3
theorem Sg.fp {m j : Nat} {s : ByteArray} (h : Sg P j s) (hf : Go.Proofs.YthehjeeiodbkjaaGreatDoor.fp m s = true := by decide) : FP P m j := by
 simp only [Go.Proofs.YthehjeeiodbkjaaGreatDoor.fp, Bool.and_eq_true, Bool.or_eq_true, Bool.not_eq_true', decide_eq_true_eq, decide_eq_false_iff_not] at hf
 obtain ⟨⟨h1, h2⟩, h3⟩ := hf
 refine ⟨by rw [h.is]; simpa using h1, fun h8 => ?_, fun h4 => ?_⟩
 · rw [h.begun]; rcases h2 with h2 | h2; omega; exact h2
 · rw [h.is]; rcases h3 with h3 | h3; omega; simpa using h3
theorem Sg.ft {m j : Nat} {s : ByteArray} (h : Sg P j s) (hf : Go.Proofs.YthehjeeiodbkjaaGreatDoor.ft m s = true := by decide) : FT P m j := by
 simp only [Go.Proofs.YthehjeeiodbkjaaGreatDoor.ft, Bool.and_eq_true, Bool.or_eq_true, Bool.not_eq_true', decide_eq_true_eq, decide_eq_false_iff_not] at hf
 obtain ⟨⟨h1, h2⟩, h3⟩ := hf
 refine ⟨by rw [h.is]; simpa using h1, fun _ => ⟨h.nk.2.2.1, h.nk.2.2.2.1⟩, fun h8 => ?_, fun h4 => ?_⟩
 · rw [h.is]; rcases h2 with h2 | h2; omega; simpa using h2
 · rw [h.is]; rcases h3 with h3 | h3; omega; simpa using h3
theorem Sg.fa {j : Nat} {s : ByteArray} (h : Sg P j s) (hf : Go.Proofs.YthehjeeiodbkjaaGreatDoor.fa s = true := by decide) : FA P j := by
 simp only [Go.Proofs.YthehjeeiodbkjaaGreatDoor.fa, Bool.and_eq_true, Bool.not_eq_true'] at hf
 obtain ⟨⟨h1, h2⟩, h3⟩ := hf
 have h4 : ¬ s = w_and ∧ ¬ s = s_bar ∧ ¬ s = w_of ∧ ¬ s = s_eq := by simpa [inW] using h3
 exact ⟨h.fe h1, h.ft h2, by rw [h.is]; simpa using h4.1, by rw [h.is]; simpa using h4.2.1, by rw [h.is]; simpa using h4.2.2.1, by rw [h.is]; simpa using h4.2.2.2⟩
theorem FA.end {j : Nat} (h : P.K j = 0) : FA P j := by
 refine ⟨⟨nsg h (s := _), fun _ => ?_, fun _ _ _ => none1 h (l := _)⟩, ⟨nsg h (s := _), fun _ => by rw [h]; decide, fun _ => nsg h (s := _), fun _ => nsg h (s := _)⟩, nsg h (s := _), nsg h (s := _), nsg h (s := _), nsg h (s := _)⟩
 unfold beginsB
 rw [none1 h, h]; rfl
theorem FP.end {j m : Nat} (h : P.K j = 0) : FP P m j := by
 refine ⟨nsg h (s := _), fun _ => ?_, fun _ => nsg h (s := _)⟩
 unfold begunB
 rw [none1 h, h]; rfl
theorem FE.mono {m m' j : Nat} (h : FE P m j) (hm : m ≤ m') : FE P m' j := ⟨h.dot, fun h8 => h.beg (by omega), fun q h1 h2 => h.op q (by omega) h2⟩
theorem FP.mono {m m' j : Nat} (h : FP P m j) (hm : m ≤ m') : FP P m' j := ⟨h.dot, fun h8 => h.beg (by omega), fun h1 => h.op (by omega)⟩
theorem FT.mono {m m' j : Nat} (h : FT P m j) (hm : m ≤ m') : FT P m' j := ⟨h.dot, fun h8 => h.nm (by omega), fun h8 => h.st (by omega), fun h1 => h.toy (by omega)⟩
theorem bind_to {α β : Type} {m : M α} {f : α → M β} {i j : Nat} {x : α} {r : Res β} (h : m i = .ok x j) (h2 : f x j = r) : (m >>= f) i = r := by rw [bind_ok h]; exact h2
theorem must_ok {i : Nat} {s : ByteArray} (h : Sg P i s) : mustD P s i = .ok () (i + 1) := by unfold mustD; rw [if_pos h.me]
theorem eat_ok {i : Nat} {s : ByteArray} (h : Sg P i s) : eatD P s i = .ok true (i + 1) := by unfold eatD; rw [if_pos h.me]
theorem eat_no {i : Nat} {s : ByteArray} (h : isD P s i = false) : eatD P s i = .ok false i := by unfold eatD; rw [if_neg (by rw [h]; decide)]
theorem kind_ok {i : Nat} {k : Int} {s : ByteArray} (h : P.K i = k ∧ P.T i = s) : kindD P k i = .ok s (i + 1) := by unfold kindD; rw [if_pos h.1, h.2]
theorem begins_no {i : Nat} (h : beginsB P i = true) {s : ByteArray} (hs : inW begLe s = false := by decide) : isD P s i = false := by
 cases h2 : isD P s i with
 | false => rfl
 | true =>
  have h3 : Sg P i s := by unfold isD at h2; simp at h2; exact ⟨h2.1, h2.2⟩
  rw [h3.begins, hs] at h; cases h
theorem LvM.shut {R : Rec} {k i j : Nat} {n : Ty} (h1 : 1 ≤ k) (h7 : k ≤ 7) (h : LvM P R k n i j) (hf : FE P k j) : betB P R (8 - k) i = .ok n j := by
 obtain ⟨a0, i0, l, h2, h2a, h3, h4, rfl⟩ := h
 obtain ⟨f', h5, h6⟩ := h4 [] (P.toks.length + 1) (fun _ => rfl) (by omega)
 have e : 8 - k = (7 - k) + 1 := by omega
 have hs : colL P (8 - k) (betB P R (7 - k)) f' ([] ++ l) j = .ok l j := by
  have := hf.op k (Nat.le_refl _) h7
  cases f' with
  | zero => rfl
  | succ f' => show (if _ then _ else _) = _; rw [if_neg (by rw [this]; simp)]; rfl
 rw [hs] at h6
 rw [e] at h6 ⊢
 refine bind_to h2 (bind_to h6 ?_)
 rfl
theorem LvE.bet {R : Rec} {k i j : Nat} {n : Ty} (h : LvE P R (k + 1) n i j) (hk : 1 ≤ k) (h7 : k ≤ 7) (hf : FE P (k + 1) j) : betB P R (7 - k) i = .ok n j := by
 unfold LvE at h
 rw [if_neg (by omega)] at h
 obtain ⟨hb, hij, h⟩ := h
 by_cases h8 : k = 7
 · subst h8
   rw [if_neg (by omega), if_pos rfl] at h
   obtain ⟨f, h1, h2⟩ := h
   have hs : applyL P R f n j = .ok n j := by
    cases f with
    | zero => rfl
    | succ f => show (if _ then _ else _) = _; rw [if_neg (by rw [hf.beg (by omega)]; simp)]
   rw [hs] at h2
   exact h2
 · rw [if_pos (by omega)] at h
   have := h.shut (by omega) (by omega) hf
   rw [show 7 - k = 8 - (k + 1) by omega]; exact this
theorem LvE.close {R : Rec} {k i j : Nat} {n : Ty} (hj : j ≤ P.toks.length) (h : LvE P R (k + 1) n i j) (hk : k ≤ 9) (hf : FE P (k + 1) j) : LvE P R k n i j := by
 have hbt := LvE.bet h
 unfold LvE at h
 rw [if_neg (by omega)] at h
 obtain ⟨hb, hij, h⟩ := h
 unfold LvE
 by_cases h0 : k = 0
 · subst h0
   rw [if_pos rfl]
   rw [if_pos (by omega)] at h
   unfold openB
   rw [if_neg (by rw [begins_no hb (s := w_fn)]; decide), if_neg (by rw [begins_no hb (s := w_if)]; decide), if_neg (by rw [begins_no hb (s := w_raise)]; decide)]
   exact ⟨h.shut (by omega) (by omega) hf, begins_no hb, begins_no hb⟩
 rw [if_neg h0]
 refine ⟨hb, hij, ?_⟩
 by_cases h7 : k ≤ 7
 · rw [if_pos h7]
   exact ⟨n, j, [], hbt (by omega) h7 hf, by omega, Nat.le_refl _, fun acc f _ h => ⟨f, h, by simp⟩, by split <;> rfl⟩
 rw [if_neg (by omega), if_neg (by omega)] at h
 rw [if_neg (by omega)]
 by_cases h9 : k = 8
 · subst h9
   rw [if_pos rfl] at h ⊢
   exact ⟨P.toks.length + 1, by omega, bind_to (h _ (by omega)) rfl⟩
 rw [if_neg (by omega)] at h ⊢
 rw [if_pos (by omega)]
 intro f hf2
 cases f with
 | zero => omega
 | succ f => show (if _ then _ else _) = _; rw [if_neg (by rw [h.1, h.2.1]; decide)]; exact h.2.2
theorem LvE.down {R : Rec} {i j : Nat} {n : Ty} (hj : j ≤ P.toks.length) {l : Nat} (hf : FE P (l + 1) j) : ∀ (d : Nat), l + d ≤ 10 → LvE P R (l + d) n i j → LvE P R l n i j
 | 0, _, h => h
 | d + 1, hd, h => LvE.down hj hf d (by omega) (LvE.close hj h (by omega) (hf.mono (by omega)))
theorem LvE.to {R : Rec} {i j : Nat} {n : Ty} (hj : j ≤ P.toks.length) {k l : Nat} (hl : l ≤ k) (hk : k ≤ 10) (hf : FE P (l + 1) j) (h : LvE P R k n i j) : LvE P R l n i j := by
 obtain ⟨d, rfl⟩ : ∃ d, k = l + d := ⟨k - l, by omega⟩
 exact LvE.down hj hf d hk h
theorem sep_stop {item : M Ty} {s : ByteArray} {j : Nat} (h : isD P s j = false) (f : Nat) (acc : List Ty) : sepL P item s f acc j = .ok acc j := by
 cases f with
 | zero => rfl
 | succ f => show (if _ then _ else _) = _; rw [if_neg (by rw [h]; simp)]
theorem many_stop {item : M Ty} {c : Nat → Bool} {j : Nat} (h : c j = false) (f : Nat) (acc : List Ty) : manyL c item f acc j = .ok acc j := by
 cases f with
 | zero => rfl
 | succ f => show (if _ then _ else _) = _; rw [if_neg (by rw [h]; simp)]
theorem LvP.close {R : Rec} {k i j : Nat} {n : Ty} (h : LvP P R (k + 1) n i j) (hk : k ≤ 1) (hf : FP P k j) : LvP P R k n i j := by
 unfold LvP at h ⊢
 refine ⟨h.1, h.2.1, h.2.2.1, ?_⟩
 have hij := h.2.2.1
 replace h := h.2.2.2
 rw [if_neg (by omega)] at h
 by_cases h0 : k = 0
 · subst h0
   rw [if_pos rfl] at h ⊢
   exact ⟨n, [], j, h, by omega, Nat.le_refl _, rfl, fun f acc _ => by rw [sep_stop (hf.op (by omega))]; simp⟩
 · have h1 : k = 1 := by omega
   subst h1
   rw [if_neg (by omega)] at h
   rw [if_neg (by omega), if_pos rfl]
   unfold cpatB
   refine bind_to h ?_
   show (if _ then _ else _) = _
   rw [if_neg (by rw [hf.beg (by omega)]; simp)]
theorem LvP.to {R : Rec} {i j : Nat} {n : Ty} {k l : Nat} (hl : l ≤ k) (hk : k ≤ 2) (hf : FP P l j) (h : LvP P R k n i j) : LvP P R l n i j := by
 by_cases e : l = k
 · rw [e]; exact h
 by_cases e1 : k = l + 1
 · rw [e1] at h; exact h.close (by omega) hf
 · obtain rfl : l = 0 := by omega
   obtain rfl : k = 2 := by omega
   exact (h.close (by omega) (hf.mono (by omega))).close (by omega) hf
theorem appL_stop {a f j : Nat} {n : Ty} (hj : j ≤ P.toks.length) (hf : P.toks.length + 1 ≤ f + j) (h : P.K j ≠ 3 ∧ P.K j ≠ 4) : appL P a f [n] j = .ok n j := by
 cases f with
 | zero => omega
 | succ f => show (if _ then _ else _) = _; rw [if_neg (by simp [h.1, h.2])]; rfl
theorem LvT.close {R : Rec} {k i j : Nat} {n : Ty} (hj : j ≤ P.toks.length) (h : LvT P R (k + 1) n i j) (hk : k ≤ 1) (hf : FT P k j) : LvT P R k n i j := by
 unfold LvT at h ⊢
 rw [if_neg (by omega)] at h
 by_cases h0 : k = 0
 · subst h0
   rw [if_pos rfl] at h ⊢
   obtain ⟨l, h1, rfl⟩ := h
   unfold arrowB
   exact bind_to h1 (bind_to (eat_no (hf.toy (by omega))) rfl)
 · have h1 : k = 1 := by omega
   subst h1
   rw [if_neg (by omega)] at h
   rw [if_neg (by omega), if_pos rfl]
   obtain ⟨a, f, h1, h2⟩ := h
   rw [appL_stop hj h1 (hf.nm (by omega))] at h2
   exact ⟨[n], bind_to h2 (sep_stop (hf.st (by omega)) _ _), rfl⟩
theorem LvT.to {R : Rec} {i j : Nat} {n : Ty} (hj : j ≤ P.toks.length) {k l : Nat} (hl : l ≤ k) (hk : k ≤ 2) (hf : l < k → FT P l j) (h : LvT P R k n i j) : LvT P R l n i j := by
 by_cases e : l = k
 · rw [e]; exact h
 have hf2 := hf (by omega)
 by_cases e1 : k = l + 1
 · rw [e1] at h; exact h.close hj (by omega) hf2
 · obtain rfl : l = 0 := by omega
   obtain rfl : k = 2 := by omega
   exact (h.close hj (by omega) (hf2.mono (by omega))).close hj (by omega) hf2
end
end Go.Proofs.YthehjeeiodbkjaaGreatDoor
