/-
  Proved: the contract of the program's given (of rows). Condition: weights of at most 1048576.
-/
import Derived.Test.YtcieoelogocjkaaG1
import Derived.Test.YtcieoelogocjkaaV2
set_option linter.unusedSimpArgs false
set_option linter.unusedVariables false
namespace Go.Proofs.Ytcieoelogocjkaa
open Go.RowKit

/-- slices of patterns, as values -/
def SlvL (w : World) (D : Nat → Prop) : List (List Pt) → List Value → Prop
  | [], [] => True
  | l :: ls, v :: vs => (∃ a c, v = .slice a l.length c ∧ SlD w D l a c) ∧ SlvL w D ls vs
  | _, _ => False
theorem SlvL.len {w : World} {D : Nat → Prop} : ∀ {l : List (List Pt)} {vs : List Value}, SlvL w D l vs → vs.length = l.length
  | [], [], _ => rfl
  | p :: ps, r :: rs, h => by simp [SlvL.len h.2]
theorem SlvL.snoc {w : World} {D : Nat → Prop} {r : List Pt} {v : Value} : ∀ {l : List (List Pt)} {vs : List Value}, SlvL w D l vs → (∃ a c, v = .slice a r.length c ∧ SlD w D r a c) → SlvL w D (l ++ [r]) (vs ++ [v])
  | [], [], _, h' => ⟨h', trivial⟩
  | p :: ps, _ :: rs, h, h' => ⟨h.1, h.2.snoc h'⟩
theorem SlvL.keep {w w' : World} {D : Nat → Prop} (hb : ∀ b, D b → ∀ off, w'.cell? ⟨b, off, none⟩ = w.cell? ⟨b, off, none⟩) : ∀ {l : List (List Pt)} {vs : List Value}, SlvL w D l vs → SlvL w' D l vs
  | [], [], _ => trivial
  | p :: ps, r :: rs, h => ⟨by obtain ⟨a, c, e, hs⟩ := h.1; exact ⟨a, c, e, hs.keep hb⟩, h.2.keep hb⟩
theorem SlvL.mono {w : World} {D D' : Nat → Prop} (hN : ∀ b, D b → D' b) : ∀ {l : List (List Pt)} {vs : List Value}, SlvL w D l vs → SlvL w D' l vs
  | [], [], _ => trivial
  | p :: ps, r :: rs, h => ⟨by obtain ⟨a, c, e, hs⟩ := h.1; exact ⟨a, c, e, hs.mono hN⟩, h.2.mono hN⟩
theorem SlvL.get {w : World} {D : Nat → Prop} : ∀ {l : List (List Pt)} {vs : List Value}, SlvL w D l vs → ∀ {k : Nat} (hk : k < l.length), ∃ a c, vs[k]? = some (.slice a l[k].length c) ∧ SlD w D l[k] a c
  | [], [], _, k, hk => by simp at hk
  | p :: ps, r :: rs, h, k, hk => by
    cases k with
    | zero => obtain ⟨a, c, e, hs⟩ := h.1; exact ⟨a, c, by simp [e], hs⟩
    | succ k => have := h.2.get (k := k) (by simpa using hk); simpa using this
theorem SlvL.one {w : World} {D : Nat → Prop} : ∀ {l : List (List Pt)} {vs : List Value}, SlvL w D l vs → ∀ u ∈ vs, u.oneCell' = true
  | [], [], _, u, hu => by simp at hu
  | p :: ps, r :: rs, h, u, hu => by
    rcases List.mem_cons.1 hu with rfl | hu
    · obtain ⟨a, c, e, _⟩ := h.1; rw [e]; rfl
    · exact h.2.one u hu
/-- a slice of slices of patterns -/
def MatD (w : World) (D : Nat → Prop) (rows : List (List Pt)) (ao : Option Addr) (cap : Nat) : Prop :=
  rows.length ≤ cap ∧ ∃ vs, SlvL w D rows vs ∧ (0 < rows.length → ∃ b off, ao = some ⟨b, off, none⟩ ∧ D b ∧ ∀ j u, vs[j]? = some u → w.cell? ⟨b, off + j, none⟩ = some u)
theorem MatD.keep {w w' : World} {D : Nat → Prop} {rows : List (List Pt)} {ao : Option Addr} {cap : Nat} (h : MatD w D rows ao cap) (hb : ∀ b, D b → ∀ off, w'.cell? ⟨b, off, none⟩ = w.cell? ⟨b, off, none⟩) : MatD w' D rows ao cap := by
  obtain ⟨h1, vs, hv, hc⟩ := h
  refine ⟨h1, vs, hv.keep hb, fun h0 => ?_⟩
  obtain ⟨b, off, e, hlt, hcell⟩ := hc h0
  exact ⟨b, off, e, hlt, fun j u hu => (hb b hlt _).trans (hcell j u hu)⟩
theorem MatD.mono {w : World} {D D' : Nat → Prop} {rows : List (List Pt)} {ao : Option Addr} {cap : Nat} (h : MatD w D rows ao cap) (hN : ∀ b, D b → D' b) : MatD w D' rows ao cap := by
  obtain ⟨h1, vs, hv, hc⟩ := h
  refine ⟨h1, vs, hv.mono hN, fun h0 => ?_⟩
  obtain ⟨b, off, e, hlt, hcell⟩ := hc h0
  exact ⟨b, off, e, hN b hlt, hcell⟩
theorem MatD.get {w : World} {D : Nat → Prop} {rows : List (List Pt)} {ao : Option Addr} {cap : Nat} (h : MatD w D rows ao cap) {k : Nat} (hk : k < rows.length) :
    ∃ b off a c, ao = some ⟨b, off, none⟩ ∧ D b ∧ w.cell? ⟨b, off + k * 1, none⟩ = some (.slice a rows[k].length c) ∧ SlD w D rows[k] a c := by
  obtain ⟨h1, vs, hv, hc⟩ := h
  obtain ⟨b, off, e, hlt, hcell⟩ := hc (by omega)
  obtain ⟨a, c, hg, hs⟩ := hv.get hk
  exact ⟨b, off, a, c, e, hlt, by rw [Nat.mul_one]; exact hcell k _ hg, hs⟩
theorem mat_own {D : Nat → Prop} {w : World} {B n cap : Nat} {ao : Option Addr} {xs : List Value} {e : TypeId} {rows : List (List Pt)} (h : w.ownsRow B e 1 (.slice ao n cap) n xs) (hD : ∀ b, B ≤ b → b < w.heap.size → D b) (hr : SlvL w D rows xs) (hn : rows.length = n) : MatD w D rows ao cap := by
  rcases h.2 with ⟨hv, h0⟩ | ⟨g, cap', cur, hv, hBg, hgg, hnc, _, _, ht⟩
  · cases hv
    refine ⟨by omega, xs, hr, fun h1 => by omega⟩
  · cases hv
    refine ⟨by omega, xs, hr, fun _ => ⟨g, 0, rfl, hD g hBg (lt_of_block hgg), fun j u hu => ?_⟩⟩
    rw [blk_cell hgg, Nat.zero_add]
    rw [← ht] at hu
    have hlt : j < n * 1 := by
      have := (List.getElem?_eq_some_iff.1 hu).1
      simp only [List.length_take] at this
      omega
    rw [List.getElem?_take, if_pos hlt, Array.getElem?_toList] at hu
    exact hu
abbrev MatV (w : World) (N : Nat) (rows : List (List Pt)) (ao : Option Addr) (cap : Nat) : Prop := MatD w (fun b => b < N) rows ao cap
theorem MatV.keep {w w' : World} {N : Nat} {rows : List (List Pt)} {ao : Option Addr} {cap : Nat} (h : MatV w N rows ao cap) (hb : Below N w w') : MatV w' N rows ao cap := MatD.keep h (below_cells hb)
theorem MatV.mono {w : World} {N N' : Nat} {rows : List (List Pt)} {ao : Option Addr} {cap : Nat} (h : MatV w N rows ao cap) (hN : N ≤ N') : MatV w N' rows ao cap := MatD.mono h fun b hb => Nat.lt_of_lt_of_le hb hN
theorem size46 (w : World) : (sizeOf 46).run Try.prog w = .ok 1 w := by kernel_rfl
theorem info46 : (Try.prog.info? 46).map (fun i => (i.zero, i.size, i.bytes)) = some (some (.slice none 0 0), 1, 24) := by kernel_rfl
theorem wtL_le {rows : List (List Pt)} {r : List Pt} (h : r ∈ rows) : wtL r ≤ wtR rows := by
  induction rows with
  | nil => simp at h
  | cons x xs ih =>
    simp only [wtR, List.map_cons, List.sum_cons]
    rcases List.mem_cons.1 h with rfl | h
    · omega
    · have := ih h
      simp only [wtR] at this
      omega
/-- what a slice of rows that one builds holds -/
def OutV (B : Nat) (w : World) (v : Value) (L : List (List Pt)) : Prop := ∃ xs, w.ownsRow B 46 1 v L.length xs ∧ SlvL w (fun b => b < w.heap.size ∧ v.ownBlock ≠ some b) L xs

theorem own_on {w w' : World} {B : Nat} {v : Value} {n e size : Nat} {xs : List Value} (h : w.ownsRow B e size v n xs) (hb : Below w.heap.size w w') : w'.ownsRow B e size v n xs :=
  own_carry h fun g c f hg => blk_below hg hb (lt_of_block hg)
theorem OutV.on {B : Nat} {w w' : World} {v : Value} {L : List (List Pt)} (h : OutV B w v L) (hb : Below w.heap.size w w') : OutV B w' v L := by
  obtain ⟨xs, h1, h2⟩ := h
  exact ⟨xs, own_on h1 hb, (h2.keep fun b h => below_cells hb b h.1).mono fun b h => ⟨Nat.lt_of_lt_of_le h.1 hb.size, h.2⟩⟩
theorem grown_cells {w w' : World} {row : Option Nat} (h : w.grownBy w' row) {b : Nat} (hb : b < w.heap.size) (hne : row ≠ some b) (off : Nat) : w'.cell? ⟨b, off, none⟩ = w.cell? ⟨b, off, none⟩ := by
  have e := h.block b hb (fun e => hne e.symm)
  unfold World.cell?
  rw [e]
/-- one more row behind what one builds -/
theorem OutV.snoc {B : Nat} {w w' : World} {o : Obj} {v v' : Value} {L : List (List Pt)} {xs : List Value} {n : Nat} {l : List Pt} {a : Option Addr} {c : Nat} (hn : n = L.length) (hown : w.ownsRow B 46 1 v n xs) (hs : SlvL w (fun b => b < w.heap.size ∧ v.ownBlock ≠ some b) L xs)
    (hl : SlD w (fun b => b < w.heap.size ∧ v.ownBlock ≠ some b) l a c) (hown' : w'.ownsRow B 46 1 v' (n + 1) (xs ++ [.slice a l.length c])) (hg : (w.alloc o).grownBy w' v.ownBlock) (hat : v'.ownBlock = v.ownBlock ∨ v'.ownBlock = some (w.alloc o).heap.size) : OutV B w' v' (L ++ [l]) := by
  have hk : ∀ b, (b < w.heap.size ∧ v.ownBlock ≠ some b) → ∀ off, w'.cell? ⟨b, off, none⟩ = w.cell? ⟨b, off, none⟩ := by
    intro b hb off
    rw [grown_cells hg (by rw [World.size_alloc]; omega) hb.2]
    exact below_cells ((Below.refl w.heap.size w).alloc (Nat.le_refl _) o) b hb.1 off
  have hm : ∀ b, (b < w.heap.size ∧ v.ownBlock ≠ some b) → (b < w'.heap.size ∧ v'.ownBlock ≠ some b) := by
    intro b hb
    have hsz := hg.size
    rw [World.size_alloc] at hsz
    refine ⟨by omega, ?_⟩
    rcases hat with e | e
    · rw [e]; exact hb.2
    · rw [e, World.size_alloc]; intro h; cases h; omega
  refine ⟨xs ++ [.slice a l.length c], ?_, ((hs.keep hk).mono hm).snoc ⟨a, c, rfl, (hl.keep hk).mono hm⟩⟩
  rw [List.length_append, ← hn]
  exact hown'
theorem take_fm {rows : List (List Pt)} {k : Nat} (hk : k < rows.length) (f : List Pt → Option (List Pt)) : (rows.take (k + 1)).filterMap f = (rows.take k).filterMap f ++ (f rows[k]).toList := by
  rw [List.take_succ_eq_append_getElem hk, List.filterMap_append]
  cases h : f rows[k] with
  | none => simp [h]
  | some l => simp [h]

set_option maxRecDepth 100000 in
set_option maxHeartbeats 4000000 in
theorem pgivens_any (h : Hd) (n : Nat) (rows : List (List Pt)) (ao : Option Addr) (cap : Nat) (w : World) (hE : Even (n + 1) rows) (hv : MatV w w.heap.size rows ao cap) (hl : n ≤ 1000000) (hR : rows.length ≤ 1048576) (hw : wtR rows ≤ 1000000) (hc : h.c ≤ 1000000) :
    Calls Try.prog 24 #[.slice ao rows.length cap, .agg (hdRow h)] w fun e w' => ∃ a c, e = .returned (.slice a (rows.filterMap (given h)).length c) ∧ MatV w' w'.heap.size (rows.filterMap (given h)) a c ∧ Below w.heap.size w w' := by
  obtain ⟨i46, hi, hz0, hz1, hz2⟩ := info_parts info46
  have HI := Lib.hid hi
  have HE := Lib.hid hE
  have HV := Lib.hid hv
  have HWT := Lib.hid hw
  obtain ⟨W, hW⟩ : ∃ W, W = w.alloc (.cells (hdRow h) 51) := ⟨_, rfl⟩
  have hBW : Below w.heap.size w W := by rw [hW]; exact balloc (Below.refl _ _) _
  have h51 : HB W w.heap.size h := by rw [hW]; exact heap_alloc_new w _
  have lW : w.heap.size < W.heap.size := lt_of_block h51
  have HW := Lib.hid hW
  have HBW := Lib.hid hBW
  have H51 := Lib.hid h51
  clear hi hE hv hw hW hBW h51
  obtain ⟨hk, hn', hcn, hss⟩ := h
  simp only at hc
  unfold hdRow
  simp only
  obtain ⟨len, hlen⟩ : ∃ len, len = rows.length := ⟨_, rfl⟩
  rw [← hlen] at hR ⊢
  have HLEN := Lib.hid hlen
  clear hlen
  go_enter Try.func24, Try.ntmps24
  go_wp2_with fail
  rw [show (w.alloc (.cells #[.int .i64 hk, .int .i64 hn', .int .i64 hcn, .string hss] 51)) = W from HW.out.symm]
  go_loopw [5, 12] (fun o i wr => ∃ k : Nat, k ≤ len ∧ i = .int .i64 k ∧ OutV W.heap.size wr o ((rows.take k).filterMap (given ⟨hk, hn', hcn, hss⟩)) ∧ Below W.heap.size W wr) (fun o i _ => len - (intOf i).toNat)
  case atStart => exact ⟨0, Nat.zero_le _, rfl, ⟨[], World.ownsRow_nil _ _ _ _, trivial⟩, Below.refl _ _⟩
  case round =>
    obtain ⟨k, hkl, rfl, hout, hbl⟩ := hrel
    have HOUT := Lib.hid hout
    have HBL := Lib.hid hbl
    have hsr := hbl.size
    clear hout hbl
    by_cases hlt : k < len
    · have hd : decide ((k : Int) < (len : Int)) = true := by simp; omega
      have hkr : k < rows.length := by rw [← HLEN.out]; exact hlt
      obtain ⟨b, off, ai, ci, ha, hb, hcell, hsl⟩ := ((HV.out.keep HBW.out).keep (HBL.out.mono (Nat.le_of_lt lW))).get hkr
      have hix : ∀ w' : World, (Instr.indexAt 38 (.slice ao len cap) (.int .i64 k)).run Try.prog w' = .ok (.pointer (some ⟨b, off + k, none⟩)) w' := by intro w'; have h := index_at Try.underlying38 size46 ha len cap k hlt w'; rwa [Nat.mul_one] at h
      rw [Nat.mul_one] at hcell
      obtain ⟨r, hr⟩ : ∃ r, r = rows[k] := ⟨_, rfl⟩
      rw [← hr] at hcell hsl
      have hmem : r ∈ rows := by rw [hr]; exact List.getElem_mem hkr
      obtain ⟨p, ps, rfl⟩ : ∃ p ps, r = p :: ps := by
        have := (HE.out r hmem).1
        cases r with
        | nil => simp at this
        | cons p ps => exact ⟨p, ps, rfl⟩
      obtain ⟨m, hm⟩ : ∃ m, m = (p :: ps).length := ⟨_, rfl⟩
      rw [← hm] at hcell
      have d0 : wr.cell? ⟨w.heap.size, 0, none⟩ = some (.int .i64 hk) := (HBL.out.cell (p := ⟨w.heap.size, _, none⟩) lW).trans (blk_cell H51.out 0)
      have d1 : wr.cell? ⟨w.heap.size, 1, none⟩ = some (.int .i64 hn') := (HBL.out.cell (p := ⟨w.heap.size, _, none⟩) lW).trans (blk_cell H51.out 1)
      have d2 : wr.cell? ⟨w.heap.size, 2, none⟩ = some (.int .i64 hcn) := (HBL.out.cell (p := ⟨w.heap.size, _, none⟩) lW).trans (blk_cell H51.out 2)
      have d3 : wr.cell? ⟨w.heap.size, 3, none⟩ = some (.string hss) := (HBL.out.cell (p := ⟨w.heap.size, _, none⟩) lW).trans (blk_cell H51.out 3)
      have HR' := Lib.hid hr
      have HM := Lib.hid hm
      have HMEM := Lib.hid hmem
      have HSL := Lib.hid hsl
      have hev := HE.out _ hmem
      have hpP : Proper p := (properL_cons hev.2).1
      have hm9 : m ≤ 1048576 := by rw [hm, hev.1]; omega
      have hwp : wt p ≤ 1000000 := by
        have h1 := wtL_le hmem
        have h2 := HWT.out
        rw [wtL] at h1
        omega
      have hbp := proper_bare hpP
      have hk1 : p.kids.length ≤ 1048576 := by have := kids_le hpP; omega
      have hk2 : (bare p).kids.length ≤ 1048576 := by have := kids_le hbp.1; omega
      have HPP := Lib.hid hpP
      have HK1 := Lib.hid hk1
      have HK2 := Lib.hid hk2
      have HTF := Lib.hid (take_fm hkr (given ⟨hk, hn', hcn, hss⟩))
      clear ha hr hm hmem hsl hev hpP hbp hk1 hk2 hwp
      go_wp2_with fail
      refine (pgiven_any (fun b => b < w.heap.size) ⟨hk, hn', hcn, hss⟩ p ps m ai ci wr HM.out (fun b hb => by omega) HPP.out HSL.out hm9 HK1.out HK2.out (by simp only; omega)).mono ?_
      intro e w2 hp
      unfold GivenPost at hp
      have htf := HTF.out
      rw [← HR'.out] at htf
      cases hg : given ⟨hk, hn', hcn, hss⟩ (p :: ps) with
      | none =>
        rw [hg] at hp htf
        obtain ⟨rfl, hb2⟩ := hp
        have HB2 := Lib.hid hb2
        have HTF2 := Lib.hid htf
        clear hb2 hg htf d0 d1 d2 d3 hcell hix
        go_wp2_with fail
        go_roundw
        case rel =>
          refine ⟨k + 1, hlt, by go_num, ?_, HBL.out.trans (HB2.out.mono hsr)⟩
          rw [HTF2.out]
          simpa using HOUT.out.on HB2.out
        case measure => simp [intOf]; omega
      | some l =>
        rw [hg] at hp htf
        obtain ⟨⟨a2, c2, rfl, hsv⟩, hb2⟩ := hp
        have hob := HOUT.out
        obtain ⟨xs0, hox0, _⟩ := hob
        obtain ⟨xs, hox, hsx⟩ := HOUT.out.on hb2
        obtain ⟨L, hL⟩ : ∃ L, L = (rows.take k).filterMap (given ⟨hk, hn', hcn, hss⟩) := ⟨_, rfl⟩
        rw [← hL] at hox hsx htf hox0
        obtain ⟨lk, hlk⟩ : ∃ lk, lk = L.length := ⟨_, rfl⟩
        rw [← hlk] at hox hox0
        have hlkb : lk ≤ 1048576 := by
          have h1 := List.length_filterMap_le (given ⟨hk, hn', hcn, hss⟩) (rows.take k)
          rw [← hL, ← hlk, List.length_take] at h1
          omega
        have hsD : SlD w2 (fun b => b < w2.heap.size ∧ Value.ownBlock u5 ≠ some b) l a2 c2 := hsv.mono fun b hb => by
          have hs2 := hb2.size
          refine ⟨by omega, fun e => ?_⟩
          have := hox0.lt b e
          omega
        have hBW2 : Below W.heap.size W w2 := HBL.out.trans (hb2.mono hsr)
        have hlt5 : ∀ g, Value.ownBlock u5 = some g → W.heap.size ≤ g := fun g e => (hox0.lt g e).1
        have hs2 := hBW2.size
        have HOX := Lib.hid hox
        have HSX := Lib.hid hsx
        have HLK := Lib.hid hlk
        have HTF2 := Lib.hid htf
        have HSD := Lib.hid hsD
        have HBW2 := Lib.hid hBW2
        have HLT5 := Lib.hid hlt5
        clear hox hsx hlk htf hsD hBW2 hlt5 hox0 hsv hb2 hg hL d0 d1 d2 d3 hcell hix
        go_wp2_with (first | (at_builtin; go_must (refine wpList_append3 rfl (.tmp 23) (.tmp 25) 38 38 rfl W.heap.size 46 46 i46 _ 1 24 Try.underlying38 Try.underlying38 HI.out hz0 hz1 hz2 rfl (by decide) u5 lk xs rfl (HOX.out.alloc _) (some ⟨w2.heap.size, 0, none⟩) 1 1 [.slice a2 l.length c2] rfl rfl (fun _ => ⟨_, rfl, new_cells (c := #[.slice a2 l.length c2]) _ rfl⟩) (by simp [Value.oneCell']) (by unfold maxLen; omega) (by omega) (by simp; omega) ?_; intro v3 w3 hown3 hg3 hat3)))
        go_roundw
        case rel =>
          refine ⟨k + 1, hlt, by go_num, ?_, ?_⟩
          · rw [HTF2.out]
            exact OutV.snoc HLK.out HOX.out HSX.out HSD.out hown3 hg3 hat3
          · exact (HBW2.out.alloc hs2 _).grown hg3 (by simp; omega) (fun g e => HLT5.out g e)
        case measure => simp [intOf]; omega
    · have hd : decide ((k : Int) < (len : Int)) = false := by simp; omega
      obtain ⟨xs, hox, hsx⟩ := HOUT.out
      have hk : k = rows.length := by rw [← HLEN.out]; omega
      rw [hk, List.take_length] at hox hsx
      obtain ⟨a5, c5, rfl⟩ := own_slice hox
      have hmat := mat_own (D := fun b => b < wr.heap.size) hox (fun b _ h => h) (hsx.mono fun b h => h.1) rfl
      have HMAT := Lib.hid hmat
      clear hox hsx hmat hk
      go_wp2_with fail
      go_ret
      exact ⟨a5, c5, rfl, HMAT.out, HBW.out.trans (HBL.out.mono (Nat.le_of_lt lW))⟩
end Go.Proofs.Ytcieoelogocjkaa
