/-
  Proved: the contract of the law's has. Condition: patterns that may be, none any; what fits a machine.
-/
import Derived.Test.YtcieoelogocjkaaS3
import Derived.Test.YtcieoelogocjkaaZ1
import Derived.Deep.RegionHeld3
set_option linter.unusedSimpArgs false
set_option linter.unusedVariables false
namespace Go.Proofs.Ytcieoelogocjkaa
open Go.RowKit

mutual
/-- nothing in a pattern is any -/
def NoA : Pt → Prop
  | .mk k _ _ _ _ kids => k ≠ 0 ∧ NoAL kids
def NoAL : List Pt → Prop
  | [] => True
  | p :: ps => NoA p ∧ NoAL ps
end
theorem NoA.hd {p : Pt} (h : NoA p) : p.k ≠ 0 := by cases p; unfold NoA at h; exact h.1
theorem NoA.kids {p : Pt} (h : NoA p) : NoAL p.kids := by cases p; unfold NoA at h; exact h.2
theorem noA_get {p : Pt} : ∀ {l : List Pt}, NoAL l → p ∈ l → NoA p
  | x :: xs, h, hp => by
    unfold NoAL at h
    rcases List.mem_cons.1 hp with rfl | hp
    · exact h.1
    · exact noA_get h.2 hp
theorem properL_get {p : Pt} : ∀ {l : List Pt}, ProperL l → p ∈ l → Proper p
  | x :: xs, h, hp => by
    have h' := properL_cons h
    rcases List.mem_cons.1 hp with rfl | hp
    · exact h'.1
    · exact properL_get h'.2 hp
theorem ml_len : ∀ {l l' : List Pt}, l.length ≠ l'.length → ML l l' = false
  | [], [], h => absurd rfl h
  | [], _ :: _, _ => by rw [ML]
  | _ :: _, [], _ => by rw [ML]
  | p :: ps, v :: vs, h => by rw [ML, ml_len (by simpa using h)]; simp
/-- what region 11 reads -/
abbrev SH (b2 b3 : Nat) (v2 v3 : Value) (g o : Nat) (x : Pt) (ax : Option Addr) (cx : Nat) (g' o' : Nat) (y : Pt) (ay : Option Addr) (cy : Nat) (w : World) : Prop :=
  (w.cell? ⟨b2, 5, none⟩ = some v2 ∧ w.cell? ⟨b3, 5, none⟩ = some v3) ∧ SixA g o x ax cx w ∧ SixA g' o' y ay cy w
theorem SH.drew {b2 b3 : Nat} {v2 v3 : Value} {g o : Nat} {x : Pt} {ax : Option Addr} {cx : Nat} {g' o' : Nat} {y : Pt} {ay : Option Addr} {cy : Nat} {w : World} (h : SH b2 b3 v2 v3 g o x ax cx g' o' y ay cy w) : SH b2 b3 v2 v3 g o x ax cx g' o' y ay cy w.drew := h
theorem six_below {g o : Nat} {x : Pt} {ax : Option Addr} {cx : Nat} {w w' : World} (h : SixA g o x ax cx w) (hb : Below w.heap.size w w') (hg : g < w.heap.size) : SixA g o x ax cx w' := by
  have e : ∀ o, w'.cell? ⟨g, o, none⟩ = w.cell? ⟨g, o, none⟩ := fun o => hb.cell (p := ⟨g, o, none⟩) hg
  unfold SixA
  simp only [e]
  exact h
theorem SH.below {b2 b3 : Nat} {v2 v3 : Value} {g o : Nat} {x : Pt} {ax : Option Addr} {cx : Nat} {g' o' : Nat} {y : Pt} {ay : Option Addr} {cy : Nat} {w w' : World} (h : SH b2 b3 v2 v3 g o x ax cx g' o' y ay cy w) (hb : Below w.heap.size w w') (h2 : b2 < w.heap.size) (h3 : b3 < w.heap.size) (hg : g < w.heap.size) (hg' : g' < w.heap.size) :
    SH b2 b3 v2 v3 g o x ax cx g' o' y ay cy w' :=
  ⟨⟨(hb.cell (p := ⟨b2, 5, none⟩) h2).trans h.1.1, (hb.cell (p := ⟨b3, 5, none⟩) h3).trans h.1.2⟩, six_below h.2.1 hb hg, six_below h.2.2 hb hg'⟩
/-- what region 5 reads -/
abbrev SK (b2 : Nat) (v2 : Value) (g o : Nat) (x : Pt) (ax : Option Addr) (cx : Nat) (b3 : Nat) (y : Pt) (ay : Option Addr) (cy : Nat) (w : World) : Prop :=
  w.cell? ⟨b2, 5, none⟩ = some v2 ∧ SixA g o x ax cx w ∧ SixZ b3 y ay cy w
theorem SK.drew {b2 : Nat} {v2 : Value} {g o : Nat} {x : Pt} {ax : Option Addr} {cx : Nat} {b3 : Nat} {y : Pt} {ay : Option Addr} {cy : Nat} {w : World} (h : SK b2 v2 g o x ax cx b3 y ay cy w) : SK b2 v2 g o x ax cx b3 y ay cy w.drew := h
theorem SK.below {b2 : Nat} {v2 : Value} {g o : Nat} {x : Pt} {ax : Option Addr} {cx : Nat} {b3 : Nat} {y : Pt} {ay : Option Addr} {cy : Nat} {w w' : World} (h : SK b2 v2 g o x ax cx b3 y ay cy w) (hb : Below w.heap.size w w') (h2 : b2 < w.heap.size) (h3 : b3 < w.heap.size) (hg : g < w.heap.size) : SK b2 v2 g o x ax cx b3 y ay cy w' := by
  have e3 : ∀ o, w'.cell? ⟨b3, o, none⟩ = w.cell? ⟨b3, o, none⟩ := fun o => hb.cell (p := ⟨b3, o, none⟩) h3
  refine ⟨(hb.cell (p := ⟨b2, 5, none⟩) h2).trans h.1, six_below h.2.1 hb hg, ?_⟩
  have := h.2.2
  unfold SixZ at this ⊢
  simp only [e3]
  exact this
theorem kid_six {w : World} {N : Nat} {l : List Pt} {ao : Option Addr} {cap : Nat} (h : SlV w N l ao cap) {j : Nat} (hj : j < l.length) : ∃ g off ax cx, ao = some ⟨g, off, none⟩ ∧ g < N ∧ SixA g (off + j * 6) l[j] ax cx w ∧ SlV w N l[j].kids ax cx := by
  obtain ⟨g, off, row, ha, hDg, hrow, hpv⟩ := h.2.get hj
  obtain ⟨aq, cq, rfl, hkq⟩ := hpv.row
  rw [Nat.zero_add] at hrow
  exact ⟨g, off, aq, cq, ha, hDg, ⟨⟨hrow 0 (by omega), hrow 1 (by omega), hrow 2 (by omega)⟩, hrow 3 (by omega), hrow 4 (by omega), hrow 5 (by omega)⟩, hkq⟩

set_option maxRecDepth 100000 in
set_option maxHeartbeats 8000000 in
theorem has_any : ∀ (f : Nat) (p : Pt), parts p ≤ f → ∀ (v : Pt) (ao av : Option Addr) (cap cv : Nat) (w : World), SlV w w.heap.size p.kids ao cap → SlV w w.heap.size v.kids av cv → Proper p → NoA p → p.kids.length ≤ 1000000000 → v.kids.length ≤ 1000000000 → parts p ≤ 1000000000 → parts v ≤ 1000000000 →
    Calls Try.prog 11 #[.agg (rowOf p ao cap), .agg (rowOf v av cv)] w fun e w' => e = .returned (.bool (M p v)) ∧ Below w.heap.size w w' := by
  intro f
  induction f with
  | zero => intro p hp; cases p; rw [parts] at hp; omega
  | succ f IH =>
    intro p hp v ao av cap cv w hv hvv hpr hno hkl hvl hpb hfv
    obtain ⟨k, n, o, a, s, kids⟩ := p
    obtain ⟨k', n', o', a', s', kids'⟩ := v
    obtain ⟨c, hc⟩ : ∃ c, c = kids.length := ⟨_, rfl⟩
    obtain ⟨c', hc'⟩ : ∃ c', c' = kids'.length := ⟨_, rfl⟩
    simp only [Pt.kids] at hv hvv hkl hvl
    rw [← hc] at hkl
    rw [← hc'] at hvl
    have HC := Lib.hid hc
    have HC' := Lib.hid hc'
    have HP := Lib.hid hp
    have HPB := Lib.hid hpb
    have HPR := Lib.hid hpr
    have HNO := Lib.hid hno
    have HFV := Lib.hid hfv
    have HIH := Lib.hid IH
    have HV := Lib.hid hv
    have HVV := Lib.hid hvv
    rw [show rowOf (.mk k n o a s kids) ao cap = #[.int .i64 k, .int .i64 n, .int .i64 o, .int .i64 a, .string s, .slice ao c cap] from by rw [hc]; rfl]
    rw [show rowOf (.mk k' n' o' a' s' kids') av cv = #[.int .i64 k', .int .i64 n', .int .i64 o', .int .i64 a', .string s', .slice av c' cv] from by rw [hc']; rfl]
    obtain ⟨ans, hans⟩ : ∃ ans, ans = M (.mk k n o a s kids) (.mk k' n' o' a' s' kids') := ⟨_, rfl⟩
    rw [← hans]
    have HANS := Lib.hid hans
    obtain ⟨W, hW⟩ : ∃ W, W = (w.alloc (.cells #[.int .i64 k, .int .i64 n, .int .i64 o, .int .i64 a, .string s, .slice ao c cap] 26)).alloc (.cells #[.int .i64 k', .int .i64 n', .int .i64 o', .int .i64 a', .string s', .slice av c' cv] 26) := ⟨_, rfl⟩
    have e1 := heap_alloc_new w (.cells #[.int .i64 k, .int .i64 n, .int .i64 o, .int .i64 a, .string s, .slice ao c cap] 26)
    have e2 := heap_alloc_new (w.alloc (.cells #[.int .i64 k, .int .i64 n, .int .i64 o, .int .i64 a, .string s, .slice ao c cap] 26)) (.cells #[.int .i64 k', .int .i64 n', .int .i64 o', .int .i64 a', .string s', .slice av c' cv] 26)
    rw [World.size_alloc] at e2
    have h1 : W.heap[w.heap.size]? = some (.cells #[.int .i64 k, .int .i64 n, .int .i64 o, .int .i64 a, .string s, .slice ao c cap] 26 (0, 0)) := by rw [hW]; exact blk_alloc e1 _
    have h2 : W.heap[w.heap.size + 1]? = some (.cells #[.int .i64 k', .int .i64 n', .int .i64 o', .int .i64 a', .string s', .slice av c' cv] 26 (0, 0)) := by rw [hW]; exact e2
    have h3 : Below w.heap.size w W := by rw [hW]; exact balloc (balloc (Below.refl _ _) _) _
    have l2 : w.heap.size + 1 < W.heap.size := lt_of_block h2
    have c0 : W.cell? ⟨w.heap.size, 0, none⟩ = some (.int .i64 k) := blk_cell h1 0
    have c1 : W.cell? ⟨w.heap.size, 1, none⟩ = some (.int .i64 n) := blk_cell h1 1
    have c5 : W.cell? ⟨w.heap.size, 5, none⟩ = some (.slice ao c cap) := blk_cell h1 5
    have d0 : W.cell? ⟨w.heap.size + 1, 0, none⟩ = some (.int .i64 k') := blk_cell h2 0
    have d1 : W.cell? ⟨w.heap.size + 1, 1, none⟩ = some (.int .i64 n') := blk_cell h2 1
    have d5 : W.cell? ⟨w.heap.size + 1, 5, none⟩ = some (.slice av c' cv) := blk_cell h2 5
    have HW := Lib.hid hW
    have H1 := Lib.hid h1
    have H2 := Lib.hid h2
    have H3 := Lib.hid h3
    clear IH hv hvv hc hc' hp hpb hpr hno hfv hW h1 h2 h3 e1 e2 hans
    go_enter Try.func11, Try.ntmps11
    go_upto_region 1 with fail
    rw [← HW.out]
    by_cases hk1 : k = 1
    · subst hk1
      have ha : ans = true := by rw [HANS.out, M, if_pos (.inr rfl)]
      have HA := Lib.hid ha
      clear ha
      go_wp2_with fail
      go_ret
      exact ⟨by rw [HA.out]; rfl, H3.out⟩
    · by_cases hk2 : k = 2
      · subst hk2
        obtain ⟨t, ht, htp⟩ := proper_as HPR.out rfl
        simp only [Pt.kids] at ht
        subst ht
        have hc1 : c = 1 := HC.out
        subst hc1
        have ha : ans = M t (.mk k' n' o' a' s' kids') := by rw [HANS.out, M, if_neg (by omega), if_pos rfl, M1]
        have hvW : SlV W W.heap.size [t] ao cap := SlV.on HV.out H3.out
        obtain ⟨g, off, ax, cx, hao, hgl, hsix, hsx⟩ := kid_six hvW (j := 0) (by simp)
        rw [show off + 0 * 6 = off from by omega] at hsix
        simp only [List.getElem_cons_zero] at hsix hsx
        have hix : ∀ w' : World, (Instr.indexAt 23 (.slice ao 1 cap) (.int .i64 0)).run Try.prog w' = .ok (.pointer (some ⟨g, off + 0 * 6, none⟩)) w' := fun w' => index_at Try.underlying23 size26 hao 1 cap 0 (by omega) w'
        rw [show off + 0 * 6 = off from by omega] at hix
        have hS : SK w.heap.size (.slice ao 1 cap) g off t ax cx (w.heap.size + 1) (.mk k' n' o' a' s' kids') av cv W := by
          refine ⟨c5, hsix, ⟨blk_cell H2.out 0, blk_cell H2.out 1, blk_cell H2.out 2⟩, blk_cell H2.out 3, blk_cell H2.out 4, ?_⟩
          have h := blk_cell H2.out 5
          rw [HC'.out] at h
          exact h
        have hpt : parts t ≤ f ∧ parts t ≤ 1000000000 ∧ t.kids.length ≤ 1000000000 := by
          have h1 := HP.out
          have h2 := HPB.out
          rw [parts, partsL, partsL] at h1 h2
          have h3 := kids_parts t
          omega
        have hnt : NoA t := noA_get HNO.out.kids (by simp [Pt.kids])
        have HA := Lib.hid ha
        have HPT := Lib.hid hpt
        have HNT := Lib.hid hnt
        have HTP := Lib.hid htp
        have HSX := Lib.hid hsx
        have HVW : Hid (SlV W W.heap.size kids' av cv) := Lib.hid (SlV.on HVV.out H3.out)
        have lw : w.heap.size < W.heap.size := by omega
        clear hk1 ha hpt hnt htp hsx hao hsix hvW
        go_upto_region 5 with fail
        clear c0 c1 c5 d0 d1 d5
        go_region_held3 (fun w' => SK w.heap.size (.slice ao 1 cap) g off t ax cx (w.heap.size + 1) (.mk k' n' o' a' s' kids') av cv w')
          (repeat (first | exact hS | exact hS5 | apply SK.drew))
          (first | (go_at_call 11; refine (HIH.out t HPT.out.1 (.mk k' n' o' a' s' kids') ax av cx cv W.drew (SlD.keep (w' := W.drew) HSX.out (fun _ _ _ => rfl)) (SlD.keep (w' := W.drew) HVW.out (fun _ _ _ => rfl)) HTP.out HNT.out HPT.out.2.2 (by show kids'.length ≤ 1000000000; rw [← HC'.out]; exact hvl) HPT.out.2.1 HFV.out).mono ?_; rintro e w5 ⟨rfl, hb5⟩; have hS5 := (SK.drew hS).below hb5 lw l2 hgl))
        go_wp2_with fail
        go_ret
        exact ⟨by rw [HA.out]; rfl, H3.out.trans (((Below.refl _ _).drew.trans hb5).mono (Nat.le_of_lt lw))⟩
      · have hk0 : k ≠ 0 := HNO.out.hd
        have ha : ans = (decide (k = k' ∧ n = n') && ML kids kids') := by rw [HANS.out, m_form (p := .mk k n o a s kids) hk0 hk1 hk2]; rfl
        have HA := Lib.hid ha
        have b1 : (k == 1) = false := by simp [hk1]
        have b2 : (k == 2) = false := by simp [hk2]
        have HK0 := Lib.hid hk0
        clear ha hk1 hk2 hk0
        by_cases hn : n = n'
        · subst hn
          by_cases hk : k = k'
          · subst hk
            by_cases hcc : c = c'
            · subst hcc
              have ha : ans = ML kids kids' := by rw [HA.out]; simp
              have HA2 := Lib.hid ha
              have hll : kids.length = kids'.length := by rw [← HC.out, ← HC'.out]
              have HLL := Lib.hid hll
              clear ha hll
              go_wp2_with fail
              clear c0 c1 d0 d1
              go_loopw [5] (fun i wr => ∃ j : Nat, j ≤ c ∧ i = .int .i64 j ∧ ML kids kids' = ML (kids.drop j) (kids'.drop j) ∧ Below W.heap.size W wr) (fun i _ => c - (intOf i).toNat)
              case atStart => exact ⟨0, Nat.zero_le _, rfl, rfl, Below.refl _ _⟩
              case round =>
                obtain ⟨j, hj, rfl, hml, hbr⟩ := hrel
                have HML := Lib.hid hml
                have HBR := Lib.hid hbr
                have hsr := hbr.size
                have hlw : w.heap.size < W.heap.size := by omega
                have e5 : wr.cell? ⟨w.heap.size, 5, none⟩ = some (.slice ao c cap) := (hbr.cell (p := ⟨w.heap.size, 5, none⟩) hlw).trans (blk_cell H1.out 5)
                have g5 : wr.cell? ⟨w.heap.size + 1, 5, none⟩ = some (.slice av c cv) := (hbr.cell (p := ⟨w.heap.size + 1, 5, none⟩) l2).trans (blk_cell H2.out 5)
                clear hml hbr c5 d5
                by_cases hlt : j < c
                · have hd : decide ((j : Int) < (c : Int)) = true := by simp; omega
                  have hj1 : j < kids.length := by rw [← HC.out]; exact hlt
                  have hj2 : j < kids'.length := by rw [← HC'.out]; exact hlt
                  obtain ⟨g, off, ax, cx, hao, hgl, hsix, hsx⟩ := kid_six (SlV.on HV.out (H3.out.trans (HBR.out.mono (Nat.le_of_lt hlw)))) hj1
                  obtain ⟨g', off', ay, cy, hav, hgl', hsiy, hsy⟩ := kid_six (SlV.on HVV.out (H3.out.trans (HBR.out.mono (Nat.le_of_lt hlw)))) hj2
                  obtain ⟨x, hx⟩ : ∃ x, x = kids[j] := ⟨_, rfl⟩
                  obtain ⟨y, hy⟩ : ∃ y, y = kids'[j] := ⟨_, rfl⟩
                  rw [← hx] at hsix hsx
                  rw [← hy] at hsiy hsy
                  have hix : ∀ w' : World, (Instr.indexAt 23 (.slice ao c cap) (.int .i64 j)).run Try.prog w' = .ok (.pointer (some ⟨g, off + j * 6, none⟩)) w' := fun w' => index_at Try.underlying23 size26 hao c cap j hlt w'
                  have hiy : ∀ w' : World, (Instr.indexAt 23 (.slice av c cv) (.int .i64 j)).run Try.prog w' = .ok (.pointer (some ⟨g', off' + j * 6, none⟩)) w' := fun w' => index_at Try.underlying23 size26 hav c cv j hlt w'
                  obtain ⟨p0, hp0⟩ : ∃ p0, p0 = off + j * 6 := ⟨_, rfl⟩
                  obtain ⟨p1, hp1⟩ : ∃ p1, p1 = off' + j * 6 := ⟨_, rfl⟩
                  rw [← hp0] at hix hsix
                  rw [← hp1] at hiy hsiy
                  have hstep : ML kids kids' = (M x y && ML (kids.drop (j + 1)) (kids'.drop (j + 1))) := by
                    rw [HML.out, List.drop_eq_getElem_cons hj1, List.drop_eq_getElem_cons hj2, ML, ← hx, ← hy]
                  have hmx : x ∈ kids := by rw [hx]; exact List.getElem_mem hj1
                  have hmy : y ∈ kids' := by rw [hy]; exact List.getElem_mem hj2
                  have hpt : parts x ≤ f ∧ parts x ≤ 1000000000 ∧ x.kids.length ≤ 1000000000 := by
                    have h1 := HP.out
                    have h2 := HPB.out
                    rw [parts] at h1 h2
                    have h3 := kids_parts x
                    have h4 := parts_mem hmx
                    omega
                  have hfy : parts y ≤ 1000000000 := by
                    have h1 := HFV.out
                    rw [parts] at h1
                    have h4 := parts_mem hmy
                    omega
                  have hyk : y.kids.length ≤ 1000000000 := by have := kids_parts y; omega
                  have hS : SH w.heap.size (w.heap.size + 1) (.slice ao c cap) (.slice av c cv) g p0 x ax cx g' p1 y ay cy wr := ⟨⟨e5, g5⟩, hsix, hsiy⟩
                  have HPT := Lib.hid hpt
                  have HFY := Lib.hid hfy
                  have HSTEP := Lib.hid hstep
                  have HSX := Lib.hid hsx
                  have HSY := Lib.hid hsy
                  have HNX := Lib.hid (noA_get HNO.out.kids hmx)
                  have HPX := Lib.hid (properL_get HPR.out.kids hmx)
                  have lw1 : w.heap.size < wr.heap.size := by omega
                  have lw2 : w.heap.size + 1 < wr.heap.size := by omega
                  clear hx hy hp0 hp1 hstep hmx hmy hpt hfy hsix hsiy hsx hsy hao hav hj1 hj2
                  go_upto_region 11 with fail
                  go_cut [6] from 47 to 57 (fun v6 wx => v6 = .bool (M x y) ∧ Below wr.heap.size wr wx)
                  case first =>
                    clear e5 g5
                    go_region_held3 (fun w' => SH w.heap.size (w.heap.size + 1) (.slice ao c cap) (.slice av c cv) g p0 x ax cx g' p1 y ay cy w')
                      (repeat (first | exact hS | exact hS5 | apply SH.drew))
                      (first | (go_at_call 11; refine (HIH.out x HPT.out.1 y ax ay cx cy wr.drew (SlD.keep (w' := wr.drew) HSX.out (fun _ _ _ => rfl)) (SlD.keep (w' := wr.drew) HSY.out (fun _ _ _ => rfl)) HPX.out HNX.out HPT.out.2.2 hyk HPT.out.2.1 HFY.out).mono ?_; rintro e w5 ⟨rfl, hb5⟩; have hS5 := (SH.drew hS).below hb5 lw1 lw2 hgl hgl'))
                    go_wp2_with fail
                    go_meet
                    exact ⟨rfl, (Below.refl _ _).drew.trans hb5⟩
                  case rest =>
                  obtain ⟨rfl, hcb⟩ := hcut
                  obtain ⟨w6, hw6⟩ : ∃ w6 : World, w6 = wc := ⟨_, rfl⟩
                  subst hw6
                  have HCB := Lib.hid (HBR.out.trans (hcb.mono hsr))
                  obtain ⟨mb, hmb⟩ : ∃ mb, mb = M x y := ⟨_, rfl⟩
                  rw [← hmb]
                  have hst := HSTEP.out
                  rw [← hmb] at hst
                  have HST := Lib.hid hst
                  clear hcb hmb hst hS hix hiy e5 g5
                  cases mb with
                  | true =>
                    go_wp2_with fail
                    go_roundw
                    case rel => exact ⟨j + 1, hlt, by go_num, by rw [HST.out]; simp, HCB.out⟩
                    case measure => simp [intOf]; omega
                  | false =>
                    have ha : ans = false := by rw [HA2.out, HST.out]; rfl
                    have HA3 := Lib.hid ha
                    clear ha
                    go_wp2_with fail
                    go_ret
                    exact ⟨by rw [HA3.out]; rfl, H3.out.trans (HCB.out.mono (Nat.le_of_lt hlw))⟩
                · have hd : decide ((j : Int) < (c : Int)) = false := by simp; omega
                  have ha : ans = true := by rw [HA2.out, HML.out, show j = c from by omega, List.drop_of_length_le (by rw [← HC.out]; exact Nat.le_refl _), List.drop_of_length_le (by rw [← HC'.out]; exact Nat.le_refl _), ML]
                  have HA3 := Lib.hid ha
                  clear ha
                  go_wp2_with fail
                  go_ret
                  exact ⟨by rw [HA3.out]; rfl, H3.out.trans (HBR.out.mono (Nat.le_of_lt hlw))⟩
            · have b3 : ((c : Int) != (c' : Int)) = true := by simp; omega
              have ha : ans = false := by rw [HA.out, ml_len (by rw [← HC.out, ← HC'.out]; exact hcc)]; simp
              have HA2 := Lib.hid ha
              clear hcc ha
              go_wp2_with fail
              go_ret
              exact ⟨by rw [HA2.out]; rfl, H3.out⟩
          · have b3 : (k != k') = true := by simpa using hk
            have ha : ans = false := by rw [HA.out]; simp [hk]
            have HA2 := Lib.hid ha
            clear hk ha
            go_wp2_with fail
            go_ret
            exact ⟨by rw [HA2.out]; rfl, H3.out⟩
        · have b3 : (n != n') = true := by simpa using hn
          have ha : ans = false := by rw [HA.out]; simp [hn]
          have HA2 := Lib.hid ha
          clear hn ha
          go_wp2_with fail
          go_ret
          exact ⟨by rw [HA2.out]; rfl, H3.out⟩
end Go.Proofs.Ytcieoelogocjkaa
