/-
  Proved: one move of Collect, told as in plain Lean: of a root, of a field. No condition beyond where things lie.
-/
import Derived.Test.YtidjfmkclabagaaA2
import Derived.Test.YtidjfmkclabagaaP1
set_option linter.unusedSimpArgs false
set_option linter.unusedVariables false
namespace Go.Proofs.Ytidjfmkclabagaa
open Go.RowKit

theorem arr_same {c : Array Value} {i : Nat} {v : Value} (h : c[i]? = some v) : c.setIfInBounds i v = c := by
  apply Array.ext
  · simp
  · intro k k1 k2
    by_cases hk : i = k
    · subst hk
      rw [Array.getElem_setIfInBounds, if_pos rfl]
      · rw [Array.getElem?_eq_getElem k2] at h
        exact (Option.some.inj h).symm
      · exact k2
    · rw [Array.getElem_setIfInBounds k2, if_neg hk]
/-- what has gone on in the two halves -/
abbrev mvTo (m : Mv) (od nw : List C) (nx : Nat) : Mv := { m with od := od, nw := nw, nx := nx }
theorem new_at {m : Mv} {w : World} (hm : MvAt w m) {cb co a n : Nat} (ha : a < m.od.length) (cs : List C) (hcs : cs.length = n) (hn : m.nx + n ≤ m.nw.length) (hcb : cb ≠ m.ob) (hch : cb ≠ m.hb) (hc1 : cb ≠ m.x1) (hc2 : cb ≠ m.x2) {w' : World}
    (hb : Below w.heap.size (((((w.setCells m.nb (m.nx * 2) (cv cs)).setCell ⟨m.ob, a * 2, none⟩ (.bool true)).setCell ⟨m.ob, a * 2 + 1, none⟩ (.int .i64 m.nx)).setCell ⟨cb, co + 1, none⟩ (.int .i64 m.nx)).setCell ⟨m.hb, 2, none⟩ (.int .i64 ((m.nx + n : Nat) : Int))) w')
    (nwf : List C) (hnl : nwf.length = m.sz) (hnw : Cells (((((w.setCells m.nb (m.nx * 2) (cv cs)).setCell ⟨m.ob, a * 2, none⟩ (.bool true)).setCell ⟨m.ob, a * 2 + 1, none⟩ (.int .i64 m.nx)).setCell ⟨cb, co + 1, none⟩ (.int .i64 m.nx)).setCell ⟨m.hb, 2, none⟩ (.int .i64 ((m.nx + n : Nat) : Int))) m.nb nwf) :
    MvAt w' (mvTo m (m.od.set a ⟨true, m.nx⟩) nwf (m.nx + n)) := by
  have q1 : m.hb ≠ m.ob := blk_ne hm.h hm.o (by decide)
  have q2 : m.hb ≠ m.nb := blk_ne hm.h hm.n (by decide)
  have q3 : m.x1 ≠ m.ob := blk_ne hm.b1 hm.o (by decide)
  have q4 : m.x1 ≠ m.nb := blk_ne hm.b1 hm.n (by decide)
  have q5 : m.x2 ≠ m.ob := blk_ne hm.b2 hm.o (by decide)
  have q6 : m.x2 ≠ m.nb := blk_ne hm.b2 hm.n (by decide)
  have q7 : m.x1 ≠ m.hb := blk_ne hm.b1 hm.h (by decide)
  have q8 : m.x2 ≠ m.hb := blk_ne hm.b2 hm.h (by decide)
  have lh := lt_of_block hm.h
  have go : ∀ {k : Nat} {x : Obj}, w.heap[k]? = some x → k ≠ m.nb → (w.setCells m.nb (m.nx * 2) (cv cs)).heap[k]? = some x := fun h hk => by rw [heap_setCells_ne _ _ _ _ hk]; exact h
  refine ⟨?_, ?_, ?_, by simp [hm.ol], hnl, hm.ne, ?_, ?_, hm.sz⟩
  · refine blk_below ?_ hb lh
    have h1 := blk_set (blk_set_ne (blk_set_ne (blk_set_ne (go hm.h q2) q1 (a * 2) (.bool true)) q1 (a * 2 + 1) (.int .i64 m.nx)) (fun e => hch e.symm) (co + 1) (.int .i64 m.nx)) 2 (.int .i64 ((m.nx + n : Nat) : Int))
    exact h1
  · refine Cells.below ?_ hb hm.o.lt
    have h0 : Cells (w.setCells m.nb (m.nx * 2) (cv cs)) m.ob m.od := go hm.o hm.ne
    exact ((h0.set ha ⟨true, m.nx⟩).set_ne (fun e => hcb e.symm) _ _).set_ne (fun e => q1 e.symm) _ _
  · exact hnw.below hb hm.n.lt
  · refine blk_below ?_ hb (lt_of_block hm.b1)
    exact blk_set_ne (blk_set_ne (blk_set_ne (blk_set_ne (go hm.b1 q4) q3 _ _) q3 _ _) (fun e => hc1 e.symm) _ _) q7 _ _
  · refine blk_below ?_ hb (lt_of_block hm.b2)
    exact blk_set_ne (blk_set_ne (blk_set_ne (blk_set_ne (go hm.b2 q6) q5 _ _) q5 _ _) (fun e => hc2 e.symm) _ _) q8 _ _
theorem MvAt.set_at {m : Mv} {w : World} (hm : MvAt w m) {cb i : Nat} {v : Value} (h1 : cb ≠ m.ob) (h2 : cb ≠ m.nb) (h3 : cb ≠ m.hb) (h4 : cb ≠ m.x1) (h5 : cb ≠ m.x2) {w' : World} (hb : Below w.heap.size (w.setCell ⟨cb, i, none⟩ v) w') : MvAt w' m :=
  ⟨blk_below (blk_set_ne hm.h (fun e => h3 e.symm) _ _) hb (lt_of_block hm.h), (hm.o.set_ne (fun e => h1 e.symm) _ _).below hb hm.o.lt, (hm.n.set_ne (fun e => h2 e.symm) _ _).below hb hm.n.lt, hm.ol, hm.nl, hm.ne, blk_below (blk_set_ne hm.b1 (fun e => h4 e.symm) _ _) hb (lt_of_block hm.b1), blk_below (blk_set_ne hm.b2 (fun e => h5 e.symm) _ _) hb (lt_of_block hm.b2), hm.sz⟩
theorem MvAt.set_nb {m : Mv} {w : World} (hm : MvAt w m) {s : Nat} {n : Int} (hs : s < m.nw.length) {w' : World} (hb : Below w.heap.size (w.setCell ⟨m.nb, s * 2 + 1, none⟩ (.int .i64 n)) w') : MvAt w' (mvTo m m.od (m.nw.set s ⟨m.nw[s].p, n⟩) m.nx) :=
  ⟨blk_below (blk_set_ne hm.h (blk_ne hm.h hm.n (by decide)) _ _) hb (lt_of_block hm.h), (hm.o.set_ne hm.ne _ _).below hb hm.o.lt, (hm.n.set1 hs n).below hb hm.n.lt, hm.ol, by simp [hm.nl], hm.ne, blk_below (blk_set_ne hm.b1 (blk_ne hm.b1 hm.n (by decide)) _ _) hb (lt_of_block hm.b1), blk_below (blk_set_ne hm.b2 (blk_ne hm.b2 hm.n (by decide)) _ _) hb (lt_of_block hm.b2), hm.sz⟩
theorem Keeps.of_chain {S : Nat → Prop} {w E w' : World} (h : Keeps S w E) (hz : E.heap.size = w.heap.size) (hb : Below w.heap.size E w') : Keeps S w w' :=
  ⟨hb.os.trans h.os, hb.tape.trans h.tape, hb.output.trans h.output, by have := hb.size; omega, fun k hk hn => (hb.block k hk).trans (h.block k hk hn)⟩
theorem Keeps.sets {S : Nat → Prop} {b : Nat} (hb : S b) : ∀ (vs : List Value) (o : Nat) {w w1 : World}, Keeps S w w1 → Keeps S w (w1.setCells b o vs)
  | [], _, _, _, h => h
  | v :: vs, o, w, w1, h => by rw [World.setCells]; exact Keeps.sets hb vs (o + 1) (h.set (.inl hb) o v)
/-- what a move may turn -/
abbrev MS (m : Mv) (cb : Nat) : Nat → Prop := fun k => k = m.ob ∨ k = m.nb ∨ k = m.hb ∨ k = cb
theorem new_keeps {m : Mv} {w : World} {cb co a n : Nat} (cs : List C) {w' : World}
    (hb : Below w.heap.size (((((w.setCells m.nb (m.nx * 2) (cv cs)).setCell ⟨m.ob, a * 2, none⟩ (.bool true)).setCell ⟨m.ob, a * 2 + 1, none⟩ (.int .i64 m.nx)).setCell ⟨cb, co + 1, none⟩ (.int .i64 m.nx)).setCell ⟨m.hb, 2, none⟩ (.int .i64 ((m.nx + n : Nat) : Int))) w') : Keeps (MS m cb) w w' := by
  refine Keeps.of_chain (E := _) ?_ ?_ hb
  · exact ((((Keeps.sets (S := MS m cb) (.inr (.inl rfl)) _ _ (Keeps.refl _ w)).set (.inl (.inl rfl)) _ _).set (.inl (.inl rfl)) _ _).set (.inl (.inr (.inr (.inr rfl)))) _ _).set (.inl (.inr (.inr (.inl rfl)))) _ _
  · simp [World.setCell, size_setCells]

section
variable {us roots : List C} {D : Nat → Prop} {nx0 : Nat}

theorem move_root (hT : Things us D nx0) (hr : ∀ c ∈ roots, c.p = true → ∃ a : Nat, D a ∧ c.n = a) {m : Mv} {w : World} (hm : MvAt w m) (h0 : nx0 ≤ m.sz) {A : List Nat} (hA : MSt us roots D A m.sz 0 m.od m.nw m.nx) {rb co : Nat} {cur : Array Value} (hc : w.heap[rb]? = some (.cells cur 49 (0, 0))) {x : C} (hx : x ∈ roots)
    (hx0 : cur[co]? = some (.bool x.p)) (hx1 : cur[co + 1]? = some (.int .i64 x.n)) (n1 : rb ≠ m.ob) (n2 : rb ≠ m.nb) :
    Calls Try.prog 22 #[.pointer (some ⟨rb, co, none⟩), .pointer (some ⟨m.x1, 0, none⟩), .pointer (some ⟨m.x2, 0, none⟩)] w fun e w' => e = .returned (.tuple #[]) ∧ ∃ A2 od nw nx, MvAt w' (mvTo m od nw nx) ∧ MSt us roots D (A ++ A2) m.sz 0 od nw nx ∧ Keeps (MS m rb) w w' ∧
      w'.heap[rb]? = some (.cells (cur.setIfInBounds (co + 1) (.int .i64 (ph us (A ++ A2) x).n)) 49 (0, 0)) ∧ (x.p = true → ∃ a ∈ A ++ A2, x.n = ((a : Nat) : Int)) := by
  have n3 : rb ≠ m.hb := blk_ne hc hm.h (by decide)
  have n4 : rb ≠ m.x1 := blk_ne hc hm.b1 (by decide)
  have n5 : rb ≠ m.x2 := blk_ne hc hm.b2 (by decide)
  have c0 : w.cell? ⟨rb, co, none⟩ = some (.bool x.p) := by rw [blk_cell hc]; exact hx0
  have c1 : w.cell? ⟨rb, co + 1, none⟩ = some (.int .i64 x.n) := by rw [blk_cell hc]; exact hx1
  have cf : w.frozen? ⟨rb, co + 1, none⟩ = false := blk_free hc _
  have lr := lt_of_block hc
  cases hp : x.p with
  | false =>
    rw [hp] at c0
    refine (move_num m w hm rb co x.n c0).mono ?_
    rintro e w' ⟨rfl, rfl⟩
    refine ⟨rfl, [], m.od, m.nw, m.nx, hm, by rw [List.append_nil]; exact hA, Keeps.refl _ _, ?_, fun h => by cases h⟩
    have e1 : (ph us (A ++ []) x).n = x.n := by unfold ph; rw [hp]; rfl
    rw [e1, arr_same hx1]
    exact hc
  | true =>
    rw [hp] at c0
    obtain ⟨a, hDa, hna⟩ := hr x hx hp
    rw [hna] at c1
    have hra : Rch us roots a := .root hx hp hna
    have hfit := hT.fit a hDa
    have hal : a < m.od.length := by rw [hm.ol]; omega
    by_cases hmem : a ∈ A
    · have hg : gt m.od a = ⟨true, off us A a⟩ := by rw [hA.od a (by omega), if_pos hmem]
      rw [← gt_get hal] at hg
      refine (move_old m w hm rb co a hal c0 c1 cf (by rw [hg])).mono ?_
      rintro e w' ⟨rfl, hb⟩
      rw [hg] at hb
      refine ⟨rfl, [], m.od, m.nw, m.nx, hm.set_at n1 n2 n3 n4 n5 hb, by rw [List.append_nil]; exact hA, Keeps.of_chain ((Keeps.refl (MS m rb) w).set (.inl (.inr (.inr (.inr rfl)))) _ _) (by simp [World.setCell]) hb, ?_, fun _ => ⟨a, by simpa using hmem, hna⟩⟩
      have e1 : (ph us (A ++ []) x).n = off us A a := by unfold ph; rw [hp, List.append_nil, if_pos rfl, hna, Int.toNat_natCast]
      rw [e1]
      exact blk_below (blk_set hc _ _) hb lr
    · obtain ⟨g1, g2, g3, g4, g5⟩ := mst_new hT h0 hr hA hra hmem (Nat.zero_le _)
      have hod := gt_get hal
      rw [g5] at hod
      have hnum := hT.num a hDa
      refine (move_new m w hm rb co a (1 + ln us a) (by rw [hm.ol]; omega) (by rw [hm.nl]; omega) hal c0 c1 cf (by rw [hod]; exact hnum.1) (by rw [hod]; unfold ln; omega) (by rw [hod]; exact hnum.2) (.inl n2) n1 n3 n4 n5).mono ?_
      rintro e w' ⟨rfl, hb⟩
      have hcl : ((m.od.drop a).take (1 + ln us a)).length = 1 + ln us a := by simp [hm.ol]; omega
      have q2 : m.hb ≠ m.nb := blk_ne hm.h hm.n (by decide)
      refine ⟨rfl, [a], _, _, _, new_at hm hal _ hcl (by rw [hm.nl]; omega) n1 n3 n4 n5 hb (spl m.nw m.nx ((m.od.drop a).take (1 + ln us a))) (by rw [spl_len]; exact hm.nl) ?_, g1, new_keeps _ hb, ?_, fun _ => ⟨a, by simp, hna⟩⟩
      · exact ((((Cells.sets _ _ hm.n (by rw [hcl, hm.nl]; omega)).set_ne (fun e => hm.ne e.symm) _ _).set_ne (fun e => hm.ne e.symm) _ _).set_ne (fun e => n2 e.symm) _ _).set_ne (fun e => q2 e.symm) _ _
      · have e1 : (ph us (A ++ [a]) x).n = m.nx := by unfold ph; rw [hp, if_pos rfl, hna, Int.toNat_natCast, g4]
        rw [e1]
        refine blk_below ?_ hb lr
        have h0 : (w.setCells m.nb (m.nx * 2) (cv ((m.od.drop a).take (1 + ln us a)))).heap[rb]? = some (.cells cur 49 (0, 0)) := by rw [heap_setCells_ne _ _ _ _ n2]; exact hc
        exact blk_set_ne (blk_set (blk_set_ne (blk_set_ne h0 n1 _ _) n1 _ _) _ _) n3 _ _
theorem move_field (hT : Things us D nx0) (hr : ∀ c ∈ roots, c.p = true → ∃ a : Nat, D a ∧ c.n = a) {m : Mv} {w : World} (hm : MvAt w m) (h0 : nx0 ≤ m.sz) {A : List Nat} {s : Nat} (hA : MSt us roots D A m.sz s m.od m.nw m.nx) {a0 j : Nat} (ha0 : a0 ∈ A) (hj : j < ln us a0) (hs : s = off us A a0 + 1 + j) :
    Calls Try.prog 22 #[.pointer (some ⟨m.nb, s * 2, none⟩), .pointer (some ⟨m.x1, 0, none⟩), .pointer (some ⟨m.x2, 0, none⟩)] w fun e w' => e = .returned (.tuple #[]) ∧ ∃ A2 od nw nx, MvAt w' (mvTo m od nw nx) ∧ MSt us roots D (A ++ A2) m.sz (s + 1) od nw nx ∧ Keeps (MS m m.nb) w w' := by
  have hlt := off_lt (us := us) ha0
  have hnxs : m.nx ≤ m.sz := by rw [hA.nx]; exact Nat.le_trans (T_room hT hA.nd (fun a h => rch_in hT hr (hA.sub a h))) h0
  have hsn : s < m.nx := by have := hA.nx; omega
  have hsl : s < m.nw.length := by rw [hm.nl]; omega
  have n1 : m.nb ≠ m.ob := fun e => hm.ne e.symm
  have n3 : m.nb ≠ m.hb := blk_ne hm.n hm.h (by decide)
  have n4 : m.nb ≠ m.x1 := blk_ne hm.n hm.b1 (by decide)
  have n5 : m.nb ≠ m.x2 := blk_ne hm.n hm.b2 (by decide)
  obtain ⟨x, hxe⟩ : ∃ x, x = gt us (a0 + 1 + j) := ⟨_, rfl⟩
  have hxs : m.nw[s] = x := by
    have h1 := hA.fd a0 ha0 j hj
    rw [← hs, if_neg (Nat.lt_irrefl _), ← gt_get hsl] at h1
    rw [h1, hxe]
  have c0 := hm.n.get0 hsl
  have c1 := hm.n.get1 hsl
  rw [hxs] at c0 c1
  have cf : w.frozen? ⟨m.nb, s * 2 + 1, none⟩ = false := hm.n.free _
  have fin : ∀ {A2 : List Nat} {od nw : List C} {nx : Nat}, nx ≤ m.sz → MSt us roots D (A ++ A2) m.sz s od nw nx → (x.p = true → ∃ a ∈ A ++ A2, x.n = ((a : Nat) : Int)) → MSt us roots D (A ++ A2) m.sz (s + 1) od (nw.set s (ph us (A ++ A2) x)) nx := by
    intro A2 od nw nx hnx h hp
    rw [hxe] at hp ⊢
    exact mst_field h hnx (by simp [ha0]) hj (by rw [off_app A2 ha0]; exact hs) hp
  cases hp : x.p with
  | false =>
    rw [hp] at c0
    refine (move_num m w hm m.nb (s * 2) x.n c0).mono ?_
    rintro e w' ⟨rfl, rfl⟩
    have h1 := fin (A2 := []) hnxs (by rw [List.append_nil]; exact hA) (fun h => by rw [hp] at h; cases h)
    have e1 : m.nw.set s (ph us (A ++ []) x) = m.nw := by
      have : ph us (A ++ []) x = m.nw[s] := by rw [hxs]; unfold ph; rw [hp]; rfl
      rw [this, List.set_getElem_self]
    rw [e1] at h1
    exact ⟨rfl, [], m.od, m.nw, m.nx, hm, h1, Keeps.refl _ _⟩
  | true =>
    rw [hp] at c0
    have hra0 := hA.sub a0 ha0
    obtain ⟨a, hDa, hna⟩ := hT.clo a0 (rch_in hT hr hra0) j hj (by rw [← hxe]; exact hp)
    rw [← hxe] at hna
    rw [hna] at c1
    have hra : Rch us roots a := .fld hra0 hj (by rw [← hxe]; exact hp) (by rw [← hxe]; exact hna)
    have hfit := hT.fit a hDa
    have hal : a < m.od.length := by rw [hm.ol]; omega
    by_cases hmem : a ∈ A
    · have hg : gt m.od a = ⟨true, off us A a⟩ := by rw [hA.od a (by omega), if_pos hmem]
      rw [← gt_get hal] at hg
      refine (move_old m w hm m.nb (s * 2) a hal c0 c1 cf (by rw [hg])).mono ?_
      rintro e w' ⟨rfl, hb⟩
      rw [hg] at hb
      have h1 := fin (A2 := []) hnxs (by rw [List.append_nil]; exact hA) (fun _ => ⟨a, by simpa using hmem, hna⟩)
      have h2 := hm.set_nb hsl hb
      have e1 : (⟨m.nw[s].p, ((off us A a : Nat) : Int)⟩ : C) = ph us (A ++ []) x := by unfold ph; rw [hxs, hp, List.append_nil, if_pos rfl, hna, Int.toNat_natCast]
      rw [e1] at h2
      exact ⟨rfl, [], _, _, _, h2, h1, Keeps.of_chain ((Keeps.refl (MS m m.nb) w).set (.inl (.inr (.inl rfl))) _ _) (by simp [World.setCell]) hb⟩
    · obtain ⟨g1, g2, g3, g4, g5⟩ := mst_new hT h0 hr hA hra hmem (Nat.le_of_lt hsn)
      have hod := gt_get hal
      rw [g5] at hod
      have hnum := hT.num a hDa
      refine (move_new m w hm m.nb (s * 2) a (1 + ln us a) (by rw [hm.ol]; omega) (by rw [hm.nl]; omega) hal c0 c1 cf (by rw [hod]; exact hnum.1) (by rw [hod]; unfold ln; omega) (by rw [hod]; exact hnum.2) (.inr (by omega)) n1 n3 n4 n5).mono ?_
      rintro e w' ⟨rfl, hb⟩
      have hcl : ((m.od.drop a).take (1 + ln us a)).length = 1 + ln us a := by simp [hm.ol]; omega
      have h1 := fin (A2 := [a]) g2 g1 (fun _ => ⟨a, by simp, hna⟩)
      have hspl : s < (spl m.nw m.nx ((m.od.drop a).take (1 + ln us a))).length := by rw [spl_len]; exact hsl
      have hsx : (spl m.nw m.nx ((m.od.drop a).take (1 + ln us a)))[s].p = true := by
        rw [gt_get hspl, gt_spl _ _ _ (by rw [hcl, hm.nl]; omega), if_neg (by omega), ← gt_get hsl, hxs]; exact hp
      refine ⟨rfl, [a], _, _, _, new_at hm hal _ hcl (by rw [hm.nl]; omega) n1 n3 n4 n5 hb _ (by rw [List.length_set, spl_len]; exact hm.nl) ?_, h1, new_keeps _ hb⟩
      have hc1 := ((Cells.sets ((m.od.drop a).take (1 + ln us a)) m.nx hm.n (by rw [hcl, hm.nl]; omega)).set_ne n1 (a * 2) (.bool true)).set_ne n1 (a * 2 + 1) (.int .i64 m.nx)
      have hc2 := (hc1.set1 hspl m.nx).set_ne n3 2 (.int .i64 ((m.nx + (1 + ln us a) : Nat) : Int))
      have e1 : (⟨(spl m.nw m.nx ((m.od.drop a).take (1 + ln us a)))[s].p, (m.nx : Int)⟩ : C) = ph us (A ++ [a]) x := by unfold ph; rw [hsx, hp, if_pos rfl, hna, Int.toNat_natCast, g4]
      rw [e1] at hc2
      exact hc2
end
end Go.Proofs.Ytidjfmkclabagaa
