/-
  Proved: what is replaced fits a machine; what stands when a list of numbers grows. No condition.
-/
import Derived.Test.YtdeomphilggokaaT5
import Derived.Test.YtdeomphilggokaaU7
import Derived.Test.YtdeomphilggokaaX1
import Derived.Deep.AppendLies
set_option linter.unusedSimpArgs false
set_option linter.unusedVariables false
namespace Go.Proofs.Ytdeomphilggokaa
open Go.RowKit

theorem fits_mk {t : Ty} {l : List Ty} (h : Fits t) (hl : l.length = t.args.length) (hf : FitsL l) : Fits (.mk t.k t.n t.s t.q l) := by
  cases t with
  | mk k n s q args =>
    unfold Fits at h ⊢
    exact ⟨h.1, by rw [hl]; exact h.2.1, hf⟩
theorem fitsL_of : ∀ {l : List Ty}, (∀ x ∈ l, Fits x) → FitsL l
  | [], _ => by unfold FitsL; trivial
  | p :: ps, h => by unfold FitsL; exact ⟨h p (by simp), fitsL_of fun x hx => h x (by simp [hx])⟩
theorem fits_var (e : Int → Bool) {n : Int} (hn : I64 n) : Fits (varT e n) := by
  unfold varT Fits
  refine ⟨⟨by unfold I64; omega, hn, by decide, ?_⟩, by simp, by unfold FitsL; trivial⟩
  unfold I64
  split <;> omega
theorem fits_bare {n : Int} (hn : I64 n) : Fits (bareT n) := by
  unfold bareT Fits
  exact ⟨⟨by unfold I64; omega, hn, by decide, by unfold I64; omega⟩, by simp, by unfold FitsL; trivial⟩
theorem expand_fits {σ : Bnd} (hb : ∀ n x, σ n = some x → Fits x) : ∀ {f : Nat} {t T : Ty}, expand σ f t = some T → Fits t → Fits T
  | 0, t, T, h, _ => by simp [expand] at h
  | f + 1, t, T, h, ht => by
    by_cases hk : t.k = 0
    · cases hn : σ t.n with
      | none =>
        rw [expand_free hk hn] at h
        rw [← Option.some.inj h]
        exact fits_bare ht.n
      | some x =>
        rw [expand_bound hk hn] at h
        exact expand_fits hb h (hb _ _ hn)
    · rw [expand_con hk] at h
      obtain ⟨l, h1, h2⟩ := Option.map_eq_some_iff.1 h
      subst h2
      refine fits_mk ht (allO_len h1) (fitsL_of fun y hy => ?_)
      obtain ⟨x, hx, e⟩ := allO_mem h1 hy
      exact expand_fits hb e (ht.args.get hx)
mutual
theorem mark_fits (e : Int → Bool) : ∀ (t : Ty), Fits t → Fits (markT e t)
  | .mk k n s q args, h => by
    rw [markT]
    split
    · exact fits_var e h.n
    · unfold Fits at h ⊢
      exact ⟨h.1, by rw [markL_map, List.length_map]; exact h.2.1, markL_fits e args h.2.2⟩
theorem markL_fits (e : Int → Bool) : ∀ (l : List Ty), FitsL l → FitsL (markL e l)
  | [], _ => by rw [markL]; unfold FitsL; trivial
  | p :: ps, h => by
    unfold FitsL at h
    rw [markL]
    unfold FitsL
    exact ⟨mark_fits e p h.1, markL_fits e ps h.2⟩
end
theorem full_fits {V : List Int} {s : St} (hs : StOk V s) {t : Ty} (ht : Fits t) : Fits (markT s.e (exT s.b t)) := by
  obtain ⟨T, f, hT⟩ := hs.total t
  rw [exT_eq ⟨f, hT⟩]
  exact mark_fits _ _ (expand_fits (fun n x hx => (hs.wf n x hx).2.fits) hT ht)
theorem bare_wf {V : List Int} {s : St} {n : Int} (hn : n ∈ V) (hi : I64 n) : Wf V s.e (bareT n) := by
  refine ⟨fits_bare hi, ?_, fun m hm => ?_, fun m hm => ?_⟩
  · have hnil : (⟨#[]⟩ : ByteArray).toList = [] := by simp
    unfold bareT
    rw [shapedD, shapedL, Bool.and_true, okT, if_pos (show (Ty.mk 0 n ⟨#[]⟩ 0 []).k = 0 from rfl)]
    exact decide_eq_true ⟨rfl, hnil, .inl rfl⟩
  · unfold bareT at hm
    rw [qoD, if_pos rfl, if_neg (by decide)] at hm
    cases hm
  · unfold bareT at hm
    rw [occD, if_pos rfl, List.mem_singleton] at hm
    rw [hm]; exact hn
/-- the reference's maps stand while a list of numbers grows -/
theorem RU.grow {B : Nat} {w w' : World} {sb mb me : Nat} {V : List Int} {D : Nat → Prop} {st : St} (h : RU B w sb mb me V D st) {row : Option Nat} (hg : w.grownBy w' row) (hrow : ∀ g, row = some g → B ≤ g ∧ ∃ c f, w.heap[g]? = some (.cells c 3 f)) (hD : ∀ b, D b → b < B) (hB : B ≤ w.heap.size) : RU B w' sb mb me V D st := by
  obtain ⟨ks, bt, h1, h2, h3, h4, h5⟩ := h.by'
  obtain ⟨ke, g1, g2⟩ := h.eq
  have hs : w'.heap[sb]? = w.heap[sb]? := hg.block sb (lt_of_block h.s) (fun e => by
    obtain ⟨_, c, f, hc⟩ := hrow sb e.symm
    have h' := h.s
    rw [hc] at h'
    cases h')
  have hmp : ∀ (m : Nat) (xs : List Int) (f : Int → Option Value), MapX w m xs f → w'.heap[m]? = w.heap[m]? := fun m xs f hm => hg.block m hm.lt (fun e => by
    obtain ⟨_, c, f', hc⟩ := hrow m e.symm
    obtain ⟨es, clock, hmm⟩ := hm.f.isMap
    rw [hc] at hmm
    cases hmm)
  have hbel : ∀ b, D b → ∀ off, w'.cell? ⟨b, off, none⟩ = w.cell? ⟨b, off, none⟩ := fun b hb off => World.cell?_of_block (hg.block b (Nat.lt_of_lt_of_le (hD b hb) hB) (fun e => by
    have := (hrow b e.symm).1
    have := hD b hb
    omega))
  exact ⟨hs.trans h.s, ⟨ks, bt, h1.of_same (hmp _ _ _ h1), h2, h3, h4, fun k => ⟨(h5 k).1, fun x hx => ((h5 k).2 x hx).keep hbel⟩⟩, ⟨ke, g1.of_same (hmp _ _ _ g1), g2⟩, h.low, h.vs, h.i64⟩
/-- what a list of numbers has grown in -/
theorem ownI_row {B : Nat} {w : World} {v : Value} {xs : List Int} (h : OwnI B w v xs) {N : Nat} (hN : ∀ g, v.ownBlock = some g → N ≤ g) : ∀ g, v.ownBlock = some g → N ≤ g ∧ ∃ c f, w.heap[g]? = some (.cells c 3 f) := fun g hg => ⟨hN g hg, own_row h g hg⟩
theorem PairsV.below {w w' : World} {D : Nat → Prop} {l : List (Ty × Ty)} {ao : Option Addr} {B : Nat} (h : PairsV w D l ao) (hD : ∀ b, D b → b < B) (hb : Below B w w') : PairsV w' D l ao := h.keep (cells_D hD hb)
theorem OwnB.mono {B : Nat} {w : World} {D D' : Nat → Prop} {v : Value} {bs : List Bd} (h : OwnB B w D v bs) (hD : ∀ b, D b → D' b) : OwnB B w D' v bs := ⟨h.own, fun b hb => (h.sl b hb).mono hD⟩
/-- what a Solve leaves -/
structure SolveP (w : World) (r : List (Int × Ty) × Int × Nat) (v : Value) (w' : World) : Prop where
  out : ∃ (D : Nat → Prop) (bs : List Bd), bs.map Bd.pair = r.1 ∧ OwnB 0 w' D v bs ∧ (∀ b, D b → w.heap.size ≤ b ∧ b < w'.heap.size) ∧ (∀ b ∈ bs, Fits b.t) ∧ Below w.heap.size w w'
theorem SolveP.nil {w w' : World} {r : List (Int × Ty) × Int × Nat} (hr : r.1 = []) (hb : Below w.heap.size w w') : SolveP w r (.slice none 0 0) w' :=
  ⟨fun _ => False, [], by rw [hr]; rfl, OwnB.nil _ _ _, fun _ h => h.elim, fun _ h => (by cases h), hb⟩
/- Proved: a row of binds grown by one whose type lies in new blocks. No condition. -/

theorem out_grown {S : Nat} {wo Z A w1 : World} {Dq Dx : Nat → Prop} {v : Value} {bs : List Bd} {bd : Bd} {g cp : Nat} (ho : OwnB S wo Dq v bs) (hDq : ∀ b, Dq b → S ≤ b ∧ b < wo.heap.size ∧ v.ownBlock ≠ some b) (hS : S ≤ wo.heap.size)
    (hb : Below wo.heap.size wo Z) (hx : SlD Z Dx bd.t.args bd.ao bd.cap) (hDx : ∀ b, Dx b → wo.heap.size ≤ b ∧ b < Z.heap.size) (hA : Below Z.heap.size Z A) (hsA : A.heap.size = Z.heap.size + 1)
    (hown1 : w1.ownsRow S 35 6 (.slice (some ⟨g, 0, none⟩) (bs.length + 1) cp) (bs.length + 1) (bcells bs ++ bd.cells)) (hgr : A.grownBy w1 v.ownBlock) (hat : v.ownBlock = some g ∨ g = Z.heap.size + 1) :
    OwnB S w1 (fun b => Dq b ∨ Dx b) (.slice (some ⟨g, 0, none⟩) (bs.length + 1) cp) (bs ++ [bd]) ∧ (∀ b, (Dq b ∨ Dx b) → S ≤ b ∧ b < w1.heap.size ∧ (Value.slice (some ⟨g, 0, none⟩) (bs.length + 1) cp).ownBlock ≠ some b) ∧ Below S wo w1 := by
  have hbA : Below wo.heap.size wo A := bthen hb hA
  have hold : ∀ q, v.ownBlock = some q → S ≤ q ∧ q < wo.heap.size := fun q hq => ho.own.lt q hq
  have hc9 : ∀ b, b < A.heap.size → v.ownBlock ≠ some b → ∀ off, w1.cell? ⟨b, off, none⟩ = A.cell? ⟨b, off, none⟩ := fun b hb hne off => World.cell?_of_block (hgr.block b hb (fun e => hne e.symm))
  have hs1 := hb.size
  refine ⟨⟨?_, fun b hb' => ?_⟩, fun b hb' => ?_, (hbA.mono hS).trans (grew_none hgr (by omega) (fun q hq => (hold q hq).1))⟩
  · rw [List.length_append, bcells_append]
    have e : bcells [bd] = bd.cells := by rw [bcells, bcells, List.append_nil]
    rw [e]
    exact hown1
  · rcases List.mem_append.1 hb' with hb' | hb'
    · refine ((ho.sl b hb').keep fun d hd off => ?_).mono fun b h => .inl h
      have h1 := hDq d hd
      rw [hc9 d (Nat.lt_of_lt_of_le h1.2.1 hbA.size) h1.2.2 off]
      exact below_cells hbA d h1.2.1 off
    · rw [List.mem_singleton] at hb'
      subst hb'
      refine (hx.keep fun d hd off => ?_).mono fun b h => .inr h
      have h1 := hDx d hd
      rw [hc9 d (by omega) (fun e => by have := (hold d e).2; omega) off]
      exact below_cells hA d h1.2 off
  · have hb9 : S ≤ b ∧ b < Z.heap.size ∧ v.ownBlock ≠ some b := by
      rcases hb' with hb' | hb'
      · exact ⟨(hDq b hb').1, Nat.lt_of_lt_of_le (hDq b hb').2.1 hs1, (hDq b hb').2.2⟩
      · have h1 := hDx b hb'
        exact ⟨by omega, h1.2, fun e => by have := (hold b e).2; omega⟩
    have h2 := hgr.size
    refine ⟨hb9.1, by omega, fun e => ?_⟩
    have h3 : (Value.slice (some ⟨g, 0, none⟩) (bs.length + 1) cp).ownBlock = some g := by simp [Value.ownBlock]
    rw [h3] at e
    have h4 : g = b := Option.some.inj e
    rcases hat with h | h
    · rw [h4] at h; exact hb9.2.2 h
    · omega
theorem outT_step {s : St} {N : Nat} {ns : List Int} {j : Nat} {n : Int} {acc : List (Int × Ty)} (h : ns[j]? = some n) : outT s N (ns.drop j) acc = if 400 < parts (exT s.b (bareT n)) then ([], 12, N) else outT s N (ns.drop (j + 1)) (acc ++ [(n, markT s.e (exT s.b (bareT n)))]) := by
  obtain ⟨h1, rfl⟩ := List.getElem?_eq_some_iff.1 h
  rw [← List.getElem_cons_drop (h := h1), outT]
end Go.Proofs.Ytdeomphilggokaa
