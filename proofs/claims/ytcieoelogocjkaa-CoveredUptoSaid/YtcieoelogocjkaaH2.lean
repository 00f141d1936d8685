/-
  Proved: 'm[k]++' on a map of the call's own, in its two steps: the entry, then the store into it. No condition.
-/
import Derived.Test.YtcieoelogocjkaaH1
set_option linter.unusedSimpArgs false
set_option linter.unusedVariables false
namespace Go.Proofs.Ytcieoelogocjkaa
open Go.RowKit Go.Maps Go.MapKept Go.WideElems
open Go.ChangeMaps (setBlock)

theorem setBlock_at {w : World} {b : Nat} {o o' : Obj} (h : w.heap[b]? = some o) : (setBlock w b o').heap[b]? = some o' := by
  have hlt := (Array.getElem?_eq_some_iff.1 h).1
  simp [setBlock, hlt]
theorem setBlock_two (w : World) (b : Nat) (o o' : Obj) : setBlock (setBlock w b o) b o' = setBlock w b o' := by
  simp [setBlock]
theorem born_index {es : Array MapEntry} {clock j : Nat} {e0 : MapEntry} (h : Stamped es clock) (hj : es[j]? = some e0) (f : MapEntry → MapEntry) (hf : ∀ e, (f e).born = e.born) :
    (es.modify j f).findIdx? (fun e => (e.born : Int) == (e0.born : Int)) = some j := by
  have hjl := (Array.getElem?_eq_some_iff.1 hj).1
  have hje := (Array.getElem?_eq_some_iff.1 hj).2
  have hnd := h.2.1
  rw [Array.findIdx?_eq_some_iff_getElem]
  refine ⟨by simpa using hjl, ?_, ?_⟩
  · rw [Array.getElem_modify_self, hf, hje]
    simp
  · intro i hij
    have hil : i < es.size := Nat.lt_trans hij hjl
    rw [Array.getElem_modify_of_ne (by omega)]
    intro hc
    have hb : es[i].born = es[j].born := by
      rw [hje]
      have := beq_iff_eq.1 hc
      omega
    have hi2 : i < (es.toList.map (·.born)).length := by simpa using hil
    have hj2 : j < (es.toList.map (·.born)).length := by simpa using hjl
    exact (List.pairwise_iff_getElem.1 hnd i j hi2 hj2 hij) (by simpa using hb)
theorem born_push {es : Array MapEntry} {clock : Nat} (h : Stamped es clock) (key val : Value) :
    (es.push { key, val, born := clock }).findIdx? (fun e => (e.born : Int) == (clock : Int)) = some es.size := by
  rw [Array.findIdx?_eq_some_iff_getElem]
  refine ⟨by simp, by simp, ?_⟩
  intro i hi
  rw [Array.getElem_push_lt hi]
  have := h.1 es[i] (Array.getElem_mem_toList hi)
  intro hc
  have := beq_iff_eq.1 hc
  omega
theorem modify_two {es : Array MapEntry} (j : Nat) (f g : MapEntry → MapEntry) : (es.modify j f).modify j g = es.modify j (fun e => g (f e)) := by
  apply Array.ext_getElem?
  intro i
  simp only [Array.getElem?_modify]
  by_cases h : j = i
  · simp [h, Option.map_map, Function.comp_def]
  · simp [h]
theorem modify_push {es : Array MapEntry} (x : MapEntry) (g : MapEntry → MapEntry) : (es.push x).modify es.size g = es.push (g x) := by
  apply Array.ext_getElem?
  intro i
  simp only [Array.getElem?_modify, Array.getElem?_push]
  by_cases h : es.size = i
  · subst h; simp
  · simp only [if_neg h]
    rw [if_neg (fun e => h e.symm)]
    simp [Ne.symm h]
theorem modify_same {es : Array MapEntry} {j : Nat} {e0 : MapEntry} (hj : es[j]? = some e0) (f g : MapEntry → MapEntry) (h : f e0 = g e0) : es.modify j f = es.modify j g := by
  apply Array.ext_getElem?
  intro i
  simp only [Array.getElem?_modify]
  by_cases e : j = i
  · subst e; simp [hj, h]
  · simp [e]

theorem asInt_i64 {P : Program} (z : Int) (W : World) : (asInt (.int .i64 z)).run P W = .ok z W := rfl
theorem ok_inj {α : Type} {v v' : α} {w w' : World} (h : (Result.ok v w : Result α) = .ok v' w') : w = w' := by cases h; rfl
theorem entry_own {H : Type} {P : Program} {k t e : TypeId} {q : IntKind} {w : World} {b n : Nat} {D : DataW H} (hown : w.ownsMap P k (plainElem P e) b n D) (K : Keyed P k) (ht : P.underlying t = some (.map k e)) (he : P.underlying e = some (.int q))
    (hz : ∀ w, (zeroValue e).run P w = .ok (.int q 0) w) (hn : n < maxLen) {key : Value} {kl : Lit} (hkey : keyOf P k key = some kl) :
    ∃ (c : Int) (st : Nat) (w2 : World), (Instr.lookup t (.map (some b)) key false).run P w = .ok (.int q c) w ∧ D.atKey kl (.lit (.int q 0)) = .lit (.int q c) ∧ (Lit.int q c).wf = true ∧
      (Instr.mapEntry t (.map (some b)) key).run P w = .ok (.tuple #[.int q c, .int .i64 st]) w2 ∧ w2.ownsMap P k (plainElem P e) b (n + 1) (D.put kl (.lit (.int q c))) ∧ w.grownBy w2 (some b) ∧
      (Instr.lookup t (.map (some b)) key false).run P w2 = .ok (.int q c) w2 ∧
      ∀ x : Int, (Lit.int q x).wf = true → ∃ w4, (Instr.entryStore t (.map (some b)) (.int .i64 st) (.int q x)).run P w2 = .ok () w4 ∧ w4.ownsMap P k (plainElem P e) b (n + 1) (D.put kl (.lit (.int q x))) ∧ w.grownBy w4 (some b) := by
  obtain ⟨c, hrun, hat, hwc⟩ := hown.lookup_int K ht he (hz w) hkey
  obtain ⟨w2, hu2, ho2, hg2⟩ := hown.update K ht hn hkey (plainElem_int he hwc)
  have hlk2 : (Instr.lookup t (.map (some b)) key false).run P w2 = .ok (.int q c) w2 := by
    obtain ⟨c', hrun', hat', _⟩ := ho2.lookup_int K ht he (hz w2) hkey
    rw [atKey_put_same hown.isMap (K.key hkey)] at hat'
    cases hat'
    exact hrun'
  have hup := fun (x : Int) (hx : (Lit.int q x).wf = true) => hown.update K ht hn hkey (plainElem_int he hx)
  obtain ⟨es, clock, hb, F, hs, _⟩ := hown
  have hset := fun (o : Obj) => MapKept.run_setObj_map (P := P) o hb
  rcases K.find w hkey es.toList F.keys with ⟨h1, h2⟩ | ⟨j, e0, h1, h2, h3⟩
  · have hc : c = 0 := by
      have h := hrun
      simp [Instr.lookup, run_underlying ht, MapKept.run_getObj_map hb, K.check w, h1, hz, Result.andThen, hkey] at h
      exact h.symm
    subst hc
    have hm : ∀ val, (Instr.mapUpdate t (.map (some b)) key val).run P w = .ok () (setBlock w b (.map (es.push ⟨key, val, clock⟩) (clock + 1))) := by
      intro val
      simp [Instr.mapUpdate, run_underlying ht, MapKept.run_getObj_map hb, K.check w false hkey, h1, MapKept.run_setObj_map _ hb, Result.andThen, setBlock]
    rw [hm] at hu2
    have e2 := ok_inj hu2
    refine ⟨0, clock, w2, hrun, hat, hwc, ?_, ho2, hg2, hlk2, fun x hx => ?_⟩
    · rw [← e2]
      simp [Instr.mapEntry, run_underlying ht, MapKept.run_getObj_map hb, K.check w false hkey, h1, hz, MapKept.run_setObj_map _ hb, Result.andThen, setBlock, goInt]
    · obtain ⟨w4, hu4, ho4, hg4⟩ := hup x hx
      rw [hm] at hu4
      have e4 := ok_inj hu4
      refine ⟨w4, ?_, ho4, hg4⟩
      rw [← e4, ← e2]
      have hb2 := setBlock_at (o' := .map (es.push ⟨key, .int q 0, clock⟩) (clock + 1)) hb
      simp [Instr.entryStore, MapKept.run_getObj_map hb2, asInt_i64, born_push F.stamped, MapKept.run_setObj_map _ hb2, Result.andThen, modify_push]
      simp [setBlock]
  · have hj : es[j]? = some e0 := by simpa using h2
    have hc : e0.val = .int q c := by
      have h := hrun
      simp [Instr.lookup, run_underlying ht, MapKept.run_getObj_map hb, K.check w, h1, hz, Result.andThen, hkey] at h
      exact h
    have hm : ∀ val, (Instr.mapUpdate t (.map (some b)) key val).run P w = .ok () (setBlock w b (.map (es.modify j fun e' => { e' with key := key, val := val }) clock)) := by
      intro val
      simp [Instr.mapUpdate, run_underlying ht, MapKept.run_getObj_map hb, K.check w false hkey, h1, hj, h3, K.stays w hkey, MapKept.run_setObj_map _ hb, Result.andThen, setBlock]
    rw [hm] at hu2
    have e2 := ok_inj hu2
    have ec : (es.modify j fun e' => { e' with key := key, val := .int q c }) = es.modify j fun e' => { e' with key := key } := modify_same hj _ _ (by rw [← hc])
    refine ⟨c, e0.born, w2, hrun, hat, hwc, ?_, ho2, hg2, hlk2, fun x hx => ?_⟩
    · rw [← e2, ec]
      simp [Instr.mapEntry, run_underlying ht, MapKept.run_getObj_map hb, K.check w false hkey, h1, hj, h3, K.stays w hkey, hz, MapKept.run_setObj_map _ hb, Result.andThen, setBlock, goInt, hc]
    · obtain ⟨w4, hu4, ho4, hg4⟩ := hup x hx
      rw [hm] at hu4
      have e4 := ok_inj hu4
      refine ⟨w4, ?_, ho4, hg4⟩
      rw [← e4, ← e2, ec]
      have hb2 := setBlock_at (o' := .map (es.modify j fun e' => { e' with key := key }) clock) hb
      have hbi := born_index F.stamped hj (fun e' => { e' with key := key }) (fun _ => rfl)
      simp [Instr.entryStore, MapKept.run_getObj_map hb2, asInt_i64, hbi, MapKept.run_setObj_map _ hb2, Result.andThen, modify_two]
      simp [setBlock]
end Go.Proofs.Ytcieoelogocjkaa
