/-
  Proved: the contract of the document's Add. Condition: the map is made.
-/
import Derived.Test.YtidjfmkclabagaaB2
import Derived.WalkSpells
set_option linter.unusedSimpArgs false
set_option linter.unusedVariables false
namespace Go.Proofs.Ytidjfmkclabagaa
open Go.RowKit

/-- one thing more -/
def addL (L : LMap) (n : Nat) (x : Th) : LMap := fun j => if j = n then some x else L j
theorem fL_addL (L : LMap) (n : Nat) (x : Th) (k : Int) : fL (addL L n x) k = if k = (n : Int) then some (.agg (trow x)) else fL L k := by
  unfold fL addL
  by_cases hk : 0 ≤ k
  · rw [if_pos hk, if_pos hk]
    by_cases e : k = (n : Int)
    · subst e
      rw [if_pos rfl, Int.toNat_natCast, if_pos rfl]; rfl
    · rw [if_neg e, if_neg (by omega)]
  · rw [if_neg hk, if_neg hk, if_neg (by omega)]
inductive AddPost (r : Rf) (mb : Nat) (x : Th) (w : World) (e : Ending) (w' : World) : Prop
  | mk : e = .returned (.int .i64 r.nx) → RfAt w' { r with nx := r.nx + 1, cnt := r.cnt + 1, L := addL r.L r.nx x } → Keeps (fun b => b = r.rb ∨ b = mb) w w' → AddPost r mb x w e w'
set_option maxRecDepth 100000 in
set_option maxHeartbeats 8000000 in
theorem add_any (r : Rf) (mb : Nat) (w : World) (hr : RfAt w r) (hm : r.mb = some mb) (hnx : r.nx + 1 ≤ 100000000000000) (k t : Int) (b : Nat) (l : List C) (hl : Cells w b l) (hb : ∀ j x, r.L j = some x → x.b ≠ b) :
    Calls Try.prog 24 #[.pointer (some ⟨r.rb, 0, none⟩), .int .i64 k, .int .i64 t, .slice (some ⟨b, 0, none⟩) l.length l.length] w (AddPost r mb ⟨k, t, b, l⟩ w) := by
  have HR := Lib.hid hr
  have HB := Lib.hid hb
  have HL := Lib.hid hl
  obtain ⟨n, hn⟩ : ∃ n, n = l.length := ⟨_, rfl⟩
  rw [← hn]
  have HN := Lib.hid hn
  have hmap : MapF w mb r.cnt (fL r.L) := hr.m mb hm
  have hne : r.rb ≠ mb := map_ne hmap hr.h
  have c1 : w.cell? ⟨r.rb, 1, none⟩ = some (.map (some mb)) := by have h := blk_cell hr.h 1; rw [h]; show some (Value.map r.mb) = _; rw [hm]
  have c2 : w.cell? ⟨r.rb, 2, none⟩ = some (.int .i64 r.nx) := blk_cell hr.h 2
  have HM := Lib.hid hm
  have hcnt := hr.cnt
  have hmapd : MapF w.drew mb r.cnt (fL r.L) := hmap.of_same rfl
  have hI : I64 (r.nx : Int) := by unfold I64; omega
  obtain ⟨w9, hst9, hmap9, hg9⟩ := hmapd.store Try.underlying29 (by unfold maxLen; omega) hI (.agg (trow ⟨k, t, b, l⟩))
  obtain ⟨rn, hrn⟩ : ∃ rn, rn = r.nx := ⟨_, rfl⟩
  rw [← hrn] at c2 hst9 hI hnx hcnt
  have HRN := Lib.hid hrn
  have hst : (Instr.mapUpdate 29 (.map (some mb)) (.int .i64 (rn : Int)) (.agg #[.int .i64 k, .int .i64 t, .slice (some ⟨b, 0, none⟩) n n])).run Try.prog w.drew = .ok () w9 := by rw [hn]; exact hst9
  have HMAP9 := Lib.hid hmap9
  have HG9 := Lib.hid hg9
  clear hr hb hl hn hmap hm hmapd hst9 hmap9 hg9 hrn
  have qT : ∀ w' : World, (binOp .eql 29 (.map (some mb)) (.map none)).run Try.prog w' = .ok (.bool false) w' := fun w' => run_eql_map_nil w' _ _ _ (some mb) Try.underlying29
  go_enter Try.func24, Try.ntmps24
  go_upto_region 3 with fail
  go_region
  have hh9 : w9.heap[r.rb]? = some (.cells (rrow r) 31 (0, 0)) := (HG9.out.block _ HR.out.lh (fun e => hne (Option.some.inj e))).trans HR.out.h
  have c2 : w9.cell? ⟨r.rb, 2, none⟩ = some (.int .i64 rn) := by rw [HRN.out]; exact blk_cell hh9 2
  have f2 : w9.frozen? ⟨r.rb, 2, none⟩ = false := blk_free hh9 2
  have HH9 := Lib.hid hh9
  clear hh9 hst
  go_wp2_with fail
  go_ret
  have e1 : w9.setCell ⟨r.rb, 2, none⟩ (.int .i64 ((rn : Int) + 1)) = w9.setCell ⟨r.rb, 2, none⟩ (.int .i64 ((rn + 1 : Nat) : Int)) := by go_num
  have hkeep : Keeps (fun b => b = r.rb ∨ b = mb) w (w9.setCell ⟨r.rb, 2, none⟩ (.int .i64 ((rn + 1 : Nat) : Int))) := by
    have h0 : Keeps (fun b => b = r.rb ∨ b = mb) w w.drew := (Keeps.refl _ _).drew 1
    exact (h0.grown HG9.out (fun g e => .inl (.inr (Option.some.inj e).symm))).set (.inl (.inl rfl)) _ _
  have hcell : ∀ (b' : Nat) (l' : List C), Cells w b' l' → Cells (w9.setCell ⟨r.rb, 2, none⟩ (.int .i64 ((rn + 1 : Nat) : Int))) b' l' := by
    intro b' l' h
    refine hkeep.blk h ?_
    rintro (e | e)
    · exact blk_ne h HR.out.h (by decide) e
    · have hm2 := HR.out.m mb HM.out
      exact map_ne hm2 h e
  rw [e1]
  refine .mk (by rw [← HRN.out]; go_num) ⟨?_, ?_, ?_, ?_, ?_, ?_, ?_, ?_⟩ hkeep
  · have h := blk_set HH9.out 2 (.int .i64 ((rn + 1 : Nat) : Int))
    rw [← HRN.out]
    exact h
  · intro b' hb'
    have e : mb = b' := Option.some.inj (HM.out.symm.trans hb')
    subst e
    refine (HMAP9.out.of_same (Below.heap_setCell _ _ _ _ hne.symm)).congr fun k' _ => ?_
    exact (fL_addL _ _ _ k').symm
  · intro h
    rw [show ({ r with nx := r.nx + 1, cnt := r.cnt + 1, L := addL r.L r.nx ⟨k, t, b, l⟩ } : Rf).mb = r.mb from rfl, HM.out] at h
    cases h
  · intro j x hx
    unfold addL at hx
    simp only at hx
    split at hx
    · obtain rfl := Option.some.inj hx
      exact hcell _ _ HL.out
    · exact hcell _ _ (HR.out.th j x hx)
  · intro j x j' x' hx hx' hne'
    unfold addL at hx hx'
    simp only at hx hx'
    split at hx
    · rename_i e
      rw [if_neg (by omega)] at hx'
      obtain rfl := Option.some.inj hx
      exact fun e => HB.out j' x' hx' e.symm
    · split at hx'
      · obtain rfl := Option.some.inj hx'
        exact HB.out j x hx
      · exact HR.out.ne j x j' x' hx hx' hne'
  · intro j x hx
    unfold addL at hx
    simp only at hx ⊢
    split at hx
    · omega
    · have := HR.out.lt j x hx; omega
  · have := HR.out.cnt; show r.cnt + 1 ≤ r.nx + 1; omega
  · show r.nx + 1 ≤ _; rw [← HRN.out]; exact hnx
end Go.Proofs.Ytidjfmkclabagaa
