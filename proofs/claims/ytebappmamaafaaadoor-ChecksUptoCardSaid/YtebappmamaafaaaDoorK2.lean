/-
  Proved: contracts of moves and of both told. Conditions: an op from 0 to 25, operands as operands lets them by.
-/
import Derived.Test.YtebappmamaafaaaDoorK1
import Derived.Maps.OwnOps
namespace Go.Proofs.YtebappmamaafaaaDoor
open Go.RowKit

def signL : List (List UInt8) := [[43], [45], [42], [47], [37], [60], [60, 61], [62], [62, 61], [61], [60, 62], [94], [33], [58, 61], [126]]
def SignsAt (w : World) : Prop := ∀ k : Nat, k < 15 → w.cell? ⟨2, k, none⟩ = some (.string ⟨(signL.getD k []).toArray⟩)

set_option maxHeartbeats 4000000 in
theorem moves_any (c : Cd) (op a b : Int) (w : World) (hc : CodeAt w w.heap.size c) (hS : SignsAt w) (h1 : 0 ≤ op) (h2 : op ≤ 25) (hm : op = 13 → 0 < a ∧ a < c.funs.length) (hs : op = 12 → 0 ≤ a ∧ a < 15) :
    Calls Tryd.prog 31 #[c.val, xv op a b] w fun e w' => e = .returned (.tuple #[.int .i64 (tkB (frOf c a) op a b), .int .i64 (ptB op)]) ∧ Below w.heap.size w w' := by
  unfold Cd.val xv
  by_cases h13 : op = 13
  · subst h13
    obtain ⟨m1, m2⟩ := hm rfl
    obtain ⟨b', off, hta, hbN, hcell⟩ := fun_free hc m1 m2
    obtain ⟨n, rfl⟩ : ∃ n : Nat, a = n := ⟨a.toNat, by omega⟩
    have hia : ∀ w' : World, (Instr.indexAt 23 (.slice c.fa c.funs.length c.fc) (.int .i64 n)).run Tryd.prog w' = .ok (.pointer (some ⟨b', off + n * 3, none⟩)) w' := index_at Tryd.underlying23 size48 hta c.funs.length c.fc n (by omega)
    have hcell' : w.cell? ⟨b', off + n * 3, none⟩ = some (.int .i64 (frOf c n)) := by simpa using hcell
    clear hta hcell hc hm h1 h2 m1 hs hS
    go_enter Tryd.func31, Tryd.ntmps31
    go_wp2
    go_ret2
    exact ⟨rfl, balloc (balloc (Below.refl _ _) _) _⟩
  · by_cases h12 : op = 12
    · subst h12
      obtain ⟨s1, s2⟩ := hs rfl
      have h00 : 2 < w.heap.size := World.block_lt_of_cell? w _ (hS 0 (by omega))
      have hcl := hS a.toNat (by omega)
      clear hm hc h1 h2 h13 hs hS
      rcases (by omega : a = 0 ∨ a = 1 ∨ a = 2 ∨ a = 3 ∨ a = 4 ∨ a = 5 ∨ a = 6 ∨ a = 7 ∨ a = 8 ∨ a = 9 ∨ a = 10 ∨ a = 11 ∨ a = 12 ∨ a = 13 ∨ a = 14) with h | h | h | h | h | h | h | h | h | h | h | h | h | h | h
      all_goals
        subst h
        simp [signL] at hcl
        clear s1 s2
        go_enter Tryd.func31, Tryd.ntmps31
        go_wp2
        go_ret2
        exact ⟨rfl, balloc (balloc (Below.refl _ _) _) _⟩
    · rcases (by omega : op = 0 ∨ op = 1 ∨ op = 2 ∨ op = 3 ∨ op = 4 ∨ op = 5 ∨ op = 6 ∨ op = 7 ∨ op = 8 ∨ op = 9 ∨ op = 10 ∨ op = 11 ∨ op = 14 ∨ op = 15 ∨ op = 16 ∨ op = 17 ∨ op = 18 ∨ op = 19 ∨ op = 20 ∨ op = 21 ∨ op = 22 ∨ op = 23 ∨ op = 24 ∨ op = 25) with h | h | h | h | h | h | h | h | h | h | h | h | h | h | h | h | h | h | h | h | h | h | h | h
      all_goals
        subst h
        clear h1 h2 h12 h13 hm hc hs hS
        go_enter Tryd.func31, Tryd.ntmps31
        go_wp2
        go_ret2
        exact ⟨rfl, balloc (balloc (Below.refl _ _) _) _⟩

/-- what is known ahead of the instructions -/
def enc2 (s : Int × Int) : Value := .agg #[.int .i64 s.1, .int .i64 s.2]
def encK (K : Nat → Option (Int × Int)) (n : Int) : Option Value := if 0 ≤ n then (K n.toNat).map enc2 else none
def updK (K : Nat → Option (Int × Int)) (p : Nat) (s : Int × Int) : Nat → Option (Int × Int) := fun j => if j = p then some s else K j
def toldK (K : Nat → Option (Int × Int)) (p : Nat) (s : Int × Int) (i : Nat) : Option (Nat → Option (Int × Int)) :=
  match K p with
  | none => if i < p then some (updK K p s) else none
  | some o => if o = s then some K else none
theorem encK_upd (K : Nat → Option (Int × Int)) (p : Nat) (s : Int × Int) : (fun m : Int => if m = (p : Int) then some (enc2 s) else encK K m) = encK (updK K p s) := by
  funext m
  by_cases h : m = (p : Int)
  · subst h; simp [encK, updK]
  · rw [if_neg h]
    unfold encK
    by_cases h0 : 0 ≤ m
    · have : ¬ m.toNat = p := by omega
      rw [if_pos h0, if_pos h0]
      simp [updK, this]
    · rw [if_neg h0, if_neg h0]
theorem encK_nat (K : Nat → Option (Int × Int)) (p : Nat) : encK K (p : Int) = (K p).map enc2 := by simp [encK]
theorem grown_trans {w w1 w2 : World} {row : Option Nat} (h : w.grownBy w1 row) (h2 : w1.grownBy w2 row) : w.grownBy w2 row :=
  ⟨h2.os.trans h.os, h2.tape.trans h.tape, h2.output.trans h.output, Nat.le_trans h.size h2.size, fun k hk hne => (h2.block k (Nat.lt_of_lt_of_le hk h.size) hne).trans (h.block k hk hne)⟩
theorem zero85 (w : World) : (zeroValue 85).run Tryd.prog w = .ok (.agg #[.int .i64 0, .int .i64 0]) w := by kernel_rfl

def ToldPost (m p : Nat) (s : Int × Int) (i : Nat) (K : Nat → Option (Int × Int)) (w : World) (e : Ending) (w' : World) : Prop :=
  e = .returned (.bool (toldK K p s i).isSome) ∧ IMapAt w' m (encK ((toldK K p s i).getD K)) ∧ w.grownBy w' (some m)

theorem told_any (m p i : Nat) (s : Int × Int) (K : Nat → Option (Int × Int)) (w : World) (hm : IMapAt w m (encK K)) (hp : p ≤ 9223372036854775807) (hi : i ≤ 9223372036854775807) :
    Calls Tryd.prog 33 #[.map (some m), .int .i64 p, enc2 s, .int .i64 i] w (ToldPost m p s i K w) := by
  have hlt := hm.lt
  have hI1 : IMapAt (w.alloc (.cells #[.int .i64 s.1, .int .i64 s.2] 85)) m (encK K) := hm.carry (Below.heap_alloc _ _ _ hlt)
  have HI1 := Lib.hid hI1
  clear hI1
  have hn := encK_nat K p
  unfold enc2
  cases hk : K p with
  | none =>
    rw [hk] at hn
    have hn2 : encK K (p : Int) = none := hn
    clear hn
    have HN := Lib.hid hn2
    have HK := Lib.hid hk
    clear hk
    by_cases hip : i < p
    · have ht : toldK K p s i = some (updK K p s) := by unfold toldK; rw [HK.out]; simp [hip]
      have HT := Lib.hid ht
      clear ht
      go_enter Tryd.func33, Tryd.ntmps33
      go_wp2_with (first
        | (at_lookup; go_must (refine wpList_lookup_im _ rfl (.tmp 12) (.tmp 13) 86 true rfl Tryd.underlying86 Tryd.underlying3 (zero85 _) m (encK K) p rfl rfl HI1.out ?_))
        | (at_mapUpdate; go_must (refine wpList_store_im _ rfl (.tmp 24) (.tmp 25) (.tmp 26) 86 rfl Tryd.underlying86 Tryd.underlying3 m (encK K) p (enc2 s) rfl rfl rfl (HI1.out.carry (Below.heap_alloc _ _ _ (by simp; omega))) HN.out ?_)))
      intro w' hI' hg' hs'
      rw [encK_upd] at hI'
      have HI' := Lib.hid hI'
      have HG' := Lib.hid (grown_trans (grown_trans (World.grownBy_alloc w _ (some m)) (World.grownBy_alloc _ _ (some m))) hg')
      clear hI' hg' hs'
      go_wp2_with fail
      go_ret
      refine ⟨congrArg (fun x => Ending.returned (Value.bool x)) (by rw [HT.out]; rfl), ?_, HG'.out⟩
      rw [HT.out]
      exact HI'.out
    · have ht : toldK K p s i = none := by unfold toldK; rw [HK.out]; simp [hip]
      have HT := Lib.hid ht
      clear ht
      go_enter Tryd.func33, Tryd.ntmps33
      go_wp2_with (first
        | (at_lookup; go_must (refine wpList_lookup_im _ rfl (.tmp 12) (.tmp 13) 86 true rfl Tryd.underlying86 Tryd.underlying3 (zero85 _) m (encK K) p rfl rfl HI1.out ?_)))
      go_ret
      refine ⟨congrArg (fun x => Ending.returned (Value.bool x)) (by rw [HT.out]; rfl), ?_, grown_trans (World.grownBy_alloc w _ (some m)) (World.grownBy_alloc _ _ (some m))⟩
      rw [HT.out]
      exact HI1.out.carry (Below.heap_alloc _ _ _ (by simp; omega))
  | some o =>
    rw [hk] at hn
    have hn2 : encK K (p : Int) = some (.agg #[.int .i64 o.1, .int .i64 o.2]) := hn
    clear hn
    have HK := Lib.hid hk
    clear hk
    by_cases ho : o = s
    · subst ho
      have ht : toldK K p o i = some K := by unfold toldK; rw [HK.out]; simp
      have HT := Lib.hid ht
      clear ht
      go_enter Tryd.func33, Tryd.ntmps33
      go_wp2_with (first
        | (at_lookup; go_must (refine wpList_lookup_im _ rfl (.tmp 12) (.tmp 13) 86 true rfl Tryd.underlying86 Tryd.underlying3 (zero85 _) m (encK K) p rfl rfl HI1.out ?_)))
      go_ret
      refine ⟨congrArg (fun x => Ending.returned (Value.bool x)) (by rw [HT.out]; simp), ?_, grown_trans (World.grownBy_alloc w _ (some m)) (World.grownBy_alloc _ _ (some m))⟩
      rw [HT.out]
      exact HI1.out.carry (Below.heap_alloc _ _ _ (by simp; omega))
    · have ht : toldK K p s i = none := by unfold toldK; rw [HK.out]; simp [ho]
      have HT := Lib.hid ht
      have hdec : (o.1 == s.1) = false ∨ ((o.1 == s.1) = true ∧ (o.2 == s.2) = false) := by
        by_cases h1 : o.1 = s.1
        · by_cases h2 : o.2 = s.2
          · exact absurd (Prod.ext h1 h2) ho
          · exact .inr ⟨by simpa using h1, by simpa using h2⟩
        · exact .inl (by simpa using h1)
      clear ht ho
      rcases hdec with h | ⟨h, h'⟩
      all_goals
        go_enter Tryd.func33, Tryd.ntmps33
        go_wp2_with (first
          | (at_lookup; go_must (refine wpList_lookup_im _ rfl (.tmp 12) (.tmp 13) 86 true rfl Tryd.underlying86 Tryd.underlying3 (zero85 _) m (encK K) p rfl rfl HI1.out ?_)))
        go_ret
        refine ⟨congrArg (fun x => Ending.returned (Value.bool x)) (by rw [HT.out]; first | rfl | (simp [*]; done) | (simp; done)), ?_, grown_trans (World.grownBy_alloc w _ (some m)) (World.grownBy_alloc _ _ (some m))⟩
        rw [HT.out]
        exact HI1.out.carry (Below.heap_alloc _ _ _ (by simp; omega))

end Go.Proofs.YtebappmamaafaaaDoor
