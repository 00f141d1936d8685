/-
  Proved: contracts of the small functions of both Checks: operands, jumps, goes, puts. Conditions: an op from 0 to 25.
-/
import Derived.Test.YtebappmamaafaaaDoorE7
import Derived.Test.YtebappmamaafaaaDoorIM
namespace Go.Proofs.YtebappmamaafaaaDoor
open Go.RowKit

def xv (op a b : Int) : Value := .agg #[.int .i64 op, .int .i64 a, .int .i64 b]
def fv (f : Fn) : Value := .agg #[.int .i64 f.free, .int .i64 f.slots, .slice f.ao f.ins.length f.cap]

def opB (nt nf free slots nins : Int) (main : Bool) (op a b : Int) : Int :=
  if op = 1 then (if a < nt then 0 else 17)
  else if op = 2 then (if a < 12 then 0 else 17)
  else if op = 3 then (if main = true then 17 else 0)
  else if op = 4 then (if a < free then 0 else 17)
  else if op = 5 ∨ op = 6 ∨ op = 14 then (if a < slots then 0 else 17)
  else if op = 7 then (if 0 < b then 0 else 17)
  else if op = 12 then (if a < 15 then 0 else 17)
  else if op = 13 then (if 0 < a ∧ a < nf then 0 else 17)
  else if op = 23 then (if a < nt ∧ b < 2 then 0 else 17)
  else if op = 24 then (if a < 6 then 0 else 17)
  else if op = 18 ∨ op = 19 ∨ op = 20 then (if nins ≤ a then 19 else 0)
  else 0
def OpPost (c : Cd) (f : Fn) (main : Bool) (op a b : Int) (w : World) (e : Ending) (w' : World) : Prop :=
  e = .returned (.int .i64 (opB c.texts.length c.funs.length f.free f.slots f.ins.length main op a b)) ∧ Below w.heap.size w w'

set_option maxHeartbeats 4000000 in
theorem pop_any (c : Cd) (f : Fn) (main : Bool) (op a b : Int) (w : World) (h1 : 0 ≤ op) (h2 : op ≤ 25) :
    Calls Tryd.prog 30 #[c.val, fv f, xv op a b, .bool main] w (OpPost c f main op a b w) := by
  unfold Cd.val fv xv
  rcases (by omega : op = 0 ∨ op = 1 ∨ op = 2 ∨ op = 3 ∨ op = 4 ∨ op = 5 ∨ op = 6 ∨ op = 7 ∨ op = 8 ∨ op = 9 ∨ op = 10 ∨ op = 11 ∨ op = 12 ∨ op = 13 ∨ op = 14 ∨ op = 15 ∨ op = 16 ∨ op = 17 ∨ op = 18 ∨ op = 19 ∨ op = 20 ∨ op = 21 ∨ op = 22 ∨ op = 23 ∨ op = 24 ∨ op = 25) with h | h | h | h | h | h | h | h | h | h | h | h | h | h | h | h | h | h | h | h | h | h | h | h | h | h
  all_goals
    subst h
    clear h1 h2
    go_enter Tryd.func30, Tryd.ntmps30
    go_wp2
    all_goals
      go_ret
      exact ⟨congrArg (fun n => Ending.returned (Value.int .i64 n)) (by first | (simp_all [opB]; done) | (simp_all [opB]; omega)), by repeat' (first | exact Below.refl _ _ | refine balloc ?_ _)⟩

set_option maxHeartbeats 4000000 in
theorem rop_any (c : Cd) (f : Fn) (main : Bool) (op a b : Int) (w : World) (h1 : 0 ≤ op) (h2 : op ≤ 25) :
    Calls Tryd.prog 35 #[c.val, fv f, xv op a b, .bool main] w (OpPost c f main op a b w) := by
  unfold Cd.val fv xv
  rcases (by omega : op = 0 ∨ op = 1 ∨ op = 2 ∨ op = 3 ∨ op = 4 ∨ op = 5 ∨ op = 6 ∨ op = 7 ∨ op = 8 ∨ op = 9 ∨ op = 10 ∨ op = 11 ∨ op = 12 ∨ op = 13 ∨ op = 14 ∨ op = 15 ∨ op = 16 ∨ op = 17 ∨ op = 18 ∨ op = 19 ∨ op = 20 ∨ op = 21 ∨ op = 22 ∨ op = 23 ∨ op = 24 ∨ op = 25) with h | h | h | h | h | h | h | h | h | h | h | h | h | h | h | h | h | h | h | h | h | h | h | h | h | h
  all_goals
    subst h
    clear h1 h2
    go_enter Tryd.func35, Tryd.ntmps35
    go_wp2
    all_goals
      go_ret
      exact ⟨congrArg (fun n => Ending.returned (Value.int .i64 n)) (by first | (simp_all [opB]; done) | (simp_all [opB]; omega)), by repeat' (first | exact Below.refl _ _ | refine balloc ?_ _)⟩

def jumpB (op : Int) : Bool := op == 18 || op == 19 || op == 20
def goB (op : Int) : Bool := !(op == 18 || op == 17 || op == 16 || op == 22)
theorem jumps_any (op a b : Int) (w : World) : Calls Tryd.prog 32 #[xv op a b] w fun e w' => e = .returned (.bool (jumpB op)) ∧ Below w.heap.size w w' := by
  unfold xv
  rcases (by omega : op = 18 ∨ op = 19 ∨ op = 20 ∨ (op ≠ 18 ∧ op ≠ 19 ∧ op ≠ 20)) with h | h | h | ⟨h, h', h''⟩
  iterate 3
    · subst h
      go_enter Tryd.func32, Tryd.ntmps32
      go_wp2
      go_ret
      exact ⟨rfl, balloc (Below.refl _ _) _⟩
  · have e1 : (op == 18) = false := by simpa using h
    have e2 : (op == 19) = false := by simpa using h'
    have e3 : (op == 20) = false := by simpa using h''
    clear h h' h''
    go_enter Tryd.func32, Tryd.ntmps32
    go_wp2
    go_ret
    exact ⟨congrArg (fun x => Ending.returned (Value.bool x)) (by simp [jumpB, *]), balloc (Below.refl _ _) _⟩
theorem goes_any (op a b : Int) (w : World) : Calls Tryd.prog 34 #[xv op a b] w fun e w' => e = .returned (.bool (goB op)) ∧ Below w.heap.size w w' := by
  unfold xv
  rcases (by omega : op = 18 ∨ op = 17 ∨ op = 16 ∨ op = 22 ∨ (op ≠ 18 ∧ op ≠ 17 ∧ op ≠ 16 ∧ op ≠ 22)) with h | h | h | h | ⟨h, h', h'', h3⟩
  iterate 4
    · subst h
      go_enter Tryd.func34, Tryd.ntmps34
      go_wp2
      go_ret
      exact ⟨rfl, balloc (Below.refl _ _) _⟩
  · have e1 : (op == 18) = false := by simpa using h
    have e2 : (op == 17) = false := by simpa using h'
    have e3 : (op == 16) = false := by simpa using h''
    have e4 : (op == 22) = false := by simpa using h3
    clear h h' h'' h3
    go_enter Tryd.func34, Tryd.ntmps34
    go_wp2
    go_ret
    exact ⟨congrArg (fun x => Ending.returned (Value.bool x)) (by simp [goB, *]), balloc (Below.refl _ _) _⟩

/-- how many values an instruction takes (fr: of a made function, what it has caught), and puts -/
def tkB (fr op a b : Int) : Int :=
  if op = 6 ∨ op = 14 ∨ op = 17 ∨ op = 19 ∨ op = 22 ∨ op = 25 ∨ op = 8 ∨ op = 9 ∨ op = 10 then 1
  else if op = 7 then b else if op = 13 then fr else if op = 11 ∨ op = 15 ∨ op = 16 then 2
  else if op = 12 then (if a = 12 ∨ a = 14 then 1 else 2) else 0
def ptB (op : Int) : Int :=
  if op = 6 ∨ op = 14 ∨ op = 17 ∨ op = 19 ∨ op = 22 ∨ op = 25 ∨ op = 16 ∨ op = 18 ∨ op = 20 ∨ op = 21 then 0 else 1
def frOf (c : Cd) (a : Int) : Int := (c.funs.getD a.toNat nofn).free

set_option maxHeartbeats 4000000 in
theorem puts_any (op a b : Int) (w : World) (h1 : 0 ≤ op) (h2 : op ≤ 25) : Calls Tryd.prog 37 #[xv op a b] w fun e w' => e = .returned (.int .i64 (ptB op)) ∧ Below w.heap.size w w' := by
  unfold xv
  rcases (by omega : op = 0 ∨ op = 1 ∨ op = 2 ∨ op = 3 ∨ op = 4 ∨ op = 5 ∨ op = 6 ∨ op = 7 ∨ op = 8 ∨ op = 9 ∨ op = 10 ∨ op = 11 ∨ op = 12 ∨ op = 13 ∨ op = 14 ∨ op = 15 ∨ op = 16 ∨ op = 17 ∨ op = 18 ∨ op = 19 ∨ op = 20 ∨ op = 21 ∨ op = 22 ∨ op = 23 ∨ op = 24 ∨ op = 25) with h | h | h | h | h | h | h | h | h | h | h | h | h | h | h | h | h | h | h | h | h | h | h | h | h | h
  all_goals
    subst h
    clear h1 h2
    go_enter Tryd.func37, Tryd.ntmps37
    go_wp2
    go_ret
    exact ⟨rfl, balloc (Below.refl _ _) _⟩

/-- what the walk reads of the functions at an instruction that makes one -/
theorem fun_free {c : Cd} {w : World} (hc : CodeAt w w.heap.size c) {a : Int} (h1 : 0 < a) (h2 : a < c.funs.length) :
    ∃ b off, c.fa = some ⟨b, off, none⟩ ∧ b < w.heap.size ∧ w.cell? ⟨b, off + a.toNat * 3, none⟩ = some (.int .i64 (frOf c a)) := by
  have hlt : a.toNat < c.funs.length := by omega
  obtain ⟨b, off, hta, hbN, hcell⟩ := hc.funs a.toNat (by simpa using hlt)
  refine ⟨b, off, hta, hbN, ?_⟩
  have := hcell 0 (by omega)
  rw [Nat.add_zero] at this
  rw [this]
  simp [List.getD, hlt, fnRow, frOf]

set_option maxHeartbeats 4000000 in
theorem takes_any (c : Cd) (op a b : Int) (w : World) (hc : CodeAt w w.heap.size c) (h1 : 0 ≤ op) (h2 : op ≤ 25) (hm : op = 13 → 0 < a ∧ a < c.funs.length) :
    Calls Tryd.prog 36 #[c.val, xv op a b] w fun e w' => e = .returned (.int .i64 (tkB (frOf c a) op a b)) ∧ Below w.heap.size w w' := by
  unfold Cd.val xv
  by_cases h13 : op = 13
  · subst h13
    obtain ⟨m1, m2⟩ := hm rfl
    obtain ⟨b', off, hta, hbN, hcell⟩ := fun_free hc m1 m2
    obtain ⟨n, rfl⟩ : ∃ n : Nat, a = n := ⟨a.toNat, by omega⟩
    have hia : ∀ w' : World, (Instr.indexAt 23 (.slice c.fa c.funs.length c.fc) (.int .i64 n)).run Tryd.prog w' = .ok (.pointer (some ⟨b', off + n * 3, none⟩)) w' := index_at Tryd.underlying23 size48 hta c.funs.length c.fc n (by omega)
    have hcell' : w.cell? ⟨b', off + n * 3, none⟩ = some (.int .i64 (frOf c n)) := by simpa using hcell
    clear hta hcell hc hm h1 h2 m1
    go_enter Tryd.func36, Tryd.ntmps36
    go_wp2
    go_ret
    exact ⟨rfl, balloc (balloc (Below.refl _ _) _) _⟩
  · by_cases h12 : op = 12
    · subst h12
      clear hm hc h1 h2 h13
      go_enter Tryd.func36, Tryd.ntmps36
      go_wp2
      all_goals
        go_ret
        exact ⟨congrArg (fun n => Ending.returned (Value.int .i64 n)) (by simp_all [tkB]), balloc (balloc (Below.refl _ _) _) _⟩
    · rcases (by omega : op = 0 ∨ op = 1 ∨ op = 2 ∨ op = 3 ∨ op = 4 ∨ op = 5 ∨ op = 6 ∨ op = 7 ∨ op = 8 ∨ op = 9 ∨ op = 10 ∨ op = 11 ∨ op = 14 ∨ op = 15 ∨ op = 16 ∨ op = 17 ∨ op = 18 ∨ op = 19 ∨ op = 20 ∨ op = 21 ∨ op = 22 ∨ op = 23 ∨ op = 24 ∨ op = 25) with h | h | h | h | h | h | h | h | h | h | h | h | h | h | h | h | h | h | h | h | h | h | h | h
      all_goals
        subst h
        clear h1 h2 h12 h13 hm hc
        go_enter Tryd.func36, Tryd.ntmps36
        go_wp2
        go_ret
        exact ⟨rfl, balloc (balloc (Below.refl _ _) _) _⟩

end Go.Proofs.YtebappmamaafaaaDoor
