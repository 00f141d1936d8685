/-
  Proved: contracts of the small functions that both Encodes reach (the writer's two; the reference's big, two, Form). Conditions: lengths below 2^40, numbers within int.
-/
import Derived.Test.YtebappmamaafaaaDoorW
set_option linter.unusedSimpArgs false
set_option linter.unusedVariables false
namespace Go.Proofs.YtebappmamaafaaaDoor
open Go.RowKit

/-- a byte as a value -/
def bv (b : UInt8) : Value := .int .u8 b.toNat
/-- the low byte of a number -/
def lo (n : Int) : UInt8 := UInt8.ofNat (n % 256).toNat

theorem info5 : (Tryd.prog.info? 5).map (fun i => (i.zero, i.size, i.bytes)) = some (some (.int .u8 0), 1, 1) := by kernel_rfl

theorem fits_any (v m : Int) (w : World) : Calls Tryd.prog 28 #[.int .i64 v, .int .i64 m] w fun e w' => e = .returned (.bool (decide (0 ≤ v) && decide (v ≤ m))) ∧ w = w' := by
  by_cases h : 0 ≤ v
  · by_cases h2 : v ≤ m
    all_goals
      go_enter Tryd.func28, Tryd.ntmps28
      go_wp2
      go_ret
      exact ⟨by simp [*], rfl⟩
  · go_enter Tryd.func28, Tryd.ntmps28
    go_wp2
    go_ret
    exact ⟨by simp [*]; omega, rfl⟩

/-- the writer: a block of its own at p, its bytes a row of their own -/
structure Wr (w : World) (p B : Nat) (bs : List UInt8) (bad : Bool) : Prop where
  base : B ≤ p
  row : ∃ v, w.heap[p]? = some (.cells #[v, .bool bad] 44 (0, 0)) ∧ w.ownsRow B 5 1 v bs.length (bs.map bv)

theorem Wr.carry {w w' : World} {p B : Nat} {bs : List UInt8} {bad : Bool} (h : Wr w p B bs bad) (hc : ∀ (g : Nat) (c : Array Value) (e : TypeId) (f : Nat × Nat), w.heap[g]? = some (.cells c e f) → w'.heap[g]? = some (.cells c e f)) : Wr w' p B bs bad := by
  obtain ⟨hB, v, hp, hown⟩ := h
  exact ⟨hB, v, hc _ _ _ _ hp, own_carry hown fun g c f => hc g c 5 f⟩
theorem Wr.alloc {w : World} {p B : Nat} {bs : List UInt8} {bad : Bool} (h : Wr w p B bs bad) (o : Obj) : Wr (w.alloc o) p B bs bad := h.carry fun _ _ _ _ h => blk_alloc h o
theorem Wr.iterAt {w : World} {p B : Nat} {bs : List UInt8} {bad : Bool} (h : Wr w p B bs bad) {k : Nat} {s : ByteArray} {pos : Nat} (hk : w.heap[k]? = some (.stringIter s pos)) (pos' : Nat) : Wr (w.iterAt k s pos') p B bs bad := h.carry fun _ _ _ _ h => iter_cells hk h
theorem Wr.below {w w' : World} {p B : Nat} {bs : List UInt8} {bad : Bool} (h : Wr w p B bs bad) (hb : Below w.heap.size w w') : Wr w' p B bs bad := by
  obtain ⟨hB, v, hp, hown⟩ := h
  have hl := hown.lt
  refine ⟨hB, v, blk_below hp hb (lt_of_block hp), hown.1, ?_⟩
  rcases hown.2 with hn | ⟨g, cap, cur, rfl, hbg, hgg, rest⟩
  · exact .inl hn
  · exact .inr ⟨g, cap, cur, rfl, hbg, blk_below hgg hb (lt_of_block hgg), rest⟩

def twoB (n : Int) : List UInt8 := [lo (n / 256), lo n]
def fitsB (n : Int) : Bool := decide (0 ≤ n) && decide (n ≤ 65535)

theorem fits_two (v : Int) (w : World) : Calls Tryd.prog 28 #[.int .i64 v, .int .i64 65535] w fun e w' => e = .returned (.bool (fitsB v)) ∧ w = w' :=
  (fits_any v 65535 w).mono fun _ _ h => h

theorem two_bytes (n : Int) : [Value.int .u8 (n / 256 % 256), .int .u8 (n % 256)] = (twoB n).map bv := by
  have h1 := Int.emod_nonneg (n / 256) (b := 256) (by decide)
  have h2 := Int.emod_lt_of_pos (n / 256) (b := 256) (by decide)
  have h3 := Int.emod_nonneg n (b := 256) (by decide)
  have h4 := Int.emod_lt_of_pos n (b := 256) (by decide)
  simp [twoB, bv, lo]
  omega

/-- the writer behind an append to its bytes that is stored back -/
theorem wr_stored {w1 : World} {p B : Nat} {bs news : List UInt8} {bad : Bool} {v v' : Value} {xs : List Value} {m : Nat} (hB : B ≤ p) (hm : m = bs.length + news.length) (hx : xs = (bs ++ news).map bv)
    (hp : w1.heap[p]? = some (.cells #[v, .bool bad] 44 (0, 0))) (hown : w1.ownsRow B 5 1 v' m xs) : Wr (w1.setCell ⟨p, 0, none⟩ v') p B (bs ++ news) bad := by
  subst hm hx
  have hne := own_ne hp hown (by decide)
  refine ⟨hB, v', ?_, ?_⟩
  · rw [blk_set hp]; rfl
  · rw [List.length_append]; exact ownsRow_setCell_other hown hne _

theorem two_any (p B : Nat) (n : Int) (bs : List UInt8) (bad : Bool) (w : World) (hw : Wr w p B bs bad) (h1 : -9223372036854775808 ≤ n) (h2 : n ≤ 9223372036854775807) (hl : bs.length ≤ 1099511627776) :
    Calls Tryd.prog 16 #[.pointer (some ⟨p, 0, none⟩), .int .i64 n] w fun e w' => e = .returned (.tuple #[]) ∧ Wr w' p B (bs ++ twoB n) (bad || !fitsB n) ∧ Below B w w' ∧ Lib.OthersKept 5 (some p) w w' := by
  obtain ⟨hB, v, hp, hown⟩ := hw
  have hne := own_ne hp hown (by decide)
  have hlt := lt_of_block hp
  have c0 : w.cell? ⟨p, 0, none⟩ = some v := blk_cell hp 0
  have c1 : w.cell? ⟨p, 1, none⟩ = some (.bool bad) := blk_cell hp 1
  have f0 := blk_free hp 0
  have f1 := blk_free hp 1
  obtain ⟨i0, hi, hz0, hz1, hz2⟩ := info_parts info5
  have HP := Lib.hid hp
  have HO := Lib.hid hown
  have HB2 := Lib.hid (two_bytes n)
  clear hp
  cases bad
  all_goals
    go_enter Tryd.func16, Tryd.ntmps16
    go_wp2_with (first
      | (go_at_call 28; refine (fits_two n w).mono ?_; rintro e w' ⟨rfl, rfl⟩)
      | (at_builtin; go_must (refine wpList_append_own _ rfl (.tmp 20) (.tmp 26) 42 rfl B 5 i0 (.int .u8 0) 1 1 Tryd.underlying42 hi hz0 hz1 hz2 rfl (by decide) v bs.length (bs.map bv) rfl ((ownsRow_setCell_other hown hne _).alloc _) ⟨w.heap.size, 0, none⟩ 2 2 [.int .u8 (n / 256 % 256), .int .u8 (n % 256)] rfl rfl ?c1 ?c2 ?c3 ?c4 ?c5 ?_)))
    case c1 => exact new_cells (c := #[_, _]) _ (by simp)
    case c2 => intro u hu; simp at hu; rcases hu with rfl | rfl <;> rfl
    case c3 => unfold maxLen; omega
    case c4 => omega
    case c5 => simp; omega
    intro v' w1 hown1 hg1 hnil
    obtain ⟨g', cap', hv'⟩ := own_shape hown1 hnil
    rw [hv'] at hown1 ⊢
    clear hnil hv'
    rw [HB2.out, ← List.map_append] at hown1
    have hp1 := blk_grown (blk_alloc (blk_set HP.out 1 _) _) hg1 hne
    have c0' : w1.cell? ⟨p, 0, none⟩ = some v := blk_cell hp1 0
    have f0' := blk_free hp1 0
    have R := wr_stored (v := v) hB rfl rfl hp1 hown1
    have Rb : Below B w (w1.setCell ⟨p, 0, none⟩ (.slice (some ⟨g', 0, none⟩) (bs.length + 2) cap')) := ((((Below.refl B w).setCell (p := ⟨p, 1, none⟩) hB _).alloc (by simp; omega) _).grown hg1 (by simp; omega) (fun k hk => (hown.lt k hk).1)).setCell (p := ⟨p, 0, none⟩) hB _
    have Ro : Lib.OthersKept 5 (some p) w (w1.setCell ⟨p, 0, none⟩ (.slice (some ⟨g', 0, none⟩) (bs.length + 2) cap')) := ((((Lib.OthersKept.refl 5 (some p) w).setCell ⟨p, 1, none⟩ rfl _).alloc _).grown hg1 (fun g hg => by obtain ⟨c, fz, h⟩ := own_row HO.out g hg; exact ⟨c, fz, blk_alloc (blk_set_ne h (fun e => hne (by rw [hg, e])) _ _) _⟩)).setCell ⟨p, 0, none⟩ rfl _
    have Ro' := Lib.hid Ro
    clear Ro
    have R' := Lib.hid R
    have Rb' := Lib.hid Rb
    clear R Rb hp1 hown1 hg1 hown hi hz0 hz1 hz2 c1 hne HP HB2
    go_wp2
    go_end0
    exact ⟨rfl, R'.out, Rb'.out, Ro'.out⟩

/-- the reference's bytes of a number: the k lowest, the highest of them first -/
def bigB (v : Int) : Nat → List UInt8
  | 0 => []
  | k + 1 => lo (v / 256 ^ k) :: bigB v k

theorem shift_bounds (v : Int) (k : Nat) (h1 : -9223372036854775808 ≤ v) (h2 : v ≤ 9223372036854775807) : -9223372036854775808 ≤ v / 256 ^ k ∧ v / 256 ^ k ≤ 9223372036854775807 := by
  induction k with
  | zero => simp; omega
  | succ k ih =>
    have : v / 256 ^ (k + 1) = v / 256 ^ k / 256 := by rw [Int.pow_succ, Int.ediv_ediv_of_nonneg (Int.pow_nonneg (by decide))]
    omega
theorem shift_succ (v : Int) (k : Nat) : v / 256 ^ (k + 1) = v / 256 ^ k / 256 := by rw [Int.pow_succ, Int.ediv_ediv_of_nonneg (Int.pow_nonneg (by decide))]
theorem bigB_length (v : Int) (k : Nat) : (bigB v k).length = k := by induction k with
  | zero => rfl
  | succ k ih => simp [bigB, ih]

theorem big_any (v : Int) (n : Nat) (w : World) (hn : n ≤ 8) (h1 : -9223372036854775808 ≤ v) (h2 : v ≤ 9223372036854775807) :
    Calls Tryd.prog 19 #[.int .i64 v, .int .i64 n] w fun e w' => e = .returned (.string ⟨(bigB v n).toArray⟩) ∧ Below w.heap.size w w' := by
  go_enter Tryd.func19, Tryd.ntmps19
  go_wp2
  go_loopw [0, 5, 6] (fun x s i wr => ∃ k : Nat, k ≤ n ∧ i = .int .i64 k ∧ s = .string ⟨(bigB v k).toArray⟩ ∧ x = .int .i64 (v / 256 ^ k) ∧ Below w.heap.size w wr) (fun _ _ i _ => n - (intOf i).toNat)
  case atStart => exact ⟨0, by omega, rfl, rfl, by simp, Below.refl _ _⟩
  case round =>
    obtain ⟨k, hk, rfl, rfl, rfl, hb⟩ := hrel
    have b1 := shift_bounds v k h1 h2
    have hlen := bigB_length v k
    have HS := Lib.hid (shift_succ v k)
    have HB : Hid (bigB v (k + 1) = lo (v / 256 ^ k) :: bigB v k) := rfl
    generalize v / 256 ^ k = z at *
    generalize hl : bigB v k = l at *
    have HL := Lib.hid hl
    clear hl
    obtain ⟨b1, b2⟩ := b1
    have hlen : l.length ≤ 8 := by omega
    by_cases hlt : k < n
    · have kc : ∀ c, (convert 42 9 (.slice (some ⟨wr.heap.size, 0, none⟩) 1 c)).run Tryd.prog (wr.alloc (.cells #[.int .u8 (z % 256)] 5)) = .ok (.string ⟨[lo z].toArray⟩) (wr.alloc (.cells #[.int .u8 (z % 256)] 5)) :=
        fun c => conv_new wr 42 9 5 [lo z] Tryd.underlying42 Tryd.underlying5 Tryd.underlying9 _ _ rfl _ (by simp [lo]; omega) _ rfl
      go_wp2
      go_roundw
      case rel => exact ⟨k + 1, by omega, by go_num, by rw [HB.out, ByteArray.mk_append_mk]; rfl, by rw [HS.out], hb.alloc hb.size _⟩
      case measure => simp [intOf]; omega
    · obtain rfl : k = n := by omega
      go_wp2
      go_ret
      exact ⟨congrArg Ending.returned (show Value.string ⟨l.toArray⟩ = _ by rw [HL.out]), hb⟩

theorem big2 (n : Int) : bigB n 2 = twoB n := by simp [bigB, twoB]
theorem big1 (n : Int) : bigB n 1 = [lo n] := by simp [bigB]

theorem rtwo_any (n : Int) (w : World) (h1 : -9223372036854775808 ≤ n) (h2 : n ≤ 9223372036854775807) :
    Calls Tryd.prog 18 #[.int .i64 n] w fun e w' => e = .returned (.tuple #[.string ⟨(twoB n).toArray⟩, .bool (fitsB n)]) ∧ Below w.heap.size w w' := by
  have hB := fun W => big_any n 2 W (by decide) h1 h2
  rw [big2] at hB
  have HB := Lib.hid hB
  clear hB
  have hf : fitsB n = (decide (0 ≤ n) && decide (n ≤ 65535)) := rfl
  have HF := Lib.hid hf
  clear hf
  by_cases a1 : 0 ≤ n
  · by_cases a2 : n ≤ 65535
    all_goals
      go_enter Tryd.func18, Tryd.ntmps18
      go_wp2_with (first | (go_at_call 19; refine (HB.out w).mono ?_; rintro e w' ⟨rfl, hb⟩))
      go_ret2
      exact ⟨by rw [HF.out]; simp [a1, a2], hb⟩
  · go_enter Tryd.func18, Tryd.ntmps18
    go_wp2_with (first | (go_at_call 19; refine (HB.out w).mono ?_; rintro e w' ⟨rfl, hb⟩))
    go_ret2
    exact ⟨by rw [HF.out]; simp [a1]; omega, hb⟩

/-- the form of an instruction -/
def formB (op : Int) : List UInt8 × Bool :=
  if op = 0 ∨ op = 9 then ([105], true)
  else if op = 1 ∨ op = 2 ∨ op = 4 ∨ op = 5 ∨ op = 6 ∨ op = 8 ∨ op = 10 ∨ op = 12 ∨ op = 13 ∨ op = 18 ∨ op = 19 ∨ op = 20 ∨ op = 24 then ([110], true)
  else if op = 7 ∨ op = 14 ∨ op = 23 then ([110, 110], true)
  else if op = 3 ∨ op = 11 ∨ op = 15 ∨ op = 16 ∨ op = 17 ∨ op = 21 ∨ op = 22 ∨ op = 25 then ([], true)
  else ([], false)

def FormPost (op : Int) (w : World) (e : Ending) (w' : World) : Prop := e = .returned (.tuple #[.string ⟨(formB op).1.toArray⟩, .bool (formB op).2]) ∧ w = w'
theorem form_any (op : Int) (w : World) : Calls Tryd.prog 29 #[.int .i64 op] w (FormPost op w) := by
  by_cases h : 0 ≤ op ∧ op ≤ 25
  · rcases (by omega : op = 0 ∨ op = 1 ∨ op = 2 ∨ op = 3 ∨ op = 4 ∨ op = 5 ∨ op = 6 ∨ op = 7 ∨ op = 8 ∨ op = 9 ∨ op = 10 ∨ op = 11 ∨ op = 12 ∨ op = 13 ∨ op = 14 ∨ op = 15 ∨ op = 16 ∨ op = 17 ∨ op = 18 ∨ op = 19 ∨ op = 20 ∨ op = 21 ∨ op = 22 ∨ op = 23 ∨ op = 24 ∨ op = 25) with h | h | h | h | h | h | h | h | h | h | h | h | h | h | h | h | h | h | h | h | h | h | h | h | h | h
    all_goals
      subst h
      go_enter Tryd.func29, Tryd.ntmps29
      go_wp2
      go_ret2
      exact ⟨rfl, rfl⟩
  · have hf : formB op = ([], false) := by
      unfold formB
      rw [if_neg (by omega), if_neg (by omega), if_neg (by omega), if_neg (by omega)]
    have HF := Lib.hid hf
    clear hf
    rcases (by omega : op < 0 ∨ 25 < op) with h | h
    all_goals
      go_enter Tryd.func29, Tryd.ntmps29
      go_wp2
      go_ret2
      exact ⟨by rw [HF.out]; rfl, rfl⟩

end Go.Proofs.YtebappmamaafaaaDoor
