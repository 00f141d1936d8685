/-
  Proved: the law Heaps returns true for every script that lies below its world. Condition: scripts of at most 2·10^12 steps, as a script handed to a call has.
-/
import Derived.Test.YtidjfmkclabagaaE13
set_option linter.unusedSimpArgs false
set_option linter.unusedVariables false
namespace Go.Proofs.Ytidjfmkclabagaa
open Go.RowKit

/-- one step of a script -/
structure OpD where
  k : Int
  a : Int
  b : Int
  c : Int
  lv : Value
  l : List Int
structure OpAt (B : Nat) (w : World) (bk off : Nat) (o : OpD) : Prop where
  lt : bk < B
  k : w.cell? ⟨bk, off, none⟩ = some (.int .i64 o.k)
  a : w.cell? ⟨bk, off + 1, none⟩ = some (.int .i64 o.a)
  b : w.cell? ⟨bk, off + 2, none⟩ = some (.int .i64 o.b)
  c : w.cell? ⟨bk, off + 3, none⟩ = some (.int .i64 o.c)
  v : w.cell? ⟨bk, off + 4, none⟩ = some o.lv
  l : IntsAt B w o.lv o.l
  ia : I64 o.a
  ib : I64 o.b
  ic : I64 o.c
theorem OpAt.below {B : Nat} {w w' : World} {bk off : Nat} {o : OpD} (h : OpAt B w bk off o) (hb : Below B w w') : OpAt B w' bk off o :=
  ⟨h.lt, (hb.cell (p := ⟨bk, off, none⟩) h.lt).trans h.k, (hb.cell (p := ⟨bk, off + 1, none⟩) h.lt).trans h.a, (hb.cell (p := ⟨bk, off + 2, none⟩) h.lt).trans h.b, (hb.cell (p := ⟨bk, off + 3, none⟩) h.lt).trans h.c, (hb.cell (p := ⟨bk, off + 4, none⟩) h.lt).trans h.v, h.l.below hb, h.ia, h.ib, h.ic⟩
/-- a script in memory, below B -/
def ScriptAt (B : Nat) (w : World) (v : Value) (s : List OpD) : Prop := ∃ ao cap, v = .slice ao s.length cap ∧ ∀ i (h : i < s.length), ∃ bk off, ao = some ⟨bk, off, none⟩ ∧ OpAt B w bk (off + i * 5) s[i]
theorem sim_none {us : List C} {L : LMap} (nx : Nat) : Sim (fun _ _ => False) us nx L := ⟨⟨fun _ _ _ h => h.elim, fun _ _ _ h => h.elim, fun _ _ h => h.elim⟩, fun _ _ h => h.elim⟩
theorem st_new {w w1 : World} {g : Hp} {n : Nat} (hn : n ≤ 1000000) (hg : HpAt w1 g) (hsz : g.sz = n) (hnx : g.nx = 0) (h1 : w.heap.size ≤ g.hb) (h2 : w.heap.size ≤ g.ub) (h3 : w.heap.size ≤ g.sb) (hb : Below w.heap.size w w1) :
    St w.heap.size (fun _ _ => False) ((w1.alloc (.cells #[.int .i64 (n : Int), .map none, .int .i64 0] 31)).alloc (.cells #[.pointer (some ⟨g.hb, 0, none⟩), .pointer (some ⟨w1.heap.size, 0, none⟩), .slice none 0 0, .slice none 0 0] 34)) (w1.heap.size + 1) g
      ⟨w1.heap.size, none, n, 0, 0, fun _ => none⟩ (.slice none 0 0) (.slice none 0 0) [] [] ∧
    Below w.heap.size w ((w1.alloc (.cells #[.int .i64 (n : Int), .map none, .int .i64 0] 31)).alloc (.cells #[.pointer (some ⟨g.hb, 0, none⟩), .pointer (some ⟨w1.heap.size, 0, none⟩), .slice none 0 0, .slice none 0 0] 34)) := by
  have hw1 := hb.size
  obtain ⟨X, hX⟩ : ∃ X, X = (w1.alloc (.cells #[.int .i64 (n : Int), .map none, .int .i64 0] 31)).alloc (.cells #[.pointer (some ⟨g.hb, 0, none⟩), .pointer (some ⟨w1.heap.size, 0, none⟩), .slice none 0 0, .slice none 0 0] 34) := ⟨_, rfl⟩
  have hk : Keeps (fun _ => False) w1 X := by rw [hX]; exact ((Keeps.refl _ w1).alloc _).alloc _
  have x1 : X.heap[w1.heap.size]? = some (.cells #[.int .i64 (n : Int), .map none, .int .i64 0] 31 (0, 0)) := by rw [hX]; exact blk_alloc (heap_alloc_new w1 _) _
  have x2 : X.heap[w1.heap.size + 1]? = some (.cells #[.pointer (some ⟨g.hb, 0, none⟩), .pointer (some ⟨w1.heap.size, 0, none⟩), .slice none 0 0, .slice none 0 0] 34 (0, 0)) := by
    rw [hX]
    have h := heap_alloc_new (w1.alloc (.cells #[.int .i64 (n : Int), .map none, .int .i64 0] 31)) (.cells #[.pointer (some ⟨g.hb, 0, none⟩), .pointer (some ⟨w1.heap.size, 0, none⟩), .slice none 0 0, .slice none 0 0] 34)
    rw [World.size_alloc] at h
    exact h
  rw [← hX]
  have hr : ∀ v : World, Rw v (.slice none 0 0) [] := fun v => World.ownsRow_nil _ _ _ _
  refine ⟨⟨hg.keep hk (fun h => h) (fun h => h) (fun h => h), ⟨x1, (fun b hb => by cases hb), fun _ _ => rfl, (fun j x hx => by cases hx), (fun j x j' x' hx => by cases hx), (fun j x hx => by cases hx), Nat.le_refl _, Nat.zero_le _⟩, x2, hr X, hr X, (fun b hb => by cases hb), (fun b hb => by cases hb), (fun j x hx => by cases hx), ?_, hsz.symm, ?_⟩, ?_⟩
  · refine ⟨sim_none _, things_of (ρ := fun _ _ => False) (L := fun _ => none) (sim_none _) (by omega) (fun _ _ _ _ h => h.elim), (fun j x hx => by cases hx), ⟨rfl, fun i h => by simp at h⟩⟩
  · rintro b (e | e | e | e | e | e | e | e | ⟨j, x, hx, e⟩)
    · omega
    · omega
    · omega
    · show w.heap.size ≤ b; rw [e]; exact hw1
    · omega
    · cases e
    · cases e
    · cases e
    · cases hx
  · exact hb.trans (hk.below hw1 (fun _ h => h.elim))
theorem size38 (w : World) : (sizeOf 38).run Try.prog w = .ok 5 w := by kernel_rfl
def HRel (B n wb : Nat) (w0 : World) (i _ok : Value) (wr : World) : Prop :=
  ∃ (j : Nat) (ρ : Nat → Nat → Prop) (g : Hp) (r : Rf) (pv qv : Value) (p q : List C), i = .int .i64 (j : Int) ∧ j ≤ n ∧ St B ρ wr wb g r pv qv p q ∧ p.length ≤ j ∧ r.nx ≤ j ∧ Below B w0 wr
set_option maxRecDepth 100000 in
set_option maxHeartbeats 8000000 in
theorem heaps_any (c : Int) (w : World) (sv : Value) (s : List OpD) (hs : ScriptAt w.heap.size w sv s) (hl : s.length ≤ 3000000000000) :
    Calls Try.prog 3 #[.int .i64 c, sv] w fun e w' => e = .returned (.bool true) ∧ Below w.heap.size w w' := by
  obtain ⟨ao, cap, rfl, hat⟩ := hs
  obtain ⟨n, hn⟩ : ∃ n, n = s.length := ⟨_, rfl⟩
  rw [← hn] at hl
  have HN := Lib.hid hn
  have HAT := Lib.hid hat
  rw [← hn]
  clear hn hat
  by_cases hbad : c < 0 ∨ 1000000 < c
  · have HB : Hid (Calls Try.prog 4 #[.int .i64 c] w fun e w' => e = .returned (.tuple #[.pointer none, .int .i64 21]) ∧ w' = w) := (new_any c w).mono (by
      intro e w' h
      cases h with
      | bad _ he hw => exact ⟨he, hw⟩
      | new m g hc hm => omega)
    go_enter Try.func3, Try.ntmps3
    by_cases h1 : c < 0
    · go_wp2_with (first | (go_at_call 4; refine HB.out.mono ?_; rintro e w1 ⟨rfl, rfl⟩))
      go_ret
      exact ⟨rfl, Below.refl _ _⟩
    · have h2 : 1000000 < c := by omega
      go_wp2_with (first | (go_at_call 4; refine HB.out.mono ?_; rintro e w1 ⟨rfl, rfl⟩))
      go_ret
      exact ⟨rfl, Below.refl _ _⟩
  · obtain ⟨m, rfl⟩ : ∃ m : Nat, c = (m : Int) := ⟨c.toNat, by omega⟩
    have hm : m ≤ 1000000 := by omega
    have HB : Hid (Calls Try.prog 4 #[.int .i64 (m : Int)] w fun e w' => ∃ g : Hp, e = .returned (.tuple #[.pointer (some ⟨g.hb, 0, none⟩), .int .i64 0]) ∧ St w.heap.size (fun _ _ => False) ((w'.alloc (.cells #[.int .i64 (m : Int), .map none, .int .i64 0] 31)).alloc (.cells #[.pointer (some ⟨g.hb, 0, none⟩), .pointer (some ⟨w'.heap.size, 0, none⟩), .slice none 0 0, .slice none 0 0] 34)) (w'.heap.size + 1) g
      ⟨w'.heap.size, none, m, 0, 0, fun _ => none⟩ (.slice none 0 0) (.slice none 0 0) [] [] ∧
    Below w.heap.size w ((w'.alloc (.cells #[.int .i64 (m : Int), .map none, .int .i64 0] 31)).alloc (.cells #[.pointer (some ⟨g.hb, 0, none⟩), .pointer (some ⟨w'.heap.size, 0, none⟩), .slice none 0 0, .slice none 0 0] 34))) := (new_any (m : Int) w).mono (by
      intro e w' h
      cases h with
      | bad hb _ _ => omega
      | new m' g hc hm' he hg h1 h2 h3 h4 h5 h6 =>
        obtain rfl : m' = m := by omega
        exact ⟨g, he, st_new hm' hg h1 h2 h3 h4 h5 h6⟩)
    have h1 : ¬ ((m : Int) < 0) := by omega
    have h2 : ¬ (1000000 < (m : Int)) := by omega
    go_enter Try.func3, Try.ntmps3
    go_upto_region 7 with (first | (go_at_call 4; refine HB.out.mono ?_; rintro e w1 ⟨g, rfl, hst, hbe⟩; have HST := Lib.hid hst; have HBE := Lib.hid hbe; clear hst hbe))
    obtain ⟨X, hX⟩ : ∃ X, X = (w1.alloc (.cells #[.int .i64 (m : Int), .map none, .int .i64 0] 31)).alloc (.cells #[.pointer (some ⟨g.hb, 0, none⟩), .pointer (some ⟨w1.heap.size, 0, none⟩), .slice none 0 0, .slice none 0 0] 34) := ⟨_, rfl⟩
    have hst := HST.out
    have hbe := HBE.out
    rw [← hX] at hst hbe
    rw [← hX]
    obtain ⟨wb, hwb⟩ : ∃ wb, wb = w1.heap.size + 1 := ⟨_, rfl⟩
    rw [← hwb] at hst
    rw [← hwb]
    have HST2 := Lib.hid hst
    have HBE2 := Lib.hid hbe
    have HXX := Lib.hid hX
    have HWB := Lib.hid hwb
    clear hst hbe hX hwb
    go_wp2_with fail
    go_loopw [8, 9] (HRel w.heap.size n wb w) (fun i _ _ => n - (intOf i).toNat)
    case atStart => exact ⟨0, _, _, _, _, _, _, _, rfl, Nat.zero_le _, HST2.out, Nat.le_refl _, Nat.le_refl _, HBE2.out⟩
    case round =>
      obtain ⟨j, ρ, g, r, pv, qv, p, q, rfl, hj, hst, hpj, hrj, hbe⟩ := hrel
      obtain ⟨wo, rfl⟩ : ∃ wo : World, wo = wr := ⟨_, rfl⟩
      by_cases hjn : j < n
      · have hd : decide ((j : Int) < (n : Int)) = true := by simp; omega
        obtain ⟨o, bk, off, hao, hop⟩ : ∃ (o : OpD) (bk off : Nat), ao = some ⟨bk, off, none⟩ ∧ OpAt w.heap.size w bk (off + j * 5) o := by
          obtain ⟨bk, off, h1, h2⟩ := HAT.out j (by rw [← HN.out]; exact hjn)
          exact ⟨_, bk, off, h1, h2⟩
        subst hao
        have hop2 := hop.below hbe
        have x0 := hop2.k
        have x1 := hop2.a
        have x2 := hop2.b
        have x3 := hop2.c
        have x4 := hop2.v
        have HSTEP := Lib.hid (step_any w.heap.size ρ wo wb g r pv qv p q hst (by omega) (by omega) o.k o.a o.b o.c hop2.ia hop2.ib hop2.ic o.lv o.l hop2.l)
        have hxi := index_at Try.underlying22 size38 (ao := some ⟨bk, off, none⟩) rfl n cap j hjn
        have HBR := Lib.hid hbe
        clear hst hop hop2 hbe
        go_upto_region 11 with (first | (go_at_call 5; refine HSTEP.out.mono ?_; rintro e w7 ⟨ρ', g', r', pv', qv', p', q', rfl, s1, s2, s3, s4⟩; have S1 := Lib.hid s1; have S4 := Lib.hid s4; clear s1 s4))
        have HAL := Lib.hid (alike_any ρ' g' r' w7 S1.out.hg S1.out.hr S1.out.ok.sim wb pv' qv' p' q' S1.out.hw S1.out.hp S1.out.hq S1.out.ok.rs (by omega))
        go_wp2_with (first | (go_at_call 6; refine HAL.out.mono ?_; rintro e w8 ⟨rfl, b8⟩))
        go_roundw
        case rel => exact ⟨j + 1, ρ', g', r', pv', qv', p', q', by go_num, by omega, S1.out.below b8, by omega, by omega, (HBR.out.trans S4.out).trans (b8.mono S1.out.base)⟩
        case measure => simp only [intOf]; omega
      · obtain rfl : j = n := by omega
        have hd : decide ((j : Int) < (j : Int)) = false := by simp
        have HBR := Lib.hid hbe
        clear hst hbe
        go_wp2_with fail
        go_ret
        exact ⟨rfl, HBR.out⟩
end Go.Proofs.Ytidjfmkclabagaa
