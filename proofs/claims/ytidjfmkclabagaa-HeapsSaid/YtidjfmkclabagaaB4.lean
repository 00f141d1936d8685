/-
  Proved: the contract of the document's Make. Condition: as Live's, and a heap of at most a million cells.
-/
import Derived.Test.YtidjfmkclabagaaB3
set_option linter.unusedSimpArgs false
set_option linter.unusedVariables false
namespace Go.Proofs.Ytidjfmkclabagaa
open Go.RowKit

inductive RMake (r : Rf) (q : List C) (k t n : Int) (w : World) (e : Ending) (w' : World) : Prop
  | bad : badArgs k t n = true → e = .returned (.tuple #[.int .i64 0, .int .i64 21]) → w' = w → RMake r q k t n w e w'
  | full (n' : Nat) (K : List Nat) (mb : Nat) : badArgs k t n = false → n = n' → K.Nodup → (∀ j, j ∈ K ↔ RchL r.L q j) → ¬ S r.L K + 1 + n' ≤ r.sz → e = .returned (.tuple #[.int .i64 0, .int .i64 22]) →
      RfAt w' { r with mb := some mb, cnt := K.length, L := restr r.L K } → w.heap.size ≤ mb → Keeps (fun b => b = r.rb) w w' → RMake r q k t n w e w'
  | made (n' : Nat) (K : List Nat) (mb b : Nat) : badArgs k t n = false → n = n' → K.Nodup → (∀ j, j ∈ K ↔ RchL r.L q j) → S r.L K + 1 + n' ≤ r.sz → e = .returned (.tuple #[.int .i64 r.nx, .int .i64 0]) →
      RfAt w' { r with mb := some mb, nx := r.nx + 1, cnt := K.length + 1, L := addL (restr r.L K) r.nx ⟨k, t, b, List.replicate n' zc⟩ } → w.heap.size ≤ mb → w.heap.size ≤ b → Keeps (fun b => b = r.rb) w w' → RMake r q k t n w e w'
set_option maxRecDepth 100000 in
set_option maxHeartbeats 8000000 in
theorem rmake_any (r : Rf) (w : World) (hr : RfAt w r) (hsz : r.sz ≤ 1000000) (hnx : r.nx + 1 ≤ 100000000000000) (q : List C) (hcl : ClosedL r.L q) (hsum : ∀ K : List Nat, K.Nodup → (∀ j ∈ K, RchL r.L q j) → S r.L K ≤ 1000000) (qb qsz cap : Nat) (qo : Option Addr) (hqo : 0 < q.length → qo = some ⟨qb, 0, none⟩) (hq : 0 < q.length → RowC w qb qsz q) (hql : q.length ≤ 3000000000000) (k t n : Int) :
    Calls Try.prog 21 #[.pointer (some ⟨r.rb, 0, none⟩), .int .i64 k, .int .i64 t, .int .i64 n, .slice qo q.length cap] w (RMake r q k t n w) := by
  have HL := Lib.hid (live_any r w hr q hcl hsum qb qsz cap qo hqo hq hql)
  have HSUM := Lib.hid hsum
  obtain ⟨b, hb⟩ : ∃ b, b = badArgs k t n := ⟨_, rfl⟩
  have HB := Lib.hid hb
  clear hr hcl hsum hqo hq hb
  go_enter Try.func21, Try.ntmps21
  go_upto_region 1 with fail
  go_cut [34] from 13 to 33 (fun v wx => v = .bool b ∧ wx = w)
  case first =>
    by_cases h1 : k < 0
    · have hb' : b = true := by rw [HB.out]; unfold badArgs; simp [h1]
      subst hb'
      go_wp2_with fail
      go_meet
      exact ⟨rfl, rfl⟩
    · by_cases h2 : 4 < k
      · have hb' : b = true := by rw [HB.out]; unfold badArgs; simp [h2]
        subst hb'
        go_wp2_with fail
        go_meet
        exact ⟨rfl, rfl⟩
      · by_cases h3 : t < 0
        · have hb' : b = true := by rw [HB.out]; unfold badArgs; simp [h3]
          subst hb'
          go_wp2_with fail
          go_meet
          exact ⟨rfl, rfl⟩
        · by_cases h4 : 65535 < t
          · have hb' : b = true := by rw [HB.out]; unfold badArgs; simp [h4]
            subst hb'
            go_wp2_with fail
            go_meet
            exact ⟨rfl, rfl⟩
          · by_cases h5 : n < 0
            · have hb' : b = true := by rw [HB.out]; unfold badArgs; simp [h5]
              subst hb'
              go_wp2_with fail
              go_meet
              exact ⟨rfl, rfl⟩
            · by_cases h6 : 1000000 < n
              · have hb' : b = true := by rw [HB.out]; unfold badArgs; simp [h6]
                subst hb'
                go_wp2_with fail
                go_meet
                exact ⟨rfl, rfl⟩
              · have hb' : b = false := by rw [HB.out]; unfold badArgs; simp; omega
                subst hb'
                go_wp2_with fail
                go_meet
                exact ⟨rfl, rfl⟩
  case rest =>
  obtain ⟨rfl, hwc⟩ := hcut
  subst hwc
  cases b with
  | true =>
    go_wp2_with fail
    go_ret2
    exact .bad HB.out.symm rfl rfl
  | false =>
    have hbad := of_decide_eq_false HB.out.symm
    obtain ⟨n', rfl⟩ : ∃ n' : Nat, n = (n' : Int) := ⟨n.toNat, by omega⟩
    have hn8 : n' ≤ 1000000 := by omega
    clear hbad
    obtain ⟨w0, hw0⟩ : ∃ w0 : World, w0 = wc := ⟨_, rfl⟩
    subst hw0
    obtain ⟨sz, hszz⟩ : ∃ sz, sz = r.sz := ⟨_, rfl⟩
    have HSZ := Lib.hid hszz
    have hsz' : sz ≤ 1000000 := by omega
    clear hszz
    go_upto_region 4 with (first | (go_at_call 11; refine HL.out.mono ?_; rintro e w2 ⟨K, mb, hnd, hK, rfl, hr2, hmb, hk2⟩))
    have hsK := HSUM.out K hnd (fun j hj => (hK j).1 hj)
    obtain ⟨sk, hsk⟩ : ∃ sk, sk = S r.L K := ⟨_, rfl⟩
    rw [← hsk] at hsK ⊢
    have c0 : w2.cell? ⟨r.rb, 0, none⟩ = some (.int .i64 sz) := by rw [HSZ.out]; exact blk_cell hr2.h 0
    have HR2 := Lib.hid hr2
    have HND := Lib.hid hnd
    have HK := Lib.hid hK
    have HMB := Lib.hid hmb
    have HK2 := Lib.hid hk2
    have HSK := Lib.hid hsk
    clear hr2 hnd hK hmb hk2 hsk
    by_cases hroom : sk + 1 + n' ≤ sz
    · have hd : decide ((sz : Int) < (sk : Int) + 1 + (n' : Int)) = false := by simp; omega
      have hge : (sk : Int) + 1 + (n' : Int) ≤ (sz : Int) := by omega
      have hm := make_cells n' (by omega) w2
      obtain ⟨W, hW⟩ : ∃ W, W = w2.alloc (.cells (cvA (List.replicate n' zc)) 49) := ⟨_, rfl⟩
      have hr3 : RfAt W { r with mb := some mb, cnt := K.length, L := restr r.L K } := by
        rw [hW]
        exact HR2.out.keep ((Keeps.refl (fun b => w2.heap.size ≤ b) w2).alloc _) (by have := HR2.out.lh; simp only at this ⊢; omega) (fun b h => by have := (HR2.out.m b h).lt; omega) (fun j x h => by have := (HR2.out.th j x h).lt; omega)
      have hcW : Cells W w2.heap.size (List.replicate n' zc) := by rw [hW]; exact heap_alloc_new _ _
      have HADD := Lib.hid (add_any { r with mb := some mb, cnt := K.length, L := restr r.L K } mb W hr3 rfl hnx k t w2.heap.size (List.replicate n' zc) hcW (fun j x h => by have := (HR2.out.th j x h).lt; omega))
      have HADD2 : Hid (Calls Try.prog 24 #[.pointer (some ⟨r.rb, 0, none⟩), .int .i64 k, .int .i64 t, .slice (some ⟨w2.heap.size, 0, none⟩) n' n'] W (AddPost { r with mb := some mb, cnt := K.length, L := restr r.L K } mb ⟨k, t, w2.heap.size, List.replicate n' zc⟩ W)) := Lib.hid (by have h := HADD.out; rw [List.length_replicate] at h; exact h)
      have hkW : Keeps (fun b => b = r.rb) w0 W := by rw [hW]; exact HK2.out.alloc _
      have HKW := Lib.hid hkW
      have hlW : w0.heap.size ≤ w2.heap.size := HK2.out.size
      skip
      clear hr3 hcW HADD hkW
      go_wp2_with (first | (go_at_call 24; rw [← hW]; refine HADD2.out.mono ?_; rintro e w3 ⟨rfl, hr4, hk4⟩))
      go_ret2
      refine .made n' K mb w2.heap.size HB.out.symm rfl HND.out HK.out (by rw [← HSK.out, ← HSZ.out]; exact hroom) rfl hr4 HMB.out hlW ?_
      have hk5 : Keeps (fun b => b = r.rb ∨ b = mb) w0 w3 := (HKW.out.mono (fun b h => .inl h)).trans hk4
      exact ⟨hk5.os, hk5.tape, hk5.output, hk5.size, fun b hb hn => hk5.block b hb (fun h => by
        rcases h with h | h
        · exact hn h
        · have := HMB.out; omega)⟩
    · have hd : decide ((sz : Int) < (sk : Int) + 1 + (n' : Int)) = true := by simp; omega
      have hlt : (sz : Int) < (sk : Int) + 1 + (n' : Int) := by omega
      go_wp2_with fail
      go_ret2
      exact .full n' K mb HB.out.symm rfl HND.out HK.out (by rw [← HSK.out, ← HSZ.out]; exact hroom) rfl HR2.out HMB.out HK2.out
end Go.Proofs.Ytidjfmkclabagaa
