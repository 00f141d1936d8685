/-
  Proved: the contract of the reference's shown and of its Show. Condition: a type that may be, of at most 400 parts.
-/
import Derived.Test.YtdeomphilggokaaS11
import Derived.Test.YtdeomphilggokaaS12
set_option linter.unusedSimpArgs false
set_option linter.unusedVariables false
namespace Go.Proofs.Ytdeomphilggokaa
open Go.RowKit

theorem rshow_any : ∀ f : Nat, RShowAt f
  | 0 => by
    intro t ht
    have := parts_pos t
    omega
  | f + 1 => by
    have IH := rshow_any f
    intro t ht D ao cap v L least w hD hv hown hfit hsh hocc hL9 hp
    rcases shaped_kind hsh with hk | hk | hk | hk
    · exact rshow_var t hk ao cap v L least w hown hocc hL9
    · by_cases h0 : t.args.length = 0
      · exact rshow_con0 t hk h0 ao cap v L least w
      · by_cases h1 : t.args.length = 1
        · exact rshow_con1 f IH t ht hk h1 D ao cap v L least w hD hv hown hfit hsh hocc hL9 hp
        · exact rshow_con2 f IH t ht hk (by omega) D ao cap v L least w hD hv hown hfit hsh hocc hL9 hp
    · exact rshow_tuple f IH t ht hk (by
        rw [shaped_args] at hsh
        simp only [Bool.and_eq_true] at hsh
        have h1 := hsh.1
        unfold okT at h1
        rw [if_neg (by omega), if_neg (by omega), if_pos hk] at h1
        exact (of_decide_eq_true h1).1) D ao cap v L least w hD hv hown hfit hsh hocc hL9 hp
    · exact rshow_arrow f IH t ht hk D ao cap v L least w hD hv hown hfit hsh hocc hL9 hp
theorem ownI_nil (w : World) : OwnI 0 w (.slice none 0 0) [] := World.ownsRow_nil _ _ _ _
set_option maxRecDepth 100000 in
set_option maxHeartbeats 4000000 in
theorem rShow_any (t : Ty) (D : Nat → Prop) (ao : Option Addr) (cap : Nat) (w : World) (hD : ∀ b, D b → b < w.heap.size) (hv : SlD w D t.args ao cap) (hfit : Fits t) (hsh : shapedD t = true) (hp : parts t ≤ 400) :
    Calls Try.prog 20 #[.agg (rowOf t ao cap)] w fun e w' => e = .returned (.string (showD (varsD [] t) t 0)) ∧ Below w.heap.size w w' := by
  obtain ⟨c, hc⟩ : ∃ c, c = t.args.length := ⟨_, rfl⟩
  obtain ⟨W, hW⟩ : ∃ W, W = w.alloc (.cells (rowOf t ao cap) 33) := ⟨_, rfl⟩
  obtain ⟨hbW, hlW, hrow⟩ := box_at hW
  have hbd := hbW.drew
  have hkeep : ∀ V : World, Below w.heap.size w V → (∀ b, D b → b < V.heap.size) ∧ SlD V D t.args ao cap := fun V hV => ⟨fun b hb => Nat.lt_of_lt_of_le (hD b hb) hV.size, hv.keep fun b hb off => below_cells hV b (hD b hb) off⟩
  have HV : Hid (Calls Try.prog 22 #[.slice none 0 0, .agg (rowOf t ao cap)] W.drew fun e w' => ∃ v', e = .returned v' ∧ OwnI 0 w' v' (varsD [] t) ∧ Below W.drew.heap.size W.drew w') := Lib.hid ((vars_any (parts t) t (Nat.le_refl _) D ao cap (.slice none 0 0) [] W.drew (fun b hb => ⟨(hkeep _ hbd).1 b hb, by simp [Value.ownBlock]⟩) (hkeep _ hbd).2 (ownI_nil _) hfit (by simp; omega)).mono (by
    rintro e w' ⟨v', he, hgi⟩
    exact ⟨v', he, hgi.own, ⟨hgi.gr.os, hgi.gr.tape, hgi.gr.output, hgi.gr.size, fun k hk => hgi.gr.block k hk (by simp [Value.ownBlock])⟩⟩))
  have HS : Hid (∀ (V : World) (v : Value), Below w.heap.size w V → OwnI 0 V v (varsD [] t) → Calls Try.prog 44 #[.agg (rowOf t ao cap), .int .i64 0, v] V (ShPost V (showD (varsD [] t) t 0))) := Lib.hid (fun V v hV hown => rshow_any (parts t) t (Nat.le_refl _) D ao cap v (varsD [] t) 0 V (hkeep V hV).1 (hkeep V hV).2 hown hfit hsh (fun n hn => by rw [vars_occ]; exact fold_mem _ _ hn) (varsD_bound t hp) hp)
  obtain ⟨xs, hxs⟩ : ∃ xs, xs = varsD [] t := ⟨_, rfl⟩
  rw [← hxs] at HV HS
  rw [← hxs]
  obtain ⟨ans, hans⟩ : ∃ ans, ans = showD xs t 0 := ⟨_, rfl⟩
  rw [← hans] at HS ⊢
  unfold rowOf at hW hrow HV HS ⊢
  rw [← hc] at hW hrow HV HS ⊢
  have c0 : W.cell? ⟨w.heap.size, 0, none⟩ = some (.int .i64 t.k) := blk_cell hrow 0
  have c1 : W.cell? ⟨w.heap.size, 1, none⟩ = some (.int .i64 t.n) := blk_cell hrow 1
  have c2 : W.cell? ⟨w.heap.size, 2, none⟩ = some (.string t.s) := blk_cell hrow 2
  have c3 : W.cell? ⟨w.heap.size, 3, none⟩ = some (.int .i64 t.q) := blk_cell hrow 3
  have c4 : W.cell? ⟨w.heap.size, 4, none⟩ = some (.slice ao c cap) := blk_cell hrow 4
  have HBW := Lib.hid hbW
  have HROW := Lib.hid hrow
  have hl1 : w.heap.size < W.heap.size := hlW
  have START := Lib.hid (And.intro c0 (And.intro c1 (And.intro c2 (And.intro c3 c4))))
  have KEEP : Hid (∀ V : World, Below W.heap.size W V → V.cell? ⟨w.heap.size, 0, none⟩ = some (.int .i64 t.k) ∧ V.cell? ⟨w.heap.size, 1, none⟩ = some (.int .i64 t.n) ∧ V.cell? ⟨w.heap.size, 2, none⟩ = some (.string t.s) ∧ V.cell? ⟨w.heap.size, 3, none⟩ = some (.int .i64 t.q) ∧ V.cell? ⟨w.heap.size, 4, none⟩ = some (.slice ao c cap)) := Lib.hid (fun V hV =>
    have hr := blk_below HROW.out hV hl1
    ⟨blk_cell hr 0, blk_cell hr 1, blk_cell hr 2, blk_cell hr 3, blk_cell hr 4⟩)
  clear hbW hlW hrow hv hfit hsh hc hp hD hbd hkeep hxs hans
  go_enter Try.func20, Try.ntmps20
  go_upto_region 1 with fail
  rw [← hW]
  clear hW
  clear c0 c1 c2 c3 c4
  go_region_held3 (fun w' => w'.cell? ⟨w.heap.size, 0, none⟩ = some (.int .i64 t.k) ∧ w'.cell? ⟨w.heap.size, 1, none⟩ = some (.int .i64 t.n) ∧ w'.cell? ⟨w.heap.size, 2, none⟩ = some (.string t.s) ∧ w'.cell? ⟨w.heap.size, 3, none⟩ = some (.int .i64 t.q) ∧ w'.cell? ⟨w.heap.size, 4, none⟩ = some (.slice ao c cap))
    (first | exact d10 | exact d9 | exact START.out)
    (first | (go_at_call 44; refine (HS.out w7 v' (bthen HBW.out HB7.out) HO7.out).mono ?_; rintro e w8 ⟨rfl, hb8⟩; have d10 := KEEP.out w8 (bthen HB7.out hb8); have HB8 := Lib.hid (bthen HB7.out hb8); clear hb8) | (go_at_call 22; refine HV.out.mono ?_; rintro e w7 ⟨v', rfl, ho7, hb7⟩; have d9 := KEEP.out w7 ((Below.refl _ _).drew.trans hb7); have HB7 := Lib.hid ((Below.refl W.heap.size W).drew.trans hb7); have HO7 := Lib.hid ho7; clear hb7 ho7))
  go_wp2_with fail
  go_ret
  exact ⟨rfl, bthen HBW.out HB8.out⟩
end Go.Proofs.Ytdeomphilggokaa
