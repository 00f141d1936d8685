/-
  Proved: what Make on both sides leaves of the law's world. No condition.
-/
import Derived.Test.YtidjfmkclabagaaD7
set_option linter.unusedSimpArgs false
set_option linter.unusedVariables false
namespace Go.Proofs.Ytidjfmkclabagaa
open Go.RowKit

inductive Both (B : Nat) (wb : Nat) (g : Hp) (r : Rf) (pv qv : Value) (p q : List C) (k t n : Int) (w : World) (e1 e2 : Ending) (w3 : World) : Prop
  | no (code : Int) (ρ : Nat → Nat → Prop) (g' : Hp) (r' : Rf) (p' : List C) : e1 = .returned (.tuple #[.int .i64 0, .int .i64 code]) → e2 = .returned (.tuple #[.int .i64 0, .int .i64 code]) → (code = 21 ∨ code = 22) → St B ρ w3 wb g' r' pv qv p' q → p'.length = p.length → g'.hb = g.hb → r'.rb = r.rb → r'.nx = r.nx → Below B w w3 → Both B wb g r pv qv p q k t n w e1 e2 w3
  | yes (ρ : Nat → Nat → Prop) (g' : Hp) (r' : Rf) (p' : List C) (a n' bk : Nat) : n = n' → n' ≤ 1000000 → e1 = .returned (.tuple #[.int .i64 a, .int .i64 0]) → e2 = .returned (.tuple #[.int .i64 r.nx, .int .i64 0]) → St B ρ w3 wb g' r' pv qv p' q → p'.length = p.length → g'.hb = g.hb → r'.rb = r.rb → r'.nx = r.nx + 1 → Below B w w3 →
      ρ a r.nx → r'.L r.nx = some ⟨k, t, bk, List.replicate n' zc⟩ → (∀ i, i < n' → gt g'.us (a + 1 + i) = zc) → a + 1 + n' ≤ g'.us.length → Both B wb g r pv qv p q k t n w e1 e2 w3
theorem Ok.roots {ρ : Nat → Nat → Prop} {us : List C} {nx : Nat} {L : LMap} {p q p' q' : List C} (h : Ok ρ us nx L p' q') (hr : RSim ρ p q) : Ok ρ us nx L p q := ⟨h.sim, h.things, h.cov, hr⟩
theorem st_make {B : Nat} {ρ : Nat → Nat → Prop} {w w2 W2 w3 : World} {wb : Nat} {g : Hp} {r : Rf} {pv qv : Value} {p q : List C} (h : St B ρ w wb g r pv qv p q) (hnx : r.nx + 1 < 100000000000000) {pb psz : Nat}
    (hown : 0 < p.length → pv.ownBlock = some pb) (h0 : p.length = 0 → pb = w.heap.size) (hback : ∀ w' l', l'.length = p.length → 0 < p.length → RowC w' pb psz l' → Rw w' pv l') {k t n : Int} {e1 e2 : Ending}
    (hM : MakeAt g p (fun a => ∃ b, ρ a b) pb psz k t n w e1 w2) (hb2 : Below w2.heap.size w2 W2) (hR : RMake r q k t n W2 e2 w3) : Both B wb g r pv qv p q k t n w e1 e2 w3 := by
  have hB : B ≤ w.heap.size := Nat.le_trans (h.lo wb (.inr (.inr (.inr (.inr (.inl rfl)))))) (Nat.le_of_lt (lt_of_block h.hw))
  have hPSB : ∀ b, PS g pv b → B ≤ b := by
    rintro b (e | e | e | e)
    · exact h.lo b (.inr (.inl e))
    · exact h.lo b (.inr (.inr (.inl e)))
    · exact h.lo b (.inl e)
    · exact h.lo b (.inr (.inr (.inr (.inr (.inr (.inl e))))))
  have hrB : ∀ b, b = r.rb → B ≤ b := fun b e => h.lo b (.inr (.inr (.inr (.inl e))))
  have hsu : g.ub < w.heap.size := h.hg.lu
  obtain ⟨ss, hss, _⟩ := h.hg.s
  have hsb : g.sb < w.heap.size := hss.lt
  cases hM with
  | bad hb he hw =>
    subst hw
    cases hR with
    | bad _ he2 hw3 =>
      subst hw3
      have hk2 : Keeps (PS g pv) w2 w3 := Keeps.of_below hb2
      obtain ⟨a1, a2, a3⟩ := h.prog hk2
      refine .no 21 ρ g r p he he2 (.inl rfl) ⟨h.hg.keep (Keeps.of_below (S := fun _ => False) hb2) (fun h => h) (fun h => h) (fun h => h), a1, a2, h.hp.keep (Keeps.of_below (S := fun _ => False) hb2) (fun _ _ h => h), a3, h.pu, h.qu, h.xu, h.ok, h.sz, h.lo⟩ rfl rfl rfl rfl (hb2.mono hB)
    | full _ _ _ h1 => rw [hb] at h1; cases h1
    | made _ _ _ _ h1 => rw [hb] at h1; cases h1
  | full n' wx G hb hn hP hno he hbx =>
    cases hR with
    | bad h1 => rw [hb] at h1; cases h1
    | full n2 K mb h1 hn2 hnd hK hno2 he2 hrf hmb hk3 =>
      have e : n' = n2 := Int.ofNat.inj (hn.symm.trans hn2)
      subst e
      obtain ⟨hk, ρ', p', hok, hrw, hpl, hiff, hub⟩ := h.placed hown h0 hback hP hnd hK
      have hsz2 := hk.size
      have hbW : Below wx.heap.size wx W2 := hbx.trans (hb2.mono hbx.size)
      have hkW : Keeps (PS g pv) w W2 := hk.trans (Keeps.of_below hbW)
      obtain ⟨a1, a2, a3⟩ := h.prog hkW
      have hGW : HpAt W2 G := hP.at'.keep (Keeps.of_below (S := fun _ => False) hbW) (fun h => h) (fun h => h) (fun h => h)
      have hpW : Rw W2 pv p' := hrw.keep (Keeps.of_below (S := fun _ => False) hbW) (fun _ _ h => h)
      rw [← hP.hb] at a2
      obtain ⟨c1, c2, c3, c4⟩ := St.ref hGW a1.h a2 hpW a3 hk3
      have hL : ∀ j x, restr r.L K j = some x → r.L j = some x := fun j x hx => (restr_some hx).2
      have hub2 : ∀ b, (b ≠ g.ub ∧ b ≠ g.sb) → (b ≠ G.ub ∧ b ≠ G.sb) := by
        rintro b ⟨h1, h2⟩
        rcases hub with ⟨e1, e2⟩ | ⟨e1, e2⟩
        · rw [e1, e2]; exact ⟨h1, h2⟩
        · rw [e1, e2]; exact ⟨h2, h1⟩
      refine .no 22 ρ' G { r with mb := some mb, cnt := K.length, L := restr r.L K } p' he he2 (.inr rfl) ⟨c1, hrf, c2, c3, c4, ?_, ?_, ?_, hok, by rw [hP.sz]; exact h.sz, ?_⟩ hpl hP.hb rfl rfl ?_
      · intro b hb
        have := h.pu b hb
        exact ⟨(hub2 b ⟨this.1, this.2.1⟩).1, (hub2 b ⟨this.1, this.2.1⟩).2, this.2.2.1, fun j x hx => this.2.2.2 j x (hL j x hx)⟩
      · intro b hb
        have := h.qu b hb
        exact ⟨(hub2 b ⟨this.1, this.2.1⟩).1, (hub2 b ⟨this.1, this.2.1⟩).2, fun j x hx => this.2.2 j x (hL j x hx)⟩
      · intro j x hx
        exact hub2 _ (h.xu j x (hL j x hx))
      · have hW2 := hkW.size
        rintro b (e | e | e | e | e | e | e | e | ⟨j, x, hx, e⟩)
        · exact h.lo b (.inl (by rw [e, hP.hb]))
        · rcases hub with ⟨e1, e2⟩ | ⟨e1, e2⟩
          · exact h.lo b (.inr (.inl (by rw [e, e1])))
          · exact h.lo b (.inr (.inr (.inl (by rw [e, e1]))))
        · rcases hub with ⟨e1, e2⟩ | ⟨e1, e2⟩
          · exact h.lo b (.inr (.inr (.inl (by rw [e, e2]))))
          · exact h.lo b (.inr (.inl (by rw [e, e2])))
        · exact h.lo b (.inr (.inr (.inr (.inl e))))
        · exact h.lo b (.inr (.inr (.inr (.inr (.inl e)))))
        · exact h.lo b (.inr (.inr (.inr (.inr (.inr (.inl e))))))
        · exact h.lo b (.inr (.inr (.inr (.inr (.inr (.inr (.inl e)))))))
        · have e' : mb = b := Option.some.inj e
          omega
        · exact h.lo b (.inr (.inr (.inr (.inr (.inr (.inr (.inr (.inr ⟨j, x, hL j x hx, e⟩))))))))
      · exact (hkW.below hB hPSB).trans (hk3.below (Nat.le_trans hB hkW.size) hrB)
    | made n2 K mb b h1 hn2 hnd hK hroom =>
      have e : n' = n2 := Int.ofNat.inj (hn.symm.trans hn2)
      subst e
      obtain ⟨hk, ρ', p', hok, hrw, hpl, hiff, hub⟩ := h.placed hown h0 hback hP hnd hK
      rw [h.sz] at hroom
      exact absurd (hiff.2 hroom) hno
  | made n' wx G hb hn hP hyes he hat hkm =>
    cases hR with
    | bad h1 => rw [hb] at h1; cases h1
    | full n2 K mb h1 hn2 hnd hK hno2 =>
      have e : n' = n2 := Int.ofNat.inj (hn.symm.trans hn2)
      subst e
      obtain ⟨hk, ρ', p', hok, hrw, hpl, hiff, hub⟩ := h.placed hown h0 hback hP hnd hK
      rw [h.sz] at hno2
      exact absurd (hiff.1 hyes) hno2
    | made n2 K mb b h1 hn2 hnd hK hroom he2 hrf hmb hbk hk3 =>
      have e : n' = n2 := Int.ofNat.inj (hn.symm.trans hn2)
      subst e
      obtain ⟨hk, ρ', p', hok, hrw, hpl, hiff, hub⟩ := h.placed hown h0 hback hP hnd hK
      have hL : ∀ j x, restr r.L K j = some x → r.L j = some x := fun j x hx => (restr_some hx).2
      have hub2 : ∀ b, (b ≠ g.ub ∧ b ≠ g.sb) → (b ≠ G.ub ∧ b ≠ G.sb) := by
        rintro b ⟨h1, h2⟩
        rcases hub with ⟨e1, e2⟩ | ⟨e1, e2⟩
        · rw [e1, e2]; exact ⟨h1, h2⟩
        · rw [e1, e2]; exact ⟨h2, h1⟩
      have hkmP : Keeps (PS g pv) wx w2 := hkm.mono fun b e => by
        rcases e with e | e
        · exact .inr (.inr (.inl (by rw [e, hP.hb])))
        · rcases hub with ⟨e1, e2⟩ | ⟨e1, e2⟩
          · exact .inl (by rw [e, e1])
          · exact .inr (.inl (by rw [e, e1]))
      have hkW : Keeps (PS g pv) w W2 := (hk.trans hkmP).trans (Keeps.of_below hb2)
      obtain ⟨a1, a2, a3⟩ := h.prog hkW
      have hGW : HpAt W2 { G with us := made G.us G.nx k t n', nx := G.nx + (n' + 1) } := hat.keep (Keeps.of_below (S := fun _ => False) hb2) (fun h => h) (fun h => h) (fun h => h)
      have hp2 : Rw w2 pv p' := hrw.keep hkm fun b hb => by
        rintro (e | e)
        · subst e; exact hrw.ne hP.at'.h (by decide) hb
        · have := h.pu b hb
          exact (hub2 b ⟨this.1, this.2.1⟩).1 e
      have hpW : Rw W2 pv p' := hp2.keep (Keeps.of_below (S := fun _ => False) hb2) (fun _ _ h => h)
      rw [← hP.hb] at a2
      obtain ⟨c1, c2, c3, c4⟩ := St.ref hGW a1.h a2 hpW a3 hk3
      have hbad := of_decide_eq_false hb
      have hul : G.us.length = G.sz := hP.at'.ul
      have hszG : G.sz ≤ 1000000 := hP.at'.sz
      have hmk := ok_made (bk := b) (n := n') (k := k) (t := t) hok (by rw [hul]; exact hyes) (by rw [hul]; exact hszG) (fun j x hx => h.hr.lt j x (hL j x hx)) (rn := r.nx) (by omega) (by omega) (by omega)
      have hok2 := hmk.roots (p := p') (q := q) ⟨hok.rs.len, fun i hi hi' => csim_mono (fun a b h => .inl h) (hok.rs.c i hi hi')⟩
      have hW2 := hkW.size
      have hLn : ∀ j x, addL (restr r.L K) r.nx ⟨k, t, b, List.replicate n' zc⟩ j = some x → x.b = b ∨ r.L j = some x := by
        intro j x hx
        unfold addL at hx
        split at hx
        · obtain rfl := Option.some.inj hx; exact .inl rfl
        · exact .inr (hL j x hx)
      refine .yes _ { G with us := made G.us G.nx k t n', nx := G.nx + (n' + 1) } { r with mb := some mb, nx := r.nx + 1, cnt := K.length + 1, L := addL (restr r.L K) r.nx ⟨k, t, b, List.replicate n' zc⟩ } p' G.nx n' b hn (by omega) he he2
        ⟨c1, hrf, c2, c3, c4, ?_, ?_, ?_, hok2, by show r.sz = G.sz; rw [hP.sz]; exact h.sz, ?_⟩ hpl hP.hb rfl rfl ?_ (.inr ⟨rfl, rfl⟩) (by show addL _ _ _ _ = _; unfold addL; rw [if_pos rfl]) (fun i hi => ?_) ?_
      · intro b' hb'
        have := h.pu b' hb'
        refine ⟨(hub2 b' ⟨this.1, this.2.1⟩).1, (hub2 b' ⟨this.1, this.2.1⟩).2, this.2.2.1, fun j x hx => ?_⟩
        rcases hLn j x hx with e | e
        · have := h.hp.lt hb'
          omega
        · exact this.2.2.2 j x e
      · intro b' hb'
        have := h.qu b' hb'
        refine ⟨(hub2 b' ⟨this.1, this.2.1⟩).1, (hub2 b' ⟨this.1, this.2.1⟩).2, fun j x hx => ?_⟩
        rcases hLn j x hx with e | e
        · have := h.hq.lt hb'
          omega
        · exact this.2.2 j x e
      · intro j x hx
        rcases hLn j x hx with e | e
        · rw [e]
          exact hub2 b ⟨by omega, by omega⟩
        · exact hub2 _ (h.xu j x e)
      · rintro b' (e | e | e | e | e | e | e | e | ⟨j, x, hx, e⟩)
        · exact h.lo b' (.inl (by rw [e]; exact hP.hb))
        · rcases hub with ⟨e1, e2⟩ | ⟨e1, e2⟩
          · exact h.lo b' (.inr (.inl (by rw [e]; exact e1)))
          · exact h.lo b' (.inr (.inr (.inl (by rw [e]; exact e1))))
        · rcases hub with ⟨e1, e2⟩ | ⟨e1, e2⟩
          · exact h.lo b' (.inr (.inr (.inl (by rw [e]; exact e2))))
          · exact h.lo b' (.inr (.inl (by rw [e]; exact e2)))
        · exact h.lo b' (.inr (.inr (.inr (.inl e))))
        · exact h.lo b' (.inr (.inr (.inr (.inr (.inl e)))))
        · exact h.lo b' (.inr (.inr (.inr (.inr (.inr (.inl e))))))
        · exact h.lo b' (.inr (.inr (.inr (.inr (.inr (.inr (.inl e)))))))
        · have e' : mb = b' := Option.some.inj e
          omega
        · rcases hLn j x hx with e2 | e2
          · omega
          · exact h.lo b' (.inr (.inr (.inr (.inr (.inr (.inr (.inr (.inr ⟨j, x, e2, e⟩))))))))
      · exact (hkW.below hB hPSB).trans (hk3.below (Nat.le_trans hB hkW.size) hrB)
      · show gt (made G.us G.nx k t n') (G.nx + 1 + i) = zc
        rw [gt_made (by rw [hul]; exact hyes), if_neg (by omega), if_pos (by omega)]
      · show G.nx + 1 + n' ≤ (made G.us G.nx k t n').length
        unfold made
        rw [spl_len, List.length_set, hul]
        omega
end Go.Proofs.Ytidjfmkclabagaa
