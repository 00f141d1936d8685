/-
  Proved: the contract of the program's Useful. Condition: what fits a machine.
-/
import Derived.Test.YtcieoelogocjkaaS0
import Derived.Test.YtcieoelogocjkaaQ5
import Derived.ArgAppend
set_option linter.unusedSimpArgs false
set_option linter.unusedVariables false
namespace Go.Proofs.Ytcieoelogocjkaa
open Go.RowKit

theorem res_two {fn : Func} {t p : Tmp} (h : fn.results = #[.tmp t, .cell p 31]) {tmps : Array Value} {w : World} {b : Nat} {k a : Int} {v : Value} (ht : tmps.getD p undef = .pointer (some ⟨b, 0, none⟩)) (hv : tmps.getD t undef = v) (hb : w.heap[b]? = some (.cells #[.int .i64 k, .int .i64 a] 31 (0, 0))) :
    (results fn tmps).run Try.prog w = .ok (.tuple #[v, .agg #[.int .i64 k, .int .i64 a]]) w := by
  have hp' : tmps[p]?.getD undef = .pointer (some ⟨b, 0, none⟩) := by simpa using ht
  have hv' : tmps[t]?.getD undef = v := by simpa using hv
  simp [results, h, hp', hv', asAddr, run_loadVar_row w b 31 31 _ (0, 0) _ hb Try.underlying31 rfl (by kernel_rfl), Sem.run_bind, Result.andThen]
def headA (ao : Option Addr) (n : Nat) : Option Addr := if n = 0 then ao else ao.map (fun x : Addr => x.add 0)
theorem slice_all (ao : Option Addr) (n cap : Nat) (h : n ≤ cap) (w : World) : (Instr.slice 22 (.slice ao n cap) none (some (.int .i64 n)) (some (.int .i64 n))).run Try.prog w = .ok (.slice (headA ao n) n n) w := by
  have he : Try.prog.elem 22 = 23 := by simp [Program.elem, Try.underlying22]
  rw [run_slice_hm (ht := by rw [he]; exact Try.underlying22) (h0 := by omega) (h2 := by omega) (h3 := by omega), he, size23]
  simp [Result.andThen, sliced, headA]
theorem slice_last (g n cap : Nat) (h : n ≤ cap) (h1 : 0 < cap) (w : World) : (Instr.slice 38 (.slice (some ⟨g, 0, none⟩) (n + 1) cap) none (some (.int .i64 n)) none).run Try.prog w = .ok (.slice (some ⟨g, 0, none⟩) n cap) w := by
  have he : Try.prog.elem 38 = 46 := by simp [Program.elem, Try.underlying38]
  rw [run_slice_h (ht := by rw [he]; exact Try.underlying38) (h0 := by omega) (h2 := by omega), he, size46]
  simp [Result.andThen, sliced, Addr.add_lit]
theorem SlvL.append {w : World} {D : Nat → Prop} : ∀ {l l' : List (List Pt)} {vs vs' : List Value}, SlvL w D l vs → SlvL w D l' vs' → SlvL w D (l ++ l') (vs ++ vs')
  | [], _, [], _, _, h' => h'
  | p :: ps, _, r :: rs, _, h, h' => ⟨h.1, h.2.append h'⟩
theorem SlvL.front {w : World} {D : Nat → Prop} : ∀ {l l' : List (List Pt)} {vs : List Value}, SlvL w D (l ++ l') vs → SlvL w D l (vs.take l.length)
  | [], _, _, _ => by simp [SlvL]
  | p :: ps, l', r :: rs, h => by
    rw [List.cons_append] at h
    exact ⟨h.1, SlvL.front h.2⟩
/-- the rows but the last, out of what one owns -/
theorem mat_front {D : Nat → Prop} {w : World} {B n g cap : Nat} {xs : List Value} {e : TypeId} {rows : List (List Pt)} {q : List Pt} (h : w.ownsRow B e 1 (.slice (some ⟨g, 0, none⟩) (n + 1) cap) (n + 1) xs) (hD : D g) (hr : SlvL w D (rows ++ [q]) xs) (hn : rows.length = n) : MatD w D rows (some ⟨g, 0, none⟩) cap := by
  have hcap : n + 1 ≤ cap := by
    rcases h.2 with ⟨hv, _⟩ | ⟨_, _, _, hv, _, _, h2, _⟩
    · cases hv
    · cases hv; exact h2
  refine ⟨by omega, xs.take rows.length, hr.front, fun h0 => ⟨g, 0, rfl, hD, fun j u hu => ?_⟩⟩
  have hu' : xs[j]? = some u := by
    rw [List.getElem?_take] at hu
    split at hu
    · exact hu
    · cases hu
  have := h.cells (g := g) rfl j u hu'
  rwa [Addr.add_lit] at this
theorem fitsR_get {rows : List (List Pt)} (h : FitsR rows) {i : Nat} (hi : i < rows.length) : FitsL rows[i] := h _ (List.getElem_mem hi)
theorem own_some {w : World} {B n e size : Nat} {v : Value} {xs : List Value} (h : w.ownsRow B e size v (n + 1) xs) : ∃ g cap, v = .slice (some ⟨g, 0, none⟩) (n + 1) cap := by
  rcases h.2 with ⟨_, h0⟩ | ⟨g, cap, _, hv, _⟩
  · cases h0
  · exact ⟨g, cap, hv⟩
def LenOk (rows : List (List Pt)) : Prop := ∀ r ∈ rows, r.length ≤ 2000000000000
/-- what Useful's loop holds -/
structure ULoop (B w0 n : Nat) (rows : List (List Pt)) (w : World) (i left : Nat) (v : Value) : Prop where
  lft : w.heap[w0 + 1]? = some (.cells #[.int .i64 left] 3 (0, 0))
  fault : w.heap[w0]? = some (.cells #[.int .i64 0, .int .i64 0] 31 (0, 0))
  out : OutD 46 B w0 w v (rows.take i)
  chk : chk n rows 0 150 = chk n (rows.drop i) i left
  le : left ≤ 150

set_option maxRecDepth 100000 in
set_option maxHeartbeats 8000000 in
theorem pUseful_any (rows : List (List Pt)) (q : List Pt) (ao aq : Option Addr) (cap cq : Nat) (w : World) (hmat : MatV w w.heap.size rows ao cap) (hsl : SlV w w.heap.size q aq cq) (hF : FitsR rows) (hFq : FitsL q) (hR : rows.length ≤ 5864062014634) (hL : LenOk rows) (hq : q.length ≤ 2000000000000) :
    Calls Try.prog 8 #[.slice ao rows.length cap, .slice aq q.length cq] w fun e w' => e = .returned (.tuple #[.bool (answer rows q).1, .agg #[.int .i64 (answer rows q).2.1, .int .i64 (answer rows q).2.2]]) ∧ Below w.heap.size w w' := by
  obtain ⟨i23, hi, hz0, hz1, hz2⟩ := info_parts info23
  have HI := Lib.hid hi
  obtain ⟨i46, hi, hy0, hy1, hy2⟩ := info_parts info46
  have HI46 := Lib.hid hi
  obtain ⟨n, hn⟩ : ∃ n, n = q.length := ⟨_, rfl⟩
  obtain ⟨len, hlen⟩ : ∃ len, len = rows.length := ⟨_, rfl⟩
  obtain ⟨vs, hvs, hcells⟩ := hmat.2
  have hcap : len ≤ cap := by rw [hlen]; exact hmat.1
  obtain ⟨rx, hrx⟩ : ∃ rx, rx = rows ++ [q] := ⟨_, rfl⟩
  have hrxl : rx.length = len + 1 := by rw [hrx, hlen]; simp
  have hFx : FitsR rx := by
    rw [hrx]
    intro r hr
    rcases List.mem_append.1 hr with hr | hr
    · exact hF r hr
    · simp only [List.mem_singleton] at hr; subst hr; exact hFq
  have hLx : LenOk rx := by
    rw [hrx]
    intro r hr
    rcases List.mem_append.1 hr with hr | hr
    · exact hL r hr
    · simp only [List.mem_singleton] at hr; subst hr; exact hq
  have hvl : vs.length = len := by rw [hlen]; exact hvs.len
  rw [← hn, ← hlen]
  rw [← hlen] at hR
  rw [← hn] at hq
  obtain ⟨ans, hans⟩ : ∃ ans, ans = answer rows q := ⟨_, rfl⟩
  rw [← hans]
  obtain ⟨W, hW⟩ : ∃ W, W = (w.alloc (.cells #[.int .i64 0, .int .i64 0] 31)).alloc (.cells #[.int .i64 150] 3) := ⟨_, rfl⟩
  have hB : Below w.heap.size w W := by rw [hW]; exact balloc (balloc (Below.refl _ _) _) _
  have e1 := heap_alloc_new w (.cells #[.int .i64 0, .int .i64 0] 31)
  have hflt : W.heap[w.heap.size]? = some (.cells #[.int .i64 0, .int .i64 0] 31 (0, 0)) := by rw [hW]; exact blk_alloc e1 _
  have hleft : W.heap[w.heap.size + 1]? = some (.cells #[.int .i64 150] 3 (0, 0)) := by
    rw [hW]
    have e := heap_alloc_new (w.alloc (.cells #[.int .i64 0, .int .i64 0] 31)) (.cells #[.int .i64 150] 3)
    rw [World.size_alloc] at e
    exact e
  have hsW : W.heap.size = w.heap.size + 2 := by rw [hW, World.size_alloc, World.size_alloc]
  obtain ⟨at', hat'⟩ : ∃ at', at' = headA ao len := ⟨_, rfl⟩
  have hslr : ∀ w' : World, (Instr.slice 22 (.slice ao len cap) none (some (.int .i64 len)) (some (.int .i64 len))).run Try.prog w' = .ok (.slice at' len len) w' := by rw [hat']; exact slice_all ao len cap hcap
  have hnone : at' = none → len = 0 ∧ len = 0 := by
    intro hno
    by_cases h0 : len = 0
    · exact ⟨h0, h0⟩
    · obtain ⟨b, off, ha, _⟩ := hcells (by omega)
      rw [hat', headA, if_neg h0, ha] at hno
      cases hno
  have hold : ∀ w' : World, Below w.heap.size w w' → ∀ bb, at' = some bb → ∀ j u, vs[j]? = some u → w'.cell? (bb.add j) = some u := by
    intro w' hbw bb hbb j u hu
    have hj : j < vs.length := (List.getElem?_eq_some_iff.1 hu).1
    have h0 : len ≠ 0 := by omega
    obtain ⟨b, off, ha, hb, hc⟩ := hcells (by omega)
    rw [hat', headA, if_neg h0, ha] at hbb
    simp only [Option.map_some, Option.some.injEq, Addr.add_lit] at hbb
    subst hbb
    rw [Addr.add_lit]
    exact (below_cells hbw b hb _).trans (hc j u hu)
  have HB := Lib.hid hB
  have HFLT := Lib.hid hflt
  have HLEFT := Lib.hid hleft
  have HSW := Lib.hid hsW
  have HW := Lib.hid hW
  have HMAT := Lib.hid hmat
  have HSL := Lib.hid hsl
  have HF := Lib.hid hF
  have HFQ := Lib.hid hFq
  have HFX := Lib.hid hFx
  have HLX := Lib.hid hLx
  have HN := Lib.hid hn
  have HLEN := Lib.hid hlen
  have HVS := Lib.hid hvs
  have HVL := Lib.hid hvl
  have HRX := Lib.hid hrx
  have HRXL := Lib.hid hrxl
  have HANS := Lib.hid hans
  have HNONE := Lib.hid hnone
  have HOLD := Lib.hid hold
  clear hi hB hflt hleft hsW hW hmat hsl hF hFq hFx hLx hn hlen hvs hvl hrx hrxl hans hnone hold hcells hat' e1 hL
  go_enter Try.func8, Try.ntmps8
  go_upto_region 3 with fail
  rw [show (w.alloc (.cells #[.int .i64 0, .int .i64 0] 31)).alloc (.cells #[.int .i64 150] 3) = W from HW.out.symm]
  go_wp2_with (first | (at_builtin; go_must (refine wpList_append_grows _ rfl (.tmp 18) (.tmp 20) 22 rfl 23 i23 _ 1 24 Try.underlying22 HI.out hz0 hz1 hz2 rfl (by decide) at' len len vs rfl HNONE.out (by rw [HVL.out]; omega) (HOLD.out _ (HB.out.alloc HB.out.size _)) ⟨W.heap.size, 0, none⟩ 1 1 [.slice aq n cq] rfl rfl (new_cells (c := #[.slice aq n cq]) _ rfl) (by simp [Value.oneCell']) (by omega) (by unfold maxLen; omega) (by omega) ?_; intro vx w3 hownx hgx; obtain ⟨gx, kx, rfl⟩ := own_some hownx)))
  obtain ⟨xs, hxs⟩ : ∃ xs, xs = vs ++ [.slice aq n cq] := ⟨_, rfl⟩
  rw [← hxs] at hownx
  have hgs := hgx.size
  rw [World.size_alloc] at hgs
  have hB3 : Below W.heap.size W w3 := ((Below.refl _ _).alloc (Nat.le_refl _) _).grown hgx (by simp) (fun g e => by cases e)
  have hsW := HSW.out
  have hB03 : Below w.heap.size w w3 := HB.out.trans (hB3.mono HB.out.size)
  have hslv : SlvL w3 (fun b => b < w.heap.size) rx xs := by
    rw [HRX.out, hxs, HN.out]
    exact SlvL.keep (below_cells hB03) (HVS.out.append ⟨⟨aq, cq, rfl, HSL.out⟩, trivial⟩)
  have hownx2 : w3.ownsRow W.heap.size 23 1 (.slice (some ⟨gx, 0, none⟩) (len + 1) kx) (len + 1) xs := own_base hownx (by simp)
  have hgxl := hownx2.lt gx rfl
  have hxc : ∀ j u, xs[j]? = some u → w3.cell? ⟨gx, 0 + j, none⟩ = some u := fun j u hu => by
    have h := hownx2.cells (g := gx) rfl j u hu
    rwa [Addr.add_lit] at h
  have hlft3 : w3.heap[w.heap.size + 1]? = some (.cells #[.int .i64 150] 3 (0, 0)) := blk_below HLEFT.out hB3 (by omega)
  have hflt3 : w3.heap[w.heap.size]? = some (.cells #[.int .i64 0, .int .i64 0] 31 (0, 0)) := blk_below HFLT.out hB3 (by omega)
  have HB3 := Lib.hid hB3
  have HB03 := Lib.hid hB03
  have HSLV := Lib.hid hslv
  have HXC := Lib.hid hxc
  have HL3 := Lib.hid hlft3
  have HF3 := Lib.hid hflt3
  obtain ⟨nx, hnx⟩ : ∃ nx, nx = len + 1 := ⟨_, rfl⟩
  have hnx1 : nx ≤ 5864062014635 := by omega
  have HNX := Lib.hid hnx
  have HSIZ := Lib.hid hsW
  have HGXL := Lib.hid hgxl
  have hle3 : W.heap.size ≤ w3.heap.size := by omega
  clear hxs hownx hgs hB3 hB03 hslv hownx2 hxc hlft3 hflt3 hgx hsW hgxl
  rw [← hnx]
  rw [show ((len : Int) + 1) = (nx : Int) from by omega]
  clear hnx
  go_loopw [7, 23] (fun v i wr => ∃ k left : Nat, k ≤ nx ∧ i = .int .i64 k ∧ ULoop w3.heap.size w.heap.size n rx wr k left v ∧ w3.grownBy wr (some (w.heap.size + 1))) (fun _ i _ => nx - (intOf i).toNat)
  case atStart => exact ⟨0, 150, Nat.zero_le _, rfl, ⟨HL3.out, HF3.out, ⟨[], World.ownsRow_nil _ _ _ _, trivial⟩, rfl, Nat.le_refl _⟩, World.grownBy.refl _ _⟩
  case round =>
    obtain ⟨k, left, hk, rfl, hul, hgr⟩ := hrel
    obtain ⟨wo, hwo⟩ : ∃ wo : World, wo = wr := ⟨_, rfl⟩
    subst hwo
    have HUL := Lib.hid hul
    have HGR := Lib.hid hgr
    have hso := hgr.size
    have hBo : Below w.heap.size w wo := HB03.out.grown hgr HB03.out.size (fun g e => by cases e; omega)
    have HBO := Lib.hid hBo
    clear hul hgr hBo
    by_cases hlt : k < nx
    · have hd : decide ((k : Int) < (nx : Int)) = true := by simp; omega
      have hkr : k < rx.length := by rw [HRXL.out, ← HNX.out]; exact hlt
      obtain ⟨ar, cr, hxk, hsr⟩ := HSLV.out.get hkr
      obtain ⟨r, hr⟩ : ∃ r, r = rx[k] := ⟨_, rfl⟩
      rw [← hr] at hxk hsr
      have hFr : FitsL r := by rw [hr]; exact fitsR_get HFX.out hkr
      have hmb : r.length ≤ 2000000000000 := HLX.out r (by rw [hr]; exact List.getElem_mem hkr)
      have hck := chk_take (n := n) hkr left
      rw [← hr, ← HUL.out.chk] at hck
      have hix : ∀ w' : World, (Instr.indexAt 22 (.slice (some ⟨gx, 0, none⟩) nx kx) (.int .i64 k)).run Try.prog w' = .ok (.pointer (some ⟨gx, 0 + k * 1, none⟩)) w' := fun w' => index_at Try.underlying22 size23 rfl nx kx k hlt w'
      rw [Nat.mul_one] at hix
      have hgl := HGXL.out
      have hsz := HSIZ.out
      have hcell : wo.cell? ⟨gx, 0 + k, none⟩ = some (.slice ar r.length cr) := (grown_cells HGR.out hgl.2 (fun e => by cases e; omega) _).trans (HXC.out k _ hxk)
      have htake : rx.take (k + 1) = rx.take k ++ [r] := by rw [List.take_succ_eq_append_getElem hkr, hr]
      obtain ⟨m, hm⟩ : ∃ m, m = r.length := ⟨_, rfl⟩
      rw [← hm] at hcell hmb
      obtain ⟨ok0, hok0⟩ : ∃ ok0, ok0 = decide (r.length = n) := ⟨_, rfl⟩
      rw [← hok0] at hck
      have hb0 : ((m : Int) == (n : Int)) = ok0 := by rw [hok0, hm, Bool.eq_iff_iff]; simp; omega
      have hsr3 : SlD wo (fun b => b < w.heap.size) r ar cr := hsr.keep fun b hb off => grown_cells HGR.out (by omega) (fun e => by cases e; omega) off
      have HFR := Lib.hid hFr
      have HCK := Lib.hid hck
      have HSR := Lib.hid hsr3
      have HM := Lib.hid hm
      have HTK := Lib.hid htake
      have HL4 := HUL
      obtain ⟨z0, hz0'⟩ : ∃ z0, z0 = 0 + k := ⟨_, rfl⟩
      rw [← hz0'] at hix hcell
      have hle := HUL.out.le
      clear hxk hsr hr hFr hck htake hm hok0 hsr3 hkr hgl hz0' hsz
      go_wp2_with fail
      go_loopw [10, 35] (fun v i wi => ∃ (j : Nat) (ok' : Bool) (l' : Nat), j ≤ m ∧ v = .bool ok' ∧ i = .int .i64 j ∧ propL r ok0 left = propL (r.drop j) ok' l' ∧ l' ≤ 150 ∧ wi.heap[w.heap.size + 1]? = some (.cells #[.int .i64 l'] 3 (0, 0)) ∧ wo.grownBy wi (some (w.heap.size + 1))) (fun _ i _ => m - (intOf i).toNat)
      case atStart => exact ⟨0, ok0, left, Nat.zero_le _, rfl, rfl, rfl, hle, HUL.out.lft, World.grownBy.refl _ _⟩
      case round =>
        obtain ⟨j, ok', l', hj, rfl, rfl, hpe, hl', hbr, hgr⟩ := hrel
        have HPE := Lib.hid hpe
        have HBR := Lib.hid hbr
        have HGI := Lib.hid hgr
        have hszr := hgr.size
        have y0 : wr.cell? ⟨w.heap.size + 1, 0, none⟩ = some (.int .i64 l') := blk_cell hbr 0
        have hsz : w.heap.size + 2 ≤ W.heap.size := by have := HSIZ.out; omega
        clear hpe hbr hgr hcell hix
        by_cases hjl : j < m
        · have hdj : decide ((j : Int) < (m : Int)) = true := by simp; omega
          have hjk : j < r.length := by rw [← HM.out]; exact hjl
          have hvr : SlD wr (fun b => b < w.heap.size) r ar cr := HSR.out.keep fun d hd' off => grown_cells HGI.out (by omega) (fun e => by cases e; omega) off
          obtain ⟨g, off, row, ha, hDg, hrow, hpv⟩ := hvr.2.get (k := j) hjk
          obtain ⟨aq', cq', rfl, hkq⟩ := hpv.row
          obtain ⟨x, hx⟩ : ∃ x, x = r[j] := ⟨_, rfl⟩
          rw [← hx] at hrow hkq
          have hix : ∀ w' : World, (Instr.indexAt 23 (.slice ar m cr) (.int .i64 j)).run Try.prog w' = .ok (.pointer (some ⟨g, off + j * 6, none⟩)) w' := fun w' => index_at Try.underlying23 size26 ha m cr j hjl w'
          rw [Nat.zero_add] at hrow
          obtain ⟨p0, hp0⟩ : ∃ p0, p0 = off + j * 6 := ⟨_, rfl⟩
          rw [← hp0] at hix hrow
          have x0 : wr.cell? ⟨g, p0, none⟩ = some (.int .i64 x.k) := hrow 0 (by omega)
          have x1 : wr.cell? ⟨g, p0 + 1, none⟩ = some (.int .i64 x.n) := hrow 1 (by omega)
          have x2 : wr.cell? ⟨g, p0 + 2, none⟩ = some (.int .i64 x.o) := hrow 2 (by omega)
          have x3 : wr.cell? ⟨g, p0 + 3, none⟩ = some (.int .i64 x.a) := hrow 3 (by omega)
          have x4 : wr.cell? ⟨g, p0 + 4, none⟩ = some (.string x.s) := hrow 4 (by omega)
          have x5 : wr.cell? ⟨g, p0 + 5, none⟩ = some (.slice aq' x.kids.length cq') := hrow 5 (by omega)
          have hdrop : r.drop j = x :: r.drop (j + 1) := by rw [hx]; exact List.drop_eq_getElem_cons hjk
          have hpe := HPE.out
          rw [hdrop] at hpe
          have hfx : Fits x := fitsL_get HFR.out (by rw [hx]; exact List.getElem_mem hjk)
          have HPE2 := Lib.hid hpe
          have HKQ := Lib.hid hkq
          have HFIX := Lib.hid hfx
          have hlbr : w.heap.size + 1 < wr.heap.size := lt_of_block HBR.out
          clear ha hrow hpv hkq hx hp0 hdrop hpe hvr hDg hjk hfx
          go_upto_region 9 with fail
          obtain ⟨w2, hw2⟩ : ∃ w2, w2 = wr.alloc (.cells #[.int .i64 x.k, .int .i64 x.n, .int .i64 x.o, .int .i64 x.a, .string x.s, .slice aq' x.kids.length cq'] 26) := ⟨_, rfl⟩
          have hB2 : Below wr.heap.size wr w2 := by rw [hw2]; exact balloc (Below.refl _ _) _
          have hr2 : PB w2 wr.heap.size x aq' cq' := by rw [hw2]; exact heap_alloc_new wr _
          have hb2 : w2.heap[w.heap.size + 1]? = some (.cells #[.int .i64 l'] 3 (0, 0)) := blk_below HBR.out hB2 hlbr
          have hg2 : wo.grownBy w2 (some (w.heap.size + 1)) := gr_trans HGI.out (gr_below hB2 _)
          have u0 : w2.cell? ⟨wr.heap.size, 0, none⟩ = some (.int .i64 x.k) := blk_cell hr2 0
          have u1 : w2.cell? ⟨wr.heap.size, 1, none⟩ = some (.int .i64 x.n) := blk_cell hr2 1
          have u2 : w2.cell? ⟨wr.heap.size, 2, none⟩ = some (.int .i64 x.o) := blk_cell hr2 2
          have u3 : w2.cell? ⟨wr.heap.size, 3, none⟩ = some (.int .i64 x.a) := blk_cell hr2 3
          have u4 : w2.cell? ⟨wr.heap.size, 4, none⟩ = some (.string x.s) := blk_cell hr2 4
          have u5' : w2.cell? ⟨wr.heap.size, 5, none⟩ = some (.slice aq' x.kids.length cq') := blk_cell hr2 5
          have v0 : w2.cell? ⟨w.heap.size + 1, 0, none⟩ = some (.int .i64 l') := blk_cell hb2 0
          have HB2 := Lib.hid hB2
          have HBB2 := Lib.hid hb2
          have HG2 := Lib.hid hg2
          have HW2 := Lib.hid hw2
          have hs2 := hB2.size
          clear hw2 hr2 hb2 hg2 hB2
          go_upto_region 10 with fail
          rw [← HW2.out]
          clear x0 x1 x2 x3 x4 x5 y0 hix
          cases hok : ok' with
          | false =>
            subst hok
            have hpe := HPE2.out
            rw [propL, if_neg (by simp)] at hpe
            have HPE3 := Lib.hid hpe
            clear hpe
            go_wp2_with fail
            go_roundw
            case rel => exact ⟨j + 1, false, l', hjl, rfl, by go_num, HPE3.out, hl', HBB2.out, HG2.out⟩
            case measure => simp [intOf]; omega
          | true =>
            subst hok
            by_cases hl0 : 0 < l'
            · have hd3 : decide ((0 : Int) < (l' : Int)) = true := by simp; omega
              have hpe := HPE2.out
              rw [propL, if_pos ⟨rfl, hl0⟩] at hpe
              have HPE3 := Lib.hid hpe
              clear hpe
              go_wp2_with fail
              refine (pproper_any (parts x) x (Nat.le_refl _) (fun b => b < w.heap.size) aq' cq' (w.heap.size + 1) l' w2 (fun d hd' => ⟨by omega, by omega⟩) (HKQ.out.keep fun d hd' off => below_cells HB2.out d (by omega) off) HBB2.out hl0 hl' HFIX.out).mono ?_
              rintro e w4 ⟨rfl, hb4, hg4⟩
              have HB4 := Lib.hid hb4
              have HG4 := Lib.hid (gr_trans HG2.out hg4)
              have hle4 := propP_le x l'
              clear hb4 hg4 u0 u1 u2 u3 u4 u5' v0
              go_wp2_with fail
              go_roundw
              case rel =>
                exact ⟨j + 1, _, _, hjl, rfl, by go_num, HPE3.out, by omega, HB4.out, HG4.out⟩
              case measure => simp [intOf]; omega
            · have hd3 : decide ((0 : Int) < (l' : Int)) = false := by simp; omega
              have hpe := HPE2.out
              rw [propL, if_neg (by intro h; exact hl0 h.2)] at hpe
              have HPE3 := Lib.hid hpe
              clear hpe
              go_wp2_with fail
              go_roundw
              case rel => exact ⟨j + 1, false, l', hjl, rfl, by go_num, HPE3.out, hl', HBB2.out, HG2.out⟩
              case measure => simp [intOf]; omega
        · have hdj : decide ((j : Int) < (m : Int)) = false := by simp; omega
          have hjc : j = r.length := by rw [← HM.out]; omega
          have hfin := HPE.out
          rw [hjc, List.drop_length, propL] at hfin
          have hck := HCK.out
          rw [hfin] at hck
          have hBi : Below w.heap.size w wr := HBO.out.grown HGI.out HBO.out.size (fun g e => by cases e; omega)
          have hfl : wr.heap[w.heap.size]? = some (.cells #[.int .i64 0, .int .i64 0] 31 (0, 0)) := blk_grown HUL.out.fault HGI.out (by simp)
          have HCK2 := Lib.hid hck
          have HBI := Lib.hid hBi
          have HFL := Lib.hid hfl
          clear hfin hjc hck hBi hfl y0
          cases hok : ok' with
          | false =>
            subst hok
            have hans : ans = (false, 21, (k : Int)) := by
              have hck := HCK2.out
              rw [if_neg (by simp)] at hck
              rw [HANS.out]
              unfold answer
              rw [← HN.out, ← HRX.out, hck]
            have c0 : wr.cell? ⟨w.heap.size, 0, none⟩ = some (.int .i64 0) := blk_cell HFL.out 0
            have c1 : wr.cell? ⟨w.heap.size, 1, none⟩ = some (.int .i64 0) := blk_cell HFL.out 1
            have f0 := blk_free HFL.out 0
            have f1 := blk_free HFL.out 1
            have lf := lt_of_block HFL.out
            have HANS2 := Lib.hid hans
            clear hans
            go_wp2_with fail
            have hblk : ((wr.setCell ⟨w.heap.size, 0, none⟩ (.int .i64 21)).setCell ⟨w.heap.size, 1, none⟩ (.int .i64 k)).heap[w.heap.size]? = some (.cells #[.int .i64 21, .int .i64 k] 31 (0, 0)) := blk_set (blk_set HFL.out 0 _) 1 _
            refine bodyPost_ret (res_two Try.results8 rfl rfl hblk) rfl ?_
            rw [HANS2.out]
            exact ⟨rfl, (HBI.out.setCell (p := ⟨w.heap.size, 0, none⟩) (Nat.le_refl _) _).setCell (p := ⟨w.heap.size, 1, none⟩) (Nat.le_refl _) _⟩
          | true =>
            subst hok
            have hck := HCK2.out
            rw [if_pos rfl] at hck
            have HCK3 := Lib.hid hck
            obtain ⟨xs7, hox, hsx⟩ := HUL.out.out
            obtain ⟨lk, hlk⟩ : ∃ lk, lk = (rx.take k).length := ⟨_, rfl⟩
            rw [← hlk] at hox
            have hlkb : lk ≤ 5864062014634 := by
              rw [List.length_take] at hlk
              omega
            have hox2 : wr.ownsRow w3.heap.size 46 1 u7 lk xs7 := own_keep hox HGI.out (fun q hq => by cases hq; exact ⟨_, _, _, HUL.out.lft, by decide⟩)
            have hlow : ∀ g, Value.ownBlock u7 = some g → w3.heap.size ≤ g := fun g e => (hox2.lt g e).1
            have hsx2 : SlvL wr (fun b => b < w.heap.size) (rx.take k) xs7 := hsx.keep fun b hb off => grown_cells HGI.out (by omega) (fun e => by cases e; omega) off
            have hsr2 : SlD wr (fun b => b < w.heap.size) r ar cr := HSR.out.keep fun b hb off => grown_cells HGI.out (by omega) (fun e => by cases e; omega) off
            have HOX := Lib.hid hox2
            have HSX := Lib.hid hsx2
            have HSR2 := Lib.hid hsr2
            have HLK := Lib.hid hlk
            have HLOW := Lib.hid hlow
            clear hck hox hox2 hsx hsx2 hsr2 hlk hlow
            go_wp2_with (first | (at_builtin; go_must (refine wpList_append3 rfl (.tmp 53) (.tmp 55) 38 38 rfl w3.heap.size 46 46 i46 _ 1 24 Try.underlying38 Try.underlying38 HI46.out hy0 hy1 hy2 rfl (by decide) u7 lk xs7 rfl (HOX.out.alloc _) (some ⟨wr.heap.size, 0, none⟩) 1 1 [.slice ar m cr] rfl rfl (fun _ => ⟨_, rfl, new_cells (c := #[.slice ar m cr]) _ rfl⟩) (by simp [Value.oneCell']) (by unfold maxLen; omega) (by omega) (by simp; omega) ?_; intro v7 w7 hown7 hg7 hat7)))
            go_roundw
            case rel =>
              have hB7 : Below (w.heap.size + 2) wr w7 := ((Below.refl _ _).alloc (by omega) _).grown hg7 (by simp; omega) (fun g e => by have := HLOW.out g e; omega)
              have hB7' : Below w.heap.size wr w7 := hB7.mono (by omega)
              refine ⟨k + 1, l', hlt, by go_num, ⟨blk_below HBR.out hB7 (by omega), blk_below HFL.out hB7 (by omega), ?_, HCK3.out, hl'⟩, ?_⟩
              · refine ⟨xs7 ++ [.slice ar r.length cr], ?_, ?_⟩
                · rw [HTK.out, List.length_append, ← HLK.out, ← HM.out]
                  exact hown7
                · rw [HTK.out]
                  exact (SlvL.keep (below_cells hB7') HSX.out).snoc ⟨_, _, rfl, HSR2.out.keep (below_cells hB7')⟩
              · exact gr_own (gr_trans (gr_trans HGR.out HGI.out) (gr_below (balloc (Below.refl _ _) _) _)) hg7 (fun g e => HLOW.out g e)
            case measure => simp [intOf]; omega
    · have hd : decide ((k : Int) < (nx : Int)) = false := by simp; omega
      have hke : k = rx.length := by rw [HRXL.out, ← HNX.out]; omega
      have hsb := HBO.out.size
      have hck := HUL.out.chk
      rw [hke, List.drop_length, Proofs.Ytcieoelogocjkaa.chk, HRX.out, HN.out] at hck
      obtain ⟨hE, hP, hM, hR6⟩ := chk_small hck
      have hans : ans = (usefulD (meas rows q + 1) rows q, 0, 0) := by
        rw [HANS.out]
        unfold answer
        rw [hck]
      obtain ⟨xs7, hox, hsx⟩ := HUL.out.out
      rw [hke, List.take_length] at hox hsx
      rw [HRXL.out] at hox
      obtain ⟨g7, c7, rfl⟩ := own_some hox
      have hg7l := hox.lt g7 rfl
      have hc7 : len + 1 ≤ c7 := by
        rcases hox.2 with ⟨hv, _⟩ | ⟨_, _, _, hv, _, _, h2, _⟩
        · cases hv
        · cases hv; exact h2
      rw [HRX.out] at hsx
      have hmatf : MatV wo wo.heap.size rows (some ⟨g7, 0, none⟩) c7 := mat_front hox hg7l.2 (hsx.mono fun b hb => by omega) HLEN.out.symm
      have hslr7 : ∀ w' : World, (Instr.slice 38 (.slice (some ⟨g7, 0, none⟩) (len + 1) c7) none (some (.int .i64 len)) none).run Try.prog w' = .ok (.slice (some ⟨g7, 0, none⟩) len c7) w' := fun w' => slice_last g7 len c7 (by omega) (by omega) w'
      have HE := Lib.hid hE
      have HP := Lib.hid hP
      have HM := Lib.hid hM
      have HR6 := Lib.hid hR6
      have HANS2 := Lib.hid hans
      have HMATF := Lib.hid hmatf
      have HSLF := Lib.hid (SlV.on HSL.out HBO.out)
      clear hke hck hE hP hM hR6 hans hox hsx hg7l hmatf
      go_wp2_with fail
      rw [HLEN.out, HN.out]
      refine (puseful_any (meas rows q + 1) rows q (Nat.lt_succ_self _) (some ⟨g7, 0, none⟩) aq c7 cq wo HE.out HP.out HF.out HFQ.out HR6.out HM.out HMATF.out HSLF.out).mono ?_
      rintro e w8 ⟨rfl, hb8⟩
      have hfl8 : w8.heap[w.heap.size]? = some (.cells #[.int .i64 0, .int .i64 0] 31 (0, 0)) := blk_below HUL.out.fault hb8 (lt_of_block HUL.out.fault)
      have c0 : w8.cell? ⟨w.heap.size, 0, none⟩ = some (.int .i64 0) := blk_cell hfl8 0
      have c1 : w8.cell? ⟨w.heap.size, 1, none⟩ = some (.int .i64 0) := blk_cell hfl8 1
      have f0 := blk_free hfl8 0
      have f1 := blk_free hfl8 1
      have lf := lt_of_block hfl8
      have HFL8 := Lib.hid hfl8
      have HB8 := Lib.hid (HBO.out.trans (hb8.mono hsb))
      obtain ⟨bo, hbo⟩ : ∃ bo, bo = usefulD (meas rows q + 1) rows q := ⟨_, rfl⟩
      rw [← hbo]
      have hans := HANS2.out
      rw [← hbo] at hans
      have HANS3 := Lib.hid hans
      clear hb8 hfl8 hbo hans
      go_wp2_with fail
      have hblk : ((w8.setCell ⟨w.heap.size, 0, none⟩ (.int .i64 0)).setCell ⟨w.heap.size, 1, none⟩ (.int .i64 0)).heap[w.heap.size]? = some (.cells #[.int .i64 0, .int .i64 0] 31 (0, 0)) := blk_set (blk_set HFL8.out 0 _) 1 _
      refine bodyPost_ret (res_two Try.results8 rfl rfl hblk) rfl ?_
      rw [HANS3.out]
      exact ⟨rfl, (HB8.out.setCell (p := ⟨w.heap.size, 0, none⟩) (Nat.le_refl _) _).setCell (p := ⟨w.heap.size, 1, none⟩) (Nat.le_refl _) _⟩
end Go.Proofs.Ytcieoelogocjkaa
