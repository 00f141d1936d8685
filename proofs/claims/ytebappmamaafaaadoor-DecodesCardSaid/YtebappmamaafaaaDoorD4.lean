/-
  Proved: the contract of the program's reader of a code. Condition: the table of forms.
-/
import Derived.Test.YtebappmamaafaaaDoorD3
set_option linter.unusedSimpArgs false
set_option linter.unusedVariables false
namespace Go.Proofs.YtebappmamaafaaaDoor
open Go.RowKit

/-- the code's block -/
abbrev SC (bc : Nat) (t f : Value) (W : World) : Prop := W.heap[bc]? = some (.cells #[t, f] 25 (0, 0))
/-- what drawn regions read and write of it -/
abbrev SCA (bc : Nat) (t f : Value) (W : World) : Prop :=
  SC bc t f W ∧ (W.cell? ⟨bc, 0, Option.none⟩ = some t ∧ W.cell? ⟨bc, 1, Option.none⟩ = some f) ∧ (W.frozen? ⟨bc, 0, Option.none⟩ = false ∧ W.frozen? ⟨bc, 1, Option.none⟩ = false)
theorem SC.a {bc : Nat} {t f : Value} {W : World} (h : SC bc t f W) : SCA bc t f W := ⟨h, ⟨blk_cell h 0, blk_cell h 1⟩, ⟨blk_free h 0, blk_free h 1⟩⟩
theorem SCA.drew {bc : Nat} {t f : Value} {W : World} (h : SCA bc t f W) : SCA bc t f W.drew := h
theorem SCA.alloc {bc : Nat} {t f : Value} {W : World} (h : SCA bc t f W) (o : Obj) : SCA bc t f (W.alloc o) := SC.a (blk_alloc h.1 o)
theorem SC.set2 {bc : Nat} {t f : Value} {W : World} (h : SC bc t f W) (t' f' : Value) : SC bc t' f' ((W.setCell ⟨bc, 0, Option.none⟩ t').setCell ⟨bc, 1, Option.none⟩ f') := blk_set (blk_set h _ _) _ _
theorem SCA.set2 {bc : Nat} {t f : Value} {W : World} (h : SCA bc t f W) : SCA bc t f ((W.setCell ⟨bc, 0, Option.none⟩ t).setCell ⟨bc, 1, Option.none⟩ f) := SC.a (SC.set2 h.1 t f)
theorem RStep.set2 {w W : World} {p : Nat} {s : ByteArray} {a : Nat} (h : RStep w W p s a) (b : Nat) (u v : Value) (hp : p < w.heap.size) (hb : w.heap.size ≤ b) : RStep w ((W.setCell ⟨b, 0, Option.none⟩ u).setCell ⟨b, 1, Option.none⟩ v) p s a :=
  (h.set b 0 u hp hb).set b 1 v hp hb
theorem ErrAt.set2 {W : World} {b e : Nat} {f : Int × Int} (h : ErrAt W e f) (hb : e ≠ b) (u v : Value) : ErrAt ((W.setCell ⟨b, 0, Option.none⟩ u).setCell ⟨b, 1, Option.none⟩ v) e f :=
  blk_set_ne (blk_set_ne h hb _ _) hb _ _
theorem RStep.drewN {w W : World} {p : Nat} {s : ByteArray} {a : Nat} (h : RStep w W p s a) (n : Nat) : RStep w (W.drewN n) p s a := ⟨h.rd, gr_trans h.gr (gr_drew W n _)⟩
def cval (t f : Value) : Value := .agg #[t, f]
def fct (f : Fn) : Fc := (f.free, f.slots, f.ins)
def Cd.ct (c : Cd) : Cc := (c.texts, c.funs.map fct)
/-- a code in blocks of its own from B on -/
def CodeOwn (W : World) (B : Nat) (c : Cd) : Prop :=
  W.ownsRow B 9 1 (.slice c.ta c.texts.length c.tc) c.texts.length (c.texts.map Value.string) ∧ W.ownsRow B 48 3 (.slice c.fa c.funs.length c.fc) c.funs.length (c.funs.flatMap fnRow) ∧
    (∀ f ∈ c.funs, W.ownsRow B 50 3 (.slice f.ao f.ins.length f.cap) f.ins.length (f.ins.flatMap insRow)) ∧ (∀ f ∈ c.funs, in64 f.free ∧ in64 f.slots ∧ ∀ x ∈ f.ins, in64 x.1 ∧ in64 x.2.1 ∧ in64 x.2.2)
def CodeDPost (p : Nat) (s : ByteArray) (w : World) (e : Ending) (w' : World) : Prop :=
  match codeD s with
  | .inl f => ∃ ao n cap ao2 n2 cap2 b a', e = .returned (.tuple #[cval (.slice ao n cap) (.slice ao2 n2 cap2), errv b]) ∧ RStep w w' p s a' ∧ ErrAt w' b f
  | .inr ct => ∃ (c : Cd) (a' : Nat), c.ct = ct ∧ e = .returned (.tuple #[c.val, .nilIface]) ∧ RStep w w' p s a' ∧ CodeOwn w' w.heap.size c
theorem headD_step (s : ByteArray) (l : List UInt8) (k : Nat) (h : k < l.length) : headD s (l.drop k) k = if k = s.size then some (16, (k : Int)) else if s.data.toList.getD k 0 = l.getD k 0 then headD s (l.drop (k + 1)) (k + 1) else some (15, (k : Int)) := by
  rw [List.drop_eq_getElem_cons h]
  have e : l.getD k 0 = l[k] := by rw [List.getD_eq_getElem?_getD, List.getElem?_eq_getElem h]; rfl
  rw [e]
  rfl

theorem byte_ne (s : ByteArray) (k : Nat) (h : k < s.size) (hk : k < 3) :
    (((s[k]'h).toNat : Int) != (((ByteArray.mk #[77, 76, 49])[k]'hk).toNat : Int)) = !(decide (s.data.toList.getD k 0 = headB.getD k 0)) := by
  have e1 : s.data.toList.getD k 0 = s[k]'h := by
    have : k < s.data.toList.length := by rw [Array.length_toList]; exact h
    rw [List.getD_eq_getElem?_getD, List.getElem?_eq_getElem this]
    rfl
  have e2 : headB.getD k 0 = (ByteArray.mk #[77, 76, 49])[k]'hk := by
    rcases (by omega : k = 0 ∨ k = 1 ∨ k = 2) with rfl | rfl | rfl <;> rfl
  rw [e1, e2]
  generalize s[k] = u
  generalize (ByteArray.mk #[77, 76, 49])[k] = v
  by_cases h : u = v
  · subst h; simp
  · have h2 : ¬ u.toNat = v.toNat := fun e => h (UInt8.toNat_inj.1 e)
    simp [h]
    omega

def wfI (x : Ic) : Prop := in64 x.1 ∧ in64 x.2.1 ∧ in64 x.2.2
def wfF (f : Fc) : Prop := in64 f.1 ∧ in64 f.2.1 ∧ ∀ x ∈ f.2.2, wfI x
theorem in64_nat {n : Nat} (h : n < 4294967296) : in64 (n : Int) := by unfold in64; omega
theorem setOp_wf {x : Ic} {i : Nat} {v : Int} (h : wfI x) (hv : in64 v) : wfI (setOp x i v) := by
  unfold setOp
  split
  · exact ⟨h.1, hv, h.2.2⟩
  · exact ⟨h.1, h.2.1, hv⟩
theorem opsD_wf (s : ByteArray) (l : List UInt8) : ∀ (i : Nat) (x : Ic) (a : Nat) (r : Ic) (a' : Nat), opsD s l i x a = .inr (r, a') → wfI x → wfI r := by
  induction l with
  | nil => intro i x a r a' h hx; cases h; exact hx
  | cons k l ih =>
    intro i x a r a' h hx
    unfold opsD at h
    split at h
    · split at h
      · cases h
      · rename_i v hv
        split at h
        · cases h
        · rename_i hb
          refine ih _ _ _ _ _ h (setOp_wf hx ?_)
          unfold in64
          omega
    · split at h
      · cases h
      · rename_i v hv
        have h2 : v < 65536 := (numB_lt hv).1
        exact ih _ _ _ _ _ h (setOp_wf hx (in64_nat (by omega)))
theorem insD_wf {s : ByteArray} {a : Nat} {r : Ic} {a' : Nat} (h : insD s a = .inr (r, a')) : wfI r := by
  unfold insD at h
  split at h
  · cases h
  · rename_i v hv
    have h2 : v < 256 := (numB_lt hv).1
    split at h
    · cases h
    · exact opsD_wf _ _ _ _ _ _ _ h ⟨in64_nat (by omega), in64_nat (n := 0) (by omega), in64_nat (n := 0) (by omega)⟩
theorem inssD_wf (s : ByteArray) (n : Nat) : ∀ (l : List Ic) (a : Nat) (r : List Ic) (a' : Nat), inssD s n l a = .inr (r, a') → (∀ x ∈ l, wfI x) → ∀ x ∈ r, wfI x := by
  induction n with
  | zero => intro l a r a' h hl; cases h; exact hl
  | succ n ih =>
    intro l a r a' h hl
    unfold inssD at h
    split at h
    · cases h
    · rename_i x a2 hx
      refine ih _ _ _ _ h fun y hy => ?_
      rcases List.mem_append.1 hy with hy | hy
      · exact hl y hy
      · simp at hy; subst hy; exact insD_wf hx
theorem funD_wf {s : ByteArray} {a : Nat} {r : Fc} {a' : Nat} (h : funD s a = .inr (r, a')) : wfF r := by
  unfold funD at h
  split at h
  · cases h
  · rename_i v1 h1
    split at h
    · cases h
    · rename_i v2 h2
      split at h
      · cases h
      · rename_i v3 h3
        split at h
        · cases h
        · rename_i l a2 hl
          cases h
          have b1 : v1 < 65536 := (numB_lt h1).1
          have b2 : v2 < 65536 := (numB_lt h2).1
          exact ⟨in64_nat (by omega), in64_nat (by omega), inssD_wf _ _ _ _ _ _ hl (fun x hx => by cases hx)⟩
theorem funsD_wf (s : ByteArray) (n : Nat) : ∀ (l : List Fc) (a : Nat) (r : List Fc) (a' : Nat), funsD s n l a = .inr (r, a') → (∀ x ∈ l, wfF x) → ∀ x ∈ r, wfF x := by
  induction n with
  | zero => intro l a r a' h hl; cases h; exact hl
  | succ n ih =>
    intro l a r a' h hl
    unfold funsD at h
    split at h
    · cases h
    · rename_i x a2 hx
      refine ih _ _ _ _ h fun y hy => ?_
      rcases List.mem_append.1 hy with hy | hy
      · exact hl y hy
      · simp at hy; subst hy; exact funD_wf hx
theorem flatten_get (sz : Nat) (rows : List (List Value)) (h : ∀ r ∈ rows, r.length = sz) (i j : Nat) (hi : i < rows.length) (hj : j < sz) : rows.flatten[i * sz + j]? = (rows.getD i [])[j]? := by
  induction rows generalizing i with
  | nil => simp at hi
  | cons r rows ih =>
    have hr := h r (by simp)
    rw [List.flatten_cons]
    cases i with
    | zero =>
      rw [Nat.zero_mul, Nat.zero_add, List.getElem?_append_left (by omega)]
      rfl
    | succ i =>
      rw [Nat.succ_mul, List.getElem?_append_right (by omega), hr, show i * sz + sz + j - sz = i * sz + j from by omega]
      exact ih (fun r hr => h r (by simp [hr])) i (by simpa using hi)
theorem rows_own {W : World} {B e sz n cap : Nat} {ao : Option Addr} {xs : List Value} (h : W.ownsRow B e sz (.slice ao n cap) n xs) (rows : List (List Value)) (hn : rows.length = n) (hrow : ∀ r ∈ rows, r.length = sz) (hx : xs = rows.flatten) : RowsAt W W.heap.size ao sz rows := by
  intro i hi
  rcases h.2 with ⟨_, h0⟩ | ⟨g, cap', cur, hv, _, hgg, _, _, _, ht⟩
  · omega
  · cases hv
    refine ⟨g, 0, rfl, lt_of_block hgg, fun j hj => ?_⟩
    have hlt : i * sz + j < n * sz := by
      have : (i + 1) * sz ≤ n * sz := Nat.mul_le_mul_right _ (by omega)
      rw [Nat.succ_mul] at this
      omega
    rw [blk_cell hgg, Nat.zero_add, ← flatten_get sz rows hrow i j hi hj, ← hx, ← ht, List.getElem?_take, if_pos hlt, Array.getElem?_toList]
theorem own_cap {W : World} {B e sz n cap : Nat} {ao : Option Addr} {xs : List Value} (h : W.ownsRow B e sz (.slice ao n cap) n xs) : n ≤ cap := by
  rcases h.2 with ⟨hv, h0⟩ | ⟨g, cap', cur, hv, _, _, hc, _⟩
  · omega
  · cases hv; exact hc
theorem map_flat (l : List ByteArray) : l.map Value.string = (l.map fun s => [Value.string s]).flatten := by
  induction l with
  | nil => rfl
  | cons x l ih => simp [ih]
theorem codeAt_own {W : World} {B : Nat} {ts : List ByteArray} {fs : List Fn} {ao ao2 : Option Addr} {cap cap2 : Nat} (ht : W.ownsRow B 9 1 (.slice ao ts.length cap) ts.length (ts.map Value.string)) (hf : W.ownsRow B 48 3 (.slice ao2 fs.length cap2) fs.length (fs.flatMap fnRow))
    (hi : ∀ f ∈ fs, W.ownsRow B 50 3 (.slice f.ao f.ins.length f.cap) f.ins.length (f.ins.flatMap insRow)) (hwf : ∀ f ∈ fs, wfF (fct f)) : CodeAt W W.heap.size ⟨ao, cap, ao2, cap2, ts, fs⟩ := by
  refine ⟨rows_own ht _ (by simp) ?_ ?_, rows_own hf _ (by simp) ?_ ?_, fun f hm => rows_own (hi f hm) _ (by simp) ?_ ?_, fun f hm => hwf f hm, own_cap ht, own_cap hf⟩
  · intro r hr
    obtain ⟨x, _, rfl⟩ := List.mem_map.1 hr
    rfl
  · exact map_flat ts
  · intro r hr
    obtain ⟨x, _, rfl⟩ := List.mem_map.1 hr
    rfl
  · rw [List.flatMap_def]
  · intro r hr
    obtain ⟨x, _, rfl⟩ := List.mem_map.1 hr
    rfl
  · rw [List.flatMap_def]
theorem CodeOwn.at_ {W : World} {B : Nat} {c : Cd} (h : CodeOwn W B c) : CodeAt W W.heap.size c := codeAt_own h.1 h.2.1 h.2.2.1 h.2.2.2
theorem CodeOwn.alloc {W : World} {B : Nat} {c : Cd} (h : CodeOwn W B c) (o : Obj) : CodeOwn (W.alloc o) B c := ⟨h.1.alloc o, h.2.1.alloc o, fun f hf => (h.2.2.1 f hf).alloc o, h.2.2.2⟩
theorem own_lo {W : World} {B : Nat} {v : Value} {n e size : Nat} {xs : List Value} (h : W.ownsRow B e size v n xs) {b : Nat} (hb : b < B) (i : Nat) (u : Value) : (W.setCell ⟨b, i, Option.none⟩ u).ownsRow B e size v n xs :=
  ownsRow_setCell_other h (fun e => by have h2 := (h.lt _ e).1; simp only at h2; omega) _
theorem CodeOwn.set {W : World} {B : Nat} {c : Cd} (h : CodeOwn W B c) {b : Nat} (hb : b < B) (i : Nat) (u : Value) : CodeOwn (W.setCell ⟨b, i, Option.none⟩ u) B c := ⟨own_lo h.1 hb i u, own_lo h.2.1 hb i u, fun f hf => own_lo (h.2.2.1 f hf) hb i u, h.2.2.2⟩
theorem funsD_step (s : ByteArray) (n : Nat) (l : List Fc) (a : Nat) : funsD s (n + 1) l a = match funD s a with
    | .inl f => .inl f
    | .inr (x, a') => funsD s n (l ++ [x]) a' := rfl

/-- the last loop's relation -/
def FRel (s : ByteArray) (p : Nat) (w : World) (ts : List ByteArray) (ao : Option Addr) (cap m a' : Nat) (e i : Value) (wr : World) : Prop :=
  ∃ (fs : List Fn) (ao2 : Option Addr) (cap2 a2 j : Nat), i = .int .i64 j ∧ j ≤ m ∧ SC w.heap.size (.slice ao ts.length cap) (.slice ao2 fs.length cap2) wr ∧ wr.ownsRow w.heap.size 9 1 (.slice ao ts.length cap) ts.length (ts.map Value.string) ∧ RStep w wr p s a2 ∧
    ((e = .nilIface ∧ a2 ≤ s.size ∧ fs.length = j ∧ wr.ownsRow w.heap.size 48 3 (.slice ao2 fs.length cap2) fs.length (fs.flatMap fnRow) ∧ (∀ f ∈ fs, wr.ownsRow w.heap.size 50 3 (.slice f.ao f.ins.length f.cap) f.ins.length (f.ins.flatMap insRow)) ∧ funsD s (m - fs.length) (fs.map fct) a2 = funsD s m [] (a' + 2))
     ∨ (∃ b f, e = errv b ∧ codeD s = .inl f ∧ ErrAt wr b f))
theorem info48 : (Tryd.prog.info? 48).map (fun i => (i.zero, i.size, i.bytes)) = some (some (.agg #[.int .i64 0, .int .i64 0, .slice Option.none 0 0]), 3, 40) := by kernel_rfl
theorem textsD_step (s : ByteArray) (n : Nat) (l : List ByteArray) (a : Nat) : textsD s (n + 1) l a = match numB s a 1 with
    | Option.none => .inl (endF s)
    | some k => if 200 < k then .inl (17, (a : Int)) else if a + 1 + k ≤ s.size then textsD s n (l ++ [⟨(cutB s (a + 1) k).toArray⟩]) (a + 1 + k) else .inl (endF s) := rfl
theorem info9 : (Tryd.prog.info? 9).map (fun i => (i.zero, i.size, i.bytes)) = some (some (.string ⟨#[]⟩), 1, 16) := by kernel_rfl

set_option maxRecDepth 100000 in
set_option maxHeartbeats 8000000 in
theorem pcodeD_any (p : Nat) (s : ByteArray) (w : World) (hr : Rdr w p s 0) (hF : Forms w) :
    Calls Tryd.prog 23 #[.pointer (some ⟨p, 0, Option.none⟩)] w (CodeDPost p s w) := by
  have hp0 := forms_ne hr hF
  have HR := Lib.hid hr
  have HF := Lib.hid hF
  have hlt := hr.lt
  have r0 : w.cell? ⟨p, 0, Option.none⟩ = some (.string s) := blk_cell hr 0
  have hx := heap_alloc_new w (.cells #[.slice Option.none 0 0, .slice Option.none 0 0] 25)
  obtain ⟨w1, hw1⟩ : ∃ w1, w1 = w.alloc (.cells #[.slice Option.none 0 0, .slice Option.none 0 0] 25) := ⟨_, rfl⟩
  have hst1 := (RStep.start hr).alloc (.cells #[.slice Option.none 0 0, .slice Option.none 0 0] 25)
  rw [← hw1] at hx hst1
  have hsz1 : w1.heap.size = w.heap.size + 1 := by rw [hw1, World.size_alloc]
  have lx1 : w.heap.size < w1.heap.size := by omega
  have lp1 : p < w1.heap.size := by omega
  have HX : Hid (SC w.heap.size (.slice Option.none 0 0) (.slice Option.none 0 0) w1) := hx
  have HST1 := Lib.hid hst1
  have HW1 := Lib.hid hw1
  have HSZ1 := Lib.hid hsz1
  clear hr hF hx hst1 hw1 hsz1
  by_cases hbig : 4000000 < s.size
  · have hres : codeD s = .inl (1, 0) := by unfold codeD; rw [if_pos hbig]
    have HRES := Lib.hid hres
    have hd : decide ((4000000 : Int) < (s.size : Int)) = true := by simp; omega
    clear hres hbig
    as_aux_lemma =>
      go_enter Tryd.func23, Tryd.ntmps23
      go_wp2_with fail
      rw [← HW1.out]
      have hS : SCA w.heap.size (.slice Option.none 0 0) (.slice Option.none 0 0) w1 := SC.a HX.out
      go_region_held3 (fun w' => SCA w.heap.size (.slice Option.none 0 0) (.slice Option.none 0 0) w')
        (repeat (first | exact hS | apply SCA.drew | apply SCA.alloc | apply SCA.set2))
        ((go_at_call 39; refine (fail_any _ _ _ _).mono ?_; rintro e w5 ⟨rfl, rfl⟩))
      go_wp2_with fail
      refine bodyPost_ret (v := .tuple #[cval (.slice Option.none 0 0) (.slice Option.none 0 0), errv w1.heap.size]) (by simp [results, Tryd.results23, go_sem, *]; rfl) rfl ?_
      unfold CodeDPost
      rw [HRES.out]
      exact ⟨_, _, _, _, _, _, w1.heap.size, 0, rfl, ((HST1.out.set2 _ _ _ hlt (by omega)).alloc _).drew, ErrAt.new (by simp [World.setCell]) _ _⟩
  · have hd : decide ((4000000 : Int) < (s.size : Int)) = false := by simp; omega
    have hs4 : s.size ≤ 4000000 := by omega
    go_enter Tryd.func23, Tryd.ntmps23
    go_wp2_with fail
    rw [← HW1.out]
    clear r0 hd
    go_loopw [3, 21] (fun e i wr => ∃ k : Nat, k ≤ 3 ∧ k ≤ s.size ∧ i = .int .i64 k ∧ e = .nilIface ∧ headD s (headB.drop k) k = headD s headB 0 ∧ SC w.heap.size (.slice Option.none 0 0) (.slice Option.none 0 0) wr ∧ RStep w wr p s 0) (fun _ i _ => 3 - (intOf i).toNat)
    case atStart => exact ⟨0, by omega, by omega, rfl, rfl, rfl, HX.out, HST1.out⟩
    case round =>
      obtain ⟨k, hk, hks, rfl, rfl, hgo, hsc, hst⟩ := hrel
      have hwl : w.heap.size < wr.heap.size := lt_of_block hsc
      have r0 : wr.cell? ⟨p, 0, Option.none⟩ = some (.string s) := blk_cell hst.rd 0
      have lp : p < wr.heap.size := by omega
      by_cases hk3 : k < 3
      · have hstp := headD_step s headB k hk3
        rw [hgo] at hstp
        have HGO := Lib.hid hstp
        have HSC := Lib.hid hsc
        have HST := Lib.hid hst
        have hS : SCA w.heap.size (.slice Option.none 0 0) (.slice Option.none 0 0) wr := SC.a hsc
        clear hgo hstp hsc hst
        as_aux_lemma =>
          by_cases hke : k = s.size
          · have hres : codeD s = .inl (16, (k : Int)) := by
              have h1 := HGO.out
              rw [if_pos hke] at h1
              unfold codeD
              rw [if_neg (by omega), h1]
            have HRES := Lib.hid hres
            have b1 : ((k : Int) == (s.size : Int)) = true := by simp; omega
            clear hres hke
            go_wp2_with fail
            go_region_held3 (fun w' => SCA w.heap.size (.slice Option.none 0 0) (.slice Option.none 0 0) w')
              (repeat (first | exact hS | apply SCA.drew | apply SCA.alloc | apply SCA.set2))
              ((go_at_call 39; refine (fail_any _ _ _ _).mono ?_; rintro e w5 ⟨rfl, rfl⟩))
            go_wp2_with fail
            refine bodyPost_ret (v := .tuple #[cval (.slice Option.none 0 0) (.slice Option.none 0 0), errv wr.heap.size]) (by simp [results, Tryd.results23, go_sem, *]; rfl) rfl ?_
            unfold CodeDPost
            rw [HRES.out]
            exact ⟨_, _, _, _, _, _, wr.heap.size, 0, rfl, ((HST.out.set2 _ _ _ hlt (by omega)).alloc _).drew, ErrAt.new (by simp [World.setCell]) _ _⟩
          · have b1 : ((k : Int) == (s.size : Int)) = false := by simp; omega
            have k1 : (0 : Int) ≤ (k : Int) := by omega
            have k2 : (k : Int) < (s.size : Int) := by omega
            have k3 : (k : Int) < 3 := by omega
            have k4 : k < s.size := by omega
            go_wp2_with fail
            go_quiet (fail)
            have k5 : k < (ByteArray.mk #[77, 76, 49]).size := hk3
            obtain ⟨bb, hbb⟩ : ∃ bb, bb = (((s[k]'k4).toNat : Int) != (((ByteArray.mk #[77, 76, 49])[k]'k5).toNat : Int)) := ⟨_, rfl⟩
            rw [← hbb]
            have hbc : bb = !(decide (s.data.toList.getD k 0 = headB.getD k 0)) := by rw [hbb]; exact byte_ne s k k4 hk3
            have hstn := HST.out.drewN nq
            have hscn : SC w.heap.size (.slice Option.none 0 0) (.slice Option.none 0 0) (wr.drewN nq) := HSC.out
            generalize wr.drewN nq = wn at hstn hscn ⊢
            have HSTN := Lib.hid hstn
            have HSCN := Lib.hid hscn
            have hSn : SCA w.heap.size (.slice Option.none 0 0) (.slice Option.none 0 0) wn := SC.a hscn
            have hwn : w.heap.size < wn.heap.size := lt_of_block hscn
            have HBC := Lib.hid hbc
            clear hstn hscn hS r0
            have hgo := HGO.out
            rw [if_neg (by omega)] at hgo
            have HGO2 := Lib.hid hgo
            clear hbb hbc hgo
            cases bb with
            | true =>
              have hne : ¬ s.data.toList.getD k 0 = headB.getD k 0 := by have := HBC.out; simpa using this
              have hres : codeD s = .inl (15, (k : Int)) := by
                have h1 := HGO2.out
                rw [if_neg hne] at h1
                unfold codeD
                rw [if_neg (by omega), h1]
              have HRES := Lib.hid hres
              clear hres hne
              go_wp2_with fail
              go_region_held3 (fun w' => SCA w.heap.size (.slice Option.none 0 0) (.slice Option.none 0 0) w')
                (repeat (first | exact hSn | apply SCA.drew | apply SCA.alloc | apply SCA.set2))
                ((go_at_call 39; refine (fail_any _ _ _ _).mono ?_; rintro e w5 ⟨rfl, rfl⟩))
              go_wp2_with fail
              refine bodyPost_ret (v := .tuple #[cval (.slice Option.none 0 0) (.slice Option.none 0 0), errv wn.heap.size]) (by simp [results, Tryd.results23, go_sem, *]; rfl) rfl ?_
              unfold CodeDPost
              rw [HRES.out]
              exact ⟨_, _, _, _, _, _, wn.heap.size, 0, rfl, ((HSTN.out.set2 _ _ _ hlt (by omega)).alloc _).drew, ErrAt.new (by simp [World.setCell]) _ _⟩
            | false =>
              have heq : s.data.toList.getD k 0 = headB.getD k 0 := by have := HBC.out; simpa using this
              have hgo := HGO2.out
              rw [if_pos heq] at hgo
              have HGO3 := Lib.hid hgo
              clear hgo heq
              go_wp2_with fail
              go_roundw
              case rel => exact ⟨k + 1, by omega, by omega, by go_num, rfl, HGO3.out.symm, HSCN.out, HSTN.out⟩
              case measure => simp [intOf]; omega
      · obtain rfl : k = 3 := by omega
        rw [show ((3 : Nat) : Int) = 3 from rfl]
        have hhd : headD s headB 0 = Option.none := by rw [← hgo]; rfl
        have HHD := Lib.hid hhd
        have hs3 : 3 ≤ s.size := hks
        have hst3 : RStep w (wr.setCell ⟨p, 1, Option.none⟩ (.int .i64 3)) p s 3 := ⟨blk_set hst.rd 1 _, gr_trans hst.gr (gr_set _ _ _ _)⟩
        have hsc3 : SC w.heap.size (.slice Option.none 0 0) (.slice Option.none 0 0) (wr.setCell ⟨p, 1, Option.none⟩ (.int .i64 3)) := blk_set_ne hsc (by omega) _ _
        have r1 : wr.cell? ⟨p, 1, Option.none⟩ = some (.int .i64 (0 : Nat)) := blk_cell hst.rd 1
        have z1 := blk_free hst.rd 1
        have HST3 := Lib.hid hst3
        have HSC3 := Lib.hid hsc3
        clear hgo hst hsc hhd hst3 hsc3 hks r0
        go_wp2_with fail
        refine (number_any p s 3 2 _ HST3.out.rd hs3 (by omega) (by omega)).mono ?_
        intro e w4 hpost
        unfold NumPost at hpost
        cases hn : numB s 3 2 with
        | none =>
          rw [hn] at hpost
          as_aux_lemma =>
            obtain ⟨b, rfl, hst, her, hb⟩ := hpost
            have hres : codeD s = .inl (endF s) := by
              unfold codeD
              rw [if_neg (by omega), HHD.out]
              simp only
              rw [hn]
            have HRES := Lib.hid hres
            have hsc4 := blk_grown HSC3.out hst.gr (by simp; omega)
            obtain ⟨_, ⟨x0, x1⟩, z0, z1⟩ := SC.a hsc4
            have lx4 : w.heap.size < w4.heap.size := lt_of_block hsc4
            have hbx : b ≠ w.heap.size := fun e => by rw [e] at her; unfold ErrAt at her; rw [her] at hsc4; simp at hsc4
            have HST4 := Lib.hid (HST3.out.trans hst)
            have HER := Lib.hid her
            clear hn hres hst her hsc4 r1
            go_wp2_with fail
            go_loop [3, 58] (fun e i => e = errv b ∧ i = .int .i64 0) (fun _ _ => 0)
            case atStart => exact ⟨rfl, rfl⟩
            case round =>
              obtain ⟨rfl, rfl⟩ := hrel
              go_wp2_with fail
              go_loop [3, 10] (fun e i => e = errv b ∧ i = .int .i64 0) (fun _ _ => 0)
              case atStart => exact ⟨rfl, rfl⟩
              case round =>
                obtain ⟨rfl, rfl⟩ := hrel
                go_wp2_with fail
                go_quiet (fail)
                go_wp2_with fail
                refine bodyPost_ret (v := .tuple #[cval (.slice Option.none 0 0) (.slice Option.none 0 0), errv b]) (by simp [results, Tryd.results23, go_sem, *]; rfl) rfl ?_
                unfold CodeDPost
                rw [HRES.out]
                exact ⟨_, _, _, _, _, _, b, 3, rfl, (HST4.out.drewN nq).set2 _ _ _ hlt (by omega), HER.out.set2 hbx _ _⟩
        | some n =>
          rw [hn] at hpost
          obtain ⟨rfl, hst⟩ := hpost
          obtain ⟨hnv, hnl⟩ := numB_lt hn
          have hnv2 : n < 65536 := hnv
          have hcd : codeD s = match textsD s n [] 5 with
              | .inl f => .inl f
              | .inr (ts, a) => match numB s a 2 with
                | Option.none => .inl (endF s)
                | some m => match funsD s m [] (a + 2) with
                  | .inl f => .inl f
                  | .inr (fs, a') => if a' < s.size then .inl (16, (a' : Int)) else .inr (ts, fs) := by
            unfold codeD
            rw [if_neg (by omega), HHD.out]
            simp only
            rw [hn]
            rfl
          have HCD := Lib.hid hcd
          have hsc4 := blk_grown HSC3.out hst.gr (by simp; omega)
          have HSC4 := Lib.hid hsc4
          have HST4 := Lib.hid (HST3.out.trans hst)
          have hown0 : w4.ownsRow w.heap.size 9 1 (.slice Option.none 0 0) ([] : List ByteArray).length (([] : List ByteArray).map Value.string) := ⟨rfl, .inl ⟨rfl, rfl⟩⟩
          have HOWN0 := Lib.hid hown0
          obtain ⟨i9, hi, hz0, hz1, hz2⟩ := info_parts info9
          have HI := Lib.hid hi
          clear hn hst hsc4 hcd hown0 hi r1 z1
          go_wp2_with fail
          go_loopw [3, 58] (fun e i wr => ∃ (ts : List ByteArray) (ao : Option Addr) (cap a' : Nat), ts.length ≤ n ∧ i = .int .i64 ts.length ∧ e = .nilIface ∧ a' ≤ s.size ∧ SC w.heap.size (.slice ao ts.length cap) (.slice Option.none 0 0) wr ∧ wr.ownsRow w.heap.size 9 1 (.slice ao ts.length cap) ts.length (ts.map Value.string) ∧ RStep w wr p s a' ∧ textsD s (n - ts.length) ts a' = textsD s n [] 5) (fun _ i _ => n - (intOf i).toNat)
          case atStart => exact ⟨[], _, 0, 5, Nat.zero_le _, rfl, rfl, by omega, HSC4.out, HOWN0.out, HST4.out, rfl⟩
          case round =>
            obtain ⟨ts, ao, cap, a', hk, rfl, rfl, ha', hsc, hown, hst, hgo⟩ := hrel
            have hwl : w.heap.size < wr.heap.size := lt_of_block hsc
            have lp : p < wr.heap.size := by omega
            have r1 : wr.cell? ⟨p, 1, Option.none⟩ = some (.int .i64 a') := blk_cell hst.rd 1
            by_cases hkn : ts.length < n
            · have hstp := textsD_step s (n - (ts.length + 1)) ts a'
              rw [show n - (ts.length + 1) + 1 = n - ts.length from by omega, hgo] at hstp
              have HGO := Lib.hid hstp
              have HSC := Lib.hid hsc
              have HOWN := Lib.hid hown
              have HST := Lib.hid hst
              clear hstp hgo hsc hown hst
              as_aux_lemma =>
                go_wp2_with fail
                refine (number_any p s a' 1 _ HST.out.rd ha' (by omega) (by omega)).mono ?_
                intro e w5 hpost
                unfold NumPost at hpost
                cases hn : numB s a' 1 with
                | none =>
                  rw [hn] at hpost
                  obtain ⟨b, rfl, hst, her, hb⟩ := hpost
                  have hres : codeD s = .inl (endF s) := by
                    have h1 := HGO.out
                    rw [hn] at h1
                    rw [HCD.out, h1]
                  have HRES := Lib.hid hres
                  have hsc5 := blk_grown HSC.out hst.gr (by simp; omega)
                  obtain ⟨_, ⟨x0, x1⟩, z0, z1⟩ := SC.a hsc5
                  have lx5 : w.heap.size < w5.heap.size := lt_of_block hsc5
                  have hbx : b ≠ w.heap.size := fun e => by rw [e] at her; unfold ErrAt at her; rw [her] at hsc5; simp at hsc5
                  have HST5 := Lib.hid (HST.out.trans hst)
                  have HER := Lib.hid her
                  clear hn hres hst her hsc5 r1
                  go_wp2_with fail
                  refine bodyPost_ret (v := .tuple #[cval (.slice ao ts.length cap) (.slice Option.none 0 0), errv b]) (by simp [results, Tryd.results23, go_sem, *]; rfl) rfl ?_
                  unfold CodeDPost
                  rw [HRES.out]
                  exact ⟨_, _, _, _, _, _, b, a', rfl, HST5.out.set2 _ _ _ hlt (by omega), HER.out.set2 hbx _ _⟩
                | some k =>
                  rw [hn] at hpost
                  obtain ⟨rfl, hst⟩ := hpost
                  obtain ⟨hkv, hkl⟩ := numB_lt hn
                  have hkv2 : k < 256 := hkv
                  have hsc5 := blk_grown HSC.out hst.gr (by simp; omega)
                  obtain ⟨_, ⟨x0, x1⟩, z0, z1⟩ := SC.a hsc5
                  have lx5 : w.heap.size < w5.heap.size := lt_of_block hsc5
                  have HST5 := Lib.hid (HST.out.trans hst)
                  have HSC5 := Lib.hid hsc5
                  have HOWN5 := Lib.hid (own_keep HOWN.out hst.gr (fun q hq => by cases hq; exact ⟨_, _, _, HST.out.rd, by decide⟩))
                  have hgo := HGO.out
                  rw [hn] at hgo
                  simp only at hgo
                  have HGO2 := Lib.hid hgo
                  clear hn hst hsc5 hgo hkv r1
                  by_cases h200 : 200 < k
                  · have hres : codeD s = .inl (17, (a' : Int)) := by
                      have h1 := HGO2.out
                      rw [if_pos h200] at h1
                      rw [HCD.out, h1]
                    have HRES := Lib.hid hres
                    have hd : decide ((200 : Int) < (k : Int)) = true := by simp; omega
                    clear hres h200
                    go_wp2_with fail
                    refine (fail_any _ _ _ _).mono ?_
                    rintro e w6 ⟨rfl, rfl⟩
                    go_wp2_with fail
                    refine bodyPost_ret (v := .tuple #[cval (.slice ao ts.length cap) (.slice Option.none 0 0), errv w5.heap.size]) (by simp [results, Tryd.results23, go_sem, *]; rfl) rfl ?_
                    unfold CodeDPost
                    rw [HRES.out]
                    exact ⟨_, _, _, _, _, _, w5.heap.size, a' + 1, rfl, (HST5.out.set2 _ _ _ hlt (by omega)).alloc _, ErrAt.new (by simp [World.setCell]) _ _⟩
                  · have hd : decide ((200 : Int) < (k : Int)) = false := by simp; omega
                    have hgo := HGO2.out
                    rw [if_neg h200] at hgo
                    have HGO3 := Lib.hid hgo
                    clear hgo h200
                    go_wp2_with fail
                    refine (take_any p s (a' + 1) k _ HST5.out.rd hkl (by omega) (by omega)).mono ?_
                    rintro e w6 (⟨h, rfl, hst⟩ | ⟨h, b, rfl, hst, her, hb⟩)
                    · have hgo := HGO3.out
                      rw [if_pos h] at hgo
                      have HGO4 := Lib.hid hgo
                      have hsc6 := blk_grown HSC5.out hst.gr (by simp; omega)
                      have HSC6 := Lib.hid hsc6
                      have HOWN6 := Lib.hid (own_keep HOWN5.out hst.gr (fun q hq => by cases hq; exact ⟨_, _, _, HST5.out.rd, by decide⟩))
                      have HST6 := Lib.hid (HST5.out.trans hst)
                      clear x0 x1 z0 z1
                      obtain ⟨_, ⟨x0, x1⟩, z0, z1⟩ := SC.a hsc6
                      have lx6 : w.heap.size < w6.heap.size := lt_of_block hsc6
                      generalize hcut : cutB s (a' + 1) k = ct at *
                      clear hst hsc6 hgo hcut
                      go_wp2_with (first | (at_builtin; go_must (refine wpList_append_own _ rfl (.tmp 93) (.tmp 95) 22 rfl w.heap.size 9 i9 (.string ⟨#[]⟩) 1 16 Tryd.underlying22 HI.out hz0 hz1 hz2 rfl (by decide) (.slice ao ts.length cap) ts.length (ts.map Value.string) rfl (HOWN6.out.alloc _) ⟨w6.heap.size, 0, Option.none⟩ 1 1 [.string ⟨ct.toArray⟩] rfl rfl (new_cells _ (by simp)) (by intro u hu; simp at hu; subst hu; rfl) (by unfold maxLen; omega) (by omega) (by simp; omega) ?_)))
                      intro v' w7 hown7 hg7 hnil
                      obtain ⟨g', cap', hv'⟩ := own_shape hown7 hnil
                      rw [hv'] at hown7 ⊢
                      clear hnil hv'
                      have hne := own_ne HSC6.out HOWN6.out (by decide)
                      have hnp := own_ne HST6.out.rd HOWN6.out (by decide)
                      have h7 := blk_grown (blk_alloc HSC6.out _) hg7 hne
                      have hst7 : RStep w w7 p s (a' + 1 + k) := ⟨blk_grown (blk_alloc HST6.out.rd _) hg7 hnp, gr_own (HST6.out.alloc _).gr hg7 (fun g hg => (HOWN6.out.lt g hg).1)⟩
                      have x07 : w7.cell? ⟨w.heap.size, 0, Option.none⟩ = some (.slice ao ts.length cap) := blk_cell h7 0
                      have z07 := blk_free h7 0
                      have HSC7 := Lib.hid h7
                      have HST7 := Lib.hid hst7
                      have HOWN7 := Lib.hid hown7
                      have hl : (ts ++ [(⟨ct.toArray⟩ : ByteArray)]).length = ts.length + 1 := by simp
                      have hfm : (ts ++ [(⟨ct.toArray⟩ : ByteArray)]).map Value.string = ts.map Value.string ++ [.string ⟨ct.toArray⟩] := by simp
                      have HLL := Lib.hid hl
                      have HFM := Lib.hid hfm
                      clear hne hnp h7 hst7 hown7 hg7 hl hfm x0 x1 z0 z1
                      go_wp2_with fail
                      go_roundw
                      case rel =>
                        refine ⟨ts ++ [(⟨ct.toArray⟩ : ByteArray)], some ⟨g', 0, Option.none⟩, cap', a' + 1 + k, ?_, ?_, rfl, h, ?_, ?_, ?_, ?_⟩
                        · rw [HLL.out]; omega
                        · rw [HLL.out]; go_num
                        · rw [HLL.out]; exact blk_set HSC7.out 0 _
                        · rw [HLL.out, HFM.out]; exact own_set HOWN7.out HSC7.out (by decide) _ _
                        · exact HST7.out.set _ _ _ hlt (by omega)
                        · rw [HLL.out]; exact HGO4.out.symm
                      case measure => simp [intOf]; omega
                    · have hres : codeD s = .inl (endF s) := by
                        have h1 := HGO3.out
                        rw [if_neg (by omega)] at h1
                        rw [HCD.out, h1]
                      have HRES := Lib.hid hres
                      have hsc6 := blk_grown HSC5.out hst.gr (by simp; omega)
                      clear x0 x1 z0 z1
                      obtain ⟨_, ⟨x0, x1⟩, z0, z1⟩ := SC.a hsc6
                      have lx6 : w.heap.size < w6.heap.size := lt_of_block hsc6
                      have hbx : b ≠ w.heap.size := fun e => by rw [e] at her; unfold ErrAt at her; rw [her] at hsc6; simp at hsc6
                      have HST6 := Lib.hid (HST5.out.trans hst)
                      have HER := Lib.hid her
                      clear hres hst her hsc6
                      go_wp2_with fail
                      refine bodyPost_ret (v := .tuple #[cval (.slice ao ts.length cap) (.slice Option.none 0 0), errv b]) (by simp [results, Tryd.results23, go_sem, *]; rfl) rfl ?_
                      unfold CodeDPost
                      rw [HRES.out]
                      exact ⟨_, _, _, _, _, _, b, a' + 1, rfl, HST6.out.set2 _ _ _ hlt (by omega), HER.out.set2 hbx _ _⟩
            · obtain rfl : n = ts.length := by omega
              have hcd2 : codeD s = match numB s a' 2 with
                | Option.none => .inl (endF s)
                | some m => match funsD s m [] (a' + 2) with
                  | .inl f => .inl f
                  | .inr (fs, a'') => if a'' < s.size then .inl (16, (a'' : Int)) else .inr (ts, fs) := by
                have h1 : textsD s ts.length [] 5 = .inr (ts, a') := by rw [← hgo]; simp [textsD]
                rw [HCD.out, h1]
              have HCD2 := Lib.hid hcd2
              have HSC := Lib.hid hsc
              have HOWN := Lib.hid hown
              have HST := Lib.hid hst
              clear hgo hsc hown hst hcd2 r1
              go_wp2_with fail
              refine (number_any p s a' 2 _ HST.out.rd ha' (by omega) (by omega)).mono ?_
              intro e w5 hpost
              unfold NumPost at hpost
              cases hn : numB s a' 2 with
              | none =>
                rw [hn] at hpost
                as_aux_lemma =>
                  obtain ⟨b, rfl, hst, her, hb⟩ := hpost
                  have hres : codeD s = .inl (endF s) := by rw [HCD2.out, hn]
                  have HRES := Lib.hid hres
                  have hsc5 := blk_grown HSC.out hst.gr (by simp; omega)
                  obtain ⟨_, ⟨x0, x1⟩, z0, z1⟩ := SC.a hsc5
                  have lx5 : w.heap.size < w5.heap.size := lt_of_block hsc5
                  have hbx : b ≠ w.heap.size := fun e => by rw [e] at her; unfold ErrAt at her; rw [her] at hsc5; simp at hsc5
                  have HST5 := Lib.hid (HST.out.trans hst)
                  have HER := Lib.hid her
                  clear hn hres hst her hsc5
                  go_wp2_with fail
                  go_loop [3, 10] (fun e i => e = errv b ∧ i = .int .i64 0) (fun _ _ => 0)
                  case atStart => exact ⟨rfl, rfl⟩
                  case round =>
                    obtain ⟨rfl, rfl⟩ := hrel
                    go_wp2_with fail
                    go_quiet (fail)
                    go_wp2_with fail
                    refine bodyPost_ret (v := .tuple #[cval (.slice ao ts.length cap) (.slice Option.none 0 0), errv b]) (by simp [results, Tryd.results23, go_sem, *]; rfl) rfl ?_
                    unfold CodeDPost
                    rw [HRES.out]
                    exact ⟨_, _, _, _, _, _, b, a', rfl, (HST5.out.drewN nq).set2 _ _ _ hlt (by omega), HER.out.set2 hbx _ _⟩
              | some m =>
                rw [hn] at hpost
                obtain ⟨rfl, hst⟩ := hpost
                obtain ⟨hmv, hml⟩ := numB_lt hn
                have hmv2 : m < 65536 := hmv
                have hcd3 : codeD s = match funsD s m [] (a' + 2) with
                  | .inl f => .inl f
                  | .inr (fs, a'') => if a'' < s.size then .inl (16, (a'' : Int)) else .inr (ts, fs) := by rw [HCD2.out, hn]
                have HCD3 := Lib.hid hcd3
                have HST5 := Lib.hid (HST.out.trans hst)
                have HSC5 := Lib.hid (blk_grown HSC.out hst.gr (by simp; omega))
                have HOWN5 := Lib.hid (own_keep HOWN.out hst.gr (fun q hq => by cases hq; exact ⟨_, _, _, HST.out.rd, by decide⟩))
                have hown0 : w5.ownsRow w.heap.size 48 3 (.slice Option.none 0 0) ([] : List Fn).length (([] : List Fn).flatMap fnRow) := ⟨rfl, .inl ⟨rfl, rfl⟩⟩
                have HOWN0 := Lib.hid hown0
                obtain ⟨i48, hi48, hy0, hy1, hy2⟩ := info_parts info48
                have HI48 := Lib.hid hi48
                clear hn hst hcd3 hown0 hi48
                go_wp2_with fail
                go_loopw [3, 10] (fun e i wr => FRel s p w ts ao cap m a' e i wr) (fun _ i _ => m - (intOf i).toNat)
                case atStart => exact ⟨[], _, 0, a' + 2, 0, rfl, Nat.zero_le _, HSC5.out, HOWN5.out, HST5.out, .inl ⟨rfl, hml, rfl, HOWN0.out, (fun f hf => by cases hf), rfl⟩⟩
                case round =>
                  obtain ⟨fs, ao2, cap2, a2, j, rfl, hj, hsc, hownt, hst, hrel⟩ := hrel
                  have hwl : w.heap.size < wr.heap.size := lt_of_block hsc
                  have lp : p < wr.heap.size := by omega
                  rcases hrel with ⟨rfl, ha2, rfl, hown, hins, hgo⟩ | ⟨b, f, rfl, hres, her⟩
                  · by_cases hjm : fs.length < m
                    ·
                      as_aux_lemma =>
                        have hstp := funsD_step s (m - (fs.length + 1)) (fs.map fct) a2
                        rw [show m - (fs.length + 1) + 1 = m - fs.length from by omega, hgo] at hstp
                        have HGO := Lib.hid hstp
                        have HSC6 := Lib.hid hsc
                        have HST6 := Lib.hid hst
                        have HOWN6 := Lib.hid hown
                        have HOWNT6 := Lib.hid hownt
                        have HINS6 := Lib.hid hins
                        have HF6 := Lib.hid ((HF.out.grown hst.gr hp0).alloc (by omega) (.cells #[.int .i64 0, .int .i64 0, .slice Option.none 0 0] 48))
                        clear hstp hgo hsc hst hown hownt hins
                        go_wp2_with fail
                        refine (pfunD_any p s a2 _ (HST6.out.rd.alloc _) ha2 (by omega) HF6.out).mono ?_
                        intro e w6 hpost
                        unfold FunDPost at hpost
                        have hb6 := heap_alloc_new wr (.cells #[.int .i64 0, .int .i64 0, .slice Option.none 0 0] 48)
                        cases hn : funD s a2 with
                        | inl f =>
                          rw [hn] at hpost
                          obtain ⟨fr, sl, aof, nf, capf, b, a3, rfl, hst, ha3, her⟩ := hpost
                          have hres : codeD s = .inl f := by
                            have h1 := HGO.out
                            rw [hn] at h1
                            rw [HCD3.out, h1]
                          have hne48 : Value.ownBlock (.slice ao2 fs.length cap2) ≠ some wr.heap.size := fun e => by have := (HOWN6.out.lt _ e).2; omega
                          have hfb := blk_grown hb6 hst.gr (by simp; omega)
                          obtain ⟨w7, hw7⟩ : ∃ w7, w7 = ((w6.setCell ⟨wr.heap.size, 0, Option.none⟩ (.int .i64 fr)).setCell ⟨wr.heap.size, 1, Option.none⟩ (.int .i64 sl)).setCell ⟨wr.heap.size, 2, Option.none⟩ (.slice aof nf capf) := ⟨_, rfl⟩
                          have hs6 := hst.gr.size
                          rw [World.size_alloc] at hs6
                          have hs7 : w7.heap.size = w6.heap.size := by rw [hw7]; simp [World.setCell]
                          have hfb7 : w7.heap[wr.heap.size]? = some (.cells #[.int .i64 fr, .int .i64 sl, .slice aof nf capf] 48 (0, 0)) := by rw [hw7]; exact blk_set (blk_set (blk_set hfb _ _) _ _) _ _
                          have hsc7 : SC w.heap.size (.slice ao ts.length cap) (.slice ao2 fs.length cap2) w7 := by rw [hw7]; exact blk_set_ne (blk_set_ne (blk_set_ne (blk_grown (blk_alloc HSC6.out _) hst.gr (by simp; omega)) (by omega) _ _) (by omega) _ _) (by omega) _ _
                          have hst7 : RStep w w7 p s a3 := by rw [hw7]; exact ((HST6.out.alloc _).trans hst).set3 _ _ _ _ hlt (by omega)
                          have hpty : ∀ q, some p = some q → ∃ c t f, (wr.alloc (.cells #[.int .i64 0, .int .i64 0, .slice Option.none 0 0] 48)).heap[q]? = some (.cells c t f) ∧ t = 62 := fun q hq => by cases hq; exact ⟨_, _, _, HST6.out.rd.alloc _, rfl⟩
                          have hown7 : w7.ownsRow w.heap.size 48 3 (.slice ao2 fs.length cap2) fs.length (fs.flatMap fnRow) := by
                            rw [hw7]
                            exact ownsRow_setCell_other (ownsRow_setCell_other (ownsRow_setCell_other (own_keep (HOWN6.out.alloc _) hst.gr (fun q hq => by obtain ⟨c, t, f, h, rfl⟩ := hpty q hq; exact ⟨_, _, _, h, by decide⟩)) hne48 _) hne48 _) hne48 _
                          have hownt7 : w7.ownsRow w.heap.size 9 1 (.slice ao ts.length cap) ts.length (ts.map Value.string) := by
                            rw [hw7]
                            exact own_set3 (own_keep (HOWNT6.out.alloc _) hst.gr (fun q hq => by obtain ⟨c, t, f, h, rfl⟩ := hpty q hq; exact ⟨_, _, _, h, by decide⟩)) hfb (by decide) _ _ _
                          have her7 : ErrAt w7 b f := by
                            rw [hw7]
                            exact her.set3 (fun e => by rw [e] at her; unfold ErrAt at her; rw [her] at hfb; simp at hfb) _ _ _
                          have HER7 := Lib.hid her7
                          have HRES := Lib.hid hres
                          have f0 := blk_cell hfb 0
                          have f1 := blk_cell hfb 1
                          have f2 := blk_cell hfb 2
                          have e0 := blk_free hfb 0
                          have e1 := blk_free hfb 1
                          have e2 := blk_free hfb 2
                          simp only [List.getElem?_toArray, List.getElem?_cons_zero, List.getElem?_cons_succ] at f0 f1 f2
                          have l6 : wr.heap.size < w6.heap.size := by omega
                          have HW7 := Lib.hid hw7
                          have HFB7 := Lib.hid hfb7
                          have HSC7 := Lib.hid hsc7
                          have HST7 := Lib.hid hst7
                          have HOWN7 := Lib.hid hown7
                          have HOWNT7 := Lib.hid hownt7
                          have HS7 := Lib.hid hs7
                          clear hw7 hs7 hfb hfb7 hsc7 hst7 hown7 hownt7 hb6 hst hpty hne48 hn her7 her hres
                          unfold fval
                          go_upto_region 33 with fail
                          rw [← HW7.out]
                          clear f0 f1 f2 e0 e1 e2
                          have f0 : w7.cell? ⟨wr.heap.size, 0, Option.none⟩ = some (.int .i64 fr) := blk_cell HFB7.out 0
                          have f1 : w7.cell? ⟨wr.heap.size, 1, Option.none⟩ = some (.int .i64 sl) := blk_cell HFB7.out 1
                          have f2 : w7.cell? ⟨wr.heap.size, 2, Option.none⟩ = some (.slice aof nf capf) := blk_cell HFB7.out 2
                          obtain ⟨_, ⟨x0, x1⟩, z0, z1⟩ := SC.a HSC7.out
                          have l7 : wr.heap.size < w7.heap.size := lt_of_block HFB7.out
                          have l8 : w.heap.size < w7.heap.size := by omega
                          go_wp2_with (first | (at_builtin; go_must (refine wpList_append_own _ rfl (.tmp 121) (.tmp 123) 23 rfl w.heap.size 48 i48 (.agg #[.int .i64 0, .int .i64 0, .slice Option.none 0 0]) 3 40 Tryd.underlying23 HI48.out hy0 hy1 hy2 rfl (by decide) (.slice ao2 fs.length cap2) fs.length (fs.flatMap fnRow) rfl (HOWN7.out.alloc _) ⟨w7.heap.size, 0, Option.none⟩ 1 1 [.int .i64 fr, .int .i64 sl, .slice aof nf capf] rfl rfl (new_cells _ (by simp)) (by intro u hu; simp at hu; rcases hu with rfl | rfl | rfl <;> rfl) (by unfold maxLen; omega) (by omega) (by simp; omega) ?_)))
                          intro v' w8 hown8 hg8 hnil
                          obtain ⟨g', cap', hv'⟩ := own_shape hown8 hnil
                          rw [hv'] at hown8 ⊢
                          clear hnil hv'
                          have hne := own_ne HSC7.out HOWN7.out (by decide)
                          have hnp := own_ne HST7.out.rd HOWN7.out (by decide)
                          have h8 := blk_grown (blk_alloc HSC7.out _) hg8 hne
                          have hst8 : RStep w w8 p s a3 := ⟨blk_grown (blk_alloc HST7.out.rd _) hg8 hnp, gr_own (HST7.out.alloc _).gr hg8 (fun g hg => (HOWN7.out.lt g hg).1)⟩
                          have hrow48 : ∀ q, Value.ownBlock (.slice ao2 fs.length cap2) = some q → ∃ c t fz, (w7.alloc (.cells #[.int .i64 fr, .int .i64 sl, .slice aof nf capf] 48)).heap[q]? = some (.cells c t fz) ∧ t = 48 := fun q hq => by obtain ⟨c, fz, h⟩ := own_row (HOWN7.out.alloc _) q hq; exact ⟨c, _, fz, h, rfl⟩
                          have HOWNT8 := Lib.hid (own_keep (HOWNT7.out.alloc _) hg8 (fun q hq => by obtain ⟨c, t, f, h, rfl⟩ := hrow48 q hq; exact ⟨_, _, _, h, by decide⟩))
                          have HER8 : Hid (ErrAt w8 b f) := blk_grown (blk_alloc HER7.out _) hg8 (own_ne HER7.out HOWN7.out (by decide))
                          have hbx : b ≠ w.heap.size := fun e => by have h1 := HER7.out; have h2 := HSC7.out; unfold ErrAt at h1; unfold SC at h2; rw [e, h2] at h1; simp at h1
                          have x18 : w8.cell? ⟨w.heap.size, 1, Option.none⟩ = some (.slice ao2 fs.length cap2) := blk_cell h8 1
                          have z18 := blk_free h8 1
                          have HSC8 := Lib.hid h8
                          have HST8 := Lib.hid hst8
                          have HOWN8 := Lib.hid hown8
                          obtain ⟨fn, hfn⟩ : ∃ fn : Fn, fn = ⟨fr, sl, aof, capf, []⟩ := ⟨_, rfl⟩
                          have hl : (fs ++ [fn]).length = fs.length + 1 := by simp
                          have HLL := Lib.hid hl
                          have HFN := Lib.hid hfn
                          clear hne hnp h8 hst8 hown8 hg8 hl hfn hrow48 x0 x1 z0 z1 f0 f1 f2
                          go_wp2_with fail
                          go_roundw
                          case rel =>
                            refine ⟨fs ++ [fn], some ⟨g', 0, Option.none⟩, cap', a3, fs.length + 1, by go_num, by omega, ?_, own_set HOWNT8.out HSC8.out (by decide) _ _, HST8.out.set _ _ _ hlt (by omega), ?_⟩
                            · rw [HLL.out]; exact blk_set HSC8.out 1 _
                            · exact .inr ⟨b, f, rfl, HRES.out, HER8.out.set hbx _ _⟩
                          case measure => simp [intOf]; omega
                        | inr r =>
                          obtain ⟨f, a3⟩ := r
                          rw [hn] at hpost
                          obtain ⟨aof, capf, rfl, hst, ha3, hio⟩ := hpost
                          have hgo2 : funsD s (m - (fs.length + 1)) (fs.map fct ++ [f]) a3 = funsD s m [] (a' + 2) := by
                            have h1 := HGO.out
                            rw [hn] at h1
                            exact h1.symm
                          have HGO2 := Lib.hid hgo2
                          clear hgo2
                          have hne48 : Value.ownBlock (.slice ao2 fs.length cap2) ≠ some wr.heap.size := fun e => by have := (HOWN6.out.lt _ e).2; omega
                          have hfb := blk_grown hb6 hst.gr (by simp; omega)
                          obtain ⟨w7, hw7⟩ : ∃ w7, w7 = ((w6.setCell ⟨wr.heap.size, 0, Option.none⟩ (.int .i64 f.1)).setCell ⟨wr.heap.size, 1, Option.none⟩ (.int .i64 f.2.1)).setCell ⟨wr.heap.size, 2, Option.none⟩ (.slice aof f.2.2.length capf) := ⟨_, rfl⟩
                          have hs6 := hst.gr.size
                          rw [World.size_alloc] at hs6
                          have hs7 : w7.heap.size = w6.heap.size := by rw [hw7]; simp [World.setCell]
                          have hfb7 : w7.heap[wr.heap.size]? = some (.cells #[.int .i64 f.1, .int .i64 f.2.1, .slice aof f.2.2.length capf] 48 (0, 0)) := by rw [hw7]; exact blk_set (blk_set (blk_set hfb _ _) _ _) _ _
                          have hsc7 : SC w.heap.size (.slice ao ts.length cap) (.slice ao2 fs.length cap2) w7 := by rw [hw7]; exact blk_set_ne (blk_set_ne (blk_set_ne (blk_grown (blk_alloc HSC6.out _) hst.gr (by simp; omega)) (by omega) _ _) (by omega) _ _) (by omega) _ _
                          have hst7 : RStep w w7 p s a3 := by rw [hw7]; exact ((HST6.out.alloc _).trans hst).set3 _ _ _ _ hlt (by omega)
                          have hpty : ∀ q, some p = some q → ∃ c t f, (wr.alloc (.cells #[.int .i64 0, .int .i64 0, .slice Option.none 0 0] 48)).heap[q]? = some (.cells c t f) ∧ t = 62 := fun q hq => by cases hq; exact ⟨_, _, _, HST6.out.rd.alloc _, rfl⟩
                          have hown7 : w7.ownsRow w.heap.size 48 3 (.slice ao2 fs.length cap2) fs.length (fs.flatMap fnRow) := by
                            rw [hw7]
                            exact ownsRow_setCell_other (ownsRow_setCell_other (ownsRow_setCell_other (own_keep (HOWN6.out.alloc _) hst.gr (fun q hq => by obtain ⟨c, t, f, h, rfl⟩ := hpty q hq; exact ⟨_, _, _, h, by decide⟩)) hne48 _) hne48 _) hne48 _
                          have hownt7 : w7.ownsRow w.heap.size 9 1 (.slice ao ts.length cap) ts.length (ts.map Value.string) := by
                            rw [hw7]
                            exact own_set3 (own_keep (HOWNT6.out.alloc _) hst.gr (fun q hq => by obtain ⟨c, t, f, h, rfl⟩ := hpty q hq; exact ⟨_, _, _, h, by decide⟩)) hfb (by decide) _ _ _
                          have hins7 : ∀ g ∈ fs, w7.ownsRow w.heap.size 50 3 (.slice g.ao g.ins.length g.cap) g.ins.length (g.ins.flatMap insRow) := by
                            intro g hg
                            rw [hw7]
                            exact own_set3 (own_keep ((HINS6.out g hg).alloc _) hst.gr (fun q hq => by obtain ⟨c, t, f, h, rfl⟩ := hpty q hq; exact ⟨_, _, _, h, by decide⟩)) hfb (by decide) _ _ _
                          have hnew7 : w7.ownsRow w.heap.size 50 3 (.slice aof f.2.2.length capf) f.2.2.length (f.2.2.flatMap insRow) := by
                            rw [hw7]
                            exact own_set3 (own_base hio (by simp; omega)) hfb (by decide) _ _ _
                          have HINS7 := Lib.hid hins7
                          have HNEW7 := Lib.hid hnew7
                          have f0 := blk_cell hfb 0
                          have f1 := blk_cell hfb 1
                          have f2 := blk_cell hfb 2
                          have e0 := blk_free hfb 0
                          have e1 := blk_free hfb 1
                          have e2 := blk_free hfb 2
                          simp only [List.getElem?_toArray, List.getElem?_cons_zero, List.getElem?_cons_succ] at f0 f1 f2
                          have l6 : wr.heap.size < w6.heap.size := by omega
                          have HW7 := Lib.hid hw7
                          have HFB7 := Lib.hid hfb7
                          have HSC7 := Lib.hid hsc7
                          have HST7 := Lib.hid hst7
                          have HOWN7 := Lib.hid hown7
                          have HOWNT7 := Lib.hid hownt7
                          have HS7 := Lib.hid hs7
                          clear hw7 hs7 hfb hfb7 hsc7 hst7 hown7 hownt7 hb6 hst hpty hne48 hn hins7 hnew7 hio
                          unfold fval
                          go_upto_region 33 with fail
                          rw [← HW7.out]
                          clear f0 f1 f2 e0 e1 e2
                          have f0 : w7.cell? ⟨wr.heap.size, 0, Option.none⟩ = some (.int .i64 f.1) := blk_cell HFB7.out 0
                          have f1 : w7.cell? ⟨wr.heap.size, 1, Option.none⟩ = some (.int .i64 f.2.1) := blk_cell HFB7.out 1
                          have f2 : w7.cell? ⟨wr.heap.size, 2, Option.none⟩ = some (.slice aof f.2.2.length capf) := blk_cell HFB7.out 2
                          obtain ⟨_, ⟨x0, x1⟩, z0, z1⟩ := SC.a HSC7.out
                          have l7 : wr.heap.size < w7.heap.size := lt_of_block HFB7.out
                          have l8 : w.heap.size < w7.heap.size := by omega
                          go_wp2_with (first | (at_builtin; go_must (refine wpList_append_own _ rfl (.tmp 121) (.tmp 123) 23 rfl w.heap.size 48 i48 (.agg #[.int .i64 0, .int .i64 0, .slice Option.none 0 0]) 3 40 Tryd.underlying23 HI48.out hy0 hy1 hy2 rfl (by decide) (.slice ao2 fs.length cap2) fs.length (fs.flatMap fnRow) rfl (HOWN7.out.alloc _) ⟨w7.heap.size, 0, Option.none⟩ 1 1 [.int .i64 f.1, .int .i64 f.2.1, .slice aof f.2.2.length capf] rfl rfl (new_cells _ (by simp)) (by intro u hu; simp at hu; rcases hu with rfl | rfl | rfl <;> rfl) (by unfold maxLen; omega) (by omega) (by simp; omega) ?_)))
                          intro v' w8 hown8 hg8 hnil
                          obtain ⟨g', cap', hv'⟩ := own_shape hown8 hnil
                          rw [hv'] at hown8 ⊢
                          clear hnil hv'
                          have hne := own_ne HSC7.out HOWN7.out (by decide)
                          have hnp := own_ne HST7.out.rd HOWN7.out (by decide)
                          have h8 := blk_grown (blk_alloc HSC7.out _) hg8 hne
                          have hst8 : RStep w w8 p s a3 := ⟨blk_grown (blk_alloc HST7.out.rd _) hg8 hnp, gr_own (HST7.out.alloc _).gr hg8 (fun g hg => (HOWN7.out.lt g hg).1)⟩
                          have hrow48 : ∀ q, Value.ownBlock (.slice ao2 fs.length cap2) = some q → ∃ c t fz, (w7.alloc (.cells #[.int .i64 f.1, .int .i64 f.2.1, .slice aof f.2.2.length capf] 48)).heap[q]? = some (.cells c t fz) ∧ t = 48 := fun q hq => by obtain ⟨c, fz, h⟩ := own_row (HOWN7.out.alloc _) q hq; exact ⟨c, _, fz, h, rfl⟩
                          have HOWNT8 := Lib.hid (own_keep (HOWNT7.out.alloc _) hg8 (fun q hq => by obtain ⟨c, t, f, h, rfl⟩ := hrow48 q hq; exact ⟨_, _, _, h, by decide⟩))
                          have HINS8 : Hid (∀ g ∈ fs, w8.ownsRow w.heap.size 50 3 (.slice g.ao g.ins.length g.cap) g.ins.length (g.ins.flatMap insRow)) := fun g hg => own_keep ((HINS7.out g hg).alloc _) hg8 (fun q hq => by obtain ⟨c, t, f, h, rfl⟩ := hrow48 q hq; exact ⟨_, _, _, h, by decide⟩)
                          have HNEW8 := Lib.hid (own_keep (HNEW7.out.alloc _) hg8 (fun q hq => by obtain ⟨c, t, f, h, rfl⟩ := hrow48 q hq; exact ⟨_, _, _, h, by decide⟩))
                          have x18 : w8.cell? ⟨w.heap.size, 1, Option.none⟩ = some (.slice ao2 fs.length cap2) := blk_cell h8 1
                          have z18 := blk_free h8 1
                          have HSC8 := Lib.hid h8
                          have HST8 := Lib.hid hst8
                          have HOWN8 := Lib.hid hown8
                          obtain ⟨fn, hfn⟩ : ∃ fn : Fn, fn = ⟨f.1, f.2.1, aof, capf, f.2.2⟩ := ⟨_, rfl⟩
                          have hl : (fs ++ [fn]).length = fs.length + 1 := by simp
                          have HLL := Lib.hid hl
                          have HFN := Lib.hid hfn
                          clear hne hnp h8 hst8 hown8 hg8 hl hfn hrow48 x0 x1 z0 z1 f0 f1 f2
                          go_wp2_with fail
                          go_roundw
                          case rel =>
                            refine ⟨fs ++ [fn], some ⟨g', 0, Option.none⟩, cap', a3, fs.length + 1, by go_num, by omega, ?_, own_set HOWNT8.out HSC8.out (by decide) _ _, HST8.out.set _ _ _ hlt (by omega), ?_⟩
                            · rw [HLL.out]; exact blk_set HSC8.out 1 _
                            · refine .inl ⟨rfl, ha3, HLL.out, ?_, ?_, ?_⟩
                              · have hfm : (fs ++ [fn]).flatMap fnRow = fs.flatMap fnRow ++ [.int .i64 f.1, .int .i64 f.2.1, .slice aof f.2.2.length capf] := by rw [HFN.out]; simp [fnRow]
                                rw [HLL.out, hfm]
                                exact own_set HOWN8.out HSC8.out (by decide) _ _
                              · intro g hg
                                rcases List.mem_append.1 hg with hg | hg
                                · exact own_set (HINS8.out g hg) HSC8.out (by decide) _ _
                                · simp at hg
                                  subst hg
                                  rw [HFN.out]
                                  exact own_set HNEW8.out HSC8.out (by decide) _ _
                              · rw [HLL.out]
                                have h1 := HGO2.out
                                rw [HFN.out]
                                simpa [fct] using h1
                          case measure => simp [intOf]; omega
                    · obtain rfl : m = fs.length := by omega
                      have hcd4 : codeD s = if a2 < s.size then .inl (16, (a2 : Int)) else .inr (ts, fs.map fct) := by
                        have h1 : funsD s fs.length [] (a' + 2) = .inr (fs.map fct, a2) := by rw [← hgo]; simp [funsD]
                        rw [HCD3.out, h1]
                      have HCD4 := Lib.hid hcd4
                      have HWF : Hid (∀ f ∈ fs, wfF (fct f)) := by
                        intro f hf
                        have h1 : funsD s fs.length [] (a' + 2) = .inr (fs.map fct, a2) := by rw [← hgo]; simp [funsD]
                        exact funsD_wf _ _ _ _ _ _ h1 (fun x hx => by cases hx) _ (List.mem_map_of_mem hf)
                      obtain ⟨_, ⟨x0, x1⟩, z0, z1⟩ := SC.a hsc
                      have HSC6 := Lib.hid hsc
                      have HST6 := Lib.hid hst
                      have HOWN6 := Lib.hid hown
                      have HOWNT6 := Lib.hid hownt
                      have HINS6 := Lib.hid hins
                      have r0 : wr.cell? ⟨p, 0, Option.none⟩ = some (.string s) := blk_cell hst.rd 0
                      have r1 : wr.cell? ⟨p, 1, Option.none⟩ = some (.int .i64 a2) := blk_cell hst.rd 1
                      clear hcd4 hsc hst hown hownt hins hgo
                      by_cases has : a2 < s.size
                      · have hres : codeD s = .inl (16, (a2 : Int)) := by rw [HCD4.out, if_pos has]
                        have HRES := Lib.hid hres
                        have hd : decide (a2 < s.size) = true := by simp; omega
                        clear hres has
                        go_wp2_with fail
                        go_quiet (fail)
                        have hscn : SC w.heap.size (.slice ao ts.length cap) (.slice ao2 fs.length cap2) (wr.drewN nq) := HSC6.out
                        have hstn := HST6.out.drewN nq
                        clear x0 x1 z0 z1 r0 r1
                        generalize wr.drewN nq = wn at hscn hstn ⊢
                        obtain ⟨_, ⟨x0, x1⟩, z0, z1⟩ := SC.a hscn
                        have r1 : wn.cell? ⟨p, 1, Option.none⟩ = some (.int .i64 a2) := blk_cell hstn.rd 1
                        have lxn : w.heap.size < wn.heap.size := lt_of_block hscn
                        have HSTN := Lib.hid hstn
                        clear hscn hstn
                        go_wp2_with fail
                        refine (fail_any _ _ _ _).mono ?_
                        rintro e w6 ⟨rfl, rfl⟩
                        go_wp2_with fail
                        refine bodyPost_ret (v := .tuple #[cval (.slice ao ts.length cap) (.slice ao2 fs.length cap2), errv wn.heap.size]) (by simp [results, Tryd.results23, go_sem, *]; rfl) rfl ?_
                        unfold CodeDPost
                        rw [HRES.out]
                        exact ⟨_, _, _, _, _, _, wn.heap.size, a2, rfl, (HSTN.out.set2 _ _ _ hlt (by omega)).alloc _, ErrAt.new (by simp [World.setCell]) _ _⟩
                      · have hres : codeD s = .inr (ts, fs.map fct) := by rw [HCD4.out, if_neg has]
                        have HRES := Lib.hid hres
                        have hd : decide (a2 < s.size) = false := by simp; omega
                        clear hres has
                        go_wp2_with fail
                        go_quiet (fail)
                        have hscn : SC w.heap.size (.slice ao ts.length cap) (.slice ao2 fs.length cap2) (wr.drewN nq) := HSC6.out
                        have hstn := HST6.out.drewN nq
                        have hot : (wr.drewN nq).ownsRow w.heap.size 9 1 (.slice ao ts.length cap) ts.length (ts.map Value.string) := HOWNT6.out
                        have hof : (wr.drewN nq).ownsRow w.heap.size 48 3 (.slice ao2 fs.length cap2) fs.length (fs.flatMap fnRow) := HOWN6.out
                        have hoi : ∀ f ∈ fs, (wr.drewN nq).ownsRow w.heap.size 50 3 (.slice f.ao f.ins.length f.cap) f.ins.length (f.ins.flatMap insRow) := HINS6.out
                        clear x0 x1 z0 z1 r0 r1
                        generalize wr.drewN nq = wn at hscn hstn hot hof hoi ⊢
                        obtain ⟨_, ⟨x0, x1⟩, z0, z1⟩ := SC.a hscn
                        have lxn : w.heap.size < wn.heap.size := lt_of_block hscn
                        have HSTN := Lib.hid hstn
                        have HSCN := Lib.hid hscn
                        have HOT := Lib.hid hot
                        have HOF := Lib.hid hof
                        have HOI := Lib.hid hoi
                        clear hscn hstn hot hof hoi
                        go_wp2_with fail
                        refine bodyPost_ret (v := .tuple #[cval (.slice ao ts.length cap) (.slice ao2 fs.length cap2), .nilIface]) (by simp [results, Tryd.results23, go_sem, *]; rfl) rfl ?_
                        unfold CodeDPost
                        rw [HRES.out]
                        refine ⟨⟨ao, cap, ao2, cap2, ts, fs⟩, a2, rfl, rfl, HSTN.out.set2 _ _ _ hlt (by omega), ?_⟩
                        exact ⟨(own_set (own_set HOT.out HSCN.out (by decide) _ _) (blk_set HSCN.out _ _) (by decide) _ _), (own_set (own_set HOF.out HSCN.out (by decide) _ _) (blk_set HSCN.out _ _) (by decide) _ _), (fun f hf => own_set (own_set (HOI.out f hf) HSCN.out (by decide) _ _) (blk_set HSCN.out _ _) (by decide) _ _), HWF.out⟩
                  · have HRES := Lib.hid hres
                    have HER := Lib.hid her
                    have HST6 := Lib.hid hst
                    have hbx : b ≠ w.heap.size := fun e => by rw [e] at her; unfold ErrAt at her; unfold SC at hsc; rw [her] at hsc; simp at hsc
                    obtain ⟨_, ⟨x0, x1⟩, z0, z1⟩ := SC.a hsc
                    clear hres her hst hsc hownt
                    by_cases hjm : j < m
                    all_goals
                      go_wp2_with fail
                      go_quiet (fail)
                      go_wp2_with fail
                      refine bodyPost_ret (v := .tuple #[cval (.slice ao ts.length cap) (.slice ao2 fs.length cap2), errv b]) (by simp [results, Tryd.results23, go_sem, *]; rfl) rfl ?_
                      unfold CodeDPost
                      rw [HRES.out]
                      exact ⟨_, _, _, _, _, _, b, a2, rfl, (HST6.out.drewN nq).set2 _ _ _ hlt (by omega), HER.out.set2 hbx _ _⟩

end Go.Proofs.YtebappmamaafaaaDoor
