/- Every heavy operation, and every operation. -/
import Derived.Test.YtliemjbafgnnbaaGreatDoorPA6
set_option linter.unnecessarySimpa false
set_option linter.unusedSimpArgs false
set_option linter.unusedVariables false
namespace Go.Proofs.YtliemjbafgnnbaaGreatDoor.Abs
open Go Go.RowKit
section
variable {P : Program} {B : Nat} {w0 : Base} {w : World} {φ : Plan} {H : Hp}
def Told (P : Program) (B : Nat) (w0 : Base) (w : World) (φ : Plan) (s : Result Next) : Res → Prop
 | .val v H' => ∃ ψ v' w' nx, φ.le ψ ∧ s = .ok nx w' ∧ (nx = .value v' ∨ nx = .skip ∧ v' = undef) ∧ VR ψ v v' ∧ Rel B w0 ψ H' w'
 | .enter f args => ∃ args' : List Value, s = .ok (.enter f args'.toArray) w ∧ VRs φ args args'
theorem zash {α : Type} (a : Array α) (x : α) (f : α → α) : (a.push x).modify a.size f = a.push (f x) := by
 apply Array.ext_getElem?
 intro i
 rw [Array.getElem?_modify, Array.getElem?_push, Array.getElem?_push]
 by_cases h : i = a.size
 ·simp [h]
 ·rw [if_neg (fun e => h e.symm), if_neg h, if_neg h]
theorem zatp (hR : Rel B w0 φ H w) {t : TypeId} {v v' : Value} (hv : VR φ v v') (ht : isTup v = false) :
    ∃ ψ w', φ.le ψ ∧ (Instr.box t v').run P w = .ok (.pointer (some ⟨w.heap.size, 0, none⟩)) w' ∧ VR ψ (.pointer (some ⟨H.next, 0, none⟩)) (.pointer (some ⟨w.heap.size, 0, none⟩)) ∧ Rel B w0 ψ (H.push (.cells true (bxT t) v.cells.toList)) w' := by
 have hc := hv.cells (by intro e; subst e; simp [isTup] at ht)
 have h1 := hv.one ht
 have hl := hc.1
 obtain ⟨g1, g2⟩ := hR.push (w' := w.alloc (.cells v'.cells t)) (e := bxT t) (e' := t) (c := v.cells.toList) (fr := (0, 0)) (stop := v'.cells.size) rfl rfl rfl rfl
  (by rw [List.take_of_length_le (by omega)]; exact hc) (by intro u hu; exact h1 u (List.mem_of_mem_take hu)) (by simpa using Nat.le_of_eq hl) (Nat.le_refl _) (by intro off _; simp) ⟨fun _ => ⟨(elT_bx t).symm, by simpa using hl.symm⟩, fun h => absurd h (bxT_2 t)⟩
 refine ⟨_, _, g1, by simp [Instr.box, newVar, newRow], ?_, g2⟩
 have := VR.ptr (φ := φ.set H.next ⟨w.heap.size, 0, v'.cells.size⟩) H.next 0 _ (Plan.set_same ..)
 simpa using this
theorem Rel.gone (hR : Rel B w0 φ H w) {j : Nat} {m : Emb} (hm : φ j = some m) {e : TypeId} {c : List Value} (hg : H.get j = .cells true e c) {w' : World} (ho : w'.os = w.os) (ht : w'.tape = w.tape) (hout : w'.output = w.output)
    (hs : w'.heap.size = w.heap.size) (hh : ∀ k, k ≠ m.blk → w'.heap[k]? = w.heap[k]?) : Rel B w0 φ (H.put j .dead) w' := by
 have hB : B ≤ m.blk := by
  obtain ⟨cur, e', fr, _, _, _, _, _, h3⟩ := zafj hR hg hm
  exact (h3 rfl).1
 refine hR.change (Plan.le_refl φ) ⟨ho.trans hR.below.os, ht.trans hR.below.tape, hout.trans hR.below.output, by rw [hs]; exact hR.below.size, fun k hk => by rw [hh k (by omega)]; exact hR.below.block k hk⟩ (by rw [hs]; exact Nat.le_refl _) (fun i hi => hR.dom i hi) j
  (fun i hi => ⟨rfl, .inr ⟨by rw [zaba, if_neg hi], fun mi hmi k hk => hh k fun ek => ?_⟩⟩) (by rw [zaba, if_pos rfl]; trivial) (fun mi hmi => by rw [hs]; exact hR.live j mi hmi)
  (fun i mi mj hi _ hmj _ k hk => by rw [zaba, if_pos rfl]; simp [foot]) (Nat.le_refl _) (fun k x hk => ⟨hh k fun ek => ?_, fun mj _ => by rw [zaba, if_pos rfl]; simp [foot]⟩) (fun b hb => by have := (hR.hole j b hb).2.1; rw [hm] at this; cases this)
 ·subst ek
  exact hR.sep i j mi m hi hmi hm _ hk (by rw [hg]; simp [foot])
 ·exact (hR.kept k x hk).2 j m hm (by rw [hg, ek]; simp [foot])
theorem zat9 : ∀ (c : List Value) (l : List UInt8), exactBytes c = some l → l.length = c.length ∧ ∀ (j : Nat) x, l[j]? = some x → c[j]? = some (.int .u8 x.toNat)
 | [], l, h => by simp only [exactBytes] at h; cases h; simp
 | .int .u8 n :: r, l, h => by
  simp only [exactBytes] at h
  split at h
  ·rename_i hn
   simp only [Option.map_eq_some_iff] at h
   obtain ⟨l', h, rfl⟩ := h
   obtain ⟨g1, g2⟩ := zat9 r l' h
   refine ⟨by simp [g1], fun j x hx => ?_⟩
   cases j with
   | zero => simp only [List.getElem?_cons_zero, Option.some.injEq] at hx ⊢; rw [← hx, ← hn]
   | succ j => simp only [List.getElem?_cons_succ] at hx ⊢; exact g2 j x hx
  ·cases h
 | .int .i8 _ :: _, l, h | .int .i16 _ :: _, l, h | .int .i32 _ :: _, l, h | .int .i64 _ :: _, l, h | .int .u16 _ :: _, l, h | .int .u32 _ :: _, l, h | .int .u64 _ :: _, l, h => by simp [exactBytes] at h
 | .bool _ :: _, l, h | .float _ _ :: _, l, h | .complex _ _ _ :: _, l, h | .string _ :: _, l, h | .pointer _ :: _, l, h | .slice _ _ _ :: _, l, h | .map _ :: _, l, h | .chan _ :: _, l, h | .func _ _ _ :: _, l, h | .nilFunc :: _, l, h | .iface _ _ :: _, l, h | .nilIface :: _, l, h | .agg _ :: _, l, h | .tuple _ :: _, l, h => by simp [exactBytes] at h
theorem u8_inj {φ : Plan} {x : Nat} {v : Value} (h : VR φ (.int .u8 x) v) : v = .int .u8 x := by cases h; rfl
theorem zav7 (hR : Rel B w0 φ H w) {pt it ty : TypeId} {p n p' n' v : Value} {H' : Hp} (hp : VR φ p p') (hn : VR φ n n') (h : austr P pt p n H = some (v, H')) :
    ∃ v' w', (Builtin.unsafeString_ #[pt, it] ty #[p', n']).run P w = .ok v' w' ∧ VR φ v v' ∧ Rel B w0 φ H' w' := by
 unfold austr at h
 split at h
 ·cases h
  cases hp
  cases hn
  exact ⟨_, w, Lib.run_unsafeString_none w _ _ _ none, .string _, hR⟩
 ·rename_i a n
  split at h
  ·rename_i e0 e c hpt hg
   split at h
   ·rename_i hc
    obtain ⟨rfl, c2, c3, c4, c5, c6, c7⟩ := hc
    simp only [Option.map_eq_some_iff] at h
    obtain ⟨l, hl, h⟩ := h
    cases h
    cases hn
    cases hp with
    | ptr i off m hm =>
     simp only at hg c3
     subst c3
     obtain ⟨cur, e', fr, hh, hbx, hsz, hvr, hone, hown⟩ := zafj hR hg hm
     obtain ⟨_, b2⟩ := hbx rfl
     obtain ⟨b3, b4⟩ := b2 (slT_2 _)
     rw [elT_sl] at b3
     subst b3
     obtain ⟨l1, l2⟩ := zat9 _ _ hl
     rw [List.length_take, Nat.min_eq_left c6] at l1
     have hl0 : l ≠ [] := by intro e; rw [e] at l1; simp at l1; omega
     have hnl : n = (l.length : Int) := by rw [l1]; omega
     subst hnl
     have hl63 : l.length ≤ 9223372036854775807 := by clear hl hvr hh; omega
     rw [b4, Nat.zero_add]
     refine ⟨_, _, Lib.run_unsafeString_row w pt it ty e' hpt c2 m.blk cur.size (by simp [World.shape?, hh]) l hl0 (by rw [← l1] at c6; omega) hl63 fun j x hx => ?_, .string _, ?_⟩
     ·have hx1 := l2 j x hx
      have hj : j < l.length := by
       rcases Nat.lt_or_ge j l.length with h | h
       ·exact h
       ·rw [List.getElem?_eq_none h] at hx; cases hx
      rw [List.getElem?_take, if_pos (by omega)] at hx1
      obtain ⟨u, hu, hr⟩ := hvr.get? hx1
      rw [u8_inj hr, List.getElem?_take, if_pos (by omega), List.getElem?_drop, b4, Nat.zero_add] at hu
      have : (⟨m.blk, 0, none⟩ : Addr).add j = ⟨m.blk, j, none⟩ := by rw [add_at, Nat.zero_add]
      rw [this]
      simp only [World.cell?, hh]
      simpa using hu
     ·refine hR.gone hm hg ?_ ?_ ?_ ?_ ?_
      ·unfold World.freeze; split <;> rfl
      ·unfold World.freeze; split <;> rfl
      ·unfold World.freeze; split <;> rfl
      ·unfold World.freeze; split
       ·rfl
       ·exact Array.size_modify
      ·intro k hk
       unfold World.freeze
       split
       ·rfl
       ·simp only [Array.getElem?_modify]
        rw [if_neg (fun e => hk e.symm)]
   ·cases h
  ·cases h
 ·cases h
theorem zaxy (hR : Rel B w0 φ H w) {ρ ρ' : Operand → Value} (hρ : ∀ x, VR φ (ρ x) (ρ' x)) {o : Oper} {r : Res} (h : hop P ρ H o.op = some r) :
    Told P B w0 w φ ((execOp ρ' o).run P w) r := by
 obtain ⟨dst, op, type, pos, after, guard⟩ := o
 simp only at h
 cases op with
 | alloc t =>
  simp only [hop, Option.bind_eq_some_iff] at h
  obtain ⟨z, hz, h⟩ := h
  split at h
  ·rename_i hf
   cases h
   simp only [zeroT, Option.bind_eq_some_iff] at hz
   obtain ⟨inf, hinf, hz⟩ := hz
   obtain ⟨ψ, w', g1, g2, g3, g4⟩ := zatp (P := P) (t := t) hR (zaed 8 z hf) (by cases z <;> simp_all [flat, isTup])
   refine ⟨ψ, _, w', _, g1, ?_, .inl rfl, g3, g4⟩
   simp only [Instr.box, Sem.run_bind] at g2
   simp [execOp, Instr.alloc, zeroValue, run_typeInfo (P := P) (w := w) hinf, hz]
   simpa [newVar, newRow] using g2
  ·cases h
 | box t x =>
  simp only [hop] at h
  split at h
  ·cases h
  ·rename_i ht
   cases h
   obtain ⟨ψ, w', g1, g2, g3, g4⟩ := zatp (P := P) (t := t) hR (hρ x) (by simpa using ht)
   exact ⟨ψ, _, w', _, g1, by simp [execOp, g2], .inl rfl, g3, g4⟩
 | buildSlice t len parts =>
  simp only [hop] at h
  split at h
  ·rename_i elem ht
   split at h
   ·rename_i inf hinf
    simp only [Option.bind_eq_some_iff] at h
    obtain ⟨z, hz, h⟩ := h
    split at h
    ·rename_i hc
     obtain ⟨hle, hzs, hf, hp⟩ := hc
     simp only [Option.map_eq_some_iff] at h
     obtain ⟨cs, hfill, rfl⟩ := h
     have hzr := zaed (φ := φ) 8 z hf
     have hzt : isTup z = false := by cases z <;> simp_all [flat, isTup]
     have hzc := hzr.cells (by intro e; subst e; simp [isTup] at hzt)
     have hz1 := hzr.one hzt
     have hfill' := zahw _ _ _ hfill
     have hrep : VRs φ (List.replicate len z.cells.toList).flatten (List.replicate len z.cells.toList).flatten ∧ ∀ u ∈ (List.replicate len z.cells.toList).flatten, u.oneCell' = true := by
      refine ⟨.refl_of fun v hv => ?_, fun u hu => ?_⟩
      ·obtain ⟨l, hl, hvl⟩ := List.mem_flatten.1 hv
       rw [List.eq_of_mem_replicate hl] at hvl
       obtain ⟨j, hj, e⟩ := List.getElem_of_mem hvl
       have := hzc.2 j
       rw [List.getD_eq_getElem?_getD, List.getElem?_eq_getElem hj, Option.getD_some, e] at this
       exact this
      ·obtain ⟨l, hl, hvl⟩ := List.mem_flatten.1 hu
       rw [List.eq_of_mem_replicate hl] at hvl
       exact hz1 u hvl
     obtain ⟨cs', g1, g2, g3⟩ := zajt (φ := φ) (parts.toList.map fun p => (p.1, ρ p.2)) (parts.toList.map fun p => (p.1, ρ' p.2)) _ ((List.replicate len z.cells.toList).flatten).toArray cs.toArray (by simp) (fun i x y hx hy => by
      simp only [List.getElem?_map, Option.map_eq_some_iff] at hx hy
      obtain ⟨p, hp0, rfl⟩ := hx
      obtain ⟨p', hp', rfl⟩ := hy
      rw [hp0] at hp'; cases hp'
      exact ⟨rfl, hρ _, by have := List.all_eq_true.1 hp _ (List.mem_of_getElem? hp0); simpa using this⟩) (by simpa using hrep.1) (by simpa using hrep.2) hfill'
     have hl := g2.1
     simp only [Array.length_toList] at hl
     have hcl : cs.length = len * inf.size := by
      have key : ∀ (pl : Nat → Option (Nat × Nat)) (ps : List (Nat × Value)) (c cs : List Value), afill pl c ps = some cs → cs.length = c.length := by
       intro pl ps
       induction ps with
       | nil => intro c cs h; simp only [afill] at h; cases h; rfl
       | cons x ps ih =>
        intro c cs h
        simp only [afill, Option.bind_eq_some_iff] at h
        obtain ⟨y, _, h⟩ := h
        split at h
        ·rw [ih _ _ h, zach]
        ·cases h
      rw [key _ _ _ _ hfill]
      simp [List.length_flatten, hzs]
     have hcs : cs'.size = len * inf.size := by rw [← hcl]; simpa using hl.symm
     obtain ⟨f1, f2⟩ := hR.push (w' := w.alloc (.cells cs' elem)) (e := slT elem) (e' := elem) (c := cs) (fr := (0, 0)) (stop := cs'.size) rfl rfl rfl rfl
      (by rw [List.take_of_length_le (by simp; omega)]; simpa using g2) (by intro u hu; exact g3 u (List.mem_of_mem_take hu)) (by omega) (Nat.le_refl _) (by intro off _; simp) ⟨fun h => absurd h (slT_1 elem), fun _ => (elT_sl elem).symm⟩
     refine ⟨_, .slice (some ⟨w.heap.size, 0, none⟩) len len, _, _, f1, ?_, .inl rfl, ?_, f2⟩
     ·have hn : ¬ (16777216 < len * inf.size) := by omega
      have hmap : (Array.map (fun x => (x.fst, ρ' x.snd)) parts).toList = parts.toList.map fun p => (p.1, ρ' p.2) := by simp
      have hrc := zaq4 (n := len) (k := inf.size) hzs
      have hrc' : ((Array.range (len * inf.size)).map fun i => (if len * inf.size = 0 then (#[] : Array Value) else z.cells)[i % (if len * inf.size = 0 then (#[] : Array Value) else z.cells).size]!) = ((List.replicate len z.cells.toList).flatten).toArray := by
       apply Array.ext'
       rw [hrc]
      rw [← hrc'] at g1
      by_cases h0 : len * inf.size = 0
      ·have n0 : ¬ (16777216 < 0) := by omega
       simp only [execOp, Instr.buildSlice, Sem.run_bind, run_underlying ht, Result.andThen_ok, sizeOf, run_typeInfo (P := P) (w := w) hinf, Sem.run_pure, gt_iff_lt, show (2 : Nat) ^ 24 = 16777216 from rfl, h0, if_true, hmap] at g1 ⊢
       simp only [n0, if_false, Sem.run_bind, Sem.run_pure, Result.andThen_ok, g1]
       simp [newRow]
      ·rw [if_neg h0] at g1
       simp only [execOp, Instr.buildSlice, Sem.run_bind, run_underlying ht, Result.andThen_ok, sizeOf, run_typeInfo (P := P) (w := w) hinf, Sem.run_pure, gt_iff_lt, show (2 : Nat) ^ 24 = 16777216 from rfl, hn, if_false, h0, zeroValue, hz, hmap, g1]
       simp [newRow]
     ·have := VR.slice (φ := φ.set H.next ⟨w.heap.size, 0, cs'.size⟩) H.next 0 len inf.size len ⟨w.heap.size, 0, cs'.size⟩ (Plan.set_same ..) (Nat.le_refl _) (by simp [hcs])
      simpa using this
    ·cases h
   ·cases h
  ·cases h
 | store t a x =>
  simp only [hop, Option.map_eq_some_iff] at h
  obtain ⟨H', h, rfl⟩ := h
  unfold astore at h
  have ha := hρ a
  split at h
  ·rename_i ad had
   rw [had] at ha
   split at h
   ·rename_i e c hg
    split at h
    ·rename_i hc
     obtain ⟨c1, c2, c3, c4⟩ := hc
     cases h
     have hx := hρ x
     have hxc := hx.cells (by intro e; rw [e] at c2; simp [isTup] at c2)
     have hx1 := hx.one c2
     have hsz : (ρ' x).cells.size = (ρ x).cells.size := by simpa using hxc.1.symm
     generalize hA : ρ' a = a' at ha
     cases ha with
     | ptr i off m hm =>
      simp only at hg c3
      obtain ⟨cur, e', fr, hh, s1, s2⟩ := hR.store (P := P) hg hm (off := off) (vs := (ρ x).cells.toList) (vs' := (ρ' x).cells.toList) (by simpa using c3) hxc hx1
      refine ⟨φ, undef, _, .skip, Plan.le_refl φ, ?_, .inr ⟨rfl, rfl⟩, .undef _ _, s2⟩
      simp only [execOp, hA, Instr.storeAt, Instr.sureAddr, storeVar, Sem.run_bind, Sem.run_pure, Result.andThen_ok, zacm c1, hsz, ne_eq, not_true_eq_false, if_false, s1]
    ·cases h
   ·cases h
  ·cases h
 | convert src dst x =>
  simp only [hop] at h
  split at h
  ·rename_i e s hs hd hx
   have hxr := hρ x
   rw [hx] at hxr
   split at h
   ·rename_i he
    split at h
    ·rename_i h1
     cases h
     have hx' : ρ' x = .string s := by generalize ρ' x = x' at hxr; cases hxr; rfl
     have hcl : (s.data.toList.map fun (b : UInt8) => (Value.int .u8 b.toNat)).length = s.size := by rw [List.length_map, Array.length_toList]; rfl
     generalize hnc : (Question.appendCap s.size 0 e).cut (w.tape w.drawn (.appendCap s.size 0 e)) = nc
     have hnc' : s.size ≤ nc := by rw [← hnc]; simp [Question.cut]
     have hsz : ((s.data.map fun (b : UInt8) => (Value.int .u8 b.toNat)) ++ Array.replicate (nc - s.size) (Value.int .u8 0)).size = nc := by
      simp only [Array.size_append, Array.size_map, Array.size_replicate]
      show s.size + _ = _
      omega
     have htl : ((s.data.map fun (b : UInt8) => (Value.int .u8 b.toNat)) ++ Array.replicate (nc - s.size) (Value.int .u8 0)).toList.take (s.data.toList.map fun (b : UInt8) => (Value.int .u8 b.toNat)).length = s.data.toList.map fun (b : UInt8) => (Value.int .u8 b.toNat) := by
      simp
     let C := (s.data.map fun (b : UInt8) => (Value.int .u8 b.toNat)) ++ Array.replicate (nc - s.size) (Value.int .u8 0)
     obtain ⟨f1, f2⟩ := hR.push (w' := { w with drawn := w.drawn + 1, heap := w.heap.push (.cells C e (C.size, C.size + 1)) }) (e := slT e) (e' := e) (c := s.data.toList.map fun (b : UInt8) => (Value.int .u8 b.toNat)) (fr := (C.size, C.size + 1)) (stop := C.size) rfl rfl rfl rfl
      (by rw [htl]; exact .map_same _ _ fun (b : UInt8) => .int _ _) (by rw [htl]; intro u hu; obtain ⟨b, _, rfl⟩ := List.mem_map.1 hu; rfl) (by rw [hcl]; show _ ≤ C.size; rw [hsz]; exact hnc') (Nat.le_refl _) (by intro off ho; simp; omega) ⟨fun h => absurd h (slT_1 e), fun _ => (elT_sl e).symm⟩
     refine ⟨_, .slice (some ⟨w.heap.size, 0, none⟩) s.size nc, _, _, f1, ?_, .inl rfl, ?_, f2⟩
     ·have hf : (Question.appendCap s.size 0 e).forced = false := rfl
      simp only [execOp, hx', convert, Sem.run_bind, run_underlying hs, run_underlying hd, run_underlying he, Result.andThen_ok, Conv.stringToBytes, run_choose, hf, Bool.false_eq_true, if_false, hnc, newRow, run_newObj, Sem.run_pure, markStringish, run_shape, World.shape?]
      have hC : C.size = s.size + (nc - s.size) := by rw [hsz]; omega
      rw [hC]
      simp [World.freeze]
      rw [zash]
      simp
      rfl
     ·have := VR.slice (φ := φ.set H.next ⟨w.heap.size, 0, C.size⟩) H.next 0 s.size 1 nc ⟨w.heap.size, 0, C.size⟩ (Plan.set_same ..) hnc' (by show 0 + 0 + nc * 1 = C.size; rw [hsz]; omega)
      simpa using this
    ·cases h
   ·cases h
  ·cases h
 | call c =>
  simp only [hop] at h
  split at h
  ·rename_i hcal
   split at h
   ·rename_i st xt s x ht hx
    simp only [Option.map_eq_some_iff] at h
    obtain ⟨⟨v, H'⟩, h, rfl⟩ := h
    obtain ⟨ψ, v', w', g1, g2, g3, g4⟩ := zaot (P := P) (ty := type) hR (hρ s) (hρ x) h
    refine ⟨ψ, v', w', _, g1, ?_, .inl rfl, g3, g4⟩
    have e1 := zag3 ht
    have e2 := zag3 hx
    simp [execOp, resolve, hcal, invoke, builtin, e1, e2, g2]
   ·cases h
  ·rename_i hcal
   split at h
   ·rename_i pt it p n ht hx
    simp only [Option.map_eq_some_iff] at h
    obtain ⟨⟨v, H'⟩, h, rfl⟩ := h
    obtain ⟨v', w', g2, g3, g4⟩ := zav7 (P := P) (it := it) (ty := type) hR (hρ p) (hρ n) h
    refine ⟨φ, v', w', _, Plan.le_refl φ, ?_, .inl rfl, g3, g4⟩
    have e1 := zag3 ht
    have e2 := zag3 hx
    simp [execOp, resolve, hcal, invoke, builtin, e1, e2, g2]
   ·cases h
  ·rename_i f hcal
   have hf := hρ f
   split at h
   ·rename_i g first captured hfv
    rw [hfv] at hf
    split at h
    ·rename_i hok
     cases h
     unfold funcOk at hok
     split at hok
     ·rename_i fn hfn
      simp only [Bool.and_eq_true, bne_iff_ne, ne_eq] at hok
      obtain ⟨hn, hb⟩ := hok
      have hb' : fn.body.isNone = false := by cases hbb : fn.body <;> simp_all
      generalize hf' : ρ' f = f' at hf
      cases hf with
      | func _ _ first' _ captured' h1 h2 h3 h4 =>
       refine ⟨first'.toList ++ (c.args.toList.map ρ') ++ captured'.toList, ?_, ((VRs.of_array h1 h3).append ?_).append (VRs.of_array h2 h4)⟩
       ·have hn' : (fn.name == "runtime.NumGoroutine") = false := by simpa using hn
        simp only [execOp, Sem.run_bind, resolve, hcal, hf', Deferred.ofValue, Sem.run_pure, Result.andThen_ok, invoke, callFunc, run_program, hfn, hn', hb', Bool.false_eq_true, if_false]
        congr 2
        apply Array.ext'
        simp
       ·refine .of_forall (by simp) fun i u u' hu hu' => ?_
        simp only [List.getElem?_map, Option.map_eq_some_iff] at hu hu'
        obtain ⟨a, ha, rfl⟩ := hu
        obtain ⟨a', ha', rfl⟩ := hu'
        rw [ha] at ha'; cases ha'
        exact hρ a
     ·cases hok
    ·cases h
   ·cases h
  ·cases h
 | _ => simp [hop] at h
theorem zaw8 (hR : Rel B w0 φ H w) {ρ ρ' : Operand → Value} (hρ : ∀ x, VR φ (ρ x) (ρ' x)) {o : Oper} {r : Res} (h : aop P ρ H o.op = some r) :
    Told P B w0 w φ ((execOp ρ' o).run P w) r := by
 unfold aop at h
 split at h
 ·simp only [Option.map_eq_some_iff] at h
  obtain ⟨v, h, rfl⟩ := h
  obtain ⟨v', g1, g2⟩ := zax8 hR hρ h
  exact ⟨φ, v', w, _, Plan.le_refl φ, g1, .inl rfl, g2, hR⟩
 ·exact zaxy hR hρ h
end
end Go.Proofs.YtliemjbafgnnbaaGreatDoor.Abs
