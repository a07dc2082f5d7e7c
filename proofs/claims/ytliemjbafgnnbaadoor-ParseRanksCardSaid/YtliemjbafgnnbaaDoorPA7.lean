/- Every heavy operation, and every operation. -/
import Derived.Test.YtliemjbafgnnbaaDoorPA6
set_option maxHeartbeats 0
set_option linter.unnecessarySimpa false
set_option linter.unusedSimpArgs false
set_option linter.unusedVariables false
namespace Go.Proofs.YtliemjbafgnnbaaDoor.Abs
open Go Go.RowKit
section
variable {P : Program} {B : Nat} {w0 : Base} {w : World} {φ : Plan} {H : Hp}
def Told (P : Program) (B : Nat) (w0 : Base) (w : World) (φ : Plan) (s : Result Next) : Res → Prop
 | .val v H' => ∃ ψ v' w' nx, φ.le ψ ∧ s = .ok nx w' ∧ (nx = .value v' ∨ nx = .skip ∧ v' = undef) ∧ VR ψ v v' ∧ Rel B w0 ψ H' w'
 | .enter f args => ∃ args' : List Value, s = .ok (.enter f args'.toArray) w ∧ VRs φ args args'
theorem zalf {α : Type} {x : Array α} {l : List α} (h : x.toList = l) : x = l.toArray := by cases x; simp_all
theorem zaqh {α : Type} (a : Array α) (x : α) (f : α → α) : (a.push x).modify a.size f = a.push (f x) := by
 apply Array.ext_getElem?
 intro i
 rw [Array.getElem?_modify, Array.getElem?_push, Array.getElem?_push]
 by_cases h : i = a.size
 ·simp [h]
 ·rw [if_neg (fun e => h e.symm), if_neg h, if_neg h]
theorem zarm (hR : Rel B w0 φ H w) {t : TypeId} {v v' : Value} (hv : VR φ v v') (ht : isTup v = false) :
    ∃ ψ w', φ.le ψ ∧ (Instr.box t v').run P w = .ok (.pointer (some ⟨w.heap.size, 0, none⟩)) w' ∧ VR ψ (.pointer (some ⟨H.next, 0, none⟩)) (.pointer (some ⟨w.heap.size, 0, none⟩)) ∧ Rel B w0 ψ (H.push (.cells true (bxT t) v.cells.toList)) w' := by
 have hc := hv.cells (by intro e; subst e; simp [isTup] at ht)
 have h1 := hv.one ht
 have hl := hc.1
 obtain ⟨g1, g2⟩ := hR.push (w' := w.alloc (.cells v'.cells t)) (e := bxT t) (e' := t) (c := v.cells.toList) (fr := (0, 0)) (stop := v'.cells.size) rfl rfl rfl rfl
  (by rw [List.take_of_length_le (by omega)]; exact hc) (by intro u hu; exact h1 u (List.mem_of_mem_take hu)) (by simpa using Nat.le_of_eq hl) (Nat.le_refl _) (by intro off _; simp) ⟨fun _ => ⟨(elT_bx t).symm, by simpa using hl.symm⟩, fun h => absurd h (bxT_2 t)⟩
 refine ⟨_, _, g1, by simp [Instr.box, newVar, newRow], ?_, g2⟩
 have := VR.ptr (φ := φ.set H.next ⟨w.heap.size, 0, v'.cells.size⟩) H.next 0 _ (Plan.set_same ..)
 simpa using this
theorem Rel.gone (hR : Rel B w0 φ H w) {j : Nat} {m : Emb} (hm : φ j = some m) {e : TypeId} {c : List Value} (hg : H.get j = .cells true e c) {w' : World} (ho : w'.os = w.os) (ht : w'.tape = w.tape) (hout : w'.output = w.output)
    (hs : w'.heap.size = w.heap.size) (hh : ∀ k, k ≠ m.blk → w'.heap[k]? = w.heap[k]?) : Rel B w0 φ (H.put j .dead) w' := by
 have hB : B ≤ m.blk := by
  obtain ⟨cur, e', fr, _, _, _, _, _, h3⟩ := zaeo hR hg hm
  exact (h3 rfl).1
 refine hR.change (Plan.le_refl φ) ⟨ho.trans hR.below.os, ht.trans hR.below.tape, hout.trans hR.below.output, by rw [hs]; exact hR.below.size, fun k hk => by rw [hh k (by omega)]; exact hR.below.block k hk⟩ (by rw [hs]; exact Nat.le_refl _) (fun i hi => hR.dom i hi) j
  (fun i hi => ⟨rfl, .inr ⟨by rw [zaan, if_neg hi], fun mi hmi k hk => hh k fun ek => ?_⟩⟩) (by rw [zaan, if_pos rfl]; trivial) (fun mi hmi => by rw [hs]; exact hR.live j mi hmi)
  (fun i mi mj hi _ hmj _ k hk => by rw [zaan, if_pos rfl]; simp [foot]) (Nat.le_refl _) (fun k x hk => ⟨hh k fun ek => ?_, fun mj _ => by rw [zaan, if_pos rfl]; simp [foot]⟩) (fun b hb => by have := (hR.hole j b hb).2.1; rw [hm] at this; cases this)
 ·subst ek
  exact hR.sep i j mi m hi hmi hm _ hk (by rw [hg]; simp [foot])
 ·exact (hR.kept k x hk).2 j m hm (by rw [hg, ek]; simp [foot])
theorem zar6 : ∀ (c : List Value) (l : List UInt8), exactBytes c = some l → l.length = c.length ∧ ∀ (j : Nat) x, l[j]? = some x → c[j]? = some (.int .u8 x.toNat)
 | [], l, h => by simp only [exactBytes] at h; cases h; simp
 | .int .u8 n :: r, l, h => by
  simp only [exactBytes] at h
  split at h
  ·rename_i hn
   simp only [Option.map_eq_some_iff] at h
   obtain ⟨l', h, rfl⟩ := h
   obtain ⟨g1, g2⟩ := zar6 r l' h
   refine ⟨by simp [g1], fun j x hx => ?_⟩
   cases j with
   | zero => simp only [List.getElem?_cons_zero, Option.some.injEq] at hx ⊢; rw [← hx, ← hn]
   | succ j => simp only [List.getElem?_cons_succ] at hx ⊢; exact g2 j x hx
  ·cases h
 | .int .i8 _ :: _, l, h | .int .i16 _ :: _, l, h | .int .i32 _ :: _, l, h | .int .i64 _ :: _, l, h | .int .u16 _ :: _, l, h | .int .u32 _ :: _, l, h | .int .u64 _ :: _, l, h => by simp [exactBytes] at h
 | .bool _ :: _, l, h | .float _ _ :: _, l, h | .complex _ _ _ :: _, l, h | .string _ :: _, l, h | .pointer _ :: _, l, h | .slice _ _ _ :: _, l, h | .map _ :: _, l, h | .chan _ :: _, l, h | .func _ _ _ :: _, l, h | .nilFunc :: _, l, h | .iface _ _ :: _, l, h | .nilIface :: _, l, h | .agg _ :: _, l, h | .tuple _ :: _, l, h => by simp [exactBytes] at h
theorem u8_inj {φ : Plan} {x : Nat} {v : Value} (h : VR φ (.int .u8 x) v) : v = .int .u8 x := by cases h; rfl
theorem zatv (hR : Rel B w0 φ H w) {pt it ty : TypeId} {p n p' n' v : Value} {H' : Hp} (hp : VR φ p p') (hn : VR φ n n') (h : austr P pt p n H = some (v, H')) :
    ∃ v' w', (Builtin.unsafeString_ #[pt, it] ty #[p', n']).run P w = .ok v' w' ∧ VR φ v v' ∧ Rel B w0 φ H' w' := by
 unfold austr at h
 split at h
 ·cases h
  cases hp
  cases hn
  exact ⟨_, w, Lib.run_unsafeString_none w _ _ _ none, .string _, hR⟩
 ·rename_i a n
  split at h
  ·rename_i e0 e c hpt hg
   split at h
   ·rename_i hc
    obtain ⟨rfl, c2, c3, c4, c5, c6, c7⟩ := hc
    simp only [Option.map_eq_some_iff] at h
    obtain ⟨l, hl, h⟩ := h
    cases h
    cases hn
    cases hp with
    | ptr i off m hm =>
     simp only at hg c3
     subst c3
     obtain ⟨cur, e', fr, hh, hbx, hsz, hvr, hone, hown⟩ := zaeo hR hg hm
     obtain ⟨_, b2⟩ := hbx rfl
     obtain ⟨b3, b4⟩ := b2 (slT_2 _)
     rw [elT_sl] at b3
     subst b3
     obtain ⟨l1, l2⟩ := zar6 _ _ hl
     rw [List.length_take, Nat.min_eq_left c6] at l1
     have hl0 : l ≠ [] := by intro e; rw [e] at l1; simp at l1; omega
     have hnl : n = (l.length : Int) := by rw [l1]; omega
     subst hnl
     have hl63 : l.length ≤ 9223372036854775807 := by clear hl hvr hh; omega
     rw [b4, Nat.zero_add]
     refine ⟨_, _, Lib.run_unsafeString_row w pt it ty e' hpt c2 m.blk cur.size (by simp [World.shape?, hh]) l hl0 (by rw [← l1] at c6; omega) hl63 fun j x hx => ?_, .string _, ?_⟩
     ·have hx1 := l2 j x hx
      have hj : j < l.length := by
       rcases Nat.lt_or_ge j l.length with h | h
       ·exact h
       ·rw [List.getElem?_eq_none h] at hx; cases hx
      rw [List.getElem?_take, if_pos (by omega)] at hx1
      obtain ⟨u, hu, hr⟩ := hvr.get? hx1
      rw [u8_inj hr, List.getElem?_take, if_pos (by omega), List.getElem?_drop, b4, Nat.zero_add] at hu
      have : (⟨m.blk, 0, none⟩ : Addr).add j = ⟨m.blk, j, none⟩ := by rw [add_at, Nat.zero_add]
      rw [this]
      simp only [World.cell?, hh]
      simpa using hu
     ·refine hR.gone hm hg ?_ ?_ ?_ ?_ ?_
      ·unfold World.freeze; split <;> rfl
      ·unfold World.freeze; split <;> rfl
      ·unfold World.freeze; split <;> rfl
      ·unfold World.freeze; split
       ·rfl
       ·exact Array.size_modify
      ·intro k hk
       unfold World.freeze
       split
       ·rfl
       ·simp only [Array.getElem?_modify]
        rw [if_neg (fun e => hk e.symm)]
   ·cases h
  ·cases h
 ·cases h
theorem Rel.pushMap (hR : Rel B w0 φ H w) : φ.le (φ.set H.next ⟨w.heap.size, 0, 0⟩) ∧ Rel B w0 (φ.set H.next ⟨w.heap.size, 0, 0⟩) (H.push (.map [])) (w.alloc (.map #[] 0)) := by
 have hle : φ.le (φ.set H.next ⟨w.heap.size, 0, 0⟩) := Plan.le_set _ (hR.dom _ (Nat.le_refl _))
 have hh : (w.alloc (.map #[] 0)).heap = w.heap.push (.map #[] 0) := rfl
 refine ⟨hle, hR.change hle ⟨hR.below.os, hR.below.tape, hR.below.output, ?_, ?_⟩ ?_ ?_ H.next ?_ ?_ ?_ ?_ (by rw [zaad]; omega) ?_ (fun b hb => absurd (hR.hole _ b hb).1 (by omega))⟩
 ·rw [hh, Array.size_push]; have := hR.below.size; omega
 ·intro k hk
  rw [hh, Array.getElem?_push, if_neg (by have := hR.size; omega)]
  exact hR.below.block k hk
 ·rw [hh, Array.size_push]; omega
 ·intro i hi
  rw [zaad] at hi
  rw [Plan.set_other _ _ (by omega)]
  exact hR.dom i (by omega)
 ·intro j hj
  refine ⟨Plan.set_other _ _ hj, .inr ⟨by rw [zaab, if_neg hj], fun m hm k hk => ?_⟩⟩
  have := zan9 (hR.blkOf hm) hm k hk
  have h2 := hR.live j m hm
  rw [hh, Array.getElem?_push, if_neg (by omega)]
 ·rw [zaab, if_pos rfl, Plan.set_same]
  exact ⟨_, #[], 0, rfl, hR.size, by rw [hh]; simp, ⟨[], .nil, trivial⟩, by simp, by simp, by simp, by simp⟩
 ·intro m hm
  rw [Plan.set_same] at hm
  cases hm
  rw [hh]; simp
 ·intro j m mi hj hm hmi _ k hk hk'
  rw [zaab, if_pos rfl] at hk'
  rw [Plan.set_same] at hmi
  cases hmi
  simp [foot] at hk'
  have := zan9 (hR.blkOf hm) hm k hk
  have h2 := hR.live j m hm
  omega
 ·intro k x hk
  have h1 := (Array.getElem?_eq_some_iff.1 (hR.kept k x hk).1).1
  refine ⟨by rw [hh, Array.getElem?_push, if_neg (by omega)], fun m hm hf => ?_⟩
  rw [Plan.set_same] at hm
  cases hm
  rw [zaab, if_pos rfl] at hf
  simp [foot] at hf
  omega
theorem Rel.setMap (hR : Rel B w0 φ H w) {i : Nat} {m : Emb} {es es1 : List (Value × Value)} {es' : Array MapEntry} {clock : Nat} (hm : φ i = some m) (hg : H.get i = .map es) (hr : MapRel φ es1 es' clock) :
    Rel B w0 φ (H.put i (.map es1)) { w with heap := w.heap.setIfInBounds m.blk (.map es' clock) } := by
 obtain ⟨es0, clock0, hB, hh, _⟩ := zagc hR hm hg
 have hlt : m.blk < w.heap.size := (Array.getElem?_eq_some_iff.1 hh).1
 have hother : ∀ k, k ≠ m.blk → (w.heap.setIfInBounds m.blk (.map es' clock))[k]? = w.heap[k]? := fun k hk => by simp [Ne.symm hk]
 refine hR.change (Plan.le_refl φ) ⟨hR.below.os, hR.below.tape, hR.below.output, by simpa using hR.below.size, fun k hk => ?_⟩ (by simp) (fun j hj => hR.dom j hj) i (fun j hj => ⟨rfl, .inr ⟨by rw [zaan, if_neg hj], fun mj hmj k hk => ?_⟩⟩) ?_ (fun mi hmi => by simpa using hR.live i mi hmi) ?_ (Nat.le_refl _) ?_ ?_
 ·show (w.heap.setIfInBounds m.blk (.map es' clock))[k]? = _
  rw [hother k (by omega)]; exact hR.below.block k hk
 ·refine hother k fun e => ?_
  subst e
  exact hR.sep i j m mj (Ne.symm hj) hm hmj m.blk (by rw [hg]; simp [foot]) hk
 ·rw [zaan, if_pos rfl, hm]
  exact ⟨m, es', clock, rfl, hB, by simp [hlt], hr⟩
 ·intro j mj mi hj hmj hmi _ k hk hk'
  rw [zaan, if_pos rfl] at hk'
  rw [hm] at hmi; cases hmi
  simp [foot] at hk'
  subst hk'
  exact hR.sep i j m mj (Ne.symm hj) hm hmj m.blk (by rw [hg]; simp [foot]) hk
 ·intro k x hk
  obtain ⟨h1, h2⟩ := hR.kept k x hk
  have hne : k ≠ m.blk := fun e => h2 i m hm (by rw [hg, e]; simp [foot])
  refine ⟨hother k hne, fun mi hmi hf => ?_⟩
  rw [hm] at hmi; cases hmi
  rw [zaan, if_pos rfl] at hf
  simp [foot] at hf
  exact hne hf
 ·intro b hb
  have := (hR.hole i b hb).2.1
  rw [hm] at this; cases this
theorem EntsRel.append {φ : Plan} : ∀ {es : List (Value × Value)} {l : List MapEntry} {x : Value × Value} {y : MapEntry}, EntsRel φ es l → y.key = x.1 → VR φ x.2 y.val → EntsRel φ (es ++ [x]) (l ++ [y])
 | [], [], x, y, _, h1, h2 => ⟨h1, h2, trivial⟩
 | _ :: _, _ :: _, x, y, ⟨a, b, c⟩, h1, h2 => ⟨a, b, EntsRel.append c h1 h2⟩
 | [], _ :: _, _, _, k, _, _ => k.elim
 | _ :: _, [], _, _, k, _, _ => k.elim
theorem EntsRel.keysL {φ : Plan} : ∀ {es : List (Value × Value)} {l : List MapEntry}, EntsRel φ es l → l.map (·.key) = es.map (·.1)
 | [], [], _ => rfl
 | _ :: _, _ :: _, ⟨a, _, c⟩ => by simp [a, EntsRel.keysL c]
 | [], _ :: _, k => k.elim
 | _ :: _, [], k => k.elim
theorem MapRel.keys' {φ : Plan} {es : List (Value × Value)} {es' : Array MapEntry} {clock : Nat} (h : MapRel φ es es' clock) : (es'.toList.map (·.key)).Nodup := by
 obtain ⟨l, hp, he⟩ := h.ents
 have := h.keys
 rw [← he.keysL] at this
 exact (hp.map _).nodup_iff.1 this
theorem zalz {k : Value} {f : MapEntry → MapEntry} : ∀ (l : List MapEntry) (j : Nat), (l.map (·.key)).Nodup → ∀ y, l[j]? = some y → y.key = k → l.modify j f = l.map fun y => if vbeq k y.key then f y else y
 | [], _, _, _, h, _ => by simp at h
 | z :: l, 0, hn, y, h, e => by
  rw [List.map_cons, List.nodup_cons] at hn
  simp only [List.getElem?_cons_zero, Option.some.injEq] at h
  subst h
  rw [List.modify_zero_cons, List.map_cons, if_pos ((zado _ _).2 e.symm)]
  congr 1
  have : l.map (fun y => if vbeq k y.key then f y else y) = l.map id := List.map_congr_left fun u hu => by
   rw [if_neg]; rfl
   intro hb
   have := (zado _ _).1 hb
   exact hn.1 (List.mem_map.2 ⟨u, hu, by rw [← this, e]⟩)
  rw [this, List.map_id]
 | z :: l, j + 1, hn, y, h, e => by
  rw [List.map_cons, List.nodup_cons] at hn
  simp only [List.getElem?_cons_succ] at h
  rw [List.modify_succ_cons, List.map_cons, if_neg, zalz l j hn.2 y h e]
  intro hb
  have := (zado _ _).1 hb
  exact hn.1 (List.mem_map.2 ⟨y, List.mem_of_getElem? h, by rw [← this, e]⟩)
theorem zaio {k : Value} : ∀ (l : List MapEntry) (j : Nat), (l.map (·.key)).Nodup → ∀ y, l[j]? = some y → y.key = k → l.eraseIdx j = l.filter fun y => !vbeq k y.key
 | [], _, _, _, h, _ => by simp at h
 | z :: l, 0, hn, y, h, e => by
  rw [List.map_cons, List.nodup_cons] at hn
  simp only [List.getElem?_cons_zero, Option.some.injEq] at h
  subst h
  rw [List.eraseIdx_cons_zero, List.filter_cons, if_neg (by simp [(zado _ _).2 e.symm])]
  symm
  rw [List.filter_eq_self]
  intro u hu
  cases hb : vbeq k u.key with
  | false => rfl
  | true =>
   have := (zado _ _).1 hb
   exact absurd (List.mem_map.2 ⟨u, hu, by rw [← this, e]⟩) hn.1
 | z :: l, j + 1, hn, y, h, e => by
  rw [List.map_cons, List.nodup_cons] at hn
  simp only [List.getElem?_cons_succ] at h
  rw [List.eraseIdx_cons_succ, List.filter_cons, if_pos, zaio l j hn.2 y h e]
  cases hb : vbeq k z.key with
  | false => rfl
  | true =>
   have := (zado _ _).1 hb
   exact absurd (List.mem_map.2 ⟨y, List.mem_of_getElem? h, by rw [← this, e]⟩) hn.1
theorem EntsRel.set {φ : Plan} {k v v' : Value} (hv : VR φ v v') : ∀ {es : List (Value × Value)} {l : List MapEntry}, EntsRel φ es l → EntsRel φ (es.map fun e => if vbeq k e.1 then (e.1, v) else e) (l.map fun y => if vbeq k y.key then { y with key := k, val := v' } else y)
 | [], [], _ => trivial
 | x :: es, y :: l, ⟨a, b, c⟩ => by
  have ih := EntsRel.set (k := k) hv c
  rw [List.map_cons, List.map_cons]
  cases hb : vbeq k y.key with
  | true =>
   have hb2 : vbeq k x.1 = true := by rw [← a]; exact hb
   simp only [hb, hb2, if_true]
   exact ⟨(zado _ _).1 hb2, hv, ih⟩
  | false =>
   have hb2 : vbeq k x.1 = false := by rw [← a]; exact hb
   simp only [hb, hb2, Bool.false_eq_true, if_false]
   exact ⟨a, b, ih⟩
 | [], _ :: _, k => k.elim
 | _ :: _, [], k => k.elim
theorem EntsRel.del {φ : Plan} {k : Value} : ∀ {es : List (Value × Value)} {l : List MapEntry}, EntsRel φ es l → EntsRel φ (es.filter fun e => !vbeq k e.1) (l.filter fun y => !vbeq k y.key)
 | [], [], _ => trivial
 | x :: es, y :: l, ⟨a, b, c⟩ => by
  rw [List.filter_cons, List.filter_cons, a]
  cases hb : vbeq k x.1 with
  | true => simpa [hb] using EntsRel.del c
  | false => simp only [hb, Bool.not_false, if_true]; exact ⟨a, b, EntsRel.del c⟩
 | [], _ :: _, k => k.elim
 | _ :: _, [], k => k.elim
theorem MapRel.push {φ : Plan} {es : List (Value × Value)} {es' : Array MapEntry} {clock : Nat} (h : MapRel φ es es' clock) {k v v' : Value} (hf : Abs.flat 8 k = true ∧ isTup k = false) (hk : ∀ x ∈ es, x.1 ≠ k) (hv : VR φ v v') : MapRel φ (es ++ [(k, v)]) (es'.push ⟨k, v', clock⟩) (clock + 1) := by
 obtain ⟨l, hp, he⟩ := h.ents
 refine ⟨⟨l ++ [⟨k, v', clock⟩], by rw [Array.toList_push]; exact hp.append_right _, he.append rfl hv⟩, ?_, ?_, ?_, ?_⟩
 ·intro x hx
  rcases List.mem_append.1 hx with hx | hx
  ·exact h.flat x hx
  ·rw [List.mem_singleton] at hx; subst hx; exact hf
 ·rw [List.map_append, List.nodup_append]
  refine ⟨h.keys, by simp, fun a ha b hb => ?_⟩
  obtain ⟨x, hx, rfl⟩ := List.mem_map.1 ha
  simp at hb; subst hb
  exact hk x hx
 ·intro e he'
  rw [Array.toList_push] at he'
  rcases List.mem_append.1 he' with he' | he'
  ·have := h.born e he'; omega
  ·rw [List.mem_singleton] at he'; subst he'; show clock < clock + 1; omega
 ·rw [Array.toList_push, List.map_append, List.nodup_append]
  refine ⟨h.stamps, by simp, fun a ha b hb => ?_⟩
  obtain ⟨x, hx, rfl⟩ := List.mem_map.1 ha
  simp at hb; subst hb
  have := h.born x hx; omega
theorem MapRel.set {φ : Plan} {es : List (Value × Value)} {es' : Array MapEntry} {clock : Nat} (h : MapRel φ es es' clock) {k v v' : Value} {j : Nat} {y : MapEntry} (hj : es'[j]? = some y) (hy : y.key = k) (hv : VR φ v v') :
    MapRel φ (es.map fun e => if vbeq k e.1 then (e.1, v) else e) (es'.modify j fun e => { e with key := k, val := v' }) clock := by
 obtain ⟨l, hp, he⟩ := h.ents
 have hm : (es'.modify j fun e => { e with key := k, val := v' }).toList = es'.toList.map fun y => if vbeq k y.key then { y with key := k, val := v' } else y := by
  rw [Array.toList_modify]
  exact zalz (f := fun e => { e with key := k, val := v' }) es'.toList j h.keys' y (by simpa using hj) hy
 have hb : (es'.toList.map fun y => if vbeq k y.key then ({ y with key := k, val := v' } : MapEntry) else y).map (·.born) = es'.toList.map (·.born) := by
  rw [List.map_map]
  exact List.map_congr_left fun u _ => by simp only [Function.comp]; split <;> rfl
 refine ⟨⟨_, by rw [hm]; exact hp.map _, he.set hv⟩, ?_, ?_, ?_, ?_⟩
 ·intro x hx
  obtain ⟨u, hu, rfl⟩ := List.mem_map.1 hx
  have := h.flat u hu
  split <;> exact this
 ·rw [List.map_map]
  have : es.map ((fun x => x.1) ∘ fun e => if vbeq k e.1 then (e.1, v) else e) = es.map (·.1) := List.map_congr_left fun u _ => by simp only [Function.comp]; split <;> rfl
  rw [this]; exact h.keys
 ·intro e he'
  rw [hm] at he'
  obtain ⟨u, hu, rfl⟩ := List.mem_map.1 he'
  have := h.born u hu
  split <;> exact this
 ·rw [hm, hb]; exact h.stamps
theorem MapRel.del {φ : Plan} {es : List (Value × Value)} {es' : Array MapEntry} {clock : Nat} (h : MapRel φ es es' clock) {k : Value} {j : Nat} {y : MapEntry} (hj : es'[j]? = some y) (hy : y.key = k) :
    MapRel φ (mdel k es) (es'.eraseIdxIfInBounds j) clock := by
 obtain ⟨l, hp, he⟩ := h.ents
 have hm : (es'.eraseIdxIfInBounds j).toList = es'.toList.filter fun y => !vbeq k y.key := by
  rw [← zaio es'.toList j h.keys' y (by simpa using hj) hy]
  simp
 refine ⟨⟨_, by rw [hm]; exact hp.filter _, he.del⟩, ?_, ?_, ?_, ?_⟩
 ·intro x hx; exact h.flat x (List.mem_filter.1 hx).1
 ·exact h.keys.sublist (List.filter_sublist.map _)
 ·intro e he'; rw [hm] at he'; exact h.born e (List.mem_filter.1 he').1
 ·rw [hm]; exact h.stamps.sublist (List.filter_sublist.map _)
theorem zavs {k : Value} {es : List (Value × Value)} (h : ∀ x ∈ es, x.1 ≠ k) : mdel k es = es := by
 unfold mdel
 rw [List.filter_eq_self]
 intro x hx
 cases hb : vbeq k x.1 with
 | false => rfl
 | true => exact absurd ((zado _ _).1 hb).symm (h x hx)
theorem zasi {kt : TypeId} {k : Value} (h : ∀ (b : Bool) (w : World), (Instr.checkKey b 10000 kt k).run P w = .ok () w) (w : World) : ∃ d, P.underlying kt = some d := by
 cases hd : P.underlying kt with
 | some d => exact ⟨d, rfl⟩
 | none =>
  have hno : ∀ n : Nat, (Instr.checkKey true (n + 1) kt k).run P w ≠ .ok () w := fun n => by simp [Instr.checkKey, underlying, hd]
  exact absurd (h true w) (hno 9999)
theorem zaqg (hR : Rel B w0 φ H w) {t : TypeId} {m k v m' k' v' : Value} {H' : Hp} (hm : VR φ m m') (hk : VR φ k k') (hv : VR φ v v') (h : amapSet P t m k v H = some H') :
    ∃ w', (Instr.mapUpdate t m' k' v').run P w = .ok () w' ∧ Rel B w0 φ H' w' := by
 unfold amapSet at h
 split at h
 ·rename_i kt et r hu
  split at h
  ·rename_i es hg
   split at h
   ·rename_i hc
    obtain ⟨ht, hkk⟩ := hc
    cases h
    obtain ⟨hk1, _⟩ := zaeg hkk
    obtain ⟨hf, htk, hsb, hchk⟩ := zafx hk1
    have ek := zafv 8 _ _ hf hk
    subst ek
    obtain ⟨d, hd⟩ := zasi hchk w
    cases hm with
    | map i m hm =>
     obtain ⟨es', clock, _, hh, hr⟩ := zagc hR hm hg
     obtain ⟨r0, h1, h2⟩ := zam8 (P := P) hd hr hkk w
     have hgo : (getObj m.blk).run P w = .ok (.map es' clock) w := MapKept.run_getObj_map hh
     rcases h2 with ⟨rfl, h3, h4⟩ | ⟨j, y, x, rfl, hj, hy, _, _, h3, hv0⟩
     ·refine ⟨_, ?_, hR.setMap (es1 := mset k' v es) hm hg (by unfold mset; rw [h3]; exact hr.push ⟨hf, htk⟩ h4 hv)⟩
      simp [Instr.mapUpdate, run_underlying hu, hgo, hchk, h1, MapKept.run_setObj_map _ hh]
     ·refine ⟨_, ?_, hR.setMap (es1 := mset k' v es) hm hg (by unfold mset; rw [h3]; exact hr.set hj hy hv)⟩
      have hst : (Instr.keyThatStays (((es'[j]?).map (·.key)).getD k') k').run P w = .ok k' w := by
       rw [hj]
       simp [Instr.keyThatStays, hy, hsb]
      simp only [Instr.mapUpdate, Sem.run_bind, run_underlying hu, Result.andThen_ok, hgo, hchk, h1, hst, MapKept.run_setObj_map _ hh]
   ·cases h
  ·cases h
 ·cases h
theorem zaqf (hR : Rel B w0 φ H w) {t ty : TypeId} {ts : List TypeId} {m k m' k' : Value} {H' : Hp} (hm : VR φ m m') (hk : VR φ k k') (h : amapDel P t m k H = some H') :
    ∃ w', (Builtin.delete_ (t :: ts).toArray ty #[m', k']).run P w = .ok (.tuple #[]) w' ∧ Rel B w0 φ H' w' := by
 unfold amapDel at h
 split at h
 ·rename_i kt et hu
  split at h
  ·rename_i hkk
   cases h
   obtain ⟨hk1, _⟩ := zaeg hkk
   obtain ⟨hf, htk, hsb, hchk⟩ := zafx hk1
   have ek := zafv 8 _ _ hf hk
   subst ek
   cases hm
   exact ⟨w, by simp [Builtin.delete_, run_underlying hu, hchk], hR⟩
  ·cases h
 ·rename_i kt et r hu
  split at h
  ·rename_i es hg
   split at h
   ·rename_i hkk
    cases h
    obtain ⟨hk1, _⟩ := zaeg hkk
    obtain ⟨hf, htk, hsb, hchk⟩ := zafx hk1
    have ek := zafv 8 _ _ hf hk
    subst ek
    obtain ⟨d, hd⟩ := zasi hchk w
    cases hm with
    | map i m hm =>
     obtain ⟨es', clock, _, hh, hr⟩ := zagc hR hm hg
     obtain ⟨r0, h1, h2⟩ := zam8 (P := P) hd hr hkk w
     have hgo : (getObj m.blk).run P w = .ok (.map es' clock) w := MapKept.run_getObj_map hh
     rcases h2 with ⟨rfl, h3, h4⟩ | ⟨j, y, x, rfl, hj, hy, _, _, h3, hv0⟩
     ·refine ⟨_, ?_, hR.setMap (es1 := mdel k' es) hm hg (by rw [zavs h4]; exact hr)⟩
      simp [Builtin.delete_, run_underlying hu, hgo, hchk, h1, MapKept.run_setObj_map _ hh]
     ·refine ⟨_, ?_, hR.setMap (es1 := mdel k' es) hm hg (hr.del hj hy)⟩
      simp [Builtin.delete_, run_underlying hu, hgo, hchk, h1, MapKept.run_setObj_map _ hh]
   ·cases h
  ·cases h
 ·cases h
theorem zavh (hR : Rel B w0 φ H w) {ρ ρ' : Operand → Value} (hρ : ∀ x, VR φ (ρ x) (ρ' x)) {o : Oper} {r : Res} (h : hop P ρ H o.op = some r) :
    Told P B w0 w φ ((execOp ρ' o).run P w) r := by
 obtain ⟨dst, op, type, pos, after, guard⟩ := o
 simp only at h
 cases op with
 | alloc t =>
  simp only [hop, Option.bind_eq_some_iff] at h
  obtain ⟨z, hz, h⟩ := h
  split at h
  ·rename_i hf
   cases h
   simp only [zeroT, Option.bind_eq_some_iff] at hz
   obtain ⟨inf, hinf, hz⟩ := hz
   obtain ⟨ψ, w', g1, g2, g3, g4⟩ := zarm (P := P) (t := t) hR (zac5 8 z hf) (by cases z <;> simp_all [flat, isTup])
   refine ⟨ψ, _, w', _, g1, ?_, .inl rfl, g3, g4⟩
   simp only [Instr.box, Sem.run_bind] at g2
   simp [execOp, Instr.alloc, zeroValue, run_typeInfo (P := P) (w := w) hinf, hz]
   simpa [newVar, newRow] using g2
  ·cases h
 | box t x =>
  simp only [hop] at h
  split at h
  ·cases h
  ·rename_i ht
   cases h
   obtain ⟨ψ, w', g1, g2, g3, g4⟩ := zarm (P := P) (t := t) hR (hρ x) (by simpa using ht)
   exact ⟨ψ, _, w', _, g1, by simp [execOp, g2], .inl rfl, g3, g4⟩
 | buildSlice t len parts =>
  simp only [hop] at h
  split at h
  ·rename_i elem ht
   split at h
   ·rename_i inf hinf
    simp only [Option.bind_eq_some_iff] at h
    obtain ⟨z, hz, h⟩ := h
    split at h
    ·rename_i hc
     obtain ⟨hle, hzs, hf, hp⟩ := hc
     simp only [Option.map_eq_some_iff] at h
     obtain ⟨cs, hfill, rfl⟩ := h
     have hzr := zac5 (φ := φ) 8 z hf
     have hzt : isTup z = false := by cases z <;> simp_all [flat, isTup]
     have hzc := hzr.cells (by intro e; subst e; simp [isTup] at hzt)
     have hz1 := hzr.one hzt
     have hfill' := zag4 _ _ _ hfill
     have hrep : VRs φ (List.replicate len z.cells.toList).flatten (List.replicate len z.cells.toList).flatten ∧ ∀ u ∈ (List.replicate len z.cells.toList).flatten, u.oneCell' = true := by
      refine ⟨.refl_of fun v hv => ?_, fun u hu => ?_⟩
      ·obtain ⟨l, hl, hvl⟩ := List.mem_flatten.1 hv
       rw [List.eq_of_mem_replicate hl] at hvl
       obtain ⟨j, hj, e⟩ := List.getElem_of_mem hvl
       have := hzc.2 j
       rw [List.getD_eq_getElem?_getD, List.getElem?_eq_getElem hj, Option.getD_some, e] at this
       exact this
      ·obtain ⟨l, hl, hvl⟩ := List.mem_flatten.1 hu
       rw [List.eq_of_mem_replicate hl] at hvl
       exact hz1 u hvl
     obtain ⟨cs', g1, g2, g3⟩ := zaiq (φ := φ) (parts.toList.map fun p => (p.1, ρ p.2)) (parts.toList.map fun p => (p.1, ρ' p.2)) _ ((List.replicate len z.cells.toList).flatten).toArray cs.toArray (by simp) (fun i x y hx hy => by
      simp only [List.getElem?_map, Option.map_eq_some_iff] at hx hy
      obtain ⟨p, hp0, rfl⟩ := hx
      obtain ⟨p', hp', rfl⟩ := hy
      rw [hp0] at hp'; cases hp'
      exact ⟨rfl, hρ _, by have := List.all_eq_true.1 hp _ (List.mem_of_getElem? hp0); simpa using this⟩) (by simpa using hrep.1) (by simpa using hrep.2) hfill'
     have hl := g2.1
     simp only [Array.length_toList] at hl
     have hcl : cs.length = len * inf.size := by
      have key : ∀ (pl : Nat → Option (Nat × Nat)) (ps : List (Nat × Value)) (c cs : List Value), afill pl c ps = some cs → cs.length = c.length := by
       intro pl ps
       induction ps with
       | nil => intro c cs h; simp only [afill] at h; cases h; rfl
       | cons x ps ih =>
        intro c cs h
        simp only [afill, Option.bind_eq_some_iff] at h
        obtain ⟨y, _, h⟩ := h
        split at h
        ·rw [ih _ _ h, zabz]
        ·cases h
      rw [key _ _ _ _ hfill]
      simp [List.length_flatten, hzs]
     have hcs : cs'.size = len * inf.size := by rw [← hcl]; simpa using hl.symm
     obtain ⟨f1, f2⟩ := hR.push (w' := w.alloc (.cells cs' elem)) (e := slT elem) (e' := elem) (c := cs) (fr := (0, 0)) (stop := cs'.size) rfl rfl rfl rfl
      (by rw [List.take_of_length_le (by simp; omega)]; simpa using g2) (by intro u hu; exact g3 u (List.mem_of_mem_take hu)) (by omega) (Nat.le_refl _) (by intro off _; simp) ⟨fun h => absurd h (slT_1 elem), fun _ => (elT_sl elem).symm⟩
     refine ⟨_, .slice (some ⟨w.heap.size, 0, none⟩) len len, _, _, f1, ?_, .inl rfl, ?_, f2⟩
     ·have hn : ¬ (16777216 < len * inf.size) := by omega
      have hmap : (Array.map (fun x => (x.fst, ρ' x.snd)) parts).toList = parts.toList.map fun p => (p.1, ρ' p.2) := by simp
      have hrc := zao4 (n := len) (k := inf.size) hzs
      have hrc' : ((Array.range (len * inf.size)).map fun i => (if len * inf.size = 0 then (#[] : Array Value) else z.cells)[i % (if len * inf.size = 0 then (#[] : Array Value) else z.cells).size]!) = ((List.replicate len z.cells.toList).flatten).toArray := by
       apply Array.ext'
       rw [hrc]
      rw [← hrc'] at g1
      by_cases h0 : len * inf.size = 0
      ·have n0 : ¬ (16777216 < 0) := by omega
       simp only [execOp, Instr.buildSlice, Sem.run_bind, run_underlying ht, Result.andThen_ok, sizeOf, run_typeInfo (P := P) (w := w) hinf, Sem.run_pure, gt_iff_lt, show (2 : Nat) ^ 24 = 16777216 from rfl, h0, if_true, hmap] at g1 ⊢
       simp only [n0, if_false, Sem.run_bind, Sem.run_pure, Result.andThen_ok, g1]
       simp [newRow]
      ·rw [if_neg h0] at g1
       simp only [execOp, Instr.buildSlice, Sem.run_bind, run_underlying ht, Result.andThen_ok, sizeOf, run_typeInfo (P := P) (w := w) hinf, Sem.run_pure, gt_iff_lt, show (2 : Nat) ^ 24 = 16777216 from rfl, hn, if_false, h0, zeroValue, hz, hmap, g1]
       simp [newRow]
     ·have := VR.slice (φ := φ.set H.next ⟨w.heap.size, 0, cs'.size⟩) H.next 0 len inf.size len ⟨w.heap.size, 0, cs'.size⟩ (Plan.set_same ..) (Nat.le_refl _) (by simp [hcs])
      simpa using this
    ·cases h
   ·cases h
  ·cases h
 | store t a x =>
  simp only [hop, Option.map_eq_some_iff] at h
  obtain ⟨H', h, rfl⟩ := h
  unfold astore at h
  have ha := hρ a
  split at h
  ·rename_i ad had
   rw [had] at ha
   split at h
   ·rename_i e c hg
    split at h
    ·rename_i hc
     obtain ⟨c1, c2, c3, c4⟩ := hc
     cases h
     have hx := hρ x
     have hxc := hx.cells (by intro e; rw [e] at c2; simp [isTup] at c2)
     have hx1 := hx.one c2
     have hsz : (ρ' x).cells.size = (ρ x).cells.size := by simpa using hxc.1.symm
     generalize hA : ρ' a = a' at ha
     cases ha with
     | ptr i off m hm =>
      simp only at hg c3
      obtain ⟨cur, e', fr, hh, s1, s2⟩ := hR.store (P := P) hg hm (off := off) (vs := (ρ x).cells.toList) (vs' := (ρ' x).cells.toList) (by simpa using c3) hxc hx1
      refine ⟨φ, undef, _, .skip, Plan.le_refl φ, ?_, .inr ⟨rfl, rfl⟩, .undef _ _, s2⟩
      simp only [execOp, hA, Instr.storeAt, Instr.sureAddr, storeVar, Sem.run_bind, Sem.run_pure, Result.andThen_ok, zab1 c1, hsz, ne_eq, not_true_eq_false, if_false, s1]
    ·cases h
   ·cases h
  ·cases h
 | makeMap t rv =>
  cases rv with
  | some r => simp [hop] at h
  | none =>
   simp only [hop] at h
   split at h
   ·cases h
    obtain ⟨g1, g2⟩ := hR.pushMap
    exact ⟨_, .map (some w.heap.size), _, _, g1, by simp [execOp, Instr.makeMap], .inl rfl, .map _ _ (Plan.set_same ..), g2⟩
   ·cases h
 | mapUpdate t m k x =>
  simp only [hop, Option.map_eq_some_iff] at h
  obtain ⟨H', h, rfl⟩ := h
  obtain ⟨w', g1, g2⟩ := zaqg (P := P) hR (hρ m) (hρ k) (hρ x) h
  exact ⟨φ, undef, w', .skip, Plan.le_refl φ, by simp [execOp, g1], .inr ⟨rfl, rfl⟩, .undef _ _, g2⟩
 | convert src dst x =>
  simp only [hop] at h
  split at h
  ·rename_i e s hs hd hx
   have hxr := hρ x
   rw [hx] at hxr
   split at h
   ·rename_i he
    split at h
    ·rename_i h1
     cases h
     have hx' : ρ' x = .string s := by generalize ρ' x = x' at hxr; cases hxr; rfl
     have hcl : (s.data.toList.map fun (b : UInt8) => (Value.int .u8 b.toNat)).length = s.size := by rw [List.length_map, Array.length_toList]; rfl
     generalize hnc : (Question.appendCap s.size 0 e).cut (w.tape w.drawn (.appendCap s.size 0 e)) = nc
     have hnc' : s.size ≤ nc := by rw [← hnc]; simp [Question.cut]
     have hsz : ((s.data.map fun (b : UInt8) => (Value.int .u8 b.toNat)) ++ Array.replicate (nc - s.size) (Value.int .u8 0)).size = nc := by
      simp only [Array.size_append, Array.size_map, Array.size_replicate]
      show s.size + _ = _
      omega
     have htl : ((s.data.map fun (b : UInt8) => (Value.int .u8 b.toNat)) ++ Array.replicate (nc - s.size) (Value.int .u8 0)).toList.take (s.data.toList.map fun (b : UInt8) => (Value.int .u8 b.toNat)).length = s.data.toList.map fun (b : UInt8) => (Value.int .u8 b.toNat) := by
      simp
     let C := (s.data.map fun (b : UInt8) => (Value.int .u8 b.toNat)) ++ Array.replicate (nc - s.size) (Value.int .u8 0)
     obtain ⟨f1, f2⟩ := hR.push (w' := { w with drawn := w.drawn + 1, heap := w.heap.push (.cells C e (C.size, C.size + 1)) }) (e := slT e) (e' := e) (c := s.data.toList.map fun (b : UInt8) => (Value.int .u8 b.toNat)) (fr := (C.size, C.size + 1)) (stop := C.size) rfl rfl rfl rfl
      (by rw [htl]; exact .map_same _ _ fun (b : UInt8) => .int _ _) (by rw [htl]; intro u hu; obtain ⟨b, _, rfl⟩ := List.mem_map.1 hu; rfl) (by rw [hcl]; show _ ≤ C.size; rw [hsz]; exact hnc') (Nat.le_refl _) (by intro off ho; simp; omega) ⟨fun h => absurd h (slT_1 e), fun _ => (elT_sl e).symm⟩
     refine ⟨_, .slice (some ⟨w.heap.size, 0, none⟩) s.size nc, _, _, f1, ?_, .inl rfl, ?_, f2⟩
     ·have hf : (Question.appendCap s.size 0 e).forced = false := rfl
      simp only [execOp, hx', convert, Sem.run_bind, run_underlying hs, run_underlying hd, run_underlying he, Result.andThen_ok, Conv.stringToBytes, run_choose, hf, Bool.false_eq_true, if_false, hnc, newRow, run_newObj, Sem.run_pure, markStringish, run_shape, World.shape?]
      have hC : C.size = s.size + (nc - s.size) := by rw [hsz]; omega
      rw [hC]
      simp [World.freeze]
      rw [zaqh]
      simp
      rfl
     ·have := VR.slice (φ := φ.set H.next ⟨w.heap.size, 0, C.size⟩) H.next 0 s.size 1 nc ⟨w.heap.size, 0, C.size⟩ (Plan.set_same ..) hnc' (by show 0 + 0 + nc * 1 = C.size; rw [hsz]; omega)
      simpa using this
    ·cases h
   ·cases h
  ·cases h
 | call c =>
  simp only [hop] at h
  split at h
  ·rename_i hcal
   split at h
   ·rename_i st xt s x ht hx
    simp only [Option.map_eq_some_iff] at h
    obtain ⟨⟨v, H'⟩, h, rfl⟩ := h
    obtain ⟨ψ, v', w', g1, g2, g3, g4⟩ := zam0 (P := P) (ty := type) hR (hρ s) (hρ x) h
    refine ⟨ψ, v', w', _, g1, ?_, .inl rfl, g3, g4⟩
    have e1 := zae9 ht
    have e2 := zae9 hx
    simp [execOp, resolve, hcal, invoke, builtin, e1, e2, g2]
   ·cases h
  ·rename_i hcal
   split at h
   ·rename_i t ts m k ht hx
    simp only [Option.map_eq_some_iff] at h
    obtain ⟨H', h, rfl⟩ := h
    obtain ⟨w', g1, g2⟩ := zaqf (P := P) (ts := ts) (ty := type) hR (hρ m) (hρ k) h
    refine ⟨φ, .tuple #[], w', .value (.tuple #[]), Plan.le_refl φ, ?_, .inl rfl, .undef _ _, g2⟩
    have e1 := zalf ht
    have e2 := zae9 hx
    have e3 : Array.map ρ' #[m, k] = #[ρ' m, ρ' k] := by simp
    simp only [execOp, resolve, hcal, invoke, builtin, e1, e2, e3, Sem.run_bind, g1, Result.andThen_ok, Sem.run_pure]
    try rfl
   ·cases h
  ·rename_i hcal
   split at h
   ·rename_i pt it p n ht hx
    simp only [Option.map_eq_some_iff] at h
    obtain ⟨⟨v, H'⟩, h, rfl⟩ := h
    obtain ⟨v', w', g2, g3, g4⟩ := zatv (P := P) (it := it) (ty := type) hR (hρ p) (hρ n) h
    refine ⟨φ, v', w', _, Plan.le_refl φ, ?_, .inl rfl, g3, g4⟩
    have e1 := zae9 ht
    have e2 := zae9 hx
    simp [execOp, resolve, hcal, invoke, builtin, e1, e2, g2]
   ·cases h
  ·rename_i f hcal
   have hf := hρ f
   split at h
   ·rename_i g first captured hfv
    rw [hfv] at hf
    split at h
    ·rename_i hok
     cases h
     unfold funcOk at hok
     split at hok
     ·rename_i fn hfn
      simp only [Bool.and_eq_true, bne_iff_ne, ne_eq] at hok
      obtain ⟨hn, hb⟩ := hok
      have hb' : fn.body.isNone = false := by cases hbb : fn.body <;> simp_all
      generalize hf' : ρ' f = f' at hf
      cases hf with
      | func _ _ first' _ captured' h1 h2 h3 h4 =>
       refine ⟨first'.toList ++ (c.args.toList.map ρ') ++ captured'.toList, ?_, ((VRs.of_array h1 h3).append ?_).append (VRs.of_array h2 h4)⟩
       ·have hn' : (fn.name == "runtime.NumGoroutine") = false := by simpa using hn
        simp only [execOp, Sem.run_bind, resolve, hcal, hf', Deferred.ofValue, Sem.run_pure, Result.andThen_ok, invoke, callFunc, run_program, hfn, hn', hb', Bool.false_eq_true, if_false]
        congr 2
        apply Array.ext'
        simp
       ·refine .of_forall (by simp) fun i u u' hu hu' => ?_
        simp only [List.getElem?_map, Option.map_eq_some_iff] at hu hu'
        obtain ⟨a, ha, rfl⟩ := hu
        obtain ⟨a', ha', rfl⟩ := hu'
        rw [ha] at ha'; cases ha'
        exact hρ a
     ·cases hok
    ·cases h
   ·cases h
  ·cases h
 | _ => simp [hop] at h
theorem zaur (hR : Rel B w0 φ H w) {ρ ρ' : Operand → Value} (hρ : ∀ x, VR φ (ρ x) (ρ' x)) {o : Oper} {r : Res} (h : aop P ρ H o.op = some r) :
    Told P B w0 w φ ((execOp ρ' o).run P w) r := by
 unfold aop at h
 split at h
 ·simp only [Option.map_eq_some_iff] at h
  obtain ⟨v, h, rfl⟩ := h
  obtain ⟨v', g1, g2⟩ := zavr hR hρ h
  exact ⟨φ, v', w, _, Plan.le_refl φ, g1, .inl rfl, g2, hR⟩
 ·exact zavh hR hρ h
end
end Go.Proofs.YtliemjbafgnnbaaDoor.Abs
