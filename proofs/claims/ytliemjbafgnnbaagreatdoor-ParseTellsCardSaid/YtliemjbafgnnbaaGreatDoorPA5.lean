/- The operations that make or write memory. -/
import Derived.Test.YtliemjbafgnnbaaGreatDoorPA4
import Derived.Laws.Append
import Derived.Lib.FrozenHead
set_option linter.unnecessarySimpa false
set_option linter.unusedSimpArgs false
set_option linter.unusedVariables false
namespace Go.Proofs.YtliemjbafgnnbaaGreatDoor.Abs
open Go Go.RowKit
section
variable {P : Program} {B : Nat} {w0 : Base} {w : World} {φ : Plan} {H : Hp}
theorem Rel.push (hR : Rel B w0 φ H w) {w' : World} {e e' : TypeId} {c : List Value} {c' : Array Value} {fr : Nat × Nat} {stop : Nat}
    (hh : w'.heap = w.heap.push (.cells c' e' fr)) (ho : w'.os = w.os) (ht : w'.tape = w.tape) (hout : w'.output = w.output)
    (hc : VRs φ c (c'.toList.take c.length)) (h1 : ∀ u, u ∈ c'.toList.take c.length → u.oneCell' = true) (hl : c.length ≤ stop) (hs : stop ≤ c'.size)
    (hf : ∀ off, off < stop → (decide (fr.1 ≤ off) && decide (off < fr.2)) = false) (hbx : (e % 4 = 1 → e' = elT e ∧ c'.size = c.length) ∧ (e % 4 = 2 → e' = elT e)) :
    φ.le (φ.set H.next ⟨w.heap.size, 0, stop⟩) ∧ Rel B w0 (φ.set H.next ⟨w.heap.size, 0, stop⟩) (H.push (.cells true e c)) w' := by
 have hle : φ.le (φ.set H.next ⟨w.heap.size, 0, stop⟩) := Plan.le_set _ (hR.dom _ (Nat.le_refl _))
 refine ⟨hle, hR.change hle ⟨ho.trans hR.below.os, ht.trans hR.below.tape, hout.trans hR.below.output, ?_, ?_⟩ ?_ ?_ H.next ?_ ?_ ?_ ?_ (by rw [zaam]; omega) ?_ (fun b hb => absurd (hR.hole _ b hb).1 (by omega))⟩
 ·rw [hh, Array.size_push]; have := hR.below.size; omega
 ·intro k hk
  rw [hh, Array.getElem?_push, if_neg (by have := hR.size; omega)]
  exact hR.below.block k hk
 ·rw [hh, Array.size_push]; omega
 ·intro i hi
  rw [zaam] at hi
  rw [Plan.set_other _ _ (by omega)]
  exact hR.dom i (by omega)
 ·intro j hj
  refine ⟨Plan.set_other _ _ hj, .inr ⟨by rw [zaaj, if_neg hj], fun m hm k hk => ?_⟩⟩
  have := zazr (hR.blkOf hm) hm k hk
  have h2 := hR.live j m hm
  rw [hh, Array.getElem?_push, if_neg (by omega)]
 ·rw [zaaj, if_pos rfl, Plan.set_same]
  refine ⟨_, c', e', fr, rfl, by rw [hh]; simp, fun _ => ⟨fun h => ⟨(hbx.1 h).1, rfl, (hbx.1 h).2⟩, fun h => ⟨hbx.2 h, rfl⟩⟩, by simp; omega, ?_, ?_, fun _ => ⟨hR.size, hs, by simp; omega, hf⟩⟩
  ·simpa using hc.mono hle
  ·simpa using h1
 ·intro m hm
  rw [Plan.set_same] at hm
  cases hm
  rw [hh]; simp
 ·intro j m mi hj hm hmi _ k hk hk'
  rw [zaaj, if_pos rfl] at hk'
  rw [Plan.set_same] at hmi
  cases hmi
  simp [foot] at hk'
  have := zazr (hR.blkOf hm) hm k hk
  have h2 := hR.live j m hm
  omega
 ·intro k x hk
  have h1 := (Array.getElem?_eq_some_iff.1 (hR.kept k x hk).1).1
  refine ⟨by rw [hh, Array.getElem?_push, if_neg (by omega)], fun m hm hf => ?_⟩
  rw [Plan.set_same] at hm
  cases hm
  rw [zaaj, if_pos rfl] at hf
  simp [foot] at hf
  omega
theorem Rel.kill (hR : Rel B w0 φ H w) (i : Nat) : Rel B w0 φ (H.put i .dead) w := by
 refine hR.change (Plan.le_refl φ) hR.below (Nat.le_refl _) (fun j hj => hR.dom j hj) i (fun j hj => ⟨rfl, .inr ⟨by rw [zaba, if_neg hj], fun _ _ _ _ => rfl⟩⟩) ?_ (fun m hm => hR.live i m hm) ?_ ?_ ?_ ?_
 ·rw [zaba, if_pos rfl]; trivial
 ·intro j m mi hj hm hmi _ k hk
  rw [zaba, if_pos rfl]; simp [foot]
 ·exact Nat.le_refl _
 ·intro k x hk
  exact ⟨rfl, fun m _ => by rw [zaba, if_pos rfl]; simp [foot]⟩
 ·intro b hb
  exact ⟨(hR.hole i b hb).2.1, .inr (by rw [zaba, if_pos rfl])⟩
theorem Rel.drawn (hR : Rel B w0 φ H w) (n : Nat) : Rel B w0 φ H { w with drawn := n } :=
 ⟨⟨hR.below.os, hR.below.tape, hR.below.output, hR.below.size, hR.below.block⟩, hR.size, hR.dom, hR.blk, hR.sep, hR.live, hR.kept, hR.hole⟩
theorem zagb (P : Program) (g o : Nat) (t : TypeId) (fz : Nat × Nat) : ∀ (vs : List Value) (i : Nat) (cur : Array Value) (w : World), w.heap[g]? = some (.cells cur t fz) →
    (∀ off, off < o + i + vs.length → (decide (fz.1 ≤ off) && decide (off < fz.2)) = false) → o + i + vs.length ≤ cur.size → (∀ v ∈ vs, v.oneCell' = true) →
    (storeCells ⟨g, o, none⟩ vs i).run P w = .ok () (w.setRow g (cur.toList.take (o + i) ++ vs ++ cur.toList.drop (o + i + vs.length)).toArray)
 | [], i, cur, w, hg, _, _, _ => by
  simp only [storeCells, List.append_nil, List.length_nil, Nat.add_zero, List.take_append_drop, Array.toArray_toList]
  rw [setRow_self w g cur t fz hg]
  rfl
 | v :: rest, i, cur, w, hg, hfz, hl, h1 => by
  have hi : o + i < cur.size := by simp at hl; omega
  have hadd : (⟨g, o, none⟩ : Addr).add i = ⟨g, o + i, none⟩ := by unfold Addr.add; split <;> simp_all
  have hcell : w.cell? ⟨g, o + i, none⟩ = some cur[o + i] := by simp [World.cell?, hg, hi]
  have hfro : w.frozen? ⟨g, o + i, none⟩ = false := by
   obtain ⟨lo, hi'⟩ := fz
   simp only [World.frozen?, hg]
   exact hfz (o + i) (by simp only [List.length_cons]; omega)
  have hst : (store ((⟨g, o, none⟩ : Addr).add i) v).run P w = .ok () (w.setRow g (cur.setIfInBounds (o + i) v)) := by
   rw [hadd, run_store P w _ v _ (h1 v (by simp)), hcell]
   simp [hfro, setCell_eq_setRow w g (o + i) cur t fz v hg]
  have ih := zagb P g o t fz rest (i + 1) (cur.setIfInBounds (o + i) v) (w.setRow g (cur.setIfInBounds (o + i) v)) (setRow_heap w g cur _ t _ hg) (fun off ho => hfz off (by simp at ho ⊢; omega)) (by simp at hl ⊢; omega) (fun x hx => h1 x (by simp [hx]))
  simp only [storeCells, Sem.run_bind, hst, Result.andThen_ok, ih, setRow_setRow]
  congr 3
  have e := list_seg_step cur.toList (o + i) v rest (by simp at hl ⊢; omega)
  simpa [Array.toList_setIfInBounds, Nat.add_assoc] using e
theorem zaeb (w : World) (g k : Nat) (cs : Array Value) (h : k ≠ g) : (w.setRow g cs).heap[k]? = w.heap[k]? := by
 simp only [World.setRow, Array.getElem?_modify]
 rw [if_neg (fun e => h e.symm)]
theorem zaml : ∀ (vs c : List Value) (i : Nat), i + vs.length ≤ c.length → setAll c i vs = c.take i ++ vs ++ c.drop (i + vs.length)
 | [], c, i, _ => by simp [setAll]
 | v :: r, c, i, h => by
  rw [setAll, zaml r (c.set i v) (i + 1) (by simp at h ⊢; omega)]
  have := list_seg_step c i v r (by simp at h ⊢; omega)
  simpa [Nat.add_assoc, Nat.add_comm 1] using this
theorem Rel.store (hR : Rel B w0 φ H w) {i : Nat} {e : TypeId} {c : List Value} (hg : H.get i = .cells true e c) {m : Emb} (hm : φ i = some m) {off : Nat} {vs vs' : List Value}
    (hl : off + vs.length ≤ c.length) (hv : VRs φ vs vs') (h1 : ∀ v ∈ vs', v.oneCell' = true) :
    ∃ cur e' fr, w.heap[m.blk]? = some (.cells cur e' fr) ∧
     (storeCells ⟨m.blk, m.base + off, none⟩ vs').run P w = .ok () (w.setRow m.blk (cur.toList.take (m.base + off) ++ vs' ++ cur.toList.drop (m.base + off + vs'.length)).toArray) ∧
     Rel B w0 φ (H.put i (.cells true e (setAll c off vs))) (w.setRow m.blk (cur.toList.take (m.base + off) ++ vs' ++ cur.toList.drop (m.base + off + vs'.length)).toArray) := by
 obtain ⟨cur, e', fr, hh, hbx, hsz, hvr, hone, hown⟩ := zafj hR hg hm
 obtain ⟨hB, hstop, hbl, hfz⟩ := hown rfl
 have hlen := hv.1
 refine ⟨cur, e', fr, hh, ?_, ?_⟩
 ·have := zagb P m.blk (m.base + off) e' fr vs' 0 cur w hh (fun o ho => hfz o (by omega)) (by omega) h1
  simpa using this
 ·have hnew := setRow_heap w m.blk cur (cur.toList.take (m.base + off) ++ vs' ++ cur.toList.drop (m.base + off + vs'.length)).toArray e' fr hh
  have hsize : (w.setRow m.blk (cur.toList.take (m.base + off) ++ vs' ++ cur.toList.drop (m.base + off + vs'.length)).toArray).heap.size = w.heap.size := size_setRow ..
  refine hR.change (Plan.le_refl φ) ⟨hR.below.os, hR.below.tape, hR.below.output, by rw [hsize]; exact hR.below.size, fun k hk => ?_⟩ (by rw [hsize]; exact Nat.le_refl _) (fun j hj => hR.dom j hj) i
   (fun j hj => ⟨rfl, .inr ⟨by rw [zaba, if_neg hj], fun m' hm' k hk => ?_⟩⟩) ?_ (fun m' hm' => by rw [hsize]; exact hR.live i m' hm') ?_ (Nat.le_refl _) (fun k x hk => ?_) (fun b hb => by have := (hR.hole i b hb).2.1; rw [hm] at this; cases this)
  ·rw [zaeb _ _ _ _ (by omega)]; exact hR.below.block k hk
  ·refine zaeb _ _ _ _ fun ek => ?_
   subst ek
   exact hR.sep j i m' m hj hm' hm _ hk (by rw [hg]; simp [foot])
  ·rw [zaba, if_pos rfl]
   have hcs : (cur.toList.take (m.base + off) ++ vs' ++ cur.toList.drop (m.base + off + vs'.length)).length = cur.size := by simp; omega
   have key : ((cur.toList.take (m.base + off) ++ vs' ++ cur.toList.drop (m.base + off + vs'.length)).drop m.base).take c.length = setAll ((cur.toList.drop m.base).take c.length) off vs' := by
    rw [zaml _ _ _ (by simp; omega)]
    apply List.ext_getElem?
    intro j
    by_cases hj : j < c.length
    ·rw [List.getElem?_take, if_pos hj, List.getElem?_drop]
     by_cases a1 : j < off
     ·rw [List.append_assoc, List.getElem?_append_left (by simp; omega), List.append_assoc, List.getElem?_append_left (by simp; omega), List.getElem?_take, if_pos (by omega), List.getElem?_take, if_pos a1, List.getElem?_take, if_pos hj, List.getElem?_drop]
     ·by_cases a2 : j < off + vs'.length
      ·rw [List.append_assoc, List.getElem?_append_right (by simp; omega), List.getElem?_append_left (by simp; omega), List.append_assoc, List.getElem?_append_right (by simp; omega), List.getElem?_append_left (by simp; omega)]
       congr 1
       simp; omega
      ·rw [List.getElem?_append_right (by simp; omega), List.getElem?_append_right (by simp; omega), List.getElem?_drop, List.getElem?_drop, List.getElem?_take, if_pos (by simp; omega), List.getElem?_drop]
       congr 1
       simp; omega
    ·rw [List.getElem?_take, if_neg hj, List.getElem?_eq_none (by simp; omega)]
   have hset : ∀ (v v' c c' : List Value) (o : Nat), VRs φ v v' → VRs φ c c' → VRs φ (setAll c o v) (setAll c' o v') := by
    intro v
    induction v with
    | nil => intro v' c c' o hv hc; have : v' = [] := by have := hv.1; simpa using this.symm
             subst this; exact hc
    | cons x v ih =>
     intro v' c c' o hv hc
     cases v' with
     | nil => have := hv.1; simp at this
     | cons x' v' =>
      refine ih v' _ _ _ hv.tail (.of_forall (by simpa using hc.1) fun j u u' hu hu' => ?_)
      by_cases hj : o = j
      ·subst hj
       have l1 : o < c.length := by
        rcases Nat.lt_or_ge o c.length with h | h
        ·exact h
        ·rw [List.getElem?_eq_none (by simpa using h)] at hu; cases hu
       rw [List.getElem?_set_self l1] at hu
       rw [List.getElem?_set_self (hc.1 ▸ l1)] at hu'
       cases hu; cases hu'; exact hv.head
      ·rw [List.getElem?_set_ne hj] at hu hu'
       obtain ⟨u'', g1, g2⟩ := hc.get? hu
       rw [g1] at hu'; cases hu'; exact g2
   have hmem : ∀ (v c : List Value) (o : Nat), (∀ u ∈ v, u.oneCell' = true) → (∀ u ∈ c, u.oneCell' = true) → ∀ u ∈ setAll c o v, u.oneCell' = true := by
    intro v
    induction v with
    | nil => intro c o _ hc; exact hc
    | cons x v ih =>
     intro c o hv hc
     refine ih _ _ (fun u hu => hv u (by simp [hu])) fun u hu => ?_
     rcases List.mem_or_eq_of_mem_set hu with h | h
     ·exact hc u h
     ·rw [h]; exact hv x (by simp)
   refine ⟨m, _, e', fr, hm, hnew, fun h => ⟨fun ho => ⟨((hbx h).1 ho).1, ((hbx h).1 ho).2.1, by rw [zach, ← ((hbx h).1 ho).2.2]; simpa using hcs⟩, (hbx h).2⟩, by simp [zach]; omega, ?_, ?_, fun _ => ⟨hB, by simp; omega, by rw [zach]; omega, hfz⟩⟩
   ·rw [zach]
    have : (cur.toList.take (m.base + off) ++ vs' ++ cur.toList.drop (m.base + off + vs'.length)).toArray.toList = cur.toList.take (m.base + off) ++ vs' ++ cur.toList.drop (m.base + off + vs'.length) := by simp
    rw [this, key]
    exact hset vs vs' c _ off hv hvr
   ·rw [zach]
    have : (cur.toList.take (m.base + off) ++ vs' ++ cur.toList.drop (m.base + off + vs'.length)).toArray.toList = cur.toList.take (m.base + off) ++ vs' ++ cur.toList.drop (m.base + off + vs'.length) := by simp
    rw [this, key]
    exact hmem vs' _ off h1 hone
  ·intro j m' mi hj hm' hmi _ k hk hk'
   rw [hm] at hmi
   cases hmi
   rw [zaba, if_pos rfl] at hk'
   simp [foot] at hk'
   subst hk'
   exact hR.sep j i m' m hj hm' hm _ hk (by rw [hg]; simp [foot])
  ·have hne : k ≠ m.blk := fun e => (hR.kept k x hk).2 i m hm (by rw [hg, e]; simp [foot])
   refine ⟨zaeb _ _ _ _ hne, fun m' hm' hf => ?_⟩
   rw [hm] at hm'
   cases hm'
   rw [zaba, if_pos rfl] at hf
   simp [foot] at hf
   exact hne hf
end
end Go.Proofs.YtliemjbafgnnbaaGreatDoor.Abs
