/- Blocks that are kept back, and holes: how they come into the plain heap; what an operation that just makes a block comes to. -/
import Derived.Test.YtliemjbafgnnbaaDoorPA9
set_option maxHeartbeats 0
set_option linter.unnecessarySimpa false
set_option linter.unusedSimpArgs false
set_option linter.unusedVariables false
namespace Go.Proofs.YtliemjbafgnnbaaDoor.Abs
open Go Go.RowKit
section
variable {P : Program} {B : Nat} {w0 : World}
theorem zakt {b : Blk} {m : Emb} {k : Nat} (h : k ∈ foot B b m) : k = m.blk := by
 unfold foot at h
 split at h
 ·cases h
 ·split at h
  ·cases h
  ·simpa using h
 ·simpa using h
theorem Below.trans' {w w1 w2 : World} (hB : B ≤ w1.heap.size) (h : Below B w w1) (k : Below w1.heap.size w1 w2) : Below B w w2 :=
 ⟨k.os.trans h.os, k.tape.trans h.tape, k.output.trans h.output, Nat.le_trans h.size k.size, fun i hi => by rw [k.block i (by omega), h.block i hi]⟩
theorem Rel.grow {w0 : Base} {φ : Plan} {H : Hp} {w w' : World} (h : Rel B w0 φ H w) (k : Below w.heap.size w w') : Rel B w0 φ H w' :=
 ⟨Below.trans' h.size h.below k, Nat.le_trans h.size k.size, h.dom,
  fun i => (h.blk i).imp_right fun hb => hb.keep (Plan.le_refl φ) (fun j hj => k.block j (Nat.lt_of_lt_of_le hj h.size)) fun m hm j hj => by rw [zakt hj]; exact k.block _ (h.live i m hm),
  h.sep, fun i m hm => Nat.lt_of_lt_of_le (h.live i m hm) k.size,
  fun j x hj => ⟨by rw [k.block j (Array.getElem?_eq_some_iff.1 (h.kept j x hj).1).1, (h.kept j x hj).1], (h.kept j x hj).2⟩, h.hole⟩
theorem Below.alloc (w : World) (x : Obj) : Below w.heap.size w (w.alloc x) :=
 ⟨rfl, rfl, rfl, by show _ ≤ (w.heap.push x).size; rw [Array.size_push]; omega, fun k hk => by show (w.heap.push x)[k]? = _; rw [Array.getElem?_push, if_neg (by omega)]⟩
theorem zan1 (w : World) (x : Obj) : (w.alloc x).heap[w.heap.size]? = some x := by show (w.heap.push x)[w.heap.size]? = _; simp
theorem zarf (w : World) (x : Obj) : (w.alloc x).heap.size = w.heap.size + 1 := by show (w.heap.push x).size = _; rw [Array.size_push]
variable {φ : Plan} {H : Hp} {w : World}
theorem Rel.congr {b b' : Base} (h : Rel B b φ H w) (hw : b.w = b'.w) (hZ : ∀ k x, b'.Z k x → b.Z k x) (hY : ∀ i x, b.Y i x ↔ b'.Y i x) : Rel B b' φ H w :=
 ⟨hw ▸ h.below, h.size, h.dom, fun i => (h.blk i).imp_left fun ⟨x, hx⟩ => ⟨x, (hY i x).1 hx⟩, h.sep, h.live, fun k x hk => h.kept k x (hZ k x hk), fun i x hi => h.hole i x ((hY i x).2 hi)⟩
theorem Rel.park {w1 : World} {Z : Nat → Obj → Prop} {Y : Nat → Blk → Prop} (h : Rel B ⟨w1, Z, Y⟩ φ H w) (x : Obj) : Rel B ⟨w1, fun k y => Z k y ∨ (k = w.heap.size ∧ y = x), Y⟩ φ H (w.alloc x) := by
 have h2 := h.grow (Below.alloc w x)
 refine ⟨h2.below, h2.size, h2.dom, h2.blk, h2.sep, h2.live, fun k y hk => ?_, h2.hole⟩
 rcases hk with hk | ⟨rfl, rfl⟩
 ·exact h2.kept k y hk
 ·refine ⟨zan1 w _, fun i m hm hf => ?_⟩
  have h1 := zakt hf
  have := h.live i m hm
  omega
theorem Rel.pushHole {w1 : World} {Z : Nat → Obj → Prop} {Y : Nat → Blk → Prop} (h : Rel B ⟨w1, Z, Y⟩ φ H w) (b : Blk) : Rel B ⟨w1, Z, fun i y => Y i y ∨ (i = H.next ∧ y = b)⟩ φ (H.push b) w := by
 have hn := h.dom H.next (Nat.le_refl _)
 have hne : ∀ i m, φ i = some m → (H.push b).get i = H.get i := fun i m hm => by
  rw [zaab, if_neg (fun e => by rw [e, hn] at hm; cases hm)]
 refine ⟨h.below, h.size, fun i hi => h.dom i (by rw [zaad] at hi; omega), fun i => ?_, fun i j mi mj hij hi hj => ?_, h.live, fun k x hk => ⟨(h.kept k x hk).1, fun i m hm => ?_⟩, fun i y hi => ?_⟩
 ·by_cases e : i = H.next
  ·exact .inl ⟨b, .inr ⟨e, rfl⟩⟩
  ·rw [zaab, if_neg e]
   exact (h.blk i).imp_left fun ⟨x, hx⟩ => ⟨x, .inl hx⟩
 ·rw [hne i mi hi, hne j mj hj]; exact h.sep i j mi mj hij hi hj
 ·rw [hne i m hm]; exact (h.kept k x hk).2 i m hm
 ·rcases hi with hi | ⟨rfl, rfl⟩
  ·obtain ⟨g1, g2, g3⟩ := h.hole i y hi
   refine ⟨by rw [zaad]; omega, g2, ?_⟩
   rw [zaab, if_neg (by omega)]; exact g3
  ·exact ⟨by rw [zaad]; omega, hn, .inl (by rw [zaab, if_pos rfl])⟩
theorem zalh {ψ : Plan} {w : World} {k : Nat} {cs : Array Value} {e e' : TypeId} {c : List Value} (he : e = elT e') (hh : w.heap[k]? = some (.cells cs e (0, 0))) (hB : B ≤ k) (hc : VRs ψ c cs.toList) (h1 : ∀ u ∈ cs.toList, u.oneCell' = true) :
    BlkRel ψ B w (some ⟨k, 0, cs.size⟩) (.cells true e' c) := by
 have hl : c.length = cs.size := by have := hc.1; simpa using this
 have ht : (cs.toList.drop 0).take c.length = cs.toList := by rw [List.drop_zero, List.take_of_length_le (by simp; omega)]
 refine ⟨_, cs, e, (0, 0), rfl, hh, fun _ => ⟨fun _ => ⟨he, rfl, hl.symm⟩, fun _ => ⟨he, rfl⟩⟩, by simp; omega, by rw [ht]; exact hc, by rw [ht]; exact h1, fun _ => ⟨hB, Nat.le_refl _, by simp; omega, by intro off _; simp⟩⟩
theorem Rel.adopt {w1 : World} {Z Z' : Nat → Obj → Prop} {Y : Nat → Blk → Prop} (h : Rel B ⟨w1, Z, Y⟩ φ H w) {k : Nat} {cs : Array Value} {e e' : TypeId} {c : List Value} (he : e = elT e') (hk : Z k (.cells cs e (0, 0))) (hB : B ≤ k)
    (hZ : ∀ j x, Z' j x → Z j x ∧ j ≠ k) (hc : VRs φ c cs.toList) (h1 : ∀ u ∈ cs.toList, u.oneCell' = true) :
    φ.le (φ.set H.next ⟨k, 0, cs.size⟩) ∧ Rel B ⟨w1, Z', Y⟩ (φ.set H.next ⟨k, 0, cs.size⟩) (H.push (.cells true e' c)) w := by
 have hn := h.dom H.next (Nat.le_refl _)
 have hle : φ.le (φ.set H.next ⟨k, 0, cs.size⟩) := Plan.le_set _ hn
 obtain ⟨hh, hfoot⟩ := h.kept k _ hk
 have hks : k < w.heap.size := (Array.getElem?_eq_some_iff.1 hh).1
 refine ⟨hle, h.below, h.size, fun i hi => ?_, fun i => ?_, fun i j mi mj hij hi hj q hq hq' => ?_, fun i m hm => ?_, fun j x hj => ⟨(h.kept j x (hZ j x hj).1).1, fun i m hm hf => ?_⟩, fun i y hi => ?_⟩
 ·rw [zaad] at hi
  rw [Plan.set_other _ _ (by omega)]; exact h.dom i (by omega)
 ·by_cases ei : i = H.next
  ·subst ei
   right
   rw [zaab, if_pos rfl, Plan.set_same]
   exact zalh he hh hB (hc.mono hle) h1
  ·rw [zaab, if_neg ei, Plan.set_other _ _ ei]
   exact (h.blk i).imp_right fun hb => hb.keep hle (fun _ _ => rfl) fun _ _ _ _ => rfl
 ·by_cases ei : i = H.next
  ·have ej : j ≠ H.next := by omega
   subst ei
   rw [Plan.set_same] at hi; cases hi
   rw [zaab, if_pos rfl] at hq
   rw [zaab, if_neg ej] at hq'
   rw [Plan.set_other _ _ ej] at hj
   simp [foot] at hq
   subst hq
   exact hfoot j mj hj hq'
  ·rw [zaab, if_neg ei] at hq
   rw [Plan.set_other _ _ ei] at hi
   by_cases ej : j = H.next
   ·subst ej
    rw [Plan.set_same] at hj; cases hj
    rw [zaab, if_pos rfl] at hq'
    simp [foot] at hq'
    subst hq'
    exact hfoot i mi hi hq
   ·rw [zaab, if_neg ej] at hq'
    rw [Plan.set_other _ _ ej] at hj
    exact h.sep i j mi mj hij hi hj q hq hq'
 ·by_cases ei : i = H.next
  ·subst ei
   rw [Plan.set_same] at hm; cases hm; exact hks
  ·rw [Plan.set_other _ _ ei] at hm; exact h.live i m hm
 ·by_cases ei : i = H.next
  ·subst ei
   rw [Plan.set_same] at hm; cases hm
   rw [zaab, if_pos rfl] at hf
   simp [foot] at hf
   exact (hZ j x hj).2 hf
  ·rw [zaab, if_neg ei] at hf
   rw [Plan.set_other _ _ ei] at hm
   exact (h.kept j x (hZ j x hj).1).2 i m hm hf
 ·obtain ⟨g1, g2, g3⟩ := h.hole i y hi
  refine ⟨by rw [zaad]; omega, by rw [Plan.set_other _ _ (by omega)]; exact g2, ?_⟩
  rw [zaab, if_neg (by omega)]; exact g3
theorem Rel.fill {w1 : World} {Z : Nat → Obj → Prop} {Y Y' : Nat → Blk → Prop} (h : Rel B ⟨w1, Z, Y⟩ φ H w) {i : Nat} {cs : Array Value} {e e' : TypeId} {c : List Value} (he : e = elT e') (hi : Y i (.cells true e' c))
    (hY : ∀ j x, Y' j x ↔ (Y j x ∧ j ≠ i)) (hc : VRs φ c cs.toList) (h1 : ∀ u ∈ cs.toList, u.oneCell' = true) :
    φ.le (φ.set i ⟨w.heap.size, 0, cs.size⟩) ∧ Rel B ⟨w1, Z, Y'⟩ (φ.set i ⟨w.heap.size, 0, cs.size⟩) H (w.alloc (.cells cs e)) := by
 obtain ⟨hin, hn, hg⟩ := h.hole i _ hi
 have h2 := h.grow (Below.alloc w (.cells cs e))
 have hle : φ.le (φ.set i ⟨w.heap.size, 0, cs.size⟩) := Plan.le_set _ hn
 have fnew : ∀ q, q ∈ foot B (H.get i) ⟨w.heap.size, 0, cs.size⟩ → q = w.heap.size := fun q hq => zakt hq
 have fold : ∀ j m q, φ j = some m → q ∈ foot B (H.get j) m → q < w.heap.size := fun j m q hm hq => by rw [zakt hq]; exact h.live j m hm
 refine ⟨hle, h2.below, h2.size, fun j hj => ?_, fun j => ?_, fun a b ma mb hab ha hb q hq hq' => ?_, fun j m hm => ?_, fun k x hk => ⟨(h2.kept k x hk).1, fun j m hm hf => ?_⟩, fun j y hj => ?_⟩
 ·rw [Plan.set_other _ _ (by omega)]; exact h.dom j hj
 ·by_cases ej : j = i
  ·subst ej
   right
   rw [Plan.set_same]
   rcases hg with hg | hg
   ·rw [hg]; exact zalh he (zan1 w _) h.size (hc.mono hle) h1
   ·rw [hg]; trivial
  ·rw [Plan.set_other _ _ ej]
   rcases h2.blk j with ⟨x, hx⟩ | hb
   ·exact .inl ⟨x, (hY j x).2 ⟨hx, ej⟩⟩
   ·exact .inr (hb.keep hle (fun _ _ => rfl) fun _ _ _ _ => rfl)
 ·by_cases ea : a = i
  ·have eb : b ≠ i := by omega
   subst ea
   rw [Plan.set_same] at ha; cases ha
   rw [Plan.set_other _ _ eb] at hb
   have := fnew q hq
   have := fold b mb q hb hq'
   omega
  ·rw [Plan.set_other _ _ ea] at ha
   by_cases eb : b = i
   ·subst eb
    rw [Plan.set_same] at hb; cases hb
    have := fnew q hq'
    have := fold a ma q ha hq
    omega
   ·rw [Plan.set_other _ _ eb] at hb
    exact h.sep a b ma mb hab ha hb q hq hq'
 ·by_cases ej : j = i
  ·subst ej
   rw [Plan.set_same] at hm; cases hm
   rw [zarf]; show w.heap.size < _; omega
  ·rw [Plan.set_other _ _ ej] at hm; exact h2.live j m hm
 ·by_cases ej : j = i
  ·subst ej
   rw [Plan.set_same] at hm; cases hm
   have := fnew k hf
   have := (Array.getElem?_eq_some_iff.1 (h.kept k x hk).1).1
   omega
  ·rw [Plan.set_other _ _ ej] at hm
   exact (h2.kept k x hk).2 j m hm hf
 ·obtain ⟨hy, ej⟩ := (hY j y).1 hj
  rw [Plan.set_other _ _ ej]
  exact h2.hole j y hy
end
def ptrAt (i : Nat) : Value := .pointer (some ⟨i, 0, none⟩)
def sliAt (n sz i : Nat) : Value := .slice (some ⟨i, 0, none⟩) n sz
def fop (P : Program) (ρ : Operand → Value) : Op → Option (TypeId × List Value × (Nat → Value))
 | .alloc t => (zeroT P t).bind fun z => if flat 8 z then some (bxT t, z.cells.toList, ptrAt) else none
 | .box t x => if isTup (ρ x) then none else some (bxT t, (ρ x).cells.toList, ptrAt)
 | .buildSlice t len parts => match P.underlying t with
  | some (.slice elem) => match P.info? elem with
   | some inf => inf.zero.bind fun z =>
       if len * inf.size ≤ 16777216 ∧ z.cells.size = inf.size ∧ flat 8 z ∧ parts.toList.all (fun p => !isTup (ρ p.2)) then
        (afill (fun i => some (i * inf.size, inf.size)) (List.replicate len z.cells.toList).flatten (parts.toList.map fun p => (p.1, ρ p.2))).map fun cs => (slT elem, cs, sliAt len inf.size)
       else none
   | none => none
  | _ => none
 | _ => none
theorem za15 {P : Program} {ρ : Operand → Value} {H : Hp} {o : Op} {r : Res} (hf : freeOp o = true) (h : hop P ρ H o = some r) : ∃ e c mk, fop P ρ o = some (e, c, mk) ∧ r = .val (mk H.next) (H.push (.cells true e c)) := by
 cases o with
 | alloc t =>
  simp only [hop, Option.bind_eq_some_iff] at h
  obtain ⟨z, hz, h⟩ := h
  split at h
  ·rename_i hzf
   cases h
   exact ⟨bxT t, _, ptrAt, by simp only [fop, hz, Option.bind_some, hzf, if_true], rfl⟩
  ·cases h
 | box t x =>
  simp only [hop] at h
  split at h
  ·cases h
  ·rename_i ht
   cases h
   exact ⟨bxT t, _, ptrAt, by simp only [fop, ht, if_false]; rfl, rfl⟩
 | buildSlice t len parts =>
  simp only [hop] at h
  split at h
  ·rename_i elem ht
   split at h
   ·rename_i inf hinf
    simp only [Option.bind_eq_some_iff] at h
    obtain ⟨z, hz, h⟩ := h
    split at h
    ·rename_i hc
     simp only [Option.map_eq_some_iff] at h
     obtain ⟨cs, hfill, rfl⟩ := h
     exact ⟨slT elem, cs, sliAt len inf.size, by simp only [fop, ht, hinf, hz, Option.bind_some, if_pos hc, hfill, Option.map_some], rfl⟩
    ·cases h
   ·cases h
  ·cases h
 | _ => simp [freeOp] at hf
theorem zavb {P : Program} {φ : Plan} {ρ ρ' : Operand → Value} (hρ : ∀ x, VR φ (ρ x) (ρ' x)) {o : Oper} {e : TypeId} {c : List Value} {mk : Nat → Value} (h : fop P ρ o.op = some (e, c, mk)) (w : World) :
    ∃ (cs : Array Value) (mk' : Nat → Value), (execOp ρ' o).run P w = .ok (.value (mk' w.heap.size)) (w.alloc (.cells cs (elT e))) ∧ VRs φ c cs.toList ∧ (∀ u ∈ cs.toList, u.oneCell' = true) ∧
     ∀ (ψ : Plan) (i k : Nat), ψ i = some ⟨k, 0, cs.size⟩ → VR ψ (mk i) (mk' k) := by
 have ptr : ∀ (cs : Array Value) (ψ : Plan) (i k : Nat), ψ i = some ⟨k, 0, cs.size⟩ → VR ψ (ptrAt i) (ptrAt k) := fun cs ψ i k hk => by
  have := VR.ptr (φ := ψ) i 0 _ hk
  simpa [ptrAt] using this
 obtain ⟨dst, op, type, pos, after, guard⟩ := o
 simp only at h
 cases op with
 | alloc t =>
  simp only [fop, Option.bind_eq_some_iff] at h
  obtain ⟨z, hz, h⟩ := h
  split at h
  ·rename_i hf
   cases h
   simp only [zeroT, Option.bind_eq_some_iff] at hz
   obtain ⟨inf, hinf, hz⟩ := hz
   have hzt : isTup z = false := by cases z <;> simp_all [flat, isTup]
   have hv := zac5 (φ := φ) 8 z hf
   refine ⟨z.cells, ptrAt, ?_, hv.cells (by intro e; subst e; simp [isTup] at hzt), hv.one hzt, ptr _⟩
   simp [execOp, Instr.alloc, zeroValue, run_typeInfo (P := P) (w := w) hinf, hz, newVar, newRow, ptrAt, elT_bx]
  ·cases h
 | box t x =>
  simp only [fop] at h
  split at h
  ·cases h
  ·rename_i ht
   cases h
   have ht' : isTup (ρ x) = false := by simpa using ht
   exact ⟨(ρ' x).cells, ptrAt, by simp [execOp, Instr.box, newVar, newRow, ptrAt, elT_bx], (hρ x).cells (by intro e; rw [e] at ht'; simp [isTup] at ht'), (hρ x).one ht', ptr _⟩
 | buildSlice t len parts =>
  simp only [fop] at h
  split at h
  ·rename_i elem ht
   split at h
   ·rename_i inf hinf
    simp only [Option.bind_eq_some_iff] at h
    obtain ⟨z, hz, h⟩ := h
    split at h
    ·rename_i hc
     obtain ⟨hle, hzs, hf, hp⟩ := hc
     simp only [Option.map_eq_some_iff] at h
     obtain ⟨cs, hfill, h⟩ := h
     simp only [Prod.mk.injEq] at h
     obtain ⟨rfl, rfl, rfl⟩ := h
     have hzr := zac5 (φ := φ) 8 z hf
     have hzt : isTup z = false := by cases z <;> simp_all [flat, isTup]
     have hzc := hzr.cells (by intro e; subst e; simp [isTup] at hzt)
     have hz1 := hzr.one hzt
     have hfill' := zag4 _ _ _ hfill
     have hrep : VRs φ (List.replicate len z.cells.toList).flatten (List.replicate len z.cells.toList).flatten ∧ ∀ u ∈ (List.replicate len z.cells.toList).flatten, u.oneCell' = true := by
      refine ⟨.refl_of fun v hv => ?_, fun u hu => ?_⟩
      ·obtain ⟨l, hl, hvl⟩ := List.mem_flatten.1 hv
       rw [List.eq_of_mem_replicate hl] at hvl
       obtain ⟨j, hj, e⟩ := List.getElem_of_mem hvl
       have := hzc.2 j
       rw [List.getD_eq_getElem?_getD, List.getElem?_eq_getElem hj, Option.getD_some, e] at this
       exact this
      ·obtain ⟨l, hl, hvl⟩ := List.mem_flatten.1 hu
       rw [List.eq_of_mem_replicate hl] at hvl
       exact hz1 u hvl
     obtain ⟨cs', g1, g2, g3⟩ := zaiq (φ := φ) (parts.toList.map fun p => (p.1, ρ p.2)) (parts.toList.map fun p => (p.1, ρ' p.2)) _ ((List.replicate len z.cells.toList).flatten).toArray cs.toArray (by simp) (fun i x y hx hy => by
      simp only [List.getElem?_map, Option.map_eq_some_iff] at hx hy
      obtain ⟨p, hp0, rfl⟩ := hx
      obtain ⟨p', hp', rfl⟩ := hy
      rw [hp0] at hp'; cases hp'
      exact ⟨rfl, hρ _, by have := List.all_eq_true.1 hp _ (List.mem_of_getElem? hp0); simpa using this⟩) (by simpa using hrep.1) (by simpa using hrep.2) hfill'
     have hl := g2.1
     simp only [Array.length_toList] at hl
     have hcl : cs.length = len * inf.size := by
      have key : ∀ (pl : Nat → Option (Nat × Nat)) (ps : List (Nat × Value)) (c cs : List Value), afill pl c ps = some cs → cs.length = c.length := by
       intro pl ps
       induction ps with
       | nil => intro c cs h; simp only [afill] at h; cases h; rfl
       | cons x ps ih =>
        intro c cs h
        simp only [afill, Option.bind_eq_some_iff] at h
        obtain ⟨y, _, h⟩ := h
        split at h
        ·rw [ih _ _ h, zabz]
        ·cases h
      rw [key _ _ _ _ hfill]
      simp [List.length_flatten, hzs]
     have hcs : cs'.size = len * inf.size := by rw [← hcl]; simpa using hl.symm
     refine ⟨cs', sliAt len len, ?_, by simpa using g2, fun u hu => g3 u (by simpa using hu), fun ψ i k hk => ?_⟩
     ·have hn : ¬ (16777216 < len * inf.size) := by omega
      have hmap : (Array.map (fun x => (x.fst, ρ' x.snd)) parts).toList = parts.toList.map fun p => (p.1, ρ' p.2) := by simp
      have hrc := zao4 (n := len) (k := inf.size) hzs
      have hrc' : ((Array.range (len * inf.size)).map fun i => (if len * inf.size = 0 then (#[] : Array Value) else z.cells)[i % (if len * inf.size = 0 then (#[] : Array Value) else z.cells).size]!) = ((List.replicate len z.cells.toList).flatten).toArray := by
       apply Array.ext'
       rw [hrc]
      rw [← hrc'] at g1
      by_cases h0 : len * inf.size = 0
      ·have n0 : ¬ (16777216 < 0) := by omega
       simp only [execOp, Instr.buildSlice, Sem.run_bind, run_underlying ht, Result.andThen_ok, sizeOf, run_typeInfo (P := P) (w := w) hinf, Sem.run_pure, gt_iff_lt, show (2 : Nat) ^ 24 = 16777216 from rfl, h0, if_true, hmap] at g1 ⊢
       simp only [n0, if_false, Sem.run_bind, Sem.run_pure, Result.andThen_ok, g1]
       simp [newRow, sliAt, elT_sl]
      ·rw [if_neg h0] at g1
       simp only [execOp, Instr.buildSlice, Sem.run_bind, run_underlying ht, Result.andThen_ok, sizeOf, run_typeInfo (P := P) (w := w) hinf, Sem.run_pure, gt_iff_lt, show (2 : Nat) ^ 24 = 16777216 from rfl, hn, if_false, h0, zeroValue, hz, hmap, g1]
       simp [newRow, sliAt, elT_sl]
     ·have := VR.slice (φ := ψ) i 0 len inf.size len _ hk (Nat.le_refl _) (by simp [hcs])
      simpa [sliAt] using this
    ·cases h
   ·cases h
  ·cases h
 | _ => simp [fop] at h
end Go.Proofs.YtliemjbafgnnbaaDoor.Abs
