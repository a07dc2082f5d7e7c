/- An operation that leaves the heap as it is: the machine comes to what the plain evaluator says. -/
import Derived.Test.YtliemjbafgnnbaaGreatDoorPA2
import Derived.Laws.Cells
import Derived.Laws.Rows
import Derived.ChangeKeysEq
set_option linter.unnecessarySimpa false
set_option linter.unusedSimpArgs false
set_option linter.unusedVariables false
namespace Go.Proofs.YtliemjbafgnnbaaGreatDoor.Abs
open Go Go.RowKit
theorem zait {P : Program} {α : Type} : ∀ (s : Sem α) (a : α), pureRun P s = some a → ∀ w, s.run P w = .ok a w := by
 intro s
 induction s with
 | pure b => intro a h w; simp [pureRun] at h; subst h; rfl
 | program k ih => intro a h w; simp only [pureRun] at h; exact ih P a h w
 | _ => intro a h w; simp [pureRun] at h
theorem zags {x : Option Value} {v : Value} (h : onlyFlat x = some v) : x = some v ∧ flat 8 v = true := by
 cases x with
 | none => simp [onlyFlat] at h
 | some u =>
  simp only [onlyFlat] at h
  split at h
  ·cases h; exact ⟨rfl, by assumption⟩
  ·cases h
section
variable {P : Program} {B : Nat} {w0 : Base} {w : World} {φ : Plan} {H : Hp}
theorem za3q {t : TypeId} {n : Nat} (h : szT P t = some n) : ∃ i, P.info? t = some i ∧ i.size = n := by
 simp only [szT] at h
 cases hi : P.info? t with
 | none => simp [hi] at h
 | some i => exact ⟨i, rfl, by simpa [hi] using h⟩
theorem zacm {t : TypeId} {n : Nat} (h : szT P t = some n) (w : World) : (sizeOf t).run P w = .ok n w := by
 obtain ⟨i, hi, rfl⟩ := za3q h
 simp [sizeOf, run_typeInfo (P := P) (w := w) hi]
theorem zag7 {t : TypeId} {d : TypeDesc} (h : P.underlying t = some d) (w : World) : (isAgg t).run P w = .ok (isAggT P t) w := by
 simp only [isAgg, Sem.run_bind, run_underlying h, Result.andThen_ok, isAggT, h]
 cases d <;> rfl
theorem zafj (hR : Rel B w0 φ H w) {i : Nat} {own : Bool} {e : TypeId} {c : List Value} (h : H.get i = .cells own e c) {m : Emb} (hm : φ i = some m) :
    ∃ cur e' fr, w.heap[m.blk]? = some (.cells cur e' fr) ∧ Bx own e e' m cur.size c.length ∧ m.base + c.length ≤ cur.size ∧ VRs φ c ((cur.toList.drop m.base).take c.length) ∧ (∀ u, u ∈ (cur.toList.drop m.base).take c.length → u.oneCell' = true) ∧
     (own = true → B ≤ m.blk ∧ m.stop ≤ cur.size ∧ m.base + c.length ≤ m.stop ∧ ∀ off, off < m.stop → (decide (fr.1 ≤ off) && decide (off < fr.2)) = false) := by
 have hb := hR.blkOf hm
 rw [h] at hb
 obtain ⟨m', cur, e', fr, hp, r⟩ := hb
 have : m' = m := by rw [hp] at hm; exact Option.some.inj hm
 subst this
 exact ⟨cur, e', fr, r⟩
theorem zatw (hR : Rel B w0 φ H w) {a : Addr} {v : Value} (h : cellAt H a = some v) {m : Emb} (hm : φ a.block = some m) :
    ∃ v', w.cell? ⟨m.blk, m.base + a.off, none⟩ = some v' ∧ VR φ v v' ∧ v'.oneCell' = true := by
 unfold cellAt at h
 cases hg : H.get a.block with
 | cells own e c =>
  rw [hg] at h
  simp only at h
  split at h
  ·obtain ⟨cur, e', fr, hh, _, h1, h2, h3, _⟩ := zafj hR hg hm
   obtain ⟨v', hv', hr⟩ := h2.get? h
   have hlt : a.off < c.length := by
    rcases Nat.lt_or_ge a.off c.length with h | h'
    ·exact h
    ·rw [List.getElem?_eq_none h'] at h; cases h
   refine ⟨v', ?_, hr, h3 v' (List.mem_of_getElem? hv')⟩
   simp only [World.cell?, hh]
   rw [List.getElem?_take, if_pos hlt, List.getElem?_drop] at hv'
   simpa using hv'
  ·cases h
 | _ => rw [hg] at h; cases h
theorem zal6 (hR : Rel B w0 φ H w) {a : Addr} {n : Nat} {cs : List Value} (h : cellsAt H a n = some cs) {m : Emb} (hm : φ a.block = some m) :
    ∃ cs', VRs φ cs cs' ∧ cs'.length = n ∧ (∀ u, u ∈ cs' → u.oneCell' = true) ∧ ∀ (j : Nat) u, cs'[j]? = some u → w.cell? ((⟨m.blk, m.base + a.off, none⟩ : Addr).add j) = some u := by
 unfold cellsAt at h
 split at h
 ·rename_i h0
  cases h
  exact ⟨[], .nil φ, h0.symm, by simp, by simp⟩
 cases hg : H.get a.block with
 | cells own e c =>
  rw [hg] at h
  simp only at h
  split at h
  ·rename_i hc
   obtain ⟨cur, e', fr, hh, _, h1, h2, h3, _⟩ := zafj hR hg hm
   cases h
   refine ⟨(((cur.toList.drop m.base).take c.length).drop a.off).take n, (h2.drop _).take _, ?_, ?_, ?_⟩
   ·simp; omega
   ·intro u hu; exact h3 u (List.mem_of_mem_drop (List.mem_of_mem_take hu))
   ·intro j u hu
    have hj : j < n := by
     rcases Nat.lt_or_ge j n with h | h
     ·exact h
     ·rw [List.getElem?_take, if_neg (by omega)] at hu; cases hu
    rw [List.getElem?_take, if_pos hj, List.getElem?_drop, List.getElem?_take, if_pos (by omega), List.getElem?_drop] at hu
    have : (⟨m.blk, m.base + a.off, none⟩ : Addr).add j = ⟨m.blk, m.base + a.off + j, none⟩ := by unfold Addr.add; split <;> simp_all
    rw [this]
    simp only [World.cell?, hh]
    simpa [Nat.add_assoc] using hu
  ·cases h
 | _ => rw [hg] at h; cases h
theorem add_at (g o j : Nat) : (⟨g, o, none⟩ : Addr).add j = ⟨g, o + j, none⟩ := by unfold Addr.add; split <;> simp_all
theorem zanh (hR : Rel B w0 φ H w) {t : TypeId} {p p' v : Value} (hp : VR φ p p') (h : aload P t p H = some v) :
    ∃ v', (Instr.loadAt t p').run P w = .ok v' w ∧ VR φ v v' := by
 unfold aload at h
 split at h
 ·rename_i a
  split at h
  ·cases h
  ·rename_i d hd
   cases hp with
   | ptr i off m hm =>
    split at h
    ·rename_i hagg
     cases hs : szT P t with
     | none => rw [hs] at h; cases h
     | some n =>
      rw [hs] at h
      simp only [Option.bind_some] at h
      cases hc : cellsAt H ⟨i, off, none⟩ n with
      | none => rw [hc] at h; cases h
      | some cs =>
       rw [hc] at h
       cases h
       obtain ⟨cs', h1, h2, h3, h4⟩ := zal6 hR hc hm
       refine ⟨.agg cs'.toArray, ?_, .agg_of (by simpa using h1) (by simpa using h3)⟩
       have hl := run_loadCells_list (P := P) w _ cs' h4
       rw [h2] at hl
       simp [Instr.loadAt, Instr.sureAddr, loadVar, zag7 hd, hagg, zacm hs, hl]
    ·rename_i hagg
     obtain ⟨v', h1, h2, _⟩ := zatw hR h hm
     refine ⟨v', ?_, h2⟩
     have : isAggT P t = false := by simpa using hagg
     simp [Instr.loadAt, Instr.sureAddr, loadVar, zag7 hd, this, run_load, h1]
 ·cases h
theorem zanq {t : TypeId} {cs cs' : Array Value} {off : Nat} {v : Value} (hc : VRs φ cs.toList cs'.toList) (h1 : ∀ u, u ∈ cs'.toList → u.oneCell' = true) (h : apart P t cs off = some v) :
    ∃ v', (part t cs' off).run P w = .ok v' w ∧ VR φ v v' := by
 unfold apart at h
 split at h
 ·cases h
 ·rename_i d hd
  split at h
  ·rename_i hagg
   cases hs : szT P t with
   | none => rw [hs] at h; cases h
   | some n =>
    rw [hs] at h
    simp only [Option.bind_some] at h
    split at h
    ·rename_i hle
     cases h
     refine ⟨.agg (cs'.extract off (off + n)), by simp [part, zag7 hd, hagg, zacm hs], .agg_of ?_ ?_⟩
     ·have := (hc.drop off).take n
      simpa [Array.toList_extract, List.extract_eq_take_drop] using this
     ·intro u hu
      have : u ∈ cs'.toList := by
       simp only [Array.toList_extract, List.extract_eq_take_drop] at hu
       exact List.mem_of_mem_drop (List.mem_of_mem_take hu)
      exact h1 u this
    ·cases h
  ·rename_i hagg
   have hagg' : isAggT P t = false := by simpa using hagg
   have h' : cs.toList[off]? = some v := by simpa using h
   obtain ⟨v', hv', hr⟩ := hc.get? h'
   refine ⟨v', ?_, hr⟩
   have : cs'[off]? = some v' := by simpa using hv'
   simp [part, zag7 hd, hagg', this]
theorem zajt {place : Nat → Option (Nat × Nat)} : ∀ (parts parts' : List (Nat × Value)) (z z' cs : Array Value), parts.length = parts'.length →
    (∀ (i : Nat) (x y : Nat × Value), parts[i]? = some x → parts'[i]? = some y → y.1 = x.1 ∧ VR φ x.2 y.2 ∧ isTup x.2 = false) → VRs φ z.toList z'.toList → (∀ u, u ∈ z'.toList → u.oneCell' = true) → Instr.fill place z parts = some cs →
    ∃ cs', Instr.fill place z' parts' = some cs' ∧ VRs φ cs.toList cs'.toList ∧ ∀ u, u ∈ cs'.toList → u.oneCell' = true := by
 intro parts
 induction parts with
 | nil =>
  intro parts' z z' cs hl _ hz h1 h
  have : parts' = [] := by simpa using hl.symm
  subst this
  simp only [Instr.fill] at h ⊢
  cases h
  exact ⟨z', rfl, hz, h1⟩
 | cons x parts ih =>
  intro parts' z z' cs hl hp hz h1 h
  cases parts' with
  | nil => simp at hl
  | cons y parts' =>
   obtain ⟨e1, e2, e3⟩ := hp 0 x y rfl rfl
   obtain ⟨i, v⟩ := x
   obtain ⟨i', v'⟩ := y
   simp only at e1 e2 e3
   subst e1
   have hcells := e2.cells (by intro e; subst e; simp [isTup] at e3)
   have hone := e2.one e3
   have hsz : v'.cells.size = v.cells.size := by simpa using hcells.1.symm
   have hzs : z'.size = z.size := by simpa using hz.1.symm
   simp only [Instr.fill] at h ⊢
   cases hpl : place i' with
   | none => rw [hpl] at h; simp at h
   | some os =>
    obtain ⟨off, size⟩ := os
    rw [hpl] at h
    simp only [hsz, hzs] at h ⊢
    split at h
    ·cases h
    ·rename_i hc
     simp only [if_neg hc]
     refine ih parts' _ _ cs (by simpa using hl) (fun j a b ha hb => hp (j + 1) a b (by simpa using ha) (by simpa using hb)) ?_ ?_ h
     ·-- cell by cell
      have key : ∀ (l l' : List (Value × Nat)) (c c' : Array Value), l.length = l'.length → (∀ (k : Nat) (a b : Value × Nat), l[k]? = some a → l'[k]? = some b → b.2 = a.2 ∧ VR φ a.1 b.1) → VRs φ c.toList c'.toList →
          VRs φ (l.foldl (fun cs (x : Value × Nat) => cs.setIfInBounds (off + x.2) x.1) c).toList (l'.foldl (fun cs (x : Value × Nat) => cs.setIfInBounds (off + x.2) x.1) c').toList := by
       intro l
       induction l with
       | nil => intro l' c c' hl' _ hc'; have : l' = [] := by simpa using hl'.symm
                subst this; simpa using hc'
       | cons a l ihl =>
        intro l' c c' hl' hh hc'
        cases l' with
        | nil => simp at hl'
        | cons b l' =>
         obtain ⟨f1, f2⟩ := hh 0 a b rfl rfl
         simp only [List.foldl_cons]
         refine ihl l' _ _ (by simpa using hl') (fun k a b ha hb => hh (k + 1) a b (by simpa using ha) (by simpa using hb)) ?_
         rw [f1]
         refine .of_forall (by simpa using hc'.1) fun j u u' hu hu' => ?_
         simp only [Array.toList_setIfInBounds] at hu hu'
         by_cases hj : off + a.2 = j
         ·subst hj
          have l1 : off + a.2 < c.toList.length := by
           rcases Nat.lt_or_ge (off + a.2) c.toList.length with h | h
           ·exact h
           ·rw [List.getElem?_eq_none (by simpa using h)] at hu; cases hu
          have l2 : off + a.2 < c'.toList.length := hc'.1 ▸ l1
          rw [List.getElem?_set_self l1] at hu
          rw [List.getElem?_set_self l2] at hu'
          cases hu; cases hu'; exact f2
         ·rw [List.getElem?_set_ne hj] at hu hu'
          obtain ⟨u'', g1, g2⟩ := hc'.get? hu
          rw [g1] at hu'; cases hu'; exact g2
      rw [← Array.foldl_toList, ← Array.foldl_toList]
      refine key _ _ _ _ (by simp [hsz]) (fun k a b ha hb => ?_) hz
      simp only [Array.toList_zipIdx, List.getElem?_zipIdx, Option.map_eq_some_iff] at ha hb
      obtain ⟨u, hu, rfl⟩ := ha
      obtain ⟨u', hu', rfl⟩ := hb
      obtain ⟨u'', g1, g2⟩ := hcells.get? hu
      rw [g1] at hu'; cases hu'; exact ⟨rfl, g2⟩
     ·have key : ∀ (l : List (Value × Nat)) (c : Array Value), (∀ a, a ∈ l → a.1.oneCell' = true) → (∀ u, u ∈ c.toList → u.oneCell' = true) →
          ∀ u, u ∈ (l.foldl (fun cs (x : Value × Nat) => cs.setIfInBounds (off + x.2) x.1) c).toList → u.oneCell' = true := by
       intro l
       induction l with
       | nil => intro c _ hc'; simpa using hc'
       | cons a l ihl =>
        intro c ha hc'
        simp only [List.foldl_cons]
        refine ihl _ (fun b hb => ha b (by simp [hb])) fun u hu => ?_
        simp only [Array.toList_setIfInBounds] at hu
        rcases List.mem_or_eq_of_mem_set hu with h | h
        ·exact hc' u h
        ·rw [h]; exact ha a (by simp)
      rw [← Array.foldl_toList]
      refine key _ _ (fun a ha => ?_) h1
      simp only [Array.toList_zipIdx] at ha
      exact hone a.1 (List.fst_mem_of_mem_zipIdx ha)
theorem zach : ∀ (vs c : List Value) (i : Nat), (setAll c i vs).length = c.length
 | [], _, _ => rfl
 | v :: r, c, i => by simp [setAll, zach r]
theorem zajw (off : Nat) : ∀ (l : List Value) (k : Nat) (c : Array Value), ((l.zipIdx k).foldl (fun (cs : Array Value) (x : Value × Nat) => cs.setIfInBounds (off + x.2) x.1) c).toList = setAll c.toList (off + k) l
 | [], _, _ => rfl
 | v :: l, k, c => by
  simp only [List.zipIdx_cons, List.foldl_cons]
  rw [zajw off l (k + 1)]
  simp only [Array.toList_setIfInBounds, setAll, Nat.add_assoc]
theorem zahw {pl : Nat → Option (Nat × Nat)} : ∀ (parts : List (Nat × Value)) (c cs : List Value), afill pl c parts = some cs → Instr.fill pl c.toArray parts = some cs.toArray
 | [], c, cs, h => by simp only [afill] at h; cases h; rfl
 | (i, v) :: r, c, cs, h => by
  simp only [afill, Option.bind_eq_some_iff] at h
  obtain ⟨⟨off, size⟩, hp, h⟩ := h
  split at h
  ·rename_i hc
   obtain ⟨h1, h2⟩ := hc
   simp only at h1 h2 h
   have ih := zahw r _ cs h
   simp only [Instr.fill, hp]
   have hn : ¬ ((v.cells.size ≠ size || decide (off + v.cells.size > c.toArray.size)) = true) := by
    simp [h1]; omega
   rw [if_neg hn, ← Array.foldl_toList]
   have e : (v.cells.zipIdx.toList.foldl (fun (cs : Array Value) (x : Value × Nat) => cs.setIfInBounds (off + x.2) x.1) c.toArray) = (setAll c off v.cells.toList).toArray := by
    apply Array.ext'
    rw [Array.toList_zipIdx, zajw off _ 0]
    simp
   exact (congrArg (fun a => Instr.fill pl a r) e).trans ih
  ·cases h
theorem zaub {l : List Value} (hl : 0 < l.length) : ∀ (n i : Nat), i < n * l.length → (List.replicate n l).flatten[i]? = l[i % l.length]?
 | 0, i, h => by omega
 | n + 1, i, h => by
  rw [List.replicate_succ, List.flatten_cons]
  by_cases hi : i < l.length
  ·rw [List.getElem?_append_left hi, Nat.mod_eq_of_lt hi]
  ·rw [List.getElem?_append_right (by omega), zaub hl n _ (by rw [Nat.add_mul] at h; omega), ← Nat.mod_eq_sub_mod (by omega)]
theorem zaq4 {z : Array Value} {n k : Nat} (hz : z.size = k) : ((Array.range (n * k)).map fun i => (if n * k = 0 then (#[] : Array Value) else z)[i % (if n * k = 0 then (#[] : Array Value) else z).size]!).toList = (List.replicate n z.toList).flatten := by
 by_cases h0 : n * k = 0
 ·rw [h0]
  rcases Nat.mul_eq_zero.1 h0 with h | h
  ·subst h; simp [Array.range]
  ·have : z = #[] := by apply Array.eq_empty_of_size_eq_zero; omega
   subst this
   simp [Array.range]
 ·simp only [if_neg h0]
  apply List.ext_getElem?
  intro i
  have hk : 0 < k := Nat.pos_of_ne_zero fun e => h0 (by rw [e]; simp)
  by_cases hi : i < n * k
  ·have hlt : i % z.size < z.size := Nat.mod_lt _ (by omega)
   rw [zaub (by simpa [hz] using hk) n i (by simpa [hz] using hi)]
   simp only [Array.toList_map, Array.toList_range, List.getElem?_map, List.getElem?_range hi, Option.map_some]
   rw [getElem!_pos z _ hlt]
   simp [hlt]
  ·rw [List.getElem?_eq_none (by simp; omega), List.getElem?_eq_none]
   simp [List.length_flatten, hz]
   omega
end
end Go.Proofs.YtliemjbafgnnbaaGreatDoor.Abs
