/- Append, and every heavy operation. -/
import Derived.Test.YtliemjbafgnnbaaDoorPA5
import Derived.Deep.AppendSrc
import Derived.Laws.AppendOwn
set_option maxHeartbeats 0
set_option linter.unnecessarySimpa false
set_option linter.unusedSimpArgs false
set_option linter.unusedVariables false
namespace Go.Proofs.YtliemjbafgnnbaaDoor.Abs
open Go Go.RowKit
section
variable {P : Program} {B : Nat} {w0 : Base} {w : World} {φ : Plan} {H : Hp}
theorem VRs.map_same {φ : Plan} {α : Type} (l : List α) (f : α → Value) (h : ∀ a, VR φ (f a) (f a)) : VRs φ (l.map f) (l.map f) := .refl_of fun v hv => by
 obtain ⟨a, _, rfl⟩ := List.mem_map.1 hv
 exact h a
theorem zap2 (hR : Rel B w0 φ H w) {size : Nat} {x x' : Value} (hx : VR φ x x') {c : List Value} (h : acells size x (alenOf x) H = some c) :
    ∃ c', VRs φ c c' ∧ ∀ tx, takesT P tx = true → Src P size tx x' (alenOf x) c' w := by
 have mk : ∀ (x' : Value) (c' : List Value), c'.length = alenOf x * size → (∀ u ∈ c', u.oneCell' = true) → (∀ w : World, (Builtin.lenOf x').run P w = .ok (alenOf x) w) → (∀ w2 : World, w2.heap = w.heap → (Builtin.firstCells size (alenOf x) x').run P w2 = .ok c'.toArray w2) →
     ∀ tx, takesT P tx = true → Src P size tx x' (alenOf x) c' w := by
  intro x' c' h1 h2 h3 h4 tx htx
  refine ⟨?_, h3, h4 w rfl, h4 w.drew rfl, h1, h2⟩
  unfold takesT at htx
  split at htx
  ·exact .inl ⟨_, by assumption⟩
  ·exact .inr (by assumption)
  ·cases htx
 unfold acells at h
 split at h
 ·cases h
  cases hx with
  | slice0 => exact ⟨[], .nil φ, mk _ _ (by simp [alenOf]) (by simp) (fun w => by simp [Builtin.lenOf, alenOf]) (fun w _ => by simp [Builtin.firstCells, alenOf])⟩
 ·rename_i a n sz
  split at h
  ·rename_i hs
   subst hs
   cases hx with
   | slice i off _ _ cap m hm h1 h2 =>
    obtain ⟨cs', g1, g2, g3, g4⟩ := zakp hR h hm
    refine ⟨cs', g1, mk _ _ g2 g3 (fun w => by simp [Builtin.lenOf, alenOf]) (fun w2 hw => ?_)⟩
    have hl := run_loadCells_list (P := P) w2 (⟨m.blk, m.base + off, none⟩ : Addr) cs' (fun j u hu => by have := g4 j u hu; simpa [World.cell?, hw] using this)
    rw [g2] at hl
    simpa [Builtin.firstCells, alenOf] using hl
   | sliceE _ b _ =>
    have : c = [] := by
     simp only [cellsAt, alenOf, Nat.zero_mul, if_true, Option.some.injEq] at h
     exact h.symm
    subst this
    exact ⟨[], .nil φ, mk _ _ (by simp [alenOf]) (by simp) (fun w => by simp [Builtin.lenOf, alenOf]) (fun w _ => by simp [Builtin.firstCells, alenOf, loadCells, loadCellsFrom])⟩
  ·cases h
 ·rename_i s
  split at h
  ·rename_i hs
   subst hs
   cases h
   cases hx
   have e : s.data.toList.take s.size = s.data.toList := List.take_of_length_le (by rw [Array.length_toList]; exact Nat.le_refl _)
   refine ⟨byteCells s, by rw [show alenOf (.string s) = s.size from rfl, e]; exact .map_same _ _ fun b => .int _ _, mk _ _ ?_ ?_ (fun w => by simp [Builtin.lenOf, alenOf]) (fun w _ => firstCells_string s w)⟩
   ·rw [byteCells_length, Nat.mul_one]; rfl
   ·intro u hu
    obtain ⟨b, _, rfl⟩ := List.mem_map.1 hu
    rfl
  ·cases h
 ·cases h
theorem zak9 (z : Array Value) (n : Nat) : (Builtin.zeroCells z n).size = n * z.size := by simp [Builtin.zeroCells]
theorem za2z {tg e : Nat} {n k : Nat} (h : tg = slT e ∨ tg = 0) : (tg % 4 = 1 → e = elT tg ∧ n = k) ∧ (tg % 4 = 2 → e = elT tg) := by
 rcases h with rfl | rfl
 ·exact ⟨fun h => by unfold slT at h; omega, fun _ => (elT_sl e).symm⟩
 ·exact ⟨fun h => by omega, fun h => by omega⟩
theorem agT_or (e0 e : Nat) (off : Nat) : agT e0 e off = slT e ∨ agT e0 e off = 0 := by
 unfold agT; split <;> simp
theorem ag_row {e0 e e' : Nat} {m : Emb} {sz sz' n n' off : Nat} (h : (e0 % 4 = 1 → e' = elT e0 ∧ m.base = 0 ∧ sz = n) ∧ (e0 % 4 = 2 → e' = elT e0 ∧ m.base = 0)) {b : Nat} {st : Nat} (hb : b = m.base + off) :
    (agT e0 e off % 4 = 1 → e' = elT (agT e0 e off) ∧ (⟨m.blk, b, st⟩ : Emb).base = 0 ∧ sz' = n') ∧ (agT e0 e off % 4 = 2 → e' = elT (agT e0 e off) ∧ (⟨m.blk, b, st⟩ : Emb).base = 0) := by
 unfold agT
 split
 ·rename_i hc
  obtain ⟨rfl, rfl⟩ := hc
  refine ⟨fun h => by unfold slT at h; omega, fun h' => ?_⟩
  have := h.2 h'
  exact ⟨this.1, by rw [hb, this.2]⟩
 ·exact ⟨fun h => by omega, fun h => by omega⟩
theorem zaiv (hR : Rel B w0 φ H w) {t tx ty e : TypeId} {tg : TypeId} (htg : tg = slT e ∨ tg = 0) {i : TypeInfo} {z : Value} (ht : P.underlying t = some (.slice e)) (hi : P.info? e = some i) (hz : i.zero = some z) (hzs : z.cells.size = i.size)
    {base : Option Addr} {sLen sCap n : Nat} {olds olds' news news' : List Value} (hold : ∀ w2 : World, w2.heap = w.heap → (Builtin.firstCells i.size sLen (.slice base sLen sCap)).run P w2 = .ok olds'.toArray w2) {x' : Value}
    (hs : Src P i.size tx x' n news' w) (ho : VRs φ olds olds') (hn : VRs φ news news') (ho1 : ∀ u ∈ olds', u.oneCell' = true) (hol : olds'.length = sLen * i.size) (hg : sCap < sLen + n) (h63 : sLen + n ≤ 9223372036854775807) (hb : (sLen + n) * i.bytes ≤ 140737488355328) :
    ∃ ψ v' w', φ.le ψ ∧ (Builtin.append_ #[t, tx] ty #[.slice base sLen sCap, x']).run P w = .ok v' w' ∧ VR ψ (.slice (some ⟨H.next, 0, none⟩) (sLen + n) i.size) v' ∧ Rel B w0 ψ (H.push (.cells true tg (olds ++ news))) w' := by
 have hrun := run_append_grow_src (P := P) w t tx ty e i z ht hi hz base sLen sCap olds' (hold w.drew rfl) x' n news' hs hg (by omega) (growslice_fits hg hb)
 have hcap := grownCap_ge w (sLen + n) sCap e
 generalize grownCap w (sLen + n) sCap e = nc at hrun hcap
 have hoL := ho.1
 have hnL := hn.1
 have hl := hs.newsLen
 have hsz : ((olds' ++ news').toArray ++ Builtin.zeroCells z.cells (nc - (sLen + n))).size = nc * i.size := by
  simp only [Array.size_append, List.size_toArray, List.length_append, zak9, hzs, hol, hl]
  rw [← Nat.add_mul, ← Nat.add_mul]; congr 1; omega
 have htake : ((olds' ++ news').toArray ++ Builtin.zeroCells z.cells (nc - (sLen + n))).toList.take (olds ++ news).length = olds' ++ news' := by
  rw [Array.toList_append, List.take_append_of_le_length (by simp [hoL, hnL])]
  exact List.take_of_length_le (by simp [hoL, hnL])
 have hlen : (olds ++ news).length = (sLen + n) * i.size := by rw [List.length_append, hoL, hnL, hol, hl, Nat.add_mul]
 obtain ⟨g1, g2⟩ := hR.push (w' := w.drew.alloc (.cells ((olds' ++ news').toArray ++ Builtin.zeroCells z.cells (nc - (sLen + n))) e)) (e := tg) (e' := e) (c := olds ++ news) (fr := (0, 0)) (stop := nc * i.size) rfl rfl rfl rfl
  (by rw [htake]; exact ho.append hn) (by rw [htake]; intro u hu; rcases List.mem_append.1 hu with h | h; exact ho1 u h; exact hs.one u h)
  (by rw [hlen]; exact Nat.mul_le_mul_right _ hcap) (by rw [hsz]; exact Nat.le_refl _) (by intro off _; simp) (za2z htg)
 refine ⟨_, _, _, g1, hrun, ?_, g2⟩
 have := VR.slice (φ := φ.set H.next ⟨w.heap.size, 0, nc * i.size⟩) H.next 0 (sLen + n) i.size nc ⟨w.heap.size, 0, nc * i.size⟩ (Plan.set_same ..) hcap (by simp)
 simpa using this
theorem zam0 (hR : Rel B w0 φ H w) {st xt ty : TypeId} {s x s' x' v : Value} {H' : Hp} (hs : VR φ s s') (hx : VR φ x x') (h : aappend P st xt s x H = some (v, H')) :
    ∃ ψ v' w', φ.le ψ ∧ (Builtin.append_ #[st, xt] ty #[s', x']).run P w = .ok v' w' ∧ VR ψ v v' ∧ Rel B w0 ψ H' w' := by
 unfold aappend at h
 split at h
 ·rename_i elem hst
  split at h
  ·rename_i inf hinf
   split at h
   ·rename_i hxt
    simp only [Option.bind_eq_some_iff] at h
    obtain ⟨new, hnew, h⟩ := h
    obtain ⟨new', n1, hsrc⟩ := zap2 (P := P) hR hx hnew
    have hsrc := hsrc xt hxt
    generalize alenOf x = k at hsrc h hnew
    clear hnew
    -- nothing is appended
    have zero : k = 0 → ∀ base n cap, n ≤ cap → (Builtin.append_ #[st, xt] ty #[.slice base n cap, x']).run P w = .ok (.slice base n cap) w := by
     intro hk base n cap hle
     subst hk
     have : new' = [] := by have := hsrc.newsLen; simpa using this
     subst this
     have hc := hsrc.cells
     have hl := hsrc.len
     rcases hsrc.kind with ⟨e', hk⟩ | hk <;> cases base <;>
      simp [Builtin.append_, run_underlying hst, run_underlying hk, sizeOf, typeInfo, hinf, hl, hle, hc, storeCells]
    unfold agrow at h
    split at h
    ·-- a nil slice
     cases hs
     split at h
     ·rename_i hk
      cases h
      exact ⟨φ, _, w, Plan.le_refl φ, zero hk none 0 0 (Nat.le_refl _), .slice0, hR⟩
     ·rename_i hk
      split at h
      ·rename_i hc
       obtain ⟨c1, c2, c3⟩ := hc
       cases h
       obtain ⟨z, hz, hzs⟩ := Option.map_eq_some_iff.1 c3
       have := zaiv (P := P) (ty := ty) (tx := xt) hR (tg := slT elem) (.inl rfl) hst hinf hz hzs (base := none) (sLen := 0) (sCap := 0) (olds := []) (olds' := []) (fun w2 _ => by simp [Builtin.firstCells]) hsrc (.nil φ) n1 (by simp) (by simp) (by omega) (by omega) (by simpa using c1)
       simpa using this
      ·cases h
    ·rename_i a n sz
     split at h
     ·rename_i hk
      cases h
      cases hs with
      | slice i off _ _ cap m hm h1 h2 => exact ⟨φ, _, w, Plan.le_refl φ, zero hk _ n cap h1, .slice i off n sz cap m hm h1 h2, hR⟩
      | sliceE _ b _ => exact ⟨φ, _, w, Plan.le_refl φ, zero hk _ 0 0 (Nat.le_refl _), .sliceE _ _ _, hR⟩
     ·rename_i hk
      split at h
      ·rename_i e0 c hg
       split at h
       ·rename_i hc
        obtain ⟨c1, c2, c3, c4, c5, c6⟩ := hc
        subst c1
        cases h
        obtain ⟨z, hz, hzs⟩ := Option.map_eq_some_iff.1 c6
        cases hs with
        | sliceE _ b _ =>
         have hR' := hR.kill a.block
         have := zaiv (P := P) (ty := ty) (tx := xt) (H := H.put a.block .dead) hR' (agT_or e0 elem a.off) hst hinf hz hzs (base := some b) (sLen := 0) (sCap := 0) (olds := []) (olds' := []) (fun w2 _ => by simp [Builtin.firstCells, loadCells, loadCellsFrom]) hsrc (.nil φ) n1 (by simp) (by simp) (by omega) (by omega) (by simpa using c4)
         simpa [zaaf] using this
        | slice i off _ _ cap m hm h1 h2 =>
         simp only at c2 c3 hg
         have hcells : cellsAt H ⟨i, off, none⟩ (n * inf.size) = some ((c.drop off).take (n * inf.size)) := by
          by_cases h0 : n * inf.size = 0
          ·simp [cellsAt, h0]
          ·simp only [cellsAt, if_neg h0, hg]
           rw [if_pos (by simp [c3])]
         obtain ⟨olds', o1, o2, o3, o4⟩ := zakp hR hcells hm
         by_cases hroom : n + k ≤ cap
         ·-- there is room
          obtain ⟨cur, e', fr, hh, hbx, hsz, hvr, hone, hown⟩ := zaeo hR hg hm
          obtain ⟨hB, hstop, hbl, hfz⟩ := hown rfl
          have hle : (n + k) * inf.size ≤ cap * inf.size := Nat.mul_le_mul_right _ hroom
          have hnl := hsrc.newsLen
          have e1 : (n + k) * inf.size = n * inf.size + k * inf.size := Nat.add_mul ..
          have hst' := zafk P m.blk (m.base + off + n * inf.size) e' fr new' 0 cur w hh (fun o ho => hfz o (by omega)) (by omega) hsrc.one
          simp only [Nat.add_zero] at hst'
          have hrun : (Builtin.append_ #[st, xt] ty #[.slice (some ⟨m.blk, m.base + off, none⟩) n cap, x']).run P w = .ok (.slice (some ⟨m.blk, m.base + off, none⟩) (n + k) cap) (w.setRow m.blk (cur.toList.take (m.base + off + n * inf.size) ++ new' ++ cur.toList.drop (m.base + off + n * inf.size + new'.length)).toArray) := by
           have hc := hsrc.cells
           have hl := hsrc.len
           rcases hsrc.kind with ⟨e', hk⟩ | hk <;>
            simp [Builtin.append_, run_underlying hst, run_underlying hk, sizeOf, typeInfo, hinf, hl, hroom, hc, add_at, hst']
          have hnewrow := setRow_heap w m.blk cur (cur.toList.take (m.base + off + n * inf.size) ++ new' ++ cur.toList.drop (m.base + off + n * inf.size + new'.length)).toArray e' fr hh
          have hsize : (w.setRow m.blk (cur.toList.take (m.base + off + n * inf.size) ++ new' ++ cur.toList.drop (m.base + off + n * inf.size + new'.length)).toArray).heap.size = w.heap.size := size_setRow ..
          have hbl2 : m.blk < w.heap.size := hR.live i m hm
          have hidx : i ≠ H.next := by intro e; rw [e, hR.dom _ (Nat.le_refl _)] at hm; cases hm
          have hle2 : φ.le (φ.set H.next ⟨m.blk, m.base + off, m.stop⟩) := Plan.le_set _ (hR.dom _ (Nat.le_refl _))
          refine ⟨φ.set H.next ⟨m.blk, m.base + off, m.stop⟩, _, _, hle2, hrun, ?_, ?_⟩
          ·have := VR.slice (φ := φ.set H.next ⟨m.blk, m.base + off, m.stop⟩) H.next 0 (n + k) inf.size cap ⟨m.blk, m.base + off, m.stop⟩ (Plan.set_same ..) hroom (by simpa using h2)
           simpa using this
          ·have hcs : (cur.toList.take (m.base + off + n * inf.size) ++ new' ++ cur.toList.drop (m.base + off + n * inf.size + new'.length)).length = cur.size := by simp; omega
           have holds : olds' = (cur.toList.drop (m.base + off)).take (n * inf.size) := by
            apply List.ext_getElem?
            intro j
            by_cases hj : j < n * inf.size
            ·have hj' : j < olds'.length := by omega
             have := o4 j olds'[j] (List.getElem?_eq_getElem hj')
             rw [List.getElem?_take, if_pos hj, List.getElem?_drop, List.getElem?_eq_getElem hj', ← this, add_at]
             simp only [World.cell?, hh]
             simp
            ·rw [List.getElem?_eq_none (by omega), List.getElem?_take, if_neg hj]
           have hcl : ((c.drop off).take (n * inf.size)).length = n * inf.size := by simp; omega
           have htake : ((cur.toList.take (m.base + off + n * inf.size) ++ new' ++ cur.toList.drop (m.base + off + n * inf.size + new'.length)).drop (m.base + off)).take ((c.drop off).take (n * inf.size) ++ new).length = olds' ++ new' := by
            rw [holds]
            apply List.ext_getElem?
            intro j
            have hl2 : ((c.drop off).take (n * inf.size) ++ new).length = n * inf.size + k * inf.size := by rw [List.length_append, hcl, n1.1, hnl]
            rw [hl2]
            by_cases hj : j < n * inf.size + k * inf.size
            ·rw [List.getElem?_take, if_pos hj, List.getElem?_drop]
             by_cases a1 : j < n * inf.size
             ·rw [List.append_assoc, List.getElem?_append_left (by simp; omega), List.getElem?_append_left (by simp; omega), List.getElem?_take, if_pos (by omega), List.getElem?_take, if_pos a1, List.getElem?_drop]
             ·rw [List.append_assoc, List.getElem?_append_right (by simp; omega), List.getElem?_append_left (by simp; omega), List.getElem?_append_right (by simp; omega)]
              congr 1
              simp; omega
            ·rw [List.getElem?_take, if_neg hj, List.getElem?_eq_none (by simp; omega)]
           have hR' := hR.kill i
           refine hR.change hle2 ⟨hR.below.os, hR.below.tape, hR.below.output, by rw [hsize]; exact hR.below.size, fun q hq => ?_⟩ (by rw [hsize]; exact Nat.le_refl _) (fun j hj => ?_) H.next (fun j hj => ⟨Plan.set_other _ _ hj, ?_⟩) ?_ (fun m' hm' => ?_) ?_ (by rw [zaad, zaaf]; omega) (fun q x hq => ?_) (fun b hb => absurd (hR.hole _ b hb).1 (by omega))
           ·rw [zadn _ _ _ _ (by omega)]; exact hR.below.block q hq
           ·rw [zaad, zaaf] at hj
            rw [Plan.set_other _ _ (by omega)]
            exact hR.dom j (by omega)
           ·rw [zaab, zaaf, if_neg hj, zaan]
            by_cases hji : j = i
            ·rw [if_pos hji]; exact .inl rfl
            ·rw [if_neg hji]
             refine .inr ⟨rfl, fun m' hm' q hq => zadn _ _ _ _ fun ek => ?_⟩
             subst ek
             exact hR.sep j i m' m hji hm' hm _ hq (by rw [hg]; simp [foot])
           ·rw [zaab, zaaf, if_pos rfl, Plan.set_same]
            refine ⟨_, _, e', fr, rfl, hnewrow, fun ht => ag_row (hbx ht) rfl, ?_, ?_, ?_, fun _ => ⟨hB, ?_, ?_, hfz⟩⟩
            ·simp only [List.size_toArray, hcs]
             rw [List.length_append, hcl, n1.1, hnl]; omega
            ·simp only [htake]
             exact ((o1.append n1).mono hle2)
            ·simp only [htake]
             intro u hu
             rcases List.mem_append.1 hu with h | h
             ·exact o3 u h
             ·exact hsrc.one u h
            ·simp only [List.size_toArray, hcs]; exact hstop
            ·rw [List.length_append, hcl, n1.1, hnl]; simp only; omega
           ·rw [Plan.set_same] at hm'
            cases hm'
            rw [hsize]; exact hbl2
           ·intro j m' mi hj hm' hmi hsame q hq hq'
            rw [Plan.set_same] at hmi
            cases hmi
            rw [zaab, zaaf, if_pos rfl] at hq'
            simp [foot] at hq'
            subst hq'
            by_cases hji : j = i
            ·subst hji
             rw [zaab, zaaf, if_neg hj, zaan, if_pos rfl, hg] at hsame
             cases hsame
            ·exact hR.sep j i m' m hji hm' hm _ hq (by rw [hg]; simp [foot])
           ·have hne : q ≠ m.blk := fun e => (hR.kept q x hq).2 i m hm (by rw [hg, e]; simp [foot])
            refine ⟨zadn _ _ _ _ hne, fun m' hm' hf => ?_⟩
            rw [Plan.set_same] at hm'
            cases hm'
            rw [zaab, zaaf, if_pos rfl] at hf
            simp [foot] at hf
            exact hne hf
         ·-- there is none
          have hR' := hR.kill i
          have hfirst : ∀ w2 : World, w2.heap = w.heap → (Builtin.firstCells inf.size n (.slice (some ⟨m.blk, m.base + off, none⟩) n cap)).run P w2 = .ok olds'.toArray w2 := by
           intro w2 hw
           have hl := run_loadCells_list (P := P) w2 (⟨m.blk, m.base + off, none⟩ : Addr) olds' (fun j u hu => by have := o4 j u hu; simpa [World.cell?, hw] using this)
           rw [o2] at hl
           simpa [Builtin.firstCells] using hl
          have := zaiv (P := P) (ty := ty) (tx := xt) (H := H.put i .dead) hR' (agT_or e0 elem off) hst hinf hz hzs hfirst hsrc o1 n1 o3 o2 (by omega) c5 c4
          simpa [zaaf] using this
       ·cases h
      ·cases h
    ·cases h
   ·cases h
  ·cases h
 ·cases h
end
end Go.Proofs.YtliemjbafgnnbaaDoor.Abs
