/- A light operation over values with their slices, whichever it is: the plain heap answers alike. -/
import Derived.Test.YtmdpggecelheoaaDoorPW5
set_option linter.unusedVariables false
set_option linter.unusedSimpArgs false
namespace Go.Proofs.YtmdpggecelheoaaDoor.Abs
open Go

section
variable {R : Rl} {S : VH} {P : Program}
theorem apart_ok {x y : List Value} (hxy : RdL R x y) {u : TypeId} {off : Nat} {v : Value} (h : apart P u ⟨x⟩ off = some v) : ∃ w, apart P u ⟨y⟩ off = some w ∧ Rd R v w := by
  unfold apart at h ⊢
  cases hu : P.underlying u with
  | none => rw [hu] at h; cases h
  | some d =>
    rw [hu] at h
    simp only at h ⊢
    by_cases ha : isAggT P u = true
    · rw [if_pos ha] at h ⊢
      simp only [Option.bind_eq_some_iff] at h ⊢
      obtain ⟨n, hn, h⟩ := h
      split at h
      · rename_i hl
        cases h
        refine ⟨_, ⟨n, hn, by rw [if_pos (by simpa [hxy.1] using hl)]⟩, ?_⟩
        have e : ∀ z : List Value, (Array.mk z).extract off (off + n) = ⟨(z.drop off).take n⟩ := fun z => by
          apply Array.ext'; simp [List.extract_eq_take_drop]
        rw [e, e]
        exact .agg_of hxy.sub
      · cases h
    · rw [if_neg ha] at h ⊢
      have h' : x[off]? = some v := by simpa using h
      obtain ⟨w, h1, h2⟩ := hxy.get? h'
      exact ⟨w, by simpa using h1, h2⟩
theorem afill_ok {pl : Nat → Option (Nat × Nat)} {ρ ρ' : Operand → Value} (hρ : ∀ x, Rd R (ρ x) (ρ' x)) : ∀ (l : List (Nat × Operand)) (c c' r : List Value), RdL R c c' → l.all (fun p => !isTup (ρ p.2)) = true → afill pl c (l.map fun p => (p.1, ρ p.2)) = some r →
    ∃ r', afill pl c' (l.map fun p => (p.1, ρ' p.2)) = some r' ∧ RdL R r r' := by
  intro l
  induction l with
  | nil => intro c c' r hc _ h; simp only [List.map_nil, afill] at h ⊢; cases h; exact ⟨c', rfl, hc⟩
  | cons p l ih =>
    intro c c' r hc ht h
    simp only [List.all_cons, Bool.and_eq_true, Bool.not_eq_true'] at ht
    simp only [List.map_cons, afill, Option.bind_eq_some_iff] at h ⊢
    obtain ⟨x, hx, h⟩ := h
    split at h
    · rename_i hh
      obtain ⟨r', h1, h2⟩ := ih _ _ r (hc.setAll ((hρ p.2).cells ht.1) x.1) ht.2 h
      exact ⟨r', ⟨x, hx, by rw [if_pos ⟨by rw [(hρ p.2).cells_size ht.1]; exact hh.1, by rw [← hc.1]; exact hh.2⟩]; exact h1⟩, h2⟩
    · cases h
theorem all_not_tup {ρ ρ' : Operand → Value} (hρ : ∀ x, Rd R (ρ x) (ρ' x)) (l : List (Nat × Operand)) (h : l.all (fun p => !isTup (ρ p.2)) = true) : l.all (fun p => !isTup (ρ' p.2)) = true := by
  simp only [List.all_eq_true, Bool.not_eq_true'] at h ⊢
  exact fun p hp => (hρ p.2).not_tup (h p hp)
theorem rdl_flat {n : Nat} {z : Value} (hf : flat n z = true) (ht : isTup z = false) : RdL R z.cells.toList z.cells.toList := (Rd.of_flat n z hf).cells ht
theorem flat_not_tup {n : Nat} {z : Value} (hf : flat n z = true) : isTup z = false := by
  cases n <;> cases z <;> first | rfl | (simp [flat] at hf)
theorem rest_ok {ρ ρ' : Operand → Value} (hρ : ∀ x, Rd R (ρ x) (ρ' x)) {o : Op} {v : Value} (ho : match o with | .move _ | .assign _ | .pick .. | .build .. | .unOp .. | .makeFunc .. | .field .. | .index .. | .extract .. => True | _ => False)
    (h : lop P ρ ⟨0, .tip⟩ o = some v) : ∃ u, lop P ρ' R.H o = some u ∧ Rd R v u := by
  cases o with
  | move x => simp only [lop] at h ⊢; cases h; exact ⟨_, rfl, hρ x⟩
  | assign x => simp only [lop] at h ⊢; cases h; exact ⟨_, rfl, hρ x⟩
  | pick c a b =>
    simp only [lop] at h ⊢
    have hc := hρ c
    split at h
    · rename_i t ht
      rw [ht] at hc
      rw [hc.inv_bool]
      cases h
      refine ⟨_, rfl, ?_⟩
      cases t
      · exact hρ b
      · exact hρ a
    · cases h
  | build t ps =>
    simp only [lop, Option.bind_eq_some_iff] at h ⊢
    obtain ⟨z, hz, h⟩ := h
    split at h
    · rename_i hh
      simp only [Bool.and_eq_true] at hh
      rw [Option.map_eq_some_iff] at h
      obtain ⟨cs, hcs, rfl⟩ := h
      obtain ⟨r', h1, h2⟩ := afill_ok hρ ps.toList _ _ cs (rdl_flat hh.1.2 (flat_not_tup hh.1.2)) hh.2 hcs
      refine ⟨_, ⟨z, hz, ?_⟩, .agg_of h2⟩
      rw [if_pos (by simp only [Bool.and_eq_true]; exact ⟨hh.1, all_not_tup hρ _ hh.2⟩), h1]
      rfl
    · cases h
  | unOp op t x =>
    simp only [lop] at h ⊢
    split at h
    · rename_i hf
      rw [(hρ x).flat_eq 8 _ _ hf, if_pos hf]
      exact ⟨v, h, .of_flat 8 v (onlyFlat_ok h)⟩
    · cases h
  | makeFunc f a b =>
    cases f with
    | func f =>
      simp only [lop] at h ⊢
      cases h
      refine ⟨_, rfl, ?_⟩
      have h1 := RdL.map (R := R) a.toList (fun x _ => hρ x)
      have h2 := RdL.map (R := R) b.toList (fun x _ => hρ x)
      have e : ∀ (a : Array Operand) (ρ : Operand → Value), a.map ρ = ⟨a.toList.map ρ⟩ := fun a ρ => by apply Array.ext'; simp
      rw [e, e, e, e]
      exact .clo f _ _ _ _ h1.1 h2.1 h1.2 h2.2
    | _ => simp [lop] at h
  | field t x i =>
    simp only [lop] at h ⊢
    have hx := hρ x
    split at h
    · rename_i cs hcs
      obtain ⟨cs⟩ := cs
      rw [hcs] at hx
      obtain ⟨y, hy, hxy⟩ := hx.inv_agg
      rw [hy]
      simp only [Option.bind_eq_some_iff] at h ⊢
      obtain ⟨p, hp, u, hu, h⟩ := h
      obtain ⟨w, h1, h2⟩ := apart_ok hxy h
      exact ⟨w, ⟨p, hp, u, hu, h1⟩, h2⟩
    · cases h
  | index t x i =>
    simp only [lop] at h ⊢
    have hx := hρ x
    have hi := hρ i
    unfold aindex at h ⊢
    split at h
    · rename_i s k j hu hs hj
      rw [hs] at hx
      rw [hj] at hi
      rw [hx.inv_string, hi.inv_int, hu]
      simp only
      split at h
      · rename_i h0
        rw [if_pos h0]
        refine ⟨v, h, ?_⟩
        rw [Option.map_eq_some_iff] at h
        obtain ⟨b, _, rfl⟩ := h
        exact .int _ _
      · cases h
    · rename_i n e cs k j hu hs hj
      obtain ⟨cs⟩ := cs
      rw [hs] at hx
      rw [hj] at hi
      obtain ⟨y, hy, hxy⟩ := hx.inv_agg
      rw [hy, hi.inv_int, hu]
      simp only
      split at h
      · rename_i h0
        rw [if_pos h0]
        simp only [Option.bind_eq_some_iff] at h ⊢
        obtain ⟨sz, hsz, h⟩ := h
        obtain ⟨w, h1, h2⟩ := apart_ok hxy h
        exact ⟨w, ⟨sz, hsz, h1⟩, h2⟩
      · cases h
    · cases h
  | extract x i =>
    simp only [lop] at h ⊢
    have hx := hρ x
    split at h
    · rename_i vs hvs
      obtain ⟨vs⟩ := vs
      rw [hvs] at hx
      cases vs with
      | nil => simp at h
      | cons a l =>
        generalize ρ' x = w at hx
        cases hx with
        | tuple _ y h1 h2 =>
          have h' : (a :: l)[i]? = some v := by simpa using h
          obtain ⟨w, g1, g2⟩ := RdL.get? (x := a :: l) ⟨h1, h2⟩ h'
          exact ⟨w, by simpa using g1, g2⟩
        | scal _ hs => simp [isScal] at hs
    · cases h
  | _ => exact ho.elim
theorem amin_ok {a b r a' b' : Value} (ha : Rd R a a') (hb : Rd R b b') (h : amin a b = some r) : amin a' b' = some r ∧ Rd R r r := by
  unfold amin at h
  split at h
  · rw [ha.inv_int, hb.inv_int]
    refine ⟨h, ?_⟩
    split at h
    · cases h; exact .int _ _
    · cases h
  · cases h
theorem amax_ok {a b r a' b' : Value} (ha : Rd R a a') (hb : Rd R b b') (h : amax a b = some r) : amax a' b' = some r ∧ Rd R r r := by
  unfold amax at h
  split at h
  · rw [ha.inv_int, hb.inv_int]
    refine ⟨h, ?_⟩
    split at h
    · cases h; exact .int _ _
    · cases h
  · cases h
theorem vlop_ok (hR : HRel R S.all) {ρ ρ' : Operand → Value} (hρ : ∀ x, Rd R (ρ x) (ρ' x)) {o : Op} {v : Value} (hl : light P o = true) (h : vlop P ρ S o = some v) : ∃ u, lop P ρ' R.H o = some u ∧ Rd R v u := by
  cases o with
  | load t a => exact load_ok hR (hρ a) h
  | fieldAddr t x i => exact field_ok (hρ x) rfl h
  | indexAddr t x i => exact index_ok hR (hρ x) (hρ i) h
  | slice t x lo hi mx => exact cut_ok hρ (hρ x) h
  | convert s t x => exact conv_ok (hρ x) h
  | nilCheck x => exact nil_ok (hρ x) rfl h
  | binOp op t x y u => exact bin_ok (hρ x) (hρ y) h
  | call c =>
    simp only [vlop] at h
    simp only [lop]
    split at h
    · rename_i t x h1 h2 h3
      obtain ⟨g, n, rfl⟩ := len_ok (hρ x) h
      exact ⟨_, by simp only [h1, h2, h3]; exact g _, .int _ _⟩
    · rename_i x y h1 h3
      obtain ⟨g, g2⟩ := amin_ok (hρ x) (hρ y) h
      exact ⟨_, by simp only [h1, h3]; exact g, g2⟩
    · rename_i x y h1 h3
      obtain ⟨g, g2⟩ := amax_ok (hρ x) (hρ y) h
      exact ⟨_, by simp only [h1, h3]; exact g, g2⟩
    · cases h
  | move x => exact rest_ok hρ trivial h
  | assign x => exact rest_ok hρ trivial h
  | pick c a b => exact rest_ok hρ trivial h
  | build t ps => exact rest_ok hρ trivial h
  | unOp op t x => exact rest_ok hρ trivial h
  | makeFunc f a b => exact rest_ok hρ trivial h
  | field t x i => exact rest_ok hρ trivial h
  | index t x i => exact rest_ok hρ trivial h
  | extract x i => exact rest_ok hρ trivial h
  | _ => simp [light] at hl
end
end Go.Proofs.YtmdpggecelheoaaDoor.Abs
