/- New slices, boxes and what comes to lie in them. -/
import Derived.Test.YtmdpggecelheoaaDoorPW9
set_option linter.unusedVariables false
set_option linter.unusedSimpArgs false
namespace Go.Proofs.YtmdpggecelheoaaDoor.Abs
open Go

section
variable {R R1 : Rl} {S : VH} {P : Program}
/-- Letting go of d's own slice and those of ks, and a new one with d's name. -/
theorem new_step (hr : HRel R S.all) (d : Nat) (ks : List Tok) (hl : ∀ k ∈ ks, k.2.isSome = true → k.1 < S.all.length) (t : TypeId) (c' : List Value) :
    ∃ R1 : Rl, R1.H = R.H.push (.cells true t c') ∧ Nxt R R1 S (S.thaw ((d, none) :: ks)) [] false [thaw ((d, none) :: ks)] ∧ R1.ρ (d, none) = some R.H.next := by
  have t1 := thaw_step hr ((d, none) :: ks) (by
    intro k hk h
    rcases List.mem_cons.1 hk with rfl | hk
    · cases h
    · exact hl k hk h)
  have t2 := push_own (S := S.thaw ((d, none) :: ks)) t1.hr d (by simp [Rl.less]) t c'
  refine ⟨_, rfl, t1.trans t2 (fun b' hb' _ _ => t2.eff b' hb' (by simp) (by simp)) (by simp), ?_⟩
  simp [Rl.less]
theorem toks_lt (hr : HRel R S.all) {v u : Value} (h : Rd R v u) : ∀ k ∈ toks v, k.2.isSome = true → k.1 < S.all.length := by
  have key : ∀ (k : Tok) b, R.ρ k = some b → k.2.isSome = true → k.1 < S.all.length := by
    intro k b hk ho
    obtain ⟨i, o⟩ := k
    cases o with
    | none => cases ho
    | some o => have := hr.dom i o b hk; rwa [hr.len] at this
  have getm : ∀ (x : List Value) k, k ∈ x.flatMap toks → ∃ i, k ∈ toks (x.getD i undef) := by
    intro x k hk
    rw [List.mem_flatMap] at hk
    obtain ⟨a, ha, hk⟩ := hk
    obtain ⟨i, hi⟩ := List.getElem?_of_mem ha
    exact ⟨i, by rw [List.getD_eq_getElem?_getD, hi]; exact hk⟩
  induction h with
  | scal v h => intro k hk; rw [toks_scal h] at hk; cases hk
  | clo f x y x' y' h1 h2 _ _ ih1 ih2 =>
    intro k hk
    rw [toks_clo, List.mem_append] at hk
    rcases hk with hk | hk
    · obtain ⟨i, hi⟩ := getm x k hk; exact ih1 i k hi
    · obtain ⟨i, hi⟩ := getm y k hk; exact ih2 i k hi
  | iface t v u _ ih => intro k hk; rw [toks_iface] at hk; exact ih k hk
  | agg x y h1 _ ih => intro k hk; rw [toks_agg] at hk; obtain ⟨i, hi⟩ := getm x k hk; exact ih i k hi
  | tuple x y h1 _ ih => intro k hk; rw [toks_tuple] at hk; obtain ⟨i, hi⟩ := getm x k hk; exact ih i k hi
  | own k sz j l b el c h0 hρ => intro k' hk; rw [toks_vo, List.mem_singleton] at hk; subst hk; exact key k' b hρ
  | atOwn k sz j v b el c h0 hρ => intro k' hk; rw [toks_vq, List.mem_singleton] at hk; subst hk; exact key k' b hρ
  | inOwn k v b off el c hρ => intro k' hk; rw [toks_vr, List.mem_singleton] at hk; subst hk; exact key k' b hρ
  | _ => intro k hk; cases hk
/-! ### Building -/
theorem hop_build {ρ : Operand → Value} {H : Hp} {t : TypeId} {n : Nat} {ps : Array (Nat × Operand)} : hop P ρ H (.buildSlice t n ps) = (abuild P t n (ps.toList.map fun p => (p.1, ρ p.2))).map fun c => .val (.slice (some ⟨H.next, 0, none⟩) n c.1) (H.push (.cells true (slT c.2.1) c.2.2)) := by
  simp only [hop, abuild]
  cases h1 : P.underlying t with
  | none => rfl
  | some u =>
    cases u <;> try rfl
    rename_i elem
    cases h2 : P.info? elem with
    | none => simp only [h2]; rfl
    | some inf =>
      simp only [h2]
      cases inf.zero with
      | none => rfl
      | some z =>
        simp only [Option.bind_some, List.all_map, Function.comp_def]
        split
        · simp only [Option.map_map]
          rfl
        · rfl
theorem setAll_len : ∀ (l c : List Value) (i : Nat), (setAll c i l).length = c.length
  | [], _, _ => rfl
  | v :: l, c, i => by simp only [setAll]; rw [setAll_len l]; simp
theorem setAll_get : ∀ (l c : List Value) (i j : Nat), i + l.length ≤ c.length → (setAll c i l)[j]? = if i ≤ j ∧ j < i + l.length then l[j - i]? else c[j]?
  | [], c, i, j, _ => by simp only [setAll, List.length_nil]; rw [if_neg (by omega)]
  | v :: l, c, i, j, h => by
    simp only [List.length_cons] at h
    simp only [setAll]
    rw [setAll_get l _ (i + 1) j (by simp; omega)]
    by_cases hj : i + 1 ≤ j ∧ j < i + 1 + l.length
    · rw [if_pos hj, if_pos (by simp only [List.length_cons]; omega), show j - i = (j - (i + 1)) + 1 by omega, List.getElem?_cons_succ]
    · rw [if_neg hj]
      by_cases hij : i = j
      · subst hij
        rw [if_pos (by simp only [List.length_cons]; omega), Nat.sub_self, List.getElem?_cons_zero, List.getElem?_set, if_pos rfl, if_pos (by omega)]
      · rw [if_neg (by simp only [List.length_cons]; omega), List.getElem?_set_ne hij]
theorem cellsL_set {sz : Nat} {l : List Value} (h : ∀ x ∈ l, x.cells.size = sz) {i : Nat} (hi : i < l.length) {v : Value} (hv : v.cells.size = sz) : cellsL (l.set i v) = setAll (cellsL l) (i * sz) v.cells.toList := by
  have hlen := cellsL_len h
  have hvl : v.cells.toList.length = sz := by rw [Array.length_toList]; exact hv
  have hb : i * sz + sz ≤ l.length * sz := by
    have := Nat.mul_le_mul_right sz (show i + 1 ≤ l.length by omega)
    rwa [Nat.add_mul, Nat.one_mul] at this
  apply List.ext_getElem?
  intro j
  rw [setAll_get _ _ _ _ (by rw [hvl, hlen]; exact hb), hvl]
  have hset : ∀ x ∈ l.set i v, x.cells.size = sz := by
    intro x hx
    rcases List.mem_or_eq_of_mem_set hx with hx | rfl
    · exact h x hx
    · exact hv
  have e1 : cellsL (l.set i v) = cellsL (l.take i) ++ (v.cells.toList ++ cellsL (l.drop (i + 1))) := by
    rw [List.set_eq_take_append_cons_drop, if_pos hi]
    simp [cellsL]
  have e2 : cellsL l = cellsL (l.take i) ++ (l[i].cells.toList ++ cellsL (l.drop (i + 1))) := by
    have h1 : cellsL l = cellsL (l.take i ++ l[i] :: l.drop (i + 1)) := by rw [← List.drop_eq_getElem_cons hi, List.take_append_drop]
    rw [h1]
    simp only [cellsL, List.flatMap_append, List.flatMap_cons]
  have e3 : (cellsL (l.take i)).length = i * sz := by
    rw [cellsL_len fun x hx => h x (List.mem_of_mem_take hx), List.length_take, Nat.min_eq_left (by omega)]
  have e4 : l[i].cells.toList.length = sz := by rw [Array.length_toList]; exact h _ (List.getElem_mem hi)
  rw [e1]
  by_cases hj : j < i * sz
  · rw [List.getElem?_append_left (by omega), if_neg (by omega), e2, List.getElem?_append_left (by omega)]
  · rw [List.getElem?_append_right (by omega), e3]
    by_cases hj2 : j < i * sz + sz
    · rw [List.getElem?_append_left (by omega), if_pos (by omega)]
    · rw [List.getElem?_append_right (by omega), if_neg (by omega), e2, List.getElem?_append_right (by omega), e3, List.getElem?_append_right (by omega), e4, hvl]
theorem cellsL_replicate (n : Nat) (z : Value) : cellsL (List.replicate n z) = (List.replicate n z.cells.toList).flatten := by
  induction n with
  | zero => rfl
  | succ n ih => simp only [List.replicate_succ, List.flatten_cons, cellsL, List.flatMap_cons] at ih ⊢; rw [ih]
theorem fill_ok {R1 : Rl} {sz len : Nat} {ρ ρ' : Operand → Value} : ∀ (ps : List (Nat × Operand)) (l c : List Value), l.length = len → (∀ x ∈ l, x.cells.size = sz) → okvL 0 true l = true → RdL R1 (cellsL l) c →
    (∀ p ∈ ps, p.1 < len ∧ isTup (ρ p.2) = false ∧ (ρ p.2).cells.size = sz ∧ okv 0 true (mapOwn thawAll (ρ p.2)) = true) → (∀ p ∈ ps, Rd R1 (mapOwn thawAll (ρ p.2)) (ρ' p.2)) →
    ∃ c', afill (fun i => some (i * sz, sz)) c (ps.map fun p => (p.1, ρ' p.2)) = some c' ∧ (vfill l (ps.map fun p => (p.1, mapOwn thawAll (ρ p.2)))).length = len ∧ (∀ x ∈ vfill l (ps.map fun p => (p.1, mapOwn thawAll (ρ p.2))), x.cells.size = sz) ∧
      okvL 0 true (vfill l (ps.map fun p => (p.1, mapOwn thawAll (ρ p.2)))) = true ∧ RdL R1 (cellsL (vfill l (ps.map fun p => (p.1, mapOwn thawAll (ρ p.2))))) c' := by
  intro ps
  induction ps with
  | nil => intro l c hl hsz hok hc _ _; exact ⟨c, rfl, hl, hsz, hok, hc⟩
  | cons p ps ih =>
    intro l c hl hsz hok hc hp hrd
    obtain ⟨h1, h2, h3, h4⟩ := hp p (by simp)
    have hr := hrd p (by simp)
    have htt : isTup (mapOwn thawAll (ρ p.2)) = false := by
      revert h2 h4
      generalize ρ p.2 = v
      intro h2 h4
      cases v with
      | func f x y =>
        cases f with
        | func i => obtain ⟨x⟩ := x; obtain ⟨y⟩ := y; rw [mapOwn_clo]; rfl
        | _ =>
          simp only [mapOwn, thawAll, fate]
          split <;> rfl
      | agg x => obtain ⟨x⟩ := x; rw [mapOwn_agg]; rfl
      | tuple => cases h2
      | chan => cases h2
      | _ => rfl
    have hsv : (mapOwn thawAll (ρ p.2)).cells.size = sz := by
      rw [← h3]
      revert h2
      generalize ρ p.2 = v
      intro h2
      cases v with
      | func f x y =>
        cases f with
        | func i => obtain ⟨x⟩ := x; obtain ⟨y⟩ := y; rw [mapOwn_clo]; rfl
        | _ =>
          simp only [mapOwn, thawAll, fate]
          split <;> rfl
      | agg x => obtain ⟨x⟩ := x; rw [mapOwn_agg]; simp [Value.cells]
      | tuple => cases h2
      | _ => rfl
    have hcu := hr.cells_size htt
    have hlen := cellsL_len hsz
    have hb : p.1 * sz + sz ≤ l.length * sz := by
      have := Nat.mul_le_mul_right sz (show p.1 + 1 ≤ l.length by omega)
      rwa [Nat.add_mul, Nat.one_mul] at this
    have hset := cellsL_set hsz (show p.1 < l.length by omega) hsv
    obtain ⟨c', g1, g2, g3, g4, g5⟩ := ih (l.set p.1 (mapOwn thawAll (ρ p.2))) (setAll c (p.1 * sz) (ρ' p.2).cells.toList) (by simpa using hl) (fun x hx => by
      rcases List.mem_or_eq_of_mem_set hx with hx | rfl
      · exact hsz x hx
      · exact hsv) (by
      rw [okvL_eq, List.all_eq_true] at hok ⊢
      intro x hx
      rcases List.mem_or_eq_of_mem_set hx with hx | rfl
      · exact hok x hx
      · exact h4) (by rw [hset]; exact hc.setAll (hr.cells htt) _) (fun q hq => hp q (by simp [hq])) (fun q hq => hrd q (by simp [hq]))
    refine ⟨c', ?_, g2, g3, g4, g5⟩
    simp only [List.map_cons, afill, Option.bind_some]
    rw [if_pos ⟨by rw [hcu]; exact hsv, by rw [← hc.1, hlen]; exact hb⟩]
    exact g1
theorem build_ok (hr : HRel R S.all) {d : Nat} {ρ ρ' : Operand → Value} (hρ : ∀ x, Rd R (ρ x) (ρ' x)) {t : TypeId} {len : Nat} {ps : Array (Nat × Operand)} {r : Nat × List Value} (h : vbuild P t len (ps.toList.map fun p => (p.1, ρ p.2)) = some r) :
    VOk P R S ⟨vo (d, none) r.1 0 r.2, [thaw ((d, none) :: toksL (ps.toList.map fun p => ρ p.2))], S.thaw ((d, none) :: toksL (ps.toList.map fun p => ρ p.2)), [], false⟩ (hop P ρ' R.H (.buildSlice t len ps)) := by
  unfold vbuild at h
  simp only [Option.bind_eq_some_iff] at h
  obtain ⟨e, he, ⟨sz, bytes⟩, hi, z, hz, h⟩ := h
  split at h
  · rename_i hh
    cases h
    obtain ⟨c1, c2, c3, c4, c5, c6, c7⟩ := hh
    rw [List.all_eq_true] at c7
    have hp : ∀ p ∈ ps.toList, p.1 < len ∧ isTup (ρ p.2) = false ∧ (ρ p.2).cells.size = sz ∧ okv 0 true (mapOwn thawAll (ρ p.2)) = true := by
      intro p hp
      have := c7 (p.1, ρ p.2) (List.mem_map.2 ⟨p, hp, rfl⟩)
      simp only [Bool.and_eq_true, decide_eq_true_eq, Bool.not_eq_true', beq_iff_eq] at this
      exact ⟨this.1.1.1, this.1.1.2, this.1.2, this.2⟩
    have hlt : ∀ k ∈ toksL (ps.toList.map fun p => ρ p.2), k.2.isSome = true → k.1 < S.all.length := by
      intro k hk
      rw [toksL_eq, List.mem_flatMap] at hk
      obtain ⟨v, hv, hk⟩ := hk
      obtain ⟨p, hp, rfl⟩ := List.mem_map.1 hv
      exact toks_lt hr (hρ p.2) k hk
    have hrep : ∀ x ∈ List.replicate len z, x.cells.size = sz := fun x hx => by rw [(List.mem_replicate.1 hx).2]; exact c5
    have hbe : abuild P t len (ps.toList.map fun p => (p.1, ρ' p.2)) = (afill (fun i => some (i * sz, sz)) (List.replicate len z.cells.toList).flatten (ps.toList.map fun p => (p.1, ρ' p.2))).map fun cs => (sz, e, cs) := by
      rw [abuild_eq he hi hz c3 len _ c1, if_pos]
      rw [List.all_map]
      have := all_not_tup hρ ps.toList (by rw [List.all_eq_true]; intro p hp'; simp [(hp p hp').2.1])
      exact this
    have step : ∀ c', ∃ R1 : Rl, R1.H = R.H.push (.cells true (slT e) c') ∧ Nxt R R1 S (S.thaw ((d, none) :: toksL (ps.toList.map fun p => ρ p.2))) [] false [thaw ((d, none) :: toksL (ps.toList.map fun p => ρ p.2))] ∧ R1.ρ (d, none) = some R.H.next := fun c' => new_step hr d _ hlt (slT e) c'
    have hparts : ∀ R1, Nxt R R1 S (S.thaw ((d, none) :: toksL (ps.toList.map fun p => ρ p.2))) [] false [thaw ((d, none) :: toksL (ps.toList.map fun p => ρ p.2))] → ∀ p ∈ ps.toList, Rd R1 (mapOwn thawAll (ρ p.2)) (ρ' p.2) := by
      intro R1 hn p hp'
      have := hn.rd _ _ (hρ p.2)
      simp only [turns, List.foldl_cons, List.foldl_nil] at this
      rwa [thawAll_eq (ks := (d, none) :: toksL (ps.toList.map fun p => ρ p.2))]
      intro k hk
      refine List.mem_cons_of_mem _ ?_
      rw [toksL_eq, List.mem_flatMap]
      exact ⟨_, List.mem_map.2 ⟨p, hp', rfl⟩, hk⟩
    have hzz : ∀ R1 : Rl, RdL R1 (cellsL (List.replicate len z)) (List.replicate len z.cells.toList).flatten := by
      intro R1
      rw [cellsL_replicate]
      have : ∀ n, RdL R1 (List.replicate n z.cells.toList).flatten (List.replicate n z.cells.toList).flatten := by
        intro n
        induction n with
        | zero => exact .nil
        | succ n ih => simp only [List.replicate_succ, List.flatten_cons]; exact (rdl_flat c3 c6).append ih
      exact this len
    have hokz : okvL 0 true (List.replicate len z) = true := by
      rw [okvL_eq, List.all_eq_true]
      intro x hx
      rw [(List.mem_replicate.1 hx).2]; exact c4
    -- the cells do not hang on the new state
    obtain ⟨Rx, hx1, hx2, hx3⟩ := step []
    obtain ⟨c', g1, g2, g3, g4, g5⟩ := fill_ok (R1 := Rx) (ρ' := ρ') ps.toList _ _ (by simp) hrep hokz (hzz Rx) hp (hparts Rx hx2)
    obtain ⟨R1, h1, h2, h3⟩ := step c'
    obtain ⟨c'', k1, k2, k3, k4, k5⟩ := fill_ok (R1 := R1) (ρ' := ρ') ps.toList _ _ (by simp) hrep hokz (hzz R1) hp (hparts R1 h2)
    rw [g1] at k1
    cases k1
    refine ⟨.slice (some ⟨R.H.next, 0, none⟩) len sz, _, R1, ?_, rfl, h2, ?_⟩
    · rw [hop_build, hbe, g1]
      simp only [Option.map_some]
      rw [h1]
    · have := rd_new (R := R1) (b := R.H.next) (t := slT e) c2 h3 (by rw [h1, get_push, if_pos rfl]) (by rw [← g5.1, cellsL_len g3]) g3 g4 k5
      rw [g2] at this
      have e1 : (ps.toList.map fun p => (p.1, ρ p.2)).map (fun p => (p.1, mapOwn thawAll p.2)) = ps.toList.map fun p => (p.1, mapOwn thawAll (ρ p.2)) := by rw [List.map_map]; rfl
      show Rd R1 (vo (d, none) sz 0 (vfill (List.replicate len z) ((ps.toList.map fun p => (p.1, ρ p.2)).map fun p => (p.1, mapOwn thawAll p.2)))) _
      rw [e1]
      exact this
  · cases h
end
end Go.Proofs.YtmdpggecelheoaaDoor.Abs
