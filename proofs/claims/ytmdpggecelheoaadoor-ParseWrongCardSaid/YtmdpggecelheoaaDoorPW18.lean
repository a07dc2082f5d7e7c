/- Regions whose order is open, over values with their slices. -/
import Derived.Test.YtmdpggecelheoaaDoorPW17
set_option linter.unusedVariables false
set_option linter.unusedSimpArgs false
namespace Go.Proofs.YtmdpggecelheoaaDoor.Abs
open Go

section
variable {P : Program} {X : Outer} {K : VCall} {n : List Blk} {R0 R R1 Rb : Rl} {S S0 : VH} {e ce es : Env} {ops : Array Oper}
/-- What a place is to a state. -/
def DepAt (R : Rl) : Dep → Nat → Prop
  | .ro, b => R.prot b
  | .box i, b => R.φ[i]? = some b
  | .own _, b => b < R.H.next
theorem dep_same {bs : List Blk} (hr : HRel R bs) {s : List Nat × Bool} (hs : Stp R R1 s.1 s.2) {d : Dep} {b : Nat} (h : DepAt R d b) (hd : depStep d s = true) : R1.H.get b = R.H.get b := by
  cases d with
  | ro => exact hs.eff b h.1 (fun i _ => ⟨fun hh => h.2.1 (List.mem_of_getElem? hh), fun o => h.2.2 _⟩) fun _ d => h.2.2 _
  | box i =>
    have h' : R.φ[i]? = some b := h
    have hm := List.mem_of_getElem? h'
    simp only [depStep, Bool.not_eq_true', List.contains_eq_mem, decide_eq_false_iff_not] at hd
    refine hs.eff b (hr.lt b hm) (fun i' hi' => ⟨fun hh => ?_, fun o hh => (hr.sep _ b hh).1 hm⟩) fun _ d hh => (hr.sep _ b hh).1 hm
    obtain ⟨l1, e1⟩ := List.getElem?_eq_some_iff.1 h'
    obtain ⟨l2, e2⟩ := List.getElem?_eq_some_iff.1 hh
    have := (List.getElem_inj (h₀ := l1) (h₁ := l2) hr.nodup).1 (e1.trans e2.symm)
    subst this
    exact hd hi'
  | own k =>
    simp only [depStep, Bool.and_eq_true, List.isEmpty_iff, Bool.not_eq_true'] at hd
    exact hs.eff b h (fun i hi => by rw [hd.1] at hi; cases hi) fun hk => by rw [hd.2] at hk; cases hk
theorem dep_pers {ws : List Nat} {kf : Bool} (hs : Stp R R1 ws kf) {d : Dep} {b : Nat} (h : DepAt R d b) : DepAt R1 d b := by
  cases d with
  | ro => exact hs.prot b h
  | box i => exact hs.pre i b h
  | own k => exact Nat.lt_of_lt_of_le h hs.nx
theorem depOf_ok {bs : List Blk} (hr : HRel R bs) {v u : Value} (h : Rd R v u) {d : Dep} (hd : depOf v = some d) : ∃ ad : Addr, u = .pointer (some ad) ∧ DepAt R d ad.block := by
  unfold depOf at hd
  split at hd
  · rename_i x hv
    cases hd
    obtain rfl := h.is_at hv
    obtain ⟨b, off, rfl, hp, _⟩ := h.inv_at
    exact ⟨_, rfl, hp.1⟩
  · rename_i k j x hv
    cases hd
    obtain rfl := h.is_atOwn hv
    obtain ⟨sz, b, rfl, _, _, hk, _⟩ := h.inv_atOwn
    exact ⟨_, rfl, (hr.sep k b hk).2⟩
  · rename_i k x hv
    cases hd
    obtain rfl := h.is_inOwn hv
    obtain ⟨b, off, rfl, hk, _⟩ := h.inv_inOwn
    exact ⟨_, rfl, (hr.sep k b hk).2⟩
  · split at hd
    · cases hd
      obtain ⟨b, hb, hsp, rfl⟩ := h.inv_ptr
      exact ⟨_, rfl, hb⟩
    · cases hd
theorem aload_get {t : TypeId} {ad : Addr} {H H' : Hp} (h : H.get ad.block = H'.get ad.block) : aload P t (.pointer (some ad)) H = aload P t (.pointer (some ad)) H' := by
  unfold aload cellsAt cellAt
  simp only [h]
/-- What holds since the region's beginning. -/
structure Shd (Rb : Rl) (sd : Bool) (es ce : Env) (steps : List (List Nat × Bool)) (heaps : List Hp) (R : Rl) : Prop where
  es : sd = true → ∀ t, Rd Rb (eget es t) (eget ce t)
  len : heaps.length = steps.length + 1
  last : heaps[steps.length]? = some R.H
  pers : ∀ d b, DepAt Rb d b → DepAt R d b
  same : ∀ d b, DepAt Rb d b → (∀ s ∈ steps, depStep d s = true) → (∀ (k : Nat) (H : Hp), heaps[k]? = some H → H.get b = Rb.H.get b) ∧ R.H.get b = Rb.H.get b
  nx : nextsOk heaps = true
/-- What is known of a record. -/
def RecOk (P : Program) (ops : Array Oper) (ob : List VObl) (steps : List (List Nat × Bool)) (heaps : List Hp) (R : Rl) (b' : Obl) : Prop := ∃ q ∈ ob, q.ks = b'.ks ∧
  ((∀ H, lval P ops b'.o b'.e H = some b'.v) ∨ (q.pos ≤ steps.length ∧ ∃ t a ad, b'.o.op = .load t a ∧ awanted ops b'.o b'.e = some true ∧ aeval b'.e a = .pointer (some ad) ∧ DepAt R q.dep ad.block ∧
    (∀ (k : Nat) (H : Hp), k ∈ q.ks → heaps[k]? = some H → (∀ j : Nat, q.pos ≤ j → j < k → ∀ s, steps[j]? = some s → depStep q.dep s = true) → aload P t (.pointer (some ad)) H = some b'.v) ∧
    ((∀ j : Nat, q.pos ≤ j → ∀ s, steps[j]? = some s → depStep q.dep s = true) → aload P t (.pointer (some ad)) R.H = some b'.v)))
theorem RecOk.more {P : Program} {ops : Array Oper} {ob ob2 : List VObl} {steps : List (List Nat × Bool)} {heaps : List Hp} {R : Rl} {b' : Obl} (h : RecOk P ops ob steps heaps R b') : RecOk P ops (ob2 ++ ob) steps heaps R b' := by
  obtain ⟨q, hq, h⟩ := h
  exact ⟨q, List.mem_append_right _ hq, h⟩
theorem nextsOk_snoc : ∀ (l : List Hp) (a b : Hp), nextsOk (l ++ [a]) = true → a.next ≤ b.next → nextsOk (l ++ [a] ++ [b]) = true
  | [], a, b, _, h => by simp [nextsOk, h]
  | [x], a, b, h1, h => by
    simp only [List.cons_append, List.nil_append, nextsOk, Bool.and_eq_true, decide_eq_true_eq] at h1 ⊢
    exact ⟨h1.1, h, trivial⟩
  | x :: y :: l, a, b, h1, h => by
    simp only [List.cons_append, nextsOk, Bool.and_eq_true, decide_eq_true_eq] at h1 ⊢
    exact ⟨h1.1, nextsOk_snoc (y :: l) a b h1.2 h⟩
/-- One more heavy operation. -/
theorem Shd.push {sd : Bool} {steps : List (List Nat × Bool)} {hs : List Hp} {bs : List Blk} (h : Shd Rb sd es ce steps (hs ++ [R.H]) R) (hr : HRel R bs) {s : List Nat × Bool} (hst : Stp R R1 s.1 s.2) (d : Option Tmp) (cu v : Value) (hv : sd = true → Rd Rb v cu) :
    Shd Rb sd (if sd then eput es d v else es) (eput ce d cu) (steps ++ [s]) (hs ++ [R.H] ++ [R1.H]) R1 where
  es := fun hsd t => by
    rw [hsd, if_pos rfl]
    cases d with
    | none => exact h.es hsd t
    | some d =>
      simp only [eput, eget_eset]
      split
      · exact hv hsd
      · exact h.es hsd t
  len := by have := h.len; simp at this ⊢; exact this
  last := by
    have := h.len
    rw [List.length_append, List.getElem?_append_right (by simp at this ⊢; omega)]
    simp only [List.length_append, List.length_singleton] at this ⊢
    rw [show steps.length + 1 - (hs.length + 1) = 0 by omega]
    rfl
  pers := fun d b hd => dep_pers hst (h.pers d b hd)
  same := fun d b hd hall => by
    obtain ⟨h1, h2⟩ := h.same d b hd fun s hs => hall s (List.mem_append_left _ hs)
    have h3 := dep_same hr hst (h.pers d b hd) (hall s (by simp))
    refine ⟨fun k H hk => ?_, h3.trans h2⟩
    rcases Nat.lt_or_ge k (hs ++ [R.H]).length with hl | hl
    · rw [List.getElem?_append_left hl] at hk; exact h1 k H hk
    · rw [List.getElem?_append_right hl] at hk
      have : k - (hs ++ [R.H]).length = 0 := by
        have := (List.getElem?_eq_some_iff.1 hk).1
        simpa using this
      rw [this] at hk
      simp only [List.getElem?_cons_zero, Option.some.injEq] at hk
      subst hk
      exact h3.trans h2
  nx := nextsOk_snoc _ _ _ h.nx hst.nx
theorem Shd.light {sd : Bool} {steps : List (List Nat × Bool)} {heaps : List Hp} (h : Shd Rb sd es ce steps heaps R) (d : Option Tmp) (cu v : Value) (hv : sd = true → Rd Rb v cu) : Shd Rb sd (if sd then eput es d v else es) (eput ce d cu) steps heaps R := by
  have : sd = true → ∀ t, Rd Rb (eget (if sd then eput es d v else es) t) (eget (eput ce d cu) t) := by
    intro hsd t
    rw [hsd, if_pos rfl]
    cases d with
    | none => exact h.es hsd t
    | some d =>
      simp only [eput, eget_eset]
      split
      · exact hv hsd
      · exact h.es hsd t
  exact { h with es := this }
theorem RecOk.push {ob : List VObl} {steps : List (List Nat × Bool)} {hs : List Hp} {bs : List Blk} {b' : Obl} (hl : (hs ++ [R.H]).length = steps.length + 1) (h : RecOk P ops ob steps (hs ++ [R.H]) R b') (hr : HRel R bs) {s : List Nat × Bool} (hst : Stp R R1 s.1 s.2) : RecOk P ops ob (steps ++ [s]) (hs ++ [R.H] ++ [R1.H]) R1 b' := by
  obtain ⟨q, hq, h1, h⟩ := h
  refine ⟨q, hq, h1, ?_⟩
  rcases h with h | ⟨hp, t, a, ad, h2, h3, h4, h5, h6, h7⟩
  · exact .inl h
  · have hfin : (∀ j, q.pos ≤ j → ∀ s', (steps ++ [s])[j]? = some s' → depStep q.dep s' = true) → aload P t (.pointer (some ad)) R1.H = some b'.v := by
      intro hall
      have hold : ∀ j, q.pos ≤ j → ∀ s', steps[j]? = some s' → depStep q.dep s' = true := fun j hj s' hs' => hall j hj s' (by rw [List.getElem?_append_left (List.getElem?_eq_some_iff.1 hs').1]; exact hs')
      have hlast : depStep q.dep s = true := hall steps.length hp s (by rw [List.getElem?_append_right (by omega)]; simp)
      rw [aload_get (H' := R.H) (dep_same hr hst h5 hlast)]
      exact h7 hold
    refine .inr ⟨by simp; omega, t, a, ad, h2, h3, h4, dep_pers hst h5, fun k H hk hH hall => ?_, hfin⟩
    rcases Nat.lt_or_ge k (hs ++ [R.H]).length with hkl | hkl
    · rw [List.getElem?_append_left hkl] at hH
      refine h6 k H hk hH fun j hj hjk s' hs' => hall j hj hjk s' (by rw [List.getElem?_append_left (List.getElem?_eq_some_iff.1 hs').1]; exact hs')
    · rw [List.getElem?_append_right hkl] at hH
      have h0 : k - (hs ++ [R.H]).length = 0 := by
        have := (List.getElem?_eq_some_iff.1 hH).1
        simpa using this
      rw [h0] at hH
      simp only [List.getElem?_cons_zero, Option.some.injEq] at hH
      subst hH
      refine hfin fun j hj s' hs' => hall j hj ?_ s' hs'
      have := (List.getElem?_eq_some_iff.1 hs').1
      simp only [List.length_append, List.length_singleton] at this hl h0 hkl
      omega
/-- What is reckoned at the region's beginning is what is reckoned now. -/
theorem shade_ok (hb : HRel Rb S0.all) {sd : Bool} {Hs : List (List Nat × Bool)} {heaps : List Hp} (h : Shd Rb sd es ce Hs.reverse heaps R) (hsd : sd = true) {o : Oper} {cu : Value} (hcu : light P o.op = true → o.guard = none → lop P (aeval ce) R.H o.op = some cu) : Rd Rb (vshade P o es S0 Hs) cu := by
  unfold vshade
  split
  · rename_i hl
    split
    · rename_i v hv
      obtain ⟨u0, hu0, hvu⟩ := vlop_ok (ρ' := aeval ce) hb (fun x => rd_eval (h.es hsd) x) hl.1 hv
      have hcu := hcu hl.1 hl.2
      have hind : (∀ t a, o.op ≠ .load t a) → (∀ s t x, o.op ≠ .convert s t x) → u0 = cu := by
        intro n1 n2
        cases hop : o.op with
        | load t a => exact absurd hop (n1 t a)
        | convert s t x => exact absurd hop (n2 s t x)
        | call c =>
          rw [hop] at hu0 hcu hv
          simp only [vlop] at hv
          simp only [lop] at hu0 hcu
          split at hv
          · rename_i t x e1 e2 e3
            obtain ⟨g, _⟩ := len_ok (rd_eval (h.es hsd) x) hv
            simp only [e1, e2, e3] at hu0 hcu
            rw [g] at hu0 hcu
            exact (Option.some.inj hu0).symm.trans (Option.some.inj hcu)
          · rename_i x y e1 e2
            simp only [e1, e2] at hu0 hcu
            rw [hu0] at hcu
            exact Option.some.inj hcu
          · rename_i x y e1 e2
            simp only [e1, e2] at hu0 hcu
            rw [hu0] at hcu
            exact Option.some.inj hcu
          · cases hv
        | makeFunc f a b =>
          rw [hop] at hu0 hcu
          cases f <;> exact Option.some.inj (hu0.symm.trans hcu)
        | _ =>
          rw [hop] at hu0 hcu
          have : some u0 = some cu := hu0.symm.trans hcu
          exact Option.some.inj this
      split
      · rename_i t a hop
        split
        · rename_i d hd
          split
          · rename_i hall
            obtain ⟨ad, had, hdep⟩ := depOf_ok hb (rd_eval (h.es hsd) a) hd
            rw [hop] at hu0 hcu
            simp only [lop] at hu0 hcu
            rw [had] at hu0 hcu
            have := (h.same d ad.block hdep fun s hs => by rw [List.all_eq_true] at hall; exact hall s (List.mem_reverse.1 hs)).2
            rw [aload_get this, hu0] at hcu
            cases hcu
            exact hvu
          · exact .stale 2 _ (by decide)
        · exact .stale 2 _ (by decide)
      · exact .stale 2 _ (by decide)
      · rename_i n1 n2
        rw [← hind (fun t a hh => n1 t a hh) (fun s t x hh => n2 s t x hh)]
        exact hvu
    · exact .stale 2 _ (by decide)
  · exact .stale 2 _ (by decide)
end
end Go.Proofs.YtmdpggecelheoaaDoor.Abs
