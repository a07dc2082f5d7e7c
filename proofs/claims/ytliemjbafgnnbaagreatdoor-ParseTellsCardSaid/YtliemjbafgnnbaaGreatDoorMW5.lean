/- Calls with pointers over values with their slices. -/
import Derived.Test.YtliemjbafgnnbaaGreatDoorMW4
set_option linter.unnecessarySimpa false
set_option linter.unusedSimpArgs false
set_option linter.unusedVariables false
namespace Go.Proofs.YtliemjbafgnnbaaGreatDoor.Abs
open Go
theorem zavq : ∀ (ws : List (Nat × Blk)) (B : List Blk), (setW B ws).length = B.length
 | [], _ => rfl
 | p :: ws, B => by simp only [setW, List.foldl_cons]; exact (zavq ws _).trans (by simp)
theorem zafx : ∀ (ws : List (Nat × Blk)) (B : List Blk) (i : Nat), (∀ p ∈ ws, p.1 ≠ i) → (setW B ws)[i]? = B[i]?
 | [], _, _, _ => rfl
 | p :: ws, B, i, h => by
  simp only [setW, List.foldl_cons]
  have := zafx ws (B.set p.1 p.2) i fun q hq => h q (by simp [hq])
  rw [setW] at this
  rw [this, List.getElem?_set_ne (h p (by simp))]
theorem zavp : ∀ (ws : List (Nat × Blk)) (B : List Blk) (i : Nat), (∃ p ∈ ws, p.1 = i ∧ (setW B ws)[i]? = (B.set i p.2)[i]?) ∨ ∀ p ∈ ws, p.1 ≠ i
 | [], _, _ => .inr (by simp)
 | p :: ws, B, i => by
  rcases zavp ws (B.set p.1 p.2) i with ⟨q, hq, h1, h2⟩ | h
  ·left
   refine ⟨q, by simp [hq], h1, ?_⟩
   simp only [setW, List.foldl_cons] at h2 ⊢
   rw [h2]
   simp only [List.getElem?_set, if_true, List.length_set]
  ·by_cases hp : p.1 = i
   ·left
    refine ⟨p, by simp, hp, ?_⟩
    simp only [setW, List.foldl_cons]
    have := zafx ws (B.set p.1 p.2) i h
    rw [setW] at this
    rw [this, hp]
   ·right
    intro q hq
    rcases List.mem_cons.1 hq with rfl | hq
    ·exact hp
    ·exact h q hq
theorem zave : ∀ (ws : List (Nat × Blk)) (S : VH), (S.puts ws).all = setW S.all ws ∧ (S.puts ws).base.length = S.base.length ∧ ∀ j, j ∈ (S.puts ws).w ↔ j ∈ S.w ∨ ((∃ p ∈ ws, p.1 = j) ∧ j < S.base.length)
 | [], S => ⟨rfl, rfl, fun j => by simp [VH.puts]⟩
 | p :: ws, S => by
  obtain ⟨h1, h2, h3⟩ := zave ws (S.put p.1 p.2)
  simp only [VH.puts]
  refine ⟨by rw [h1, VH.all_put]; rfl, by rw [h2, VH.base_put], fun j => ?_⟩
  rw [h3, VH.mem_w_put, VH.base_put]
  constructor
  ·rintro ((h | h) | ⟨⟨q, hq, h⟩, hl⟩)
   ·exact .inl h
   ·exact .inr ⟨⟨p, by simp, h.1.symm⟩, h.1 ▸ h.2⟩
   ·exact .inr ⟨⟨q, by simp [hq], h⟩, hl⟩
  ·rintro (h | ⟨⟨q, hq, h⟩, hl⟩)
   ·exact .inl (.inl h)
   ·rcases List.mem_cons.1 hq with rfl | hq
    ·exact .inl (.inr ⟨h.symm, h ▸ hl⟩)
    ·exact .inr ⟨⟨q, hq, h⟩, hl⟩
section
variable {R R' R1 : Rl} {S : VH} {P : Program} {X : Outer} {K : VCall}
theorem za2a (hr : HRel R S.all) (hK : KOk P X K) {f : FuncId} {args cargs : List Value} (ha : RdL R args cargs) {v : Value} {ws : List (Nat × Blk)} (hk : K f (mapOwnL (lend false) args) S.all = some (v, ws))
    (hc : (toksL args).all (fun k => k.2.isSome) = true ∨ (okv S.next true v = true ∧ ws = [])) (hlw : ws.all (lowW S.base.length) = true) :
    Df P X f cargs R.H fun cu H' => ∃ R1 : Rl, R1.H = H' ∧ Nxt R R1 S (S.puts ws) (ws.map (·.1)) false (if ws = [] then [] else [dropBoxes (ws.map (·.1))]) ∧ Rd R1 v cu := by
 have main : ∀ (M' : Nat → Nat → Prop), (∀ b, R.H.next ≤ b → M' 0 b) → (∀ i o b, R.ρ (i, some o) = some b → M' 0 b) → (∀ d b, R.prot b → R.M d b → M' d b) → (∀ b, M' 0 b → R.M 0 b ∧ ∀ d, R.ρ (d, none) ≠ some b) →
     RdL ⟨R.φ, fun k => if k.2 = none then none else R.ρ k, M', R.H⟩ (mapOwnL (lend false) args) cargs → ((∀ d b, M' d b → R.M d b ∧ ∀ d', R.ρ (d', none) ≠ some b) ∨ (okv S.next true v = true ∧ ws = [])) →
     Df P X f cargs R.H fun cu H' => ∃ R1 : Rl, R1.H = H' ∧ Nxt R R1 S (S.puts ws) (ws.map (·.1)) false (if ws = [] then [] else [dropBoxes (ws.map (·.1))]) ∧ Rd R1 v cu := by
  intro M' m1 m2 m3 m5 hargs m4
  have hρL : ∀ i o, (if ((i, some o) : Tok).2 = none then none else R.ρ (i, some o)) = R.ρ (i, some o) := fun i o => by rw [if_neg (by simp)]
  have hρL' : ∀ k b, (if (k : Tok).2 = none then none else R.ρ k) = some b → R.ρ k = some b ∧ k.2 ≠ none := fun k b h => by
   split at h
   ·cases h
   ·rename_i hn; exact ⟨h, hn⟩
  have hst0 : Stays R ⟨R.φ, fun k => if k.2 = none then none else R.ρ k, M', R.H⟩ := ⟨fun i b h => h, fun b hb => ⟨⟨hb.1, hb.2.1, fun k hk => hb.2.2 k (hρL' k b hk).1⟩, rfl⟩, fun d b hb h => m3 d b hb h⟩
  have hf0 : FateOk R ⟨R.φ, fun k => if k.2 = none then none else R.ρ k, M', R.H⟩ (fun k => if k.2 = none then .drop else .keep) := by
   constructor
   ·intro k b hk hh
    split at hh
    ·cases hh
    ·rename_i hn; exact ⟨by simp only; rw [if_neg hn]; exact hk, rfl⟩
   ·intro k b d hk hh; split at hh <;> cases hh
   ·intro k b k' hk hh; split at hh <;> cases hh
  have hr0 : HRel ⟨R.φ, fun k => if k.2 = none then none else R.ρ k, M', R.H⟩ S.all := by
   refine { len := hr.len, nodup := hr.nodup, lt := hr.lt, inj := fun k k' b h h' => hr.inj k k' b (hρL' k b h).1 (hρL' k' b h').1, sep := fun k b h => hr.sep k b (hρL' k b h).1, fr := m1, dom := fun i o b h => hr.dom i o b (hρL' _ b h).1, own := fun k b h => ?_, blk := fun i b hb => ?_ }
   ·obtain ⟨h1, h2⟩ := hρL' k b h
    obtain ⟨i, o⟩ := k
    cases o with
    | none => exact absurd rfl h2
    | some o => exact m2 i o b h1
   ·have hB := hr.blk i b hb
    have := map_br hst0 hf0 (i := i) (fun o k' h => by simp at h) hB
    rw [zan2 (fun o => by simp) hB] at this
    exact this
  refine (hK f _ S.all v ws hk ⟨R.φ, fun k => if k.2 = none then none else R.ρ k, M', R.H⟩ cargs hr0 (fun d => by simp) hargs).mono ?_
  rintro cu H' ⟨R3, h1, h2, h3⟩
  subst h1
  have g0 : ∀ b, b < R.H.next → (∀ p ∈ ws, R.φ[p.1]? ≠ some b ∧ ∀ o, R.ρ (p.1, some o) ≠ some b) → R3.H.get b = R.H.get b := fun b hb hh => h2.fr b hb fun p hp => ⟨(hh p hp).1, fun o ho => (hh p hp).2 o (hρL' _ b ho).1⟩
  have gp : ∀ b, R.prot b → R3.H.get b = R.H.get b := fun b hb => g0 b hb.1 fun p _ => ⟨fun h => hb.2.1 (List.mem_of_getElem? h), fun o => hb.2.2 _⟩
  have gf : ∀ d b, R.ρ (d, none) = some b → R3.H.get b = R.H.get b := fun d b hd => g0 b (hr.sep _ b hd).2 fun p _ => ⟨fun h => (hr.sep _ b hd).1 (List.mem_of_getElem? h), fun o h => by have := hr.inj _ _ b hd h; simp at this⟩
  have gl : ∀ i o b, (∀ p ∈ ws, p.1 ≠ i) → R.ρ (i, some o) = some b → R3.ρ (i, some o) = some b ∧ R3.H.get b = R.H.get b := fun i o b hi hb => ⟨by rw [h2.keep i hi o]; exact hb, g0 b (hr.sep _ b hb).2 fun p hp => ⟨fun h => (hr.sep _ b hb).1 (List.mem_of_getElem? h), fun o' h => by
   have := hr.inj _ _ b hb h
   simp only [Prod.mk.injEq] at this
   exact hi p hp this.1.symm⟩⟩
  have gφ : ∀ (i b : Nat), (∀ p ∈ ws, p.1 ≠ i) → R.φ[i]? = some b → R3.H.get b = R.H.get b := fun i b hi hb => g0 b (hr.lt b (List.mem_of_getElem? hb)) fun p hp => ⟨fun h => by
   obtain ⟨l1, e1⟩ := List.getElem?_eq_some_iff.1 hb
   obtain ⟨l2, e2⟩ := List.getElem?_eq_some_iff.1 h
   exact hi p hp ((List.getElem_inj (h₀ := l2) (h₁ := l1) hr.nodup).1 (e2.trans e1.symm)), fun o h => (hr.sep _ b h).1 (List.mem_of_getElem? hb)⟩
  have htok : ∀ k b, R3.ρ k = some b → (R.ρ k = some b ∧ k.2 ≠ none) ∨ R.H.next ≤ b := fun k b h => by
   rcases h2.tok k b h with h | h
   ·exact .inl (hρL' k b h)
   ·exact .inr h
  have hfr3 : ∀ k b, R3.ρ k = some b → k.2 ≠ none := fun k b h hn => by
   obtain ⟨d, o⟩ := k
   cases hn
   rw [h2.frame d] at h; cases h
  -- the state behind it
  have hst : Stays R ⟨R.φ, fun k => if k.2 = none then R.ρ k else R3.ρ k, R.M, R3.H⟩ := by
   refine zafq (fun i b hb => hb) (fun b hb => .inl hb) (fun k b h => ?_) rfl h2.nx gp
   simp only at h
   split at h
   ·exact .inl h
   ·rcases htok k b h with h | h
    ·exact .inl h.1
    ·exact .inr h
  have hdrop : FateOk R ⟨R.φ, fun k => if k.2 = none then R.ρ k else R3.ρ k, R.M, R3.H⟩ (fun k => if k.2.isSome && (ws.map (·.1)).contains k.1 then .drop else .keep) := by
   constructor
   ·intro k b hk hh
    split at hh
    ·cases hh
    ·rename_i hn
     obtain ⟨i, o⟩ := k
     cases o with
     | none => exact ⟨by simp only [if_true]; exact hk, gf i b hk⟩
     | some o =>
      have hi : ∀ p ∈ ws, p.1 ≠ i := by
       intro p hp he
       apply hn
       simp only [Option.isSome_some, Bool.true_and, List.contains_eq_mem, decide_eq_true_eq, List.mem_map]
       exact ⟨p, hp, he⟩
      obtain ⟨g1, g2⟩ := gl i o b hi hk
      exact ⟨by simp only; rw [if_neg (by simp)]; exact g1, g2⟩
   ·intro k b d hk hh; split at hh <;> cases hh
   ·intro k b k' hk hh; split at hh <;> cases hh
  have hconv : (∀ d b, M' d b → R.M d b ∧ ∀ d', R.ρ (d', none) ≠ some b) → ∀ {x u : Value}, Rd R3 x u → Rd ⟨R.φ, fun k => if k.2 = none then R.ρ k else R3.ρ k, R.M, R3.H⟩ x u := by
   intro hM x u hx
   refine Rd.conv (R := R3) (R' := ⟨R.φ, fun k => if k.2 = none then R.ρ k else R3.ρ k, R.M, R3.H⟩) (fun i b h => by rw [← h2.φ]; exact h) (fun d b hp hMd => ?_) (fun k b hk => ⟨by simp only; rw [if_neg (hfr3 k b hk)]; exact hk, rfl⟩) hx
   rw [h2.M] at hMd
   obtain ⟨m, m'⟩ := hM d b hMd
   refine ⟨⟨hp.1, by have := hp.2.1; rwa [h2.φ] at this, fun k hk => ?_⟩, m, rfl⟩
   simp only at hk
   split at hk
   ·rename_i hn
    obtain ⟨i, o⟩ := k
    cases hn
    exact m' i hk
   ·exact hp.2.2 k hk
  obtain ⟨p1, p2, p3⟩ := zave ws S
  refine ⟨⟨R.φ, fun k => if k.2 = none then R.ρ k else R3.ρ k, R.M, R3.H⟩, rfl, ?_, ?_⟩
  ·refine { hr := ?_, pre := fun i b h => h, M := rfl, nx := h2.nx, eff := ?_, bl := p2, w1 := fun i hi => (p3 i).2 (.inl hi), w2 := fun i hi hl => (p3 i).2 (.inr ⟨by simpa using hi, hl⟩), w3 := fun i hi => ?_, keep := ?_, tok := ?_, box := fun i b h => .inl h, rd := ?_, low := ?_, same := fun i hi hw => (by rw [p1]; exact zafx ws _ i fun p hp he => hw ((p3 i).2 (.inr ⟨⟨p, hp, he⟩, hi⟩))) }
   ·rw [p1]
    refine { len := by rw [zavq]; exact hr.len, nodup := hr.nodup, lt := fun b hb => Nat.lt_of_lt_of_le (hr.lt b hb) h2.nx, inj := ?_, sep := ?_, fr := fun b hb => hr.fr b (Nat.le_trans h2.nx hb), dom := ?_, own := ?_, blk := ?_ }
    ·intro k k' b e1 e2
     simp only at e1 e2
     split at e1
     ·rename_i n1
      split at e2
      ·exact hr.inj k k' b e1 e2
      ·exfalso
       rcases htok k' b e2 with h | h
       ·have := hr.inj k k' b e1 h.1
        subst this
        exact h.2 n1
       ·have := (hr.sep k b e1).2; omega
     ·rename_i n1
      split at e2
      ·rename_i n2
       exfalso
       rcases htok k b e1 with h | h
       ·have := hr.inj k k' b h.1 e2
        subst this
        exact h.2 n2
       ·have := (hr.sep k' b e2).2; omega
      ·exact h2.hr.inj k k' b e1 e2
    ·intro k b e1
     simp only at e1
     split at e1
     ·have := hr.sep k b e1
      exact ⟨this.1, Nat.lt_of_lt_of_le this.2 h2.nx⟩
     ·have := h2.hr.sep k b e1
      rw [h2.φ] at this
      exact this
    ·intro i o b e1
     simp only at e1
     rw [if_neg (by simp)] at e1
     have := h2.hr.dom i o b e1
     rwa [h2.φ] at this
    ·intro k b e1
     simp only at e1
     split at e1
     ·exact hr.own k b e1
     ·have := h2.hr.own k b e1
      rw [h2.M] at this
      exact (m5 b this).1
    ·intro i b hb
     by_cases hi : ∀ p ∈ ws, p.1 ≠ i
     ·rw [List.getD_eq_getElem?_getD, zafx ws _ i hi, ← List.getD_eq_getElem?_getD]
      show BR _ i _ (R3.H.get b)
      rw [gφ i b hi hb]
      have hB := hr.blk i b hb
      have := map_br hst hdrop (i := i) (fun o k' h => by simp only at h; split at h <;> cases h) hB
      rw [zan2 (fun o => by
       simp only
       rw [if_neg]
       simp only [Option.isSome_some, Bool.true_and, List.contains_eq_mem, decide_eq_true_eq, List.mem_map]
       rintro ⟨p, hp, he⟩
       exact hi p hp he) hB] at this
      exact this
     ·have hM : ∀ d b, M' d b → R.M d b ∧ ∀ d', R.ρ (d', none) ≠ some b := by
       rcases m4 with h | h
       ·exact h
       ·exact absurd (by rw [h.2]; simp) hi
      have hB := h2.hr.blk i b (by rw [h2.φ]; exact hb)
      show BR _ i _ (R3.H.get b)
      generalize (setW S.all ws).getD i .dead = B at hB
      cases B with
      | cells o e c =>
       obtain ⟨b1, c', b2, b3, b4⟩ := hB
       exact ⟨b1, c', b2, ⟨b3.1, fun j => hconv hM (b3.2 j)⟩, b4⟩
      | _ => trivial
   ·intro b hb hw _
    refine g0 b hb fun p hp => hw p.1 (List.mem_map.2 ⟨p, hp, rfl⟩)
   ·rcases (p3 i).1 hi with h | h
    ·exact .inl h
    ·exact .inr h.2
   ·intro i hi hw o
    simp only
    rw [if_neg (by simp), h2.keep i (fun p hp he => hw ((p3 i).2 (.inr ⟨⟨p, hp, he⟩, hi⟩))) o]
    exact hρL i o
   ·intro k b e1
    simp only at e1
    split at e1
    ·exact .inl e1
    ·rcases htok k b e1 with h | h
     ·exact .inl h.1
     ·exact .inr (.inr h)
   ·intro x u hx
    by_cases hw0 : ws = []
    ·rw [if_pos hw0]
     subst hw0
     have := Rd.fate hst hdrop hx
     simp only [List.map_nil, List.contains_nil, Bool.and_false, Bool.false_eq_true, if_false] at this
     have e2 : (Abs.fate fun _ : Tok => Fate.keep) = fun _ v => v := by
      funext w v
      unfold Abs.fate
      split <;> rfl
     rw [e2, zai9] at this
     exact this
    ·rw [if_neg hw0]
     exact Rd.fate hst hdrop hx
   ·intro hl i hi x hx
    rw [p1, List.getD_eq_getElem?_getD] at hx
    rcases zavp ws S.all i with ⟨p, hp, e1, e2⟩ | h
    ·rw [e2, List.getElem?_set, if_pos rfl] at hx
     split at hx
     ·simp only [Option.getD_some] at hx
      rw [List.all_eq_true] at hlw
      have := hlw p hp
      unfold lowW at this
      simp only [Bool.or_eq_true, decide_eq_true_eq] at this
      rcases this with h | h
      ·omega
      ·cases hpb : p.2 with
       | cells o e c =>
        rw [hpb] at h hx
        simp only [List.all_eq_true] at h
        exact h x hx
       | _ => rw [hpb] at hx; cases hx
     ·cases hx
    ·rw [zafx ws _ i h, ← List.getD_eq_getElem?_getD] at hx
     exact hl i hi x hx
  ·rcases m4 with h | h
   ·exact hconv h h3
   ·refine Rd.okc (R := R3) (R' := ⟨R.φ, fun k => if k.2 = none then R.ρ k else R3.ρ k, R.M, R3.H⟩) (n := S.next) (fun i b _ hb => by rw [← h2.φ]; exact hb) h3 true (fun d b hd hp hMd => ?_) h.1
    obtain rfl := hd rfl
    rw [h2.M] at hMd
    obtain ⟨m, m'⟩ := m5 b hMd
    refine ⟨⟨hp.1, by have := hp.2.1; rwa [h2.φ] at this, fun k hk => ?_⟩, m, rfl⟩
    simp only at hk
    split at hk
    ·rename_i hn
     obtain ⟨i, o⟩ := k
     cases hn
     exact m' i hk
    ·exact hp.2.2 k hk
 have nofr : ∀ i o b, R.ρ (i, some o) = some b → ∀ d, R.ρ (d, none) ≠ some b := fun i o b h d h' => by have := hr.inj _ _ b h h'; simp at this
 have newfr : ∀ b, R.H.next ≤ b → ∀ d, R.ρ (d, none) ≠ some b := fun b hb d h => by have := (hr.sep _ b h).2; omega
 by_cases hA : (toksL args).all (fun k => k.2.isSome) = true
 ·refine main (fun d b => R.M d b ∧ ∀ d', R.ρ (d', none) ≠ some b) (fun b hb => ⟨hr.fr b hb, newfr b hb⟩) (fun i o b h => ⟨hr.own _ b h, nofr i o b h⟩) (fun d b hb h => ⟨h, fun d' => hb.2.2 _⟩) (fun b h => h) ?_ (.inl fun d b h => h)
  rw [zafd]
  refine .map_left rfl ha.1 fun i => ?_
  have e : mapOwn (lend false) (args.getD i undef) = mapOwn (fate fun k => if k.2 = none then .drop else .keep) (args.getD i undef) := by
   refine zaf8 _ fun k hk => ?_
   have : k ∈ toksL args := by
    rw [zady, List.mem_flatMap]
    rw [List.getD_eq_getElem?_getD] at hk
    cases hi : args[i]? with
    | none => rw [hi] at hk; cases hk
    | some a => rw [hi] at hk; exact ⟨a, List.mem_of_getElem? hi, hk⟩
   rw [List.all_eq_true] at hA
   have := hA k this
   obtain ⟨k1, k2⟩ := k
   cases k2 with
   | none => cases this
   | some o => simp
  rw [e]
  refine Rd.fate (R := R) (R' := ⟨R.φ, fun k => if k.2 = none then none else R.ρ k, fun d b => R.M d b ∧ ∀ d', R.ρ (d', none) ≠ some b, R.H⟩) ⟨fun i b h => h, fun b hb => ⟨⟨hb.1, hb.2.1, fun k hk => ?_⟩, rfl⟩, fun d b hb h => ⟨h, fun d' => hb.2.2 _⟩⟩ ⟨fun k b hk hh => ?_, fun k b d hk hh => ?_, fun k b k' hk hh => ?_⟩ (ha.2 i)
  ·simp only at hk
   split at hk
   ·cases hk
   ·exact hb.2.2 k hk
  ·split at hh
   ·cases hh
   ·rename_i hn; exact ⟨by simp only; rw [if_neg hn]; exact hk, rfl⟩
  ·split at hh <;> cases hh
  ·split at hh <;> cases hh
 ·have hB : okv S.next true v = true ∧ ws = [] := by
   rcases hc with h | h
   ·exact absurd h hA
   ·exact h
  refine main (fun d b => d ≠ 0 ∨ (R.M 0 b ∧ ∀ d', R.ρ (d', none) ≠ some b)) (fun b hb => .inr ⟨hr.fr b hb, newfr b hb⟩) (fun i o b h => .inr ⟨hr.own _ b h, nofr i o b h⟩) (fun d b hb h => ?_) (fun b h => ?_) ?_ (.inr hB)
  ·by_cases hd : d = 0
   ·subst hd; exact .inr ⟨h, fun d' => hb.2.2 _⟩
   ·exact .inl hd
  ·rcases h with h | h
   ·exact absurd rfl h
   ·exact h
  ·rw [zafd]
   refine .map_left rfl ha.1 fun i => ?_
   refine Rd.fate (R := R) (R' := ⟨R.φ, fun k => if k.2 = none then none else R.ρ k, fun d b => d ≠ 0 ∨ (R.M 0 b ∧ ∀ d', R.ρ (d', none) ≠ some b), R.H⟩) ⟨fun i b h => h, fun b hb => ⟨⟨hb.1, hb.2.1, fun k hk => ?_⟩, rfl⟩, fun d b hb h => ?_⟩ ⟨fun k b hk hh => ?_, fun k b d hk hh => ?_, fun k b k' hk hh => ?_⟩ (ha.2 i)
   ·simp only at hk
    split at hk
    ·cases hk
    ·exact hb.2.2 k hk
   ·by_cases hd : d = 0
    ·subst hd; exact .inr ⟨h, fun d' => hb.2.2 _⟩
    ·exact .inl hd
   ·simp only [Bool.false_or] at hh
    split at hh
    ·cases hh
    ·rename_i hn
     refine ⟨?_, rfl⟩
     simp only
     rw [if_neg (by intro h; rw [h] at hn; exact hn rfl)]
     exact hk
   ·simp only [Bool.false_or] at hh
    split at hh
    ·rename_i hn
     cases hh
     have hn' : k.2 = none := by simpa using hn
     refine ⟨⟨(hr.sep k b hk).2, (hr.sep k b hk).1, fun k' hk' => ?_⟩, .inl (by decide), rfl⟩
     simp only at hk'
     split at hk'
     ·cases hk'
     ·rename_i hn2
      have := hr.inj k k' b hk hk'
      subst this
      exact hn2 hn'
    ·cases hh
   ·simp only [Bool.false_or] at hh
    split at hh <;> cases hh
end
end Go.Proofs.YtliemjbafgnnbaaGreatDoor.Abs
/- Operations over values with their slices, one behind the other. -/
namespace Go.Proofs.YtliemjbafgnnbaaGreatDoor.Abs
open Go
section
variable {P : Program} {X : Outer} {K : VCall} {n : List Blk} {R0 R : Rl} {S : VH} {e ce : Env} {ops : Array Oper}
structure Stp (R R1 : Rl) (ws : List Nat) (kf : Bool) : Prop where
 pre : ∀ (i b : Nat), R.φ[i]? = some b → R1.φ[i]? = some b
 nx : R.H.next ≤ R1.H.next
 eff : Eff R ws kf R1.H
 prot : ∀ b, R.prot b → R1.prot b
theorem Stp.refl (R : Rl) : Stp R R [] false := ⟨fun _ _ h => h, Nat.le_refl _, fun _ _ _ _ => rfl, fun _ h => h⟩
theorem Nxt.stp {R1 : Rl} {S1 : VH} {ws : List Nat} {kf : Bool} {g : List Turn} (h : Nxt R R1 S S1 ws kf g) : Stp R R1 ws kf where
 pre := h.pre
 nx := h.nx
 eff := h.eff
 prot := fun b hb => ⟨Nat.lt_of_lt_of_le hb.1 h.nx, fun hm => by
  obtain ⟨i, hi⟩ := List.getElem?_of_mem hm
  rcases h.box i b hi with h1 | ⟨_, h1⟩
  ·exact hb.2.1 (List.mem_of_getElem? h1)
  ·have := hb.1; omega, fun k hk => by
  rcases h.tok k b hk with h1 | ⟨d, h1⟩ | h1
  ·exact hb.2.2 _ h1
  ·exact hb.2.2 _ h1
  ·have := hb.1; omega⟩
theorem za27 (v : Value) : Rd R (aconst v) (aconst v) := by
 unfold aconst
 split
 ·exact .int _ _
 ·exact .bool _
 ·exact .string _
 ·split
  ·rename_i hf; exact .of_flat 8 _ hf
  ·exact .undef _
theorem zaid (he : ∀ t, Rd R (eget e t) (eget ce t)) (x : Operand) : Rd R (aeval e x) (aeval ce x) := by
 cases x with
 | tmp t => exact he t
 | const v => exact za27 v
 | global g => exact .undef _
 | func f => exact .clo f [] [] [] [] rfl rfl (fun i => by simp; exact .undef _) (fun i => by simp; exact .undef _)
theorem za2m {v u : Value} (h : Rd R v u) {want b : Bool} (hg : asGuard v want = some b) : asGuard u want = some b := by
 unfold asGuard at hg
 split at hg
 ·rw [h.inv_bool]; exact hg
 ·cases h with
  | nr => exact hg
  | stale i u hi => exact absurd rfl hi
  | scal v hs => simp [isScal] at hs
 ·cases hg
theorem zart (he : ∀ t, Rd R (eget e t) (eget ce t)) {o : Oper} {t : Bool} (h : awanted ops o e = some t) : awanted ops o ce = some t := by
 unfold awanted at h ⊢
 split at h
 ·exact h
 ·rename_i j want hg
  unfold ayielded at h ⊢
  rw [Option.bind_eq_some_iff] at h ⊢
  obtain ⟨d, hd, h⟩ := h
  exact ⟨d, hd, za2m (he d) h⟩
theorem zav2 (hK : KOk P X K) (hs : VSta n R0 R S e ce) {o : Oper} {r : VStepped} (h : vstepG P K ops o e S = some r) :
    Step P X ops o ce R.H fun cu H' => ∃ R1 : Rl, R1.H = H' ∧ VSta n R0 R1 r.S r.e (eput ce o.dst cu) ∧ Stp R R1 r.ws r.kf ∧ (light P o.op = true → R1 = R) := by
 unfold vstepG at h
 rw [Option.bind_eq_some_iff] at h
 obtain ⟨t, ht, h⟩ := h
 have hw := zart (ops := ops) hs.env ht
 have hρ := fun x => zaid hs.env x
 cases t with
 | false =>
  simp only [Bool.false_eq_true, if_false, Option.some.injEq] at h
  subst h
  simp only [Step, hw]
  exact ⟨R, rfl, hs.set .nr o.dst, .refl R, fun _ => rfl⟩
 | true =>
  simp only [if_true, Option.map_eq_some_iff] at h
  obtain ⟨r', h, rfl⟩ := h
  simp only [Step, hw]
  unfold vstepOp at h
  by_cases hl : light P o.op = true
  ·rw [if_pos hl, Option.map_eq_some_iff] at h
   obtain ⟨v, hv, rfl⟩ := h
   obtain ⟨u, hu, hvu⟩ := za0z hs.hr hρ hl hv
   simp only [aop, hl, if_true, hu, Option.map_some]
   exact ⟨R, rfl, hs.set hvu o.dst, .refl R, fun _ => rfl⟩
  ·rw [if_neg hl, Option.bind_eq_some_iff] at h
   obtain ⟨x, hx, h⟩ := h
   have hl' : light P o.op = false := by simpa using hl
   cases x with
   | val r0 =>
    simp only [Option.some.injEq] at h
    subst h
    obtain ⟨u, H1, R1, g1, g2, g3, g4⟩ := hop_ok hs.hr hρ hx
    simp only [aop, hl', Bool.false_eq_true, if_false, g1]
    exact ⟨R1, g2, (hs.next g3).set g4 o.dst, g3.stp, fun hh => (by first | exact absurd hh hl | exact hh.elim)⟩
   | enter f args =>
    simp only at h
    obtain ⟨cargs, g1, g2⟩ := zaxx hρ hx
    simp only [aop, hl', Bool.false_eq_true, if_false, g1]
    unfold vcall at h
    split at h
    ·rename_i hok
     rw [Option.bind_eq_some_iff] at h
     obtain ⟨⟨v, ws⟩, hk, h⟩ := h
     split at h
     ·rename_i hc
      simp only [Option.some.injEq] at h
      subst h
      refine (zaxe hs.hr hK g2 hok hk hc.1 hc.2).mono ?_
      rintro cu H' ⟨R1, q1, q2, q3⟩
      exact ⟨R1, q1, (hs.next q2).set q3 o.dst, q2.stp, fun hh => (by first | exact absurd hh hl | exact hh.elim)⟩
     ·cases h
    ·rw [Option.bind_eq_some_iff] at h
     obtain ⟨⟨v, ws⟩, hk, h⟩ := h
     split at h
     ·rename_i hc
      simp only [Option.some.injEq] at h
      subst h
      refine (za2a hs.hr hK g2 hk hc.1 hc.2).mono ?_
      rintro cu H' ⟨R1, q1, q2, q3⟩
      exact ⟨R1, q1, (hs.next q2).set q3 o.dst, q2.stp, fun hh => (by first | exact absurd hh hl | exact hh.elim)⟩
     ·cases h
theorem za56 (hK : KOk P X K) : ∀ (l : List Oper) (R : Rl) (S : VH) (e ce : Env) (r : Env × VH), VSta n R0 R S e ce → vrunL P K ops l e S = some r → DR P X ops l ce R.H fun ce' H' => ∃ R1 : Rl, R1.H = H' ∧ VSta n R0 R1 r.2 r.1 ce' := by
 intro l
 induction l with
 | nil =>
  intro R S e ce r hs h
  simp only [vrunL] at h
  cases h
  exact ⟨R, rfl, hs⟩
 | cons o l ih =>
  intro R S e ce r hs h
  simp only [vrunL, Option.bind_eq_some_iff] at h
  obtain ⟨r1, h1, h2⟩ := h
  rw [zas6]
  refine Step_mono ?_ (zav2 hK hs h1)
  rintro cu H' ⟨R1, q1, q2, _, _⟩
  subst q1
  exact ih R1 _ _ _ r q2 h2
end
end Go.Proofs.YtliemjbafgnnbaaGreatDoor.Abs
/- Regions whose order is open, over values with their slices. -/
namespace Go.Proofs.YtliemjbafgnnbaaGreatDoor.Abs
open Go
section
variable {P : Program} {X : Outer} {K : VCall} {n : List Blk} {R0 R R1 Rb : Rl} {S S0 : VH} {e ce es : Env} {ops : Array Oper}
def DepAt (R : Rl) : Dep → Nat → Prop
 | .ro, b => R.prot b
 | .box i, b => R.φ[i]? = some b
 | .own _, b => b < R.H.next
theorem zat5 {bs : List Blk} (hr : HRel R bs) {s : List Nat × Bool} (hs : Stp R R1 s.1 s.2) {d : Dep} {b : Nat} (h : DepAt R d b) (hd : depStep d s = true) : R1.H.get b = R.H.get b := by
 cases d with
 | ro => exact hs.eff b h.1 (fun i _ => ⟨fun hh => h.2.1 (List.mem_of_getElem? hh), fun o => h.2.2 _⟩) fun _ d => h.2.2 _
 | box i =>
  have h' : R.φ[i]? = some b := h
  have hm := List.mem_of_getElem? h'
  simp only [depStep, Bool.not_eq_true', List.contains_eq_mem, decide_eq_false_iff_not] at hd
  refine hs.eff b (hr.lt b hm) (fun i' hi' => ⟨fun hh => ?_, fun o hh => (hr.sep _ b hh).1 hm⟩) fun _ d hh => (hr.sep _ b hh).1 hm
  obtain ⟨l1, e1⟩ := List.getElem?_eq_some_iff.1 h'
  obtain ⟨l2, e2⟩ := List.getElem?_eq_some_iff.1 hh
  have := (List.getElem_inj (h₀ := l1) (h₁ := l2) hr.nodup).1 (e1.trans e2.symm)
  subst this
  exact hd hi'
 | own k =>
  simp only [depStep, Bool.and_eq_true, List.isEmpty_iff, Bool.not_eq_true'] at hd
  exact hs.eff b h (fun i hi => by rw [hd.1] at hi; cases hi) fun hk => by rw [hd.2] at hk; cases hk
theorem zat4 {ws : List Nat} {kf : Bool} (hs : Stp R R1 ws kf) {d : Dep} {b : Nat} (h : DepAt R d b) : DepAt R1 d b := by
 cases d with
 | ro => exact hs.prot b h
 | box i => exact hs.pre i b h
 | own k => exact Nat.lt_of_lt_of_le h hs.nx
theorem zaoz {bs : List Blk} (hr : HRel R bs) {v u : Value} (h : Rd R v u) {d : Dep} (hd : depOf v = some d) : ∃ ad : Addr, u = .pointer (some ad) ∧ DepAt R d ad.block := by
 unfold depOf at hd
 split at hd
 ·rename_i x hv
  cases hd
  obtain rfl := h.is_at hv
  obtain ⟨b, off, rfl, hp, _⟩ := h.inv_at
  exact ⟨_, rfl, hp.1⟩
 ·rename_i k j x hv
  cases hd
  obtain rfl := h.is_atOwn hv
  obtain ⟨sz, b, rfl, _, _, hk, _⟩ := h.inv_atOwn
  exact ⟨_, rfl, (hr.sep k b hk).2⟩
 ·rename_i k x hv
  cases hd
  obtain rfl := h.is_inOwn hv
  obtain ⟨b, off, rfl, hk, _⟩ := h.inv_inOwn
  exact ⟨_, rfl, (hr.sep k b hk).2⟩
 ·split at hd
  ·cases hd
   obtain ⟨b, hb, hsp, rfl⟩ := h.inv_ptr
   exact ⟨_, rfl, hb⟩
  ·cases hd
theorem zalz {t : TypeId} {ad : Addr} {H H' : Hp} (h : H.get ad.block = H'.get ad.block) : aload P t (.pointer (some ad)) H = aload P t (.pointer (some ad)) H' := by
 unfold aload cellsAt cellAt
 simp only [h]
structure Shd (Rb : Rl) (sd : Bool) (es ce : Env) (steps : List (List Nat × Bool)) (heaps : List Hp) (R : Rl) : Prop where
 es : sd = true → ∀ t, Rd Rb (eget es t) (eget ce t)
 len : heaps.length = steps.length + 1
 last : heaps[steps.length]? = some R.H
 pers : ∀ d b, DepAt Rb d b → DepAt R d b
 same : ∀ d b, DepAt Rb d b → (∀ s ∈ steps, depStep d s = true) → (∀ (k : Nat) (H : Hp), heaps[k]? = some H → H.get b = Rb.H.get b) ∧ R.H.get b = Rb.H.get b
 nx : nextsOk heaps = true
def RecOk (P : Program) (ops : Array Oper) (ob : List VObl) (steps : List (List Nat × Bool)) (heaps : List Hp) (R : Rl) (b' : Obl) : Prop := ∃ q ∈ ob, q.ks = b'.ks ∧
 ((∀ H, lval P ops b'.o b'.e H = some b'.v) ∨ (q.pos ≤ steps.length ∧ ∃ t a ad, b'.o.op = .load t a ∧ awanted ops b'.o b'.e = some true ∧ aeval b'.e a = .pointer (some ad) ∧ DepAt R q.dep ad.block ∧
  (∀ (k : Nat) (H : Hp), k ∈ q.ks → heaps[k]? = some H → (∀ j : Nat, q.pos ≤ j → j < k → ∀ s, steps[j]? = some s → depStep q.dep s = true) → aload P t (.pointer (some ad)) H = some b'.v) ∧
  ((∀ j : Nat, q.pos ≤ j → ∀ s, steps[j]? = some s → depStep q.dep s = true) → aload P t (.pointer (some ad)) R.H = some b'.v)))
theorem RecOk.more {P : Program} {ops : Array Oper} {ob ob2 : List VObl} {steps : List (List Nat × Bool)} {heaps : List Hp} {R : Rl} {b' : Obl} (h : RecOk P ops ob steps heaps R b') : RecOk P ops (ob2 ++ ob) steps heaps R b' := by
 obtain ⟨q, hq, h⟩ := h
 exact ⟨q, List.mem_append_right _ hq, h⟩
theorem zaj4 : ∀ (l : List Hp) (a b : Hp), nextsOk (l ++ [a]) = true → a.next ≤ b.next → nextsOk (l ++ [a] ++ [b]) = true
 | [], a, b, _, h => by simp [nextsOk, h]
 | [x], a, b, h1, h => by
  simp only [List.cons_append, List.nil_append, nextsOk, Bool.and_eq_true, decide_eq_true_eq] at h1 ⊢
  exact ⟨h1.1, h, trivial⟩
 | x :: y :: l, a, b, h1, h => by
  simp only [List.cons_append, nextsOk, Bool.and_eq_true, decide_eq_true_eq] at h1 ⊢
  exact ⟨h1.1, zaj4 (y :: l) a b h1.2 h⟩
theorem Shd.push {sd : Bool} {steps : List (List Nat × Bool)} {hs : List Hp} {bs : List Blk} (h : Shd Rb sd es ce steps (hs ++ [R.H]) R) (hr : HRel R bs) {s : List Nat × Bool} (hst : Stp R R1 s.1 s.2) (d : Option Tmp) (cu v : Value) (hv : sd = true → Rd Rb v cu) :
    Shd Rb sd (if sd then eput es d v else es) (eput ce d cu) (steps ++ [s]) (hs ++ [R.H] ++ [R1.H]) R1 where
 es := fun hsd t => by
  rw [hsd, if_pos rfl]
  cases d with
  | none => exact h.es hsd t
  | some d =>
   simp only [eput, zaak]
   split
   ·exact hv hsd
   ·exact h.es hsd t
 len := by have := h.len; simp at this ⊢; exact this
 last := by
  have := h.len
  rw [List.length_append, List.getElem?_append_right (by simp at this ⊢; omega)]
  simp only [List.length_append, List.length_singleton] at this ⊢
  rw [show steps.length + 1 - (hs.length + 1) = 0 by omega]
  rfl
 pers := fun d b hd => zat4 hst (h.pers d b hd)
 same := fun d b hd hall => by
  obtain ⟨h1, h2⟩ := h.same d b hd fun s hs => hall s (List.mem_append_left _ hs)
  have h3 := zat5 hr hst (h.pers d b hd) (hall s (by simp))
  refine ⟨fun k H hk => ?_, h3.trans h2⟩
  rcases Nat.lt_or_ge k (hs ++ [R.H]).length with hl | hl
  ·rw [List.getElem?_append_left hl] at hk; exact h1 k H hk
  ·rw [List.getElem?_append_right hl] at hk
   have : k - (hs ++ [R.H]).length = 0 := by
    have := (List.getElem?_eq_some_iff.1 hk).1
    simpa using this
   rw [this] at hk
   simp only [List.getElem?_cons_zero, Option.some.injEq] at hk
   subst hk
   exact h3.trans h2
 nx := zaj4 _ _ _ h.nx hst.nx
theorem Shd.light {sd : Bool} {steps : List (List Nat × Bool)} {heaps : List Hp} (h : Shd Rb sd es ce steps heaps R) (d : Option Tmp) (cu v : Value) (hv : sd = true → Rd Rb v cu) : Shd Rb sd (if sd then eput es d v else es) (eput ce d cu) steps heaps R := by
 have : sd = true → ∀ t, Rd Rb (eget (if sd then eput es d v else es) t) (eget (eput ce d cu) t) := by
  intro hsd t
  rw [hsd, if_pos rfl]
  cases d with
  | none => exact h.es hsd t
  | some d =>
   simp only [eput, zaak]
   split
   ·exact hv hsd
   ·exact h.es hsd t
 exact { h with es := this }
theorem RecOk.push {ob : List VObl} {steps : List (List Nat × Bool)} {hs : List Hp} {bs : List Blk} {b' : Obl} (hl : (hs ++ [R.H]).length = steps.length + 1) (h : RecOk P ops ob steps (hs ++ [R.H]) R b') (hr : HRel R bs) {s : List Nat × Bool} (hst : Stp R R1 s.1 s.2) : RecOk P ops ob (steps ++ [s]) (hs ++ [R.H] ++ [R1.H]) R1 b' := by
 obtain ⟨q, hq, h1, h⟩ := h
 refine ⟨q, hq, h1, ?_⟩
 rcases h with h | ⟨hp, t, a, ad, h2, h3, h4, h5, h6, h7⟩
 ·exact .inl h
 ·have hfin : (∀ j, q.pos ≤ j → ∀ s', (steps ++ [s])[j]? = some s' → depStep q.dep s' = true) → aload P t (.pointer (some ad)) R1.H = some b'.v := by
   intro hall
   have hold : ∀ j, q.pos ≤ j → ∀ s', steps[j]? = some s' → depStep q.dep s' = true := fun j hj s' hs' => hall j hj s' (by rw [List.getElem?_append_left (List.getElem?_eq_some_iff.1 hs').1]; exact hs')
   have hlast : depStep q.dep s = true := hall steps.length hp s (by rw [List.getElem?_append_right (by omega)]; simp)
   rw [zalz (H' := R.H) (zat5 hr hst h5 hlast)]
   exact h7 hold
  refine .inr ⟨by simp; omega, t, a, ad, h2, h3, h4, zat4 hst h5, fun k H hk hH hall => ?_, hfin⟩
  rcases Nat.lt_or_ge k (hs ++ [R.H]).length with hkl | hkl
  ·rw [List.getElem?_append_left hkl] at hH
   refine h6 k H hk hH fun j hj hjk s' hs' => hall j hj hjk s' (by rw [List.getElem?_append_left (List.getElem?_eq_some_iff.1 hs').1]; exact hs')
  ·rw [List.getElem?_append_right hkl] at hH
   have h0 : k - (hs ++ [R.H]).length = 0 := by
    have := (List.getElem?_eq_some_iff.1 hH).1
    simpa using this
   rw [h0] at hH
   simp only [List.getElem?_cons_zero, Option.some.injEq] at hH
   subst hH
   refine hfin fun j hj s' hs' => hall j hj ?_ s' hs'
   have := (List.getElem?_eq_some_iff.1 hs').1
   simp only [List.length_append, List.length_singleton] at this hl h0 hkl
   omega
theorem za3o (hb : HRel Rb S0.all) {sd : Bool} {Hs : List (List Nat × Bool)} {heaps : List Hp} (h : Shd Rb sd es ce Hs.reverse heaps R) (hsd : sd = true) {o : Oper} {cu : Value} (hcu : light P o.op = true → o.guard = none → lop P (aeval ce) R.H o.op = some cu) : Rd Rb (vshade P o es S0 Hs) cu := by
 unfold vshade
 split
 ·rename_i hl
  split
  ·rename_i v hv
   obtain ⟨u0, hu0, hvu⟩ := za0z (ρ' := aeval ce) hb (fun x => zaid (h.es hsd) x) hl.1 hv
   have hcu := hcu hl.1 hl.2
   have hind : (∀ t a, o.op ≠ .load t a) → (∀ s t x, o.op ≠ .convert s t x) → u0 = cu := by
    intro n1 n2
    cases hop : o.op with
    | load t a => exact absurd hop (n1 t a)
    | convert s t x => exact absurd hop (n2 s t x)
    | call c =>
     rw [hop] at hu0 hcu hv
     simp only [vlop] at hv
     simp only [lop] at hu0 hcu
     split at hv
     ·rename_i t x e1 e2 e3
      obtain ⟨g, _⟩ := len_ok (zaid (h.es hsd) x) hv
      simp only [e1, e2, e3] at hu0 hcu
      rw [g] at hu0 hcu
      exact (Option.some.inj hu0).symm.trans (Option.some.inj hcu)
     ·rename_i x y e1 e2
      simp only [e1, e2] at hu0 hcu
      rw [hu0] at hcu
      exact Option.some.inj hcu
     ·rename_i x y e1 e2
      simp only [e1, e2] at hu0 hcu
      rw [hu0] at hcu
      exact Option.some.inj hcu
     ·cases hv
    | makeFunc f a b =>
     rw [hop] at hu0 hcu
     cases f <;> exact Option.some.inj (hu0.symm.trans hcu)
    | _ =>
     rw [hop] at hu0 hcu
     have : some u0 = some cu := hu0.symm.trans hcu
     exact Option.some.inj this
   split
   ·rename_i t a hop
    split
    ·rename_i d hd
     split
     ·rename_i hall
      obtain ⟨ad, had, hdep⟩ := zaoz hb (zaid (h.es hsd) a) hd
      rw [hop] at hu0 hcu
      simp only [lop] at hu0 hcu
      rw [had] at hu0 hcu
      have := (h.same d ad.block hdep fun s hs => by rw [List.all_eq_true] at hall; exact hall s (List.mem_reverse.1 hs)).2
      rw [zalz this, hu0] at hcu
      cases hcu
      exact hvu
     ·exact .stale 2 _ (by decide)
    ·exact .stale 2 _ (by decide)
   ·exact .stale 2 _ (by decide)
   ·rename_i n1 n2
    rw [← hind (fun t a hh => n1 t a hh) (fun s t x hh => n2 s t x hh)]
    exact hvu
  ·exact .stale 2 _ (by decide)
 ·exact .stale 2 _ (by decide)
end
end Go.Proofs.YtliemjbafgnnbaaGreatDoor.Abs
/- Regions whose order is open, code and calls, over values with their slices: the plain evaluator comes to what is told. -/
namespace Go.Proofs.YtliemjbafgnnbaaGreatDoor.Abs
open Go
section
variable {P : Program} {X : Outer} {K : VCall} {n : List Blk} {R0 R R1 Rb : Rl} {S S0 : VH} {e ce es : Env} {ops : Array Oper}
theorem zah6 {o : Oper} {e : Env} {H : Hp} (hw : awanted ops o e = some true) : lval P ops o e H = lop P (aeval e) H o.op := by simp [lval, hw]
theorem zanj {o : Oper} {e : Env} {H : Hp} (hw : awanted ops o e = some false) : lval P ops o e H = some NR := by simp [lval, hw]
theorem met_of {ob : List VObl} {Hs : List (List Nat × Bool)} {heaps : List Hp} {b' : Obl} (hl : heaps.length = Hs.length + 1) (h : RecOk P ops ob Hs.reverse heaps R b') (hall : ob.all (vspan Hs.reverse) = true) : Met P ops heaps b' := by
 obtain ⟨q, hq, h1, h⟩ := h
 rw [List.all_eq_true] at hall
 have hsp := hall q hq
 unfold vspan at hsp
 rw [List.all_eq_true] at hsp
 intro k hk
 rw [← h1] at hk
 have hk2 := hsp k hk
 simp only [Bool.and_eq_true, decide_eq_true_eq, List.all_eq_true, List.mem_range, Bool.or_eq_true, Bool.not_eq_true', Bool.and_eq_false_iff, decide_eq_false_iff_not] at hk2
 obtain ⟨hk3, hk4⟩ := hk2
 have hkl : k < heaps.length := by simp at hk3; omega
 rw [List.getElem?_eq_getElem hkl]
 simp only [zaax]
 rcases h with h | ⟨hp, t, a, ad, h2, h3, h4, h5, h6, h7⟩
 ·exact h _
 ·rw [zah6 h3, h2]
  simp only [lop]
  rw [h4]
  refine h6 k _ hk (List.getElem?_eq_getElem hkl) fun j hj hjk s hs => ?_
  have hjl := (List.getElem?_eq_some_iff.1 hs).1
  rcases hk4 j hjl with h | h
  ·exfalso
   have := Nat.min_le_right k q.pos
   have := Nat.le_max_left k q.pos
   omega
  ·rw [hs] at h
   exact h
theorem zaz1 (hK : KOk P X K) {sd : Bool} (hb : HRel Rb S0.all) : ∀ (l : List Oper) (T : List (List Nat)) (es e : Env) (S : VH) (Hs : List (List Nat × Bool)) (ob : List VObl) (r : Env × VH), vrunE P K ops sd S0 T l es e S Hs ob = some r →
    ∀ (R : Rl) (ce : Env) (Hs' : List Hp) (ob' : List Obl), VSta n R0 R S e ce → Shd Rb sd es ce Hs.reverse (R.H :: Hs').reverse R → (∀ b' ∈ ob', RecOk P ops ob Hs.reverse (R.H :: Hs').reverse R b') →
    DE2 P X ops T l ce R.H Hs' ob' fun ce' H' => ∃ R1 : Rl, R1.H = H' ∧ VSta n R0 R1 r.2 r.1 ce' := by
 intro l
 induction l with
 | nil =>
  intro T es e S Hs ob r h R ce Hs' ob' hs hsh hob
  have h' : (if ob.all (vspan Hs.reverse) then some (e, S) else none) = some r := by
   cases T <;> simpa only [vrunE] using h
  split at h'
  ·rename_i hall
   cases h'
   have : (nextsOk (R.H :: Hs').reverse = true ∧ ∀ b ∈ ob', Met P ops (R.H :: Hs').reverse b) ∧ ∃ R1 : Rl, R1.H = R.H ∧ VSta n R0 R1 S e ce :=
    ⟨⟨hsh.nx, fun b' hb' => met_of (by have := hsh.len; simpa using this) (hob b' hb') hall⟩, R, rfl, hs⟩
   cases T <;> exact this
  ·cases h'
 | cons o rest ih =>
  intro T es e S Hs ob r h R ce Hs' ob' hs hsh hob
  cases T with
  | nil => simp [vrunE] at h
  | cons t T =>
   simp only [vrunE, Option.bind_eq_some_iff] at h
   obtain ⟨w, hw, nb, hnb, r1, h1, h2⟩ := h
   have hcw := zart (ops := ops) hs.env hw
   show Step P X ops o ce R.H _
   have hlen : (R.H :: Hs').reverse.length = Hs.reverse.length + 1 := hsh.len
   -- what the operation gives is known when it is light
   by_cases hl : light P o.op = true
   ·-- light
    have hstep := zav2 hK hs h1
    rw [Step_lval hl] at hstep ⊢
    cases hv : lval P ops o ce R.H with
    | none => rw [hv] at hstep; exact hstep.elim
    | some cu =>
     rw [hv] at hstep
     obtain ⟨R1, q1, q2, q3, q4⟩ := hstep
     obtain rfl := q4 hl
     rw [zaax]
     rw [if_pos hl]
     rw [if_pos hl] at h2
     have hshade : sd = true → Rd Rb (vshade P o es S0 Hs) cu := fun hsd => za3o hb hsh hsd fun _ hg => by
      have : awanted ops o ce = some true := by unfold awanted; rw [hg]
      rw [zah6 this] at hv
      exact hv
     refine ih T _ _ _ _ _ r h2 R1 _ _ _ q2 (hsh.light o.dst cu _ hshade) ?_
     intro b' hb'
     by_cases ht : t = []
     ·rw [if_pos ht] at hb' hnb
      cases hnb
      simpa using hob b' hb'
     ·rw [if_neg ht] at hb' hnb
      rcases List.mem_cons.1 hb' with rfl | hb'
      ·by_cases hwf : w = false
       ·rw [if_pos hwf] at hnb
        cases hnb
        subst hwf
        rw [zanj hcw] at hv
        cases hv
        exact ⟨⟨t, Hs.length, .ro⟩, by simp, rfl, .inl fun H => zanj hcw⟩
       ·rw [if_neg hwf] at hnb
        have hwt : w = true := by simpa using hwf
        subst hwt
        unfold vobl at hnb
        split at hnb
        ·rename_i ty a hop
         rw [Option.bind_eq_some_iff] at hnb
         obtain ⟨d, hd, hnb⟩ := hnb
         split at hnb
         ·rename_i hear
          cases hnb
          obtain ⟨ad, had, hdep⟩ := zaoz hs.hr (zaid hs.env a) hd
          have hcur : aload P ty (.pointer (some ad)) R1.H = some cu := by
           rw [zah6 hcw, hop] at hv
           simp only [lop] at hv
           rw [had] at hv
           exact hv
          refine ⟨⟨t, Hs.length, d⟩, by simp, rfl, .inr ⟨by simp, ty, a, ad, hop, hcw, had, hdep, fun k H hk hH _ => ?_, fun _ => hcur⟩⟩
          have hkl : k < Hs.length + 1 := by
           have := (List.getElem?_eq_some_iff.1 hH).1
           rw [hlen] at this
           simpa using this
          by_cases hkk : k = Hs.length
          ·subst hkk
           have := hsh.last
           rw [List.length_reverse, hH] at this
           cases this
           exact hcur
          ·have hklt : k < Hs.length := by omega
           simp only [Bool.or_eq_true, Bool.and_eq_true, Bool.not_eq_true', List.all_eq_true, decide_eq_true_eq] at hear
           rcases hear with ⟨hsd, hng⟩ | hear
           ·-- reckoned at the beginning, too
            have hsv : ∃ v0 d0, vlop P (aeval es) S0 o.op = some v0 ∧ depOf (aeval es a) = some d0 ∧ Hs.all (depStep d0) = true := by
             have hng2 : isGone (if light P o.op = true ∧ (none : Option (Nat × Bool)) = none then
                 match vlop P (aeval es) S0 o.op with
                 | some v => (match o.op with
                  | .load _ a => (match depOf (aeval es a) with | some d => if Hs.all (depStep d) then v else gone | none => gone)
                  | .convert .. => gone
                  | _ => v)
                 | none => gone
              else gone) = false := hng
             clear hng
             have hng := hng2
             clear hng2
             split at hng
             ·split at hng
              ·rename_i v0 hv0
               rw [hop] at hng
               simp only at hng
               split at hng
               ·rename_i d0 hd0
                split at hng
                ·rename_i hall; exact ⟨v0, d0, hv0, hd0, hall⟩
                ·cases hng
               ·cases hng
              ·cases hng
             ·cases hng
            obtain ⟨v0, d0, hv0, hd0, hall⟩ := hsv
            obtain ⟨ad', had', hdep'⟩ := zaoz hb (zaid (hsh.es hsd) a) hd0
            rw [had] at had'
            cases had'
            obtain ⟨g1, g2⟩ := hsh.same d0 ad.block hdep' fun s hs => by rw [List.all_eq_true] at hall; exact hall s (List.mem_reverse.1 hs)
            rw [zalz ((g1 k H hH).trans g2.symm)]
            exact hcur
           ·have := hear k hk; omega
         ·cases hnb
        ·rename_i s2 t2 x hop
         split at hnb
         ·rename_i hf
          cases hnb
          refine ⟨⟨t, Hs.length, .ro⟩, by simp, rfl, .inl fun H => ?_⟩
          have hfl := (zaid hs.env x).flat_eq 8 _ _ hf
          rw [zah6 hcw, hop] at hv ⊢
          simp only [lop] at hv ⊢
          rw [hfl] at hv ⊢
          rw [zazg hf H R1.H]
          exact hv
         ·cases hnb
        ·rename_i c hop
         cases hnb
         refine ⟨⟨t, Hs.length, .ro⟩, by simp, rfl, .inl fun H => ?_⟩
         -- len, min, max tell the same in any heap
         rw [zah6 hcw, hop] at hv ⊢
         have hvl : ∃ v, vlop P (aeval e) S (.call c) = some v := by
          unfold vstepG at h1
          rw [hw] at h1
          simp only [Option.bind_some, if_true, Option.map_eq_some_iff] at h1
          obtain ⟨r', h1, _⟩ := h1
          unfold vstepOp at h1
          rw [if_pos hl, Option.map_eq_some_iff] at h1
          obtain ⟨v, hv, _⟩ := h1
          rw [hop] at hv
          exact ⟨v, hv⟩
         obtain ⟨v, hvv⟩ := hvl
         simp only [vlop] at hvv
         simp only [lop] at hv ⊢
         split at hvv
         ·rename_i ty x e1 e2 e3
          obtain ⟨g, _⟩ := len_ok (zaid hs.env x) hvv
          simp only [e1, e2, e3] at hv ⊢
          rw [g] at hv ⊢
          exact hv
         ·rename_i x y e1 e2
          simp only [e1, e2] at hv ⊢
          exact hv
         ·rename_i x y e1 e2
          simp only [e1, e2] at hv ⊢
          exact hv
         ·cases hvv
        ·cases hnb
      ·exact (hob b' hb').more
   ·-- heavy
    refine Step_mono ?_ (zav2 hK hs h1)
    rintro cu H' ⟨R1, q1, q2, q3, _⟩
    subst q1
    rw [if_neg hl]
    rw [if_neg hl] at h2
    have hgone : vshade P o es S0 Hs = gone := by unfold vshade; rw [if_neg (fun h => hl h.1)]
    have hsh' : Shd Rb sd (if sd then eput es o.dst (vshade P o es S0 Hs) else es) (eput ce o.dst cu) ((r1.ws, r1.kf) :: Hs).reverse (R1.H :: R.H :: Hs').reverse R1 := by
     have := Shd.push (hs := Hs'.reverse) (R1 := R1) (s := (r1.ws, r1.kf)) (by rw [List.reverse_cons] at hsh; exact hsh) hs.hr q3 o.dst cu (vshade P o es S0 Hs) (fun _ => by rw [hgone]; exact .stale 2 _ (by decide))
     simpa only [List.reverse_cons] using this
    refine ih T _ _ _ _ _ r h2 R1 _ _ _ q2 hsh' ?_
    intro b' hb'
    have h3 := hob b' hb'
    rw [List.reverse_cons] at h3
    have hl3 : (Hs'.reverse ++ [R.H]).length = Hs.reverse.length + 1 := by rw [← List.reverse_cons]; exact hlen
    have := (h3.push hl3 hs.hr (R1 := R1) (s := (r1.ws, r1.kf)) q3).more (ob2 := nb)
    simpa only [List.reverse_cons] using this
theorem zalu : ∀ (l : List Oper) (T : List (List Nat)) (e : Env) (H : Hp) (Hs : List Hp) (ob : List Obl) (Q : Env → Hp → Prop), DE2 P X ops T l e H Hs ob Q → DE P X ops T l e H Hs ob Q
 | [], T, e, H, Hs, ob, Q, h => by cases T <;> exact ⟨h.1.2, h.2⟩
 | o :: rest, [], e, H, Hs, ob, Q, h => h.elim
 | o :: rest, t :: T, e, H, Hs, ob, Q, h => by
  refine Step_mono ?_ h
  intro v H' h
  split at h
  ·rename_i hl; rw [if_pos hl]; exact zalu rest T _ _ _ _ _ h
  ·rename_i hl; rw [if_neg hl]; exact zalu rest T _ _ _ _ _ h
theorem zaye (hK : KOk P X K) (hs : VSta n R0 R S e ce) {id : Nat} {draw : Bool} {r : Env × VH} (h : vrunR P K ops draw e S = some r) :
    Dc P X (.region id ops draw) ce R.H fun x ce' H' => x = .normal ∧ ∃ R1 : Rl, R1.H = H' ∧ VSta n R0 R1 r.2 r.1 ce' := by
 unfold vrunR at h
 have hsh : ∀ sd, Shd R sd e ce ([] : List (List Nat × Bool)).reverse (R.H :: ([] : List Hp)).reverse R := fun sd => ⟨fun _ => hs.env, rfl, rfl, fun _ _ h => h, fun d b hd _ => ⟨fun k H hk => by
  have : k = 0 := by
   have := (List.getElem?_eq_some_iff.1 hk).1
   simpa using this
  subst this
  simp only [List.reverse_cons, List.reverse_nil, List.nil_append, List.getElem?_cons_zero, Option.some.injEq] at hk
  rw [← hk], rfl⟩, rfl⟩
 cases draw with
 | false =>
  simp only [Bool.false_eq_true, if_false] at h
  exact zapp (zamv _ _ _ _ _ (fun _ _ h => ⟨rfl, h⟩) (za56 hK _ R S e ce r hs h))
 | true =>
  simp only [if_true] at h
  split at h
  ·rename_i hd
   have := zaz1 hK hs.hr _ _ _ _ _ _ _ r h R ce [] [] hs (hsh _) (by simp)
   refine (zazb _ hd rfl (zalu _ _ _ _ _ _ (fun ce' H' => (fun x ce' H' => x = Ex.normal ∧ ∃ R1 : Rl, R1.H = H' ∧ VSta n R0 R1 r.2 r.1 ce') .normal ce' H') ?_))
   refine DE2_mono _ _ _ _ _ _ _ _ (fun _ _ h => ⟨rfl, h⟩) this
  ·rename_i hd
   split at h
   ·rename_i hd2
    have := zaz1 hK hs.hr _ _ _ _ _ _ _ r h R ce [] [] hs (hsh _) (by simp)
    refine za1a _ (by simpa using hd) hd2 rfl ?_
    refine DE2_mono _ _ _ _ _ _ _ _ (fun _ _ h => ⟨rfl, h⟩) this
   ·cases h
where
 DE2_mono : ∀ (l : List Oper) (T : List (List Nat)) (e : Env) (H : Hp) (Hs : List Hp) (ob : List Obl) (Q Q' : Env → Hp → Prop), (∀ e H, Q e H → Q' e H) → DE2 P X ops T l e H Hs ob Q → DE2 P X ops T l e H Hs ob Q'
 | [], T, e, H, Hs, ob, Q, Q', hq, h => by cases T <;> exact ⟨h.1, hq _ _ h.2⟩
 | o :: rest, [], e, H, Hs, ob, Q, Q', hq, h => h.elim
 | o :: rest, t :: T, e, H, Hs, ob, Q, Q', hq, h => by
  refine Step_mono ?_ h
  intro v H' h
  split at h
  ·rename_i hl; rw [if_pos hl]; exact DE2_mono rest T _ _ _ _ _ _ hq h
  ·rename_i hl; rw [if_neg hl]; exact DE2_mono rest T _ _ _ _ _ _ hq h
end
end Go.Proofs.YtliemjbafgnnbaaGreatDoor.Abs
