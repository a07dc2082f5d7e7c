/- Calls with pointers over values with their slices. -/
import Derived.Test.YtmdpggecelheoaaDoorPW15
set_option linter.unusedVariables false
set_option linter.unusedSimpArgs false
namespace Go.Proofs.YtmdpggecelheoaaDoor.Abs
open Go

theorem setW_len : ∀ (ws : List (Nat × Blk)) (B : List Blk), (setW B ws).length = B.length
  | [], _ => rfl
  | p :: ws, B => by simp only [setW, List.foldl_cons]; exact (setW_len ws _).trans (by simp)
theorem setW_other : ∀ (ws : List (Nat × Blk)) (B : List Blk) (i : Nat), (∀ p ∈ ws, p.1 ≠ i) → (setW B ws)[i]? = B[i]?
  | [], _, _, _ => rfl
  | p :: ws, B, i, h => by
    simp only [setW, List.foldl_cons]
    have := setW_other ws (B.set p.1 p.2) i fun q hq => h q (by simp [hq])
    rw [setW] at this
    rw [this, List.getElem?_set_ne (h p (by simp))]
theorem setW_in : ∀ (ws : List (Nat × Blk)) (B : List Blk) (i : Nat), (∃ p ∈ ws, p.1 = i ∧ (setW B ws)[i]? = (B.set i p.2)[i]?) ∨ ∀ p ∈ ws, p.1 ≠ i
  | [], _, _ => .inr (by simp)
  | p :: ws, B, i => by
    rcases setW_in ws (B.set p.1 p.2) i with ⟨q, hq, h1, h2⟩ | h
    · left
      refine ⟨q, by simp [hq], h1, ?_⟩
      simp only [setW, List.foldl_cons] at h2 ⊢
      rw [h2]
      simp only [List.getElem?_set, if_true, List.length_set]
    · by_cases hp : p.1 = i
      · left
        refine ⟨p, by simp, hp, ?_⟩
        simp only [setW, List.foldl_cons]
        have := setW_other ws (B.set p.1 p.2) i h
        rw [setW] at this
        rw [this, hp]
      · right
        intro q hq
        rcases List.mem_cons.1 hq with rfl | hq
        · exact hp
        · exact h q hq
theorem puts_all : ∀ (ws : List (Nat × Blk)) (S : VH), (S.puts ws).all = setW S.all ws ∧ (S.puts ws).base.length = S.base.length ∧ ∀ j, j ∈ (S.puts ws).w ↔ j ∈ S.w ∨ ((∃ p ∈ ws, p.1 = j) ∧ j < S.base.length)
  | [], S => ⟨rfl, rfl, fun j => by simp [VH.puts]⟩
  | p :: ws, S => by
    obtain ⟨h1, h2, h3⟩ := puts_all ws (S.put p.1 p.2)
    simp only [VH.puts]
    refine ⟨by rw [h1, VH.all_put]; rfl, by rw [h2, VH.base_put], fun j => ?_⟩
    rw [h3, VH.mem_w_put, VH.base_put]
    constructor
    · rintro ((h | h) | ⟨⟨q, hq, h⟩, hl⟩)
      · exact .inl h
      · exact .inr ⟨⟨p, by simp, h.1.symm⟩, h.1 ▸ h.2⟩
      · exact .inr ⟨⟨q, by simp [hq], h⟩, hl⟩
    · rintro (h | ⟨⟨q, hq, h⟩, hl⟩)
      · exact .inl (.inl h)
      · rcases List.mem_cons.1 hq with rfl | hq
        · exact .inl (.inr ⟨h.symm, h ▸ hl⟩)
        · exact .inr ⟨⟨q, hq, h⟩, hl⟩
section
variable {R R' R1 : Rl} {S : VH} {P : Program} {X : Outer} {K : VCall}
theorem call_ptr (hr : HRel R S.all) (hK : KOk P X K) {f : FuncId} {args cargs : List Value} (ha : RdL R args cargs) {v : Value} {ws : List (Nat × Blk)} (hk : K f (mapOwnL (lend false) args) S.all = some (v, ws))
    (hc : (toksL args).all (fun k => k.2.isSome) = true ∨ (okv S.next true v = true ∧ ws = [])) (hlw : ws.all (lowW S.base.length) = true) :
    Df P X f cargs R.H fun cu H' => ∃ R1 : Rl, R1.H = H' ∧ Nxt R R1 S (S.puts ws) (ws.map (·.1)) false (if ws = [] then [] else [dropBoxes (ws.map (·.1))]) ∧ Rd R1 v cu := by
  have main : ∀ (M' : Nat → Nat → Prop), (∀ b, R.H.next ≤ b → M' 0 b) → (∀ i o b, R.ρ (i, some o) = some b → M' 0 b) → (∀ d b, R.prot b → R.M d b → M' d b) → (∀ b, M' 0 b → R.M 0 b ∧ ∀ d, R.ρ (d, none) ≠ some b) →
      RdL ⟨R.φ, fun k => if k.2 = none then none else R.ρ k, M', R.H⟩ (mapOwnL (lend false) args) cargs → ((∀ d b, M' d b → R.M d b ∧ ∀ d', R.ρ (d', none) ≠ some b) ∨ (okv S.next true v = true ∧ ws = [])) →
      Df P X f cargs R.H fun cu H' => ∃ R1 : Rl, R1.H = H' ∧ Nxt R R1 S (S.puts ws) (ws.map (·.1)) false (if ws = [] then [] else [dropBoxes (ws.map (·.1))]) ∧ Rd R1 v cu := by
    intro M' m1 m2 m3 m5 hargs m4
    have hρL : ∀ i o, (if ((i, some o) : Tok).2 = none then none else R.ρ (i, some o)) = R.ρ (i, some o) := fun i o => by rw [if_neg (by simp)]
    have hρL' : ∀ k b, (if (k : Tok).2 = none then none else R.ρ k) = some b → R.ρ k = some b ∧ k.2 ≠ none := fun k b h => by
      split at h
      · cases h
      · rename_i hn; exact ⟨h, hn⟩
    have hst0 : Stays R ⟨R.φ, fun k => if k.2 = none then none else R.ρ k, M', R.H⟩ := ⟨fun i b h => h, fun b hb => ⟨⟨hb.1, hb.2.1, fun k hk => hb.2.2 k (hρL' k b hk).1⟩, rfl⟩, fun d b hb h => m3 d b hb h⟩
    have hf0 : FateOk R ⟨R.φ, fun k => if k.2 = none then none else R.ρ k, M', R.H⟩ (fun k => if k.2 = none then .drop else .keep) := by
      constructor
      · intro k b hk hh
        split at hh
        · cases hh
        · rename_i hn; exact ⟨by simp only; rw [if_neg hn]; exact hk, rfl⟩
      · intro k b d hk hh; split at hh <;> cases hh
      · intro k b k' hk hh; split at hh <;> cases hh
    have hr0 : HRel ⟨R.φ, fun k => if k.2 = none then none else R.ρ k, M', R.H⟩ S.all := by
      refine { len := hr.len, nodup := hr.nodup, lt := hr.lt, inj := fun k k' b h h' => hr.inj k k' b (hρL' k b h).1 (hρL' k' b h').1, sep := fun k b h => hr.sep k b (hρL' k b h).1, fr := m1, dom := fun i o b h => hr.dom i o b (hρL' _ b h).1, own := fun k b h => ?_, blk := fun i b hb => ?_ }
      · obtain ⟨h1, h2⟩ := hρL' k b h
        obtain ⟨i, o⟩ := k
        cases o with
        | none => exact absurd rfl h2
        | some o => exact m2 i o b h1
      · have hB := hr.blk i b hb
        have := map_br hst0 hf0 (i := i) (fun o k' h => by simp at h) hB
        rw [same_br (fun o => by simp) hB] at this
        exact this
    refine (hK f _ S.all v ws hk ⟨R.φ, fun k => if k.2 = none then none else R.ρ k, M', R.H⟩ cargs hr0 (fun d => by simp) hargs).mono ?_
    rintro cu H' ⟨R3, h1, h2, h3⟩
    subst h1
    have g0 : ∀ b, b < R.H.next → (∀ p ∈ ws, R.φ[p.1]? ≠ some b ∧ ∀ o, R.ρ (p.1, some o) ≠ some b) → R3.H.get b = R.H.get b := fun b hb hh => h2.fr b hb fun p hp => ⟨(hh p hp).1, fun o ho => (hh p hp).2 o (hρL' _ b ho).1⟩
    have gp : ∀ b, R.prot b → R3.H.get b = R.H.get b := fun b hb => g0 b hb.1 fun p _ => ⟨fun h => hb.2.1 (List.mem_of_getElem? h), fun o => hb.2.2 _⟩
    have gf : ∀ d b, R.ρ (d, none) = some b → R3.H.get b = R.H.get b := fun d b hd => g0 b (hr.sep _ b hd).2 fun p _ => ⟨fun h => (hr.sep _ b hd).1 (List.mem_of_getElem? h), fun o h => by have := hr.inj _ _ b hd h; simp at this⟩
    have gl : ∀ i o b, (∀ p ∈ ws, p.1 ≠ i) → R.ρ (i, some o) = some b → R3.ρ (i, some o) = some b ∧ R3.H.get b = R.H.get b := fun i o b hi hb => ⟨by rw [h2.keep i hi o]; exact hb, g0 b (hr.sep _ b hb).2 fun p hp => ⟨fun h => (hr.sep _ b hb).1 (List.mem_of_getElem? h), fun o' h => by
      have := hr.inj _ _ b hb h
      simp only [Prod.mk.injEq] at this
      exact hi p hp this.1.symm⟩⟩
    have gφ : ∀ (i b : Nat), (∀ p ∈ ws, p.1 ≠ i) → R.φ[i]? = some b → R3.H.get b = R.H.get b := fun i b hi hb => g0 b (hr.lt b (List.mem_of_getElem? hb)) fun p hp => ⟨fun h => by
      obtain ⟨l1, e1⟩ := List.getElem?_eq_some_iff.1 hb
      obtain ⟨l2, e2⟩ := List.getElem?_eq_some_iff.1 h
      exact hi p hp ((List.getElem_inj (h₀ := l2) (h₁ := l1) hr.nodup).1 (e2.trans e1.symm)), fun o h => (hr.sep _ b h).1 (List.mem_of_getElem? hb)⟩
    have htok : ∀ k b, R3.ρ k = some b → (R.ρ k = some b ∧ k.2 ≠ none) ∨ R.H.next ≤ b := fun k b h => by
      rcases h2.tok k b h with h | h
      · exact .inl (hρL' k b h)
      · exact .inr h
    have hfr3 : ∀ k b, R3.ρ k = some b → k.2 ≠ none := fun k b h hn => by
      obtain ⟨d, o⟩ := k
      cases hn
      rw [h2.frame d] at h; cases h
    -- the state behind it
    have hst : Stays R ⟨R.φ, fun k => if k.2 = none then R.ρ k else R3.ρ k, R.M, R3.H⟩ := by
      refine grow_stays (fun i b hb => hb) (fun b hb => .inl hb) (fun k b h => ?_) rfl h2.nx gp
      simp only at h
      split at h
      · exact .inl h
      · rcases htok k b h with h | h
        · exact .inl h.1
        · exact .inr h
    have hdrop : FateOk R ⟨R.φ, fun k => if k.2 = none then R.ρ k else R3.ρ k, R.M, R3.H⟩ (fun k => if k.2.isSome && (ws.map (·.1)).contains k.1 then .drop else .keep) := by
      constructor
      · intro k b hk hh
        split at hh
        · cases hh
        · rename_i hn
          obtain ⟨i, o⟩ := k
          cases o with
          | none => exact ⟨by simp only [if_true]; exact hk, gf i b hk⟩
          | some o =>
            have hi : ∀ p ∈ ws, p.1 ≠ i := by
              intro p hp he
              apply hn
              simp only [Option.isSome_some, Bool.true_and, List.contains_eq_mem, decide_eq_true_eq, List.mem_map]
              exact ⟨p, hp, he⟩
            obtain ⟨g1, g2⟩ := gl i o b hi hk
            exact ⟨by simp only; rw [if_neg (by simp)]; exact g1, g2⟩
      · intro k b d hk hh; split at hh <;> cases hh
      · intro k b k' hk hh; split at hh <;> cases hh
    have hconv : (∀ d b, M' d b → R.M d b ∧ ∀ d', R.ρ (d', none) ≠ some b) → ∀ {x u : Value}, Rd R3 x u → Rd ⟨R.φ, fun k => if k.2 = none then R.ρ k else R3.ρ k, R.M, R3.H⟩ x u := by
      intro hM x u hx
      refine Rd.conv (R := R3) (R' := ⟨R.φ, fun k => if k.2 = none then R.ρ k else R3.ρ k, R.M, R3.H⟩) (fun i b h => by rw [← h2.φ]; exact h) (fun d b hp hMd => ?_) (fun k b hk => ⟨by simp only; rw [if_neg (hfr3 k b hk)]; exact hk, rfl⟩) hx
      rw [h2.M] at hMd
      obtain ⟨m, m'⟩ := hM d b hMd
      refine ⟨⟨hp.1, by have := hp.2.1; rwa [h2.φ] at this, fun k hk => ?_⟩, m, rfl⟩
      simp only at hk
      split at hk
      · rename_i hn
        obtain ⟨i, o⟩ := k
        cases hn
        exact m' i hk
      · exact hp.2.2 k hk
    obtain ⟨p1, p2, p3⟩ := puts_all ws S
    refine ⟨⟨R.φ, fun k => if k.2 = none then R.ρ k else R3.ρ k, R.M, R3.H⟩, rfl, ?_, ?_⟩
    · refine { hr := ?_, pre := fun i b h => h, M := rfl, nx := h2.nx, eff := ?_, bl := p2, w1 := fun i hi => (p3 i).2 (.inl hi), w2 := fun i hi hl => (p3 i).2 (.inr ⟨by simpa using hi, hl⟩), w3 := fun i hi => ?_, keep := ?_, tok := ?_, box := fun i b h => .inl h, rd := ?_, low := ?_, same := fun i hi hw => (by rw [p1]; exact setW_other ws _ i fun p hp he => hw ((p3 i).2 (.inr ⟨⟨p, hp, he⟩, hi⟩))) }
      · rw [p1]
        refine { len := by rw [setW_len]; exact hr.len, nodup := hr.nodup, lt := fun b hb => Nat.lt_of_lt_of_le (hr.lt b hb) h2.nx, inj := ?_, sep := ?_, fr := fun b hb => hr.fr b (Nat.le_trans h2.nx hb), dom := ?_, own := ?_, blk := ?_ }
        · intro k k' b e1 e2
          simp only at e1 e2
          split at e1
          · rename_i n1
            split at e2
            · exact hr.inj k k' b e1 e2
            · exfalso
              rcases htok k' b e2 with h | h
              · have := hr.inj k k' b e1 h.1
                subst this
                exact h.2 n1
              · have := (hr.sep k b e1).2; omega
          · rename_i n1
            split at e2
            · rename_i n2
              exfalso
              rcases htok k b e1 with h | h
              · have := hr.inj k k' b h.1 e2
                subst this
                exact h.2 n2
              · have := (hr.sep k' b e2).2; omega
            · exact h2.hr.inj k k' b e1 e2
        · intro k b e1
          simp only at e1
          split at e1
          · have := hr.sep k b e1
            exact ⟨this.1, Nat.lt_of_lt_of_le this.2 h2.nx⟩
          · have := h2.hr.sep k b e1
            rw [h2.φ] at this
            exact this
        · intro i o b e1
          simp only at e1
          rw [if_neg (by simp)] at e1
          have := h2.hr.dom i o b e1
          rwa [h2.φ] at this
        · intro k b e1
          simp only at e1
          split at e1
          · exact hr.own k b e1
          · have := h2.hr.own k b e1
            rw [h2.M] at this
            exact (m5 b this).1
        · intro i b hb
          by_cases hi : ∀ p ∈ ws, p.1 ≠ i
          · rw [List.getD_eq_getElem?_getD, setW_other ws _ i hi, ← List.getD_eq_getElem?_getD]
            show BR _ i _ (R3.H.get b)
            rw [gφ i b hi hb]
            have hB := hr.blk i b hb
            have := map_br hst hdrop (i := i) (fun o k' h => by simp only at h; split at h <;> cases h) hB
            rw [same_br (fun o => by
              simp only
              rw [if_neg]
              simp only [Option.isSome_some, Bool.true_and, List.contains_eq_mem, decide_eq_true_eq, List.mem_map]
              rintro ⟨p, hp, he⟩
              exact hi p hp he) hB] at this
            exact this
          · have hM : ∀ d b, M' d b → R.M d b ∧ ∀ d', R.ρ (d', none) ≠ some b := by
              rcases m4 with h | h
              · exact h
              · exact absurd (by rw [h.2]; simp) hi
            have hB := h2.hr.blk i b (by rw [h2.φ]; exact hb)
            show BR _ i _ (R3.H.get b)
            generalize (setW S.all ws).getD i .dead = B at hB
            cases B with
            | cells o e c =>
              obtain ⟨b1, c', b2, b3, b4⟩ := hB
              exact ⟨b1, c', b2, ⟨b3.1, fun j => hconv hM (b3.2 j)⟩, b4⟩
            | _ => trivial
      · intro b hb hw _
        refine g0 b hb fun p hp => hw p.1 (List.mem_map.2 ⟨p, hp, rfl⟩)
      · rcases (p3 i).1 hi with h | h
        · exact .inl h
        · exact .inr h.2
      · intro i hi hw o
        simp only
        rw [if_neg (by simp), h2.keep i (fun p hp he => hw ((p3 i).2 (.inr ⟨⟨p, hp, he⟩, hi⟩))) o]
        exact hρL i o
      · intro k b e1
        simp only at e1
        split at e1
        · exact .inl e1
        · rcases htok k b e1 with h | h
          · exact .inl h.1
          · exact .inr (.inr h)
      · intro x u hx
        by_cases hw0 : ws = []
        · rw [if_pos hw0]
          subst hw0
          have := Rd.fate hst hdrop hx
          simp only [List.map_nil, List.contains_nil, Bool.and_false, Bool.false_eq_true, if_false] at this
          have e2 : (Abs.fate fun _ : Tok => Fate.keep) = fun _ v => v := by
            funext w v
            unfold Abs.fate
            split <;> rfl
          rw [e2, mapOwn_id] at this
          exact this
        · rw [if_neg hw0]
          exact Rd.fate hst hdrop hx
      · intro hl i hi x hx
        rw [p1, List.getD_eq_getElem?_getD] at hx
        rcases setW_in ws S.all i with ⟨p, hp, e1, e2⟩ | h
        · rw [e2, List.getElem?_set, if_pos rfl] at hx
          split at hx
          · simp only [Option.getD_some] at hx
            rw [List.all_eq_true] at hlw
            have := hlw p hp
            unfold lowW at this
            simp only [Bool.or_eq_true, decide_eq_true_eq] at this
            rcases this with h | h
            · omega
            · cases hpb : p.2 with
              | cells o e c =>
                rw [hpb] at h hx
                simp only [List.all_eq_true] at h
                exact h x hx
              | _ => rw [hpb] at hx; cases hx
          · cases hx
        · rw [setW_other ws _ i h, ← List.getD_eq_getElem?_getD] at hx
          exact hl i hi x hx
    · rcases m4 with h | h
      · exact hconv h h3
      · refine Rd.okc (R := R3) (R' := ⟨R.φ, fun k => if k.2 = none then R.ρ k else R3.ρ k, R.M, R3.H⟩) (n := S.next) (fun i b _ hb => by rw [← h2.φ]; exact hb) h3 true (fun d b hd hp hMd => ?_) h.1
        obtain rfl := hd rfl
        rw [h2.M] at hMd
        obtain ⟨m, m'⟩ := m5 b hMd
        refine ⟨⟨hp.1, by have := hp.2.1; rwa [h2.φ] at this, fun k hk => ?_⟩, m, rfl⟩
        simp only at hk
        split at hk
        · rename_i hn
          obtain ⟨i, o⟩ := k
          cases hn
          exact m' i hk
        · exact hp.2.2 k hk
  have nofr : ∀ i o b, R.ρ (i, some o) = some b → ∀ d, R.ρ (d, none) ≠ some b := fun i o b h d h' => by have := hr.inj _ _ b h h'; simp at this
  have newfr : ∀ b, R.H.next ≤ b → ∀ d, R.ρ (d, none) ≠ some b := fun b hb d h => by have := (hr.sep _ b h).2; omega
  by_cases hA : (toksL args).all (fun k => k.2.isSome) = true
  · refine main (fun d b => R.M d b ∧ ∀ d', R.ρ (d', none) ≠ some b) (fun b hb => ⟨hr.fr b hb, newfr b hb⟩) (fun i o b h => ⟨hr.own _ b h, nofr i o b h⟩) (fun d b hb h => ⟨h, fun d' => hb.2.2 _⟩) (fun b h => h) ?_ (.inl fun d b h => h)
    rw [mapOwnL_eq]
    refine .map_left rfl ha.1 fun i => ?_
    have e : mapOwn (lend false) (args.getD i undef) = mapOwn (fate fun k => if k.2 = none then .drop else .keep) (args.getD i undef) := by
      refine mapOwn_congr _ fun k hk => ?_
      have : k ∈ toksL args := by
        rw [toksL_eq, List.mem_flatMap]
        rw [List.getD_eq_getElem?_getD] at hk
        cases hi : args[i]? with
        | none => rw [hi] at hk; cases hk
        | some a => rw [hi] at hk; exact ⟨a, List.mem_of_getElem? hi, hk⟩
      rw [List.all_eq_true] at hA
      have := hA k this
      obtain ⟨k1, k2⟩ := k
      cases k2 with
      | none => cases this
      | some o => simp
    rw [e]
    refine Rd.fate (R := R) (R' := ⟨R.φ, fun k => if k.2 = none then none else R.ρ k, fun d b => R.M d b ∧ ∀ d', R.ρ (d', none) ≠ some b, R.H⟩) ⟨fun i b h => h, fun b hb => ⟨⟨hb.1, hb.2.1, fun k hk => ?_⟩, rfl⟩, fun d b hb h => ⟨h, fun d' => hb.2.2 _⟩⟩ ⟨fun k b hk hh => ?_, fun k b d hk hh => ?_, fun k b k' hk hh => ?_⟩ (ha.2 i)
    · simp only at hk
      split at hk
      · cases hk
      · exact hb.2.2 k hk
    · split at hh
      · cases hh
      · rename_i hn; exact ⟨by simp only; rw [if_neg hn]; exact hk, rfl⟩
    · split at hh <;> cases hh
    · split at hh <;> cases hh
  · have hB : okv S.next true v = true ∧ ws = [] := by
      rcases hc with h | h
      · exact absurd h hA
      · exact h
    refine main (fun d b => d ≠ 0 ∨ (R.M 0 b ∧ ∀ d', R.ρ (d', none) ≠ some b)) (fun b hb => .inr ⟨hr.fr b hb, newfr b hb⟩) (fun i o b h => .inr ⟨hr.own _ b h, nofr i o b h⟩) (fun d b hb h => ?_) (fun b h => ?_) ?_ (.inr hB)
    · by_cases hd : d = 0
      · subst hd; exact .inr ⟨h, fun d' => hb.2.2 _⟩
      · exact .inl hd
    · rcases h with h | h
      · exact absurd rfl h
      · exact h
    · rw [mapOwnL_eq]
      refine .map_left rfl ha.1 fun i => ?_
      refine Rd.fate (R := R) (R' := ⟨R.φ, fun k => if k.2 = none then none else R.ρ k, fun d b => d ≠ 0 ∨ (R.M 0 b ∧ ∀ d', R.ρ (d', none) ≠ some b), R.H⟩) ⟨fun i b h => h, fun b hb => ⟨⟨hb.1, hb.2.1, fun k hk => ?_⟩, rfl⟩, fun d b hb h => ?_⟩ ⟨fun k b hk hh => ?_, fun k b d hk hh => ?_, fun k b k' hk hh => ?_⟩ (ha.2 i)
      · simp only at hk
        split at hk
        · cases hk
        · exact hb.2.2 k hk
      · by_cases hd : d = 0
        · subst hd; exact .inr ⟨h, fun d' => hb.2.2 _⟩
        · exact .inl hd
      · simp only [Bool.false_or] at hh
        split at hh
        · cases hh
        · rename_i hn
          refine ⟨?_, rfl⟩
          simp only
          rw [if_neg (by intro h; rw [h] at hn; exact hn rfl)]
          exact hk
      · simp only [Bool.false_or] at hh
        split at hh
        · rename_i hn
          cases hh
          have hn' : k.2 = none := by simpa using hn
          refine ⟨⟨(hr.sep k b hk).2, (hr.sep k b hk).1, fun k' hk' => ?_⟩, .inl (by decide), rfl⟩
          simp only at hk'
          split at hk'
          · cases hk'
          · rename_i hn2
            have := hr.inj k k' b hk hk'
            subst this
            exact hn2 hn'
        · cases hh
      · simp only [Bool.false_or] at hh
        split at hh <;> cases hh
end
end Go.Proofs.YtmdpggecelheoaaDoor.Abs
