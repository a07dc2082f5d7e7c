/- What comes to lie in a box. -/
import Derived.Test.YtmdpggecelheoaaDoorPW10
set_option linter.unusedVariables false
set_option linter.unusedSimpArgs false
namespace Go.Proofs.YtmdpggecelheoaaDoor.Abs
open Go

/-- What is known of cells that may lie in a box. -/
theorem cellsOk_get {n : Nat} {outer : Bool} {i : Nat} : ∀ (cs : List Value) (o : Nat), cellsOk n outer i o cs = true → ∀ (j : Nat) x, cs[j]? = some x →
    ((toks x = [] ∧ isTup x = false ∧ okv n outer x = true) ∨ ∃ k, ownTok x = some k ∧ (k.2 = none ∨ k = (i, some (o + j)))) ∧ ∀ (j' : Nat) y k, j < j' → cs[j']? = some y → ownTok x = some k → ownTok y ≠ some k
  | [], _, _, _, _, h => by simp at h
  | c :: cs, o, h, j, x, hj => by
    simp only [cellsOk, Bool.and_eq_true] at h
    obtain ⟨⟨h1, h2⟩, h3⟩ := h
    cases j with
    | zero =>
      simp only [List.getElem?_cons_zero, Option.some.injEq] at hj
      subst hj
      refine ⟨?_, ?_⟩
      · unfold cellOk at h1
        split at h1
        · rename_i k sz off l hv
          right
          refine ⟨k, by unfold ownTok; rw [hv], ?_⟩
          simp only [Bool.or_eq_true, Option.isNone_iff_eq_none, decide_eq_true_eq] at h1
          exact h1
        · left
          simp only [Bool.and_eq_true, beq_iff_eq, Bool.not_eq_true'] at h1
          exact ⟨h1.1.1, h1.1.2, h1.2⟩
      · intro j' y k hlt hy hk hk'
        cases j' with
        | zero => omega
        | succ j' =>
          rw [List.getElem?_cons_succ] at hy
          rw [hk] at h3
          simp only [Bool.not_eq_true', List.contains_eq_mem, decide_eq_false_iff_not] at h3
          apply h3
          rw [toksL_eq, List.mem_flatMap]
          exact ⟨y, List.mem_of_getElem? hy, by rw [ownTok_toks hk']; simp⟩
    | succ j =>
      rw [List.getElem?_cons_succ] at hj
      obtain ⟨g1, g2⟩ := cellsOk_get cs (o + 1) h2 j x hj
      refine ⟨?_, fun j' y k hlt hy => ?_⟩
      · rcases g1 with g | ⟨k, g, g'⟩
        · exact .inl g
        · exact .inr ⟨k, g, by rw [show o + (j + 1) = o + 1 + j by omega]; exact g'⟩
      · cases j' with
        | zero => omega
        | succ j' => rw [List.getElem?_cons_succ] at hy; exact g2 j' y k (by omega) hy
theorem settle_get {i : Nat} : ∀ (cs : List Value) (o j : Nat), (settle i o cs)[j]? = (cs[j]?).map (retok (i, some (o + j)))
  | [], _, _ => by simp [settle]
  | c :: cs, o, 0 => by simp [settle]
  | c :: cs, o, j + 1 => by simp only [settle, List.getElem?_cons_succ]; rw [settle_get cs (o + 1) j, show o + (j + 1) = o + 1 + j by omega]
theorem settle_len {i : Nat} : ∀ (cs : List Value) (o : Nat), (settle i o cs).length = cs.length
  | [], _ => rfl
  | c :: cs, o => by simp [settle, settle_len cs]
theorem retok_free {k : Tok} {x : Value} (h : ownTok x = none) : retok k x = x := by
  unfold ownTok at h
  unfold retok
  split at h
  · cases h
  · rename_i hv
    first | rfl | (split <;> simp_all)
theorem ownTok_free {x : Value} (h : toks x = []) : ownTok x = none := by
  cases hk : ownTok x with
  | none => rfl
  | some k => rw [ownTok_toks hk] at h; cases h
theorem settle_free {i : Nat} : ∀ (cs : List Value) (o : Nat), toksL cs = [] → settle i o cs = cs
  | [], _, _ => rfl
  | c :: cs, o, h => by
    simp only [toksL, List.append_eq_nil_iff] at h
    simp only [settle]
    rw [retok_free (ownTok_free h.1), settle_free cs _ h.2]
section
variable {R R1 : Rl} {S : VH} {P : Program}
/-- Which own slice a cell's name means, where cells lie from off on in box i. -/
def Rl.laid (R : Rl) (i off : Nat) (cs : List Value) (H1 : Hp) : Rl := { R with
  ρ := fun k => match k.2 with
    | none => if (cs.findIdx? (fun c => decide (ownTok c = some k))).isSome then none else R.ρ k
    | some o => if k.1 = i ∧ off ≤ o ∧ o < off + cs.length then ((cs[o - off]?).bind ownTok).bind R.ρ else R.ρ k
  H := H1 }
structure LayH (R : Rl) (b : Nat) (H1 : Hp) : Prop where
  nx : H1.next = R.H.next
  oth : ∀ b', b' ≠ b → H1.get b' = R.H.get b'
theorem find_some {cs : List Value} {k : Tok} {j : Nat} (h : cs.findIdx? (fun c => decide (ownTok c = some k)) = some j) : (cs[j]?).bind ownTok = some k := by
  rw [List.findIdx?_eq_some_iff_getElem] at h
  obtain ⟨hj, h1, _⟩ := h
  rw [List.getElem?_eq_getElem hj]
  simpa using h1
theorem find_none {cs : List Value} {k : Tok} (h : cs.findIdx? (fun c => decide (ownTok c = some k)) = none) (j : Nat) : (cs[j]?).bind ownTok ≠ some k := by
  rw [List.findIdx?_eq_none_iff] at h
  intro hh
  cases hx : cs[j]? with
  | none => rw [hx] at hh; cases hh
  | some x =>
    rw [hx] at hh
    have := h x (List.mem_of_getElem? hx)
    simp only [Option.bind_some] at hh
    simp [hh] at this
/-- Where a name's slice comes from. -/
theorem laid_from {i off : Nat} {cs : List Value} {H1 : Hp} {k : Tok} {b : Nat} (h : (R.laid i off cs H1).ρ k = some b) :
    (∃ j k', k = (i, some (off + j)) ∧ j < cs.length ∧ (cs[j]?).bind ownTok = some k' ∧ R.ρ k' = some b) ∨ (R.ρ k = some b ∧ (∀ j, (k.2 = none → (cs[j]?).bind ownTok ≠ some k) ∧ (j < cs.length → k ≠ (i, some (off + j))))) := by
  obtain ⟨k1, k2⟩ := k
  simp only [Rl.laid] at h
  cases k2 with
  | none =>
    simp only at h
    split at h
    · cases h
    · rename_i hf
      right
      refine ⟨h, fun j => ⟨fun _ => find_none (by simpa using hf) j, fun _ hh => by simp at hh⟩⟩
  | some o =>
    simp only at h
    split at h
    · rename_i hh
      left
      rw [Option.bind_eq_some_iff] at h
      obtain ⟨k', h1, h2⟩ := h
      exact ⟨o - off, k', by rw [hh.1, show off + (o - off) = o by omega], by omega, h1, h2⟩
    · rename_i hh
      right
      refine ⟨h, fun j => ⟨fun hn => by simp at hn, fun hj he => ?_⟩⟩
      simp only [Prod.mk.injEq, Option.some.injEq] at he
      exact hh ⟨he.1, by omega, by omega⟩
theorem lay_step (hr : HRel R S.all) {i b off : Nat} (hi : R.φ[i]? = some b) {o : Bool} {e : TypeId} {c c' : List Value} (hg : S.get i = .cells o e c) (hgc : R.H.get b = .cells true (bxT e) c') {cs us : List Value} (hcs : RdL R cs us) (hl : off + cs.length ≤ c.length)
    {n : Nat} {outer : Bool} (hok : cellsOk n outer i off cs = true) (hlow : i < S.base.length → n = S.base.length) {H1 : Hp} (hH : LayH R b H1) (hb1 : H1.get b = .cells true (bxT e) (setAll c' off us)) :
    Nxt R (R.laid i off cs H1) S (S.put i (.cells true e (setAll c off (settle i off cs)))) [i] false [fate (fput i off cs)] := by
  have hbl : b < R.H.next := hr.lt b (List.mem_of_getElem? hi)
  have hbm : b ∈ R.φ := List.mem_of_getElem? hi
  obtain ⟨_, c2, hg2, hcc, hrest⟩ := box_of hr hi hg
  rw [hgc] at hg2
  cases hg2
  have hget := cellsOk_get cs off hok
  have hρb : ∀ k b', R.ρ k = some b' → b' ≠ b := fun k b' h hh => (hr.sep k b' h).1 (hh ▸ hbm)
  have hρ1 : ∀ k b', (R.laid i off cs H1).ρ k = some b' → ∃ k', R.ρ k' = some b' := by
    intro k b' h
    rcases laid_from h with ⟨j, k1, _, _, _, h2⟩ | ⟨h1, _⟩
    · exact ⟨k1, h2⟩
    · exact ⟨k, h1⟩
  have hst : Stays R (R.laid i off cs H1) := ⟨fun i b h => h, fun b' hb => ⟨⟨by show b' < H1.next; rw [hH.nx]; exact hb.1, hb.2.1, fun k hk => by
    obtain ⟨k', hk'⟩ := hρ1 k b' hk
    exact hb.2.2 k' hk'⟩, hH.oth b' fun h => hb.2.1 (h ▸ hbm)⟩, fun d b _ h => h⟩
  have hfate : FateOk R (R.laid i off cs H1) (fput i off cs) := by
    constructor
    · intro k b' hk hf
      refine ⟨?_, hH.oth b' (hρb k b' hk)⟩
      obtain ⟨k1, k2⟩ := k
      cases k2 with
      | none =>
        simp only [fput] at hf
        simp only [Rl.laid]
        split at hf
        · cases hf
        · rename_i hn; rw [hn]; exact hk
      | some o' =>
        simp only [fput] at hf
        simp only [Rl.laid]
        split at hf
        · rename_i hh
          rw [if_pos hh]
          split at hf
          · rename_i h1; rw [h1]; exact hk
          · cases hf
        · rename_i hh; rw [if_neg hh]; exact hk
    · intro k b' d hk hf
      obtain ⟨k1, k2⟩ := k
      cases k2 with
      | none =>
        simp only [fput] at hf
        split at hf <;> cases hf
      | some o' =>
        simp only [fput] at hf
        split at hf
        · rename_i hh
          split at hf
          · cases hf
          · rename_i hne
            cases hf
            obtain ⟨rfl, ho1, ho2⟩ := hh
            refine ⟨⟨by show b' < H1.next; rw [hH.nx]; exact (hr.sep _ b' hk).2, (hr.sep _ b' hk).1, fun k'' hk'' => ?_⟩, hr.own _ b' hk, hH.oth b' (hρb _ b' hk)⟩
            rcases laid_from hk'' with ⟨j, k', e1, hj, h1, h2⟩ | ⟨h1, h2⟩
            · have := hr.inj _ _ b' hk h2
              subst this
              cases hx : cs[j]? with
              | none => rw [hx] at h1; cases h1
              | some x =>
                rw [hx] at h1
                simp only [Option.bind_some] at h1
                rcases (hget j x hx).1 with ⟨ht, _⟩ | ⟨k3, hk3, hk4⟩
                · rw [ownTok_free ht] at h1; cases h1
                · rw [h1] at hk3
                  cases hk3
                  rcases hk4 with hk4 | hk4
                  · cases hk4
                  · simp only [Prod.mk.injEq, Option.some.injEq] at hk4
                    apply hne
                    rw [show o' - off = j by omega, hx]
                    exact h1
            · have := hr.inj _ _ b' hk h1
              subst this
              exact (h2 (o' - off)).2 (by omega) (by rw [show off + (o' - off) = o' by omega])
        · cases hf
    · intro k b' k' hk hf
      refine ⟨?_, hH.oth b' (hρb k b' hk)⟩
      obtain ⟨k1, k2⟩ := k
      cases k2 with
      | none =>
        simp only [fput] at hf
        split at hf
        · rename_i j hj
          cases hf
          have hb := find_some hj
          have hjl : j < cs.length := by
            rcases Nat.lt_or_ge j cs.length with h | h
            · exact h
            · rw [List.getElem?_eq_none h] at hb; cases hb
          simp only [Rl.laid]
          rw [if_pos ⟨trivial, by omega, by omega⟩, show off + j - off = j by omega, hb]
          exact hk
        · cases hf
      | some o' =>
        simp only [fput] at hf
        split at hf
        · split at hf <;> cases hf
        · cases hf
  have hset : ∀ j x, cs[j]? = some x → retok (i, some (off + j)) x = mapOwn (fate (fput i off cs)) x := by
    intro j x hx
    obtain ⟨u, hu, hxu⟩ := hcs.get? hx
    have hjl : j < cs.length := (List.getElem?_eq_some_iff.1 hx).1
    rcases (hget j x hx).1 with ⟨ht, _⟩ | ⟨k, hk, hk2⟩
    · rw [retok_free (ownTok_free ht), mapOwn_free (nice_fate _) x ht]
    · rw [mapOwn_tok (ownTok_tok hk)]
      obtain ⟨sz, of, l, hv⟩ := ownTok_view hk
      have hxe := hxu.is_own hv
      unfold retok
      rw [hv]
      simp only [fate]
      obtain ⟨k1, k2⟩ := k
      cases k2 with
      | none =>
        have : cs.findIdx? (fun c => decide (ownTok c = some (k1, none))) = some j := by
          rw [List.findIdx?_eq_some_iff_getElem]
          refine ⟨hjl, ?_, fun j' hj' => ?_⟩
          · have := List.getElem?_eq_getElem hjl
            rw [this] at hx
            cases hx
            simpa using hk
          · have hj'l : j' < cs.length := by omega
            have := (hget j' cs[j'] (List.getElem?_eq_getElem hj'l)).2 j x (k1, none) hj' hx
            simp only [decide_eq_true_eq]
            intro hh
            exact this hh hk
        simp only [fput, this]
      | some o' =>
        rcases hk2 with hk2 | hk2
        · cases hk2
        · cases hk2
          have : fput i off cs (i, some (off + j)) = .keep := by
            simp only [fput]
            rw [if_pos ⟨trivial, by omega, by omega⟩, show off + j - off = j by omega, hx]
            simp only [Option.bind_some, hk, if_true]
          simp only [this]
          exact hxe.symm
  have hsettle : RdL (R.laid i off cs H1) (settle i off cs) us := by
    refine .of_forall (by rw [settle_len]; exact hcs.1) fun j v u hv hu => ?_
    rw [settle_get, Option.map_eq_some_iff] at hv
    obtain ⟨x, hx, rfl⟩ := hv
    rw [hset j x hx]
    obtain ⟨u', hu', hxu⟩ := hcs.get? hx
    rw [hu] at hu'
    cases hu'
    exact Rd.fate hst hfate hxu
  have hslen : off + (settle i off cs).length ≤ c.length := by rw [settle_len]; exact hl
  have hold : ∀ j x, c[j]? = some x → ¬ (off ≤ j ∧ j < off + cs.length) → mapOwn (fate (fput i off cs)) x = x := by
    intro j x hx hn
    rcases hrest j x hx with ht | ht
    · exact mapOwn_free (nice_fate _) x ht
    · rw [mapOwn_tok (ownTok_tok ht)]
      obtain ⟨sz, of, l, hv⟩ := ownTok_view ht
      rw [hv]
      have : fput i off cs (i, some j) = .keep := by
        simp only [fput]
        rw [if_neg fun h => hn ⟨h.2.1, h.2.2⟩]
      simp only [fate, this]
  have hnew : RdL (R.laid i off cs H1) (setAll c off (settle i off cs)) (setAll c' off us) := by
    have h1 := (hcc.fate hst hfate).setAll hsettle off
    have : setAll (c.map (mapOwn (fate (fput i off cs)))) off (settle i off cs) = setAll c off (settle i off cs) := by
      apply List.ext_getElem?
      intro j
      rw [setAll_get _ _ _ _ (by simpa using hslen), setAll_get _ _ _ _ hslen]
      split
      · rfl
      · rename_i hn
        rw [List.getElem?_map]
        cases hx : c[j]? with
        | none => rfl
        | some x =>
          simp only [Option.map_some]
          rw [hold j x hx (by rw [settle_len] at hn; exact hn)]
    rwa [this] at h1
  have hto : ∀ (i' o' : Nat) (k' : Tok), fput i off cs (i', some o') ≠ .to k' := by
    intro i' o' k' h
    simp only [fput] at h
    split at h
    · split at h <;> cases h
    · cases h
  have hmem : ∀ j, j ∈ (S.put i (.cells true e (setAll c off (settle i off cs)))).w ↔ j ∈ S.w ∨ (j = i ∧ i < S.base.length) := fun j => VH.mem_w_put
  refine { hr := ?_, pre := fun i b h => h, M := rfl, nx := by show R.H.next ≤ H1.next; rw [hH.nx]; omega, eff := ?_, bl := VH.base_put _ _ _, w1 := fun j hj => (hmem j).2 (.inl hj), w2 := fun j hj hjl => ?_, w3 := fun j hj => ?_, keep := ?_, tok := ?_, box := fun i b h => .inl h, rd := fun v u h => Rd.fate hst hfate h, low := ?_, same := fun j hj hw => (by rw [VH.all_put, List.getElem?_set_ne]; rintro rfl; exact hw ((hmem _).2 (.inr ⟨rfl, hj⟩))) }
  · refine { len := by rw [VH.all_put, List.length_set]; exact hr.len, nodup := hr.nodup, lt := fun b' hb => by show b' < H1.next; rw [hH.nx]; exact hr.lt b' hb, inj := ?_, sep := ?_, fr := fun b' hb => hr.fr b' (by have : H1.next ≤ b' := hb; rw [hH.nx] at this; exact this), dom := ?_, own := ?_, blk := ?_ }
    · intro k1 k2 b' h1 h2
      rcases laid_from h1 with ⟨j1, k1', e1, hj1, t1, r1⟩ | ⟨r1, n1⟩
      · rcases laid_from h2 with ⟨j2, k2', e2, hj2, t2, r2⟩ | ⟨r2, n2⟩
        · have := hr.inj _ _ b' r1 r2
          subst this
          have : j1 = j2 := by
            have f1 : (cs[j1]?) = some cs[j1] := List.getElem?_eq_getElem hj1
            have f2 : (cs[j2]?) = some cs[j2] := List.getElem?_eq_getElem hj2
            rw [f1] at t1
            rw [f2] at t2
            simp only [Option.bind_some] at t1 t2
            rcases Nat.lt_trichotomy j1 j2 with h | h | h
            · exact absurd t2 ((hget j1 _ f1).2 j2 _ _ h f2 t1)
            · exact h
            · exact absurd t1 ((hget j2 _ f2).2 j1 _ _ h f1 t2)
          rw [e1, e2, this]
        · exfalso
          have := hr.inj _ _ b' r1 r2
          subst this
          have f1 : (cs[j1]?) = some cs[j1] := List.getElem?_eq_getElem hj1
          have t1' := t1
          rw [f1] at t1
          simp only [Option.bind_some] at t1
          rcases (hget j1 _ f1).1 with ⟨ht, _⟩ | ⟨k3, hk3, hk4⟩
          · rw [ownTok_free ht] at t1; cases t1
          · rw [t1] at hk3
            cases hk3
            rcases hk4 with hk4 | hk4
            · exact (n2 j1).1 hk4 t1'
            · exact (n2 j1).2 hj1 hk4
      · rcases laid_from h2 with ⟨j2, k2', e2, hj2, t2, r2⟩ | ⟨r2, n2⟩
        · exfalso
          have := hr.inj _ _ b' r2 r1
          subst this
          have f2 : (cs[j2]?) = some cs[j2] := List.getElem?_eq_getElem hj2
          have t2' := t2
          rw [f2] at t2
          simp only [Option.bind_some] at t2
          rcases (hget j2 _ f2).1 with ⟨ht, _⟩ | ⟨k3, hk3, hk4⟩
          · rw [ownTok_free ht] at t2; cases t2
          · rw [t2] at hk3
            cases hk3
            rcases hk4 with hk4 | hk4
            · exact (n1 j2).1 hk4 t2'
            · exact (n1 j2).2 hj2 hk4
        · exact hr.inj _ _ b' r1 r2
    · intro k b' h
      obtain ⟨k', hk'⟩ := hρ1 k b' h
      have := hr.sep k' b' hk'
      exact ⟨this.1, by show b' < H1.next; rw [hH.nx]; exact this.2⟩
    · intro i' o' b' h
      rcases laid_from h with ⟨j, k1, e1, hj, _, _⟩ | ⟨h1, _⟩
      · cases e1
        exact (List.getElem?_eq_some_iff.1 hi).1
      · exact hr.dom i' o' b' h1
    · intro k b' h
      obtain ⟨k', hk'⟩ := hρ1 k b' h
      exact hr.own k' b' hk'
    · intro i' b' hb
      rw [VH.all_put, List.getD_eq_getElem?_getD, List.getElem?_set]
      by_cases hii : i = i'
      · subst hii
        have hb' : R.φ[i]? = some b' := hb
        rw [hi] at hb'
        cases hb'
        have hil : i < S.all.length := by rw [← hr.len]; exact (List.getElem?_eq_some_iff.1 hi).1
        rw [if_pos rfl, if_pos hil]
        simp only [Option.getD_some]
        show BR _ i _ (H1.get b)
        rw [hb1]
        refine ⟨rfl, _, rfl, hnew, fun j x hx => ?_⟩
        rw [setAll_get _ _ _ _ hslen] at hx
        split at hx
        · rename_i hj
          rw [settle_get, Option.map_eq_some_iff] at hx
          obtain ⟨y, hy, rfl⟩ := hx
          rcases (hget _ y hy).1 with ⟨ht, _⟩ | ⟨k, hk, hk2⟩
          · left; rw [retok_free (ownTok_free ht)]; exact ht
          · right
            obtain ⟨sz, of, l, hv⟩ := ownTok_view hk
            unfold retok
            rw [hv]
            simp only [ownTok, view_vo]
            rw [show off + (j - off) = j by omega]
        · exact hrest j x hx
      · rw [if_neg hii, ← List.getD_eq_getElem?_getD]
        have hne : b' ≠ b := by
          rintro rfl
          have h1 := (List.getElem?_eq_some_iff.1 hi)
          have h2 := (List.getElem?_eq_some_iff.1 (show R.φ[i']? = some b' from hb))
          obtain ⟨l1, e1⟩ := h1
          obtain ⟨l2, e2⟩ := h2
          exact hii ((List.getElem_inj (h₀ := l1) (h₁ := l2) hr.nodup).1 (e1.trans e2.symm))
        show BR _ i' _ (H1.get b')
        rw [hH.oth b' hne]
        have hk : ∀ o', fput i off cs (i', some o') = .keep := by
          intro o'
          simp only [fput]
          rw [if_neg fun h => hii h.1.symm]
        have := map_br hst hfate (hto i') (hr.blk i' b' hb)
        rw [same_br hk (hr.blk i' b' hb)] at this
        exact this
  · intro b' hb hw _
    refine hH.oth b' ?_
    rintro rfl
    exact (hw i (by simp)).1 hi
  · simp only [List.mem_singleton] at hj
    subst hj
    exact (hmem j).2 (.inr ⟨rfl, hjl⟩)
  · rcases (hmem j).1 hj with h | h
    · exact .inl h
    · exact .inr (h.1 ▸ h.2)
  · intro i' hi' hw o'
    simp only [Rl.laid]
    rw [if_neg]
    rintro ⟨rfl, _⟩
    exact hw ((hmem i').2 (.inr ⟨rfl, hi'⟩))
  · intro k b' h
    rcases laid_from h with ⟨j, k', e1, hj, t1, r1⟩ | ⟨r1, _⟩
    · have f1 : (cs[j]?) = some cs[j] := List.getElem?_eq_getElem hj
      rw [f1] at t1
      simp only [Option.bind_some] at t1
      rcases (hget j _ f1).1 with ⟨ht, _⟩ | ⟨k3, hk3, hk4⟩
      · rw [ownTok_free ht] at t1; cases t1
      · rw [t1] at hk3
        cases hk3
        rcases hk4 with hk4 | hk4
        · obtain ⟨a, q⟩ := k'
          cases hk4
          exact .inr (.inl ⟨a, r1⟩)
        · left; rw [e1, ← hk4]; exact r1
    · exact .inl r1
  · intro hlw i' hi' x hx
    rw [VH.all_put, List.getD_eq_getElem?_getD, List.getElem?_set] at hx
    by_cases hii : i = i'
    · subst hii
      rw [if_pos rfl] at hx
      split at hx
      · simp only [Option.getD_some, cellsIn] at hx
        obtain ⟨j, hj⟩ := List.getElem?_of_mem hx
        rw [setAll_get _ _ _ _ hslen] at hj
        split at hj
        · rw [settle_get, Option.map_eq_some_iff] at hj
          obtain ⟨y, hy, rfl⟩ := hj
          rcases (hget _ y hy).1 with ⟨ht, _, hok'⟩ | ⟨k, hk, _⟩
          · rw [retok_free (ownTok_free ht)]
            rw [hlow hi'] at hok'
            exact lowv_okv y hok'
          · obtain ⟨sz, of, l, hv⟩ := ownTok_view hk
            unfold retok
            rw [hv]
            rfl
        · have := hlw i hi' x
          rw [← VH.get_eq, hg] at this
          exact this (List.mem_of_getElem? hj)
      · cases hx
    · rw [if_neg hii, ← List.getD_eq_getElem?_getD] at hx
      exact hlw i' hi' x hx
end
end Go.Proofs.YtmdpggecelheoaaDoor.Abs
