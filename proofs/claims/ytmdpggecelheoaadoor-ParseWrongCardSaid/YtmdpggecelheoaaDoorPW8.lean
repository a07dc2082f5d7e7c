/- Steps of a state: own slices are let go, new blocks come. -/
import Derived.Test.YtmdpggecelheoaaDoorPW7
set_option linter.unusedVariables false
set_option linter.unusedSimpArgs false
namespace Go.Proofs.YtmdpggecelheoaaDoor.Abs
open Go

theorem mapOwn_tok {g : Turn} {v : Value} (h : isTok v = true) : mapOwn g v = g (view v) v := by
  cases v with
  | func f x y =>
    cases f with
    | func i => exact absurd (show false = true from h) (by decide)
    | _ => rfl
  | _ => exact absurd (show false = true from h) (by decide)
theorem ownTok_view {v : Value} {k : Tok} (h : ownTok v = some k) : ∃ sz off l, view v = .own k sz off l := by
  unfold ownTok at h
  split at h
  · rename_i k' sz off l hv
    cases h
    exact ⟨sz, off, l, hv⟩
  · cases h
theorem ownTok_tok {v : Value} {k : Tok} (h : ownTok v = some k) : isTok v = true := by
  obtain ⟨sz, off, l, hv⟩ := ownTok_view h
  unfold isTok
  rw [hv]
theorem ownTok_toks {v : Value} {k : Tok} (h : ownTok v = some k) : toks v = [k] := by
  obtain ⟨sz, off, l, hv⟩ := ownTok_view h
  cases v with
  | func f x y =>
    cases f with
    | func i => cases hv
    | _ => simp only [toks, hv]
  | _ => cases hv
section
variable {R R1 : Rl} {S : VH}
theorem RdL.fate {f : Tok → Fate} (hs : Stays R R1) (hf : FateOk R R1 f) {c c' : List Value} (h : RdL R c c') : RdL R1 (c.map (mapOwn (fate f))) c' :=
  ⟨by simpa using h.1, fun i => by rw [getD_map_own]; exact Rd.fate hs hf (h.2 i)⟩
theorem map_br {f : Tok → Fate} (hs : Stays R R1) (hf : FateOk R R1 f) {i : Nat} (hto : ∀ o k', f (i, some o) ≠ .to k') {B b : Blk} (h : BR R i B b) : BR R1 i (mapB (mapOwn (fate f)) B) b := by
  cases B with
  | cells o e c =>
    obtain ⟨h1, c', h2, h3, h4⟩ := h
    refine ⟨h1, c', h2, h3.fate hs hf, fun j x hx => ?_⟩
    rw [List.getElem?_map, Option.map_eq_some_iff] at hx
    obtain ⟨y, hy, rfl⟩ := hx
    rcases h4 j y hy with h5 | h5
    · left; rw [mapOwn_free (nice_fate f) y h5]; exact h5
    · have ht := ownTok_tok h5
      rw [mapOwn_tok ht]
      obtain ⟨sz, off, l, hv⟩ := ownTok_view h5
      rw [hv]
      simp only [Abs.fate]
      cases hk : f (i, some j) with
      | keep => right; exact h5
      | drop => left; rfl
      | thaw d => left; rfl
      | to k' => exact absurd hk (hto j k')
  | _ => trivial
theorem same_br {f : Tok → Fate} {i : Nat} (hk : ∀ o, f (i, some o) = .keep) {B b : Blk} (h : BR R i B b) : mapB (mapOwn (fate f)) B = B := by
  cases B with
  | cells o e c =>
    obtain ⟨h1, c', h2, h3, h4⟩ := h
    simp only [mapB]
    congr 1
    apply List.ext_getElem?
    intro j
    rw [List.getElem?_map]
    cases hj : c[j]? with
    | none => rfl
    | some x =>
      simp only [Option.map_some]
      congr 1
      rcases h4 j x hj with h5 | h5
      · exact mapOwn_free (nice_fate f) x h5
      · rw [mapOwn_tok (ownTok_tok h5)]
        obtain ⟨sz, off, l, hv⟩ := ownTok_view h5
        rw [hv]
        simp only [Abs.fate, hk]
  | _ => rfl
theorem turn_br {g : Turn} (hc : ∀ (i b : Nat) B, BR R1 i B (R1.H.get b) → BR R1 i (mapB (mapOwn g) B) (R1.H.get b)) : ∀ (bs : List Nat) (S : VH),
    (∀ (i b : Nat), R1.φ[i]? = some b → i ∉ bs → BR R1 i (S.all.getD i .dead) (R1.H.get b)) → (∀ (i b : Nat), R1.φ[i]? = some b → BR R1 i (mapB (mapOwn g) (S.all.getD i .dead)) (R1.H.get b)) →
    ∀ (i b : Nat), R1.φ[i]? = some b → BR R1 i ((S.turn g bs).all.getD i .dead) (R1.H.get b) := by
  intro bs
  induction bs with
  | nil => intro S h1 _ i b hb; exact h1 i b hb (by simp)
  | cons j bs ih =>
    intro S h1 h2 i b hb
    simp only [VH.turn]
    have hget : ∀ i, (S.put j (mapB (mapOwn g) (S.get j))).all.getD i .dead = if i = j then mapB (mapOwn g) (S.all.getD i .dead) else S.all.getD i .dead := by
      intro i
      rw [VH.all_put, VH.get_eq, List.getD_eq_getElem?_getD, List.getElem?_set]
      by_cases hij : j = i
      · subst hij
        rw [if_pos rfl, if_pos rfl]
        by_cases hl : j < S.all.length
        · rw [if_pos hl]; rfl
        · rw [if_neg hl, List.getD_eq_getElem?_getD, List.getElem?_eq_none (by omega)]; rfl
      · rw [if_neg hij, if_neg (fun h => hij h.symm), ← List.getD_eq_getElem?_getD]
    refine ih _ (fun i b hb hi => ?_) (fun i b hb => ?_) i b hb
    · rw [hget]
      split
      · exact h2 i b hb
      · rename_i hij; exact h1 i b hb (by simp [hij, hi])
    · rw [hget]
      split
      · exact hc i b _ (h2 i b hb)
      · exact h2 i b hb
theorem len_turn (S : VH) (g : Turn) (bs : List Nat) : (S.turn g bs).all.length = S.all.length := (VH.turn_all g bs S fun _ _ _ => trivial).1

/-! ### Own slices are let go -/
def Rl.less (R : Rl) (ks : List Tok) : Rl := { R with ρ := fun k => if k ∈ ks then none else R.ρ k }
theorem less_stays (R : Rl) (ks : List Tok) : Stays R (R.less ks) where
  φ := fun i b h => h
  prot := fun b h => ⟨⟨h.1, h.2.1, fun k hk => by
    simp only [Rl.less] at hk
    split at hk
    · cases hk
    · exact h.2.2 k hk⟩, rfl⟩
  M := fun d b _ h => h
theorem thaw_fate {bs : List Blk} (hr : HRel R bs) (ks : List Tok) : FateOk R (R.less ks) (fun k => if k ∈ ks then .thaw 0 else .keep) where
  keep := fun k b hk hf => by
    split at hf
    · cases hf
    · rename_i h; exact ⟨by simp only [Rl.less, h, if_false]; exact hk, rfl⟩
  thaw := fun k b d hk hf => by
    split at hf
    · rename_i h
      cases hf
      refine ⟨⟨(hr.sep k b hk).2, (hr.sep k b hk).1, fun k' hk' => ?_⟩, hr.own k b hk, rfl⟩
      simp only [Rl.less] at hk'
      split at hk'
      · cases hk'
      · rename_i h'
        have := hr.inj k k' b hk hk'
        subst this
        exact h' h
    · cases hf
  to := fun k b k' hk hf => by
    split at hf <;> cases hf
theorem mem_boxesOf {ks : List Tok} {i o : Nat} (h : (i, some o) ∈ ks) : i ∈ boxesOf ks := by
  simp only [boxesOf, List.mem_filterMap]
  exact ⟨(i, some o), h, rfl⟩
theorem thaw_step (hr : HRel R S.all) (ks : List Tok) (hl : ∀ k ∈ ks, k.2.isSome = true → k.1 < S.all.length) : Nxt R (R.less ks) S (S.thaw ks) [] false [Abs.thaw ks] := by
  have hs := less_stays R ks
  have hf := thaw_fate hr ks
  have hf' : FateOk (R.less ks) (R.less ks) (fun k => if k ∈ ks then .thaw 0 else .keep) := by
    constructor
    · intro k b h _; exact ⟨h, rfl⟩
    · intro k b d h hh
      split at hh
      · rename_i hk; simp only [Rl.less, hk, if_true] at h; cases h
      · cases hh
    · intro k b k' h hh; split at hh <;> cases hh
  have hs' : Stays (R.less ks) (R.less ks) := ⟨fun _ _ h => h, fun _ h => ⟨h, rfl⟩, fun _ _ _ h => h⟩
  have hto : ∀ (i o : Nat) (k' : Tok), (fun k => if k ∈ ks then Fate.thaw 0 else Fate.keep) (i, some o) ≠ .to k' := by
    intro i o k' h
    simp only at h
    split at h <;> cases h
  obtain ⟨t1, t2, t3, t4⟩ := VH.turn_all (Abs.thaw ks) (boxesOf ks) S fun _ _ _ => trivial
  refine { hr := ?_, pre := fun i b h => h, M := rfl, nx := Nat.le_refl _, eff := fun b _ _ _ => rfl, bl := t2, w1 := fun i hi => (t4 i).2 (.inl hi), w2 := fun i hi => (by cases hi), w3 := fun i hi => ?_, keep := ?_, tok := ?_, box := fun i b h => .inl h, rd := ?_, low := low_turn (nice_fate _) (low_fate _) _ S, same := same_turn _ _ S }
  · refine { len := by rw [show (S.thaw ks).all.length = S.all.length from t1]; exact hr.len, nodup := hr.nodup, lt := hr.lt, inj := ?_, sep := ?_, fr := hr.fr, dom := ?_, own := ?_, blk := ?_ }
    · intro k k' b h1 h2
      simp only [Rl.less] at h1 h2
      split at h1
      · cases h1
      · split at h2
        · cases h2
        · exact hr.inj k k' b h1 h2
    · intro k b h
      simp only [Rl.less] at h
      split at h
      · cases h
      · exact hr.sep k b h
    · intro i o b h
      simp only [Rl.less] at h
      split at h
      · cases h
      · exact hr.dom i o b h
    · intro k b h
      simp only [Rl.less] at h
      split at h
      · cases h
      · exact hr.own k b h
    · refine turn_br (R1 := R.less ks) (fun i b B hB => map_br hs' hf' (hto i) hB) (boxesOf ks) S (fun i b hb hi => ?_) (fun i b hb => map_br hs hf (hto i) (hr.blk i b hb))
      have hk : ∀ o, (fun k => if k ∈ ks then Fate.thaw 0 else Fate.keep) (i, some o) = .keep := by
        intro o
        simp only
        rw [if_neg]
        exact fun h => hi (mem_boxesOf h)
      have := map_br hs hf (hto i) (hr.blk i b hb)
      rw [same_br hk (hr.blk i b hb)] at this
      exact this
  · rcases (t4 i).1 hi with h | h
    · exact .inl h
    · exact .inr h.2
  · intro i hi hw o
    simp only [Rl.less]
    rw [if_neg]
    intro h
    exact hw ((t4 i).2 (.inr ⟨mem_boxesOf h, hi⟩))
  · intro k b h
    simp only [Rl.less] at h
    split at h
    · cases h
    · exact .inl h
  · intro v u h
    exact Rd.fate hs hf h

/-! ### New blocks -/
theorem grow_stays {R R1 : Rl} (hφ : ∀ (i b : Nat), R.φ[i]? = some b → R1.φ[i]? = some b) (hφ' : ∀ b ∈ R1.φ, b ∈ R.φ ∨ R.H.next ≤ b) (hρ : ∀ k b, R1.ρ k = some b → R.ρ k = some b ∨ R.H.next ≤ b) (hM : R1.M = R.M) (hn : R.H.next ≤ R1.H.next) (hg : ∀ b, R.prot b → R1.H.get b = R.H.get b) : Stays R R1 where
  φ := hφ
  prot := fun b h => ⟨⟨Nat.lt_of_lt_of_le h.1 hn, fun hb => by
    rcases hφ' b hb with h1 | h1
    · exact h.2.1 h1
    · have := h.1; omega, fun k hk => by
    rcases hρ k b hk with h1 | h1
    · exact h.2.2 k h1
    · have := h.1; omega⟩, hg b h⟩
  M := fun d b _ h => by rw [hM]; exact h
theorem turns_nil (v : Value) : turns [] v = v := rfl
end
mutual
theorem mapOwn_id : ∀ v : Value, mapOwn (fun _ v => v) v = v
  | .func f x y => by
    cases f with
    | func i => simp only [mapOwn, mapOwnA_id x, mapOwnA_id y]
    | _ => rfl
  | .iface t v => by simp only [mapOwn, mapOwn_id v]
  | .agg x => by simp only [mapOwn, mapOwnA_id x]
  | .tuple x => by simp only [mapOwn, mapOwnA_id x]
  | .bool _ => rfl
  | .int .. => rfl
  | .float .. => rfl
  | .complex .. => rfl
  | .string _ => rfl
  | .pointer _ => rfl
  | .slice .. => rfl
  | .map _ => rfl
  | .chan _ => rfl
  | .nilFunc => rfl
  | .nilIface => rfl
theorem mapOwnA_id : ∀ x : Array Value, mapOwnA (fun _ v => v) x = x
  | ⟨x⟩ => by simp only [mapOwnA, mapOwnL_id x]
theorem mapOwnL_id : ∀ x : List Value, mapOwnL (fun _ v => v) x = x
  | [] => rfl
  | a :: x => by simp only [mapOwnL, mapOwn_id a, mapOwnL_id x]
end
section
variable {R R1 : Rl} {S : VH}
theorem Rd.same (hs : Stays R R1) (hf : FateOk R R1 fun _ => .keep) {v u : Value} (h : Rd R v u) : Rd R1 v u := by
  have := Rd.fate hs hf h
  have e : (Abs.fate fun _ => Fate.keep) = fun _ v => v := by
    funext w v
    unfold Abs.fate
    split <;> rfl
  rwa [e, mapOwn_id] at this
theorem RdL.same (hs : Stays R R1) (hf : FateOk R R1 fun _ => .keep) {x y : List Value} (h : RdL R x y) : RdL R1 x y := ⟨h.1, fun i => Rd.same hs hf (h.2 i)⟩
theorem BR.same (hs : Stays R R1) (hf : FateOk R R1 fun _ => .keep) {i : Nat} {B b : Blk} (h : BR R i B b) : BR R1 i B b := by
  cases B with
  | cells o e c =>
    obtain ⟨h1, c', h2, h3, h4⟩ := h
    exact ⟨h1, c', h2, h3.same hs hf, h4⟩
  | _ => trivial
theorem mem_getElem? {φ : List Nat} {b : Nat} (h : b ∈ φ) : ∃ i : Nat, φ[i]? = some b := List.getElem?_of_mem h
theorem keep_fate {R R1 : Rl} {bs : List Blk} (hr : HRel R bs) (hρ : ∀ k b, R.ρ k = some b → R1.ρ k = some b ∧ R1.H.get b = R.H.get b) : FateOk R R1 fun _ => .keep where
  keep := fun k b h _ => hρ k b h
  thaw := fun k b d _ h => by cases h
  to := fun k b k' _ h => by cases h
/-- A new box. -/
theorem push_box (hr : HRel R S.all) {t : TypeId} {c c' : List Value} (hc : RdL { R with φ := R.φ ++ [R.H.next], H := R.H.push (.cells true (bxT t) c') } c c') (hrest : ∀ (j : Nat) x, c[j]? = some x → toks x = [] ∨ ownTok x = some (S.all.length, some j)) :
    Nxt R { R with φ := R.φ ++ [R.H.next], H := R.H.push (.cells true (bxT t) c') } S (S.push (.cells true t c)) [] false [] ∧ (R.φ ++ [R.H.next])[S.next]? = some R.H.next := by
  have hlt : ∀ b, b < R.H.next → (R.H.push (.cells true (bxT t) c')).get b = R.H.get b := fun b hb => by rw [get_push, if_neg (by omega)]
  have hs : Stays R { R with φ := R.φ ++ [R.H.next], H := R.H.push (.cells true (bxT t) c') } := by
    refine grow_stays (fun i b hb => ?_) (fun b hb => ?_) (fun k b h => .inl h) rfl (by rw [next_push]; omega) fun b hb => hlt b hb.1
    · rw [List.getElem?_append_left (List.getElem?_eq_some_iff.1 hb).1]; exact hb
    · simp only [List.mem_append, List.mem_singleton] at hb
      rcases hb with h | h
      · exact .inl h
      · exact .inr (by omega)
  have hf : FateOk R { R with φ := R.φ ++ [R.H.next], H := R.H.push (.cells true (bxT t) c') } fun _ => .keep := keep_fate hr fun k b h => ⟨h, hlt b (hr.sep k b h).2⟩
  have hnl : S.next = R.φ.length := by rw [VH.next_eq, hr.len]
  refine ⟨{ hr := ?_, pre := hs.φ, M := rfl, nx := by rw [next_push]; omega, eff := fun b hb _ _ => hlt b hb, bl := rfl, w1 := fun i hi => hi, w2 := fun i hi => (by cases hi), w3 := fun i hi => .inl hi, keep := fun i _ _ o => rfl, tok := fun k b h => .inl h, box := ?_, rd := fun v u h => h.same hs hf, low := ?_, same := fun i hi _ => (by rw [VH.all_push, List.getElem?_append_left (by simp [VH.all]; omega)]) }, ?_⟩
  · refine { len := by rw [VH.all_push]; simp [hr.len], nodup := ?_, lt := ?_, inj := hr.inj, sep := ?_, fr := fun b hb => hr.fr b (by rw [next_push] at hb; omega), dom := fun i o b h => ?_, own := hr.own, blk := ?_ }
    · rw [List.nodup_append]
      refine ⟨hr.nodup, by simp, ?_⟩
      intro a ha b hb hab
      simp only [List.mem_singleton] at hb
      have := hr.lt a ha
      omega
    · intro b hb
      simp only [List.mem_append, List.mem_singleton] at hb
      rw [next_push]
      rcases hb with h | h
      · have := hr.lt b h; omega
      · omega
    · intro k b h
      have := hr.sep k b h
      refine ⟨?_, by rw [next_push]; omega⟩
      simp only [List.mem_append, List.mem_singleton, not_or]
      exact ⟨this.1, by omega⟩
    · simp only [List.length_append, List.length_singleton]
      have := hr.dom i o b h
      omega
    · intro i b hb
      rw [VH.all_push]
      rcases Nat.lt_or_ge i R.φ.length with hi | hi
      · simp only at hb
        rw [List.getElem?_append_left hi] at hb
        have hbl : b < R.H.next := hr.lt b (List.mem_of_getElem? hb)
        have := (hr.blk i b hb).same hs hf
        rw [List.getD_eq_getElem?_getD, List.getElem?_append_left (by rw [← hr.len]; exact hi), ← List.getD_eq_getElem?_getD]
        simp only
        rw [hlt b hbl]
        exact this
      · simp only at hb
        rw [List.getElem?_append_right hi] at hb
        have hi0 : i - R.φ.length = 0 := by
          have := (List.getElem?_eq_some_iff.1 hb).1
          simpa using this
        rw [hi0] at hb
        simp only [List.getElem?_cons_zero, Option.some.injEq] at hb
        subst hb
        have hie : i = S.all.length := by rw [← hr.len]; omega
        subst hie
        rw [List.getD_eq_getElem?_getD, List.getElem?_append_right (by omega)]
        simp only [Nat.sub_self, List.getElem?_cons_zero, Option.getD_some]
        rw [get_push, if_pos rfl]
        exact ⟨rfl, c', rfl, hc, hrest⟩
  · intro i b hb
    simp only at hb
    rcases Nat.lt_or_ge i R.φ.length with hi | hi
    · rw [List.getElem?_append_left hi] at hb; exact .inl hb
    · right
      rw [List.getElem?_append_right hi] at hb
      have hi0 : i - R.φ.length = 0 := by
        have := (List.getElem?_eq_some_iff.1 hb).1
        simpa using this
      rw [hi0] at hb
      simp only [List.getElem?_cons_zero, Option.some.injEq] at hb
      omega
  · intro hl i hi x hx
    rw [VH.all_push, List.getD_eq_getElem?_getD, List.getElem?_append_left (by simp [VH.all]; omega), ← List.getD_eq_getElem?_getD] at hx
    exact hl i hi x hx
  · rw [hnl, List.getElem?_append_right (by omega)]; simp
/-- A new own slice. -/
theorem push_own (hr : HRel R S.all) (d : Nat) (hd : R.ρ (d, none) = none) (t : TypeId) (c' : List Value) :
    Nxt R { R with ρ := fun k => if k = (d, none) then some R.H.next else R.ρ k, H := R.H.push (.cells true t c') } S S [] false [] := by
  have hlt : ∀ b, b < R.H.next → (R.H.push (.cells true t c')).get b = R.H.get b := fun b hb => by rw [get_push, if_neg (by omega)]
  have hs : Stays R { R with ρ := fun k => if k = (d, none) then some R.H.next else R.ρ k, H := R.H.push (.cells true t c') } := by
    refine grow_stays (fun i b hb => hb) (fun b hb => .inl hb) (fun k b h => ?_) rfl (by rw [next_push]; omega) fun b hb => hlt b hb.1
    simp only at h
    split at h
    · cases h; exact .inr (Nat.le_refl _)
    · exact .inl h
  have hf : FateOk R { R with ρ := fun k => if k = (d, none) then some R.H.next else R.ρ k, H := R.H.push (.cells true t c') } fun _ => .keep := keep_fate hr fun k b h => by
    refine ⟨?_, hlt b (hr.sep k b h).2⟩
    simp only
    rw [if_neg]
    · exact h
    · rintro rfl; rw [hd] at h; cases h
  refine { hr := ?_, pre := hs.φ, M := rfl, nx := by rw [next_push]; omega, eff := fun b hb _ _ => hlt b hb, bl := rfl, w1 := fun i hi => hi, w2 := fun i hi => (by cases hi), w3 := fun i hi => .inl hi, keep := fun i _ _ o => ?_, tok := fun k b h => ?_, box := fun i b h => .inl h, rd := fun v u h => h.same hs hf, low := fun h => h, same := fun _ _ _ => rfl }
  · refine { len := hr.len, nodup := hr.nodup, lt := fun b hb => by rw [next_push]; have := hr.lt b hb; omega, inj := ?_, sep := ?_, fr := fun b hb => hr.fr b (by rw [next_push] at hb; omega), dom := fun i o b h => ?_, own := ?_, blk := ?_ }
    · intro k k' b h1 h2
      simp only at h1 h2
      split at h1
      · rename_i e1
        split at h2
        · rename_i e2; rw [e1, e2]
        · cases h1
          have := (hr.sep k' _ h2).2
          omega
      · split at h2
        · cases h2
          have := (hr.sep k _ h1).2
          omega
        · exact hr.inj k k' b h1 h2
    · intro k b h
      simp only at h
      rw [next_push]
      split at h
      · cases h
        exact ⟨fun hb => by have := hr.lt _ hb; omega, by omega⟩
      · have := hr.sep k b h
        exact ⟨this.1, by omega⟩
    · simp only at h
      split at h
      · rename_i e; cases e
      · exact hr.dom i o b h
    · intro k b h
      simp only at h
      split at h
      · cases h; exact hr.fr _ (Nat.le_refl _)
      · exact hr.own k b h
    · intro i b hb
      simp only
      rw [hlt b (hr.lt b (List.mem_of_getElem? hb))]
      exact (hr.blk i b hb).same hs hf
  · simp only
    rw [if_neg (by simp)]
  · simp only at h
    split at h
    · cases h; exact .inr (.inr (Nat.le_refl _))
    · exact .inl h
/-- What a new own slice reads as. -/
theorem rd_new {d sz : Nat} {l : List Value} {b : Nat} {t : TypeId} {c' : List Value} (h0 : 0 < sz) (hρ : R.ρ (d, none) = some b) (hg : R.H.get b = .cells true t c') (hl : c'.length = l.length * sz) (hsz : ∀ x ∈ l, x.cells.size = sz) (hok : okvL 0 true l = true) (hc : RdL R (cellsL l) c') :
    Rd R (vo (d, none) sz 0 l) (.slice (some ⟨b, 0, none⟩) l.length sz) := by
  have := Rd.own (R := R) (d, none) sz 0 l b t c' h0 hρ hg (by omega) hsz hok (by rw [Nat.zero_mul, List.drop_zero, List.take_of_length_le (by omega)]; exact hc.2)
  rwa [Nat.zero_mul] at this
end
end Go.Proofs.YtmdpggecelheoaaDoor.Abs
