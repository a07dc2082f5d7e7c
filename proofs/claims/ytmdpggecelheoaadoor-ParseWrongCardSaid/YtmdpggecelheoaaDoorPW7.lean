/- A call's state over values with their slices, and how it goes on. -/
import Derived.Test.YtmdpggecelheoaaDoorPW6
set_option linter.unusedVariables false
set_option linter.unusedSimpArgs false
namespace Go.Proofs.YtmdpggecelheoaaDoor.Abs
open Go

def turns (g : List Turn) (v : Value) : Value := g.foldl (fun v t => mapOwn t v) v
theorem eget_map (g : Turn) (e : Env) (t : Nat) : eget (e.map (mapOwn g)) t = mapOwn g (eget e t) := by
  simp only [eget]
  exact getD_map_own g e t
theorem eget_emap (g : List Turn) : ∀ (e : Env) (t : Nat), eget (emap g e) t = turns g (eget e t) := by
  induction g with
  | nil => intro e t; rfl
  | cons f g ih =>
    intro e t
    simp only [emap]
    rw [ih, eget_map]
    rfl
theorem turns_append (g g' : List Turn) (v : Value) : turns (g ++ g') v = turns g' (turns g v) := by simp [turns]
theorem emap_append (g g' : List Turn) : ∀ e : Env, emap (g ++ g') e = emap g' (emap g e) := by
  induction g with
  | nil => intro e; rfl
  | cons f g ih => intro e; simp only [List.cons_append, emap]; exact ih _
/-- What a step may have changed of the plain heap. -/
def Eff (R : Rl) (ws : List Nat) (kf : Bool) (H' : Hp) : Prop := ∀ b, b < R.H.next → (∀ i ∈ ws, R.φ[i]? ≠ some b ∧ ∀ o, R.ρ (i, some o) ≠ some b) → (kf = true → ∀ d, R.ρ (d, none) ≠ some b) → H'.get b = R.H.get b
/-! Pointers of the callers' boxes. -/
theorem lowvL_eq (n : Nat) : ∀ l : List Value, lowvL n l = l.all (lowv n)
  | [] => rfl
  | a :: l => by simp only [lowvL, List.all_cons, lowvL_eq n l]
mutual
theorem lowv_okv {n : Nat} {st : Bool} : ∀ v : Value, okv n st v = true → lowv n v = true
  | .func f x y, h => by
    cases f with
    | func i =>
      simp only [okv, Bool.and_eq_true] at h
      simp only [lowv, lowvA_okv x h.1, lowvA_okv y h.2, Bool.and_self]
    | _ => rfl
  | .iface t v, h => by simp only [okv] at h; simp only [lowv, lowv_okv v h]
  | .agg x, h => by simp only [okv] at h; simp only [lowv, lowvA_okv x h]
  | .tuple x, h => by simp only [okv] at h; simp only [lowv, lowvA_okv x h]
  | .bool _, _ => rfl
  | .int .., _ => rfl
  | .float .., _ => rfl
  | .complex .., _ => rfl
  | .string _, _ => rfl
  | .pointer none, _ => rfl
  | .pointer (some a), h => h
  | .slice .., _ => rfl
  | .map _, _ => rfl
  | .chan _, _ => rfl
  | .nilFunc, _ => rfl
  | .nilIface, _ => rfl
theorem lowvA_okv {n : Nat} {st : Bool} : ∀ x : Array Value, okvA n st x = true → lowvA n x = true
  | ⟨x⟩, h => by simp only [okvA] at h; simp only [lowvA, lowvL_okv x h]
theorem lowvL_okv {n : Nat} {st : Bool} : ∀ x : List Value, okvL n st x = true → lowvL n x = true
  | [], _ => rfl
  | a :: x, h => by
    simp only [okvL, Bool.and_eq_true] at h
    simp only [lowvL, lowv_okv a h.1, lowvL_okv x h.2, Bool.and_self]
end
theorem lowv_tok {n : Nat} {v : Value} (h : isTok v = true) : lowv n v = true := by
  cases v with
  | func f x y =>
    cases f with
    | func i => exact absurd (show false = true from h) (by decide)
    | _ => rfl
  | _ => exact absurd (show false = true from h) (by decide)
/-- Turning keeps pointers as they are. -/
def Low (g : Turn) : Prop := ∀ (n : Nat) (v : Value), isTok v = true → lowv n (g (view v) v) = true
theorem low_fate (f : Tok → Fate) : Low (fate f) := by
  intro n v hv
  unfold fate
  split
  · split <;> first | rfl | exact lowv_tok hv
  · split <;> first | rfl | exact lowv_tok hv
  · split <;> first | rfl | exact lowv_tok hv
  · exact lowv_tok hv
mutual
theorem lowv_map {g : Turn} (hg : Nice g) (hl : Low g) {n : Nat} : ∀ v : Value, lowv n v = true → lowv n (mapOwn g v) = true
  | .func f x y, h => by
    by_cases ht : isTok (Value.func f x y) = true
    · cases f with
      | func i => exact absurd (show false = true from ht) (by decide)
      | _ => exact hl n _ ht
    · cases f with
      | func i =>
        simp only [lowv, Bool.and_eq_true] at h
        simp only [mapOwn, lowv, lowvA_map hg hl x h.1, lowvA_map hg hl y h.2, Bool.and_self]
      | _ =>
        simp only [mapOwn]
        rw [hg _ (by simpa using ht)]; rfl
  | .iface t v, h => by simp only [lowv] at h; simp only [mapOwn, lowv, lowv_map hg hl v h]
  | .agg x, h => by simp only [lowv] at h; simp only [mapOwn, lowv, lowvA_map hg hl x h]
  | .tuple x, h => by simp only [lowv] at h; simp only [mapOwn, lowv, lowvA_map hg hl x h]
  | .bool _, _ => rfl
  | .int .., _ => rfl
  | .float .., _ => rfl
  | .complex .., _ => rfl
  | .string _, _ => rfl
  | .pointer none, _ => rfl
  | .pointer (some a), h => h
  | .slice .., _ => rfl
  | .map _, _ => rfl
  | .chan _, _ => rfl
  | .nilFunc, _ => rfl
  | .nilIface, _ => rfl
theorem lowvA_map {g : Turn} (hg : Nice g) (hl : Low g) {n : Nat} : ∀ x : Array Value, lowvA n x = true → lowvA n (mapOwnA g x) = true
  | ⟨x⟩, h => by simp only [lowvA] at h; simp only [mapOwnA, lowvA, lowvL_map hg hl x h]
theorem lowvL_map {g : Turn} (hg : Nice g) (hl : Low g) {n : Nat} : ∀ x : List Value, lowvL n x = true → lowvL n (mapOwnL g x) = true
  | [], _ => rfl
  | a :: x, h => by
    simp only [lowvL, Bool.and_eq_true] at h
    simp only [mapOwnL, lowvL, lowv_map hg hl a h.1, lowvL_map hg hl x h.2, Bool.and_self]
end
def LowBs (n : Nat) (bs : List Blk) : Prop := ∀ i, i < n → ∀ x ∈ cellsIn (bs.getD i .dead), lowv n x = true
/-- How a state goes on. -/
structure Nxt (R R1 : Rl) (S S1 : VH) (ws : List Nat) (kf : Bool) (g : List Turn) : Prop where
  hr : HRel R1 S1.all
  pre : ∀ (i b : Nat), R.φ[i]? = some b → R1.φ[i]? = some b
  M : R1.M = R.M
  nx : R.H.next ≤ R1.H.next
  eff : Eff R ws kf R1.H
  bl : S1.base.length = S.base.length
  w1 : ∀ i ∈ S.w, i ∈ S1.w
  w2 : ∀ i ∈ ws, i < S.base.length → i ∈ S1.w
  w3 : ∀ i ∈ S1.w, i ∈ S.w ∨ i < S.base.length
  keep : ∀ i, i < S.base.length → i ∉ S1.w → ∀ o, R1.ρ (i, some o) = R.ρ (i, some o)
  tok : ∀ k b, R1.ρ k = some b → R.ρ k = some b ∨ (∃ d, R.ρ (d, none) = some b) ∨ R.H.next ≤ b
  box : ∀ (i b : Nat), R1.φ[i]? = some b → R.φ[i]? = some b ∨ (R.φ.length ≤ i ∧ R.H.next ≤ b)
  rd : ∀ v u, Rd R v u → Rd R1 (turns g v) u
  low : LowBs S.base.length S.all → LowBs S.base.length S1.all
  same : ∀ i, i < S.base.length → i ∉ S1.w → S1.all[i]? = S.all[i]?
/-- A call's state: R0 and n boxes at its beginning, R now. -/
structure VSta (n : List Blk) (R0 R : Rl) (S : VH) (e ce : Env) : Prop where
  hr : HRel R S.all
  bn : S.base.length = n.length
  bn0 : R0.φ.length = n.length
  hr0 : ∀ (i o b : Nat), R0.ρ (i, some o) = some b → i < n.length
  fr0 : ∀ d, R0.ρ (d, none) = none
  pre : ∀ (i b : Nat), R0.φ[i]? = some b → R.φ[i]? = some b
  M : R.M = R0.M
  nx : R0.H.next ≤ R.H.next
  fr : ∀ b, b < R0.H.next → (∀ i ∈ S.w, R0.φ[i]? ≠ some b ∧ ∀ o, R0.ρ (i, some o) ≠ some b) → R.H.get b = R0.H.get b
  keep : ∀ i, i < n.length → i ∉ S.w → ∀ o, R.ρ (i, some o) = R0.ρ (i, some o)
  tok : ∀ k b, R.ρ k = some b → R0.ρ k = some b ∨ R0.H.next ≤ b
  box : ∀ (i b : Nat), n.length ≤ i → R.φ[i]? = some b → R0.H.next ≤ b
  w : ∀ i ∈ S.w, i < n.length
  low : LowBs n.length S.all
  same : ∀ i, i < n.length → i ∉ S.w → S.all[i]? = n[i]?
  env : ∀ t, Rd R (eget e t) (eget ce t)
theorem VSta.next {n : List Blk} {R0 R R1 : Rl} {S S1 : VH} {e ce : Env} {ws : List Nat} {kf : Bool} {g : List Turn} (h : VSta n R0 R S e ce) (k : Nxt R R1 S S1 ws kf g) : VSta n R0 R1 S1 (emap g e) ce where
  hr := k.hr
  bn := k.bl.trans h.bn
  bn0 := h.bn0
  hr0 := h.hr0
  fr0 := h.fr0
  pre := fun i b hb => k.pre i b (h.pre i b hb)
  M := k.M.trans h.M
  nx := Nat.le_trans h.nx k.nx
  fr := by
    intro b hb hw
    rw [← h.fr b hb fun i hi => hw i (k.w1 i hi)]
    refine k.eff b (Nat.lt_of_lt_of_le hb h.nx) (fun i hi => ?_) fun _ d hd => ?_
    · rcases Nat.lt_or_ge i n.length with hin | hin
      · have hw' := hw i (k.w2 i hi (by rw [h.bn]; exact hin))
        refine ⟨fun hφ => hw'.1 ?_, fun o ho => ?_⟩
        · have hl : i < R0.φ.length := by rw [h.bn0]; exact hin
          have := h.pre i _ (List.getElem?_eq_getElem hl)
          rw [hφ] at this
          rw [List.getElem?_eq_getElem hl, this]
        · rcases h.tok _ _ ho with h1 | h1
          · exact hw'.2 o h1
          · omega
      · refine ⟨fun hφ => ?_, fun o ho => ?_⟩
        · have := h.box i b hin hφ; omega
        · rcases h.tok _ _ ho with h1 | h1
          · have := h.hr0 i o b h1; omega
          · omega
    · rcases h.tok _ _ hd with h1 | h1
      · rw [h.fr0] at h1; cases h1
      · omega
  keep := by
    intro i hi hw o
    rw [k.keep i (by rw [h.bn]; exact hi) hw o]
    exact h.keep i hi (fun hh => hw (k.w1 i hh)) o
  tok := by
    intro t b ht
    rcases k.tok t b ht with h1 | ⟨d, h1⟩ | h1
    · exact h.tok t b h1
    · rcases h.tok _ _ h1 with h2 | h2
      · rw [h.fr0] at h2; cases h2
      · exact .inr h2
    · exact .inr (Nat.le_trans h.nx h1)
  box := by
    intro i b hi hb
    rcases k.box i b hb with h1 | ⟨_, h1⟩
    · exact h.box i b hi h1
    · exact Nat.le_trans h.nx h1
  w := by
    intro i hi
    rcases k.w3 i hi with h1 | h1
    · exact h.w i h1
    · rw [← h.bn]; exact h1
  low := by rw [← h.bn]; exact k.low (by rw [h.bn]; exact h.low)
  same := fun i hi hw => (k.same i (by rw [h.bn]; exact hi) hw).trans (h.same i hi fun hh => hw (k.w1 i hh))
  env := fun t => by rw [eget_emap]; exact k.rd _ _ (h.env t)
theorem VSta.set {n : List Blk} {R0 R : Rl} {S : VH} {e ce : Env} (h : VSta n R0 R S e ce) {v u : Value} (hv : Rd R v u) (d : Option Tmp) : VSta n R0 R S (eput e d v) (eput ce d u) := by
  have : ∀ t, Rd R (eget (eput e d v) t) (eget (eput ce d u) t) := by
    intro t
    cases d with
    | none => exact h.env t
    | some d =>
      simp only [eput, eget_eset]
      split
      · exact hv
      · exact h.env t
  exact { h with env := this }
theorem Nxt.trans {R R1 R2 : Rl} {S S1 S2 : VH} {ws ws' : List Nat} {kf kf' : Bool} {g g' : List Turn} (h : Nxt R R1 S S1 ws kf g) (k : Nxt R1 R2 S1 S2 ws' kf' g') (he : Eff R ws' kf' R2.H) (hw : ∀ i ∈ ws, i ∈ ws') : Nxt R R2 S S2 ws' kf' (g ++ g') where
  hr := k.hr
  pre := fun i b hb => k.pre i b (h.pre i b hb)
  M := k.M.trans h.M
  nx := Nat.le_trans h.nx k.nx
  eff := he
  bl := k.bl.trans h.bl
  w1 := fun i hi => k.w1 i (h.w1 i hi)
  w2 := fun i hi hl => k.w2 i hi (by rw [h.bl]; exact hl)
  w3 := fun i hi => by
    rcases k.w3 i hi with h1 | h1
    · exact h.w3 i h1
    · exact .inr (by rw [← h.bl]; exact h1)
  keep := fun i hi hw o => by
    rw [k.keep i (by rw [h.bl]; exact hi) hw o]
    exact h.keep i hi (fun hh => hw (k.w1 i hh)) o
  tok := fun t b ht => by
    rcases k.tok t b ht with h1 | ⟨d, h1⟩ | h1
    · exact h.tok t b h1
    · rcases h.tok _ _ h1 with h2 | h2 | h2
      · exact .inr (.inl ⟨d, h2⟩)
      · exact .inr (.inl h2)
      · exact .inr (.inr h2)
    · exact .inr (.inr (Nat.le_trans h.nx h1))
  box := fun i b hb => by
    rcases k.box i b hb with h1 | ⟨h1, h2⟩
    · exact h.box i b h1
    · refine .inr ⟨?_, Nat.le_trans h.nx h2⟩
      rcases Nat.lt_or_ge i R.φ.length with hl | hl
      · have := h.pre i _ (List.getElem?_eq_getElem hl)
        have := (List.getElem?_eq_some_iff.1 this).1
        omega
      · exact hl
  rd := fun v u hv => by rw [turns_append]; exact k.rd _ _ (h.rd v u hv)
  low := fun hl => by rw [← h.bl]; exact k.low (by rw [h.bl]; exact h.low hl)
  same := fun i hi hw => (k.same i (by rw [h.bl]; exact hi) hw).trans (h.same i hi fun hh => hw (k.w1 i hh))

/-! ### Boxes -/
theorem VH.all_push (S : VH) (b : Blk) : (S.push b).all = S.all ++ [b] := by simp [VH.push, VH.all]
theorem VH.all_put (S : VH) {i : Nat} (b : Blk) : (S.put i b).all = S.all.set i b := by
  unfold VH.put VH.all
  split
  · rename_i h; simp only; rw [List.set_append, if_pos h]
  · rename_i h; simp only; rw [List.set_append, if_neg h]
theorem VH.base_put (S : VH) (i : Nat) (b : Blk) : (S.put i b).base.length = S.base.length := by
  unfold VH.put
  split <;> simp
theorem VH.w_put (S : VH) (i : Nat) (b : Blk) : (S.put i b).w = if i < S.base.length then addW i S.w else S.w := by
  unfold VH.put
  split <;> rfl
theorem mem_addW {i j : Nat} {w : List Nat} : j ∈ addW i w ↔ j = i ∨ j ∈ w := by
  unfold addW
  split
  · rename_i h
    have : i ∈ w := by simpa using h
    constructor
    · exact .inr
    · rintro (rfl | h) <;> assumption
  · simp
theorem VH.mem_w_put {S : VH} {i j : Nat} {b : Blk} : j ∈ (S.put i b).w ↔ j ∈ S.w ∨ (j = i ∧ i < S.base.length) := by
  rw [VH.w_put]
  split
  · rename_i h; rw [mem_addW]; constructor
    · rintro (h1 | h1)
      · exact .inr ⟨h1, h⟩
      · exact .inl h1
    · rintro (h1 | h1)
      · exact .inr h1
      · exact .inl h1.1
  · rename_i h; constructor
    · exact .inl
    · rintro (h1 | h1)
      · exact h1
      · exact absurd h1.2 h
/-- What boxes hold when some are turned. -/
theorem VH.turn_all (g : Turn) : ∀ (bs : List Nat) (S : VH), (∀ b : Blk, ∀ i ∈ bs, True) → (S.turn g bs).all.length = S.all.length ∧ (S.turn g bs).base.length = S.base.length ∧
    (∀ i, i ∉ bs → (S.turn g bs).all.getD i .dead = S.all.getD i .dead) ∧ (∀ j, j ∈ (S.turn g bs).w ↔ j ∈ S.w ∨ (j ∈ bs ∧ j < S.base.length)) := by
  intro bs
  induction bs with
  | nil => intro S _; exact ⟨rfl, rfl, fun _ _ => rfl, fun j => by simp [VH.turn]⟩
  | cons i bs ih =>
    intro S _
    obtain ⟨h1, h2, h3, h4⟩ := ih (S.put i (mapB (mapOwn g) (S.get i))) fun _ _ _ => trivial
    simp only [VH.turn]
    refine ⟨by rw [h1, VH.all_put, List.length_set], by rw [h2, VH.base_put], fun j hj => ?_, fun j => ?_⟩
    · simp only [List.mem_cons, not_or] at hj
      rw [h3 j hj.2, VH.all_put, List.getD_eq_getElem?_getD, List.getElem?_set_ne (fun h => hj.1 h.symm), ← List.getD_eq_getElem?_getD]
    · rw [h4, VH.mem_w_put, VH.base_put]
      simp only [List.mem_cons]
      constructor
      · rintro ((h | h) | h)
        · exact .inl h
        · exact .inr ⟨.inl h.1, h.1 ▸ h.2⟩
        · exact .inr ⟨.inr h.1, h.2⟩
      · rintro (h | ⟨h | h, h'⟩)
        · exact .inl (.inl h)
        · exact .inl (.inr ⟨h, h ▸ h'⟩)
        · exact .inr ⟨h, h'⟩
theorem same_turn (g : Turn) : ∀ (bs : List Nat) (S : VH) (i : Nat), i < S.base.length → i ∉ (S.turn g bs).w → (S.turn g bs).all[i]? = S.all[i]? := by
  intro bs
  induction bs with
  | nil => intro S i _ _; rfl
  | cons j bs ih =>
    intro S i hi hw
    simp only [VH.turn] at hw ⊢
    rw [ih _ i (by rw [VH.base_put]; exact hi) hw, VH.all_put]
    by_cases hij : j = i
    · exfalso
      subst hij
      refine hw (((VH.turn_all g bs (S.put j (mapB (mapOwn g) (S.get j))) fun _ _ _ => trivial).2.2.2 j).2 (.inl ?_))
      exact VH.mem_w_put.2 (.inr ⟨rfl, hi⟩)
    · rw [List.getElem?_set_ne hij]
theorem low_turn {g : Turn} (hg : Nice g) (hl : Low g) {n : Nat} : ∀ (bs : List Nat) (S : VH), LowBs n S.all → LowBs n (S.turn g bs).all := by
  intro bs
  induction bs with
  | nil => intro S h; exact h
  | cons j bs ih =>
    intro S h
    simp only [VH.turn]
    refine ih _ ?_
    intro i hi x hx
    rw [VH.all_put, List.getD_eq_getElem?_getD, List.getElem?_set] at hx
    by_cases hij : j = i
    · subst hij
      rw [if_pos rfl] at hx
      split at hx
      · simp only [Option.getD_some] at hx
        rw [VH.get_eq] at hx
        have h1 := h j hi
        generalize S.all.getD j .dead = B at hx h1
        cases B with
        | cells o e c =>
          simp only [mapB, cellsIn, List.mem_map] at hx
          obtain ⟨y, hy, rfl⟩ := hx
          exact lowv_map hg hl y (h1 y hy)
        | _ => cases hx
      · cases hx
    · rw [if_neg hij, ← List.getD_eq_getElem?_getD] at hx
      exact h i hi x hx
end Go.Proofs.YtmdpggecelheoaaDoor.Abs
