/- Light operations over values with their slices: the plain heap answers alike. -/
import Derived.Test.YtmdpggecelheoaaDoorMW1
set_option linter.unusedVariables false
set_option linter.unusedSimpArgs false
namespace Go.Proofs.YtmdpggecelheoaaDoor.Abs
open Go

/-- A box of the callers or of a call's own. -/
def BR (R : Rl) (i : Nat) : Blk → Blk → Prop
  | .cells o e c, B => o = true ∧ ∃ c', B = .cells true (bxT e) c' ∧ RdL R c c' ∧ ∀ (j : Nat) x, c[j]? = some x → toks x = [] ∨ ownTok x = some (i, some j)
  | _, _ => True
structure HRel (R : Rl) (bs : List Blk) : Prop where
  len : R.φ.length = bs.length
  nodup : R.φ.Nodup
  lt : ∀ b ∈ R.φ, b < R.H.next
  inj : ∀ k k' b, R.ρ k = some b → R.ρ k' = some b → k = k'
  sep : ∀ k b, R.ρ k = some b → b ∉ R.φ ∧ b < R.H.next
  fr : ∀ b, R.H.next ≤ b → R.M 0 b
  dom : ∀ (i o b : Nat), R.ρ (i, some o) = some b → i < R.φ.length
  own : ∀ k b, R.ρ k = some b → R.M 0 b
  blk : ∀ (i b : Nat), R.φ[i]? = some b → BR R i (bs.getD i .dead) (R.H.get b)
def VH.all (S : VH) : List Blk := S.base ++ S.loc
theorem VH.get_eq (S : VH) (i : Nat) : S.get i = S.all.getD i .dead := by
  unfold VH.get VH.all
  rw [List.getD_eq_getElem?_getD, List.getD_eq_getElem?_getD, List.getD_eq_getElem?_getD, List.getElem?_append]
  split <;> rfl
theorem VH.next_eq (S : VH) : S.next = S.all.length := by simp [VH.next, VH.all]
section
variable {R : Rl} {S : VH}
theorem box_of (hR : HRel R S.all) {i b : Nat} (h : R.φ[i]? = some b) {o : Bool} {e : TypeId} {c : List Value} (hg : S.get i = .cells o e c) :
    o = true ∧ ∃ c', R.H.get b = .cells true (bxT e) c' ∧ RdL R c c' ∧ ∀ (j : Nat) x, c[j]? = some x → toks x = [] ∨ ownTok x = some (i, some j) := by
  have := hR.blk i b h
  rw [← VH.get_eq, hg] at this
  exact this
/-! ### Reading a place -/
variable {P : Program}
theorem reads_load {x : Value} {b off : Nat} (h : Reads R x b off) {t : TypeId} {v : Value} (hv : vget P t x = some v) : ∃ u, aload P t (.pointer (some ⟨b, off, none⟩)) R.H = some u ∧ Rd R v u := by
  obtain ⟨o, el, c, hg, hl, hok, hc⟩ := h
  unfold vget at hv
  unfold aload
  cases hu : P.underlying t with
  | none => rw [hu] at hv; cases hv
  | some d =>
    rw [hu] at hv
    simp only at hv ⊢
    by_cases ha : isAggT P t = true
    · rw [if_pos ha] at hv ⊢
      split at hv
      · rename_i cs
        split at hv
        · rename_i hs
          cases hv
          obtain ⟨cs⟩ := cs
          simp only [hs, Option.bind_some, cellsAt, hg]
          by_cases h0 : (Array.mk cs).size = 0
          · rw [if_pos h0]
            have : cs = [] := by simpa using h0
            subst this
            exact ⟨_, rfl, .agg_of .nil⟩
          · rw [if_neg h0, if_pos ⟨hl, trivial⟩]
            exact ⟨_, rfl, .agg_of hc⟩
        · cases hv
      · cases hv
    · rw [if_neg ha] at hv ⊢
      have key : ∀ y : Value, y.cells = #[y] → x = y → ∃ u, cellAt R.H ⟨b, off, none⟩ = some u ∧ Rd R y u := by
        rintro y hy rfl
        rw [hy] at hl hc
        simp only [List.size_toArray, List.length_cons, List.length_nil] at hl
        have := hc.2 0
        simp only [cellAt, hg, if_true]
        have hlt : off < c.length := by omega
        refine ⟨c[off], by simp [hlt], ?_⟩
        simpa [List.getD_eq_getElem?_getD, List.getElem?_take, hlt] using this
      split at hv
      · cases hv
      · cases hv
      · cases hv
      · rename_i hna _ _
        cases hv
        refine key x ?_ rfl
        cases x <;> first | rfl | (exact absurd rfl (hna _))
theorem reads_part {x : Value} {b off : Nat} (h : Reads R x b off) {t : TypeId} {i : Nat} {y : Value} (hy : vpart P t x i = some y) : ∃ p, place P t i = some p ∧ p.2 ≠ 0 ∧ Reads R y b (off + p.1) := by
  obtain ⟨o, el, c, hg, hl, hok, hc⟩ := h
  unfold vpart at hy
  split at hy
  · rename_i cs
    obtain ⟨cs⟩ := cs
    simp only [Option.bind_eq_some_iff] at hy
    obtain ⟨p, hp, u, hu, hy⟩ := hy
    split at hy
    · rename_i hp0
      simp only [Option.bind_eq_some_iff] at hy
      obtain ⟨z, hz, hy⟩ := hy
      split at hy
      · rename_i hagg
        cases hy
        refine ⟨p, hp, hp0, ?_⟩
        have hcl : (Value.agg ⟨cs⟩).cells.size = cs.length := rfl
        have hct : (Value.agg ⟨cs⟩).cells.toList = cs := rfl
        rw [hcl] at hl hc
        rw [hct] at hc
        rw [okv_agg] at hok
        rw [List.all_eq_true] at hok
        unfold apart at hz
        cases hd : P.underlying u with
        | none => rw [hd] at hz; cases hz
        | some d =>
          rw [hd] at hz
          simp only at hz
          by_cases ha : isAggT P u = true
          · rw [if_pos ha] at hz
            simp only [Option.bind_eq_some_iff] at hz
            obtain ⟨n, hn, hz⟩ := hz
            split at hz
            · rename_i hle
              cases hz
              have hle' : p.1 + n ≤ cs.length := by simpa using hle
              have e1 : (Value.agg ((Array.mk cs).extract p.1 (p.1 + n))).cells.toList = (cs.drop p.1).take n := by
                simp [Value.cells, List.extract_eq_take_drop]
              have e2 : (Value.agg ((Array.mk cs).extract p.1 (p.1 + n))).cells.size = n := by
                have := congrArg List.length e1
                simp only [Array.length_toList, List.length_take, List.length_drop] at this
                omega
              refine ⟨o, el, c, hg, by rw [e2]; omega, ?_, ?_⟩
              · have e3 : Value.agg ((Array.mk cs).extract p.1 (p.1 + n)) = .agg ⟨(cs.drop p.1).take n⟩ := by
                  congr 1
                  apply Array.ext'
                  exact e1
                rw [e3, okv_agg, List.all_eq_true]
                exact fun x hx => hok x (List.mem_of_mem_drop (List.mem_of_mem_take hx))
              · rw [e1, e2]
                have := (hc.drop p.1).take n
                rwa [List.drop_take, List.drop_drop, List.take_take, Nat.min_eq_left (by omega)] at this
            · cases hz
          · rw [if_neg ha] at hz
            simp only [ha, Bool.false_or, Bool.not_eq_true'] at hagg
            have hz' : cs[p.1]? = some y := by simpa using hz
            have hlt : p.1 < cs.length := (List.getElem?_eq_some_iff.1 hz').1
            have hyc : y.cells = #[y] := by cases y <;> first | rfl | (cases hagg)
            refine ⟨o, el, c, hg, by rw [hyc]; simp; omega, hok y (List.mem_of_getElem? hz'), ?_⟩
            rw [hyc]
            have := ((hc.drop p.1).take 1)
            rw [List.drop_take, List.drop_drop, List.take_take, Nat.min_eq_left (by omega)] at this
            have e1 : (cs.drop p.1).take 1 = [y] := by
              have hy' : cs[p.1] = y := by rw [List.getElem?_eq_getElem hlt] at hz'; exact Option.some.inj hz'
              rw [List.drop_eq_getElem_cons hlt, hy']
              rfl
            rw [e1] at this
            exact this
      · cases hy
    · cases hy
  · cases hy
theorem Reads.rd_at {x : Value} {b off : Nat} (hp : R.prot b ∧ ∃ d, R.M d b) (h : Reads R x b off) : Rd R (vp x) (.pointer (some ⟨b, off, none⟩)) := by
  obtain ⟨o, el, c, hg, hl, hok, hc⟩ := h
  obtain ⟨hp, d, hM⟩ := hp
  exact .at x d b off o el c hp hM hg hl hok hc.2
theorem Reads.rd_in {x : Value} {k : Tok} {b off : Nat} (hp : R.ρ k = some b) (ht : ∃ el c, R.H.get b = .cells true el c) (h : Reads R x b off) : Rd R (vr k x) (.pointer (some ⟨b, off, none⟩)) := by
  obtain ⟨o, el, c, hg, hl, hok, hc⟩ := h
  obtain ⟨el', c', hg'⟩ := ht
  rw [hg'] at hg
  cases hg
  exact .inOwn k x b off el c hp hg' hl hok hc.2
/-- Where all elements have as many cells. -/
theorem cellsL_at {sz : Nat} {l : List Value} (h : ∀ x ∈ l, x.cells.size = sz) {j : Nat} {x : Value} (hx : l[j]? = some x) : ((cellsL l).drop (j * sz)).take sz = x.cells.toList := by
  induction l generalizing j with
  | nil => simp at hx
  | cons a l ih =>
    have ha : a.cells.toList.length = sz := by rw [Array.length_toList]; exact h a (by simp)
    cases j with
    | zero =>
      simp only [List.getElem?_cons_zero, Option.some.injEq] at hx
      subst hx
      simp only [cellsL, List.flatMap_cons, Nat.zero_mul, List.drop_zero]
      rw [List.take_append_of_le_length (by omega), List.take_of_length_le (by omega)]
    | succ j =>
      rw [List.getElem?_cons_succ] at hx
      have := ih (fun x hx => h x (by simp [hx])) hx
      simp only [cellsL, List.flatMap_cons] at this ⊢
      rw [Nat.add_mul, Nat.one_mul, Nat.add_comm, ← List.drop_drop, List.drop_left' ha]
      exact this
theorem cellsL_drop {sz : Nat} {l : List Value} (h : ∀ x ∈ l, x.cells.size = sz) (j : Nat) : cellsL (l.drop j) = (cellsL l).drop (j * sz) := by
  induction l generalizing j with
  | nil => simp [cellsL]
  | cons a l ih =>
    have ha : a.cells.toList.length = sz := by rw [Array.length_toList]; exact h a (by simp)
    cases j with
    | zero => simp
    | succ j =>
      have := ih (fun x hx => h x (by simp [hx])) j
      simp only [List.drop_succ_cons]
      rw [this]
      simp only [cellsL, List.flatMap_cons]
      rw [Nat.add_mul, Nat.one_mul, Nat.add_comm (j * sz), ← List.drop_drop, List.drop_left' ha]
theorem cellsL_take {sz : Nat} {l : List Value} (h : ∀ x ∈ l, x.cells.size = sz) (j : Nat) : cellsL (l.take j) = (cellsL l).take (j * sz) := by
  induction l generalizing j with
  | nil => simp [cellsL]
  | cons a l ih =>
    have ha : a.cells.toList.length = sz := by rw [Array.length_toList]; exact h a (by simp)
    cases j with
    | zero => simp [cellsL]
    | succ j =>
      have := ih (fun x hx => h x (by simp [hx])) j
      simp only [List.take_succ_cons]
      simp only [cellsL, List.flatMap_cons] at this ⊢
      rw [this, Nat.add_mul, Nat.one_mul, List.take_append, ha, List.take_of_length_le (l := a.cells.toList) (by omega), Nat.add_sub_cancel]
theorem okvL_sub {l : List Value} (h : okvL 0 true l = true) (i n : Nat) : okvL 0 true ((l.drop i).take n) = true := by
  rw [okvL_eq, List.all_eq_true] at h ⊢
  exact fun x hx => h x (List.mem_of_mem_drop (List.mem_of_mem_take hx))
/-- An element of a block's row. -/
theorem reads_elem {sz off : Nat} {l : List Value} {b : Nat} {o : Bool} {el : TypeId} {c : List Value} (hg : R.H.get b = .cells o el c) (hl : off + l.length * sz ≤ c.length) (hsz : ∀ x ∈ l, x.cells.size = sz) (hok : okvL 0 true l = true)
    (hc : RdL R (cellsL l) ((c.drop off).take (l.length * sz))) {j : Nat} {x : Value} (hx : l[j]? = some x) : Reads R x b (off + j * sz) := by
  have hj : j < l.length := (List.getElem?_eq_some_iff.1 hx).1
  have hxs := hsz x (List.mem_of_getElem? hx)
  have hjs : j * sz + sz ≤ l.length * sz := by
    have := Nat.mul_le_mul_right sz (show j + 1 ≤ l.length by omega)
    rwa [Nat.add_mul, Nat.one_mul] at this
  refine ⟨o, el, c, hg, by rw [hxs]; omega, ?_, ?_⟩
  · rw [okvL_eq, List.all_eq_true] at hok; exact hok x (List.mem_of_getElem? hx)
  · have := (hc.drop (j * sz)).take sz
    rw [cellsL_at hsz hx, List.drop_take, List.drop_drop, List.take_take, Nat.min_eq_left (by omega)] at this
    rw [hxs]; exact this
theorem sub_row {sz off : Nat} {l : List Value} {c : List Value} (hl : off + l.length * sz ≤ c.length) (hsz : ∀ x ∈ l, x.cells.size = sz)
    (hc : RdL R (cellsL l) ((c.drop off).take (l.length * sz))) {i n : Nat} (hin : i + n ≤ l.length) : RdL R (cellsL ((l.drop i).take n)) ((c.drop (off + i * sz)).take (n * sz)) := by
  have h1 : (i + n) * sz ≤ l.length * sz := Nat.mul_le_mul_right sz hin
  rw [Nat.add_mul] at h1
  have := (hc.drop (i * sz)).take (n * sz)
  rw [List.drop_take, List.drop_drop, List.take_take, Nat.min_eq_left (by omega)] at this
  rw [cellsL_take (fun x hx => hsz x (List.mem_of_mem_drop hx)), cellsL_drop hsz]
  exact this

/-! ### The operations -/
theorem load_ok (hR : HRel R S.all) {t : TypeId} {v a w : Value} (hv : Rd R v w) (h : vload P t v S = some a) : ∃ u, aload P t w R.H = some u ∧ Rd R a u := by
  unfold vload at h
  split at h
  · rename_i x hx
    obtain rfl := hv.is_at hx
    obtain ⟨b, off, rfl, _, hr⟩ := hv.inv_at
    exact reads_load hr h
  · rename_i k j x hx
    obtain rfl := hv.is_atOwn hx
    obtain ⟨sz, b, rfl, _, _, _, _, hr⟩ := hv.inv_atOwn
    exact reads_load hr h
  · rename_i k x hx
    obtain rfl := hv.is_inOwn hx
    obtain ⟨b, off, rfl, _, _, hr⟩ := hv.inv_inOwn
    exact reads_load hr h
  · split at h
    · rename_i ad
      obtain ⟨b, hb, hs, rfl⟩ := hv.inv_ptr
      unfold aload
      cases hu : P.underlying t with
      | none => rw [hu] at h; cases h
      | some d =>
        rw [hu] at h
        simp only at h ⊢
        by_cases ha : isAggT P t = true
        · rw [if_pos ha] at h ⊢
          simp only [Option.bind_eq_some_iff, Option.map_eq_some_iff] at h
          obtain ⟨n, hn, c, hc, rfl⟩ := h
          simp only [hn, Option.bind_some]
          unfold vcells at hc
          unfold cellsAt
          by_cases h0 : n = 0
          · rw [if_pos h0] at hc ⊢
            cases hc
            exact ⟨_, rfl, .agg_of .nil⟩
          · rw [if_neg h0] at hc ⊢
            split at hc
            · rename_i o e cc hg
              split at hc
              · rename_i hle
                cases hc
                obtain ⟨_, c', hg', hcc, _⟩ := box_of hR hb hg
                simp only [hg']
                rw [if_pos ⟨by rw [← hcc.1]; exact hle.1, trivial⟩]
                exact ⟨_, rfl, .agg_of hcc.sub⟩
              · cases hc
            · cases hc
        · rw [if_neg ha] at h ⊢
          unfold vcell at h
          unfold cellAt
          split at h
          · rename_i o e cc hg
            rw [if_pos hs] at h
            obtain ⟨_, c', hg', hcc, _⟩ := box_of hR hb hg
            simp only [hg', if_true]
            exact hcc.get? h
          · cases h
    · cases h
theorem field_ok {ρ : Operand → Value} {t : TypeId} {v a w : Value} {x : Operand} {i : Nat} (hv : Rd R v w) (hw : ρ x = w) (h : vfield P t v i = some a) : ∃ u, lop P ρ R.H (.fieldAddr t x i) = some u ∧ Rd R a u := by
  unfold vfield at h
  simp only [lop, hw]
  split at h
  · rename_i y hy
    obtain rfl := hv.is_at hy
    obtain ⟨b, off, rfl, hp, hr⟩ := hv.inv_at
    rw [Option.map_eq_some_iff] at h
    obtain ⟨z, hz, rfl⟩ := h
    obtain ⟨p, h1, h2, h3⟩ := reads_part hr hz
    refine ⟨_, by simp only [h1, Option.bind_some]; rw [if_pos ⟨h2, trivial⟩], h3.rd_at hp⟩
  · rename_i k j y hy
    obtain rfl := hv.is_atOwn hy
    obtain ⟨sz, b, rfl, _, _, hρ, ht, hr⟩ := hv.inv_atOwn
    rw [Option.map_eq_some_iff] at h
    obtain ⟨z, hz, rfl⟩ := h
    obtain ⟨p, h1, h2, h3⟩ := reads_part hr hz
    refine ⟨_, by simp only [h1, Option.bind_some]; rw [if_pos ⟨h2, trivial⟩], h3.rd_in hρ ht⟩
  · rename_i k y hy
    obtain rfl := hv.is_inOwn hy
    obtain ⟨b, off, rfl, hρ, ht, hr⟩ := hv.inv_inOwn
    rw [Option.map_eq_some_iff] at h
    obtain ⟨z, hz, rfl⟩ := h
    obtain ⟨p, h1, h2, h3⟩ := reads_part hr hz
    refine ⟨_, by simp only [h1, Option.bind_some]; rw [if_pos ⟨h2, trivial⟩], h3.rd_in hρ ht⟩
  · split at h
    · rename_i ad
      obtain ⟨b, hb, hs, rfl⟩ := hv.inv_ptr
      simp only [Option.bind_eq_some_iff] at h
      obtain ⟨p, hp, h⟩ := h
      split at h
      · rename_i h2
        cases h
        refine ⟨_, by simp only [hp, Option.bind_some]; rw [if_pos ⟨h2.1, trivial⟩], .ptr _ _ b hb⟩
      · cases h
    · cases h
theorem index_ok (hR : HRel R S.all) {t : TypeId} {v i a w z : Value} (hv : Rd R v w) (hi : Rd R i z) (h : vindexAddr P t v i = some a) : ∃ u, aindexAddr P t w z = some u ∧ Rd R a u := by
  unfold vindexAddr at h
  split at h
  · rename_i k j
    obtain rfl := hi.inv_int
    split at h
    · rename_i d sz l hx
      obtain rfl := hv.is_ro hx
      obtain ⟨b, off, rfl, h0, hh⟩ := hv.inv_ro
      simp only [Option.bind_eq_some_iff] at h
      obtain ⟨e, he, h⟩ := h
      split at h
      · rename_i hs
        rw [Option.map_eq_some_iff] at h
        obtain ⟨x, hx, rfl⟩ := h
        rcases hh with rfl | ⟨o, el, c, hp, hM, hg, hl, hsz, hok, hc⟩
        · simp at hx
        · have hj : j.toNat < l.length := (List.getElem?_eq_some_iff.1 hx).1
          refine ⟨_, ?_, (reads_elem hg hl hsz hok hc hx).rd_at ⟨hp, d, hM⟩⟩
          rw [aindexAddr_slice he hs.1, if_pos ⟨hs.2, by omega⟩]
      · cases h
    · rename_i k' sz off l hx
      obtain rfl := hv.is_own hx
      obtain ⟨b, el, c, rfl, h0, hρ, hg, hl, hsz, hok, hc⟩ := hv.inv_own
      simp only [Option.bind_eq_some_iff] at h
      obtain ⟨e, he, h⟩ := h
      split at h
      · rename_i hs
        rw [Option.map_eq_some_iff] at h
        obtain ⟨x, hx, rfl⟩ := h
        have hj : j.toNat < l.length := (List.getElem?_eq_some_iff.1 hx).1
        refine ⟨.pointer (some ⟨b, off * sz + j.toNat * sz, none⟩), ?_, ?_⟩
        · rw [aindexAddr_slice he hs.1, if_pos ⟨hs.2, by omega⟩]
        · obtain ⟨o', el', c', hg', hl', hok', hc'⟩ := reads_elem hg hl hsz hok hc hx
          rw [hg] at hg'
          cases hg'
          have hxs := hsz x (List.mem_of_getElem? hx)
          rw [← Nat.add_mul] at hl' hc' ⊢
          exact .atOwn k' sz (off + j.toNat) x b el c h0 hρ hg hxs (by omega) hok' hc'.2
      · cases h
    · split at h
      · rename_i ad
        obtain ⟨b, hb, hs, rfl⟩ := hv.inv_ptr
        unfold aindexAddr at h ⊢
        split at h
        · contradiction
        · rename_i n e _ _ _ hu hv' hi'
          cases hv'; cases hi'
          simp only [hu]
          simp only [Option.bind_eq_some_iff] at h ⊢
          obtain ⟨sz, hsz, h⟩ := h
          rw [if_pos hs] at h
          split at h
          · rename_i hj
            cases h
            exact ⟨_, ⟨sz, hsz, by simp [hj]⟩, .ptr _ _ b hb⟩
          · cases h
        · cases h
      · cases h
  · cases h
end
end Go.Proofs.YtmdpggecelheoaaDoor.Abs
