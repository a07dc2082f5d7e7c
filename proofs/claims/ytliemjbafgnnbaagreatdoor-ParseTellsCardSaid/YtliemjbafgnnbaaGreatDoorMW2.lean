/- Light operations over values with their slices: the plain heap answers alike. -/
import Derived.Test.YtliemjbafgnnbaaGreatDoorMW1
set_option linter.unnecessarySimpa false
set_option linter.unusedSimpArgs false
set_option linter.unusedVariables false
namespace Go.Proofs.YtliemjbafgnnbaaGreatDoor.Abs
open Go
def BR (R : Rl) (i : Nat) : Blk → Blk → Prop
 | .cells o e c, B => o = true ∧ ∃ c', B = .cells true (bxT e) c' ∧ RdL R c c' ∧ ∀ (j : Nat) x, c[j]? = some x → toks x = [] ∨ ownTok x = some (i, some j)
 | _, _ => True
structure HRel (R : Rl) (bs : List Blk) : Prop where
 len : R.φ.length = bs.length
 nodup : R.φ.Nodup
 lt : ∀ b ∈ R.φ, b < R.H.next
 inj : ∀ k k' b, R.ρ k = some b → R.ρ k' = some b → k = k'
 sep : ∀ k b, R.ρ k = some b → b ∉ R.φ ∧ b < R.H.next
 fr : ∀ b, R.H.next ≤ b → R.M 0 b
 dom : ∀ (i o b : Nat), R.ρ (i, some o) = some b → i < R.φ.length
 own : ∀ k b, R.ρ k = some b → R.M 0 b
 blk : ∀ (i b : Nat), R.φ[i]? = some b → BR R i (bs.getD i .dead) (R.H.get b)
def VH.all (S : VH) : List Blk := S.base ++ S.loc
theorem VH.get_eq (S : VH) (i : Nat) : S.get i = S.all.getD i .dead := by
 unfold VH.get VH.all
 rw [List.getD_eq_getElem?_getD, List.getD_eq_getElem?_getD, List.getD_eq_getElem?_getD, List.getElem?_append]
 split <;> rfl
theorem VH.next_eq (S : VH) : S.next = S.all.length := by simp [VH.next, VH.all]
section
variable {R : Rl} {S : VH}
theorem box_of (hR : HRel R S.all) {i b : Nat} (h : R.φ[i]? = some b) {o : Bool} {e : TypeId} {c : List Value} (hg : S.get i = .cells o e c) :
    o = true ∧ ∃ c', R.H.get b = .cells true (bxT e) c' ∧ RdL R c c' ∧ ∀ (j : Nat) x, c[j]? = some x → toks x = [] ∨ ownTok x = some (i, some j) := by
 have := hR.blk i b h
 rw [← VH.get_eq, hg] at this
 exact this
variable {P : Program}
theorem zakc {x : Value} {b off : Nat} (h : Reads R x b off) {t : TypeId} {v : Value} (hv : vget P t x = some v) : ∃ u, aload P t (.pointer (some ⟨b, off, none⟩)) R.H = some u ∧ Rd R v u := by
 obtain ⟨o, el, c, hg, hl, hok, hc⟩ := h
 unfold vget at hv
 unfold aload
 cases hu : P.underlying t with
 | none => rw [hu] at hv; cases hv
 | some d =>
  rw [hu] at hv
  simp only at hv ⊢
  by_cases ha : isAggT P t = true
  ·rw [if_pos ha] at hv ⊢
   split at hv
   ·rename_i cs
    split at hv
    ·rename_i hs
     cases hv
     obtain ⟨cs⟩ := cs
     simp only [hs, Option.bind_some, cellsAt, hg]
     by_cases h0 : (Array.mk cs).size = 0
     ·rw [if_pos h0]
      have : cs = [] := by simpa using h0
      subst this
      exact ⟨_, rfl, .agg_of .nil⟩
     ·rw [if_neg h0, if_pos ⟨hl, trivial⟩]
      exact ⟨_, rfl, .agg_of hc⟩
    ·cases hv
   ·cases hv
  ·rw [if_neg ha] at hv ⊢
   have key : ∀ y : Value, y.cells = #[y] → x = y → ∃ u, cellAt R.H ⟨b, off, none⟩ = some u ∧ Rd R y u := by
    rintro y hy rfl
    rw [hy] at hl hc
    simp only [List.size_toArray, List.length_cons, List.length_nil] at hl
    have := hc.2 0
    simp only [cellAt, hg, if_true]
    have hlt : off < c.length := by omega
    refine ⟨c[off], by simp [hlt], ?_⟩
    simpa [List.getD_eq_getElem?_getD, List.getElem?_take, hlt] using this
   split at hv
   ·cases hv
   ·cases hv
   ·cases hv
   ·rename_i hna _ _
    cases hv
    refine key x ?_ rfl
    cases x <;> first | rfl | (exact absurd rfl (hna _))
theorem zakd {x : Value} {b off : Nat} (h : Reads R x b off) {t : TypeId} {i : Nat} {y : Value} (hy : vpart P t x i = some y) : ∃ p, place P t i = some p ∧ p.2 ≠ 0 ∧ Reads R y b (off + p.1) := by
 obtain ⟨o, el, c, hg, hl, hok, hc⟩ := h
 unfold vpart at hy
 split at hy
 ·rename_i cs
  obtain ⟨cs⟩ := cs
  simp only [Option.bind_eq_some_iff] at hy
  obtain ⟨p, hp, u, hu, hy⟩ := hy
  split at hy
  ·rename_i hp0
   simp only [Option.bind_eq_some_iff] at hy
   obtain ⟨z, hz, hy⟩ := hy
   split at hy
   ·rename_i hagg
    cases hy
    refine ⟨p, hp, hp0, ?_⟩
    have hcl : (Value.agg ⟨cs⟩).cells.size = cs.length := rfl
    have hct : (Value.agg ⟨cs⟩).cells.toList = cs := rfl
    rw [hcl] at hl hc
    rw [hct] at hc
    rw [zae6] at hok
    rw [List.all_eq_true] at hok
    unfold apart at hz
    cases hd : P.underlying u with
    | none => rw [hd] at hz; cases hz
    | some d =>
     rw [hd] at hz
     simp only at hz
     by_cases ha : isAggT P u = true
     ·rw [if_pos ha] at hz
      simp only [Option.bind_eq_some_iff] at hz
      obtain ⟨n, hn, hz⟩ := hz
      split at hz
      ·rename_i hle
       cases hz
       have hle' : p.1 + n ≤ cs.length := by simpa using hle
       have e1 : (Value.agg ((Array.mk cs).extract p.1 (p.1 + n))).cells.toList = (cs.drop p.1).take n := by
        simp [Value.cells, List.extract_eq_take_drop]
       have e2 : (Value.agg ((Array.mk cs).extract p.1 (p.1 + n))).cells.size = n := by
        have := congrArg List.length e1
        simp only [Array.length_toList, List.length_take, List.length_drop] at this
        omega
       refine ⟨o, el, c, hg, by rw [e2]; omega, ?_, ?_⟩
       ·have e3 : Value.agg ((Array.mk cs).extract p.1 (p.1 + n)) = .agg ⟨(cs.drop p.1).take n⟩ := by
         congr 1
         apply Array.ext'
         exact e1
        rw [e3, zae6, List.all_eq_true]
        exact fun x hx => hok x (List.mem_of_mem_drop (List.mem_of_mem_take hx))
       ·rw [e1, e2]
        have := (hc.drop p.1).take n
        rwa [List.drop_take, List.drop_drop, List.take_take, Nat.min_eq_left (by omega)] at this
      ·cases hz
     ·rw [if_neg ha] at hz
      simp only [ha, Bool.false_or, Bool.not_eq_true'] at hagg
      have hz' : cs[p.1]? = some y := by simpa using hz
      have hlt : p.1 < cs.length := (List.getElem?_eq_some_iff.1 hz').1
      have hyc : y.cells = #[y] := by cases y <;> first | rfl | (cases hagg)
      refine ⟨o, el, c, hg, by rw [hyc]; simp; omega, hok y (List.mem_of_getElem? hz'), ?_⟩
      rw [hyc]
      have := ((hc.drop p.1).take 1)
      rw [List.drop_take, List.drop_drop, List.take_take, Nat.min_eq_left (by omega)] at this
      have e1 : (cs.drop p.1).take 1 = [y] := by
       have hy' : cs[p.1] = y := by rw [List.getElem?_eq_getElem hlt] at hz'; exact Option.some.inj hz'
       rw [List.drop_eq_getElem_cons hlt, hy']
       rfl
      rw [e1] at this
      exact this
   ·cases hy
  ·cases hy
 ·cases hy
theorem Reads.rd_at {x : Value} {b off : Nat} (hp : R.prot b ∧ ∃ d, R.M d b) (h : Reads R x b off) : Rd R (vp x) (.pointer (some ⟨b, off, none⟩)) := by
 obtain ⟨o, el, c, hg, hl, hok, hc⟩ := h
 obtain ⟨hp, d, hM⟩ := hp
 exact .at x d b off o el c hp hM hg hl hok hc.2
theorem Reads.rd_in {x : Value} {k : Tok} {b off : Nat} (hp : R.ρ k = some b) (ht : ∃ el c, R.H.get b = .cells true el c) (h : Reads R x b off) : Rd R (vr k x) (.pointer (some ⟨b, off, none⟩)) := by
 obtain ⟨o, el, c, hg, hl, hok, hc⟩ := h
 obtain ⟨el', c', hg'⟩ := ht
 rw [hg'] at hg
 cases hg
 exact .inOwn k x b off el c hp hg' hl hok hc.2
theorem zaxh {sz : Nat} {l : List Value} (h : ∀ x ∈ l, x.cells.size = sz) {j : Nat} {x : Value} (hx : l[j]? = some x) : ((cellsL l).drop (j * sz)).take sz = x.cells.toList := by
 induction l generalizing j with
 | nil => simp at hx
 | cons a l ih =>
  have ha : a.cells.toList.length = sz := by rw [Array.length_toList]; exact h a (by simp)
  cases j with
  | zero =>
   simp only [List.getElem?_cons_zero, Option.some.injEq] at hx
   subst hx
   simp only [cellsL, List.flatMap_cons, Nat.zero_mul, List.drop_zero]
   rw [List.take_append_of_le_length (by omega), List.take_of_length_le (by omega)]
  | succ j =>
   rw [List.getElem?_cons_succ] at hx
   have := ih (fun x hx => h x (by simp [hx])) hx
   simp only [cellsL, List.flatMap_cons] at this ⊢
   rw [Nat.add_mul, Nat.one_mul, Nat.add_comm, ← List.drop_drop, List.drop_left' ha]
   exact this
theorem zar3 {sz : Nat} {l : List Value} (h : ∀ x ∈ l, x.cells.size = sz) (j : Nat) : cellsL (l.drop j) = (cellsL l).drop (j * sz) := by
 induction l generalizing j with
 | nil => simp [cellsL]
 | cons a l ih =>
  have ha : a.cells.toList.length = sz := by rw [Array.length_toList]; exact h a (by simp)
  cases j with
  | zero => simp
  | succ j =>
   have := ih (fun x hx => h x (by simp [hx])) j
   simp only [List.drop_succ_cons]
   rw [this]
   simp only [cellsL, List.flatMap_cons]
   rw [Nat.add_mul, Nat.one_mul, Nat.add_comm (j * sz), ← List.drop_drop, List.drop_left' ha]
theorem zar4 {sz : Nat} {l : List Value} (h : ∀ x ∈ l, x.cells.size = sz) (j : Nat) : cellsL (l.take j) = (cellsL l).take (j * sz) := by
 induction l generalizing j with
 | nil => simp [cellsL]
 | cons a l ih =>
  have ha : a.cells.toList.length = sz := by rw [Array.length_toList]; exact h a (by simp)
  cases j with
  | zero => simp [cellsL]
  | succ j =>
   have := ih (fun x hx => h x (by simp [hx])) j
   simp only [List.take_succ_cons]
   simp only [cellsL, List.flatMap_cons] at this ⊢
   rw [this, Nat.add_mul, Nat.one_mul, List.take_append, ha, List.take_of_length_le (l := a.cells.toList) (by omega), Nat.add_sub_cancel]
theorem zau2 {l : List Value} (h : okvL 0 true l = true) (i n : Nat) : okvL 0 true ((l.drop i).take n) = true := by
 rw [zaeo, List.all_eq_true] at h ⊢
 exact fun x hx => h x (List.mem_of_mem_drop (List.mem_of_mem_take hx))
theorem zanx {sz off : Nat} {l : List Value} {b : Nat} {o : Bool} {el : TypeId} {c : List Value} (hg : R.H.get b = .cells o el c) (hl : off + l.length * sz ≤ c.length) (hsz : ∀ x ∈ l, x.cells.size = sz) (hok : okvL 0 true l = true)
    (hc : RdL R (cellsL l) ((c.drop off).take (l.length * sz))) {j : Nat} {x : Value} (hx : l[j]? = some x) : Reads R x b (off + j * sz) := by
 have hj : j < l.length := (List.getElem?_eq_some_iff.1 hx).1
 have hxs := hsz x (List.mem_of_getElem? hx)
 have hjs : j * sz + sz ≤ l.length * sz := by
  have := Nat.mul_le_mul_right sz (show j + 1 ≤ l.length by omega)
  rwa [Nat.add_mul, Nat.one_mul] at this
 refine ⟨o, el, c, hg, by rw [hxs]; omega, ?_, ?_⟩
 ·rw [zaeo, List.all_eq_true] at hok; exact hok x (List.mem_of_getElem? hx)
 ·have := (hc.drop (j * sz)).take sz
  rw [zaxh hsz hx, List.drop_take, List.drop_drop, List.take_take, Nat.min_eq_left (by omega)] at this
  rw [hxs]; exact this
theorem za0h {sz off : Nat} {l : List Value} {c : List Value} (hl : off + l.length * sz ≤ c.length) (hsz : ∀ x ∈ l, x.cells.size = sz)
    (hc : RdL R (cellsL l) ((c.drop off).take (l.length * sz))) {i n : Nat} (hin : i + n ≤ l.length) : RdL R (cellsL ((l.drop i).take n)) ((c.drop (off + i * sz)).take (n * sz)) := by
 have h1 : (i + n) * sz ≤ l.length * sz := Nat.mul_le_mul_right sz hin
 rw [Nat.add_mul] at h1
 have := (hc.drop (i * sz)).take (n * sz)
 rw [List.drop_take, List.drop_drop, List.take_take, Nat.min_eq_left (by omega)] at this
 rw [zar4 (fun x hx => hsz x (List.mem_of_mem_drop hx)), zar3 hsz]
 exact this
theorem zazu (hR : HRel R S.all) {t : TypeId} {v a w : Value} (hv : Rd R v w) (h : vload P t v S = some a) : ∃ u, aload P t w R.H = some u ∧ Rd R a u := by
 unfold vload at h
 split at h
 ·rename_i x hx
  obtain rfl := hv.is_at hx
  obtain ⟨b, off, rfl, _, hr⟩ := hv.inv_at
  exact zakc hr h
 ·rename_i k j x hx
  obtain rfl := hv.is_atOwn hx
  obtain ⟨sz, b, rfl, _, _, _, _, hr⟩ := hv.inv_atOwn
  exact zakc hr h
 ·rename_i k x hx
  obtain rfl := hv.is_inOwn hx
  obtain ⟨b, off, rfl, _, _, hr⟩ := hv.inv_inOwn
  exact zakc hr h
 ·split at h
  ·rename_i ad
   obtain ⟨b, hb, hs, rfl⟩ := hv.inv_ptr
   unfold aload
   cases hu : P.underlying t with
   | none => rw [hu] at h; cases h
   | some d =>
    rw [hu] at h
    simp only at h ⊢
    by_cases ha : isAggT P t = true
    ·rw [if_pos ha] at h ⊢
     simp only [Option.bind_eq_some_iff, Option.map_eq_some_iff] at h
     obtain ⟨n, hn, c, hc, rfl⟩ := h
     simp only [hn, Option.bind_some]
     unfold vcells at hc
     unfold cellsAt
     by_cases h0 : n = 0
     ·rw [if_pos h0] at hc ⊢
      cases hc
      exact ⟨_, rfl, .agg_of .nil⟩
     ·rw [if_neg h0] at hc ⊢
      split at hc
      ·rename_i o e cc hg
       split at hc
       ·rename_i hle
        cases hc
        obtain ⟨_, c', hg', hcc, _⟩ := box_of hR hb hg
        simp only [hg']
        rw [if_pos ⟨by rw [← hcc.1]; exact hle.1, trivial⟩]
        exact ⟨_, rfl, .agg_of hcc.sub⟩
       ·cases hc
      ·cases hc
    ·rw [if_neg ha] at h ⊢
     unfold vcell at h
     unfold cellAt
     split at h
     ·rename_i o e cc hg
      rw [if_pos hs] at h
      obtain ⟨_, c', hg', hcc, _⟩ := box_of hR hb hg
      simp only [hg', if_true]
      exact hcc.get? h
     ·cases h
  ·cases h
theorem za2j {ρ : Operand → Value} {t : TypeId} {v a w : Value} {x : Operand} {i : Nat} (hv : Rd R v w) (hw : ρ x = w) (h : vfield P t v i = some a) : ∃ u, lop P ρ R.H (.fieldAddr t x i) = some u ∧ Rd R a u := by
 unfold vfield at h
 simp only [lop, hw]
 split at h
 ·rename_i y hy
  obtain rfl := hv.is_at hy
  obtain ⟨b, off, rfl, hp, hr⟩ := hv.inv_at
  rw [Option.map_eq_some_iff] at h
  obtain ⟨z, hz, rfl⟩ := h
  obtain ⟨p, h1, h2, h3⟩ := zakd hr hz
  refine ⟨_, by simp only [h1, Option.bind_some]; rw [if_pos ⟨h2, trivial⟩], h3.rd_at hp⟩
 ·rename_i k j y hy
  obtain rfl := hv.is_atOwn hy
  obtain ⟨sz, b, rfl, _, _, hρ, ht, hr⟩ := hv.inv_atOwn
  rw [Option.map_eq_some_iff] at h
  obtain ⟨z, hz, rfl⟩ := h
  obtain ⟨p, h1, h2, h3⟩ := zakd hr hz
  refine ⟨_, by simp only [h1, Option.bind_some]; rw [if_pos ⟨h2, trivial⟩], h3.rd_in hρ ht⟩
 ·rename_i k y hy
  obtain rfl := hv.is_inOwn hy
  obtain ⟨b, off, rfl, hρ, ht, hr⟩ := hv.inv_inOwn
  rw [Option.map_eq_some_iff] at h
  obtain ⟨z, hz, rfl⟩ := h
  obtain ⟨p, h1, h2, h3⟩ := zakd hr hz
  refine ⟨_, by simp only [h1, Option.bind_some]; rw [if_pos ⟨h2, trivial⟩], h3.rd_in hρ ht⟩
 ·split at h
  ·rename_i ad
   obtain ⟨b, hb, hs, rfl⟩ := hv.inv_ptr
   simp only [Option.bind_eq_some_iff] at h
   obtain ⟨p, hp, h⟩ := h
   split at h
   ·rename_i h2
    cases h
    refine ⟨_, by simp only [hp, Option.bind_some]; rw [if_pos ⟨h2.1, trivial⟩], .ptr _ _ b hb⟩
   ·cases h
  ·cases h
theorem za2n (hR : HRel R S.all) {t : TypeId} {v i a w z : Value} (hv : Rd R v w) (hi : Rd R i z) (h : vindexAddr P t v i = some a) : ∃ u, aindexAddr P t w z = some u ∧ Rd R a u := by
 unfold vindexAddr at h
 split at h
 ·rename_i k j
  obtain rfl := hi.inv_int
  split at h
  ·rename_i d sz l hx
   obtain rfl := hv.is_ro hx
   obtain ⟨b, off, rfl, h0, hh⟩ := hv.inv_ro
   simp only [Option.bind_eq_some_iff] at h
   obtain ⟨e, he, h⟩ := h
   split at h
   ·rename_i hs
    rw [Option.map_eq_some_iff] at h
    obtain ⟨x, hx, rfl⟩ := h
    rcases hh with rfl | ⟨o, el, c, hp, hM, hg, hl, hsz, hok, hc⟩
    ·simp at hx
    ·have hj : j.toNat < l.length := (List.getElem?_eq_some_iff.1 hx).1
     refine ⟨_, ?_, (zanx hg hl hsz hok hc hx).rd_at ⟨hp, d, hM⟩⟩
     rw [zagl he hs.1, if_pos ⟨hs.2, by omega⟩]
   ·cases h
  ·rename_i k' sz off l hx
   obtain rfl := hv.is_own hx
   obtain ⟨b, el, c, rfl, h0, hρ, hg, hl, hsz, hok, hc⟩ := hv.inv_own
   simp only [Option.bind_eq_some_iff] at h
   obtain ⟨e, he, h⟩ := h
   split at h
   ·rename_i hs
    rw [Option.map_eq_some_iff] at h
    obtain ⟨x, hx, rfl⟩ := h
    have hj : j.toNat < l.length := (List.getElem?_eq_some_iff.1 hx).1
    refine ⟨.pointer (some ⟨b, off * sz + j.toNat * sz, none⟩), ?_, ?_⟩
    ·rw [zagl he hs.1, if_pos ⟨hs.2, by omega⟩]
    ·obtain ⟨o', el', c', hg', hl', hok', hc'⟩ := zanx hg hl hsz hok hc hx
     rw [hg] at hg'
     cases hg'
     have hxs := hsz x (List.mem_of_getElem? hx)
     rw [← Nat.add_mul] at hl' hc' ⊢
     exact .atOwn k' sz (off + j.toNat) x b el c h0 hρ hg hxs (by omega) hok' hc'.2
   ·cases h
  ·split at h
   ·rename_i ad
    obtain ⟨b, hb, hs, rfl⟩ := hv.inv_ptr
    unfold aindexAddr at h ⊢
    split at h
    ·contradiction
    ·rename_i n e _ _ _ hu hv' hi'
     cases hv'; cases hi'
     simp only [hu]
     simp only [Option.bind_eq_some_iff] at h ⊢
     obtain ⟨sz, hsz, h⟩ := h
     rw [if_pos hs] at h
     split at h
     ·rename_i hj
      cases h
      exact ⟨_, ⟨sz, hsz, by simp [hj]⟩, .ptr _ _ b hb⟩
     ·cases h
    ·cases h
   ·cases h
 ·cases h
end
end Go.Proofs.YtliemjbafgnnbaaGreatDoor.Abs
/- All light operations over values with their slices: the plain heap answers alike. -/
namespace Go.Proofs.YtliemjbafgnnbaaGreatDoor.Abs
open Go
section
variable {R : Rl} {S : VH} {P : Program}
theorem zafh {ρ ρ' : Operand → Value} (hρ : ∀ x, Rd R (ρ x) (ρ' x)) {x : Option Operand} {d i : Int} (h : abound (x.map ρ) d = some i) : abound (x.map ρ') d = some i := by
 cases x with
 | none => exact h
 | some x =>
  simp only [Option.map_some] at h ⊢
  have := hρ x
  unfold abound at h
  split at h
  ·rename_i hh; cases hh
  ·rename_i k j hh
   cases h
   have e : ρ x = .int k i := Option.some.inj hh
   rw [e] at this
   rw [this.inv_int]
   rfl
  ·cases h
theorem cut_ok {ρ ρ' : Operand → Value} (hρ : ∀ x, Rd R (ρ x) (ρ' x)) {t : TypeId} {v a w : Value} {lo hi mx : Option Operand} (hv : Rd R v w) (h : vcut P t v (lo.map ρ) (hi.map ρ) (mx.map ρ) = some a) :
    ∃ u, aslice P t w (lo.map ρ') (hi.map ρ') (mx.map ρ') = some u ∧ Rd R a u := by
 unfold vcut at h
 split at h
 ·rename_i d sz l hx
  obtain rfl := hv.is_ro hx
  obtain ⟨b, off, rfl, h0, hh⟩ := hv.inv_ro
  simp only [Option.bind_eq_some_iff] at h
  obtain ⟨e, he, q, hq, p, hp, h⟩ := h
  split at h
  ·rename_i hs
   cases h
   have hm : mx.map ρ' = none := by
    have := hs.2.1
    cases mx with
    | none => rfl
    | some _ => cases this
   have hq' := zafh hρ hq
   have hp' := zafh hρ hp
   refine ⟨_, by rw [hm, zaf1 he hs.1, hq', hp']; simp only [Option.bind_some]; rw [if_pos hs.2.2], ?_⟩
   have hlen : ((l.drop p.toNat).take (q - p).toNat).length = (q - p).toNat := by
    rw [List.length_take, List.length_drop]; omega
   rcases hh with rfl | ⟨o, el, c, hpr, hM, hg, hl, hsz, hok, hc⟩
   ·simp only [List.drop_nil, List.take_nil] at hlen ⊢
    rw [← hlen]
    exact .roE d sz b _ h0
   ·have hin : p.toNat + (q - p).toNat ≤ l.length := by omega
    have hr := za0h hl hsz hc hin
    have hin' := Nat.mul_le_mul_right sz hin
    rw [Nat.add_mul] at hin'
    have hsz' : ∀ x ∈ (l.drop p.toNat).take (q - p).toNat, x.cells.size = sz := fun x hx => hsz x (List.mem_of_mem_drop (List.mem_of_mem_take hx))
    have hok' := zau2 hok p.toNat (q - p).toNat
    generalize (l.drop p.toNat).take (q - p).toNat = L at hlen hr hsz' hok' ⊢
    rw [← hlen] at hr hin' ⊢
    exact .ro d sz L b (off + p.toNat * sz) o el c h0 hpr hM hg (by omega) hsz' hok' hr.2
  ·cases h
 ·rename_i k sz off l hx
  obtain rfl := hv.is_own hx
  obtain ⟨b, el, c, rfl, h0, hρk, hg, hl, hsz, hok, hc⟩ := hv.inv_own
  simp only [Option.bind_eq_some_iff] at h
  obtain ⟨e, he, q, hq, p, hp, h⟩ := h
  split at h
  ·rename_i hs
   cases h
   have hm : mx.map ρ' = none := by
    have := hs.2.1
    cases mx with
    | none => rfl
    | some _ => cases this
   have hq' := zafh hρ hq
   have hp' := zafh hρ hp
   refine ⟨_, by rw [hm, zaf1 he hs.1, hq', hp']; simp only [Option.bind_some]; rw [if_pos hs.2.2], ?_⟩
   have hlen : ((l.drop p.toNat).take (q - p).toNat).length = (q - p).toNat := by
    rw [List.length_take, List.length_drop]; omega
   have hin : p.toNat + (q - p).toNat ≤ l.length := by omega
   have hr := za0h hl hsz hc hin
   have hin' := Nat.mul_le_mul_right sz hin
   rw [Nat.add_mul] at hin'
   have hsz' : ∀ x ∈ (l.drop p.toNat).take (q - p).toNat, x.cells.size = sz := fun x hx => hsz x (List.mem_of_mem_drop (List.mem_of_mem_take hx))
   have hok' := zau2 hok p.toNat (q - p).toNat
   generalize (l.drop p.toNat).take (q - p).toNat = L at hlen hr hsz' hok' ⊢
   rw [← hlen] at hr hin' ⊢
   rw [← Nat.add_mul] at hr ⊢
   exact .own k sz (off + p.toNat) L b el c h0 hρk hg (by rw [Nat.add_mul]; omega) hsz' hok' hr.2
  ·cases h
 ·have hm : ∀ {mx : Option Operand}, mx.map ρ = none → mx.map ρ' = none := by
   intro mx this
   cases mx with
   | none => rfl
   | some _ => cases this
  split at h
  ·rw [hv.inv_slice0]
   simp only [Option.bind_eq_some_iff] at h
   obtain ⟨e, he, q, hq, p, hp, h⟩ := h
   split at h
   ·rename_i hs
    cases h
    obtain ⟨sz, hsz⟩ := Option.isSome_iff_exists.1 hs.1
    exact ⟨_, by rw [hm hs.2.1, zamz he hsz, zafh hρ hq, zafh hρ hp]; simp only [Option.bind_some]; rw [if_pos hs.2.2], .scal _ rfl⟩
   ·cases h
  ·rw [hv.inv_string]
   split at h
   ·rename_i hu
    simp only [Option.bind_eq_some_iff] at h
    obtain ⟨q, hq, p, hp, h⟩ := h
    split at h
    ·rename_i hs
     cases h
     exact ⟨_, by rw [hm hs.1, zatk hu, zafh hρ hq, zafh hρ hp]; simp only [Option.bind_some]; rw [if_pos hs.2], .scal _ rfl⟩
    ·cases h
   ·cases h
  ·cases h
theorem len_ok {t : TypeId} {v a w : Value} (hv : Rd R v w) (h : vlen P t v = some a) : (∀ H, alen P t w H = some a) ∧ ∃ n : Nat, a = .int .i64 n := by
 unfold vlen at h
 split at h
 ·rename_i d sz l hx
  obtain rfl := hv.is_ro hx
  obtain ⟨b, off, rfl, _⟩ := hv.inv_ro
  split at h
  ·rename_i he
   cases h
   obtain ⟨e, he⟩ := Option.isSome_iff_exists.1 he
   exact ⟨fun H => zahx he _ _ _, _, rfl⟩
  ·cases h
 ·rename_i k sz off l hx
  obtain rfl := hv.is_own hx
  obtain ⟨b, el, c, rfl, _⟩ := hv.inv_own
  split at h
  ·rename_i he
   cases h
   obtain ⟨e, he⟩ := Option.isSome_iff_exists.1 he
   exact ⟨fun H => zahx he _ _ _, _, rfl⟩
  ·cases h
 ·split at h
  ·rw [hv.inv_slice0]
   split at h
   ·rename_i he
    cases h
    obtain ⟨e, he⟩ := Option.isSome_iff_exists.1 he
    exact ⟨fun H => zahx he _ _ _, 0, rfl⟩
   ·cases h
  ·rw [hv.inv_string]
   split at h
   ·rename_i hu
    cases h
    exact ⟨fun H => zatf hu _, _, rfl⟩
   ·cases h
  ·cases h
theorem nil_ok {ρ : Operand → Value} {x : Operand} {v a w : Value} (hv : Rd R v w) (hw : ρ x = w) (h : vnil v = some a) : ∃ u, lop P ρ R.H (.nilCheck x) = some u ∧ Rd R a u := by
 unfold vnil at h
 simp only [lop, hw]
 split at h
 ·rename_i y hy
  obtain rfl := hv.is_at hy
  cases h
  obtain ⟨b, off, rfl, _⟩ := hv.inv_at
  exact ⟨_, rfl, hv⟩
 ·rename_i k j y hy
  obtain rfl := hv.is_atOwn hy
  cases h
  obtain ⟨sz, b, rfl, _⟩ := hv.inv_atOwn
  exact ⟨_, rfl, hv⟩
 ·rename_i k y hy
  obtain rfl := hv.is_inOwn hy
  cases h
  obtain ⟨b, off, rfl, _⟩ := hv.inv_inOwn
  exact ⟨_, rfl, hv⟩
 ·split at h
  ·cases h
   obtain ⟨b, hb, hs, rfl⟩ := hv.inv_ptr
   exact ⟨_, rfl, hv⟩
  ·rename_i f x y _ _ _
   cases h
   obtain ⟨x⟩ := x
   obtain ⟨y⟩ := y
   obtain ⟨x', y', rfl, _⟩ := hv.inv_clo
   exact ⟨_, rfl, hv⟩
  ·cases h
theorem zalm {v w : Value} (hv : Rd R v w) (h : isPtr v = true) : ∃ a, w = .pointer (some a) := by
 unfold isPtr at h
 split at h
 ·rename_i y hy
  obtain rfl := hv.is_at hy
  obtain ⟨b, off, rfl, _⟩ := hv.inv_at
  exact ⟨_, rfl⟩
 ·rename_i k j y hy
  obtain rfl := hv.is_atOwn hy
  obtain ⟨sz, b, rfl, _⟩ := hv.inv_atOwn
  exact ⟨_, rfl⟩
 ·rename_i k y hy
  obtain rfl := hv.is_inOwn hy
  obtain ⟨b, off, rfl, _⟩ := hv.inv_inOwn
  exact ⟨_, rfl⟩
 ·split at h
  ·obtain ⟨b, hb, hs, rfl⟩ := hv.inv_ptr
   exact ⟨_, rfl⟩
  ·cases h
theorem za2k (n : Nat) (a : Addr) : flat n (.pointer (some a)) = false := by cases n <;> rfl
theorem zauc (n : Nat) (a : Addr) (k m : Nat) : flat n (.slice (some a) k m) = false := by cases n <;> rfl
theorem zatc {op : BinOp} {t : TypeId} {x y : Operand} {a : Addr} {d : TypeId} (hu : P.underlying t = some (.pointer d)) :
    abin P .eql t x y (.pointer (some a)) (.pointer none) = some (.bool false) ∧ abin P .neq t x y (.pointer (some a)) (.pointer none) = some (.bool true) := by
 constructor <;> (unfold abin; simp [aggVal, za2k, hu])
theorem zazf {t : TypeId} {x y : Operand} {a : Addr} {k m : Nat} {e : TypeId} (hu : elemT P t = some e) :
    abin P .eql t x y (.slice (some a) k m) (.slice none 0 0) = some (.bool false) ∧ abin P .neq t x y (.slice (some a) k m) (.slice none 0 0) = some (.bool true) := by
 constructor <;> (unfold abin; simp [aggVal, zauc, zadj hu])
theorem zair {o : Option Value} {a : Value} (h : onlyFlat o = some a) : flat 8 a = true := by
 unfold onlyFlat at h
 split at h
 ·split at h
  ·rename_i hf; cases h; exact hf
  ·cases h
 ·cases h
theorem Rd.of_flat : ∀ (n : Nat) (v : Value), flat n v = true → Rd R v v := by
 intro n
 induction n with
 | zero =>
  intro v hf
  by_cases hs : isScal v = true
  ·exact .scal v hs
  ·exfalso
   cases v with
   | pointer a => cases a <;> simp_all [isScal, flat]
   | map a => cases a <;> simp_all [isScal, flat]
   | slice a n c => cases a <;> cases n <;> cases c <;> simp_all [isScal, flat]
   | _ => simp_all [isScal, flat]
 | succ n ih =>
  intro v hf
  by_cases hs : isScal v = true
  ·exact .scal v hs
  ·cases v with
   | pointer a => cases a <;> simp_all [isScal, flat]
   | map a => cases a <;> simp_all [isScal, flat]
   | slice a n c => cases a <;> cases n <;> cases c <;> simp_all [isScal, flat]
   | iface t v => exact .iface t v v (ih v (by simpa [flat] using hf))
   | agg x =>
    obtain ⟨x⟩ := x
    simp only [flat, List.all_eq_true, Bool.and_eq_true] at hf
    have : ∀ l : List Value, (∀ v ∈ l, flat n v = true) → RdL R l l := by
     intro l
     induction l with
     | nil => intro _; exact .nil
     | cons a l ihl => intro h; exact .cons (ih a (h a (by simp))) (ihl fun v hv => h v (by simp [hv]))
    exact .agg_of (this x fun v hv => (hf v hv).1)
   | _ => simp_all [isScal, flat]
theorem zaw5 {op : BinOp} {t : TypeId} {x y : Operand} {a b r : Value} (h : abin P op t x y a b = some r) (ha : flat 8 a = true) (hb : flat 8 b = true) : flat 8 r = true := by
 unfold abin at h
 split at h
 ·split at h
  ·split at h
   ·cases h
   ·rw [Option.map_eq_some_iff] at h; obtain ⟨_, _, rfl⟩ := h; rfl
  ·split at h
   ·cases h
   ·rw [Option.map_eq_some_iff] at h; obtain ⟨_, _, rfl⟩ := h; rfl
  ·cases h
 ·rw [if_pos (by simp [ha, hb])] at h
  exact zair h
theorem zans {P : Program} {t u : TypeId} {ms : Array (String × TypeId)} {v : Value} (hu : P.underlying t = some (.interface ms)) : pureRun P (Op.equal t (.iface u v) .nilIface) = some false := by
 rw [zagn]; generalize 9999 = d
 simp [Op.equalIn, underlying, program, pureRun, hu, bind, Sem.bind, pure]
theorem zalf {P : Program} {α β : Type} (f : α → β) : ∀ (s : Sem α) (a : α), pureRun P s = some a → pureRun P (f <$> s) = some (f a) := by
 intro s
 induction s with
 | pure a => intro b h; simp only [pureRun] at h; cases h; rfl
 | program k ih => intro b h; simp only [pureRun] at h; exact ih P b h
 | _ => intro b h; simp [pureRun] at h
theorem zar9 {v : Value} {t : TypeId} : aggVal (.iface t v) = false := rfl
theorem zajj {P : Program} {t u : TypeId} {ms : Array (String × TypeId)} {x y : Operand} {v : Value} (hu : P.underlying t = some (.interface ms)) : abin P .eql t x y (.iface u v) .nilIface = some (.bool false) ∧ abin P .neq t x y (.iface u v) .nilIface = some (.bool true) := by
 have h1 : pureRun P (do eqGuard .eql t x y (.iface u v) .nilIface; binOp .eql t (.iface u v) .nilIface) = some (.bool false) := by
  simp only [eqGuard, binOp]
  simp
  exact zalf _ _ _ (zans hu)
 have h2 : pureRun P (do eqGuard .neq t x y (.iface u v) .nilIface; binOp .neq t (.iface u v) .nilIface) = some (.bool true) := by
  simp only [eqGuard, binOp]
  simp
  exact zalf (fun b => Value.bool !b) _ _ (zans hu)
 unfold abin
 simp only [zar9, Bool.false_and, Bool.false_eq_true, if_false]
 by_cases hf : (flat 8 (.iface u v) && flat 8 .nilIface) = true
 ·rw [if_pos hf, if_pos hf, h1, h2]; exact ⟨rfl, rfl⟩
 ·rw [if_neg hf, if_neg hf]; simp [hu]
theorem Rd.inv_iface {t : TypeId} {v u : Value} (h : Rd R (.iface t v) u) : ∃ w, u = .iface t w ∧ Rd R v w := by
 cases h with
 | iface _ _ w h => exact ⟨w, rfl, h⟩
 | scal _ hs => simp [isScal] at hs
theorem bin_ok {op : BinOp} {t : TypeId} {x y : Operand} {a b r a' b' : Value} (ha : Rd R a a') (hb : Rd R b b') (h : vbin P op t x y a b = some r) : ∃ u, abin P op t x y a' b' = some u ∧ Rd R r u := by
 unfold vbin at h
 split at h
 ·rename_i hc
  simp only [Bool.and_eq_true] at hc
  have hb' : b' = .slice none 0 0 := by
   have := hc.2
   unfold isNilSlice at this
   split at this
   ·exact hb.inv_slice0
   ·cases this
  subst hb'
  have hsl : ∃ ad n m, a' = .slice (some ad) n m := by
   have := hc.1
   unfold isSl at this
   split at this
   ·rename_i d sz l hx
    obtain rfl := ha.is_ro hx
    obtain ⟨b, off, rfl, _⟩ := ha.inv_ro
    exact ⟨_, _, _, rfl⟩
   ·rename_i k sz off l hx
    obtain rfl := ha.is_own hx
    obtain ⟨b, el, c, rfl, _⟩ := ha.inv_own
    exact ⟨_, _, _, rfl⟩
   ·cases this
  obtain ⟨ad, n, m, rfl⟩ := hsl
  split at h
  ·rename_i e he
   split at h
   ·cases h
   ·cases h
   ·cases h; exact ⟨_, (zazf he).1, .bool _⟩
  ·rename_i e he
   split at h
   ·cases h
   ·cases h
   ·cases h; exact ⟨_, (zazf he).2, .bool _⟩
  ·cases h
 ·rename_i hns
  split at h
  ·rename_i hf
   simp only [Bool.and_eq_true] at hf
   rw [ha.flat_eq 8 _ _ hf.1, hb.flat_eq 8 _ _ hf.2]
   exact ⟨r, h, .of_flat 8 r (zaw5 h hf.1 hf.2)⟩
  ·rename_i hnf
   split at h
   ·rename_i d hu
    split at h
    ·rename_i hp
     cases h
     obtain ⟨ad, rfl⟩ := zalm ha hp
     rw [hb.inv_scal rfl]
     exact ⟨_, (zatc (op := .eql) hu).1, .bool _⟩
    ·cases h
   ·rename_i d hu
    split at h
    ·rename_i hp
     cases h
     obtain ⟨ad, rfl⟩ := zalm ha hp
     rw [hb.inv_scal rfl]
     exact ⟨_, (zatc (op := .eql) hu).2, .bool _⟩
    ·cases h
   ·rename_i d hu
    split at h
    ·cases h
     obtain ⟨w, rfl, _⟩ := ha.inv_iface
     rw [hb.inv_scal rfl]
     exact ⟨_, (zajj hu).1, .bool _⟩
    ·cases h
   ·rename_i d hu
    split at h
    ·cases h
     obtain ⟨w, rfl, _⟩ := ha.inv_iface
     rw [hb.inv_scal rfl]
     exact ⟨_, (zajj hu).2, .bool _⟩
    ·cases h
   ·cases h
theorem zatq {l : List Value} {bs : List UInt8} (h : bytesOfCells l = some bs) {c : List Value} (hsz : ∀ x ∈ l, x.cells.size = 1) (hc : RdL R (cellsL l) c) : bytesOfCells c = some bs := by
 induction l generalizing bs c with
 | nil => have : c = [] := by have := hc.1; simpa [cellsL] using this.symm
          subst this; exact h
 | cons a l ih =>
  cases a with
  | int k n =>
   have e1 : cellsL (Value.int k n :: l) = .int k n :: cellsL l := rfl
   rw [e1] at hc
   cases c with
   | nil => have := hc.1; simp at this
   | cons u c =>
    obtain rfl := hc.head.inv_int
    cases k with
    | u8 =>
     simp only [bytesOfCells, Option.map_eq_some_iff] at h ⊢
     obtain ⟨bs', h1, h2⟩ := h
     exact ⟨bs', ih h1 (fun x hx => hsz x (by simp [hx])) hc.tail, h2⟩
    | _ => exact absurd (show none = some bs from h) (by simp)
  | _ => exact absurd (show none = some bs from h) (by simp)
theorem zazg {s t : TypeId} {v : Value} (hf : flat 8 v = true) (H H' : Hp) : aconv P s t v H = aconv P s t v H' := by
 unfold aconv
 split
 ·rfl
 ·simp [zauc] at hf
 ·rfl
 ·rfl
 ·rfl
theorem zatd {s t : TypeId} {v a : Value} {H : Hp} (h : aconv P s t v H = some a) (hf : flat 8 v = true) : flat 8 a = true := by
 unfold aconv at h
 split at h
 ·split at h
  ·cases h; rfl
  ·cases h
 ·simp [zauc] at hf
 ·cases h
 ·rw [if_pos hf] at h
  exact zair h
 ·cases h
theorem za42 {s t : TypeId} {v a w : Value} (hv : Rd R v w) (h : vconv P s t v = some a) : ∃ u, aconv P s t w R.H = some u ∧ Rd R a u := by
 have fl : ∀ {v : Value}, Rd R v w → flat 8 v = true → aconv P s t v ⟨0, .tip⟩ = some a → ∃ u, aconv P s t w R.H = some u ∧ Rd R a u := by
  intro v hv hf h
  rw [hv.flat_eq 8 _ _ hf]
  exact ⟨a, by rw [zazg hf R.H ⟨0, .tip⟩]; exact h, .of_flat 8 a (zatd h hf)⟩
 unfold vconv at h
 split at h
 ·rename_i d sz l hx
  obtain rfl := hv.is_ro hx
  obtain ⟨b, off, rfl, h0, hh⟩ := hv.inv_ro
  split at h
  ·rename_i e he ht
   split at h
   ·rename_i hu
    split at h
    ·rename_i hs1
     subst hs1
     rw [Option.map_eq_some_iff] at h
     obtain ⟨bs, hb, rfl⟩ := h
     refine ⟨_, ?_, .string _⟩
     unfold aconv
     simp only [zadj he, ht, hu]
     rcases hh with rfl | ⟨o, el, c, hp, hM, hg, hl, hsz, hok, hc⟩
     ·simp only [List.length_nil, cellsAt, if_true, Option.bind_some]
      cases hb; rfl
     ·unfold cellsAt
      by_cases hn : l.length = 0
      ·have : l = [] := by simpa using hn
       subst this
       simp only [List.length_nil, if_true, Option.bind_some]
       cases hb; rfl
      ·rw [if_neg hn]
       simp only [hg]
       rw [Nat.mul_one] at hl hc
       rw [if_pos ⟨hl, trivial⟩]
       simp only [Option.bind_some, zatq hb hsz hc, Option.map_some]
    ·cases h
   ·cases h
  ·cases h
 ·rename_i k sz off l hx
  obtain rfl := hv.is_own hx
  obtain ⟨b, el, c, rfl, h0, hρk, hg, hl, hsz, hok, hc⟩ := hv.inv_own
  split at h
  ·rename_i e he ht
   split at h
   ·rename_i hu
    split at h
    ·rename_i hs1
     subst hs1
     rw [Option.map_eq_some_iff] at h
     obtain ⟨bs, hb, rfl⟩ := h
     refine ⟨_, ?_, .string _⟩
     unfold aconv
     simp only [zadj he, ht, hu]
     unfold cellsAt
     by_cases hn : l.length = 0
     ·have : l = [] := by simpa using hn
      subst this
      simp only [List.length_nil, if_true, Option.bind_some]
      cases hb; rfl
     ·rw [if_neg hn]
      simp only [hg]
      simp only [Nat.mul_one] at hl hc ⊢
      rw [if_pos ⟨hl, trivial⟩]
      simp only [Option.bind_some, zatq hb hsz hc, Option.map_some]
    ·cases h
   ·cases h
  ·cases h
 ·split at h
  ·exact fl hv rfl h
  ·split at h
   ·rename_i hf
    exact fl hv hf h
   ·cases h
end
end Go.Proofs.YtliemjbafgnnbaaGreatDoor.Abs
/- A light operation over values with their slices, whichever it is: the plain heap answers alike. -/
namespace Go.Proofs.YtliemjbafgnnbaaGreatDoor.Abs
open Go
section
variable {R : Rl} {S : VH} {P : Program}
theorem zatj {x y : List Value} (hxy : RdL R x y) {u : TypeId} {off : Nat} {v : Value} (h : apart P u ⟨x⟩ off = some v) : ∃ w, apart P u ⟨y⟩ off = some w ∧ Rd R v w := by
 unfold apart at h ⊢
 cases hu : P.underlying u with
 | none => rw [hu] at h; cases h
 | some d =>
  rw [hu] at h
  simp only at h ⊢
  by_cases ha : isAggT P u = true
  ·rw [if_pos ha] at h ⊢
   simp only [Option.bind_eq_some_iff] at h ⊢
   obtain ⟨n, hn, h⟩ := h
   split at h
   ·rename_i hl
    cases h
    refine ⟨_, ⟨n, hn, by rw [if_pos (by simpa [hxy.1] using hl)]⟩, ?_⟩
    have e : ∀ z : List Value, (Array.mk z).extract off (off + n) = ⟨(z.drop off).take n⟩ := fun z => by
     apply Array.ext'; simp [List.extract_eq_take_drop]
    rw [e, e]
    exact .agg_of hxy.sub
   ·cases h
  ·rw [if_neg ha] at h ⊢
   have h' : x[off]? = some v := by simpa using h
   obtain ⟨w, h1, h2⟩ := hxy.get? h'
   exact ⟨w, by simpa using h1, h2⟩
theorem za12 {pl : Nat → Option (Nat × Nat)} {ρ ρ' : Operand → Value} (hρ : ∀ x, Rd R (ρ x) (ρ' x)) : ∀ (l : List (Nat × Operand)) (c c' r : List Value), RdL R c c' → l.all (fun p => !isTup (ρ p.2)) = true → afill pl c (l.map fun p => (p.1, ρ p.2)) = some r →
    ∃ r', afill pl c' (l.map fun p => (p.1, ρ' p.2)) = some r' ∧ RdL R r r' := by
 intro l
 induction l with
 | nil => intro c c' r hc _ h; simp only [List.map_nil, afill] at h ⊢; cases h; exact ⟨c', rfl, hc⟩
 | cons p l ih =>
  intro c c' r hc ht h
  simp only [List.all_cons, Bool.and_eq_true, Bool.not_eq_true'] at ht
  simp only [List.map_cons, afill, Option.bind_eq_some_iff] at h ⊢
  obtain ⟨x, hx, h⟩ := h
  split at h
  ·rename_i hh
   obtain ⟨r', h1, h2⟩ := ih _ _ r (hc.setAll ((hρ p.2).cells ht.1) x.1) ht.2 h
   exact ⟨r', ⟨x, hx, by rw [if_pos ⟨by rw [(hρ p.2).cells_size ht.1]; exact hh.1, by rw [← hc.1]; exact hh.2⟩]; exact h1⟩, h2⟩
  ·cases h
theorem zak1 {ρ ρ' : Operand → Value} (hρ : ∀ x, Rd R (ρ x) (ρ' x)) (l : List (Nat × Operand)) (h : l.all (fun p => !isTup (ρ p.2)) = true) : l.all (fun p => !isTup (ρ' p.2)) = true := by
 simp only [List.all_eq_true, Bool.not_eq_true'] at h ⊢
 exact fun p hp => (hρ p.2).not_tup (h p hp)
theorem zapb {n : Nat} {z : Value} (hf : flat n z = true) (ht : isTup z = false) : RdL R z.cells.toList z.cells.toList := (Rd.of_flat n z hf).cells ht
theorem zajv {n : Nat} {z : Value} (hf : flat n z = true) : isTup z = false := by
 cases n <;> cases z <;> first | rfl | (simp [flat] at hf)
theorem zaie {ρ ρ' : Operand → Value} (hρ : ∀ x, Rd R (ρ x) (ρ' x)) {o : Op} {v : Value} (ho : match o with | .move _ | .assign _ | .pick .. | .build .. | .unOp .. | .makeFunc .. | .field .. | .index .. | .extract .. => True | _ => False)
    (h : lop P ρ ⟨0, .tip⟩ o = some v) : ∃ u, lop P ρ' R.H o = some u ∧ Rd R v u := by
 cases o with
 | move x => simp only [lop] at h ⊢; cases h; exact ⟨_, rfl, hρ x⟩
 | assign x => simp only [lop] at h ⊢; cases h; exact ⟨_, rfl, hρ x⟩
 | pick c a b =>
  simp only [lop] at h ⊢
  have hc := hρ c
  split at h
  ·rename_i t ht
   rw [ht] at hc
   rw [hc.inv_bool]
   cases h
   refine ⟨_, rfl, ?_⟩
   cases t
   ·exact hρ b
   ·exact hρ a
  ·cases h
 | build t ps =>
  simp only [lop, Option.bind_eq_some_iff] at h ⊢
  obtain ⟨z, hz, h⟩ := h
  split at h
  ·rename_i hh
   simp only [Bool.and_eq_true] at hh
   rw [Option.map_eq_some_iff] at h
   obtain ⟨cs, hcs, rfl⟩ := h
   obtain ⟨r', h1, h2⟩ := za12 hρ ps.toList _ _ cs (zapb hh.1.2 (zajv hh.1.2)) hh.2 hcs
   refine ⟨_, ⟨z, hz, ?_⟩, .agg_of h2⟩
   rw [if_pos (by simp only [Bool.and_eq_true]; exact ⟨hh.1, zak1 hρ _ hh.2⟩), h1]
   rfl
  ·cases h
 | unOp op t x =>
  simp only [lop] at h ⊢
  split at h
  ·rename_i hf
   rw [(hρ x).flat_eq 8 _ _ hf, if_pos hf]
   exact ⟨v, h, .of_flat 8 v (zair h)⟩
  ·cases h
 | makeFunc f a b =>
  cases f with
  | func f =>
   simp only [lop] at h ⊢
   cases h
   refine ⟨_, rfl, ?_⟩
   have h1 := RdL.map (R := R) a.toList (fun x _ => hρ x)
   have h2 := RdL.map (R := R) b.toList (fun x _ => hρ x)
   have e : ∀ (a : Array Operand) (ρ : Operand → Value), a.map ρ = ⟨a.toList.map ρ⟩ := fun a ρ => by apply Array.ext'; simp
   rw [e, e, e, e]
   exact .clo f _ _ _ _ h1.1 h2.1 h1.2 h2.2
  | _ => simp [lop] at h
 | field t x i =>
  simp only [lop] at h ⊢
  have hx := hρ x
  split at h
  ·rename_i cs hcs
   obtain ⟨cs⟩ := cs
   rw [hcs] at hx
   obtain ⟨y, hy, hxy⟩ := hx.inv_agg
   rw [hy]
   simp only [Option.bind_eq_some_iff] at h ⊢
   obtain ⟨p, hp, u, hu, h⟩ := h
   obtain ⟨w, h1, h2⟩ := zatj hxy h
   exact ⟨w, ⟨p, hp, u, hu, h1⟩, h2⟩
  ·cases h
 | index t x i =>
  simp only [lop] at h ⊢
  have hx := hρ x
  have hi := hρ i
  unfold aindex at h ⊢
  split at h
  ·rename_i s k j hu hs hj
   rw [hs] at hx
   rw [hj] at hi
   rw [hx.inv_string, hi.inv_int, hu]
   simp only
   split at h
   ·rename_i h0
    rw [if_pos h0]
    refine ⟨v, h, ?_⟩
    rw [Option.map_eq_some_iff] at h
    obtain ⟨b, _, rfl⟩ := h
    exact .int _ _
   ·cases h
  ·rename_i n e cs k j hu hs hj
   obtain ⟨cs⟩ := cs
   rw [hs] at hx
   rw [hj] at hi
   obtain ⟨y, hy, hxy⟩ := hx.inv_agg
   rw [hy, hi.inv_int, hu]
   simp only
   split at h
   ·rename_i h0
    rw [if_pos h0]
    simp only [Option.bind_eq_some_iff] at h ⊢
    obtain ⟨sz, hsz, h⟩ := h
    obtain ⟨w, h1, h2⟩ := zatj hxy h
    exact ⟨w, ⟨sz, hsz, h1⟩, h2⟩
   ·cases h
  ·cases h
 | extract x i =>
  simp only [lop] at h ⊢
  have hx := hρ x
  split at h
  ·rename_i vs hvs
   obtain ⟨vs⟩ := vs
   rw [hvs] at hx
   cases vs with
   | nil => simp at h
   | cons a l =>
    generalize ρ' x = w at hx
    cases hx with
    | tuple _ y h1 h2 =>
     have h' : (a :: l)[i]? = some v := by simpa using h
     obtain ⟨w, g1, g2⟩ := RdL.get? (x := a :: l) ⟨h1, h2⟩ h'
     exact ⟨w, by simpa using g1, g2⟩
    | scal _ hs => simp [isScal] at hs
  ·cases h
 | _ => exact ho.elim
theorem za4v {a b r a' b' : Value} (ha : Rd R a a') (hb : Rd R b b') (h : amin a b = some r) : amin a' b' = some r ∧ Rd R r r := by
 unfold amin at h
 split at h
 ·rw [ha.inv_int, hb.inv_int]
  refine ⟨h, ?_⟩
  split at h
  ·cases h; exact .int _ _
  ·cases h
 ·cases h
theorem za4u {a b r a' b' : Value} (ha : Rd R a a') (hb : Rd R b b') (h : amax a b = some r) : amax a' b' = some r ∧ Rd R r r := by
 unfold amax at h
 split at h
 ·rw [ha.inv_int, hb.inv_int]
  refine ⟨h, ?_⟩
  split at h
  ·cases h; exact .int _ _
  ·cases h
 ·cases h
theorem za0z (hR : HRel R S.all) {ρ ρ' : Operand → Value} (hρ : ∀ x, Rd R (ρ x) (ρ' x)) {o : Op} {v : Value} (hl : light P o = true) (h : vlop P ρ S o = some v) : ∃ u, lop P ρ' R.H o = some u ∧ Rd R v u := by
 cases o with
 | load t a => exact zazu hR (hρ a) h
 | fieldAddr t x i => exact za2j (hρ x) rfl h
 | indexAddr t x i => exact za2n hR (hρ x) (hρ i) h
 | slice t x lo hi mx => exact cut_ok hρ (hρ x) h
 | convert s t x => exact za42 (hρ x) h
 | nilCheck x => exact nil_ok (hρ x) rfl h
 | binOp op t x y u => exact bin_ok (hρ x) (hρ y) h
 | call c =>
  simp only [vlop] at h
  simp only [lop]
  split at h
  ·rename_i t x h1 h2 h3
   obtain ⟨g, n, rfl⟩ := len_ok (hρ x) h
   exact ⟨_, by simp only [h1, h2, h3]; exact g _, .int _ _⟩
  ·rename_i x y h1 h3
   obtain ⟨g, g2⟩ := za4v (hρ x) (hρ y) h
   exact ⟨_, by simp only [h1, h3]; exact g, g2⟩
  ·rename_i x y h1 h3
   obtain ⟨g, g2⟩ := za4u (hρ x) (hρ y) h
   exact ⟨_, by simp only [h1, h3]; exact g, g2⟩
  ·cases h
 | move x => exact zaie hρ trivial h
 | assign x => exact zaie hρ trivial h
 | pick c a b => exact zaie hρ trivial h
 | build t ps => exact zaie hρ trivial h
 | unOp op t x => exact zaie hρ trivial h
 | makeFunc f a b => exact zaie hρ trivial h
 | field t x i => exact zaie hρ trivial h
 | index t x i => exact zaie hρ trivial h
 | extract x i => exact zaie hρ trivial h
 | _ => simp [light] at hl
end
end Go.Proofs.YtliemjbafgnnbaaGreatDoor.Abs
/- A call's state over values with their slices, and how it goes on. -/
namespace Go.Proofs.YtliemjbafgnnbaaGreatDoor.Abs
open Go
def turns (g : List Turn) (v : Value) : Value := g.foldl (fun v t => mapOwn t v) v
theorem zab7 (g : Turn) (e : Env) (t : Nat) : eget (e.map (mapOwn g)) t = mapOwn g (eget e t) := by
 simp only [eget]
 exact zab8 g e t
theorem zaxn (g : List Turn) : ∀ (e : Env) (t : Nat), eget (emap g e) t = turns g (eget e t) := by
 induction g with
 | nil => intro e t; rfl
 | cons f g ih =>
  intro e t
  simp only [emap]
  rw [ih, zab7]
  rfl
theorem zapj (g g' : List Turn) (v : Value) : turns (g ++ g') v = turns g' (turns g v) := by simp [turns]
def Eff (R : Rl) (ws : List Nat) (kf : Bool) (H' : Hp) : Prop := ∀ b, b < R.H.next → (∀ i ∈ ws, R.φ[i]? ≠ some b ∧ ∀ o, R.ρ (i, some o) ≠ some b) → (kf = true → ∀ d, R.ρ (d, none) ≠ some b) → H'.get b = R.H.get b
theorem zahm (n : Nat) : ∀ l : List Value, lowvL n l = l.all (lowv n)
 | [] => rfl
 | a :: l => by simp only [lowvL, List.all_cons, zahm n l]
mutual
theorem zaj0 {n : Nat} {st : Bool} : ∀ v : Value, okv n st v = true → lowv n v = true
 | .func f x y, h => by
  cases f with
  | func i =>
   simp only [okv, Bool.and_eq_true] at h
   simp only [lowv, zai8 x h.1, zai8 y h.2, Bool.and_self]
  | _ => rfl
 | .iface t v, h => by simp only [okv] at h; simp only [lowv, zaj0 v h]
 | .agg x, h => by simp only [okv] at h; simp only [lowv, zai8 x h]
 | .tuple x, h => by simp only [okv] at h; simp only [lowv, zai8 x h]
 | .bool _, _ => rfl
 | .int .., _ => rfl
 | .float .., _ => rfl
 | .complex .., _ => rfl
 | .string _, _ => rfl
 | .pointer none, _ => rfl
 | .pointer (some a), h => h
 | .slice .., _ => rfl
 | .map _, _ => rfl
 | .chan _, _ => rfl
 | .nilFunc, _ => rfl
 | .nilIface, _ => rfl
theorem zai8 {n : Nat} {st : Bool} : ∀ x : Array Value, okvA n st x = true → lowvA n x = true
 | ⟨x⟩, h => by simp only [okvA] at h; simp only [lowvA, zaqc x h]
theorem zaqc {n : Nat} {st : Bool} : ∀ x : List Value, okvL n st x = true → lowvL n x = true
 | [], _ => rfl
 | a :: x, h => by
  simp only [okvL, Bool.and_eq_true] at h
  simp only [lowvL, zaj0 a h.1, zaqc x h.2, Bool.and_self]
end
theorem zaf6 {n : Nat} {v : Value} (h : isTok v = true) : lowv n v = true := by
 cases v with
 | func f x y =>
  cases f with
  | func i => exact absurd (show false = true from h) (by decide)
  | _ => rfl
 | _ => exact absurd (show false = true from h) (by decide)
def Low (g : Turn) : Prop := ∀ (n : Nat) (v : Value), isTok v = true → lowv n (g (view v) v) = true
theorem zauv (f : Tok → Fate) : Low (fate f) := by
 intro n v hv
 unfold fate
 split
 ·split <;> first | rfl | exact zaf6 hv
 ·split <;> first | rfl | exact zaf6 hv
 ·split <;> first | rfl | exact zaf6 hv
 ·exact zaf6 hv
mutual
theorem zao7 {g : Turn} (hg : Nice g) (hl : Low g) {n : Nat} : ∀ v : Value, lowv n v = true → lowv n (mapOwn g v) = true
 | .func f x y, h => by
  by_cases ht : isTok (Value.func f x y) = true
  ·cases f with
   | func i => exact absurd (show false = true from ht) (by decide)
   | _ => exact hl n _ ht
  ·cases f with
   | func i =>
    simp only [lowv, Bool.and_eq_true] at h
    simp only [mapOwn, lowv, zai7 hg hl x h.1, zai7 hg hl y h.2, Bool.and_self]
   | _ =>
    simp only [mapOwn]
    rw [hg _ (by simpa using ht)]; rfl
 | .iface t v, h => by simp only [lowv] at h; simp only [mapOwn, lowv, zao7 hg hl v h]
 | .agg x, h => by simp only [lowv] at h; simp only [mapOwn, lowv, zai7 hg hl x h]
 | .tuple x, h => by simp only [lowv] at h; simp only [mapOwn, lowv, zai7 hg hl x h]
 | .bool _, _ => rfl
 | .int .., _ => rfl
 | .float .., _ => rfl
 | .complex .., _ => rfl
 | .string _, _ => rfl
 | .pointer none, _ => rfl
 | .pointer (some a), h => h
 | .slice .., _ => rfl
 | .map _, _ => rfl
 | .chan _, _ => rfl
 | .nilFunc, _ => rfl
 | .nilIface, _ => rfl
theorem zai7 {g : Turn} (hg : Nice g) (hl : Low g) {n : Nat} : ∀ x : Array Value, lowvA n x = true → lowvA n (mapOwnA g x) = true
 | ⟨x⟩, h => by simp only [lowvA] at h; simp only [mapOwnA, lowvA, zaqb hg hl x h]
theorem zaqb {g : Turn} (hg : Nice g) (hl : Low g) {n : Nat} : ∀ x : List Value, lowvL n x = true → lowvL n (mapOwnL g x) = true
 | [], _ => rfl
 | a :: x, h => by
  simp only [lowvL, Bool.and_eq_true] at h
  simp only [mapOwnL, lowvL, zao7 hg hl a h.1, zaqb hg hl x h.2, Bool.and_self]
end
def LowBs (n : Nat) (bs : List Blk) : Prop := ∀ i, i < n → ∀ x ∈ cellsIn (bs.getD i .dead), lowv n x = true
structure Nxt (R R1 : Rl) (S S1 : VH) (ws : List Nat) (kf : Bool) (g : List Turn) : Prop where
 hr : HRel R1 S1.all
 pre : ∀ (i b : Nat), R.φ[i]? = some b → R1.φ[i]? = some b
 M : R1.M = R.M
 nx : R.H.next ≤ R1.H.next
 eff : Eff R ws kf R1.H
 bl : S1.base.length = S.base.length
 w1 : ∀ i ∈ S.w, i ∈ S1.w
 w2 : ∀ i ∈ ws, i < S.base.length → i ∈ S1.w
 w3 : ∀ i ∈ S1.w, i ∈ S.w ∨ i < S.base.length
 keep : ∀ i, i < S.base.length → i ∉ S1.w → ∀ o, R1.ρ (i, some o) = R.ρ (i, some o)
 tok : ∀ k b, R1.ρ k = some b → R.ρ k = some b ∨ (∃ d, R.ρ (d, none) = some b) ∨ R.H.next ≤ b
 box : ∀ (i b : Nat), R1.φ[i]? = some b → R.φ[i]? = some b ∨ (R.φ.length ≤ i ∧ R.H.next ≤ b)
 rd : ∀ v u, Rd R v u → Rd R1 (turns g v) u
 low : LowBs S.base.length S.all → LowBs S.base.length S1.all
 same : ∀ i, i < S.base.length → i ∉ S1.w → S1.all[i]? = S.all[i]?
structure VSta (n : List Blk) (R0 R : Rl) (S : VH) (e ce : Env) : Prop where
 hr : HRel R S.all
 bn : S.base.length = n.length
 bn0 : R0.φ.length = n.length
 hr0 : ∀ (i o b : Nat), R0.ρ (i, some o) = some b → i < n.length
 fr0 : ∀ d, R0.ρ (d, none) = none
 pre : ∀ (i b : Nat), R0.φ[i]? = some b → R.φ[i]? = some b
 M : R.M = R0.M
 nx : R0.H.next ≤ R.H.next
 fr : ∀ b, b < R0.H.next → (∀ i ∈ S.w, R0.φ[i]? ≠ some b ∧ ∀ o, R0.ρ (i, some o) ≠ some b) → R.H.get b = R0.H.get b
 keep : ∀ i, i < n.length → i ∉ S.w → ∀ o, R.ρ (i, some o) = R0.ρ (i, some o)
 tok : ∀ k b, R.ρ k = some b → R0.ρ k = some b ∨ R0.H.next ≤ b
 box : ∀ (i b : Nat), n.length ≤ i → R.φ[i]? = some b → R0.H.next ≤ b
 w : ∀ i ∈ S.w, i < n.length
 low : LowBs n.length S.all
 same : ∀ i, i < n.length → i ∉ S.w → S.all[i]? = n[i]?
 env : ∀ t, Rd R (eget e t) (eget ce t)
theorem VSta.next {n : List Blk} {R0 R R1 : Rl} {S S1 : VH} {e ce : Env} {ws : List Nat} {kf : Bool} {g : List Turn} (h : VSta n R0 R S e ce) (k : Nxt R R1 S S1 ws kf g) : VSta n R0 R1 S1 (emap g e) ce where
 hr := k.hr
 bn := k.bl.trans h.bn
 bn0 := h.bn0
 hr0 := h.hr0
 fr0 := h.fr0
 pre := fun i b hb => k.pre i b (h.pre i b hb)
 M := k.M.trans h.M
 nx := Nat.le_trans h.nx k.nx
 fr := by
  intro b hb hw
  rw [← h.fr b hb fun i hi => hw i (k.w1 i hi)]
  refine k.eff b (Nat.lt_of_lt_of_le hb h.nx) (fun i hi => ?_) fun _ d hd => ?_
  ·rcases Nat.lt_or_ge i n.length with hin | hin
   ·have hw' := hw i (k.w2 i hi (by rw [h.bn]; exact hin))
    refine ⟨fun hφ => hw'.1 ?_, fun o ho => ?_⟩
    ·have hl : i < R0.φ.length := by rw [h.bn0]; exact hin
     have := h.pre i _ (List.getElem?_eq_getElem hl)
     rw [hφ] at this
     rw [List.getElem?_eq_getElem hl, this]
    ·rcases h.tok _ _ ho with h1 | h1
     ·exact hw'.2 o h1
     ·omega
   ·refine ⟨fun hφ => ?_, fun o ho => ?_⟩
    ·have := h.box i b hin hφ; omega
    ·rcases h.tok _ _ ho with h1 | h1
     ·have := h.hr0 i o b h1; omega
     ·omega
  ·rcases h.tok _ _ hd with h1 | h1
   ·rw [h.fr0] at h1; cases h1
   ·omega
 keep := by
  intro i hi hw o
  rw [k.keep i (by rw [h.bn]; exact hi) hw o]
  exact h.keep i hi (fun hh => hw (k.w1 i hh)) o
 tok := by
  intro t b ht
  rcases k.tok t b ht with h1 | ⟨d, h1⟩ | h1
  ·exact h.tok t b h1
  ·rcases h.tok _ _ h1 with h2 | h2
   ·rw [h.fr0] at h2; cases h2
   ·exact .inr h2
  ·exact .inr (Nat.le_trans h.nx h1)
 box := by
  intro i b hi hb
  rcases k.box i b hb with h1 | ⟨_, h1⟩
  ·exact h.box i b hi h1
  ·exact Nat.le_trans h.nx h1
 w := by
  intro i hi
  rcases k.w3 i hi with h1 | h1
  ·exact h.w i h1
  ·rw [← h.bn]; exact h1
 low := by rw [← h.bn]; exact k.low (by rw [h.bn]; exact h.low)
 same := fun i hi hw => (k.same i (by rw [h.bn]; exact hi) hw).trans (h.same i hi fun hh => hw (k.w1 i hh))
 env := fun t => by rw [zaxn]; exact k.rd _ _ (h.env t)
theorem VSta.set {n : List Blk} {R0 R : Rl} {S : VH} {e ce : Env} (h : VSta n R0 R S e ce) {v u : Value} (hv : Rd R v u) (d : Option Tmp) : VSta n R0 R S (eput e d v) (eput ce d u) := by
 have : ∀ t, Rd R (eget (eput e d v) t) (eget (eput ce d u) t) := by
  intro t
  cases d with
  | none => exact h.env t
  | some d =>
   simp only [eput, zaak]
   split
   ·exact hv
   ·exact h.env t
 exact { h with env := this }
theorem Nxt.trans {R R1 R2 : Rl} {S S1 S2 : VH} {ws ws' : List Nat} {kf kf' : Bool} {g g' : List Turn} (h : Nxt R R1 S S1 ws kf g) (k : Nxt R1 R2 S1 S2 ws' kf' g') (he : Eff R ws' kf' R2.H) (hw : ∀ i ∈ ws, i ∈ ws') : Nxt R R2 S S2 ws' kf' (g ++ g') where
 hr := k.hr
 pre := fun i b hb => k.pre i b (h.pre i b hb)
 M := k.M.trans h.M
 nx := Nat.le_trans h.nx k.nx
 eff := he
 bl := k.bl.trans h.bl
 w1 := fun i hi => k.w1 i (h.w1 i hi)
 w2 := fun i hi hl => k.w2 i hi (by rw [h.bl]; exact hl)
 w3 := fun i hi => by
  rcases k.w3 i hi with h1 | h1
  ·exact h.w3 i h1
  ·exact .inr (by rw [← h.bl]; exact h1)
 keep := fun i hi hw o => by
  rw [k.keep i (by rw [h.bl]; exact hi) hw o]
  exact h.keep i hi (fun hh => hw (k.w1 i hh)) o
 tok := fun t b ht => by
  rcases k.tok t b ht with h1 | ⟨d, h1⟩ | h1
  ·exact h.tok t b h1
  ·rcases h.tok _ _ h1 with h2 | h2 | h2
   ·exact .inr (.inl ⟨d, h2⟩)
   ·exact .inr (.inl h2)
   ·exact .inr (.inr h2)
  ·exact .inr (.inr (Nat.le_trans h.nx h1))
 box := fun i b hb => by
  rcases k.box i b hb with h1 | ⟨h1, h2⟩
  ·exact h.box i b h1
  ·refine .inr ⟨?_, Nat.le_trans h.nx h2⟩
   rcases Nat.lt_or_ge i R.φ.length with hl | hl
   ·have := h.pre i _ (List.getElem?_eq_getElem hl)
    have := (List.getElem?_eq_some_iff.1 this).1
    omega
   ·exact hl
 rd := fun v u hv => by rw [zapj]; exact k.rd _ _ (h.rd v u hv)
 low := fun hl => by rw [← h.bl]; exact k.low (by rw [h.bl]; exact h.low hl)
 same := fun i hi hw => (k.same i (by rw [h.bl]; exact hi) hw).trans (h.same i hi fun hh => hw (k.w1 i hh))
theorem VH.all_push (S : VH) (b : Blk) : (S.push b).all = S.all ++ [b] := by simp [VH.push, VH.all]
theorem VH.all_put (S : VH) {i : Nat} (b : Blk) : (S.put i b).all = S.all.set i b := by
 unfold VH.put VH.all
 split
 ·rename_i h; simp only; rw [List.set_append, if_pos h]
 ·rename_i h; simp only; rw [List.set_append, if_neg h]
theorem VH.base_put (S : VH) (i : Nat) (b : Blk) : (S.put i b).base.length = S.base.length := by
 unfold VH.put
 split <;> simp
theorem VH.w_put (S : VH) (i : Nat) (b : Blk) : (S.put i b).w = if i < S.base.length then addW i S.w else S.w := by
 unfold VH.put
 split <;> rfl
theorem za2v {i j : Nat} {w : List Nat} : j ∈ addW i w ↔ j = i ∨ j ∈ w := by
 unfold addW
 split
 ·rename_i h
  have : i ∈ w := by simpa using h
  constructor
  ·exact .inr
  ·rintro (rfl | h) <;> assumption
 ·simp
theorem VH.mem_w_put {S : VH} {i j : Nat} {b : Blk} : j ∈ (S.put i b).w ↔ j ∈ S.w ∨ (j = i ∧ i < S.base.length) := by
 rw [VH.w_put]
 split
 ·rename_i h; rw [za2v]; constructor
  ·rintro (h1 | h1)
   ·exact .inr ⟨h1, h⟩
   ·exact .inl h1
  ·rintro (h1 | h1)
   ·exact .inr h1
   ·exact .inl h1.1
 ·rename_i h; constructor
  ·exact .inl
  ·rintro (h1 | h1)
   ·exact h1
   ·exact absurd h1.2 h
theorem VH.turn_all (g : Turn) : ∀ (bs : List Nat) (S : VH), (∀ b : Blk, ∀ i ∈ bs, True) → (S.turn g bs).all.length = S.all.length ∧ (S.turn g bs).base.length = S.base.length ∧
    (∀ i, i ∉ bs → (S.turn g bs).all.getD i .dead = S.all.getD i .dead) ∧ (∀ j, j ∈ (S.turn g bs).w ↔ j ∈ S.w ∨ (j ∈ bs ∧ j < S.base.length)) := by
 intro bs
 induction bs with
 | nil => intro S _; exact ⟨rfl, rfl, fun _ _ => rfl, fun j => by simp [VH.turn]⟩
 | cons i bs ih =>
  intro S _
  obtain ⟨h1, h2, h3, h4⟩ := ih (S.put i (mapB (mapOwn g) (S.get i))) fun _ _ _ => trivial
  simp only [VH.turn]
  refine ⟨by rw [h1, VH.all_put, List.length_set], by rw [h2, VH.base_put], fun j hj => ?_, fun j => ?_⟩
  ·simp only [List.mem_cons, not_or] at hj
   rw [h3 j hj.2, VH.all_put, List.getD_eq_getElem?_getD, List.getElem?_set_ne (fun h => hj.1 h.symm), ← List.getD_eq_getElem?_getD]
  ·rw [h4, VH.mem_w_put, VH.base_put]
   simp only [List.mem_cons]
   constructor
   ·rintro ((h | h) | h)
    ·exact .inl h
    ·exact .inr ⟨.inl h.1, h.1 ▸ h.2⟩
    ·exact .inr ⟨.inr h.1, h.2⟩
   ·rintro (h | ⟨h | h, h'⟩)
    ·exact .inl (.inl h)
    ·exact .inl (.inr ⟨h, h ▸ h'⟩)
    ·exact .inr ⟨h, h'⟩
theorem zamk (g : Turn) : ∀ (bs : List Nat) (S : VH) (i : Nat), i < S.base.length → i ∉ (S.turn g bs).w → (S.turn g bs).all[i]? = S.all[i]? := by
 intro bs
 induction bs with
 | nil => intro S i _ _; rfl
 | cons j bs ih =>
  intro S i hi hw
  simp only [VH.turn] at hw ⊢
  rw [ih _ i (by rw [VH.base_put]; exact hi) hw, VH.all_put]
  by_cases hij : j = i
  ·exfalso
   subst hij
   refine hw (((VH.turn_all g bs (S.put j (mapB (mapOwn g) (S.get j))) fun _ _ _ => trivial).2.2.2 j).2 (.inl ?_))
   exact VH.mem_w_put.2 (.inr ⟨rfl, hi⟩)
  ·rw [List.getElem?_set_ne hij]
theorem zao6 {g : Turn} (hg : Nice g) (hl : Low g) {n : Nat} : ∀ (bs : List Nat) (S : VH), LowBs n S.all → LowBs n (S.turn g bs).all := by
 intro bs
 induction bs with
 | nil => intro S h; exact h
 | cons j bs ih =>
  intro S h
  simp only [VH.turn]
  refine ih _ ?_
  intro i hi x hx
  rw [VH.all_put, List.getD_eq_getElem?_getD, List.getElem?_set] at hx
  by_cases hij : j = i
  ·subst hij
   rw [if_pos rfl] at hx
   split at hx
   ·simp only [Option.getD_some] at hx
    rw [VH.get_eq] at hx
    have h1 := h j hi
    generalize S.all.getD j .dead = B at hx h1
    cases B with
    | cells o e c =>
     simp only [mapB, cellsIn, List.mem_map] at hx
     obtain ⟨y, hy, rfl⟩ := hx
     exact zao7 hg hl y (h1 y hy)
    | _ => cases hx
   ·cases hx
  ·rw [if_neg hij, ← List.getD_eq_getElem?_getD] at hx
   exact h i hi x hx
end Go.Proofs.YtliemjbafgnnbaaGreatDoor.Abs
/- Steps of a state: own slices are let go, new blocks come. -/
namespace Go.Proofs.YtliemjbafgnnbaaGreatDoor.Abs
open Go
theorem zaft {g : Turn} {v : Value} (h : isTok v = true) : mapOwn g v = g (view v) v := by
 cases v with
 | func f x y =>
  cases f with
  | func i => exact absurd (show false = true from h) (by decide)
  | _ => rfl
 | _ => exact absurd (show false = true from h) (by decide)
theorem zacn {v : Value} {k : Tok} (h : ownTok v = some k) : ∃ sz off l, view v = .own k sz off l := by
 unfold ownTok at h
 split at h
 ·rename_i k' sz off l hv
  cases h
  exact ⟨sz, off, l, hv⟩
 ·cases h
theorem zaff {v : Value} {k : Tok} (h : ownTok v = some k) : isTok v = true := by
 obtain ⟨sz, off, l, hv⟩ := zacn h
 unfold isTok
 rw [hv]
theorem zad8 {v : Value} {k : Tok} (h : ownTok v = some k) : toks v = [k] := by
 obtain ⟨sz, off, l, hv⟩ := zacn h
 cases v with
 | func f x y =>
  cases f with
  | func i => cases hv
  | _ => simp only [toks, hv]
 | _ => cases hv
section
variable {R R1 : Rl} {S : VH}
theorem RdL.fate {f : Tok → Fate} (hs : Stays R R1) (hf : FateOk R R1 f) {c c' : List Value} (h : RdL R c c') : RdL R1 (c.map (mapOwn (fate f))) c' :=
 ⟨by simpa using h.1, fun i => by rw [zab8]; exact Rd.fate hs hf (h.2 i)⟩
theorem map_br {f : Tok → Fate} (hs : Stays R R1) (hf : FateOk R R1 f) {i : Nat} (hto : ∀ o k', f (i, some o) ≠ .to k') {B b : Blk} (h : BR R i B b) : BR R1 i (mapB (mapOwn (fate f)) B) b := by
 cases B with
 | cells o e c =>
  obtain ⟨h1, c', h2, h3, h4⟩ := h
  refine ⟨h1, c', h2, h3.fate hs hf, fun j x hx => ?_⟩
  rw [List.getElem?_map, Option.map_eq_some_iff] at hx
  obtain ⟨y, hy, rfl⟩ := hx
  rcases h4 j y hy with h5 | h5
  ·left; rw [zabe (zab4 f) y h5]; exact h5
  ·have ht := zaff h5
   rw [zaft ht]
   obtain ⟨sz, off, l, hv⟩ := zacn h5
   rw [hv]
   simp only [Abs.fate]
   cases hk : f (i, some j) with
   | keep => right; exact h5
   | drop => left; rfl
   | thaw d => left; rfl
   | to k' => exact absurd hk (hto j k')
 | _ => trivial
theorem zan2 {f : Tok → Fate} {i : Nat} (hk : ∀ o, f (i, some o) = .keep) {B b : Blk} (h : BR R i B b) : mapB (mapOwn (fate f)) B = B := by
 cases B with
 | cells o e c =>
  obtain ⟨h1, c', h2, h3, h4⟩ := h
  simp only [mapB]
  congr 1
  apply List.ext_getElem?
  intro j
  rw [List.getElem?_map]
  cases hj : c[j]? with
  | none => rfl
  | some x =>
   simp only [Option.map_some]
   congr 1
   rcases h4 j x hj with h5 | h5
   ·exact zabe (zab4 f) x h5
   ·rw [zaft (zaff h5)]
    obtain ⟨sz, off, l, hv⟩ := zacn h5
    rw [hv]
    simp only [Abs.fate, hk]
 | _ => rfl
theorem za0p {g : Turn} (hc : ∀ (i b : Nat) B, BR R1 i B (R1.H.get b) → BR R1 i (mapB (mapOwn g) B) (R1.H.get b)) : ∀ (bs : List Nat) (S : VH),
    (∀ (i b : Nat), R1.φ[i]? = some b → i ∉ bs → BR R1 i (S.all.getD i .dead) (R1.H.get b)) → (∀ (i b : Nat), R1.φ[i]? = some b → BR R1 i (mapB (mapOwn g) (S.all.getD i .dead)) (R1.H.get b)) →
    ∀ (i b : Nat), R1.φ[i]? = some b → BR R1 i ((S.turn g bs).all.getD i .dead) (R1.H.get b) := by
 intro bs
 induction bs with
 | nil => intro S h1 _ i b hb; exact h1 i b hb (by simp)
 | cons j bs ih =>
  intro S h1 h2 i b hb
  simp only [VH.turn]
  have hget : ∀ i, (S.put j (mapB (mapOwn g) (S.get j))).all.getD i .dead = if i = j then mapB (mapOwn g) (S.all.getD i .dead) else S.all.getD i .dead := by
   intro i
   rw [VH.all_put, VH.get_eq, List.getD_eq_getElem?_getD, List.getElem?_set]
   by_cases hij : j = i
   ·subst hij
    rw [if_pos rfl, if_pos rfl]
    by_cases hl : j < S.all.length
    ·rw [if_pos hl]; rfl
    ·rw [if_neg hl, List.getD_eq_getElem?_getD, List.getElem?_eq_none (by omega)]; rfl
   ·rw [if_neg hij, if_neg (fun h => hij h.symm), ← List.getD_eq_getElem?_getD]
  refine ih _ (fun i b hb hi => ?_) (fun i b hb => ?_) i b hb
  ·rw [hget]
   split
   ·exact h2 i b hb
   ·rename_i hij; exact h1 i b hb (by simp [hij, hi])
  ·rw [hget]
   split
   ·exact hc i b _ (h2 i b hb)
   ·exact h2 i b hb
theorem zaus (S : VH) (g : Turn) (bs : List Nat) : (S.turn g bs).all.length = S.all.length := (VH.turn_all g bs S fun _ _ _ => trivial).1
def Rl.less (R : Rl) (ks : List Tok) : Rl := { R with ρ := fun k => if k ∈ ks then none else R.ρ k }
theorem zaut (R : Rl) (ks : List Tok) : Stays R (R.less ks) where
 φ := fun i b h => h
 prot := fun b h => ⟨⟨h.1, h.2.1, fun k hk => by
  simp only [Rl.less] at hk
  split at hk
  ·cases hk
  ·exact h.2.2 k hk⟩, rfl⟩
 M := fun d b _ h => h
theorem zays {bs : List Blk} (hr : HRel R bs) (ks : List Tok) : FateOk R (R.less ks) (fun k => if k ∈ ks then .thaw 0 else .keep) where
 keep := fun k b hk hf => by
  split at hf
  ·cases hf
  ·rename_i h; exact ⟨by simp only [Rl.less, h, if_false]; exact hk, rfl⟩
 thaw := fun k b d hk hf => by
  split at hf
  ·rename_i h
   cases hf
   refine ⟨⟨(hr.sep k b hk).2, (hr.sep k b hk).1, fun k' hk' => ?_⟩, hr.own k b hk, rfl⟩
   simp only [Rl.less] at hk'
   split at hk'
   ·cases hk'
   ·rename_i h'
    have := hr.inj k k' b hk hk'
    subst this
    exact h' h
  ·cases hf
 to := fun k b k' hk hf => by
  split at hf <;> cases hf
theorem zak6 {ks : List Tok} {i o : Nat} (h : (i, some o) ∈ ks) : i ∈ boxesOf ks := by
 simp only [boxesOf, List.mem_filterMap]
 exact ⟨(i, some o), h, rfl⟩
theorem zag9 (hr : HRel R S.all) (ks : List Tok) (hl : ∀ k ∈ ks, k.2.isSome = true → k.1 < S.all.length) : Nxt R (R.less ks) S (S.thaw ks) [] false [Abs.thaw ks] := by
 have hs := zaut R ks
 have hf := zays hr ks
 have hf' : FateOk (R.less ks) (R.less ks) (fun k => if k ∈ ks then .thaw 0 else .keep) := by
  constructor
  ·intro k b h _; exact ⟨h, rfl⟩
  ·intro k b d h hh
   split at hh
   ·rename_i hk; simp only [Rl.less, hk, if_true] at h; cases h
   ·cases hh
  ·intro k b k' h hh; split at hh <;> cases hh
 have hs' : Stays (R.less ks) (R.less ks) := ⟨fun _ _ h => h, fun _ h => ⟨h, rfl⟩, fun _ _ _ h => h⟩
 have hto : ∀ (i o : Nat) (k' : Tok), (fun k => if k ∈ ks then Fate.thaw 0 else Fate.keep) (i, some o) ≠ .to k' := by
  intro i o k' h
  simp only at h
  split at h <;> cases h
 obtain ⟨t1, t2, t3, t4⟩ := VH.turn_all (Abs.thaw ks) (boxesOf ks) S fun _ _ _ => trivial
 refine { hr := ?_, pre := fun i b h => h, M := rfl, nx := Nat.le_refl _, eff := fun b _ _ _ => rfl, bl := t2, w1 := fun i hi => (t4 i).2 (.inl hi), w2 := fun i hi => (by cases hi), w3 := fun i hi => ?_, keep := ?_, tok := ?_, box := fun i b h => .inl h, rd := ?_, low := zao6 (zab4 _) (zauv _) _ S, same := zamk _ _ S }
 ·refine { len := by rw [show (S.thaw ks).all.length = S.all.length from t1]; exact hr.len, nodup := hr.nodup, lt := hr.lt, inj := ?_, sep := ?_, fr := hr.fr, dom := ?_, own := ?_, blk := ?_ }
  ·intro k k' b h1 h2
   simp only [Rl.less] at h1 h2
   split at h1
   ·cases h1
   ·split at h2
    ·cases h2
    ·exact hr.inj k k' b h1 h2
  ·intro k b h
   simp only [Rl.less] at h
   split at h
   ·cases h
   ·exact hr.sep k b h
  ·intro i o b h
   simp only [Rl.less] at h
   split at h
   ·cases h
   ·exact hr.dom i o b h
  ·intro k b h
   simp only [Rl.less] at h
   split at h
   ·cases h
   ·exact hr.own k b h
  ·refine za0p (R1 := R.less ks) (fun i b B hB => map_br hs' hf' (hto i) hB) (boxesOf ks) S (fun i b hb hi => ?_) (fun i b hb => map_br hs hf (hto i) (hr.blk i b hb))
   have hk : ∀ o, (fun k => if k ∈ ks then Fate.thaw 0 else Fate.keep) (i, some o) = .keep := by
    intro o
    simp only
    rw [if_neg]
    exact fun h => hi (zak6 h)
   have := map_br hs hf (hto i) (hr.blk i b hb)
   rw [zan2 hk (hr.blk i b hb)] at this
   exact this
 ·rcases (t4 i).1 hi with h | h
  ·exact .inl h
  ·exact .inr h.2
 ·intro i hi hw o
  simp only [Rl.less]
  rw [if_neg]
  intro h
  exact hw ((t4 i).2 (.inr ⟨zak6 h, hi⟩))
 ·intro k b h
  simp only [Rl.less] at h
  split at h
  ·cases h
  ·exact .inl h
 ·intro v u h
  exact Rd.fate hs hf h
theorem zafq {R R1 : Rl} (hφ : ∀ (i b : Nat), R.φ[i]? = some b → R1.φ[i]? = some b) (hφ' : ∀ b ∈ R1.φ, b ∈ R.φ ∨ R.H.next ≤ b) (hρ : ∀ k b, R1.ρ k = some b → R.ρ k = some b ∨ R.H.next ≤ b) (hM : R1.M = R.M) (hn : R.H.next ≤ R1.H.next) (hg : ∀ b, R.prot b → R1.H.get b = R.H.get b) : Stays R R1 where
 φ := hφ
 prot := fun b h => ⟨⟨Nat.lt_of_lt_of_le h.1 hn, fun hb => by
  rcases hφ' b hb with h1 | h1
  ·exact h.2.1 h1
  ·have := h.1; omega, fun k hk => by
  rcases hρ k b hk with h1 | h1
  ·exact h.2.2 k h1
  ·have := h.1; omega⟩, hg b h⟩
 M := fun d b _ h => by rw [hM]; exact h
end
mutual
theorem zai9 : ∀ v : Value, mapOwn (fun _ v => v) v = v
 | .func f x y => by
  cases f with
  | func i => simp only [mapOwn, zah7 x, zah7 y]
  | _ => rfl
 | .iface t v => by simp only [mapOwn, zai9 v]
 | .agg x => by simp only [mapOwn, zah7 x]
 | .tuple x => by simp only [mapOwn, zah7 x]
 | .bool _ => rfl
 | .int .. => rfl
 | .float .. => rfl
 | .complex .. => rfl
 | .string _ => rfl
 | .pointer _ => rfl
 | .slice .. => rfl
 | .map _ => rfl
 | .chan _ => rfl
 | .nilFunc => rfl
 | .nilIface => rfl
theorem zah7 : ∀ x : Array Value, mapOwnA (fun _ v => v) x = x
 | ⟨x⟩ => by simp only [mapOwnA, zank x]
theorem zank : ∀ x : List Value, mapOwnL (fun _ v => v) x = x
 | [] => rfl
 | a :: x => by simp only [mapOwnL, zai9 a, zank x]
end
section
variable {R R1 : Rl} {S : VH}
theorem Rd.same (hs : Stays R R1) (hf : FateOk R R1 fun _ => .keep) {v u : Value} (h : Rd R v u) : Rd R1 v u := by
 have := Rd.fate hs hf h
 have e : (Abs.fate fun _ => Fate.keep) = fun _ v => v := by
  funext w v
  unfold Abs.fate
  split <;> rfl
 rwa [e, zai9] at this
theorem RdL.same (hs : Stays R R1) (hf : FateOk R R1 fun _ => .keep) {x y : List Value} (h : RdL R x y) : RdL R1 x y := ⟨h.1, fun i => Rd.same hs hf (h.2 i)⟩
theorem BR.same (hs : Stays R R1) (hf : FateOk R R1 fun _ => .keep) {i : Nat} {B b : Blk} (h : BR R i B b) : BR R1 i B b := by
 cases B with
 | cells o e c =>
  obtain ⟨h1, c', h2, h3, h4⟩ := h
  exact ⟨h1, c', h2, h3.same hs hf, h4⟩
 | _ => trivial
theorem zah5 {R R1 : Rl} {bs : List Blk} (hr : HRel R bs) (hρ : ∀ k b, R.ρ k = some b → R1.ρ k = some b ∧ R1.H.get b = R.H.get b) : FateOk R R1 fun _ => .keep where
 keep := fun k b h _ => hρ k b h
 thaw := fun k b d _ h => by cases h
 to := fun k b k' _ h => by cases h
theorem zavb (hr : HRel R S.all) {t : TypeId} {c c' : List Value} (hc : RdL { R with φ := R.φ ++ [R.H.next], H := R.H.push (.cells true (bxT t) c') } c c') (hrest : ∀ (j : Nat) x, c[j]? = some x → toks x = [] ∨ ownTok x = some (S.all.length, some j)) :
    Nxt R { R with φ := R.φ ++ [R.H.next], H := R.H.push (.cells true (bxT t) c') } S (S.push (.cells true t c)) [] false [] ∧ (R.φ ++ [R.H.next])[S.next]? = some R.H.next := by
 have hlt : ∀ b, b < R.H.next → (R.H.push (.cells true (bxT t) c')).get b = R.H.get b := fun b hb => by rw [zaaj, if_neg (by omega)]
 have hs : Stays R { R with φ := R.φ ++ [R.H.next], H := R.H.push (.cells true (bxT t) c') } := by
  refine zafq (fun i b hb => ?_) (fun b hb => ?_) (fun k b h => .inl h) rfl (by rw [zaam]; omega) fun b hb => hlt b hb.1
  ·rw [List.getElem?_append_left (List.getElem?_eq_some_iff.1 hb).1]; exact hb
  ·simp only [List.mem_append, List.mem_singleton] at hb
   rcases hb with h | h
   ·exact .inl h
   ·exact .inr (by omega)
 have hf : FateOk R { R with φ := R.φ ++ [R.H.next], H := R.H.push (.cells true (bxT t) c') } fun _ => .keep := zah5 hr fun k b h => ⟨h, hlt b (hr.sep k b h).2⟩
 have hnl : S.next = R.φ.length := by rw [VH.next_eq, hr.len]
 refine ⟨{ hr := ?_, pre := hs.φ, M := rfl, nx := by rw [zaam]; omega, eff := fun b hb _ _ => hlt b hb, bl := rfl, w1 := fun i hi => hi, w2 := fun i hi => (by cases hi), w3 := fun i hi => .inl hi, keep := fun i _ _ o => rfl, tok := fun k b h => .inl h, box := ?_, rd := fun v u h => h.same hs hf, low := ?_, same := fun i hi _ => (by rw [VH.all_push, List.getElem?_append_left (by simp [VH.all]; omega)]) }, ?_⟩
 ·refine { len := by rw [VH.all_push]; simp [hr.len], nodup := ?_, lt := ?_, inj := hr.inj, sep := ?_, fr := fun b hb => hr.fr b (by rw [zaam] at hb; omega), dom := fun i o b h => ?_, own := hr.own, blk := ?_ }
  ·rw [List.nodup_append]
   refine ⟨hr.nodup, by simp, ?_⟩
   intro a ha b hb hab
   simp only [List.mem_singleton] at hb
   have := hr.lt a ha
   omega
  ·intro b hb
   simp only [List.mem_append, List.mem_singleton] at hb
   rw [zaam]
   rcases hb with h | h
   ·have := hr.lt b h; omega
   ·omega
  ·intro k b h
   have := hr.sep k b h
   refine ⟨?_, by rw [zaam]; omega⟩
   simp only [List.mem_append, List.mem_singleton, not_or]
   exact ⟨this.1, by omega⟩
  ·simp only [List.length_append, List.length_singleton]
   have := hr.dom i o b h
   omega
  ·intro i b hb
   rw [VH.all_push]
   rcases Nat.lt_or_ge i R.φ.length with hi | hi
   ·simp only at hb
    rw [List.getElem?_append_left hi] at hb
    have hbl : b < R.H.next := hr.lt b (List.mem_of_getElem? hb)
    have := (hr.blk i b hb).same hs hf
    rw [List.getD_eq_getElem?_getD, List.getElem?_append_left (by rw [← hr.len]; exact hi), ← List.getD_eq_getElem?_getD]
    simp only
    rw [hlt b hbl]
    exact this
   ·simp only at hb
    rw [List.getElem?_append_right hi] at hb
    have hi0 : i - R.φ.length = 0 := by
     have := (List.getElem?_eq_some_iff.1 hb).1
     simpa using this
    rw [hi0] at hb
    simp only [List.getElem?_cons_zero, Option.some.injEq] at hb
    subst hb
    have hie : i = S.all.length := by rw [← hr.len]; omega
    subst hie
    rw [List.getD_eq_getElem?_getD, List.getElem?_append_right (by omega)]
    simp only [Nat.sub_self, List.getElem?_cons_zero, Option.getD_some]
    rw [zaaj, if_pos rfl]
    exact ⟨rfl, c', rfl, hc, hrest⟩
 ·intro i b hb
  simp only at hb
  rcases Nat.lt_or_ge i R.φ.length with hi | hi
  ·rw [List.getElem?_append_left hi] at hb; exact .inl hb
  ·right
   rw [List.getElem?_append_right hi] at hb
   have hi0 : i - R.φ.length = 0 := by
    have := (List.getElem?_eq_some_iff.1 hb).1
    simpa using this
   rw [hi0] at hb
   simp only [List.getElem?_cons_zero, Option.some.injEq] at hb
   omega
 ·intro hl i hi x hx
  rw [VH.all_push, List.getD_eq_getElem?_getD, List.getElem?_append_left (by simp [VH.all]; omega), ← List.getD_eq_getElem?_getD] at hx
  exact hl i hi x hx
 ·rw [hnl, List.getElem?_append_right (by omega)]; simp
theorem zavd (hr : HRel R S.all) (d : Nat) (hd : R.ρ (d, none) = none) (t : TypeId) (c' : List Value) :
    Nxt R { R with ρ := fun k => if k = (d, none) then some R.H.next else R.ρ k, H := R.H.push (.cells true t c') } S S [] false [] := by
 have hlt : ∀ b, b < R.H.next → (R.H.push (.cells true t c')).get b = R.H.get b := fun b hb => by rw [zaaj, if_neg (by omega)]
 have hs : Stays R { R with ρ := fun k => if k = (d, none) then some R.H.next else R.ρ k, H := R.H.push (.cells true t c') } := by
  refine zafq (fun i b hb => hb) (fun b hb => .inl hb) (fun k b h => ?_) rfl (by rw [zaam]; omega) fun b hb => hlt b hb.1
  simp only at h
  split at h
  ·cases h; exact .inr (Nat.le_refl _)
  ·exact .inl h
 have hf : FateOk R { R with ρ := fun k => if k = (d, none) then some R.H.next else R.ρ k, H := R.H.push (.cells true t c') } fun _ => .keep := zah5 hr fun k b h => by
  refine ⟨?_, hlt b (hr.sep k b h).2⟩
  simp only
  rw [if_neg]
  ·exact h
  ·rintro rfl; rw [hd] at h; cases h
 refine { hr := ?_, pre := hs.φ, M := rfl, nx := by rw [zaam]; omega, eff := fun b hb _ _ => hlt b hb, bl := rfl, w1 := fun i hi => hi, w2 := fun i hi => (by cases hi), w3 := fun i hi => .inl hi, keep := fun i _ _ o => ?_, tok := fun k b h => ?_, box := fun i b h => .inl h, rd := fun v u h => h.same hs hf, low := fun h => h, same := fun _ _ _ => rfl }
 ·refine { len := hr.len, nodup := hr.nodup, lt := fun b hb => by rw [zaam]; have := hr.lt b hb; omega, inj := ?_, sep := ?_, fr := fun b hb => hr.fr b (by rw [zaam] at hb; omega), dom := fun i o b h => ?_, own := ?_, blk := ?_ }
  ·intro k k' b h1 h2
   simp only at h1 h2
   split at h1
   ·rename_i e1
    split at h2
    ·rename_i e2; rw [e1, e2]
    ·cases h1
     have := (hr.sep k' _ h2).2
     omega
   ·split at h2
    ·cases h2
     have := (hr.sep k _ h1).2
     omega
    ·exact hr.inj k k' b h1 h2
  ·intro k b h
   simp only at h
   rw [zaam]
   split at h
   ·cases h
    exact ⟨fun hb => by have := hr.lt _ hb; omega, by omega⟩
   ·have := hr.sep k b h
    exact ⟨this.1, by omega⟩
  ·simp only at h
   split at h
   ·rename_i e; cases e
   ·exact hr.dom i o b h
  ·intro k b h
   simp only at h
   split at h
   ·cases h; exact hr.fr _ (Nat.le_refl _)
   ·exact hr.own k b h
  ·intro i b hb
   simp only
   rw [hlt b (hr.lt b (List.mem_of_getElem? hb))]
   exact (hr.blk i b hb).same hs hf
 ·simp only
  rw [if_neg (by simp)]
 ·simp only at h
  split at h
  ·cases h; exact .inr (.inr (Nat.le_refl _))
  ·exact .inl h
theorem rd_new {d sz : Nat} {l : List Value} {b : Nat} {t : TypeId} {c' : List Value} (h0 : 0 < sz) (hρ : R.ρ (d, none) = some b) (hg : R.H.get b = .cells true t c') (hl : c'.length = l.length * sz) (hsz : ∀ x ∈ l, x.cells.size = sz) (hok : okvL 0 true l = true) (hc : RdL R (cellsL l) c') :
    Rd R (vo (d, none) sz 0 l) (.slice (some ⟨b, 0, none⟩) l.length sz) := by
 have := Rd.own (R := R) (d, none) sz 0 l b t c' h0 hρ hg (by omega) hsz hok (by rw [Nat.zero_mul, List.drop_zero, List.take_of_length_le (by omega)]; exact hc.2)
 rwa [Nat.zero_mul] at this
end
end Go.Proofs.YtliemjbafgnnbaaGreatDoor.Abs
