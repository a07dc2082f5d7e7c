/- Regions with free operations, gone through operation by operation. -/
import Derived.Test.YtliemjbafgnnbaaDoorPA20
set_option maxHeartbeats 0
set_option linter.unnecessarySimpa false
set_option linter.unusedSimpArgs false
set_option linter.unusedVariables false
namespace Go.Proofs.YtliemjbafgnnbaaDoor.Abs
open Go Go.RowKit
section
variable (P : Program) (X : Outer)
def DD2 (ops : Array Oper) : List Nat → Env → List Hp → List Rec → (Env → Hp → Prop) → Prop
 | [], e, Hs, rs, Q => (nextsOk Hs.reverse = true ∧ rs.all (recOk2 P ops Hs.reverse) = true) ∧ match Hs with | H :: _ => Q e H | [] => False
 | i :: rest, e, Hs, rs, Q => match ops[i]?, Hs with
  | some o, H :: _ =>
   if light P o.op then match lval P ops o (restr (tmpsOf ops o) e) H with
    | some v => DD2 ops rest (eput e o.dst v) Hs (⟨i, restr (tmpsOf ops o) e, v⟩ :: rs) Q
    | none => False
   else match awanted ops o (restr (tmpsOf ops o) e) with
    | none => False
    | some false => DD2 ops rest (eput e o.dst NR) (H :: Hs) rs Q
    | some true => match aop P (aeval (restr (tmpsOf ops o) e)) H o.op with
     | none => False
     | some (.val v H') => DD2 ops rest (eput e o.dst v) (H' :: Hs) rs Q
     | some (.enter f args) => Df P X f args H fun v H' => DD2 ops rest (eput e o.dst v) (H' :: Hs) rs Q
  | _, _ => False
end
section
variable {P : Program} {X : Outer}
theorem zala {ops : Array Oper} : ∀ (l : List Nat) (e : Env) (Hs : List Hp) (rs : List Rec) (Q : Env → Hp → Prop), DD2 P X ops l e Hs rs Q →
    ∃ n r, runD P (run P X n) ops l e Hs rs = some r ∧ (nextsOk r.2.1.reverse = true ∧ r.2.2.all (recOk2 P ops r.2.1.reverse) = true) ∧ ∃ H', r.2.1.head? = some H' ∧ Q r.1 H'
 | [], e, Hs, rs, Q, h => by
  simp only [DD2] at h
  cases Hs with
  | nil => exact h.2.elim
  | cons H Hs => exact ⟨0, (e, H :: Hs, rs), rfl, h.1, H, rfl, h.2⟩
 | i :: l, e, Hs, rs, Q, h => by
  simp only [DD2] at h
  split at h
  ·rename_i o H Hs ho
   split at h
   ·rename_i hl
    split at h
    ·rename_i v hv
     obtain ⟨n, r, h1, h2⟩ := zala l _ _ _ Q h
     exact ⟨n, r, by simp [runD, ho, hl, hv, h1], h2⟩
    ·exact h.elim
   ·rename_i hl
    have hl' : light P o.op = false := by simpa using hl
    split at h
    ·exact h.elim
    ·rename_i hw
     obtain ⟨n, r, h1, h2⟩ := zala l _ _ _ Q h
     exact ⟨n, r, by simp [runD, ho, hl', hval, hw, h1], h2⟩
    ·rename_i hw
     split at h
     ·exact h.elim
     ·rename_i v H' ha
      obtain ⟨n, r, h1, h2⟩ := zala l _ _ _ Q h
      exact ⟨n, r, by simp [runD, ho, hl', hval, hw, stepOp, ha, h1], h2⟩
     ·rename_i f args ha
      obtain ⟨m, x, h1, h2⟩ := h
      obtain ⟨n, r, h3, h4⟩ := zala l _ _ _ Q h2
      refine ⟨max m n, r, ?_, h4⟩
      have k1 := zadm (P := P) (X := X) m (max m n) (Nat.le_max_left _ _) _ _ _ _ h1
      have k2 := zagh (P := P) (zadm (X := X) n (max m n) (Nat.le_max_right _ _)) _ _ _ _ _ h3
      simp [runD, ho, hl', hval, hw, stepOp, ha, k1, k2]
  ·exact h.elim
theorem zayf {id : Nat} {ops : Array Oper} {e : Env} {H : Hp} {Q : Ex → Env → Hp → Prop} (hno : drawOk P ops = false) (hok : drawOk2 P ops = true) (h : DD2 P X ops (List.range ops.size) e [H] [] fun e' H' => Q .normal e' H') : Dc P X (.region id ops true) e H Q := by
 obtain ⟨n, r, h1, ⟨h0, h2⟩, H', h3, h4⟩ := zala _ _ _ _ _ h
 exact ⟨n, (.normal, r.1, H'), by simp only [runC, runRegion, if_true, hno, Bool.false_eq_true, if_false, hok, h1, Option.bind_some, h0, h2, Bool.and_self, h3, Option.map_some], h4⟩
end
section
variable {P : Program} {ops : Array Oper}
def others2 (P : Program) (ops : Array Oper) (i : Nat) : List Nat := match ops[i]? with
 | some o => if light P o.op && readsMem o.op then (List.range (hcount P ops ops.size + 1)).filter fun k => allowed2 P ops k i && k != hcount P ops i else []
 | none => []
def othersAll2 (P : Program) (ops : Array Oper) : List (List Nat) := (List.range ops.size).map (others2 P ops)
def DE2 (P : Program) (X : Outer) (ops : Array Oper) : List (List Nat) → List Oper → Env → Hp → List Hp → List Obl → (Env → Hp → Prop) → Prop
 | t :: T, o :: rest, e, H, Hs, ob, Q => Step P X ops o e H fun v H' =>
     if light P o.op then DE2 P X ops T rest (eput e o.dst v) H Hs (if t = [] then ob else ⟨t, e, o, v⟩ :: ob) Q
     else DE2 P X ops T rest (eput e o.dst v) H' (H :: Hs) ob Q
 | _, [], e, H, Hs, ob, Q => (nextsOk (H :: Hs).reverse = true ∧ ∀ b ∈ ob, Met P ops (H :: Hs).reverse b) ∧ Q e H
 | [], _ :: _, _, _, _, _, _ => False
variable {X : Outer}
def Known2 (P : Program) (ops : Array Oper) (Hs : List Hp) (ob : List Obl) (r : Rec) : Prop := ∃ o, ops[r.i]? = some o ∧ (∃ H, Hs.reverse[hcount P ops r.i]? = some H ∧ lval P ops o r.e H = some r.v) ∧
 (others2 P ops r.i = [] ∨ ∃ b ∈ ob, b.ks = others2 P ops r.i ∧ b.o = o ∧ b.v = r.v ∧ ∀ H, lval P ops o r.e H = lval P ops o b.e H) ∧ light P o.op = true
theorem zaqe {Hs : List Hp} {ob : List Obl} {r : Rec} {H : Hp} (h : Known2 P ops Hs ob r) : Known2 P ops (H :: Hs) ob r := by
 obtain ⟨o, h1, ⟨H1, h2, h3⟩, h4, h5⟩ := h
 refine ⟨o, h1, ⟨H1, ?_, h3⟩, h4, h5⟩
 rw [List.reverse_cons, List.getElem?_append_left (List.getElem?_eq_some_iff.1 h2).1]
 exact h2
theorem DE_DD2 : ∀ (l : List Oper) (T : List (List Nat)) (i : Nat) (e : Env) (H : Hp) (Hs : List Hp) (ob : List Obl) (rs : List Rec) (Q : Env → Hp → Prop), ops.toList.drop i = l → T = (List.range' i l.length).map (others2 P ops) → Hs.length = hcount P ops i → (∀ r ∈ rs, Known2 P ops (H :: Hs) ob r) →
    DE2 P X ops T l e H Hs ob Q → DD2 P X ops (List.range' i l.length) e (H :: Hs) rs Q := by
 intro l
 induction l with
 | nil =>
  intro T i e H Hs ob rs Q hl hT hc hk h
  subst hT
  simp only [List.length_nil, List.range'_zero, List.map_nil, DE2] at h
  simp only [List.length_nil, List.range'_zero, DD2, List.all_eq_true]
  refine ⟨⟨h.1.1, fun r hr => ?_⟩, h.2⟩
  obtain ⟨o, h1, ⟨H1, h2, h3⟩, h4, h5⟩ := hk r hr
  have hi : ops.size ≤ i := by simpa using List.drop_eq_nil_iff.1 hl
  have hcs : hcount P ops i = hcount P ops ops.size := by
   have : ∀ k, hcount P ops (ops.size + k) = hcount P ops ops.size := by
    intro k
    induction k with
    | zero => rfl
    | succ k ih =>
     show hcount P ops (ops.size + k) + _ = _
     rw [ih]
     have : heavyAt P ops (ops.size + k) = false := by unfold heavyAt; rw [Array.getElem?_eq_none (by omega)]
     simp [this]
   have := this (i - ops.size)
   rwa [show ops.size + (i - ops.size) = i by omega] at this
  simp only [recOk2, h1, Bool.or_eq_true, Bool.not_eq_true']
  by_cases hrd : readsMem o.op = true
  ·right
   simp only [List.all_eq_true, List.mem_range, Bool.or_eq_true, Bool.not_eq_true']
   intro k hk
   by_cases hal : allowed2 P ops k r.i = true
   ·right
    by_cases hk0 : k = hcount P ops r.i
    ·subst hk0
     simp only [h2, h3]
     exact zaeq _
    ·have hm : k ∈ others2 P ops r.i := by
      simp only [others2, h1, h5, hrd, Bool.and_self, if_true, List.mem_filter, List.mem_range, hal, Bool.true_and, bne_iff_ne, ne_eq, hk0, not_false_eq_true, and_true]
      simp only [List.length_reverse, List.length_cons] at hk
      omega
     rcases h4 with h4 | ⟨b, hb, b1, b2, b3, b4⟩
     ·rw [h4] at hm; cases hm
     ·have hmet := h.1.2 b hb k (by rw [b1]; exact hm)
      subst b2
      cases hg : (H :: Hs).reverse[k]? with
      | none => rw [hg] at hmet; exact hmet.elim
      | some Hk =>
       rw [hg] at hmet
       simp only [zaag] at hmet
       simp only [b4 Hk, hmet, b3]
       exact zaeq _
   ·left; simpa using hal
  ·left; simpa using hrd
 | cons o l ih =>
  intro T i e H Hs ob rs Q hl hT hc hk h
  subst hT
  have ho : ops[i]? = some o := by
   have := congrArg (fun x => x[0]?) hl
   simpa using this
  have hl' : ops.toList.drop (i + 1) = l := by
   have := congrArg List.tail hl
   simpa [List.tail_drop] using this
  simp only [List.length_cons, List.range'_succ, List.map_cons, DE2] at h
  simp only [List.length_cons, List.range'_succ, DD2, ho]
  by_cases hlt : light P o.op = true
  ·have hci : hcount P ops (i + 1) = hcount P ops i := by simp [hcount, heavyAt, ho, hlt]
   rw [if_pos hlt, zaex]
   rw [Step_lval hlt] at h
   cases hv : lval P ops o e H with
   | none => rw [hv] at h; exact h.elim
   | some v =>
    rw [hv] at h
    simp only [zaag, hlt, if_true] at h
    refine ih _ (i + 1) _ H Hs _ _ Q hl' rfl (by rw [hci]; exact hc) ?_ h
    intro r hr
    rcases List.mem_cons.1 hr with rfl | hr
    ·refine ⟨o, ho, ⟨H, ?_, by rw [zaex]; exact hv⟩, ?_, hlt⟩
     ·simp only [List.reverse_cons, ← hc]
      simp
     ·by_cases hn : others2 P ops i = []
      ·exact .inl hn
      ·right
       rw [if_neg hn]
       exact ⟨_, List.mem_cons_self, rfl, rfl, rfl, fun H => zaex⟩
    ·obtain ⟨o1, h1, h2, h4, h5⟩ := hk r hr
     refine ⟨o1, h1, h2, ?_, h5⟩
     rcases h4 with h4 | ⟨b, hb, hb'⟩
     ·exact .inl h4
     ·refine .inr ⟨b, ?_, hb'⟩
      split
      ·exact hb
      ·exact List.mem_cons_of_mem _ hb
  ·have hlt' : light P o.op = false := by simpa using hlt
   have hci : hcount P ops (i + 1) = hcount P ops i + 1 := by simp [hcount, heavyAt, ho, hlt']
   rw [if_neg hlt, zaft, zan2 (P := P) H o.op (fun x hx => zahs (ops := ops) (e := e) x hx)]
   simp only [Step, hlt', Bool.false_eq_true, if_false] at h
   have next : ∀ (e' : Env) (H' : Hp), DE2 P X ops ((List.range' (i + 1) l.length).map (others2 P ops)) l e' H' (H :: Hs) ob Q → DD2 P X ops (List.range' (i + 1) l.length) e' (H' :: H :: Hs) rs Q := by
    intro e' H' h
    exact ih _ (i + 1) _ H' (H :: Hs) _ _ Q hl' rfl (by simp [hc, hci]) (fun r hr => zaqe (hk r hr)) h
   split at h
   ·exact h.elim
   ·rename_i hw; rw [hw]; exact next _ _ h
   ·rename_i hw
    rw [hw]
    simp only
    split at h
    ·exact h.elim
    ·rename_i ha; rw [ha]; exact next _ _ h
    ·rename_i ha; rw [ha]; exact h.mono fun v H' h => next _ _ h
theorem zayg {id : Nat} {ops : Array Oper} {e : Env} {H : Hp} {Q : Ex → Env → Hp → Prop} (T : List (List Nat)) (hno : drawOk P ops = false) (hok : drawOk2 P ops = true) (hT : othersAll2 P ops = T) (h : DE2 P X ops T ops.toList e H [] [] fun e' H' => Q .normal e' H') : Dc P X (.region id ops true) e H Q := by
 refine zayf hno hok ?_
 have := DE_DD2 (P := P) (X := X) (ops := ops) ops.toList T 0 e H [] [] [] _ rfl (by rw [← hT, othersAll2, List.range_eq_range', Array.length_toList]) rfl (fun r hr => by cases hr) h
 rw [List.range_eq_range']
 rw [Array.length_toList] at this
 exact this
end
section
variable {P : Program} {X : Outer} {ops : Array Oper} {e : Env} {H : Hp}
end
end Go.Proofs.YtliemjbafgnnbaaDoor.Abs
