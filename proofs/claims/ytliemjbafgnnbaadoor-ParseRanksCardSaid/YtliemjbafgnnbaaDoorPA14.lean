/- Regions whose order is open, in text order, with what is left to show of the reads that may stand elsewhere. -/
import Derived.Test.YtliemjbafgnnbaaDoorPA13
set_option maxHeartbeats 0
set_option linter.unnecessarySimpa false
set_option linter.unusedSimpArgs false
set_option linter.unusedVariables false
namespace Go.Proofs.YtliemjbafgnnbaaDoor.Abs
open Go Go.RowKit
section
variable {P : Program}
theorem zaf0 {ρ ρ' : Operand → Value} : ∀ (l : List (Nat × Operand)), (∀ x, x ∈ l.map (·.2) → ρ x = ρ' x) → l.map (fun p => (p.1, ρ p.2)) = l.map (fun p => (p.1, ρ' p.2)) ∧ l.all (fun p => !isTup (ρ p.2)) = l.all (fun p => !isTup (ρ' p.2))
 | [], _ => ⟨rfl, rfl⟩
 | p :: l, h => by
  have h1 := zaf0 l fun x hx => h x (by simp only [List.map_cons, List.mem_cons]; exact .inr hx)
  have h2 := h p.2 (by simp)
  simp [h1, h2]
theorem zafz {ρ ρ' : Operand → Value} (l : List Operand) (h : ∀ x, x ∈ l → ρ x = ρ' x) : l.map ρ = l.map ρ' := List.map_congr_left h
theorem zaof {ρ ρ' : Operand → Value} (H : Hp) (o : Op) (h : ∀ x, x ∈ o.operands.toList → ρ x = ρ' x) : lop P ρ H o = lop P ρ' H o := by
 cases o <;> (try simp only [Op.operands, List.mem_cons, List.not_mem_nil, or_false, forall_eq, forall_eq_or_imp] at h) <;> (try simp only [lop]) <;> (try simp only [h])
 case build t ps =>
  obtain ⟨h1, h2⟩ := zaf0 ps.toList h
  rw [h1, h2]
 case makeFunc f a b =>
  cases f <;> simp only [lop]
  rename_i f
  simp only [Array.toList_append, List.mem_append] at h
  have h1 : a.map ρ = a.map ρ' := by
   apply Array.ext'; simp only [Array.toList_map]; exact zafz _ fun x hx => h x (.inl hx)
  have h2 : b.map ρ = b.map ρ' := by
   apply Array.ext'; simp only [Array.toList_map]; exact zafz _ fun x hx => h x (.inr hx)
  rw [h1, h2]
 case slice t x l hi m =>
  have h1 : ρ x = ρ' x := h x (by simp)
  have h2 : l.map ρ = l.map ρ' := by cases l with | none => rfl | some y => simp [h y (by simp)]
  have h3 : hi.map ρ = hi.map ρ' := by cases hi with | none => rfl | some y => simp [h y (by simp)]
  have h4 : m.map ρ = m.map ρ' := by cases m with | none => rfl | some y => simp [h y (by simp)]
  rw [h1, h2, h3, h4]
 case call c =>
  split
  ·rename_i h1 h2 h3
   have : ∀ x, x ∈ c.args.toList → ρ x = ρ' x := fun x hx => h x (by simp only [Call.operands, Array.toList_append, List.mem_append]; exact .inr hx)
   rw [this _ (by rw [h3]; simp)]
  ·rename_i x y h1 h3
   have : ∀ x, x ∈ c.args.toList → ρ x = ρ' x := fun x hx => h x (by simp only [Call.operands, Array.toList_append, List.mem_append]; exact .inr hx)
   rw [this x (by rw [h3]; simp), this y (by rw [h3]; simp)]
  ·rename_i x y h1 h3
   have : ∀ x, x ∈ c.args.toList → ρ x = ρ' x := fun x hx => h x (by simp only [Call.operands, Array.toList_append, List.mem_append]; exact .inr hx)
   rw [this x (by rw [h3]; simp), this y (by rw [h3]; simp)]
  ·rename_i x h1 h3
   have : ∀ x, x ∈ c.args.toList → ρ x = ρ' x := fun x hx => h x (by simp only [Call.operands, Array.toList_append, List.mem_append]; exact .inr hx)
   rw [this x (by rw [h3]; simp)]
  ·rfl
theorem zavf {ρ ρ' : Operand → Value} (H : Hp) (o : Op) (h : ∀ x, x ∈ o.operands.toList → ρ x = ρ' x) : hop P ρ H o = hop P ρ' H o := by
 cases o <;> (try simp only [Op.operands, List.mem_cons, List.not_mem_nil, or_false, forall_eq, forall_eq_or_imp] at h) <;> (try simp only [hop]) <;> (try simp only [h])
 case buildSlice t n ps =>
  obtain ⟨h1, h2⟩ := zaf0 ps.toList h
  rw [h1, h2]
 case makeMap t r => cases r <;> rfl
 case call c =>
  have ha : ∀ x, x ∈ c.args.toList → ρ x = ρ' x := fun x hx => h x (by simp only [Call.operands, Array.toList_append, List.mem_append]; exact .inr hx)
  split
  ·split
   ·rename_i h3
    rw [ha _ (by rw [h3]; simp), ha _ (by rw [h3]; simp)]
   ·rfl
  ·split
   ·rename_i h3
    rw [ha _ (by rw [h3]; simp), ha _ (by rw [h3]; simp)]
   ·rfl
  ·split
   ·rename_i h3
    rw [ha _ (by rw [h3]; simp), ha _ (by rw [h3]; simp)]
   ·rfl
  ·rename_i f hf
   have h1 : ρ f = ρ' f := h f (by simp [Call.operands, hf])
   have h2 : c.args.toList.map ρ = c.args.toList.map ρ' := zafz _ ha
   rw [h1, h2]
  ·rfl
theorem zan2 {ρ ρ' : Operand → Value} (H : Hp) (o : Op) (h : ∀ x, x ∈ o.operands.toList → ρ x = ρ' x) : aop P ρ H o = aop P ρ' H o := by
 simp only [aop, zaof H o h, zavf H o h]
variable {ops : Array Oper}
theorem zahs {o : Oper} {e : Env} (x : Operand) (hx : x ∈ o.op.operands.toList) : aeval (restr (tmpsOf ops o) e) x = aeval e x := by
 cases x with
 | tmp t =>
  simp only [aeval, zaet]
  rw [if_pos]
  simp only [tmpsOf, List.mem_append, List.mem_filterMap]
  exact .inl (.inr ⟨_, hx, rfl⟩)
 | _ => rfl
theorem zaft {o : Oper} {e : Env} : awanted ops o (restr (tmpsOf ops o) e) = awanted ops o e := by
 unfold awanted ayielded
 split
 ·rfl
 ·rename_i j want hg
  cases hd : (ops[j]?).bind (·.dst) with
  | none => rfl
  | some d => simp only [Option.bind_some, zaet, if_pos (zadc hg hd)]
theorem zaex {o : Oper} {e : Env} {H : Hp} : lval P ops o (restr (tmpsOf ops o) e) H = lval P ops o e H := by
 simp only [lval, zaft, zaof (P := P) H o.op (fun x hx => zahs (ops := ops) (e := e) x hx)]
def others (P : Program) (ops : Array Oper) (i : Nat) : List Nat := match ops[i]? with
 | some o => if light P o.op && readsMem o.op then (List.range (hcount P ops ops.size + 1)).filter fun k => allowed P ops k i && k != hcount P ops i else []
 | none => []
def othersAll (P : Program) (ops : Array Oper) : List (List Nat) := (List.range ops.size).map (others P ops)
structure Obl where
 ks : List Nat
 e : Env
 o : Oper
 v : Value
def Met (P : Program) (ops : Array Oper) (Hs : List Hp) (b : Obl) : Prop := ∀ k ∈ b.ks, With (Hs[k]?) fun H => lval P ops b.o b.e H = some b.v
def DE (P : Program) (X : Outer) (ops : Array Oper) : List (List Nat) → List Oper → Env → Hp → List Hp → List Obl → (Env → Hp → Prop) → Prop
 | t :: T, o :: rest, e, H, Hs, ob, Q => Step P X ops o e H fun v H' =>
     if light P o.op then DE P X ops T rest (eput e o.dst v) H Hs (if t = [] then ob else ⟨t, e, o, v⟩ :: ob) Q
     else DE P X ops T rest (eput e o.dst v) H' (H :: Hs) ob Q
 | _, [], e, H, Hs, ob, Q => (∀ b ∈ ob, Met P ops (H :: Hs).reverse b) ∧ Q e H
 | [], _ :: _, _, _, _, _, _ => False
variable {X : Outer}
theorem Step_lval {o : Oper} {e : Env} {H : Hp} {K : Value → Hp → Prop} (hl : light P o.op = true) : Step P X ops o e H K = With (lval P ops o e H) fun v => K v H := by
 simp only [Step, lval]
 cases awanted ops o e with
 | none => rfl
 | some b =>
  cases b with
  | false => rfl
  | true =>
   simp only [aop, hl, if_true, Option.bind_some]
   cases lop P (aeval e) H o.op <;> rfl
def Known (P : Program) (ops : Array Oper) (Hs : List Hp) (ob : List Obl) (r : Rec) : Prop := ∃ o, ops[r.i]? = some o ∧ (∃ H, Hs.reverse[hcount P ops r.i]? = some H ∧ lval P ops o r.e H = some r.v) ∧
 (others P ops r.i = [] ∨ ∃ b ∈ ob, b.ks = others P ops r.i ∧ b.o = o ∧ b.v = r.v ∧ ∀ H, lval P ops o r.e H = lval P ops o b.e H) ∧ light P o.op = true
theorem zasl {Hs : List Hp} {ob : List Obl} {r : Rec} {H : Hp} (h : Known P ops Hs ob r) : Known P ops (H :: Hs) ob r := by
 obtain ⟨o, h1, ⟨H1, h2, h3⟩, h4, h5⟩ := h
 refine ⟨o, h1, ⟨H1, ?_, h3⟩, h4, h5⟩
 rw [List.reverse_cons, List.getElem?_append_left (List.getElem?_eq_some_iff.1 h2).1]
 exact h2
theorem DE_DD : ∀ (l : List Oper) (T : List (List Nat)) (i : Nat) (e : Env) (H : Hp) (Hs : List Hp) (ob : List Obl) (rs : List Rec) (Q : Env → Hp → Prop), ops.toList.drop i = l → T = (List.range' i l.length).map (others P ops) → Hs.length = hcount P ops i → (∀ r ∈ rs, Known P ops (H :: Hs) ob r) →
    DE P X ops T l e H Hs ob Q → DD P X ops (List.range' i l.length) e (H :: Hs) rs Q := by
 intro l
 induction l with
 | nil =>
  intro T i e H Hs ob rs Q hl hT hc hk h
  subst hT
  simp only [List.length_nil, List.range'_zero, List.map_nil, DE] at h
  simp only [List.length_nil, List.range'_zero, DD, List.all_eq_true]
  refine ⟨fun r hr => ?_, h.2⟩
  obtain ⟨o, h1, ⟨H1, h2, h3⟩, h4, h5⟩ := hk r hr
  have hi : ops.size ≤ i := by simpa using List.drop_eq_nil_iff.1 hl
  have hcs : hcount P ops i = hcount P ops ops.size := by
   have : ∀ k, hcount P ops (ops.size + k) = hcount P ops ops.size := by
    intro k
    induction k with
    | zero => rfl
    | succ k ih =>
     show hcount P ops (ops.size + k) + _ = _
     rw [ih]
     have : heavyAt P ops (ops.size + k) = false := by unfold heavyAt; rw [Array.getElem?_eq_none (by omega)]
     simp [this]
   have := this (i - ops.size)
   rwa [show ops.size + (i - ops.size) = i by omega] at this
  simp only [recOk, h1, Bool.or_eq_true, Bool.not_eq_true']
  by_cases hrd : readsMem o.op = true
  ·right
   simp only [List.all_eq_true, List.mem_range, Bool.or_eq_true, Bool.not_eq_true']
   intro k hk
   by_cases hal : allowed P ops k r.i = true
   ·right
    by_cases hk0 : k = hcount P ops r.i
    ·subst hk0
     simp only [h2, h3]
     exact zaeq _
    ·have hm : k ∈ others P ops r.i := by
      simp only [others, h1, h5, hrd, Bool.and_self, if_true, List.mem_filter, List.mem_range, hal, Bool.true_and, bne_iff_ne, ne_eq, hk0, not_false_eq_true, and_true]
      simp only [List.length_reverse, List.length_cons] at hk
      omega
     rcases h4 with h4 | ⟨b, hb, b1, b2, b3, b4⟩
     ·rw [h4] at hm; cases hm
     ·have hmet := h.1 b hb k (by rw [b1]; exact hm)
      subst b2
      cases hg : (H :: Hs).reverse[k]? with
      | none => rw [hg] at hmet; exact hmet.elim
      | some Hk =>
       rw [hg] at hmet
       simp only [zaag] at hmet
       simp only [b4 Hk, hmet, b3]
       exact zaeq _
   ·left; simpa using hal
  ·left; simpa using hrd
 | cons o l ih =>
  intro T i e H Hs ob rs Q hl hT hc hk h
  subst hT
  have ho : ops[i]? = some o := by
   have := congrArg (fun x => x[0]?) hl
   simpa using this
  have hl' : ops.toList.drop (i + 1) = l := by
   have := congrArg List.tail hl
   simpa [List.tail_drop] using this
  simp only [List.length_cons, List.range'_succ, List.map_cons, DE] at h
  simp only [List.length_cons, List.range'_succ, DD, ho]
  by_cases hlt : light P o.op = true
  ·have hci : hcount P ops (i + 1) = hcount P ops i := by simp [hcount, heavyAt, ho, hlt]
   rw [if_pos hlt, zaex]
   rw [Step_lval hlt] at h
   cases hv : lval P ops o e H with
   | none => rw [hv] at h; exact h.elim
   | some v =>
    rw [hv] at h
    simp only [zaag, hlt, if_true] at h
    refine ih _ (i + 1) _ H Hs _ _ Q hl' rfl (by rw [hci]; exact hc) ?_ h
    intro r hr
    rcases List.mem_cons.1 hr with rfl | hr
    ·refine ⟨o, ho, ⟨H, ?_, by rw [zaex]; exact hv⟩, ?_, hlt⟩
     ·simp only [List.reverse_cons, ← hc]
      simp
     ·by_cases hn : others P ops i = []
      ·exact .inl hn
      ·right
       rw [if_neg hn]
       exact ⟨_, List.mem_cons_self, rfl, rfl, rfl, fun H => zaex⟩
    ·obtain ⟨o1, h1, h2, h4, h5⟩ := hk r hr
     refine ⟨o1, h1, h2, ?_, h5⟩
     rcases h4 with h4 | ⟨b, hb, hb'⟩
     ·exact .inl h4
     ·refine .inr ⟨b, ?_, hb'⟩
      split
      ·exact hb
      ·exact List.mem_cons_of_mem _ hb
  ·have hlt' : light P o.op = false := by simpa using hlt
   have hci : hcount P ops (i + 1) = hcount P ops i + 1 := by simp [hcount, heavyAt, ho, hlt']
   rw [if_neg hlt, zaft, zan2 (P := P) H o.op (fun x hx => zahs (ops := ops) (e := e) x hx)]
   simp only [Step, hlt', Bool.false_eq_true, if_false] at h
   have next : ∀ (e' : Env) (H' : Hp), DE P X ops ((List.range' (i + 1) l.length).map (others P ops)) l e' H' (H :: Hs) ob Q → DD P X ops (List.range' (i + 1) l.length) e' (H' :: H :: Hs) rs Q := by
    intro e' H' h
    exact ih _ (i + 1) _ H' (H :: Hs) _ _ Q hl' rfl (by simp [hc, hci]) (fun r hr => zasl (hk r hr)) h
   split at h
   ·exact h.elim
   ·rename_i hw; rw [hw]; exact next _ _ h
   ·rename_i hw
    rw [hw]
    simp only
    split at h
    ·exact h.elim
    ·rename_i ha; rw [ha]; exact next _ _ h
    ·rename_i ha; rw [ha]; exact h.mono fun v H' h => next _ _ h
theorem zaws {id : Nat} {ops : Array Oper} {e : Env} {H : Hp} {Q : Ex → Env → Hp → Prop} (T : List (List Nat)) (hok : drawOk P ops = true) (hT : othersAll P ops = T) (h : DE P X ops T ops.toList e H [] [] fun e' H' => Q .normal e' H') : Dc P X (.region id ops true) e H Q := by
 refine za1h hok ?_
 have := DE_DD (P := P) (X := X) (ops := ops) ops.toList T 0 e H [] [] [] _ rfl (by rw [← hT, othersAll, List.range_eq_range', Array.length_toList]) rfl (fun r hr => by cases hr) h
 rw [List.range_eq_range']
 rw [Array.length_toList] at this
 exact this
end
end Go.Proofs.YtliemjbafgnnbaaDoor.Abs
