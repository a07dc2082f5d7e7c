/- A region whose order is open, in which operations that just make a block stand in no order with others: whatever order its edges let, it comes to what the plain evaluator says. -/
import Derived.Test.YtliemjbafgnnbaaDoorPA21
set_option maxHeartbeats 0
set_option linter.unnecessarySimpa false
set_option linter.unusedSimpArgs false
set_option linter.unusedVariables false
namespace Go.Proofs.YtliemjbafgnnbaaDoor.Abs
open Go Go.RowKit
section
variable {P : Program} {B : Nat} {w0 : Base} {K : CallFn} {ops : Array Oper}
theorem zafd (h : drawOk2 P ops = true) {j : Nat} {y : Oper} (hy : ops[j]? = some y) :
    (∀ e ∈ y.after, Region.binds .any e = true → e.on < j) ∧ (∀ i, i < ops.size → ahead ops i j = true → ∃ e ∈ y.after, Region.binds .any e = true ∧ (e.on = i ∨ ahead ops i e.on = true)) ∧
    ∀ i x, i < j → ops[i]? = some x → pairOk2 P ops i j x y = true := by
 have hj : j < ops.size := (Array.getElem?_eq_some_iff.1 hy).1
 unfold drawOk2 at h
 rw [List.all_eq_true] at h
 have := h j (List.mem_range.2 hj)
 rw [hy] at this
 simp only [Bool.and_eq_true] at this
 obtain ⟨h1, h2⟩ := this
 unfold edgeOk at h1
 simp only [Bool.and_eq_true, List.all_eq_true, Bool.or_eq_true, Bool.not_eq_true', decide_eq_true_eq, List.mem_range, List.any_eq_true, beq_iff_eq] at h1 h2
 refine ⟨fun e he hb => ?_, fun i hi ha => ?_, fun i x hi hx => ?_⟩
 ·rcases h1.1 e (by simpa using he) with h | h
  ·rw [h] at hb; cases hb
  ·exact h
 ·rcases h1.2 i hi with h | ⟨e, he, hb, h⟩
  ·rw [h] at ha; cases ha
  ·exact ⟨e, by simpa using he, hb, h⟩
 ·have := h2 i hi
  rw [hx] at this
  exact this
theorem zaf1 {x y : Oper} (h : namesOf ops x y = false) : ∀ d, x.dst = some d → d ∉ tmpsOf ops y := by
 intro d hd
 unfold namesOf at h
 rw [hd] at h
 simpa using h
theorem zaf4 {i j : Nat} {x y : Oper} (h : pairOk2 P ops i j x y = true) :
    (ahead ops i j = true ∨ ((∀ d, x.dst = some d → d ∉ tmpsOf ops y) ∧ (∀ d, y.dst = some d → d ∉ tmpsOf ops x) ∧ (light P x.op = true ∨ light P y.op = true ∨ freeOp x.op = true ∨ freeOp y.op = true))) ∧
    (freeOp x.op = true → light P y.op = true → ∀ d, x.dst = some d → d ∉ tmpsOf ops y) := by
 unfold pairOk2 at h
 simp only [Bool.and_eq_true, Bool.or_eq_true, Bool.not_eq_true', Bool.and_eq_false_iff] at h
 obtain ⟨h1, h2⟩ := h
 constructor
 ·rcases h1 with ⟨⟨h3, h4⟩, h5⟩ | h1
  ·refine .inr ⟨zaf1 h3, zaf1 h4, ?_⟩
   rcases h5 with ((h5 | h5) | h5) | h5
   ·exact .inl h5
   ·exact .inr (.inl h5)
   ·exact .inr (.inr (.inl h5))
   ·exact .inr (.inr (.inr h5))
  ·exact .inl h1
 ·intro f l
  rcases h2 with (h2 | h2) | h2
  ·rw [f] at h2; cases h2
  ·rw [l] at h2; cases h2
  ·exact zaf1 h2
theorem zag7 {o : Op} (h : freeOp o = true) : light P o = false := by cases o <;> first | rfl | simp [freeOp] at h
theorem zaih {i : Nat} (h : anchAt P ops i = true) : heavyAt P ops i = true := by
 unfold anchAt at h
 unfold heavyAt
 split at h
 ·rename_i o ho
  simp only [Bool.and_eq_true] at h
  exact h.1
 ·cases h
theorem zaiw {i j : Nat} (hi : heavyAt P ops i = true) (hj : heavyAt P ops j = true) (h : hcount P ops i = hcount P ops j) : i = j := by
 rcases Nat.lt_trichotomy i j with h1 | h1 | h1
 ·have := zadb h1 hi; omega
 ·exact h1
 ·have := zadb h1 hj; omega
theorem zaku {r : Nat} : ∀ n, r < hcount P ops n → ∃ p, p < n ∧ heavyAt P ops p = true ∧ hcount P ops p = r
 | 0, h => by simp [hcount] at h
 | n + 1, h => by
  by_cases hh : heavyAt P ops n = true
  ·simp only [hcount, hh, if_true] at h
   rcases Nat.lt_or_ge r (hcount P ops n) with h1 | h1
   ·obtain ⟨p, a, b, c⟩ := zaku n h1
    exact ⟨p, by omega, b, c⟩
   ·exact ⟨n, by omega, hh, by omega⟩
  ·simp only [hcount, hh] at h
   obtain ⟨p, a, b, c⟩ := zaku n (by simpa using h)
   exact ⟨p, by omega, b, c⟩
theorem zafi : ∀ {L : List Hp}, nextsOk L = true → ∀ {i j : Nat} {a b : Hp}, i ≤ j → L[i]? = some a → L[j]? = some b → a.next ≤ b.next
 | [], _, i, j, a, b, _, ha, _ => by simp at ha
 | [x], _, i, j, a, b, _, ha, hb => by
  have h1 : i < 1 := by have := (List.getElem?_eq_some_iff.1 ha).1; simpa using this
  have h2 : j < 1 := by have := (List.getElem?_eq_some_iff.1 hb).1; simpa using this
  obtain rfl : i = 0 := by omega
  obtain rfl : j = 0 := by omega
  rw [ha] at hb; cases hb; exact Nat.le_refl _
 | x :: y :: r, h, i, j, a, b, hij, ha, hb => by
  simp only [nextsOk, Bool.and_eq_true, decide_eq_true_eq] at h
  cases j with
  | zero =>
   obtain rfl : i = 0 := by omega
   rw [ha] at hb; cases hb; exact Nat.le_refl _
  | succ j =>
   cases i with
   | zero =>
    simp only [List.getElem?_cons_zero, Option.some.injEq] at ha
    subst ha
    exact Nat.le_trans h.1 (zafi h.2 (i := 0) (Nat.zero_le j) rfl (by simpa using hb))
   | succ i => exact zafi h.2 (i := i) (j := j) (by omega) (by simpa using ha) (by simpa using hb)
def Plan.cut (φ : Plan) (n : Nat) : Plan := fun i => if i < n then φ i else none
def Plan.merge (ψ χ : Plan) : Plan := fun i => match ψ i with | some m => some m | none => χ i
theorem Plan.le_merge (ψ χ : Plan) : ψ.le (ψ.merge χ) := fun i m h => by simp [Plan.merge, h]
theorem Plan.cut_le {φ ψ : Plan} (h : φ.le ψ) (n : Nat) : (φ.cut n).le (ψ.cut n) := fun i m hi => by
 unfold Plan.cut at hi ⊢
 split
 ·rename_i hn; rw [if_pos hn] at hi; exact h i m hi
 ·rename_i hn; rw [if_neg hn] at hi; cases hi
def Pushed (P : Program) (ops : Array Oper) (es : Nat → Env) (vs : Nat → Value) (L : List Hp) (p i : Nat) (e : TypeId) (c : List Value) (mk : Nat → Value) : Prop :=
 ∃ o Ha, ops[p]? = some o ∧ freeOp o.op = true ∧ L[hcount P ops p]? = some Ha ∧ i = Ha.next ∧ awanted ops o (restr (tmpsOf ops o) (es p)) = some true ∧
  fop P (aeval (restr (tmpsOf ops o) (es p))) o.op = some (e, c, mk) ∧ vs p = mk i ∧ L[hcount P ops p + 1]? = some (Ha.push (.cells true e c))
variable {es : Nat → Env} {vs : Nat → Value} {L : List Hp} {rs : List Rec}
theorem zalq (ran : Ran P K ops 0 ops.size es vs L 0 rs) {p : Nat} {o : Oper} (ho : ops[p]? = some o) (hf : freeOp o.op = true) :
    (awanted ops o (restr (tmpsOf ops o) (es p)) = some false ∧ vs p = NR ∧ ∃ Ha, L[hcount P ops p]? = some Ha ∧ L[hcount P ops p + 1]? = some Ha) ∨ ∃ i e c mk, Pushed P ops es vs L p i e c mk := by
 have hpn : p < ops.size := (Array.getElem?_eq_some_iff.1 ho).1
 obtain ⟨o', ho', hes, Ha, hLa, hcase⟩ := ran.op p (Nat.zero_le p) hpn
 rw [ho] at ho'
 cases ho'
 have h0 : hcount P ops 0 = 0 := rfl
 rw [h0, Nat.sub_zero, Nat.zero_add] at hLa hcase
 have hl : light P o.op = false := zag7 hf
 rw [if_neg (by rw [hl]; simp)] at hcase
 obtain ⟨Hb, hLb, hv⟩ := hcase
 unfold hval at hv
 simp only [Option.bind_eq_some_iff] at hv
 obtain ⟨t, ht, hv⟩ := hv
 cases t with
 | false =>
  simp only [Bool.false_eq_true, if_false] at hv
  simp only [Option.some.injEq, Prod.mk.injEq] at hv
  obtain ⟨h1, h2⟩ := hv
  subst h2
  exact .inl ⟨ht, h1.symm, Ha, hLa, hLb⟩
 | true =>
  right
  simp only [if_true] at hv
  unfold stepOp at hv
  simp only [Option.bind_eq_some_iff] at hv
  obtain ⟨r, hr, hv⟩ := hv
  unfold aop at hr
  rw [if_neg (by rw [hl]; simp)] at hr
  obtain ⟨e, c, mk, h1, rfl⟩ := za15 hf hr
  simp only [Option.some.injEq, Prod.mk.injEq] at hv
  obtain ⟨hv1, rfl⟩ := hv
  exact ⟨Ha.next, e, c, mk, o, Ha, ho, hf, hLa, rfl, ht, h1, hv1.symm, hLb⟩
theorem Pushed.free {p i : Nat} {e : TypeId} {c : List Value} {mk : Nat → Value} (h : Pushed P ops es vs L p i e c mk) : ∃ o, ops[p]? = some o ∧ freeOp o.op = true := by
 obtain ⟨o, Ha, h1, h2, _⟩ := h
 exact ⟨o, h1, h2⟩
theorem Pushed.heavy {p i : Nat} {e : TypeId} {c : List Value} {mk : Nat → Value} (h : Pushed P ops es vs L p i e c mk) : heavyAt P ops p = true := by
 obtain ⟨o, h1, h2⟩ := h.free
 rw [zadw h1, zag7 h2]; rfl
theorem Pushed.fn {p i i' : Nat} {e e' : TypeId} {c c' : List Value} {mk mk' : Nat → Value} (h : Pushed P ops es vs L p i e c mk) (k : Pushed P ops es vs L p i' e' c' mk') : i' = i ∧ e' = e ∧ c' = c ∧ mk' = mk := by
 obtain ⟨o, Ha, h1, h2, h3, h4, h5, h6, h7, h8⟩ := h
 obtain ⟨o', Ha', k1, k2, k3, k4, k5, k6, k7, k8⟩ := k
 rw [h1] at k1; cases k1
 rw [h3] at k3; cases k3
 rw [h6] at k6
 cases k6
 exact ⟨by rw [h4, k4], rfl, rfl, rfl⟩
theorem Pushed.lt {p i : Nat} {e : TypeId} {c : List Value} {mk : Nat → Value} (h : Pushed P ops es vs L p i e c mk) (hn : nextsOk L = true) {R : Nat} {H : Hp} (hR : hcount P ops p < R) (hH : L[R]? = some H) : i < H.next := by
 obtain ⟨o, Ha, h1, h2, h3, h4, h5, h6, h7, h8⟩ := h
 have := zafi hn hR h8 hH
 rw [zaad] at this
 omega
theorem Pushed.ge {p i : Nat} {e : TypeId} {c : List Value} {mk : Nat → Value} (h : Pushed P ops es vs L p i e c mk) (hn : nextsOk L = true) {R : Nat} {H : Hp} (hR : R ≤ hcount P ops p) (hH : L[R]? = some H) : H.next ≤ i := by
 obtain ⟨o, Ha, h1, h2, h3, h4, h5, h6, h7, h8⟩ := h
 have := zafi hn hR hH h3
 omega
theorem Pushed.ord {p q i j : Nat} {e e' : TypeId} {c c' : List Value} {mk mk' : Nat → Value} (h : Pushed P ops es vs L p i e c mk) (k : Pushed P ops es vs L q j e' c' mk') (hn : nextsOk L = true) (hpq : p < q) : i < j := by
 have hc := zadb (P := P) (ops := ops) hpq h.heavy
 obtain ⟨o, Ha, h1, h2, h3, h4, h5, h6, h7, h8⟩ := k
 have := h.lt hn hc h3
 omega
theorem Pushed.inj {p q i : Nat} {e e' : TypeId} {c c' : List Value} {mk mk' : Nat → Value} (h : Pushed P ops es vs L p i e c mk) (k : Pushed P ops es vs L q i e' c' mk') (hn : nextsOk L = true) : p = q := by
 rcases Nat.lt_trichotomy p q with h1 | h1 | h1
 ·have := h.ord k hn h1; omega
 ·exact h1
 ·have := k.ord h hn h1; omega
abbrev Pk := Nat → Option (Nat × Array Value)
def Zof (P : Program) (ops : Array Oper) (es : Nat → Env) (vs : Nat → Value) (L : List Hp) (w0 : Base) (pk : Pk) : Nat → Obj → Prop := fun k x =>
 w0.Z k x ∨ ∃ p cs i e c mk, pk p = some (k, cs) ∧ Pushed P ops es vs L p i e c mk ∧ x = .cells cs (elT e) (0, 0)
def Yof (P : Program) (ops : Array Oper) (es : Nat → Env) (vs : Nat → Value) (L : List Hp) (w0 : Base) (R : Nat) (listed : Array Bool) : Nat → Blk → Prop := fun i b =>
 w0.Y i b ∨ ∃ p e c mk, Pushed P ops es vs L p i e c mk ∧ hcount P ops p < R ∧ listed.getD p false = false ∧ b = .cells true e c
def EG (P : Program) (ops : Array Oper) (es : Nat → Env) (vs : Nat → Value) (L : List Hp) (φ : Plan) (pk : Pk) (t j : Nat) (v v' : Value) : Prop :=
 VR φ v v' ∨ ∃ p k cs o, pk p = some (k, cs) ∧ p < j ∧ ops[p]? = some o ∧ o.dst = some t ∧ ∀ (ψ : Plan) i e c mk, Pushed P ops es vs L p i e c mk → ψ i = some ⟨k, 0, cs.size⟩ → VR ψ v v'
structure Inv2 (P : Program) (ops : Array Oper) (B : Nat) (w0 : Base) (N : Nat) (φ0 : Plan) (es : Nat → Env) (vs : Nat → Value) (L : List Hp) (listed : Array Bool) (a : Act) (w : World) (R : Nat) (φ χ : Plan) (H : Hp) (pk : Pk) : Prop where
 lsize : listed.size = ops.size
 closed : ∀ i j, i < ops.size → listed.getD j false = true → ahead ops i j = true → listed.getD i false = true
 size : a.tmps.size = N
 defers : a.defers = []
 hR : R ≤ hcount P ops ops.size
 hH : L[R]? = some H
 le0 : φ0.le φ
 rel : Rel B ⟨w0.w, Zof P ops es vs L w0 pk, Yof P ops es vs L w0 R listed⟩ φ H w
 anch : ∀ i, i < ops.size → anchAt P ops i = true → (listed.getD i false = true ↔ hcount P ops i < R)
 pkS : ∀ p k cs, pk p = some (k, cs) → listed.getD p false = true ∧ R ≤ hcount P ops p ∧ B ≤ k ∧ (∀ x, ¬ w0.Z k x) ∧
  ∃ i e c mk, Pushed P ops es vs L p i e c mk ∧ χ i = some ⟨k, 0, cs.size⟩ ∧ VRs (χ.cut i) c cs.toList ∧ ∀ u ∈ cs.toList, u.oneCell' = true
 pkA : ∀ p i e c mk, Pushed P ops es vs L p i e c mk → R ≤ hcount P ops p → listed.getD p false = true → ∃ k cs, pk p = some (k, cs)
 pkI : ∀ p q k cs cs', pk p = some (k, cs) → pk q = some (k, cs') → p = q
 le : φ.le χ
 chi : ∀ i m, χ i = some m → φ i = some m ∨ ∃ p e c mk k cs, Pushed P ops es vs L p i e c mk ∧ pk p = some (k, cs)
 env : ∀ t j, j ≤ ops.size → (∀ i o, i < j → ops[i]? = some o → o.dst = some t → listed.getD i false = true) → (∀ i o, j ≤ i → ops[i]? = some o → o.dst = some t → listed.getD i false = false) →
  EG P ops es vs L φ pk t j (eget (es j) t) (a.tmps.getD t undef)
end
end Go.Proofs.YtliemjbafgnnbaaDoor.Abs
