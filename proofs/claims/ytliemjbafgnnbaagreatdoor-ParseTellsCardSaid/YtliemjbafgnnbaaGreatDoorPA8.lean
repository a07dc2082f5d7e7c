/- Regions: one behind the other, or in whatever order their edges let. -/
import Derived.Test.YtliemjbafgnnbaaGreatDoorPA7
set_option linter.unnecessarySimpa false
set_option linter.unusedSimpArgs false
set_option linter.unusedVariables false
namespace Go.Proofs.YtliemjbafgnnbaaGreatDoor.Abs
open Go Go.RowKit
def KSound (P : Program) (B : Nat) (w1 : World) (K : CallFn) : Prop :=
 ∀ w0 : Base, w0.w = w1 → ∀ f args H v H', K f args H = some (v, H') → ∀ (φ : Plan) (w : World) (args' : List Value), Rel B w0 φ H w → VRs φ args args' →
  Calls P f args'.toArray w fun e w' => ∃ ψ v', φ.le ψ ∧ e = .returned v' ∧ VR ψ v v' ∧ Rel B w0 ψ H' w'
def ERel (φ : Plan) (e : Env) (t : Array Value) : Prop := ∀ i : Nat, VR φ (eget e i) (t.getD i undef)
theorem ERel.mono {φ ψ : Plan} (h : φ.le ψ) {e : Env} {t : Array Value} (k : ERel φ e t) : ERel ψ e t := fun i => (k i).mono h
theorem zajx (t : Array Value) (d i : Nat) (v : Value) (hd : d < t.size) : (t.setIfInBounds d v).getD i undef = if i = d then v else t.getD i undef := by
 simp only [Array.getD_eq_getD_getElem?]
 by_cases h : i = d
 ·subst h; rw [if_pos rfl, Array.getElem?_setIfInBounds_self_of_lt hd]; rfl
 ·rw [if_neg h, Array.getElem?_setIfInBounds_ne (fun e => h e.symm)]
theorem ERel.put {φ : Plan} {e : Env} {a : Act} (k : ERel φ e a.tmps) {d : Option Tmp} {v v' : Value} (hv : VR φ v v') (hd : ∀ t, d = some t → t < a.tmps.size) : ERel φ (eput e d v) (a.put d v').tmps := by
 cases d with
 | none => exact k
 | some d =>
  intro i
  show VR φ (eget (eset e d v) i) ((a.tmps.setIfInBounds d v').getD i undef)
  rw [zaak, zajx _ _ _ _ (hd d rfl)]
  split
  ·exact hv
  ·exact k i
theorem za2e (φ : Plan) (v : Value) : VR φ (aconst v) v := by
 unfold aconst
 split
 ·exact .int _ _
 ·exact .bool _
 ·exact .string _
 ·split
  ·exact zaed 8 v (by assumption)
  ·exact .undef _ _
theorem zaj8 {φ : Plan} {e : Env} {a : Act} {x : Operand} (h : ∀ t, x = .tmp t → VR φ (eget e t) (a.tmps.getD t undef)) : VR φ (aeval e x) (a.eval x) := by
 cases x with
 | tmp t => exact h t rfl
 | const v => exact za2e φ v
 | global g => exact .undef _ _
 | func f => exact .func _ _ _ _ _ rfl rfl (fun i => .undef _ _) (fun i => .undef _ _)
theorem ERel.eval {φ : Plan} {e : Env} {a : Act} (k : ERel φ e a.tmps) (x : Operand) : VR φ (aeval e x) (a.eval x) := zaj8 fun t _ => k t
theorem zahr (a : Act) (d : Option Tmp) (v : Value) : (a.put d v).tmps.size = a.tmps.size := by cases d <;> simp [Act.put]
theorem zad9 (a : Act) (d : Option Tmp) (v : Value) : (a.put d v).defers = a.defers := by cases d <;> rfl
theorem zahu {φ : Plan} {ops : Array Oper} {o : Oper} {e : Env} {a : Act} {t : Bool} (h : awanted ops o e = some t)
    (hr : ∀ j want d, o.guard = some (j, want) → (ops[j]?).bind (·.dst) = some d → VR φ (eget e d) (a.tmps.getD d undef)) : Region.wanted o (yielded ops a.tmps) = t := by
 unfold awanted at h
 unfold Region.wanted
 split at h
 ·rename_i hg; simp only [hg]; cases h; rfl
 ·rename_i j want hg
  simp only [hg]
  simp only [ayielded, Option.bind_eq_some_iff] at h
  obtain ⟨d, hd, hb⟩ := h
  have hv := hr j want d hg (by simpa [Option.bind_eq_some_iff] using hd)
  have hd2 : (ops[j]?).bind (·.dst) = some d := by simpa [Option.bind_eq_some_iff] using hd
  generalize eget e d = u at hb hv
  unfold asGuard at hb
  split at hb
  ·rename_i b'
   cases hb
   have e1 := hv.bool_inv
   have e2 : a.tmps[d]? = some (.bool b') := by
    rw [Array.getD_eq_getD_getElem?] at e1
    cases hc : a.tmps[d]? with
    | none => rw [hc] at e1; simp [undef] at e1
    | some u => rw [hc] at e1; simp at e1; rw [e1]
   simp only [yielded, hd2, Option.bind_some, e2]
   cases b' <;> cases want <;> rfl
  ·cases hb
   have e1 : a.tmps.getD d undef = undef := by
    generalize a.tmps.getD d undef = z at hv
    cases hv
    rfl
   have e2 : yielded ops a.tmps j = none := by
    simp only [yielded, hd2, Option.bind_some]
    rw [Array.getD_eq_getD_getElem?] at e1
    cases hc : a.tmps[d]? with
    | none => rfl
    | some u => rw [hc] at e1; simp at e1; subst e1; rfl
   rw [e2]; rfl
  ·cases hb
section
variable {P : Program} {B : Nat} {w0 : Base} {K : CallFn} (hK : KSound P B w0.w K) {φ : Plan} {H H' : Hp} {a : Act} {w : World} {e : Env} {o : Oper} {v : Value}
theorem zayt {r : Res} {s : Result Next} (h : Told P B w0 w φ s r) (hd : o.dst = o.dst) {next : Act → World → Prop} {Q : Exit → Act → World → Prop}
    (hv : (match r with | .val v H' => some (v, H') | .enter f args => K f args H) = some (v, H')) (hR : Rel B w0 φ H w)
    (hn : ∀ ψ v' w', φ.le ψ → VR ψ v v' → Rel B w0 ψ H' w' → next (a.put o.dst v') w') (hK : KSound P B w0.w K) : o.upon P a next Q s := by
 cases r with
 | val v1 H1 =>
  simp only [Option.some.injEq, Prod.mk.injEq] at hv
  obtain ⟨rfl, rfl⟩ := hv
  obtain ⟨ψ, v', w', nx, h1, h2, h3, h4, h5⟩ := h
  rw [h2]
  rcases h3 with rfl | ⟨rfl, rfl⟩
  ·exact hn ψ v' w' h1 h4 h5
  ·exact hn ψ undef w' h1 h4 h5
 | enter f args =>
  obtain ⟨args', h1, h2⟩ := h
  rw [h1]
  show Calls P f args'.toArray w _
  refine (hK w0 rfl f args H v H' hv φ w args' hR h2).mono ?_
  rintro e w' ⟨ψ, v', g1, rfl, g2, g3⟩
  exact hn ψ v' w' g1 g2 g3
include hK in
theorem zago {ops : Array Oper} (hR : Rel B w0 φ H w) (h : hval P K ops o e H = some (v, H')) (hρ : ∀ x, VR φ (aeval e x) (a.eval x))
    (hg : ∀ j want d, o.guard = some (j, want) → (ops[j]?).bind (·.dst) = some d → VR φ (eget e d) (a.tmps.getD d undef))
    {next : Act → World → Prop} {Q : Exit → Act → World → Prop} (hn : ∀ ψ v' w', φ.le ψ → VR ψ v v' → Rel B w0 ψ H' w' → next (a.put o.dst v') w') :
    (if Region.wanted o (yielded ops a.tmps) then o.wp P a w next Q ∨ (o.asks P a w ∧ LetsOut Q) else next (a.put o.dst undef) w) := by
 unfold hval at h
 simp only [Option.bind_eq_some_iff] at h
 obtain ⟨t, ht, h⟩ := h
 rw [zahu ht hg]
 cases t with
 | false =>
  simp only [Bool.false_eq_true, if_false] at h ⊢
  cases h
  exact hn φ undef w (Plan.le_refl φ) .nr hR
 | true =>
  simp only [if_true] at h ⊢
  left
  unfold stepOp at h
  simp only [Option.bind_eq_some_iff] at h
  obtain ⟨r, hr, h⟩ := h
  have told := zaw8 (P := P) hR hρ (o := o) hr
  refine zayt (K := K) (v := v) (H' := H') (H := H) told rfl ?_ hR hn hK
  cases r <;> exact h
theorem zaqe {ops : Array Oper} (hl : light P o.op = true) (h : lval P ops o e H = some v) : hval P K ops o e H = some (v, H) := by
 unfold lval at h
 unfold hval
 simp only [Option.bind_eq_some_iff] at h ⊢
 obtain ⟨t, ht, h⟩ := h
 refine ⟨t, ht, ?_⟩
 cases t with
 | false => simp only [Bool.false_eq_true, if_false] at h ⊢; cases h; rfl
 | true => simp only [if_true] at h ⊢; simp [stepOp, aop, hl, h]
theorem zav0 {ops : Array Oper} {e' : Env} (h : stepG P K ops o e H = some (e', H')) : ∃ v, hval P K ops o e H = some (v, H') ∧ e' = eput e o.dst v := by
 unfold stepG at h
 simp only [Option.bind_eq_some_iff] at h
 obtain ⟨t, ht, h⟩ := h
 cases t with
 | false => simp only [Bool.false_eq_true, if_false] at h; cases h; exact ⟨NR, by simp [hval, ht], rfl⟩
 | true =>
  simp only [if_true, Option.map_eq_some_iff] at h
  obtain ⟨⟨v, H1⟩, h1, h2⟩ := h
  cases h2
  exact ⟨v, by simp [hval, ht, h1], rfl⟩
structure St (B : Nat) (w0 : Base) (N : Nat) (φ : Plan) (e : Env) (H : Hp) (a : Act) (w : World) : Prop where
 env : ERel φ e a.tmps
 size : a.tmps.size = N
 defers : a.defers = []
 rel : Rel B w0 φ H w
def Goes (B : Nat) (w0 : Base) (N : Nat) (φ : Plan) (e' : Env) (H' : Hp) (a : Act) (w : World) : Prop := ∃ ψ, φ.le ψ ∧ St B w0 N ψ e' H' a w
include hK in
theorem zan1 {ops : Array Oper} {N : Nat} {Q : Exit → Act → World → Prop} : ∀ (l : List Oper) (φ : Plan) (e : Env) (H : Hp) (a : Act) (w : World) (e' : Env) (H' : Hp),
    runL P K ops l e H = some (e', H') → (∀ o ∈ l, ∀ d, o.dst = some d → d < N) → St B w0 N φ e H a w → (∀ a w, Goes B w0 N φ e' H' a w → Q .normal a w) → wpList P ops Q l a w
 | [], φ, e, H, a, w, e', H', h, _, hs, hq => by
  simp only [runL] at h
  cases h
  exact hq a w ⟨φ, Plan.le_refl φ, hs⟩
 | o :: rest, φ, e, H, a, w, e', H', h, hd, hs, hq => by
  simp only [runL, Option.bind_eq_some_iff] at h
  obtain ⟨⟨e1, H1⟩, h1, h⟩ := h
  obtain ⟨v, hv, rfl⟩ := zav0 h1
  refine zago (K := K) hK hs.rel hv (fun x => hs.env.eval x) (fun j want d _ _ => hs.env d) ?_
  intro ψ v' w' hψ hvr hR'
  refine zan1 rest ψ _ H1 _ w' e' H' h (fun o ho => hd o (by simp [ho])) ⟨(hs.env.mono hψ).put hvr (fun t ht => by rw [hs.size]; exact hd o (by simp) t ht), by rw [zahr, hs.size], by rw [zad9, hs.defers], hR'⟩ ?_
  rintro a w ⟨χ, h1, h2⟩
  exact hq a w ⟨χ, Plan.le_trans hψ h1, h2⟩
end
section
variable {P : Program} {K : CallFn} {ops : Array Oper}
theorem zafn (l : List Tmp) (e : Env) (t : Nat) : eget (restr l e) t = if t ∈ l then eget e t else undef := by
 induction l with
 | nil => simp [restr, zaaw]
 | cons x l ih =>
  show eget (eset (restr l e) x (eget e x)) t = _
  rw [zaak, ih]
  by_cases h : t = x
  ·simp [h]
  ·simp [h]
theorem zag6 {i j : Nat} (h : i ≤ j) : hcount P ops i ≤ hcount P ops j := by
 induction j with
 | zero => have : i = 0 := by omega
           subst this; exact Nat.le_refl _
 | succ j ih =>
  rcases Nat.lt_or_ge i (j + 1) with h' | h'
  ·exact Nat.le_trans (ih (by omega)) (by simp [hcount])
  ·have : i = j + 1 := by omega
   subst this; exact Nat.le_refl _
theorem zadv {i j : Nat} (h : i < j) (hh : heavyAt P ops i = true) : hcount P ops i < hcount P ops j := by
 have := zag6 (P := P) (ops := ops) (show i + 1 ≤ j from h)
 simp only [hcount, hh, if_true] at this
 omega
theorem zak3 (p : Nat) : hcount P ops p = 0 ∨ ∃ i, i < p ∧ heavyAt P ops i = true ∧ hcount P ops i + 1 = hcount P ops p := by
 induction p with
 | zero => exact .inl rfl
 | succ p ih =>
  by_cases hh : heavyAt P ops p = true
  ·exact .inr ⟨p, by omega, hh, by simp [hcount, hh]⟩
  ·have hh' : heavyAt P ops p = false := by simpa using hh
   rcases ih with h | ⟨i, h1, h2, h3⟩
   ·exact .inl (by simp [hcount, hh', h])
   ·exact .inr ⟨i, by omega, h2, by simp [hcount, hh', h3]⟩
structure Ran (P : Program) (K : CallFn) (ops : Array Oper) (s n : Nat) (es : Nat → Env) (vs : Nat → Value) (L : List Hp) (c0 : Nat) (rs : List Rec) : Prop where
 op : ∀ i, s ≤ i → i < n → ∃ o, ops[i]? = some o ∧ es (i + 1) = eput (es i) o.dst (vs i) ∧
  ∃ Ha, L[c0 + (hcount P ops i - hcount P ops s)]? = some Ha ∧
  if light P o.op then lval P ops o (restr (tmpsOf ops o) (es i)) Ha = some (vs i) ∧ (⟨i, restr (tmpsOf ops o) (es i), vs i⟩ : Rec) ∈ rs
  else ∃ Hb, L[c0 + (hcount P ops i - hcount P ops s) + 1]? = some Hb ∧ hval P K ops o (restr (tmpsOf ops o) (es i)) Ha = some (vs i, Hb)
theorem zael {i : Nat} {o : Oper} (h : ops[i]? = some o) : heavyAt P ops i = !light P o.op := by simp [heavyAt, h]
theorem zajd : ∀ (m s : Nat) (e : Env) (H0 : Hp) (Hs : List Hp) (rs : List Rec) (r : Env × List Hp × List Rec), runD P K ops (List.range' s m) e (H0 :: Hs) rs = some r →
    ∃ (es : Nat → Env) (vs : Nat → Value) (Ht : List Hp), es s = e ∧ r.1 = es (s + m) ∧ r.2.1 = Ht ++ H0 :: Hs ∧ Ht.length = hcount P ops (s + m) - hcount P ops s ∧ (∀ x ∈ rs, x ∈ r.2.2) ∧
     Ran P K ops s (s + m) es vs r.2.1.reverse Hs.length r.2.2
 | 0, s, e, H0, Hs, rs, r, h => by
  simp only [List.range'_zero, runD] at h
  cases h
  exact ⟨fun _ => e, fun _ => undef, [], rfl, rfl, rfl, by simp, fun x hx => hx, ⟨fun i h1 h2 => by omega⟩⟩
 | m + 1, s, e, H0, Hs, rs, r, h => by
  simp only [List.range'_succ, runD] at h
  cases ho : ops[s]? with
  | none => rw [ho] at h; simp at h
  | some o =>
   rw [ho] at h
   simp only at h
   have hidx : ∀ (Ht : List Hp) (x : List Hp), (Ht ++ x).reverse = x.reverse ++ Ht.reverse := fun Ht x => List.reverse_append
   split at h
   ·rename_i hl
    simp only [Option.bind_eq_some_iff] at h
    obtain ⟨v, hv, h⟩ := h
    obtain ⟨es, vs, Ht, e1, e2, e3, e4, e5, ran⟩ := zajd m (s + 1) _ H0 Hs _ r h
    have hc : hcount P ops (s + 1) = hcount P ops s := by simp [hcount, zael ho, hl]
    refine ⟨fun i => if i = s then e else es i, fun i => if i = s then v else vs i, Ht, by simp, ?_, e3, by rw [e4, hc, Nat.add_assoc, Nat.add_comm 1 m], fun x hx => e5 x (by simp [hx]), ⟨fun i h1 h2 => ?_⟩⟩
    ·show r.1 = if s + (m + 1) = s then e else es (s + (m + 1))
     rw [if_neg (by omega), e2]; congr 1; omega
    ·by_cases hi : i = s
     ·subst hi
      refine ⟨o, ho, by simp [e1], H0, ?_, ?_⟩
      ·rw [Nat.sub_self, Nat.add_zero, e3, hidx, List.getElem?_append_left (by simp), List.reverse_cons, List.getElem?_append_right (by simp)]
       simp
      ·rw [if_pos hl]
       simp only [if_true]
       exact ⟨hv, e5 _ (by simp)⟩
     ·obtain ⟨o', g1, g2, Ha, g3, g4⟩ := ran.op i (by omega) (by omega)
      rw [hc] at g3
      refine ⟨o', g1, by simp only [show i + 1 ≠ s by omega, if_false, hi]; exact g2, Ha, g3, ?_⟩
      simp only [if_neg hi]
      split
      ·rename_i hl'; rw [if_pos hl'] at g4; exact g4
      ·rename_i hl'; rw [if_neg hl', hc] at g4; exact g4
   ·rename_i hl
    simp only [Option.bind_eq_some_iff] at h
    obtain ⟨⟨v, H1⟩, hv, h⟩ := h
    obtain ⟨es, vs, Ht, e1, e2, e3, e4, e5, ran⟩ := zajd m (s + 1) _ H1 (H0 :: Hs) _ r h
    have hl' : light P o.op = false := by simpa using hl
    have hc : hcount P ops (s + 1) = hcount P ops s + 1 := by simp [hcount, zael ho, hl']
    have hmono := zag6 (P := P) (ops := ops) (show s + 1 ≤ s + 1 + m by omega)
    refine ⟨fun i => if i = s then e else es i, fun i => if i = s then v else vs i, Ht ++ [H1], by simp, ?_, by rw [e3]; simp, ?_, fun x hx => e5 x hx, ⟨fun i h1 h2 => ?_⟩⟩
    ·show r.1 = if s + (m + 1) = s then e else es (s + (m + 1))
     rw [if_neg (by omega), e2]; congr 1; omega
    ·rw [List.length_append, e4, List.length_singleton, show s + (m + 1) = s + 1 + m by omega]; omega
    ·by_cases hi : i = s
     ·subst hi
      refine ⟨o, ho, by simp [e1], H0, ?_, ?_⟩
      ·rw [Nat.sub_self, Nat.add_zero, e3, hidx, List.getElem?_append_left (by simp), List.reverse_cons, List.getElem?_append_left (by simp), List.reverse_cons, List.getElem?_append_right (by simp)]
       simp
      ·rw [if_neg hl]
       simp only [if_true]
       refine ⟨H1, ?_, hv⟩
       rw [Nat.sub_self, Nat.add_zero, e3, hidx, List.getElem?_append_left (by simp), List.reverse_cons, List.getElem?_append_right (by simp)]
       simp
     ·obtain ⟨o', g1, g2, Ha, g3, g4⟩ := ran.op i (by omega) (by omega)
      have hle := zag6 (P := P) (ops := ops) (show s + 1 ≤ i by omega)
      have hx : (H0 :: Hs).length + (hcount P ops i - hcount P ops (s + 1)) = Hs.length + (hcount P ops i - hcount P ops s) := by simp; omega
      rw [hx] at g3
      refine ⟨o', g1, by simp only [show i + 1 ≠ s by omega, if_false, hi]; exact g2, Ha, g3, ?_⟩
      simp only [if_neg hi]
      split
      ·rename_i hl'; rw [if_pos hl'] at g4; exact g4
      ·rename_i hl'; rw [if_neg hl', hx] at g4; exact g4
end
end Go.Proofs.YtliemjbafgnnbaaGreatDoor.Abs
