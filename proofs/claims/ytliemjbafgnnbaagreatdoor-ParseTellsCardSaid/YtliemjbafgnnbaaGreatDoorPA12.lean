/- How a call's answer is shown, step by step: rules over the plain evaluator, its fuel hidden. -/
import Derived.Test.YtliemjbafgnnbaaGreatDoorPA11
set_option linter.unnecessarySimpa false
set_option linter.unusedSimpArgs false
set_option linter.unusedVariables false
namespace Go.Proofs.YtliemjbafgnnbaaGreatDoor.Abs
open Go Go.RowKit
def CallFn.le (K K' : CallFn) : Prop := ∀ f a H r, K f a H = some r → K' f a H = some r
section
variable {P : Program} {K K' : CallFn}
theorem zalp (h : K.le K') {o : Oper} {e : Env} {H : Hp} {r : Value × Hp} (hr : stepOp P K o e H = some r) : stepOp P K' o e H = some r := by
 unfold stepOp at hr ⊢
 simp only [Option.bind_eq_some_iff] at hr ⊢
 obtain ⟨x, hx, hr⟩ := hr
 refine ⟨x, hx, ?_⟩
 cases x with
 | val v H' => exact hr
 | enter f args => exact h _ _ _ _ hr
theorem zav1 (h : K.le K') {ops : Array Oper} {o : Oper} {e : Env} {H : Hp} {r : Env × Hp} (hr : stepG P K ops o e H = some r) : stepG P K' ops o e H = some r := by
 unfold stepG at hr ⊢
 simp only [Option.bind_eq_some_iff] at hr ⊢
 obtain ⟨t, ht, hr⟩ := hr
 refine ⟨t, ht, ?_⟩
 cases t with
 | false => exact hr
 | true =>
  simp only [if_true, Option.map_eq_some_iff] at hr ⊢
  obtain ⟨x, hx, e⟩ := hr
  exact ⟨x, zalp h hx, e⟩
theorem zaxz (h : K.le K') {ops : Array Oper} {o : Oper} {e : Env} {H : Hp} {r : Value × Hp} (hr : hval P K ops o e H = some r) : hval P K' ops o e H = some r := by
 unfold hval at hr ⊢
 simp only [Option.bind_eq_some_iff] at hr ⊢
 obtain ⟨t, ht, hr⟩ := hr
 refine ⟨t, ht, ?_⟩
 cases t with
 | false => exact hr
 | true =>
  simp only [if_true] at hr ⊢
  exact zalp h hr
theorem zami (h : K.le K') {ops : Array Oper} : ∀ (l : List Oper) (e : Env) (H : Hp) (r : Env × Hp), runL P K ops l e H = some r → runL P K' ops l e H = some r
 | [], _, _, _, hr => hr
 | o :: l, e, H, r, hr => by
  simp only [runL, Option.bind_eq_some_iff] at hr ⊢
  obtain ⟨x, hx, hr⟩ := hr
  exact ⟨x, zav1 h hx, zami h l _ _ r hr⟩
theorem zag8 (h : K.le K') {ops : Array Oper} : ∀ (l : List Nat) (e : Env) (Hs : List Hp) (rs : List Rec) (r : Env × List Hp × List Rec), runD P K ops l e Hs rs = some r → runD P K' ops l e Hs rs = some r
 | [], _, _, _, _, hr => hr
 | i :: l, e, Hs, rs, r, hr => by
  simp only [runD] at hr ⊢
  split at hr
  ·split at hr
   ·rename_i hl
    rw [if_pos hl]
    simp only [Option.bind_eq_some_iff] at hr ⊢
    obtain ⟨x, hx, hr⟩ := hr
    exact ⟨x, hx, zag8 h l _ _ _ r hr⟩
   ·rename_i hl
    rw [if_neg hl]
    simp only [Option.bind_eq_some_iff] at hr ⊢
    obtain ⟨x, hx, hr⟩ := hr
    exact ⟨x, zaxz h hx, zag8 h l _ _ _ r hr⟩
  ·cases hr
theorem zamj (h : K.le K') {ops : Array Oper} {draw : Bool} {e : Env} {H : Hp} {r : Env × Hp} (hr : runRegion P K ops draw e H = some r) : runRegion P K' ops draw e H = some r := by
 unfold runRegion at hr ⊢
 split at hr
 ·rename_i hd
  rw [if_pos hd]
  split at hr
  ·rename_i hok
   rw [if_pos hok]
   simp only [Option.bind_eq_some_iff] at hr ⊢
   obtain ⟨x, hx, hr⟩ := hr
   exact ⟨x, zag8 h _ _ _ _ _ hx, hr⟩
  ·rename_i hno
   rw [if_neg hno]
   split at hr
   ·rename_i hok
    rw [if_pos hok]
    simp only [Option.bind_eq_some_iff] at hr ⊢
    obtain ⟨x, hx, hr⟩ := hr
    exact ⟨x, zag8 h _ _ _ _ _ hx, hr⟩
   ·cases hr
 ·rename_i hd
  rw [if_neg hd]
  exact zami h _ _ _ _ hr
theorem zamd {g g' : Env → Hp → Option (Ex × Env × Hp)} (h : ∀ e H r, g e H = some r → g' e H = some r) : ∀ (n n' : Nat), n ≤ n' → ∀ e H r, iter g n e H = some r → iter g' n' e H = some r
 | 0, _, _, _, _, _, hr => by simp [iter] at hr
 | n + 1, 0, hn, _, _, _, _ => by omega
 | n + 1, n' + 1, hn, e, H, r, hr => by
  simp only [iter, Option.bind_eq_some_iff] at hr ⊢
  obtain ⟨x, hx, hr⟩ := hr
  refine ⟨x, h _ _ _ hx, ?_⟩
  split at hr
  ·exact zamd h n n' (by omega) _ _ _ hr
  ·exact hr
theorem zaga (h : K.le K') {n n' : Nat} (hn : n ≤ n') : ∀ (c : Code) (e : Env) (H : Hp) (r : Ex × Env × Hp), runC P K n c e H = some r → runC P K' n' c e H = some r := by
 intro c
 induction c with
 | region id ops draw =>
  intro e H r hr
  simp only [runC, Option.map_eq_some_iff] at hr ⊢
  obtain ⟨x, hx, hr⟩ := hr
  exact ⟨x, zamj h hx, hr⟩
 | seq a b iha ihb =>
  intro e H r hr
  simp only [runC, Option.bind_eq_some_iff] at hr ⊢
  obtain ⟨x, hx, hr⟩ := hr
  refine ⟨x, iha _ _ _ hx, ?_⟩
  split at hr
  ·exact ihb _ _ _ hr
  ·exact hr
 | cond o a b iha ihb =>
  intro e H r hr
  simp only [runC] at hr ⊢
  split at hr
  ·rename_i t ht
   cases t with
   | true => exact iha _ _ _ hr
   | false => exact ihb _ _ _ hr
  ·cases hr
 | block id c ih =>
  intro e H r hr
  simp only [runC, Option.map_eq_some_iff] at hr ⊢
  obtain ⟨x, hx, hr⟩ := hr
  exact ⟨x, ih _ _ _ hx, hr⟩
 | loop c ih =>
  intro e H r hr
  simp only [runC] at hr ⊢
  exact zamd ih n n' hn _ _ _ hr
 | skip => intro e H r hr; simpa [runC] using hr
 | exit id => intro e H r hr; simpa [runC] using hr
 | ret => intro e H r hr; simpa [runC] using hr
 | _ => intro e H r hr; simp [runC] at hr
theorem zaea {X : Outer} : ∀ (n n' : Nat), n ≤ n' → CallFn.le (run P X n) (run P X n')
 | 0, _, _ => fun f a H r hr => by simp [run] at hr
 | n + 1, 0, hn => by omega
 | n + 1, n' + 1, hn => fun f a H r hr => by
  have ih := zaea (X := X) n n' (by omega)
  simp only [run] at hr ⊢
  split at hr
  ·exact hr
  ·split at hr
   ·cases hr
   ·split at hr
    ·cases hr
    ·split at hr
     ·rename_i hok
      rw [if_pos hok]
      simp only [Option.bind_eq_some_iff] at hr ⊢
      obtain ⟨x, hx, hr⟩ := hr
      exact ⟨x, zaga ih (by omega) _ _ _ _ hx, hr⟩
     ·cases hr
end
section
variable (P : Program) (X : Outer)
def Df (f : FuncId) (args : List Value) (H : Hp) (Q : Value → Hp → Prop) : Prop := ∃ n r, run P X n f args H = some r ∧ Q r.1 r.2
def Dc (c : Code) (e : Env) (H : Hp) (Q : Ex → Env → Hp → Prop) : Prop := ∃ n r, runC P (run P X n) n c e H = some r ∧ Q r.1 r.2.1 r.2.2
def DR (ops : Array Oper) : List Oper → Env → Hp → (Env → Hp → Prop) → Prop
 | [], e, H, Q => Q e H
 | o :: rest, e, H, Q => match awanted ops o e with
  | none => False
  | some false => DR ops rest (eput e o.dst NR) H Q
  | some true => match aop P (aeval e) H o.op with
   | none => False
   | some (.val v H') => DR ops rest (eput e o.dst v) H' Q
   | some (.enter f args) => Df P X f args H fun v H' => DR ops rest (eput e o.dst v) H' Q
def DD (ops : Array Oper) : List Nat → Env → List Hp → List Rec → (Env → Hp → Prop) → Prop
 | [], e, Hs, rs, Q => rs.all (recOk P ops Hs.reverse) = true ∧ match Hs with | H :: _ => Q e H | [] => False
 | i :: rest, e, Hs, rs, Q => match ops[i]?, Hs with
  | some o, H :: _ =>
   if light P o.op then match lval P ops o (restr (tmpsOf ops o) e) H with
    | some v => DD ops rest (eput e o.dst v) Hs (⟨i, restr (tmpsOf ops o) e, v⟩ :: rs) Q
    | none => False
   else match awanted ops o (restr (tmpsOf ops o) e) with
    | none => False
    | some false => DD ops rest (eput e o.dst NR) (H :: Hs) rs Q
    | some true => match aop P (aeval (restr (tmpsOf ops o) e)) H o.op with
     | none => False
     | some (.val v H') => DD ops rest (eput e o.dst v) (H' :: Hs) rs Q
     | some (.enter f args) => Df P X f args H fun v H' => DD ops rest (eput e o.dst v) (H' :: Hs) rs Q
  | _, _ => False
end
section
variable {P : Program} {X : Outer}
@[congr] theorem Df_congr {f : FuncId} {args args' : List Value} {H H' : Hp} {Q : Value → Hp → Prop} (h : args = args') (k : H = H') : Df P X f args H Q = Df P X f args' H' Q := by rw [h, k]
@[congr] theorem Dc_congr {c : Code} {e : Env} {H H' : Hp} {Q : Ex → Env → Hp → Prop} (k : H = H') : Dc P X c e H Q = Dc P X c e H' Q := by rw [k]
theorem Df.mono {f : FuncId} {args : List Value} {H : Hp} {Q Q' : Value → Hp → Prop} (h : Df P X f args H Q) (hq : ∀ v H', Q v H' → Q' v H') : Df P X f args H Q' := by
 obtain ⟨n, r, h1, h2⟩ := h
 exact ⟨n, r, h1, hq _ _ h2⟩
theorem Dc.mono {c : Code} {e : Env} {H : Hp} {Q Q' : Ex → Env → Hp → Prop} (h : Dc P X c e H Q) (hq : ∀ x e H', Q x e H' → Q' x e H') : Dc P X c e H Q' := by
 obtain ⟨n, r, h1, h2⟩ := h
 exact ⟨n, r, h1, hq _ _ _ h2⟩
theorem zamv {ops : Array Oper} : ∀ (l : List Oper) (e : Env) (H : Hp) (Q Q' : Env → Hp → Prop), (∀ e H, Q e H → Q' e H) → DR P X ops l e H Q → DR P X ops l e H Q'
 | [], e, H, Q, Q', hq, h => hq _ _ h
 | o :: l, e, H, Q, Q', hq, h => by
  simp only [DR] at h ⊢
  split at h
  ·exact h.elim
  ·rename_i hw; exact zamv l _ _ Q Q' hq h
  ·rename_i hw
   split at h
   ·exact h.elim
   ·rename_i v H' ha; exact zamv l _ _ Q Q' hq h
   ·rename_i f args ha; exact h.mono fun v H' h => zamv l _ _ Q Q' hq h
theorem DR_run {ops : Array Oper} : ∀ (l : List Oper) (e : Env) (H : Hp) (Q : Env → Hp → Prop), DR P X ops l e H Q → ∃ n r, runL P (run P X n) ops l e H = some r ∧ Q r.1 r.2
 | [], e, H, Q, h => ⟨0, (e, H), rfl, h⟩
 | o :: l, e, H, Q, h => by
  simp only [DR] at h
  split at h
  ·exact h.elim
  ·rename_i hw
   obtain ⟨n, r, h1, h2⟩ := DR_run l _ _ Q h
   exact ⟨n, r, by simp [runL, stepG, hw, h1], h2⟩
  ·rename_i hw
   split at h
   ·exact h.elim
   ·rename_i v H' ha
    obtain ⟨n, r, h1, h2⟩ := DR_run l _ _ Q h
    exact ⟨n, r, by simp [runL, stepG, hw, stepOp, ha, h1], h2⟩
   ·rename_i f args ha
    obtain ⟨m, x, h1, h2⟩ := h
    obtain ⟨n, r, h3, h4⟩ := DR_run l _ _ Q h2
    refine ⟨max m n, r, ?_, h4⟩
    have k1 := zaea (P := P) (X := X) m (max m n) (Nat.le_max_left _ _) _ _ _ _ h1
    have k2 := zami (P := P) (zaea (X := X) n (max m n) (Nat.le_max_right _ _)) _ _ _ _ h3
    simp [runL, stepG, hw, stepOp, ha, k1, k2]
theorem DD_run {ops : Array Oper} : ∀ (l : List Nat) (e : Env) (Hs : List Hp) (rs : List Rec) (Q : Env → Hp → Prop), DD P X ops l e Hs rs Q →
    ∃ n r, runD P (run P X n) ops l e Hs rs = some r ∧ r.2.2.all (recOk P ops r.2.1.reverse) = true ∧ ∃ H', r.2.1.head? = some H' ∧ Q r.1 H'
 | [], e, Hs, rs, Q, h => by
  simp only [DD] at h
  cases Hs with
  | nil => exact h.2.elim
  | cons H Hs => exact ⟨0, (e, H :: Hs, rs), rfl, h.1, H, rfl, h.2⟩
 | i :: l, e, Hs, rs, Q, h => by
  simp only [DD] at h
  split at h
  ·rename_i o H Hs ho
   split at h
   ·rename_i hl
    split at h
    ·rename_i v hv
     obtain ⟨n, r, h1, h2⟩ := DD_run l _ _ _ Q h
     exact ⟨n, r, by simp [runD, ho, hl, hv, h1], h2⟩
    ·exact h.elim
   ·rename_i hl
    have hl' : light P o.op = false := by simpa using hl
    split at h
    ·exact h.elim
    ·rename_i hw
     obtain ⟨n, r, h1, h2⟩ := DD_run l _ _ _ Q h
     exact ⟨n, r, by simp [runD, ho, hl', hval, hw, h1], h2⟩
    ·rename_i hw
     split at h
     ·exact h.elim
     ·rename_i v H' ha
      obtain ⟨n, r, h1, h2⟩ := DD_run l _ _ _ Q h
      exact ⟨n, r, by simp [runD, ho, hl', hval, hw, stepOp, ha, h1], h2⟩
     ·rename_i f args ha
      obtain ⟨m, x, h1, h2⟩ := h
      obtain ⟨n, r, h3, h4⟩ := DD_run l _ _ _ Q h2
      refine ⟨max m n, r, ?_, h4⟩
      have k1 := zaea (P := P) (X := X) m (max m n) (Nat.le_max_left _ _) _ _ _ _ h1
      have k2 := zag8 (P := P) (zaea (X := X) n (max m n) (Nat.le_max_right _ _)) _ _ _ _ _ h3
      simp [runD, ho, hl', hval, hw, stepOp, ha, k1, k2]
  ·exact h.elim
theorem zazc {e : Env} {H : Hp} {Q : Ex → Env → Hp → Prop} (h : Q .normal e H) : Dc P X .skip e H Q := ⟨0, (.normal, e, H), rfl, h⟩
theorem Dc_ret {e : Env} {H : Hp} {Q : Ex → Env → Hp → Prop} (h : Q .ret e H) : Dc P X .ret e H Q := ⟨0, (.ret, e, H), rfl, h⟩
theorem zay9 {id : Nat} {e : Env} {H : Hp} {Q : Ex → Env → Hp → Prop} (h : Q (.exit id) e H) : Dc P X (.exit id) e H Q := ⟨0, (.exit id, e, H), rfl, h⟩
theorem zapp {id : Nat} {ops : Array Oper} {e : Env} {H : Hp} {Q : Ex → Env → Hp → Prop} (h : DR P X ops ops.toList e H fun e' H' => Q .normal e' H') : Dc P X (.region id ops false) e H Q := by
 obtain ⟨n, r, h1, h2⟩ := DR_run _ _ _ _ h
 exact ⟨n, (.normal, r.1, r.2), by simp [runC, runRegion, h1], h2⟩
theorem za4e {id : Nat} {ops : Array Oper} {e : Env} {H : Hp} {Q : Ex → Env → Hp → Prop} (hok : drawOk P ops = true) (h : DD P X ops (List.range ops.size) e [H] [] fun e' H' => Q .normal e' H') : Dc P X (.region id ops true) e H Q := by
 obtain ⟨n, r, h1, h2, H', h3, h4⟩ := DD_run _ _ _ _ _ h
 exact ⟨n, (.normal, r.1, H'), by simp only [runC, runRegion, if_true, hok, h1, Option.bind_some, h2, h3, Option.map_some], h4⟩
theorem Dc_seq {a b : Code} {e : Env} {H : Hp} {Q : Ex → Env → Hp → Prop} (h : Dc P X a e H fun x e' H' => match x with | .normal => Dc P X b e' H' Q | x => Q x e' H') : Dc P X (a.seq b) e H Q := by
 obtain ⟨m, ⟨x, e1, H1⟩, h1, h2⟩ := h
 cases x with
 | normal =>
  obtain ⟨n, r, h3, h4⟩ := h2
  have k1 := zaga (P := P) (zaea (X := X) m (max m n) (Nat.le_max_left _ _)) (Nat.le_max_left m n) _ _ _ _ h1
  have k2 := zaga (P := P) (zaea (X := X) n (max m n) (Nat.le_max_right _ _)) (Nat.le_max_right m n) _ _ _ _ h3
  exact ⟨max m n, r, by simp only [runC, k1, Option.bind_some]; exact k2, h4⟩
 | exit id => exact ⟨m, (.exit id, e1, H1), by simp only [runC, h1, Option.bind_some], h2⟩
 | ret => exact ⟨m, (.ret, e1, H1), by simp only [runC, h1, Option.bind_some], h2⟩
theorem zay8 {o : Operand} {a b : Code} {e : Env} {H : Hp} {Q : Ex → Env → Hp → Prop} {t : Bool} (ht : aeval e o = .bool t) (h1 : t = true → Dc P X a e H Q) (h2 : t = false → Dc P X b e H Q) : Dc P X (.cond o a b) e H Q := by
 cases t with
 | true => obtain ⟨n, r, k1, k2⟩ := h1 rfl; exact ⟨n, r, by simp only [runC, ht, if_true]; exact k1, k2⟩
 | false => obtain ⟨n, r, k1, k2⟩ := h2 rfl; exact ⟨n, r, by simp only [runC, ht, Bool.false_eq_true, if_false]; exact k1, k2⟩
theorem zas7 {id : Nat} {c : Code} {e : Env} {H : Hp} {Q : Ex → Env → Hp → Prop} (h : Dc P X c e H fun x e' H' => match x with | .exit j => if j = id then Q .normal e' H' else Q (.exit j) e' H' | x => Q x e' H') : Dc P X (.block id c) e H Q := by
 obtain ⟨n, ⟨x, e1, H1⟩, h1, h2⟩ := h
 cases x with
 | normal => exact ⟨n, (.normal, e1, H1), by simp [runC, h1], h2⟩
 | ret => exact ⟨n, (.ret, e1, H1), by simp [runC, h1], h2⟩
 | exit j =>
  simp only at h2
  by_cases hj : j = id
  ·rw [if_pos hj] at h2; exact ⟨n, (.normal, e1, H1), by simp [runC, h1, hj], h2⟩
  ·rw [if_neg hj] at h2; exact ⟨n, (.exit j, e1, H1), by simp [runC, h1, hj], h2⟩
theorem zaza {c : Code} {e : Env} {H : Hp} {Q : Ex → Env → Hp → Prop} (I : Nat → Env → Hp → Prop) (m : Nat) (h0 : I m e H)
    (round : ∀ m e H, I m e H → Dc P X c e H fun x e' H' => match x with | .normal => ∃ k, k < m ∧ I k e' H' | x => Q x e' H') : Dc P X (.loop c) e H Q := by
 have key : ∀ m e H, I m e H → ∃ n r, iter (runC P (run P X n) n c) n e H = some r ∧ Q r.1 r.2.1 r.2.2 := by
  intro m
  induction m using Nat.strongRecOn with
  | _ m ih =>
   intro e H hI
   obtain ⟨n, ⟨x, e1, H1⟩, h1, h2⟩ := round m e H hI
   cases x with
   | normal =>
    obtain ⟨k, hk, hI'⟩ := h2
    obtain ⟨n2, r, h3, h4⟩ := ih k hk e1 H1 hI'
    refine ⟨max n n2 + 1, r, ?_, h4⟩
    have k1 := zaga (P := P) (zaea (X := X) n (max n n2 + 1) (by omega)) (show n ≤ max n n2 + 1 by omega) _ _ _ _ h1
    have k2 := zamd (zaga (P := P) (zaea (X := X) n2 (max n n2 + 1) (by omega)) (show n2 ≤ max n n2 + 1 by omega) c) n2 (max n n2) (by omega) _ _ _ h3
    simp only [iter, k1, Option.bind_some]
    exact k2
   | exit id =>
    have k1 := zaga (P := P) (zaea (X := X) n (n + 1) (by omega)) (show n ≤ n + 1 by omega) _ _ _ _ h1
    exact ⟨n + 1, (.exit id, e1, H1), by simp only [iter, k1, Option.bind_some], h2⟩
   | ret =>
    have k1 := zaga (P := P) (zaea (X := X) n (n + 1) (by omega)) (show n ≤ n + 1 by omega) _ _ _ _ h1
    exact ⟨n + 1, (.ret, e1, H1), by simp only [iter, k1, Option.bind_some], h2⟩
 obtain ⟨n, r, h1, h2⟩ := key m e H h0
 exact ⟨n, r, h1, h2⟩
theorem zazd {f : FuncId} {fn : Func} {c : Code} {args : List Value} {H : Hp} {Q : Value → Hp → Prop} (hX : X f = none) (hf : P.funcs[f]? = some fn) (hc : fn.body = some c) (hok : dstOk fn.ntmps c = true) (hl : args.length ≤ fn.ntmps)
    (h : Dc P X c args H fun x e H' => match finish P fn (x, e, H') with | some r => Q r.1 r.2 | none => False) : Df P X f args H Q := by
 obtain ⟨n, r, h1, h2⟩ := h
 cases hfin : finish P fn (r.1, r.2.1, r.2.2) with
 | none => rw [hfin] at h2; exact h2.elim
 | some q =>
  rw [hfin] at h2
  refine ⟨n + 1, q, ?_, h2⟩
  simp only [run, hX, hf, hc, if_pos (And.intro hok hl), h1, Option.bind_some]
  exact hfin
theorem Df_ext {f : FuncId} {g : List Value → Hp → Option (Value × Hp)} {args : List Value} {H : Hp} {r : Value × Hp} {Q : Value → Hp → Prop} (hX : X f = some g) (hg : g args H = some r) (h : Q r.1 r.2) : Df P X f args H Q := ⟨1, r, by simp [run, hX, hg], h⟩
theorem rel_start (w : World) : Rel w.heap.size w (fun _ => none) ⟨0, .tip⟩ w :=
 ⟨Below.refl _ _, Nat.le_refl _, fun _ _ => rfl, fun _ => .inr trivial, fun _ _ _ _ _ h => (by cases h), fun _ _ h => (by cases h), fun _ _ h => h.elim, fun _ _ h => h.elim⟩
theorem law_calls (hm : P.follows .mixedOrders = true) {W : World} (hX : XSound P W.heap.size W X) {f : FuncId} {φ : Plan} {H : Hp} {args args' : List Value} (hR : Rel W.heap.size W φ H W) (ha : VRs φ args args')
    (h : Df P X f args H fun v _ => v = .bool true) : Calls P f args'.toArray W fun e w' => e = .returned (.bool true) ∧ Below W.heap.size W w' := by
 obtain ⟨n, ⟨v, H'⟩, h1, h2⟩ := h
 simp only at h2
 subst h2
 refine (zayi hm hX n W rfl f args H _ H' h1 φ W args' hR ha).mono ?_
 rintro e w' ⟨ψ, v', _, rfl, hv, hR'⟩
 exact ⟨by rw [hv.bool_inv], hR'.below⟩
end
end Go.Proofs.YtliemjbafgnnbaaGreatDoor.Abs
