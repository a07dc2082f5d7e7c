/- What must hold ahead of a text for Q to hold behind it: by the text's shape. -/
import Derived.Test.YtliemjbafgnnbaaDoorPA15
set_option maxHeartbeats 0
set_option linter.unusedSimpArgs false
set_option linter.unusedVariables false
namespace Go.Proofs.YtliemjbafgnnbaaDoor.Abs
open Go Go.RowKit
def WP (P : Program) (X : Outer) : Code → Env → Hp → (Ex → Env → Hp → Prop) → Prop
 | .skip, e, H, Q => Q .normal e H
 | .region id ops draw, e, H, Q => match draw with
  | false => DR P X ops ops.toList e H fun e' H' => Q .normal e' H'
  | true => Dc P X (.region id ops true) e H Q
 | .seq a b, e, H, Q => WP P X a e H fun x e' H' => match x with
  | .normal => WP P X b e' H' Q
  | x => Q x e' H'
 | .cond c a b, e, H, Q => match aeval e c with
  | .bool t => if t = true then WP P X a e H Q else WP P X b e H Q
  | _ => False
 | .block id c, e, H, Q => WP P X c e H fun x e' H' => match x with
  | .exit j => if j = id then Q .normal e' H' else Q (.exit j) e' H'
  | x => Q x e' H'
 | .loop c, e, H, Q => Dc P X (.loop c) e H Q
 | .exit id, e, H, Q => Q (.exit id) e H
 | .ret, e, H, Q => Q .ret e H
 | _, _, _, _ => False
section
variable {P : Program} {X : Outer} {e : Env} {H : Hp} {Q : Ex → Env → Hp → Prop}
theorem WP_Dc : ∀ (c : Code) (e : Env) (H : Hp) (Q : Ex → Env → Hp → Prop), WP P X c e H Q → Dc P X c e H Q := by
 intro c
 induction c with
 | skip => intro e H Q h; exact zawt h
 | region id ops draw =>
  intro e H Q h
  cases draw with
  | false => exact zanx h
  | true => exact h
 | seq a b iha ihb =>
  intro e H Q h
  refine Dc_seq ((iha _ _ _ h).mono ?_)
  intro x e' H' hx
  cases x with
  | normal => exact ihb _ _ _ hx
  | exit j => exact hx
  | ret => exact hx
 | cond c a b iha ihb =>
  intro e H Q h
  simp only [WP] at h
  split at h
  ·rename_i t ht
   refine zawp ht (fun h1 => ?_) (fun h2 => ?_)
   ·rw [if_pos h1] at h; exact iha _ _ _ h
   ·rw [if_neg (by simp [h2])] at h; exact ihb _ _ _ h
  ·exact h.elim
 | block id c ih =>
  intro e H Q h
  exact zaq5 (ih _ _ _ h)
 | loop c ih => intro e H Q h; exact h
 | exit id => intro e H Q h; exact zawq h
 | ret => intro e H Q h; exact Dc_ret h
 | _ => intro e H Q h; exact h.elim
theorem WP.mono : ∀ (c : Code) (e : Env) (H : Hp) (Q Q' : Ex → Env → Hp → Prop), (∀ x e' H', Q x e' H' → Q' x e' H') → WP P X c e H Q → WP P X c e H Q' := by
 intro c
 induction c with
 | skip => intro e H Q Q' hq h; exact hq _ _ _ h
 | region id ops draw =>
  intro e H Q Q' hq h
  cases draw with
  | false => exact zalb _ _ _ _ _ (fun e' H' h => hq _ _ _ h) h
  | true => exact Dc.mono h hq
 | seq a b iha ihb =>
  intro e H Q Q' hq h
  refine iha _ _ _ _ ?_ h
  intro x e' H' hx
  cases x with
  | normal => exact ihb _ _ _ _ hq hx
  | exit j => exact hq _ _ _ hx
  | ret => exact hq _ _ _ hx
 | cond c a b iha ihb =>
  intro e H Q Q' hq h
  simp only [WP] at h ⊢
  split at h
  ·rename_i t ht
   by_cases ht1 : t = true
   ·rw [if_pos ht1] at h ⊢; exact iha _ _ _ _ hq h
   ·rw [if_neg ht1] at h ⊢; exact ihb _ _ _ _ hq h
  ·exact h.elim
 | block id c ih =>
  intro e H Q Q' hq h
  refine ih _ _ _ _ ?_ h
  intro x e' H' hx
  cases x with
  | exit j => 
   by_cases hj : j = id
   ·simp only [hj, if_true] at hx ⊢; exact hq _ _ _ hx
   ·simp only [hj, if_false] at hx ⊢; exact hq _ _ _ hx
  | normal => exact hq _ _ _ hx
  | ret => exact hq _ _ _ hx
 | loop c ih => intro e H Q Q' hq h; exact Dc.mono h hq
 | exit id => intro e H Q Q' hq h; exact hq _ _ _ h
 | ret => intro e H Q Q' hq h; exact hq _ _ _ h
 | _ => intro e H Q Q' hq h; exact h.elim
theorem zaeb : WP P X .skip e H Q = Q .normal e H := _root_.id rfl
theorem zabo (id : Nat) (ops : Array Oper) : WP P X (.region id ops false) e H Q = DR P X ops ops.toList e H fun e' H' => Q .normal e' H' := _root_.id rfl
theorem zaea (id : Nat) (ops : Array Oper) : WP P X (.region id ops true) e H Q = Dc P X (.region id ops true) e H (Hold Q) := _root_.id rfl
theorem WP_seq (a b : Code) : WP P X (.seq a b) e H Q = WP P X a e H fun x e' H' => match x with
    | .normal => WP P X b e' H' Q
    | x => Q x e' H' := _root_.id rfl
def asBool : Value → Option Bool
 | .bool b => some b
 | _ => none
theorem zaar (b : Bool) : asBool (.bool b) = some b := _root_.id rfl
theorem zad7 (c : Operand) (a b : Code) : WP P X (.cond c a b) e H Q = With (asBool (aeval e c)) (Hold fun t => if t = true then WP P X a e H Q else WP P X b e H Q) := by
 simp only [WP]
 generalize aeval e c = v
 cases v <;> rfl
theorem zacu (id : Nat) (c : Code) : WP P X (.block id c) e H Q = WP P X c e H fun x e' H' => match x with
    | .exit j => if j = id then Q .normal e' H' else Q (.exit j) e' H'
    | x => Q x e' H' := _root_.id rfl
theorem zad9 (c : Code) : WP P X (.loop c) e H Q = Dc P X (.loop c) e H (Hold Q) := _root_.id rfl
theorem zad8 (id : Nat) : WP P X (.exit id) e H Q = Q (.exit id) e H := _root_.id rfl
theorem WP_ret : WP P X .ret e H Q = Q .ret e H := _root_.id rfl
theorem zaq6 {f : FuncId} {fn : Func} {c : Code} {args : List Value} {H : Hp} {Q : Value → Hp → Prop} (hX : X f = none) (hf : P.funcs[f]? = some fn) (hc : fn.body = some c) (hok : dstOk fn.ntmps c = true) (hl : args.length ≤ fn.ntmps)
    (h : WP P X c args H fun x e H' => With (finish P fn (x, e, H')) fun r => Q r.1 r.2) : Df P X f args H Q := by
 refine zawu hX hf hc hok hl (WP_Dc _ _ _ _ (WP.mono _ _ _ _ _ ?_ h))
 intro x e' H' h
 cases hf : finish P fn (x, e', H') with
 | none => rw [hf] at h; exact h.elim
 | some r => rw [hf] at h; exact h
theorem zabb (fn : Func) (e : Env) (H : Hp) : finish P fn (.ret, e, H) = (aresults P e H fn.results.toList).map fun vs => (ret1 vs, H) := _root_.id rfl
theorem zaai (fn : Func) (e : Env) (H : Hp) : finish P fn (.normal, e, H) = (aresults P e H fn.results.toList).map fun vs => (ret1 vs, H) := _root_.id rfl
theorem zacv : aresults P e H [] = some [] := _root_.id rfl
theorem zacw (t : Tmp) (rs : List ResultVar) : aresults P e H (.tmp t :: rs) = (aresults P e H rs).map fun vs => eget e t :: vs := _root_.id rfl
theorem zabp (a : Tmp) (t : TypeId) (rs : List ResultVar) : aresults P e H (.cell a t :: rs) = (aload P t (eget e a) H).bind fun v => (aresults P e H rs).map fun vs => v :: vs := _root_.id rfl
theorem ae_tmp (t : Tmp) : aeval e (.tmp t) = eget e t := _root_.id rfl
theorem ae_int (k : IntKind) (n : Int) : aeval e (.const (.int k n)) = .int k n := _root_.id rfl
theorem zacy (b : Bool) : aeval e (.const (.bool b)) = .bool b := _root_.id rfl
theorem zaa1 (s : ByteArray) : aeval e (.const (.string s)) = .string s := _root_.id rfl
theorem zacz (f : FuncId) : aeval e (.func f) = .func (.func f) #[] #[] := _root_.id rfl
theorem zaa0 : aeval e (.const (.slice none 0 0)) = .slice none 0 0 := _root_.id rfl
theorem zac0 : aeval e (.const (.pointer none)) = .pointer none := _root_.id rfl
end
end Go.Proofs.YtliemjbafgnnbaaDoor.Abs
