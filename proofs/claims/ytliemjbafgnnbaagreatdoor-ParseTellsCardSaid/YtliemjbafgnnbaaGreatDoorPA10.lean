/- Code and calls: the machine comes to what the plain evaluator says. -/
import Derived.Test.YtliemjbafgnnbaaGreatDoorPA26
import Derived.Deep.LoopGhost
set_option linter.unnecessarySimpa false
set_option linter.unusedSimpArgs false
set_option linter.unusedVariables false
namespace Go.Proofs.YtliemjbafgnnbaaGreatDoor.Abs
open Go Go.RowKit
def Ex.to : Ex → Exit
 | .normal => .normal
 | .exit id => .exit id
 | .ret => .ret
section
variable {P : Program} {B : Nat} {w0 : Base} {K : CallFn}
theorem zatz (hK : KSound P B w0.w K) (hm : P.follows .mixedOrders = true) {N n : Nat} : ∀ (c : Code) (φ : Plan) (e : Env) (H : Hp) (a : Act) (w : World) (x : Ex) (e' : Env) (H' : Hp), runC P K n c e H = some (x, e', H') → dstOk N c = true → St B w0 N φ e H a w →
    ∀ Q : Exit → Act → World → Prop, (∀ a w, Goes B w0 N φ e' H' a w → Q x.to a w) → c.wp P Q a w := by
 intro c
 induction c with
 | skip => intro φ e H a w x e' H' h _ hs Q hq; simp only [runC] at h; cases h; exact wp_skip (hq a w ⟨φ, Plan.le_refl φ, hs⟩)
 | region id ops draw =>
  intro φ e H a w x e' H' h hd hs Q hq
  simp only [runC, Option.map_eq_some_iff] at h
  obtain ⟨⟨e1, H1⟩, h, hr⟩ := h
  cases hr
  refine zapc hK hm h (fun o ho d hod => ?_) hs hq
  simp only [dstOk, List.all_eq_true] at hd
  have := hd o ho
  rw [hod] at this
  simpa using this
 | seq c1 c2 ih1 ih2 =>
  intro φ e H a w x e' H' h hd hs Q hq
  simp only [dstOk, Bool.and_eq_true] at hd
  simp only [runC, Option.bind_eq_some_iff] at h
  obtain ⟨⟨x1, e1, H1⟩, h1, h⟩ := h
  refine wp_seq ?_
  cases x1 with
  | normal =>
   refine ih1 φ e H a w .normal e1 H1 h1 hd.1 hs _ fun a1 w1 ⟨ψ, g1, g2⟩ => ?_
   exact ih2 ψ e1 H1 a1 w1 x e' H' h hd.2 g2 Q fun a2 w2 ⟨χ, k1, k2⟩ => hq a2 w2 ⟨χ, Plan.le_trans g1 k1, k2⟩
  | exit id => cases h; exact ih1 φ e H a w (.exit id) e' H' h1 hd.1 hs _ hq
  | ret => cases h; exact ih1 φ e H a w .ret e' H' h1 hd.1 hs _ hq
 | cond o c1 c2 ih1 ih2 =>
  intro φ e H a w x e' H' h hd hs Q hq
  simp only [dstOk, Bool.and_eq_true] at hd
  simp only [runC] at h
  split at h
  ·rename_i t ht
   have := hs.env.eval o
   rw [ht] at this
   have hb := this.bool_inv
   refine wp_cond hb ?_
   cases t with
   | true => exact ih1 φ e H a w x e' H' (by simpa using h) hd.1 hs Q hq
   | false => exact ih2 φ e H a w x e' H' (by simpa using h) hd.2 hs Q hq
  ·cases h
 | block id c ih =>
  intro φ e H a w x e' H' h hd hs Q hq
  simp only [runC, Option.map_eq_some_iff] at h
  obtain ⟨⟨x1, e1, H1⟩, h1, h⟩ := h
  refine wp_block ?_
  cases x1 with
  | normal => cases h; exact ih φ e H a w .normal e' H' h1 hd hs _ hq
  | ret => cases h; exact ih φ e H a w .ret e' H' h1 hd hs _ hq
  | exit j =>
   simp only at h
   refine ih φ e H a w (.exit j) e1 H1 h1 hd hs _ fun a1 w1 g => ?_
   show Exit.inBlock id Q (.exit j) a1 w1
   unfold Exit.inBlock
   simp only
   split at h
   ·rename_i hj; cases h; rw [if_pos hj]; exact hq a1 w1 g
   ·rename_i hj; cases h; rw [if_neg hj]; exact hq a1 w1 g
 | loop c ih =>
  intro φ e H a w x e' H' h hd hs Q hq
  simp only [runC] at h
  refine wp_loop_ghost (fun k a w => ∃ ψ e H, φ.le ψ ∧ St B w0 N ψ e H a w ∧ iter (runC P K n c) k e H = some (x, e', H')) n ⟨φ, e, H, Plan.le_refl φ, hs, h⟩ ?_
  rintro k a1 w1 ⟨ψ, e1, H1, g1, g2, g3⟩
  cases k with
  | zero => simp [iter] at g3
  | succ k =>
   simp only [iter, Option.bind_eq_some_iff] at g3
   obtain ⟨⟨x2, e2, H2⟩, h1, g3⟩ := g3
   cases x2 with
   | normal => exact ih ψ e1 H1 a1 w1 .normal e2 H2 h1 hd g2 _ fun a2 w2 ⟨χ, k1, k2⟩ => ⟨k, by omega, χ, e2, H2, Plan.le_trans g1 k1, k2, g3⟩
   | exit id => cases g3; exact ih ψ e1 H1 a1 w1 (.exit id) e' H' h1 hd g2 _ fun a2 w2 ⟨χ, k1, k2⟩ => hq a2 w2 ⟨χ, Plan.le_trans g1 k1, k2⟩
   | ret => cases g3; exact ih ψ e1 H1 a1 w1 .ret e' H' h1 hd g2 _ fun a2 w2 ⟨χ, k1, k2⟩ => hq a2 w2 ⟨χ, Plan.le_trans g1 k1, k2⟩
 | exit id => intro φ e H a w x e' H' h _ hs Q hq; simp only [runC] at h; cases h; exact wp_exit (hq a w ⟨φ, Plan.le_refl φ, hs⟩)
 | ret => intro φ e H a w x e' H' h _ hs Q hq; simp only [runC] at h; cases h; exact wp_ret (hq a w ⟨φ, Plan.le_refl φ, hs⟩)
 | _ => intro φ e H a w x e' H' h; simp [runC] at h
theorem zany {φ : Plan} {H : Hp} {w : World} (hR : Rel B w0 φ H w) {e : Env} {t : Array Value} (hE : ERel φ e t) : ∀ (rs : List ResultVar) (vs : List Value), aresults P e H rs = some vs →
    ∃ vs' : List Value, (rs.mapM (m := Sem) (fun
     | .tmp i => pure (t.getD i undef)
     | .cell a ty => do loadVar ty (← asAddr (t.getD a undef)))).run P w = .ok vs' w ∧ VRs φ vs vs' := by
 intro rs
 induction rs with
 | nil => intro vs h; simp only [aresults] at h; cases h; exact ⟨[], by simp, .nil φ⟩
 | cons r rs ih =>
  intro vs h
  simp only [aresults, Option.bind_eq_some_iff, Option.map_eq_some_iff] at h
  obtain ⟨v, hv, vs1, hvs, rfl⟩ := h
  obtain ⟨vs1', g1, g2⟩ := ih vs1 hvs
  cases r with
  | tmp i =>
   simp only [aresult] at hv
   cases hv
   exact ⟨t.getD i undef :: vs1', by simp only [List.mapM_cons, Sem.run_bind, Sem.run_pure, Result.andThen_ok, g1], .cons (hE i) g2⟩
  | cell a ty =>
   simp only [aresult] at hv
   have ha := hE a
   obtain ⟨v', h1, h2⟩ := zanh (P := P) hR ha hv
   refine ⟨v' :: vs1', ?_, .cons h2 g2⟩
   have hp : ∃ ad, t.getD a undef = .pointer (some ad) := by
    unfold aload at hv
    split at hv
    ·rename_i ad hh
     rw [hh] at ha
     generalize t.getD a undef = q at ha
     cases ha
     exact ⟨_, rfl⟩
    ·cases hv
   obtain ⟨ad, hp⟩ := hp
   rw [hp] at h1
   simp only [Instr.loadAt, Instr.sureAddr, Sem.run_bind, Sem.run_pure, Result.andThen_ok] at h1
   have hA : (asAddr (t.getD a undef)).run P w = .ok ad w := by rw [hp]; rfl
   simp only [List.mapM_cons, Sem.run_bind, hA, Sem.run_pure, Result.andThen_ok, h1, g1]
theorem zao2 {φ : Plan} {H H' : Hp} {w : World} {N : Nat} {e : Env} {a : Act} {fn : Func} {x : Ex} {v : Value} (h : finish P fn (x, e, H) = some (v, H')) (hs : St B w0 N φ e H a w) :
    H' = H ∧ (x = .normal ∨ x = .ret) ∧ ∃ v', (results fn a.tmps).run P w = .ok v' w ∧ VR φ v v' := by
 have key : ((aresults P e H fn.results.toList).map fun vs => (ret1 vs, H)) = some (v, H') → H' = H ∧ ∃ v', (results fn a.tmps).run P w = .ok v' w ∧ VR φ v v' := by
  intro h
  simp only [Option.map_eq_some_iff, Prod.mk.injEq] at h
  obtain ⟨vs, hvs, rfl, rfl⟩ := h
  obtain ⟨vs', g1, g2⟩ := zany (P := P) hs.rel hs.env _ _ hvs
  refine ⟨rfl, if h : vs'.toArray.size = 1 then vs'.toArray[0] else .tuple vs'.toArray, ?_, ?_⟩
  ·simp only [results, Sem.run_bind, Array.mapM_eq_mapM_toList, Sem.run_map]
   exact (congrArg (fun r : Result (List Value) => (r.andThen fun a w' => Result.ok a.toArray w').andThen fun vs w' => (pure (if h : vs.size = 1 then vs[0] else .tuple vs) : Sem Value).run P w') g1).trans (by simp)
  ·have hl := g2.1
   rcases vs with _ | ⟨v1, _ | ⟨v2, vs⟩⟩
   ·have : vs' = [] := by simpa using hl.symm
    subst this
    exact .undef _ _
   ·obtain ⟨v1', rfl⟩ : ∃ v1', vs' = [v1'] := by
     rcases vs' with _ | ⟨v1', _ | ⟨_, _⟩⟩
     ·simp at hl
     ·exact ⟨v1', rfl⟩
     ·simp at hl
    exact g2.head
   ·have : ¬ vs'.toArray.size = 1 := by simp at hl ⊢; omega
    rw [dif_neg this]
    exact .tuple_of (by simpa using g2)
 cases x with
 | normal => obtain ⟨a, b⟩ := key h; exact ⟨a, .inl rfl, b⟩
 | ret => obtain ⟨a, b⟩ := key h; exact ⟨a, .inr rfl, b⟩
 | exit id => simp [finish] at h
abbrev Outer := FuncId → Option (List Value → Hp → Option (Value × Hp))
def XSound (P : Program) (B : Nat) (w0 : World) (X : Outer) : Prop := ∀ f g, X f = some g → KSound P B w0 fun f' args H => if f' = f then g args H else none
theorem zayi (hm : P.follows .mixedOrders = true) {X : Outer} {w1 : World} (hX : XSound P B w1 X) : ∀ n, KSound P B w1 (run P X n) := by
 intro n
 induction n with
 | zero => intro w0 _ f args H v H' h; simp [run] at h
 | succ n ih =>
  intro w0 hw0 f args H v H' h φ w args' hR hargs
  simp only [run] at h
  cases hx : X f with
  | some g =>
   rw [hx] at h
   exact hX f g hx w0 hw0 f args H v H' (by show (if f = f then g args H else none) = _; rw [if_pos rfl]; exact h) φ w args' hR hargs
  | none =>
   rw [hx] at h
   simp only at h
   split at h
   ·cases h
   ·rename_i fn hfn
    split at h
    ·cases h
    ·rename_i c hc
     split at h
     ·rename_i hok
      simp only [Option.bind_eq_some_iff] at h
      obtain ⟨⟨x, e, H1⟩, h1, h2⟩ := h
      have hl : args'.length = args.length := hargs.1.symm
      have hs0 : St B w0 fn.ntmps φ args H { tmps := args'.toArray ++ Array.replicate (fn.ntmps - args'.toArray.size) undef, defers := [] } w := by
       refine ⟨fun i => ?_, by simp; omega, rfl, hR⟩
       by_cases hi : i < args'.length
       ·have := hargs.2 i
        have e1 : (args'.toArray ++ Array.replicate (fn.ntmps - args'.toArray.size) undef).getD i undef = args'.getD i undef := by
         rw [Array.getD_eq_getD_getElem?, Array.getElem?_append_left (by simpa using hi)]
         simp [List.getD_eq_getElem?_getD]
        show VR φ (args.getD i undef) _
        rw [e1]; exact this
       ·have : eget args i = undef := by
         unfold eget
         rw [List.getD_eq_getElem?_getD, List.getElem?_eq_none (by omega)]; rfl
        rw [this]; exact .undef _ _
      refine calls_of_wp hfn hc (zatz (hw0.symm ▸ ih) hm c φ args H _ w x e H1 h1 hok.1 hs0 _ fun a1 w1 ⟨ψ, g1, g2⟩ => ?_)
      obtain ⟨rfl, hxx, v', k1, k2⟩ := zao2 (P := P) h2 g2
      rcases hxx with rfl | rfl
      ·exact ⟨g2.defers, v', k1, ψ, v', g1, rfl, k2, g2.rel⟩
      ·exact ⟨g2.defers, v', k1, ψ, v', g1, rfl, k2, g2.rel⟩
     ·cases h
end
end Go.Proofs.YtliemjbafgnnbaaGreatDoor.Abs
