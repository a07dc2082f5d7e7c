/- Operations over values with their slices, one behind the other. -/
import Derived.Test.YtmdpggecelheoaaDoorPW16
set_option linter.unusedVariables false
set_option linter.unusedSimpArgs false
namespace Go.Proofs.YtmdpggecelheoaaDoor.Abs
open Go

section
variable {P : Program} {X : Outer} {K : VCall} {n : List Blk} {R0 R : Rl} {S : VH} {e ce : Env} {ops : Array Oper}
/-- How the plain heap goes on in a step. -/
structure Stp (R R1 : Rl) (ws : List Nat) (kf : Bool) : Prop where
  pre : ∀ (i b : Nat), R.φ[i]? = some b → R1.φ[i]? = some b
  nx : R.H.next ≤ R1.H.next
  eff : Eff R ws kf R1.H
  prot : ∀ b, R.prot b → R1.prot b
theorem Stp.refl (R : Rl) : Stp R R [] false := ⟨fun _ _ h => h, Nat.le_refl _, fun _ _ _ _ => rfl, fun _ h => h⟩
theorem Nxt.stp {R1 : Rl} {S1 : VH} {ws : List Nat} {kf : Bool} {g : List Turn} (h : Nxt R R1 S S1 ws kf g) : Stp R R1 ws kf where
  pre := h.pre
  nx := h.nx
  eff := h.eff
  prot := fun b hb => ⟨Nat.lt_of_lt_of_le hb.1 h.nx, fun hm => by
    obtain ⟨i, hi⟩ := List.getElem?_of_mem hm
    rcases h.box i b hi with h1 | ⟨_, h1⟩
    · exact hb.2.1 (List.mem_of_getElem? h1)
    · have := hb.1; omega, fun k hk => by
    rcases h.tok k b hk with h1 | ⟨d, h1⟩ | h1
    · exact hb.2.2 _ h1
    · exact hb.2.2 _ h1
    · have := hb.1; omega⟩
theorem rd_const (v : Value) : Rd R (aconst v) (aconst v) := by
  unfold aconst
  split
  · exact .int _ _
  · exact .bool _
  · exact .string _
  · split
    · rename_i hf; exact .of_flat 8 _ hf
    · exact .undef _
theorem rd_eval (he : ∀ t, Rd R (eget e t) (eget ce t)) (x : Operand) : Rd R (aeval e x) (aeval ce x) := by
  cases x with
  | tmp t => exact he t
  | const v => exact rd_const v
  | global g => exact .undef _
  | func f => exact .clo f [] [] [] [] rfl rfl (fun i => by simp; exact .undef _) (fun i => by simp; exact .undef _)
theorem guard_ok {v u : Value} (h : Rd R v u) {want b : Bool} (hg : asGuard v want = some b) : asGuard u want = some b := by
  unfold asGuard at hg
  split at hg
  · rw [h.inv_bool]; exact hg
  · cases h with
    | nr => exact hg
    | stale i u hi => exact absurd rfl hi
    | scal v hs => simp [isScal] at hs
  · cases hg
theorem wanted_ok (he : ∀ t, Rd R (eget e t) (eget ce t)) {o : Oper} {t : Bool} (h : awanted ops o e = some t) : awanted ops o ce = some t := by
  unfold awanted at h ⊢
  split at h
  · exact h
  · rename_i j want hg
    unfold ayielded at h ⊢
    rw [Option.bind_eq_some_iff] at h ⊢
    obtain ⟨d, hd, h⟩ := h
    exact ⟨d, hd, guard_ok (he d) h⟩
/-- One operation. -/
theorem step_ok (hK : KOk P X K) (hs : VSta n R0 R S e ce) {o : Oper} {r : VStepped} (h : vstepG P K ops o e S = some r) :
    Step P X ops o ce R.H fun cu H' => ∃ R1 : Rl, R1.H = H' ∧ VSta n R0 R1 r.S r.e (eput ce o.dst cu) ∧ Stp R R1 r.ws r.kf ∧ (light P o.op = true → R1 = R) := by
  unfold vstepG at h
  rw [Option.bind_eq_some_iff] at h
  obtain ⟨t, ht, h⟩ := h
  have hw := wanted_ok (ops := ops) hs.env ht
  have hρ := fun x => rd_eval hs.env x
  cases t with
  | false =>
    simp only [Bool.false_eq_true, if_false, Option.some.injEq] at h
    subst h
    simp only [Step, hw]
    exact ⟨R, rfl, hs.set .nr o.dst, .refl R, fun _ => rfl⟩
  | true =>
    simp only [if_true, Option.map_eq_some_iff] at h
    obtain ⟨r', h, rfl⟩ := h
    simp only [Step, hw]
    unfold vstepOp at h
    by_cases hl : light P o.op = true
    · rw [if_pos hl, Option.map_eq_some_iff] at h
      obtain ⟨v, hv, rfl⟩ := h
      obtain ⟨u, hu, hvu⟩ := vlop_ok hs.hr hρ hl hv
      simp only [aop, hl, if_true, hu, Option.map_some]
      exact ⟨R, rfl, hs.set hvu o.dst, .refl R, fun _ => rfl⟩
    · rw [if_neg hl, Option.bind_eq_some_iff] at h
      obtain ⟨x, hx, h⟩ := h
      have hl' : light P o.op = false := by simpa using hl
      cases x with
      | val r0 =>
        simp only [Option.some.injEq] at h
        subst h
        obtain ⟨u, H1, R1, g1, g2, g3, g4⟩ := hop_ok hs.hr hρ hx
        simp only [aop, hl', Bool.false_eq_true, if_false, g1]
        exact ⟨R1, g2, (hs.next g3).set g4 o.dst, g3.stp, fun hh => (by first | exact absurd hh hl | exact hh.elim)⟩
      | enter f args =>
        simp only at h
        obtain ⟨cargs, g1, g2⟩ := hop_enter hρ hx
        simp only [aop, hl', Bool.false_eq_true, if_false, g1]
        unfold vcall at h
        split at h
        · rename_i hok
          rw [Option.bind_eq_some_iff] at h
          obtain ⟨⟨v, ws⟩, hk, h⟩ := h
          split at h
          · rename_i hc
            simp only [Option.some.injEq] at h
            subst h
            refine (call_pure hs.hr hK g2 hok hk hc.1 hc.2).mono ?_
            rintro cu H' ⟨R1, q1, q2, q3⟩
            exact ⟨R1, q1, (hs.next q2).set q3 o.dst, q2.stp, fun hh => (by first | exact absurd hh hl | exact hh.elim)⟩
          · cases h
        · rw [Option.bind_eq_some_iff] at h
          obtain ⟨⟨v, ws⟩, hk, h⟩ := h
          split at h
          · rename_i hc
            simp only [Option.some.injEq] at h
            subst h
            refine (call_ptr hs.hr hK g2 hk hc.1 hc.2).mono ?_
            rintro cu H' ⟨R1, q1, q2, q3⟩
            exact ⟨R1, q1, (hs.next q2).set q3 o.dst, q2.stp, fun hh => (by first | exact absurd hh hl | exact hh.elim)⟩
          · cases h
theorem runL_ok (hK : KOk P X K) : ∀ (l : List Oper) (R : Rl) (S : VH) (e ce : Env) (r : Env × VH), VSta n R0 R S e ce → vrunL P K ops l e S = some r → DR P X ops l ce R.H fun ce' H' => ∃ R1 : Rl, R1.H = H' ∧ VSta n R0 R1 r.2 r.1 ce' := by
  intro l
  induction l with
  | nil =>
    intro R S e ce r hs h
    simp only [vrunL] at h
    cases h
    exact ⟨R, rfl, hs⟩
  | cons o l ih =>
    intro R S e ce r hs h
    simp only [vrunL, Option.bind_eq_some_iff] at h
    obtain ⟨r1, h1, h2⟩ := h
    rw [DR_cons]
    refine Step_mono ?_ (step_ok hK hs h1)
    rintro cu H' ⟨R1, q1, q2, _, _⟩
    subst q1
    exact ih R1 _ _ _ r q2 h2
end
end Go.Proofs.YtmdpggecelheoaaDoor.Abs
