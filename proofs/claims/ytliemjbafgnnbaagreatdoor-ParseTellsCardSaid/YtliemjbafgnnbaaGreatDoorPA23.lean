/- Regions with free operations: the text's order catches up with the machine's. -/
import Derived.Test.YtliemjbafgnnbaaGreatDoorPA22
set_option linter.unnecessarySimpa false
set_option linter.unusedSimpArgs false
set_option linter.unusedVariables false
namespace Go.Proofs.YtliemjbafgnnbaaGreatDoor.Abs
open Go Go.RowKit
section
variable {P : Program} {B : Nat} {w0 : Base} {K : CallFn} {ops : Array Oper} {es : Nat → Env} {vs : Nat → Value} {L : List Hp} {rs : List Rec} {N : Nat} {φ0 : Plan}
theorem EG.mono {φ φ' : Plan} {pk pk' : Pk} (hφ : φ.le φ') (hpk : ∀ p k cs, pk p = some (k, cs) → pk' p = some (k, cs)) {t j : Nat} {v v' : Value} (h : EG P ops es vs L φ pk t j v v') : EG P ops es vs L φ' pk' t j v v' := by
 rcases h with h | ⟨p, k, cs, o, h1, h2⟩
 ·exact .inl (h.mono hφ)
 ·exact .inr ⟨p, k, cs, o, hpk _ _ _ h1, h2⟩
def dropPk (pk : Pk) (p : Nat) : Pk := fun q => if q = p then none else pk q
theorem zag5 {pk : Pk} {p q : Nat} {x : Nat × Array Value} (h : dropPk pk p q = some x) : q ≠ p ∧ pk q = some x := by
 unfold dropPk at h
 by_cases e : q = p
 ·rw [if_pos e] at h; cases h
 ·rw [if_neg e] at h; exact ⟨e, h⟩
theorem zahk {pk : Pk} {p q : Nat} (h : q ≠ p) : dropPk pk p q = pk q := by unfold dropPk; rw [if_neg h]
theorem zax1 (ran : Ran P K ops 0 ops.size es vs L 0 rs) (hnx : nextsOk L = true) {listed : Array Bool} {a : Act} {w : World} {R : Nat} {φ χ : Plan} {H : Hp} {pk : Pk}
    (inv : Inv2 P ops B w0 N φ0 es vs L listed a w R φ χ H pk) {p : Nat} {o : Oper} (ho : ops[p]? = some o) (hf : freeOp o.op = true) (hp : hcount P ops p = R) :
    ∃ φ' χ' H' pk', Inv2 P ops B w0 N φ0 es vs L listed a w (R + 1) φ' χ' H' pk' := by
 have hpn : p < ops.size := (Array.getElem?_eq_some_iff.1 ho).1
 have hph : heavyAt P ops p = true := by rw [zael ho, zah2 hf]; rfl
 have hlt := zadv (P := P) (ops := ops) hpn hph
 have only : ∀ q, heavyAt P ops q = true → hcount P ops q = R → q = p := fun q hq e => zajz hq hph (by omega)
 have anch' : ∀ i, i < ops.size → anchAt P ops i = true → (listed.getD i false = true ↔ hcount P ops i < R + 1) := by
  intro i hi ha
  rw [inv.anch i hi ha]
  constructor
  ·intro h; omega
  ·intro h
   rcases Nat.lt_or_ge (hcount P ops i) R with h1 | h1
   ·exact h1
   ·have := only i (zajk ha) (by omega)
    subst this
    unfold anchAt at ha
    rw [ho] at ha
    simp [hf] at ha
 rcases zana ran ho hf with ⟨hw, hv, Ha, hLa, hLb⟩ | ⟨i, e, c, mk, hpu⟩
 ·-- not wanted
  have hnp : ∀ i e c mk, ¬ Pushed P ops es vs L p i e c mk := by
   rintro i e c mk ⟨o', Ha', k1, k2, k3, k4, k5, _⟩
   rw [ho] at k1; cases k1
   rw [hw] at k5; cases k5
  have hHa : Ha = H := by rw [hp, inv.hH] at hLa; exact (Option.some.inj hLa).symm
  subst hHa
  rw [hp] at hLb
  refine ⟨φ, χ, Ha, pk, inv.lsize, inv.closed, inv.size, inv.defers, by omega, hLb, inv.le0, ?_, anch', fun q k cs hq => ?_, fun q i e c mk hq hR hl => inv.pkA q i e c mk hq (by omega) hl, inv.pkI, inv.le, inv.chi, inv.env⟩
  ·refine inv.rel.congr rfl (fun k x h => h) fun i x => ?_
   constructor
   ·rintro (h | ⟨q, e, c, mk, h1, h2, h3, h4⟩)
    ·exact .inl h
    ·exact .inr ⟨q, e, c, mk, h1, by omega, h3, h4⟩
   ·rintro (h | ⟨q, e, c, mk, h1, h2, h3, h4⟩)
    ·exact .inl h
    ·refine .inr ⟨q, e, c, mk, h1, ?_, h3, h4⟩
     rcases Nat.lt_or_ge (hcount P ops q) R with h5 | h5
     ·exact h5
     ·have := only q h1.heavy (by omega)
      subst this
      exact absurd h1 (hnp _ _ _ _)
  ·obtain ⟨g1, g2, g3, g4, i, e, c, mk, g5, g6⟩ := inv.pkS q k cs hq
   refine ⟨g1, ?_, g3, g4, i, e, c, mk, g5, g6⟩
   rcases Nat.lt_or_ge R (hcount P ops q) with h5 | h5
   ·exact h5
   ·have := only q g5.heavy (by omega)
    subst this
    exact absurd g5 (hnp _ _ _ _)
 ·obtain ⟨o', Ha, k1, k2, k3, k4, k5, k6, k7, k8⟩ := id hpu
  have hHa : Ha = H := by rw [hp, inv.hH] at k3; exact (Option.some.inj k3).symm
  subst hHa
  rw [hp] at k8
  cases hl : listed.getD p false with
  | false =>
   -- the machine does not have it yet
   have hpkp : ∀ k cs, pk p ≠ some (k, cs) := fun k cs h => by have := (inv.pkS p k cs h).1; rw [hl] at this; cases this
   refine ⟨φ, χ, _, pk, inv.lsize, inv.closed, inv.size, inv.defers, by omega, k8, inv.le0, ?_, anch', fun q k cs hq => ?_, fun q i e c mk hq hR hl => inv.pkA q i e c mk hq (by omega) hl, inv.pkI, inv.le, inv.chi, inv.env⟩
   ·refine (inv.rel.pushHole (.cells true e c)).congr rfl (fun k x h => h) fun j x => ?_
    constructor
    ·rintro ((h | ⟨q, e, c, mk, h1, h2, h3, h4⟩) | ⟨rfl, rfl⟩)
     ·exact .inl h
     ·exact .inr ⟨q, e, c, mk, h1, by omega, h3, h4⟩
     ·exact .inr ⟨p, e, c, mk, by rw [← k4]; exact hpu, by omega, hl, rfl⟩
    ·rintro (h | ⟨q, e', c', mk', h1, h2, h3, h4⟩)
     ·exact .inl (.inl h)
     ·rcases Nat.lt_or_ge (hcount P ops q) R with h5 | h5
      ·exact .inl (.inr ⟨q, e', c', mk', h1, h5, h3, h4⟩)
      ·have := only q h1.heavy (by omega)
       subst this
       obtain ⟨f1, f2, f3, f4⟩ := hpu.fn h1
       exact .inr ⟨by rw [f1, k4], by rw [h4, f2, f3]⟩
   ·obtain ⟨g1, g2, g3, g4, i', e', c', mk', g5, g6⟩ := inv.pkS q k cs hq
    refine ⟨g1, ?_, g3, g4, i', e', c', mk', g5, g6⟩
    rcases Nat.lt_or_ge R (hcount P ops q) with h5 | h5
    ·exact h5
    ·have := only q g5.heavy (by omega)
     subst this
     exact absurd hq (hpkp _ _)
  | true =>
   -- it was kept back
   obtain ⟨k, cs, hpk⟩ := inv.pkA p i e c mk hpu (by omega) hl
   obtain ⟨g1, g2, g3, g4, i', e', c', mk', g5, g6, g7, g8⟩ := inv.pkS p k cs hpk
   obtain ⟨f1, f2, f3, f4⟩ := hpu.fn g5
   subst f1 f2 f3 f4
   have hcut : (χ.cut i').le φ := fun j m hj => by
    unfold Plan.cut at hj
    split at hj
    ·rename_i hji
     rcases inv.chi j m hj with h | ⟨q, e, c, mk, k', cs', h1, h2⟩
     ·exact h
     ·have := h1.ge hnx (inv.pkS q k' cs' h2).2.1 inv.hH
      omega
    ·cases hj
   obtain ⟨hle, hrel⟩ := inv.rel.adopt (k := k) (cs := cs) (e := elT e') (e' := e') (he := rfl) (c := c') (Z' := Zof P ops es vs L w0 (dropPk pk p)) (.inr ⟨p, cs, i', e', c', mk', hpk, hpu, rfl⟩) g3 (fun j x hj => by
    rcases hj with hj | ⟨q, cs', i, e, c, mk, h1, h2, h3⟩
    ·exact ⟨.inl hj, fun e => g4 x (e ▸ hj)⟩
    ·obtain ⟨hqp, h1⟩ := zag5 h1
     refine ⟨.inr ⟨q, cs', i, e, c, mk, h1, h2, h3⟩, fun e => ?_⟩
     subst e
     exact hqp (inv.pkI q p j cs' cs h1 hpk)) (g7.mono hcut) g8
   rw [← k4] at hle hrel
   refine ⟨φ.set i' ⟨k, 0, cs.size⟩, χ, _, dropPk pk p, inv.lsize, inv.closed, inv.size, inv.defers, by omega, k8, Plan.le_trans inv.le0 hle, ?_, anch', fun q k' cs' hq => ?_, fun q j e c mk hq hR hlq => ?_, fun q q' k' cs' cs'' h1 h2 => ?_, fun j m hj => ?_, fun j m hj => ?_, fun t j h1 h2 h3 => ?_⟩
   ·refine hrel.congr rfl (fun k x h => h) fun j x => ?_
    constructor
    ·rintro (h | ⟨q, e, c, mk, h1, h2, h3, h4⟩)
     ·exact .inl h
     ·exact .inr ⟨q, e, c, mk, h1, by omega, h3, h4⟩
    ·rintro (h | ⟨q, e, c, mk, h1, h2, h3, h4⟩)
     ·exact .inl h
     ·refine .inr ⟨q, e, c, mk, h1, ?_, h3, h4⟩
      rcases Nat.lt_or_ge (hcount P ops q) R with h5 | h5
      ·exact h5
      ·have := only q h1.heavy (by omega)
       subst this
       rw [hl] at h3; cases h3
   ·obtain ⟨e1, e2⟩ := zag5 hq
    obtain ⟨g1, g2, g3, g4, i, e, c, mk, g5, g6⟩ := inv.pkS q k' cs' e2
    refine ⟨g1, ?_, g3, g4, i, e, c, mk, g5, g6⟩
    rcases Nat.lt_or_ge R (hcount P ops q) with h5 | h5
    ·exact h5
    ·exact absurd (only q g5.heavy (by omega)) e1
   ·have hqp : q ≠ p := fun e => by subst e; omega
    obtain ⟨k', cs', h⟩ := inv.pkA q j e c mk hq (by omega) hlq
    exact ⟨k', cs', by rw [zahk hqp]; exact h⟩
   ·exact inv.pkI q q' k' cs' cs'' (zag5 h1).2 (zag5 h2).2
   ·by_cases e : j = i'
    ·subst e
     rw [Plan.set_same] at hj; cases hj
     exact g6
    ·rw [Plan.set_other _ _ e] at hj; exact inv.le j m hj
   ·rcases inv.chi j m hj with h | ⟨q, e, c, mk, k', cs', h1, h2⟩
    ·exact .inl (hle j m h)
    ·by_cases e : q = p
     ·subst e
      obtain ⟨f1, _⟩ := hpu.fn h1
      subst f1
      left
      rw [g6] at hj
      rw [Plan.set_same]; exact hj
     ·exact .inr ⟨q, _, c, mk, k', cs', h1, by rw [zahk e]; exact h2⟩
   ·rcases inv.env t j h1 h2 h3 with h | ⟨q, k', cs', o', h4, h5, h6, h7, h8⟩
    ·exact .inl (h.mono hle)
    ·by_cases e : q = p
     ·subst e
      rw [hpk] at h4
      cases h4
      exact .inl (h8 _ i' e' c' mk' hpu (Plan.set_same ..))
     ·exact .inr ⟨q, k', cs', o', by rw [zahk e]; exact h4, h5, h6, h7, h8⟩
theorem zauh (ran : Ran P K ops 0 ops.size es vs L 0 rs) (hnx : nextsOk L = true) {listed : Array Bool} {a : Act} {w : World} : ∀ (d R : Nat) (φ χ : Plan) (H : Hp) (pk : Pk),
    Inv2 P ops B w0 N φ0 es vs L listed a w R φ χ H pk → R + d ≤ hcount P ops ops.size → (∀ i, i < ops.size → anchAt P ops i = true → R ≤ hcount P ops i → R + d ≤ hcount P ops i) →
    ∃ φ' χ' H' pk', Inv2 P ops B w0 N φ0 es vs L listed a w (R + d) φ' χ' H' pk'
 | 0, R, φ, χ, H, pk, inv, _, _ => ⟨φ, χ, H, pk, inv⟩
 | d + 1, R, φ, χ, H, pk, inv, hle, hfree => by
  obtain ⟨p, hpn, hph, hp⟩ := zamc (P := P) (ops := ops) (r := R) ops.size (by omega)
  obtain ⟨o, ho⟩ : ∃ o, ops[p]? = some o := ⟨_, Array.getElem?_eq_getElem hpn⟩
  have hf : freeOp o.op = true := by
   cases h : freeOp o.op with
   | true => rfl
   | false =>
    have ha : anchAt P ops p = true := by
     unfold anchAt
     rw [zael ho] at hph
     rw [ho]; simp [h]; simpa using hph
    have := hfree p hpn ha (by omega)
    omega
  obtain ⟨φ', χ', H', pk', inv'⟩ := zax1 ran hnx inv ho hf hp
  have := zauh ran hnx d (R + 1) φ' χ' H' pk' inv' (by omega) fun i hi ha hR => by
   have := hfree i hi ha (by omega)
   omega
  rw [show R + (d + 1) = R + 1 + d by omega]
  exact this
end
end Go.Proofs.YtliemjbafgnnbaaGreatDoor.Abs
