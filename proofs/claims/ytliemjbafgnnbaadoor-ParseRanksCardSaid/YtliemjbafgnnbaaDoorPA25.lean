/- Regions with free operations: a free operation more. -/
import Derived.Test.YtliemjbafgnnbaaDoorPA24
set_option maxHeartbeats 0
set_option linter.unusedSimpArgs false
set_option linter.unusedVariables false
namespace Go.Proofs.YtliemjbafgnnbaaDoor.Abs
open Go Go.RowKit
section
variable {P : Program} {B : Nat} {w0 : Base} {K : CallFn} {ops : Array Oper} {es : Nat → Env} {vs : Nat → Value} {L : List Hp} {rs : List Rec} {N : Nat} {φ0 : Plan}
theorem zaim {listed : Array Bool} {p : Nat} (hpl : p < listed.size) (hah : ∀ i, i < ops.size → ahead ops i p = true → listed.getD i false = true) (hc : ∀ i j, i < ops.size → listed.getD j false = true → ahead ops i j = true → listed.getD i false = true) :
    ∀ i j, i < ops.size → (listed.setIfInBounds p true).getD j false = true → ahead ops i j = true → (listed.setIfInBounds p true).getD i false = true := by
 intro i j hi hj ha
 rw [zaax hpl] at hj ⊢
 split
 ·rfl
 ·by_cases hjp : j = p
  ·subst hjp; exact hah i hi ha
  ·rw [if_neg hjp] at hj; exact hc i j hi hj ha
theorem zakk {listed : Array Bool} {p R : Nat} {o : Oper} (ho : ops[p]? = some o) (hpl : p < listed.size) (hn : light P o.op = true ∨ freeOp o.op = true) (h : ∀ i, i < ops.size → anchAt P ops i = true → (listed.getD i false = true ↔ hcount P ops i < R)) :
    ∀ i, i < ops.size → anchAt P ops i = true → ((listed.setIfInBounds p true).getD i false = true ↔ hcount P ops i < R) := by
 intro i hi ha
 rw [zaax hpl, if_neg]
 ·exact h i hi ha
 ·intro e
  subst e
  unfold anchAt at ha
  rw [ho] at ha
  rcases hn with hn | hn <;> simp [hn] at ha
theorem zalr (hok : drawOk2 P ops = true) (ran : Ran P K ops 0 ops.size es vs L 0 rs) (hdst : ∀ (i : Nat) (o : Oper) (d : Nat), ops[i]? = some o → o.dst = some d → d < N)
    {listed : Array Bool} {a : Act} {w : World} {R : Nat} {φ χ : Plan} {H : Hp} {pk : Pk} (inv : Inv2 P ops B w0 N φ0 es vs L listed a w R φ χ H pk) {p : Nat} {o : Oper} (ho : ops[p]? = some o) (hf : freeOp o.op = true)
    (hah : ∀ i, i < ops.size → ahead ops i p = true → listed.getD i false = true) (hbe : ∀ i, i < ops.size → ahead ops p i = true → listed.getD i false = false)
    (hw : awanted ops o (restr (tmpsOf ops o) (es p)) = some false) (hv : vs p = NR) :
    Inv2 P ops B w0 N φ0 es vs L (listed.setIfInBounds p true) (a.put o.dst undef) w R φ χ H pk := by
 have hpn : p < ops.size := (Array.getElem?_eq_some_iff.1 ho).1
 have hpl : p < listed.size := by rw [inv.lsize]; exact hpn
 have hnp : ∀ q i e c mk, Pushed P ops es vs L q i e c mk → q ≠ p := by
  intro q i e c mk h e
  subst e
  obtain ⟨o', Ha', k1, k2, k3, k4, k5, _⟩ := h
  rw [ho] at k1; cases k1
  rw [hw] at k5; cases k5
 have hlq : ∀ q i e c mk, Pushed P ops es vs L q i e c mk → (listed.setIfInBounds p true).getD q false = listed.getD q false := by
  intro q i e c mk h
  rw [zaax hpl, if_neg (hnp _ _ _ _ _ h)]
 refine ⟨by simp [inv.lsize], zaim hpl hah inv.closed, by rw [zag1, inv.size], by rw [zadl, inv.defers], inv.hR, inv.hH, inv.le0, ?_, zakk ho hpl (.inr hf) inv.anch, fun q k cs hq => ?_, fun q i e c mk hq hRq hl => ?_, inv.pkI, inv.le, inv.chi, ?_⟩
 ·refine inv.rel.congr rfl (fun k x h => h) fun i x => ?_
  constructor
  ·rintro (h | ⟨q, e, c, mk, h1, h2, h3, h4⟩)
   ·exact .inl h
   ·exact .inr ⟨q, e, c, mk, h1, h2, by rw [hlq _ _ _ _ _ h1]; exact h3, h4⟩
  ·rintro (h | ⟨q, e, c, mk, h1, h2, h3, h4⟩)
   ·exact .inl h
   ·exact .inr ⟨q, e, c, mk, h1, h2, by rw [hlq _ _ _ _ _ h1] at h3; exact h3, h4⟩
 ·obtain ⟨g1, g2, g3, g4, i, e, c, mk, g5, g6⟩ := inv.pkS q k cs hq
  exact ⟨by rw [hlq _ _ _ _ _ g5]; exact g1, g2, g3, g4, i, e, c, mk, g5, g6⟩
 ·rw [hlq _ _ _ _ _ hq] at hl
  exact inv.pkA q i e c mk hq hRq hl
 ·exact zan7 (G := EG P ops es vs L φ pk) (G' := EG P ops es vs L φ pk) hok ran hdst ho hpl hbe inv.size inv.env (fun t j v v' h => h) fun t j _ _ => .inl (by rw [hv]; exact .nr)
theorem zavj (hok : drawOk2 P ops = true) (hnx : nextsOk L = true) (ran : Ran P K ops 0 ops.size es vs L 0 rs) (hdst : ∀ (i : Nat) (o : Oper) (d : Nat), ops[i]? = some o → o.dst = some d → d < N)
    {H0 : Hp} (hL0 : L[0]? = some H0) (hY0 : ∀ i b, w0.Y i b → i < H0.next)
    {listed : Array Bool} {a : Act} {w : World} {R : Nat} {φ χ : Plan} {H : Hp} {pk : Pk} (inv : Inv2 P ops B w0 N φ0 es vs L listed a w R φ χ H pk) {p : Nat} {o : Oper} (ho : ops[p]? = some o) (hf : freeOp o.op = true)
    (hah : ∀ i, i < ops.size → ahead ops i p = true → listed.getD i false = true) (hbe : ∀ i, i < ops.size → ahead ops p i = true → listed.getD i false = false) (hp1 : listed.getD p false = false)
    {i : Nat} {e : TypeId} {c : List Value} {mk : Nat → Value} (hpu : Pushed P ops es vs L p i e c mk) (hR : hcount P ops p < R) {cs : Array Value} {mk' : Nat → Value} (hc : VRs φ c cs.toList) (h1 : ∀ u ∈ cs.toList, u.oneCell' = true)
    (hmk : ∀ (ψ : Plan) (i k : Nat), ψ i = some ⟨k, 0, cs.size⟩ → VR ψ (mk i) (mk' k)) :
    ∃ φ' χ', Inv2 P ops B w0 N φ0 es vs L (listed.setIfInBounds p true) (a.put o.dst (mk' w.heap.size)) (w.alloc (.cells cs (elT e))) R φ' χ' H pk := by
 have hpn : p < ops.size := (Array.getElem?_eq_some_iff.1 ho).1
 have hpl : p < listed.size := by rw [inv.lsize]; exact hpn
 have hpkp : ∀ k cs, pk p ≠ some (k, cs) := fun k cs h => by have := (inv.pkS p k cs h).1; rw [hp1] at this; cases this
 have hlq : ∀ q, q ≠ p → (listed.setIfInBounds p true).getD q false = listed.getD q false := fun q h => by rw [zaax hpl, if_neg h]
 have hin : Yof P ops es vs L w0 R listed i (.cells true e c) := .inr ⟨p, e, c, mk, hpu, hR, hp1, rfl⟩
 obtain ⟨hle, hrel⟩ := inv.rel.fill (i := i) (cs := cs) (e := elT e) (e' := e) (he := rfl) (c := c) (Y' := Yof P ops es vs L w0 R (listed.setIfInBounds p true)) hin (fun j x => by
  constructor
  ·rintro (h | ⟨q, e', c', mk1, g1, g2, g3, g4⟩)
   ·refine ⟨.inl h, fun ej => ?_⟩
    have a1 := hY0 j x h
    have a2 := hpu.ge hnx (Nat.zero_le _) hL0
    omega
   ·have hqp : q ≠ p := fun eq => by subst eq; rw [zaax hpl, if_pos rfl] at g3; cases g3
    rw [hlq q hqp] at g3
    exact ⟨.inr ⟨q, e', c', mk1, g1, g2, g3, g4⟩, fun ej => by subst ej; exact hqp (g1.inj hpu hnx)⟩
  ·rintro ⟨h | ⟨q, e', c', mk1, g1, g2, g3, g4⟩, hj⟩
   ·exact .inl h
   ·have hqp : q ≠ p := fun eq => by subst eq; exact hj (hpu.fn g1).1
    exact .inr ⟨q, e', c', mk1, g1, g2, by rw [hlq q hqp]; exact g3, g4⟩) hc h1
 have hφi := (inv.rel.hole i _ hin).2.1
 have hχi : χ i = none := by
  cases h : χ i with
  | none => rfl
  | some m =>
   rcases inv.chi i m h with h | ⟨q, e', c', mk1, k, cs', g1, g2⟩
   ·rw [hφi] at h; cases h
   ·have := g1.inj hpu hnx
    subst this
    exact absurd g2 (hpkp _ _)
 have hχ : χ.le (χ.set i ⟨w.heap.size, 0, cs.size⟩) := Plan.le_set _ hχi
 refine ⟨φ.set i ⟨w.heap.size, 0, cs.size⟩, χ.set i ⟨w.heap.size, 0, cs.size⟩, by simp [inv.lsize], zaim hpl hah inv.closed, by rw [zag1, inv.size], by rw [zadl, inv.defers], inv.hR, inv.hH, Plan.le_trans inv.le0 hle, hrel, zakk ho hpl (.inr hf) inv.anch, fun q k cs hq => ?_, fun q i e c mk hq hRq hl => ?_, inv.pkI, fun j m hj => ?_, fun j m hj => ?_, ?_⟩
 ·obtain ⟨g1, g2, g3, g4, i, e, c, mk, g5, g6, g7, g8⟩ := inv.pkS q k cs hq
  have hqp : q ≠ p := fun eq => by subst eq; exact hpkp _ _ hq
  exact ⟨by rw [hlq q hqp]; exact g1, g2, g3, g4, i, e, c, mk, g5, hχ _ _ g6, g7.mono (Plan.cut_le hχ i), g8⟩
 ·have hqp : q ≠ p := fun eq => by subst eq; omega
  rw [hlq q hqp] at hl
  exact inv.pkA q i e c mk hq hRq hl
 ·by_cases ej : j = i
  ·subst ej; rw [Plan.set_same] at hj ⊢; exact hj
  ·rw [Plan.set_other _ _ ej] at hj ⊢; exact inv.le j m hj
 ·by_cases ej : j = i
  ·subst ej; rw [Plan.set_same] at hj ⊢; exact .inl hj
  ·rw [Plan.set_other _ _ ej] at hj ⊢; exact inv.chi j m hj
 ·refine zan7 (G := EG P ops es vs L φ pk) (G' := EG P ops es vs L _ pk) hok ran hdst ho hpl hbe inv.size inv.env (fun t j v v' h => h.mono hle fun _ _ _ h => h) fun t j _ _ => .inl ?_
  obtain ⟨o', Ha', k1, k2, k3, k4, k5, k6, k7, k8⟩ := hpu
  rw [k7]
  exact hmk _ i _ (Plan.set_same ..)
theorem zavl (hok : drawOk2 P ops = true) (hnx : nextsOk L = true) (ran : Ran P K ops 0 ops.size es vs L 0 rs) (hdst : ∀ (i : Nat) (o : Oper) (d : Nat), ops[i]? = some o → o.dst = some d → d < N)
    {listed : Array Bool} {a : Act} {w : World} {R : Nat} {φ χ : Plan} {H : Hp} {pk : Pk} (inv : Inv2 P ops B w0 N φ0 es vs L listed a w R φ χ H pk) {p : Nat} {o : Oper} (ho : ops[p]? = some o) (hf : freeOp o.op = true)
    (hah : ∀ i, i < ops.size → ahead ops i p = true → listed.getD i false = true) (hbe : ∀ i, i < ops.size → ahead ops p i = true → listed.getD i false = false) (hp1 : listed.getD p false = false)
    {i : Nat} {e : TypeId} {c : List Value} {mk : Nat → Value} (hpu : Pushed P ops es vs L p i e c mk) (hR : R ≤ hcount P ops p) {cs : Array Value} {mk' : Nat → Value} (hc : VRs (χ.cut i) c cs.toList) (h1 : ∀ u ∈ cs.toList, u.oneCell' = true)
    (hmk : ∀ (ψ : Plan) (i k : Nat), ψ i = some ⟨k, 0, cs.size⟩ → VR ψ (mk i) (mk' k)) :
    ∃ χ' pk', Inv2 P ops B w0 N φ0 es vs L (listed.setIfInBounds p true) (a.put o.dst (mk' w.heap.size)) (w.alloc (.cells cs (elT e))) R φ χ' H pk' := by
 have hpn : p < ops.size := (Array.getElem?_eq_some_iff.1 ho).1
 have hpl : p < listed.size := by rw [inv.lsize]; exact hpn
 have hpkp : ∀ k cs, pk p ≠ some (k, cs) := fun k cs h => by have := (inv.pkS p k cs h).1; rw [hp1] at this; cases this
 have hlq : ∀ q, q ≠ p → (listed.setIfInBounds p true).getD q false = listed.getD q false := fun q h => by rw [zaax hpl, if_neg h]
 have hge := hpu.ge hnx hR inv.hH
 have hχi : χ i = none := by
  cases h : χ i with
  | none => rfl
  | some m =>
   rcases inv.chi i m h with h | ⟨q, e', c', mk1, k, cs', g1, g2⟩
   ·rw [inv.rel.dom i hge] at h; cases h
   ·have := g1.inj hpu hnx
    subst this
    exact absurd g2 (hpkp _ _)
 have hχ : χ.le (χ.set i ⟨w.heap.size, 0, cs.size⟩) := Plan.le_set _ hχi
 have hlow : ∀ q k cs, pk q = some (k, cs) → k < w.heap.size := fun q k cs hq => by
  obtain ⟨g1, g2, g3, g4, i, e, c, mk, g5, g6⟩ := inv.pkS q k cs hq
  exact (Array.getElem?_eq_some_iff.1 (inv.rel.kept k (.cells cs (elT e) (0, 0)) (.inr ⟨q, cs, i, e, c, mk, hq, g5, rfl⟩)).1).1
 let pk' : Pk := fun q => if q = p then some (w.heap.size, cs) else pk q
 have pkp : pk' p = some (w.heap.size, cs) := if_pos rfl
 have pko : ∀ q, q ≠ p → pk' q = pk q := fun q h => if_neg h
 have pkle : ∀ q k cs, pk q = some (k, cs) → pk' q = some (k, cs) := fun q k cs h => by
  rw [pko q (fun eq => by subst eq; exact hpkp _ _ h)]; exact h
 clear_value pk'
 refine ⟨χ.set i ⟨w.heap.size, 0, cs.size⟩, pk', by simp [inv.lsize], zaim hpl hah inv.closed, by rw [zag1, inv.size], by rw [zadl, inv.defers], inv.hR, inv.hH, inv.le0, ?_, zakk ho hpl (.inr hf) inv.anch, fun q k cs' hq => ?_, fun q j e c mk hq hRq hl => ?_, fun q q' k cs1 cs2 hq hq' => ?_, fun j m hj => hχ j m (inv.le j m hj), fun j m hj => ?_, ?_⟩
 ·refine (inv.rel.park (.cells cs (elT e))).congr rfl (fun k x h => ?_) fun j x => ?_
  ·rcases h with h | ⟨q, cs', i', e', c', mk1, g1, g2, g3⟩
   ·exact .inl (.inl h)
   ·by_cases eq : q = p
    ·subst eq
     rw [pkp] at g1
     cases g1
     obtain ⟨f1, f2, f3, f4⟩ := hpu.fn g2
     exact .inr ⟨rfl, by rw [g3, f2]⟩
    ·rw [pko q eq] at g1
     exact .inl (.inr ⟨q, cs', i', e', c', mk1, g1, g2, g3⟩)
  ·constructor
   ·rintro (h | ⟨q, e', c', mk1, g1, g2, g3, g4⟩)
    ·exact .inl h
    ·have hqp : q ≠ p := fun eq => by subst eq; omega
     exact .inr ⟨q, e', c', mk1, g1, g2, by rw [hlq q hqp]; exact g3, g4⟩
   ·rintro (h | ⟨q, e', c', mk1, g1, g2, g3, g4⟩)
    ·exact .inl h
    ·have hqp : q ≠ p := fun eq => by subst eq; omega
     exact .inr ⟨q, e', c', mk1, g1, g2, by rw [hlq q hqp] at g3; exact g3, g4⟩
 ·by_cases eq : q = p
  ·subst eq
   rw [pkp] at hq
   cases hq
   refine ⟨by rw [zaax hpl, if_pos rfl], hR, inv.rel.size, fun x hx => ?_, i, e, c, mk, hpu, Plan.set_same .., hc.mono (Plan.cut_le hχ i), h1⟩
   have := (Array.getElem?_eq_some_iff.1 (inv.rel.kept w.heap.size x (.inl hx)).1).1
   omega
  ·rw [pko q eq] at hq
   obtain ⟨g1, g2, g3, g4, i, e, c, mk, g5, g6, g7, g8⟩ := inv.pkS q k cs' hq
   exact ⟨by rw [hlq q eq]; exact g1, g2, g3, g4, i, e, c, mk, g5, hχ _ _ g6, g7.mono (Plan.cut_le hχ i), g8⟩
 ·by_cases eq : q = p
  ·subst eq; exact ⟨_, _, pkp⟩
  ·rw [hlq q eq] at hl
   obtain ⟨k, cs', h⟩ := inv.pkA q j e c mk hq hRq hl
   exact ⟨k, cs', pkle _ _ _ h⟩
 ·by_cases eq : q = p
  ·subst eq
   rw [pkp] at hq
   cases hq
   by_cases eq' : q' = q
   ·exact eq'.symm
   ·rw [pko q' eq'] at hq'
    have := hlow _ _ _ hq'
    omega
  ·rw [pko q eq] at hq
   by_cases eq' : q' = p
   ·subst eq'
    rw [pkp] at hq'
    cases hq'
    have := hlow _ _ _ hq
    omega
   ·rw [pko q' eq'] at hq'
    exact inv.pkI q q' k cs1 cs2 hq hq'
 ·by_cases ej : j = i
  ·subst ej
   exact .inr ⟨p, e, c, mk, _, _, hpu, pkp⟩
  ·rw [Plan.set_other _ _ ej] at hj
   rcases inv.chi j m hj with h | ⟨q, e', c', mk1, k, cs', g1, g2⟩
   ·exact .inl h
   ·exact .inr ⟨q, e', c', mk1, k, cs', g1, pkle _ _ _ g2⟩
 ·refine zan7 (G := EG P ops es vs L φ pk) (G' := EG P ops es vs L φ pk') hok ran hdst ho hpl hbe inv.size inv.env (fun t j v v' h => h.mono (Plan.le_refl φ) pkle) fun t j hj hd => .inr ⟨p, _, _, o, pkp, hj, ho, hd, fun ψ i' e' c' mk1 g1 g2 => ?_⟩
  obtain ⟨f1, f2, f3, f4⟩ := hpu.fn g1
  subst f1
  obtain ⟨o', Ha', k1, k2, k3, k4, k5, k6, k7, k8⟩ := hpu
  rw [k7]
  exact hmk ψ _ _ g2
end
end Go.Proofs.YtliemjbafgnnbaaDoor.Abs
