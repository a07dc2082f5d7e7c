/- Regions with free operations: one operation more, whatever order the machine takes; and all regions. -/
import Derived.Test.YtliemjbafgnnbaaDoorPA23
set_option maxHeartbeats 0
set_option linter.unusedSimpArgs false
set_option linter.unusedVariables false
namespace Go.Proofs.YtliemjbafgnnbaaDoor.Abs
open Go Go.RowKit
section
variable {P : Program} {B : Nat} {w0 : Base} {K : CallFn} {ops : Array Oper} {es : Nat → Env} {vs : Nat → Value} {L : List Hp} {rs : List Rec} {N : Nat} {φ0 : Plan}
theorem zan7 {G G' : Nat → Nat → Value → Value → Prop} (hok : drawOk2 P ops = true) (ran : Ran P K ops 0 ops.size es vs L 0 rs) (hdst : ∀ (i : Nat) (o : Oper) (d : Nat), ops[i]? = some o → o.dst = some d → d < N)
    {listed : Array Bool} {a : Act} {p : Nat} {o : Oper} (ho : ops[p]? = some o) (hpl : p < listed.size) (hbe : ∀ i, i < ops.size → ahead ops p i = true → listed.getD i false = false) (hsz : a.tmps.size = N)
    (henv : ∀ t j, j ≤ ops.size → (∀ i x, i < j → ops[i]? = some x → x.dst = some t → listed.getD i false = true) → (∀ i x, j ≤ i → ops[i]? = some x → x.dst = some t → listed.getD i false = false) → G t j (eget (es j) t) (a.tmps.getD t undef))
    (hG : ∀ t j v v', G t j v v' → G' t j v v') {v' : Value} (hv : ∀ t j, p < j → o.dst = some t → G' t j (vs p) v') :
    ∀ t j, j ≤ ops.size → (∀ i x, i < j → ops[i]? = some x → x.dst = some t → (listed.setIfInBounds p true).getD i false = true) → (∀ i x, j ≤ i → ops[i]? = some x → x.dst = some t → (listed.setIfInBounds p true).getD i false = false) →
     G' t j (eget (es j) t) ((a.put o.dst v').tmps.getD t undef) := by
 have hpn : p < ops.size := (Array.getElem?_eq_some_iff.1 ho).1
 obtain ⟨o', ho', hes, -⟩ := ran.op p (Nat.zero_le p) hpn
 rw [ho] at ho'
 cases ho'
 intro t j hj h1 h2
 simp only [zaax hpl] at h1 h2
 by_cases hd : o.dst = some t
 ·have hpj : p < j := by
   rcases Nat.lt_or_ge p j with h | h
   ·exact h
   ·have := h2 p o h ho hd
    simp at this
  have hes2 : eget (es j) t = vs p := by
   obtain ⟨k, rfl⟩ : ∃ k, j = p + 1 + k := ⟨j - (p + 1), by omega⟩
   rw [zalo ran (p + 1) k hj, hes, hd]
   ·show eget (eset (es p) t (vs p)) t = _
    rw [zaah, if_pos rfl]
   ·intro q x hq1 hq2 hx hdx
    have hqn : q < ops.size := (Array.getElem?_eq_some_iff.1 hx).1
    have hlq := h1 q x hq2 hx hdx
    rw [if_neg (by omega)] at hlq
    rcases (zaf4 ((zafd hok hx).2.2 p o (by omega) ho)).1 with h | ⟨h, _⟩
    ·rw [hbe q hqn h] at hlq; cases hlq
    ·exact h t hd (zaiz hdx)
  have hput : (a.put o.dst v').tmps.getD t undef = v' := by
   rw [hd]
   show (a.tmps.setIfInBounds t v').getD t undef = _
   rw [zaiu _ _ _ _ (by rw [hsz]; exact hdst p o t ho hd), if_pos rfl]
  rw [hes2, hput]
  exact hv t j hpj hd
 ·have hput : (a.put o.dst v').tmps.getD t undef = a.tmps.getD t undef := by
   cases hdd : o.dst with
   | none => rfl
   | some d =>
    show (a.tmps.setIfInBounds d v').getD t undef = _
    rw [zaiu _ _ _ _ (by rw [hsz]; exact hdst p o d ho hdd), if_neg]
    intro e; subst e; exact hd hdd
  rw [hput]
  refine hG _ _ _ _ (henv t j hj (fun i x hi hx hdx => ?_) (fun i x hi hx hdx => ?_))
  ·have := h1 i x hi hx hdx
   rw [if_neg] at this
   ·exact this
   ·intro e; subst e; rw [ho] at hx; cases hx; exact hd hdx
  ·have := h2 i x hi hx hdx
   rw [if_neg] at this
   ·exact this
   ·intro e; subst e; rw [ho] at hx; cases hx; exact hd hdx
theorem zaob (hok : drawOk2 P ops = true) (hnx : nextsOk L = true) (ran : Ran P K ops 0 ops.size es vs L 0 rs) (hdst : ∀ (i : Nat) (o : Oper) (d : Nat), ops[i]? = some o → o.dst = some d → d < N)
    {listed : Array Bool} {a : Act} {w w' : World} {R R' : Nat} {φ χ ψ : Plan} {H H' : Hp} {pk : Pk} (inv : Inv2 P ops B w0 N φ0 es vs L listed a w R φ χ H pk) {p : Nat} {o : Oper} (ho : ops[p]? = some o) (hf : freeOp o.op = false)
    (hah : ∀ i, i < ops.size → ahead ops i p = true → listed.getD i false = true) (hbe : ∀ i, i < ops.size → ahead ops p i = true → listed.getD i false = false)
    (hRR : R ≤ R') (hR' : R' ≤ hcount P ops ops.size) (hH' : L[R']? = some H') (hpark : ∀ q i e c mk, Pushed P ops es vs L q i e c mk → (R ≤ hcount P ops q ↔ R' ≤ hcount P ops q))
    (hanch : ∀ i, i < ops.size → anchAt P ops i = true → ((listed.setIfInBounds p true).getD i false = true ↔ hcount P ops i < R'))
    (hψ : φ.le ψ) {v' : Value} (hv : VR ψ (vs p) v') (hrel : Rel B ⟨w0.w, Zof P ops es vs L w0 pk, Yof P ops es vs L w0 R listed⟩ ψ H' w') :
    ∃ χ', Inv2 P ops B w0 N φ0 es vs L (listed.setIfInBounds p true) (a.put o.dst v') w' R' ψ χ' H' pk := by
 have hpn : p < ops.size := (Array.getElem?_eq_some_iff.1 ho).1
 have hpl : p < listed.size := by rw [inv.lsize]; exact hpn
 have hnp : ∀ q i e c mk, Pushed P ops es vs L q i e c mk → q ≠ p := by
  intro q i e c mk h e
  subst e
  obtain ⟨o', h1, h2⟩ := h.free
  rw [ho] at h1; cases h1
  rw [hf] at h2; cases h2
 have hlq : ∀ q i e c mk, Pushed P ops es vs L q i e c mk → (listed.setIfInBounds p true).getD q false = listed.getD q false := by
  intro q i e c mk h
  rw [zaax hpl, if_neg (hnp _ _ _ _ _ h)]
 have hχ : χ.le (ψ.merge χ) := by
  intro i m hi
  unfold Plan.merge
  rcases inv.chi i m hi with h | ⟨q, e, c, mk, k, cs, h1, h2⟩
  ·rw [hψ i m h]
  ·have h3 := (hpark q _ _ _ _ h1).1 (inv.pkS q k cs h2).2.1
   rw [hrel.dom i (h1.ge hnx h3 hH')]
   exact hi
 refine ⟨ψ.merge χ, by simp [inv.lsize], fun i j hi hj ha => ?_, by rw [zag1, inv.size], by rw [zadl, inv.defers], hR', hH', Plan.le_trans inv.le0 hψ, ?_, hanch, fun q k cs hq => ?_, fun q i e c mk hq hRq hl => ?_, inv.pkI, Plan.le_merge ψ χ, fun i m hi => ?_, ?_⟩
 ·rw [zaax hpl] at hj ⊢
  split
  ·rfl
  ·by_cases hjp : j = p
   ·subst hjp; exact hah i hi ha
   ·rw [if_neg hjp] at hj; exact inv.closed i j hi hj ha
 ·refine hrel.congr rfl (fun k x h => h) fun i x => ?_
  constructor
  ·rintro (h | ⟨q, e, c, mk, h1, h2, h3, h4⟩)
   ·exact .inl h
   ·refine .inr ⟨q, e, c, mk, h1, ?_, by rw [hlq _ _ _ _ _ h1]; exact h3, h4⟩
    have := hpark _ _ _ _ _ h1; omega
  ·rintro (h | ⟨q, e, c, mk, h1, h2, h3, h4⟩)
   ·exact .inl h
   ·refine .inr ⟨q, e, c, mk, h1, ?_, by rw [hlq _ _ _ _ _ h1] at h3; exact h3, h4⟩
    have := hpark _ _ _ _ _ h1; omega
 ·obtain ⟨g1, g2, g3, g4, i, e, c, mk, g5, g6, g7, g8⟩ := inv.pkS q k cs hq
  exact ⟨by rw [hlq _ _ _ _ _ g5]; exact g1, (hpark _ _ _ _ _ g5).1 g2, g3, g4, i, e, c, mk, g5, hχ _ _ g6, g7.mono (Plan.cut_le hχ i), g8⟩
 ·rw [hlq _ _ _ _ _ hq] at hl
  exact inv.pkA q i e c mk hq ((hpark _ _ _ _ _ hq).2 hRq) hl
 ·unfold Plan.merge at hi
  split at hi
  ·rename_i m' hm'
   cases hi; exact .inl hm'
  ·rename_i hm'
   rcases inv.chi i m hi with h | h
   ·rw [hψ i m h] at hm'; cases hm'
   ·exact .inr h
 ·exact zan7 (G := EG P ops es vs L φ pk) (G' := EG P ops es vs L ψ pk) hok ran hdst ho hpl hbe inv.size inv.env (fun t j v v' h => h.mono hψ fun _ _ _ h => h) fun t j _ _ => .inl hv
theorem zaoa {θ : Plan} {e : Env} {a : Act} {o : Oper} (hρ : ∀ x, VR θ (aeval e x) (a.eval x)) (hg : ∀ j want d, o.guard = some (j, want) → (ops[j]?).bind (·.dst) = some d → VR θ (eget e d) (a.tmps.getD d undef))
    (ht : awanted ops o e = some true) {el : TypeId} {c : List Value} {mk : Nat → Value} (hf : fop P (aeval e) o.op = some (el, c, mk)) {w : World} {next : Act → World → Prop} {Q : Exit → Act → World → Prop}
    (hn : ∀ (cs : Array Value) (mk' : Nat → Value), VRs θ c cs.toList → (∀ u ∈ cs.toList, u.oneCell' = true) → (∀ (ψ : Plan) (i k : Nat), ψ i = some ⟨k, 0, cs.size⟩ → VR ψ (mk i) (mk' k)) → next (a.put o.dst (mk' w.heap.size)) (w.alloc (.cells cs (elT el)))) :
    (if Region.wanted o (yielded ops a.tmps) then o.wp P a w next Q ∨ (o.asks P a w ∧ LetsOut Q) else next (a.put o.dst undef) w) := by
 rw [zag2 ht hg]
 simp only [if_true]
 left
 obtain ⟨cs, mk', h1, h2, h3, h4⟩ := zavb hρ hf w
 show o.upon P a next Q ((execOp a.eval o).run P w)
 rw [h1]
 exact hn cs mk' h2 h3 h4
end
end Go.Proofs.YtliemjbafgnnbaaDoor.Abs
