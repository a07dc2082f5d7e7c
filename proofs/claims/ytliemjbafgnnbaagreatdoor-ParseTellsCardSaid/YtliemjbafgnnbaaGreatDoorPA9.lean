/- A region whose order is open: whatever order its edges let, it comes to what the plain evaluator says. -/
import Derived.Test.YtliemjbafgnnbaaGreatDoorPA8
set_option linter.unnecessarySimpa false
set_option linter.unusedSimpArgs false
set_option linter.unusedVariables false
namespace Go.Proofs.YtliemjbafgnnbaaGreatDoor.Abs
open Go Go.RowKit
section
variable {P : Program} {B : Nat} {w0 : Base} {K : CallFn} {ops : Array Oper}
theorem zag4 (h : drawOk P ops = true) {j : Nat} {y : Oper} (hy : ops[j]? = some y) :
    (∀ e ∈ y.after, Region.binds .any e = true → e.on < j) ∧ (∀ i, i < ops.size → ahead ops i j = true → ∃ e ∈ y.after, Region.binds .any e = true ∧ (e.on = i ∨ ahead ops i e.on = true)) ∧
    ∀ i x, i < j → ops[i]? = some x → pairOk P ops i j x y = true := by
 have hj : j < ops.size := (Array.getElem?_eq_some_iff.1 hy).1
 unfold drawOk at h
 rw [List.all_eq_true] at h
 have := h j (List.mem_range.2 hj)
 rw [hy] at this
 simp only [Bool.and_eq_true] at this
 obtain ⟨h1, h2⟩ := this
 unfold edgeOk at h1
 simp only [Bool.and_eq_true, List.all_eq_true, Bool.or_eq_true, Bool.not_eq_true', decide_eq_true_eq, List.mem_range, List.any_eq_true, beq_iff_eq] at h1 h2
 refine ⟨fun e he hb => ?_, fun i hi ha => ?_, fun i x hi hx => ?_⟩
 ·rcases h1.1 e (by simpa using he) with h | h
  ·rw [h] at hb; cases hb
  ·exact h
 ·rcases h1.2 i hi with h | ⟨e, he, hb, h⟩
  ·rw [h] at ha; cases ha
  ·exact ⟨e, by simpa using he, hb, h⟩
 ·have := h2 i hi
  rw [hx] at this
  exact this
theorem zajc {i j : Nat} {x y : Oper} (h : pairOk P ops i j x y = true) :
    ahead ops i j = true ∨ ((∀ d, x.dst = some d → d ∉ tmpsOf ops y) ∧ (∀ d, y.dst = some d → d ∉ tmpsOf ops x) ∧ (light P x.op = true ∨ light P y.op = true)) := by
 unfold pairOk at h
 simp only [Bool.or_eq_true, Bool.and_eq_true] at h
 rcases h with ⟨⟨h1, h2⟩, h3⟩ | h
 ·right
  refine ⟨fun d hd => ?_, fun d hd => ?_, h3⟩
  ·rw [hd] at h1; simpa using h1
  ·rw [hd] at h2; simpa using h2
 ·exact .inl h
theorem zazv {ρ : Operand → Value} {H H2 : Hp} {o : Op} (hr : readsMem o = false) (hl : light P o = true) : lop P ρ H o = lop P ρ H2 o := by
 cases o with
 | makeFunc f a b => cases f <;> rfl
 | call c => simp [readsMem] at hr
 | load t a => simp [readsMem] at hr
 | convert a b c => simp [readsMem] at hr
 | _ => first | rfl | simp [light] at hl
theorem zaj2 {o : Oper} {d : Tmp} (h : o.dst = some d) : d ∈ tmpsOf ops o := by simp [tmpsOf, h]
theorem zadw {o : Oper} {j : Nat} {want : Bool} {d : Tmp} (h : o.guard = some (j, want)) (hd : (ops[j]?).bind (·.dst) = some d) : d ∈ tmpsOf ops o := by
 simp [tmpsOf, h, hd]
structure Inv (P : Program) (K : CallFn) (ops : Array Oper) (B : Nat) (w0 : Base) (N : Nat) (φ0 : Plan) (es : Nat → Env) (vs : Nat → Value) (L : List Hp) (listed : Array Bool) (a : Act) (w : World) : Prop where
 lsize : listed.size = ops.size
 closed : ∀ i j, i < ops.size → listed.getD j false = true → ahead ops i j = true → listed.getD i false = true
 heavy : ∃ r φ H, r ≤ hcount P ops ops.size ∧ L[r]? = some H ∧ φ0.le φ ∧ Rel B w0 φ H w ∧ (∀ i, i < ops.size → heavyAt P ops i = true → (listed.getD i false = true ↔ hcount P ops i < r)) ∧
  ∀ (t j : Nat), j ≤ ops.size → (∀ i o, i < j → ops[i]? = some o → o.dst = some t → listed.getD i false = true) → (∀ i o, j ≤ i → ops[i]? = some o → o.dst = some t → listed.getD i false = false) → VR φ (eget (es j) t) (a.tmps.getD t undef)
 size : a.tmps.size = N
 defers : a.defers = []
theorem zam8 {n : Nat} {es : Nat → Env} {vs : Nat → Value} {L : List Hp} {c0 : Nat} {rs : List Rec} (ran : Ran P K ops 0 n es vs L c0 rs) {t : Nat} : ∀ (i k : Nat), i + k ≤ n → (∀ q o, i ≤ q → q < i + k → ops[q]? = some o → o.dst ≠ some t) → eget (es (i + k)) t = eget (es i) t
 | i, 0, _, _ => rfl
 | i, k + 1, h, hq => by
  obtain ⟨o, h1, h2, _⟩ := ran.op (i + k) (by omega) (by omega)
  have ih := zam8 ran i k (by omega) (fun q o' a b => hq q o' a (by omega))
  rw [← Nat.add_assoc, h2]
  cases hd : o.dst with
  | none => exact ih
  | some d =>
   show eget (eset (es (i + k)) d _) t = _
   rw [zaak, if_neg, ih]
   intro e
   subst e
   exact hq (i + k) o (by omega) (by omega) h1 hd
theorem zabc {listed : Array Bool} {p j : Nat} (hp : p < listed.size) : (listed.setIfInBounds p true).getD j false = if j = p then true else listed.getD j false := by
 simp only [Array.getD_eq_getD_getElem?]
 by_cases h : j = p
 ·subst h; rw [if_pos rfl, Array.getElem?_setIfInBounds_self_of_lt hp]; rfl
 ·rw [if_neg h, Array.getElem?_setIfInBounds_ne (fun e => h e.symm)]
theorem zadp {listed : Array Bool} {j : Nat} (h : j < listed.size) : listed.getD j true = listed.getD j false := by
 simp [Array.getD_eq_getD_getElem?, h]
theorem za2p (hK : KSound P B w0.w K) (hok : drawOk P ops = true) {N : Nat} {φ0 : Plan} {es : Nat → Env} {vs : Nat → Value} {L : List Hp} {rs : List Rec}
    (ran : Ran P K ops 0 ops.size es vs L 0 rs) (hlen : L.length = hcount P ops ops.size + 1) (hrs : ∀ x ∈ rs, recOk P ops L x = true) (hdst : ∀ (i : Nat) (o : Oper) (d : Nat), ops[i]? = some o → o.dst = some d → d < N)
    {listed : Array Bool} {a : Act} {w : World} (inv : Inv P K ops B w0 N φ0 es vs L listed a w) {p : Nat} (hp : p ∈ Region.ready .any ops listed) {next : Act → World → Prop} {Q : Exit → Act → World → Prop}
    (hn : ∀ a' w', Inv P K ops B w0 N φ0 es vs L (listed.setIfInBounds p true) a' w' → next a' w') : wpOp P ops Q p next a w := by
 rw [mem_ready] at hp
 obtain ⟨hp0, o, ho, hafter⟩ := hp
 have hpn : p < ops.size := (Array.getElem?_eq_some_iff.1 ho).1
 have hpl : p < listed.size := by rw [inv.lsize]; exact hpn
 have hp1 : listed.getD p false = false := by rw [← zadp hpl]; exact hp0
 obtain ⟨d1, d2, d3⟩ := zag4 hok ho
 -- what stands ahead of p has run
 have hah : ∀ i, i < ops.size → ahead ops i p = true → listed.getD i false = true := by
  intro i hi ha
  obtain ⟨e, he, hb, h⟩ := d2 i hi ha
  have hl := hafter e he hb
  rcases h with rfl | h
  ·exact hl
  ·exact inv.closed i e.on hi hl h
 -- what p stands ahead of has not
 have hbe : ∀ i, i < ops.size → ahead ops p i = true → listed.getD i false = false := by
  intro i hi ha
  cases h : listed.getD i false with
  | false => rfl
  | true => rw [inv.closed p i hpn h ha] at hp1; cases hp1
 obtain ⟨r, φ, H, hr, hH, hφ, hR, hheavy, henv⟩ := inv.heavy
 have names : ∀ t, t ∈ tmpsOf ops o → VR φ (eget (es p) t) (a.tmps.getD t undef) := by
  intro t ht
  refine henv t p (by omega) (fun i x hi hx hd => ?_) (fun i x hi hx hd => ?_)
  ·have hin : i < ops.size := (Array.getElem?_eq_some_iff.1 hx).1
   rcases zajc (d3 i x hi hx) with h | ⟨h, _⟩
   ·exact hah i hin h
   ·exact absurd ht (h t hd)
  ·have hin : i < ops.size := (Array.getElem?_eq_some_iff.1 hx).1
   rcases Nat.lt_or_ge p i with hlt | hge
   ·rcases zajc ((zag4 hok hx).2.2 p o hlt ho) with h | ⟨_, h, _⟩
    ·exact hbe i hin h
    ·exact absurd ht (h t hd)
   ·have : i = p := by omega
    subst this; exact hp1
 have hρ : ∀ x, VR φ (aeval (restr (tmpsOf ops o) (es p)) x) (a.eval x) := fun x => zaj8 fun t _ => by
  rw [zafn]
  split
  ·exact names t (by assumption)
  ·exact .undef _ _
 have hg : ∀ j want d, o.guard = some (j, want) → (ops[j]?).bind (·.dst) = some d → VR φ (eget (restr (tmpsOf ops o) (es p)) d) (a.tmps.getD d undef) := by
  intro j want d h1 h2
  rw [zafn, if_pos (zadw h1 h2)]
  exact names d (zadw h1 h2)
 obtain ⟨o', ho', hes, Ha, hLa, hcase⟩ := ran.op p (Nat.zero_le p) hpn
 rw [ho] at ho'
 cases ho'
 have h0 : hcount P ops 0 = 0 := rfl
 rw [h0, Nat.sub_zero, Nat.zero_add] at hLa hcase
 -- the environment behind p
 have envstep : ∀ (ψ : Plan) (v' : Value), φ.le ψ → VR ψ (vs p) v' → ∀ (t j : Nat), j ≤ ops.size → (∀ i x, i < j → ops[i]? = some x → x.dst = some t → (listed.setIfInBounds p true).getD i false = true) →
     (∀ i x, j ≤ i → ops[i]? = some x → x.dst = some t → (listed.setIfInBounds p true).getD i false = false) → VR ψ (eget (es j) t) ((a.put o.dst v').tmps.getD t undef) := by
  intro ψ v' hψ hv t j hj h1 h2
  simp only [zabc hpl] at h1 h2
  by_cases hd : o.dst = some t
  ·have hpj : p < j := by
    rcases Nat.lt_or_ge p j with h | h
    ·exact h
    ·have := h2 p o h ho hd
     simp at this
   have hes2 : eget (es j) t = vs p := by
    obtain ⟨k, rfl⟩ : ∃ k, j = p + 1 + k := ⟨j - (p + 1), by omega⟩
    rw [zam8 ran (p + 1) k hj, hes, hd]
    ·show eget (eset (es p) t (vs p)) t = _
     rw [zaak, if_pos rfl]
    ·intro q x hq1 hq2 hx hdx
     have hqn : q < ops.size := (Array.getElem?_eq_some_iff.1 hx).1
     have hlq := h1 q x hq2 hx hdx
     rw [if_neg (by omega)] at hlq
     rcases zajc ((zag4 hok hx).2.2 p o (by omega) ho) with h | ⟨h, _⟩
     ·rw [hbe q hqn h] at hlq; cases hlq
     ·exact h t hd (zaj2 hdx)
   rw [hes2, hd]
   show VR ψ (vs p) ((a.tmps.setIfInBounds t v').getD t undef)
   rw [zajx _ _ _ _ (by rw [inv.size]; exact hdst p o t ho hd), if_pos rfl]
   exact hv
  ·have hput : (a.put o.dst v').tmps.getD t undef = a.tmps.getD t undef := by
    cases hdd : o.dst with
    | none => rfl
    | some d =>
     show (a.tmps.setIfInBounds d v').getD t undef = _
     rw [zajx _ _ _ _ (by rw [inv.size]; exact hdst p o d ho hdd), if_neg]
     intro e; subst e; exact hd hdd
   rw [hput]
   refine (henv t j hj (fun i x hi hx hdx => ?_) (fun i x hi hx hdx => ?_)).mono hψ
   ·have := h1 i x hi hx hdx
    rw [if_neg] at this
    ·exact this
    ·intro e; subst e; rw [ho] at hx; cases hx; exact hd hdx
   ·have := h2 i x hi hx hdx
    rw [if_neg] at this
    ·exact this
    ·intro e; subst e; rw [ho] at hx; cases hx; exact hd hdx
 have closed' : ∀ i j, i < ops.size → (listed.setIfInBounds p true).getD j false = true → ahead ops i j = true → (listed.setIfInBounds p true).getD i false = true := by
  intro i j hi hj ha
  rw [zabc hpl] at hj ⊢
  split
  ·rfl
  ·by_cases hjp : j = p
   ·subst hjp; exact hah i hi ha
   ·rw [if_neg hjp] at hj; exact inv.closed i j hi hj ha
 have lsize' : (listed.setIfInBounds p true).size = ops.size := by simp [inv.lsize]
 have hhv := zael (P := P) ho
 unfold wpOp
 rw [ho]
 simp only
 by_cases hl : light P o.op = true
 ·rw [if_pos hl] at hcase
  obtain ⟨hval0, hmem⟩ := hcase
  have hlv : lval P ops o (restr (tmpsOf ops o) (es p)) H = some (vs p) := by
   by_cases hrm : readsMem o.op = true
   ·have hc := hrs _ hmem
    unfold recOk at hc
    simp only [ho, hrm, Bool.not_true, Bool.false_or, List.all_eq_true, List.mem_range, Bool.or_eq_true, Bool.not_eq_true'] at hc
    have hrl : r < L.length := by omega
    rcases hc r hrl with h | h
    ·exfalso
     have : allowed P ops r p = true := by
      unfold allowed
      simp only [List.all_eq_true, List.mem_range, Bool.or_eq_true, Bool.not_eq_true']
      intro i hi
      cases hhi : heavyAt P ops i with
      | false => exact .inl rfl
      | true =>
       right
       have := hheavy i hi hhi
       split
       ·rename_i hlt
        have hli := this.2 hlt
        cases ha : ahead ops p i with
        | false => rfl
        | true => rw [hbe i hi ha] at hli; cases hli
       ·rename_i hlt
        cases ha : ahead ops i p with
        | false => rfl
        | true => exact absurd (this.1 (hah i hi ha)) hlt
     rw [h] at this; cases this
    ·rw [hH] at h
     simp only at h
     split at h
     ·rename_i v hv
      rw [hv, zard _ _ h]
     ·cases h
   ·have hrm' : readsMem o.op = false := by simpa using hrm
    unfold lval at hval0 ⊢
    rw [zazv hrm' hl (H2 := Ha)]
    exact hval0
  refine zago (K := K) hK hR (zaqe (K := K) hl hlv) hρ hg ?_
  intro ψ v' w' hψ hvr hR'
  refine hn _ _ ⟨lsize', closed', ⟨r, ψ, H, hr, hH, Plan.le_trans hφ hψ, hR', fun i hi hhi => ?_, envstep ψ v' hψ hvr⟩, by rw [zahr, inv.size], by rw [zad9, inv.defers]⟩
  rw [zabc hpl]
  have : i ≠ p := by intro e; subst e; rw [hhv, hl] at hhi; cases hhi
  rw [if_neg this]
  exact hheavy i hi hhi
 ·rw [if_neg hl] at hcase
  have hl' : light P o.op = false := by simpa using hl
  obtain ⟨Hb, hLb, hv⟩ := hcase
  have hph : heavyAt P ops p = true := by rw [hhv, hl']; rfl
  have hpr : hcount P ops p = r := by
   have h1 : ¬ hcount P ops p < r := fun h => by rw [(hheavy p hpn hph).2 h] at hp1; cases hp1
   rcases zak3 (P := P) (ops := ops) p with h | ⟨i, hi, hhi, hc⟩
   ·omega
   ·have hin : i < ops.size := by omega
    obtain ⟨x, hx⟩ : ∃ x, ops[i]? = some x := ⟨_, Array.getElem?_eq_getElem hin⟩
    have : listed.getD i false = true := by
     rcases zajc (d3 i x hi hx) with h | ⟨_, _, h⟩
     ·exact hah i hin h
     ·rw [zael hx] at hhi
      rcases h with h | h
      ·rw [h] at hhi; cases hhi
      ·rw [h] at hl'; cases hl'
    have := (hheavy i hin hhi).1 this
    omega
  rw [hpr] at hLa hLb
  rw [hH] at hLa
  cases hLa
  refine zago (K := K) hK hR hv hρ hg ?_
  intro ψ v' w' hψ hvr hR'
  have hle : hcount P ops p < hcount P ops ops.size := zadv hpn hph
  refine hn _ _ ⟨lsize', closed', ⟨r + 1, ψ, Hb, by omega, hLb, Plan.le_trans hφ hψ, hR', fun i hi hhi => ?_, envstep ψ v' hψ hvr⟩, by rw [zahr, inv.size], by rw [zad9, inv.defers]⟩
  rw [zabc hpl]
  by_cases hip : i = p
  ·subst hip
   rw [if_pos rfl]
   simp [hpr]
  ·rw [if_neg hip, hheavy i hi hhi]
   constructor
   ·intro h; omega
   ·intro h
    have hne : hcount P ops i ≠ hcount P ops p := by
     rcases Nat.lt_or_ge i p with h' | h'
     ·have := zadv (P := P) (ops := ops) h' hhi; omega
     ·have := zadv (P := P) (ops := ops) (show p < i by omega) hph; omega
    omega
def unlisted (ops : Array Oper) (listed : Array Bool) : Nat := ((List.range ops.size).filter fun i => !listed.getD i false).length
theorem zaxo {α : Type} (p q : α → Bool) (l : List α) (h : ∀ x ∈ l, q x = true → p x = true) : (l.filter q).length ≤ (l.filter p).length := by
 induction l with
 | nil => simp
 | cons x l ih =>
  have ih := ih fun y hy => h y (by simp [hy])
  have hx := h x (by simp)
  simp only [List.filter_cons]
  cases hq : q x <;> cases hp : p x <;> simp_all <;> omega
theorem zap3 {α : Type} (p q : α → Bool) (l : List α) (h : ∀ x ∈ l, q x = true → p x = true) {y : α} (hy : y ∈ l) (hp : p y = true) (hq : q y = false) : (l.filter q).length < (l.filter p).length := by
 induction l with
 | nil => cases hy
 | cons x l ih =>
  have hle := zaxo p q l fun z hz => h z (by simp [hz])
  have hx := h x (by simp)
  simp only [List.filter_cons]
  rcases List.mem_cons.1 hy with rfl | hy'
  ·rw [hp, hq]; simp; omega
  ·have ih := ih (fun z hz => h z (by simp [hz])) hy'
   cases hqx : q x <;> cases hpx : p x <;> simp_all <;> omega
theorem za5c (hK : KSound P B w0.w K) (hok : drawOk P ops = true) {N : Nat} {φ0 : Plan} {es : Nat → Env} {vs : Nat → Value} {L : List Hp} {rs : List Rec}
    (ran : Ran P K ops 0 ops.size es vs L 0 rs) (hlen : L.length = hcount P ops ops.size + 1) (hrs : ∀ x ∈ rs, recOk P ops L x = true) (hdst : ∀ (i : Nat) (o : Oper) (d : Nat), ops[i]? = some o → o.dst = some d → d < N)
    {H' : Hp} (hlast : L[hcount P ops ops.size]? = some H') {Q : Exit → Act → World → Prop} (hq : ∀ a w, Goes B w0 N φ0 (es ops.size) H' a w → Q .normal a w) :
    ∀ (fuel : Nat) (listed : Array Bool) (a : Act) (w : World), unlisted ops listed ≤ fuel → Inv P K ops B w0 N φ0 es vs L listed a w → wpAny P .any ops Q fuel listed a w := by
 have fin : ∀ (listed : Array Bool) (a : Act) (w : World), Inv P K ops B w0 N φ0 es vs L listed a w → Region.ready .any ops listed = [] → Q .normal a w := by
  intro listed a w inv hnil
  have all : ∀ n j, j < n → j < ops.size → listed.getD j false = true := by
   intro n
   induction n with
   | zero => intro j h; omega
   | succ n ih =>
    intro j hj hjn
    rcases Nat.lt_or_ge j n with h | h
    ·exact ih j h hjn
    ·cases hl : listed.getD j false with
     | true => rfl
     | false =>
      obtain ⟨o, ho⟩ : ∃ o, ops[j]? = some o := ⟨_, Array.getElem?_eq_getElem hjn⟩
      have : j ∈ Region.ready .any ops listed := mem_ready.2 ⟨by rw [zadp (by rw [inv.lsize]; exact hjn)]; exact hl, o, ho, fun e he hb => by
       have := (zag4 hok ho).1 e he hb
       exact ih e.on (by omega) (by omega)⟩
      rw [hnil] at this; cases this
  obtain ⟨r, φ, H, hr, hH, hφ, hR, hheavy, henv⟩ := inv.heavy
  have hrr : r = hcount P ops ops.size := by
   rcases zak3 (P := P) (ops := ops) ops.size with h | ⟨i, hi, hhi, hc⟩
   ·omega
   ·have := (hheavy i hi hhi).1 (all ops.size i hi hi)
    omega
  subst hrr
  rw [hlast] at hH
  cases hH
  refine hq a w ⟨φ, hφ, ⟨fun t => ?_, inv.size, inv.defers, hR⟩⟩
  refine henv t ops.size (Nat.le_refl _) (fun i o hi ho _ => all ops.size i hi hi) (fun i o hi ho _ => ?_)
  have : i < ops.size := (Array.getElem?_eq_some_iff.1 ho).1
  omega
 intro fuel
 induction fuel with
 | zero =>
  intro listed a w hu inv
  have hnil : Region.ready .any ops listed = [] := by
   cases hr : Region.ready .any ops listed with
   | nil => rfl
   | cons j l =>
    have hj : j ∈ Region.ready .any ops listed := by rw [hr]; simp
    rw [mem_ready] at hj
    obtain ⟨h0, o, ho, _⟩ := hj
    have hjn : j < ops.size := (Array.getElem?_eq_some_iff.1 ho).1
    rw [zadp (by rw [inv.lsize]; exact hjn)] at h0
    have : j ∈ (List.range ops.size).filter fun i => !listed.getD i false := by
     exact List.mem_filter.2 ⟨List.mem_range.2 hjn, by rw [h0]; rfl⟩
    unfold unlisted at hu
    have h2 : ((List.range ops.size).filter fun i => !listed.getD i false) = [] := List.length_eq_zero_iff.1 (by omega)
    rw [h2] at this; cases this
  exact ⟨hnil, fin listed a w inv hnil⟩
 | succ fuel ih =>
  intro listed a w hu inv
  refine ⟨fun hnil => fin listed a w inv hnil, fun p hp => ?_⟩
  refine za2p hK hok ran hlen hrs hdst inv hp fun a' w' inv' => ih _ a' w' ?_ inv'
  rw [mem_ready] at hp
  obtain ⟨h0, o, ho, _⟩ := hp
  have hpn : p < ops.size := (Array.getElem?_eq_some_iff.1 ho).1
  have hpl : p < listed.size := by rw [inv.lsize]; exact hpn
  rw [zadp hpl] at h0
  have := zap3 (fun i => !listed.getD i false) (fun i => !(listed.setIfInBounds p true).getD i false) (List.range ops.size) (fun x _ hx => by
   rw [zabc hpl] at hx
   split at hx
   ·cases hx
   ·exact hx) (List.mem_range.2 hpn) (by simp [h0]) (by rw [zabc hpl]; simp)
  unfold unlisted at hu ⊢
  omega
end
end Go.Proofs.YtliemjbafgnnbaaGreatDoor.Abs
