/- Regions with free operations: one operation more, whatever order the machine takes; and all regions. -/
import Derived.Test.YtliemjbafgnnbaaDoorPA25
set_option maxHeartbeats 0
set_option linter.unnecessarySimpa false
set_option linter.unusedSimpArgs false
set_option linter.unusedVariables false
namespace Go.Proofs.YtliemjbafgnnbaaDoor.Abs
open Go Go.RowKit
section
variable {P : Program} {B : Nat} {w0 : Base} {K : CallFn} {ops : Array Oper} {es : Nat → Env} {vs : Nat → Value} {L : List Hp} {rs : List Rec} {N : Nat} {φ0 : Plan}
def I2 (P : Program) (ops : Array Oper) (B : Nat) (w0 : Base) (N : Nat) (φ0 : Plan) (es : Nat → Env) (vs : Nat → Value) (L : List Hp) (listed : Array Bool) (a : Act) (w : World) : Prop :=
 ∃ R φ χ H pk, Inv2 P ops B w0 N φ0 es vs L listed a w R φ χ H pk
theorem I2.lsize {listed : Array Bool} {a : Act} {w : World} (h : I2 P ops B w0 N φ0 es vs L listed a w) : listed.size = ops.size := by
 obtain ⟨R, φ, χ, H, pk, inv⟩ := h
 exact inv.lsize
theorem zavm (hK : KSound P B w0.w K) (hok : drawOk2 P ops = true) (hnx : nextsOk L = true) {H0 : Hp} (hL0 : L[0]? = some H0) (hY0 : ∀ i b, w0.Y i b → i < H0.next)
    (ran : Ran P K ops 0 ops.size es vs L 0 rs) (hlen : L.length = hcount P ops ops.size + 1) (hrs : ∀ x ∈ rs, recOk2 P ops L x = true) (hdst : ∀ (i : Nat) (o : Oper) (d : Nat), ops[i]? = some o → o.dst = some d → d < N)
    {listed : Array Bool} {a : Act} {w : World} (inv0 : I2 P ops B w0 N φ0 es vs L listed a w) {p : Nat} (hp : p ∈ Region.ready .any ops listed) {next : Act → World → Prop} {Q : Exit → Act → World → Prop}
    (hn : ∀ a' w', I2 P ops B w0 N φ0 es vs L (listed.setIfInBounds p true) a' w' → next a' w') : wpOp P ops Q p next a w := by
 obtain ⟨R, φ, χ, H, pk, inv⟩ := inv0
 rw [mem_ready] at hp
 obtain ⟨hp0, o, ho, hafter⟩ := hp
 have hpn : p < ops.size := (Array.getElem?_eq_some_iff.1 ho).1
 have hpl : p < listed.size := by rw [inv.lsize]; exact hpn
 have hp1 : listed.getD p false = false := by rw [← zac6 hpl]; exact hp0
 obtain ⟨d1, d2, d3⟩ := zafd hok ho
 have hah : ∀ i, i < ops.size → ahead ops i p = true → listed.getD i false = true := by
  intro i hi ha
  obtain ⟨e, he, hb, h⟩ := d2 i hi ha
  have hl := hafter e he hb
  rcases h with rfl | h
  ·exact hl
  ·exact inv.closed i e.on hi hl h
 have hbe : ∀ i, i < ops.size → ahead ops p i = true → listed.getD i false = false := by
  intro i hi ha
  cases h : listed.getD i false with
  | false => rfl
  | true => rw [inv.closed p i hpn h ha] at hp1; cases hp1
 have names : ∀ {R : Nat} {φ χ : Plan} {H : Hp} {pk : Pk}, Inv2 P ops B w0 N φ0 es vs L listed a w R φ χ H pk → ∀ t, t ∈ tmpsOf ops o → EG P ops es vs L φ pk t p (eget (es p) t) (a.tmps.getD t undef) := by
  intro R φ χ H pk inv t ht
  refine inv.env t p (by omega) (fun i x hi hx hd => ?_) (fun i x hi hx hd => ?_)
  ·have hin : i < ops.size := (Array.getElem?_eq_some_iff.1 hx).1
   rcases (zaf4 (d3 i x hi hx)).1 with h | ⟨h, _⟩
   ·exact hah i hin h
   ·exact absurd ht (h t hd)
  ·have hin : i < ops.size := (Array.getElem?_eq_some_iff.1 hx).1
   rcases Nat.lt_or_ge p i with hlt | hge
   ·rcases (zaf4 ((zafd hok hx).2.2 p o hlt ho)).1 with h | ⟨_, h, _⟩
    ·exact hbe i hin h
    ·exact absurd ht (h t hd)
   ·have : i = p := by omega
    subst this; exact hp1
 have mkρ : ∀ {θ : Plan}, (∀ t, t ∈ tmpsOf ops o → VR θ (eget (es p) t) (a.tmps.getD t undef)) → ∀ x, VR θ (aeval (restr (tmpsOf ops o) (es p)) x) (a.eval x) := fun nm x => zai3 fun t _ => by
  rw [zaet]
  split
  ·exact nm t (by assumption)
  ·exact .undef _ _
 have mkg : ∀ {θ : Plan}, (∀ t, t ∈ tmpsOf ops o → VR θ (eget (es p) t) (a.tmps.getD t undef)) → ∀ j want d, o.guard = some (j, want) → (ops[j]?).bind (·.dst) = some d → VR θ (eget (restr (tmpsOf ops o) (es p)) d) (a.tmps.getD d undef) := by
  intro θ nm j want d h1 h2
  rw [zaet, if_pos (zadc h1 h2)]
  exact nm d (zadc h1 h2)
 obtain ⟨o', ho', hes, Ha, hLa, hcase⟩ := ran.op p (Nat.zero_le p) hpn
 rw [ho] at ho'
 cases ho'
 have h0 : hcount P ops 0 = 0 := rfl
 rw [h0, Nat.sub_zero, Nat.zero_add] at hLa hcase
 have hhv := zadw (P := P) ho
 unfold wpOp
 rw [ho]
 simp only
 by_cases hl : light P o.op = true
 ·rw [if_pos hl] at hcase
  obtain ⟨hval0, hmem⟩ := hcase
  have hfr : freeOp o.op = false := by
   cases h : freeOp o.op with
   | false => rfl
   | true => rw [zag7 h] at hl; cases hl
  have nm : ∀ t, t ∈ tmpsOf ops o → VR φ (eget (es p) t) (a.tmps.getD t undef) := by
   intro t ht
   rcases names inv t ht with h | ⟨q, k, cs, x, h1, h2, h3, h4, h5⟩
   ·exact h
   ·obtain ⟨g1, g2, g3, g4, i, e, c, mk, g5, g6⟩ := inv.pkS q k cs h1
    obtain ⟨x', hx', hf⟩ := g5.free
    rw [h3] at hx'; cases hx'
    exact absurd ht ((zaf4 (d3 q x h2 h3)).2 hf hl t h4)
  have hlv : lval P ops o (restr (tmpsOf ops o) (es p)) H = some (vs p) := by
   by_cases hrm : readsMem o.op = true
   ·have hc := hrs _ hmem
    unfold recOk2 at hc
    simp only [ho, hrm, Bool.not_true, Bool.false_or, List.all_eq_true, List.mem_range, Bool.or_eq_true, Bool.not_eq_true'] at hc
    have hrl : R < L.length := by have := inv.hR; omega
    rcases hc R hrl with h | h
    ·exfalso
     have : allowed2 P ops R p = true := by
      unfold allowed2
      simp only [List.all_eq_true, List.mem_range, Bool.or_eq_true, Bool.not_eq_true']
      intro i hi
      cases hhi : anchAt P ops i with
      | false => exact .inl rfl
      | true =>
       right
       have := inv.anch i hi hhi
       split
       ·rename_i hlt
        have hli := this.2 hlt
        cases ha : ahead ops p i with
        | false => rfl
        | true => rw [hbe i hi ha] at hli; cases hli
       ·rename_i hlt
        cases ha : ahead ops i p with
        | false => rfl
        | true => exact absurd (this.1 (hah i hi ha)) hlt
     rw [h] at this; cases this
    ·rw [inv.hH] at h
     simp only at h
     split at h
     ·rename_i v hv
      rw [hv, zams _ _ h]
     ·cases h
   ·have hrm' : readsMem o.op = false := by simpa using hrm
    unfold lval at hval0 ⊢
    rw [zaw9 hrm' hl (H2 := Ha)]
    exact hval0
  refine zafw (K := K) (w0 := ⟨w0.w, Zof P ops es vs L w0 pk, Yof P ops es vs L w0 R listed⟩) hK inv.rel (zaok (K := K) hl hlv) (mkρ nm) (mkg nm) ?_
  intro ψ v' w' hψ hvr hR'
  obtain ⟨χ', inv'⟩ := zaob hok hnx ran hdst inv ho hfr hah hbe (Nat.le_refl _) inv.hR inv.hH (fun _ _ _ _ _ _ => Iff.rfl) (zakk ho hpl (.inl hl) inv.anch) hψ hvr hR'
  exact hn _ _ ⟨R, ψ, χ', H, pk, inv'⟩
 ·have hl' : light P o.op = false := by simpa using hl
  have hph : heavyAt P ops p = true := by rw [hhv, hl']; rfl
  have hple := zadb (P := P) (ops := ops) hpn hph
  cases hfr : freeOp o.op with
  | false =>
   have hpa : anchAt P ops p = true := by unfold anchAt; rw [ho]; simp [hl', hfr]
   rw [if_neg hl] at hcase
   obtain ⟨Hb, hLb, hv⟩ := hcase
   have hRp : R ≤ hcount P ops p := by
    rcases Nat.lt_or_ge (hcount P ops p) R with h | h
    ·rw [(inv.anch p hpn hpa).2 h] at hp1; cases hp1
    ·exact h
   obtain ⟨d, hd⟩ : ∃ d, R + d = hcount P ops p := ⟨hcount P ops p - R, by omega⟩
   obtain ⟨φ1, χ1, H1, pk1, inv1⟩ := zasd ran hnx d R φ χ H pk inv (by omega) fun i hi ha hge => by
    rcases Nat.lt_or_ge (hcount P ops i) (R + d) with h | h
    ·exfalso
     have hip : i < p := by
      rcases Nat.lt_or_ge i p with h1 | h1
      ·exact h1
      ·have := zagd (P := P) (ops := ops) h1; omega
     obtain ⟨x, hx⟩ : ∃ x, ops[i]? = some x := ⟨_, Array.getElem?_eq_getElem hi⟩
     have hxa : light P x.op = false ∧ freeOp x.op = false := by
      unfold anchAt at ha
      rw [hx] at ha
      simpa using ha
     have hli : listed.getD i false = true := by
      rcases (zaf4 (d3 i x hip hx)).1 with h | ⟨_, _, h⟩
      ·exact hah i hi h
      ·rw [hxa.1, hxa.2, hl', hfr] at h
       rcases h with h | h | h | h <;> cases h
     have := (inv.anch i hi ha).1 hli
     omega
    ·exact h
   rw [hd] at inv1
   have hH1 : H1 = Ha := by have := inv1.hH; rw [hLa] at this; exact (Option.some.inj this).symm
   subst hH1
   have nm : ∀ t, t ∈ tmpsOf ops o → VR φ1 (eget (es p) t) (a.tmps.getD t undef) := by
    intro t ht
    rcases names inv1 t ht with h | ⟨q, k, cs, x, h1, h2, h3, h4, h5⟩
    ·exact h
    ·obtain ⟨g1, g2, g3, g4, i, e, c, mk, g5, g6⟩ := inv1.pkS q k cs h1
     have := zadb (P := P) (ops := ops) h2 g5.heavy
     omega
   refine zafw (K := K) (w0 := ⟨w0.w, Zof P ops es vs L w0 pk1, Yof P ops es vs L w0 (hcount P ops p) listed⟩) hK inv1.rel hv (mkρ nm) (mkg nm) ?_
   intro ψ v' w' hψ hvr hR'
   obtain ⟨χ', inv'⟩ := zaob (R' := hcount P ops p + 1) hok hnx ran hdst inv1 ho hfr hah hbe (by omega) (by omega) hLb (fun q i e c mk hq => by
    have hne : hcount P ops q ≠ hcount P ops p := fun e => by
     have := zaiw hq.heavy hph e
     subst this
     obtain ⟨x, hx, hf⟩ := hq.free
     rw [ho] at hx; cases hx
     rw [hfr] at hf; cases hf
    omega) (fun i hi ha => by
    rw [zaax hpl]
    by_cases hip : i = p
    ·subst hip; rw [if_pos rfl]; simp
    ·rw [if_neg hip, inv1.anch i hi ha]
     have hne : hcount P ops i ≠ hcount P ops p := fun e => hip (zaiw (zaih ha) hph e)
     omega) hψ hvr hR'
   exact hn _ _ ⟨_, ψ, χ', Hb, pk1, inv'⟩
  | true =>
   rcases zalq ran ho hfr with ⟨hw, hv, _⟩ | ⟨i, e, c, mk, hpu⟩
   ·have nm : ∀ t, t ∈ tmpsOf ops o → VR χ (eget (es p) t) (a.tmps.getD t undef) := by
     intro t ht
     rcases names inv t ht with h | ⟨q, k, cs, x, h1, h2, h3, h4, h5⟩
     ·exact h.mono inv.le
     ·obtain ⟨g1, g2, g3, g4, i, e, c, mk, g5, g6, _⟩ := inv.pkS q k cs h1
      exact h5 χ i e c mk g5 g6
    rw [zag2 hw (mkg nm)]
    simp only [Bool.false_eq_true, if_false]
    exact hn _ _ ⟨R, φ, χ, H, pk, zalr hok ran hdst inv ho hfr hah hbe hw hv⟩
   ·obtain ⟨o', Ha', k1, k2, k3, k4, k5, k6, k7, k8⟩ := id hpu
    rw [ho] at k1; cases k1
    rcases Nat.lt_or_ge (hcount P ops p) R with hlt | hge
    ·have nm : ∀ t, t ∈ tmpsOf ops o → VR φ (eget (es p) t) (a.tmps.getD t undef) := by
      intro t ht
      rcases names inv t ht with h | ⟨q, k, cs, x, h1, h2, h3, h4, h5⟩
      ·exact h
      ·obtain ⟨g1, g2, g3, g4, i, e, c, mk, g5, g6⟩ := inv.pkS q k cs h1
       have := zadb (P := P) (ops := ops) h2 g5.heavy
       omega
     refine zaoa (mkρ nm) (mkg nm) k5 k6 fun cs mk' h2 h3 h4 => ?_
     obtain ⟨φ', χ', inv'⟩ := zavj hok hnx ran hdst hL0 hY0 inv ho hfr hah hbe hp1 hpu hlt h2 h3 h4
     exact hn _ _ ⟨R, φ', χ', H, pk, inv'⟩
    ·have hgi := hpu.ge hnx hge inv.hH
     have nm : ∀ t, t ∈ tmpsOf ops o → VR (χ.cut i) (eget (es p) t) (a.tmps.getD t undef) := by
      intro t ht
      rcases names inv t ht with h | ⟨q, k, cs, x, h1, h2, h3, h4, h5⟩
      ·refine h.mono fun j m hj => ?_
       unfold Plan.cut
       rw [if_pos, inv.le j m hj]
       rcases Nat.lt_or_ge j H.next with h6 | h6
       ·omega
       ·rw [inv.rel.dom j h6] at hj; cases hj
      ·obtain ⟨g1, g2, g3, g4, i', e', c', mk1, g5, g6, _⟩ := inv.pkS q k cs h1
       refine h5 _ i' e' c' mk1 g5 ?_
       unfold Plan.cut
       rw [if_pos (g5.ord hpu hnx h2), g6]
     refine zaoa (mkρ nm) (mkg nm) k5 k6 fun cs mk' h2 h3 h4 => ?_
     obtain ⟨χ', pk', inv'⟩ := zavl hok hnx ran hdst inv ho hfr hah hbe hp1 hpu hge h2 h3 h4
     exact hn _ _ ⟨R, φ, χ', H, pk', inv'⟩
theorem zaz2 (hK : KSound P B w0.w K) (hok : drawOk2 P ops = true) (hnx : nextsOk L = true) {H0 : Hp} (hL0 : L[0]? = some H0) (hY0 : ∀ i b, w0.Y i b → i < H0.next)
    (ran : Ran P K ops 0 ops.size es vs L 0 rs) (hlen : L.length = hcount P ops ops.size + 1) (hrs : ∀ x ∈ rs, recOk2 P ops L x = true) (hdst : ∀ (i : Nat) (o : Oper) (d : Nat), ops[i]? = some o → o.dst = some d → d < N)
    {H' : Hp} (hlast : L[hcount P ops ops.size]? = some H') {Q : Exit → Act → World → Prop} (hq : ∀ a w, Goes B w0 N φ0 (es ops.size) H' a w → Q .normal a w) :
    ∀ (fuel : Nat) (listed : Array Bool) (a : Act) (w : World), unlisted ops listed ≤ fuel → I2 P ops B w0 N φ0 es vs L listed a w → wpAny P .any ops Q fuel listed a w := by
 have fin : ∀ (listed : Array Bool) (a : Act) (w : World), I2 P ops B w0 N φ0 es vs L listed a w → Region.ready .any ops listed = [] → Q .normal a w := by
  intro listed a w inv hnil
  have all : ∀ n j, j < n → j < ops.size → listed.getD j false = true := by
   have ls := inv.lsize
   intro n
   induction n with
   | zero => intro j h; omega
   | succ n ih =>
    intro j hj hjn
    rcases Nat.lt_or_ge j n with h | h
    ·exact ih j h hjn
    ·cases hl : listed.getD j false with
     | true => rfl
     | false =>
      obtain ⟨o, ho⟩ : ∃ o, ops[j]? = some o := ⟨_, Array.getElem?_eq_getElem hjn⟩
      have : j ∈ Region.ready .any ops listed := mem_ready.2 ⟨by rw [zac6 (by rw [inv.lsize]; exact hjn)]; exact hl, o, ho, fun e he hb => by
       have := (zafd hok ho).1 e he hb
       exact ih e.on (by omega) (by omega)⟩
      rw [hnil] at this; cases this
  obtain ⟨R, φ, χ, H, pk, inv⟩ := inv
  have hlisted : ∀ i, i < ops.size → listed.getD i false = true := fun i hi => all ops.size i hi hi
  obtain ⟨d, hd⟩ : ∃ d, R + d = hcount P ops ops.size := ⟨hcount P ops ops.size - R, by have := inv.hR; omega⟩
  obtain ⟨φ', χ', H1, pk', inv'⟩ := zasd ran hnx d R φ χ H pk inv (by omega) fun i hi ha hge => by
   have := (inv.anch i hi ha).1 (hlisted i hi)
   omega
  rw [hd] at inv'
  have hH1 : H1 = H' := by have := inv'.hH; rw [hlast] at this; exact (Option.some.inj this).symm
  subst hH1
  have nopk : ∀ p k cs, pk' p ≠ some (k, cs) := by
   intro p k cs h
   obtain ⟨g1, g2, g3, g4, i, e, c, mk, g5, g6⟩ := inv'.pkS p k cs h
   obtain ⟨o, ho, hf⟩ := g5.free
   have := zadb (P := P) (ops := ops) (Array.getElem?_eq_some_iff.1 ho).1 g5.heavy
   omega
  refine hq a w ⟨φ', inv'.le0, ⟨fun t => ?_, inv'.size, inv'.defers, ?_⟩⟩
  ·rcases inv'.env t ops.size (Nat.le_refl _) (fun i o hi ho _ => hlisted i hi) (fun i o hi ho _ => by have := (Array.getElem?_eq_some_iff.1 ho).1; omega) with h | ⟨q, k, cs, o, h1, _⟩
   ·exact h
   ·exact absurd h1 (nopk _ _ _)
  ·refine inv'.rel.congr rfl (fun k x h => .inl h) fun i x => ?_
   constructor
   ·rintro (h | ⟨q, e, c, mk, h1, h2, h3, h4⟩)
    ·exact h
    ·obtain ⟨o, ho, hf⟩ := h1.free
     rw [hlisted q (Array.getElem?_eq_some_iff.1 ho).1] at h3; cases h3
   ·exact .inl
 intro fuel
 induction fuel with
 | zero =>
  intro listed a w hu inv
  have hnil : Region.ready .any ops listed = [] := by
   cases hr : Region.ready .any ops listed with
   | nil => rfl
   | cons j l =>
    have hj : j ∈ Region.ready .any ops listed := by rw [hr]; simp
    rw [mem_ready] at hj
    obtain ⟨h0, o, ho, _⟩ := hj
    have hjn : j < ops.size := (Array.getElem?_eq_some_iff.1 ho).1
    rw [zac6 (by rw [inv.lsize]; exact hjn)] at h0
    have : j ∈ (List.range ops.size).filter fun i => !listed.getD i false := by
     exact List.mem_filter.2 ⟨List.mem_range.2 hjn, by rw [h0]; rfl⟩
    unfold unlisted at hu
    have h2 : ((List.range ops.size).filter fun i => !listed.getD i false) = [] := List.length_eq_zero_iff.1 (by omega)
    rw [h2] at this; cases this
  exact ⟨hnil, fin listed a w inv hnil⟩
 | succ fuel ih =>
  intro listed a w hu inv
  refine ⟨fun hnil => fin listed a w inv hnil, fun p hp => ?_⟩
  refine zavm hK hok hnx hL0 hY0 ran hlen hrs hdst inv hp fun a' w' inv' => ih _ a' w' ?_ inv'
  rw [mem_ready] at hp
  obtain ⟨h0, o, ho, _⟩ := hp
  have hpn : p < ops.size := (Array.getElem?_eq_some_iff.1 ho).1
  have hpl : p < listed.size := by rw [inv.lsize]; exact hpn
  rw [zac6 hpl] at h0
  have := zan8 (fun i => !listed.getD i false) (fun i => !(listed.setIfInBounds p true).getD i false) (List.range ops.size) (fun x _ hx => by
   rw [zaax hpl] at hx
   split at hx
   ·cases hx
   ·exact hx) (List.mem_range.2 hpn) (by simp [h0]) (by rw [zaax hpl]; simp)
  unfold unlisted at hu ⊢
  omega
end
section
variable {P : Program} {B : Nat} {w0 : Base} {K : CallFn} {ops : Array Oper}
theorem zanl (hK : KSound P B w0.w K) (hm : P.follows .mixedOrders = true) {id : Nat} {draw : Bool} {N : Nat} {φ : Plan} {e e' : Env} {H H' : Hp} {a : Act} {w : World} (h : runRegion P K ops draw e H = some (e', H'))
    (hdst : ∀ o ∈ ops.toList, ∀ d, o.dst = some d → d < N) (hs : St B w0 N φ e H a w) {Q : Exit → Act → World → Prop} (hq : ∀ a w, Goes B w0 N φ e' H' a w → Q .normal a w) : (Code.region id ops draw).wp P Q a w := by
 unfold runRegion at h
 cases draw with
 | false =>
  simp only [Bool.false_eq_true, if_false] at h
  exact wp_region_list (zamf hK ops.toList φ e H a w e' H' h hdst hs hq)
 | true =>
  simp only [if_true] at h
  split at h
  ·rename_i hok
   simp only [Option.bind_eq_some_iff] at h
   obtain ⟨r, hr, h⟩ := h
   split at h
   ·rename_i hall
    simp only [Option.map_eq_some_iff] at h
    obtain ⟨H1, hhd, h⟩ := h
    simp only [Prod.mk.injEq] at h
    obtain ⟨he', hH1⟩ := h
    subst hH1
    subst he'
    rw [List.range_eq_range'] at hr
    obtain ⟨es, vs, Ht, e1, e2, e3, e4, e5, ran⟩ := zaid ops.size 0 e H [] [] r hr
    rw [Nat.zero_add] at e2 e4 ran
    have h0 : hcount P ops 0 = 0 := rfl
    rw [h0, Nat.sub_zero] at e4
    have hlen : r.2.1.reverse.length = hcount P ops ops.size + 1 := by rw [e3]; simp [e4]
    have hlast : r.2.1.reverse[hcount P ops ops.size]? = some H1 := by
     rw [List.getElem?_reverse (by rw [← List.length_reverse]; omega)]
     have : r.2.1.length - 1 - hcount P ops ops.size = 0 := by rw [← List.length_reverse]; omega
     rw [this, ← List.head?_eq_getElem?]
     exact hhd
    have hfirst : r.2.1.reverse[0]? = some H := by rw [e3]; simp
    refine wp_region_any hm (za16 hK hok ran hlen (fun x hx => List.all_eq_true.1 hall x hx) (fun i o d ho hd => hdst o (by simpa using Array.mem_of_getElem? ho) d hd) hlast (φ0 := φ) (N := N) ?_ ops.size _ a _ ?_ ?_)
    ·intro a w hg
     rw [← e2] at hg
     exact hq a w hg
    ·unfold unlisted
     exact Nat.le_trans (List.length_filter_le _ _) (by simp)
    ·refine ⟨by simp, fun i j _ hj => ?_, ⟨0, φ, H, Nat.zero_le _, hfirst, Plan.le_refl φ, hs.rel.drawn _, fun i hi _ => ?_, fun t j hj h1 h2 => ?_⟩, hs.size, hs.defers⟩
     ·simp [Array.getD_eq_getD_getElem?, Array.getElem?_replicate] at hj
      split at hj <;> simp_all
     ·simp [Array.getD_eq_getD_getElem?, Array.getElem?_replicate, hi]
     ·have : eget (es j) t = eget (es 0) t := by
       have := zalo ran (t := t) 0 j (by omega) (fun q o hq1 hq2 ho hd => by
        have := h1 q o (by omega) ho hd
        simp [Array.getD_eq_getD_getElem?, Array.getElem?_replicate] at this
        split at this <;> simp_all)
       simpa using this
      rw [this, e1]
      exact hs.env t
   ·cases h
  ·split at h
   ·rename_i hok
    simp only [Option.bind_eq_some_iff] at h
    obtain ⟨r, hr, h⟩ := h
    split at h
    ·rename_i hall
     rw [Bool.and_eq_true] at hall
     simp only [Option.map_eq_some_iff] at h
     obtain ⟨H1, hhd, h⟩ := h
     simp only [Prod.mk.injEq] at h
     obtain ⟨he', hH1⟩ := h
     subst hH1
     subst he'
     rw [List.range_eq_range'] at hr
     obtain ⟨es, vs, Ht, e1, e2, e3, e4, e5, ran⟩ := zaid ops.size 0 e H [] [] r hr
     rw [Nat.zero_add] at e2 e4 ran
     have h0 : hcount P ops 0 = 0 := rfl
     rw [h0, Nat.sub_zero] at e4
     have hlen : r.2.1.reverse.length = hcount P ops ops.size + 1 := by rw [e3]; simp [e4]
     have hlast : r.2.1.reverse[hcount P ops ops.size]? = some H1 := by
      rw [List.getElem?_reverse (by rw [← List.length_reverse]; omega)]
      have : r.2.1.length - 1 - hcount P ops ops.size = 0 := by rw [← List.length_reverse]; omega
      rw [this, ← List.head?_eq_getElem?]
      exact hhd
     have hfirst : r.2.1.reverse[0]? = some H := by rw [e3]; simp
     refine wp_region_any hm (zaz2 hK hok (by simpa using hall.1) hfirst (fun i b hb => (hs.rel.hole i b hb).1) ran hlen (fun x hx => List.all_eq_true.1 hall.2 x hx) (fun i o d ho hd => hdst o (by simpa using Array.mem_of_getElem? ho) d hd) hlast (φ0 := φ) (N := N) ?_ ops.size _ a _ ?_ ?_)
     ·intro a w hg
      rw [← e2] at hg
      exact hq a w hg
     ·unfold unlisted
      exact Nat.le_trans (List.length_filter_le _ _) (by simp)
     ·have hl0 : ∀ i, (Array.replicate ops.size false).getD i false = false := by
       intro i
       simp only [Array.getD_eq_getD_getElem?, Array.getElem?_replicate]
       split <;> rfl
      refine ⟨0, φ, φ, H, fun _ => none, by simp, fun i j _ hj => ?_, hs.size, hs.defers, Nat.zero_le _, hfirst, Plan.le_refl φ, (hs.rel.drawn _).congr rfl ?_ ?_, fun i hi _ => ?_, fun p k cs h => (by cases h), fun p i e c mk _ _ hl => ?_, fun p q k cs cs' h _ => (by cases h), Plan.le_refl φ, fun i m h => .inl h, fun t j hj h1 h2 => .inl ?_⟩
      ·rw [hl0] at hj; cases hj
      ·rintro k x (h | ⟨p, cs, i, e, c, mk, h1, _⟩)
       ·exact h
       ·cases h1
      ·intro i x
       constructor
       ·exact .inl
       ·rintro (h | ⟨p, e, c, mk, h1, h2, _⟩)
        ·exact h
        ·exact absurd h2 (by omega)
      ·rw [hl0]; constructor
       ·intro h; cases h
       ·intro h; exact absurd h (by omega)
      ·rw [hl0] at hl; cases hl
      ·have : eget (es j) t = eget (es 0) t := by
        have := zalo ran (t := t) 0 j (by omega) (fun q o hq1 hq2 ho hd => by
         have := h1 q o (by omega) ho hd
         rw [hl0] at this; cases this)
        simpa using this
       rw [this, e1]
       exact hs.env t
    ·cases h
   ·cases h
end
end Go.Proofs.YtliemjbafgnnbaaDoor.Abs
