/- Nodes: how deep, which are the same. -/
import Derived.Test.YtliemjbafgnnbaaDoorML3
import Derived.Test.YtliemjbafgnnbaaDoorPW29
set_option maxHeartbeats 0
set_option linter.defProp false
set_option linter.unnecessarySimpa false
set_option linter.unusedSimpArgs false
set_option linter.unusedVariables false
set_option maxRecDepth 4000
namespace Go.Proofs.YtliemjbafgnnbaaDoor.Abs
open Go
def zas2 := And.intro (@val31) (@vfk12)
def zas8 := And.intro (And.intro (And.intro (And.intro (@vld29) (@vgt29)) (And.intro (@vld31) (@vgt31))) (And.intro (And.intro (@vst31) (@zaph)) (And.intro (@zapo) (@vix29)))) (And.intro (And.intro (And.intro (@vio29) (@vis29)) (And.intro (@viw29) (@vlr29))) (And.intro (And.intro (@vlo29) (@vlz29)) (And.intro (@vls29) (And.intro (@vlw29) (@Tryd.results12)))))
attribute [local irreducible] Hold VReg Vf Vc VWP With VStp Vcallee Vp VE SeqK BlkK FinK NormK
mutual
theorem Nd.ind_aux {p : Nd → Prop} (h : ∀ k op nm x c t z kids, (∀ a ∈ kids, p a) → p (.mk k op nm x c t z kids)) : ∀ x : Nd, p x
 | .mk k op nm x c t z kids => h k op nm x c t z kids (Nd.ind_list h kids)
theorem Nd.ind_list {p : Nd → Prop} (h : ∀ k op nm x c t z kids, (∀ a ∈ kids, p a) → p (.mk k op nm x c t z kids)) : ∀ l : List Nd, ∀ a ∈ l, p a
 | [], a, ha => absurd ha List.not_mem_nil
 | b :: l, a, ha => by
  rcases List.mem_cons.1 ha with e | ha
  ·rw [e]; exact Nd.ind_aux h b
  ·exact Nd.ind_list h l a ha
end
theorem Nd.ind {p : Nd → Prop} (h : ∀ k op nm x c t z kids, (∀ a ∈ kids, p a) → p (.mk k op nm x c t z kids)) (x : Nd) : p x := Nd.ind_aux h x
mutual
def Nd.count : Nd → Nat
 | .mk _ _ _ _ _ _ _ kids => Nd.counts kids + 1
def Nd.counts : List Nd → Nat
 | [] => 0
 | a :: l => a.count + Nd.counts l
end
theorem zaln (l m : List Nd) : Nd.counts (l ++ m) = Nd.counts l + Nd.counts m := by
 induction l with
 | nil => simp [Nd.counts]
 | cons a l ih => simp only [List.cons_append, Nd.counts, ih]; omega
theorem zam4 {l : List Nd} {a : Nd} (h : a ∈ l) : a.count ≤ Nd.counts l := by
 induction l with
 | nil => cases h
 | cons b l ih =>
  simp only [Nd.counts]
  rcases List.mem_cons.1 h with rfl | h
  ·omega
  ·have := ih h; omega
theorem zau2 (x : Nd) : 1 ≤ x.count := by cases x; simp [Nd.count]
theorem zafy (l : List Nd) : l.length ≤ Nd.counts l := by
 induction l with
 | nil => simp [Nd.counts]
 | cons a l ih => simp only [Nd.counts, List.length_cons]; have := zau2 a; omega
mutual
theorem zap5 : ∀ x : Nd, x.depth ≤ x.count
 | .mk _ _ _ _ _ _ _ kids => by simp only [Nd.depth, Nd.count]; have := zafc kids; omega
theorem zafc : ∀ l : List Nd, Nd.deepest l ≤ Nd.counts l
 | [] => Nat.le_refl _
 | a :: l => by simp only [Nd.deepest, Nd.counts]; have := zap5 a; have := zafc l; omega
end
def Gl.had : Gl → Nat
 | .rest _ x => x.count
 | .args _ kids => Nd.counts kids + 1
 | _ => 0
theorem zajq {T : List TK} {fin : Nat} {sh : ByteArray} {n ahead : Nat} {x : Nd} {m : Nat} (h : cellG T fin sh n ahead = .ok (x, m)) : x.count = 1 := by
 unfold cellG at h
 split at h
 ·cases h
 ·split at h
  ·split at h
   ·split at h
    ·cases h; rfl
    ·cases h
   ·cases h
  ·cases h; rfl
theorem Pr.count {T : List TK} {fin : Nat} {sh : ByteArray} {g : Gl} {n : Nat} {r : Except Nat (Nd × Nat)} (h : Pr T fin sh g n r) : ∀ x m, r = .ok (x, m) → x.count + n ≤ g.had + m := by
 induction h with
 | top h ih => exact ih
 | pairs hr h1 h2 ih1 ih2 =>
  intro x m e
  have a := ih1 _ _ rfl
  have b := ih2 _ _ e
  simp only [Gl.had] at a b ⊢
  omega
 | restN hr h => intro x m e; cases e; simp only [Gl.had]; omega
 | restO hr h h1 h2 ih1 ih2 =>
  intro x m e
  have a := ih1 _ _ rfl
  have b := ih2 _ _ e
  simp only [Gl.had, Nd.pair, Nd.count, Nd.counts] at a b ⊢
  omega
 | minusN h h1 ih => exact ih
 | minusO h h1 ih =>
  intro x m e
  cases e
  have a := ih _ _ rfl
  simp only [Gl.had, Nd.neg, Nd.count, Nd.counts] at a ⊢
  omega
 | num => intro x m e; cases e; simp only [Gl.had, Nd.val, Nd.count, Nd.counts]; omega
 | text => intro x m e; cases e; simp only [Gl.had, Nd.val, Nd.count, Nd.counts]; omega
 | yes => intro x m e; cases e; simp only [Gl.had, Nd.val, Nd.count, Nd.counts]; omega
 | no => intro x m e; cases e; simp only [Gl.had, Nd.val, Nd.count, Nd.counts]; omega
 | lost => intro x m e; cases e; simp only [Gl.had, Nd.bad, Nd.count, Nd.counts]; omega
 | call ht hk hc h h1 ih =>
  intro x m e
  have a := ih _ _ e
  simp only [Gl.had, Nd.counts] at a ⊢
  omega
 | word => intro x m e; have := zakn e; have := zajq e; simp only [Gl.had]; omega
 | name => intro x m e; have := zakn e; have := zajq e; simp only [Gl.had]; omega
 | par h h1 h2 ih => intro x m e; cases e; have a := ih _ _ rfl; simp only [Gl.had] at a ⊢; omega
 | args0 h => intro x m e; cases e; simp only [Gl.had, Nd.call, Nd.count, Nd.counts]; omega
 | argsZ hk h1 h2 ih =>
  intro x m e
  cases e
  have a := ih _ _ rfl
  simp only [Gl.had, Nd.call, Nd.count, zaln, Nd.counts] at a ⊢
  omega
 | argsC hk h1 h2 h3 hl h4 ih1 ih2 =>
  intro x m e
  have a := ih1 _ _ rfl
  have b := ih2 _ _ e
  simp only [Gl.had, zaln, Nd.counts] at a b ⊢
  omega
 | _ => intro x m e; cases e
theorem nvs_at {l : List Nd} {i : Nat} (h : i < l.length) : (Nd.vs l)[i]? = some (.agg ⟨l[i].cs⟩) := by rw [nd_vs]; simp [h]
theorem zam6 {l : List Nd} {i : Nat} (h : i < l.length) : Nd.deepest (l.take (i + 1)) = max (Nd.deepest (l.take i)) l[i].depth := by
 induction l generalizing i with
 | nil => simp at h
 | cons a l ih =>
  cases i with
  | zero => simp [Nd.deepest]
  | succ i =>
   simp only [List.take_succ_cons, Nd.deepest, List.getElem_cons_succ]
   rw [ih (by simpa using h)]
   omega
section
variable {X : VOuter}
theorem za14 (hX : X 12 = none) (x : Nd) : x.count ≤ 50000 → Vp Tryd.prog X 12 [.agg ⟨x.cs⟩] (.int .i64 x.depth) := by
 induction x using Nd.ind with
 | h k op nm v c t z kids ih =>
  intro hc
  simp only [Nd.count] at hc
  have hlc := zafy kids
  unfold Vp
  refine zaao hX Tryd.func12 rfl (by kernel_rfl) (by show 1 ≤ _; decide) ?_
  have hcs : (Nd.mk k op nm v c t z kids).cs = [.int .i64 k, .string op, .string nm, .int .i64 v.k, .int .i64 v.n, .string v.s, .string c.s, .int .i64 c.c, .int .i64 c.r, .string t.s, .int .i64 t.c, .int .i64 t.r, sl z 0 13 (Nd.vs kids)] := by simp [Nd.cs]
  rw [hcs]
  simp -dsimp only [↓kpre, kpost, light, ret1, cellF, afill, setAll, simprocAttr, ↓zas2, zas8, ndl, ne_eq, not_false_eq_true, zaaa, and_false, if_false, zaae]
  refine zagn (fun m e S => ∃ (i : Nat) (J : List Blk), m = kids.length - i ∧ i ≤ kids.length ∧ eget e 3 = .int .i64 (Nd.deepest (kids.take i) : Nat) ∧ eget e 7 = sl z 0 13 (Nd.vs kids) ∧ eget e 8 = .int .i64 kids.length ∧ eget e 9 = .int .i64 i ∧ S = ⟨[], J, []⟩) kids.length ?_ ?_
  ·refine ⟨0, _, rfl, Nat.zero_le _, ?_, ?_, ?_, ?_, rfl⟩
   ·simp only [↓epre, epost, simprocAttr]
    try rfl
   ·simp only [↓epre, epost, simprocAttr]
   ·simp only [↓epre, epost, simprocAttr, zadd]
   ·simp only [↓epre, epost, simprocAttr]
    try rfl
  ·rintro m e S ⟨i, J, rfl, hi, e3, e7, e8, e9, rfl⟩
   refine VWP_Vc _ _ _ _ ?_
   by_cases hin : i < kids.length
   ·have hlt : (i : Int) < kids.length := by omega
    have h0 : (0 : Int) ≤ i := by omega
    have hx := nvs_at hin
    have hwr : IntKind.i64.wrap ((i : Int) + 1) = ((i + 1 : Nat) : Int) := zabu (by omega) (by omega)
    have hnx := zam6 hin
    have hmem : kids[i] ∈ kids := List.getElem_mem hin
    have hcl := zam4 hmem
    have dc := fun S K => zaac (S := S) (K := K) (args := [.agg ⟨kids[i].cs⟩]) (args' := [.agg ⟨kids[i].cs⟩]) (ih kids[i] hmem (by omega)) (by simp only [zaal, zabf, zac2, zal0]) (by simp only [zaee, zaf2, zae1, nd_okv, Bool.and_true]) rfl
    generalize kids[i] = a at hx hnx dc
    have am : ∀ p q : Nat, amax (.int .i64 (p : Int)) (.int .i64 (q : Int)) = some (.int .i64 ((max p q : Nat) : Int)) := fun p q => by
     simp only [amax]
     by_cases hpq : p ≤ q
     ·rw [Nat.max_eq_right hpq]; simp; omega
     ·rw [Nat.max_eq_left (by omega)]; simp; omega
    simp -dsimp only [↓kpre, kpost, light, ret1, cellF, afill, setAll, simprocAttr, ↓zas2, zas8, ndl, ne_eq, not_false_eq_true, zaaa, and_false, if_false, zaae, e3, e7, e8, e9, hlt, h0, hx, hwr, ↓dc, am]
    exact ⟨kids.length - (i + 1), by omega, i + 1, _, rfl, by omega, by rw [hnx], rfl, rfl⟩
   ·obtain rfl : i = kids.length := by omega
    have hlt : ¬ ((kids.length : Int) < kids.length) := by omega
    rw [List.take_length] at e3
    have hd := zafc kids
    have hwr : IntKind.i64.wrap ((Nd.deepest kids : Int) + 1) = ((Nd.deepest kids + 1 : Nat) : Int) := by
     rw [show (Nd.deepest kids : Int) + 1 = ((Nd.deepest kids + 1 : Nat) : Int) by omega]; exact zabt (by omega) (by omega)
    simp -dsimp only [↓kpre, kpost, light, ret1, cellF, afill, setAll, simprocAttr, ↓zas2, zas8, ndl, ne_eq, not_false_eq_true, zaaa, and_false, if_false, zaae, e3, e7, e8, e9, hlt, hwr]
    simp [Nd.depth]
def eqV (x y : VV) : Bool := decide (x.k = y.k) && (decide (x.n = y.n) && decide (x.s = y.s))
theorem za23 (ka na : Int) (sa : ByteArray) (kb nb : Int) (sc : ByteArray) : aeq Tryd.prog 20 26 (.agg #[.int .i64 ka, .int .i64 na, .string sa]) (.agg #[.int .i64 kb, .int .i64 nb, .string sc]) = some (eqV ⟨ka, na, sa⟩ ⟨kb, nb, sc⟩) := by
 have e : aeq Tryd.prog 20 26 (.agg #[.int .i64 ka, .int .i64 na, .string sa]) (.agg #[.int .i64 kb, .int .i64 nb, .string sc]) = (if (ka == kb) = true then (if (na == nb) = true then (if (sa.toList == sc.toList) = true then some true else some false) else some false) else some false) := by kernel_rfl
 have h : (sa.toList == sc.toList) = decide (sa = sc) := by
  rw [Bool.eq_iff_iff]
  simp only [beq_iff_eq, decide_eq_true_eq]
  exact ⟨zaij, fun h => by rw [h]⟩
 rw [e, h, ibeq, ibeq]
 unfold eqV
 by_cases h1 : ka = kb <;> by_cases h2 : na = nb <;> by_cases h3 : sa = sc <;> simp [h1, h2, h3]
theorem val_ne (x y : Operand) (ka na : Int) (sa : ByteArray) (kb nb : Int) (sc : ByteArray) : vbin Tryd.prog .neq 26 x y (.agg ⟨[.int .i64 ka, .int .i64 na, .string sa]⟩) (.agg ⟨[.int .i64 kb, .int .i64 nb, .string sc]⟩) = some (.bool (!eqV ⟨ka, na, sa⟩ ⟨kb, nb, sc⟩)) := by
 rw [zaty _ _ _ _ _ rfl rfl]
 exact zanz rfl rfl (by kernel_rfl) (za23 ka na sa kb nb sc)
end
end Go.Proofs.YtliemjbafgnnbaaDoor.Abs
/- Nodes: the same; what is right is told so. -/
namespace Go.Proofs.YtliemjbafgnnbaaDoor.Abs
open Go
attribute [local irreducible] Hold VReg Vf Vc VWP With VStp Vcallee Vp VE SeqK BlkK FinK NormK
def pZLK_7 := @vfk7
def qZLK_7 := And.intro (And.intro (And.intro (And.intro (And.intro (@vld3) (@vgt3)) (And.intro (@vld9) (@vgt9))) (And.intro (And.intro (@vld26) (@vgt26)) (And.intro (@vld28) (And.intro (@vgt28) (@vld29))))) (And.intro (And.intro (And.intro (@vgt29) (@vld31)) (And.intro (@vgt31) (@zaxy))) (And.intro (And.intro (@zax9) (@zaxz)) (And.intro (@zaya) (And.intro (@za25) (@za3g)))))) (And.intro (And.intro (And.intro (And.intro (@za26) (@za3h)) (And.intro (@za27) (@za3i))) (And.intro (And.intro (@za28) (@za3j)) (And.intro (@zaph) (And.intro (@zapo) (@vix29))))) (And.intro (And.intro (And.intro (@vio29) (@vis29)) (And.intro (@viw29) (@vlr29))) (And.intro (And.intro (@vlo29) (@vlz29)) (And.intro (@vls29) (And.intro (@vlw29) (@Tryd.results7))))))
theorem mk_cs (k : Int) (op nm : ByteArray) (v : VV) (c t : CC) (z : Bool) (kids : List Nd) : (Nd.mk k op nm v c t z kids).cs = [.int .i64 k, .string op, .string nm, .int .i64 v.k, .int .i64 v.n, .string v.s, .string c.s, .int .i64 c.c, .int .i64 c.r, .string t.s, .int .i64 t.c, .int .i64 t.r, sl z 0 13 (Nd.vs kids)] := by simp [Nd.cs]
theorem zatb {l m : List Nd} {i : Nat} (h : i < l.length) (h2 : i < m.length) : Nd.sames (l.take (i + 1)) (m.take (i + 1)) = (Nd.sames (l.take i) (m.take i) && l[i].same m[i]) := by
 induction l generalizing i m with
 | nil => simp at h
 | cons a l ih =>
  cases m with
  | nil => simp at h2
  | cons b m =>
   cases i with
   | zero => simp [Nd.sames]
   | succ i =>
    simp only [List.take_succ_cons, Nd.sames, List.getElem_cons_succ]
    rw [ih (by simpa using h) (by simpa using h2), Bool.and_assoc]
theorem zav0 {l m : List Nd} {i : Nat} (h : i < l.length) (h2 : i < m.length) (hs : l[i].same m[i] = false) : Nd.sames l m = false := by
 induction l generalizing i m with
 | nil => simp at h
 | cons a l ih =>
  cases m with
  | nil => simp at h2
  | cons b m =>
   cases i with
   | zero => simp only [List.getElem_cons_zero] at hs; simp [Nd.sames, hs]
   | succ i =>
    simp only [List.getElem_cons_succ] at hs
    simp only [Nd.sames, ih (by simpa using h) (by simpa using h2) hs, Bool.and_false]
theorem zav1 {l m : List Nd} (h : l.length ≠ m.length) : Nd.sames l m = false := by
 induction l generalizing m with
 | nil => cases m with
  | nil => simp at h
  | cons b m => rfl
 | cons a l ih => cases m with
  | nil => rfl
  | cons b m => simp only [Nd.sames, ih (by simpa using h), Bool.and_false]
section
variable {X : VOuter}
theorem za2t (hX : X 7 = none) (x : Nd) : ∀ y : Nd, x.count ≤ 50000 → y.count ≤ 50000 → Vp Tryd.prog X 7 [.agg ⟨x.cs⟩, .agg ⟨y.cs⟩] (.bool (x.same y)) := by
 induction x using Nd.ind with
 | h k op nm v c t z kids ih =>
  intro y hc hy
  obtain ⟨k', op', nm', v', c', t', z', kids'⟩ := y
  simp only [Nd.count] at hc hy
  have hlc := zafy kids
  have hlc' := zafy kids'
  unfold Vp
  refine zaao hX Tryd.func7 rfl (by kernel_rfl) (by show 2 ≤ _; decide) ?_
  rw [mk_cs, mk_cs]
  simp only [Nd.same]
  by_cases h1 : k = k'
  ·by_cases h2 : op = op'
   ·by_cases h3 : nm = nm'
    ·cases h4 : eqV v v' with
     | false =>
      have h4' : (decide (v.k = v'.k) && (decide (v.n = v'.n) && decide (v.s = v'.s))) = false := h4
      simp -dsimp only [↓kpre, kpost, light, ret1, cellF, afill, setAll, simprocAttr, ↓pZLK_7, qZLK_7, ndl, ne_eq, not_false_eq_true, zaaa, and_false, if_false, zaae, h1, zac9, h2, h3, val_ne, h4]
      simp [h4']
     | true =>
      have h4' : (decide (v.k = v'.k) && (decide (v.n = v'.n) && decide (v.s = v'.s))) = true := h4
      cases h5 : eqC c c' with
      | false =>
       simp -dsimp only [↓kpre, kpost, light, ret1, cellF, afill, setAll, simprocAttr, ↓pZLK_7, qZLK_7, ndl, ne_eq, not_false_eq_true, zaaa, and_false, if_false, zaae, h1, zac9, h2, h3, val_ne, h4, zan6, h5]
       try simp
      | true =>
       cases h6 : eqC t t' with
       | false =>
        simp -dsimp only [↓kpre, kpost, light, ret1, cellF, afill, setAll, simprocAttr, ↓pZLK_7, qZLK_7, ndl, ne_eq, not_false_eq_true, zaaa, and_false, if_false, zaae, h1, zac9, h2, h3, val_ne, h4, zan6, h5, h6]
        try simp
       | true =>
        by_cases h7 : kids.length = kids'.length
        ·have h7' : ((Nd.vs kids).length : Int) = ((Nd.vs kids').length : Int) := by rw [zadd, zadd, h7]
         have hnl : ((Nd.vs kids').length : Int) = kids'.length := by rw [zadd]
         simp -dsimp only [↓kpre, kpost, light, ret1, cellF, afill, setAll, simprocAttr, ↓pZLK_7, qZLK_7, ndl, ne_eq, not_false_eq_true, zaaa, and_false, if_false, zaae, h1, zac9, h2, h3, val_ne, h4, zan6, h5, h6, ↓h7']
         refine zagn (fun m e S => ∃ (i : Nat), m = kids'.length - i ∧ i ≤ kids'.length ∧ eget e 2 = .pointer (some ⟨0, 0, none⟩) ∧ eget e 3 = .pointer (some ⟨1, 0, none⟩) ∧ eget e 5 = .int .i64 i ∧ Nd.sames (kids.take i) (kids'.take i) = true ∧
          S = ⟨[], [.cells true 31 [.int .i64 k', .string op', .string nm', .int .i64 v.k, .int .i64 v.n, .string v.s, .string c.s, .int .i64 c.c, .int .i64 c.r, .string t.s, .int .i64 t.c, .int .i64 t.r, sl z 0 13 (Nd.vs kids)], .cells true 31 [.int .i64 k', .string op', .string nm', .int .i64 v'.k, .int .i64 v'.n, .string v'.s, .string c'.s, .int .i64 c'.c, .int .i64 c'.r, .string t'.s, .int .i64 t'.c, .int .i64 t'.r, sl z' 0 13 (Nd.vs kids')]], []⟩) kids'.length ?_ ?_
         ·refine ⟨0, rfl, Nat.zero_le _, ?_, ?_, ?_, rfl, ?_⟩
          ·simp only [↓epre, epost, simprocAttr]
           try rfl
          ·simp only [↓epre, epost, simprocAttr]
           try rfl
          ·simp only [↓epre, epost, simprocAttr]
           try rfl
          ·simp only [h1, h2, h3]
           try rfl
         ·rintro m e S ⟨i, rfl, hi, e2, e3, e5, hsm, rfl⟩
          refine VWP_Vc _ _ _ _ ?_
          have hnl1 : ((Nd.vs kids).length : Int) = kids'.length := by rw [zadd, h7]
          by_cases hin : i < kids'.length
          ·have hin1 : i < kids.length := by omega
           have hlt : (i : Int) < kids'.length := by omega
           have h0 : (0 : Int) ≤ i := by omega
           have hx := nvs_at hin1
           have hx' := nvs_at hin
           have hwr : IntKind.i64.wrap ((i : Int) + 1) = ((i + 1 : Nat) : Int) := zabu (by omega) (by omega)
           have hnx := zatb hin1 hin
           have hbd := zav0 hin1 hin
           have hmem : kids[i] ∈ kids := List.getElem_mem hin1
           have hcl := zam4 hmem
           have hcl' := zam4 (List.getElem_mem hin)
           have dc := fun S K => zaac (S := S) (K := K) (args := [.agg ⟨kids[i].cs⟩, .agg ⟨kids'[i].cs⟩]) (args' := [.agg ⟨kids[i].cs⟩, .agg ⟨kids'[i].cs⟩]) (ih kids[i] hmem kids'[i] (by omega) (by omega)) (by simp only [zaal, zabf, zac2, zal0]) (by simp only [zaee, zaf2, zae1, nd_okv, Bool.and_true]) rfl
           generalize kids[i] = a at hx hnx dc hbd
           generalize kids'[i] = b at hx' hnx dc hbd
           cases hab : a.same b with
           | true =>
            rw [hab] at dc hnx
            simp -dsimp only [↓kpre, kpost, light, ret1, cellF, afill, setAll, simprocAttr, ↓pZLK_7, qZLK_7, ndl, ne_eq, not_false_eq_true, zaaa, and_false, if_false, zaae, e2, e3, e5, hnl1, hlt]
            refine zaaj [[], [], [], [], [], [], [], [], [], [], [], []] false (by kernel_rfl) (by kernel_rfl) (by kernel_rfl) ?_
            simp -dsimp only [↓kpre, kpost, light, ret1, cellF, afill, setAll, simprocAttr, ↓opre, opost, vspan, ↓pZLK_7, qZLK_7, ndl, ne_eq, not_false_eq_true, zaaa, and_false, if_false, zaae, e2, e3, e5, h0, hx, hx', hwr, ↓dc]
            exact ⟨kids'.length - (i + 1), by omega, i + 1, rfl, by omega, rfl, by rw [hnx, hsm]; rfl⟩
           | false =>
            rw [hab] at dc
            simp -dsimp only [↓kpre, kpost, light, ret1, cellF, afill, setAll, simprocAttr, ↓pZLK_7, qZLK_7, ndl, ne_eq, not_false_eq_true, zaaa, and_false, if_false, zaae, e2, e3, e5, hnl1, hlt]
            refine zaaj [[], [], [], [], [], [], [], [], [], [], [], []] false (by kernel_rfl) (by kernel_rfl) (by kernel_rfl) ?_
            simp -dsimp only [↓kpre, kpost, light, ret1, cellF, afill, setAll, simprocAttr, ↓opre, opost, vspan, ↓pZLK_7, qZLK_7, ndl, ne_eq, not_false_eq_true, zaaa, and_false, if_false, zaae, e2, e3, e5, h0, hx, hx', hwr, ↓dc]
            rw [hbd hab]
            try simp
          ·obtain rfl : i = kids'.length := by omega
           have hlt : ¬ ((kids'.length : Int) < kids'.length) := by omega
           have ht1 : kids.take kids'.length = kids := by rw [← h7, List.take_length]
           rw [ht1, List.take_length] at hsm
           simp -dsimp only [↓kpre, kpost, light, ret1, cellF, afill, setAll, simprocAttr, ↓pZLK_7, qZLK_7, ndl, ne_eq, not_false_eq_true, zaaa, and_false, if_false, zaae, e2, e3, e5, hnl1, hlt]
           simp [hsm, h4', h5, h6, h1, h2, h3]
        ·have h7' : ¬ ((Nd.vs kids).length : Int) = ((Nd.vs kids').length : Int) := by rw [zadd, zadd]; omega
         simp -dsimp only [↓kpre, kpost, light, ret1, cellF, afill, setAll, simprocAttr, ↓pZLK_7, qZLK_7, ndl, ne_eq, not_false_eq_true, zaaa, and_false, if_false, zaae, h1, zac9, h2, h3, val_ne, h4, zan6, h5, h6, h7']
         simp [zav1 h7]
    ·simp -dsimp only [↓kpre, kpost, light, ret1, cellF, afill, setAll, simprocAttr, ↓pZLK_7, qZLK_7, ndl, ne_eq, not_false_eq_true, zaaa, and_false, if_false, zaae, h1, zac9, h2, h3]
     try simp
   ·simp -dsimp only [↓kpre, kpost, light, ret1, cellF, afill, setAll, simprocAttr, ↓pZLK_7, qZLK_7, ndl, ne_eq, not_false_eq_true, zaaa, and_false, if_false, zaae, h1, zac9, h2]
    try simp
  ·simp -dsimp only [↓kpre, kpost, light, ret1, cellF, afill, setAll, simprocAttr, ↓pZLK_7, qZLK_7, ndl, ne_eq, not_false_eq_true, zaaa, and_false, if_false, zaae, h1]
   try simp
end
end Go.Proofs.YtliemjbafgnnbaaDoor.Abs
/- Nodes: what is right is told so by the reference. -/
namespace Go.Proofs.YtliemjbafgnnbaaDoor.Abs
open Go
attribute [local irreducible] Hold VReg Vf Vc VWP With VStp Vcallee Vp VE SeqK BlkK FinK NormK
section
variable {X : VOuter}
end
end Go.Proofs.YtliemjbafgnnbaaDoor.Abs
/- Nodes: what is right is told so by the reference: the whole. -/
namespace Go.Proofs.YtliemjbafgnnbaaDoor.Abs
open Go
attribute [local irreducible] Hold VReg Vf Vc VWP With VStp Vcallee Vp VE SeqK BlkK FinK NormK
section
variable {X : VOuter}
theorem zaz9 {f : FuncId} {x : Nd} {r : Value} (hp : Vp Tryd.prog X f [.agg ⟨x.cs⟩] r) (ho : okv 0 false r = true) (S : VH) (K : VCont) : Vcallee Tryd.prog X f [.agg ⟨x.cs⟩] S K = K r [] S [] false :=
 zaac (args' := [.agg ⟨x.cs⟩]) hp (by simp only [zaal, zabf, zac2, zal0]) (by simp only [zaee, zaf2, zae1, nd_okv, Bool.and_true]) (by simp only [zabr, zadf, zaf5, zaoq, List.append_nil, List.isEmpty_nil, Bool.not_true]; exact ho)
end
end Go.Proofs.YtliemjbafgnnbaaDoor.Abs
/- Parse: the program's and the reference's. -/
namespace Go.Proofs.YtliemjbafgnnbaaDoor.Abs
open Go
attribute [local irreducible] Hold VReg Vf Vc VWP With VStp Vcallee Vp VE SeqK BlkK FinK NormK
def pZLO_5 := And.intro (And.intro (@val31) (And.intro (@vfk8) (@vfk9))) (And.intro (@vfk10) (And.intro (@vfk11) (@vfk12)))
def qZLO_5 := And.intro (And.intro (And.intro (And.intro (@vld3) (And.intro (@vgt3) (@vld31))) (And.intro (And.intro (@vgt31) (@vst31)) (And.intro (@zagp) (@zagq)))) (And.intro (And.intro (And.intro (@zax0) (@zayb)) (And.intro (@bd31) (@pl31_0))) (And.intro (And.intro (@pl31_1) (@pl31_2)) (And.intro (@pl31_3) (@pl31_4))))) (And.intro (And.intro (And.intro (@pl31_5) (And.intro (@pl31_6) (@bd44))) (And.intro (And.intro (@pl44_0) (@pl44_1)) (And.intro (@pl44_2) (@pl44_3)))) (And.intro (And.intro (And.intro (@pl44_4) (@vlr9)) (And.intro (@vlr38) (@vlo38))) (And.intro (And.intro (@vlz38) (@vls38)) (And.intro (@vlw38) (@Tryd.results5)))))
def failV (k e : Int) : Value := .tuple ⟨[.agg ⟨Nd.zero.cs⟩, .int .i64 k, .int .i64 e]⟩
def parV (T : List TK) (fin : Nat) (r : Except Nat (Nd × Nat)) : Value := match r with
 | .error b => failV b 3
 | .ok (x, m) => if m < T.length then failV (atT T fin m) 3 else if 20 < x.depth then failV 0 4 else .tuple ⟨[.agg ⟨x.cs⟩, .int .i64 (-1), .int .i64 0]⟩
theorem zauf : Nd.zero.cs = [.int .i64 0, .string .empty, .string .empty, .int .i64 0, .int .i64 0, .string .empty, .string .empty, .int .i64 0, .int .i64 0, .string .empty, .int .i64 0, .int .i64 0, .slice none 0 0] := by simp [Nd.zero, Nd.cs, Nd.vs, sl, v0, c0]
section
variable {P : Program} {X : VOuter}
theorem zagt {f : FuncId} {args : List Value} {a b b' : Blk} {l : List Blk} {w : List Nat} {K : VCont} {r : Value} (h : Vf P X f (p0 :: args) (cx b (a :: l)) fun v ws => ws = [(1, b')] ∧ v = r) (ha : mapOwnL (lend false) args = args) (ht : toksL args = []) : Vcallee P X f (p0 :: args) ⟨[], a :: b :: l, w⟩ K = K r [dropBoxes [1]] ⟨[], a :: b' :: l, w⟩ [1] false := by
 have e : mapOwnL (lend false) (p0 :: args) = p0 :: args := by rw [zaal, zacp, ha]
 have t : toksL (p0 :: args) = [] := by rw [zabr, zaem, ht]; rfl
 have al : VH.all ⟨[], a :: b :: l, w⟩ = cx b (a :: l) := rfl
 have pu : VH.puts ⟨[], a :: b :: l, w⟩ [(1, b')] = ⟨[], a :: b' :: l, w⟩ := rfl
 rw [zag3, if_neg (by rw [ptr_no 0]; simp), e, al, Vf_det h, t]
 simp [pu, lowW]
end
section
variable {X : VOuter}
theorem za2i (hX : X 5 = none) (hs : X 8 = none) (hd : X 12 = none) (tk : TkOff X) (h : PaOff X) (s sh : ByteArray) {T : List TK} (hT : TokOk T) (hl : T.length ≤ 200) (hv : splitV s = .tuple ⟨[sl true 0 3 (T.map TK.v), .int .i64 (-1), .int .i64 0]⟩) (hn : nameF sh = true)
    {r : Except Nat (Nd × Nat)} (hp : Pr T s.size sh (.pairs 0) 0 r) : Vp Tryd.prog X 5 [.string s, .string sh] (parV T s.size r) := by
 unfold Vp
 refine zaao hX Tryd.func5 rfl (by kernel_rfl) (by show 2 ≤ _; decide) ?_
 have sc := fun S K => za2x tk hs s hv (by simp only [zagg, List.all_cons, List.all_nil, okv_sl, zajv, Bool.and_self]) S K
 have nc := fun S K => name_c (S := S) (K := K) h.n.name sh
 rw [hn] at nc
 have oo := za0h h hT (by omega) 0 hp
 cases r with
 | error b =>
  obtain ⟨y, n', hf⟩ := oo [zbx]
  have oc := fun w K => zagt (K := K) (w := w) hf rfl rfl
  simp -dsimp only [↓kpre, kpost, light, ret1, cellF, afill, setAll, simprocAttr, ↓pZLO_5, qZLO_5, ndl, ne_eq, not_false_eq_true, zaaa, and_false, if_false, zaae, ↓sc, ↓nc, Int.natCast_zero]
  simp only [Int.natCast_zero] at oc
  simp -dsimp only [↓kpre, kpost, light, ret1, cellF, afill, setAll, simprocAttr, ↓pZLO_5, qZLO_5, ndl, ne_eq, not_false_eq_true, zaaa, and_false, if_false, zaae, ↓sc, ↓nc, ↓oc]
  refine zaaj [[], [], [], [], [1], [], [], []] false (by kernel_rfl) (by kernel_rfl) (by kernel_rfl) ?_
  simp -dsimp only [↓kpre, kpost, light, ret1, cellF, afill, setAll, simprocAttr, ↓opre, opost, vspan, ↓pZLO_5, qZLO_5, ndl, ne_eq, not_false_eq_true, zaaa, and_false, if_false, zaae]
  rw [parV, failV, zauf]
 | ok xm =>
  obtain ⟨x, m⟩ := xm
  have hf := oo [zbx]
  have oc := fun w K => zagt (K := K) (w := w) hf rfl rfl
  simp only [Int.natCast_zero] at oc
  have hon := (hp.on _ _ rfl).2 (Nat.zero_le _)
  have hcnt := hp.count _ _ rfl
  simp only [Gl.had] at hcnt
  have dc := fun S K => zaz9 (za14 hd x (by omega)) rfl S K
  by_cases hm : m < T.length
  ·have hm' : (m : Int) < T.length := by omega
   have ff := fun l w K => zagt (K := K) (w := w) (l := l) (fail_p (T := T) (fin := s.size) (sh := sh) (bad := 0) (R := zbx :: l) h.fail (m : Int) m) rfl rfl
   simp -dsimp only [↓kpre, kpost, light, ret1, cellF, afill, setAll, simprocAttr, ↓pZLO_5, qZLO_5, ndl, ne_eq, not_false_eq_true, zaaa, and_false, if_false, zaae, ↓sc, ↓nc, ↓oc, List.length_map, hm', ↓ff]
   refine zaaj [[], [], [], [], [1], [], [], []] false (by kernel_rfl) (by kernel_rfl) (by kernel_rfl) ?_
   simp -dsimp only [↓kpre, kpost, light, ret1, cellF, afill, setAll, simprocAttr, ↓opre, opost, vspan, ↓pZLO_5, qZLO_5, ndl, ne_eq, not_false_eq_true, zaaa, and_false, if_false, zaae]
   rw [parV, if_pos hm, failV, zauf]
  ·have hm' : ¬ (m : Int) < T.length := by omega
   by_cases hd20 : 20 < x.depth
   ·have hd' : (20 : Int) < x.depth := by omega
    simp -dsimp only [↓kpre, kpost, light, ret1, cellF, afill, setAll, simprocAttr, ↓pZLO_5, qZLO_5, ndl, ne_eq, not_false_eq_true, zaaa, and_false, if_false, zaae, ↓sc, ↓nc, ↓oc, List.length_map, hm', ↓dc, hd']
    rw [parV, if_neg hm, if_pos hd20, failV, zauf]
   ·have hd' : ¬ (20 : Int) < x.depth := by omega
    simp -dsimp only [↓kpre, kpost, light, ret1, cellF, afill, setAll, simprocAttr, ↓pZLO_5, qZLO_5, ndl, ne_eq, not_false_eq_true, zaaa, and_false, if_false, zaae, ↓sc, ↓nc, ↓oc, List.length_map, hm', ↓dc, hd']
    rw [parV, if_neg hm, if_neg hd20]
end
end Go.Proofs.YtliemjbafgnnbaaDoor.Abs
