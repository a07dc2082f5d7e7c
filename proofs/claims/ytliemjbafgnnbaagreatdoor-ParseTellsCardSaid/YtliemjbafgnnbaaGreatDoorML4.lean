/- Nodes: how deep, which are the same. -/
import Derived.Test.YtliemjbafgnnbaaGreatDoorML3
import Derived.Test.YtliemjbafgnnbaaGreatDoorPW29
set_option linter.defProp false
set_option linter.unnecessarySimpa false
set_option linter.unusedSimpArgs false
set_option linter.unusedVariables false
set_option maxRecDepth 4000
set_option maxHeartbeats 0
namespace Go.Proofs.YtliemjbafgnnbaaGreatDoor.Abs
open Go
def zau8 := And.intro (@val29) (@vfk14)
def zavf := And.intro (And.intro (And.intro (And.intro (@vld27) (@vgt27)) (And.intro (@vld29) (@vgt29))) (And.intro (And.intro (@vst29) (@zai1)) (And.intro (@zai3) (@vix27)))) (And.intro (And.intro (And.intro (@vio27) (@vis27)) (And.intro (@viw27) (@vlr27))) (And.intro (And.intro (@vlo27) (@vlz27)) (And.intro (@vls27) (And.intro (@vlw27) (@Tryz.results14)))))
def zaqv := @vfk20
def zaq1 := And.intro (And.intro (And.intro (And.intro (@vld27) (@vgt27)) (And.intro (@vld29) (@vgt29))) (And.intro (And.intro (@zai1) (@zai3)) (And.intro (@vix27) (@vio27)))) (And.intro (And.intro (And.intro (@vis27) (@viw27)) (And.intro (@vlr27) (@vlo27))) (And.intro (And.intro (@vlz27) (@vls27)) (And.intro (@vlw27) (@Tryz.results20))))
attribute [local irreducible] Hold VReg Vf Vc VWP With VStp Vcallee Vp VE SeqK BlkK FinK NormK
mutual
theorem Nd.ind_aux {p : Nd → Prop} (h : ∀ k op nm x c t z kids, (∀ a ∈ kids, p a) → p (.mk k op nm x c t z kids)) : ∀ x : Nd, p x
 | .mk k op nm x c t z kids => h k op nm x c t z kids (Nd.ind_list h kids)
theorem Nd.ind_list {p : Nd → Prop} (h : ∀ k op nm x c t z kids, (∀ a ∈ kids, p a) → p (.mk k op nm x c t z kids)) : ∀ l : List Nd, ∀ a ∈ l, p a
 | [], a, ha => absurd ha List.not_mem_nil
 | b :: l, a, ha => by
  rcases List.mem_cons.1 ha with e | ha
  ·rw [e]; exact Nd.ind_aux h b
  ·exact Nd.ind_list h l a ha
end
theorem Nd.ind {p : Nd → Prop} (h : ∀ k op nm x c t z kids, (∀ a ∈ kids, p a) → p (.mk k op nm x c t z kids)) (x : Nd) : p x := Nd.ind_aux h x
mutual
def Nd.count : Nd → Nat
 | .mk _ _ _ _ _ _ _ kids => Nd.counts kids + 1
def Nd.counts : List Nd → Nat
 | [] => 0
 | a :: l => a.count + Nd.counts l
end
theorem zam7 (l m : List Nd) : Nd.counts (l ++ m) = Nd.counts l + Nd.counts m := by
 induction l with
 | nil => simp [Nd.counts]
 | cons a l ih => simp only [List.cons_append, Nd.counts, ih]; omega
theorem zajq {l : List Nd} {a : Nd} (h : a ∈ l) : a.count ≤ Nd.counts l := by
 induction l with
 | nil => cases h
 | cons b l ih =>
  simp only [Nd.counts]
  rcases List.mem_cons.1 h with rfl | h
  ·omega
  ·have := ih h; omega
theorem zaxk (x : Nd) : 1 ≤ x.count := by cases x; simp [Nd.count]
theorem zaem (l : List Nd) : l.length ≤ Nd.counts l := by
 induction l with
 | nil => simp [Nd.counts]
 | cons a l ih => simp only [Nd.counts, List.length_cons]; have := zaxk a; omega
mutual
theorem zar8 : ∀ x : Nd, x.depth ≤ x.count
 | .mk _ _ _ _ _ _ _ kids => by simp only [Nd.depth, Nd.count]; have := zafa kids; omega
theorem zafa : ∀ l : List Nd, Nd.deepest l ≤ Nd.counts l
 | [] => Nat.le_refl _
 | a :: l => by simp only [Nd.deepest, Nd.counts]; have := zar8 a; have := zafa l; omega
end
def Gl.had : Gl → Nat
 | .rest _ x => x.count
 | .args _ kids => Nd.counts kids + 1
 | _ => 0
theorem zak2 {T : List TK} {fin : Nat} {sh : ByteArray} {n ahead : Nat} {x : Nd} {m : Nat} (h : cellG T fin sh n ahead = .ok (x, m)) : x.count = 1 := by
 unfold cellG at h
 split at h
 ·cases h
 ·split at h
  ·split at h
   ·split at h
    ·cases h; rfl
    ·cases h
   ·cases h
  ·cases h; rfl
theorem Pr.count {T : List TK} {fin : Nat} {sh : ByteArray} {g : Gl} {n : Nat} {r : Except Nat (Nd × Nat)} (h : Pr T fin sh g n r) : ∀ x m, r = .ok (x, m) → x.count + n ≤ g.had + m := by
 induction h with
 | top h ih => exact ih
 | pairs hr h1 h2 ih1 ih2 =>
  intro x m e
  have a := ih1 _ _ rfl
  have b := ih2 _ _ e
  simp only [Gl.had] at a b ⊢
  omega
 | restN hr h => intro x m e; cases e; simp only [Gl.had]; omega
 | restO hr h h1 h2 ih1 ih2 =>
  intro x m e
  have a := ih1 _ _ rfl
  have b := ih2 _ _ e
  simp only [Gl.had, Nd.pair, Nd.count, Nd.counts] at a b ⊢
  omega
 | minusN h h1 ih => exact ih
 | minusO h h1 ih =>
  intro x m e
  cases e
  have a := ih _ _ rfl
  simp only [Gl.had, Nd.neg, Nd.count, Nd.counts] at a ⊢
  omega
 | num => intro x m e; cases e; simp only [Gl.had, Nd.val, Nd.count, Nd.counts]; omega
 | text => intro x m e; cases e; simp only [Gl.had, Nd.val, Nd.count, Nd.counts]; omega
 | yes => intro x m e; cases e; simp only [Gl.had, Nd.val, Nd.count, Nd.counts]; omega
 | no => intro x m e; cases e; simp only [Gl.had, Nd.val, Nd.count, Nd.counts]; omega
 | lost => intro x m e; cases e; simp only [Gl.had, Nd.bad, Nd.count, Nd.counts]; omega
 | call ht hk hc h h1 ih =>
  intro x m e
  have a := ih _ _ e
  simp only [Gl.had, Nd.counts] at a ⊢
  omega
 | word => intro x m e; have := zal4 e; have := zak2 e; simp only [Gl.had]; omega
 | name => intro x m e; have := zal4 e; have := zak2 e; simp only [Gl.had]; omega
 | par h h1 h2 ih => intro x m e; cases e; have a := ih _ _ rfl; simp only [Gl.had] at a ⊢; omega
 | args0 h => intro x m e; cases e; simp only [Gl.had, Nd.call, Nd.count, Nd.counts]; omega
 | argsZ hk h1 h2 ih =>
  intro x m e
  cases e
  have a := ih _ _ rfl
  simp only [Gl.had, Nd.call, Nd.count, zam7, Nd.counts] at a ⊢
  omega
 | argsC hk h1 h2 h3 hl h4 ih1 ih2 =>
  intro x m e
  have a := ih1 _ _ rfl
  have b := ih2 _ _ e
  simp only [Gl.had, zam7, Nd.counts] at a b ⊢
  omega
 | _ => intro x m e; cases e
theorem nvs_at {l : List Nd} {i : Nat} (h : i < l.length) : (Nd.vs l)[i]? = some (.agg ⟨l[i].cs⟩) := by rw [nd_vs]; simp [h]
theorem zajr {l : List Nd} {i : Nat} (h : i < l.length) : Nd.deepest (l.take (i + 1)) = max (Nd.deepest (l.take i)) l[i].depth := by
 induction l generalizing i with
 | nil => simp at h
 | cons a l ih =>
  cases i with
  | zero => simp [Nd.deepest]
  | succ i =>
   simp only [List.take_succ_cons, Nd.deepest, List.getElem_cons_succ]
   rw [ih (by simpa using h)]
   omega
section
variable {X : VOuter}
theorem za45 (hX : X 14 = none) (x : Nd) : x.count ≤ 50000 → Vp Tryz.prog X 14 [.agg ⟨x.cs⟩] (.int .i64 x.depth) := by
 induction x using Nd.ind with
 | h k op nm v c t z kids ih =>
  intro hc
  simp only [Nd.count] at hc
  have hlc := zaem kids
  unfold Vp
  refine zaaf hX Tryz.func14 rfl (by kernel_rfl) (by show 1 ≤ _; decide) ?_
  have hcs : (Nd.mk k op nm v c t z kids).cs = [.int .i64 k, .string op, .string nm, .int .i64 v.k, .int .i64 v.n, .string v.s, .string c.s, .int .i64 c.c, .int .i64 c.r, .string t.s, .int .i64 t.c, .int .i64 t.r, sl z 0 13 (Nd.vs kids)] := by simp [Nd.cs]
  rw [hcs]
  simp -dsimp only [↓kpre, kpost, light, ret1, cellF, afill, setAll, simprocAttr, ↓zau8, zavf, ndl, ne_eq, not_false_eq_true, zaaa, and_false, if_false, zaac]
  refine zabw (fun m e S => ∃ (i : Nat) (J : List Blk), m = kids.length - i ∧ i ≤ kids.length ∧ eget e 3 = .int .i64 (Nd.deepest (kids.take i) : Nat) ∧ eget e 7 = sl z 0 13 (Nd.vs kids) ∧ eget e 8 = .int .i64 kids.length ∧ eget e 9 = .int .i64 i ∧ S = ⟨[], J, []⟩) kids.length ?_ ?_
  ·refine ⟨0, _, rfl, Nat.zero_le _, ?_, ?_, ?_, ?_, rfl⟩
   ·simp only [↓epre, epost, simprocAttr]
    try rfl
   ·simp only [↓epre, epost, simprocAttr]
   ·simp only [↓epre, epost, simprocAttr, zabx]
   ·simp only [↓epre, epost, simprocAttr]
    try rfl
  ·rintro m e S ⟨i, J, rfl, hi, e3, e7, e8, e9, rfl⟩
   refine VWP_Vc _ _ _ _ ?_
   by_cases hin : i < kids.length
   ·have hlt : (i : Int) < kids.length := by omega
    have h0 : (0 : Int) ≤ i := by omega
    have hx := nvs_at hin
    have hwr : IntKind.i64.wrap ((i : Int) + 1) = ((i + 1 : Nat) : Int) := zaaq (by omega) (by omega)
    have hnx := zajr hin
    have hmem : kids[i] ∈ kids := List.getElem_mem hin
    have hcl := zajq hmem
    have dc := fun S K => zaag (S := S) (K := K) (args := [.agg ⟨kids[i].cs⟩]) (args' := [.agg ⟨kids[i].cs⟩]) (ih kids[i] hmem (by omega)) (by simp only [zaap, zaa0, zab3, zaix]) (by simp only [zadn, zafe, zae6, nd_okv, Bool.and_true]) rfl
    generalize kids[i] = a at hx hnx dc
    have am : ∀ p q : Nat, amax (.int .i64 (p : Int)) (.int .i64 (q : Int)) = some (.int .i64 ((max p q : Nat) : Int)) := fun p q => by
     simp only [amax]
     by_cases hpq : p ≤ q
     ·rw [Nat.max_eq_right hpq]; simp; omega
     ·rw [Nat.max_eq_left (by omega)]; simp; omega
    simp -dsimp only [↓kpre, kpost, light, ret1, cellF, afill, setAll, simprocAttr, ↓zau8, zavf, ndl, ne_eq, not_false_eq_true, zaaa, and_false, if_false, zaac, e3, e7, e8, e9, hlt, h0, hx, hwr, ↓dc, am]
    exact ⟨kids.length - (i + 1), by omega, i + 1, _, rfl, by omega, by rw [hnx], rfl, rfl⟩
   ·obtain rfl : i = kids.length := by omega
    have hlt : ¬ ((kids.length : Int) < kids.length) := by omega
    rw [List.take_length] at e3
    have hd := zafa kids
    have hwr : IntKind.i64.wrap ((Nd.deepest kids : Int) + 1) = ((Nd.deepest kids + 1 : Nat) : Int) := by
     rw [show (Nd.deepest kids : Int) + 1 = ((Nd.deepest kids + 1 : Nat) : Int) by omega]; exact zaar (by omega) (by omega)
    simp -dsimp only [↓kpre, kpost, light, ret1, cellF, afill, setAll, simprocAttr, ↓zau8, zavf, ndl, ne_eq, not_false_eq_true, zaaa, and_false, if_false, zaac, e3, e7, e8, e9, hlt, hwr]
    simp [Nd.depth]
theorem zavj (hX : X 20 = none) (x : Nd) : x.count ≤ 50000 → Vp Tryz.prog X 20 [.agg ⟨x.cs⟩] (.int .i64 x.depth) := by
 induction x using Nd.ind with
 | h k op nm v c t z kids ih =>
  intro hc
  simp only [Nd.count] at hc
  have hlc := zaem kids
  unfold Vp
  refine zaaf hX Tryz.func20 rfl (by kernel_rfl) (by show 1 ≤ _; decide) ?_
  have hcs : (Nd.mk k op nm v c t z kids).cs = [.int .i64 k, .string op, .string nm, .int .i64 v.k, .int .i64 v.n, .string v.s, .string c.s, .int .i64 c.c, .int .i64 c.r, .string t.s, .int .i64 t.c, .int .i64 t.r, sl z 0 13 (Nd.vs kids)] := by simp [Nd.cs]
  rw [hcs]
  simp -dsimp only [↓kpre, kpost, light, ret1, cellF, afill, setAll, simprocAttr, ↓zaqv, zaq1, ndl, ne_eq, not_false_eq_true, zaaa, and_false, if_false, zaac]
  refine zabw (fun m e S => ∃ (i : Nat), m = kids.length - i ∧ i ≤ kids.length ∧ eget e 1 = .pointer (some ⟨0, 0, none⟩) ∧ eget e 3 = .int .i64 (Nd.deepest (kids.take i) : Nat) ∧ eget e 4 = .int .i64 i ∧ S = ⟨[], [.cells true 29 [.int .i64 k, .string op, .string nm, .int .i64 v.k, .int .i64 v.n, .string v.s, .string c.s, .int .i64 c.c, .int .i64 c.r, .string t.s, .int .i64 t.c, .int .i64 t.r, sl z 0 13 (Nd.vs kids)]], []⟩) kids.length ?_ ?_
  ·refine ⟨0, rfl, Nat.zero_le _, ?_, ?_, ?_, rfl⟩
   ·simp only [↓epre, epost, simprocAttr]
    try rfl
   ·simp only [↓epre, epost, simprocAttr]
    try rfl
   ·simp only [↓epre, epost, simprocAttr]
    try rfl
  ·rintro m e S ⟨i, rfl, hi, e1, e3, e4, rfl⟩
   refine VWP_Vc _ _ _ _ ?_
   have hnl : ((Nd.vs kids).length : Int) = kids.length := by rw [zabx]
   by_cases hin : i < kids.length
   ·have hlt : (i : Int) < kids.length := by omega
    have h0 : (0 : Int) ≤ i := by omega
    have hx := nvs_at hin
    have hwr : IntKind.i64.wrap ((i : Int) + 1) = ((i + 1 : Nat) : Int) := zaaq (by omega) (by omega)
    have hnx := zajr hin
    have hmem : kids[i] ∈ kids := List.getElem_mem hin
    have hcl := zajq hmem
    have dc := fun S K => zaag (S := S) (K := K) (args := [.agg ⟨kids[i].cs⟩]) (args' := [.agg ⟨kids[i].cs⟩]) (ih kids[i] hmem (by omega)) (by simp only [zaap, zaa0, zab3, zaix]) (by simp only [zadn, zafe, zae6, nd_okv, Bool.and_true]) rfl
    generalize kids[i] = a at hx hnx dc
    by_cases hg : ((Nd.deepest (kids.take i) : Nat) : Int) < (a.depth : Int)
    ·have hmx : max (Nd.deepest (kids.take i)) a.depth = a.depth := by omega
     simp -dsimp only [↓kpre, kpost, light, ret1, cellF, afill, setAll, simprocAttr, ↓zaqv, zaq1, ndl, ne_eq, not_false_eq_true, zaaa, and_false, if_false, zaac, e1, e3, e4, hnl, hlt, h0, hx, hwr, ↓dc, hg]
     exact ⟨kids.length - (i + 1), by omega, i + 1, rfl, by omega, by rw [hnx, hmx], rfl⟩
    ·have hmx : max (Nd.deepest (kids.take i)) a.depth = Nd.deepest (kids.take i) := by omega
     simp -dsimp only [↓kpre, kpost, light, ret1, cellF, afill, setAll, simprocAttr, ↓zaqv, zaq1, ndl, ne_eq, not_false_eq_true, zaaa, and_false, if_false, zaac, e1, e3, e4, hnl, hlt, h0, hx, hwr, ↓dc, hg]
     exact ⟨kids.length - (i + 1), by omega, i + 1, rfl, by omega, by rw [hnx, hmx], rfl⟩
   ·obtain rfl : i = kids.length := by omega
    have hlt : ¬ ((kids.length : Int) < kids.length) := by omega
    rw [List.take_length] at e3
    have hd := zafa kids
    have hwr : IntKind.i64.wrap ((Nd.deepest kids : Int) + 1) = ((Nd.deepest kids + 1 : Nat) : Int) := by
     rw [show (Nd.deepest kids : Int) + 1 = ((Nd.deepest kids + 1 : Nat) : Int) by omega]; exact zaar (by omega) (by omega)
    simp -dsimp only [↓kpre, kpost, light, ret1, cellF, afill, setAll, simprocAttr, ↓zaqv, zaq1, ndl, ne_eq, not_false_eq_true, zaaa, and_false, if_false, zaac, e1, e3, e4, hnl, hlt, hwr]
    simp [Nd.depth]
def eqV (x y : VV) : Bool := decide (x.k = y.k) && (decide (x.n = y.n) && decide (x.s = y.s))
theorem za0r (ka na : Int) (sa : ByteArray) (kb nb : Int) (sc : ByteArray) : aeq Tryz.prog 20 24 (.agg #[.int .i64 ka, .int .i64 na, .string sa]) (.agg #[.int .i64 kb, .int .i64 nb, .string sc]) = some (eqV ⟨ka, na, sa⟩ ⟨kb, nb, sc⟩) := by
 have e : aeq Tryz.prog 20 24 (.agg #[.int .i64 ka, .int .i64 na, .string sa]) (.agg #[.int .i64 kb, .int .i64 nb, .string sc]) = (if (ka == kb) = true then (if (na == nb) = true then (if (sa.toList == sc.toList) = true then some true else some false) else some false) else some false) := by kernel_rfl
 have h : (sa.toList == sc.toList) = decide (sa = sc) := by
  rw [Bool.eq_iff_iff]
  simp only [beq_iff_eq, decide_eq_true_eq]
  exact ⟨zajl, fun h => by rw [h]⟩
 rw [e, h, ibeq, ibeq]
 unfold eqV
 by_cases h1 : ka = kb <;> by_cases h2 : na = nb <;> by_cases h3 : sa = sc <;> simp [h1, h2, h3]
theorem val_ne (x y : Operand) (ka na : Int) (sa : ByteArray) (kb nb : Int) (sc : ByteArray) : vbin Tryz.prog .neq 24 x y (.agg ⟨[.int .i64 ka, .int .i64 na, .string sa]⟩) (.agg ⟨[.int .i64 kb, .int .i64 nb, .string sc]⟩) = some (.bool (!eqV ⟨ka, na, sa⟩ ⟨kb, nb, sc⟩)) := by
 rw [zamq _ _ _ _ _ rfl rfl]
 exact zapt rfl rfl (by kernel_rfl) (za0r ka na sa kb nb sc)
theorem val_eq (x y : Operand) (ka na : Int) (sa : ByteArray) (kb nb : Int) (sc : ByteArray) : vbin Tryz.prog .eql 24 x y (.agg ⟨[.int .i64 ka, .int .i64 na, .string sa]⟩) (.agg ⟨[.int .i64 kb, .int .i64 nb, .string sc]⟩) = some (.bool (eqV ⟨ka, na, sa⟩ ⟨kb, nb, sc⟩)) := by
 rw [zamq _ _ _ _ _ rfl rfl]
 exact zaps rfl rfl (by kernel_rfl) (za0r ka na sa kb nb sc)
end
end Go.Proofs.YtliemjbafgnnbaaGreatDoor.Abs
/- Nodes: the same; what is right is told so. -/
namespace Go.Proofs.YtliemjbafgnnbaaGreatDoor.Abs
open Go
def pZLK_7 := @vfk7
def qZLK_7 := And.intro (And.intro (And.intro (And.intro (And.intro (@vld3) (@vgt3)) (And.intro (@vld9) (@vgt9))) (And.intro (And.intro (@vld24) (@vgt24)) (And.intro (@vld26) (And.intro (@vgt26) (@vld27))))) (And.intro (And.intro (And.intro (@vgt27) (@vld29)) (And.intro (@vgt29) (@zarj))) (And.intro (And.intro (@zarq) (@zark)) (And.intro (@zarr) (And.intro (@zawf) (@zawn)))))) (And.intro (And.intro (And.intro (And.intro (@zawg) (@zawo)) (And.intro (@zawh) (@zawp))) (And.intro (And.intro (@zawi) (@zawq)) (And.intro (@zai1) (And.intro (@zai3) (@vix27))))) (And.intro (And.intro (And.intro (@vio27) (@vis27)) (And.intro (@viw27) (@vlr27))) (And.intro (And.intro (@vlo27) (@vlz27)) (And.intro (@vls27) (And.intro (@vlw27) (@Tryz.results7))))))
theorem mk_cs (k : Int) (op nm : ByteArray) (v : VV) (c t : CC) (z : Bool) (kids : List Nd) : (Nd.mk k op nm v c t z kids).cs = [.int .i64 k, .string op, .string nm, .int .i64 v.k, .int .i64 v.n, .string v.s, .string c.s, .int .i64 c.c, .int .i64 c.r, .string t.s, .int .i64 t.c, .int .i64 t.r, sl z 0 13 (Nd.vs kids)] := by simp [Nd.cs]
theorem zavm {l m : List Nd} {i : Nat} (h : i < l.length) (h2 : i < m.length) : Nd.sames (l.take (i + 1)) (m.take (i + 1)) = (Nd.sames (l.take i) (m.take i) && l[i].same m[i]) := by
 induction l generalizing i m with
 | nil => simp at h
 | cons a l ih =>
  cases m with
  | nil => simp at h2
  | cons b m =>
   cases i with
   | zero => simp [Nd.sames]
   | succ i =>
    simp only [List.take_succ_cons, Nd.sames, List.getElem_cons_succ]
    rw [ih (by simpa using h) (by simpa using h2), Bool.and_assoc]
theorem zayj {l m : List Nd} {i : Nat} (h : i < l.length) (h2 : i < m.length) (hs : l[i].same m[i] = false) : Nd.sames l m = false := by
 induction l generalizing i m with
 | nil => simp at h
 | cons a l ih =>
  cases m with
  | nil => simp at h2
  | cons b m =>
   cases i with
   | zero => simp only [List.getElem_cons_zero] at hs; simp [Nd.sames, hs]
   | succ i =>
    simp only [List.getElem_cons_succ] at hs
    simp only [Nd.sames, ih (by simpa using h) (by simpa using h2) hs, Bool.and_false]
theorem zayk {l m : List Nd} (h : l.length ≠ m.length) : Nd.sames l m = false := by
 induction l generalizing m with
 | nil => cases m with
  | nil => simp at h
  | cons b m => rfl
 | cons a l ih => cases m with
  | nil => rfl
  | cons b m => simp only [Nd.sames, ih (by simpa using h), Bool.and_false]
section
variable {X : VOuter}
theorem za58 (hX : X 7 = none) (x : Nd) : ∀ y : Nd, x.count ≤ 50000 → y.count ≤ 50000 → Vp Tryz.prog X 7 [.agg ⟨x.cs⟩, .agg ⟨y.cs⟩] (.bool (x.same y)) := by
 induction x using Nd.ind with
 | h k op nm v c t z kids ih =>
  intro y hc hy
  obtain ⟨k', op', nm', v', c', t', z', kids'⟩ := y
  simp only [Nd.count] at hc hy
  have hlc := zaem kids
  have hlc' := zaem kids'
  unfold Vp
  refine zaaf hX Tryz.func7 rfl (by kernel_rfl) (by show 2 ≤ _; decide) ?_
  rw [mk_cs, mk_cs]
  simp only [Nd.same]
  by_cases h1 : k = k'
  ·by_cases h2 : op = op'
   ·by_cases h3 : nm = nm'
    ·cases h4 : eqV v v' with
     | false =>
      have h4' : (decide (v.k = v'.k) && (decide (v.n = v'.n) && decide (v.s = v'.s))) = false := h4
      simp -dsimp only [↓kpre, kpost, light, ret1, cellF, afill, setAll, simprocAttr, ↓pZLK_7, qZLK_7, ndl, ne_eq, not_false_eq_true, zaaa, and_false, if_false, zaac, h1, zacq, h2, h3, val_ne, h4]
      simp [h4']
     | true =>
      have h4' : (decide (v.k = v'.k) && (decide (v.n = v'.n) && decide (v.s = v'.s))) = true := h4
      cases h5 : eqC c c' with
      | false =>
       simp -dsimp only [↓kpre, kpost, light, ret1, cellF, afill, setAll, simprocAttr, ↓pZLK_7, qZLK_7, ndl, ne_eq, not_false_eq_true, zaaa, and_false, if_false, zaac, h1, zacq, h2, h3, val_ne, h4, zapz, h5]
       try simp
      | true =>
       cases h6 : eqC t t' with
       | false =>
        simp -dsimp only [↓kpre, kpost, light, ret1, cellF, afill, setAll, simprocAttr, ↓pZLK_7, qZLK_7, ndl, ne_eq, not_false_eq_true, zaaa, and_false, if_false, zaac, h1, zacq, h2, h3, val_ne, h4, zapz, h5, h6]
        try simp
       | true =>
        by_cases h7 : kids.length = kids'.length
        ·have h7' : ((Nd.vs kids).length : Int) = ((Nd.vs kids').length : Int) := by rw [zabx, zabx, h7]
         have hnl : ((Nd.vs kids').length : Int) = kids'.length := by rw [zabx]
         simp -dsimp only [↓kpre, kpost, light, ret1, cellF, afill, setAll, simprocAttr, ↓pZLK_7, qZLK_7, ndl, ne_eq, not_false_eq_true, zaaa, and_false, if_false, zaac, h1, zacq, h2, h3, val_ne, h4, zapz, h5, h6, ↓h7']
         refine zabw (fun m e S => ∃ (i : Nat), m = kids'.length - i ∧ i ≤ kids'.length ∧ eget e 2 = .pointer (some ⟨0, 0, none⟩) ∧ eget e 3 = .pointer (some ⟨1, 0, none⟩) ∧ eget e 5 = .int .i64 i ∧ Nd.sames (kids.take i) (kids'.take i) = true ∧
          S = ⟨[], [.cells true 29 [.int .i64 k', .string op', .string nm', .int .i64 v.k, .int .i64 v.n, .string v.s, .string c.s, .int .i64 c.c, .int .i64 c.r, .string t.s, .int .i64 t.c, .int .i64 t.r, sl z 0 13 (Nd.vs kids)], .cells true 29 [.int .i64 k', .string op', .string nm', .int .i64 v'.k, .int .i64 v'.n, .string v'.s, .string c'.s, .int .i64 c'.c, .int .i64 c'.r, .string t'.s, .int .i64 t'.c, .int .i64 t'.r, sl z' 0 13 (Nd.vs kids')]], []⟩) kids'.length ?_ ?_
         ·refine ⟨0, rfl, Nat.zero_le _, ?_, ?_, ?_, rfl, ?_⟩
          ·simp only [↓epre, epost, simprocAttr]
           try rfl
          ·simp only [↓epre, epost, simprocAttr]
           try rfl
          ·simp only [↓epre, epost, simprocAttr]
           try rfl
          ·simp only [h1, h2, h3]
           try rfl
         ·rintro m e S ⟨i, rfl, hi, e2, e3, e5, hsm, rfl⟩
          refine VWP_Vc _ _ _ _ ?_
          have hnl1 : ((Nd.vs kids).length : Int) = kids'.length := by rw [zabx, h7]
          by_cases hin : i < kids'.length
          ·have hin1 : i < kids.length := by omega
           have hlt : (i : Int) < kids'.length := by omega
           have h0 : (0 : Int) ≤ i := by omega
           have hx := nvs_at hin1
           have hx' := nvs_at hin
           have hwr : IntKind.i64.wrap ((i : Int) + 1) = ((i + 1 : Nat) : Int) := zaaq (by omega) (by omega)
           have hnx := zavm hin1 hin
           have hbd := zayj hin1 hin
           have hmem : kids[i] ∈ kids := List.getElem_mem hin1
           have hcl := zajq hmem
           have hcl' := zajq (List.getElem_mem hin)
           have dc := fun S K => zaag (S := S) (K := K) (args := [.agg ⟨kids[i].cs⟩, .agg ⟨kids'[i].cs⟩]) (args' := [.agg ⟨kids[i].cs⟩, .agg ⟨kids'[i].cs⟩]) (ih kids[i] hmem kids'[i] (by omega) (by omega)) (by simp only [zaap, zaa0, zab3, zaix]) (by simp only [zadn, zafe, zae6, nd_okv, Bool.and_true]) rfl
           generalize kids[i] = a at hx hnx dc hbd
           generalize kids'[i] = b at hx' hnx dc hbd
           cases hab : a.same b with
           | true =>
            rw [hab] at dc hnx
            simp -dsimp only [↓kpre, kpost, light, ret1, cellF, afill, setAll, simprocAttr, ↓pZLK_7, qZLK_7, ndl, ne_eq, not_false_eq_true, zaaa, and_false, if_false, zaac, e2, e3, e5, hnl1, hlt]
            refine zaah [[], [], [], [], [], [], [], [], [], [], [], []] false (by kernel_rfl) (by kernel_rfl) (by kernel_rfl) ?_
            simp -dsimp only [↓kpre, kpost, light, ret1, cellF, afill, setAll, simprocAttr, ↓opre, opost, vspan, ↓pZLK_7, qZLK_7, ndl, ne_eq, not_false_eq_true, zaaa, and_false, if_false, zaac, e2, e3, e5, h0, hx, hx', hwr, ↓dc]
            exact ⟨kids'.length - (i + 1), by omega, i + 1, rfl, by omega, rfl, by rw [hnx, hsm]; rfl⟩
           | false =>
            rw [hab] at dc
            simp -dsimp only [↓kpre, kpost, light, ret1, cellF, afill, setAll, simprocAttr, ↓pZLK_7, qZLK_7, ndl, ne_eq, not_false_eq_true, zaaa, and_false, if_false, zaac, e2, e3, e5, hnl1, hlt]
            refine zaah [[], [], [], [], [], [], [], [], [], [], [], []] false (by kernel_rfl) (by kernel_rfl) (by kernel_rfl) ?_
            simp -dsimp only [↓kpre, kpost, light, ret1, cellF, afill, setAll, simprocAttr, ↓opre, opost, vspan, ↓pZLK_7, qZLK_7, ndl, ne_eq, not_false_eq_true, zaaa, and_false, if_false, zaac, e2, e3, e5, h0, hx, hx', hwr, ↓dc]
            rw [hbd hab]
            try simp
          ·obtain rfl : i = kids'.length := by omega
           have hlt : ¬ ((kids'.length : Int) < kids'.length) := by omega
           have ht1 : kids.take kids'.length = kids := by rw [← h7, List.take_length]
           rw [ht1, List.take_length] at hsm
           simp -dsimp only [↓kpre, kpost, light, ret1, cellF, afill, setAll, simprocAttr, ↓pZLK_7, qZLK_7, ndl, ne_eq, not_false_eq_true, zaaa, and_false, if_false, zaac, e2, e3, e5, hnl1, hlt]
           simp [hsm, h4', h5, h6, h1, h2, h3]
        ·have h7' : ¬ ((Nd.vs kids).length : Int) = ((Nd.vs kids').length : Int) := by rw [zabx, zabx]; omega
         simp -dsimp only [↓kpre, kpost, light, ret1, cellF, afill, setAll, simprocAttr, ↓pZLK_7, qZLK_7, ndl, ne_eq, not_false_eq_true, zaaa, and_false, if_false, zaac, h1, zacq, h2, h3, val_ne, h4, zapz, h5, h6, h7']
         simp [zayk h7]
    ·simp -dsimp only [↓kpre, kpost, light, ret1, cellF, afill, setAll, simprocAttr, ↓pZLK_7, qZLK_7, ndl, ne_eq, not_false_eq_true, zaaa, and_false, if_false, zaac, h1, zacq, h2, h3]
     try simp
   ·simp -dsimp only [↓kpre, kpost, light, ret1, cellF, afill, setAll, simprocAttr, ↓pZLK_7, qZLK_7, ndl, ne_eq, not_false_eq_true, zaaa, and_false, if_false, zaac, h1, zacq, h2]
    try simp
  ·simp -dsimp only [↓kpre, kpost, light, ret1, cellF, afill, setAll, simprocAttr, ↓pZLK_7, qZLK_7, ndl, ne_eq, not_false_eq_true, zaaa, and_false, if_false, zaac, h1]
   try simp
end
end Go.Proofs.YtliemjbafgnnbaaGreatDoor.Abs
/- Nodes: what is right is told so by the reference. -/
namespace Go.Proofs.YtliemjbafgnnbaaGreatDoor.Abs
open Go
def zaq2 := And.intro (And.intro (And.intro (@vld9) (And.intro (@vgt9) (@vbd65))) (And.intro (@vix65) (And.intro (@vio65) (@vis65)))) (And.intro (And.intro (@viw65) (And.intro (@vlr65) (@vlo65))) (And.intro (And.intro (@vlz65) (@vls65)) (And.intro (@vlw65) (@Tryz.results40))))
theorem isE_eq {s : ByteArray} (h : isE s = true) : s = .empty := by simpa [isE] using h
theorem zah4 {c : CC} (h : isC0 c = true) : c = c0 := by
 obtain ⟨a, b, d⟩ := c
 have h' : a = c0.s ∧ b = c0.c ∧ d = c0.r := by
  unfold isC0 eqC at h
  simpa only [Bool.and_eq_true, decide_eq_true_eq] using h
 rw [h'.1, h'.2.1, h'.2.2]
theorem zang {x : VV} (h : isV0 x = true) : x = v0 := by
 obtain ⟨a, b, d⟩ := x
 simp [isV0, isE] at h
 simp [v0, h]
theorem zam0 {k : Int} {op nm : ByteArray} {x : VV} {c t : CC} {m : Nat} (h : bareF k op nm x c t m = true) :
    (k = 1 ∧ op = .empty ∧ nm = .empty ∧ c = c0 ∧ t = c0 ∧ m = 0) ∨ (k = 2 ∧ op = .empty ∧ nm = .empty ∧ x = v0 ∧ t = c0 ∧ m = 0) ∨ (k = 3 ∧ op = .empty ∧ nm = .empty ∧ x = v0 ∧ m = 0) ∨
    ((k = 4 ∨ k = 5) ∧ nm = .empty ∧ x = v0 ∧ c = c0 ∧ t = c0) ∨ (k = 6 ∧ op = .empty ∧ x = v0 ∧ c = c0 ∧ t = c0) ∨ (k = 7 ∧ op = .empty ∧ nm = .empty ∧ x = v0 ∧ c = c0 ∧ t = c0 ∧ m = 0) := by
 unfold bareF at h
 split at h
 ·rename_i hk
  simp only [Bool.and_eq_true, decide_eq_true_eq] at h
  exact .inl ⟨hk, isE_eq h.1.1.1.1, isE_eq h.1.1.1.2, zah4 h.1.1.2, zah4 h.1.2, h.2⟩
 ·split at h
  ·rename_i hk
   simp only [Bool.and_eq_true, decide_eq_true_eq] at h
   exact .inr (.inl ⟨hk, isE_eq h.1.1.1.1, isE_eq h.1.1.1.2, zang h.1.1.2, zah4 h.1.2, h.2⟩)
  ·split at h
   ·rename_i hk
    simp only [Bool.and_eq_true, decide_eq_true_eq] at h
    exact .inr (.inr (.inl ⟨hk, isE_eq h.1.1.1, isE_eq h.1.1.2, zang h.1.2, h.2⟩))
   ·split at h
    ·rename_i hk
     simp only [Bool.and_eq_true] at h
     exact .inr (.inr (.inr (.inl ⟨hk, isE_eq h.1.1.1, zang h.1.1.2, zah4 h.1.2, zah4 h.2⟩)))
    ·split at h
     ·rename_i hk
      simp only [Bool.and_eq_true] at h
      exact .inr (.inr (.inr (.inr (.inl ⟨hk, isE_eq h.1.1.1, zang h.1.1.2, zah4 h.1.2, zah4 h.2⟩))))
     ·split at h
      ·rename_i hk
       simp only [Bool.and_eq_true, decide_eq_true_eq] at h
       exact .inr (.inr (.inr (.inr (.inr ⟨hk, isE_eq h.1.1.1.1.1, isE_eq h.1.1.1.1.2, zang h.1.1.1.2, zah4 h.1.1.2, zah4 h.1.2, h.2⟩))))
      ·cases h
section
variable {X : VOuter}
theorem bare_p (hX : X 36 = none) (k : Int) (op nm : ByteArray) (v : VV) (c t : CC) (z : Bool) (kids : List Nd) (h : bareF k op nm v c t kids.length = true) : Vp Tryz.prog X 36 [.agg ⟨(Nd.mk k op nm v c t z kids).cs⟩] (.bool true) := by
 unfold Vp
 refine zaaf hX Tryz.func36 rfl (by kernel_rfl) (by show 1 ≤ _; decide) ?_
 rw [mk_cs]
 have hE : (ByteArray.empty = ⟨#[]⟩) = True := eq_true rfl
 have e1 : ∀ a : CC, eqC a a = true := zao0
 have e0 : eqC ⟨.empty, 0, 0⟩ ⟨.empty, 0, 0⟩ = true := zao0 _
 have ev : eqV ⟨0, 0, .empty⟩ ⟨0, 0, .empty⟩ = true := by simp [eqV]
 rcases zam0 h with ⟨rfl, rfl, rfl, rfl, rfl, hm⟩ | ⟨rfl, rfl, rfl, rfl, rfl, hm⟩ | ⟨rfl, rfl, rfl, rfl, hm⟩ | ⟨rfl | rfl, rfl, rfl, rfl, rfl⟩ | ⟨rfl, rfl, rfl, rfl, rfl⟩ | ⟨rfl, rfl, rfl, rfl, rfl, rfl, hm⟩
 all_goals
  try (have hm0 : ((Nd.vs kids).length : Int) = 0 := by rw [zabx, hm]; rfl)
  simp only [c0, v0]
  simp -dsimp only [↓kpre, kpost, light, ret1, cellF, afill, setAll, simprocAttr, vld3, vgt3, vld9, vgt9, vld26, vgt26, vld27, vgt27, vld24, vgt24, zarj, zarq, zark, zarr, zawf, zawn, zawh, zawp, zawi, zawq, zai1, zai3, zawg, zawo, bd26, pl26_0, pl26_1, pl26_2, bd24, pl24_0, pl24_1, pl24_2, vlr27, vlo27, vlz27, vls27, vlw27, Tryz.results36, ndl, ne_eq, not_false_eq_true, zaaa, and_false, if_false, zaac, ab_seq, hE, za4x, val_eq, e0, ev, *]
theorem rop_p (hX : X 40 = none) (u : ByteArray) : Vp Tryz.prog X 40 [.string u] (.bool (opF u)) := by
 unfold Vp
 refine zaaf hX Tryz.func40 rfl (by kernel_rfl) (by show 1 ≤ _; decide) ?_
 simp -dsimp only [↓kpre, kpost, light, ret1, cellF, afill, setAll, simprocAttr, zaq2, ndl, ne_eq, not_false_eq_true, zaaa, and_false, if_false, zaac]
 refine zabw (fun m e S => ∃ i : Nat, m = allOps.length - i ∧ i ≤ allOps.length ∧ eget e 0 = .string u ∧ eget e 3 = vo (5, none) 1 0 (allOps.map Value.string) ∧ eget e 4 = .int .i64 i ∧ (allOps.take i).any (fun o => decide (o = u)) = false ∧ S = ⟨[], [], []⟩) allOps.length ?_ ?_
 ·refine ⟨0, rfl, Nat.zero_le _, ?_, ?_, ?_, rfl, rfl⟩
  ·simp only [↓epre, epost, simprocAttr]
   try rfl
  ·simp only [↓epre, epost, simprocAttr]
   try rfl
  ·simp only [↓epre, epost, simprocAttr]
   try rfl
 ·rintro m e S ⟨i, rfl, hi, e0, e3, e4, hall, rfl⟩
  refine VWP_Vc _ _ _ _ ?_
  have h11 : allOps.length = 11 := rfl
  have hl11 : (allOps.map Value.string).length = 11 := rfl
  by_cases hin : i < allOps.length
  ·have hlt : (i : Int) < 11 := by omega
   have h0 : (0 : Int) ≤ i := by omega
   have hx : (allOps.map Value.string)[i]? = some (.string allOps[i]) := by simp [hin]
   have hwr : IntKind.i64.wrap ((i : Int) + 1) = ((i + 1 : Nat) : Int) := zaaq (by omega) (by omega)
   have ht : (allOps.take (i + 1)).any (fun o => decide (o = u)) = decide (allOps[i] = u) := by
    rw [← List.take_append_getElem hin, List.any_append, hall]
    simp
   have hb : allOps[i] = u → opF u = true := fun h => by
    unfold opF
    rw [List.any_eq_true]
    exact ⟨allOps[i], List.getElem_mem hin, by simpa using h⟩
   generalize allOps[i] = x at hx ht hb
   generalize allOps.map Value.string = L at e3 hx hl11
   by_cases hq : x = u
   ·have hb := hb hq
    simp -dsimp only [↓kpre, kpost, light, ret1, cellF, afill, setAll, simprocAttr, zaq2, ndl, ne_eq, not_false_eq_true, zaaa, and_false, if_false, zaac, e0, e3, e4, hl11, hlt, h0, hx, hwr, ab_seq, hq]
    rw [hb]
   ·simp -dsimp only [↓kpre, kpost, light, ret1, cellF, afill, setAll, simprocAttr, zaq2, ndl, ne_eq, not_false_eq_true, zaaa, and_false, if_false, zaac, e0, e3, e4, hl11, hlt, h0, hx, hwr, ab_seq, hq]
    exact ⟨allOps.length - (i + 1), by omega, i + 1, rfl, by omega, rfl, by rw [ht]; simpa using hq⟩
  ·obtain rfl : i = allOps.length := by omega
   have hlt : ¬ (((allOps.length : Nat) : Int) < 11) := by omega
   rw [List.take_length] at hall
   have ho : opF u = false := hall
   generalize allOps.map Value.string = L at e3 hl11
   simp -dsimp only [↓kpre, kpost, light, ret1, cellF, afill, setAll, simprocAttr, zaq2, ndl, ne_eq, not_false_eq_true, zaaa, and_false, if_false, zaac, e0, e3, e4, hl11, hlt]
   rw [ho]
theorem rop_c (hX : X 40 = none) (u : ByteArray) (S : VH) (K : VCont) : Vcallee Tryz.prog X 40 [.string u] S K = K (.bool (opF u)) [] S [] false := zaag (rop_p hX u) rfl rfl rfl
end
end Go.Proofs.YtliemjbafgnnbaaGreatDoor.Abs
/- Nodes: what is right is told so by the reference: the whole. -/
namespace Go.Proofs.YtliemjbafgnnbaaGreatDoor.Abs
open Go
def zagu := And.intro (And.intro (@vfk36) (And.intro (@vfk21) (@vfk37))) (And.intro (And.intro (@vfk38) (@vfk39)) (And.intro (@vfk40) (@vfk41)))
def zagx := And.intro (And.intro (And.intro (And.intro (And.intro (@vld29) (@vgt29)) (And.intro (@vld27) (And.intro (@vgt27) (@vld3)))) (And.intro (And.intro (@vgt3) (@vld24)) (And.intro (@vgt24) (And.intro (@vld26) (@vgt26))))) (And.intro (And.intro (And.intro (@vld9) (@vgt9)) (And.intro (@zai1) (And.intro (@zai3) (@zarj)))) (And.intro (And.intro (@zarq) (And.intro (@zawg) (@zawo))) (And.intro (@za0s) (And.intro (@za00) (@za0t)))))) (And.intro (And.intro (And.intro (And.intro (@za01) (@zawh)) (And.intro (@zawp) (And.intro (@zawi) (@zawq)))) (And.intro (And.intro (@zark) (And.intro (@zarr) (@zawf))) (And.intro (@zawn) (And.intro (@bd77) (@pl77_0))))) (And.intro (And.intro (And.intro (@pl77_1) (@vix27)) (And.intro (@vio27) (And.intro (@vis27) (@viw27)))) (And.intro (And.intro (@vlr27) (And.intro (@vlo27) (@vlz27))) (And.intro (@vls27) (And.intro (@vlw27) (@Tryz.results21))))))
structure RnOff (X : VOuter) : Prop where
 right : X 21 = none
 bare : X 36 = none
 op : X 40 = none
 cname : X 41 = none
 great : X 29 = none
 vright : X 37 = none
 depth : X 20 = none
 r : ROff X
theorem zayf {l : List Nd} (h : Nd.rights l = true) {i : Nat} (hi : i < l.length) : l[i].right = true := by
 rw [zaqk, List.all_eq_true] at h
 exact h _ (List.getElem_mem hi)
section
variable {X : VOuter}
theorem za3b (h : RnOff X) (x : Nd) : x.right = true → x.count ≤ 50000 → Vp Tryz.prog X 21 [.agg ⟨x.cs⟩] (.bool true) := by
 induction x using Nd.ind with
 | h k op nm v c t z kids ih =>
  intro hr hc
  simp only [Nd.count] at hc
  simp only [Nd.right, Bool.and_eq_true] at hr
  obtain ⟨⟨hb, hf⟩, hks⟩ := hr
  have hlc := zaem kids
  have bc := fun S K => zaag (S := S) (K := K) (args := [.agg ⟨(Nd.mk k op nm v c t z kids).cs⟩]) (args' := [.agg ⟨(Nd.mk k op nm v c t z kids).cs⟩]) (bare_p h.bare k op nm v c t z kids hb) (by simp only [zaap, zaa0, zab3, zaix]) (by simp only [zadn, zafe, zae6, nd_okv, Bool.and_true]) rfl
  rw [mk_cs] at bc
  unfold Vp
  refine zaaf h.right Tryz.func21 rfl (by kernel_rfl) (by show 1 ≤ _; decide) ?_
  rw [mk_cs]
  simp -dsimp only [↓kpre, kpost, light, ret1, cellF, afill, setAll, simprocAttr, ↓zagu, zagx, ndl, ne_eq, not_false_eq_true, zaaa, and_false, if_false, zaac, ↓bc]
  refine zabw (fun m e S => ∃ (i : Nat), m = kids.length - i ∧ i ≤ kids.length ∧ eget e 1 = .pointer (some ⟨0, 0, none⟩) ∧ eget e 3 = .int .i64 i ∧ S = ⟨[], [.cells true 29 [.int .i64 k, .string op, .string nm, .int .i64 v.k, .int .i64 v.n, .string v.s, .string c.s, .int .i64 c.c, .int .i64 c.r, .string t.s, .int .i64 t.c, .int .i64 t.r, sl z 0 13 (Nd.vs kids)]], []⟩) kids.length ?_ ?_
  ·refine ⟨0, rfl, Nat.zero_le _, ?_, ?_, rfl⟩
   ·simp only [↓epre, epost, simprocAttr]
    try rfl
   ·simp only [↓epre, epost, simprocAttr]
    try rfl
  ·rintro m e S ⟨i, rfl, hi, e1, e3, rfl⟩
   refine VWP_Vc _ _ _ _ ?_
   have hnl : ((Nd.vs kids).length : Int) = kids.length := by rw [zabx]
   by_cases hin : i < kids.length
   ·have hlt : (i : Int) < kids.length := by omega
    have h0 : (0 : Int) ≤ i := by omega
    have hx := nvs_at hin
    have hwr : IntKind.i64.wrap ((i : Int) + 1) = ((i + 1 : Nat) : Int) := zaaq (by omega) (by omega)
    have hmem : kids[i] ∈ kids := List.getElem_mem hin
    have hcl := zajq hmem
    have dc := fun S K => zaag (S := S) (K := K) (args := [.agg ⟨kids[i].cs⟩]) (args' := [.agg ⟨kids[i].cs⟩]) (ih kids[i] hmem (zayf hks hin) (by omega)) (by simp only [zaap, zaa0, zab3, zaix]) (by simp only [zadn, zafe, zae6, nd_okv, Bool.and_true]) rfl
    generalize kids[i] = a at hx dc
    simp -dsimp only [↓kpre, kpost, light, ret1, cellF, afill, setAll, simprocAttr, ↓zagu, zagx, ndl, ne_eq, not_false_eq_true, zaaa, and_false, if_false, zaac, e1, e3, hnl, hlt, h0, hx, hwr, ↓dc]
    exact ⟨kids.length - (i + 1), by omega, i + 1, rfl, by omega, rfl⟩
   ·obtain rfl : i = kids.length := by omega
    have hlt : ¬ ((kids.length : Int) < kids.length) := by omega
    rcases zam0 hb with ⟨rfl, _⟩ | ⟨rfl, _⟩ | ⟨rfl, _⟩ | ⟨rfl | rfl, _⟩ | ⟨rfl, _⟩ | ⟨rfl, _⟩
    ·have hf' : constF v = true := hf
     obtain ⟨vk, vn, vs⟩ := v
     simp only [constF, Bool.and_eq_true, Bool.or_eq_true, decide_eq_true_eq] at hf'
     have vc := fun S K => zayc (S := S) (K := K) h.vright vk vn vs
     rw [hf'.1] at vc
     rcases hf'.2 with ⟨rfl, hn⟩ | rfl | rfl
     ·simp -dsimp only [↓kpre, kpost, light, ret1, cellF, afill, setAll, simprocAttr, ↓zagu, zagx, ndl, ne_eq, not_false_eq_true, zaaa, and_false, if_false, zaac, e1, e3, hnl, hlt, ↓vc, hn]
     ·simp -dsimp only [↓kpre, kpost, light, ret1, cellF, afill, setAll, simprocAttr, ↓zagu, zagx, ndl, ne_eq, not_false_eq_true, zaaa, and_false, if_false, zaac, e1, e3, hnl, hlt, ↓vc]
     ·simp -dsimp only [↓kpre, kpost, light, ret1, cellF, afill, setAll, simprocAttr, ↓zagu, zagx, ndl, ne_eq, not_false_eq_true, zaaa, and_false, if_false, zaac, e1, e3, hnl, hlt, ↓vc]
    ·have hf' : celF c.s c.c c.r = true := hf
     have rc := fun S K => rr_c (S := S) (K := K) h.r c.s c.c c.r
     rw [hf'] at rc
     simp -dsimp only [↓kpre, kpost, light, ret1, cellF, afill, setAll, simprocAttr, ↓zagu, zagx, ndl, ne_eq, not_false_eq_true, zaaa, and_false, if_false, zaac, e1, e3, hnl, hlt, ↓rc]
    ·have hf' : smallF c t = true := hf
     have ac := fun S K => zavh (S := S) (K := K) h.r c.s c.c c.r t.s t.c t.r
     unfold smallF at hf'
     rw [Bool.and_eq_true, decide_eq_true_eq] at hf'
     rw [show areaF ⟨c.s, c.c, c.r⟩ ⟨t.s, t.c, t.r⟩ = true from hf'.1] at ac
     have hN : areaN ⟨c.s, c.c, c.r⟩ ⟨t.s, t.c, t.r⟩ ≤ 400 := hf'.2
     simp -dsimp only [↓kpre, kpost, light, ret1, cellF, afill, setAll, simprocAttr, ↓zagu, zagx, ndl, ne_eq, not_false_eq_true, zaaa, and_false, if_false, zaac, e1, e3, hnl, hlt, ↓ac, hN]
    ·have hf' : (decide (op = ⟨#[45]⟩) && decide (kids.length = 1)) = true := hf
     rw [Bool.and_eq_true, decide_eq_true_eq, decide_eq_true_eq] at hf'
     have h1 : (kids.length : Int) = 1 := by omega
     simp -dsimp only [↓kpre, kpost, light, ret1, cellF, afill, setAll, simprocAttr, ↓zagu, zagx, ndl, ne_eq, not_false_eq_true, zaaa, and_false, if_false, zaac, e1, e3, hnl, hlt, ab_seq, hf'.1, h1]
    ·have hf' : (opF op && decide (kids.length = 2)) = true := hf
     rw [Bool.and_eq_true, decide_eq_true_eq] at hf'
     have oc := fun S K => rop_c h.op op S K
     rw [hf'.1] at oc
     have h1 : (kids.length : Int) = 2 := by omega
     simp -dsimp only [↓kpre, kpost, light, ret1, cellF, afill, setAll, simprocAttr, ↓zagu, zagx, ndl, ne_eq, not_false_eq_true, zaaa, and_false, if_false, zaac, e1, e3, hnl, hlt, ↓oc, h1]
    ·have hf' : (callN nm && decide (kids.length ≤ 20)) = true := hf
     rw [Bool.and_eq_true, decide_eq_true_eq] at hf'
     have nc := fun S K => zavi h.cname h.great nm S K
     rw [hf'.1] at nc
     have h1 : (kids.length : Int) ≤ 20 := by omega
     simp -dsimp only [↓kpre, kpost, light, ret1, cellF, afill, setAll, simprocAttr, ↓zagu, zagx, ndl, ne_eq, not_false_eq_true, zaaa, and_false, if_false, zaac, e1, e3, hnl, hlt, ↓nc, h1]
    ·simp -dsimp only [↓kpre, kpost, light, ret1, cellF, afill, setAll, simprocAttr, ↓zagu, zagx, ndl, ne_eq, not_false_eq_true, zaaa, and_false, if_false, zaac, e1, e3, hnl, hlt]
theorem zaj3 {f : FuncId} {x : Nd} {r : Value} (hp : Vp Tryz.prog X f [.agg ⟨x.cs⟩] r) (ho : okv 0 false r = true) (S : VH) (K : VCont) : Vcallee Tryz.prog X f [.agg ⟨x.cs⟩] S K = K r [] S [] false :=
 zaag (args' := [.agg ⟨x.cs⟩]) hp (by simp only [zaap, zaa0, zab3, zaix]) (by simp only [zadn, zafe, zae6, nd_okv, Bool.and_true]) (by simp only [zabl, zack, zagc, zaql, List.append_nil, List.isEmpty_nil, Bool.not_true]; exact ho)
theorem zasm (hX : X 9 = none) (h : RnOff X) (x : Nd) (hr : x.right = true) (hc : x.count ≤ 50000) (hd : x.depth ≤ 20) : Vp Tryz.prog X 9 [.agg ⟨x.cs⟩] (.bool true) := by
 unfold Vp
 refine zaaf hX Tryz.func9 rfl (by kernel_rfl) (by show 1 ≤ _; decide) ?_
 have dc := fun S K => zaj3 (zavj h.depth x hc) rfl S K
 have rc := fun S K => zaj3 (za3b h x hr hc) rfl S K
 have hd' : (x.depth : Int) ≤ 20 := by omega
 simp -dsimp only [↓kpre, kpost, light, ret1, cellF, afill, setAll, simprocAttr, vld29, vgt29, ↓vfk20, ↓vfk21, Tryz.results9, ndl, ne_eq, not_false_eq_true, zaaa, and_false, if_false, zaac, ↓dc, ↓rc, hd']
end
end Go.Proofs.YtliemjbafgnnbaaGreatDoor.Abs
/- Parse: the program's and the reference's. -/
namespace Go.Proofs.YtliemjbafgnnbaaGreatDoor.Abs
open Go
def pZLO_5 := And.intro (And.intro (@val29) (And.intro (@vfk10) (@vfk11))) (And.intro (@vfk12) (And.intro (@vfk13) (@vfk14)))
def qZLO_5 := And.intro (And.intro (And.intro (And.intro (@vld3) (And.intro (@vgt3) (@vld29))) (And.intro (And.intro (@vgt29) (@vst29)) (And.intro (@zahe) (@zahf)))) (And.intro (And.intro (And.intro (@za0u) (@za02)) (And.intro (@bd29) (@pl29_0))) (And.intro (And.intro (@pl29_1) (@pl29_2)) (And.intro (@pl29_3) (@pl29_4))))) (And.intro (And.intro (And.intro (@pl29_5) (And.intro (@pl29_6) (@bd45))) (And.intro (And.intro (@pl45_0) (@pl45_1)) (And.intro (@pl45_2) (@pl45_3)))) (And.intro (And.intro (And.intro (@pl45_4) (@vlr9)) (And.intro (@vlr39) (@vlo39))) (And.intro (And.intro (@vlz39) (@vls39)) (And.intro (@vlw39) (@Tryz.results5)))))
def pZLO_6 := And.intro (And.intro (@val29) (And.intro (@vfk15) (@vfk16))) (And.intro (And.intro (@vfk17) (@vfk19)) (And.intro (@vfk18) (@vfk20)))
def qZLO_6 := And.intro (And.intro (And.intro (And.intro (@vld3) (And.intro (@vgt3) (@vld29))) (And.intro (And.intro (@vgt29) (@vst29)) (And.intro (@zaoh) (@zaom)))) (And.intro (And.intro (And.intro (@zagz) (@zag1)) (And.intro (@bd29) (@pl29_0))) (And.intro (And.intro (@pl29_1) (@pl29_2)) (And.intro (@pl29_3) (@pl29_4))))) (And.intro (And.intro (And.intro (@pl29_5) (And.intro (@pl29_6) (@bd53))) (And.intro (And.intro (@pl53_0) (@pl53_1)) (And.intro (@pl53_2) (@pl53_3)))) (And.intro (And.intro (And.intro (@pl53_4) (@vlr9)) (And.intro (@vlr39) (@vlo39))) (And.intro (And.intro (@vlz39) (@vls39)) (And.intro (@vlw39) (@Tryz.results6)))))
def failV (k e : Int) : Value := .tuple ⟨[.agg ⟨Nd.zero.cs⟩, .int .i64 k, .int .i64 e]⟩
def parV (T : List TK) (fin : Nat) (r : Except Nat (Nd × Nat)) : Value := match r with
 | .error b => failV b 3
 | .ok (x, m) => if m < T.length then failV (atT T fin m) 3 else if 20 < x.depth then failV 0 4 else .tuple ⟨[.agg ⟨x.cs⟩, .int .i64 (-1), .int .i64 0]⟩
theorem zahg : Nd.zero.cs = [.int .i64 0, .string .empty, .string .empty, .int .i64 0, .int .i64 0, .string .empty, .string .empty, .int .i64 0, .int .i64 0, .string .empty, .int .i64 0, .int .i64 0, .slice none 0 0] := by simp [Nd.zero, Nd.cs, Nd.vs, sl, v0, c0]
section
variable {P : Program} {X : VOuter}
theorem zaoq {f : FuncId} {args : List Value} {a b : Blk} {l : List Blk} {w : List Nat} {K : VCont} {r : Value} (h : Vf P X f (p0 :: args) (cx b (a :: l)) fun v ws => ws = [] ∧ v = r) (ha : mapOwnL (lend false) args = args) (ht : toksL args = []) : Vcallee P X f (p0 :: args) ⟨[], a :: b :: l, w⟩ K = K r [] ⟨[], a :: b :: l, w⟩ [] false := by
 have e : mapOwnL (lend false) (p0 :: args) = p0 :: args := by rw [zaap, zacj, ha]
 have t : toksL (p0 :: args) = [] := by rw [zabl, zaec, ht]; rfl
 have al : VH.all ⟨[], a :: b :: l, w⟩ = cx b (a :: l) := rfl
 rw [zagk, if_neg (by rw [ptr_no 0]; simp), e, al, Vf_det h, t]
 simp [zajh]
theorem zad5 {f : FuncId} {args : List Value} {a b b' : Blk} {l : List Blk} {w : List Nat} {K : VCont} {r : Value} (h : Vf P X f (p0 :: args) (cx b (a :: l)) fun v ws => ws = [(1, b')] ∧ v = r) (ha : mapOwnL (lend false) args = args) (ht : toksL args = []) : Vcallee P X f (p0 :: args) ⟨[], a :: b :: l, w⟩ K = K r [dropBoxes [1]] ⟨[], a :: b' :: l, w⟩ [1] false := by
 have e : mapOwnL (lend false) (p0 :: args) = p0 :: args := by rw [zaap, zacj, ha]
 have t : toksL (p0 :: args) = [] := by rw [zabl, zaec, ht]; rfl
 have al : VH.all ⟨[], a :: b :: l, w⟩ = cx b (a :: l) := rfl
 have pu : VH.puts ⟨[], a :: b :: l, w⟩ [(1, b')] = ⟨[], a :: b' :: l, w⟩ := rfl
 rw [zagk, if_neg (by rw [ptr_no 0]; simp), e, al, Vf_det h, t]
 simp [pu, lowW]
end
section
variable {X : VOuter}
theorem za5p (hX : X 5 = none) (hs : X 10 = none) (tk : TkOff X) (s sh : ByteArray) {k e : Int} (he : ¬ e = 0) (hv : splitV s = .tuple ⟨[.slice none 0 0, .int .i64 k, .int .i64 e]⟩) : Vp Tryz.prog X 5 [.string s, .string sh] (failV k e) := by
 unfold Vp
 refine zaaf hX Tryz.func5 rfl (by kernel_rfl) (by show 2 ≤ _; decide) ?_
 have sc := fun S K => zavy tk hs s hv rfl S K
 simp -dsimp only [↓kpre, kpost, light, ret1, cellF, afill, setAll, simprocAttr, ↓pZLO_5, qZLO_5, ndl, ne_eq, not_false_eq_true, zaaa, and_false, if_false, zaac, ↓sc, he]
 rw [failV, zahg]
theorem za5q (hX : X 5 = none) (hs : X 10 = none) (tk : TkOff X) (h : PaOff X) (s sh : ByteArray) {T : List TK} (hv : splitV s = .tuple ⟨[sl true 0 3 (T.map TK.v), .int .i64 (-1), .int .i64 0]⟩) (hn : nameF sh = false) : Vp Tryz.prog X 5 [.string s, .string sh] (failV 0 1) := by
 unfold Vp
 refine zaaf hX Tryz.func5 rfl (by kernel_rfl) (by show 2 ≤ _; decide) ?_
 have sc := fun S K => zavy tk hs s hv (by simp only [zafb, List.all_cons, List.all_nil, okv_sl, zaia, Bool.and_self]) S K
 have nc := fun S K => name_c (S := S) (K := K) h.n.name sh
 rw [hn] at nc
 simp -dsimp only [↓kpre, kpost, light, ret1, cellF, afill, setAll, simprocAttr, ↓pZLO_5, qZLO_5, ndl, ne_eq, not_false_eq_true, zaaa, and_false, if_false, zaac, ↓sc, ↓nc]
 rw [failV, zahg]
theorem zaz6 (hX : X 5 = none) (hs : X 10 = none) (hd : X 14 = none) (tk : TkOff X) (h : PaOff X) (s sh : ByteArray) {T : List TK} (hT : TokOk T) (hl : T.length ≤ 200) (hv : splitV s = .tuple ⟨[sl true 0 3 (T.map TK.v), .int .i64 (-1), .int .i64 0]⟩) (hn : nameF sh = true)
    {r : Except Nat (Nd × Nat)} (hp : Pr T s.size sh (.pairs 0) 0 r) : Vp Tryz.prog X 5 [.string s, .string sh] (parV T s.size r) := by
 unfold Vp
 refine zaaf hX Tryz.func5 rfl (by kernel_rfl) (by show 2 ≤ _; decide) ?_
 have sc := fun S K => zavy tk hs s hv (by simp only [zafb, List.all_cons, List.all_nil, okv_sl, zaia, Bool.and_self]) S K
 have nc := fun S K => name_c (S := S) (K := K) h.n.name sh
 rw [hn] at nc
 have oo := za22 h hT (by omega) 0 hp
 cases r with
 | error b =>
  obtain ⟨y, n', hf⟩ := oo [zbx]
  have oc := fun w K => zad5 (K := K) (w := w) hf rfl rfl
  simp -dsimp only [↓kpre, kpost, light, ret1, cellF, afill, setAll, simprocAttr, ↓pZLO_5, qZLO_5, ndl, ne_eq, not_false_eq_true, zaaa, and_false, if_false, zaac, ↓sc, ↓nc, Int.natCast_zero]
  simp only [Int.natCast_zero] at oc
  simp -dsimp only [↓kpre, kpost, light, ret1, cellF, afill, setAll, simprocAttr, ↓pZLO_5, qZLO_5, ndl, ne_eq, not_false_eq_true, zaaa, and_false, if_false, zaac, ↓sc, ↓nc, ↓oc]
  refine zaah [[], [], [], [], [1], [], [], []] false (by kernel_rfl) (by kernel_rfl) (by kernel_rfl) ?_
  simp -dsimp only [↓kpre, kpost, light, ret1, cellF, afill, setAll, simprocAttr, ↓opre, opost, vspan, ↓pZLO_5, qZLO_5, ndl, ne_eq, not_false_eq_true, zaaa, and_false, if_false, zaac]
  rw [parV, failV, zahg]
 | ok xm =>
  obtain ⟨x, m⟩ := xm
  have hf := oo [zbx]
  have oc := fun w K => zad5 (K := K) (w := w) hf rfl rfl
  simp only [Int.natCast_zero] at oc
  have hon := (hp.on _ _ rfl).2 (Nat.zero_le _)
  have hcnt := hp.count _ _ rfl
  simp only [Gl.had] at hcnt
  have dc := fun S K => zaj3 (za45 hd x (by omega)) rfl S K
  by_cases hm : m < T.length
  ·have hm' : (m : Int) < T.length := by omega
   have ff := fun l w K => zad5 (K := K) (w := w) (l := l) (fail_p (T := T) (fin := s.size) (sh := sh) (bad := 0) (R := zbx :: l) h.fail (m : Int) m) rfl rfl
   simp -dsimp only [↓kpre, kpost, light, ret1, cellF, afill, setAll, simprocAttr, ↓pZLO_5, qZLO_5, ndl, ne_eq, not_false_eq_true, zaaa, and_false, if_false, zaac, ↓sc, ↓nc, ↓oc, List.length_map, hm', ↓ff]
   refine zaah [[], [], [], [], [1], [], [], []] false (by kernel_rfl) (by kernel_rfl) (by kernel_rfl) ?_
   simp -dsimp only [↓kpre, kpost, light, ret1, cellF, afill, setAll, simprocAttr, ↓opre, opost, vspan, ↓pZLO_5, qZLO_5, ndl, ne_eq, not_false_eq_true, zaaa, and_false, if_false, zaac]
   rw [parV, if_pos hm, failV, zahg]
  ·have hm' : ¬ (m : Int) < T.length := by omega
   by_cases hd20 : 20 < x.depth
   ·have hd' : (20 : Int) < x.depth := by omega
    simp -dsimp only [↓kpre, kpost, light, ret1, cellF, afill, setAll, simprocAttr, ↓pZLO_5, qZLO_5, ndl, ne_eq, not_false_eq_true, zaaa, and_false, if_false, zaac, ↓sc, ↓nc, ↓oc, List.length_map, hm', ↓dc, hd']
    rw [parV, if_neg hm, if_pos hd20, failV, zahg]
   ·have hd' : ¬ (20 : Int) < x.depth := by omega
    simp -dsimp only [↓kpre, kpost, light, ret1, cellF, afill, setAll, simprocAttr, ↓pZLO_5, qZLO_5, ndl, ne_eq, not_false_eq_true, zaaa, and_false, if_false, zaac, ↓sc, ↓nc, ↓oc, List.length_map, hm', ↓dc, hd']
    rw [parV, if_neg hm, if_neg hd20]
theorem za3c (hX : X 6 = none) (hs : X 15 = none) (tk : RtkOff X) (s sh : ByteArray) {k e : Int} (he : ¬ e = 0) (hv : splitV s = .tuple ⟨[.slice none 0 0, .int .i64 k, .int .i64 e]⟩) : Vp Tryz.prog X 6 [.string s, .string sh] (failV k e) := by
 unfold Vp
 refine zaaf hX Tryz.func6 rfl (by kernel_rfl) (by show 2 ≤ _; decide) ?_
 have sc := fun S K => zapd tk hs s hv rfl S K
 simp -dsimp only [↓kpre, kpost, light, ret1, cellF, afill, setAll, simprocAttr, ↓pZLO_6, qZLO_6, ndl, ne_eq, not_false_eq_true, zaaa, and_false, if_false, zaac, ↓sc, he]
 rw [failV, zahg]
theorem za3d (hX : X 6 = none) (hs : X 15 = none) (tk : RtkOff X) (h : RpOff X) (s sh : ByteArray) {T : List TK} (hv : splitV s = .tuple ⟨[sl true 0 3 (T.map TK.v), .int .i64 (-1), .int .i64 0]⟩) (hn : nameF sh = false) : Vp Tryz.prog X 6 [.string s, .string sh] (failV 0 1) := by
 unfold Vp
 refine zaaf hX Tryz.func6 rfl (by kernel_rfl) (by show 2 ≤ _; decide) ?_
 have sc := fun S K => zapd tk hs s hv (by simp only [zafb, List.all_cons, List.all_nil, okv_sl, zaia, Bool.and_self]) S K
 have nc := fun S K => zaq5 (S := S) (K := K) h.r.name h.r.small h.r.digit sh
 rw [hn] at nc
 simp -dsimp only [↓kpre, kpost, light, ret1, cellF, afill, setAll, simprocAttr, ↓pZLO_6, qZLO_6, ndl, ne_eq, not_false_eq_true, zaaa, and_false, if_false, zaac, ↓sc, ↓nc]
 rw [failV, zahg]
theorem za3e (hX : X 6 = none) (hs : X 15 = none) (hd : X 20 = none) (tk : RtkOff X) (h : RpOff X) (s sh : ByteArray) {T : List TK} (hT : TokOk T) (hl : T.length ≤ 200) (hv : splitV s = .tuple ⟨[sl true 0 3 (T.map TK.v), .int .i64 (-1), .int .i64 0]⟩) (hn : nameF sh = true)
    {r : Except Nat (Nd × Nat)} (hp : Pr T s.size sh (.pairs 0) 0 r) : Vp Tryz.prog X 6 [.string s, .string sh] (parV T s.size r) := by
 unfold Vp
 refine zaaf hX Tryz.func6 rfl (by kernel_rfl) (by show 2 ≤ _; decide) ?_
 have sc := fun S K => zapd tk hs s hv (by simp only [zafb, List.all_cons, List.all_nil, okv_sl, zaia, Bool.and_self]) S K
 have nc := fun S K => zaq5 (S := S) (K := K) h.r.name h.r.small h.r.digit sh
 rw [hn] at nc
 have oo := zayh h hT (by omega) hn hp
 have hm1 : ((-1 : Int) < 0) = True := by simp
 have hm3 : ((0 : Int) ≤ -1) = False := by simp
 cases r with
 | error b =>
  obtain ⟨y, n', hf⟩ := oo [zbx]
  have oc := fun w K => zad5 (K := K) (w := w) hf rfl rfl
  simp only [Int.natCast_zero] at oc
  have hb1 : ¬ ((b : Int) < 0) := by omega
  have hb2 : (0 : Int) ≤ b := by omega
  simp -dsimp only [↓kpre, kpost, light, ret1, cellF, afill, setAll, simprocAttr, ↓pZLO_6, qZLO_6, ndl, ne_eq, not_false_eq_true, zaaa, and_false, if_false, zaac, ↓sc, ↓nc, ↓oc, hb1, hb2]
  refine zaah [[], [], [], [], [1], [], [], []] false (by kernel_rfl) (by kernel_rfl) (by kernel_rfl) ?_
  simp -dsimp only [↓kpre, kpost, light, ret1, cellF, afill, setAll, simprocAttr, ↓opre, opost, vspan, ↓pZLO_6, qZLO_6, ndl, ne_eq, not_false_eq_true, zaaa, and_false, if_false, zaac]
  rw [parV, failV, zahg]
 | ok xm =>
  obtain ⟨x, m⟩ := xm
  have hf := oo [zbx]
  have oc := fun w K => zad5 (K := K) (w := w) hf rfl rfl
  simp only [Int.natCast_zero] at oc
  have hon := (hp.on _ _ rfl).2 (Nat.zero_le _)
  have hcnt := hp.count _ _ rfl
  simp only [Gl.had] at hcnt
  have dc := fun S K => zaj3 (zavj hd x (by omega)) rfl S K
  by_cases hm : m < T.length
  ·have hm' : (m : Int) < T.length := by omega
   have ff := fun l w K => zad5 (K := K) (w := w) (l := l) (za0b (T := T) (fin := s.size) (sh := sh) (R := zbx :: l) h.fail (m : Int) (atT T s.size m)) rfl rfl
   have ac := fun l w K => zaoq (K := K) (w := w) (l := l) (rat_p (T := T) (fin := s.size) (sh := sh) (bad := -1) (R := zbx :: l) h.rat m) rfl rfl
   have hb2 : (0 : Int) ≤ (atT T s.size m : Int) := by omega
   simp -dsimp only [↓kpre, kpost, light, ret1, cellF, afill, setAll, simprocAttr, ↓pZLO_6, qZLO_6, ndl, ne_eq, not_false_eq_true, zaaa, and_false, if_false, zaac, ↓sc, ↓nc, ↓oc, List.length_map, hm1, hm', ↓ac, ↓ff, hb2]
   refine zaah [[], [], [], [], [1], [], [], []] false (by kernel_rfl) (by kernel_rfl) (by kernel_rfl) ?_
   simp -dsimp only [↓kpre, kpost, light, ret1, cellF, afill, setAll, simprocAttr, ↓opre, opost, vspan, ↓pZLO_6, qZLO_6, ndl, ne_eq, not_false_eq_true, zaaa, and_false, if_false, zaac]
   rw [parV, if_pos hm, failV, zahg]
  ·have hm' : ¬ (m : Int) < T.length := by omega
   by_cases hd20 : 20 < x.depth
   ·have hd' : (20 : Int) < x.depth := by omega
    simp -dsimp only [↓kpre, kpost, light, ret1, cellF, afill, setAll, simprocAttr, ↓pZLO_6, qZLO_6, ndl, ne_eq, not_false_eq_true, zaaa, and_false, if_false, zaac, ↓sc, ↓nc, ↓oc, List.length_map, hm1, hm3, hm', ↓dc, hd']
    rw [parV, if_neg hm, if_pos hd20, failV, zahg]
   ·have hd' : ¬ (20 : Int) < x.depth := by omega
    simp -dsimp only [↓kpre, kpost, light, ret1, cellF, afill, setAll, simprocAttr, ↓pZLO_6, qZLO_6, ndl, ne_eq, not_false_eq_true, zaaa, and_false, if_false, zaac, ↓sc, ↓nc, ↓oc, List.length_map, hm1, hm3, hm', ↓dc, hd']
    rw [parV, if_neg hm, if_neg hd20]
end
end Go.Proofs.YtliemjbafgnnbaaGreatDoor.Abs
/- The law ParseTells: its text at value level. -/
namespace Go.Proofs.YtliemjbafgnnbaaGreatDoor.Abs
open Go
def pZLP_3 := And.intro (And.intro (@val29) (And.intro (@vfk4) (@vfk5))) (And.intro (And.intro (@vfk6) (@vfk7)) (And.intro (@vfk8) (@vfk9)))
def qZLP_3 := And.intro (And.intro (@vld29) (@vgt29)) (And.intro (@vst29) (And.intro (@vlr9) (@Tryz.results3)))
structure P6Off (X : VOuter) : Prop where
 parse : X 5 = none
 rparse : X 6 = none
 depth : X 14 = none
 rdepth : X 20 = none
 split : X 10 = none
 rsplit : X 15 = none
 same : X 7 = none
 rightn : X 9 = none
 num : X 8 = none
 tk : TkOff X
 rtk : RtkOff X
 pa : PaOff X
 rp : RpOff X
 rn : RnOff X
def ParR (s sh : ByteArray) (x : Nd) (k e : Int) : Prop := x.count ≤ 50000 ∧ (e = 0 → x.right = true ∧ x.depth ≤ 20)
theorem zapg (s : ByteArray) : (∃ T : List TK, splitF s s.size 0 [] = .ok T ∧ s.size ≤ 200 ∧ splitV s = .tuple ⟨[sl true 0 3 (T.map TK.v), .int .i64 (-1), .int .i64 0]⟩) ∨ ∃ k e : Int, ¬ e = 0 ∧ splitV s = .tuple ⟨[.slice none 0 0, .int .i64 k, .int .i64 e]⟩ := by
 unfold splitV
 by_cases h : (200 : Int) < s.size
 ·rw [if_pos h]; exact .inr ⟨0, 5, by decide, rfl⟩
 ·rw [if_neg h]
  cases hF : splitF s s.size 0 [] with
  | ok T => exact .inl ⟨T, rfl, by omega, rfl⟩
  | error k => exact .inr ⟨k, 3, by decide, rfl⟩
section
variable {X : VOuter}
theorem num6_c (hX : X 8 = none) (n : Int) (S : VH) (K : VCont) : Vcallee Tryz.prog X 8 [.int .i64 n] S K = K (.int .i64 n) [] S [] false := by
 refine zaag ?_ rfl rfl rfl
 unfold Vp
 refine zaaf hX Tryz.func8 rfl (by kernel_rfl) (by show 1 ≤ _; decide) ?_
 simp -dsimp only [↓kpre, kpost, light, ret1, cellF, afill, setAll, simprocAttr, Tryz.results8]
theorem zau9 (h : P6Off X) (s sh : ByteArray) : ∃ (x : Nd) (k e : Int), ParR s sh x k e ∧ Vp Tryz.prog X 5 [.string s, .string sh] (.tuple ⟨[.agg ⟨x.cs⟩, .int .i64 k, .int .i64 e]⟩) ∧ Vp Tryz.prog X 6 [.string s, .string sh] (.tuple ⟨[.agg ⟨x.cs⟩, .int .i64 k, .int .i64 e]⟩) := by
 have z1 : Nd.zero.count ≤ 50000 := by decide
 rcases zapg s with ⟨T, hF, hs, hv⟩ | ⟨k, e, he, hv⟩
 ·obtain ⟨hT, hl⟩ := zaq7 hs hF
  cases hn : nameF sh with
  | false => exact ⟨Nd.zero, 0, 1, ⟨z1, fun h => by cases h⟩, za5q h.parse h.split h.tk h.pa s sh hv hn, za3d h.rparse h.rsplit h.rtk h.rp s sh hv hn⟩
  | true =>
   obtain ⟨r, hp⟩ := (Pr.total (fin := s.size) (sh := sh) hT.kinds T.length 0 (by omega)).2.2.1 0 (by omega)
   have a := zaz6 h.parse h.split h.depth h.tk h.pa s sh hT (by omega) hv hn hp
   have b := za3e h.rparse h.rsplit h.rdepth h.rtk h.rp s sh hT (by omega) hv hn hp
   cases r with
   | error b' => exact ⟨Nd.zero, b', 3, ⟨z1, fun h => by cases h⟩, a, b⟩
   | ok xm =>
    obtain ⟨x, m⟩ := xm
    have hon := (hp.on _ _ rfl).2 (Nat.zero_le _)
    have hcnt := hp.count _ _ rfl
    simp only [Gl.had] at hcnt
    have hr := hp.right hT hn trivial
    unfold parV at a b
    simp only at a b
    by_cases hm : m < T.length
    ·rw [if_pos hm] at a b
     exact ⟨Nd.zero, _, 3, ⟨z1, fun h => by cases h⟩, a, b⟩
    ·rw [if_neg hm] at a b
     by_cases hd : 20 < x.depth
     ·rw [if_pos hd] at a b
      exact ⟨Nd.zero, 0, 4, ⟨z1, fun h => by cases h⟩, a, b⟩
     ·rw [if_neg hd] at a b
      exact ⟨x, -1, 0, ⟨by omega, fun _ => ⟨hr, by omega⟩⟩, a, b⟩
 ·exact ⟨Nd.zero, k, e, ⟨z1, fun h => absurd h he⟩, za5p h.parse h.split h.tk s sh he hv, za3c h.rparse h.rsplit h.rtk s sh he hv⟩
def T12 : List TK := [⟨1, 0, ⟨#[49]⟩⟩, ⟨5, 1, ⟨#[43]⟩⟩, ⟨1, 2, ⟨#[50]⟩⟩]
theorem sp12 : splitV ⟨#[49, 43, 50]⟩ = .tuple ⟨[sl true 0 3 (T12.map TK.v), .int .i64 (-1), .int .i64 0]⟩ := by kernel_rfl
theorem at1 : atoiN ⟨#[49]⟩ = some 1 := by kernel_rfl
theorem at2 : atoiN ⟨#[50]⟩ = some 2 := by kernel_rfl
theorem pr12 (fin : Nat) (sh : ByteArray) : Pr T12 fin sh (.pairs 0) 0 (.ok (Nd.pair ⟨#[43]⟩ (Nd.val (iV 1)) (Nd.val (iV 2)), 3)) := by
 have o1 : Pr T12 fin sh (.pairs 3) 0 (.ok (Nd.val (iV 1), 1)) := .pairs (by decide) (.top (.minusN (by decide) (.num (t := ⟨1, 0, ⟨#[49]⟩⟩) rfl rfl at1))) (.restN (by decide) (by decide))
 have o2 : Pr T12 fin sh (.pairs 3) 2 (.ok (Nd.val (iV 2), 3)) := .pairs (by decide) (.top (.minusN (by decide) (.num (t := ⟨1, 2, ⟨#[50]⟩⟩) rfl rfl at2))) (.restN (by decide) (by decide))
 have o3 : Pr T12 fin sh (.pairs 2) 0 (.ok (Nd.pair ⟨#[43]⟩ (Nd.val (iV 1)) (Nd.val (iV 2)), 3)) := .pairs (by decide) o1 (.restO (by decide) (op := ⟨#[43]⟩) (by decide) o2 (.restN (by decide) (by decide)))
 exact .pairs (by decide) (.pairs (by decide) o3 (.restN (by decide) (by decide))) (.restN (by decide) (by decide))
theorem tok12 : TokOk T12 := (zaq7 (s := ⟨#[49, 43, 50]⟩) (by decide) (by kernel_rfl)).1
theorem za14 (h : P6Off X) (ha : X 4 = none) : Vp Tryz.prog X 4 [] (.bool true) := by
 unfold Vp
 refine zaaf ha Tryz.func4 rfl (by kernel_rfl) (by show 0 ≤ _; decide) ?_
 have hn : nameF ⟨#[115]⟩ = true := by decide
 have pp := zaz6 h.parse h.split h.depth h.tk h.pa ⟨#[49, 43, 50]⟩ ⟨#[115]⟩ tok12 (by decide) sp12 hn (pr12 _ _)
 have e : parV T12 (ByteArray.size ⟨#[49, 43, 50]⟩) (.ok (Nd.pair ⟨#[43]⟩ (Nd.val (iV 1)) (Nd.val (iV 2)), 3)) = .tuple ⟨[.agg ⟨(Nd.pair ⟨#[43]⟩ (Nd.val (iV 1)) (Nd.val (iV 2))).cs⟩, .int .i64 (-1), .int .i64 0]⟩ := by
  unfold parV
  simp only
  rw [if_neg (by decide), if_neg (by decide)]
 rw [e, zaib] at pp
 have pc := fun S K => zaag (S := S) (K := K) (args := [.string ⟨#[49, 43, 50]⟩, .string ⟨#[115]⟩]) pp rfl rfl rfl
 have nc := fun n S K => num6_c h.num n S K
 simp -dsimp only [↓kpre, kpost, light, ret1, cellF, afill, setAll, simprocAttr, vld3, vgt3, vld9, vgt9, vld27, vgt27, vst29, ↓val29, zarj, zarq, zark, zarr, zai1, zai3, vlr27, vlo27, vlz27, vls27, vlw27, ↓vfk5, ↓vfk8, Tryz.results4, ndl, ne_eq, not_false_eq_true, zaaa, and_false, if_false, zaac, ↓pc, ↓nc, ab_seq]
theorem lawP_v (h : P6Off X) (ha : X 4 = none) (hL : X 3 = none) (s sh : ByteArray) : Vp Tryz.prog X 3 [.string s, .string sh] (.bool true) := by
 unfold Vp
 refine zaaf hL Tryz.func3 rfl (by kernel_rfl) (by show 2 ≤ _; decide) ?_
 have al := fun S K => zaag (S := S) (K := K) (args := []) (za14 h ha) rfl rfl rfl
 have nc := fun n S K => num6_c h.num n S K
 obtain ⟨x, k, e, ⟨hc, hr⟩, h1, h2⟩ := zau9 h s sh
 have ok : okv 0 false (.tuple ⟨[.agg ⟨x.cs⟩, .int .i64 k, .int .i64 e]⟩) = true := by simp only [zafb, zae6, List.all_cons, List.all_nil, nd_okv, zaia, Bool.and_self]
 have pc := fun S K => zaag (S := S) (K := K) (args := [.string s, .string sh]) h1 rfl rfl ok
 have rc := fun S K => zaag (S := S) (K := K) (args := [.string s, .string sh]) h2 rfl rfl ok
 have sm := za58 h.same x x hc hc
 rw [Nd.same_refl] at sm
 have sc := fun S K => zaag (S := S) (K := K) (args := [.agg ⟨x.cs⟩, .agg ⟨x.cs⟩]) sm (by simp only [zaap, zaa0, zab3, zaix]) (by simp only [zadn, zafe, zae6, nd_okv, Bool.and_true]) rfl
 by_cases h3 : (300 : Int) < s.size
 ·simp -dsimp only [↓kpre, kpost, light, ret1, cellF, afill, setAll, simprocAttr, ↓pZLP_3, qZLP_3, ndl, ne_eq, not_false_eq_true, zaaa, and_false, if_false, zaac, ↓al, h3]
 ·by_cases h20 : (20 : Int) < sh.size
  ·simp -dsimp only [↓kpre, kpost, light, ret1, cellF, afill, setAll, simprocAttr, ↓pZLP_3, qZLP_3, ndl, ne_eq, not_false_eq_true, zaaa, and_false, if_false, zaac, ↓al, h3, h20]
  ·by_cases he : e = 0
   ·subst he
    obtain ⟨hr1, hr2⟩ := hr rfl
    have rn := fun S K => zaj3 (zasm h.rightn h.rn x hr1 hc hr2) rfl S K
    simp -dsimp only [↓kpre, kpost, light, ret1, cellF, afill, setAll, simprocAttr, ↓pZLP_3, qZLP_3, ndl, ne_eq, not_false_eq_true, zaaa, and_false, if_false, zaac, ↓al, ↓nc, h3, h20, ↓pc, ↓rc, ↓sc, ↓rn]
   ·simp -dsimp only [↓kpre, kpost, light, ret1, cellF, afill, setAll, simprocAttr, ↓pZLP_3, qZLP_3, ndl, ne_eq, not_false_eq_true, zaaa, and_false, if_false, zaac, ↓al, ↓nc, h3, h20, ↓pc, ↓rc, ↓sc, he]
theorem lawP_p (h : P6Off X) (ha : X 4 = none) (hL : X 3 = none) (s sh : ByteArray) : Vf Tryz.prog X 3 [.string s, .string sh] [] fun v _ => v = .bool true := by
 have := lawP_v h ha hL s sh
 unfold Vp at this
 exact this.mono fun v ws h => h.2
end
end Go.Proofs.YtliemjbafgnnbaaGreatDoor.Abs
