/- Formulas and how tokens make one: the plain law. -/
import Derived.Test.YtliemjbafgnnbaaGreatDoorMI1
import Derived.Test.YtliemjbafgnnbaaGreatDoorMH1
import Derived.Test.YtliemjbafgnnbaaGreatDoorPW29
import Derived.Test.YtliemjbafgnnbaaGreatDoorMW7
import Derived.Test.YtliemjbafgnnbaaGreatDoorMB1
set_option linter.defProp false
set_option linter.unnecessarySimpa false
set_option linter.unusedSimpArgs false
set_option linter.unusedVariables false
set_option maxRecDepth 4000
set_option maxHeartbeats 0
namespace Go.Proofs.YtliemjbafgnnbaaGreatDoor.Abs
open Go
inductive Nd where
 | mk (k : Int) (op nm : ByteArray) (x : VV) (c t : CC) (z : Bool) (kids : List Nd)
mutual
def Nd.cs : Nd → List Value
 | .mk k op nm x c t z kids => [.int .i64 k, .string op, .string nm, .int .i64 x.k, .int .i64 x.n, .string x.s, .string c.s, .int .i64 c.c, .int .i64 c.r, .string t.s, .int .i64 t.c, .int .i64 t.r, sl z 0 13 (Nd.vs kids)]
def Nd.vs : List Nd → List Value
 | [] => []
 | a :: l => .agg ⟨a.cs⟩ :: Nd.vs l
end
abbrev Nd.v (x : Nd) : Value := .agg ⟨x.cs⟩
theorem nd_vs (l : List Nd) : Nd.vs l = l.map Nd.v := by
 induction l with
 | nil => rfl
 | cons a l ih => rw [Nd.vs, ih]; rfl
def c0 : CC := ⟨.empty, 0, 0⟩
def v0 : VV := ⟨0, 0, .empty⟩
def Nd.zero : Nd := .mk 0 .empty .empty v0 c0 c0 true []
def Nd.val (x : VV) : Nd := .mk 1 .empty .empty x c0 c0 true []
def Nd.cell (c : CC) : Nd := .mk 2 .empty .empty v0 c c0 true []
def Nd.range (c t : CC) : Nd := .mk 3 .empty .empty v0 c t true []
def Nd.neg (a : Nd) : Nd := .mk 4 ⟨#[45]⟩ .empty v0 c0 c0 true [a]
def Nd.pair (op : ByteArray) (a b : Nd) : Nd := .mk 5 op .empty v0 c0 c0 true [a, b]
def Nd.call (nm : ByteArray) (l : List Nd) : Nd := .mk 6 .empty nm v0 c0 c0 true l
def Nd.bad : Nd := .mk 7 .empty .empty v0 c0 c0 true []
def sgn (T : List TK) (n : Nat) (s : ByteArray) : Bool := match T[n]? with
 | some t => decide (t.k = 5) && decide (t.t = s)
 | none => false
def atT (T : List TK) (fin n : Nat) : Nat := match T[n]? with
 | some t => t.a
 | none => fin
def opsL : Nat → List ByteArray
 | 0 => [⟨#[61]⟩, ⟨#[60, 62]⟩, ⟨#[60]⟩, ⟨#[62]⟩, ⟨#[60, 61]⟩, ⟨#[62, 61]⟩]
 | 1 => [⟨#[38]⟩]
 | 2 => [⟨#[43]⟩, ⟨#[45]⟩]
 | 3 => [⟨#[42]⟩, ⟨#[47]⟩]
 | _ => []
def opAt (T : List TK) (rank n : Nat) : Option ByteArray := match T[n]? with
 | some t => if decide (t.k = 5) && (opsL rank).any (fun o => decide (t.t = o)) then some t.t else none
 | none => none
def placeT (T : List TK) (n : Nat) : Option (Int × Int) := match T[n]? with
 | some t => if t.k = 3 then atF t.t else none
 | none => none
def smallF (a b : CC) : Bool := areaF a b && decide (areaN a b ≤ 400)
def cellG (T : List TK) (fin : Nat) (sh : ByteArray) (n ahead : Nat) : Except Nat (Nd × Nat) := match placeT T (n + ahead) with
 | none => .error (atT T fin n)
 | some cr => if sgn T (n + ahead + 1) ⟨#[58]⟩ then (match placeT T (n + ahead + 2) with
     | some de => if smallF ⟨sh, cr.1, cr.2⟩ ⟨sh, de.1, de.2⟩ then .ok (Nd.range ⟨sh, cr.1, cr.2⟩ ⟨sh, de.1, de.2⟩, n + ahead + 3) else .error (atT T fin n)
     | none => .error (atT T fin n)) else .ok (Nd.cell ⟨sh, cr.1, cr.2⟩, n + ahead + 1)
def sTRUE : ByteArray := ⟨#[84, 82, 85, 69]⟩
def sFALSE : ByteArray := ⟨#[70, 65, 76, 83, 69]⟩
def sREF : ByteArray := ⟨#[82, 69, 70]⟩
def callN (s : ByteArray) : Bool := decide (1 ≤ (s.size : Int)) && decide ((s.size : Int) ≤ 8) && !decide (s = sTRUE) && !decide (s = sFALSE) && (List.range s.size).all (atB greatB s)
inductive Gl where
 | pairs (rank : Nat)
 | rest (rank : Nat) (x : Nd)
 | minus
 | one
 | args (nm : ByteArray) (kids : List Nd)
inductive Pr (T : List TK) (fin : Nat) (sh : ByteArray) : Gl → Nat → Except Nat (Nd × Nat) → Prop
 | top {n r} : Pr T fin sh .minus n r → Pr T fin sh (.pairs 4) n r
 | pairs {rank n x m r} : rank < 4 → Pr T fin sh (.pairs (rank + 1)) n (.ok (x, m)) → Pr T fin sh (.rest rank x) m r → Pr T fin sh (.pairs rank) n r
 | pairsE {rank n b} : rank < 4 → Pr T fin sh (.pairs (rank + 1)) n (.error b) → Pr T fin sh (.pairs rank) n (.error b)
 | restN {rank x n} : rank < 4 → opAt T rank n = none → Pr T fin sh (.rest rank x) n (.ok (x, n))
 | restO {rank x n op y m r} : rank < 4 → opAt T rank n = some op → Pr T fin sh (.pairs (rank + 1)) (n + 1) (.ok (y, m)) → Pr T fin sh (.rest rank (Nd.pair op x y)) m r → Pr T fin sh (.rest rank x) n r
 | restE {rank x n op b} : rank < 4 → opAt T rank n = some op → Pr T fin sh (.pairs (rank + 1)) (n + 1) (.error b) → Pr T fin sh (.rest rank x) n (.error b)
 | minusN {n r} : sgn T n ⟨#[45]⟩ = false → Pr T fin sh .one n r → Pr T fin sh .minus n r
 | minusO {n x m} : sgn T n ⟨#[45]⟩ = true → Pr T fin sh .minus (n + 1) (.ok (x, m)) → Pr T fin sh .minus n (.ok (Nd.neg x, m))
 | minusE {n b} : sgn T n ⟨#[45]⟩ = true → Pr T fin sh .minus (n + 1) (.error b) → Pr T fin sh .minus n (.error b)
 | num {n t v} : T[n]? = some t → t.k = 1 → atoiN t.t = some v → Pr T fin sh .one n (.ok (Nd.val (iV v), n + 1))
 | numE {n t} : T[n]? = some t → t.k = 1 → atoiN t.t = none → Pr T fin sh .one n (.error t.a)
 | text {n t} : T[n]? = some t → t.k = 2 → Pr T fin sh .one n (.ok (Nd.val ⟨2, 0, t.t⟩, n + 1))
 | yes {n t} : T[n]? = some t → t.k = 3 → t.t = sTRUE → Pr T fin sh .one n (.ok (Nd.val (bV true), n + 1))
 | no {n t} : T[n]? = some t → t.k = 3 → t.t = sFALSE → Pr T fin sh .one n (.ok (Nd.val (bV false), n + 1))
 | lost {n t} : T[n]? = some t → t.k = 3 → t.t = sREF → sgn T (n + 1) ⟨#[33]⟩ = true → Pr T fin sh .one n (.ok (Nd.bad, n + 2))
 | call {n t r} : T[n]? = some t → t.k = 3 → callN t.t = true → sgn T (n + 1) ⟨#[40]⟩ = true → Pr T fin sh (.args t.t []) (n + 2) r → Pr T fin sh .one n r
 | word {n t} : T[n]? = some t → t.k = 3 → t.t ≠ sTRUE → t.t ≠ sFALSE → (decide (t.t = sREF) && sgn T (n + 1) ⟨#[33]⟩) = false → (callN t.t && sgn T (n + 1) ⟨#[40]⟩) = false → Pr T fin sh .one n (cellG T fin sh n 0)
 | name {n t} : T[n]? = some t → t.k = 4 → nameF t.t = true → sgn T (n + 1) ⟨#[33]⟩ = true → Pr T fin sh .one n (cellG T fin t.t n 2)
 | nameE {n t} : T[n]? = some t → t.k = 4 → (nameF t.t && sgn T (n + 1) ⟨#[33]⟩) = false → Pr T fin sh .one n (.error t.a)
 | par {n x m} : sgn T n ⟨#[40]⟩ = true → Pr T fin sh (.pairs 0) (n + 1) (.ok (x, m)) → sgn T m ⟨#[41]⟩ = true → Pr T fin sh .one n (.ok (x, m + 1))
 | parE {n b} : sgn T n ⟨#[40]⟩ = true → Pr T fin sh (.pairs 0) (n + 1) (.error b) → Pr T fin sh .one n (.error b)
 | parF {n x m} : sgn T n ⟨#[40]⟩ = true → Pr T fin sh (.pairs 0) (n + 1) (.ok (x, m)) → sgn T m ⟨#[41]⟩ = false → Pr T fin sh .one n (.error (atT T fin m))
 | fin {n} : T[n]? = none → Pr T fin sh .one n (.error fin)
 | sign {n t} : T[n]? = some t → t.k = 5 → sgn T n ⟨#[40]⟩ = false → Pr T fin sh .one n (.error t.a)
 | args0 {nm n} : sgn T n ⟨#[41]⟩ = true → Pr T fin sh (.args nm []) n (.ok (Nd.call nm [], n + 1))
 | argsE {nm kids n b} : (kids = [] → sgn T n ⟨#[41]⟩ = false) → Pr T fin sh (.pairs 0) n (.error b) → Pr T fin sh (.args nm kids) n (.error b)
 | argsZ {nm kids n x m} : (kids = [] → sgn T n ⟨#[41]⟩ = false) → Pr T fin sh (.pairs 0) n (.ok (x, m)) → sgn T m ⟨#[41]⟩ = true → Pr T fin sh (.args nm kids) n (.ok (Nd.call nm (kids ++ [x]), m + 1))
 | argsS {nm kids n x m} : (kids = [] → sgn T n ⟨#[41]⟩ = false) → Pr T fin sh (.pairs 0) n (.ok (x, m)) → sgn T m ⟨#[41]⟩ = false → (sgn T m ⟨#[44]⟩ && !decide (kids.length + 1 = 20)) = false → Pr T fin sh (.args nm kids) n (.error (atT T fin m))
 | argsC {nm kids n x m r} : (kids = [] → sgn T n ⟨#[41]⟩ = false) → Pr T fin sh (.pairs 0) n (.ok (x, m)) → sgn T m ⟨#[41]⟩ = false → sgn T m ⟨#[44]⟩ = true → kids.length + 1 ≠ 20 → Pr T fin sh (.args nm (kids ++ [x])) (m + 1) r → Pr T fin sh (.args nm kids) n r
section
variable {T : List TK} {fin : Nat} {sh : ByteArray}
theorem sgn_lt {n : Nat} {s : ByteArray} (h : sgn T n s = true) : n < T.length := by
 unfold sgn at h
 split at h
 ·rename_i t ht; exact (List.getElem?_eq_some_iff.1 ht).1
 ·cases h
theorem zak8 {rank n : Nat} {s : ByteArray} (h : opAt T rank n = some s) : n < T.length := by
 unfold opAt at h
 split at h
 ·rename_i t ht; exact (List.getElem?_eq_some_iff.1 ht).1
 ·cases h
theorem zaqw {n : Nat} {p : Int × Int} (h : placeT T n = some p) : n < T.length := by
 unfold placeT at h
 split at h
 ·rename_i t ht; exact (List.getElem?_eq_some_iff.1 ht).1
 ·cases h
def Gl.on (g : Gl) (n m : Nat) : Prop := match g with
 | .rest _ _ => n ≤ m
 | _ => n < m
theorem zal4 {sh : ByteArray} {n ahead : Nat} {x : Nd} {m : Nat} (h : cellG T fin sh n ahead = .ok (x, m)) : n < m ∧ m ≤ T.length := by
 unfold cellG at h
 split at h
 ·cases h
 ·rename_i cr hp
  have := zaqw hp
  split at h
  ·split at h
   ·rename_i de hd
    have := zaqw hd
    split at h
    ·cases h; omega
    ·cases h
   ·cases h
  ·cases h; omega
theorem Pr.on {g : Gl} {n : Nat} {r : Except Nat (Nd × Nat)} (h : Pr T fin sh g n r) : ∀ x m, r = .ok (x, m) → g.on n m ∧ (n ≤ T.length → m ≤ T.length) := by
 induction h with
 | top h ih => intro x m e; exact ih x m e
 | pairs hr h1 h2 ih1 ih2 =>
  intro x m e
  have a := ih1 _ _ rfl
  have b := ih2 _ _ e
  simp only [Gl.on] at a b ⊢
  omega
 | restN hr h => intro x m e; cases e; exact ⟨Nat.le_refl _, fun h => h⟩
 | restO hr h h1 h2 ih1 ih2 =>
  intro x m e
  have a := ih1 _ _ rfl
  have b := ih2 _ _ e
  have := zak8 h
  simp only [Gl.on] at a b ⊢
  omega
 | minusN h h1 ih => intro x m e; exact ih x m e
 | minusO h h1 ih =>
  intro x m e
  cases e
  have a := ih _ _ rfl
  have := sgn_lt h
  simp only [Gl.on] at a ⊢
  omega
 | num ht hk hv => intro x m e; cases e; have := (List.getElem?_eq_some_iff.1 ht).1; simp only [Gl.on]; omega
 | text ht hk => intro x m e; cases e; have := (List.getElem?_eq_some_iff.1 ht).1; simp only [Gl.on]; omega
 | yes ht hk _ => intro x m e; cases e; have := (List.getElem?_eq_some_iff.1 ht).1; simp only [Gl.on]; omega
 | no ht hk _ => intro x m e; cases e; have := (List.getElem?_eq_some_iff.1 ht).1; simp only [Gl.on]; omega
 | lost ht hk _ h => intro x m e; cases e; have := sgn_lt h; simp only [Gl.on]; omega
 | call ht hk hc h h1 ih =>
  intro x m e
  have a := ih _ _ e
  have := sgn_lt h
  simp only [Gl.on] at a ⊢
  omega
 | word => intro x m e; have := zal4 e; simp only [Gl.on]; omega
 | name => intro x m e; have := zal4 e; simp only [Gl.on]; omega
 | par h h1 h2 ih =>
  intro x m e
  cases e
  have a := ih _ _ rfl
  have := sgn_lt h
  have := sgn_lt h2
  simp only [Gl.on] at a ⊢
  omega
 | args0 h => intro x m e; cases e; have := sgn_lt h; simp only [Gl.on]; omega
 | argsZ hk h1 h2 ih =>
  intro x m e
  cases e
  have a := ih _ _ rfl
  have := sgn_lt h2
  simp only [Gl.on] at a ⊢
  omega
 | argsC hk h1 h2 h3 hl h4 ih1 ih2 =>
  intro x m e
  have a := ih1 _ _ rfl
  have b := ih2 _ _ e
  have := sgn_lt h3
  simp only [Gl.on] at a b ⊢
  omega
 | _ => intro x m e; cases e
def kindsT (T : List TK) : Prop := ∀ t ∈ T, t.k = 1 ∨ t.k = 2 ∨ t.k = 3 ∨ t.k = 4 ∨ t.k = 5
theorem Pr.total (hT : kindsT T) : ∀ d n, T.length - n ≤ d → (∃ r, Pr T fin sh .one n r) ∧ (∃ r, Pr T fin sh .minus n r) ∧ (∀ rank, rank ≤ 4 → ∃ r, Pr T fin sh (.pairs rank) n r) ∧ (∀ rank x, rank < 4 → ∃ r, Pr T fin sh (.rest rank x) n r) ∧ (∀ nm kids, ∃ r, Pr T fin sh (.args nm kids) n r) := by
 intro d
 induction d using Nat.strongRecOn with
 | ind d IH =>
 intro n hn
 have nx : ∀ m, n < m → n < T.length → (∃ r, Pr T fin sh .one m r) ∧ (∃ r, Pr T fin sh .minus m r) ∧ (∀ rank, rank ≤ 4 → ∃ r, Pr T fin sh (.pairs rank) m r) ∧ (∀ rank x, rank < 4 → ∃ r, Pr T fin sh (.rest rank x) m r) ∧ (∀ nm kids, ∃ r, Pr T fin sh (.args nm kids) m r) :=
  fun m h1 h2 => IH (T.length - m) (by omega) m (Nat.le_refl _)
 have hone : ∃ r, Pr T fin sh .one n r := by
  cases ht : T[n]? with
  | none => exact ⟨_, .fin ht⟩
  | some t =>
   have hl := (List.getElem?_eq_some_iff.1 ht).1
   rcases hT t (List.mem_of_getElem? ht) with hk | hk | hk | hk | hk
   ·cases ha : atoiN t.t with
    | none => exact ⟨_, .numE ht hk ha⟩
    | some v => exact ⟨_, .num ht hk ha⟩
   ·exact ⟨_, .text ht hk⟩
   ·by_cases h1 : t.t = sTRUE
    ·exact ⟨_, .yes ht hk h1⟩
    ·by_cases h2 : t.t = sFALSE
     ·exact ⟨_, .no ht hk h2⟩
     ·cases h3 : decide (t.t = sREF) && sgn T (n + 1) ⟨#[33]⟩ with
      | true =>
       simp only [Bool.and_eq_true, decide_eq_true_eq] at h3
       exact ⟨_, .lost ht hk h3.1 h3.2⟩
      | false =>
       cases h4 : callN t.t && sgn T (n + 1) ⟨#[40]⟩ with
       | true =>
        simp only [Bool.and_eq_true] at h4
        obtain ⟨r, hr⟩ := (nx (n + 2) (by omega) hl).2.2.2.2 t.t []
        exact ⟨_, .call ht hk h4.1 h4.2 hr⟩
       | false => exact ⟨_, .word ht hk h1 h2 h3 h4⟩
   ·cases h3 : nameF t.t && sgn T (n + 1) ⟨#[33]⟩ with
    | true =>
     simp only [Bool.and_eq_true] at h3
     exact ⟨_, .name ht hk h3.1 h3.2⟩
    | false => exact ⟨_, .nameE ht hk h3⟩
   ·cases h3 : sgn T n ⟨#[40]⟩ with
    | false => exact ⟨_, .sign ht hk h3⟩
    | true =>
     obtain ⟨r, hr⟩ := (nx (n + 1) (by omega) hl).2.2.1 0 (by omega)
     cases r with
     | error b => exact ⟨_, .parE h3 hr⟩
     | ok xm =>
      obtain ⟨x, m⟩ := xm
      cases h4 : sgn T m ⟨#[41]⟩ with
      | true => exact ⟨_, .par h3 hr h4⟩
      | false => exact ⟨_, .parF h3 hr h4⟩
 have hminus : ∃ r, Pr T fin sh .minus n r := by
  cases h3 : sgn T n ⟨#[45]⟩ with
  | false => obtain ⟨r, hr⟩ := hone; exact ⟨_, .minusN h3 hr⟩
  | true =>
   obtain ⟨r, hr⟩ := (nx (n + 1) (by omega) (sgn_lt h3)).2.1
   cases r with
   | error b => exact ⟨_, .minusE h3 hr⟩
   | ok xm => exact ⟨_, .minusO h3 hr⟩
 have hrest : ∀ rank x, rank < 4 → ∃ r, Pr T fin sh (.rest rank x) n r := by
  intro rank x hr4
  cases ho : opAt T rank n with
  | none => exact ⟨_, .restN hr4 ho⟩
  | some op =>
   have hl := zak8 ho
   obtain ⟨r, hr⟩ := (nx (n + 1) (by omega) hl).2.2.1 (rank + 1) (by omega)
   cases r with
   | error b => exact ⟨_, .restE hr4 ho hr⟩
   | ok xm =>
    obtain ⟨y, m⟩ := xm
    have := (hr.on _ _ rfl).1
    simp only [Gl.on] at this
    obtain ⟨r, hr2⟩ := (nx m (by omega) hl).2.2.2.1 rank (Nd.pair op x y) hr4
    exact ⟨_, .restO hr4 ho hr hr2⟩
 have hpairs : ∀ k rank, rank + k = 4 → ∃ r, Pr T fin sh (.pairs rank) n r := by
  intro k
  induction k with
  | zero => intro rank e; obtain ⟨r, hr⟩ := hminus; have e4 : rank = 4 := e; rw [e4]; exact ⟨_, .top hr⟩
  | succ k ih =>
   intro rank e
   obtain ⟨r, hr⟩ := ih (rank + 1) (by omega)
   cases r with
   | error b => exact ⟨_, .pairsE (by omega) hr⟩
   | ok xm =>
    obtain ⟨x, m⟩ := xm
    have := (hr.on _ _ rfl).1
    simp only [Gl.on] at this
    rcases Nat.lt_or_ge n T.length with hl | hl
    ·obtain ⟨r, hr2⟩ := (nx m this hl).2.2.2.1 rank x (by omega)
     exact ⟨_, .pairs (by omega) hr hr2⟩
    ·have ho : opAt T rank m = none := by
      unfold opAt
      rw [List.getElem?_eq_none (by omega)]
     exact ⟨_, .pairs (by omega) hr (.restN (by omega) ho)⟩
 refine ⟨hone, hminus, fun rank h => hpairs (4 - rank) rank (by omega), hrest, ?_⟩
 intro nm kids
 by_cases h0 : kids = [] ∧ sgn T n ⟨#[41]⟩ = true
 ·obtain ⟨rfl, h0⟩ := h0; exact ⟨_, .args0 h0⟩
 ·have h0' : kids = [] → sgn T n ⟨#[41]⟩ = false := fun h => by
   cases hs : sgn T n ⟨#[41]⟩ with
   | false => rfl
   | true => exact absurd ⟨h, hs⟩ h0
  obtain ⟨r, hr⟩ := hpairs 4 0 rfl
  cases r with
  | error b => exact ⟨_, .argsE h0' hr⟩
  | ok xm =>
   obtain ⟨x, m⟩ := xm
   cases h4 : sgn T m ⟨#[41]⟩ with
   | true => exact ⟨_, .argsZ h0' hr h4⟩
   | false =>
    cases h5 : sgn T m ⟨#[44]⟩ && !decide (kids.length + 1 = 20) with
    | false => exact ⟨_, .argsS h0' hr h4 h5⟩
    | true =>
     simp only [Bool.and_eq_true, Bool.not_eq_true', decide_eq_false_iff_not] at h5
     have := (hr.on _ _ rfl).1
     have hl := sgn_lt h5.1
     simp only [Gl.on] at this
     obtain ⟨r, hr2⟩ := (nx (m + 1) (by omega) (by omega)).2.2.2.2 nm (kids ++ [x])
     exact ⟨_, .argsC h0' hr h4 h5.1 h5.2 hr2⟩
end
end Go.Proofs.YtliemjbafgnnbaaGreatDoor.Abs
/- Formulas: which nodes are right, how deep one is, which two are the same; what tokens make is right. -/
namespace Go.Proofs.YtliemjbafgnnbaaGreatDoor.Abs
open Go
def stepF (a : Nat) (c : UInt8) : Nat := 10 * a + (c.toNat - 48)
def valF (acc : Nat) (l : List UInt8) : Nat := l.foldl stepF acc
def digF (acc : Nat) : List UInt8 → Option Nat
 | [] => some acc
 | c :: r => if (9223372036854775807 - (c.toNat - 48)) / 10 < acc then none else digF (stepF acc c) r
def digL (l : List UInt8) : Prop := ∀ c ∈ l, 48 ≤ c.toNat ∧ c.toNat ≤ 57
theorem zapk (acc : Nat) : valF acc [] = acc := _root_.id rfl
theorem zamo (acc : Nat) (c : UInt8) (r : List UInt8) : valF acc (c :: r) = valF (stepF acc c) r := _root_.id rfl
theorem zat6 (acc : Nat) : digF acc [] = some acc := _root_.id rfl
theorem zap1 (acc : Nat) (c : UInt8) (r : List UInt8) : digF acc (c :: r) = if (9223372036854775807 - (c.toNat - 48)) / 10 < acc then none else digF (stepF acc c) r := _root_.id rfl
theorem za0q (l : List UInt8) : ∀ (acc : Nat), acc ≤ valF acc l := by
 induction l with
 | nil => intro acc; rw [zapk]; exact Nat.le_refl _
 | cons c r ih =>
  intro acc
  have := ih (stepF acc c)
  rw [zamo]
  unfold stepF at this ⊢
  omega
theorem za2g (l : List UInt8) : ∀ (acc : Nat), digL l → acc ≤ 9223372036854775807 → digF acc l = if valF acc l ≤ 9223372036854775807 then some (valF acc l) else none := by
 induction l with
 | nil => intro acc hd ha; rw [zat6, zapk, if_pos ha]
 | cons c r ih =>
  intro acc hd ha
  have hc := hd c (List.mem_cons_self ..)
  rw [zap1, zamo]
  by_cases h : (9223372036854775807 - (c.toNat - 48)) / 10 < acc
  ·have := za0q r (stepF acc c)
   have e : stepF acc c = 10 * acc + (c.toNat - 48) := _root_.id rfl
   rw [if_pos h, if_neg (by omega)]
  ·rw [if_neg h]
   have e : stepF acc c = 10 * acc + (c.toNat - 48) := _root_.id rfl
   exact ih _ (fun x hx => hd x (List.mem_cons_of_mem _ hx)) (by omega)
theorem zava (acc : Nat) (c : UInt8) (r : List UInt8) (hc : 48 ≤ c.toNat ∧ c.toNat ≤ 57) : Lib.parseUint10 acc (c :: r) =
      if 1844674407370955162 ≤ acc then .range
      else if 18446744073709551616 ≤ acc * 10 + (c.toNat - 48) then .range
      else Lib.parseUint10 (acc * 10 + (c.toNat - 48)) r := by rw [Lib.parseUint10, if_pos hc]
theorem zax9 (acc : Nat) : Lib.parseUint10 acc [] = .ok acc := by rw [Lib.parseUint10]
theorem zaya (l : List UInt8) : ∀ (acc : Nat), digL l → acc < 18446744073709551616 → Lib.parseUint10 acc l = if valF acc l < 18446744073709551616 then .ok (valF acc l) else .range := by
 induction l with
 | nil => intro acc hd ha; rw [zax9, zapk, if_pos ha]
 | cons c r ih =>
  intro acc hd ha
  have hc := hd c (List.mem_cons_self ..)
  have hv := za0q r (stepF acc c)
  have e : acc * 10 + (c.toNat - 48) = stepF acc c := by unfold stepF; omega
  have e2 : stepF acc c = 10 * acc + (c.toNat - 48) := _root_.id rfl
  rw [zava _ _ _ hc, zamo]
  by_cases h1 : 1844674407370955162 ≤ acc
  ·rw [if_pos h1, if_neg (by omega)]
  ·rw [if_neg h1, e]
   by_cases h2 : 18446744073709551616 ≤ stepF acc c
   ·rw [if_pos h2, if_neg (by omega)]
   ·rw [if_neg h2]
    exact ih _ (fun x hx => hd x (List.mem_cons_of_mem _ hx)) (by omega)
theorem zaxc (c : UInt8) (r : List UInt8) (h1 : ¬ (c.toNat = 43 ∨ c.toNat = 45)) (h2 : ¬ c.toNat = 45) : Lib.atoiAll (c :: r) = match Lib.parseUint10 0 (c :: r) with
    | .range => .range
    | .ok u => if 9223372036854775808 ≤ u then .range else .ok (u : Int)
    | _ => Lib.atoiAll [] := by
 have e : Lib.parseMag (if c.toNat = 43 ∨ c.toNat = 45 then r else c :: r) = Lib.parseUint10 0 (c :: r) := by
  rw [if_neg h1]
  unfold Lib.parseMag
  rw [if_neg (by simp)]
 conv => lhs; unfold Lib.atoiAll
 simp only
 rw [e]
 cases Lib.parseUint10 0 (c :: r) with
 | ok u =>
  simp only
  by_cases h : 9223372036854775808 ≤ u
  ·rw [if_pos ⟨h2, h⟩, if_pos h]
  ·rw [if_neg (fun k => h k.2), if_neg (fun k => h2 k.1), if_neg h2, if_neg h]
 | range => rfl
 | _ => rfl
theorem zaou (s : ByteArray) (h0 : s.data.toList ≠ []) (hd : digL s.data.toList) : atoiN s = Option.map (fun n : Nat => (n : Int)) (digF 0 s.data.toList) := by
 unfold atoiN
 cases hl : s.data.toList with
 | nil => exact absurd hl h0
 | cons c r =>
  rw [hl] at hd
  have hc := hd c (List.mem_cons_self ..)
  rw [zaxc c r (by omega) (by omega), zaya _ 0 hd (by omega), za2g _ 0 hd (by omega)]
  generalize valF 0 (c :: r) = u
  by_cases h1 : u ≤ 9223372036854775807
  ·have h3 : u < 18446744073709551616 := by omega
   have h4 : ¬ 9223372036854775808 ≤ u := by omega
   rw [if_pos h3, if_pos h1]
   simp only
   rw [if_neg h4]
   rfl
  ·rw [if_neg h1]
   by_cases h2 : u < 18446744073709551616
   ·rw [if_pos h2]
    have h3 : 9223372036854775808 ≤ u := by omega
    simp only
    rw [if_pos h3]
    rfl
   ·rw [if_neg h2]
    rfl
def isE (s : ByteArray) : Bool := decide (s = .empty)
def isC0 (c : CC) : Bool := eqC c c0
def isV0 (x : VV) : Bool := decide (x.k = 0) && (decide (x.n = 0) && isE x.s)
def bareF (k : Int) (op nm : ByteArray) (x : VV) (c t : CC) (m : Nat) : Bool :=
 if k = 1 then isE op && isE nm && isC0 c && isC0 t && decide (m = 0)
 else if k = 2 then isE op && isE nm && isV0 x && isC0 t && decide (m = 0)
 else if k = 3 then isE op && isE nm && isV0 x && decide (m = 0)
 else if k = 4 ∨ k = 5 then isE nm && isV0 x && isC0 c && isC0 t
 else if k = 6 then isE op && isV0 x && isC0 c && isC0 t
 else if k = 7 then isE op && isE nm && isV0 x && isC0 c && isC0 t && decide (m = 0)
 else false
def constF (x : VV) : Bool := rightF x && ((decide (x.k = 1) && decide (0 ≤ x.n)) || (decide (x.k = 2) || decide (x.k = 3)))
def allOps : List ByteArray := [⟨#[43]⟩, ⟨#[45]⟩, ⟨#[42]⟩, ⟨#[47]⟩, ⟨#[38]⟩, ⟨#[61]⟩, ⟨#[60, 62]⟩, ⟨#[60]⟩, ⟨#[62]⟩, ⟨#[60, 61]⟩, ⟨#[62, 61]⟩]
def opF (s : ByteArray) : Bool := allOps.any fun o => decide (o = s)
def fieldsF (k : Int) (op nm : ByteArray) (x : VV) (c t : CC) (m : Nat) : Bool :=
 if k = 1 then constF x
 else if k = 2 then celF c.s c.c c.r
 else if k = 3 then smallF c t
 else if k = 4 then decide (op = ⟨#[45]⟩) && decide (m = 1)
 else if k = 5 then opF op && decide (m = 2)
 else if k = 6 then callN nm && decide (m ≤ 20)
 else true
mutual
def Nd.right : Nd → Bool
 | .mk k op nm x c t z kids => bareF k op nm x c t kids.length && fieldsF k op nm x c t kids.length && Nd.rights kids
def Nd.rights : List Nd → Bool
 | [] => true
 | a :: l => a.right && Nd.rights l
end
theorem zaqk (l : List Nd) : Nd.rights l = l.all Nd.right := by
 induction l with
 | nil => rfl
 | cons a l ih => simp [Nd.rights, ih]
mutual
def Nd.depth : Nd → Nat
 | .mk _ _ _ _ _ _ _ kids => Nd.deepest kids + 1
def Nd.deepest : List Nd → Nat
 | [] => 0
 | a :: l => max a.depth (Nd.deepest l)
end
mutual
def Nd.same : Nd → Nd → Bool
 | .mk k op nm x c t _ kids, .mk k' op' nm' x' c' t' _ kids' => decide (k = k') && (decide (op = op') && (decide (nm = nm') && ((decide (x.k = x'.k) && (decide (x.n = x'.n) && decide (x.s = x'.s))) && (eqC c c' && (eqC t t' && Nd.sames kids kids')))))
def Nd.sames : List Nd → List Nd → Bool
 | [], [] => true
 | a :: l, b :: m => a.same b && Nd.sames l m
 | _, _ => false
end
theorem zao0 (c : CC) : eqC c c = true := by simp [eqC]
mutual
theorem Nd.same_refl : ∀ a : Nd, a.same a = true
 | .mk k op nm x c t z kids => by simp [Nd.same, zao0, Nd.sames_refl kids]
theorem Nd.sames_refl : ∀ l : List Nd, Nd.sames l l = true
 | [] => rfl
 | a :: l => by simp [Nd.sames, Nd.same_refl a, Nd.sames_refl l]
end
structure TokOk (T : List TK) : Prop where
 kinds : kindsT T
 size : ∀ t ∈ T, t.t.size ≤ 200
 dig : ∀ t ∈ T, t.k = 1 → t.t.data.toList ≠ [] ∧ digL t.t.data.toList
def okR (r : Except Nat (Nd × Nat)) : Prop := match r with
 | .ok (x, _) => x.right = true
 | .error _ => True
def Gl.ok : Gl → Prop
 | .rest _ x => x.right = true
 | .args nm kids => callN nm = true ∧ kids.length ≤ 19 ∧ kids.all Nd.right = true
 | _ => True
theorem zatl {sh t : ByteArray} {c r : Int} (hs : nameF sh = true) (h : atF t = some (c, r)) : celF sh c r = true := by
 unfold celF
 rw [hs, (zatm h).1]
 rfl
theorem zayb {T : List TK} {n : Nat} {p : Int × Int} (h : placeT T n = some p) : ∃ t, atF t = some p := by
 unfold placeT at h
 split at h
 ·split at h
  ·exact ⟨_, h⟩
  ·cases h
 ·cases h
theorem zatr {T : List TK} {fin : Nat} {sh : ByteArray} {n ahead : Nat} (hs : nameF sh = true) : okR (cellG T fin sh n ahead) := by
 unfold cellG
 split
 ·trivial
 ·rename_i cr hp
  obtain ⟨t, ht⟩ := zayb hp
  split
  ·split
   ·split
    ·rename_i h
     simp [okR, Nd.range, Nd.right, bareF, fieldsF, Nd.rights, h, isE, isV0, v0]
    ·trivial
   ·trivial
  ·simp [okR, Nd.cell, Nd.right, bareF, fieldsF, Nd.rights, isE, isV0, v0, isC0, c0, eqC, zatl hs ht]
theorem za5n {T : List TK} {rank n : Nat} {op : ByteArray} (h : opAt T rank n = some op) : opF op = true := by
 have key : ∀ r, ∀ o ∈ opsL r, opF o = true := by
  intro r
  match r with
  | 0 | 1 | 2 | 3 => decide
  | r + 4 => intro o ho; cases ho
 unfold opAt at h
 split at h
 ·split at h
  ·rename_i hh
   cases h
   simp only [Bool.and_eq_true, List.any_eq_true, decide_eq_true_eq] at hh
   obtain ⟨_, o, ho, he⟩ := hh
   rw [he]
   exact key rank o ho
  ·cases h
 ·cases h
theorem Pr.right {T : List TK} {fin : Nat} {sh : ByteArray} (hT : TokOk T) (hs : nameF sh = true) {g : Gl} {n : Nat} {r : Except Nat (Nd × Nat)} (h : Pr T fin sh g n r) : g.ok → okR r := by
 induction h with
 | top h ih => exact ih
 | pairs hr h1 h2 ih1 ih2 => intro _; exact ih2 (ih1 trivial)
 | restN hr h => intro hx; exact hx
 | restO hr h h1 h2 ih1 ih2 =>
  intro hx
  refine ih2 ?_
  have hy := ih1 trivial
  have ho := za5n h
  simp only [okR, Gl.ok] at hx hy ⊢
  simp [Nd.pair, Nd.right, bareF, fieldsF, Nd.rights, isE, isV0, v0, isC0, c0, eqC, hx, hy, ho]
 | minusN h h1 ih => exact ih
 | minusO h h1 ih =>
  intro _
  have hx := ih trivial
  simp only [okR] at hx ⊢
  simp [Nd.neg, Nd.right, bareF, fieldsF, Nd.rights, isE, isV0, v0, isC0, c0, eqC, hx]
 | num ht hk hv =>
  intro h0
  rename_i n t v
  have hd := hT.dig t (List.mem_of_getElem? ht) hk
  rw [zaou _ hd.1 hd.2, Option.map_eq_some_iff] at hv
  obtain ⟨m, _, rfl⟩ := hv
  simp [okR, Nd.val, Nd.right, bareF, fieldsF, Nd.rights, isE, isC0, c0, eqC, constF, rightF, iV]
 | text ht hk =>
  intro h0
  rename_i n t
  have hd := hT.size t (List.mem_of_getElem? ht)
  simp [okR, Nd.val, Nd.right, bareF, fieldsF, Nd.rights, isE, isC0, c0, eqC, constF, rightF]
  omega
 | yes => intro _; show Nd.right (Nd.val (bV true)) = true; decide
 | no => intro _; show Nd.right (Nd.val (bV false)) = true; decide
 | lost => intro _; show Nd.right Nd.bad = true; decide
 | call ht hk hc h h1 ih => intro _; exact ih ⟨hc, by simp, rfl⟩
 | word => intro _; exact zatr hs
 | name ht hk hn h => intro _; exact zatr hn
 | par h h1 h2 ih => intro _; exact ih trivial
 | args0 h =>
  intro ⟨hc, _⟩
  simp [okR, Nd.call, Nd.right, bareF, fieldsF, Nd.rights, isE, isV0, v0, isC0, c0, eqC, hc]
 | argsZ hk h1 h2 ih =>
  intro ⟨hc, hl, hr⟩
  have hx := ih trivial
  simp only [okR] at hx ⊢
  rename_i kids _ _ _
  have : kids.length + 1 ≤ 20 := by omega
  simp only [Nd.call, Nd.right, zaqk]
  simp [bareF, fieldsF, isE, isV0, v0, isC0, c0, eqC, hc, this, hx]
  simpa using hr
 | argsC hk h1 h2 h3 hl h4 ih1 ih2 =>
  intro ⟨hc, hl, hr⟩
  have hx := ih1 trivial
  rename_i kids _ _ _ _ _
  refine ih2 ⟨hc, by simp; omega, ?_⟩
  simp only [okR] at hx
  rw [List.all_append, hr]
  simp [hx]
 | _ => intro _; trivial
end Go.Proofs.YtliemjbafgnnbaaGreatDoor.Abs
/- A text's tokens: their kinds, how long they are, and that numbers are digits. -/
namespace Go.Proofs.YtliemjbafgnnbaaGreatDoor.Abs
open Go
theorem za3m (p : Int → Bool) (s : ByteArray) : ∀ n k j, k ≤ j → j < runF p s n k → ∃ b, s[j]? = some b ∧ p b.toNat = true := by
 intro n
 induction n with
 | zero => intro k j h1 h2; simp only [runF] at h2; omega
 | succ n ih =>
  intro k j h1 h2
  unfold runF at h2
  split at h2
  ·rename_i b hb
   split at h2
   ·rename_i hp
    by_cases e : j = k
    ·subst e; exact ⟨b, hb, hp⟩
    ·exact ih (k + 1) j (by omega) h2
   ·omega
  ·omega
theorem za2i (s : ByteArray) (a b : Nat) : (s.extract a b).data.toList = (s.data.toList.drop a).take (b - a) := by
 rw [ByteArray.data_extract, Array.toList_extract, List.extract_eq_take_drop]
theorem zajs (s : ByteArray) (a b : Nat) (h : b ≤ s.size) : (s.extract a b).size = b - a := by
 rw [ByteArray.size_extract]; omega
theorem za24 {s : ByteArray} : ∀ n k acc t e, quoF s n k acc = some (t, e) → t.length + k ≤ acc.length + e := by
 intro n
 induction n with
 | zero => intro k acc t e h; cases h
 | succ n ih =>
  intro k acc t e h
  unfold quoF at h
  split at h
  ·cases h
  ·split at h
   ·split at h
    ·have := ih _ _ _ _ h; simp at this; omega
    ·cases h; omega
   ·have := ih _ _ _ _ h; simp at this; omega
theorem za20 {s : ByteArray} {k : Nat} {t : TK} {e : Nat} (h : nextF s k = some (t, e)) : (t.k = 1 ∨ t.k = 2 ∨ t.k = 3 ∨ t.k = 4 ∨ t.k = 5) ∧ t.t.size ≤ s.size ∧ (t.k = 1 → t.t.data.toList ≠ [] ∧ digL t.t.data.toList) := by
 have hle := zad7 h
 unfold nextF at h
 split at h
 ·cases h
 ·rename_i c hc
  have hk : k < s.size := by omega
  split at h
  ·rename_i c1
   cases h
   refine ⟨.inl rfl, by rw [zajs _ _ _ hle.2]; omega, fun _ => ⟨?_, ?_⟩⟩
   ·intro h0
    have h1 : (s.extract k (runF digB s s.size k)).size = 0 := by
     show (s.extract k (runF digB s s.size k)).data.toList.length = 0
     rw [h0]; rfl
    rw [zajs _ _ _ hle.2] at h1
    omega
   ·intro x hx
    rw [za2i] at hx
    obtain ⟨i, hi, rfl⟩ := List.getElem_of_mem hx
    rw [List.length_take, List.length_drop] at hi
    rw [List.getElem_take, List.getElem_drop]
    obtain ⟨b, hb, hp⟩ := za3m digB s s.size k (k + i) (by omega) (by omega)
    rw [tba_at] at hb
    rw [List.getElem?_eq_some_iff] at hb
    obtain ⟨hl, hb⟩ := hb
    rw [hb]
    simp only [digB, Bool.and_eq_true, decide_eq_true_eq] at hp
    omega
  ·split at h
   ·cases h
    exact ⟨.inr (.inr (.inl rfl)), by rw [zajs _ _ _ hle.2]; omega, fun h => by simp at h⟩
   ·split at h
    ·cases h
     exact ⟨.inr (.inr (.inr (.inl rfl))), by rw [zajs _ _ _ hle.2]; omega, fun h => by simp at h⟩
    ·split at h
     ·split at h
      ·rename_i t' e' hq
       cases h
       have := za24 _ _ _ _ _ hq
       refine ⟨.inr (.inl rfl), ?_, fun h => by simp at h⟩
       show t'.toArray.size ≤ s.size
       simp only [List.size_toArray]
       simp only [List.length_nil] at this
       omega
      ·cases h
     ·split at h
      ·cases h
      ·cases h
       exact ⟨.inr (.inr (.inr (.inr rfl))), by rw [zajs _ _ _ hle.2]; omega, fun h => by simp at h⟩
theorem zavx {s : ByteArray} (hs : s.size ≤ 200) : ∀ n k l, l.length ≤ k → k ≤ s.size → TokOk l → ∀ l', splitF s n k l = .ok l' → TokOk l' ∧ l'.length ≤ s.size := by
 intro n
 induction n with
 | zero => intro k l hl hk ho l' h; simp only [splitF] at h; cases h; exact ⟨ho, by omega⟩
 | succ n ih =>
  intro k l hl hk ho l' h
  simp only [splitF] at h
  split at h
  ·cases h; exact ⟨ho, by omega⟩
  ·rename_i c hc
   have hlt : k < s.size := by
    rcases Nat.lt_or_ge k s.size with h' | h'
    ·exact h'
    ·rw [getElem?_neg s k (by omega)] at hc; cases hc
   split at h
   ·exact ih (k + 1) l (by omega) (by omega) ho l' h
   ·split at h
    ·rename_i t e hn
     have hle := zad7 hn
     have ⟨h1, h2, h3⟩ := za20 hn
     refine ih e (l ++ [t]) (by simp; omega) hle.2 ⟨?_, ?_, ?_⟩ l' h
     ·intro x hx
      rcases List.mem_append.1 hx with hx | hx
      ·exact ho.kinds x hx
      ·rw [List.mem_singleton] at hx; subst hx; exact h1
     ·intro x hx
      rcases List.mem_append.1 hx with hx | hx
      ·exact ho.size x hx
      ·rw [List.mem_singleton] at hx; subst hx; omega
     ·intro x hx
      rcases List.mem_append.1 hx with hx | hx
      ·exact ho.dig x hx
      ·rw [List.mem_singleton] at hx; subst hx; exact h3
    ·cases h
theorem zaq7 {s : ByteArray} (hs : s.size ≤ 200) {T : List TK} (h : splitF s s.size 0 [] = .ok T) : TokOk T ∧ T.length ≤ s.size :=
 zavx hs _ 0 [] (by simp) (by omega) ⟨fun t ht => (by cases ht), fun t ht => (by cases ht), fun t ht => (by cases ht)⟩ T h
end Go.Proofs.YtliemjbafgnnbaaGreatDoor.Abs
/- The program's parser: tokens are looked at and taken. -/
namespace Go.Proofs.YtliemjbafgnnbaaGreatDoor.Abs
open Go
def zant := And.intro (And.intro (And.intro (And.intro (@vld3) (@vgt3)) (And.intro (@vld39) (And.intro (@vgt39) (@zahe)))) (And.intro (And.intro (@zahf) (@zai2)) (And.intro (@zai4) (And.intro (@zaoi) (@zaon))))) (And.intro (And.intro (And.intro (@vix39) (@vio39)) (And.intro (@vis39) (And.intro (@viw39) (@vlr39)))) (And.intro (And.intro (@vlo39) (@vlz39)) (And.intro (@vls39) (And.intro (@vlw39) (@Tryz.results25)))))
def zald := @vfk25
def zalk := And.intro (And.intro (And.intro (And.intro (@vld39) (@vgt39)) (And.intro (@vld3) (@vgt3))) (And.intro (And.intro (@vld9) (@vgt9)) (And.intro (@zai2) (@zai4)))) (And.intro (And.intro (And.intro (@zahe) (@zahf)) (And.intro (@zagi) (@zagj))) (And.intro (And.intro (@vix39) (@vio39)) (And.intro (@vis39) (And.intro (@viw39) (@Tryz.results50)))))
def za0a := And.intro (And.intro (And.intro (And.intro (@vld3) (@vgt3)) (And.intro (@vld39) (@vgt39))) (And.intro (And.intro (@vld9) (@vgt9)) (And.intro (@vst3) (And.intro (@zahe) (@zahf))))) (And.intro (And.intro (And.intro (@zai2) (@zai4)) (And.intro (@zagi) (@zagj))) (And.intro (And.intro (@vix39) (@vio39)) (And.intro (@vis39) (And.intro (@viw39) (@Tryz.results27)))))
def zaz4 := @val29
def zaz9 := And.intro (And.intro (And.intro (And.intro (And.intro (@vld3) (@vgt3)) (And.intro (@vld39) (@vgt39))) (And.intro (And.intro (@vld29) (@vgt29)) (And.intro (@vst3) (@vst29)))) (And.intro (And.intro (And.intro (@za6m) (@za6r)) (And.intro (@za0u) (@za02))) (And.intro (And.intro (@zai2) (@zai4)) (And.intro (@zawj) (And.intro (@zawr) (@bd29)))))) (And.intro (And.intro (And.intro (And.intro (@pl29_0) (@pl29_1)) (And.intro (@pl29_2) (@pl29_3))) (And.intro (And.intro (@pl29_4) (@pl29_5)) (And.intro (@pl29_6) (@vix39)))) (And.intro (And.intro (And.intro (@vio39) (@vis39)) (And.intro (@viw39) (@vlr39))) (And.intro (And.intro (@vlo39) (@vlz39)) (And.intro (@vls39) (And.intro (@vlw39) (@Tryz.results13))))))
def zaqx := And.intro (And.intro (And.intro (@vld9) (And.intro (@vgt9) (@vix65))) (And.intro (@vio65) (And.intro (@vis65) (@viw65)))) (And.intro (And.intro (@vlr65) (And.intro (@vlo65) (@vlz65))) (And.intro (@vls65) (And.intro (@vlw65) (@Tryz.results52))))
attribute [local irreducible] Hold VReg Vf Vc VWP With VStp Vcallee Vp VE
abbrev pbx (T : List TK) (fin : Nat) (sh : ByteArray) (n bad : Int) : Blk := .cells true 45 [sl true 0 3 (T.map TK.v), .int .i64 n, .int .i64 fin, .string sh, .int .i64 bad]
def kindT (T : List TK) (q : Nat) : Int := match T[q]? with
 | some t => t.k
 | none => 0
theorem zauo {T : List TK} {q : Nat} (h : q < T.length) : kindT T q = T[q].k := by simp [kindT, h]
theorem zaun {T : List TK} {q : Nat} (h : T.length ≤ q) : kindT T q = 0 := by simp [kindT, h]
theorem zaaq {n : Nat} {j : Int} {q : Nat} (h : (n : Int) + j = q) (hq : q ≤ 100000) : IntKind.i64.wrap ((n : Int) + j) = q := by rw [h]; exact zaar (by omega) (by omega)
section
variable {X : VOuter} {T : List TK} {fin : Nat} {sh : ByteArray} {bad : Int} {R : List Blk}
theorem kind_p (hX : X 25 = none) (n q : Nat) (j : Int) (hw : IntKind.i64.wrap ((n : Int) + j) = q) : Vf Tryz.prog X 25 [p0, .int .i64 j] (cx (pbx T fin sh n bad) R) fun v ws => ws = [] ∧ v = .int .i64 (kindT T q) := by
 refine zaay hX Tryz.func25 rfl (by kernel_rfl) (by show 2 ≤ _; decide) ?_
 have h0 : (0 : Int) ≤ q := by omega
 by_cases hq : q < T.length
 ·have hg : ¬ (T.length : Int) ≤ q := by omega
  have hx : (T.map TK.v)[q]? = some T[q].v := by simp [hq]
  rw [zauo hq]
  generalize T[q] = t at hx
  obtain ⟨k, a, s⟩ := t
  simp only [TK.v] at hx
  simp -dsimp only [↓kpre, kpost, light, ret1, cellF, afill, setAll, simprocAttr, zant, ↓cxpre, cxpost, List.length_map]
  refine zado [[], [], [], [], [], [], [], [], [], [], [], []] false (by kernel_rfl) (by kernel_rfl) (by kernel_rfl) ?_
  simp -dsimp only [↓kpre, kpost, light, ret1, cellF, afill, setAll, simprocAttr, ↓opre, opost, vspan, zant, ↓cxpre, cxpost, List.length_map, hw, hg]
  refine zado [[], [], [], [], [], [], [], [], [], [], [], [], [], []] false (by kernel_rfl) (by kernel_rfl) (by kernel_rfl) ?_
  simp -dsimp only [↓kpre, kpost, light, ret1, cellF, afill, setAll, simprocAttr, ↓opre, opost, vspan, zant, ↓cxpre, cxpost, List.length_map, hw, hg, h0, hx]
 ·have hg : (T.length : Int) ≤ q := by omega
  rw [zaun (by omega)]
  simp -dsimp only [↓kpre, kpost, light, ret1, cellF, afill, setAll, simprocAttr, zant, ↓cxpre, cxpost, List.length_map]
  refine zado [[], [], [], [], [], [], [], [], [], [], [], []] false (by kernel_rfl) (by kernel_rfl) (by kernel_rfl) ?_
  simp -dsimp only [↓kpre, kpost, light, ret1, cellF, afill, setAll, simprocAttr, ↓opre, opost, vspan, zant, ↓cxpre, cxpost, List.length_map, hw, hg]
theorem kind_c (hX : X 25 = none) {n q : Nat} {j : Int} (hw : IntKind.i64.wrap ((n : Int) + j) = q) (bad : Int) (R l : List Blk) (w : List Nat) (K : VCont) : Vcallee Tryz.prog X 25 [p0, .int .i64 j] ⟨cx (pbx T fin sh n bad) R, l, w⟩ K = K (.int .i64 (kindT T q)) [] ⟨cx (pbx T fin sh n bad) R, l, w⟩ [] false := zadd (kind_p hX n q j hw) rfl rfl
theorem zavr {q : Nat} {u : ByteArray} (hq : q < T.length) : sgn T q u = (decide (T[q].k = 5) && decide (T[q].t = u)) := by simp [sgn, hq]
theorem sgn_ge {q : Nat} {u : ByteArray} (hq : T.length ≤ q) : sgn T q u = false := by simp [sgn, hq]
theorem za5v (hX : X 50 = none) (hK : X 25 = none) (n q : Nat) (j : Int) (u : ByteArray) (hw : IntKind.i64.wrap ((n : Int) + j) = q) : Vf Tryz.prog X 50 [p0, .int .i64 j, .string u] (cx (pbx T fin sh n bad) R) fun v ws => ws = [] ∧ v = .bool (sgn T q u) := by
 refine zaay hX Tryz.func50 rfl (by kernel_rfl) (by show 3 ≤ _; decide) ?_
 have h0 : (0 : Int) ≤ q := by omega
 have kc := fun R l w K => kind_c (T := T) (fin := fin) (sh := sh) hK hw bad R l w K
 by_cases hq : q < T.length
 ·rw [zavr hq]
  have hk := zauo hq
  have hx : (T.map TK.v)[q]? = some T[q].v := by simp [hq]
  generalize T[q] = t at hx hk
  obtain ⟨k, a, s⟩ := t
  simp only [TK.v] at hx
  simp only at hk
  rw [hk] at kc
  by_cases h5 : k = 5
  ·simp -dsimp only [↓kpre, kpost, light, ret1, cellF, afill, setAll, simprocAttr, ↓zald, zalk, ↓cxpre, cxpost, List.length_map]
   refine zado [[], [], [], [], [], [], [], [], [], [], [], [], [], [], [], [], [], [], [], [], [], []] false (by kernel_rfl) (by kernel_rfl) (by kernel_rfl) ?_
   simp -dsimp only [↓kpre, kpost, light, ret1, cellF, afill, setAll, simprocAttr, ↓opre, opost, vspan, ↓zald, zalk, ↓cxpre, cxpost, List.length_map, ↓kc, hw, h5, h0, hx, ab_seq]
  ·simp -dsimp only [↓kpre, kpost, light, ret1, cellF, afill, setAll, simprocAttr, ↓zald, zalk, ↓cxpre, cxpost, List.length_map]
   refine zado [[], [], [], [], [], [], [], [], [], [], [], [], [], [], [], [], [], [], [], [], [], []] false (by kernel_rfl) (by kernel_rfl) (by kernel_rfl) ?_
   simp -dsimp only [↓kpre, kpost, light, ret1, cellF, afill, setAll, simprocAttr, ↓opre, opost, vspan, ↓zald, zalk, ↓cxpre, cxpost, List.length_map, ↓kc, hw, h5, h0, hx, ab_seq]
 ·rw [sgn_ge (by omega)]
  rw [zaun (by omega)] at kc
  simp -dsimp only [↓kpre, kpost, light, ret1, cellF, afill, setAll, simprocAttr, ↓zald, zalk, ↓cxpre, cxpost, List.length_map]
  refine zado [[], [], [], [], [], [], [], [], [], [], [], [], [], [], [], [], [], [], [], [], [], []] false (by kernel_rfl) (by kernel_rfl) (by kernel_rfl) ?_
  simp -dsimp only [↓kpre, kpost, light, ret1, cellF, afill, setAll, simprocAttr, ↓opre, opost, vspan, ↓zald, zalk, ↓cxpre, cxpost, List.length_map, ↓kc, hw]
theorem zale (hX : X 50 = none) (hK : X 25 = none) {n q : Nat} {j : Int} (hw : IntKind.i64.wrap ((n : Int) + j) = q) (u : ByteArray) (bad : Int) (R l : List Blk) (w : List Nat) (K : VCont) : Vcallee Tryz.prog X 50 [p0, .int .i64 j, .string u] ⟨cx (pbx T fin sh n bad) R, l, w⟩ K = K (.bool (sgn T q u)) [] ⟨cx (pbx T fin sh n bad) R, l, w⟩ [] false := zadd (za5v hX hK n q j u hw) rfl rfl
theorem zaqa (N : Nat) (n bad : Int) : lowW N (1, pbx T fin sh n bad) = true := by
 have e : lowv N (sl true 0 3 (T.map TK.v)) = true := by unfold sl; split <;> rfl
 simp [lowW, lowv, e]
theorem take_p (hX : X 27 = none) {n : Nat} {t : TK} (ht : T[n]? = some t) (hn : T.length ≤ 1000) : Vf Tryz.prog X 27 [p0] (cx (pbx T fin sh n bad) R) fun v ws => ws = [(1, pbx T fin sh ((n + 1 : Nat) : Int) bad)] ∧ v = .string t.t := by
 refine zaay hX Tryz.func27 rfl (by kernel_rfl) (by show 1 ≤ _; decide) ?_
 have hl := (List.getElem?_eq_some_iff.1 ht).1
 have hx : (T.map TK.v)[n]? = some t.v := by rw [List.getElem?_map, ht]; rfl
 have h0 : (0 : Int) ≤ n := by omega
 have w1 : IntKind.i64.wrap ((n : Int) + 1) = (n : Int) + 1 := zaar (by omega) (by omega)
 have w2 : IntKind.i64.wrap ((n : Int) + 1 - 1) = n := by rw [show (n : Int) + 1 - 1 = n by omega]; exact zaar (by omega) (by omega)
 obtain ⟨k, a, s⟩ := t
 simp only [TK.v] at hx
 simp -dsimp only [↓kpre, kpost, light, ret1, cellF, afill, setAll, simprocAttr, za0a, ↓cxpre, cxpost, List.length_map, w1]
 refine zado [[], [], [], [], [], [], [], [], [], [], [], [], []] false (by kernel_rfl) (by kernel_rfl) (by kernel_rfl) ?_
 simp -dsimp only [↓kpre, kpost, light, ret1, cellF, afill, setAll, simprocAttr, ↓opre, opost, vspan, za0a, ↓cxpre, cxpost, List.length_map, w1, w2, h0, hx]
 simp
theorem take_c (hX : X 27 = none) {n : Nat} {t : TK} (ht : T[n]? = some t) (hn : T.length ≤ 1000) (bad : Int) (R l : List Blk) (w : List Nat) (K : VCont) : Vcallee Tryz.prog X 27 [p0] ⟨cx (pbx T fin sh n bad) R, l, w⟩ K = K (.string t.t) [dropBoxes [1]] ⟨cx (pbx T fin sh ((n + 1 : Nat) : Int) bad) R, l, addW 1 w⟩ [1] false := zad4 (take_p hX ht hn) rfl rfl (zaqa _ _ _)
theorem fail_p (hX : X 13 = none) (n : Int) (q : Nat) : Vf Tryz.prog X 13 [p0, .int .i64 q] (cx (pbx T fin sh n bad) R) fun v ws => ws = [(1, pbx T fin sh n (atT T fin q))] ∧ v = .tuple ⟨[Nd.zero.v, .bool false]⟩ := by
 refine zaay hX Tryz.func13 rfl (by kernel_rfl) (by show 2 ≤ _; decide) ?_
 have h0 : (0 : Int) ≤ q := by omega
 by_cases hq : q < T.length
 ·have hl : (q : Int) < T.length := by omega
  have hx : (T.map TK.v)[q]? = some T[q].v := by simp [hq]
  have ha : atT T fin q = T[q].a := by simp [atT, hq]
  rw [ha]
  generalize T[q] = t at hx
  obtain ⟨k, a, s⟩ := t
  simp only [TK.v] at hx
  simp -dsimp only [↓kpre, kpost, light, ret1, cellF, afill, setAll, simprocAttr, ↓zaz4, zaz9, ↓cxpre, cxpost, List.length_map, hl, h0, hx]
  simp [Nd.zero, Nd.cs, Nd.vs, sl, v0, c0]
 ·have hl : ¬ (q : Int) < T.length := by omega
  have ha : atT T fin q = fin := by simp [atT, hq]
  rw [ha]
  simp -dsimp only [↓kpre, kpost, light, ret1, cellF, afill, setAll, simprocAttr, ↓zaz4, zaz9, ↓cxpre, cxpost, List.length_map, hl]
  simp [Nd.zero, Nd.cs, Nd.vs, sl, v0, c0]
theorem fail_c (hX : X 13 = none) (n : Int) (q : Nat) (bad : Int) (R l : List Blk) (w : List Nat) (K : VCont) : Vcallee Tryz.prog X 13 [p0, .int .i64 q] ⟨cx (pbx T fin sh n bad) R, l, w⟩ K = K (.tuple ⟨[Nd.zero.v, .bool false]⟩) [dropBoxes [1]] ⟨cx (pbx T fin sh n (atT T fin q)) R, l, addW 1 w⟩ [1] false := zad4 (fail_p hX n q) rfl rfl (zaqa _ _ _)
theorem sidx_p (hX : X 52 = none) (c : Bool) (d : Nat) (l : List ByteArray) (hl : l.length ≤ 1000) (u : ByteArray) : Vf Tryz.prog X 52 [sl c d 1 (l.map Value.string), .string u] [] fun v ws => ws = [] ∧ ∃ j : Int, v = .int .i64 j ∧ decide (0 ≤ j) = l.any (fun o => decide (u = o)) := by
 refine zaay hX Tryz.func52 rfl (by kernel_rfl) (by show 2 ≤ _; decide) ?_
 simp -dsimp only [↓kpre, kpost, light, ret1, cellF, afill, setAll, simprocAttr, zaqx, List.length_map]
 refine zabw (fun m e S => ∃ i : Nat, m = l.length - i ∧ i ≤ l.length ∧ eget e 0 = sl c d 1 (l.map Value.string) ∧ eget e 1 = .string u ∧ eget e 7 = .int .i64 l.length ∧ eget e 8 = .int .i64 i ∧ (l.take i).any (fun o => decide (u = o)) = false ∧ S = ⟨[], [], []⟩) l.length ?_ ?_
 ·refine ⟨0, rfl, Nat.zero_le _, ?_, ?_, ?_, ?_, rfl, rfl⟩ <;> simp only [↓epre, epost, simprocAttr] <;> rfl
 ·rintro m e S ⟨i, rfl, hi, e0, e1, e7, e8, hall, rfl⟩
  refine VWP_Vc _ _ _ _ ?_
  by_cases hin : i < l.length
  ·have hlt : (i : Int) < l.length := by omega
   have h0 : (0 : Int) ≤ i := by omega
   have hx : (l.map Value.string)[i]? = some (.string l[i]) := by simp [hin]
   have hwr : IntKind.i64.wrap ((i : Int) + 1) = ((i + 1 : Nat) : Int) := zaaq (by omega) (by omega)
   have ht : (l.take (i + 1)).any (fun o => decide (u = o)) = decide (u = l[i]) := by
    rw [← List.take_append_getElem hin, List.any_append, hall]
    simp
   have hb : u = l[i] → l.any (fun o => decide (u = o)) = true := fun h => by
    rw [List.any_eq_true]
    exact ⟨l[i], List.getElem_mem hin, by simpa using h⟩
   generalize l[i] = x at hx ht hb
   by_cases hq : u = x
   ·have hb := hb hq
    simp -dsimp only [↓kpre, kpost, light, ret1, cellF, afill, setAll, simprocAttr, zaqx, e0, e1, e7, e8, hlt, h0, hx, hwr, ab_seq, hq]
    refine ⟨_, rfl, ?_⟩
    rw [← hq, hb]
    simpa using h0
   ·simp -dsimp only [↓kpre, kpost, light, ret1, cellF, afill, setAll, simprocAttr, zaqx, e0, e1, e7, e8, hlt, h0, hx, hwr, ab_seq, hq]
    exact ⟨l.length - (i + 1), by omega, i + 1, rfl, by omega, rfl, by rw [ht]; simpa using hq⟩
  ·obtain rfl : i = l.length := by omega
   have hlt : ¬ ((l.length : Int) < l.length) := by omega
   rw [List.take_length] at hall
   simp -dsimp only [↓kpre, kpost, light, ret1, cellF, afill, setAll, simprocAttr, zaqx, e0, e1, e7, e8, hlt]
   rw [hall]
   exact ⟨_, rfl, rfl⟩
theorem scon_p (hX : X 26 = none) (hX1 : X 52 = none) (c : Bool) (d : Nat) (l : List ByteArray) (hl : l.length ≤ 1000) (u : ByteArray) : Vp Tryz.prog X 26 [sl c d 1 (l.map Value.string), .string u] (.bool (l.any (fun o => decide (u = o)))) := by
 unfold Vp
 refine zaay hX Tryz.func26 rfl (by kernel_rfl) (by show 2 ≤ _; decide) ?_
 have hs := sidx_p (X := X) hX1 c d l hl u
 unfold Vf at hs
 obtain ⟨n, r, h1, h2, j, h3, h4⟩ := hs
 have hc : ∀ S K, Vcallee Tryz.prog X 52 [sl c d 1 (l.map Value.string), .string u] S K = K (.int .i64 j) [] S [] false := fun S K => zaag (args' := [sl c d 1 (l.map Value.string), .string u]) (by unfold Vp Vf; exact ⟨n, r, h1, h2, h3⟩) (by simp only [zaap, zaa0, zap8, zabf]) (by simp only [zadn, zafe, okv_sl, zafv, Bool.and_true, Bool.not_false, Bool.true_or]) rfl
 simp -dsimp only [↓kpre, kpost, light, ret1, cellF, afill, setAll, simprocAttr, ↓vfk52, Tryz.results26, ↓hc]
 rw [← h4]
def opsVs : List Value := [sl false 0 1 ((opsL 0).map Value.string), sl false 0 1 ((opsL 1).map Value.string), sl false 0 1 ((opsL 2).map Value.string), sl false 0 1 ((opsL 3).map Value.string)]
theorem zau7 {rank : Nat} (h : rank < 4) : opsVs[rank]? = some (sl false 0 1 ((opsL rank).map Value.string)) := by
 match rank, h with
 | 0, _ | 1, _ | 2, _ | 3, _ => rfl
theorem za5x (hX : X 23 = none) : Vp Tryz.prog X 23 [] (vs 0 1 opsVs) := by
 unfold Vp
 refine zaay hX Tryz.func23 rfl (by kernel_rfl) (by show 0 ≤ _; decide) ?_
 simp -dsimp only [↓kpre, kpost, light, ret1, cellF, afill, setAll, simprocAttr, vbd65, vbd60, Tryz.results23]
 rfl
theorem za5w (hX : X 23 = none) (S : VH) (K : VCont) : Vcallee Tryz.prog X 23 [] S K = K (vs 0 1 opsVs) [] S [] false := zaag (args' := []) (za5x hX) rfl rfl rfl
theorem scon_c (hX : X 26 = none) (hX1 : X 52 = none) (rank : Nat) (u : ByteArray) (S : VH) (K : VCont) : Vcallee Tryz.prog X 26 [sl false 0 1 ((opsL rank).map Value.string), .string u] S K = K (.bool ((opsL rank).any (fun o => decide (u = o)))) [] S [] false :=
 zaag (args' := [sl false 0 1 ((opsL rank).map Value.string), .string u]) (scon_p hX hX1 false 0 _ (by match rank with | 0 | 1 | 2 | 3 => decide | r + 4 => exact Nat.zero_le _) u) (by simp only [zaap, zaa0, zap8, zabf]) (by simp only [zadn, zafe, okv_sl, zafv, Bool.and_true, Bool.not_false, Bool.true_or]) rfl
end
end Go.Proofs.YtliemjbafgnnbaaGreatDoor.Abs
/- Nodes as they lie in boxes. -/
namespace Go.Proofs.YtliemjbafgnnbaaGreatDoor.Abs
open Go
theorem nd_len (x : Nd) : x.cs.length = 13 := by cases x; simp [Nd.cs]
theorem zaql (x : Nd) : x.cs.flatMap toks = [] := by
 cases x
 simp only [Nd.cs, List.flatMap_cons, List.flatMap_nil, zaeu, zab0, zalr, List.append_nil]
theorem za2z (x : Nd) : toksL x.cs = [] := by rw [zady, zaql]
theorem nd_map {g : Turn} (hg : Nice g) (x : Nd) : x.cs.map (mapOwn g) = x.cs := by
 have h : ∀ v ∈ x.cs, mapOwn g v = v := fun v hv => zabe hg v (List.flatMap_eq_nil_iff.1 (zaql x) v hv)
 calc x.cs.map (mapOwn g) = x.cs.map id := List.map_congr_left h
  _ = x.cs := List.map_id _
theorem za5k (ks : List Tok) (x : Nd) : x.cs.map (mapOwn (thaw ks)) = x.cs := nd_map (zab4 _) x
theorem zau0 (x : Nd) : x.cs.map (mapOwn thawAll) = x.cs := nd_map (zab4 _) x
theorem za2y (k : Tok) (x : Nd) : x.cs.map (mapOwn (scrub k)) = x.cs := nd_map (zab4 _) x
theorem zaix (b : Bool) (x : Nd) : x.cs.map (mapOwn (lend b)) = x.cs := nd_map (zab4 _) x
theorem za5h (is : List Nat) (x : Nd) : x.cs.map (mapOwn (dropBoxes is)) = x.cs := nd_map (zab4 _) x
theorem za5i (f : Tok → Fate) (x : Nd) : x.cs.map (mapOwn (fate f)) = x.cs := nd_map (zab4 _) x
theorem za2x (b : Bool) (k : Tok) (x : Nd) : x.cs.map (mapOwn (growT b k)) = x.cs := nd_map (zanm b k) x
theorem nd_okv (n : Nat) (st : Bool) (x : Nd) : x.cs.all (okv n st) = true := by
 cases x
 simp only [Nd.cs, List.all_cons, List.all_nil, zaia, zafv, zaqr, Bool.and_self]
theorem za2w (n : Nat) (outer : Bool) (x : Nd) : x.cs.all (cellF n outer) = true := by
 cases x
 simp [Nd.cs, cellF, zaeu, zab0, zalr, zaia, zafv, zaqr, zad2, zad3, tup_sl]
theorem za5j (x : Nd) : x.cs.take 13 = x.cs := List.take_of_length_le (by rw [nd_len]; exact Nat.le_refl _)
def ndl := And.intro (And.intro (And.intro (@nd_len) (And.intro (@zaql) (@za2z))) (And.intro (@za5k) (And.intro (@zau0) (@za2y)))) (And.intro (And.intro (@zaix) (And.intro (@za5h) (@za5i))) (And.intro (And.intro (@za2x) (@nd_okv)) (And.intro (@za2w) (@za5j))))
end Go.Proofs.YtliemjbafgnnbaaGreatDoor.Abs
/- Small functions: a truth, a text, which values may be. -/
namespace Go.Proofs.YtliemjbafgnnbaaGreatDoor.Abs
open Go
def zalj := And.intro (And.intro (And.intro (@vld3) (And.intro (@vgt3) (@vld9))) (And.intro (@vgt9) (And.intro (@za0s) (@za00)))) (And.intro (And.intro (@za0t) (And.intro (@za01) (@za6l))) (And.intro (@za6q) (And.intro (@vlr9) (@Tryz.results37))))
attribute [local irreducible] Hold VReg Vf Vc VWP With VStp Vcallee Vp VE SeqK BlkK FinK NormK
section
variable {X : VOuter}
theorem za1y (hX : X 72 = none) (b : Bool) : Vp Tryz.prog X 72 [.bool b] (bV b).v := by
 unfold Vp
 refine zaaf hX Tryz.func72 rfl (by kernel_rfl) (by show 1 ≤ _; decide) ?_
 cases b <;> simp -dsimp only [↓kpre, kpost, light, ret1, cellF, afill, setAll, simprocAttr, vld24, vgt24, vst24, ↓val24, bd24, pl24_0, pl24_1, pl24_2, Tryz.results72] <;> rfl
theorem za1x (hX : X 72 = none) (b : Bool) {S : VH} {K : VCont} : Vcallee Tryz.prog X 72 [.bool b] S K = K (.agg ⟨[.int .i64 3, .int .i64 (if b then 1 else 0), .string .empty]⟩) [] S [] false := zaag (za1y hX b) rfl rfl (by cases b <;> rfl)
theorem za6g (hX : X 60 = none) (s : ByteArray) (hs : s.size ≤ 200) : Vp Tryz.prog X 60 [.string s] (.agg ⟨[.int .i64 2, .int .i64 0, .string s]⟩) := by
 have hl : ¬ (200 : Int) < s.size := by omega
 unfold Vp
 refine zaaf hX Tryz.func60 rfl (by kernel_rfl) (by show 1 ≤ _; decide) ?_
 simp -dsimp only [↓kpre, kpost, light, ret1, cellF, afill, setAll, simprocAttr, vld24, vgt24, vst24, ↓val24, bd24, pl24_0, pl24_1, pl24_2, vlr9, ↓vfk71, Tryz.results60, hl]
theorem za6f (hX : X 60 = none) (s : ByteArray) (hs : s.size ≤ 200) {S : VH} {K : VCont} : Vcallee Tryz.prog X 60 [.string s] S K = K (.agg ⟨[.int .i64 2, .int .i64 0, .string s]⟩) [] S [] false := zaag (za6g hX s hs) rfl rfl rfl
end
theorem zayd {X : VOuter} (hX : X 37 = none) (k n : Int) (s : ByteArray) : Vp Tryz.prog X 37 [.agg ⟨[.int .i64 k, .int .i64 n, .string s]⟩] (.bool (rightF ⟨k, n, s⟩)) := by
 unfold Vp
 refine zaaf hX Tryz.func37 rfl (by kernel_rfl) (by show 1 ≤ _; decide) ?_
 have hl : ((s.size : Int) ≤ 200) ↔ s.size ≤ 200 := by omega
 unfold rightF
 by_cases k0 : k = 0
 ·subst k0
  by_cases h1 : n = 0 <;> by_cases h2 : s.size = 0 <;> simp -dsimp only [↓kpre, kpost, light, ret1, cellF, afill, setAll, simprocAttr, zalj, sempty, h1, h2]
 ·by_cases k1 : k = 1
  ·subst k1
   by_cases h2 : s.size = 0 <;> simp -dsimp only [↓kpre, kpost, light, ret1, cellF, afill, setAll, simprocAttr, zalj, sempty, h2, k0]
  ·by_cases k2 : k = 2
   ·subst k2
    by_cases h1 : n = 0 <;> by_cases h2 : s.size ≤ 200 <;> simp -dsimp only [↓kpre, kpost, light, ret1, cellF, afill, setAll, simprocAttr, zalj, sempty, h1, h2, hl, k0, k1]
   ·by_cases k3 : k = 3
    ·subst k3
     by_cases h1 : n = 0 <;> by_cases h3 : n = 1 <;> by_cases h2 : s.size = 0 <;> simp -dsimp only [↓kpre, kpost, light, ret1, cellF, afill, setAll, simprocAttr, zalj, sempty, h1, h2, h3, k0, k1, k2]
    ·by_cases k4 : k = 4
     ·subst k4
      by_cases h1 : 1 ≤ n <;> by_cases h3 : n ≤ 7 <;> by_cases h2 : s.size = 0 <;> simp -dsimp only [↓kpre, kpost, light, ret1, cellF, afill, setAll, simprocAttr, zalj, sempty, h1, h2, h3, k0, k1, k2, k3]
     ·simp -dsimp only [↓kpre, kpost, light, ret1, cellF, afill, setAll, simprocAttr, zalj, sempty, k0, k1, k2, k3, k4]
theorem zayc {X : VOuter} (hX : X 37 = none) (k n : Int) (s : ByteArray) {S : VH} {K : VCont} : Vcallee Tryz.prog X 37 [.agg ⟨[.int .i64 k, .int .i64 n, .string s]⟩] S K = K (.bool (rightF ⟨k, n, s⟩)) [] S [] false := zaag (zayd hX k n s) rfl rfl rfl
end Go.Proofs.YtliemjbafgnnbaaGreatDoor.Abs
