/- The functions of values: what they do with rows of values. -/
import Derived.Test.YtliemjbafgnnbaaDoorPVTF
import Derived.Test.YtliemjbafgnnbaaDoorMW7
import Derived.Test.YtliemjbafgnnbaaDoorPW29
set_option maxHeartbeats 0
set_option linter.defProp false
set_option linter.unusedSimpArgs false
set_option linter.unusedVariables false
set_option maxRecDepth 4000
namespace Go.Proofs.YtliemjbafgnnbaaDoor.Abs
open Go
attribute [local irreducible] Hold VReg Vf Vc VWP With VStp Vcallee Vp
structure VV where
 k : Int
 n : Int
 s : ByteArray
def VV.v (x : VV) : Value := .agg ⟨[.int .i64 x.k, .int .i64 x.n, .string x.s]⟩
end Go.Proofs.YtliemjbafgnnbaaDoor.Abs
/- Right values, errors first, numbers. -/
namespace Go.Proofs.YtliemjbafgnnbaaDoor.Abs
open Go
attribute [local irreducible] Hold VReg Vf Vc VWP With VStp Vcallee Vp
theorem sempty {P : Program} {t : TypeId} {x y : Operand} {s : ByteArray} : abin P .eql t x y (.string s) (.string ⟨#[]⟩) = some (.bool (decide (s.size = 0))) := by
 rw [zaki, ByteArray.toList_eq, ByteArray.toList_eq]
 congr 2
 rw [Bool.eq_iff_iff]
 simp [← Array.size_eq_zero_iff]
def rightF (x : VV) : Bool :=
 if x.k = 0 then decide (x.n = 0) && decide (x.s.size = 0) else
 if x.k = 1 then decide (x.s.size = 0) else
 if x.k = 2 then decide (x.n = 0) && decide (x.s.size ≤ 200) else
 if x.k = 3 then (decide (x.n = 0) || decide (x.n = 1)) && decide (x.s.size = 0) else
 if x.k = 4 then (decide (1 ≤ x.n) && decide (x.n ≤ 7)) && decide (x.s.size = 0) else false
def iV (n : Int) : VV := ⟨1, n, .empty⟩
def bV (b : Bool) : VV := ⟨3, if b then 1 else 0, .empty⟩
theorem int_p {X : VOuter} (hX : X 35 = none) (n : Int) : Vp Tryd.prog X 35 [.int .i64 n] (iV n).v := by
 unfold Vp
 refine zaaw hX Tryd.func35 rfl (by kernel_rfl) (by show 1 ≤ _; decide) ?_
 simp -dsimp only [↓kpre, kpost, light, ret1, cellF, afill, setAll, simprocAttr, vld26, vgt26, vst26, ↓val26, bd26, pl26_0, pl26_1, pl26_2, Tryd.results35]
 rfl
theorem int_c {X : VOuter} (hX : X 35 = none) (n : Int) {S : VH} {K : VCont} : Vcallee Tryd.prog X 35 [.int .i64 n] S K = K (.agg ⟨[.int .i64 1, .int .i64 n, .string .empty]⟩) [] S [] false := zaac (int_p hX n) rfl rfl rfl
end Go.Proofs.YtliemjbafgnnbaaDoor.Abs
/- Names of sheets; which cells may be. -/
namespace Go.Proofs.YtliemjbafgnnbaaDoor.Abs
open Go
attribute [local irreducible] Hold VReg Vf Vc VWP With VStp Vcallee Vp VE
def smallB (n : Int) : Bool := decide (97 ≤ n) && decide (n ≤ 122)
def digitB (n : Int) : Bool := decide (48 ≤ n) && decide (n ≤ 57)
def chrB (n : Int) : Bool := smallB n || digitB n
def atB (p : Int → Bool) (s : ByteArray) (i : Nat) : Bool := match s[i]? with
 | some b => p b.toNat
 | none => false
def nameF (s : ByteArray) : Bool := decide (1 ≤ (s.size : Int)) && decide ((s.size : Int) ≤ 8) && atB smallB s 0 && (List.range s.size).all (atB chrB s)
def placeF (c r : Int) : Bool := decide (1 ≤ c) && decide (c ≤ 702) && decide (1 ≤ r) && decide (r ≤ 999)
def celF (s : ByteArray) (c r : Int) : Bool := nameF s && placeF c r
theorem zaii {p : Int → Bool} {s : ByteArray} {i : Nat} {b : UInt8} (h : s[i]? = some b) : atB p s i = p b.toNat := by simp [atB, h]
theorem ba_get {s : ByteArray} {i : Nat} (h : i < s.size) : ∃ b, s[i]? = some b := ⟨s[i], getElem?_pos s i h⟩
theorem zast {s : ByteArray} (h1 : 1 ≤ s.size) (h8 : s.size ≤ 8) (h0 : atB smallB s 0 = true) (ha : ∀ i, i < s.size → atB chrB s i = true) : nameF s = true := by
 unfold nameF
 rw [decide_eq_true (show (1 : Int) ≤ s.size by omega), decide_eq_true (show (s.size : Int) ≤ 8 by omega), h0]
 simp only [Bool.true_and, List.all_eq_true, List.mem_range]
 exact ha
theorem zakw {s : ByteArray} {i : Nat} (hi : i < s.size) (h : atB chrB s i = false) : nameF s = false := by
 unfold nameF
 have : (List.range s.size).all (atB chrB s) = false := by
  rw [List.all_eq_false]
  exact ⟨i, by simp [hi], by simp [h]⟩
 rw [this, Bool.and_false]
section
variable {X : VOuter}
theorem name_p (hX : X 9 = none) (s : ByteArray) : Vp Tryd.prog X 9 [.string s] (.bool (nameF s)) := by
 unfold Vp
 refine zaaw hX Tryd.func9 rfl (by kernel_rfl) (by show 1 ≤ _; decide) ?_
 by_cases h0 : s.size = 0
 ·simp -dsimp only [↓kpre, kpost, light, ret1, cellF, afill, setAll, ↓reduceIte, Nat.reduceEqDiff, reduceCtorEq, Nat.reduceBEq, Nat.reduceAdd, Nat.reduceMul, Nat.reduceSub, Nat.reduceLT, Nat.reduceLeDiff, Int.reduceLT, Int.reduceLE, Int.reduceToNat, Int.reduceBEq, Int.reduceBNe, Int.reduceSub, Int.reduceAdd, Int.reduceEq, Int.reduceNe, Int.reduceNeg, ix9, vlr9, Tryd.results9, sempty, h0]
  simp [nameF, h0]
 ·by_cases h8 : (8 : Int) < s.size
  ·simp -dsimp only [↓kpre, kpost, light, ret1, cellF, afill, setAll, ↓reduceIte, Nat.reduceEqDiff, reduceCtorEq, Nat.reduceBEq, Nat.reduceAdd, Nat.reduceMul, Nat.reduceSub, Nat.reduceLT, Nat.reduceLeDiff, Int.reduceLT, Int.reduceLE, Int.reduceToNat, Int.reduceBEq, Int.reduceBNe, Int.reduceSub, Int.reduceAdd, Int.reduceEq, Int.reduceNe, Int.reduceNeg, ix9, vlr9, Tryd.results9, sempty, h0, h8]
   have : ¬ ((s.size : Int) ≤ 8) := by omega
   simp [nameF, this]
  ·obtain ⟨b, hb⟩ := ba_get (s := s) (i := 0) (by omega)
   have hat := zaii (p := smallB) hb
   by_cases h1 : (b.toNat : Int) < 97
   ·simp -dsimp only [↓kpre, kpost, light, ret1, cellF, afill, setAll, ↓reduceIte, Nat.reduceEqDiff, reduceCtorEq, Nat.reduceBEq, Nat.reduceAdd, Nat.reduceMul, Nat.reduceSub, Nat.reduceLT, Nat.reduceLeDiff, Int.reduceLT, Int.reduceLE, Int.reduceToNat, Int.reduceBEq, Int.reduceBNe, Int.reduceSub, Int.reduceAdd, Int.reduceEq, Int.reduceNe, Int.reduceNeg, ix9, vlr9, Tryd.results9, sempty, h0, h8, hb, h1]
    have : smallB b.toNat = false := by unfold smallB; rw [decide_eq_false (by omega)]; rfl
    simp [nameF, hat, this]
   ·by_cases h2 : 122 < (b.toNat : Int)
    ·simp -dsimp only [↓kpre, kpost, light, ret1, cellF, afill, setAll, ↓reduceIte, Nat.reduceEqDiff, reduceCtorEq, Nat.reduceBEq, Nat.reduceAdd, Nat.reduceMul, Nat.reduceSub, Nat.reduceLT, Nat.reduceLeDiff, Int.reduceLT, Int.reduceLE, Int.reduceToNat, Int.reduceBEq, Int.reduceBNe, Int.reduceSub, Int.reduceAdd, Int.reduceEq, Int.reduceNe, Int.reduceNeg, ix9, vlr9, Tryd.results9, sempty, h0, h8, hb, h1, h2]
     have : smallB b.toNat = false := by unfold smallB; rw [decide_eq_false (show ¬ ((b.toNat : Int) ≤ 122) by omega)]; simp
     simp [nameF, hat, this]
    ·have hs : smallB b.toNat = true := by unfold smallB; rw [decide_eq_true (by omega), decide_eq_true (by omega)]; rfl
     rw [hs] at hat
     simp -dsimp only [↓kpre, kpost, light, ret1, cellF, afill, setAll, ↓reduceIte, Nat.reduceEqDiff, reduceCtorEq, Nat.reduceBEq, Nat.reduceAdd, Nat.reduceMul, Nat.reduceSub, Nat.reduceLT, Nat.reduceLeDiff, Int.reduceLT, Int.reduceLE, Int.reduceToNat, Int.reduceBEq, Int.reduceBNe, Int.reduceSub, Int.reduceAdd, Int.reduceEq, Int.reduceNe, Int.reduceNeg, ix9, vlr9, Tryd.results9, sempty, h0, h8, hb, h1, h2]
     refine zagn (fun m e S => ∃ i : Nat, m = s.size - i ∧ i ≤ s.size ∧ eget e 0 = .string s ∧ eget e 23 = .int .i64 s.size ∧ eget e 24 = .int .i64 i ∧ (∀ j, j < i → atB chrB s j = true) ∧ S = ⟨[], [], []⟩) s.size ?_ ?_
     ·refine ⟨0, rfl, Nat.zero_le _, ?_, ?_, ?_, fun j h => absurd h (Nat.not_lt_zero j), rfl⟩ <;> simp only [↓epre, epost, ↓reduceIte, Nat.reduceEqDiff, reduceCtorEq, Nat.reduceBEq, Nat.reduceAdd, Nat.reduceMul, Nat.reduceSub, Nat.reduceLT, Nat.reduceLeDiff] <;> rfl
     ·rintro m e S ⟨i, rfl, hi, e0, e23, e24, hall, rfl⟩
      refine VWP_Vc _ _ _ _ ?_
      by_cases hin : i < s.size
      ·have hlt : (i : Int) < s.size := by omega
       have hi0 : (0 : Int) ≤ i := by omega
       obtain ⟨d, hd⟩ := ba_get hin
       have hda := zaii (p := chrB) hd
       have hnum : ((i : Int) + 1) = ((i + 1 : Nat) : Int) := by omega
       have hwr : IntKind.i64.wrap ((i : Int) + 1) = ((i + 1 : Nat) : Int) := by rw [hnum]; exact zabt (by omega) (by omega)
       have go : atB chrB s i = true → ∀ j, j < i + 1 → atB chrB s j = true := fun h j hj => by
        rcases Nat.lt_succ_iff_lt_or_eq.1 hj with hj | rfl
        ·exact hall j hj
        ·exact h
       by_cases d1 : (d.toNat : Int) < 97
       ·by_cases d3 : (d.toNat : Int) < 48
        ·simp -dsimp only [↓kpre, kpost, light, ret1, cellF, afill, setAll, ↓reduceIte, Nat.reduceEqDiff, reduceCtorEq, Nat.reduceBEq, Nat.reduceAdd, Nat.reduceMul, Nat.reduceSub, Nat.reduceLT, Nat.reduceLeDiff, Int.reduceLT, Int.reduceLE, Int.reduceToNat, Int.reduceBEq, Int.reduceBNe, Int.reduceSub, Int.reduceAdd, Int.reduceEq, Int.reduceNe, Int.reduceNeg, ix9, vlr9, Tryd.results9, e0, e23, e24, hlt, hi0, hd, d1, d3]
         rw [zakw hin]
         rw [hda]; unfold chrB smallB digitB
         simp [show ¬ (97 ≤ (d.toNat : Int)) by omega, show ¬ (48 ≤ (d.toNat : Int)) by omega]
        ·by_cases d4 : 57 < (d.toNat : Int)
         ·simp -dsimp only [↓kpre, kpost, light, ret1, cellF, afill, setAll, ↓reduceIte, Nat.reduceEqDiff, reduceCtorEq, Nat.reduceBEq, Nat.reduceAdd, Nat.reduceMul, Nat.reduceSub, Nat.reduceLT, Nat.reduceLeDiff, Int.reduceLT, Int.reduceLE, Int.reduceToNat, Int.reduceBEq, Int.reduceBNe, Int.reduceSub, Int.reduceAdd, Int.reduceEq, Int.reduceNe, Int.reduceNeg, ix9, vlr9, Tryd.results9, e0, e23, e24, hlt, hi0, hd, d1, d3, d4]
          rw [zakw hin]
          rw [hda]; unfold chrB smallB digitB
          simp [show ¬ (97 ≤ (d.toNat : Int)) by omega, show ¬ ((d.toNat : Int) ≤ 57) by omega]
         ·simp -dsimp only [↓kpre, kpost, light, ret1, cellF, afill, setAll, ↓reduceIte, Nat.reduceEqDiff, reduceCtorEq, Nat.reduceBEq, Nat.reduceAdd, Nat.reduceMul, Nat.reduceSub, Nat.reduceLT, Nat.reduceLeDiff, Int.reduceLT, Int.reduceLE, Int.reduceToNat, Int.reduceBEq, Int.reduceBNe, Int.reduceSub, Int.reduceAdd, Int.reduceEq, Int.reduceNe, Int.reduceNeg, ix9, vlr9, Tryd.results9, e0, e23, e24, hlt, hi0, hd, d1, d3, d4]
          refine ⟨s.size - (i + 1), by omega, i + 1, rfl, by omega, by rw [hwr], go ?_⟩
          rw [hda]; unfold chrB digitB
          simp [show 48 ≤ (d.toNat : Int) by omega, show (d.toNat : Int) ≤ 57 by omega]
       ·by_cases d2 : 122 < (d.toNat : Int)
        ·have d3 : ¬ (d.toNat : Int) < 48 := by omega
         have d4 : 57 < (d.toNat : Int) := by omega
         simp -dsimp only [↓kpre, kpost, light, ret1, cellF, afill, setAll, ↓reduceIte, Nat.reduceEqDiff, reduceCtorEq, Nat.reduceBEq, Nat.reduceAdd, Nat.reduceMul, Nat.reduceSub, Nat.reduceLT, Nat.reduceLeDiff, Int.reduceLT, Int.reduceLE, Int.reduceToNat, Int.reduceBEq, Int.reduceBNe, Int.reduceSub, Int.reduceAdd, Int.reduceEq, Int.reduceNe, Int.reduceNeg, ix9, vlr9, Tryd.results9, e0, e23, e24, hlt, hi0, hd, d1, d2, d3, d4]
         rw [zakw hin]
         rw [hda]; unfold chrB smallB digitB
         simp [show ¬ ((d.toNat : Int) ≤ 122) by omega, show ¬ ((d.toNat : Int) ≤ 57) by omega]
        ·simp -dsimp only [↓kpre, kpost, light, ret1, cellF, afill, setAll, ↓reduceIte, Nat.reduceEqDiff, reduceCtorEq, Nat.reduceBEq, Nat.reduceAdd, Nat.reduceMul, Nat.reduceSub, Nat.reduceLT, Nat.reduceLeDiff, Int.reduceLT, Int.reduceLE, Int.reduceToNat, Int.reduceBEq, Int.reduceBNe, Int.reduceSub, Int.reduceAdd, Int.reduceEq, Int.reduceNe, Int.reduceNeg, ix9, vlr9, Tryd.results9, e0, e23, e24, hlt, hi0, hd, d1, d2]
         refine ⟨s.size - (i + 1), by omega, i + 1, rfl, by omega, by rw [hwr], go ?_⟩
         rw [hda]; unfold chrB smallB
         simp [show 97 ≤ (d.toNat : Int) by omega, show (d.toNat : Int) ≤ 122 by omega]
      ·obtain rfl : i = s.size := by omega
       have hlt : ¬ ((s.size : Int) < s.size) := by omega
       simp -dsimp only [↓kpre, kpost, light, ret1, cellF, afill, setAll, ↓reduceIte, Nat.reduceEqDiff, reduceCtorEq, Nat.reduceBEq, Nat.reduceAdd, Nat.reduceMul, Nat.reduceSub, Nat.reduceLT, Nat.reduceLeDiff, Int.reduceLT, Int.reduceLE, Int.reduceToNat, Int.reduceBEq, Int.reduceBNe, Int.reduceSub, Int.reduceAdd, Int.reduceEq, Int.reduceNe, Int.reduceNeg, ix9, vlr9, Tryd.results9, e0, e23, e24, hlt]
       rw [zast (by omega) (by omega) hat hall]
theorem name_c (hX : X 9 = none) (s : ByteArray) {S : VH} {K : VCont} : Vcallee Tryd.prog X 9 [.string s] S K = K (.bool (nameF s)) [] S [] false := zaac (name_p hX s) rfl rfl rfl
theorem za2m (hX : X 62 = none) (s : ByteArray) (c r : Int) : Vp Tryd.prog X 62 [.agg ⟨[.string s, .int .i64 c, .int .i64 r]⟩] (.bool (placeF c r)) := by
 unfold Vp
 refine zaaw hX Tryd.func62 rfl (by kernel_rfl) (by show 1 ≤ _; decide) ?_
 by_cases h1 : 1 ≤ c <;> by_cases h2 : c ≤ 702 <;> by_cases h3 : 1 ≤ r <;> by_cases h4 : r ≤ 999 <;> simp -dsimp only [↓kpre, kpost, light, ret1, cellF, afill, setAll, ↓reduceIte, Nat.reduceEqDiff, reduceCtorEq, Nat.reduceBEq, Nat.reduceAdd, Nat.reduceMul, Nat.reduceSub, Nat.reduceLT, Nat.reduceLeDiff, Int.reduceLT, Int.reduceLE, Int.reduceToNat, Int.reduceBEq, Int.reduceBNe, Int.reduceSub, Int.reduceAdd, Int.reduceEq, Int.reduceNe, Int.reduceNeg, vld3, vgt3, zapf, zapm, zapg, zapn, Tryd.results62, h1, h2, h3, h4] <;> simp [placeF, h1, h2, h3, h4]
theorem zae3 (hX : X 62 = none) (s : ByteArray) (c r : Int) {S : VH} {K : VCont} : Vcallee Tryd.prog X 62 [.agg ⟨[.string s, .int .i64 c, .int .i64 r]⟩] S K = K (.bool (placeF c r)) [] S [] false := zaac (za2m hX s c r) rfl rfl rfl
theorem za2r (hX : X 64 = none) (hX1 : X 62 = none) (hX2 : X 9 = none) (s : ByteArray) (c r : Int) : Vp Tryd.prog X 64 [.agg ⟨[.string s, .int .i64 c, .int .i64 r]⟩] (.bool (celF s c r)) := by
 unfold Vp
 refine zaaw hX Tryd.func64 rfl (by kernel_rfl) (by show 1 ≤ _; decide) ?_
 cases h : nameF s <;> simp -dsimp only [↓kpre, kpost, light, ret1, cellF, afill, setAll, ↓reduceIte, Nat.reduceEqDiff, reduceCtorEq, Nat.reduceBEq, Nat.reduceAdd, Nat.reduceMul, Nat.reduceSub, Nat.reduceLT, Nat.reduceLeDiff, Int.reduceLT, Int.reduceLE, Int.reduceToNat, Int.reduceBEq, Int.reduceBNe, Int.reduceSub, Int.reduceAdd, Int.reduceEq, Int.reduceNe, Int.reduceNeg, vld9, vgt9, vld28, vgt28, zaxx, zax8, ↓vfk9, ↓vfk62, Tryd.results64, ↓name_c hX2, ↓zae3 hX1, h] <;> simp [celF, h]
theorem zaj5 (hX : X 64 = none) (hX1 : X 62 = none) (hX2 : X 9 = none) (s : ByteArray) (c r : Int) {S : VH} {K : VCont} : Vcallee Tryd.prog X 64 [.agg ⟨[.string s, .int .i64 c, .int .i64 r]⟩] S K = K (.bool (celF s c r)) [] S [] false := zaac (za2r hX hX1 hX2 s c r) rfl rfl rfl
end
end Go.Proofs.YtliemjbafgnnbaaDoor.Abs
/- Errors first. -/
namespace Go.Proofs.YtliemjbafgnnbaaDoor.Abs
open Go
attribute [local irreducible] Hold VReg Vf Vc VWP With VStp Vcallee Vp
end Go.Proofs.YtliemjbafgnnbaaDoor.Abs
/- Numbers out of values. -/
namespace Go.Proofs.YtliemjbafgnnbaaDoor.Abs
open Go
attribute [local irreducible] Hold VReg Vf Vc VWP With VStp Vcallee Vp VE
end Go.Proofs.YtliemjbafgnnbaaDoor.Abs
/- Numbers out of rows; rows of one. -/
namespace Go.Proofs.YtliemjbafgnnbaaDoor.Abs
open Go
attribute [local irreducible] Hold VReg Vf Vc VWP With VStp Vcallee Vp VE
theorem za3q (f : VV → Int) (l : List VV) (i : Nat) (h : i < l.length) : (l.take (i + 1)).map f = (l.take i).map f ++ [f l[i]] := by
 rw [← List.take_append_getElem h, List.map_append]
 rfl
end Go.Proofs.YtliemjbafgnnbaaDoor.Abs
/- Rows of rows: each of one value. -/
namespace Go.Proofs.YtliemjbafgnnbaaDoor.Abs
open Go
attribute [local irreducible] Hold VReg Vf Vc VWP With VStp Vcallee Vp VE
structure RW where
 c : Bool
 l : List VV
def RW.v (d : Nat) (r : RW) : Value := sl r.c d 3 (r.l.map VV.v)
end Go.Proofs.YtliemjbafgnnbaaDoor.Abs
/- How two values compare. -/
namespace Go.Proofs.YtliemjbafgnnbaaDoor.Abs
open Go
attribute [local irreducible] Hold VReg Vf Vc VWP With VStp Vcallee Vp VE
section
variable {X : VOuter}
end
end Go.Proofs.YtliemjbafgnnbaaDoor.Abs
/- How two values compare: the whole. -/
namespace Go.Proofs.YtliemjbafgnnbaaDoor.Abs
open Go
attribute [local irreducible] Hold VReg Vf Vc VWP With VStp Vcallee Vp VE
section
variable {X : VOuter}
end
end Go.Proofs.YtliemjbafgnnbaaDoor.Abs
/- Ranges of cells: how many there are, which are in, which is ahead. -/
namespace Go.Proofs.YtliemjbafgnnbaaDoor.Abs
open Go
def zafm := And.intro (@val28) (@vfk64)
def zafo := And.intro (And.intro (And.intro (And.intro (@vld28) (@vgt28)) (And.intro (@vld9) (@vgt9))) (And.intro (And.intro (@vld3) (@vgt3)) (And.intro (@vst28) (And.intro (@za3c) (@za3n))))) (And.intro (And.intro (And.intro (@za3d) (@za3o)) (And.intro (@zaxx) (@zax8))) (And.intro (And.intro (@zapf) (@zapm)) (And.intro (@zapg) (And.intro (@zapn) (@Tryd.results57)))))
attribute [local irreducible] Hold VReg Vf Vc VWP With VStp Vcallee Vp VE
theorem zaij {a b : ByteArray} (h : a.toList = b.toList) : a = b := by
 rw [ByteArray.toList_eq, ByteArray.toList_eq] at h
 have e1 : a = ⟨(a.data.toList).toArray⟩ := rfl
 rw [e1, h]
theorem ab_seq {P : Program} {t : TypeId} {x y : Operand} {s r : ByteArray} : abin P .eql t x y (.string s) (.string r) = some (.bool (decide (s = r))) := by
 rw [zaki]
 congr 2
 rw [Bool.eq_iff_iff]
 simp only [beq_iff_eq, decide_eq_true_eq]
 exact ⟨zaij, fun h => by rw [h]⟩
theorem zac9 {P : Program} {t : TypeId} {x y : Operand} {s r : ByteArray} : abin P .neq t x y (.string s) (.string r) = some (.bool (!decide (s = r))) := by
 have h := ab_seq (P := P) (t := t) (x := x) (y := y) (s := s) (r := r)
 rw [zaki] at h
 rw [zaup]
 simp only [Option.some.injEq, Value.bool.injEq] at h
 rw [h]
structure CC where
 s : ByteArray
 c : Int
 r : Int
def CC.v (x : CC) : Value := .agg ⟨[.string x.s, .int .i64 x.c, .int .i64 x.r]⟩
def eqC (x y : CC) : Bool := decide (x.s = y.s) && (decide (x.c = y.c) && decide (x.r = y.r))
theorem zazn (sa sc : ByteArray) (ka kb na nb : Int) : aeq Tryd.prog 20 28 (.agg #[.string sa, .int .i64 ka, .int .i64 na]) (.agg #[.string sc, .int .i64 kb, .int .i64 nb]) = some (eqC ⟨sa, ka, na⟩ ⟨sc, kb, nb⟩) := by
 have e : aeq Tryd.prog 20 28 (.agg #[.string sa, .int .i64 ka, .int .i64 na]) (.agg #[.string sc, .int .i64 kb, .int .i64 nb]) = (if (sa.toList == sc.toList) = true then (if (ka == kb) = true then (if (na == nb) = true then some true else some false) else some false) else some false) := by kernel_rfl
 have h : (sa.toList == sc.toList) = decide (sa = sc) := by
  rw [Bool.eq_iff_iff]
  simp only [beq_iff_eq, decide_eq_true_eq]
  exact ⟨zaij, fun h => by rw [h]⟩
 rw [e, h, ibeq, ibeq]
 unfold eqC
 by_cases h1 : sa = sc <;> by_cases h2 : ka = kb <;> by_cases h3 : na = nb <;> simp [h1, h2, h3]
theorem zan6 (x y : Operand) (sa sc : ByteArray) (ka kb na nb : Int) : vbin Tryd.prog .neq 28 x y (.agg ⟨[.string sa, .int .i64 ka, .int .i64 na]⟩) (.agg ⟨[.string sc, .int .i64 kb, .int .i64 nb]⟩) = some (.bool (!eqC ⟨sa, ka, na⟩ ⟨sc, kb, nb⟩)) := by
 rw [zaty _ _ _ _ _ rfl rfl]
 exact zanz rfl rfl (by kernel_rfl) (zazn sa sc ka kb na nb)
def areaF (a b : CC) : Bool := celF a.s a.c a.r && celF b.s b.c b.r && decide (a.s = b.s) && decide (a.c ≤ b.c) && decide (a.r ≤ b.r)
def areaN (a b : CC) : Int := if areaF a b then (b.c - a.c + 1) * (b.r - a.r + 1) else 0
theorem zali {s : ByteArray} {c r : Int} (h : celF s c r = true) : 1 ≤ c ∧ c ≤ 702 ∧ 1 ≤ r ∧ r ≤ 999 := by
 simp only [celF, placeF, Bool.and_eq_true, decide_eq_true_eq] at h
 exact ⟨h.2.1.1.1, h.2.1.1.2, h.2.1.2, h.2.2⟩
section
variable {X : VOuter}
structure NOff (X : VOuter) : Prop where
 name : X 9 = none
 place : X 62 = none
 right : X 64 = none
 area : X 57 = none
theorem area_p (h : NOff X) (s : ByteArray) (c r : Int) (s' : ByteArray) (c' r' : Int) : Vp Tryd.prog X 57 [.agg ⟨[.string s, .int .i64 c, .int .i64 r, .string s', .int .i64 c', .int .i64 r']⟩] (.tuple ⟨[.int .i64 (areaN ⟨s, c, r⟩ ⟨s', c', r'⟩), .bool (areaF ⟨s, c, r⟩ ⟨s', c', r'⟩)]⟩) := by
 unfold Vp
 refine zaaw h.area Tryd.func57 rfl (by kernel_rfl) (by show 1 ≤ _; decide) ?_
 cases h1 : celF s c r
 ·simp -dsimp only [↓kpre, kpost, light, ret1, cellF, afill, setAll, simprocAttr, ↓zafm, zafo]
  refine zags [[], [1, 2], [], [1, 2, 3], [], [], [], []] false (by kernel_rfl) (by kernel_rfl) (by kernel_rfl) (by kernel_rfl) ?_
  simp -dsimp only [↓kpre, kpost, light, ret1, cellF, afill, setAll, simprocAttr, ↓opre, opost, vspan, ↓zafm, zafo, ↓zaj5 h.right h.place h.name, h1]
  simp [areaN, areaF, h1]
 ·cases h2 : celF s' c' r'
  ·simp -dsimp only [↓kpre, kpost, light, ret1, cellF, afill, setAll, simprocAttr, ↓zafm, zafo]
   refine zags [[], [1, 2], [], [1, 2, 3], [], [], [], []] false (by kernel_rfl) (by kernel_rfl) (by kernel_rfl) (by kernel_rfl) ?_
   simp -dsimp only [↓kpre, kpost, light, ret1, cellF, afill, setAll, simprocAttr, ↓opre, opost, vspan, ↓zafm, zafo, ↓zaj5 h.right h.place h.name, h1, h2]
   simp [areaN, areaF, h1, h2]
  ·by_cases h3 : s = s'
   ·subst h3
    by_cases h4 : c' < c
    ·simp -dsimp only [↓kpre, kpost, light, ret1, cellF, afill, setAll, simprocAttr, ↓zafm, zafo]
     refine zags [[], [1, 2], [], [1, 2, 3], [], [], [], []] false (by kernel_rfl) (by kernel_rfl) (by kernel_rfl) (by kernel_rfl) ?_
     simp -dsimp only [↓kpre, kpost, light, ret1, cellF, afill, setAll, simprocAttr, ↓opre, opost, vspan, ↓zafm, zafo, ↓zaj5 h.right h.place h.name, h1, h2, zac9, h4]
     have : ¬ c ≤ c' := by omega
     simp [areaN, areaF, h1, h2, this]
    ·by_cases h5 : r' < r
     ·simp -dsimp only [↓kpre, kpost, light, ret1, cellF, afill, setAll, simprocAttr, ↓zafm, zafo]
      refine zags [[], [1, 2], [], [1, 2, 3], [], [], [], []] false (by kernel_rfl) (by kernel_rfl) (by kernel_rfl) (by kernel_rfl) ?_
      simp -dsimp only [↓kpre, kpost, light, ret1, cellF, afill, setAll, simprocAttr, ↓opre, opost, vspan, ↓zafm, zafo, ↓zaj5 h.right h.place h.name, h1, h2, zac9, h4, h5]
      have : ¬ r ≤ r' := by omega
      simp [areaN, areaF, h1, h2, this]
     ·have p1 := zali h1
      have p2 := zali h2
      have w1 : IntKind.i64.wrap (c' - c) = c' - c := zabt (by omega) (by omega)
      have w2 : IntKind.i64.wrap (c' - c + 1) = c' - c + 1 := zabt (by omega) (by omega)
      have w3 : IntKind.i64.wrap (r' - r) = r' - r := zabt (by omega) (by omega)
      have w4 : IntKind.i64.wrap (r' - r + 1) = r' - r + 1 := zabt (by omega) (by omega)
      have hp : 0 ≤ (c' - c + 1) * (r' - r + 1) ∧ (c' - c + 1) * (r' - r + 1) ≤ 702 * 999 := ⟨Int.mul_nonneg (by omega) (by omega), Int.mul_le_mul (by omega) (by omega) (by omega) (by omega)⟩
      have w5 : IntKind.i64.wrap ((c' - c + 1) * (r' - r + 1)) = (c' - c + 1) * (r' - r + 1) := zabt (by omega) (by omega)
      simp -dsimp only [↓kpre, kpost, light, ret1, cellF, afill, setAll, simprocAttr, ↓zafm, zafo]
      refine zags [[], [1, 2], [], [1, 2, 3], [], [], [], []] false (by kernel_rfl) (by kernel_rfl) (by kernel_rfl) (by kernel_rfl) ?_
      simp -dsimp only [↓kpre, kpost, light, ret1, cellF, afill, setAll, simprocAttr, ↓opre, opost, vspan, ↓zafm, zafo, ↓zaj5 h.right h.place h.name, h1, h2, zac9, h4, h5, w1, w2, w3, w4, w5]
      have e1 : c ≤ c' := by omega
      have e2 : r ≤ r' := by omega
      simp [areaN, areaF, h1, h2, e1, e2]
   ·simp -dsimp only [↓kpre, kpost, light, ret1, cellF, afill, setAll, simprocAttr, ↓zafm, zafo]
    refine zags [[], [1, 2], [], [1, 2, 3], [], [], [], []] false (by kernel_rfl) (by kernel_rfl) (by kernel_rfl) (by kernel_rfl) ?_
    simp -dsimp only [↓kpre, kpost, light, ret1, cellF, afill, setAll, simprocAttr, ↓opre, opost, vspan, ↓zafm, zafo, ↓zaj5 h.right h.place h.name, h1, h2, zac9, h3]
    simp [areaN, areaF, h1, h2, h3]
theorem area_c (h : NOff X) (s : ByteArray) (c r : Int) (s' : ByteArray) (c' r' : Int) {S : VH} {K : VCont} : Vcallee Tryd.prog X 57 [.agg ⟨[.string s, .int .i64 c, .int .i64 r, .string s', .int .i64 c', .int .i64 r']⟩] S K = K (.tuple ⟨[.int .i64 (areaN ⟨s, c, r⟩ ⟨s', c', r'⟩), .bool (areaF ⟨s, c, r⟩ ⟨s', c', r'⟩)]⟩) [] S [] false := zaac (area_p h s c r s' c' r') rfl rfl rfl
theorem za2w (h : NOff X) (hX : X 48 = none) (s : ByteArray) (c r : Int) (s' : ByteArray) (c' r' : Int) : Vp Tryd.prog X 48 [.agg ⟨[.string s, .int .i64 c, .int .i64 r, .string s', .int .i64 c', .int .i64 r']⟩] (.bool (areaF ⟨s, c, r⟩ ⟨s', c', r'⟩ && decide (areaN ⟨s, c, r⟩ ⟨s', c', r'⟩ ≤ 400))) := by
 unfold Vp
 refine zaaw hX Tryd.func48 rfl (by kernel_rfl) (by show 1 ≤ _; decide) ?_
 cases h1 : areaF ⟨s, c, r⟩ ⟨s', c', r'⟩
 ·simp -dsimp only [↓kpre, kpost, light, ret1, cellF, afill, setAll, simprocAttr, vld86, vgt86, ↓vfk57, Tryd.results48, ↓area_c h, h1]
 ·by_cases h2 : areaN ⟨s, c, r⟩ ⟨s', c', r'⟩ ≤ 400 <;> simp -dsimp only [↓kpre, kpost, light, ret1, cellF, afill, setAll, simprocAttr, vld86, vgt86, ↓vfk57, Tryd.results48, ↓area_c h, h1, h2]
theorem za2v (h : NOff X) (hX : X 48 = none) (s : ByteArray) (c r : Int) (s' : ByteArray) (c' r' : Int) {S : VH} {K : VCont} : Vcallee Tryd.prog X 48 [.agg ⟨[.string s, .int .i64 c, .int .i64 r, .string s', .int .i64 c', .int .i64 r']⟩] S K = K (.bool (areaF ⟨s, c, r⟩ ⟨s', c', r'⟩ && decide (areaN ⟨s, c, r⟩ ⟨s', c', r'⟩ ≤ 400))) [] S [] false := zaac (za2w h hX s c r s' c' r') rfl rfl rfl
end
end Go.Proofs.YtliemjbafgnnbaaDoor.Abs
/- The cells of a range. -/
namespace Go.Proofs.YtliemjbafgnnbaaDoor.Abs
open Go
attribute [local irreducible] Hold VReg Vf Vc VWP With VStp Vcallee Vp VE
end Go.Proofs.YtliemjbafgnnbaaDoor.Abs
