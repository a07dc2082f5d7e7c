/- The functions of values: what they do with rows of values. -/
import Derived.Test.YtliemjbafgnnbaaGreatDoorPVTF
import Derived.Test.YtliemjbafgnnbaaGreatDoorMW7
import Derived.Test.YtliemjbafgnnbaaGreatDoorPW29
set_option linter.defProp false
set_option linter.unusedSimpArgs false
set_option linter.unusedVariables false
set_option maxRecDepth 4000
set_option maxHeartbeats 0
namespace Go.Proofs.YtliemjbafgnnbaaGreatDoor.Abs
open Go
attribute [local irreducible] Hold VReg Vf Vc VWP With VStp Vcallee Vp
structure VV where
 k : Int
 n : Int
 s : ByteArray
def VV.v (x : VV) : Value := .agg ⟨[.int .i64 x.k, .int .i64 x.n, .string x.s]⟩
end Go.Proofs.YtliemjbafgnnbaaGreatDoor.Abs
/- Right values, errors first, numbers. -/
namespace Go.Proofs.YtliemjbafgnnbaaGreatDoor.Abs
open Go
attribute [local irreducible] Hold VReg Vf Vc VWP With VStp Vcallee Vp
theorem sempty {P : Program} {t : TypeId} {x y : Operand} {s : ByteArray} : abin P .eql t x y (.string s) (.string ⟨#[]⟩) = some (.bool (decide (s.size = 0))) := by
 rw [zaly, ByteArray.toList_eq, ByteArray.toList_eq]
 congr 2
 rw [Bool.eq_iff_iff]
 simp [← Array.size_eq_zero_iff]
def rightF (x : VV) : Bool :=
 if x.k = 0 then decide (x.n = 0) && decide (x.s.size = 0) else
 if x.k = 1 then decide (x.s.size = 0) else
 if x.k = 2 then decide (x.n = 0) && decide (x.s.size ≤ 200) else
 if x.k = 3 then (decide (x.n = 0) || decide (x.n = 1)) && decide (x.s.size = 0) else
 if x.k = 4 then (decide (1 ≤ x.n) && decide (x.n ≤ 7)) && decide (x.s.size = 0) else false
def iV (n : Int) : VV := ⟨1, n, .empty⟩
def bV (b : Bool) : VV := ⟨3, if b then 1 else 0, .empty⟩
theorem int_p {X : VOuter} (hX : X 59 = none) (n : Int) : Vp Tryz.prog X 59 [.int .i64 n] (iV n).v := by
 unfold Vp
 refine zaay hX Tryz.func59 rfl (by kernel_rfl) (by show 1 ≤ _; decide) ?_
 simp -dsimp only [↓kpre, kpost, light, ret1, cellF, afill, setAll, simprocAttr, vld24, vgt24, vst24, ↓val24, bd24, pl24_0, pl24_1, pl24_2, Tryz.results59]
 rfl
theorem int_c {X : VOuter} (hX : X 59 = none) (n : Int) {S : VH} {K : VCont} : Vcallee Tryz.prog X 59 [.int .i64 n] S K = K (.agg ⟨[.int .i64 1, .int .i64 n, .string .empty]⟩) [] S [] false := zaag (int_p hX n) rfl rfl rfl
end Go.Proofs.YtliemjbafgnnbaaGreatDoor.Abs
/- Names of sheets; which cells may be. -/
namespace Go.Proofs.YtliemjbafgnnbaaGreatDoor.Abs
open Go
def zaz2 := @vfk16
def zaz7 := And.intro (And.intro (And.intro (@vld9) (@vgt9)) (And.intro (@vld3) (And.intro (@vgt3) (@zari)))) (And.intro (And.intro (@zarp) (And.intro (@zako) (@zaku))) (And.intro (@zakp) (And.intro (@zakv) (@Tryz.results38))))
attribute [local irreducible] Hold VReg Vf Vc VWP With VStp Vcallee Vp VE
def smallB (n : Int) : Bool := decide (97 ≤ n) && decide (n ≤ 122)
def digitB (n : Int) : Bool := decide (48 ≤ n) && decide (n ≤ 57)
def chrB (n : Int) : Bool := smallB n || digitB n
def atB (p : Int → Bool) (s : ByteArray) (i : Nat) : Bool := match s[i]? with
 | some b => p b.toNat
 | none => false
def nameF (s : ByteArray) : Bool := decide (1 ≤ (s.size : Int)) && decide ((s.size : Int) ≤ 8) && atB smallB s 0 && (List.range s.size).all (atB chrB s)
def placeF (c r : Int) : Bool := decide (1 ≤ c) && decide (c ≤ 702) && decide (1 ≤ r) && decide (r ≤ 999)
def celF (s : ByteArray) (c r : Int) : Bool := nameF s && placeF c r
theorem zafl {p : Int → Bool} {s : ByteArray} {i : Nat} {b : UInt8} (h : s[i]? = some b) : atB p s i = p b.toNat := by simp [atB, h]
theorem ba_get {s : ByteArray} {i : Nat} (h : i < s.size) : ∃ b, s[i]? = some b := ⟨s[i], getElem?_pos s i h⟩
theorem zanl {s : ByteArray} (h1 : 1 ≤ s.size) (h8 : s.size ≤ 8) (h0 : atB smallB s 0 = true) (ha : ∀ i, i < s.size → atB chrB s i = true) : nameF s = true := by
 unfold nameF
 rw [decide_eq_true (show (1 : Int) ≤ s.size by omega), decide_eq_true (show (s.size : Int) ≤ 8 by omega), h0]
 simp only [Bool.true_and, List.all_eq_true, List.mem_range]
 exact ha
theorem zajb {s : ByteArray} {i : Nat} (hi : i < s.size) (h : atB chrB s i = false) : nameF s = false := by
 unfold nameF
 have : (List.range s.size).all (atB chrB s) = false := by
  rw [List.all_eq_false]
  exact ⟨i, by simp [hi], by simp [h]⟩
 rw [this, Bool.and_false]
section
variable {X : VOuter}
theorem name_p (hX : X 11 = none) (s : ByteArray) : Vp Tryz.prog X 11 [.string s] (.bool (nameF s)) := by
 unfold Vp
 refine zaay hX Tryz.func11 rfl (by kernel_rfl) (by show 1 ≤ _; decide) ?_
 by_cases h0 : s.size = 0
 ·simp -dsimp only [↓kpre, kpost, light, ret1, cellF, afill, setAll, ↓reduceIte, Nat.reduceEqDiff, reduceCtorEq, Nat.reduceBEq, Nat.reduceAdd, Nat.reduceMul, Nat.reduceSub, Nat.reduceLT, Nat.reduceLeDiff, Int.reduceLT, Int.reduceLE, Int.reduceToNat, Int.reduceBEq, Int.reduceBNe, Int.reduceSub, Int.reduceAdd, Int.reduceEq, Int.reduceNe, Int.reduceNeg, ix9, vlr9, Tryz.results11, sempty, h0]
  simp [nameF, h0]
 ·by_cases h8 : (8 : Int) < s.size
  ·simp -dsimp only [↓kpre, kpost, light, ret1, cellF, afill, setAll, ↓reduceIte, Nat.reduceEqDiff, reduceCtorEq, Nat.reduceBEq, Nat.reduceAdd, Nat.reduceMul, Nat.reduceSub, Nat.reduceLT, Nat.reduceLeDiff, Int.reduceLT, Int.reduceLE, Int.reduceToNat, Int.reduceBEq, Int.reduceBNe, Int.reduceSub, Int.reduceAdd, Int.reduceEq, Int.reduceNe, Int.reduceNeg, ix9, vlr9, Tryz.results11, sempty, h0, h8]
   have : ¬ ((s.size : Int) ≤ 8) := by omega
   simp [nameF, this]
  ·obtain ⟨b, hb⟩ := ba_get (s := s) (i := 0) (by omega)
   have hat := zafl (p := smallB) hb
   by_cases h1 : (b.toNat : Int) < 97
   ·simp -dsimp only [↓kpre, kpost, light, ret1, cellF, afill, setAll, ↓reduceIte, Nat.reduceEqDiff, reduceCtorEq, Nat.reduceBEq, Nat.reduceAdd, Nat.reduceMul, Nat.reduceSub, Nat.reduceLT, Nat.reduceLeDiff, Int.reduceLT, Int.reduceLE, Int.reduceToNat, Int.reduceBEq, Int.reduceBNe, Int.reduceSub, Int.reduceAdd, Int.reduceEq, Int.reduceNe, Int.reduceNeg, ix9, vlr9, Tryz.results11, sempty, h0, h8, hb, h1]
    have : smallB b.toNat = false := by unfold smallB; rw [decide_eq_false (by omega)]; rfl
    simp [nameF, hat, this]
   ·by_cases h2 : 122 < (b.toNat : Int)
    ·simp -dsimp only [↓kpre, kpost, light, ret1, cellF, afill, setAll, ↓reduceIte, Nat.reduceEqDiff, reduceCtorEq, Nat.reduceBEq, Nat.reduceAdd, Nat.reduceMul, Nat.reduceSub, Nat.reduceLT, Nat.reduceLeDiff, Int.reduceLT, Int.reduceLE, Int.reduceToNat, Int.reduceBEq, Int.reduceBNe, Int.reduceSub, Int.reduceAdd, Int.reduceEq, Int.reduceNe, Int.reduceNeg, ix9, vlr9, Tryz.results11, sempty, h0, h8, hb, h1, h2]
     have : smallB b.toNat = false := by unfold smallB; rw [decide_eq_false (show ¬ ((b.toNat : Int) ≤ 122) by omega)]; simp
     simp [nameF, hat, this]
    ·have hs : smallB b.toNat = true := by unfold smallB; rw [decide_eq_true (by omega), decide_eq_true (by omega)]; rfl
     rw [hs] at hat
     simp -dsimp only [↓kpre, kpost, light, ret1, cellF, afill, setAll, ↓reduceIte, Nat.reduceEqDiff, reduceCtorEq, Nat.reduceBEq, Nat.reduceAdd, Nat.reduceMul, Nat.reduceSub, Nat.reduceLT, Nat.reduceLeDiff, Int.reduceLT, Int.reduceLE, Int.reduceToNat, Int.reduceBEq, Int.reduceBNe, Int.reduceSub, Int.reduceAdd, Int.reduceEq, Int.reduceNe, Int.reduceNeg, ix9, vlr9, Tryz.results11, sempty, h0, h8, hb, h1, h2]
     refine zabw (fun m e S => ∃ i : Nat, m = s.size - i ∧ i ≤ s.size ∧ eget e 0 = .string s ∧ eget e 23 = .int .i64 s.size ∧ eget e 24 = .int .i64 i ∧ (∀ j, j < i → atB chrB s j = true) ∧ S = ⟨[], [], []⟩) s.size ?_ ?_
     ·refine ⟨0, rfl, Nat.zero_le _, ?_, ?_, ?_, fun j h => absurd h (Nat.not_lt_zero j), rfl⟩ <;> simp only [↓epre, epost, ↓reduceIte, Nat.reduceEqDiff, reduceCtorEq, Nat.reduceBEq, Nat.reduceAdd, Nat.reduceMul, Nat.reduceSub, Nat.reduceLT, Nat.reduceLeDiff] <;> rfl
     ·rintro m e S ⟨i, rfl, hi, e0, e23, e24, hall, rfl⟩
      refine VWP_Vc _ _ _ _ ?_
      by_cases hin : i < s.size
      ·have hlt : (i : Int) < s.size := by omega
       have hi0 : (0 : Int) ≤ i := by omega
       obtain ⟨d, hd⟩ := ba_get hin
       have hda := zafl (p := chrB) hd
       have hnum : ((i : Int) + 1) = ((i + 1 : Nat) : Int) := by omega
       have hwr : IntKind.i64.wrap ((i : Int) + 1) = ((i + 1 : Nat) : Int) := by rw [hnum]; exact zaar (by omega) (by omega)
       have go : atB chrB s i = true → ∀ j, j < i + 1 → atB chrB s j = true := fun h j hj => by
        rcases Nat.lt_succ_iff_lt_or_eq.1 hj with hj | rfl
        ·exact hall j hj
        ·exact h
       by_cases d1 : (d.toNat : Int) < 97
       ·by_cases d3 : (d.toNat : Int) < 48
        ·simp -dsimp only [↓kpre, kpost, light, ret1, cellF, afill, setAll, ↓reduceIte, Nat.reduceEqDiff, reduceCtorEq, Nat.reduceBEq, Nat.reduceAdd, Nat.reduceMul, Nat.reduceSub, Nat.reduceLT, Nat.reduceLeDiff, Int.reduceLT, Int.reduceLE, Int.reduceToNat, Int.reduceBEq, Int.reduceBNe, Int.reduceSub, Int.reduceAdd, Int.reduceEq, Int.reduceNe, Int.reduceNeg, ix9, vlr9, Tryz.results11, e0, e23, e24, hlt, hi0, hd, d1, d3]
         rw [zajb hin]
         rw [hda]; unfold chrB smallB digitB
         simp [show ¬ (97 ≤ (d.toNat : Int)) by omega, show ¬ (48 ≤ (d.toNat : Int)) by omega]
        ·by_cases d4 : 57 < (d.toNat : Int)
         ·simp -dsimp only [↓kpre, kpost, light, ret1, cellF, afill, setAll, ↓reduceIte, Nat.reduceEqDiff, reduceCtorEq, Nat.reduceBEq, Nat.reduceAdd, Nat.reduceMul, Nat.reduceSub, Nat.reduceLT, Nat.reduceLeDiff, Int.reduceLT, Int.reduceLE, Int.reduceToNat, Int.reduceBEq, Int.reduceBNe, Int.reduceSub, Int.reduceAdd, Int.reduceEq, Int.reduceNe, Int.reduceNeg, ix9, vlr9, Tryz.results11, e0, e23, e24, hlt, hi0, hd, d1, d3, d4]
          rw [zajb hin]
          rw [hda]; unfold chrB smallB digitB
          simp [show ¬ (97 ≤ (d.toNat : Int)) by omega, show ¬ ((d.toNat : Int) ≤ 57) by omega]
         ·simp -dsimp only [↓kpre, kpost, light, ret1, cellF, afill, setAll, ↓reduceIte, Nat.reduceEqDiff, reduceCtorEq, Nat.reduceBEq, Nat.reduceAdd, Nat.reduceMul, Nat.reduceSub, Nat.reduceLT, Nat.reduceLeDiff, Int.reduceLT, Int.reduceLE, Int.reduceToNat, Int.reduceBEq, Int.reduceBNe, Int.reduceSub, Int.reduceAdd, Int.reduceEq, Int.reduceNe, Int.reduceNeg, ix9, vlr9, Tryz.results11, e0, e23, e24, hlt, hi0, hd, d1, d3, d4]
          refine ⟨s.size - (i + 1), by omega, i + 1, rfl, by omega, by rw [hwr], go ?_⟩
          rw [hda]; unfold chrB digitB
          simp [show 48 ≤ (d.toNat : Int) by omega, show (d.toNat : Int) ≤ 57 by omega]
       ·by_cases d2 : 122 < (d.toNat : Int)
        ·have d3 : ¬ (d.toNat : Int) < 48 := by omega
         have d4 : 57 < (d.toNat : Int) := by omega
         simp -dsimp only [↓kpre, kpost, light, ret1, cellF, afill, setAll, ↓reduceIte, Nat.reduceEqDiff, reduceCtorEq, Nat.reduceBEq, Nat.reduceAdd, Nat.reduceMul, Nat.reduceSub, Nat.reduceLT, Nat.reduceLeDiff, Int.reduceLT, Int.reduceLE, Int.reduceToNat, Int.reduceBEq, Int.reduceBNe, Int.reduceSub, Int.reduceAdd, Int.reduceEq, Int.reduceNe, Int.reduceNeg, ix9, vlr9, Tryz.results11, e0, e23, e24, hlt, hi0, hd, d1, d2, d3, d4]
         rw [zajb hin]
         rw [hda]; unfold chrB smallB digitB
         simp [show ¬ ((d.toNat : Int) ≤ 122) by omega, show ¬ ((d.toNat : Int) ≤ 57) by omega]
        ·simp -dsimp only [↓kpre, kpost, light, ret1, cellF, afill, setAll, ↓reduceIte, Nat.reduceEqDiff, reduceCtorEq, Nat.reduceBEq, Nat.reduceAdd, Nat.reduceMul, Nat.reduceSub, Nat.reduceLT, Nat.reduceLeDiff, Int.reduceLT, Int.reduceLE, Int.reduceToNat, Int.reduceBEq, Int.reduceBNe, Int.reduceSub, Int.reduceAdd, Int.reduceEq, Int.reduceNe, Int.reduceNeg, ix9, vlr9, Tryz.results11, e0, e23, e24, hlt, hi0, hd, d1, d2]
         refine ⟨s.size - (i + 1), by omega, i + 1, rfl, by omega, by rw [hwr], go ?_⟩
         rw [hda]; unfold chrB smallB
         simp [show 97 ≤ (d.toNat : Int) by omega, show (d.toNat : Int) ≤ 122 by omega]
      ·obtain rfl : i = s.size := by omega
       have hlt : ¬ ((s.size : Int) < s.size) := by omega
       simp -dsimp only [↓kpre, kpost, light, ret1, cellF, afill, setAll, ↓reduceIte, Nat.reduceEqDiff, reduceCtorEq, Nat.reduceBEq, Nat.reduceAdd, Nat.reduceMul, Nat.reduceSub, Nat.reduceLT, Nat.reduceLeDiff, Int.reduceLT, Int.reduceLE, Int.reduceToNat, Int.reduceBEq, Int.reduceBNe, Int.reduceSub, Int.reduceAdd, Int.reduceEq, Int.reduceNe, Int.reduceNeg, ix9, vlr9, Tryz.results11, e0, e23, e24, hlt]
       rw [zanl (by omega) (by omega) hat hall]
theorem name_c (hX : X 11 = none) (s : ByteArray) {S : VH} {K : VCont} : Vcallee Tryz.prog X 11 [.string s] S K = K (.bool (nameF s)) [] S [] false := zaag (name_p hX s) rfl rfl rfl
theorem za3k (hX : X 30 = none) (n : Int) : Vp Tryz.prog X 30 [.int .u8 n] (.bool (smallB n)) := by
 unfold Vp
 refine zaay hX Tryz.func30 rfl (by kernel_rfl) (by show 1 ≤ _; decide) ?_
 by_cases h1 : 97 ≤ n <;> by_cases h2 : n ≤ 122 <;> simp -dsimp only [↓kpre, kpost, light, ret1, cellF, afill, setAll, ↓reduceIte, Nat.reduceEqDiff, reduceCtorEq, Nat.reduceBEq, Nat.reduceAdd, Nat.reduceMul, Nat.reduceSub, Nat.reduceLT, Nat.reduceLeDiff, Int.reduceLT, Int.reduceLE, Int.reduceToNat, Int.reduceBEq, Int.reduceBNe, Int.reduceSub, Int.reduceAdd, Int.reduceEq, Int.reduceNe, Int.reduceNeg, Tryz.results30, h1, h2] <;> simp [smallB, h1, h2]
theorem zakf (hX : X 30 = none) (n : Int) {S : VH} {K : VCont} : Vcallee Tryz.prog X 30 [.int .u8 n] S K = K (.bool (smallB n)) [] S [] false := zaag (za3k hX n) rfl rfl rfl
theorem za29 (hX : X 28 = none) (n : Int) : Vp Tryz.prog X 28 [.int .u8 n] (.bool (digitB n)) := by
 unfold Vp
 refine zaay hX Tryz.func28 rfl (by kernel_rfl) (by show 1 ≤ _; decide) ?_
 by_cases h1 : 48 ≤ n <;> by_cases h2 : n ≤ 57 <;> simp -dsimp only [↓kpre, kpost, light, ret1, cellF, afill, setAll, ↓reduceIte, Nat.reduceEqDiff, reduceCtorEq, Nat.reduceBEq, Nat.reduceAdd, Nat.reduceMul, Nat.reduceSub, Nat.reduceLT, Nat.reduceLeDiff, Int.reduceLT, Int.reduceLE, Int.reduceToNat, Int.reduceBEq, Int.reduceBNe, Int.reduceSub, Int.reduceAdd, Int.reduceEq, Int.reduceNe, Int.reduceNeg, Tryz.results28, h1, h2] <;> simp [digitB, h1, h2]
theorem zahs (hX : X 28 = none) (n : Int) {S : VH} {K : VCont} : Vcallee Tryz.prog X 28 [.int .u8 n] S K = K (.bool (digitB n)) [] S [] false := zaag (za29 hX n) rfl rfl rfl
theorem za53 (hX : X 16 = none) (hX1 : X 30 = none) (hX2 : X 28 = none) (s : ByteArray) : Vp Tryz.prog X 16 [.string s] (.bool (nameF s)) := by
 unfold Vp
 refine zaay hX Tryz.func16 rfl (by kernel_rfl) (by show 1 ≤ _; decide) ?_
 by_cases h0 : (s.size : Int) < 1
 ·simp -dsimp only [↓kpre, kpost, light, ret1, cellF, afill, setAll, ↓reduceIte, Nat.reduceEqDiff, reduceCtorEq, Nat.reduceBEq, Nat.reduceAdd, Nat.reduceMul, Nat.reduceSub, Nat.reduceLT, Nat.reduceLeDiff, Int.reduceLT, Int.reduceLE, Int.reduceToNat, Int.reduceBEq, Int.reduceBNe, Int.reduceSub, Int.reduceAdd, Int.reduceEq, Int.reduceNe, Int.reduceNeg, ix9, vlr9, ↓vfk30, ↓vfk28, Tryz.results16, h0]
  simp [nameF, show ¬ (1 ≤ (s.size : Int)) by omega]
 ·by_cases h8 : (8 : Int) < s.size
  ·simp -dsimp only [↓kpre, kpost, light, ret1, cellF, afill, setAll, ↓reduceIte, Nat.reduceEqDiff, reduceCtorEq, Nat.reduceBEq, Nat.reduceAdd, Nat.reduceMul, Nat.reduceSub, Nat.reduceLT, Nat.reduceLeDiff, Int.reduceLT, Int.reduceLE, Int.reduceToNat, Int.reduceBEq, Int.reduceBNe, Int.reduceSub, Int.reduceAdd, Int.reduceEq, Int.reduceNe, Int.reduceNeg, ix9, vlr9, ↓vfk30, ↓vfk28, Tryz.results16, h0, h8]
   simp [nameF, show ¬ ((s.size : Int) ≤ 8) by omega]
  ·obtain ⟨b, hb⟩ := ba_get (s := s) (i := 0) (by omega)
   have hat := zafl (p := smallB) hb
   cases h1 : smallB b.toNat
   ·simp -dsimp only [↓kpre, kpost, light, ret1, cellF, afill, setAll, ↓reduceIte, Nat.reduceEqDiff, reduceCtorEq, Nat.reduceBEq, Nat.reduceAdd, Nat.reduceMul, Nat.reduceSub, Nat.reduceLT, Nat.reduceLeDiff, Int.reduceLT, Int.reduceLE, Int.reduceToNat, Int.reduceBEq, Int.reduceBNe, Int.reduceSub, Int.reduceAdd, Int.reduceEq, Int.reduceNe, Int.reduceNeg, ix9, vlr9, ↓vfk30, ↓vfk28, Tryz.results16, h0, h8, hb, h1, ↓zakf hX1]
    simp [nameF, hat, h1]
   ·rw [h1] at hat
    simp -dsimp only [↓kpre, kpost, light, ret1, cellF, afill, setAll, ↓reduceIte, Nat.reduceEqDiff, reduceCtorEq, Nat.reduceBEq, Nat.reduceAdd, Nat.reduceMul, Nat.reduceSub, Nat.reduceLT, Nat.reduceLeDiff, Int.reduceLT, Int.reduceLE, Int.reduceToNat, Int.reduceBEq, Int.reduceBNe, Int.reduceSub, Int.reduceAdd, Int.reduceEq, Int.reduceNe, Int.reduceNeg, ix9, vlr9, ↓vfk30, ↓vfk28, Tryz.results16, h0, h8, hb, h1, ↓zakf hX1]
    refine zabw (fun m e S => ∃ i : Nat, m = s.size - i ∧ 1 ≤ i ∧ i ≤ s.size ∧ eget e 0 = .string s ∧ eget e 3 = .int .i64 i ∧ (∀ j, j < i → atB chrB s j = true) ∧ S = ⟨[], [], []⟩) (s.size - 1) ?_ ?_
    ·refine ⟨1, rfl, Nat.le_refl _, by omega, ?_, ?_, fun j h => ?_, rfl⟩
     ·simp only [↓epre, epost, ↓reduceIte, Nat.reduceEqDiff, reduceCtorEq, Nat.reduceBEq, Nat.reduceAdd, Nat.reduceMul, Nat.reduceSub, Nat.reduceLT, Nat.reduceLeDiff]
     ·simp only [↓epre, epost, ↓reduceIte, Nat.reduceEqDiff, reduceCtorEq, Nat.reduceBEq, Nat.reduceAdd, Nat.reduceMul, Nat.reduceSub, Nat.reduceLT, Nat.reduceLeDiff]
      rfl
     ·obtain rfl : j = 0 := by omega
      rw [zafl hb]; unfold chrB; rw [h1]; rfl
    ·rintro m e S ⟨i, rfl, h1i, hi, e0, e3, hall, rfl⟩
     refine VWP_Vc _ _ _ _ ?_
     by_cases hin : i < s.size
     ·have hlt : (i : Int) < s.size := by omega
      have hi0 : (0 : Int) ≤ i := by omega
      obtain ⟨d, hd⟩ := ba_get hin
      have hda := zafl (p := chrB) hd
      have hnum : ((i : Int) + 1) = ((i + 1 : Nat) : Int) := by omega
      have hwr : IntKind.i64.wrap ((i : Int) + 1) = ((i + 1 : Nat) : Int) := by rw [hnum]; exact zaar (by omega) (by omega)
      have go : atB chrB s i = true → ∀ j, j < i + 1 → atB chrB s j = true := fun h j hj => by
       rcases Nat.lt_succ_iff_lt_or_eq.1 hj with hj | rfl
       ·exact hall j hj
       ·exact h
      cases d1 : smallB d.toNat
      ·cases d2 : digitB d.toNat
       ·simp -dsimp only [↓kpre, kpost, light, ret1, cellF, afill, setAll, ↓reduceIte, Nat.reduceEqDiff, reduceCtorEq, Nat.reduceBEq, Nat.reduceAdd, Nat.reduceMul, Nat.reduceSub, Nat.reduceLT, Nat.reduceLeDiff, Int.reduceLT, Int.reduceLE, Int.reduceToNat, Int.reduceBEq, Int.reduceBNe, Int.reduceSub, Int.reduceAdd, Int.reduceEq, Int.reduceNe, Int.reduceNeg, ix9, vlr9, ↓vfk30, ↓vfk28, Tryz.results16, e0, e3, hlt, hi0, hd, d1, d2, ↓zakf hX1, ↓zahs hX2]
        rw [zajb hin]
        rw [hda]; unfold chrB; rw [d1, d2]; rfl
       ·simp -dsimp only [↓kpre, kpost, light, ret1, cellF, afill, setAll, ↓reduceIte, Nat.reduceEqDiff, reduceCtorEq, Nat.reduceBEq, Nat.reduceAdd, Nat.reduceMul, Nat.reduceSub, Nat.reduceLT, Nat.reduceLeDiff, Int.reduceLT, Int.reduceLE, Int.reduceToNat, Int.reduceBEq, Int.reduceBNe, Int.reduceSub, Int.reduceAdd, Int.reduceEq, Int.reduceNe, Int.reduceNeg, ix9, vlr9, ↓vfk30, ↓vfk28, Tryz.results16, e0, e3, hlt, hi0, hd, d1, d2, ↓zakf hX1, ↓zahs hX2]
        refine ⟨s.size - (i + 1), by omega, i + 1, rfl, by omega, by omega, by rw [hwr], go ?_⟩
        rw [hda]; unfold chrB; rw [d1, d2]; rfl
      ·simp -dsimp only [↓kpre, kpost, light, ret1, cellF, afill, setAll, ↓reduceIte, Nat.reduceEqDiff, reduceCtorEq, Nat.reduceBEq, Nat.reduceAdd, Nat.reduceMul, Nat.reduceSub, Nat.reduceLT, Nat.reduceLeDiff, Int.reduceLT, Int.reduceLE, Int.reduceToNat, Int.reduceBEq, Int.reduceBNe, Int.reduceSub, Int.reduceAdd, Int.reduceEq, Int.reduceNe, Int.reduceNeg, ix9, vlr9, ↓vfk30, ↓vfk28, Tryz.results16, e0, e3, hlt, hi0, hd, d1, ↓zakf hX1, ↓zahs hX2]
       refine ⟨s.size - (i + 1), by omega, i + 1, rfl, by omega, by omega, by rw [hwr], go ?_⟩
       rw [hda]; unfold chrB; rw [d1]; rfl
     ·obtain rfl : i = s.size := by omega
      have hlt : ¬ ((s.size : Int) < s.size) := by omega
      simp -dsimp only [↓kpre, kpost, light, ret1, cellF, afill, setAll, ↓reduceIte, Nat.reduceEqDiff, reduceCtorEq, Nat.reduceBEq, Nat.reduceAdd, Nat.reduceMul, Nat.reduceSub, Nat.reduceLT, Nat.reduceLeDiff, Int.reduceLT, Int.reduceLE, Int.reduceToNat, Int.reduceBEq, Int.reduceBNe, Int.reduceSub, Int.reduceAdd, Int.reduceEq, Int.reduceNe, Int.reduceNeg, ix9, vlr9, ↓vfk30, ↓vfk28, Tryz.results16, e0, e3, hlt]
      rw [zanl (by omega) (by omega) hat hall]
theorem zaq5 (hX : X 16 = none) (hX1 : X 30 = none) (hX2 : X 28 = none) (s : ByteArray) {S : VH} {K : VCont} : Vcallee Tryz.prog X 16 [.string s] S K = K (.bool (nameF s)) [] S [] false := zaag (za53 hX hX1 hX2 s) rfl rfl rfl
theorem za5u (hX : X 94 = none) (s : ByteArray) (c r : Int) : Vp Tryz.prog X 94 [.agg ⟨[.string s, .int .i64 c, .int .i64 r]⟩] (.bool (placeF c r)) := by
 unfold Vp
 refine zaay hX Tryz.func94 rfl (by kernel_rfl) (by show 1 ≤ _; decide) ?_
 by_cases h1 : 1 ≤ c <;> by_cases h2 : c ≤ 702 <;> by_cases h3 : 1 ≤ r <;> by_cases h4 : r ≤ 999 <;> simp -dsimp only [↓kpre, kpost, light, ret1, cellF, afill, setAll, ↓reduceIte, Nat.reduceEqDiff, reduceCtorEq, Nat.reduceBEq, Nat.reduceAdd, Nat.reduceMul, Nat.reduceSub, Nat.reduceLT, Nat.reduceLeDiff, Int.reduceLT, Int.reduceLE, Int.reduceToNat, Int.reduceBEq, Int.reduceBNe, Int.reduceSub, Int.reduceAdd, Int.reduceEq, Int.reduceNe, Int.reduceNeg, vld3, vgt3, zako, zaku, zakp, zakv, Tryz.results94, h1, h2, h3, h4] <;> simp [placeF, h1, h2, h3, h4]
theorem zafw (hX : X 94 = none) (s : ByteArray) (c r : Int) {S : VH} {K : VCont} : Vcallee Tryz.prog X 94 [.agg ⟨[.string s, .int .i64 c, .int .i64 r]⟩] S K = K (.bool (placeF c r)) [] S [] false := zaag (za5u hX s c r) rfl rfl rfl
theorem za51 (hX : X 96 = none) (hX1 : X 94 = none) (hX2 : X 11 = none) (s : ByteArray) (c r : Int) : Vp Tryz.prog X 96 [.agg ⟨[.string s, .int .i64 c, .int .i64 r]⟩] (.bool (celF s c r)) := by
 unfold Vp
 refine zaay hX Tryz.func96 rfl (by kernel_rfl) (by show 1 ≤ _; decide) ?_
 cases h : nameF s <;> simp -dsimp only [↓kpre, kpost, light, ret1, cellF, afill, setAll, ↓reduceIte, Nat.reduceEqDiff, reduceCtorEq, Nat.reduceBEq, Nat.reduceAdd, Nat.reduceMul, Nat.reduceSub, Nat.reduceLT, Nat.reduceLeDiff, Int.reduceLT, Int.reduceLE, Int.reduceToNat, Int.reduceBEq, Int.reduceBNe, Int.reduceSub, Int.reduceAdd, Int.reduceEq, Int.reduceNe, Int.reduceNeg, vld9, vgt9, vld26, vgt26, zari, zarp, ↓vfk11, ↓vfk94, Tryz.results96, ↓name_c hX2, ↓zafw hX1, h] <;> simp [celF, h]
theorem zaln (hX : X 96 = none) (hX1 : X 94 = none) (hX2 : X 11 = none) (s : ByteArray) (c r : Int) {S : VH} {K : VCont} : Vcallee Tryz.prog X 96 [.agg ⟨[.string s, .int .i64 c, .int .i64 r]⟩] S K = K (.bool (celF s c r)) [] S [] false := zaag (za51 hX hX1 hX2 s c r) rfl rfl rfl
theorem za3j (hX : X 38 = none) (hX0 : X 16 = none) (hX1 : X 30 = none) (hX2 : X 28 = none) (s : ByteArray) (c r : Int) : Vp Tryz.prog X 38 [.agg ⟨[.string s, .int .i64 c, .int .i64 r]⟩] (.bool (celF s c r)) := by
 unfold Vp
 refine zaay hX Tryz.func38 rfl (by kernel_rfl) (by show 1 ≤ _; decide) ?_
 cases h : nameF s
 ·simp -dsimp only [↓kpre, kpost, light, ret1, cellF, afill, setAll, ↓reduceIte, Nat.reduceEqDiff, reduceCtorEq, Nat.reduceBEq, Nat.reduceAdd, Nat.reduceMul, Nat.reduceSub, Nat.reduceLT, Nat.reduceLeDiff, Int.reduceLT, Int.reduceLE, Int.reduceToNat, Int.reduceBEq, Int.reduceBNe, Int.reduceSub, Int.reduceAdd, Int.reduceEq, Int.reduceNe, Int.reduceNeg, ↓zaz2, zaz7, ↓zaq5 hX0 hX1 hX2, h]
  simp [celF, h]
 ·by_cases h1 : 1 ≤ c <;> by_cases h2 : c ≤ 702 <;> by_cases h3 : 1 ≤ r <;> by_cases h4 : r ≤ 999 <;> simp -dsimp only [↓kpre, kpost, light, ret1, cellF, afill, setAll, ↓reduceIte, Nat.reduceEqDiff, reduceCtorEq, Nat.reduceBEq, Nat.reduceAdd, Nat.reduceMul, Nat.reduceSub, Nat.reduceLT, Nat.reduceLeDiff, Int.reduceLT, Int.reduceLE, Int.reduceToNat, Int.reduceBEq, Int.reduceBNe, Int.reduceSub, Int.reduceAdd, Int.reduceEq, Int.reduceNe, Int.reduceNeg, ↓zaz2, zaz7, ↓zaq5 hX0 hX1 hX2, h, h1, h2, h3, h4] <;> simp [celF, placeF, h, h1, h2, h3, h4]
theorem za3i (hX : X 38 = none) (hX0 : X 16 = none) (hX1 : X 30 = none) (hX2 : X 28 = none) (s : ByteArray) (c r : Int) {S : VH} {K : VCont} : Vcallee Tryz.prog X 38 [.agg ⟨[.string s, .int .i64 c, .int .i64 r]⟩] S K = K (.bool (celF s c r)) [] S [] false := zaag (za3j hX hX0 hX1 hX2 s c r) rfl rfl rfl
end
end Go.Proofs.YtliemjbafgnnbaaGreatDoor.Abs
/- Errors first. -/
namespace Go.Proofs.YtliemjbafgnnbaaGreatDoor.Abs
open Go
attribute [local irreducible] Hold VReg Vf Vc VWP With VStp Vcallee Vp
end Go.Proofs.YtliemjbafgnnbaaGreatDoor.Abs
/- Numbers out of values. -/
namespace Go.Proofs.YtliemjbafgnnbaaGreatDoor.Abs
open Go
attribute [local irreducible] Hold VReg Vf Vc VWP With VStp Vcallee Vp VE
end Go.Proofs.YtliemjbafgnnbaaGreatDoor.Abs
/- Numbers out of rows; rows of one. -/
namespace Go.Proofs.YtliemjbafgnnbaaGreatDoor.Abs
open Go
attribute [local irreducible] Hold VReg Vf Vc VWP With VStp Vcallee Vp VE
theorem za6v (f : VV → Int) (l : List VV) (i : Nat) (h : i < l.length) : (l.take (i + 1)).map f = (l.take i).map f ++ [f l[i]] := by
 rw [← List.take_append_getElem h, List.map_append]
 rfl
end Go.Proofs.YtliemjbafgnnbaaGreatDoor.Abs
/- Rows of rows: each of one value. -/
namespace Go.Proofs.YtliemjbafgnnbaaGreatDoor.Abs
open Go
attribute [local irreducible] Hold VReg Vf Vc VWP With VStp Vcallee Vp VE
structure RW where
 c : Bool
 l : List VV
def RW.v (d : Nat) (r : RW) : Value := sl r.c d 3 (r.l.map VV.v)
end Go.Proofs.YtliemjbafgnnbaaGreatDoor.Abs
/- How two values compare. -/
namespace Go.Proofs.YtliemjbafgnnbaaGreatDoor.Abs
open Go
attribute [local irreducible] Hold VReg Vf Vc VWP With VStp Vcallee Vp VE
section
variable {X : VOuter}
end
end Go.Proofs.YtliemjbafgnnbaaGreatDoor.Abs
/- How two values compare: the whole. -/
namespace Go.Proofs.YtliemjbafgnnbaaGreatDoor.Abs
open Go
attribute [local irreducible] Hold VReg Vf Vc VWP With VStp Vcallee Vp VE
section
variable {X : VOuter}
end
end Go.Proofs.YtliemjbafgnnbaaGreatDoor.Abs
/- Ranges of cells: how many there are, which are in, which is ahead. -/
namespace Go.Proofs.YtliemjbafgnnbaaGreatDoor.Abs
open Go
def zage := And.intro (@val26) (@vfk96)
def zagg := And.intro (And.intro (And.intro (And.intro (@vld26) (@vgt26)) (And.intro (@vld9) (@vgt9))) (And.intro (And.intro (@vld3) (@vgt3)) (And.intro (@vst26) (And.intro (@za0x) (@za05))))) (And.intro (And.intro (And.intro (@za0y) (@za06)) (And.intro (@zari) (@zarp))) (And.intro (And.intro (@zako) (@zaku)) (And.intro (@zakp) (And.intro (@zakv) (@Tryz.results89)))))
attribute [local irreducible] Hold VReg Vf Vc VWP With VStp Vcallee Vp VE
theorem zajl {a b : ByteArray} (h : a.toList = b.toList) : a = b := by
 rw [ByteArray.toList_eq, ByteArray.toList_eq] at h
 have e1 : a = ⟨(a.data.toList).toArray⟩ := rfl
 rw [e1, h]
theorem ab_seq {P : Program} {t : TypeId} {x y : Operand} {s r : ByteArray} : abin P .eql t x y (.string s) (.string r) = some (.bool (decide (s = r))) := by
 rw [zaly]
 congr 2
 rw [Bool.eq_iff_iff]
 simp only [beq_iff_eq, decide_eq_true_eq]
 exact ⟨zajl, fun h => by rw [h]⟩
theorem zacq {P : Program} {t : TypeId} {x y : Operand} {s r : ByteArray} : abin P .neq t x y (.string s) (.string r) = some (.bool (!decide (s = r))) := by
 have h := ab_seq (P := P) (t := t) (x := x) (y := y) (s := s) (r := r)
 rw [zaly] at h
 rw [zaw6]
 simp only [Option.some.injEq, Value.bool.injEq] at h
 rw [h]
structure CC where
 s : ByteArray
 c : Int
 r : Int
def CC.v (x : CC) : Value := .agg ⟨[.string x.s, .int .i64 x.c, .int .i64 x.r]⟩
def eqC (x y : CC) : Bool := decide (x.s = y.s) && (decide (x.c = y.c) && decide (x.r = y.r))
theorem zatv (sa sc : ByteArray) (ka kb na nb : Int) : aeq Tryz.prog 20 26 (.agg #[.string sa, .int .i64 ka, .int .i64 na]) (.agg #[.string sc, .int .i64 kb, .int .i64 nb]) = some (eqC ⟨sa, ka, na⟩ ⟨sc, kb, nb⟩) := by
 have e : aeq Tryz.prog 20 26 (.agg #[.string sa, .int .i64 ka, .int .i64 na]) (.agg #[.string sc, .int .i64 kb, .int .i64 nb]) = (if (sa.toList == sc.toList) = true then (if (ka == kb) = true then (if (na == nb) = true then some true else some false) else some false) else some false) := by kernel_rfl
 have h : (sa.toList == sc.toList) = decide (sa = sc) := by
  rw [Bool.eq_iff_iff]
  simp only [beq_iff_eq, decide_eq_true_eq]
  exact ⟨zajl, fun h => by rw [h]⟩
 rw [e, h, ibeq, ibeq]
 unfold eqC
 by_cases h1 : sa = sc <;> by_cases h2 : ka = kb <;> by_cases h3 : na = nb <;> simp [h1, h2, h3]
theorem za4x (x y : Operand) (sa sc : ByteArray) (ka kb na nb : Int) : vbin Tryz.prog .eql 26 x y (.agg ⟨[.string sa, .int .i64 ka, .int .i64 na]⟩) (.agg ⟨[.string sc, .int .i64 kb, .int .i64 nb]⟩) = some (.bool (eqC ⟨sa, ka, na⟩ ⟨sc, kb, nb⟩)) := by
 rw [zamq _ _ _ _ _ rfl rfl]
 exact zaps rfl rfl (by kernel_rfl) (zatv sa sc ka kb na nb)
theorem zapz (x y : Operand) (sa sc : ByteArray) (ka kb na nb : Int) : vbin Tryz.prog .neq 26 x y (.agg ⟨[.string sa, .int .i64 ka, .int .i64 na]⟩) (.agg ⟨[.string sc, .int .i64 kb, .int .i64 nb]⟩) = some (.bool (!eqC ⟨sa, ka, na⟩ ⟨sc, kb, nb⟩)) := by
 rw [zamq _ _ _ _ _ rfl rfl]
 exact zapt rfl rfl (by kernel_rfl) (zatv sa sc ka kb na nb)
def areaF (a b : CC) : Bool := celF a.s a.c a.r && celF b.s b.c b.r && decide (a.s = b.s) && decide (a.c ≤ b.c) && decide (a.r ≤ b.r)
def areaN (a b : CC) : Int := if areaF a b then (b.c - a.c + 1) * (b.r - a.r + 1) else 0
theorem zah0 {s : ByteArray} {c r : Int} (h : celF s c r = true) : 1 ≤ c ∧ c ≤ 702 ∧ 1 ≤ r ∧ r ≤ 999 := by
 simp only [celF, placeF, Bool.and_eq_true, decide_eq_true_eq] at h
 exact ⟨h.2.1.1.1, h.2.1.1.2, h.2.1.2, h.2.2⟩
section
variable {X : VOuter}
structure NOff (X : VOuter) : Prop where
 name : X 11 = none
 place : X 94 = none
 right : X 96 = none
 area : X 89 = none
theorem area_p (h : NOff X) (s : ByteArray) (c r : Int) (s' : ByteArray) (c' r' : Int) : Vp Tryz.prog X 89 [.agg ⟨[.string s, .int .i64 c, .int .i64 r, .string s', .int .i64 c', .int .i64 r']⟩] (.tuple ⟨[.int .i64 (areaN ⟨s, c, r⟩ ⟨s', c', r'⟩), .bool (areaF ⟨s, c, r⟩ ⟨s', c', r'⟩)]⟩) := by
 unfold Vp
 refine zaay h.area Tryz.func89 rfl (by kernel_rfl) (by show 1 ≤ _; decide) ?_
 cases h1 : celF s c r
 ·simp -dsimp only [↓kpre, kpost, light, ret1, cellF, afill, setAll, simprocAttr, ↓zage, zagg]
  refine zahi [[], [1, 2], [], [1, 2, 3], [], [], [], []] false (by kernel_rfl) (by kernel_rfl) (by kernel_rfl) (by kernel_rfl) ?_
  simp -dsimp only [↓kpre, kpost, light, ret1, cellF, afill, setAll, simprocAttr, ↓opre, opost, vspan, ↓zage, zagg, ↓zaln h.right h.place h.name, h1]
  simp [areaN, areaF, h1]
 ·cases h2 : celF s' c' r'
  ·simp -dsimp only [↓kpre, kpost, light, ret1, cellF, afill, setAll, simprocAttr, ↓zage, zagg]
   refine zahi [[], [1, 2], [], [1, 2, 3], [], [], [], []] false (by kernel_rfl) (by kernel_rfl) (by kernel_rfl) (by kernel_rfl) ?_
   simp -dsimp only [↓kpre, kpost, light, ret1, cellF, afill, setAll, simprocAttr, ↓opre, opost, vspan, ↓zage, zagg, ↓zaln h.right h.place h.name, h1, h2]
   simp [areaN, areaF, h1, h2]
  ·by_cases h3 : s = s'
   ·subst h3
    by_cases h4 : c' < c
    ·simp -dsimp only [↓kpre, kpost, light, ret1, cellF, afill, setAll, simprocAttr, ↓zage, zagg]
     refine zahi [[], [1, 2], [], [1, 2, 3], [], [], [], []] false (by kernel_rfl) (by kernel_rfl) (by kernel_rfl) (by kernel_rfl) ?_
     simp -dsimp only [↓kpre, kpost, light, ret1, cellF, afill, setAll, simprocAttr, ↓opre, opost, vspan, ↓zage, zagg, ↓zaln h.right h.place h.name, h1, h2, zacq, h4]
     have : ¬ c ≤ c' := by omega
     simp [areaN, areaF, h1, h2, this]
    ·by_cases h5 : r' < r
     ·simp -dsimp only [↓kpre, kpost, light, ret1, cellF, afill, setAll, simprocAttr, ↓zage, zagg]
      refine zahi [[], [1, 2], [], [1, 2, 3], [], [], [], []] false (by kernel_rfl) (by kernel_rfl) (by kernel_rfl) (by kernel_rfl) ?_
      simp -dsimp only [↓kpre, kpost, light, ret1, cellF, afill, setAll, simprocAttr, ↓opre, opost, vspan, ↓zage, zagg, ↓zaln h.right h.place h.name, h1, h2, zacq, h4, h5]
      have : ¬ r ≤ r' := by omega
      simp [areaN, areaF, h1, h2, this]
     ·have p1 := zah0 h1
      have p2 := zah0 h2
      have w1 : IntKind.i64.wrap (c' - c) = c' - c := zaar (by omega) (by omega)
      have w2 : IntKind.i64.wrap (c' - c + 1) = c' - c + 1 := zaar (by omega) (by omega)
      have w3 : IntKind.i64.wrap (r' - r) = r' - r := zaar (by omega) (by omega)
      have w4 : IntKind.i64.wrap (r' - r + 1) = r' - r + 1 := zaar (by omega) (by omega)
      have hp : 0 ≤ (c' - c + 1) * (r' - r + 1) ∧ (c' - c + 1) * (r' - r + 1) ≤ 702 * 999 := ⟨Int.mul_nonneg (by omega) (by omega), Int.mul_le_mul (by omega) (by omega) (by omega) (by omega)⟩
      have w5 : IntKind.i64.wrap ((c' - c + 1) * (r' - r + 1)) = (c' - c + 1) * (r' - r + 1) := zaar (by omega) (by omega)
      simp -dsimp only [↓kpre, kpost, light, ret1, cellF, afill, setAll, simprocAttr, ↓zage, zagg]
      refine zahi [[], [1, 2], [], [1, 2, 3], [], [], [], []] false (by kernel_rfl) (by kernel_rfl) (by kernel_rfl) (by kernel_rfl) ?_
      simp -dsimp only [↓kpre, kpost, light, ret1, cellF, afill, setAll, simprocAttr, ↓opre, opost, vspan, ↓zage, zagg, ↓zaln h.right h.place h.name, h1, h2, zacq, h4, h5, w1, w2, w3, w4, w5]
      have e1 : c ≤ c' := by omega
      have e2 : r ≤ r' := by omega
      simp [areaN, areaF, h1, h2, e1, e2]
   ·simp -dsimp only [↓kpre, kpost, light, ret1, cellF, afill, setAll, simprocAttr, ↓zage, zagg]
    refine zahi [[], [1, 2], [], [1, 2, 3], [], [], [], []] false (by kernel_rfl) (by kernel_rfl) (by kernel_rfl) (by kernel_rfl) ?_
    simp -dsimp only [↓kpre, kpost, light, ret1, cellF, afill, setAll, simprocAttr, ↓opre, opost, vspan, ↓zage, zagg, ↓zaln h.right h.place h.name, h1, h2, zacq, h3]
    simp [areaN, areaF, h1, h2, h3]
theorem area_c (h : NOff X) (s : ByteArray) (c r : Int) (s' : ByteArray) (c' r' : Int) {S : VH} {K : VCont} : Vcallee Tryz.prog X 89 [.agg ⟨[.string s, .int .i64 c, .int .i64 r, .string s', .int .i64 c', .int .i64 r']⟩] S K = K (.tuple ⟨[.int .i64 (areaN ⟨s, c, r⟩ ⟨s', c', r'⟩), .bool (areaF ⟨s, c, r⟩ ⟨s', c', r'⟩)]⟩) [] S [] false := zaag (area_p h s c r s' c' r') rfl rfl rfl
theorem za6b (h : NOff X) (hX : X 76 = none) (s : ByteArray) (c r : Int) (s' : ByteArray) (c' r' : Int) : Vp Tryz.prog X 76 [.agg ⟨[.string s, .int .i64 c, .int .i64 r, .string s', .int .i64 c', .int .i64 r']⟩] (.bool (areaF ⟨s, c, r⟩ ⟨s', c', r'⟩ && decide (areaN ⟨s, c, r⟩ ⟨s', c', r'⟩ ≤ 400))) := by
 unfold Vp
 refine zaay hX Tryz.func76 rfl (by kernel_rfl) (by show 1 ≤ _; decide) ?_
 cases h1 : areaF ⟨s, c, r⟩ ⟨s', c', r'⟩
 ·simp -dsimp only [↓kpre, kpost, light, ret1, cellF, afill, setAll, simprocAttr, vld77, vgt77, ↓vfk89, Tryz.results76, ↓area_c h, h1]
 ·by_cases h2 : areaN ⟨s, c, r⟩ ⟨s', c', r'⟩ ≤ 400 <;> simp -dsimp only [↓kpre, kpost, light, ret1, cellF, afill, setAll, simprocAttr, vld77, vgt77, ↓vfk89, Tryz.results76, ↓area_c h, h1, h2]
theorem za6a (h : NOff X) (hX : X 76 = none) (s : ByteArray) (c r : Int) (s' : ByteArray) (c' r' : Int) {S : VH} {K : VCont} : Vcallee Tryz.prog X 76 [.agg ⟨[.string s, .int .i64 c, .int .i64 r, .string s', .int .i64 c', .int .i64 r']⟩] S K = K (.bool (areaF ⟨s, c, r⟩ ⟨s', c', r'⟩ && decide (areaN ⟨s, c, r⟩ ⟨s', c', r'⟩ ≤ 400))) [] S [] false := zaag (za6b h hX s c r s' c' r') rfl rfl rfl
end
end Go.Proofs.YtliemjbafgnnbaaGreatDoor.Abs
/- The cells of a range. -/
namespace Go.Proofs.YtliemjbafgnnbaaGreatDoor.Abs
open Go
attribute [local irreducible] Hold VReg Vf Vc VWP With VStp Vcallee Vp VE
end Go.Proofs.YtliemjbafgnnbaaGreatDoor.Abs
