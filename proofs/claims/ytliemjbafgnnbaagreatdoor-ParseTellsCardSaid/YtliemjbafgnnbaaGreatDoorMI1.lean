/- Tokens: letters, digits, runs and signs; the program and the reference. -/
import Derived.Test.YtliemjbafgnnbaaGreatDoorMW7
import Derived.Test.YtliemjbafgnnbaaGreatDoorPW29
import Derived.Test.YtliemjbafgnnbaaGreatDoorPVTF
import Derived.Lib.IndexLaws
import Derived.Test.YtliemjbafgnnbaaGreatDoorPA1
set_option linter.defProp false
set_option linter.unnecessarySimpa false
set_option linter.unusedSimpArgs false
set_option linter.unusedVariables false
set_option maxRecDepth 4000
set_option maxHeartbeats 0
namespace Go.Proofs.YtliemjbafgnnbaaGreatDoor.Abs
open Go
attribute [local irreducible] Hold VReg Vf Vc VWP With VStp Vcallee Vp VE
def digB (n : Int) : Bool := decide (48 ≤ n) && decide (n ≤ 57)
def grtB (n : Int) : Bool := decide (65 ≤ n) && decide (n ≤ 90)
def smlB (n : Int) : Bool := decide (97 ≤ n) && decide (n ≤ 122)
def gdB (n : Int) : Bool := grtB n || digB n
def sdB (n : Int) : Bool := smlB n || digB n
theorem zae9 {s : ByteArray} {i : Nat} (h : i < s.size) : ∃ b, s[i]? = some b := ⟨s[i], getElem?_pos s i h⟩
theorem tba_at (s : ByteArray) (i : Nat) : s[i]? = s.data.toList[i]? := by
 rw [Array.getElem?_toList]
 rcases Nat.lt_or_ge i s.size with h | h
 ·rw [getElem?_pos s i h, getElem?_pos s.data i h]; rfl
 ·rw [getElem?_neg s i (by omega), getElem?_neg s.data i (by exact Nat.not_lt.2 h)]
section
variable {X : VOuter}
theorem dig_p (hX : X 42 = none) (n : Int) : Vp Tryz.prog X 42 [.int .u8 n] (.bool (digB n)) := by
 unfold Vp
 refine zaay hX Tryz.func42 rfl (by kernel_rfl) (by show 1 ≤ _; decide) ?_
 by_cases h1 : 48 ≤ n <;> by_cases h2 : n ≤ 57 <;> simp -dsimp only [↓kpre, kpost, light, ret1, cellF, afill, setAll, simprocAttr, Tryz.results42, h1, h2] <;> simp [digB, h1, h2]
theorem grt_p (hX : X 44 = none) (n : Int) : Vp Tryz.prog X 44 [.int .u8 n] (.bool (grtB n)) := by
 unfold Vp
 refine zaay hX Tryz.func44 rfl (by kernel_rfl) (by show 1 ≤ _; decide) ?_
 by_cases h1 : 65 ≤ n <;> by_cases h2 : n ≤ 90 <;> simp -dsimp only [↓kpre, kpost, light, ret1, cellF, afill, setAll, simprocAttr, Tryz.results44, h1, h2] <;> simp [grtB, h1, h2]
theorem sml_p (hX : X 46 = none) (n : Int) : Vp Tryz.prog X 46 [.int .u8 n] (.bool (smlB n)) := by
 unfold Vp
 refine zaay hX Tryz.func46 rfl (by kernel_rfl) (by show 1 ≤ _; decide) ?_
 by_cases h1 : 97 ≤ n <;> by_cases h2 : n ≤ 122 <;> simp -dsimp only [↓kpre, kpost, light, ret1, cellF, afill, setAll, simprocAttr, Tryz.results46, h1, h2] <;> simp [smlB, h1, h2]
theorem rdig_p (hX : X 28 = none) (n : Int) : Vp Tryz.prog X 28 [.int .u8 n] (.bool (digB n)) := by
 unfold Vp
 refine zaay hX Tryz.func28 rfl (by kernel_rfl) (by show 1 ≤ _; decide) ?_
 by_cases h1 : 48 ≤ n <;> by_cases h2 : n ≤ 57 <;> simp -dsimp only [↓kpre, kpost, light, ret1, cellF, afill, setAll, simprocAttr, Tryz.results28, h1, h2] <;> simp [digB, h1, h2]
theorem rgrt_p (hX : X 29 = none) (n : Int) : Vp Tryz.prog X 29 [.int .u8 n] (.bool (grtB n)) := by
 unfold Vp
 refine zaay hX Tryz.func29 rfl (by kernel_rfl) (by show 1 ≤ _; decide) ?_
 by_cases h1 : 65 ≤ n <;> by_cases h2 : n ≤ 90 <;> simp -dsimp only [↓kpre, kpost, light, ret1, cellF, afill, setAll, simprocAttr, Tryz.results29, h1, h2] <;> simp [grtB, h1, h2]
theorem rsml_p (hX : X 30 = none) (n : Int) : Vp Tryz.prog X 30 [.int .u8 n] (.bool (smlB n)) := by
 unfold Vp
 refine zaay hX Tryz.func30 rfl (by kernel_rfl) (by show 1 ≤ _; decide) ?_
 by_cases h1 : 97 ≤ n <;> by_cases h2 : n ≤ 122 <;> simp -dsimp only [↓kpre, kpost, light, ret1, cellF, afill, setAll, simprocAttr, Tryz.results30, h1, h2] <;> simp [smlB, h1, h2]
theorem dig_c (hX : X 42 = none) (n : Int) (S : VH) (K : VCont) : Vcallee Tryz.prog X 42 [.int .u8 n] S K = K (.bool (digB n)) [] S [] false := zaag (dig_p hX n) rfl rfl rfl
theorem grt_c (hX : X 44 = none) (n : Int) (S : VH) (K : VCont) : Vcallee Tryz.prog X 44 [.int .u8 n] S K = K (.bool (grtB n)) [] S [] false := zaag (grt_p hX n) rfl rfl rfl
theorem sml_c (hX : X 46 = none) (n : Int) (S : VH) (K : VCont) : Vcallee Tryz.prog X 46 [.int .u8 n] S K = K (.bool (smlB n)) [] S [] false := zaag (sml_p hX n) rfl rfl rfl
theorem rdig_c (hX : X 28 = none) (n : Int) (S : VH) (K : VCont) : Vcallee Tryz.prog X 28 [.int .u8 n] S K = K (.bool (digB n)) [] S [] false := zaag (rdig_p hX n) rfl rfl rfl
theorem rgrt_c (hX : X 29 = none) (n : Int) (S : VH) (K : VCont) : Vcallee Tryz.prog X 29 [.int .u8 n] S K = K (.bool (grtB n)) [] S [] false := zaag (rgrt_p hX n) rfl rfl rfl
theorem rsml_c (hX : X 30 = none) (n : Int) (S : VH) (K : VCont) : Vcallee Tryz.prog X 30 [.int .u8 n] S K = K (.bool (smlB n)) [] S [] false := zaag (rsml_p hX n) rfl rfl rfl
theorem gd_c (hX : X 45 = none) (hd : X 42 = none) (hg : X 44 = none) (n : Int) (S : VH) (K : VCont) : Vcallee Tryz.prog X 45 [.int .u8 n] S K = K (.bool (gdB n)) [] S [] false := by
 refine zaag ?_ rfl rfl rfl
 unfold Vp
 refine zaay hX Tryz.func45 rfl (by kernel_rfl) (by show 1 ≤ _; decide) ?_
 cases h1 : grtB n <;> cases h2 : digB n <;> simp -dsimp only [↓kpre, kpost, light, ret1, cellF, afill, setAll, simprocAttr, ↓vfk44, ↓vfk42, Tryz.results45, ↓dig_c hd, ↓grt_c hg, h1, h2] <;> simp [gdB, h1, h2]
theorem sd_c (hX : X 47 = none) (hd : X 42 = none) (hg : X 46 = none) (n : Int) (S : VH) (K : VCont) : Vcallee Tryz.prog X 47 [.int .u8 n] S K = K (.bool (sdB n)) [] S [] false := by
 refine zaag ?_ rfl rfl rfl
 unfold Vp
 refine zaay hX Tryz.func47 rfl (by kernel_rfl) (by show 1 ≤ _; decide) ?_
 cases h1 : smlB n <;> cases h2 : digB n <;> simp -dsimp only [↓kpre, kpost, light, ret1, cellF, afill, setAll, simprocAttr, ↓vfk46, ↓vfk42, Tryz.results47, ↓dig_c hd, ↓sml_c hg, h1, h2] <;> simp [sdB, h1, h2]
def runF (p : Int → Bool) (s : ByteArray) : Nat → Nat → Nat
 | 0, k => k
 | n + 1, k => match s[k]? with
  | some b => if p b.toNat then runF p s n (k + 1) else k
  | none => k
theorem zan0 (p : Int → Bool) (s : ByteArray) : ∀ n k, k ≤ s.size → k ≤ runF p s n k ∧ runF p s n k ≤ s.size
 | 0, k, h => ⟨Nat.le_refl _, h⟩
 | n + 1, k, h => by
  unfold runF
  cases hb : s[k]? with
  | none => exact ⟨Nat.le_refl _, h⟩
  | some b =>
   simp only
   split
   ·have hk : k < s.size := by
     rcases Nat.lt_or_ge k s.size with h | h
     ·exact h
     ·rw [getElem?_neg s k (by omega)] at hb; cases hb
    have := zan0 p s n (k + 1) hk
    exact ⟨by omega, this.2⟩
   ·exact ⟨Nat.le_refl _, h⟩
theorem zaht (p : Int → Bool) (s : ByteArray) (n k : Nat) (h : s.size ≤ k) : runF p s n k = k := by
 cases n with
 | zero => rfl
 | succ n =>
  unfold runF
  rw [getElem?_neg s k (by omega)]
theorem run_p (hX : X 43 = none) (g : FuncId) (p : Int → Bool) (hg : funcOk Tryz.prog g = true) (hp : ∀ n S K, Vcallee Tryz.prog X g [.int .u8 n] S K = K (.bool (p n)) [] S [] false) (s : ByteArray) (k : Nat) (hk : k ≤ s.size) (hs : s.size ≤ 1000000) :
    Vp Tryz.prog X 43 [.string s, .int .i64 k, .func (.func g) #[] #[]] (.int .i64 (runF p s s.size k)) := by
 unfold Vp
 refine zaay hX Tryz.func43 rfl (by kernel_rfl) (by show 3 ≤ _; decide) ?_
 simp -dsimp only [↓kpre, kpost, light, ret1, cellF, afill, setAll, simprocAttr, ix9, vlr9, Tryz.results43]
 refine zabw (fun m e S => ∃ q : Nat, q ≤ s.size ∧ s.size ≤ q + m ∧ runF p s m q = runF p s s.size k ∧ eget e 0 = .string s ∧ eget e 1 = .int .i64 q ∧ eget e 2 = .func (.func g) #[] #[] ∧ S = ⟨[], [], []⟩) s.size ?_ ?_
 ·refine ⟨k, hk, by omega, rfl, ?_, ?_, ?_, rfl⟩ <;> simp only [zacb, zabt, ↓zab7, ↓zaak, ↓ae_tmp, ↓ae_int, ↓zabi, ↓zaat, ↓zabj, ↓zaas, ↓zabk, zaao, zaan, zaaw, ↓reduceIte, Nat.reduceEqDiff, reduceCtorEq, Bool.false_eq_true, Nat.reduceBEq, decide_true, decide_false, Bool.not_true, Bool.not_false, List.getElem?_toArray, List.getElem?_cons_zero, List.getElem?_cons_succ, Nat.zero_add, Nat.add_zero, Nat.reduceAdd, Nat.reduceMul, Nat.reduceSub, Nat.reduceLT, Nat.reduceLeDiff, and_true, true_and, and_self] <;> rfl
 ·rintro m e S ⟨q, hq, hm, hF, e0, e1, e2, rfl⟩
  refine VWP_Vc _ _ _ _ ?_
  by_cases hlt : q < s.size
  ·obtain ⟨m, rfl⟩ : ∃ n, m = n + 1 := ⟨m - 1, by omega⟩
   obtain ⟨b, hb⟩ := zae9 hlt
   have hqi : (q : Int) < s.size := by omega
   have h0 : (0 : Int) ≤ q := by omega
   have w1 : IntKind.i64.wrap ((q : Int) + 1) = (q : Int) + 1 := zaar (by omega) (by omega)
   simp only [runF, hb] at hF
   cases hpb : p b.toNat with
   | true =>
    rw [hpb, if_pos rfl] at hF
    simp -dsimp only [↓kpre, kpost, light, ret1, cellF, afill, setAll, simprocAttr, ix9, vlr9, Tryz.results43, e0, e1, e2, hqi, h0, hb, zal2, hg, ↓hp, hpb, w1]
    exact ⟨m, by omega, q + 1, by omega, by omega, hF, by rw [Int.natCast_add]; rfl⟩
   | false =>
    rw [hpb, if_neg (by simp)] at hF
    simp -dsimp only [↓kpre, kpost, light, ret1, cellF, afill, setAll, simprocAttr, ix9, vlr9, Tryz.results43, e0, e1, e2, hqi, h0, hb, zal2, hg, ↓hp, hpb, w1]
    rw [hF]
  ·have hqi : ¬ (q : Int) < s.size := by omega
   rw [zaht p s m q (by omega)] at hF
   simp -dsimp only [↓kpre, kpost, light, ret1, cellF, afill, setAll, simprocAttr, ix9, vlr9, Tryz.results43, e0, e1, e2, hqi]
   rw [hF]
def eqS (a b : ByteArray) : Bool := a.toList == b.toList
theorem zaji {P : Program} {t : TypeId} {x y : Operand} {s r : ByteArray} : abin P .eql t x y (.string s) (.string r) = some (.bool (eqS s r)) := rfl
def twoB (s : ByteArray) (k : Nat) : Bool := decide (k + 2 ≤ s.size) && (eqS (s.extract k (k + 2)) ⟨#[60, 62]⟩ || eqS (s.extract k (k + 2)) ⟨#[60, 61]⟩ || eqS (s.extract k (k + 2)) ⟨#[62, 61]⟩)
def signsL : List UInt8 := [43, 45, 42, 47, 38, 61, 60, 62, 40, 41, 44, 58, 33]
def sgB (b : UInt8) : Bool := signsL.contains b
def tsgF (s : ByteArray) (k : Nat) : Nat := if twoB s k then 2 else match s[k]? with | some b => if sgB b then 1 else 0 | none => 0
theorem za2r (b : UInt8) : decide (0 ≤ Lib.indexByte signsL b) = sgB b := by
 unfold sgB
 cases hc : signsL.contains b with
 | true =>
  rw [decide_eq_true_eq]
  refine Decidable.byContradiction fun h => ?_
  have := Lib.indexByte_ge signsL b
  have h1 := Lib.indexByte_none (l := signsL) (c := b) (by omega)
  obtain ⟨i, hi⟩ := List.getElem?_of_mem (List.contains_iff_mem.1 hc)
  exact h1 i hi
 | false =>
  rw [decide_eq_false_iff_not]
  intro h
  obtain ⟨o, ho⟩ : ∃ o : Nat, Lib.indexByte signsL b = o := ⟨(Lib.indexByte signsL b).toNat, by omega⟩
  have := (Lib.indexByte_some ho).1
  have : signsL.contains b = true := List.contains_iff_mem.2 (List.mem_of_getElem? this)
  rw [hc] at this
  cases this
theorem za6h (hX : X 49 = none) (hix : ∀ (l : List UInt8) (n : Nat), n < 256 → ∀ S K, Vcallee Tryz.prog X 56 [.string ⟨l.toArray⟩, .int .u8 n] S K = K (.int .i64 (Lib.indexByte l (UInt8.ofNat n))) [] S [] false) (s : ByteArray) (k : Nat) (hk : k < s.size) (hs : s.size ≤ 1000000) :
    Vp Tryz.prog X 49 [.string s, .int .i64 k] (.int .i64 ((k + tsgF s k : Nat) : Int)) := by
 unfold Vp
 refine zaay hX Tryz.func49 rfl (by kernel_rfl) (by show 2 ≤ _; decide) ?_
 obtain ⟨b, hb⟩ := zae9 hk
 have h0 : (0 : Int) ≤ k := by omega
 have w1 : IntKind.i64.wrap ((k : Int) + 1) = (k : Int) + 1 := zaar (by omega) (by omega)
 have w2 : IntKind.i64.wrap ((k : Int) + 2) = (k : Int) + 2 := zaar (by omega) (by omega)
 have hkn : ((k : Int) + 2).toNat = k + 2 := by omega
 have hk2 : (k : Int) ≤ (k : Int) + 2 := by omega
 have hix' := hix signsL b.toNat b.toNat_lt
 rw [UInt8.ofNat_toNat] at hix'
 have hsl : (⟨signsL.toArray⟩ : ByteArray) = ⟨#[43, 45, 42, 47, 38, 61, 60, 62, 40, 41, 44, 58, 33]⟩ := rfl
 rw [hsl] at hix'
 have hsg := za2r b
 have fin : ∀ j : Nat, (k : Int) + j = ((k + j : Nat) : Int) := fun j => by omega
 by_cases h2 : (k : Int) + 2 ≤ s.size
 ·have h2n : k + 2 ≤ s.size := by omega
  cases q1 : eqS (s.extract k (k + 2)) ⟨#[60, 62]⟩ <;> cases q2 : eqS (s.extract k (k + 2)) ⟨#[60, 61]⟩ <;> cases q3 : eqS (s.extract k (k + 2)) ⟨#[62, 61]⟩ <;> cases hc : sgB b <;> rw [hc] at hsg <;>
   simp -dsimp only [↓kpre, kpost, light, ret1, cellF, afill, setAll, simprocAttr, ix9, vsl9, vlr9, ↓vfk56, Tryz.results49, zaji, h2, w1, w2, hkn, hk2, h0, q1, q2, q3, hb, ↓hix', hsg] <;>
   simp [tsgF, twoB, q1, q2, q3, h2n, hb, hc]
 ·have h2n : ¬ k + 2 ≤ s.size := by omega
  cases hc : sgB b <;> rw [hc] at hsg <;>
   simp -dsimp only [↓kpre, kpost, light, ret1, cellF, afill, setAll, simprocAttr, ix9, vsl9, vlr9, ↓vfk56, Tryz.results49, zaji, h2, w1, w2, hkn, h0, hb, ↓hix', hsg] <;>
   simp [tsgF, twoB, h2n, hb, hc]
theorem za55 (hX : X 32 = none) (s : ByteArray) (k : Nat) (hk : k < s.size) (hs : s.size ≤ 1000000) :
    Vp Tryz.prog X 32 [.string s, .int .i64 k] (.int .i64 (tsgF s k : Int)) := by
 unfold Vp
 refine zaay hX Tryz.func32 rfl (by kernel_rfl) (by show 2 ≤ _; decide) ?_
 obtain ⟨b, hb⟩ := zae9 hk
 have h0 : (0 : Int) ≤ k := by omega
 have w1 : IntKind.i64.wrap ((k : Int) + 1) = (k : Int) + 1 := zaar (by omega) (by omega)
 have w2 : IntKind.i64.wrap ((k : Int) + 2) = (k : Int) + 2 := zaar (by omega) (by omega)
 have hkn : ((k : Int) + 2).toNat = k + 2 := by omega
 have hk2 : (k : Int) ≤ (k : Int) + 2 := by omega
 have em : ∀ (x y : UInt8), eqS (⟨#[]⟩ : ByteArray) ⟨#[x, y]⟩ = false := fun x y => by unfold eqS; rw [ByteArray.toList_eq, ByteArray.toList_eq]; rfl
 have fnd : ∀ i : Nat, signsL[i]? = some b → sgB b = true := fun i h => List.contains_iff_mem.2 (List.mem_of_getElem? h)
 have nfd : (∀ j : Nat, j < 13 → signsL[j]? ≠ some b) → sgB b = false := fun h => by
  cases hc : sgB b with
  | false => rfl
  | true =>
   obtain ⟨j, hj⟩ := List.getElem?_of_mem (List.contains_iff_mem.1 hc)
   have hl : j < signsL.length := (List.getElem?_eq_some_iff.1 hj).1
   exact absurd hj (h j hl)
 have sz : (⟨#[43, 45, 42, 47, 38, 61, 60, 62, 40, 41, 44, 58, 33]⟩ : ByteArray).size = 13 := rfl
 have at' : ∀ i : Nat, (⟨#[43, 45, 42, 47, 38, 61, 60, 62, 40, 41, 44, 58, 33]⟩ : ByteArray)[i]? = signsL[i]? := fun i => tba_at _ i
 cases tw : twoB s k with
 | true =>
  have tw' := tw
  simp only [twoB, Bool.and_eq_true, decide_eq_true_eq] at tw
  obtain ⟨h2n, hq⟩ := tw
  have h2 : (k : Int) + 1 < s.size := by omega
  have h22 : (k : Int) + 2 ≤ s.size := by omega
  cases q1 : eqS (s.extract k (k + 2)) ⟨#[60, 62]⟩ <;> cases q2 : eqS (s.extract k (k + 2)) ⟨#[60, 61]⟩ <;> cases q3 : eqS (s.extract k (k + 2)) ⟨#[62, 61]⟩ <;> rw [q1, q2, q3] at hq <;>
   first | (cases hq; done) | (simp -dsimp only [↓kpre, kpost, light, ret1, cellF, afill, setAll, simprocAttr, ix9, vsl9, vlr9, Tryz.results32, zaji, h2, h22, w1, w2, hkn, hk2, h0, q1, q2, q3] <;> simp [tsgF, tw'])
 | false =>
  have hsf : tsgF s k = if sgB b then 1 else 0 := by simp only [tsgF, tw, hb]; rfl
  by_cases h2 : (k : Int) + 1 < s.size
  ·have h22 : (k : Int) + 2 ≤ s.size := by omega
   have h2n : k + 2 ≤ s.size := by omega
   simp only [twoB, h2n, decide_true, Bool.true_and, Bool.or_eq_false_iff] at tw
   obtain ⟨⟨q1, q2⟩, q3⟩ := tw
   simp -dsimp only [↓kpre, kpost, light, ret1, cellF, afill, setAll, simprocAttr, ix9, vsl9, vlr9, Tryz.results32, zaji, h2, h22, w1, w2, hkn, hk2, h0, q1, q2, q3]
   refine zabw (fun m e S => ∃ i : Nat, m = 13 - i ∧ i ≤ 13 ∧ (∀ j : Nat, j < i → signsL[j]? ≠ some b) ∧ eget e 0 = .string s ∧ eget e 1 = .int .i64 k ∧ eget e 6 = .string ⟨#[43, 45, 42, 47, 38, 61, 60, 62, 40, 41, 44, 58, 33]⟩ ∧ eget e 7 = .int .i64 i ∧ S = ⟨[], [], []⟩) 13 ?_ ?_
   ·refine ⟨0, rfl, by omega, fun j hj => absurd hj (Nat.not_lt_zero j), ?_, ?_, ?_, ?_, rfl⟩ <;> simp only [zacb, zabt, ↓zab7, ↓zaak, ↓ae_tmp, ↓ae_int, ↓zabi, ↓zaat, ↓zabj, ↓zaas, ↓zabk, zaao, zaan, zaaw, ↓reduceIte, Nat.reduceEqDiff, reduceCtorEq, Bool.false_eq_true, Nat.reduceBEq, decide_true, decide_false, Bool.not_true, Bool.not_false, List.getElem?_toArray, List.getElem?_cons_zero, List.getElem?_cons_succ, Nat.zero_add, Nat.add_zero, Nat.reduceAdd, Nat.reduceMul, Nat.reduceSub, Nat.reduceLT, Nat.reduceLeDiff, and_true, true_and, and_self] <;> rfl
   ·rintro m e S ⟨i, rfl, hi, hno, e0, e1, e6, e7, rfl⟩
    refine VWP_Vc _ _ _ _ ?_
    have hi0 : (0 : Int) ≤ i := by omega
    have wi : IntKind.i64.wrap ((i : Int) + 1) = (i : Int) + 1 := zaar (by omega) (by omega)
    by_cases hin : i < 13
    ·have hii : (i : Int) < 13 := by omega
     obtain ⟨a, ha⟩ : ∃ a, signsL[i]? = some a := ⟨signsL[i]'hin, List.getElem?_eq_getElem hin⟩
     have hab : decide ((a.toNat : Int) = b.toNat) = decide (a = b) := by
      rw [Bool.eq_iff_iff]
      simp only [decide_eq_true_eq]
      exact ⟨fun h => UInt8.toNat_inj.1 (by omega), fun h => by rw [h]⟩
     simp -dsimp only [↓kpre, kpost, light, ret1, cellF, afill, setAll, simprocAttr, ix9, vsl9, vlr9, Tryz.results32, e0, e1, e6, e7, sz, hii]
     refine zado [[], [], [], [], [], [], []] false (by kernel_rfl) (by kernel_rfl) (by kernel_rfl) ?_
     by_cases hq : a = b
     ·rw [decide_eq_true hq] at hab
      simp -dsimp only [↓kpre, kpost, light, ret1, cellF, afill, setAll, simprocAttr, ↓opre, opost, vspan, ix9, vsl9, vlr9, Tryz.results32, e0, e1, e6, e7, sz, hii, hi0, h0, at', ha, hb, hab, ↓hb]
      rw [hsf, fnd i (hq ▸ ha)]
      rfl
     ·rw [decide_eq_false hq] at hab
      simp -dsimp only [↓kpre, kpost, light, ret1, cellF, afill, setAll, simprocAttr, ↓opre, opost, vspan, ix9, vsl9, vlr9, Tryz.results32, e0, e1, e6, e7, sz, hii, hi0, h0, at', ha, hb, hab, wi]
      refine ⟨13 - (i + 1), by omega, i + 1, rfl, by omega, fun j hj => ?_, by rw [Int.natCast_add]; rfl⟩
      rcases Nat.lt_succ_iff_lt_or_eq.1 hj with hj | rfl
      ·exact hno j hj
      ·rw [ha]
       exact fun h => hq (Option.some.inj h)
    ·have hii : ¬ (i : Int) < 13 := by omega
     simp -dsimp only [↓kpre, kpost, light, ret1, cellF, afill, setAll, simprocAttr, ix9, vsl9, vlr9, Tryz.results32, e0, e1, e6, e7, sz, hii]
     rw [hsf, nfd fun j hj => hno j (by omega)]
     rfl
  ·simp -dsimp only [↓kpre, kpost, light, ret1, cellF, afill, setAll, simprocAttr, ix9, vsl9, vlr9, Tryz.results32, zaji, h2, w1, w2, h0, em]
   refine zabw (fun m e S => ∃ i : Nat, m = 13 - i ∧ i ≤ 13 ∧ (∀ j : Nat, j < i → signsL[j]? ≠ some b) ∧ eget e 0 = .string s ∧ eget e 1 = .int .i64 k ∧ eget e 6 = .string ⟨#[43, 45, 42, 47, 38, 61, 60, 62, 40, 41, 44, 58, 33]⟩ ∧ eget e 7 = .int .i64 i ∧ S = ⟨[], [], []⟩) 13 ?_ ?_
   ·refine ⟨0, rfl, by omega, fun j hj => absurd hj (Nat.not_lt_zero j), ?_, ?_, ?_, ?_, rfl⟩ <;> simp only [zacb, zabt, ↓zab7, ↓zaak, ↓ae_tmp, ↓ae_int, ↓zabi, ↓zaat, ↓zabj, ↓zaas, ↓zabk, zaao, zaan, zaaw, ↓reduceIte, Nat.reduceEqDiff, reduceCtorEq, Bool.false_eq_true, Nat.reduceBEq, decide_true, decide_false, Bool.not_true, Bool.not_false, List.getElem?_toArray, List.getElem?_cons_zero, List.getElem?_cons_succ, Nat.zero_add, Nat.add_zero, Nat.reduceAdd, Nat.reduceMul, Nat.reduceSub, Nat.reduceLT, Nat.reduceLeDiff, and_true, true_and, and_self] <;> rfl
   ·rintro m e S ⟨i, rfl, hi, hno, e0, e1, e6, e7, rfl⟩
    refine VWP_Vc _ _ _ _ ?_
    have hi0 : (0 : Int) ≤ i := by omega
    have wi : IntKind.i64.wrap ((i : Int) + 1) = (i : Int) + 1 := zaar (by omega) (by omega)
    by_cases hin : i < 13
    ·have hii : (i : Int) < 13 := by omega
     obtain ⟨a, ha⟩ : ∃ a, signsL[i]? = some a := ⟨signsL[i]'hin, List.getElem?_eq_getElem hin⟩
     have hab : decide ((a.toNat : Int) = b.toNat) = decide (a = b) := by
      rw [Bool.eq_iff_iff]
      simp only [decide_eq_true_eq]
      exact ⟨fun h => UInt8.toNat_inj.1 (by omega), fun h => by rw [h]⟩
     simp -dsimp only [↓kpre, kpost, light, ret1, cellF, afill, setAll, simprocAttr, ix9, vsl9, vlr9, Tryz.results32, e0, e1, e6, e7, sz, hii]
     refine zado [[], [], [], [], [], [], []] false (by kernel_rfl) (by kernel_rfl) (by kernel_rfl) ?_
     by_cases hq : a = b
     ·rw [decide_eq_true hq] at hab
      simp -dsimp only [↓kpre, kpost, light, ret1, cellF, afill, setAll, simprocAttr, ↓opre, opost, vspan, ix9, vsl9, vlr9, Tryz.results32, e0, e1, e6, e7, sz, hii, hi0, h0, at', ha, hb, hab, ↓hb]
      rw [hsf, fnd i (hq ▸ ha)]
      rfl
     ·rw [decide_eq_false hq] at hab
      simp -dsimp only [↓kpre, kpost, light, ret1, cellF, afill, setAll, simprocAttr, ↓opre, opost, vspan, ix9, vsl9, vlr9, Tryz.results32, e0, e1, e6, e7, sz, hii, hi0, h0, at', ha, hb, hab, wi]
      refine ⟨13 - (i + 1), by omega, i + 1, rfl, by omega, fun j hj => ?_, by rw [Int.natCast_add]; rfl⟩
      rcases Nat.lt_succ_iff_lt_or_eq.1 hj with hj | rfl
      ·exact hno j hj
      ·rw [ha]
       exact fun h => hq (Option.some.inj h)
    ·have hii : ¬ (i : Int) < 13 := by omega
     simp -dsimp only [↓kpre, kpost, light, ret1, cellF, afill, setAll, simprocAttr, ix9, vsl9, vlr9, Tryz.results32, e0, e1, e6, e7, sz, hii]
     rw [hsf, nfd fun j hj => hno j (by omega)]
     rfl
end
end Go.Proofs.YtliemjbafgnnbaaGreatDoor.Abs
/- What stands between two quotes: in plain words. -/
namespace Go.Proofs.YtliemjbafgnnbaaGreatDoor.Abs
open Go
def quoF (s : ByteArray) : Nat → Nat → List UInt8 → Option (List UInt8 × Nat)
 | 0, _, _ => none
 | n + 1, k, acc => match s[k]? with
  | none => none
  | some c => if c = 34 then (if s[k + 1]? = some 34 then quoF s n (k + 2) (acc ++ [34]) else some (acc, k + 1)) else quoF s n (k + 1) (acc ++ [c])
def quoV : Option (List UInt8 × Nat) → Value
 | some (t, k) => .tuple ⟨[.string ⟨t.toArray⟩, .int .i64 k, .bool true]⟩
 | none => .tuple ⟨[.string .empty, .int .i64 0, .bool false]⟩
theorem zamg {s : ByteArray} {k : Nat} (h : s.size ≤ k) (n : Nat) (acc : List UInt8) : quoF s n k acc = none := by
 cases n with
 | zero => rfl
 | succ n =>
  have : s[k]? = none := getElem?_neg s k (by omega)
  simp only [quoF, this]
theorem u8_lit (c : UInt8) : ((c.toNat : Int) = 34) ↔ c = 34 := by
 constructor
 ·intro h
  apply UInt8.toNat_inj.1
  have : c.toNat = 34 := by omega
  rw [this]; rfl
 ·rintro rfl; rfl
end Go.Proofs.YtliemjbafgnnbaaGreatDoor.Abs
/- Tokens: what stands between quotes, in the reference; the next token; the program's Split and the reference's. -/
set_option maxRecDepth 8000
namespace Go.Proofs.YtliemjbafgnnbaaGreatDoor.Abs
open Go
def zalc := And.intro (And.intro (And.intro (@val57) (@vfk42)) (And.intro (@vfk43) (@vfk44))) (And.intro (And.intro (@vfk45) (@vfk46)) (And.intro (@vfk47) (And.intro (@vfk48) (@vfk49))))
def zali := And.intro (And.intro (And.intro (And.intro (@vld57) (@vgt57)) (And.intro (@vst57) (@vst3))) (And.intro (And.intro (@vst9) (@zaoi)) (And.intro (@zaon) (@zagi)))) (And.intro (And.intro (And.intro (@zagj) (@bd57)) (And.intro (@pl57_0) (@pl57_1))) (And.intro (And.intro (@pl57_2) (@ix9)) (And.intro (@vsl9) (@Tryz.results22))))
def zalb := And.intro (@val57) (@vfk22)
def zalh := And.intro (And.intro (And.intro (@vld57) (@vgt57)) (And.intro (@vst57) (@vbd39))) (And.intro (And.intro (@ix9) (@vlr9)) (And.intro (@vap39) (@Tryz.results10)))
def zaa5 := And.intro (And.intro (@vfk28) (@vfk29)) (And.intro (@vfk30) (And.intro (@vfk31) (@vfk32)))
def zaa6 := And.intro (And.intro (And.intro (@bd57) (@pl57_0)) (And.intro (@pl57_1) (And.intro (@pl57_2) (@vbd39)))) (And.intro (And.intro (@ix9) (@vsl9)) (And.intro (@vlr9) (And.intro (@vap39) (@Tryz.results15))))
attribute [local irreducible] Hold VReg Vf Vc VWP With VStp Vcallee Vp VE
theorem zavg {s : ByteArray} : ∀ n k acc t e, quoF s n k acc = some (t, e) → k < e ∧ e ≤ s.size
 | 0, k, acc, t, e, h => by simp [quoF] at h
 | n + 1, k, acc, t, e, h => by
  have hk : k < s.size := by
   rcases Nat.lt_or_ge k s.size with h' | h'
   ·exact h'
   ·rw [zamg h'] at h; cases h
  obtain ⟨c, hc⟩ := zae9 hk
  simp only [quoF, hc] at h
  split at h
  ·split at h
   ·have := zavg n _ _ t e h; omega
   ·cases h; omega
  ·have := zavg n _ _ t e h; omega
theorem za47 {s : ByteArray} {k : Nat} {c : UInt8} (h : s[k]? = some c) : s.extract k (k + 1) = ⟨#[c]⟩ := by
 rw [tba_at] at h
 have hl : (s.extract k (k + 1)).data.toList = [c] := by
  rw [ByteArray.data_extract, Array.toList_extract, List.extract_eq_take_drop]
  have e : k + 1 - k = 1 := by omega
  rw [e, List.take_one, List.head?_drop, h]
  rfl
 have : s.extract k (k + 1) = ⟨((s.extract k (k + 1)).data.toList).toArray⟩ := rfl
 rw [this, hl]
theorem za6e {P : Program} {t : TypeId} {x y : Operand} {a b : ByteArray} (ha : a.size ≤ 1000000) (hb : b.size ≤ 1000000) : abin P .add t x y (.string a) (.string b) = some (.string (a ++ b)) := by
 have : abin P .add t x y (.string a) (.string b) = onlyFlat (pureRun P (Op.stringOp .add a b)) := rfl
 rw [this]
 unfold Op.stringOp
 simp only
 rw [if_neg (by simp only [IntKind.max, IntKind.signed, IntKind.bits]; simp; omega)]
 rfl
theorem za5g (l : List UInt8) : (⟨l.toArray⟩ : ByteArray).size = l.length := rfl
section
variable {X : VOuter}
theorem rquo_p (hX : X 31 = none) (s : ByteArray) (k : Nat) (hk : k < s.size) (hs : s.size ≤ 1000000) :
    Vp Tryz.prog X 31 [.string s, .int .i64 k] (quoV (quoF s s.size (k + 1) [])) := by
 unfold Vp
 refine zaay hX Tryz.func31 rfl (by kernel_rfl) (by show 2 ≤ _; decide) ?_
 have w1 : IntKind.i64.wrap ((k : Int) + 1) = (k : Int) + 1 := zaar (by omega) (by omega)
 simp -dsimp only [↓kpre, kpost, light, ret1, cellF, afill, setAll, simprocAttr, ix9, vsl9, vlr9, Tryz.results31, w1]
 refine zabw (fun m e S => ∃ (q : Nat) (acc : List UInt8), q ≤ s.size ∧ s.size < q + m ∧ quoF s m q acc = quoF s s.size (k + 1) [] ∧ acc.length ≤ q ∧ eget e 0 = .string s ∧ eget e 8 = .int .i64 q ∧ eget e 7 = .string ⟨acc.toArray⟩ ∧ S = ⟨[], [], []⟩) s.size ?_ ?_
 ·refine ⟨k + 1, [], by omega, by omega, rfl, by simp, ?_, ?_, ?_, rfl⟩ <;> simp only [zacb, zabt, ↓zab7, ↓zaak, ↓ae_tmp, ↓ae_int, ↓zabi, ↓zaat, ↓zabj, ↓zaas, ↓zabk, zaao, zaan, zaaw, ↓reduceIte, Nat.reduceEqDiff, reduceCtorEq, Bool.false_eq_true, Nat.reduceBEq, decide_true, decide_false, Bool.not_true, Bool.not_false, List.getElem?_toArray, List.getElem?_cons_zero, List.getElem?_cons_succ, Nat.zero_add, Nat.add_zero, Nat.reduceAdd, Nat.reduceMul, Nat.reduceSub, Nat.reduceLT, Nat.reduceLeDiff, and_true, true_and, and_self] <;> rfl
 ·rintro m e S ⟨q, acc, hq, hm, hF, hacc, e0, e8, e7, rfl⟩
  refine VWP_Vc _ _ _ _ ?_
  by_cases hlt : q < s.size
  ·obtain ⟨m, rfl⟩ : ∃ n, m = n + 1 := ⟨m - 1, by omega⟩
   obtain ⟨c, hc⟩ := zae9 hlt
   have hqi : (q : Int) < s.size := by omega
   have h0 : (0 : Int) ≤ q := by omega
   have w2 : IntKind.i64.wrap ((q : Int) + 1) = (q : Int) + 1 := zaar (by omega) (by omega)
   have w3 : IntKind.i64.wrap ((q : Int) + 1 + 1) = (q : Int) + 1 + 1 := zaar (by omega) (by omega)
   have hn1 : ((q : Int) + 1).toNat = q + 1 := by omega
   have h1' : (0 : Int) ≤ (q : Int) + 1 := by omega
   have hle1 : (q : Int) ≤ (q : Int) + 1 := by omega
   have hle2 : (q : Int) + 1 ≤ s.size := by omega
   have hcat : ∀ b : UInt8, (⟨acc.toArray⟩ : ByteArray) ++ ⟨#[b]⟩ = ⟨(acc ++ [b]).toArray⟩ := fun b => by simp [ByteArray.ext_iff]
   have hx1 := za47 hc
   have hadd : ∀ (b : UInt8) x y, abin Tryz.prog .add 9 x y (.string ⟨acc.toArray⟩) (.string ⟨#[b]⟩) = some (.string ⟨(acc ++ [b]).toArray⟩) := fun b x y => by
    rw [za6e (by rw [za5g]; omega) (by show 1 ≤ _; decide), hcat]
   by_cases hc4 : c = 34
   ·subst hc4
    have hF' : quoF s (m + 1) q acc = if s[q + 1]? = some 34 then quoF s m (q + 2) (acc ++ [34]) else some (acc, q + 1) := by simp only [quoF, hc, if_true]
    rw [hF'] at hF
    have lit34 : ((34 : UInt8).toNat : Int) = 34 := rfl
    by_cases he : q + 1 < s.size
    ·have hee : (q : Int) + 1 < s.size := by omega
     obtain ⟨d, hd⟩ := zae9 he
     by_cases hd4 : d = 34
     ·subst hd4
      rw [hd, if_pos rfl] at hF
      simp -dsimp only [↓kpre, kpost, light, ret1, cellF, afill, setAll, simprocAttr, ix9, vsl9, vlr9, Tryz.results31, e0, e8, e7, hqi, h0, hc, lit34, w2, w3, hee, hn1, h1', hd, hadd]
      exact ⟨m, by omega, q + 2, acc ++ [34], by omega, by omega, hF, by simp; omega, by rw [show (q : Int) + 1 + 1 = ((q + 2 : Nat) : Int) by omega], rfl⟩
     ·have hne : ¬ ((d.toNat : Int) = 34) := fun h => hd4 ((u8_lit d).1 h)
      rw [hd, if_neg (by simpa using hd4)] at hF
      simp -dsimp only [↓kpre, kpost, light, ret1, cellF, afill, setAll, simprocAttr, ix9, vsl9, vlr9, Tryz.results31, e0, e8, e7, hqi, h0, hc, lit34, w2, w3, hee, hn1, h1', hd, hne]
      rw [← hF]
      rfl
    ·have hee : ¬ (q : Int) + 1 < s.size := by omega
     have : s[q + 1]? = none := getElem?_neg s (q + 1) (by omega)
     rw [this, if_neg (by simp)] at hF
     simp -dsimp only [↓kpre, kpost, light, ret1, cellF, afill, setAll, simprocAttr, ix9, vsl9, vlr9, Tryz.results31, e0, e8, e7, hqi, h0, hc, lit34, w2, w3, hee, hn1, h1']
     rw [← hF]
     rfl
   ·have hne : ¬ ((c.toNat : Int) = 34) := fun h => hc4 ((u8_lit c).1 h)
    have hF' : quoF s (m + 1) q acc = quoF s m (q + 1) (acc ++ [c]) := by simp only [quoF, hc, hc4, if_false]
    rw [hF'] at hF
    simp -dsimp only [↓kpre, kpost, light, ret1, cellF, afill, setAll, simprocAttr, ix9, vsl9, vlr9, Tryz.results31, e0, e8, e7, hqi, h0, hc, w2, w3, hne, hle1, hle2, hn1, h1', hx1, hadd]
    exact ⟨m, by omega, q + 1, acc ++ [c], by omega, by omega, hF, by simp; omega, by rw [show (q : Int) + 1 = ((q + 1 : Nat) : Int) by omega], rfl⟩
  ·have hqi : ¬ (q : Int) < s.size := by omega
   rw [zamg (by omega)] at hF
   simp -dsimp only [↓kpre, kpost, light, ret1, cellF, afill, setAll, simprocAttr, ix9, vsl9, vlr9, Tryz.results31, e0, e8, e7, hqi]
   rw [← hF]
   rfl
structure TK where
 k : Int
 a : Nat
 t : ByteArray
def TK.v (x : TK) : Value := .agg ⟨[.int .i64 x.k, .int .i64 x.a, .string x.t]⟩
def nextF (s : ByteArray) (k : Nat) : Option (TK × Nat) := match s[k]? with
 | none => none
 | some c =>
  if digB c.toNat then some (⟨1, k, s.extract k (runF digB s s.size k)⟩, runF digB s s.size k) else
  if grtB c.toNat then some (⟨3, k, s.extract k (runF gdB s s.size k)⟩, runF gdB s s.size k) else
  if smlB c.toNat then some (⟨4, k, s.extract k (runF sdB s s.size k)⟩, runF sdB s s.size k) else
  if c = 34 then (match quoF s s.size (k + 1) [] with | some (t, e) => some (⟨2, k, ⟨t.toArray⟩⟩, e) | none => none) else
  if tsgF s k = 0 then none else some (⟨5, k, s.extract k (k + tsgF s k)⟩, k + tsgF s k)
def nextV (s : ByteArray) (k : Nat) : Value := match nextF s k with
 | some (t, e) => .tuple ⟨[t.v, .int .i64 e, .bool true]⟩
 | none => match s[k]? with
  | some c => if c = 34 then .tuple ⟨[(⟨2, k, .empty⟩ : TK).v, .int .i64 0, .bool false]⟩ else .tuple ⟨[(⟨5, k, s.extract k k⟩ : TK).v, .int .i64 k, .bool false]⟩
  | none => undef
theorem run_c (hX : X 43 = none) (g : FuncId) (p : Int → Bool) (hg : funcOk Tryz.prog g = true) (hp : ∀ n S K, Vcallee Tryz.prog X g [.int .u8 n] S K = K (.bool (p n)) [] S [] false) (s : ByteArray) (k : Nat) (hk : k ≤ s.size) (hs : s.size ≤ 1000000) (S : VH) (K : VCont) :
    Vcallee Tryz.prog X 43 [.string s, .int .i64 k, .func (.func g) #[] #[]] S K = K (.int .i64 (runF p s s.size k)) [] S [] false :=
 zaag (run_p hX g p hg hp s k hk hs) rfl rfl rfl
theorem sign_c (hX : X 49 = none) (hix : ∀ (l : List UInt8) (n : Nat), n < 256 → ∀ S K, Vcallee Tryz.prog X 56 [.string ⟨l.toArray⟩, .int .u8 n] S K = K (.int .i64 (Lib.indexByte l (UInt8.ofNat n))) [] S [] false) (s : ByteArray) (k : Nat) (hk : k < s.size) (hs : s.size ≤ 1000000) (S : VH) (K : VCont) :
    Vcallee Tryz.prog X 49 [.string s, .int .i64 k] S K = K (.int .i64 ((k + tsgF s k : Nat) : Int)) [] S [] false := zaag (za6h hX hix s k hk hs) rfl rfl rfl
structure TkOff (X : VOuter) : Prop where
 dig : X 42 = none
 grt : X 44 = none
 sml : X 46 = none
 gd : X 45 = none
 sd : X 47 = none
 run : X 43 = none
 sign : X 49 = none
 next : X 22 = none
 ixb : ∀ (l : List UInt8) (n : Nat), n < 256 → ∀ S K, Vcallee Tryz.prog X 56 [.string ⟨l.toArray⟩, .int .u8 n] S K = K (.int .i64 (Lib.indexByte l (UInt8.ofNat n))) [] S [] false
 quo : ∀ (s : ByteArray) (k : Nat), k < s.size → s.size ≤ 1000000 → ∀ S K, Vcallee Tryz.prog X 48 [.string s, .int .i64 k] S K = K (quoV (quoF s s.size (k + 1) [])) [] S [] false
theorem fk_dig : funcOk Tryz.prog 42 = true := by kernel_rfl
theorem fk_gd : funcOk Tryz.prog 45 = true := by kernel_rfl
theorem fk_sd : funcOk Tryz.prog 47 = true := by kernel_rfl
theorem zalo {p : Int → Bool} {s : ByteArray} {k : Nat} {c : UInt8} (hc : s[k]? = some c) (hk : k < s.size) (hp : p c.toNat = true) : k < runF p s s.size k := by
 obtain ⟨n, hn⟩ : ∃ n, s.size = n + 1 := ⟨s.size - 1, by omega⟩
 have : runF p s s.size k = runF p s n (k + 1) := by
  rw [hn]
  simp only [runF, hc, hp, if_true]
 rw [this]
 have := (zan0 p s n (k + 1) (by omega)).1
 omega
theorem gd_of {n : Int} (h : grtB n = true) : gdB n = true := by simp [gdB, h]
theorem sd_of {n : Int} (h : smlB n = true) : sdB n = true := by simp [sdB, h]
theorem za0o {s : ByteArray} {k : Nat} (hk : k < s.size) : k + tsgF s k ≤ s.size := by
 unfold tsgF
 split
 ·rename_i h
  simp only [twoB, Bool.and_eq_true, decide_eq_true_eq] at h
  exact h.1
 ·split
  ·split <;> omega
  ·omega
theorem next_p (h : TkOff X) (s : ByteArray) (k : Nat) (hk : k < s.size) (hs : s.size ≤ 1000000) : Vp Tryz.prog X 22 [.string s, .int .i64 k] (nextV s k) := by
 unfold Vp
 refine zaay h.next Tryz.func22 rfl (by kernel_rfl) (by show 2 ≤ _; decide) ?_
 obtain ⟨c, hc⟩ := zae9 hk
 have h0 : (0 : Int) ≤ k := by omega
 have hkn : ((k : Int)).toNat = k := by omega
 have rd := fun S K => run_c h.run 42 digB fk_dig (fun n S K => dig_c h.dig n S K) s k (by omega) hs S K
 have rg := fun S K => run_c h.run 45 gdB fk_gd (fun n S K => gd_c h.gd h.dig h.grt n S K) s k (by omega) hs S K
 have rs := fun S K => run_c h.run 47 sdB fk_sd (fun n S K => sd_c h.sd h.dig h.sml n S K) s k (by omega) hs S K
 have le := fun p => (zan0 p s s.size k (by omega)).1
 have le2 := fun p => (zan0 p s s.size k (by omega)).2
 cases c1 : digB c.toNat with
 | true =>
  have hl := zalo hc hk c1
  have hl' : (k : Int) < (runF digB s s.size k : Nat) := by omega
  have a1 : (k : Int) ≤ (runF digB s s.size k : Nat) := by omega
  have a2 : ((runF digB s s.size k : Nat) : Int) ≤ s.size := by have := le2 digB; omega
  simp -dsimp only [↓kpre, kpost, light, ret1, cellF, afill, setAll, simprocAttr, ↓zalc, zali, h0, hc, ↓dig_c h.dig, c1, ↓rd, hl', a1, a2, hkn]
  simp only [nextV, nextF, hc, c1, if_true, TK.v]
 | false =>
  cases c2 : grtB c.toNat with
  | true =>
   have hl := zalo hc hk (gd_of c2)
   have hl' : (k : Int) < (runF gdB s s.size k : Nat) := by omega
   have a1 : (k : Int) ≤ (runF gdB s s.size k : Nat) := by omega
   have a2 : ((runF gdB s s.size k : Nat) : Int) ≤ s.size := by have := le2 gdB; omega
   simp -dsimp only [↓kpre, kpost, light, ret1, cellF, afill, setAll, simprocAttr, ↓zalc, zali, h0, hc, ↓dig_c h.dig, ↓grt_c h.grt, c1, c2, ↓rg, hl', a1, a2, hkn]
   simp [nextV, nextF, hc, c1, c2, TK.v]
  | false =>
   cases c3 : smlB c.toNat with
   | true =>
    have hl := zalo hc hk (sd_of c3)
    have hl' : (k : Int) < (runF sdB s s.size k : Nat) := by omega
    have a1 : (k : Int) ≤ (runF sdB s s.size k : Nat) := by omega
    have a2 : ((runF sdB s s.size k : Nat) : Int) ≤ s.size := by have := le2 sdB; omega
    simp -dsimp only [↓kpre, kpost, light, ret1, cellF, afill, setAll, simprocAttr, ↓zalc, zali, h0, hc, ↓dig_c h.dig, ↓grt_c h.grt, ↓sml_c h.sml, c1, c2, c3, ↓rs, hl', a1, a2, hkn]
    simp [nextV, nextF, hc, c1, c2, c3, TK.v]
   | false =>
    by_cases c4 : c = 34
    ·have hq := fun S K => h.quo s k hk hs S K
     have c4' := (u8_lit c).2 c4
     have g1 : digB 34 = false := rfl
     have g2 : grtB 34 = false := rfl
     have g3 : smlB 34 = false := rfl
     cases hF : quoF s s.size (k + 1) [] with
     | none =>
      rw [hF] at hq
      simp only [quoV] at hq
      simp -dsimp only [↓kpre, kpost, light, ret1, cellF, afill, setAll, simprocAttr, ↓zalc, zali, h0, hc, ↓dig_c h.dig, ↓grt_c h.grt, ↓sml_c h.sml, c1, c2, c3, c4', g1, g2, g3, ↓hq, hkn]
      simp [nextV, nextF, hc, c1, c2, c3, c4, g1, g2, g3, hF, TK.v]
     | some te =>
      obtain ⟨t, e⟩ := te
      rw [hF] at hq
      simp only [quoV] at hq
      simp -dsimp only [↓kpre, kpost, light, ret1, cellF, afill, setAll, simprocAttr, ↓zalc, zali, h0, hc, ↓dig_c h.dig, ↓grt_c h.grt, ↓sml_c h.sml, c1, c2, c3, c4', g1, g2, g3, ↓hq, hkn]
      simp [nextV, nextF, hc, c1, c2, c3, c4, g1, g2, g3, hF, TK.v]
    ·have c4' : ¬ ((c.toNat : Int) = 34) := fun h => c4 ((u8_lit c).1 h)
     have hsg := fun S K => sign_c h.sign h.ixb s k hk hs S K
     have a1 : (k : Int) ≤ ((k + tsgF s k : Nat) : Int) := by omega
     have a2 : ((k + tsgF s k : Nat) : Int) ≤ s.size := by have := za0o hk; omega
     have a3 : decide ((k : Int) < ((k + tsgF s k : Nat) : Int)) = !decide (tsgF s k = 0) := by
      by_cases h : tsgF s k = 0
      ·simp [h]
      ·have : (k : Int) < ((k + tsgF s k : Nat) : Int) := by omega
       simp only [this, h, decide_true, decide_false, Bool.not_false]
     simp -dsimp only [↓kpre, kpost, light, ret1, cellF, afill, setAll, simprocAttr, ↓zalc, zali, h0, hc, ↓dig_c h.dig, ↓grt_c h.grt, ↓sml_c h.sml, c1, c2, c3, c4', ↓hsg, a1, a2, a3, hkn]
     by_cases hz : tsgF s k = 0
     ·simp [nextV, nextF, hc, c1, c2, c3, c4, hz, TK.v]
     ·simp [nextV, nextF, hc, c1, c2, c3, c4, hz, TK.v]
theorem zad7 {s : ByteArray} {k : Nat} {t : TK} {e : Nat} (h : nextF s k = some (t, e)) : k < e ∧ e ≤ s.size := by
 have hk : k < s.size := by
  rcases Nat.lt_or_ge k s.size with h' | h'
  ·exact h'
  ·unfold nextF at h
   rw [getElem?_neg s k (by omega)] at h
   cases h
 obtain ⟨c, hc⟩ := zae9 hk
 have le2 := fun p => (zan0 p s s.size k (by omega)).2
 unfold nextF at h
 rw [hc] at h
 simp only at h
 split at h
 ·rename_i c1
  cases h
  exact ⟨zalo hc hk c1, le2 _⟩
 ·split at h
  ·rename_i c2
   cases h
   exact ⟨zalo hc hk (gd_of c2), le2 _⟩
  ·split at h
   ·rename_i c3
    cases h
    exact ⟨zalo hc hk (sd_of c3), le2 _⟩
   ·split at h
    ·split at h
     ·rename_i t e' hq
      cases h
      have := zavg _ _ _ _ _ hq
      omega
     ·cases h
    ·split at h
     ·cases h
     ·cases h
      have := za0o hk
      omega
def splitF (s : ByteArray) : Nat → Nat → List TK → Except Nat (List TK)
 | 0, _, l => .ok l
 | n + 1, k, l => match s[k]? with
  | none => .ok l
  | some c => if c = 32 then splitF s n (k + 1) l else match nextF s k with
   | some (t, e) => splitF s n e (l ++ [t])
   | none => .error k
def splitR : Except Nat (List TK) → Value
 | .ok l => .tuple ⟨[sl true 0 3 (l.map TK.v), .int .i64 (-1), .int .i64 0]⟩
 | .error k => .tuple ⟨[.slice none 0 0, .int .i64 k, .int .i64 3]⟩
def splitV (s : ByteArray) : Value := if (200 : Int) < s.size then .tuple ⟨[.slice none 0 0, .int .i64 0, .int .i64 5]⟩ else splitR (splitF s s.size 0 [])
theorem zan6 {s : ByteArray} {k : Nat} (h : s.size ≤ k) (n : Nat) (l : List TK) : splitF s n k l = .ok l := by
 cases n with
 | zero => rfl
 | succ n =>
  have : s[k]? = none := getElem?_neg s k (by omega)
  simp only [splitF, this]
theorem u8_sp (c : UInt8) : ((c.toNat : Int) = 32) ↔ c = 32 := by
 constructor
 ·intro h
  apply UInt8.toNat_inj.1
  have : c.toNat = 32 := by omega
  rw [this]; rfl
 ·rintro rfl; rfl
theorem next_c (h : TkOff X) (s : ByteArray) (k : Nat) (hk : k < s.size) (hs : s.size ≤ 1000000) {v : Value} (hv : nextV s k = v) (hok : okv 0 false v = true) (S : VH) (K : VCont) : Vcallee Tryz.prog X 22 [.string s, .int .i64 k] S K = K v [] S [] false := by
 subst hv
 exact zaag (next_p h s k hk hs) rfl rfl hok
theorem za6c (h : TkOff X) (hX : X 10 = none) (s : ByteArray) : Vp Tryz.prog X 10 [.string s] (splitV s) := by
 unfold Vp
 refine zaay hX Tryz.func10 rfl (by kernel_rfl) (by show 1 ≤ _; decide) ?_
 unfold splitV
 by_cases h200 : (200 : Int) < s.size
 ·rw [if_pos h200]
  simp -dsimp only [↓kpre, kpost, light, ret1, cellF, afill, setAll, simprocAttr, ↓zalb, zalh, h200]
 ·rw [if_neg h200]
  simp -dsimp only [↓kpre, kpost, light, ret1, cellF, afill, setAll, simprocAttr, ↓zalb, zalh, h200]
  refine zabw (fun m e S => ∃ (q : Nat) (l : List TK), q ≤ s.size ∧ s.size ≤ q + m ∧ splitF s m q l = splitF s s.size 0 [] ∧ l.length ≤ q ∧ eget e 0 = .string s ∧ eget e 6 = .int .i64 q ∧ eget e 5 = ol true (36, none) 3 (l.map TK.v) ∧ ∃ J, S = ⟨[], J, []⟩) s.size ?_ ?_
  ·refine ⟨0, [], by omega, by omega, rfl, by simp, ?_, ?_, ?_, [], rfl⟩ <;> simp only [zacb, zabt, ↓zab7, ↓zaak, ↓ae_tmp, ↓ae_int, ↓zabi, ↓zaat, ↓zabj, ↓zaas, ↓zabk, zaao, zaan, zaaw, ↓reduceIte, Nat.reduceEqDiff, reduceCtorEq, Bool.false_eq_true, Nat.reduceBEq, decide_true, decide_false, Bool.not_true, Bool.not_false, List.getElem?_toArray, List.getElem?_cons_zero, List.getElem?_cons_succ, Nat.zero_add, Nat.add_zero, Nat.reduceAdd, Nat.reduceMul, Nat.reduceSub, Nat.reduceLT, Nat.reduceLeDiff, and_true, true_and, and_self] <;> rfl
  ·rintro m e S ⟨q, l, hq, hm, hF, hl, e0, e6, e5, J, rfl⟩
   refine VWP_Vc _ _ _ _ ?_
   by_cases hlt : q < s.size
   ·obtain ⟨m, rfl⟩ : ∃ n, m = n + 1 := ⟨m - 1, by omega⟩
    obtain ⟨c, hc⟩ := zae9 hlt
    have hqi : (q : Int) < s.size := by omega
    have h0 : (0 : Int) ≤ q := by omega
    have w2 : IntKind.i64.wrap ((q : Int) + 1) = (q : Int) + 1 := zaar (by omega) (by omega)
    by_cases hsp : c = 32
    ·have hsp' := (u8_sp c).2 hsp
     have hF' : splitF s (m + 1) q l = splitF s m (q + 1) l := by simp only [splitF, hc, hsp, if_true]
     rw [hF'] at hF
     simp -dsimp only [↓kpre, kpost, light, ret1, cellF, afill, setAll, simprocAttr, ↓zalb, zalh, e0, e6, e5, hqi, h0, hc, hsp', w2]
     exact ⟨m, by omega, q + 1, l, by omega, by omega, hF, by omega, by rw [show (q : Int) + 1 = ((q + 1 : Nat) : Int) by omega], rfl, _, rfl⟩
    ·have hsp' : ¬ ((c.toNat : Int) = 32) := fun h => hsp ((u8_sp c).1 h)
     cases hn : nextF s q with
     | none =>
      have hF' : splitF s (m + 1) q l = .error q := by simp only [splitF, hc, hsp, if_false, hn]
      rw [hF'] at hF
      obtain ⟨k', a', t', n', hv⟩ : ∃ (k' : Int) (a' : Nat) (t' : ByteArray) (n' : Int), nextV s q = .tuple ⟨[(⟨k', a', t'⟩ : TK).v, .int .i64 n', .bool false]⟩ := by
       unfold nextV
       rw [hn, hc]
       simp only
       split
       ·exact ⟨_, _, _, _, rfl⟩
       ·exact ⟨_, _, _, _, rfl⟩
      simp only [TK.v] at hv
      have hcl := fun S K => next_c h s q hlt (by omega) hv rfl S K
      simp -dsimp only [↓kpre, kpost, light, ret1, cellF, afill, setAll, simprocAttr, ↓zalb, zalh, e0, e6, e5, hqi, h0, hc, hsp', w2, ↓hcl]
      rw [← hF]
      rfl
     | some te =>
      obtain ⟨t, e'⟩ := te
      have hF' : splitF s (m + 1) q l = splitF s m e' (l ++ [t]) := by simp only [splitF, hc, hsp, if_false, hn]
      rw [hF'] at hF
      have hle := zad7 hn
      obtain ⟨tk, ta, tt⟩ := t
      have hv : nextV s q = .tuple ⟨[.agg ⟨[.int .i64 tk, .int .i64 ta, .string tt]⟩, .int .i64 e', .bool true]⟩ := by
       unfold nextV
       rw [hn]
       rfl
      have hcl := fun S K => next_c h s q hlt (by omega) hv rfl S K
      simp -dsimp only [↓kpre, kpost, light, ret1, cellF, afill, setAll, simprocAttr, ↓zalb, zalh, e0, e6, e5, hqi, h0, hc, hsp', w2, ↓hcl]
      have hlm : (l.map TK.v).length = l.length := List.length_map ..
      exact ⟨⟨by rw [hlm]; omega, by rw [hlm]; omega⟩, m, by omega, e', l ++ [⟨tk, ta, tt⟩], by omega, by omega, hF, by simp; omega, rfl, by rw [List.map_append]; rfl, _, rfl⟩
   ·have hqi : ¬ (q : Int) < s.size := by omega
    rw [zan6 (by omega)] at hF
    simp -dsimp only [↓kpre, kpost, light, ret1, cellF, afill, setAll, simprocAttr, ↓zalb, zalh, e0, e6, e5, hqi]
    rw [← hF]
    rfl
structure RtkOff (X : VOuter) : Prop where
 dig : X 28 = none
 grt : X 29 = none
 sml : X 30 = none
 sign : X 32 = none
 quo : X 31 = none
theorem za0e (hX : X 32 = none) (s : ByteArray) (k : Nat) (hk : k < s.size) (hs : s.size ≤ 1000000) (S : VH) (K : VCont) :
    Vcallee Tryz.prog X 32 [.string s, .int .i64 k] S K = K (.int .i64 (tsgF s k : Int)) [] S [] false := zaag (za55 hX s k hk hs) rfl rfl rfl
theorem rquo_c (hX : X 31 = none) (s : ByteArray) (k : Nat) (hk : k < s.size) (hs : s.size ≤ 1000000) {v : Value} (hv : quoV (quoF s s.size (k + 1) []) = v) (hok : okv 0 false v = true) (S : VH) (K : VCont) :
    Vcallee Tryz.prog X 31 [.string s, .int .i64 k] S K = K v [] S [] false := by
 subst hv
 exact zaag (rquo_p hX s k hk hs) rfl rfl hok
theorem za3l (h : RtkOff X) (hX : X 15 = none) (s : ByteArray) : Vp Tryz.prog X 15 [.string s] (splitV s) := by
 unfold Vp
 refine zaay hX Tryz.func15 rfl (by kernel_rfl) (by show 1 ≤ _; decide) ?_
 unfold splitV
 by_cases h200 : (200 : Int) < s.size
 ·rw [if_pos h200]
  simp -dsimp only [↓kpre, kpost, light, ret1, cellF, afill, setAll, simprocAttr, ↓zaa5, zaa6, h200]
 ·rw [if_neg h200]
  simp -dsimp only [↓kpre, kpost, light, ret1, cellF, afill, setAll, simprocAttr, ↓zaa5, zaa6, h200]
  refine zabw (fun m e S => ∃ (q : Nat) (l : List TK), q ≤ s.size ∧ s.size ≤ q + m ∧ splitF s m q l = splitF s s.size 0 [] ∧ l.length ≤ q ∧ eget e 0 = .string s ∧ eget e 6 = .int .i64 q ∧ ((l = [] ∧ eget e 5 = .slice none 0 0) ∨ (l ≠ [] ∧ ∃ t : Nat, eget e 5 = vo (t, none) 3 0 (l.map TK.v) ∧ (t = 41 ∨ t = 70 ∨ t = 100 ∨ t = 130 ∨ t = 149))) ∧ S = ⟨[], [], []⟩) s.size ?_ ?_
  ·refine ⟨0, [], by omega, by omega, rfl, by simp, ?_, ?_, .inl ⟨rfl, ?_⟩, rfl⟩ <;> simp only [zacb, zabt, ↓zab7, ↓zaak, ↓ae_tmp, ↓ae_int, ↓zabi, ↓zaat, ↓zabj, ↓zaas, ↓zabk, zaao, zaan, zaaw, ↓reduceIte, Nat.reduceEqDiff, reduceCtorEq, Bool.false_eq_true, Nat.reduceBEq, decide_true, decide_false, Bool.not_true, Bool.not_false, List.getElem?_toArray, List.getElem?_cons_zero, List.getElem?_cons_succ, Nat.zero_add, Nat.add_zero, Nat.reduceAdd, Nat.reduceMul, Nat.reduceSub, Nat.reduceLT, Nat.reduceLeDiff, and_true, true_and, and_self] <;> rfl
  ·rintro m e S ⟨q, l, hq, hm, hF, hl, e0, e6, e5, rfl⟩
   refine VWP_Vc _ _ _ _ ?_
   have hlm : (l.map TK.v).length = l.length := List.length_map ..
   by_cases hlt : q < s.size
   ·obtain ⟨m, rfl⟩ : ∃ n, m = n + 1 := ⟨m - 1, by omega⟩
    obtain ⟨c, hc⟩ := zae9 hlt
    have hqi : (q : Int) < s.size := by omega
    have h0 : (0 : Int) ≤ q := by omega
    have w2 : IntKind.i64.wrap ((q : Int) + 1) = (q : Int) + 1 := zaar (by omega) (by omega)
    by_cases hsp : c = 32
    ·have hsp' := (u8_sp c).2 hsp
     have hF' : splitF s (m + 1) q l = splitF s m (q + 1) l := by simp only [splitF, hc, hsp, if_true]
     rw [hF'] at hF
     simp -dsimp only [↓kpre, kpost, light, ret1, cellF, afill, setAll, simprocAttr, ↓zaa5, zaa6, e0, e6, hqi, h0, hc, hsp', w2]
     exact ⟨m, by omega, q + 1, l, by omega, by omega, hF, by omega, by rw [show (q : Int) + 1 = ((q + 1 : Nat) : Int) by omega], e5⟩
    ·have hsp' : ¬ ((c.toNat : Int) = 32) := fun h => hsp ((u8_sp c).1 h)
     have hF' : splitF s (m + 1) q l = match nextF s q with | some (t, e) => splitF s m e (l ++ [t]) | none => .error q := by simp only [splitF, hc, hsp, if_false]
     rw [hF'] at hF
     rcases e5 with ⟨hl0, e5⟩ | ⟨hl0, t, e5, ht⟩
     ·cases c1 : digB c.toNat with
      | true =>
       have hn : nextF s q = some (⟨1, q, s.extract q (runF digB s s.size q)⟩, runF digB s s.size q) := by simp [nextF, hc, c1]
       rw [hn] at hF
       have hle := zad7 hn
       simp -dsimp only [↓kpre, kpost, light, ret1, cellF, afill, setAll, simprocAttr, ↓zaa5, zaa6, e0, e6, e5, hqi, h0, hc, hsp', w2, ↓rdig_c h.dig, ↓rgrt_c h.grt, ↓rsml_c h.sml, c1]
       refine zabw (fun m' e S => ∃ q' : Nat, q ≤ q' ∧ q' ≤ s.size ∧ s.size ≤ q' + m' ∧ runF digB s m' q' = runF digB s s.size q ∧ eget e 0 = .string s ∧ eget e 6 = .int .i64 q' ∧ eget e 8 = .int .i64 q ∧ eget e 5 = .slice none 0 0 ∧ S = ⟨[], [], []⟩) s.size ?_ ?_
       ·refine ⟨q, by omega, by omega, by omega, rfl, ?_, ?_, ?_, ?_, rfl⟩ <;> first | (simp only [zacb, zabt, ↓zab7, ↓zaak, ↓ae_tmp, ↓ae_int, ↓zabi, ↓zaat, ↓zabj, ↓zaas, ↓zabk, zaao, zaan, zaaw, ↓reduceIte, Nat.reduceEqDiff, reduceCtorEq, Bool.false_eq_true, Nat.reduceBEq, decide_true, decide_false, Bool.not_true, Bool.not_false, List.getElem?_toArray, List.getElem?_cons_zero, List.getElem?_cons_succ, Nat.zero_add, Nat.add_zero, Nat.reduceAdd, Nat.reduceMul, Nat.reduceSub, Nat.reduceLT, Nat.reduceLeDiff, and_true, true_and, and_self, e0, e5, e6]; done) | (simp only [zacb, zabt, ↓zab7, ↓zaak, ↓ae_tmp, ↓ae_int, ↓zabi, ↓zaat, ↓zabj, ↓zaas, ↓zabk, zaao, zaan, zaaw, ↓reduceIte, Nat.reduceEqDiff, reduceCtorEq, Bool.false_eq_true, Nat.reduceBEq, decide_true, decide_false, Bool.not_true, Bool.not_false, List.getElem?_toArray, List.getElem?_cons_zero, List.getElem?_cons_succ, Nat.zero_add, Nat.add_zero, Nat.reduceAdd, Nat.reduceMul, Nat.reduceSub, Nat.reduceLT, Nat.reduceLeDiff, and_true, true_and, and_self, e0, e5, e6]; rfl)
       ·rintro m' e S ⟨q', g1, g2, g3, gF, e0, e6, e8, e5, rfl⟩
        refine VWP_Vc _ _ _ _ ?_
        have h0' : (0 : Int) ≤ q' := by omega
        have wq : IntKind.i64.wrap ((q' : Int) + 1) = (q' : Int) + 1 := zaar (by omega) (by omega)
        have a1 : (q : Int) ≤ q' := by omega
        have a2 : (q' : Int) ≤ s.size := by omega
        by_cases hl' : q' < s.size
        ·obtain ⟨m', rfl⟩ : ∃ n, m' = n + 1 := ⟨m' - 1, by omega⟩
         obtain ⟨d, hd⟩ := zae9 hl'
         have hqi' : (q' : Int) < s.size := by omega
         simp only [runF, hd] at gF
         cases d1 : digB d.toNat with
         | true =>
          rw [show digB d.toNat = true from d1, if_pos rfl] at gF
          simp -dsimp only [↓kpre, kpost, light, ret1, cellF, afill, setAll, simprocAttr, ↓zaa5, zaa6, e0, e6, e8, e5, hqi', h0', hd, ↓rdig_c h.dig, ↓rgrt_c h.grt, ↓rsml_c h.sml, d1, wq]
          exact ⟨m', by omega, q' + 1, by omega, by omega, by omega, gF, by rw [show (q' : Int) + 1 = ((q' + 1 : Nat) : Int) by omega]⟩
         | false =>
          rw [show digB d.toNat = false from d1, if_neg (by simp)] at gF
          simp -dsimp only [↓kpre, kpost, light, ret1, cellF, afill, setAll, simprocAttr, ↓zaa5, zaa6, e0, e6, e8, e5, hqi', h0', h0, hd, ↓rdig_c h.dig, ↓rgrt_c h.grt, ↓rsml_c h.sml, d1, a1, a2, Int.toNat_natCast]
          exact ⟨m, by omega, runF digB s s.size q, l ++ [⟨1, q, s.extract q (runF digB s s.size q)⟩], by omega, by omega, hF, by simp; omega, by rw [gF], .inr ⟨by simp, _, by rw [gF]; simp only [hl0, List.map_append, List.map_cons, List.map_nil, List.nil_append]; rfl, by first | exact ht | decide⟩⟩
        ·have hqi' : ¬ (q' : Int) < s.size := by omega
         rw [zaht _ _ _ _ (by omega)] at gF
         simp -dsimp only [↓kpre, kpost, light, ret1, cellF, afill, setAll, simprocAttr, ↓zaa5, zaa6, e0, e6, e8, e5, hqi', h0', h0, a1, a2, Int.toNat_natCast]
         exact ⟨m, by omega, runF digB s s.size q, l ++ [⟨1, q, s.extract q (runF digB s s.size q)⟩], by omega, by omega, hF, by simp; omega, by rw [gF], .inr ⟨by simp, _, by rw [gF]; simp only [hl0, List.map_append, List.map_cons, List.map_nil, List.nil_append]; rfl, by first | exact ht | decide⟩⟩
      | false =>
       cases c2 : grtB c.toNat with
       | true =>
        have hn : nextF s q = some (⟨3, q, s.extract q (runF gdB s s.size q)⟩, runF gdB s s.size q) := by simp [nextF, hc, c1, c2]
        rw [hn] at hF
        have hle := zad7 hn
        simp -dsimp only [↓kpre, kpost, light, ret1, cellF, afill, setAll, simprocAttr, ↓zaa5, zaa6, e0, e6, e5, hqi, h0, hc, hsp', w2, ↓rdig_c h.dig, ↓rgrt_c h.grt, ↓rsml_c h.sml, c1, c2]
        refine zabw (fun m' e S => ∃ q' : Nat, q ≤ q' ∧ q' ≤ s.size ∧ s.size ≤ q' + m' ∧ runF gdB s m' q' = runF gdB s s.size q ∧ eget e 0 = .string s ∧ eget e 6 = .int .i64 q' ∧ eget e 8 = .int .i64 q ∧ eget e 5 = .slice none 0 0 ∧ S = ⟨[], [], []⟩) s.size ?_ ?_
        ·refine ⟨q, by omega, by omega, by omega, rfl, ?_, ?_, ?_, ?_, rfl⟩ <;> first | (simp only [zacb, zabt, ↓zab7, ↓zaak, ↓ae_tmp, ↓ae_int, ↓zabi, ↓zaat, ↓zabj, ↓zaas, ↓zabk, zaao, zaan, zaaw, ↓reduceIte, Nat.reduceEqDiff, reduceCtorEq, Bool.false_eq_true, Nat.reduceBEq, decide_true, decide_false, Bool.not_true, Bool.not_false, List.getElem?_toArray, List.getElem?_cons_zero, List.getElem?_cons_succ, Nat.zero_add, Nat.add_zero, Nat.reduceAdd, Nat.reduceMul, Nat.reduceSub, Nat.reduceLT, Nat.reduceLeDiff, and_true, true_and, and_self, e0, e5, e6]; done) | (simp only [zacb, zabt, ↓zab7, ↓zaak, ↓ae_tmp, ↓ae_int, ↓zabi, ↓zaat, ↓zabj, ↓zaas, ↓zabk, zaao, zaan, zaaw, ↓reduceIte, Nat.reduceEqDiff, reduceCtorEq, Bool.false_eq_true, Nat.reduceBEq, decide_true, decide_false, Bool.not_true, Bool.not_false, List.getElem?_toArray, List.getElem?_cons_zero, List.getElem?_cons_succ, Nat.zero_add, Nat.add_zero, Nat.reduceAdd, Nat.reduceMul, Nat.reduceSub, Nat.reduceLT, Nat.reduceLeDiff, and_true, true_and, and_self, e0, e5, e6]; rfl)
        ·rintro m' e S ⟨q', g1, g2, g3, gF, e0, e6, e8, e5, rfl⟩
         refine VWP_Vc _ _ _ _ ?_
         have h0' : (0 : Int) ≤ q' := by omega
         have wq : IntKind.i64.wrap ((q' : Int) + 1) = (q' : Int) + 1 := zaar (by omega) (by omega)
         have a1 : (q : Int) ≤ q' := by omega
         have a2 : (q' : Int) ≤ s.size := by omega
         by_cases hl' : q' < s.size
         ·obtain ⟨m', rfl⟩ : ∃ n, m' = n + 1 := ⟨m' - 1, by omega⟩
          obtain ⟨d, hd⟩ := zae9 hl'
          have hqi' : (q' : Int) < s.size := by omega
          simp only [runF, hd] at gF
          cases d0 : grtB d.toNat with
          | true =>
           rw [show gdB d.toNat = true by simp [gdB, d0], if_pos rfl] at gF
           simp -dsimp only [↓kpre, kpost, light, ret1, cellF, afill, setAll, simprocAttr, ↓zaa5, zaa6, e0, e6, e8, e5, hqi', h0', hd, ↓rdig_c h.dig, ↓rgrt_c h.grt, ↓rsml_c h.sml, d0, wq]
           exact ⟨m', by omega, q' + 1, by omega, by omega, by omega, gF, by rw [show (q' : Int) + 1 = ((q' + 1 : Nat) : Int) by omega]⟩
          | false =>
           cases d1 : digB d.toNat with
           | true =>
            rw [show gdB d.toNat = true by simp [gdB, d1], if_pos rfl] at gF
            simp -dsimp only [↓kpre, kpost, light, ret1, cellF, afill, setAll, simprocAttr, ↓zaa5, zaa6, e0, e6, e8, e5, hqi', h0', hd, ↓rdig_c h.dig, ↓rgrt_c h.grt, ↓rsml_c h.sml, d0, d1, wq]
            exact ⟨m', by omega, q' + 1, by omega, by omega, by omega, gF, by rw [show (q' : Int) + 1 = ((q' + 1 : Nat) : Int) by omega]⟩
           | false =>
            rw [show gdB d.toNat = false by simp [gdB, d0, d1], if_neg (by simp)] at gF
            simp -dsimp only [↓kpre, kpost, light, ret1, cellF, afill, setAll, simprocAttr, ↓zaa5, zaa6, e0, e6, e8, e5, hqi', h0', h0, hd, ↓rdig_c h.dig, ↓rgrt_c h.grt, ↓rsml_c h.sml, d0, d1, a1, a2, Int.toNat_natCast]
            exact ⟨m, by omega, runF gdB s s.size q, l ++ [⟨3, q, s.extract q (runF gdB s s.size q)⟩], by omega, by omega, hF, by simp; omega, by rw [gF], .inr ⟨by simp, _, by rw [gF]; simp only [hl0, List.map_append, List.map_cons, List.map_nil, List.nil_append]; rfl, by first | exact ht | decide⟩⟩
         ·have hqi' : ¬ (q' : Int) < s.size := by omega
          rw [zaht _ _ _ _ (by omega)] at gF
          simp -dsimp only [↓kpre, kpost, light, ret1, cellF, afill, setAll, simprocAttr, ↓zaa5, zaa6, e0, e6, e8, e5, hqi', h0', h0, a1, a2, Int.toNat_natCast]
          exact ⟨m, by omega, runF gdB s s.size q, l ++ [⟨3, q, s.extract q (runF gdB s s.size q)⟩], by omega, by omega, hF, by simp; omega, by rw [gF], .inr ⟨by simp, _, by rw [gF]; simp only [hl0, List.map_append, List.map_cons, List.map_nil, List.nil_append]; rfl, by first | exact ht | decide⟩⟩
       | false =>
        cases c3 : smlB c.toNat with
        | true =>
         have hn : nextF s q = some (⟨4, q, s.extract q (runF sdB s s.size q)⟩, runF sdB s s.size q) := by simp [nextF, hc, c1, c2, c3]
         rw [hn] at hF
         have hle := zad7 hn
         simp -dsimp only [↓kpre, kpost, light, ret1, cellF, afill, setAll, simprocAttr, ↓zaa5, zaa6, e0, e6, e5, hqi, h0, hc, hsp', w2, ↓rdig_c h.dig, ↓rgrt_c h.grt, ↓rsml_c h.sml, c1, c2, c3]
         refine zabw (fun m' e S => ∃ q' : Nat, q ≤ q' ∧ q' ≤ s.size ∧ s.size ≤ q' + m' ∧ runF sdB s m' q' = runF sdB s s.size q ∧ eget e 0 = .string s ∧ eget e 6 = .int .i64 q' ∧ eget e 8 = .int .i64 q ∧ eget e 5 = .slice none 0 0 ∧ S = ⟨[], [], []⟩) s.size ?_ ?_
         ·refine ⟨q, by omega, by omega, by omega, rfl, ?_, ?_, ?_, ?_, rfl⟩ <;> first | (simp only [zacb, zabt, ↓zab7, ↓zaak, ↓ae_tmp, ↓ae_int, ↓zabi, ↓zaat, ↓zabj, ↓zaas, ↓zabk, zaao, zaan, zaaw, ↓reduceIte, Nat.reduceEqDiff, reduceCtorEq, Bool.false_eq_true, Nat.reduceBEq, decide_true, decide_false, Bool.not_true, Bool.not_false, List.getElem?_toArray, List.getElem?_cons_zero, List.getElem?_cons_succ, Nat.zero_add, Nat.add_zero, Nat.reduceAdd, Nat.reduceMul, Nat.reduceSub, Nat.reduceLT, Nat.reduceLeDiff, and_true, true_and, and_self, e0, e5, e6]; done) | (simp only [zacb, zabt, ↓zab7, ↓zaak, ↓ae_tmp, ↓ae_int, ↓zabi, ↓zaat, ↓zabj, ↓zaas, ↓zabk, zaao, zaan, zaaw, ↓reduceIte, Nat.reduceEqDiff, reduceCtorEq, Bool.false_eq_true, Nat.reduceBEq, decide_true, decide_false, Bool.not_true, Bool.not_false, List.getElem?_toArray, List.getElem?_cons_zero, List.getElem?_cons_succ, Nat.zero_add, Nat.add_zero, Nat.reduceAdd, Nat.reduceMul, Nat.reduceSub, Nat.reduceLT, Nat.reduceLeDiff, and_true, true_and, and_self, e0, e5, e6]; rfl)
         ·rintro m' e S ⟨q', g1, g2, g3, gF, e0, e6, e8, e5, rfl⟩
          refine VWP_Vc _ _ _ _ ?_
          have h0' : (0 : Int) ≤ q' := by omega
          have wq : IntKind.i64.wrap ((q' : Int) + 1) = (q' : Int) + 1 := zaar (by omega) (by omega)
          have a1 : (q : Int) ≤ q' := by omega
          have a2 : (q' : Int) ≤ s.size := by omega
          by_cases hl' : q' < s.size
          ·obtain ⟨m', rfl⟩ : ∃ n, m' = n + 1 := ⟨m' - 1, by omega⟩
           obtain ⟨d, hd⟩ := zae9 hl'
           have hqi' : (q' : Int) < s.size := by omega
           simp only [runF, hd] at gF
           cases d0 : smlB d.toNat with
           | true =>
            rw [show sdB d.toNat = true by simp [sdB, d0], if_pos rfl] at gF
            simp -dsimp only [↓kpre, kpost, light, ret1, cellF, afill, setAll, simprocAttr, ↓zaa5, zaa6, e0, e6, e8, e5, hqi', h0', hd, ↓rdig_c h.dig, ↓rgrt_c h.grt, ↓rsml_c h.sml, d0, wq]
            exact ⟨m', by omega, q' + 1, by omega, by omega, by omega, gF, by rw [show (q' : Int) + 1 = ((q' + 1 : Nat) : Int) by omega]⟩
           | false =>
            cases d1 : digB d.toNat with
            | true =>
             rw [show sdB d.toNat = true by simp [sdB, d1], if_pos rfl] at gF
             simp -dsimp only [↓kpre, kpost, light, ret1, cellF, afill, setAll, simprocAttr, ↓zaa5, zaa6, e0, e6, e8, e5, hqi', h0', hd, ↓rdig_c h.dig, ↓rgrt_c h.grt, ↓rsml_c h.sml, d0, d1, wq]
             exact ⟨m', by omega, q' + 1, by omega, by omega, by omega, gF, by rw [show (q' : Int) + 1 = ((q' + 1 : Nat) : Int) by omega]⟩
            | false =>
             rw [show sdB d.toNat = false by simp [sdB, d0, d1], if_neg (by simp)] at gF
             simp -dsimp only [↓kpre, kpost, light, ret1, cellF, afill, setAll, simprocAttr, ↓zaa5, zaa6, e0, e6, e8, e5, hqi', h0', h0, hd, ↓rdig_c h.dig, ↓rgrt_c h.grt, ↓rsml_c h.sml, d0, d1, a1, a2, Int.toNat_natCast]
             exact ⟨m, by omega, runF sdB s s.size q, l ++ [⟨4, q, s.extract q (runF sdB s s.size q)⟩], by omega, by omega, hF, by simp; omega, by rw [gF], .inr ⟨by simp, _, by rw [gF]; simp only [hl0, List.map_append, List.map_cons, List.map_nil, List.nil_append]; rfl, by first | exact ht | decide⟩⟩
          ·have hqi' : ¬ (q' : Int) < s.size := by omega
           rw [zaht _ _ _ _ (by omega)] at gF
           simp -dsimp only [↓kpre, kpost, light, ret1, cellF, afill, setAll, simprocAttr, ↓zaa5, zaa6, e0, e6, e8, e5, hqi', h0', h0, a1, a2, Int.toNat_natCast]
           exact ⟨m, by omega, runF sdB s s.size q, l ++ [⟨4, q, s.extract q (runF sdB s s.size q)⟩], by omega, by omega, hF, by simp; omega, by rw [gF], .inr ⟨by simp, _, by rw [gF]; simp only [hl0, List.map_append, List.map_cons, List.map_nil, List.nil_append]; rfl, by first | exact ht | decide⟩⟩
        | false =>
         by_cases c4 : c = 34
         ·have c4' := (u8_lit c).2 c4
          have g1 : digB 34 = false := rfl
          have g2 : grtB 34 = false := rfl
          have g3 : smlB 34 = false := rfl
          cases hQ : quoF s s.size (q + 1) [] with
          | none =>
           have hn : nextF s q = none := by simp [nextF, hc, c1, c2, c3, c4, g1, g2, g3, hQ]
           rw [hn] at hF
           have hcl := fun S K => rquo_c h.quo s q hlt (by omega) (v := .tuple ⟨[.string .empty, .int .i64 0, .bool false]⟩) (by rw [hQ]; rfl) rfl S K
           simp -dsimp only [↓kpre, kpost, light, ret1, cellF, afill, setAll, simprocAttr, ↓zaa5, zaa6, e0, e6, e5, hqi, h0, hc, hsp', w2, ↓rdig_c h.dig, ↓rgrt_c h.grt, ↓rsml_c h.sml, c1, c2, c3, c4', g1, g2, g3, ↓hcl]
           rw [← hF]
           rfl
          | some te =>
           obtain ⟨tt, e'⟩ := te
           have hn : nextF s q = some (⟨2, q, ⟨tt.toArray⟩⟩, e') := by simp [nextF, hc, c1, c2, c3, c4, g1, g2, g3, hQ]
           rw [hn] at hF
           have hle := zad7 hn
           have hcl := fun S K => rquo_c h.quo s q hlt (by omega) (v := .tuple ⟨[.string ⟨tt.toArray⟩, .int .i64 e', .bool true]⟩) (by rw [hQ]; rfl) rfl S K
           simp -dsimp only [↓kpre, kpost, light, ret1, cellF, afill, setAll, simprocAttr, ↓zaa5, zaa6, e0, e6, e5, hqi, h0, hc, hsp', w2, ↓rdig_c h.dig, ↓rgrt_c h.grt, ↓rsml_c h.sml, c1, c2, c3, c4', g1, g2, g3, ↓hcl]
           exact ⟨m, by omega, e', l ++ [⟨2, q, ⟨tt.toArray⟩⟩], by omega, by omega, hF, by simp; omega, rfl, .inr ⟨by simp, _, by simp only [hl0, List.map_append, List.map_cons, List.map_nil, List.nil_append]; rfl, by first | exact ht | decide⟩⟩
         ·have c4' : ¬ ((c.toNat : Int) = 34) := fun h => c4 ((u8_lit c).1 h)
          have hsg := fun S K => za0e h.sign s q hlt (by omega) S K
          by_cases hz : tsgF s q = 0
          ·have hn : nextF s q = none := by simp [nextF, hc, c1, c2, c3, c4, hz]
           rw [hn] at hF
           rw [hz] at hsg
           simp -dsimp only [↓kpre, kpost, light, ret1, cellF, afill, setAll, simprocAttr, ↓zaa5, zaa6, e0, e6, e5, hqi, h0, hc, hsp', w2, ↓rdig_c h.dig, ↓rgrt_c h.grt, ↓rsml_c h.sml, c1, c2, c3, c4', ↓hsg]
           rw [← hF]
           rfl
          ·have hn : nextF s q = some (⟨5, q, s.extract q (q + tsgF s q)⟩, q + tsgF s q) := by simp [nextF, hc, c1, c2, c3, c4, hz]
           rw [hn] at hF
           have hle := zad7 hn
           have hz' : ¬ ((tsgF s q : Nat) : Int) = 0 := by omega
           have ws : IntKind.i64.wrap ((q : Int) + (tsgF s q : Nat)) = ((q + tsgF s q : Nat) : Int) := by rw [zaar (by omega) (by omega)]; omega
           have a1 : (q : Int) ≤ ((q + tsgF s q : Nat) : Int) := by omega
           have a2 : ((q + tsgF s q : Nat) : Int) ≤ s.size := by omega
           simp -dsimp only [↓kpre, kpost, light, ret1, cellF, afill, setAll, simprocAttr, ↓zaa5, zaa6, e0, e6, e5, hqi, h0, hc, hsp', w2, ↓rdig_c h.dig, ↓rgrt_c h.grt, ↓rsml_c h.sml, c1, c2, c3, c4', ↓hsg, hz', ws, a1, a2, Int.toNat_natCast]
           exact ⟨m, by omega, q + tsgF s q, l ++ [⟨5, q, s.extract q (q + tsgF s q)⟩], by omega, by omega, hF, by simp; omega, rfl, .inr ⟨by simp, _, by simp only [hl0, List.map_append, List.map_cons, List.map_nil, List.nil_append]; rfl, by first | exact ht | decide⟩⟩
     ·have n1 : ¬ t = 40 := by omega
      have n2 : ¬ t = 69 := by omega
      have n3 : ¬ t = 99 := by omega
      have n4 : ¬ t = 129 := by omega
      have n5 : ¬ t = 148 := by omega
      cases c1 : digB c.toNat with
      | true =>
       have hn : nextF s q = some (⟨1, q, s.extract q (runF digB s s.size q)⟩, runF digB s s.size q) := by simp [nextF, hc, c1]
       rw [hn] at hF
       have hle := zad7 hn
       simp -dsimp only [↓kpre, kpost, light, ret1, cellF, afill, setAll, simprocAttr, ↓zaa5, zaa6, n1, n2, n3, n4, n5, e0, e6, e5, hqi, h0, hc, hsp', w2, ↓rdig_c h.dig, ↓rgrt_c h.grt, ↓rsml_c h.sml, c1]
       refine zabw (fun m' e S => ∃ q' : Nat, q ≤ q' ∧ q' ≤ s.size ∧ s.size ≤ q' + m' ∧ runF digB s m' q' = runF digB s s.size q ∧ eget e 0 = .string s ∧ eget e 6 = .int .i64 q' ∧ eget e 8 = .int .i64 q ∧ eget e 5 = vo (t, none) 3 0 (l.map TK.v) ∧ S = ⟨[], [], []⟩) s.size ?_ ?_
       ·refine ⟨q, by omega, by omega, by omega, rfl, ?_, ?_, ?_, ?_, rfl⟩ <;> first | (simp only [zacb, zabt, ↓zab7, ↓zaak, ↓ae_tmp, ↓ae_int, ↓zabi, ↓zaat, ↓zabj, ↓zaas, ↓zabk, zaao, zaan, zaaw, ↓reduceIte, Nat.reduceEqDiff, reduceCtorEq, Bool.false_eq_true, Nat.reduceBEq, decide_true, decide_false, Bool.not_true, Bool.not_false, List.getElem?_toArray, List.getElem?_cons_zero, List.getElem?_cons_succ, Nat.zero_add, Nat.add_zero, Nat.reduceAdd, Nat.reduceMul, Nat.reduceSub, Nat.reduceLT, Nat.reduceLeDiff, and_true, true_and, and_self, e0, e5, e6]; done) | (simp only [zacb, zabt, ↓zab7, ↓zaak, ↓ae_tmp, ↓ae_int, ↓zabi, ↓zaat, ↓zabj, ↓zaas, ↓zabk, zaao, zaan, zaaw, ↓reduceIte, Nat.reduceEqDiff, reduceCtorEq, Bool.false_eq_true, Nat.reduceBEq, decide_true, decide_false, Bool.not_true, Bool.not_false, List.getElem?_toArray, List.getElem?_cons_zero, List.getElem?_cons_succ, Nat.zero_add, Nat.add_zero, Nat.reduceAdd, Nat.reduceMul, Nat.reduceSub, Nat.reduceLT, Nat.reduceLeDiff, and_true, true_and, and_self, e0, e5, e6]; rfl)
       ·rintro m' e S ⟨q', g1, g2, g3, gF, e0, e6, e8, e5, rfl⟩
        refine VWP_Vc _ _ _ _ ?_
        have h0' : (0 : Int) ≤ q' := by omega
        have wq : IntKind.i64.wrap ((q' : Int) + 1) = (q' : Int) + 1 := zaar (by omega) (by omega)
        have a1 : (q : Int) ≤ q' := by omega
        have a2 : (q' : Int) ≤ s.size := by omega
        by_cases hl' : q' < s.size
        ·obtain ⟨m', rfl⟩ : ∃ n, m' = n + 1 := ⟨m' - 1, by omega⟩
         obtain ⟨d, hd⟩ := zae9 hl'
         have hqi' : (q' : Int) < s.size := by omega
         simp only [runF, hd] at gF
         cases d1 : digB d.toNat with
         | true =>
          rw [show digB d.toNat = true from d1, if_pos rfl] at gF
          simp -dsimp only [↓kpre, kpost, light, ret1, cellF, afill, setAll, simprocAttr, ↓zaa5, zaa6, n1, n2, n3, n4, n5, e0, e6, e8, e5, hqi', h0', hd, ↓rdig_c h.dig, ↓rgrt_c h.grt, ↓rsml_c h.sml, d1, wq]
          exact ⟨m', by omega, q' + 1, by omega, by omega, by omega, gF, by rw [show (q' : Int) + 1 = ((q' + 1 : Nat) : Int) by omega]⟩
         | false =>
          rw [show digB d.toNat = false from d1, if_neg (by simp)] at gF
          simp -dsimp only [↓kpre, kpost, light, ret1, cellF, afill, setAll, simprocAttr, ↓zaa5, zaa6, n1, n2, n3, n4, n5, e0, e6, e8, e5, hqi', h0', h0, hd, ↓rdig_c h.dig, ↓rgrt_c h.grt, ↓rsml_c h.sml, d1, a1, a2, Int.toNat_natCast]
          exact ⟨⟨by rw [hlm]; omega, by rw [hlm]; omega⟩, m, by omega, runF digB s s.size q, l ++ [⟨1, q, s.extract q (runF digB s s.size q)⟩], by omega, by omega, hF, by simp; omega, by rw [gF], .inr ⟨by simp, _, by rw [gF]; simp only [hl0, List.map_append, List.map_cons, List.map_nil, List.nil_append]; rfl, by first | exact ht | decide⟩⟩
        ·have hqi' : ¬ (q' : Int) < s.size := by omega
         rw [zaht _ _ _ _ (by omega)] at gF
         simp -dsimp only [↓kpre, kpost, light, ret1, cellF, afill, setAll, simprocAttr, ↓zaa5, zaa6, n1, n2, n3, n4, n5, e0, e6, e8, e5, hqi', h0', h0, a1, a2, Int.toNat_natCast]
         exact ⟨⟨by rw [hlm]; omega, by rw [hlm]; omega⟩, m, by omega, runF digB s s.size q, l ++ [⟨1, q, s.extract q (runF digB s s.size q)⟩], by omega, by omega, hF, by simp; omega, by rw [gF], .inr ⟨by simp, _, by rw [gF]; simp only [hl0, List.map_append, List.map_cons, List.map_nil, List.nil_append]; rfl, by first | exact ht | decide⟩⟩
      | false =>
       cases c2 : grtB c.toNat with
       | true =>
        have hn : nextF s q = some (⟨3, q, s.extract q (runF gdB s s.size q)⟩, runF gdB s s.size q) := by simp [nextF, hc, c1, c2]
        rw [hn] at hF
        have hle := zad7 hn
        simp -dsimp only [↓kpre, kpost, light, ret1, cellF, afill, setAll, simprocAttr, ↓zaa5, zaa6, n1, n2, n3, n4, n5, e0, e6, e5, hqi, h0, hc, hsp', w2, ↓rdig_c h.dig, ↓rgrt_c h.grt, ↓rsml_c h.sml, c1, c2]
        refine zabw (fun m' e S => ∃ q' : Nat, q ≤ q' ∧ q' ≤ s.size ∧ s.size ≤ q' + m' ∧ runF gdB s m' q' = runF gdB s s.size q ∧ eget e 0 = .string s ∧ eget e 6 = .int .i64 q' ∧ eget e 8 = .int .i64 q ∧ eget e 5 = vo (t, none) 3 0 (l.map TK.v) ∧ S = ⟨[], [], []⟩) s.size ?_ ?_
        ·refine ⟨q, by omega, by omega, by omega, rfl, ?_, ?_, ?_, ?_, rfl⟩ <;> first | (simp only [zacb, zabt, ↓zab7, ↓zaak, ↓ae_tmp, ↓ae_int, ↓zabi, ↓zaat, ↓zabj, ↓zaas, ↓zabk, zaao, zaan, zaaw, ↓reduceIte, Nat.reduceEqDiff, reduceCtorEq, Bool.false_eq_true, Nat.reduceBEq, decide_true, decide_false, Bool.not_true, Bool.not_false, List.getElem?_toArray, List.getElem?_cons_zero, List.getElem?_cons_succ, Nat.zero_add, Nat.add_zero, Nat.reduceAdd, Nat.reduceMul, Nat.reduceSub, Nat.reduceLT, Nat.reduceLeDiff, and_true, true_and, and_self, e0, e5, e6]; done) | (simp only [zacb, zabt, ↓zab7, ↓zaak, ↓ae_tmp, ↓ae_int, ↓zabi, ↓zaat, ↓zabj, ↓zaas, ↓zabk, zaao, zaan, zaaw, ↓reduceIte, Nat.reduceEqDiff, reduceCtorEq, Bool.false_eq_true, Nat.reduceBEq, decide_true, decide_false, Bool.not_true, Bool.not_false, List.getElem?_toArray, List.getElem?_cons_zero, List.getElem?_cons_succ, Nat.zero_add, Nat.add_zero, Nat.reduceAdd, Nat.reduceMul, Nat.reduceSub, Nat.reduceLT, Nat.reduceLeDiff, and_true, true_and, and_self, e0, e5, e6]; rfl)
        ·rintro m' e S ⟨q', g1, g2, g3, gF, e0, e6, e8, e5, rfl⟩
         refine VWP_Vc _ _ _ _ ?_
         have h0' : (0 : Int) ≤ q' := by omega
         have wq : IntKind.i64.wrap ((q' : Int) + 1) = (q' : Int) + 1 := zaar (by omega) (by omega)
         have a1 : (q : Int) ≤ q' := by omega
         have a2 : (q' : Int) ≤ s.size := by omega
         by_cases hl' : q' < s.size
         ·obtain ⟨m', rfl⟩ : ∃ n, m' = n + 1 := ⟨m' - 1, by omega⟩
          obtain ⟨d, hd⟩ := zae9 hl'
          have hqi' : (q' : Int) < s.size := by omega
          simp only [runF, hd] at gF
          cases d0 : grtB d.toNat with
          | true =>
           rw [show gdB d.toNat = true by simp [gdB, d0], if_pos rfl] at gF
           simp -dsimp only [↓kpre, kpost, light, ret1, cellF, afill, setAll, simprocAttr, ↓zaa5, zaa6, n1, n2, n3, n4, n5, e0, e6, e8, e5, hqi', h0', hd, ↓rdig_c h.dig, ↓rgrt_c h.grt, ↓rsml_c h.sml, d0, wq]
           exact ⟨m', by omega, q' + 1, by omega, by omega, by omega, gF, by rw [show (q' : Int) + 1 = ((q' + 1 : Nat) : Int) by omega]⟩
          | false =>
           cases d1 : digB d.toNat with
           | true =>
            rw [show gdB d.toNat = true by simp [gdB, d1], if_pos rfl] at gF
            simp -dsimp only [↓kpre, kpost, light, ret1, cellF, afill, setAll, simprocAttr, ↓zaa5, zaa6, n1, n2, n3, n4, n5, e0, e6, e8, e5, hqi', h0', hd, ↓rdig_c h.dig, ↓rgrt_c h.grt, ↓rsml_c h.sml, d0, d1, wq]
            exact ⟨m', by omega, q' + 1, by omega, by omega, by omega, gF, by rw [show (q' : Int) + 1 = ((q' + 1 : Nat) : Int) by omega]⟩
           | false =>
            rw [show gdB d.toNat = false by simp [gdB, d0, d1], if_neg (by simp)] at gF
            simp -dsimp only [↓kpre, kpost, light, ret1, cellF, afill, setAll, simprocAttr, ↓zaa5, zaa6, n1, n2, n3, n4, n5, e0, e6, e8, e5, hqi', h0', h0, hd, ↓rdig_c h.dig, ↓rgrt_c h.grt, ↓rsml_c h.sml, d0, d1, a1, a2, Int.toNat_natCast]
            exact ⟨⟨by rw [hlm]; omega, by rw [hlm]; omega⟩, m, by omega, runF gdB s s.size q, l ++ [⟨3, q, s.extract q (runF gdB s s.size q)⟩], by omega, by omega, hF, by simp; omega, by rw [gF], .inr ⟨by simp, _, by rw [gF]; simp only [hl0, List.map_append, List.map_cons, List.map_nil, List.nil_append]; rfl, by first | exact ht | decide⟩⟩
         ·have hqi' : ¬ (q' : Int) < s.size := by omega
          rw [zaht _ _ _ _ (by omega)] at gF
          simp -dsimp only [↓kpre, kpost, light, ret1, cellF, afill, setAll, simprocAttr, ↓zaa5, zaa6, n1, n2, n3, n4, n5, e0, e6, e8, e5, hqi', h0', h0, a1, a2, Int.toNat_natCast]
          exact ⟨⟨by rw [hlm]; omega, by rw [hlm]; omega⟩, m, by omega, runF gdB s s.size q, l ++ [⟨3, q, s.extract q (runF gdB s s.size q)⟩], by omega, by omega, hF, by simp; omega, by rw [gF], .inr ⟨by simp, _, by rw [gF]; simp only [hl0, List.map_append, List.map_cons, List.map_nil, List.nil_append]; rfl, by first | exact ht | decide⟩⟩
       | false =>
        cases c3 : smlB c.toNat with
        | true =>
         have hn : nextF s q = some (⟨4, q, s.extract q (runF sdB s s.size q)⟩, runF sdB s s.size q) := by simp [nextF, hc, c1, c2, c3]
         rw [hn] at hF
         have hle := zad7 hn
         simp -dsimp only [↓kpre, kpost, light, ret1, cellF, afill, setAll, simprocAttr, ↓zaa5, zaa6, n1, n2, n3, n4, n5, e0, e6, e5, hqi, h0, hc, hsp', w2, ↓rdig_c h.dig, ↓rgrt_c h.grt, ↓rsml_c h.sml, c1, c2, c3]
         refine zabw (fun m' e S => ∃ q' : Nat, q ≤ q' ∧ q' ≤ s.size ∧ s.size ≤ q' + m' ∧ runF sdB s m' q' = runF sdB s s.size q ∧ eget e 0 = .string s ∧ eget e 6 = .int .i64 q' ∧ eget e 8 = .int .i64 q ∧ eget e 5 = vo (t, none) 3 0 (l.map TK.v) ∧ S = ⟨[], [], []⟩) s.size ?_ ?_
         ·refine ⟨q, by omega, by omega, by omega, rfl, ?_, ?_, ?_, ?_, rfl⟩ <;> first | (simp only [zacb, zabt, ↓zab7, ↓zaak, ↓ae_tmp, ↓ae_int, ↓zabi, ↓zaat, ↓zabj, ↓zaas, ↓zabk, zaao, zaan, zaaw, ↓reduceIte, Nat.reduceEqDiff, reduceCtorEq, Bool.false_eq_true, Nat.reduceBEq, decide_true, decide_false, Bool.not_true, Bool.not_false, List.getElem?_toArray, List.getElem?_cons_zero, List.getElem?_cons_succ, Nat.zero_add, Nat.add_zero, Nat.reduceAdd, Nat.reduceMul, Nat.reduceSub, Nat.reduceLT, Nat.reduceLeDiff, and_true, true_and, and_self, e0, e5, e6]; done) | (simp only [zacb, zabt, ↓zab7, ↓zaak, ↓ae_tmp, ↓ae_int, ↓zabi, ↓zaat, ↓zabj, ↓zaas, ↓zabk, zaao, zaan, zaaw, ↓reduceIte, Nat.reduceEqDiff, reduceCtorEq, Bool.false_eq_true, Nat.reduceBEq, decide_true, decide_false, Bool.not_true, Bool.not_false, List.getElem?_toArray, List.getElem?_cons_zero, List.getElem?_cons_succ, Nat.zero_add, Nat.add_zero, Nat.reduceAdd, Nat.reduceMul, Nat.reduceSub, Nat.reduceLT, Nat.reduceLeDiff, and_true, true_and, and_self, e0, e5, e6]; rfl)
         ·rintro m' e S ⟨q', g1, g2, g3, gF, e0, e6, e8, e5, rfl⟩
          refine VWP_Vc _ _ _ _ ?_
          have h0' : (0 : Int) ≤ q' := by omega
          have wq : IntKind.i64.wrap ((q' : Int) + 1) = (q' : Int) + 1 := zaar (by omega) (by omega)
          have a1 : (q : Int) ≤ q' := by omega
          have a2 : (q' : Int) ≤ s.size := by omega
          by_cases hl' : q' < s.size
          ·obtain ⟨m', rfl⟩ : ∃ n, m' = n + 1 := ⟨m' - 1, by omega⟩
           obtain ⟨d, hd⟩ := zae9 hl'
           have hqi' : (q' : Int) < s.size := by omega
           simp only [runF, hd] at gF
           cases d0 : smlB d.toNat with
           | true =>
            rw [show sdB d.toNat = true by simp [sdB, d0], if_pos rfl] at gF
            simp -dsimp only [↓kpre, kpost, light, ret1, cellF, afill, setAll, simprocAttr, ↓zaa5, zaa6, n1, n2, n3, n4, n5, e0, e6, e8, e5, hqi', h0', hd, ↓rdig_c h.dig, ↓rgrt_c h.grt, ↓rsml_c h.sml, d0, wq]
            exact ⟨m', by omega, q' + 1, by omega, by omega, by omega, gF, by rw [show (q' : Int) + 1 = ((q' + 1 : Nat) : Int) by omega]⟩
           | false =>
            cases d1 : digB d.toNat with
            | true =>
             rw [show sdB d.toNat = true by simp [sdB, d1], if_pos rfl] at gF
             simp -dsimp only [↓kpre, kpost, light, ret1, cellF, afill, setAll, simprocAttr, ↓zaa5, zaa6, n1, n2, n3, n4, n5, e0, e6, e8, e5, hqi', h0', hd, ↓rdig_c h.dig, ↓rgrt_c h.grt, ↓rsml_c h.sml, d0, d1, wq]
             exact ⟨m', by omega, q' + 1, by omega, by omega, by omega, gF, by rw [show (q' : Int) + 1 = ((q' + 1 : Nat) : Int) by omega]⟩
            | false =>
             rw [show sdB d.toNat = false by simp [sdB, d0, d1], if_neg (by simp)] at gF
             simp -dsimp only [↓kpre, kpost, light, ret1, cellF, afill, setAll, simprocAttr, ↓zaa5, zaa6, n1, n2, n3, n4, n5, e0, e6, e8, e5, hqi', h0', h0, hd, ↓rdig_c h.dig, ↓rgrt_c h.grt, ↓rsml_c h.sml, d0, d1, a1, a2, Int.toNat_natCast]
             exact ⟨⟨by rw [hlm]; omega, by rw [hlm]; omega⟩, m, by omega, runF sdB s s.size q, l ++ [⟨4, q, s.extract q (runF sdB s s.size q)⟩], by omega, by omega, hF, by simp; omega, by rw [gF], .inr ⟨by simp, _, by rw [gF]; simp only [hl0, List.map_append, List.map_cons, List.map_nil, List.nil_append]; rfl, by first | exact ht | decide⟩⟩
          ·have hqi' : ¬ (q' : Int) < s.size := by omega
           rw [zaht _ _ _ _ (by omega)] at gF
           simp -dsimp only [↓kpre, kpost, light, ret1, cellF, afill, setAll, simprocAttr, ↓zaa5, zaa6, n1, n2, n3, n4, n5, e0, e6, e8, e5, hqi', h0', h0, a1, a2, Int.toNat_natCast]
           exact ⟨⟨by rw [hlm]; omega, by rw [hlm]; omega⟩, m, by omega, runF sdB s s.size q, l ++ [⟨4, q, s.extract q (runF sdB s s.size q)⟩], by omega, by omega, hF, by simp; omega, by rw [gF], .inr ⟨by simp, _, by rw [gF]; simp only [hl0, List.map_append, List.map_cons, List.map_nil, List.nil_append]; rfl, by first | exact ht | decide⟩⟩
        | false =>
         by_cases c4 : c = 34
         ·have c4' := (u8_lit c).2 c4
          have g1 : digB 34 = false := rfl
          have g2 : grtB 34 = false := rfl
          have g3 : smlB 34 = false := rfl
          cases hQ : quoF s s.size (q + 1) [] with
          | none =>
           have hn : nextF s q = none := by simp [nextF, hc, c1, c2, c3, c4, g1, g2, g3, hQ]
           rw [hn] at hF
           have hcl := fun S K => rquo_c h.quo s q hlt (by omega) (v := .tuple ⟨[.string .empty, .int .i64 0, .bool false]⟩) (by rw [hQ]; rfl) rfl S K
           simp -dsimp only [↓kpre, kpost, light, ret1, cellF, afill, setAll, simprocAttr, ↓zaa5, zaa6, n1, n2, n3, n4, n5, e0, e6, e5, hqi, h0, hc, hsp', w2, ↓rdig_c h.dig, ↓rgrt_c h.grt, ↓rsml_c h.sml, c1, c2, c3, c4', g1, g2, g3, ↓hcl]
           rw [← hF]
           rfl
          | some te =>
           obtain ⟨tt, e'⟩ := te
           have hn : nextF s q = some (⟨2, q, ⟨tt.toArray⟩⟩, e') := by simp [nextF, hc, c1, c2, c3, c4, g1, g2, g3, hQ]
           rw [hn] at hF
           have hle := zad7 hn
           have hcl := fun S K => rquo_c h.quo s q hlt (by omega) (v := .tuple ⟨[.string ⟨tt.toArray⟩, .int .i64 e', .bool true]⟩) (by rw [hQ]; rfl) rfl S K
           simp -dsimp only [↓kpre, kpost, light, ret1, cellF, afill, setAll, simprocAttr, ↓zaa5, zaa6, n1, n2, n3, n4, n5, e0, e6, e5, hqi, h0, hc, hsp', w2, ↓rdig_c h.dig, ↓rgrt_c h.grt, ↓rsml_c h.sml, c1, c2, c3, c4', g1, g2, g3, ↓hcl]
           exact ⟨⟨by rw [hlm]; omega, by rw [hlm]; omega⟩, m, by omega, e', l ++ [⟨2, q, ⟨tt.toArray⟩⟩], by omega, by omega, hF, by simp; omega, rfl, .inr ⟨by simp, _, by simp only [hl0, List.map_append, List.map_cons, List.map_nil, List.nil_append]; rfl, by first | exact ht | decide⟩⟩
         ·have c4' : ¬ ((c.toNat : Int) = 34) := fun h => c4 ((u8_lit c).1 h)
          have hsg := fun S K => za0e h.sign s q hlt (by omega) S K
          by_cases hz : tsgF s q = 0
          ·have hn : nextF s q = none := by simp [nextF, hc, c1, c2, c3, c4, hz]
           rw [hn] at hF
           rw [hz] at hsg
           simp -dsimp only [↓kpre, kpost, light, ret1, cellF, afill, setAll, simprocAttr, ↓zaa5, zaa6, n1, n2, n3, n4, n5, e0, e6, e5, hqi, h0, hc, hsp', w2, ↓rdig_c h.dig, ↓rgrt_c h.grt, ↓rsml_c h.sml, c1, c2, c3, c4', ↓hsg]
           rw [← hF]
           rfl
          ·have hn : nextF s q = some (⟨5, q, s.extract q (q + tsgF s q)⟩, q + tsgF s q) := by simp [nextF, hc, c1, c2, c3, c4, hz]
           rw [hn] at hF
           have hle := zad7 hn
           have hz' : ¬ ((tsgF s q : Nat) : Int) = 0 := by omega
           have ws : IntKind.i64.wrap ((q : Int) + (tsgF s q : Nat)) = ((q + tsgF s q : Nat) : Int) := by rw [zaar (by omega) (by omega)]; omega
           have a1 : (q : Int) ≤ ((q + tsgF s q : Nat) : Int) := by omega
           have a2 : ((q + tsgF s q : Nat) : Int) ≤ s.size := by omega
           simp -dsimp only [↓kpre, kpost, light, ret1, cellF, afill, setAll, simprocAttr, ↓zaa5, zaa6, n1, n2, n3, n4, n5, e0, e6, e5, hqi, h0, hc, hsp', w2, ↓rdig_c h.dig, ↓rgrt_c h.grt, ↓rsml_c h.sml, c1, c2, c3, c4', ↓hsg, hz', ws, a1, a2, Int.toNat_natCast]
           exact ⟨⟨by rw [hlm]; omega, by rw [hlm]; omega⟩, m, by omega, q + tsgF s q, l ++ [⟨5, q, s.extract q (q + tsgF s q)⟩], by omega, by omega, hF, by simp; omega, rfl, .inr ⟨by simp, _, by simp only [hl0, List.map_append, List.map_cons, List.map_nil, List.nil_append]; rfl, by first | exact ht | decide⟩⟩
   ·have hqi : ¬ (q : Int) < s.size := by omega
    rw [zan6 (by omega)] at hF
    simp -dsimp only [↓kpre, kpost, light, ret1, cellF, afill, setAll, simprocAttr, ↓zaa5, zaa6, e0, e6, hqi]
    rw [← hF]
    rcases e5 with ⟨rfl, e5⟩ | ⟨hl0, t, e5, ht⟩
    ·simp -dsimp only [↓kpre, kpost, light, ret1, cellF, afill, setAll, simprocAttr, ↓zaa5, zaa6, e5]
     rfl
    ·simp -dsimp only [↓kpre, kpost, light, ret1, cellF, afill, setAll, simprocAttr, ↓zaa5, zaa6, e5]
     simp [splitR, sl, hl0]
end
end Go.Proofs.YtliemjbafgnnbaaGreatDoor.Abs
/- The law TokenTells: its text at value level. -/
set_option maxRecDepth 8000
namespace Go.Proofs.YtliemjbafgnnbaaGreatDoor.Abs
open Go
attribute [local irreducible] Hold VReg Vf Vc VWP With VStp Vcallee Vp VE
section
variable {X : VOuter}
theorem zavy (h : TkOff X) (hX : X 10 = none) (s : ByteArray) {v : Value} (hv : splitV s = v) (hok : okv 0 false v = true) (S : VH) (K : VCont) : Vcallee Tryz.prog X 10 [.string s] S K = K v [] S [] false := by
 subst hv
 exact zaag (za6c h hX s) rfl rfl hok
theorem zapd (h : RtkOff X) (hX : X 15 = none) (s : ByteArray) {v : Value} (hv : splitV s = v) (hok : okv 0 false v = true) (S : VH) (K : VCont) : Vcallee Tryz.prog X 15 [.string s] S K = K v [] S [] false := by
 subst hv
 exact zaag (za3l h hX s) rfl rfl hok
end
end Go.Proofs.YtliemjbafgnnbaaGreatDoor.Abs
