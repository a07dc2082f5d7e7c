/- Tokens: letters, digits, runs and signs; the program and the reference. -/
import Derived.Test.YtliemjbafgnnbaaDoorMW7
import Derived.Test.YtliemjbafgnnbaaDoorPW29
import Derived.Test.YtliemjbafgnnbaaDoorPVTF
import Derived.Lib.IndexLaws
import Derived.Test.YtliemjbafgnnbaaDoorPA1
set_option maxHeartbeats 0
set_option linter.defProp false
set_option linter.unusedSimpArgs false
set_option linter.unusedVariables false
set_option maxRecDepth 4000
namespace Go.Proofs.YtliemjbafgnnbaaDoor.Abs
open Go
attribute [local irreducible] Hold VReg Vf Vc VWP With VStp Vcallee Vp VE
def digB (n : Int) : Bool := decide (48 ≤ n) && decide (n ≤ 57)
def grtB (n : Int) : Bool := decide (65 ≤ n) && decide (n ≤ 90)
def smlB (n : Int) : Bool := decide (97 ≤ n) && decide (n ≤ 122)
def gdB (n : Int) : Bool := grtB n || digB n
def sdB (n : Int) : Bool := smlB n || digB n
theorem zaj9 {s : ByteArray} {i : Nat} (h : i < s.size) : ∃ b, s[i]? = some b := ⟨s[i], getElem?_pos s i h⟩
theorem tba_at (s : ByteArray) (i : Nat) : s[i]? = s.data.toList[i]? := by
 rw [Array.getElem?_toList]
 rcases Nat.lt_or_ge i s.size with h | h
 ·rw [getElem?_pos s i h, getElem?_pos s.data i h]; rfl
 ·rw [getElem?_neg s i (by omega), getElem?_neg s.data i (by exact Nat.not_lt.2 h)]
section
variable {X : VOuter}
theorem dig_p (hX : X 19 = none) (n : Int) : Vp Tryd.prog X 19 [.int .u8 n] (.bool (digB n)) := by
 unfold Vp
 refine zaaw hX Tryd.func19 rfl (by kernel_rfl) (by show 1 ≤ _; decide) ?_
 by_cases h1 : 48 ≤ n <;> by_cases h2 : n ≤ 57 <;> simp -dsimp only [↓kpre, kpost, light, ret1, cellF, afill, setAll, simprocAttr, Tryd.results19, h1, h2] <;> simp [digB, h1, h2]
theorem grt_p (hX : X 21 = none) (n : Int) : Vp Tryd.prog X 21 [.int .u8 n] (.bool (grtB n)) := by
 unfold Vp
 refine zaaw hX Tryd.func21 rfl (by kernel_rfl) (by show 1 ≤ _; decide) ?_
 by_cases h1 : 65 ≤ n <;> by_cases h2 : n ≤ 90 <;> simp -dsimp only [↓kpre, kpost, light, ret1, cellF, afill, setAll, simprocAttr, Tryd.results21, h1, h2] <;> simp [grtB, h1, h2]
theorem sml_p (hX : X 23 = none) (n : Int) : Vp Tryd.prog X 23 [.int .u8 n] (.bool (smlB n)) := by
 unfold Vp
 refine zaaw hX Tryd.func23 rfl (by kernel_rfl) (by show 1 ≤ _; decide) ?_
 by_cases h1 : 97 ≤ n <;> by_cases h2 : n ≤ 122 <;> simp -dsimp only [↓kpre, kpost, light, ret1, cellF, afill, setAll, simprocAttr, Tryd.results23, h1, h2] <;> simp [smlB, h1, h2]
theorem dig_c (hX : X 19 = none) (n : Int) (S : VH) (K : VCont) : Vcallee Tryd.prog X 19 [.int .u8 n] S K = K (.bool (digB n)) [] S [] false := zaac (dig_p hX n) rfl rfl rfl
theorem grt_c (hX : X 21 = none) (n : Int) (S : VH) (K : VCont) : Vcallee Tryd.prog X 21 [.int .u8 n] S K = K (.bool (grtB n)) [] S [] false := zaac (grt_p hX n) rfl rfl rfl
theorem sml_c (hX : X 23 = none) (n : Int) (S : VH) (K : VCont) : Vcallee Tryd.prog X 23 [.int .u8 n] S K = K (.bool (smlB n)) [] S [] false := zaac (sml_p hX n) rfl rfl rfl
theorem gd_c (hX : X 22 = none) (hd : X 19 = none) (hg : X 21 = none) (n : Int) (S : VH) (K : VCont) : Vcallee Tryd.prog X 22 [.int .u8 n] S K = K (.bool (gdB n)) [] S [] false := by
 refine zaac ?_ rfl rfl rfl
 unfold Vp
 refine zaaw hX Tryd.func22 rfl (by kernel_rfl) (by show 1 ≤ _; decide) ?_
 cases h1 : grtB n <;> cases h2 : digB n <;> simp -dsimp only [↓kpre, kpost, light, ret1, cellF, afill, setAll, simprocAttr, ↓vfk21, ↓vfk19, Tryd.results22, ↓dig_c hd, ↓grt_c hg, h1, h2] <;> simp [gdB, h1, h2]
theorem sd_c (hX : X 24 = none) (hd : X 19 = none) (hg : X 23 = none) (n : Int) (S : VH) (K : VCont) : Vcallee Tryd.prog X 24 [.int .u8 n] S K = K (.bool (sdB n)) [] S [] false := by
 refine zaac ?_ rfl rfl rfl
 unfold Vp
 refine zaaw hX Tryd.func24 rfl (by kernel_rfl) (by show 1 ≤ _; decide) ?_
 cases h1 : smlB n <;> cases h2 : digB n <;> simp -dsimp only [↓kpre, kpost, light, ret1, cellF, afill, setAll, simprocAttr, ↓vfk23, ↓vfk19, Tryd.results24, ↓dig_c hd, ↓sml_c hg, h1, h2] <;> simp [sdB, h1, h2]
def runF (p : Int → Bool) (s : ByteArray) : Nat → Nat → Nat
 | 0, k => k
 | n + 1, k => match s[k]? with
  | some b => if p b.toNat then runF p s n (k + 1) else k
  | none => k
theorem zame (p : Int → Bool) (s : ByteArray) : ∀ n k, k ≤ s.size → k ≤ runF p s n k ∧ runF p s n k ≤ s.size
 | 0, k, h => ⟨Nat.le_refl _, h⟩
 | n + 1, k, h => by
  unfold runF
  cases hb : s[k]? with
  | none => exact ⟨Nat.le_refl _, h⟩
  | some b =>
   simp only
   split
   ·have hk : k < s.size := by
     rcases Nat.lt_or_ge k s.size with h | h
     ·exact h
     ·rw [getElem?_neg s k (by omega)] at hb; cases hb
    have := zame p s n (k + 1) hk
    exact ⟨by omega, this.2⟩
   ·exact ⟨Nat.le_refl _, h⟩
theorem za0o (p : Int → Bool) (s : ByteArray) (n k : Nat) (h : s.size ≤ k) : runF p s n k = k := by
 cases n with
 | zero => rfl
 | succ n =>
  unfold runF
  rw [getElem?_neg s k (by omega)]
theorem run_p (hX : X 20 = none) (g : FuncId) (p : Int → Bool) (hg : funcOk Tryd.prog g = true) (hp : ∀ n S K, Vcallee Tryd.prog X g [.int .u8 n] S K = K (.bool (p n)) [] S [] false) (s : ByteArray) (k : Nat) (hk : k ≤ s.size) (hs : s.size ≤ 1000000) :
    Vp Tryd.prog X 20 [.string s, .int .i64 k, .func (.func g) #[] #[]] (.int .i64 (runF p s s.size k)) := by
 unfold Vp
 refine zaaw hX Tryd.func20 rfl (by kernel_rfl) (by show 3 ≤ _; decide) ?_
 simp -dsimp only [↓kpre, kpost, light, ret1, cellF, afill, setAll, simprocAttr, ix9, vlr9, Tryd.results20]
 refine zagn (fun m e S => ∃ q : Nat, q ≤ s.size ∧ s.size ≤ q + m ∧ runF p s m q = runF p s s.size k ∧ eget e 0 = .string s ∧ eget e 1 = .int .i64 q ∧ eget e 2 = .func (.func g) #[] #[] ∧ S = ⟨[], [], []⟩) s.size ?_ ?_
 ·refine ⟨k, hk, by omega, rfl, ?_, ?_, ?_, rfl⟩ <;> simp only [zakr, zah7, ↓zain, ↓zaah, ↓ae_tmp, ↓ae_int, ↓zacy, ↓zaa1, ↓zacz, ↓zaa0, ↓zac0, zaaq, zaap, zaba, ↓reduceIte, Nat.reduceEqDiff, reduceCtorEq, Bool.false_eq_true, Nat.reduceBEq, decide_true, decide_false, Bool.not_true, Bool.not_false, List.getElem?_toArray, List.getElem?_cons_zero, List.getElem?_cons_succ, Nat.zero_add, Nat.add_zero, Nat.reduceAdd, Nat.reduceMul, Nat.reduceSub, Nat.reduceLT, Nat.reduceLeDiff, and_true, true_and, and_self] <;> rfl
 ·rintro m e S ⟨q, hq, hm, hF, e0, e1, e2, rfl⟩
  refine VWP_Vc _ _ _ _ ?_
  by_cases hlt : q < s.size
  ·obtain ⟨m, rfl⟩ : ∃ n, m = n + 1 := ⟨m - 1, by omega⟩
   obtain ⟨b, hb⟩ := zaj9 hlt
   have hqi : (q : Int) < s.size := by omega
   have h0 : (0 : Int) ≤ q := by omega
   have w1 : IntKind.i64.wrap ((q : Int) + 1) = (q : Int) + 1 := zabt (by omega) (by omega)
   simp only [runF, hb] at hF
   cases hpb : p b.toNat with
   | true =>
    rw [hpb, if_pos rfl] at hF
    simp -dsimp only [↓kpre, kpost, light, ret1, cellF, afill, setAll, simprocAttr, ix9, vlr9, Tryd.results20, e0, e1, e2, hqi, h0, hb, zakm, hg, ↓hp, hpb, w1]
    exact ⟨m, by omega, q + 1, by omega, by omega, hF, by rw [Int.natCast_add]; rfl⟩
   | false =>
    rw [hpb, if_neg (by simp)] at hF
    simp -dsimp only [↓kpre, kpost, light, ret1, cellF, afill, setAll, simprocAttr, ix9, vlr9, Tryd.results20, e0, e1, e2, hqi, h0, hb, zakm, hg, ↓hp, hpb, w1]
    rw [hF]
  ·have hqi : ¬ (q : Int) < s.size := by omega
   rw [za0o p s m q (by omega)] at hF
   simp -dsimp only [↓kpre, kpost, light, ret1, cellF, afill, setAll, simprocAttr, ix9, vlr9, Tryd.results20, e0, e1, e2, hqi]
   rw [hF]
def eqS (a b : ByteArray) : Bool := a.toList == b.toList
theorem zara {P : Program} {t : TypeId} {x y : Operand} {s r : ByteArray} : abin P .eql t x y (.string s) (.string r) = some (.bool (eqS s r)) := rfl
def twoB (s : ByteArray) (k : Nat) : Bool := decide (k + 2 ≤ s.size) && (eqS (s.extract k (k + 2)) ⟨#[60, 62]⟩ || eqS (s.extract k (k + 2)) ⟨#[60, 61]⟩ || eqS (s.extract k (k + 2)) ⟨#[62, 61]⟩)
def signsL : List UInt8 := [43, 45, 42, 47, 38, 61, 60, 62, 40, 41, 44, 58, 33]
def sgB (b : UInt8) : Bool := signsL.contains b
def tsgF (s : ByteArray) (k : Nat) : Nat := if twoB s k then 2 else match s[k]? with | some b => if sgB b then 1 else 0 | none => 0
theorem zaz5 (b : UInt8) : decide (0 ≤ Lib.indexByte signsL b) = sgB b := by
 unfold sgB
 cases hc : signsL.contains b with
 | true =>
  rw [decide_eq_true_eq]
  refine Decidable.byContradiction fun h => ?_
  have := Lib.indexByte_ge signsL b
  have h1 := Lib.indexByte_none (l := signsL) (c := b) (by omega)
  obtain ⟨i, hi⟩ := List.getElem?_of_mem (List.contains_iff_mem.1 hc)
  exact h1 i hi
 | false =>
  rw [decide_eq_false_iff_not]
  intro h
  obtain ⟨o, ho⟩ : ∃ o : Nat, Lib.indexByte signsL b = o := ⟨(Lib.indexByte signsL b).toNat, by omega⟩
  have := (Lib.indexByte_some ho).1
  have : signsL.contains b = true := List.contains_iff_mem.2 (List.mem_of_getElem? this)
  rw [hc] at this
  cases this
theorem za22 (hX : X 26 = none) (hix : ∀ (l : List UInt8) (n : Nat), n < 256 → ∀ S K, Vcallee Tryd.prog X 32 [.string ⟨l.toArray⟩, .int .u8 n] S K = K (.int .i64 (Lib.indexByte l (UInt8.ofNat n))) [] S [] false) (s : ByteArray) (k : Nat) (hk : k < s.size) (hs : s.size ≤ 1000000) :
    Vp Tryd.prog X 26 [.string s, .int .i64 k] (.int .i64 ((k + tsgF s k : Nat) : Int)) := by
 unfold Vp
 refine zaaw hX Tryd.func26 rfl (by kernel_rfl) (by show 2 ≤ _; decide) ?_
 obtain ⟨b, hb⟩ := zaj9 hk
 have h0 : (0 : Int) ≤ k := by omega
 have w1 : IntKind.i64.wrap ((k : Int) + 1) = (k : Int) + 1 := zabt (by omega) (by omega)
 have w2 : IntKind.i64.wrap ((k : Int) + 2) = (k : Int) + 2 := zabt (by omega) (by omega)
 have hkn : ((k : Int) + 2).toNat = k + 2 := by omega
 have hk2 : (k : Int) ≤ (k : Int) + 2 := by omega
 have hix' := hix signsL b.toNat b.toNat_lt
 rw [UInt8.ofNat_toNat] at hix'
 have hsl : (⟨signsL.toArray⟩ : ByteArray) = ⟨#[43, 45, 42, 47, 38, 61, 60, 62, 40, 41, 44, 58, 33]⟩ := rfl
 rw [hsl] at hix'
 have hsg := zaz5 b
 have fin : ∀ j : Nat, (k : Int) + j = ((k + j : Nat) : Int) := fun j => by omega
 by_cases h2 : (k : Int) + 2 ≤ s.size
 ·have h2n : k + 2 ≤ s.size := by omega
  cases q1 : eqS (s.extract k (k + 2)) ⟨#[60, 62]⟩ <;> cases q2 : eqS (s.extract k (k + 2)) ⟨#[60, 61]⟩ <;> cases q3 : eqS (s.extract k (k + 2)) ⟨#[62, 61]⟩ <;> cases hc : sgB b <;> rw [hc] at hsg <;>
   simp -dsimp only [↓kpre, kpost, light, ret1, cellF, afill, setAll, simprocAttr, ix9, vsl9, vlr9, ↓vfk32, Tryd.results26, zara, h2, w1, w2, hkn, hk2, h0, q1, q2, q3, hb, ↓hix', hsg] <;>
   simp [tsgF, twoB, q1, q2, q3, h2n, hb, hc]
 ·have h2n : ¬ k + 2 ≤ s.size := by omega
  cases hc : sgB b <;> rw [hc] at hsg <;>
   simp -dsimp only [↓kpre, kpost, light, ret1, cellF, afill, setAll, simprocAttr, ix9, vsl9, vlr9, ↓vfk32, Tryd.results26, zara, h2, w1, w2, hkn, h0, hb, ↓hix', hsg] <;>
   simp [tsgF, twoB, h2n, hb, hc]
end
end Go.Proofs.YtliemjbafgnnbaaDoor.Abs
/- What stands between two quotes: in plain words. -/
namespace Go.Proofs.YtliemjbafgnnbaaDoor.Abs
open Go
def quoF (s : ByteArray) : Nat → Nat → List UInt8 → Option (List UInt8 × Nat)
 | 0, _, _ => none
 | n + 1, k, acc => match s[k]? with
  | none => none
  | some c => if c = 34 then (if s[k + 1]? = some 34 then quoF s n (k + 2) (acc ++ [34]) else some (acc, k + 1)) else quoF s n (k + 1) (acc ++ [c])
def quoV : Option (List UInt8 × Nat) → Value
 | some (t, k) => .tuple ⟨[.string ⟨t.toArray⟩, .int .i64 k, .bool true]⟩
 | none => .tuple ⟨[.string .empty, .int .i64 0, .bool false]⟩
theorem zao3 {s : ByteArray} {k : Nat} (h : s.size ≤ k) (n : Nat) (acc : List UInt8) : quoF s n k acc = none := by
 cases n with
 | zero => rfl
 | succ n =>
  have : s[k]? = none := getElem?_neg s k (by omega)
  simp only [quoF, this]
theorem u8_lit (c : UInt8) : ((c.toNat : Int) = 34) ↔ c = 34 := by
 constructor
 ·intro h
  apply UInt8.toNat_inj.1
  have : c.toNat = 34 := by omega
  rw [this]; rfl
 ·rintro rfl; rfl
end Go.Proofs.YtliemjbafgnnbaaDoor.Abs
/- Tokens: what stands between quotes, in the reference; the next token; the program's Split and the reference's. -/
set_option maxRecDepth 8000
namespace Go.Proofs.YtliemjbafgnnbaaDoor.Abs
open Go
def zajy := And.intro (And.intro (And.intro (@val49) (@vfk19)) (And.intro (@vfk20) (@vfk21))) (And.intro (And.intro (@vfk22) (@vfk23)) (And.intro (@vfk24) (And.intro (@vfk25) (@vfk26))))
def zaj2 := And.intro (And.intro (And.intro (And.intro (@vld49) (@vgt49)) (And.intro (@vst49) (@vst3))) (And.intro (And.intro (@vst9) (@zax1)) (And.intro (@zayc) (@zaje)))) (And.intro (And.intro (And.intro (@zajj) (@bd49)) (And.intro (@pl49_0) (@pl49_1))) (And.intro (And.intro (@pl49_2) (@ix9)) (And.intro (@vsl9) (@Tryd.results13))))
def pZI4_8 := And.intro (@val49) (@vfk13)
def qZI4_8 := And.intro (And.intro (And.intro (@vld49) (@vgt49)) (And.intro (@vst49) (@vbd38))) (And.intro (And.intro (@ix9) (@vlr9)) (And.intro (@vap38) (@Tryd.results8)))
attribute [local irreducible] Hold VReg Vf Vc VWP With VStp Vcallee Vp VE
theorem zas9 {s : ByteArray} : ∀ n k acc t e, quoF s n k acc = some (t, e) → k < e ∧ e ≤ s.size
 | 0, k, acc, t, e, h => by simp [quoF] at h
 | n + 1, k, acc, t, e, h => by
  have hk : k < s.size := by
   rcases Nat.lt_or_ge k s.size with h' | h'
   ·exact h'
   ·rw [zao3 h'] at h; cases h
  obtain ⟨c, hc⟩ := zaj9 hk
  simp only [quoF, hc] at h
  split at h
  ·split at h
   ·have := zas9 n _ _ t e h; omega
   ·cases h; omega
  ·have := zas9 n _ _ t e h; omega
section
variable {X : VOuter}
structure TK where
 k : Int
 a : Nat
 t : ByteArray
def TK.v (x : TK) : Value := .agg ⟨[.int .i64 x.k, .int .i64 x.a, .string x.t]⟩
def nextF (s : ByteArray) (k : Nat) : Option (TK × Nat) := match s[k]? with
 | none => none
 | some c =>
  if digB c.toNat then some (⟨1, k, s.extract k (runF digB s s.size k)⟩, runF digB s s.size k) else
  if grtB c.toNat then some (⟨3, k, s.extract k (runF gdB s s.size k)⟩, runF gdB s s.size k) else
  if smlB c.toNat then some (⟨4, k, s.extract k (runF sdB s s.size k)⟩, runF sdB s s.size k) else
  if c = 34 then (match quoF s s.size (k + 1) [] with | some (t, e) => some (⟨2, k, ⟨t.toArray⟩⟩, e) | none => none) else
  if tsgF s k = 0 then none else some (⟨5, k, s.extract k (k + tsgF s k)⟩, k + tsgF s k)
def nextV (s : ByteArray) (k : Nat) : Value := match nextF s k with
 | some (t, e) => .tuple ⟨[t.v, .int .i64 e, .bool true]⟩
 | none => match s[k]? with
  | some c => if c = 34 then .tuple ⟨[(⟨2, k, .empty⟩ : TK).v, .int .i64 0, .bool false]⟩ else .tuple ⟨[(⟨5, k, s.extract k k⟩ : TK).v, .int .i64 k, .bool false]⟩
  | none => undef
theorem run_c (hX : X 20 = none) (g : FuncId) (p : Int → Bool) (hg : funcOk Tryd.prog g = true) (hp : ∀ n S K, Vcallee Tryd.prog X g [.int .u8 n] S K = K (.bool (p n)) [] S [] false) (s : ByteArray) (k : Nat) (hk : k ≤ s.size) (hs : s.size ≤ 1000000) (S : VH) (K : VCont) :
    Vcallee Tryd.prog X 20 [.string s, .int .i64 k, .func (.func g) #[] #[]] S K = K (.int .i64 (runF p s s.size k)) [] S [] false :=
 zaac (run_p hX g p hg hp s k hk hs) rfl rfl rfl
theorem sign_c (hX : X 26 = none) (hix : ∀ (l : List UInt8) (n : Nat), n < 256 → ∀ S K, Vcallee Tryd.prog X 32 [.string ⟨l.toArray⟩, .int .u8 n] S K = K (.int .i64 (Lib.indexByte l (UInt8.ofNat n))) [] S [] false) (s : ByteArray) (k : Nat) (hk : k < s.size) (hs : s.size ≤ 1000000) (S : VH) (K : VCont) :
    Vcallee Tryd.prog X 26 [.string s, .int .i64 k] S K = K (.int .i64 ((k + tsgF s k : Nat) : Int)) [] S [] false := zaac (za22 hX hix s k hk hs) rfl rfl rfl
structure TkOff (X : VOuter) : Prop where
 dig : X 19 = none
 grt : X 21 = none
 sml : X 23 = none
 gd : X 22 = none
 sd : X 24 = none
 run : X 20 = none
 sign : X 26 = none
 next : X 13 = none
 ixb : ∀ (l : List UInt8) (n : Nat), n < 256 → ∀ S K, Vcallee Tryd.prog X 32 [.string ⟨l.toArray⟩, .int .u8 n] S K = K (.int .i64 (Lib.indexByte l (UInt8.ofNat n))) [] S [] false
 quo : ∀ (s : ByteArray) (k : Nat), k < s.size → s.size ≤ 1000000 → ∀ S K, Vcallee Tryd.prog X 25 [.string s, .int .i64 k] S K = K (quoV (quoF s s.size (k + 1) [])) [] S [] false
theorem fk_dig : funcOk Tryd.prog 19 = true := by kernel_rfl
theorem fk_gd : funcOk Tryd.prog 22 = true := by kernel_rfl
theorem fk_sd : funcOk Tryd.prog 24 = true := by kernel_rfl
theorem zaj6 {p : Int → Bool} {s : ByteArray} {k : Nat} {c : UInt8} (hc : s[k]? = some c) (hk : k < s.size) (hp : p c.toNat = true) : k < runF p s s.size k := by
 obtain ⟨n, hn⟩ : ∃ n, s.size = n + 1 := ⟨s.size - 1, by omega⟩
 have : runF p s s.size k = runF p s n (k + 1) := by
  rw [hn]
  simp only [runF, hc, hp, if_true]
 rw [this]
 have := (zame p s n (k + 1) (by omega)).1
 omega
theorem gd_of {n : Int} (h : grtB n = true) : gdB n = true := by simp [gdB, h]
theorem sd_of {n : Int} (h : smlB n = true) : sdB n = true := by simp [sdB, h]
theorem zaxu {s : ByteArray} {k : Nat} (hk : k < s.size) : k + tsgF s k ≤ s.size := by
 unfold tsgF
 split
 ·rename_i h
  simp only [twoB, Bool.and_eq_true, decide_eq_true_eq] at h
  exact h.1
 ·split
  ·split <;> omega
  ·omega
theorem next_p (h : TkOff X) (s : ByteArray) (k : Nat) (hk : k < s.size) (hs : s.size ≤ 1000000) : Vp Tryd.prog X 13 [.string s, .int .i64 k] (nextV s k) := by
 unfold Vp
 refine zaaw h.next Tryd.func13 rfl (by kernel_rfl) (by show 2 ≤ _; decide) ?_
 obtain ⟨c, hc⟩ := zaj9 hk
 have h0 : (0 : Int) ≤ k := by omega
 have hkn : ((k : Int)).toNat = k := by omega
 have rd := fun S K => run_c h.run 19 digB fk_dig (fun n S K => dig_c h.dig n S K) s k (by omega) hs S K
 have rg := fun S K => run_c h.run 22 gdB fk_gd (fun n S K => gd_c h.gd h.dig h.grt n S K) s k (by omega) hs S K
 have rs := fun S K => run_c h.run 24 sdB fk_sd (fun n S K => sd_c h.sd h.dig h.sml n S K) s k (by omega) hs S K
 have le := fun p => (zame p s s.size k (by omega)).1
 have le2 := fun p => (zame p s s.size k (by omega)).2
 cases c1 : digB c.toNat with
 | true =>
  have hl := zaj6 hc hk c1
  have hl' : (k : Int) < (runF digB s s.size k : Nat) := by omega
  have a1 : (k : Int) ≤ (runF digB s s.size k : Nat) := by omega
  have a2 : ((runF digB s s.size k : Nat) : Int) ≤ s.size := by have := le2 digB; omega
  simp -dsimp only [↓kpre, kpost, light, ret1, cellF, afill, setAll, simprocAttr, ↓zajy, zaj2, h0, hc, ↓dig_c h.dig, c1, ↓rd, hl', a1, a2, hkn]
  simp only [nextV, nextF, hc, c1, if_true, TK.v]
 | false =>
  cases c2 : grtB c.toNat with
  | true =>
   have hl := zaj6 hc hk (gd_of c2)
   have hl' : (k : Int) < (runF gdB s s.size k : Nat) := by omega
   have a1 : (k : Int) ≤ (runF gdB s s.size k : Nat) := by omega
   have a2 : ((runF gdB s s.size k : Nat) : Int) ≤ s.size := by have := le2 gdB; omega
   simp -dsimp only [↓kpre, kpost, light, ret1, cellF, afill, setAll, simprocAttr, ↓zajy, zaj2, h0, hc, ↓dig_c h.dig, ↓grt_c h.grt, c1, c2, ↓rg, hl', a1, a2, hkn]
   simp [nextV, nextF, hc, c1, c2, TK.v]
  | false =>
   cases c3 : smlB c.toNat with
   | true =>
    have hl := zaj6 hc hk (sd_of c3)
    have hl' : (k : Int) < (runF sdB s s.size k : Nat) := by omega
    have a1 : (k : Int) ≤ (runF sdB s s.size k : Nat) := by omega
    have a2 : ((runF sdB s s.size k : Nat) : Int) ≤ s.size := by have := le2 sdB; omega
    simp -dsimp only [↓kpre, kpost, light, ret1, cellF, afill, setAll, simprocAttr, ↓zajy, zaj2, h0, hc, ↓dig_c h.dig, ↓grt_c h.grt, ↓sml_c h.sml, c1, c2, c3, ↓rs, hl', a1, a2, hkn]
    simp [nextV, nextF, hc, c1, c2, c3, TK.v]
   | false =>
    by_cases c4 : c = 34
    ·have hq := fun S K => h.quo s k hk hs S K
     have c4' := (u8_lit c).2 c4
     have g1 : digB 34 = false := rfl
     have g2 : grtB 34 = false := rfl
     have g3 : smlB 34 = false := rfl
     cases hF : quoF s s.size (k + 1) [] with
     | none =>
      rw [hF] at hq
      simp only [quoV] at hq
      simp -dsimp only [↓kpre, kpost, light, ret1, cellF, afill, setAll, simprocAttr, ↓zajy, zaj2, h0, hc, ↓dig_c h.dig, ↓grt_c h.grt, ↓sml_c h.sml, c1, c2, c3, c4', g1, g2, g3, ↓hq, hkn]
      simp [nextV, nextF, hc, c1, c2, c3, c4, g1, g2, g3, hF, TK.v]
     | some te =>
      obtain ⟨t, e⟩ := te
      rw [hF] at hq
      simp only [quoV] at hq
      simp -dsimp only [↓kpre, kpost, light, ret1, cellF, afill, setAll, simprocAttr, ↓zajy, zaj2, h0, hc, ↓dig_c h.dig, ↓grt_c h.grt, ↓sml_c h.sml, c1, c2, c3, c4', g1, g2, g3, ↓hq, hkn]
      simp [nextV, nextF, hc, c1, c2, c3, c4, g1, g2, g3, hF, TK.v]
    ·have c4' : ¬ ((c.toNat : Int) = 34) := fun h => c4 ((u8_lit c).1 h)
     have hsg := fun S K => sign_c h.sign h.ixb s k hk hs S K
     have a1 : (k : Int) ≤ ((k + tsgF s k : Nat) : Int) := by omega
     have a2 : ((k + tsgF s k : Nat) : Int) ≤ s.size := by have := zaxu hk; omega
     have a3 : decide ((k : Int) < ((k + tsgF s k : Nat) : Int)) = !decide (tsgF s k = 0) := by
      by_cases h : tsgF s k = 0
      ·simp [h]
      ·have : (k : Int) < ((k + tsgF s k : Nat) : Int) := by omega
       simp only [this, h, decide_true, decide_false, Bool.not_false]
     simp -dsimp only [↓kpre, kpost, light, ret1, cellF, afill, setAll, simprocAttr, ↓zajy, zaj2, h0, hc, ↓dig_c h.dig, ↓grt_c h.grt, ↓sml_c h.sml, c1, c2, c3, c4', ↓hsg, a1, a2, a3, hkn]
     by_cases hz : tsgF s k = 0
     ·simp [nextV, nextF, hc, c1, c2, c3, c4, hz, TK.v]
     ·simp [nextV, nextF, hc, c1, c2, c3, c4, hz, TK.v]
theorem zang {s : ByteArray} {k : Nat} {t : TK} {e : Nat} (h : nextF s k = some (t, e)) : k < e ∧ e ≤ s.size := by
 have hk : k < s.size := by
  rcases Nat.lt_or_ge k s.size with h' | h'
  ·exact h'
  ·unfold nextF at h
   rw [getElem?_neg s k (by omega)] at h
   cases h
 obtain ⟨c, hc⟩ := zaj9 hk
 have le2 := fun p => (zame p s s.size k (by omega)).2
 unfold nextF at h
 rw [hc] at h
 simp only at h
 split at h
 ·rename_i c1
  cases h
  exact ⟨zaj6 hc hk c1, le2 _⟩
 ·split at h
  ·rename_i c2
   cases h
   exact ⟨zaj6 hc hk (gd_of c2), le2 _⟩
  ·split at h
   ·rename_i c3
    cases h
    exact ⟨zaj6 hc hk (sd_of c3), le2 _⟩
   ·split at h
    ·split at h
     ·rename_i t e' hq
      cases h
      have := zas9 _ _ _ _ _ hq
      omega
     ·cases h
    ·split at h
     ·cases h
     ·cases h
      have := zaxu hk
      omega
def splitF (s : ByteArray) : Nat → Nat → List TK → Except Nat (List TK)
 | 0, _, l => .ok l
 | n + 1, k, l => match s[k]? with
  | none => .ok l
  | some c => if c = 32 then splitF s n (k + 1) l else match nextF s k with
   | some (t, e) => splitF s n e (l ++ [t])
   | none => .error k
def splitR : Except Nat (List TK) → Value
 | .ok l => .tuple ⟨[sl true 0 3 (l.map TK.v), .int .i64 (-1), .int .i64 0]⟩
 | .error k => .tuple ⟨[.slice none 0 0, .int .i64 k, .int .i64 3]⟩
def splitV (s : ByteArray) : Value := if (200 : Int) < s.size then .tuple ⟨[.slice none 0 0, .int .i64 0, .int .i64 5]⟩ else splitR (splitF s s.size 0 [])
theorem zatl {s : ByteArray} {k : Nat} (h : s.size ≤ k) (n : Nat) (l : List TK) : splitF s n k l = .ok l := by
 cases n with
 | zero => rfl
 | succ n =>
  have : s[k]? = none := getElem?_neg s k (by omega)
  simp only [splitF, this]
theorem u8_sp (c : UInt8) : ((c.toNat : Int) = 32) ↔ c = 32 := by
 constructor
 ·intro h
  apply UInt8.toNat_inj.1
  have : c.toNat = 32 := by omega
  rw [this]; rfl
 ·rintro rfl; rfl
theorem next_c (h : TkOff X) (s : ByteArray) (k : Nat) (hk : k < s.size) (hs : s.size ≤ 1000000) {v : Value} (hv : nextV s k = v) (hok : okv 0 false v = true) (S : VH) (K : VCont) : Vcallee Tryd.prog X 13 [.string s, .int .i64 k] S K = K v [] S [] false := by
 subst hv
 exact zaac (next_p h s k hk hs) rfl rfl hok
theorem za2y (h : TkOff X) (hX : X 8 = none) (s : ByteArray) : Vp Tryd.prog X 8 [.string s] (splitV s) := by
 unfold Vp
 refine zaaw hX Tryd.func8 rfl (by kernel_rfl) (by show 1 ≤ _; decide) ?_
 unfold splitV
 by_cases h200 : (200 : Int) < s.size
 ·rw [if_pos h200]
  simp -dsimp only [↓kpre, kpost, light, ret1, cellF, afill, setAll, simprocAttr, ↓pZI4_8, qZI4_8, h200]
 ·rw [if_neg h200]
  simp -dsimp only [↓kpre, kpost, light, ret1, cellF, afill, setAll, simprocAttr, ↓pZI4_8, qZI4_8, h200]
  refine zagn (fun m e S => ∃ (q : Nat) (l : List TK), q ≤ s.size ∧ s.size ≤ q + m ∧ splitF s m q l = splitF s s.size 0 [] ∧ l.length ≤ q ∧ eget e 0 = .string s ∧ eget e 6 = .int .i64 q ∧ eget e 5 = ol true (36, none) 3 (l.map TK.v) ∧ ∃ J, S = ⟨[], J, []⟩) s.size ?_ ?_
  ·refine ⟨0, [], by omega, by omega, rfl, by simp, ?_, ?_, ?_, [], rfl⟩ <;> simp only [zakr, zah7, ↓zain, ↓zaah, ↓ae_tmp, ↓ae_int, ↓zacy, ↓zaa1, ↓zacz, ↓zaa0, ↓zac0, zaaq, zaap, zaba, ↓reduceIte, Nat.reduceEqDiff, reduceCtorEq, Bool.false_eq_true, Nat.reduceBEq, decide_true, decide_false, Bool.not_true, Bool.not_false, List.getElem?_toArray, List.getElem?_cons_zero, List.getElem?_cons_succ, Nat.zero_add, Nat.add_zero, Nat.reduceAdd, Nat.reduceMul, Nat.reduceSub, Nat.reduceLT, Nat.reduceLeDiff, and_true, true_and, and_self] <;> rfl
  ·rintro m e S ⟨q, l, hq, hm, hF, hl, e0, e6, e5, J, rfl⟩
   refine VWP_Vc _ _ _ _ ?_
   by_cases hlt : q < s.size
   ·obtain ⟨m, rfl⟩ : ∃ n, m = n + 1 := ⟨m - 1, by omega⟩
    obtain ⟨c, hc⟩ := zaj9 hlt
    have hqi : (q : Int) < s.size := by omega
    have h0 : (0 : Int) ≤ q := by omega
    have w2 : IntKind.i64.wrap ((q : Int) + 1) = (q : Int) + 1 := zabt (by omega) (by omega)
    by_cases hsp : c = 32
    ·have hsp' := (u8_sp c).2 hsp
     have hF' : splitF s (m + 1) q l = splitF s m (q + 1) l := by simp only [splitF, hc, hsp, if_true]
     rw [hF'] at hF
     simp -dsimp only [↓kpre, kpost, light, ret1, cellF, afill, setAll, simprocAttr, ↓pZI4_8, qZI4_8, e0, e6, e5, hqi, h0, hc, hsp', w2]
     exact ⟨m, by omega, q + 1, l, by omega, by omega, hF, by omega, by rw [show (q : Int) + 1 = ((q + 1 : Nat) : Int) by omega], rfl, _, rfl⟩
    ·have hsp' : ¬ ((c.toNat : Int) = 32) := fun h => hsp ((u8_sp c).1 h)
     cases hn : nextF s q with
     | none =>
      have hF' : splitF s (m + 1) q l = .error q := by simp only [splitF, hc, hsp, if_false, hn]
      rw [hF'] at hF
      obtain ⟨k', a', t', n', hv⟩ : ∃ (k' : Int) (a' : Nat) (t' : ByteArray) (n' : Int), nextV s q = .tuple ⟨[(⟨k', a', t'⟩ : TK).v, .int .i64 n', .bool false]⟩ := by
       unfold nextV
       rw [hn, hc]
       simp only
       split
       ·exact ⟨_, _, _, _, rfl⟩
       ·exact ⟨_, _, _, _, rfl⟩
      simp only [TK.v] at hv
      have hcl := fun S K => next_c h s q hlt (by omega) hv rfl S K
      simp -dsimp only [↓kpre, kpost, light, ret1, cellF, afill, setAll, simprocAttr, ↓pZI4_8, qZI4_8, e0, e6, e5, hqi, h0, hc, hsp', w2, ↓hcl]
      rw [← hF]
      rfl
     | some te =>
      obtain ⟨t, e'⟩ := te
      have hF' : splitF s (m + 1) q l = splitF s m e' (l ++ [t]) := by simp only [splitF, hc, hsp, if_false, hn]
      rw [hF'] at hF
      have hle := zang hn
      obtain ⟨tk, ta, tt⟩ := t
      have hv : nextV s q = .tuple ⟨[.agg ⟨[.int .i64 tk, .int .i64 ta, .string tt]⟩, .int .i64 e', .bool true]⟩ := by
       unfold nextV
       rw [hn]
       rfl
      have hcl := fun S K => next_c h s q hlt (by omega) hv rfl S K
      simp -dsimp only [↓kpre, kpost, light, ret1, cellF, afill, setAll, simprocAttr, ↓pZI4_8, qZI4_8, e0, e6, e5, hqi, h0, hc, hsp', w2, ↓hcl]
      have hlm : (l.map TK.v).length = l.length := List.length_map ..
      exact ⟨⟨by rw [hlm]; omega, by rw [hlm]; omega⟩, m, by omega, e', l ++ [⟨tk, ta, tt⟩], by omega, by omega, hF, by simp; omega, rfl, by rw [List.map_append]; rfl, _, rfl⟩
   ·have hqi : ¬ (q : Int) < s.size := by omega
    rw [zatl (by omega)] at hF
    simp -dsimp only [↓kpre, kpost, light, ret1, cellF, afill, setAll, simprocAttr, ↓pZI4_8, qZI4_8, e0, e6, e5, hqi]
    rw [← hF]
    rfl
end
end Go.Proofs.YtliemjbafgnnbaaDoor.Abs
/- The law TokenTells: its text at value level. -/
set_option maxRecDepth 8000
namespace Go.Proofs.YtliemjbafgnnbaaDoor.Abs
open Go
attribute [local irreducible] Hold VReg Vf Vc VWP With VStp Vcallee Vp VE
section
variable {X : VOuter}
theorem za2x (h : TkOff X) (hX : X 8 = none) (s : ByteArray) {v : Value} (hv : splitV s = v) (hok : okv 0 false v = true) (S : VH) (K : VCont) : Vcallee Tryd.prog X 8 [.string s] S K = K v [] S [] false := by
 subst hv
 exact zaac (za2y h hX s) rfl rfl hok
end
end Go.Proofs.YtliemjbafgnnbaaDoor.Abs
