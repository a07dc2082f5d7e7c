/- Ranges of cells: the reference. -/
import Derived.Test.YtliemjbafgnnbaaDoorMB1
import Derived.Test.YtliemjbafgnnbaaDoorPW29
import Derived.Test.YtliemjbafgnnbaaDoorPT0
import Derived.Lib.ItoaNum
import Derived.Lib.AtoiAll
import Derived.Lib.IndexMore
set_option maxHeartbeats 0
set_option linter.defProp false
set_option linter.unnecessarySimpa false
set_option linter.unusedSimpArgs false
set_option linter.unusedVariables false
set_option maxRecDepth 4000
namespace Go.Proofs.YtliemjbafgnnbaaDoor.Abs
open Go
attribute [local irreducible] Hold VReg Vf Vc VWP With VStp Vcallee Vp VE
section
variable {X : VOuter}
end
end Go.Proofs.YtliemjbafgnnbaaDoor.Abs
/- How cells are written: the program and the reference. -/
namespace Go.Proofs.YtliemjbafgnnbaaDoor.Abs
open Go
def zaxg := And.intro (@vcv5) (And.intro (@vcv9) (@vfk61))
def zaxj := And.intro (And.intro (@vld3) (And.intro (@vgt3) (@zapf))) (And.intro (And.intro (@zapm) (@zapg)) (And.intro (@zapn) (@Tryd.results63)))
attribute [local irreducible] Hold VReg Vf Vc VWP With VStp Vcallee Vp VE
theorem zamz {P : Program} {t : TypeId} {x y : Operand} {a b : ByteArray} (ha : a.size ≤ 1000) (hb : b.size ≤ 1000) : abin P .add t x y (.string a) (.string b) = some (.string (a ++ b)) := by
 have : abin P .add t x y (.string a) (.string b) = onlyFlat (pureRun P (Op.stringOp .add a b)) := rfl
 rw [this]
 unfold Op.stringOp
 simp only
 rw [if_neg (by simp only [IntKind.max, IntKind.signed, IntKind.bits]; simp; omega)]
 rfl
theorem za1v {P : Program} {t : TypeId} {x y : Operand} {k : IntKind} {a b : Int} (hb : b ≠ 0) : abin P .rem t x y (.int k a) (.int k b) = some (.int k (a.tmod b)) := by
 have h : pureRun P (Op.intDiv .rem k a b) = some (.int k (a.tmod b)) := by
  unfold Op.intDiv
  rw [if_neg hb]
  rfl
 have h2 : abin P .rem t x y (.int k a) (.int k b) = onlyFlat (pureRun P (Op.intDiv .rem k a b)) := by cases k <;> rfl
 rw [h2, h]
 rfl
theorem za1u {P : Program} {t : TypeId} {x y : Operand} {k : IntKind} {a b : Int} (hb : b ≠ 0) : abin P .quo t x y (.int k a) (.int k b) = some (.int k (k.wrap (a.tdiv b))) := by
 have h : pureRun P (Op.intDiv .quo k a b) = some (.int k (k.wrap (a.tdiv b))) := by
  unfold Op.intDiv
  rw [if_neg hb]
  rfl
 have h2 : abin P .quo t x y (.int k a) (.int k b) = onlyFlat (pureRun P (Op.intDiv .quo k a b)) := by cases k <;> rfl
 rw [h2, h]
 rfl
def chr1 (n : Int) : ByteArray := ⟨#[UInt8.ofNat n.toNat]⟩
theorem zafb (n : Int) : (chr1 n).size = 1 := rfl
def colS (c : Int) : ByteArray := if 26 < c then chr1 (64 + (c - 1) / 26) ++ chr1 (65 + (c - 1) % 26) else chr1 (65 + (c - 1) % 26)
def itoaS (r : Int) : ByteArray := ⟨(Lib.itoa r).toArray⟩
def plS (c r : Int) : ByteArray := colS c ++ itoaS r
theorem vconv26 : ((List.range 26).all fun d => match vconv Tryd.prog 5 9 (.int .u8 (Int.ofNat (65 + d))) with | some (.string s) => s.data.toList == [UInt8.ofNat (65 + d)] | _ => false) = true := by kernel_rfl
theorem zapb {n : Int} (h0 : 65 ≤ n) (h1 : n ≤ 90) : vconv Tryd.prog 5 9 (.int .u8 n) = some (.string (chr1 n)) := by
 obtain ⟨d, rfl⟩ : ∃ d : Nat, n = Int.ofNat (65 + d) := ⟨(n - 65).toNat, by simp; omega⟩
 have := List.all_eq_true.1 vconv26 d (List.mem_range.2 (by simp at h1; omega))
 split at this
 ·rename_i s hs
  rw [hs]
  have h2 : s.data.toList = [UInt8.ofNat (65 + d)] := by simpa using this
  have h3 : s = chr1 (Int.ofNat (65 + d)) := by
   have e1 : s = ⟨(s.data.toList).toArray⟩ := rfl
   rw [e1, h2]; rfl
  rw [h3]
 ·cases this
theorem zat0 {n : Int} (h0 : 0 ≤ n) (h1 : n ≤ 255) : vconv Tryd.prog 3 5 (.int .i64 n) = some (.int .u8 n) := by
 have e : vconv Tryd.prog 3 5 (.int .i64 n) = some (.int .u8 (IntKind.u8.wrap n)) := by kernel_rfl
 rw [e]
 congr 2
 simp only [IntKind.wrap, IntKind.bits, IntKind.signed]
 simp
 omega
def dec3 (n : Int) : ByteArray := if n ≤ 9 then chr1 (48 + n) else if n ≤ 99 then chr1 (48 + n / 10) ++ chr1 (48 + n % 10) else (chr1 (48 + n / 10 / 10) ++ chr1 (48 + n / 10 % 10)) ++ chr1 (48 + n % 10)
theorem zam5 : ((List.range 1000).all fun n => (dec3 (Int.ofNat n)).data.toList == Lib.itoa (Int.ofNat n)) = true := by kernel_rfl
theorem zazq {n : Int} (h0 : 0 ≤ n) (h1 : n ≤ 999) : dec3 n = itoaS n := by
 obtain ⟨d, rfl⟩ := Int.eq_ofNat_of_zero_le h0
 have := List.all_eq_true.1 zam5 d (List.mem_range.2 (by omega))
 have e1 : dec3 d = ⟨((dec3 d).data.toList).toArray⟩ := rfl
 rw [e1, show (dec3 (d : Int)).data.toList = Lib.itoa d by simpa using this]
 rfl
theorem zau3 (n : Int) : (dec3 n).size ≤ 3 := by
 unfold dec3
 split
 ·rw [zafb]; decide
 ·split
  ·simp [ByteArray.size_append, zafb]
  ·simp [ByteArray.size_append, zafb]
theorem zau1 (c : Int) : (colS c).size ≤ 2 := by
 unfold colS
 split
 ·simp [ByteArray.size_append, zafb]
 ·simp [zafb]
section
variable {X : VOuter}
theorem zak8 (hX : X 63 = none) (s : ByteArray) (c r : Int) (hc : placeF c r = true) (hit : ∀ S K, Vcallee Tryd.prog X 61 [.int .i64 r] S K = K (.string (itoaS r)) [] S [] false) : Vp Tryd.prog X 63 [.agg ⟨[.string s, .int .i64 c, .int .i64 r]⟩] (.string (plS c r)) := by
 simp only [placeF, Bool.and_eq_true, decide_eq_true_eq] at hc
 obtain ⟨⟨⟨h1, h2⟩, h3⟩, h4⟩ := hc
 have w1 : IntKind.i64.wrap (c - 1) = c - 1 := zabt (by omega) (by omega)
 have m1 : (c - 1).tmod 26 = (c - 1) % 26 := Int.tmod_eq_emod_of_nonneg (by omega)
 have m2 : (c - 1).tdiv 26 = (c - 1) / 26 := Int.tdiv_eq_ediv_of_nonneg (by omega)
 have w2 : IntKind.i64.wrap (65 + (c - 1) % 26) = 65 + (c - 1) % 26 := zabt (by omega) (by omega)
 have w0 : IntKind.i64.wrap ((c - 1) / 26) = (c - 1) / 26 := zabt (by omega) (by omega)
 have w3 : IntKind.i64.wrap (65 + (c - 1) / 26) = 65 + (c - 1) / 26 := zabt (by omega) (by omega)
 have w4 : IntKind.i64.wrap (65 + (c - 1) / 26 - 1) = 64 + (c - 1) / 26 := by rw [show 65 + (c - 1) / 26 - 1 = 64 + (c - 1) / 26 by omega]; exact zabt (by omega) (by omega)
 have r1 := fun t x y => za1v (P := Tryd.prog) (t := t) (x := x) (y := y) (k := .i64) (a := c - 1) (b := 26) (by omega)
 have r2 := fun t x y => za1u (P := Tryd.prog) (t := t) (x := x) (y := y) (k := .i64) (a := c - 1) (b := 26) (by omega)
 have v1 := zat0 (n := 65 + (c - 1) % 26) (by omega) (by omega)
 have x1 := zapb (n := 65 + (c - 1) % 26) (by omega) (by omega)
 have hsz : (itoaS r).size ≤ 3 := by rw [← zazq (by omega) h4]; exact zau3 r
 have hcs := zau1 c
 unfold Vp
 refine zaaw hX Tryd.func63 rfl (by kernel_rfl) (by show 1 ≤ _; decide) ?_
 by_cases h5 : 26 < c
 ·have v2 := zat0 (n := 64 + (c - 1) / 26) (by omega) (by omega)
  have x2 := zapb (n := 64 + (c - 1) / 26) (by omega) (by omega)
  have hcc : colS c = chr1 (64 + (c - 1) / 26) ++ chr1 (65 + (c - 1) % 26) := by unfold colS; rw [if_pos h5]
  rw [hcc] at hcs
  have a1 := fun t x y => zamz (P := Tryd.prog) (t := t) (x := x) (y := y) (a := chr1 (64 + (c - 1) / 26)) (b := chr1 (65 + (c - 1) % 26)) (by rw [zafb]; decide) (by rw [zafb]; decide)
  have a2 := fun t x y => zamz (P := Tryd.prog) (t := t) (x := x) (y := y) (a := chr1 (64 + (c - 1) / 26) ++ chr1 (65 + (c - 1) % 26)) (b := itoaS r) (by omega) (by omega)
  unfold plS
  rw [hcc]
  simp -dsimp only [↓kpre, kpost, light, ret1, cellF, afill, setAll, simprocAttr, ↓zaxg, zaxj, w1, r1, r2, m1, m2, w0, w2, w3, w4, v1, v2, x1, x2, h5, a1, a2, ↓hit]
 ·have hcc : colS c = chr1 (65 + (c - 1) % 26) := by unfold colS; rw [if_neg h5]
  rw [hcc] at hcs
  have a2 := fun t x y => zamz (P := Tryd.prog) (t := t) (x := x) (y := y) (a := chr1 (65 + (c - 1) % 26)) (b := itoaS r) (by omega) (by omega)
  unfold plS
  rw [hcc]
  simp -dsimp only [↓kpre, kpost, light, ret1, cellF, afill, setAll, simprocAttr, ↓zaxg, zaxj, w1, r1, m1, w2, v1, x1, h5, a2, ↓hit]
end
end Go.Proofs.YtliemjbafgnnbaaDoor.Abs
/- How cells are written: small numbers' digits, the reference's place, and the whole. -/
namespace Go.Proofs.YtliemjbafgnnbaaDoor.Abs
open Go
attribute [local irreducible] Hold VReg Vf Vc VWP With VStp Vcallee Vp VE
section
variable {X : VOuter}
end
end Go.Proofs.YtliemjbafgnnbaaDoor.Abs
/- A column and a row are read. -/
namespace Go.Proofs.YtliemjbafgnnbaaDoor.Abs
open Go
attribute [local irreducible] Hold VReg Vf Vc VWP With VStp Vcallee Vp VE
def greatB (n : Int) : Bool := decide (65 ≤ n) && decide (n ≤ 90)
def atoiN (s : ByteArray) : Option Int := match Lib.atoiAll s.data.toList with
 | .ok v => some v
 | _ => none
def tryPl (t : ByteArray) (n : Nat) (col : Int) : Option (Int × Int) := match atoiN (t.extract n t.size) with
 | some v => if placeF col v = true ∧ plS col v = t then some (col, v) else none
 | none => none
def atF (t : ByteArray) : Option (Int × Int) := match t[0]? with
 | some a => if greatB a.toNat then (match t[1]? with
     | some b => if greatB b.toNat then tryPl t 2 (((a.toNat : Int) - 64) * 26 + ((b.toNat : Int) - 64)) else tryPl t 1 ((a.toNat : Int) - 64)
     | none => tryPl t 1 ((a.toNat : Int) - 64)) else none
 | none => none
def tripF : Option (Int × Int) → Value
 | some (c, r) => .tuple ⟨[.int .i64 c, .int .i64 r, .bool true]⟩
 | none => .tuple ⟨[.int .i64 0, .int .i64 0, .bool false]⟩
end Go.Proofs.YtliemjbafgnnbaaDoor.Abs
/- A column and a row are read: the walk. -/
namespace Go.Proofs.YtliemjbafgnnbaaDoor.Abs
open Go
def zaci := And.intro (And.intro (@val28) (@vcv3)) (And.intro (@vfk33) (And.intro (@vfk62) (@vfk63)))
def zacj := And.intro (And.intro (And.intro (And.intro (@vld3) (@vgt3)) (And.intro (@vld28) (@vgt28))) (And.intro (And.intro (@vst28) (@vst3)) (And.intro (@zapf) (And.intro (@zapm) (@zapg))))) (And.intro (And.intro (And.intro (@zapn) (@bd28)) (And.intro (@pl28_0) (@pl28_1))) (And.intro (And.intro (@pl28_2) (@ix9)) (And.intro (@vsl9) (And.intro (@vlr9) (@Tryd.results56)))))
attribute [local irreducible] Hold VReg Vf Vc VWP With VStp Vcallee Vp VE
theorem zadg {e : Env} : aeval e (.const .nilIface) = .nilIface := _root_.id rfl
theorem zae0 (i : Nat) : vbin Tryd.prog .neq 70 (.tmp i) (.const .nilIface) .nilIface .nilIface = some (.bool false) := by kernel_rfl
theorem err_ms : ∃ ms, Tryd.prog.underlying 70 = some (.interface ms) := ⟨_, Tryd.underlying70⟩
theorem zawc {n : Int} (h0 : 0 ≤ n) (h1 : n ≤ 255) : vconv Tryd.prog 5 3 (.int .u8 n) = some (.int .i64 n) := by
 have e : vconv Tryd.prog 5 3 (.int .u8 n) = some (.int .i64 (IntKind.i64.wrap n)) := by kernel_rfl
 rw [e, zabt (by omega) (by omega)]
def atoiV (T : TypeId) (w : ByteArray → Int) (s : ByteArray) : Value := match atoiN s with
 | some v => .tuple ⟨[.int .i64 v, .nilIface]⟩
 | none => .tuple ⟨[.int .i64 (w s), .iface T undef]⟩
def leadP (t : ByteArray) (n : Nat) (col : Int) : Prop := (n = 0 ∧ col = 0) ∨ (n = 1 ∧ ∃ a, t[0]? = some a ∧ greatB a.toNat = true ∧ col = (a.toNat : Int) - 64) ∨ (n = 2 ∧ ∃ a b, t[0]? = some a ∧ greatB a.toNat = true ∧ t[1]? = some b ∧ greatB b.toNat = true ∧ col = ((a.toNat : Int) - 64) * 26 + ((b.toNat : Int) - 64))
theorem zan4 {t : ByteArray} {n : Nat} {col : Int} (h : leadP t n col) (hend : n = 2 ∨ (∀ b, t[n]? = some b → greatB b.toNat = false)) : atF t = if n = 0 then none else tryPl t n col := by
 unfold atF
 rcases h with ⟨rfl, rfl⟩ | ⟨rfl, a, ha, hg, rfl⟩ | ⟨rfl, a, b, ha, hg, hb, hg2, rfl⟩
 ·rw [if_pos rfl]
  have hend := hend.resolve_left (by decide)
  cases h0 : t[0]? with
  | none => rfl
  | some a => simp [hend a h0]
 ·rw [ha, if_neg (by decide)]
  have hend := hend.resolve_left (by decide)
  simp only [hg, if_true]
  cases h1 : t[1]? with
  | none => rfl
  | some b => simp [hend b h1]
 ·rw [ha, hb, if_neg (by decide)]
  simp [hg, hg2]
theorem zavp {t : ByteArray} {n : Nat} {col : Int} (h : leadP t n col) : 0 ≤ col ∧ col ≤ 702 ∧ (n = 0 → col = 0) := by
 rcases h with ⟨rfl, rfl⟩ | ⟨rfl, a, ha, hg, rfl⟩ | ⟨rfl, a, b, ha, hg, hb, hg2, rfl⟩
 ·exact ⟨by decide, by decide, fun _ => rfl⟩
 ·simp only [greatB, Bool.and_eq_true, decide_eq_true_eq] at hg
  exact ⟨by omega, by omega, fun h => by cases h⟩
 ·simp only [greatB, Bool.and_eq_true, decide_eq_true_eq] at hg hg2
  exact ⟨by omega, by omega, fun h => by cases h⟩
section
variable {X : VOuter}
theorem at_p (hX : X 56 = none) (hX1 : X 62 = none) (hX2 : X 63 = none) (T : TypeId) (w : ByteArray → Int)
    (hit : ∀ r, 1 ≤ r → r ≤ 999 → ∀ S K, Vcallee Tryd.prog X 61 [.int .i64 r] S K = K (.string (itoaS r)) [] S [] false)
    (hat : ∀ s : ByteArray, s.size ≤ 1000 → ∀ S K, Vcallee Tryd.prog X 33 [.string s] S K = K (atoiV T w s) [] S [] false)
    (t : ByteArray) (ht : t.size ≤ 1000) : Vp Tryd.prog X 56 [.string t] (tripF (atF t)) := by
 unfold Vp
 refine zaaw hX Tryd.func56 rfl (by kernel_rfl) (by show 1 ≤ _; decide) ?_
 simp -dsimp only [↓kpre, kpost, light, ret1, cellF, afill, setAll, simprocAttr, ↓zaci, zacj]
 refine zagn (fun m e S => ∃ (n : Nat) (col : Int), m = 2 - n ∧ n ≤ 2 ∧ n ≤ t.size ∧ leadP t n col ∧ eget e 0 = .string t ∧ eget e 5 = .pointer (some { block := 0, off := 0 }) ∧ eget e 6 = .int .i64 n ∧ S = ⟨[], [.cells true 28 [.string .empty, .int .i64 col, .int .i64 0]], []⟩) 2 ?_ ?_
 ·refine ⟨0, 0, rfl, by omega, Nat.zero_le _, .inl ⟨rfl, rfl⟩, ?_, ?_, ?_, ?_⟩ <;> first | (simp only [↓epre, epost, simprocAttr]; done) | (simp only [↓epre, epost, simprocAttr]; rfl) | rfl
 ·rintro m e S ⟨n, col, rfl, hn, hnt, hl, e0, e5, e6, rfl⟩
  refine VWP_Vc _ _ _ _ ?_
  obtain ⟨c0, c1, c2⟩ := zavp hl
  have h0 : (0 : Int) ≤ n := by omega
  have wn : IntKind.i64.wrap ((n : Int) + 1) = (n : Int) + 1 := zabt (by omega) (by omega)
  have hsz : (t.extract n t.size).size ≤ 1000 := by rw [ByteArray.size_extract]; omega
  have hns : (n : Int) ≤ t.size := by omega
  obtain ⟨ms, hms⟩ := err_ms
  by_cases hs : n < t.size
  ·have hs' : (n : Int) < t.size := by omega
   obtain ⟨b, hb⟩ := ba_get hs
   by_cases h2 : (n : Int) < 2
   ·by_cases g1 : 65 ≤ (b.toNat : Int)
    ·by_cases g2 : (b.toNat : Int) ≤ 90
     ·have u1 : IntKind.u8.wrap ((b.toNat : Int) - 65) = (b.toNat : Int) - 65 := by simp only [IntKind.wrap, IntKind.bits, IntKind.signed]; simp; omega
      have v1 := zawc (n := (b.toNat : Int) - 65) (by omega) (by omega)
      have x1 : IntKind.i64.wrap (col * 26) = col * 26 := zabt (by omega) (by omega)
      have x2 : IntKind.i64.wrap (col * 26 + ((b.toNat : Int) - 65)) = col * 26 + ((b.toNat : Int) - 65) := zabt (by omega) (by omega)
      have x3 : IntKind.i64.wrap (col * 26 + ((b.toNat : Int) - 65) + 1) = col * 26 + ((b.toNat : Int) - 65) + 1 := zabt (by omega) (by omega)
      simp -dsimp only [↓kpre, kpost, light, ret1, cellF, afill, setAll, simprocAttr, ↓zaci, zacj, e0, e5, e6, hs', h2, h0, hb, g1, g2]
      refine zaei [[], [], [], [], [], [], [], [], [], [], [], []] false (by kernel_rfl) (by kernel_rfl) (by kernel_rfl) ?_
      simp -dsimp only [↓kpre, kpost, light, ret1, cellF, afill, setAll, simprocAttr, ↓opre, opost, vspan, ↓zaci, zacj, e0, e5, e6, hs', h2, h0, hb, u1, v1, x1, x2, x3, wn]
      refine ⟨2 - (n + 1), by omega, n + 1, col * 26 + ((b.toNat : Int) - 65) + 1, rfl, by omega, by omega, ?_, by rw [Int.natCast_add]; rfl, rfl⟩
      have hg : greatB b.toNat = true := by simp [greatB, g1, g2]
      rcases hl with ⟨rfl, rfl⟩ | ⟨rfl, a, ha, hga, rfl⟩ | ⟨rfl, _⟩
      ·exact .inr (.inl ⟨rfl, b, hb, hg, by omega⟩)
      ·exact .inr (.inr ⟨rfl, a, b, ha, hga, hb, hg, by omega⟩)
      ·omega
     ·have hng : greatB b.toNat = false := by simp [greatB, g2]
      have hend : n = 2 ∨ (∀ b, t[n]? = some b → greatB b.toNat = false) := .inr fun x hx => by rw [hb] at hx; cases hx; exact hng
      rw [zan4 hl hend]
      cases ha : atoiN (t.extract n t.size) with
      | none =>
       have hat' := fun S K => hat (t.extract n t.size) hsz S K
       simp only [atoiV, ha] at hat'
       have hf : (if n = 0 then none else tryPl t n col) = none := by split <;> simp [tryPl, ha]
       rw [hf]
       simp -dsimp only [↓kpre, kpost, light, ret1, cellF, afill, setAll, simprocAttr, ↓zaci, zacj, e0, e5, e6, h0, hns, zadg, Int.le_refl, ↓hat', hs', h2, hb, g1, g2, zajd _ _ hms, tripF]
      | some v =>
       have hat' := fun S K => hat (t.extract n t.size) hsz S K
       simp only [atoiV, ha] at hat'
       cases hp : placeF col v
       ·have hf : (if n = 0 then none else tryPl t n col) = none := by split <;> simp [tryPl, ha, hp]
        rw [hf]
        simp -dsimp only [↓kpre, kpost, light, ret1, cellF, afill, setAll, simprocAttr, ↓zaci, zacj, e0, e5, e6, h0, hns, zadg, Int.le_refl, ↓hat', hs', h2, hb, g1, g2, zae0, ↓zae3 hX1, hp, tripF]
       ·have hpp := hp
        simp only [placeF, Bool.and_eq_true, decide_eq_true_eq] at hpp
        have hn0 : n ≠ 0 := fun h => by have := c2 h; omega
        rw [if_neg hn0]
        have hwp := fun S K => zaac (S := S) (K := K) (args := [.agg ⟨[.string .empty, .int .i64 col, .int .i64 v]⟩]) (zak8 hX2 .empty col v hp (hit v (by omega) (by omega))) rfl rfl rfl
        by_cases he : plS col v = t
        ·have hf : tryPl t n col = some (col, v) := by simp [tryPl, ha, hp, he]
         rw [hf]
         simp -dsimp only [↓kpre, kpost, light, ret1, cellF, afill, setAll, simprocAttr, ↓zaci, zacj, e0, e5, e6, h0, hns, zadg, Int.le_refl, ↓hat', hs', h2, hb, g1, g2, zae0, ↓zae3 hX1, hp, ↓hwp, zac9, he, tripF]
         refine zaei [[], [], [], [], [], [], []] false (by kernel_rfl) (by kernel_rfl) (by kernel_rfl) ?_
         simp -dsimp only [↓kpre, kpost, light, ret1, cellF, afill, setAll, simprocAttr, ↓opre, opost, vspan, ↓zaci, zacj, e0, e5, e6, tripF]
        ·have hf : tryPl t n col = none := by simp [tryPl, ha, hp, he]
         rw [hf]
         simp -dsimp only [↓kpre, kpost, light, ret1, cellF, afill, setAll, simprocAttr, ↓zaci, zacj, e0, e5, e6, h0, hns, zadg, Int.le_refl, ↓hat', hs', h2, hb, g1, g2, zae0, ↓zae3 hX1, hp, ↓hwp, zac9, he, tripF]
    ·have hng : greatB b.toNat = false := by simp [greatB, g1]
     have hend : n = 2 ∨ (∀ b, t[n]? = some b → greatB b.toNat = false) := .inr fun x hx => by rw [hb] at hx; cases hx; exact hng
     rw [zan4 hl hend]
     cases ha : atoiN (t.extract n t.size) with
     | none =>
      have hat' := fun S K => hat (t.extract n t.size) hsz S K
      simp only [atoiV, ha] at hat'
      have hf : (if n = 0 then none else tryPl t n col) = none := by split <;> simp [tryPl, ha]
      rw [hf]
      simp -dsimp only [↓kpre, kpost, light, ret1, cellF, afill, setAll, simprocAttr, ↓zaci, zacj, e0, e5, e6, h0, hns, zadg, Int.le_refl, ↓hat', hs', h2, hb, g1, zajd _ _ hms, tripF]
     | some v =>
      have hat' := fun S K => hat (t.extract n t.size) hsz S K
      simp only [atoiV, ha] at hat'
      cases hp : placeF col v
      ·have hf : (if n = 0 then none else tryPl t n col) = none := by split <;> simp [tryPl, ha, hp]
       rw [hf]
       simp -dsimp only [↓kpre, kpost, light, ret1, cellF, afill, setAll, simprocAttr, ↓zaci, zacj, e0, e5, e6, h0, hns, zadg, Int.le_refl, ↓hat', hs', h2, hb, g1, zae0, ↓zae3 hX1, hp, tripF]
      ·have hpp := hp
       simp only [placeF, Bool.and_eq_true, decide_eq_true_eq] at hpp
       have hn0 : n ≠ 0 := fun h => by have := c2 h; omega
       rw [if_neg hn0]
       have hwp := fun S K => zaac (S := S) (K := K) (args := [.agg ⟨[.string .empty, .int .i64 col, .int .i64 v]⟩]) (zak8 hX2 .empty col v hp (hit v (by omega) (by omega))) rfl rfl rfl
       by_cases he : plS col v = t
       ·have hf : tryPl t n col = some (col, v) := by simp [tryPl, ha, hp, he]
        rw [hf]
        simp -dsimp only [↓kpre, kpost, light, ret1, cellF, afill, setAll, simprocAttr, ↓zaci, zacj, e0, e5, e6, h0, hns, zadg, Int.le_refl, ↓hat', hs', h2, hb, g1, zae0, ↓zae3 hX1, hp, ↓hwp, zac9, he, tripF]
        refine zaei [[], [], [], [], [], [], []] false (by kernel_rfl) (by kernel_rfl) (by kernel_rfl) ?_
        simp -dsimp only [↓kpre, kpost, light, ret1, cellF, afill, setAll, simprocAttr, ↓opre, opost, vspan, ↓zaci, zacj, e0, e5, e6, tripF]
       ·have hf : tryPl t n col = none := by simp [tryPl, ha, hp, he]
        rw [hf]
        simp -dsimp only [↓kpre, kpost, light, ret1, cellF, afill, setAll, simprocAttr, ↓zaci, zacj, e0, e5, e6, h0, hns, zadg, Int.le_refl, ↓hat', hs', h2, hb, g1, zae0, ↓zae3 hX1, hp, ↓hwp, zac9, he, tripF]
   ·have hend : n = 2 ∨ (∀ b, t[n]? = some b → greatB b.toNat = false) := .inl (by omega)
    rw [zan4 hl hend]
    cases ha : atoiN (t.extract n t.size) with
    | none =>
     have hat' := fun S K => hat (t.extract n t.size) hsz S K
     simp only [atoiV, ha] at hat'
     have hf : (if n = 0 then none else tryPl t n col) = none := by split <;> simp [tryPl, ha]
     rw [hf]
     simp -dsimp only [↓kpre, kpost, light, ret1, cellF, afill, setAll, simprocAttr, ↓zaci, zacj, e0, e5, e6, h0, hns, zadg, Int.le_refl, ↓hat', hs', h2, zajd _ _ hms, tripF]
    | some v =>
     have hat' := fun S K => hat (t.extract n t.size) hsz S K
     simp only [atoiV, ha] at hat'
     cases hp : placeF col v
     ·have hf : (if n = 0 then none else tryPl t n col) = none := by split <;> simp [tryPl, ha, hp]
      rw [hf]
      simp -dsimp only [↓kpre, kpost, light, ret1, cellF, afill, setAll, simprocAttr, ↓zaci, zacj, e0, e5, e6, h0, hns, zadg, Int.le_refl, ↓hat', hs', h2, zae0, ↓zae3 hX1, hp, tripF]
     ·have hpp := hp
      simp only [placeF, Bool.and_eq_true, decide_eq_true_eq] at hpp
      have hn0 : n ≠ 0 := fun h => by have := c2 h; omega
      rw [if_neg hn0]
      have hwp := fun S K => zaac (S := S) (K := K) (args := [.agg ⟨[.string .empty, .int .i64 col, .int .i64 v]⟩]) (zak8 hX2 .empty col v hp (hit v (by omega) (by omega))) rfl rfl rfl
      by_cases he : plS col v = t
      ·have hf : tryPl t n col = some (col, v) := by simp [tryPl, ha, hp, he]
       rw [hf]
       simp -dsimp only [↓kpre, kpost, light, ret1, cellF, afill, setAll, simprocAttr, ↓zaci, zacj, e0, e5, e6, h0, hns, zadg, Int.le_refl, ↓hat', hs', h2, zae0, ↓zae3 hX1, hp, ↓hwp, zac9, he, tripF]
       refine zaei [[], [], [], [], [], [], []] false (by kernel_rfl) (by kernel_rfl) (by kernel_rfl) ?_
       simp -dsimp only [↓kpre, kpost, light, ret1, cellF, afill, setAll, simprocAttr, ↓opre, opost, vspan, ↓zaci, zacj, e0, e5, e6, tripF]
      ·have hf : tryPl t n col = none := by simp [tryPl, ha, hp, he]
       rw [hf]
       simp -dsimp only [↓kpre, kpost, light, ret1, cellF, afill, setAll, simprocAttr, ↓zaci, zacj, e0, e5, e6, h0, hns, zadg, Int.le_refl, ↓hat', hs', h2, zae0, ↓zae3 hX1, hp, ↓hwp, zac9, he, tripF]
  ·have hs' : ¬ (n : Int) < t.size := by omega
   have hend : n = 2 ∨ (∀ b, t[n]? = some b → greatB b.toNat = false) := .inr fun x hx => by rw [getElem?_neg t n hs] at hx; cases hx
   rw [zan4 hl hend]
   cases ha : atoiN (t.extract n t.size) with
   | none =>
    have hat' := fun S K => hat (t.extract n t.size) hsz S K
    simp only [atoiV, ha] at hat'
    have hf : (if n = 0 then none else tryPl t n col) = none := by split <;> simp [tryPl, ha]
    rw [hf]
    simp -dsimp only [↓kpre, kpost, light, ret1, cellF, afill, setAll, simprocAttr, ↓zaci, zacj, e0, e5, e6, h0, hns, zadg, Int.le_refl, ↓hat', hs', zajd _ _ hms, tripF]
   | some v =>
    have hat' := fun S K => hat (t.extract n t.size) hsz S K
    simp only [atoiV, ha] at hat'
    cases hp : placeF col v
    ·have hf : (if n = 0 then none else tryPl t n col) = none := by split <;> simp [tryPl, ha, hp]
     rw [hf]
     simp -dsimp only [↓kpre, kpost, light, ret1, cellF, afill, setAll, simprocAttr, ↓zaci, zacj, e0, e5, e6, h0, hns, zadg, Int.le_refl, ↓hat', hs', zae0, ↓zae3 hX1, hp, tripF]
    ·have hpp := hp
     simp only [placeF, Bool.and_eq_true, decide_eq_true_eq] at hpp
     have hn0 : n ≠ 0 := fun h => by have := c2 h; omega
     rw [if_neg hn0]
     have hwp := fun S K => zaac (S := S) (K := K) (args := [.agg ⟨[.string .empty, .int .i64 col, .int .i64 v]⟩]) (zak8 hX2 .empty col v hp (hit v (by omega) (by omega))) rfl rfl rfl
     by_cases he : plS col v = t
     ·have hf : tryPl t n col = some (col, v) := by simp [tryPl, ha, hp, he]
      rw [hf]
      simp -dsimp only [↓kpre, kpost, light, ret1, cellF, afill, setAll, simprocAttr, ↓zaci, zacj, e0, e5, e6, h0, hns, zadg, Int.le_refl, ↓hat', hs', zae0, ↓zae3 hX1, hp, ↓hwp, zac9, he, tripF]
      refine zaei [[], [], [], [], [], [], []] false (by kernel_rfl) (by kernel_rfl) (by kernel_rfl) ?_
      simp -dsimp only [↓kpre, kpost, light, ret1, cellF, afill, setAll, simprocAttr, ↓opre, opost, vspan, ↓zaci, zacj, e0, e5, e6, tripF]
     ·have hf : tryPl t n col = none := by simp [tryPl, ha, hp, he]
      rw [hf]
      simp -dsimp only [↓kpre, kpost, light, ret1, cellF, afill, setAll, simprocAttr, ↓zaci, zacj, e0, e5, e6, h0, hns, zadg, Int.le_refl, ↓hat', hs', zae0, ↓zae3 hX1, hp, ↓hwp, zac9, he, tripF]
end
end Go.Proofs.YtliemjbafgnnbaaDoor.Abs
/- The reference reads a column and a row. -/
namespace Go.Proofs.YtliemjbafgnnbaaDoor.Abs
open Go
attribute [local irreducible] Hold VReg Vf Vc VWP With VStp Vcallee Vp VE
section
variable {X : VOuter}
end
end Go.Proofs.YtliemjbafgnnbaaDoor.Abs
/- The law AddrTells: the plain side. -/
namespace Go.Proofs.YtliemjbafgnnbaaDoor.Abs
open Go
theorem zazd {t : ByteArray} {c r : Int} (h : atF t = some (c, r)) : placeF c r = true ∧ plS c r = t := by
 have go : ∀ n col, tryPl t n col = some (c, r) → placeF c r = true ∧ plS c r = t := by
  intro n col h
  unfold tryPl at h
  split at h
  ·split at h
   ·rename_i hh
    cases h
    exact hh
   ·cases h
  ·cases h
 unfold atF at h
 split at h
 ·split at h
  ·split at h
   ·split at h
    ·exact go _ _ h
    ·exact go _ _ h
   ·exact go _ _ h
  ·cases h
 ·cases h
end Go.Proofs.YtliemjbafgnnbaaDoor.Abs
/- Cells are read: the program and the reference. -/
namespace Go.Proofs.YtliemjbafgnnbaaDoor.Abs
open Go
attribute [local irreducible] Hold VReg Vf Vc VWP With VStp Vcallee Vp VE
section
variable {X : VOuter}
end
end Go.Proofs.YtliemjbafgnnbaaDoor.Abs
/- Cells are read: the program. -/
namespace Go.Proofs.YtliemjbafgnnbaaDoor.Abs
open Go
attribute [local irreducible] Hold VReg Vf Vc VWP With VStp Vcallee Vp VE
section
variable {X : VOuter}
end
end Go.Proofs.YtliemjbafgnnbaaDoor.Abs
/- The law AddrTells: what is read, by the program as by the reference. -/
namespace Go.Proofs.YtliemjbafgnnbaaDoor.Abs
open Go
end Go.Proofs.YtliemjbafgnnbaaDoor.Abs
/- The law AddrTells: what the reference reads, the program reads. -/
namespace Go.Proofs.YtliemjbafgnnbaaDoor.Abs
open Go
end Go.Proofs.YtliemjbafgnnbaaDoor.Abs
