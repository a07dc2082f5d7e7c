/- Ranges of cells: the reference. -/
import Derived.Test.YtliemjbafgnnbaaGreatDoorMB1
import Derived.Test.YtliemjbafgnnbaaGreatDoorPW29
import Derived.Test.YtliemjbafgnnbaaGreatDoorPT0
import Derived.Lib.ItoaNum
import Derived.Lib.AtoiAll
import Derived.Lib.IndexMore
set_option linter.defProp false
set_option linter.unnecessarySimpa false
set_option linter.unusedSimpArgs false
set_option linter.unusedVariables false
set_option maxRecDepth 4000
set_option maxHeartbeats 0
namespace Go.Proofs.YtliemjbafgnnbaaGreatDoor.Abs
open Go
def zala := @vfk38
def zalg := And.intro (And.intro (And.intro (And.intro (@vld26) (@vgt26)) (And.intro (@vld9) (@vgt9))) (And.intro (And.intro (@vld3) (@vgt3)) (And.intro (@za0x) (@za05)))) (And.intro (And.intro (And.intro (@za0y) (@za06)) (And.intro (@zari) (@zarp))) (And.intro (And.intro (@zako) (@zaku)) (And.intro (@zakp) (And.intro (@zakv) (@Tryz.results39)))))
attribute [local irreducible] Hold VReg Vf Vc VWP With VStp Vcallee Vp VE
structure ROff (X : VOuter) : Prop where
 name : X 16 = none
 small : X 30 = none
 digit : X 28 = none
 right : X 38 = none
 area : X 39 = none
section
variable {X : VOuter}
theorem rr_c (h : ROff X) (s : ByteArray) (c r : Int) {S : VH} {K : VCont} : Vcallee Tryz.prog X 38 [.agg ⟨[.string s, .int .i64 c, .int .i64 r]⟩] S K = K (.bool (celF s c r)) [] S [] false := za3i h.right h.name h.small h.digit s c r
theorem za5y (h : ROff X) (s : ByteArray) (c r : Int) (s' : ByteArray) (c' r' : Int) : Vp Tryz.prog X 39 [.agg ⟨[.string s, .int .i64 c, .int .i64 r, .string s', .int .i64 c', .int .i64 r']⟩] (.tuple ⟨[.int .i64 (areaN ⟨s, c, r⟩ ⟨s', c', r'⟩), .bool (areaF ⟨s, c, r⟩ ⟨s', c', r'⟩)]⟩) := by
 unfold Vp
 refine zaay h.area Tryz.func39 rfl (by kernel_rfl) (by show 1 ≤ _; decide) ?_
 cases h1 : celF s c r
 ·simp -dsimp only [↓kpre, kpost, light, ret1, cellF, afill, setAll, simprocAttr, ↓zala, zalg, ↓rr_c h, h1]
  simp [areaN, areaF, h1]
 ·cases h2 : celF s' c' r'
  ·simp -dsimp only [↓kpre, kpost, light, ret1, cellF, afill, setAll, simprocAttr, ↓zala, zalg, ↓rr_c h, h1, h2]
   simp [areaN, areaF, h1, h2]
  ·by_cases h3 : s = s'
   ·subst h3
    by_cases h4 : c' < c
    ·simp -dsimp only [↓kpre, kpost, light, ret1, cellF, afill, setAll, simprocAttr, ↓zala, zalg, ↓rr_c h, h1, h2, zacq, h4]
     have : ¬ c ≤ c' := by omega
     simp [areaN, areaF, h1, h2, this]
    ·by_cases h5 : r' < r
     ·simp -dsimp only [↓kpre, kpost, light, ret1, cellF, afill, setAll, simprocAttr, ↓zala, zalg, ↓rr_c h, h1, h2, zacq, h4, h5]
      have : ¬ r ≤ r' := by omega
      simp [areaN, areaF, h1, h2, this]
     ·have p1 := zah0 h1
      have p2 := zah0 h2
      have w1 : IntKind.i64.wrap (c' - c) = c' - c := zaar (by omega) (by omega)
      have w2 : IntKind.i64.wrap (c' - c + 1) = c' - c + 1 := zaar (by omega) (by omega)
      have w3 : IntKind.i64.wrap (r' - r) = r' - r := zaar (by omega) (by omega)
      have w4 : IntKind.i64.wrap (r' - r + 1) = r' - r + 1 := zaar (by omega) (by omega)
      have hp : 0 ≤ (c' - c + 1) * (r' - r + 1) ∧ (c' - c + 1) * (r' - r + 1) ≤ 702 * 999 := ⟨Int.mul_nonneg (by omega) (by omega), Int.mul_le_mul (by omega) (by omega) (by omega) (by omega)⟩
      have w5 : IntKind.i64.wrap ((c' - c + 1) * (r' - r + 1)) = (c' - c + 1) * (r' - r + 1) := zaar (by omega) (by omega)
      simp -dsimp only [↓kpre, kpost, light, ret1, cellF, afill, setAll, simprocAttr, ↓zala, zalg, ↓rr_c h, h1, h2, zacq, h4, h5, w1, w2, w3, w4, w5]
      have e1 : c ≤ c' := by omega
      have e2 : r ≤ r' := by omega
      simp [areaN, areaF, h1, h2, e1, e2]
   ·simp -dsimp only [↓kpre, kpost, light, ret1, cellF, afill, setAll, simprocAttr, ↓zala, zalg, ↓rr_c h, h1, h2, zacq, h3]
    simp [areaN, areaF, h1, h2, h3]
theorem zavh (h : ROff X) (s : ByteArray) (c r : Int) (s' : ByteArray) (c' r' : Int) {S : VH} {K : VCont} : Vcallee Tryz.prog X 39 [.agg ⟨[.string s, .int .i64 c, .int .i64 r, .string s', .int .i64 c', .int .i64 r']⟩] S K = K (.tuple ⟨[.int .i64 (areaN ⟨s, c, r⟩ ⟨s', c', r'⟩), .bool (areaF ⟨s, c, r⟩ ⟨s', c', r'⟩)]⟩) [] S [] false := zaag (za5y h s c r s' c' r') rfl rfl rfl
end
end Go.Proofs.YtliemjbafgnnbaaGreatDoor.Abs
/- How cells are written: the program and the reference. -/
namespace Go.Proofs.YtliemjbafgnnbaaGreatDoor.Abs
open Go
def zaz3 := And.intro (@vcv5) (And.intro (@vcv9) (@vfk93))
def zaz8 := And.intro (And.intro (@vld3) (And.intro (@vgt3) (@zako))) (And.intro (And.intro (@zaku) (@zakp)) (And.intro (@zakv) (@Tryz.results95)))
attribute [local irreducible] Hold VReg Vf Vc VWP With VStp Vcallee Vp VE
theorem zaor {P : Program} {t : TypeId} {x y : Operand} {a b : ByteArray} (ha : a.size ≤ 1000) (hb : b.size ≤ 1000) : abin P .add t x y (.string a) (.string b) = some (.string (a ++ b)) := by
 have : abin P .add t x y (.string a) (.string b) = onlyFlat (pureRun P (Op.stringOp .add a b)) := rfl
 rw [this]
 unfold Op.stringOp
 simp only
 rw [if_neg (by simp only [IntKind.max, IntKind.signed, IntKind.bits]; simp; omega)]
 rfl
theorem za4s {P : Program} {t : TypeId} {x y : Operand} {k : IntKind} {a b : Int} (hb : b ≠ 0) : abin P .rem t x y (.int k a) (.int k b) = some (.int k (a.tmod b)) := by
 have h : pureRun P (Op.intDiv .rem k a b) = some (.int k (a.tmod b)) := by
  unfold Op.intDiv
  rw [if_neg hb]
  rfl
 have h2 : abin P .rem t x y (.int k a) (.int k b) = onlyFlat (pureRun P (Op.intDiv .rem k a b)) := by cases k <;> rfl
 rw [h2, h]
 rfl
theorem zaze {P : Program} {t : TypeId} {x y : Operand} {k : IntKind} {a b : Int} (hb : b ≠ 0) : abin P .quo t x y (.int k a) (.int k b) = some (.int k (k.wrap (a.tdiv b))) := by
 have h : pureRun P (Op.intDiv .quo k a b) = some (.int k (k.wrap (a.tdiv b))) := by
  unfold Op.intDiv
  rw [if_neg hb]
  rfl
 have h2 : abin P .quo t x y (.int k a) (.int k b) = onlyFlat (pureRun P (Op.intDiv .quo k a b)) := by cases k <;> rfl
 rw [h2, h]
 rfl
def chr1 (n : Int) : ByteArray := ⟨#[UInt8.ofNat n.toNat]⟩
theorem zaf2 (n : Int) : (chr1 n).size = 1 := rfl
def colS (c : Int) : ByteArray := if 26 < c then chr1 (64 + (c - 1) / 26) ++ chr1 (65 + (c - 1) % 26) else chr1 (65 + (c - 1) % 26)
def itoaS (r : Int) : ByteArray := ⟨(Lib.itoa r).toArray⟩
def plS (c r : Int) : ByteArray := colS c ++ itoaS r
theorem vconv26 : ((List.range 26).all fun d => match vconv Tryz.prog 5 9 (.int .u8 (Int.ofNat (65 + d))) with | some (.string s) => s.data.toList == [UInt8.ofNat (65 + d)] | _ => false) = true := by kernel_rfl
theorem zare {n : Int} (h0 : 65 ≤ n) (h1 : n ≤ 90) : vconv Tryz.prog 5 9 (.int .u8 n) = some (.string (chr1 n)) := by
 obtain ⟨d, rfl⟩ : ∃ d : Nat, n = Int.ofNat (65 + d) := ⟨(n - 65).toNat, by simp; omega⟩
 have := List.all_eq_true.1 vconv26 d (List.mem_range.2 (by simp at h1; omega))
 split at this
 ·rename_i s hs
  rw [hs]
  have h2 : s.data.toList = [UInt8.ofNat (65 + d)] := by simpa using this
  have h3 : s = chr1 (Int.ofNat (65 + d)) := by
   have e1 : s = ⟨(s.data.toList).toArray⟩ := rfl
   rw [e1, h2]; rfl
  rw [h3]
 ·cases this
theorem zawc {n : Int} (h0 : 0 ≤ n) (h1 : n ≤ 255) : vconv Tryz.prog 3 5 (.int .i64 n) = some (.int .u8 n) := by
 have e : vconv Tryz.prog 3 5 (.int .i64 n) = some (.int .u8 (IntKind.u8.wrap n)) := by kernel_rfl
 rw [e]
 congr 2
 simp only [IntKind.wrap, IntKind.bits, IntKind.signed]
 simp
 omega
def dec3 (n : Int) : ByteArray := if n ≤ 9 then chr1 (48 + n) else if n ≤ 99 then chr1 (48 + n / 10) ++ chr1 (48 + n % 10) else (chr1 (48 + n / 10 / 10) ++ chr1 (48 + n / 10 % 10)) ++ chr1 (48 + n % 10)
theorem zaoy : ((List.range 1000).all fun n => (dec3 (Int.ofNat n)).data.toList == Lib.itoa (Int.ofNat n)) = true := by kernel_rfl
theorem zat3 {n : Int} (h0 : 0 ≤ n) (h1 : n ≤ 999) : dec3 n = itoaS n := by
 obtain ⟨d, rfl⟩ := Int.eq_ofNat_of_zero_le h0
 have := List.all_eq_true.1 zaoy d (List.mem_range.2 (by omega))
 have e1 : dec3 d = ⟨((dec3 d).data.toList).toArray⟩ := rfl
 rw [e1, show (dec3 (d : Int)).data.toList = Lib.itoa d by simpa using this]
 rfl
theorem zaxl (n : Int) : (dec3 n).size ≤ 3 := by
 unfold dec3
 split
 ·rw [zaf2]; decide
 ·split
  ·simp [ByteArray.size_append, zaf2]
  ·simp [ByteArray.size_append, zaf2]
theorem zaxi (c : Int) : (colS c).size ≤ 2 := by
 unfold colS
 split
 ·simp [ByteArray.size_append, zaf2]
 ·simp [zaf2]
section
variable {X : VOuter}
theorem zams (hX : X 95 = none) (s : ByteArray) (c r : Int) (hc : placeF c r = true) (hit : ∀ S K, Vcallee Tryz.prog X 93 [.int .i64 r] S K = K (.string (itoaS r)) [] S [] false) : Vp Tryz.prog X 95 [.agg ⟨[.string s, .int .i64 c, .int .i64 r]⟩] (.string (plS c r)) := by
 simp only [placeF, Bool.and_eq_true, decide_eq_true_eq] at hc
 obtain ⟨⟨⟨h1, h2⟩, h3⟩, h4⟩ := hc
 have w1 : IntKind.i64.wrap (c - 1) = c - 1 := zaar (by omega) (by omega)
 have m1 : (c - 1).tmod 26 = (c - 1) % 26 := Int.tmod_eq_emod_of_nonneg (by omega)
 have m2 : (c - 1).tdiv 26 = (c - 1) / 26 := Int.tdiv_eq_ediv_of_nonneg (by omega)
 have w2 : IntKind.i64.wrap (65 + (c - 1) % 26) = 65 + (c - 1) % 26 := zaar (by omega) (by omega)
 have w0 : IntKind.i64.wrap ((c - 1) / 26) = (c - 1) / 26 := zaar (by omega) (by omega)
 have w3 : IntKind.i64.wrap (65 + (c - 1) / 26) = 65 + (c - 1) / 26 := zaar (by omega) (by omega)
 have w4 : IntKind.i64.wrap (65 + (c - 1) / 26 - 1) = 64 + (c - 1) / 26 := by rw [show 65 + (c - 1) / 26 - 1 = 64 + (c - 1) / 26 by omega]; exact zaar (by omega) (by omega)
 have r1 := fun t x y => za4s (P := Tryz.prog) (t := t) (x := x) (y := y) (k := .i64) (a := c - 1) (b := 26) (by omega)
 have r2 := fun t x y => zaze (P := Tryz.prog) (t := t) (x := x) (y := y) (k := .i64) (a := c - 1) (b := 26) (by omega)
 have v1 := zawc (n := 65 + (c - 1) % 26) (by omega) (by omega)
 have x1 := zare (n := 65 + (c - 1) % 26) (by omega) (by omega)
 have hsz : (itoaS r).size ≤ 3 := by rw [← zat3 (by omega) h4]; exact zaxl r
 have hcs := zaxi c
 unfold Vp
 refine zaay hX Tryz.func95 rfl (by kernel_rfl) (by show 1 ≤ _; decide) ?_
 by_cases h5 : 26 < c
 ·have v2 := zawc (n := 64 + (c - 1) / 26) (by omega) (by omega)
  have x2 := zare (n := 64 + (c - 1) / 26) (by omega) (by omega)
  have hcc : colS c = chr1 (64 + (c - 1) / 26) ++ chr1 (65 + (c - 1) % 26) := by unfold colS; rw [if_pos h5]
  rw [hcc] at hcs
  have a1 := fun t x y => zaor (P := Tryz.prog) (t := t) (x := x) (y := y) (a := chr1 (64 + (c - 1) / 26)) (b := chr1 (65 + (c - 1) % 26)) (by rw [zaf2]; decide) (by rw [zaf2]; decide)
  have a2 := fun t x y => zaor (P := Tryz.prog) (t := t) (x := x) (y := y) (a := chr1 (64 + (c - 1) / 26) ++ chr1 (65 + (c - 1) % 26)) (b := itoaS r) (by omega) (by omega)
  unfold plS
  rw [hcc]
  simp -dsimp only [↓kpre, kpost, light, ret1, cellF, afill, setAll, simprocAttr, ↓zaz3, zaz8, w1, r1, r2, m1, m2, w0, w2, w3, w4, v1, v2, x1, x2, h5, a1, a2, ↓hit]
 ·have hcc : colS c = chr1 (65 + (c - 1) % 26) := by unfold colS; rw [if_neg h5]
  rw [hcc] at hcs
  have a2 := fun t x y => zaor (P := Tryz.prog) (t := t) (x := x) (y := y) (a := chr1 (65 + (c - 1) % 26)) (b := itoaS r) (by omega) (by omega)
  unfold plS
  rw [hcc]
  simp -dsimp only [↓kpre, kpost, light, ret1, cellF, afill, setAll, simprocAttr, ↓zaz3, zaz8, w1, r1, m1, w2, v1, x1, h5, a2, ↓hit]
end
end Go.Proofs.YtliemjbafgnnbaaGreatDoor.Abs
/- How cells are written: small numbers' digits, the reference's place, and the whole. -/
namespace Go.Proofs.YtliemjbafgnnbaaGreatDoor.Abs
open Go
attribute [local irreducible] Hold VReg Vf Vc VWP With VStp Vcallee Vp VE
section
variable {X : VOuter}
theorem zahz {s : ByteArray} {c r : Int} (h : celF s c r = true) : s.size ≤ 8 ∧ placeF c r = true := by
 simp only [celF, nameF, Bool.and_eq_true, decide_eq_true_eq] at h
 exact ⟨by omega, h.2⟩
end
end Go.Proofs.YtliemjbafgnnbaaGreatDoor.Abs
/- A column and a row are read. -/
namespace Go.Proofs.YtliemjbafgnnbaaGreatDoor.Abs
open Go
attribute [local irreducible] Hold VReg Vf Vc VWP With VStp Vcallee Vp VE
def greatB (n : Int) : Bool := decide (65 ≤ n) && decide (n ≤ 90)
def atoiN (s : ByteArray) : Option Int := match Lib.atoiAll s.data.toList with
 | .ok v => some v
 | _ => none
def tryPl (t : ByteArray) (n : Nat) (col : Int) : Option (Int × Int) := match atoiN (t.extract n t.size) with
 | some v => if placeF col v = true ∧ plS col v = t then some (col, v) else none
 | none => none
def atF (t : ByteArray) : Option (Int × Int) := match t[0]? with
 | some a => if greatB a.toNat then (match t[1]? with
     | some b => if greatB b.toNat then tryPl t 2 (((a.toNat : Int) - 64) * 26 + ((b.toNat : Int) - 64)) else tryPl t 1 ((a.toNat : Int) - 64)
     | none => tryPl t 1 ((a.toNat : Int) - 64)) else none
 | none => none
def tripF : Option (Int × Int) → Value
 | some (c, r) => .tuple ⟨[.int .i64 c, .int .i64 r, .bool true]⟩
 | none => .tuple ⟨[.int .i64 0, .int .i64 0, .bool false]⟩
end Go.Proofs.YtliemjbafgnnbaaGreatDoor.Abs
/- A column and a row are read: the walk. -/
namespace Go.Proofs.YtliemjbafgnnbaaGreatDoor.Abs
open Go
def zac6 := And.intro (And.intro (@val26) (@vcv3)) (And.intro (@vfk57) (And.intro (@vfk94) (@vfk95)))
def zac7 := And.intro (And.intro (And.intro (And.intro (@vld3) (@vgt3)) (And.intro (@vld26) (@vgt26))) (And.intro (And.intro (@vst26) (@vst3)) (And.intro (@zako) (And.intro (@zaku) (@zakp))))) (And.intro (And.intro (And.intro (@zakv) (@bd26)) (And.intro (@pl26_0) (@pl26_1))) (And.intro (And.intro (@pl26_2) (@ix9)) (And.intro (@vsl9) (And.intro (@vlr9) (@Tryz.results88)))))
attribute [local irreducible] Hold VReg Vf Vc VWP With VStp Vcallee Vp VE
theorem zad1 {e : Env} : aeval e (.const .nilIface) = .nilIface := _root_.id rfl
theorem zafu (i : Nat) : vbin Tryz.prog .neq 86 (.tmp i) (.const .nilIface) .nilIface .nilIface = some (.bool false) := by kernel_rfl
theorem err_ms : ∃ ms, Tryz.prog.underlying 86 = some (.interface ms) := ⟨_, Tryz.underlying86⟩
theorem zajg {n : Int} (h0 : 0 ≤ n) (h1 : n ≤ 255) : vconv Tryz.prog 5 3 (.int .u8 n) = some (.int .i64 n) := by
 have e : vconv Tryz.prog 5 3 (.int .u8 n) = some (.int .i64 (IntKind.i64.wrap n)) := by kernel_rfl
 rw [e, zaar (by omega) (by omega)]
def atoiV (T : TypeId) (w : ByteArray → Int) (s : ByteArray) : Value := match atoiN s with
 | some v => .tuple ⟨[.int .i64 v, .nilIface]⟩
 | none => .tuple ⟨[.int .i64 (w s), .iface T undef]⟩
def leadP (t : ByteArray) (n : Nat) (col : Int) : Prop := (n = 0 ∧ col = 0) ∨ (n = 1 ∧ ∃ a, t[0]? = some a ∧ greatB a.toNat = true ∧ col = (a.toNat : Int) - 64) ∨ (n = 2 ∧ ∃ a b, t[0]? = some a ∧ greatB a.toNat = true ∧ t[1]? = some b ∧ greatB b.toNat = true ∧ col = ((a.toNat : Int) - 64) * 26 + ((b.toNat : Int) - 64))
theorem zapy {t : ByteArray} {n : Nat} {col : Int} (h : leadP t n col) (hend : n = 2 ∨ (∀ b, t[n]? = some b → greatB b.toNat = false)) : atF t = if n = 0 then none else tryPl t n col := by
 unfold atF
 rcases h with ⟨rfl, rfl⟩ | ⟨rfl, a, ha, hg, rfl⟩ | ⟨rfl, a, b, ha, hg, hb, hg2, rfl⟩
 ·rw [if_pos rfl]
  have hend := hend.resolve_left (by decide)
  cases h0 : t[0]? with
  | none => rfl
  | some a => simp [hend a h0]
 ·rw [ha, if_neg (by decide)]
  have hend := hend.resolve_left (by decide)
  simp only [hg, if_true]
  cases h1 : t[1]? with
  | none => rfl
  | some b => simp [hend b h1]
 ·rw [ha, hb, if_neg (by decide)]
  simp [hg, hg2]
theorem zax6 {t : ByteArray} {n : Nat} {col : Int} (h : leadP t n col) : 0 ≤ col ∧ col ≤ 702 ∧ (n = 0 → col = 0) := by
 rcases h with ⟨rfl, rfl⟩ | ⟨rfl, a, ha, hg, rfl⟩ | ⟨rfl, a, b, ha, hg, hb, hg2, rfl⟩
 ·exact ⟨by decide, by decide, fun _ => rfl⟩
 ·simp only [greatB, Bool.and_eq_true, decide_eq_true_eq] at hg
  exact ⟨by omega, by omega, fun h => by cases h⟩
 ·simp only [greatB, Bool.and_eq_true, decide_eq_true_eq] at hg hg2
  exact ⟨by omega, by omega, fun h => by cases h⟩
section
variable {X : VOuter}
theorem at_p (hX : X 88 = none) (hX1 : X 94 = none) (hX2 : X 95 = none) (T : TypeId) (w : ByteArray → Int)
    (hit : ∀ r, 1 ≤ r → r ≤ 999 → ∀ S K, Vcallee Tryz.prog X 93 [.int .i64 r] S K = K (.string (itoaS r)) [] S [] false)
    (hat : ∀ s : ByteArray, s.size ≤ 1000 → ∀ S K, Vcallee Tryz.prog X 57 [.string s] S K = K (atoiV T w s) [] S [] false)
    (t : ByteArray) (ht : t.size ≤ 1000) : Vp Tryz.prog X 88 [.string t] (tripF (atF t)) := by
 unfold Vp
 refine zaay hX Tryz.func88 rfl (by kernel_rfl) (by show 1 ≤ _; decide) ?_
 simp -dsimp only [↓kpre, kpost, light, ret1, cellF, afill, setAll, simprocAttr, ↓zac6, zac7]
 refine zabw (fun m e S => ∃ (n : Nat) (col : Int), m = 2 - n ∧ n ≤ 2 ∧ n ≤ t.size ∧ leadP t n col ∧ eget e 0 = .string t ∧ eget e 5 = .pointer (some { block := 0, off := 0 }) ∧ eget e 6 = .int .i64 n ∧ S = ⟨[], [.cells true 26 [.string .empty, .int .i64 col, .int .i64 0]], []⟩) 2 ?_ ?_
 ·refine ⟨0, 0, rfl, by omega, Nat.zero_le _, .inl ⟨rfl, rfl⟩, ?_, ?_, ?_, ?_⟩ <;> first | (simp only [↓epre, epost, simprocAttr]; done) | (simp only [↓epre, epost, simprocAttr]; rfl) | rfl
 ·rintro m e S ⟨n, col, rfl, hn, hnt, hl, e0, e5, e6, rfl⟩
  refine VWP_Vc _ _ _ _ ?_
  obtain ⟨c0, c1, c2⟩ := zax6 hl
  have h0 : (0 : Int) ≤ n := by omega
  have wn : IntKind.i64.wrap ((n : Int) + 1) = (n : Int) + 1 := zaar (by omega) (by omega)
  have hsz : (t.extract n t.size).size ≤ 1000 := by rw [ByteArray.size_extract]; omega
  have hns : (n : Int) ≤ t.size := by omega
  obtain ⟨ms, hms⟩ := err_ms
  by_cases hs : n < t.size
  ·have hs' : (n : Int) < t.size := by omega
   obtain ⟨b, hb⟩ := ba_get hs
   by_cases h2 : (n : Int) < 2
   ·by_cases g1 : 65 ≤ (b.toNat : Int)
    ·by_cases g2 : (b.toNat : Int) ≤ 90
     ·have u1 : IntKind.u8.wrap ((b.toNat : Int) - 65) = (b.toNat : Int) - 65 := by simp only [IntKind.wrap, IntKind.bits, IntKind.signed]; simp; omega
      have v1 := zajg (n := (b.toNat : Int) - 65) (by omega) (by omega)
      have x1 : IntKind.i64.wrap (col * 26) = col * 26 := zaar (by omega) (by omega)
      have x2 : IntKind.i64.wrap (col * 26 + ((b.toNat : Int) - 65)) = col * 26 + ((b.toNat : Int) - 65) := zaar (by omega) (by omega)
      have x3 : IntKind.i64.wrap (col * 26 + ((b.toNat : Int) - 65) + 1) = col * 26 + ((b.toNat : Int) - 65) + 1 := zaar (by omega) (by omega)
      simp -dsimp only [↓kpre, kpost, light, ret1, cellF, afill, setAll, simprocAttr, ↓zac6, zac7, e0, e5, e6, hs', h2, h0, hb, g1, g2]
      refine zado [[], [], [], [], [], [], [], [], [], [], [], []] false (by kernel_rfl) (by kernel_rfl) (by kernel_rfl) ?_
      simp -dsimp only [↓kpre, kpost, light, ret1, cellF, afill, setAll, simprocAttr, ↓opre, opost, vspan, ↓zac6, zac7, e0, e5, e6, hs', h2, h0, hb, u1, v1, x1, x2, x3, wn]
      refine ⟨2 - (n + 1), by omega, n + 1, col * 26 + ((b.toNat : Int) - 65) + 1, rfl, by omega, by omega, ?_, by rw [Int.natCast_add]; rfl, rfl⟩
      have hg : greatB b.toNat = true := by simp [greatB, g1, g2]
      rcases hl with ⟨rfl, rfl⟩ | ⟨rfl, a, ha, hga, rfl⟩ | ⟨rfl, _⟩
      ·exact .inr (.inl ⟨rfl, b, hb, hg, by omega⟩)
      ·exact .inr (.inr ⟨rfl, a, b, ha, hga, hb, hg, by omega⟩)
      ·omega
     ·have hng : greatB b.toNat = false := by simp [greatB, g2]
      have hend : n = 2 ∨ (∀ b, t[n]? = some b → greatB b.toNat = false) := .inr fun x hx => by rw [hb] at hx; cases hx; exact hng
      rw [zapy hl hend]
      cases ha : atoiN (t.extract n t.size) with
      | none =>
       have hat' := fun S K => hat (t.extract n t.size) hsz S K
       simp only [atoiV, ha] at hat'
       have hf : (if n = 0 then none else tryPl t n col) = none := by split <;> simp [tryPl, ha]
       rw [hf]
       simp -dsimp only [↓kpre, kpost, light, ret1, cellF, afill, setAll, simprocAttr, ↓zac6, zac7, e0, e5, e6, h0, hns, zad1, Int.le_refl, ↓hat', hs', h2, hb, g1, g2, zakn _ _ hms, tripF]
      | some v =>
       have hat' := fun S K => hat (t.extract n t.size) hsz S K
       simp only [atoiV, ha] at hat'
       cases hp : placeF col v
       ·have hf : (if n = 0 then none else tryPl t n col) = none := by split <;> simp [tryPl, ha, hp]
        rw [hf]
        simp -dsimp only [↓kpre, kpost, light, ret1, cellF, afill, setAll, simprocAttr, ↓zac6, zac7, e0, e5, e6, h0, hns, zad1, Int.le_refl, ↓hat', hs', h2, hb, g1, g2, zafu, ↓zafw hX1, hp, tripF]
       ·have hpp := hp
        simp only [placeF, Bool.and_eq_true, decide_eq_true_eq] at hpp
        have hn0 : n ≠ 0 := fun h => by have := c2 h; omega
        rw [if_neg hn0]
        have hwp := fun S K => zaag (S := S) (K := K) (args := [.agg ⟨[.string .empty, .int .i64 col, .int .i64 v]⟩]) (zams hX2 .empty col v hp (hit v (by omega) (by omega))) rfl rfl rfl
        by_cases he : plS col v = t
        ·have hf : tryPl t n col = some (col, v) := by simp [tryPl, ha, hp, he]
         rw [hf]
         simp -dsimp only [↓kpre, kpost, light, ret1, cellF, afill, setAll, simprocAttr, ↓zac6, zac7, e0, e5, e6, h0, hns, zad1, Int.le_refl, ↓hat', hs', h2, hb, g1, g2, zafu, ↓zafw hX1, hp, ↓hwp, zacq, he, tripF]
         refine zado [[], [], [], [], [], [], []] false (by kernel_rfl) (by kernel_rfl) (by kernel_rfl) ?_
         simp -dsimp only [↓kpre, kpost, light, ret1, cellF, afill, setAll, simprocAttr, ↓opre, opost, vspan, ↓zac6, zac7, e0, e5, e6, tripF]
        ·have hf : tryPl t n col = none := by simp [tryPl, ha, hp, he]
         rw [hf]
         simp -dsimp only [↓kpre, kpost, light, ret1, cellF, afill, setAll, simprocAttr, ↓zac6, zac7, e0, e5, e6, h0, hns, zad1, Int.le_refl, ↓hat', hs', h2, hb, g1, g2, zafu, ↓zafw hX1, hp, ↓hwp, zacq, he, tripF]
    ·have hng : greatB b.toNat = false := by simp [greatB, g1]
     have hend : n = 2 ∨ (∀ b, t[n]? = some b → greatB b.toNat = false) := .inr fun x hx => by rw [hb] at hx; cases hx; exact hng
     rw [zapy hl hend]
     cases ha : atoiN (t.extract n t.size) with
     | none =>
      have hat' := fun S K => hat (t.extract n t.size) hsz S K
      simp only [atoiV, ha] at hat'
      have hf : (if n = 0 then none else tryPl t n col) = none := by split <;> simp [tryPl, ha]
      rw [hf]
      simp -dsimp only [↓kpre, kpost, light, ret1, cellF, afill, setAll, simprocAttr, ↓zac6, zac7, e0, e5, e6, h0, hns, zad1, Int.le_refl, ↓hat', hs', h2, hb, g1, zakn _ _ hms, tripF]
     | some v =>
      have hat' := fun S K => hat (t.extract n t.size) hsz S K
      simp only [atoiV, ha] at hat'
      cases hp : placeF col v
      ·have hf : (if n = 0 then none else tryPl t n col) = none := by split <;> simp [tryPl, ha, hp]
       rw [hf]
       simp -dsimp only [↓kpre, kpost, light, ret1, cellF, afill, setAll, simprocAttr, ↓zac6, zac7, e0, e5, e6, h0, hns, zad1, Int.le_refl, ↓hat', hs', h2, hb, g1, zafu, ↓zafw hX1, hp, tripF]
      ·have hpp := hp
       simp only [placeF, Bool.and_eq_true, decide_eq_true_eq] at hpp
       have hn0 : n ≠ 0 := fun h => by have := c2 h; omega
       rw [if_neg hn0]
       have hwp := fun S K => zaag (S := S) (K := K) (args := [.agg ⟨[.string .empty, .int .i64 col, .int .i64 v]⟩]) (zams hX2 .empty col v hp (hit v (by omega) (by omega))) rfl rfl rfl
       by_cases he : plS col v = t
       ·have hf : tryPl t n col = some (col, v) := by simp [tryPl, ha, hp, he]
        rw [hf]
        simp -dsimp only [↓kpre, kpost, light, ret1, cellF, afill, setAll, simprocAttr, ↓zac6, zac7, e0, e5, e6, h0, hns, zad1, Int.le_refl, ↓hat', hs', h2, hb, g1, zafu, ↓zafw hX1, hp, ↓hwp, zacq, he, tripF]
        refine zado [[], [], [], [], [], [], []] false (by kernel_rfl) (by kernel_rfl) (by kernel_rfl) ?_
        simp -dsimp only [↓kpre, kpost, light, ret1, cellF, afill, setAll, simprocAttr, ↓opre, opost, vspan, ↓zac6, zac7, e0, e5, e6, tripF]
       ·have hf : tryPl t n col = none := by simp [tryPl, ha, hp, he]
        rw [hf]
        simp -dsimp only [↓kpre, kpost, light, ret1, cellF, afill, setAll, simprocAttr, ↓zac6, zac7, e0, e5, e6, h0, hns, zad1, Int.le_refl, ↓hat', hs', h2, hb, g1, zafu, ↓zafw hX1, hp, ↓hwp, zacq, he, tripF]
   ·have hend : n = 2 ∨ (∀ b, t[n]? = some b → greatB b.toNat = false) := .inl (by omega)
    rw [zapy hl hend]
    cases ha : atoiN (t.extract n t.size) with
    | none =>
     have hat' := fun S K => hat (t.extract n t.size) hsz S K
     simp only [atoiV, ha] at hat'
     have hf : (if n = 0 then none else tryPl t n col) = none := by split <;> simp [tryPl, ha]
     rw [hf]
     simp -dsimp only [↓kpre, kpost, light, ret1, cellF, afill, setAll, simprocAttr, ↓zac6, zac7, e0, e5, e6, h0, hns, zad1, Int.le_refl, ↓hat', hs', h2, zakn _ _ hms, tripF]
    | some v =>
     have hat' := fun S K => hat (t.extract n t.size) hsz S K
     simp only [atoiV, ha] at hat'
     cases hp : placeF col v
     ·have hf : (if n = 0 then none else tryPl t n col) = none := by split <;> simp [tryPl, ha, hp]
      rw [hf]
      simp -dsimp only [↓kpre, kpost, light, ret1, cellF, afill, setAll, simprocAttr, ↓zac6, zac7, e0, e5, e6, h0, hns, zad1, Int.le_refl, ↓hat', hs', h2, zafu, ↓zafw hX1, hp, tripF]
     ·have hpp := hp
      simp only [placeF, Bool.and_eq_true, decide_eq_true_eq] at hpp
      have hn0 : n ≠ 0 := fun h => by have := c2 h; omega
      rw [if_neg hn0]
      have hwp := fun S K => zaag (S := S) (K := K) (args := [.agg ⟨[.string .empty, .int .i64 col, .int .i64 v]⟩]) (zams hX2 .empty col v hp (hit v (by omega) (by omega))) rfl rfl rfl
      by_cases he : plS col v = t
      ·have hf : tryPl t n col = some (col, v) := by simp [tryPl, ha, hp, he]
       rw [hf]
       simp -dsimp only [↓kpre, kpost, light, ret1, cellF, afill, setAll, simprocAttr, ↓zac6, zac7, e0, e5, e6, h0, hns, zad1, Int.le_refl, ↓hat', hs', h2, zafu, ↓zafw hX1, hp, ↓hwp, zacq, he, tripF]
       refine zado [[], [], [], [], [], [], []] false (by kernel_rfl) (by kernel_rfl) (by kernel_rfl) ?_
       simp -dsimp only [↓kpre, kpost, light, ret1, cellF, afill, setAll, simprocAttr, ↓opre, opost, vspan, ↓zac6, zac7, e0, e5, e6, tripF]
      ·have hf : tryPl t n col = none := by simp [tryPl, ha, hp, he]
       rw [hf]
       simp -dsimp only [↓kpre, kpost, light, ret1, cellF, afill, setAll, simprocAttr, ↓zac6, zac7, e0, e5, e6, h0, hns, zad1, Int.le_refl, ↓hat', hs', h2, zafu, ↓zafw hX1, hp, ↓hwp, zacq, he, tripF]
  ·have hs' : ¬ (n : Int) < t.size := by omega
   have hend : n = 2 ∨ (∀ b, t[n]? = some b → greatB b.toNat = false) := .inr fun x hx => by rw [getElem?_neg t n hs] at hx; cases hx
   rw [zapy hl hend]
   cases ha : atoiN (t.extract n t.size) with
   | none =>
    have hat' := fun S K => hat (t.extract n t.size) hsz S K
    simp only [atoiV, ha] at hat'
    have hf : (if n = 0 then none else tryPl t n col) = none := by split <;> simp [tryPl, ha]
    rw [hf]
    simp -dsimp only [↓kpre, kpost, light, ret1, cellF, afill, setAll, simprocAttr, ↓zac6, zac7, e0, e5, e6, h0, hns, zad1, Int.le_refl, ↓hat', hs', zakn _ _ hms, tripF]
   | some v =>
    have hat' := fun S K => hat (t.extract n t.size) hsz S K
    simp only [atoiV, ha] at hat'
    cases hp : placeF col v
    ·have hf : (if n = 0 then none else tryPl t n col) = none := by split <;> simp [tryPl, ha, hp]
     rw [hf]
     simp -dsimp only [↓kpre, kpost, light, ret1, cellF, afill, setAll, simprocAttr, ↓zac6, zac7, e0, e5, e6, h0, hns, zad1, Int.le_refl, ↓hat', hs', zafu, ↓zafw hX1, hp, tripF]
    ·have hpp := hp
     simp only [placeF, Bool.and_eq_true, decide_eq_true_eq] at hpp
     have hn0 : n ≠ 0 := fun h => by have := c2 h; omega
     rw [if_neg hn0]
     have hwp := fun S K => zaag (S := S) (K := K) (args := [.agg ⟨[.string .empty, .int .i64 col, .int .i64 v]⟩]) (zams hX2 .empty col v hp (hit v (by omega) (by omega))) rfl rfl rfl
     by_cases he : plS col v = t
     ·have hf : tryPl t n col = some (col, v) := by simp [tryPl, ha, hp, he]
      rw [hf]
      simp -dsimp only [↓kpre, kpost, light, ret1, cellF, afill, setAll, simprocAttr, ↓zac6, zac7, e0, e5, e6, h0, hns, zad1, Int.le_refl, ↓hat', hs', zafu, ↓zafw hX1, hp, ↓hwp, zacq, he, tripF]
      refine zado [[], [], [], [], [], [], []] false (by kernel_rfl) (by kernel_rfl) (by kernel_rfl) ?_
      simp -dsimp only [↓kpre, kpost, light, ret1, cellF, afill, setAll, simprocAttr, ↓opre, opost, vspan, ↓zac6, zac7, e0, e5, e6, tripF]
     ·have hf : tryPl t n col = none := by simp [tryPl, ha, hp, he]
      rw [hf]
      simp -dsimp only [↓kpre, kpost, light, ret1, cellF, afill, setAll, simprocAttr, ↓zac6, zac7, e0, e5, e6, h0, hns, zad1, Int.le_refl, ↓hat', hs', zafu, ↓zafw hX1, hp, ↓hwp, zacq, he, tripF]
end
end Go.Proofs.YtliemjbafgnnbaaGreatDoor.Abs
/- The reference reads a column and a row. -/
namespace Go.Proofs.YtliemjbafgnnbaaGreatDoor.Abs
open Go
def zadq := And.intro (And.intro (@val26) (@vcv3)) (And.intro (@vfk29) (And.intro (@vfk28) (@vfk38)))
def zads := And.intro (And.intro (And.intro (And.intro (@vld3) (@vgt3)) (And.intro (@vld26) (@vgt26))) (And.intro (And.intro (@vst26) (@vst3)) (And.intro (@zako) (@zaku)))) (And.intro (And.intro (And.intro (@zakp) (@zakv)) (And.intro (@bd26) (@pl26_0))) (And.intro (And.intro (@pl26_1) (@pl26_2)) (And.intro (@ix9) (And.intro (@vlr9) (@Tryz.results78)))))
attribute [local irreducible] Hold VReg Vf Vc VWP With VStp Vcallee Vp VE
theorem g48 : greatB 48 = false := rfl
def grAt (t : ByteArray) (j : Nat) : Bool := match t[j]? with
 | some b => greatB b.toNat
 | none => false
def dgAt (t : ByteArray) (j : Nat) : Bool := match t[j]? with
 | some b => digitB b.toNat
 | none => false
def byAt (t : ByteArray) (j : Nat) : Int := match t[j]? with
 | some b => b.toNat
 | none => 0
def colF (t : ByteArray) : Nat → Int
 | 0 => 0
 | i + 1 => 26 * colF t i + (byAt t i - 65) + 1
def rowF (t : ByteArray) (i : Nat) : Nat → Int
 | 0 => 0
 | j + 1 => 10 * rowF t i j + (byAt t (i + j) - 48)
def lead3 (t : ByteArray) : Nat := if grAt t 0 then (if grAt t 1 then (if grAt t 2 then 3 else 2) else 1) else 0
def rpF (t sheet : ByteArray) : Option (Int × Int) :=
 if lead3 t = t.size ∨ lead3 t + 3 < t.size ∨ byAt t (lead3 t) = 48 then none
 else if (List.range (t.size - lead3 t)).all (fun j => dgAt t (lead3 t + j)) then (if celF sheet (colF t (lead3 t)) (rowF t (lead3 t) (t.size - lead3 t)) then some (colF t (lead3 t), rowF t (lead3 t) (t.size - lead3 t)) else none) else none
def cellT (sheet : ByteArray) : Option (Int × Int) → Value
 | some (c, r) => .tuple ⟨[.agg ⟨[.string sheet, .int .i64 c, .int .i64 r]⟩, .bool true]⟩
 | none => .tuple ⟨[.agg ⟨[.string .empty, .int .i64 0, .int .i64 0]⟩, .bool false]⟩
theorem zaur {t : ByteArray} {i : Nat} (hi : i ≤ 3) (h : ∀ j, j < i → grAt t j = true) (he : i = 3 ∨ grAt t i = false) : lead3 t = i := by
 unfold lead3
 have q : i = 0 ∨ i = 1 ∨ i = 2 ∨ i = 3 := by omega
 rcases q with rfl | rfl | rfl | rfl
 ·simp [he.resolve_left (by decide)]
 ·simp [h 0 (by decide), he.resolve_left (by decide)]
 ·simp [h 0 (by decide), h 1 (by decide), he.resolve_left (by decide)]
 ·simp [h 0 (by decide), h 1 (by decide), h 2 (by decide)]
theorem zafi {t : ByteArray} {j : Nat} (h : grAt t j = true) : 65 ≤ byAt t j ∧ byAt t j ≤ 90 := by
 unfold grAt at h
 unfold byAt
 cases hb : t[j]? with
 | none => rw [hb] at h; cases h
 | some b =>
  rw [hb] at h
  simpa [greatB] using h
theorem zadi {t : ByteArray} {j : Nat} (h : dgAt t j = true) : 48 ≤ byAt t j ∧ byAt t j ≤ 57 := by
 unfold dgAt at h
 unfold byAt
 cases hb : t[j]? with
 | none => rw [hb] at h; cases h
 | some b =>
  rw [hb] at h
  simpa [digitB] using h
theorem za40 {t : ByteArray} {i : Nat} (hi : i ≤ 3) (h : ∀ j, j < i → grAt t j = true) : 0 ≤ colF t i ∧ colF t i ≤ 20000 ∧ (i ≤ 2 → colF t i ≤ 702) := by
 have q : i = 0 ∨ i = 1 ∨ i = 2 ∨ i = 3 := by omega
 rcases q with rfl | rfl | rfl | rfl
 ·simp [colF]
 ·have := zafi (h 0 (by decide))
  simp only [colF]; omega
 ·have := zafi (h 0 (by decide))
  have := zafi (h 1 (by decide))
  simp only [colF]; omega
 ·have := zafi (h 0 (by decide))
  have := zafi (h 1 (by decide))
  have := zafi (h 2 (by decide))
  simp only [colF]; omega
theorem za0c {t : ByteArray} {i j : Nat} (hj : j ≤ 3) (h : ∀ k, k < j → dgAt t (i + k) = true) : 0 ≤ rowF t i j ∧ rowF t i j ≤ 999 ∧ (j ≤ 2 → rowF t i j ≤ 99) := by
 have q : j = 0 ∨ j = 1 ∨ j = 2 ∨ j = 3 := by omega
 rcases q with rfl | rfl | rfl | rfl
 ·simp [rowF]
 ·have := zadi (h 0 (by decide))
  simp only [rowF]; omega
 ·have := zadi (h 0 (by decide))
  have := zadi (h 1 (by decide))
  simp only [rowF]; omega
 ·have := zadi (h 0 (by decide))
  have := zadi (h 1 (by decide))
  have := zadi (h 2 (by decide))
  simp only [rowF]; omega
section
variable {X : VOuter}
theorem za3a (hX : X 29 = none) (n : Int) : Vp Tryz.prog X 29 [.int .u8 n] (.bool (greatB n)) := by
 unfold Vp
 refine zaay hX Tryz.func29 rfl (by kernel_rfl) (by show 1 ≤ _; decide) ?_
 by_cases h1 : 65 ≤ n <;> by_cases h2 : n ≤ 90 <;> simp -dsimp only [↓kpre, kpost, light, ret1, cellF, afill, setAll, simprocAttr, Tryz.results29, h1, h2] <;> simp [greatB, h1, h2]
theorem zake (hX : X 29 = none) (n : Int) {S : VH} {K : VCont} : Vcallee Tryz.prog X 29 [.int .u8 n] S K = K (.bool (greatB n)) [] S [] false := zaag (za3a hX n) rfl rfl rfl
theorem za54 (h : ROff X) (hX : X 78 = none) (hX1 : X 29 = none) (t sheet : ByteArray) (ht : t.size ≤ 1000) : Vp Tryz.prog X 78 [.string t, .string sheet] (cellT sheet (rpF t sheet)) := by
 unfold Vp
 refine zaay hX Tryz.func78 rfl (by kernel_rfl) (by show 2 ≤ _; decide) ?_
 simp -dsimp only [↓kpre, kpost, light, ret1, cellF, afill, setAll, simprocAttr, ↓zadq, zads]
 refine zabw (fun m e S => ∃ i : Nat, m = 3 - i ∧ i ≤ 3 ∧ i ≤ t.size ∧ (∀ j, j < i → grAt t j = true) ∧ eget e 0 = .string t ∧ eget e 4 = .pointer (some { block := 0, off := 0 }) ∧ eget e 6 = .pointer (some { block := 1, off := 0 }) ∧ eget e 7 = .int .i64 i ∧ S = ⟨[], [.cells true 26 [.string .empty, .int .i64 0, .int .i64 0], .cells true 26 [.string sheet, .int .i64 (colF t i), .int .i64 0]], []⟩) 3 ?_ ?_
 ·refine ⟨0, rfl, by omega, Nat.zero_le _, fun j hj => absurd hj (Nat.not_lt_zero j), ?_, ?_, ?_, ?_, ?_⟩ <;> first | (simp only [↓epre, epost, simprocAttr]; done) | (simp only [↓epre, epost, simprocAttr]; rfl) | rfl
 ·rintro m e S ⟨i, rfl, hi, hit, hgr, e0, e4, e6, e7, rfl⟩
  refine VWP_Vc _ _ _ _ ?_
  obtain ⟨c0, c1, c2⟩ := za40 hi hgr
  have h0 : (0 : Int) ≤ i := by omega
  have wn : IntKind.i64.wrap ((i : Int) + 1) = (i : Int) + 1 := zaar (by omega) (by omega)
  by_cases hgo : i < t.size ∧ (i : Int) < 3 ∧ grAt t i = true
  ·obtain ⟨hs, h3, hg⟩ := hgo
   have hs' : (i : Int) < t.size := by omega
   obtain ⟨b, hb⟩ := ba_get hs
   have hby : byAt t i = b.toNat := by unfold byAt; rw [hb]
   have hgb : greatB b.toNat = true := by unfold grAt at hg; rw [hb] at hg; exact hg
   have hbb := zafi hg
   have hcl : colF t i ≤ 702 := c2 (by omega)
   have u1 : IntKind.u8.wrap ((b.toNat : Int) - 65) = (b.toNat : Int) - 65 := by simp only [IntKind.wrap, IntKind.bits, IntKind.signed]; simp; omega
   have v1 := zajg (n := (b.toNat : Int) - 65) (by omega) (by omega)
   have x1 : IntKind.i64.wrap (26 * colF t i) = 26 * colF t i := zaar (by omega) (by omega)
   have x2 : IntKind.i64.wrap (26 * colF t i + ((b.toNat : Int) - 65)) = 26 * colF t i + ((b.toNat : Int) - 65) := zaar (by omega) (by omega)
   have x3 : IntKind.i64.wrap (26 * colF t i + ((b.toNat : Int) - 65) + 1) = 26 * colF t i + ((b.toNat : Int) - 65) + 1 := zaar (by omega) (by omega)
   simp -dsimp only [↓kpre, kpost, light, ret1, cellF, afill, setAll, simprocAttr, ↓zadq, zads, e0, e4, e6, e7, hs', h3, h0, hb, ↓zake hX1, hgb]
   refine zado [[], [], [], [], [], [], [], [], [], [], [], []] false (by kernel_rfl) (by kernel_rfl) (by kernel_rfl) ?_
   simp -dsimp only [↓kpre, kpost, light, ret1, cellF, afill, setAll, simprocAttr, ↓opre, opost, vspan, ↓zadq, zads, e0, e4, e6, e7, hs', h3, h0, hb, u1, v1, x1, x2, x3, wn]
   refine ⟨3 - (i + 1), by omega, i + 1, rfl, by omega, by omega, fun j hj => ?_, by rw [Int.natCast_add]; rfl, ?_⟩
   ·rcases Nat.lt_succ_iff_lt_or_eq.1 hj with hj | rfl
    ·exact hgr j hj
    ·exact hg
   ·simp only [colF, hby]
  ·have hl : lead3 t = i := zaur hi hgr (by
    by_cases h3 : i = 3
    ·exact .inl h3
    ·right
     cases hg : grAt t i with
     | false => rfl
     | true =>
      refine absurd ⟨?_, by omega, hg⟩ hgo
      rcases Nat.lt_or_ge i t.size with h | h
      ·exact h
      ·unfold grAt at hg
       rw [getElem?_neg t i (by omega)] at hg
       cases hg)
   rcases Nat.lt_or_ge i t.size with hs | hs
   ·have hs' : (i : Int) < t.size := by omega
    obtain ⟨b, hb⟩ := ba_get hs
    have hby : byAt t i = b.toNat := by unfold byAt; rw [hb]
    by_cases h3 : (i : Int) < 3
    ·have hgb : greatB b.toNat = false := by
      cases hg : greatB b.toNat with
      | false => rfl
      | true => exact absurd ⟨hs, h3, by unfold grAt; rw [hb]; exact hg⟩ hgo
     have hne : ¬ (i : Int) = t.size := by omega
     have wsz : IntKind.i64.wrap ((t.size : Int) - i) = (t.size : Int) - i := zaar (by omega) (by omega)
     by_cases h4 : 3 < (t.size : Int) - i
     ·have hf : rpF t sheet = none := by unfold rpF; rw [hl, if_pos (.inr (.inl (by omega)))]
      rw [hf]
      simp -dsimp only [↓kpre, kpost, light, ret1, cellF, afill, setAll, simprocAttr, ↓zadq, zads, e0, e4, e6, e7, h0, hs', h3, hb, ↓zake hX1, hgb, g48, hne, wsz, h4, cellT]
     ·by_cases h48 : (b.toNat : Int) = 48
      ·have hf : rpF t sheet = none := by unfold rpF; rw [hl, if_pos (.inr (.inr (by rw [hby]; exact h48)))]
       rw [hf]
       simp -dsimp only [↓kpre, kpost, light, ret1, cellF, afill, setAll, simprocAttr, ↓zadq, zads, e0, e4, e6, e7, h0, hs', h3, hb, ↓zake hX1, hgb, g48, hne, wsz, h4, hb, h48, cellT]
      ·have hrp : rpF t sheet = if (List.range (t.size - i)).all (fun j => dgAt t (i + j)) then (if celF sheet (colF t i) (rowF t i (t.size - i)) then some (colF t i, rowF t i (t.size - i)) else none) else none := by
        unfold rpF
        rw [hl, if_neg (by rw [hby]; omega)]
       rw [hrp]
       simp -dsimp only [↓kpre, kpost, light, ret1, cellF, afill, setAll, simprocAttr, ↓zadq, zads, e0, e4, e6, e7, h0, hs', h3, hb, ↓zake hX1, hgb, g48, hne, wsz, h4, hb, h48]
       refine zabw (fun m e S => ∃ j : Nat, m = t.size - i - j ∧ i + j ≤ t.size ∧ (∀ k, k < j → dgAt t (i + k) = true) ∧ eget e 0 = .string t ∧ eget e 4 = .pointer (some { block := 0, off := 0 }) ∧ eget e 6 = .pointer (some { block := 1, off := 0 }) ∧ eget e 7 = .int .i64 ((i + j : Nat) : Int) ∧ S = ⟨[], [.cells true 26 [.string .empty, .int .i64 0, .int .i64 0], .cells true 26 [.string sheet, .int .i64 (colF t i), .int .i64 (rowF t i j)]], []⟩) (t.size - i) ?_ ?_
       ·refine ⟨0, rfl, by omega, fun j hj => absurd hj (Nat.not_lt_zero j), ?_, ?_, ?_, ?_, rfl⟩ <;> first | (simp only [↓epre, epost, simprocAttr, e0, e4, e6, e7]; done) | (simp only [↓epre, epost, simprocAttr, e0, e4, e6, e7]; rfl)
       ·rintro m e S ⟨j, rfl, hij, hdg, k0, k4, k6, k7, rfl⟩
        refine VWP_Vc _ _ _ _ ?_
        have q0 : (0 : Int) ≤ ((i + j : Nat) : Int) := by omega
        obtain ⟨r0, r1, r2⟩ := za0c (t := t) (i := i) (j := j) (by omega) hdg
        by_cases hjs : i + j < t.size
        ·have hjs' : ((i + j : Nat) : Int) < t.size := by omega
         obtain ⟨d, hd⟩ := ba_get hjs
         have hdy : byAt t (i + j) = d.toNat := by unfold byAt; rw [hd]
         cases hdd : digitB d.toNat
         ·have hall : (List.range (t.size - i)).all (fun j => dgAt t (i + j)) = false := by
           rw [List.all_eq_false]
           exact ⟨j, by simp; omega, by unfold dgAt; rw [hd]; simp [hdd]⟩
          rw [hall]
          simp -dsimp only [↓kpre, kpost, light, ret1, cellF, afill, setAll, simprocAttr, ↓zadq, zads, k0, k4, k6, k7, q0, hjs', hd, ↓zahs h.digit, hdd, cellT]
         ·have hdt : dgAt t (i + j) = true := by unfold dgAt; rw [hd]; exact hdd
          have hbb := zadi hdt
          have hrl : rowF t i j ≤ 99 := r2 (by omega)
          have u1 : IntKind.u8.wrap ((d.toNat : Int) - 48) = (d.toNat : Int) - 48 := by simp only [IntKind.wrap, IntKind.bits, IntKind.signed]; simp; omega
          have v1 := zajg (n := (d.toNat : Int) - 48) (by omega) (by omega)
          have x1 : IntKind.i64.wrap (10 * rowF t i j) = 10 * rowF t i j := zaar (by omega) (by omega)
          have x2 : IntKind.i64.wrap (10 * rowF t i j + ((d.toNat : Int) - 48)) = 10 * rowF t i j + ((d.toNat : Int) - 48) := zaar (by omega) (by omega)
          have x3 : IntKind.i64.wrap (((i + j : Nat) : Int) + 1) = ((i + j : Nat) : Int) + 1 := zaar (by omega) (by omega)
          simp -dsimp only [↓kpre, kpost, light, ret1, cellF, afill, setAll, simprocAttr, ↓zadq, zads, k0, k4, k6, k7, q0, hjs', hd, ↓zahs h.digit, hdd]
          refine zado [[], [], [], [], [], [], [], [], [], [], []] false (by kernel_rfl) (by kernel_rfl) (by kernel_rfl) ?_
          simp -dsimp only [↓kpre, kpost, light, ret1, cellF, afill, setAll, simprocAttr, ↓opre, opost, vspan, ↓zadq, zads, k0, k4, k6, k7, q0, hd, u1, v1, x1, x2, x3]
          refine ⟨t.size - i - (j + 1), by omega, j + 1, rfl, by omega, fun k hk => ?_, by congr 1 <;> omega, ?_⟩
          ·rcases Nat.lt_succ_iff_lt_or_eq.1 hk with hk | rfl
           ·exact hdg k hk
           ·exact hdt
          ·simp only [rowF, hdy]
        ·obtain rfl : j = t.size - i := by omega
         have hjs' : ¬ ((i + (t.size - i) : Nat) : Int) < t.size := by omega
         have hall : (List.range (t.size - i)).all (fun j => dgAt t (i + j)) = true := by
          rw [List.all_eq_true]
          intro k hk
          exact hdg k (List.mem_range.1 hk)
         rw [hall]
         cases hc : celF sheet (colF t i) (rowF t i (t.size - i))
         ·simp -dsimp only [↓kpre, kpost, light, ret1, cellF, afill, setAll, simprocAttr, ↓zadq, zads, k0, k4, k6, k7, q0, hjs', ↓rr_c h, hc, cellT]
         ·simp -dsimp only [↓kpre, kpost, light, ret1, cellF, afill, setAll, simprocAttr, ↓zadq, zads, k0, k4, k6, k7, q0, hjs', ↓rr_c h, hc, cellT]
    ·have hne : ¬ (i : Int) = t.size := by omega
     have wsz : IntKind.i64.wrap ((t.size : Int) - i) = (t.size : Int) - i := zaar (by omega) (by omega)
     by_cases h4 : 3 < (t.size : Int) - i
     ·have hf : rpF t sheet = none := by unfold rpF; rw [hl, if_pos (.inr (.inl (by omega)))]
      rw [hf]
      simp -dsimp only [↓kpre, kpost, light, ret1, cellF, afill, setAll, simprocAttr, ↓zadq, zads, e0, e4, e6, e7, h0, hs', h3, hne, wsz, h4, cellT]
     ·by_cases h48 : (b.toNat : Int) = 48
      ·have hf : rpF t sheet = none := by unfold rpF; rw [hl, if_pos (.inr (.inr (by rw [hby]; exact h48)))]
       rw [hf]
       simp -dsimp only [↓kpre, kpost, light, ret1, cellF, afill, setAll, simprocAttr, ↓zadq, zads, e0, e4, e6, e7, h0, hs', h3, hne, wsz, h4, hb, h48, cellT]
      ·have hrp : rpF t sheet = if (List.range (t.size - i)).all (fun j => dgAt t (i + j)) then (if celF sheet (colF t i) (rowF t i (t.size - i)) then some (colF t i, rowF t i (t.size - i)) else none) else none := by
        unfold rpF
        rw [hl, if_neg (by rw [hby]; omega)]
       rw [hrp]
       simp -dsimp only [↓kpre, kpost, light, ret1, cellF, afill, setAll, simprocAttr, ↓zadq, zads, e0, e4, e6, e7, h0, hs', h3, hne, wsz, h4, hb, h48]
       refine zabw (fun m e S => ∃ j : Nat, m = t.size - i - j ∧ i + j ≤ t.size ∧ (∀ k, k < j → dgAt t (i + k) = true) ∧ eget e 0 = .string t ∧ eget e 4 = .pointer (some { block := 0, off := 0 }) ∧ eget e 6 = .pointer (some { block := 1, off := 0 }) ∧ eget e 7 = .int .i64 ((i + j : Nat) : Int) ∧ S = ⟨[], [.cells true 26 [.string .empty, .int .i64 0, .int .i64 0], .cells true 26 [.string sheet, .int .i64 (colF t i), .int .i64 (rowF t i j)]], []⟩) (t.size - i) ?_ ?_
       ·refine ⟨0, rfl, by omega, fun j hj => absurd hj (Nat.not_lt_zero j), ?_, ?_, ?_, ?_, rfl⟩ <;> first | (simp only [↓epre, epost, simprocAttr, e0, e4, e6, e7]; done) | (simp only [↓epre, epost, simprocAttr, e0, e4, e6, e7]; rfl)
       ·rintro m e S ⟨j, rfl, hij, hdg, k0, k4, k6, k7, rfl⟩
        refine VWP_Vc _ _ _ _ ?_
        have q0 : (0 : Int) ≤ ((i + j : Nat) : Int) := by omega
        obtain ⟨r0, r1, r2⟩ := za0c (t := t) (i := i) (j := j) (by omega) hdg
        by_cases hjs : i + j < t.size
        ·have hjs' : ((i + j : Nat) : Int) < t.size := by omega
         obtain ⟨d, hd⟩ := ba_get hjs
         have hdy : byAt t (i + j) = d.toNat := by unfold byAt; rw [hd]
         cases hdd : digitB d.toNat
         ·have hall : (List.range (t.size - i)).all (fun j => dgAt t (i + j)) = false := by
           rw [List.all_eq_false]
           exact ⟨j, by simp; omega, by unfold dgAt; rw [hd]; simp [hdd]⟩
          rw [hall]
          simp -dsimp only [↓kpre, kpost, light, ret1, cellF, afill, setAll, simprocAttr, ↓zadq, zads, k0, k4, k6, k7, q0, hjs', hd, ↓zahs h.digit, hdd, cellT]
         ·have hdt : dgAt t (i + j) = true := by unfold dgAt; rw [hd]; exact hdd
          have hbb := zadi hdt
          have hrl : rowF t i j ≤ 99 := r2 (by omega)
          have u1 : IntKind.u8.wrap ((d.toNat : Int) - 48) = (d.toNat : Int) - 48 := by simp only [IntKind.wrap, IntKind.bits, IntKind.signed]; simp; omega
          have v1 := zajg (n := (d.toNat : Int) - 48) (by omega) (by omega)
          have x1 : IntKind.i64.wrap (10 * rowF t i j) = 10 * rowF t i j := zaar (by omega) (by omega)
          have x2 : IntKind.i64.wrap (10 * rowF t i j + ((d.toNat : Int) - 48)) = 10 * rowF t i j + ((d.toNat : Int) - 48) := zaar (by omega) (by omega)
          have x3 : IntKind.i64.wrap (((i + j : Nat) : Int) + 1) = ((i + j : Nat) : Int) + 1 := zaar (by omega) (by omega)
          simp -dsimp only [↓kpre, kpost, light, ret1, cellF, afill, setAll, simprocAttr, ↓zadq, zads, k0, k4, k6, k7, q0, hjs', hd, ↓zahs h.digit, hdd]
          refine zado [[], [], [], [], [], [], [], [], [], [], []] false (by kernel_rfl) (by kernel_rfl) (by kernel_rfl) ?_
          simp -dsimp only [↓kpre, kpost, light, ret1, cellF, afill, setAll, simprocAttr, ↓opre, opost, vspan, ↓zadq, zads, k0, k4, k6, k7, q0, hd, u1, v1, x1, x2, x3]
          refine ⟨t.size - i - (j + 1), by omega, j + 1, rfl, by omega, fun k hk => ?_, by congr 1 <;> omega, ?_⟩
          ·rcases Nat.lt_succ_iff_lt_or_eq.1 hk with hk | rfl
           ·exact hdg k hk
           ·exact hdt
          ·simp only [rowF, hdy]
        ·obtain rfl : j = t.size - i := by omega
         have hjs' : ¬ ((i + (t.size - i) : Nat) : Int) < t.size := by omega
         have hall : (List.range (t.size - i)).all (fun j => dgAt t (i + j)) = true := by
          rw [List.all_eq_true]
          intro k hk
          exact hdg k (List.mem_range.1 hk)
         rw [hall]
         cases hc : celF sheet (colF t i) (rowF t i (t.size - i))
         ·simp -dsimp only [↓kpre, kpost, light, ret1, cellF, afill, setAll, simprocAttr, ↓zadq, zads, k0, k4, k6, k7, q0, hjs', ↓rr_c h, hc, cellT]
         ·simp -dsimp only [↓kpre, kpost, light, ret1, cellF, afill, setAll, simprocAttr, ↓zadq, zads, k0, k4, k6, k7, q0, hjs', ↓rr_c h, hc, cellT]
   ·have hs' : ¬ (i : Int) < t.size := by omega
    have hne : (i : Int) = t.size := by omega
    have hf : rpF t sheet = none := by unfold rpF; rw [hl, if_pos (.inl (by omega))]
    rw [hf]
    simp -dsimp only [↓kpre, kpost, light, ret1, cellF, afill, setAll, simprocAttr, ↓zadq, zads, e0, e4, e6, e7, h0, hs', hne, cellT, decide_true]
end
end Go.Proofs.YtliemjbafgnnbaaGreatDoor.Abs
/- The law AddrTells: the plain side. -/
namespace Go.Proofs.YtliemjbafgnnbaaGreatDoor.Abs
open Go
theorem ba_at (s : ByteArray) (i : Nat) : s[i]? = s.data.toList[i]? := by
 rw [Array.getElem?_toList]
 rcases Nat.lt_or_ge i s.size with h | h
 ·rw [getElem?_pos s i h, getElem?_pos s.data i h]; rfl
 ·rw [getElem?_neg s i (by omega), getElem?_neg s.data i (by show ¬ i < s.size; omega)]
theorem zatm {t : ByteArray} {c r : Int} (h : atF t = some (c, r)) : placeF c r = true ∧ plS c r = t := by
 have go : ∀ n col, tryPl t n col = some (c, r) → placeF c r = true ∧ plS c r = t := by
  intro n col h
  unfold tryPl at h
  split at h
  ·split at h
   ·rename_i hh
    cases h
    exact hh
   ·cases h
  ·cases h
 unfold atF at h
 split at h
 ·split at h
  ·split at h
   ·split at h
    ·exact go _ _ h
    ·exact go _ _ h
   ·exact go _ _ h
  ·cases h
 ·cases h
end Go.Proofs.YtliemjbafgnnbaaGreatDoor.Abs
/- Cells are read: the program and the reference. -/
namespace Go.Proofs.YtliemjbafgnnbaaGreatDoor.Abs
open Go
attribute [local irreducible] Hold VReg Vf Vc VWP With VStp Vcallee Vp VE
section
variable {X : VOuter}
end
end Go.Proofs.YtliemjbafgnnbaaGreatDoor.Abs
/- Cells are read: the program. -/
namespace Go.Proofs.YtliemjbafgnnbaaGreatDoor.Abs
open Go
attribute [local irreducible] Hold VReg Vf Vc VWP With VStp Vcallee Vp VE
def arF (t sheet : ByteArray) : Option (Int × Int) := match atF t with
 | some (c, r) => if celF sheet c r then some (c, r) else none
 | none => none
section
variable {X : VOuter}
end
theorem zaxj : ((List.range 703).all fun c => decide (c = 0) || (let s := colS (Int.ofNat c); (List.range s.size).all (grAt s) && (colF s s.size == Int.ofNat c) && decide (1 ≤ s.size) && decide (s.size ≤ 2))) = true := by kernel_rfl
theorem zayg : ((List.range 1000).all fun r => decide (r = 0) || (let s := dec3 (Int.ofNat r); (List.range s.size).all (dgAt s) && (rowF s 0 s.size == Int.ofNat r) && decide (1 ≤ s.size) && decide (s.size ≤ 3) && !(byAt s 0 == 48) && (match Lib.atoiAll s.data.toList with | .ok v => v == Int.ofNat r | _ => false))) = true := by kernel_rfl
end Go.Proofs.YtliemjbafgnnbaaGreatDoor.Abs
/- The law AddrTells: what is read, by the program as by the reference. -/
namespace Go.Proofs.YtliemjbafgnnbaaGreatDoor.Abs
open Go
theorem zaos (A B : ByteArray) : (A ++ B).data.toList = A.data.toList ++ B.data.toList := by rw [ByteArray.data_append, Array.toList_append]
theorem zahl (s : ByteArray) : s.data.toList.length = s.size := by rw [Array.length_toList]; rfl
theorem zama (A B : ByteArray) {j : Nat} (h : j < A.size) : (A ++ B)[j]? = A[j]? := by
 rw [ba_at, ba_at, zaos, List.getElem?_append_left (by rw [zahl]; exact h)]
theorem zamb (A B : ByteArray) (j : Nat) : (A ++ B)[A.size + j]? = B[j]? := by
 rw [ba_at, ba_at, zaos, List.getElem?_append_right (by rw [zahl]; omega), zahl, Nat.add_sub_cancel_left]
theorem zao1 (A B : ByteArray) : (A ++ B).extract A.size (A ++ B).size = B := by
 have e : ((A ++ B).extract A.size (A ++ B).size).data.toList = B.data.toList := by
  rw [ByteArray.data_extract, Array.toList_extract, List.extract_eq_take_drop, zaos, List.drop_append_of_le_length (by rw [zahl]; exact Nat.le_refl _), List.drop_of_length_le (by rw [zahl]; exact Nat.le_refl _), List.nil_append, ByteArray.size_append, List.take_of_length_le (by rw [zahl]; omega)]
 have e1 : ∀ s : ByteArray, s = ⟨(s.data.toList).toArray⟩ := fun s => rfl
 rw [e1 ((A ++ B).extract A.size (A ++ B).size), e, ← e1]
theorem za49 (A B : ByteArray) {j : Nat} (h : j < A.size) : grAt (A ++ B) j = grAt A j := by unfold grAt; rw [zama A B h]
theorem za4w (A B : ByteArray) {j : Nat} (h : j < A.size) : byAt (A ++ B) j = byAt A j := by unfold byAt; rw [zama A B h]
theorem zazi (A B : ByteArray) (j : Nat) : byAt (A ++ B) (A.size + j) = byAt B j := by unfold byAt; rw [zamb]
theorem za46 (A B : ByteArray) (j : Nat) : dgAt (A ++ B) (A.size + j) = dgAt B j := by unfold dgAt; rw [zamb]
theorem za5a (A B : ByteArray) : grAt (A ++ B) A.size = grAt B 0 := by
 have := zamb A B 0
 rw [Nat.add_zero] at this
 unfold grAt; rw [this]
theorem zazj (A B : ByteArray) : ∀ i, i ≤ A.size → colF (A ++ B) i = colF A i
 | 0, _ => rfl
 | i + 1, h => by simp only [colF]; rw [zazj A B i (by omega), za4w A B (by omega)]
theorem za0d (A B : ByteArray) : ∀ j, rowF (A ++ B) A.size j = rowF B 0 j
 | 0 => rfl
 | j + 1 => by simp only [rowF]; rw [za0d A B j, zazi, Nat.zero_add]
theorem zaud {s : ByteArray} {j : Nat} (h : dgAt s j = true) : grAt s j = false := by
 have hb := zadi h
 cases hg : grAt s j with
 | false => rfl
 | true => have := zafi hg; omega
theorem zap0 {c : Int} (h1 : 1 ≤ c) (h2 : c ≤ 702) : (∀ j, j < (colS c).size → grAt (colS c) j = true) ∧ colF (colS c) (colS c).size = c ∧ 1 ≤ (colS c).size ∧ (colS c).size ≤ 2 := by
 obtain ⟨n, rfl⟩ := Int.eq_ofNat_of_zero_le (show 0 ≤ c by omega)
 have := List.all_eq_true.1 zaxj n (List.mem_range.2 (by omega))
 rw [decide_eq_false (by omega), Bool.false_or] at this
 simp only [Bool.and_eq_true, decide_eq_true_eq, beq_iff_eq, List.all_eq_true, List.mem_range] at this
 exact ⟨this.1.1.1, this.1.1.2, this.1.2, this.2⟩
theorem zaq6 {r : Int} (h1 : 1 ≤ r) (h2 : r ≤ 999) : (∀ j, j < (dec3 r).size → dgAt (dec3 r) j = true) ∧ rowF (dec3 r) 0 (dec3 r).size = r ∧ 1 ≤ (dec3 r).size ∧ (dec3 r).size ≤ 3 ∧ byAt (dec3 r) 0 ≠ 48 ∧ atoiN (dec3 r) = some r := by
 obtain ⟨n, rfl⟩ := Int.eq_ofNat_of_zero_le (show 0 ≤ r by omega)
 have := List.all_eq_true.1 zayg n (List.mem_range.2 (by omega))
 rw [decide_eq_false (by omega), Bool.false_or] at this
 simp only [Bool.and_eq_true, decide_eq_true_eq, beq_iff_eq, List.all_eq_true, List.mem_range, Bool.not_eq_true', beq_eq_false_iff_ne] at this
 obtain ⟨⟨⟨⟨⟨a1, a2⟩, a3⟩, a4⟩, a5⟩, a6⟩ := this
 refine ⟨a1, a2, a3, a4, a5, ?_⟩
 unfold atoiN
 split at a6
 ·rename_i v hv
  have : v = (n : Int) := by simpa using a6
  have hv2 : Lib.atoiAll (dec3 (n : Int)).data.toList = .ok v := hv
  rw [hv2, this]
 ·cases a6
theorem plS_eq {c r : Int} (h : placeF c r = true) : plS c r = colS c ++ dec3 r := by
 simp only [placeF, Bool.and_eq_true, decide_eq_true_eq] at h
 unfold plS
 rw [zat3 (by omega) h.2]
theorem zaka {c r : Int} (h : placeF c r = true) : 1 ≤ c ∧ c ≤ 702 ∧ 1 ≤ r ∧ r ≤ 999 := by
 simp only [placeF, Bool.and_eq_true, decide_eq_true_eq] at h
 exact ⟨h.1.1.1, h.1.1.2, h.1.2, h.2⟩
theorem rpF_pl {c r : Int} (sheet : ByteArray) (h : celF sheet c r = true) : rpF (plS c r) sheet = some (c, r) := by
 have hp := (zahz h).2
 obtain ⟨p1, p2, p3, p4⟩ := zaka hp
 obtain ⟨a1, a2, a3, a4⟩ := zap0 p1 p2
 obtain ⟨b1, b2, b3, b4, b5, b6⟩ := zaq6 p3 p4
 rw [plS_eq hp]
 have hl : lead3 (colS c ++ dec3 r) = (colS c).size := zaur (by omega) (fun j hj => by rw [za49 _ _ hj]; exact a1 j hj) (.inr (by rw [za5a]; exact zaud (b1 0 (by omega))))
 have hsz : (colS c ++ dec3 r).size - (colS c).size = (dec3 r).size := by rw [ByteArray.size_append]; omega
 have h0 : byAt (colS c ++ dec3 r) (colS c).size = byAt (dec3 r) 0 := by have := zazi (colS c) (dec3 r) 0; rwa [Nat.add_zero] at this
 unfold rpF
 rw [hl, hsz, if_neg (by
  rw [h0, ByteArray.size_append]
  rintro (h | h | h)
  ·omega
  ·omega
  ·exact b5 h)]
 have hall : (List.range (dec3 r).size).all (fun j => dgAt (colS c ++ dec3 r) ((colS c).size + j)) = true := by
  rw [List.all_eq_true]
  intro j hj
  rw [za46]
  exact b1 j (List.mem_range.1 hj)
 rw [hall, if_pos rfl, zazj _ _ _ (Nat.le_refl _), a2, za0d, b2, if_pos h]
theorem atF_pl {c r : Int} (h : placeF c r = true) : atF (plS c r) = some (c, r) := by
 obtain ⟨p1, p2, p3, p4⟩ := zaka h
 obtain ⟨a1, a2, a3, a4⟩ := zap0 p1 p2
 obtain ⟨b1, b2, b3, b4, b5, b6⟩ := zaq6 p3 p4
 have try' : tryPl (plS c r) (colS c).size c = some (c, r) := by
  unfold tryPl
  rw [plS_eq h, zao1, b6]
  simp only
  rw [if_pos ⟨h, plS_eq h⟩]
 obtain ⟨x, hx⟩ := ba_get (s := colS c) (i := 0) (by omega)
 have hgx : greatB x.toNat = true := by have := a1 0 (by omega); unfold grAt at this; rw [hx] at this; exact this
 have hbx : byAt (colS c) 0 = x.toNat := by unfold byAt; rw [hx]
 have t0 : (plS c r)[0]? = some x := by rw [plS_eq h, zama _ _ (by omega), hx]
 by_cases hs : (colS c).size = 1
 ·obtain ⟨y, hy⟩ := ba_get (s := dec3 r) (i := 0) (by omega)
  have hgy : greatB y.toNat = false := by have := zaud (b1 0 (by omega)); unfold grAt at this; rw [hy] at this; exact this
  have t1 : (plS c r)[1]? = some y := by
   rw [plS_eq h]
   have := zamb (colS c) (dec3 r) 0
   rw [hs] at this
   rw [this, hy]
  have hc : (x.toNat : Int) - 64 = c := by
   rw [hs] at a2
   simp only [colF, hbx] at a2
   omega
  rw [hs] at try'
  unfold atF
  rw [t0, t1]
  simp only [hgx, hgy, if_true, Bool.false_eq_true, if_false]
  rw [hc]
  exact try'
 ·have hs2 : (colS c).size = 2 := by omega
  obtain ⟨y, hy⟩ := ba_get (s := colS c) (i := 1) (by omega)
  have hgy : greatB y.toNat = true := by have := a1 1 (by omega); unfold grAt at this; rw [hy] at this; exact this
  have hby : byAt (colS c) 1 = y.toNat := by unfold byAt; rw [hy]
  have t1 : (plS c r)[1]? = some y := by rw [plS_eq h, zama _ _ (by omega), hy]
  have hc : ((x.toNat : Int) - 64) * 26 + ((y.toNat : Int) - 64) = c := by
   rw [hs2] at a2
   simp only [colF, hbx, hby] at a2
   omega
  rw [hs2] at try'
  unfold atF
  rw [t0, t1]
  simp only [hgx, hgy, if_true]
  rw [hc]
  exact try'
end Go.Proofs.YtliemjbafgnnbaaGreatDoor.Abs
/- The law AddrTells: what the reference reads, the program reads. -/
namespace Go.Proofs.YtliemjbafgnnbaaGreatDoor.Abs
open Go
theorem za5d (s : ByteArray) : s = ⟨(s.data.toList).toArray⟩ := rfl
theorem zah1 {n : Int} {b : UInt8} (h : n = b.toNat) : chr1 n = ⟨#[b]⟩ := by
 unfold chr1
 subst h
 rw [Int.toNat_natCast, UInt8.ofNat_toNat]
theorem by_mk (l : List UInt8) (j : Nat) : byAt ⟨l.toArray⟩ j = match l[j]? with | some b => (b.toNat : Int) | none => 0 := by
 unfold byAt
 rw [ba_at]
 try rfl
theorem colS_1 {a : UInt8} (h1 : 65 ≤ (a.toNat : Int)) (h2 : (a.toNat : Int) ≤ 90) : colS ((a.toNat : Int) - 65 + 1) = ⟨#[a]⟩ := by
 unfold colS
 rw [if_neg (by omega)]
 exact zah1 (by omega)
theorem colS_2 {a b : UInt8} (h1 : 65 ≤ (a.toNat : Int)) (h2 : (a.toNat : Int) ≤ 90) (h3 : 65 ≤ (b.toNat : Int)) (h4 : (b.toNat : Int) ≤ 90) : colS (26 * ((a.toNat : Int) - 65 + 1) + ((b.toNat : Int) - 65) + 1) = ⟨#[a, b]⟩ := by
 unfold colS
 rw [if_pos (by omega), zah1 (b := a) (by omega), zah1 (b := b) (by omega)]
 rfl
theorem dec_1 {a : UInt8} (h1 : 48 ≤ (a.toNat : Int)) (h2 : (a.toNat : Int) ≤ 57) : dec3 ((a.toNat : Int) - 48) = ⟨#[a]⟩ := by
 unfold dec3
 rw [if_pos (by omega)]
 exact zah1 (by omega)
theorem dec_2 {a b : UInt8} (h1 : 49 ≤ (a.toNat : Int)) (h2 : (a.toNat : Int) ≤ 57) (h3 : 48 ≤ (b.toNat : Int)) (h4 : (b.toNat : Int) ≤ 57) : dec3 (10 * ((a.toNat : Int) - 48) + ((b.toNat : Int) - 48)) = ⟨#[a, b]⟩ := by
 unfold dec3
 rw [if_neg (by omega), if_pos (by omega), zah1 (b := a) (by omega), zah1 (b := b) (by omega)]
 rfl
theorem dec_3 {a b c : UInt8} (h1 : 49 ≤ (a.toNat : Int)) (h2 : (a.toNat : Int) ≤ 57) (h3 : 48 ≤ (b.toNat : Int)) (h4 : (b.toNat : Int) ≤ 57) (h5 : 48 ≤ (c.toNat : Int)) (h6 : (c.toNat : Int) ≤ 57) : dec3 (10 * (10 * ((a.toNat : Int) - 48) + ((b.toNat : Int) - 48)) + ((c.toNat : Int) - 48)) = ⟨#[a, b, c]⟩ := by
 unfold dec3
 rw [if_neg (by omega), if_neg (by omega), zah1 (b := a) (by omega), zah1 (b := b) (by omega), zah1 (b := c) (by omega)]
 rfl
theorem za2t {t : ByteArray} : lead3 t ≤ 3 ∧ ∀ j, j < lead3 t → grAt t j = true := by
 unfold lead3
 cases h0 : grAt t 0
 ·simp
 ·cases h1 : grAt t 1
  ·refine ⟨by simp, fun j hj => ?_⟩
   simp at hj
   subst hj
   exact h0
  ·cases h2 : grAt t 2
   ·refine ⟨by simp, fun j hj => ?_⟩
    simp at hj
    have : j = 0 ∨ j = 1 := by omega
    rcases this with rfl | rfl <;> assumption
   ·refine ⟨by simp, fun j hj => ?_⟩
    simp at hj
    have : j = 0 ∨ j = 1 ∨ j = 2 := by omega
    rcases this with rfl | rfl | rfl <;> assumption
theorem zavl {t sheet : ByteArray} {c r : Int} (h : rpF t sheet = some (c, r)) : celF sheet c r = true ∧ plS c r = t := by
 unfold rpF at h
 split at h
 ·cases h
 ·rename_i hno
  split at h
  ·rename_i hall
   split at h
   ·rename_i hcel
    simp only [Option.some.injEq, Prod.mk.injEq] at h
    obtain ⟨hc, hr⟩ := h
    rw [hc, hr] at hcel
    refine ⟨hcel, ?_⟩
    obtain ⟨hl3, hgr⟩ := za2t (t := t)
    have hdg : ∀ j, j < t.size - lead3 t → dgAt t (lead3 t + j) = true := fun j hj => by
     rw [List.all_eq_true] at hall
     exact hall j (List.mem_range.2 hj)
    have hp := (zahz hcel).2
    obtain ⟨p1, p2, p3, p4⟩ := zaka hp
    rw [plS_eq hp]
    generalize lead3 t = i at *
    have hsz : i < t.size ∧ t.size ≤ i + 3 := by
     have := fun h => hno (.inl h)
     have := fun h => hno (.inr (.inl h))
     have hls : i ≤ t.size := by
      rcases Nat.lt_or_ge t.size i with hlt | hge
      ·have := hgr t.size hlt
       unfold grAt at this
       rw [getElem?_neg t t.size (by omega)] at this
       cases this
      ·exact hge
     omega
    have h48 : byAt t i ≠ 48 := fun h => hno (.inr (.inr h))
    clear hno hall
    generalize hk : t.size - i = k at *
    have hlen : t.data.toList.length = i + k := by rw [zahl]; omega
    have ht := za5d t
    generalize t.data.toList = l at hlen ht
    subst ht
    have q1 : k = 1 ∨ k = 2 ∨ k = 3 := by omega
    have q2 : i = 0 ∨ i = 1 ∨ i = 2 ∨ i = 3 := by omega
    rcases q2 with rfl | rfl | rfl | rfl
    ·simp [colF] at hc; omega
    ·have g0 := zafi (hgr 0 (by decide))
     rcases q1 with rfl | rfl | rfl
     ·match l, hlen with
      | [a, d], _ =>
       have d0 := zadi (hdg 0 (by decide))
       simp only [by_mk, colF, rowF, List.getElem?_cons_zero, List.getElem?_cons_succ, Nat.zero_add, Nat.add_zero, Nat.reduceAdd, Int.mul_zero, Int.zero_add] at *
       rw [← hc, ← hr, colS_1 g0.1 g0.2, dec_1 d0.1 d0.2]
       rfl
     ·match l, hlen with
      | [a, d, e], _ =>
       have d0 := zadi (hdg 0 (by decide))
       have d1 := zadi (hdg 1 (by decide))
       simp only [by_mk, colF, rowF, List.getElem?_cons_zero, List.getElem?_cons_succ, Nat.zero_add, Nat.add_zero, Nat.reduceAdd, Int.mul_zero, Int.zero_add] at *
       rw [← hc, ← hr, colS_1 g0.1 g0.2, dec_2 (by omega) d0.2 d1.1 d1.2]
       rfl
     ·match l, hlen with
      | [a, d, e, f], _ =>
       have d0 := zadi (hdg 0 (by decide))
       have d1 := zadi (hdg 1 (by decide))
       have d2 := zadi (hdg 2 (by decide))
       simp only [by_mk, colF, rowF, List.getElem?_cons_zero, List.getElem?_cons_succ, Nat.zero_add, Nat.add_zero, Nat.reduceAdd, Int.mul_zero, Int.zero_add] at *
       rw [← hc, ← hr, colS_1 g0.1 g0.2, dec_3 (by omega) d0.2 d1.1 d1.2 d2.1 d2.2]
       rfl
    ·have g0 := zafi (hgr 0 (by decide))
     have g1 := zafi (hgr 1 (by decide))
     rcases q1 with rfl | rfl | rfl
     ·match l, hlen with
      | [a, b, d], _ =>
       have d0 := zadi (hdg 0 (by decide))
       simp only [by_mk, colF, rowF, List.getElem?_cons_zero, List.getElem?_cons_succ, Nat.zero_add, Nat.add_zero, Nat.reduceAdd, Int.mul_zero, Int.zero_add] at *
       rw [← hc, ← hr, colS_2 g0.1 g0.2 g1.1 g1.2, dec_1 d0.1 d0.2]
       rfl
     ·match l, hlen with
      | [a, b, d, e], _ =>
       have d0 := zadi (hdg 0 (by decide))
       have d1 := zadi (hdg 1 (by decide))
       simp only [by_mk, colF, rowF, List.getElem?_cons_zero, List.getElem?_cons_succ, Nat.zero_add, Nat.add_zero, Nat.reduceAdd, Int.mul_zero, Int.zero_add] at *
       rw [← hc, ← hr, colS_2 g0.1 g0.2 g1.1 g1.2, dec_2 (by omega) d0.2 d1.1 d1.2]
       rfl
     ·match l, hlen with
      | [a, b, d, e, f], _ =>
       have d0 := zadi (hdg 0 (by decide))
       have d1 := zadi (hdg 1 (by decide))
       have d2 := zadi (hdg 2 (by decide))
       simp only [by_mk, colF, rowF, List.getElem?_cons_zero, List.getElem?_cons_succ, Nat.zero_add, Nat.add_zero, Nat.reduceAdd, Int.mul_zero, Int.zero_add] at *
       rw [← hc, ← hr, colS_2 g0.1 g0.2 g1.1 g1.2, dec_3 (by omega) d0.2 d1.1 d1.2 d2.1 d2.2]
       rfl
    ·have g0 := zafi (hgr 0 (by decide))
     have g1 := zafi (hgr 1 (by decide))
     have g2 := zafi (hgr 2 (by decide))
     simp only [colF] at hc
     omega
   ·cases h
  ·cases h
theorem zaq3 (t sheet : ByteArray) : rpF t sheet = arF t sheet := by
 unfold arF
 cases ha : atF t with
 | some cr =>
  obtain ⟨c, r⟩ := cr
  obtain ⟨h1, h2⟩ := zatm ha
  simp only
  cases hcel : celF sheet c r with
  | true =>
   rw [if_pos rfl, ← h2]
   exact rpF_pl sheet hcel
  | false =>
   rw [if_neg (by simp)]
   cases hr : rpF t sheet with
   | none => rfl
   | some dr =>
    obtain ⟨c', r'⟩ := dr
    obtain ⟨h3, h4⟩ := zavl hr
    have h5 := atF_pl (zahz h3).2
    rw [h4, ha] at h5
    cases h5
    rw [hcel] at h3
    cases h3
 | none =>
  simp only
  cases hr : rpF t sheet with
  | none => rfl
  | some dr =>
   obtain ⟨c', r'⟩ := dr
   obtain ⟨h3, h4⟩ := zavl hr
   have h5 := atF_pl (zahz h3).2
   rw [h4, ha] at h5
   cases h5
end Go.Proofs.YtliemjbafgnnbaaGreatDoor.Abs
