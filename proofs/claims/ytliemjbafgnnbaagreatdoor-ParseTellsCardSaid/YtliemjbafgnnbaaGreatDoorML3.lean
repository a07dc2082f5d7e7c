/- The reference's parser: tokens are looked at; numbers; names of calls. -/
import Derived.Test.YtliemjbafgnnbaaGreatDoorML2
import Derived.Test.YtliemjbafgnnbaaGreatDoorPW29
set_option linter.defProp false
set_option linter.unnecessarySimpa false
set_option linter.unusedSimpArgs false
set_option linter.unusedVariables false
set_option maxRecDepth 4000
set_option maxHeartbeats 0
namespace Go.Proofs.YtliemjbafgnnbaaGreatDoor.Abs
open Go
def zall := And.intro (And.intro (And.intro (And.intro (@vld3) (And.intro (@vgt3) (@vld39))) (And.intro (@vgt39) (And.intro (@vld9) (@vgt9)))) (And.intro (And.intro (@zagz) (And.intro (@zag1) (@zals))) (And.intro (@zalt) (And.intro (@zaoi) (@zaon))))) (And.intro (And.intro (And.intro (@zagi) (And.intro (@zagj) (@vix39))) (And.intro (@vio39) (And.intro (@vis39) (@viw39)))) (And.intro (And.intro (@vlr39) (And.intro (@vlo39) (@vlz39))) (And.intro (@vls39) (And.intro (@vlw39) (@Tryz.results35)))))
def zaqz := And.intro (And.intro (And.intro (And.intro (@vld3) (@vgt3)) (And.intro (@vld39) (And.intro (@vgt39) (@zagz)))) (And.intro (And.intro (@zag1) (@zals)) (And.intro (@zalt) (And.intro (@zaoi) (@zaon))))) (And.intro (And.intro (And.intro (@vix39) (@vio39)) (And.intro (@vis39) (And.intro (@viw39) (@vlr39)))) (And.intro (And.intro (@vlo39) (@vlz39)) (And.intro (@vls39) (And.intro (@vlw39) (@Tryz.results77)))))
def zanw := And.intro (And.intro (And.intro (And.intro (@vld3) (@vgt3)) (And.intro (@vld39) (And.intro (@vgt39) (@zagz)))) (And.intro (And.intro (@zag1) (And.intro (@zals) (@zalt))) (And.intro (@zawj) (And.intro (@zawr) (@za0v))))) (And.intro (And.intro (And.intro (@za03) (@vix39)) (And.intro (@vio39) (And.intro (@vis39) (@viw39)))) (And.intro (And.intro (@vlr39) (And.intro (@vlo39) (@vlz39))) (And.intro (@vls39) (And.intro (@vlw39) (@Tryz.results19)))))
attribute [local irreducible] Hold VReg Vf Vc VWP With VStp Vcallee Vp VE SeqK BlkK FinK NormK
abbrev rbx (T : List TK) (fin : Nat) (sh : ByteArray) (n bad : Int) : Blk := .cells true 53 [sl true 0 3 (T.map TK.v), .int .i64 n, .int .i64 fin, .string sh, .int .i64 bad]
section
variable {X : VOuter} {T : List TK} {fin : Nat} {sh : ByteArray} {bad : Int} {R : List Blk}
theorem zauw (N : Nat) (n bad : Int) : lowW N (1, rbx T fin sh n bad) = true := by
 have e : lowv N (sl true 0 3 (T.map TK.v)) = true := by unfold sl; split <;> rfl
 simp [lowW, lowv, e]
theorem ris_p (hX : X 35 = none) (n : Nat) (u : ByteArray) : Vf Tryz.prog X 35 [p0, .string u] (cx (rbx T fin sh n bad) R) fun v ws => ws = [] ∧ v = .bool (sgn T n u) := by
 refine zaaf hX Tryz.func35 rfl (by kernel_rfl) (by show 2 ≤ _; decide) ?_
 have h0 : (0 : Int) ≤ n := by omega
 by_cases hq : n < T.length
 ·rw [zavr hq]
  have hi : (n : Int) < T.length := by omega
  have hx : (T.map TK.v)[n]? = some (.agg ⟨[.int .i64 T[n].k, .int .i64 T[n].a, .string T[n].t]⟩) := by simp [hq, TK.v]
  generalize T[n] = t at hx
  by_cases h5 : t.k = 5
  ·simp -dsimp only [↓kpre, kpost, light, ret1, cellF, afill, setAll, simprocAttr, zall, ↓cxpre, cxpost, List.length_map]
   refine zaah [[], [], [], [], [], [], [], [], [], [], [], [], [], [], [], [], [], [], [], [], [], [], [], [], [], [], [], [], [], [], [], [], [], [], [], [], [], [], [], []] false (by kernel_rfl) (by kernel_rfl) (by kernel_rfl) ?_
   simp -dsimp only [↓kpre, kpost, light, ret1, cellF, afill, setAll, simprocAttr, ↓opre, opost, vspan, zall, ↓cxpre, cxpost, List.length_map, hi, h5, h0, hx, ab_seq]
  ·simp -dsimp only [↓kpre, kpost, light, ret1, cellF, afill, setAll, simprocAttr, zall, ↓cxpre, cxpost, List.length_map]
   refine zaah [[], [], [], [], [], [], [], [], [], [], [], [], [], [], [], [], [], [], [], [], [], [], [], [], [], [], [], [], [], [], [], [], [], [], [], [], [], [], [], []] false (by kernel_rfl) (by kernel_rfl) (by kernel_rfl) ?_
   simp -dsimp only [↓kpre, kpost, light, ret1, cellF, afill, setAll, simprocAttr, ↓opre, opost, vspan, zall, ↓cxpre, cxpost, List.length_map, hi, h5, h0, hx, ab_seq]
 ·rw [sgn_ge (by omega)]
  have hi : ¬ (n : Int) < T.length := by omega
  simp -dsimp only [↓kpre, kpost, light, ret1, cellF, afill, setAll, simprocAttr, zall, ↓cxpre, cxpost, List.length_map]
  refine zaah [[], [], [], [], [], [], [], [], [], [], [], [], [], [], [], [], [], [], [], [], [], [], [], [], [], [], [], [], [], [], [], [], [], [], [], [], [], [], [], []] false (by kernel_rfl) (by kernel_rfl) (by kernel_rfl) ?_
  simp -dsimp only [↓kpre, kpost, light, ret1, cellF, afill, setAll, simprocAttr, ↓opre, opost, vspan, zall, ↓cxpre, cxpost, List.length_map, hi]
theorem ris_c (hX : X 35 = none) (n : Nat) (u : ByteArray) (bad : Int) (R l : List Blk) (w : List Nat) (K : VCont) : Vcallee Tryz.prog X 35 [p0, .string u] ⟨cx (rbx T fin sh n bad) R, l, w⟩ K = K (.bool (sgn T n u)) [] ⟨cx (rbx T fin sh n bad) R, l, w⟩ [] false := zadd (ris_p hX n u) rfl rfl
def isK (T : List TK) (n : Nat) (k : Int) : Bool := match T[n]? with
 | some t => decide (t.k = k)
 | none => false
theorem za52 (hX : X 77 = none) (n : Nat) (k : Int) : Vf Tryz.prog X 77 [p0, .int .i64 k] (cx (rbx T fin sh n bad) R) fun v ws => ws = [] ∧ v = .bool (isK T n k) := by
 refine zaaf hX Tryz.func77 rfl (by kernel_rfl) (by show 2 ≤ _; decide) ?_
 have h0 : (0 : Int) ≤ n := by omega
 by_cases hq : n < T.length
 ·have e : isK T n k = decide (T[n].k = k) := by simp [isK, hq]
  rw [e]
  have hi : (n : Int) < T.length := by omega
  have hx : (T.map TK.v)[n]? = some (.agg ⟨[.int .i64 T[n].k, .int .i64 T[n].a, .string T[n].t]⟩) := by simp [hq, TK.v]
  generalize T[n] = t at hx
  simp -dsimp only [↓kpre, kpost, light, ret1, cellF, afill, setAll, simprocAttr, zaqz, ↓cxpre, cxpost, List.length_map]
  refine zaah [[], [], [], [], [], [], [], [], [], [], [], [], [], [], [], [], [], [], [], [], [], [], [], [], [], []] false (by kernel_rfl) (by kernel_rfl) (by kernel_rfl) ?_
  simp -dsimp only [↓kpre, kpost, light, ret1, cellF, afill, setAll, simprocAttr, ↓opre, opost, vspan, zaqz, ↓cxpre, cxpost, List.length_map, hi, h0, hx]
 ·have e : isK T n k = false := by simp [isK, hq]
  rw [e]
  have hi : ¬ (n : Int) < T.length := by omega
  simp -dsimp only [↓kpre, kpost, light, ret1, cellF, afill, setAll, simprocAttr, zaqz, ↓cxpre, cxpost, List.length_map]
  refine zaah [[], [], [], [], [], [], [], [], [], [], [], [], [], [], [], [], [], [], [], [], [], [], [], [], [], []] false (by kernel_rfl) (by kernel_rfl) (by kernel_rfl) ?_
  simp -dsimp only [↓kpre, kpost, light, ret1, cellF, afill, setAll, simprocAttr, ↓opre, opost, vspan, zaqz, ↓cxpre, cxpost, List.length_map, hi]
theorem zaiy (hX : X 77 = none) (n : Nat) (k : Int) (bad : Int) (R l : List Blk) (w : List Nat) (K : VCont) : Vcallee Tryz.prog X 77 [p0, .int .i64 k] ⟨cx (rbx T fin sh n bad) R, l, w⟩ K = K (.bool (isK T n k)) [] ⟨cx (rbx T fin sh n bad) R, l, w⟩ [] false := zadd (za52 hX n k) rfl rfl
theorem rat_p (hX : X 19 = none) (n : Nat) : Vf Tryz.prog X 19 [p0] (cx (rbx T fin sh n bad) R) fun v ws => ws = [] ∧ v = .int .i64 (atT T fin n) := by
 refine zaaf hX Tryz.func19 rfl (by kernel_rfl) (by show 1 ≤ _; decide) ?_
 have h0 : (0 : Int) ≤ n := by omega
 by_cases hq : n < T.length
 ·have e : atT T fin n = T[n].a := by simp [atT, hq]
  rw [e]
  have hi : (n : Int) < T.length := by omega
  have hx : (T.map TK.v)[n]? = some (.agg ⟨[.int .i64 T[n].k, .int .i64 T[n].a, .string T[n].t]⟩) := by simp [hq, TK.v]
  generalize T[n] = t at hx
  simp -dsimp only [↓kpre, kpost, light, ret1, cellF, afill, setAll, simprocAttr, zanw, ↓cxpre, cxpost, List.length_map]
  refine zaah [[], [], [], [], [], [], [], [], [], []] false (by kernel_rfl) (by kernel_rfl) (by kernel_rfl) ?_
  simp -dsimp only [↓kpre, kpost, light, ret1, cellF, afill, setAll, simprocAttr, ↓opre, opost, vspan, zanw, ↓cxpre, cxpost, List.length_map, hi]
  refine zaah [[], [], [], [], [], [], [], [], [], [], [], []] false (by kernel_rfl) (by kernel_rfl) (by kernel_rfl) ?_
  simp -dsimp only [↓kpre, kpost, light, ret1, cellF, afill, setAll, simprocAttr, ↓opre, opost, vspan, zanw, ↓cxpre, cxpost, List.length_map, hi, h0, hx]
 ·have e : atT T fin n = fin := by simp [atT, hq]
  rw [e]
  have hi : ¬ (n : Int) < T.length := by omega
  simp -dsimp only [↓kpre, kpost, light, ret1, cellF, afill, setAll, simprocAttr, zanw, ↓cxpre, cxpost, List.length_map]
  refine zaah [[], [], [], [], [], [], [], [], [], []] false (by kernel_rfl) (by kernel_rfl) (by kernel_rfl) ?_
  simp -dsimp only [↓kpre, kpost, light, ret1, cellF, afill, setAll, simprocAttr, ↓opre, opost, vspan, zanw, ↓cxpre, cxpost, List.length_map, hi]
theorem rat_c (hX : X 19 = none) (n : Nat) (bad : Int) (R l : List Blk) (w : List Nat) (K : VCont) : Vcallee Tryz.prog X 19 [p0] ⟨cx (rbx T fin sh n bad) R, l, w⟩ K = K (.int .i64 (atT T fin n)) [] ⟨cx (rbx T fin sh n bad) R, l, w⟩ [] false := zadd (rat_p hX n) rfl rfl
theorem za0b (hX : X 18 = none) (n : Int) (b : Nat) : Vf Tryz.prog X 18 [p0, .int .i64 b] (cx (rbx T fin sh n (-1)) R) fun v ws => ws = [(1, rbx T fin sh n b)] ∧ v = .agg ⟨Nd.zero.cs⟩ := by
 refine zaaf hX Tryz.func18 rfl (by kernel_rfl) (by show 2 ≤ _; decide) ?_
 have hm : ((-1 : Int) < 0) = True := by simp
 simp -dsimp only [↓kpre, kpost, light, ret1, cellF, afill, setAll, simprocAttr, vld3, vgt3, vld29, vgt29, vst3, vst29, ↓val29, zaoh, zaom, bd29, pl29_0, pl29_1, pl29_2, pl29_3, pl29_4, pl29_5, pl29_6, Tryz.results18, ↓cxpre, cxpost, List.length_map, hm]
 simp [Nd.zero, Nd.cs, Nd.vs, sl, v0, c0]
theorem zanz (hX : X 18 = none) (n : Int) (b : Nat) (R l : List Blk) (w : List Nat) (K : VCont) : Vcallee Tryz.prog X 18 [p0, .int .i64 b] ⟨cx (rbx T fin sh n (-1)) R, l, w⟩ K = K (.agg ⟨Nd.zero.cs⟩) [dropBoxes [1]] ⟨cx (rbx T fin sh n b) R, l, addW 1 w⟩ [1] false := zad4 (za0b hX n b) rfl rfl (zauw _ _ _)
theorem za3h (hX : X 34 = none) : Vp Tryz.prog X 34 [] (vs 0 1 opsVs) := by
 unfold Vp
 refine zaaf hX Tryz.func34 rfl (by kernel_rfl) (by show 0 ≤ _; decide) ?_
 simp -dsimp only [↓kpre, kpost, light, ret1, cellF, afill, setAll, simprocAttr, vbd65, vbd60, Tryz.results34]
 rfl
theorem za3g (hX : X 34 = none) (S : VH) (K : VCont) : Vcallee Tryz.prog X 34 [] S K = K (vs 0 1 opsVs) [] S [] false := zaag (args' := []) (za3h hX) rfl rfl rfl
theorem zakm {n : Int} (h0 : 0 ≤ n) (h1 : n ≤ 18446744073709551615) : IntKind.u64.wrap n = n := by simp only [IntKind.wrap, IntKind.bits, IntKind.signed]; simp; omega
theorem za6i {n : Int} (h0 : 0 ≤ n) (h1 : n ≤ 255) : IntKind.u8.wrap n = n := by simp only [IntKind.wrap, IntKind.bits, IntKind.signed]; simp; omega
theorem zasy {n : Int} (h0 : 0 ≤ n) (h1 : n ≤ 255) : vconv Tryz.prog 5 103 (.int .u8 n) = some (.int .u64 n) := by
 rw [zaof _ rfl rfl rfl]
 have e : aconv Tryz.prog 5 103 (.int .u8 n) ⟨0, .tip⟩ = some (.int .u64 (IntKind.u64.wrap n)) := by kernel_rfl
 rw [e, zakm h0 (by omega)]
theorem zawb {n : Int} (h0 : 0 ≤ n) (h1 : n ≤ 9223372036854775807) : vconv Tryz.prog 103 3 (.int .u64 n) = some (.int .i64 n) := by
 rw [zaof _ rfl rfl rfl]
 have e : aconv Tryz.prog 103 3 (.int .u64 n) ⟨0, .tip⟩ = some (.int .i64 (IntKind.i64.wrap n)) := by kernel_rfl
 rw [e, zaar (by omega) h1]
def numV (s : ByteArray) : Value := match digF 0 s.data.toList with
 | some n => .tuple ⟨[.int .i64 n, .bool true]⟩
 | none => .tuple ⟨[.int .i64 0, .bool false]⟩
theorem rnum_p (hX : X 63 = none) (s : ByteArray) (hs : s.size ≤ 1000) (hd : digL s.data.toList) : Vp Tryz.prog X 63 [.string s] (numV s) := by
 unfold Vp
 refine zaaf hX Tryz.func63 rfl (by kernel_rfl) (by show 1 ≤ _; decide) ?_
 simp -dsimp only [↓kpre, kpost, light, ret1, cellF, afill, setAll, simprocAttr, ix9, vlr9, ↓vcv103, ↓vcv3, Tryz.results63]
 refine zabw (fun m e S => ∃ (i acc : Nat), m = s.size - i ∧ i ≤ s.size ∧ acc ≤ 9223372036854775807 ∧ digF 0 s.data.toList = digF acc (s.data.toList.drop i) ∧ eget e 0 = .string s ∧ eget e 4 = .int .u64 acc ∧ eget e 5 = .int .i64 i ∧ S = ⟨[], [], []⟩) s.size ?_ ?_
 ·refine ⟨0, 0, rfl, Nat.zero_le _, by omega, rfl, ?_, ?_, ?_, rfl⟩ <;> simp only [↓epre, epost, simprocAttr] <;> rfl
 ·rintro m e S ⟨i, acc, rfl, hi, hacc, hF, e0, e4, e5, rfl⟩
  refine VWP_Vc _ _ _ _ ?_
  by_cases hin : i < s.size
  ·have hlt : (i : Int) < s.size := by omega
   have h0 : (0 : Int) ≤ i := by omega
   obtain ⟨b, hb⟩ := ba_get hin
   have hb' := hb
   rw [tba_at, List.getElem?_eq_some_iff] at hb'
   obtain ⟨hil, hbe⟩ := hb'
   have hc := hd b (by rw [← hbe]; exact List.getElem_mem _)
   rw [List.drop_eq_getElem_cons hil, hbe, zap1] at hF
   have hwr : IntKind.i64.wrap ((i : Int) + 1) = ((i + 1 : Nat) : Int) := zaaq (by omega) (by omega)
   have hd1 : (b.toNat : Int) - 48 = ((b.toNat - 48 : Nat) : Int) := by omega
   generalize hdd : b.toNat - 48 = d at hd1 hF
   have w8 : IntKind.u8.wrap ((b.toNat : Int) - 48) = (d : Int) := by rw [hd1]; exact za6i (by omega) (by omega)
   have cv := zasy (n := (d : Int)) (by omega) (by omega)
   have ws : IntKind.u64.wrap (9223372036854775807 - (d : Int)) = ((9223372036854775807 - d : Nat) : Int) := by
    rw [show (9223372036854775807 : Int) - (d : Int) = ((9223372036854775807 - d : Nat) : Int) by omega]
    exact zakm (by omega) (by omega)
   have wq : IntKind.u64.wrap ((((9223372036854775807 - d : Nat) : Int)).tdiv 10) = (((9223372036854775807 - d) / 10 : Nat) : Int) := by
    rw [show (10 : Int) = ((10 : Nat) : Int) from rfl, ← Int.ofNat_eq_natCast, ← Int.ofNat_eq_natCast]
    rw [show (Int.ofNat (9223372036854775807 - d)).tdiv (Int.ofNat 10) = Int.ofNat ((9223372036854775807 - d) / 10) from rfl]
    exact zakm (by simp only [Int.ofNat_eq_natCast]; omega) (by simp only [Int.ofNat_eq_natCast]; omega)
   have hq3 : ∀ (t : TypeId) (x y : Operand) (a : Int), abin Tryz.prog .quo t x y (.int .u64 a) (.int .u64 10) = some (.int .u64 (IntKind.u64.wrap (a.tdiv 10))) := fun t x y a => zaze (by decide)
   by_cases hg : (9223372036854775807 - d) / 10 < acc
   ·rw [if_pos hg] at hF
    have hg' : (((9223372036854775807 - d) / 10 : Nat) : Int) < (acc : Int) := by omega
    have hv : numV s = .tuple ⟨[.int .i64 0, .bool false]⟩ := by simp [numV, hF]
    rw [hv]
    simp -dsimp only [↓kpre, kpost, light, ret1, cellF, afill, setAll, simprocAttr, ix9, vlr9, ↓vcv103, ↓vcv3, Tryz.results63, e0, e4, e5, hlt, h0, hb, w8, cv, ws, hq3, wq, hg']
   ·rw [if_neg hg] at hF
    have hg' : ¬ (((9223372036854775807 - d) / 10 : Nat) : Int) < (acc : Int) := by omega
    have hst : stepF acc b = 10 * acc + d := by unfold stepF; rw [hdd]
    rw [hst] at hF
    have wm : IntKind.u64.wrap (10 * (acc : Int)) = ((10 * acc : Nat) : Int) := by
     rw [show (10 : Int) * (acc : Int) = ((10 * acc : Nat) : Int) by omega]
     exact zakm (by omega) (by omega)
    have wa : IntKind.u64.wrap (((10 * acc : Nat) : Int) + (d : Int)) = ((10 * acc + d : Nat) : Int) := by
     rw [show ((10 * acc : Nat) : Int) + (d : Int) = ((10 * acc + d : Nat) : Int) by omega]
     exact zakm (by omega) (by omega)
    simp -dsimp only [↓kpre, kpost, light, ret1, cellF, afill, setAll, simprocAttr, ix9, vlr9, ↓vcv103, ↓vcv3, Tryz.results63, e0, e4, e5, hlt, h0, hb, w8, cv, ws, hq3, wq, hg', wm, wa, hwr]
    exact ⟨s.size - (i + 1), by omega, i + 1, 10 * acc + d, rfl, by omega, by omega, hF, rfl, rfl⟩
  ·obtain rfl : i = s.size := by omega
   have hlt : ¬ ((s.size : Int) < s.size) := by omega
   rw [List.drop_of_length_le (by exact Nat.le_refl _), zat6] at hF
   have hv : numV s = .tuple ⟨[.int .i64 acc, .bool true]⟩ := by simp [numV, hF]
   have cv := zawb (n := (acc : Int)) (by omega) (by omega)
   rw [hv]
   simp -dsimp only [↓kpre, kpost, light, ret1, cellF, afill, setAll, simprocAttr, ix9, vlr9, ↓vcv103, ↓vcv3, Tryz.results63, e0, e4, e5, hlt, cv]
theorem za26 (hX : X 41 = none) (hG : X 29 = none) (s : ByteArray) : Vp Tryz.prog X 41 [.string s] (.bool (callN s)) := by
 unfold Vp
 refine zaaf hX Tryz.func41 rfl (by kernel_rfl) (by show 1 ≤ _; decide) ?_
 by_cases h0 : (s.size : Int) < 1
 ·simp -dsimp only [↓kpre, kpost, light, ret1, cellF, afill, setAll, simprocAttr, ix9, vlr9, ↓vfk29, Tryz.results41, ab_seq, h0]
  rw [zajm (by omega)]
 ·by_cases h8 : (8 : Int) < s.size
  ·simp -dsimp only [↓kpre, kpost, light, ret1, cellF, afill, setAll, simprocAttr, ix9, vlr9, ↓vfk29, Tryz.results41, ab_seq, h0, h8]
   rw [zajm (by omega)]
  ·by_cases ht : s = ⟨#[84, 82, 85, 69]⟩
   ·subst ht
    have z0 : ¬ (((⟨#[84, 82, 85, 69]⟩ : ByteArray).size : Int) < 1) := h0
    simp -dsimp only [↓kpre, kpost, light, ret1, cellF, afill, setAll, simprocAttr, ix9, vlr9, ↓vfk29, Tryz.results41, ab_seq, h0, h8]
    rfl
   ·by_cases hf : s = ⟨#[70, 65, 76, 83, 69]⟩
    ·subst hf
     simp -dsimp only [↓kpre, kpost, light, ret1, cellF, afill, setAll, simprocAttr, ix9, vlr9, ↓vfk29, Tryz.results41, ab_seq, h0, h8, ht]
     rfl
    ·simp -dsimp only [↓kpre, kpost, light, ret1, cellF, afill, setAll, simprocAttr, ix9, vlr9, ↓vfk29, Tryz.results41, ab_seq, h0, h8, ht, hf]
     refine zabw (fun m e S => ∃ i : Nat, m = s.size - i ∧ i ≤ s.size ∧ eget e 0 = .string s ∧ eget e 3 = .int .i64 i ∧ (∀ q, q < i → atB greatB s q = true) ∧ S = ⟨[], [], []⟩) s.size ?_ ?_
     ·refine ⟨0, rfl, Nat.zero_le _, ?_, ?_, fun q h => absurd h (Nat.not_lt_zero q), rfl⟩ <;> simp only [↓epre, epost, simprocAttr] <;> rfl
     ·rintro m e S ⟨i, rfl, hi, e0, e3, hall, rfl⟩
      refine VWP_Vc _ _ _ _ ?_
      by_cases hin : i < s.size
      ·have hlt : (i : Int) < s.size := by omega
       have h0i : (0 : Int) ≤ i := by omega
       obtain ⟨b, hb⟩ := ba_get hin
       have hwr : IntKind.i64.wrap ((i : Int) + 1) = ((i + 1 : Nat) : Int) := zaaq (by omega) (by omega)
       have gc := fun S K => zake (S := S) (K := K) hG (b.toNat : Int)
       cases hg : greatB b.toNat with
       | false =>
        rw [hg] at gc
        simp -dsimp only [↓kpre, kpost, light, ret1, cellF, afill, setAll, simprocAttr, ix9, vlr9, ↓vfk29, Tryz.results41, e0, e3, hlt, h0i, hb, hwr, ↓gc]
        rw [zal3 hin (by rw [zafl hb]; exact hg)]
       | true =>
        rw [hg] at gc
        simp -dsimp only [↓kpre, kpost, light, ret1, cellF, afill, setAll, simprocAttr, ix9, vlr9, ↓vfk29, Tryz.results41, e0, e3, hlt, h0i, hb, hwr, ↓gc]
        refine ⟨s.size - (i + 1), by omega, i + 1, rfl, by omega, rfl, fun q hq => ?_⟩
        rcases Nat.lt_succ_iff_lt_or_eq.1 hq with hq | rfl
        ·exact hall q hq
        ·rw [zafl hb]; exact hg
      ·obtain rfl : i = s.size := by omega
       have hlt : ¬ ((s.size : Int) < s.size) := by omega
       simp -dsimp only [↓kpre, kpost, light, ret1, cellF, afill, setAll, simprocAttr, ix9, vlr9, ↓vfk29, Tryz.results41, e0, e3, hlt]
       rw [zam2 (by omega) (by omega) ht hf hall]
theorem zavi (hX : X 41 = none) (hG : X 29 = none) (s : ByteArray) (S : VH) (K : VCont) : Vcallee Tryz.prog X 41 [.string s] S K = K (.bool (callN s)) [] S [] false := zaag (za26 hX hG s) rfl rfl rfl
end
end Go.Proofs.YtliemjbafgnnbaaGreatDoor.Abs
/- The reference's parser: references, calls, words. -/
namespace Go.Proofs.YtliemjbafgnnbaaGreatDoor.Abs
open Go
def zaqu := And.intro (And.intro (@val29) (@vfk35)) (And.intro (@vfk33) (@vfk53))
def zaq0 := And.intro (And.intro (And.intro (And.intro (@vld3) (@vgt3)) (And.intro (@vld29) (@vgt29))) (And.intro (And.intro (@vst3) (@vst29)) (And.intro (@zagz) (And.intro (@zag1) (@bd29))))) (And.intro (And.intro (And.intro (@pl29_0) (@pl29_1)) (And.intro (@pl29_2) (@pl29_3))) (And.intro (And.intro (@pl29_4) (@pl29_5)) (And.intro (@pl29_6) (And.intro (@vbd27) (@Tryz.results33)))))
structure RpOff (X : VOuter) : Prop where
 is : X 35 = none
 kind : X 77 = none
 rat : X 19 = none
 fail : X 18 = none
 num : X 63 = none
 cname : X 41 = none
 great : X 29 = none
 ranks : X 34 = none
 ref : X 65 = none
 word : X 66 = none
 call : X 80 = none
 first : X 53 = none
 unary : X 33 = none
 pair : X 17 = none
 truth : X 79 = none
 int : X 64 = none
 r : ROff X
 rd : ∀ t s : ByteArray, t.size ≤ 1000 → ∀ S K, Vcallee Tryz.prog X 78 [.string t, .string s] S K = K (cellT s (rpF t s)) [] S [] false
section
variable (X : VOuter) (T : List TK) (fin : Nat) (sh : ByteArray)
def ROut (f : FuncId) (args : List Value) (n : Nat) (r : Except Nat (Nd × Nat)) : Prop := ∀ R, match r with
 | .ok (x, m) => Vf Tryz.prog X f (p0 :: args) (cx (rbx T fin sh n (-1)) R) fun v ws => ws = [(1, rbx T fin sh m (-1))] ∧ v = .agg ⟨x.cs⟩
 | .error b => ∃ (y : Nd) (n' : Int), Vf Tryz.prog X f (p0 :: args) (cx (rbx T fin sh n (-1)) R) fun v ws => ws = [(1, rbx T fin sh n' b)] ∧ v = .agg ⟨y.cs⟩
end
section
variable {X : VOuter} {T : List TK} {fin : Nat} {sh : ByteArray}
theorem ROut.c {f : FuncId} {args : List Value} {n : Nat} {x : Nd} {m : Nat} (h : ROut X T fin sh f args n (.ok (x, m))) (ha : mapOwnL (lend false) args = args) (ht : toksL args = []) (R l : List Blk) (w : List Nat) (K : VCont) :
    Vcallee Tryz.prog X f (p0 :: args) ⟨cx (rbx T fin sh n (-1)) R, l, w⟩ K = K (.agg ⟨x.cs⟩) [dropBoxes [1]] ⟨cx (rbx T fin sh m (-1)) R, l, addW 1 w⟩ [1] false := zad4 (h (cat R l)) ha ht (zauw _ _ _)
theorem ROut.e {f : FuncId} {args : List Value} {n : Nat} {b : Nat} (h : ROut X T fin sh f args n (.error b)) (ha : mapOwnL (lend false) args = args) (ht : toksL args = []) : ∃ (y : List Blk → Nd) (n' : List Blk → Int), ∀ (R l : List Blk) (w : List Nat) (K : VCont),
    Vcallee Tryz.prog X f (p0 :: args) ⟨cx (rbx T fin sh n (-1)) R, l, w⟩ K = K (.agg ⟨(y (cat R l)).cs⟩) [dropBoxes [1]] ⟨cx (rbx T fin sh (n' (cat R l)) b) R, l, addW 1 w⟩ [1] false := by
 have h' : ∀ R, ∃ (y : Nd) (n' : Int), Vf Tryz.prog X f (p0 :: args) (cx (rbx T fin sh n (-1)) R) fun v ws => ws = [(1, rbx T fin sh n' b)] ∧ v = .agg ⟨y.cs⟩ := h
 refine ⟨fun R => Classical.choose (h' R), fun R => Classical.choose (Classical.choose_spec (h' R)), fun R l w K => ?_⟩
 exact zad4 (Classical.choose_spec (Classical.choose_spec (h' (cat R l)))) ha ht (zauw _ _ _)
theorem za4r {f : FuncId} {args : List Value} {B : List Blk} {b : Int} (h : Vf Tryz.prog X f args B fun v ws => ∃ (y : Nd) (n' : Int), ws = [(1, rbx T fin sh n' b)] ∧ v = .agg ⟨y.cs⟩) :
    ∃ (y : Nd) (n' : Int), Vf Tryz.prog X f args B fun v ws => ws = [(1, rbx T fin sh n' b)] ∧ v = .agg ⟨y.cs⟩ := by
 unfold Vf at h ⊢
 obtain ⟨n, r, h1, y, n', h2⟩ := h
 exact ⟨y, n', n, r, h1, h2⟩
theorem ROut.ok {f : FuncId} {args : List Value} {n : Nat} {x : Nd} {m : Nat} (h : ∀ R, Vf Tryz.prog X f (p0 :: args) (cx (rbx T fin sh n (-1)) R) fun v ws => ws = [(1, rbx T fin sh m (-1))] ∧ v = .agg ⟨x.cs⟩) : ROut X T fin sh f args n (.ok (x, m)) := h
theorem ROut.er {f : FuncId} {args : List Value} {n : Nat} {b : Nat} (h : ∀ R, Vf Tryz.prog X f (p0 :: args) (cx (rbx T fin sh n (-1)) R) fun v ws => ∃ (y : Nd) (n' : Int), ws = [(1, rbx T fin sh n' b)] ∧ v = .agg ⟨y.cs⟩) : ROut X T fin sh f args n (.error b) := fun R => za4r (h R)
theorem za6j (h : RpOff X) (hT : TokOk T) (hl : T.length ≤ 1000) {n : Nat} (hn : n ≤ T.length) {r : Except Nat (Nd × Nat)} (hp : Pr T fin sh .minus n r)
    (ho : ∀ r, Pr T fin sh .one n r → ROut X T fin sh 53 [] n r) (hm : n < T.length → ∀ r, Pr T fin sh .minus (n + 1) r → ROut X T fin sh 33 [] (n + 1) r) : ROut X T fin sh 33 [] n r := by
 have sg := fun R l w K => ris_c (T := T) (fin := fin) (sh := sh) h.is n ⟨#[45]⟩ (-1) R l w K
 have w1 : IntKind.i64.wrap ((n : Int) + 1) = ((n + 1 : Nat) : Int) := zaaq (by omega) (by omega)
 cases hp with
 | minusN hs h1 =>
  rw [hs] at sg
  have oo := ho r h1
  cases r with
  | ok xm =>
   obtain ⟨x, m⟩ := xm
   have oc := fun R l w K => oo.c rfl rfl R l w K
   refine ROut.ok fun R => ?_
   refine zaaf h.unary Tryz.func33 rfl (by kernel_rfl) (by show 1 ≤ _; decide) ?_
   simp -dsimp only [↓kpre, kpost, light, ret1, cellF, afill, setAll, simprocAttr, ↓zaqu, zaq0, ↓cxpre, cxpost, List.length_map, ndl, ↓ndpre, ndow, ne_eq, not_false_eq_true, zaaa, zaab, ↓zaad, ↓zaae, and_false, if_false, Option.isNone_some, ↓sg, ↓oc]
  | error b =>
   obtain ⟨y, n', oc⟩ := oo.e rfl rfl
   refine ROut.er fun R => ?_
   refine zaaf h.unary Tryz.func33 rfl (by kernel_rfl) (by show 1 ≤ _; decide) ?_
   simp -dsimp only [↓kpre, kpost, light, ret1, cellF, afill, setAll, simprocAttr, ↓zaqu, zaq0, ↓cxpre, cxpost, List.length_map, ndl, ↓ndpre, ndow, ne_eq, not_false_eq_true, zaaa, zaab, ↓zaad, ↓zaae, and_false, if_false, Option.isNone_some, ↓sg, ↓oc]
   exact ⟨_, _, rfl, rfl⟩
 | @minusO _ x m hs h1 =>
  rw [hs] at sg
  have hlt := sgn_lt hs
  have oc := fun R l w K => (hm hlt _ h1).c rfl rfl R l w K
  refine ROut.ok fun R => ?_
  refine zaaf h.unary Tryz.func33 rfl (by kernel_rfl) (by show 1 ≤ _; decide) ?_
  simp -dsimp only [↓kpre, kpost, light, ret1, cellF, afill, setAll, simprocAttr, ↓zaqu, zaq0, ↓cxpre, cxpost, List.length_map, ndl, ↓ndpre, ndow, ne_eq, not_false_eq_true, zaaa, zaab, ↓zaad, ↓zaae, and_false, if_false, Option.isNone_some, ↓sg, w1, ↓oc]
  simp [Nd.neg, Nd.cs, Nd.vs, sl, v0, c0]
 | @minusE _ b hs h1 =>
  rw [hs] at sg
  have hlt := sgn_lt hs
  obtain ⟨y, n', oc⟩ := (hm hlt _ h1).e rfl rfl
  refine ROut.er fun R => ?_
  refine zaaf h.unary Tryz.func33 rfl (by kernel_rfl) (by show 1 ≤ _; decide) ?_
  simp -dsimp only [↓kpre, kpost, light, ret1, cellF, afill, setAll, simprocAttr, ↓zaqu, zaq0, ↓cxpre, cxpost, List.length_map, ndl, ↓ndpre, ndow, ne_eq, not_false_eq_true, zaaa, zaab, ↓zaad, ↓zaae, and_false, if_false, Option.isNone_some, ↓sg, w1, ↓oc]
  exact ⟨Nd.neg (y _), _, rfl, by simp [Nd.neg, Nd.cs, Nd.vs, sl, v0, c0]; rfl⟩
theorem rp_at {t s : ByteArray} (hs : nameF s = true) : rpF t s = atF t := by
 rw [zaq3]
 unfold arF
 cases ha : atF t with
 | none => rfl
 | some cr =>
  obtain ⟨c, r⟩ := cr
  simp only
  rw [if_pos (zatl hs ha)]
theorem rp_bad {t s : ByteArray} (hs : nameF s = false) : rpF t s = none := by
 rw [zaq3]
 unfold arF
 cases ha : atF t with
 | none => rfl
 | some cr =>
  simp only
  rw [if_neg]
  unfold celF
  rw [hs]
  simp
end
end Go.Proofs.YtliemjbafgnnbaaGreatDoor.Abs
/- The reference's parser: references. -/
namespace Go.Proofs.YtliemjbafgnnbaaGreatDoor.Abs
open Go
def zaa3 := And.intro (And.intro (And.intro (@val29) (@val26)) (And.intro (@vfk19) (@vfk77))) (And.intro (And.intro (@vfk35) (@vfk18)) (And.intro (@vfk78) (@vfk39)))
def zaa4 := And.intro (And.intro (And.intro (And.intro (And.intro (@vld9) (@vgt9)) (And.intro (@vld39) (@vgt39))) (And.intro (And.intro (@vld3) (@vgt3)) (And.intro (@vld26) (And.intro (@vgt26) (@vld29))))) (And.intro (And.intro (And.intro (@vgt29) (@vst3)) (And.intro (@vst29) (@vst26))) (And.intro (And.intro (@za0w) (@za04)) (And.intro (@zals) (And.intro (@zalt) (@zagz)))))) (And.intro (And.intro (And.intro (And.intro (@zag1) (@zagi)) (And.intro (@zagj) (@bd29))) (And.intro (And.intro (@pl29_0) (@pl29_1)) (And.intro (@pl29_2) (And.intro (@pl29_3) (@pl29_4))))) (And.intro (And.intro (And.intro (@pl29_5) (@pl29_6)) (And.intro (@bd77) (And.intro (@pl77_0) (@pl77_1)))) (And.intro (And.intro (@vix39) (@vio39)) (And.intro (@vis39) (And.intro (@viw39) (@Tryz.results65))))))
theorem zaul {T : List TK} {n : Nat} {k : Int} {t : TK} (ht : T[n]? = some t) (hk : t.k = k) : isK T n k = true := by simp [isK, ht, hk]
theorem isK_no {T : List TK} {n : Nat} {k : Int} {t : TK} (ht : T[n]? = some t) (hk : t.k ≠ k) : isK T n k = false := by simp [isK, ht, hk]
theorem zane {T : List TK} {n : Nat} {k : Int} (h : isK T n k = true) : ∃ t, T[n]? = some t ∧ t.k = k := by
 unfold isK at h
 split at h
 ·rename_i t ht; exact ⟨t, ht, by simpa using h⟩
 ·cases h
theorem zamf {T : List TK} {n : Nat} (h : isK T n 3 = false) : placeT T n = none := by
 unfold placeT
 split
 ·rename_i t ht
  rw [if_neg]
  intro hk
  rw [zaul ht hk] at h
  cases h
 ·rfl
theorem zaic {T : List TK} {n : Nat} {t : TK} (ht : T[n]? = some t) (hk : t.k = 3) : placeT T n = atF t.t := by simp [placeT, ht, hk]
section
variable {X : VOuter} {T : List TK} {fin : Nat} {sh : ByteArray}
theorem ref_a (h : RpOff X) (hT : TokOk T) (hl : T.length ≤ 1000) (hsh : nameF sh = true) {n : Nat} {t : TK} (ht : T[n]? = some t) (hk : t.k = 3) : ROut X T fin sh 65 [] n (cellG T fin sh n 0) := by
 have hn := (List.getElem?_eq_some_iff.1 ht).1
 have k4 := fun R l w K => zaiy (T := T) (fin := fin) (sh := sh) h.kind n 4 (-1) R l w K
 rw [isK_no ht (by rw [hk]; decide)] at k4
 have em := True.intro
 have h0 : (0 : Int) ≤ n := by omega
 have h02 : (0 : Int) ≤ (((n + 2) : Nat) : Int) := by omega
 have ac := fun R l w K => rat_c (T := T) (fin := fin) (sh := sh) h.rat n (-1) R l w K
 have k3 := fun R l w K => zaiy (T := T) (fin := fin) (sh := sh) h.kind n 3 (-1) R l w K
 have fl := fun (m : Int) R l w K => zanz (T := T) (fin := fin) (sh := sh) h.fail m (atT T fin n) R l w K
 have w1 : IntKind.i64.wrap (((n : Nat) : Int) + 1) = (((n + 1) : Nat) : Int) := zaaq (by omega) (by omega)
 have w2 : IntKind.i64.wrap ((((n + 1) : Nat) : Int) + 1) = (((n + 2) : Nat) : Int) := zaaq (by omega) (by omega)
 have w3 : IntKind.i64.wrap ((((n + 2) : Nat) : Int) + 1) = (((n + 3) : Nat) : Int) := zaaq (by omega) (by omega)
 unfold cellG
 have eq0 : n + 0 = n := rfl
 rw [eq0]
 cases hq : isK T n 3 with
 | false =>
  rw [hq] at k3
  rw [zamf hq]
  refine ROut.er fun R => ?_
  refine zaaf h.ref Tryz.func65 rfl (by kernel_rfl) (by show 1 ≤ _; decide) ?_
  simp -dsimp only [↓kpre, kpost, light, ret1, cellF, afill, setAll, simprocAttr, ↓zaa3, zaa4, ↓cxpre, cxpost, List.length_map, ndl, ↓ndpre, ndow, ne_eq, not_false_eq_true, zaaa, zaab, ↓zaad, ↓zaae, and_false, if_false, Option.isNone_some, ↓ac, ↓k4, ↓k3, ↓fl, w1, w2, w3, h0, h02, ↓em]
  exact ⟨Nd.zero, _, rfl, rfl⟩
 | true =>
  rw [hq] at k3
  obtain ⟨t1, ht1, hk1⟩ := zane hq
  rw [zaic ht1 hk1]
  have hz1 := hT.size t1 (List.mem_of_getElem? ht1)
  have hx : (T.map TK.v)[n]? = some (.agg ⟨[.int .i64 t1.k, .int .i64 t1.a, .string t1.t]⟩) := by rw [List.getElem?_map, ht1]; rfl
  have rp := fun S K => h.rd t1.t sh (by omega) S K
  rw [rp_at hsh] at rp
  cases ha : atF t1.t with
  | none =>
   rw [ha] at rp
   simp only [cellT] at rp
   simp only
   refine ROut.er fun R => ?_
   refine zaaf h.ref Tryz.func65 rfl (by kernel_rfl) (by show 1 ≤ _; decide) ?_
   simp -dsimp only [↓kpre, kpost, light, ret1, cellF, afill, setAll, simprocAttr, ↓zaa3, zaa4, ↓cxpre, cxpost, List.length_map, ndl, ↓ndpre, ndow, ne_eq, not_false_eq_true, zaaa, zaab, ↓zaad, ↓zaae, and_false, if_false, Option.isNone_some, ↓ac, ↓k4, ↓k3, ↓fl, w1, w2, w3, h0, h02, ↓em, hx, ↓rp]
   refine zabb [[], [], [], [], [], [], [], [], [], [], [], [], [], [], [], [], [], [], []] false (by kernel_rfl) (by kernel_rfl) (by kernel_rfl) (by kernel_rfl) ?_
   simp -dsimp only [↓kpre, kpost, light, ret1, cellF, afill, setAll, simprocAttr, ↓opre, opost, vspan, ↓zaa3, zaa4, ↓cxpre, cxpost, List.length_map, ndl, ↓ndpre, ndow, ne_eq, not_false_eq_true, zaaa, zaab, ↓zaad, ↓zaae, and_false, if_false, Option.isNone_some, ↓ac, ↓k4, ↓k3, ↓fl, w1, w2, w3, h0, h02, ↓em, hx, ↓rp]
   exact ⟨Nd.zero, _, rfl, rfl⟩
  | some cr =>
   obtain ⟨c, r⟩ := cr
   rw [ha] at rp
   simp only [cellT] at rp
   simp only
   have sc := fun R l w K => ris_c (T := T) (fin := fin) (sh := sh) h.is (n + 1) ⟨#[58]⟩ (-1) R l w K
   cases hs' : sgn T (n + 1) ⟨#[58]⟩ with
   | false =>
    rw [hs'] at sc
    simp only [Bool.false_eq_true, if_false]
    refine ROut.ok fun R => ?_
    refine zaaf h.ref Tryz.func65 rfl (by kernel_rfl) (by show 1 ≤ _; decide) ?_
    simp -dsimp only [↓kpre, kpost, light, ret1, cellF, afill, setAll, simprocAttr, ↓zaa3, zaa4, ↓cxpre, cxpost, List.length_map, ndl, ↓ndpre, ndow, ne_eq, not_false_eq_true, zaaa, zaab, ↓zaad, ↓zaae, and_false, if_false, Option.isNone_some, ↓ac, ↓k4, ↓k3, ↓fl, w1, w2, w3, h0, h02, ↓em, hx, ↓rp, ↓sc]
    refine zabb [[], [], [], [], [], [], [], [], [], [], [], [], [], [], [], [], [], [], []] false (by kernel_rfl) (by kernel_rfl) (by kernel_rfl) (by kernel_rfl) ?_
    simp -dsimp only [↓kpre, kpost, light, ret1, cellF, afill, setAll, simprocAttr, ↓opre, opost, vspan, ↓zaa3, zaa4, ↓cxpre, cxpost, List.length_map, ndl, ↓ndpre, ndow, ne_eq, not_false_eq_true, zaaa, zaab, ↓zaad, ↓zaae, and_false, if_false, Option.isNone_some, ↓ac, ↓k4, ↓k3, ↓fl, w1, w2, w3, h0, h02, ↓em, hx, ↓rp, ↓sc]
    simp [Nd.cell, Nd.cs, Nd.vs, sl, v0, c0]
   | true =>
    rw [hs'] at sc
    simp only [if_true]
    have k3b := fun R l w K => zaiy (T := T) (fin := fin) (sh := sh) h.kind (n + 2) 3 (-1) R l w K
    cases hq2 : isK T (n + 2) 3 with
    | false =>
     rw [hq2] at k3b
     rw [zamf hq2]
     refine ROut.er fun R => ?_
     refine zaaf h.ref Tryz.func65 rfl (by kernel_rfl) (by show 1 ≤ _; decide) ?_
     simp -dsimp only [↓kpre, kpost, light, ret1, cellF, afill, setAll, simprocAttr, ↓zaa3, zaa4, ↓cxpre, cxpost, List.length_map, ndl, ↓ndpre, ndow, ne_eq, not_false_eq_true, zaaa, zaab, ↓zaad, ↓zaae, and_false, if_false, Option.isNone_some, ↓ac, ↓k4, ↓k3, ↓fl, w1, w2, w3, h0, h02, ↓em, hx, ↓rp, ↓sc, ↓k3b]
     refine zabb [[], [], [], [], [], [], [], [], [], [], [], [], [], [], [], [], [], [], []] false (by kernel_rfl) (by kernel_rfl) (by kernel_rfl) (by kernel_rfl) ?_
     simp -dsimp only [↓kpre, kpost, light, ret1, cellF, afill, setAll, simprocAttr, ↓opre, opost, vspan, ↓zaa3, zaa4, ↓cxpre, cxpost, List.length_map, ndl, ↓ndpre, ndow, ne_eq, not_false_eq_true, zaaa, zaab, ↓zaad, ↓zaae, and_false, if_false, Option.isNone_some, ↓ac, ↓k4, ↓k3, ↓fl, w1, w2, w3, h0, h02, ↓em, hx, ↓rp, ↓sc, ↓k3b]
     exact ⟨Nd.zero, _, rfl, rfl⟩
    | true =>
     rw [hq2] at k3b
     obtain ⟨t2, ht2, hk2⟩ := zane hq2
     rw [zaic ht2 hk2]
     have hz2 := hT.size t2 (List.mem_of_getElem? ht2)
     have hxb : (T.map TK.v)[(n + 2)]? = some (.agg ⟨[.int .i64 t2.k, .int .i64 t2.a, .string t2.t]⟩) := by rw [List.getElem?_map, ht2]; rfl
     have rpb := fun S K => h.rd t2.t sh (by omega) S K
     rw [rp_at hsh] at rpb
     have ar := fun s c r s' c' r' S K => zavh (S := S) (K := K) h.r s c r s' c' r'
     cases ha2 : atF t2.t with
     | none =>
      rw [ha2] at rpb
      simp only [cellT] at rpb
      simp only
      refine ROut.er fun R => ?_
      refine zaaf h.ref Tryz.func65 rfl (by kernel_rfl) (by show 1 ≤ _; decide) ?_
      simp -dsimp only [↓kpre, kpost, light, ret1, cellF, afill, setAll, simprocAttr, ↓zaa3, zaa4, ↓cxpre, cxpost, List.length_map, ndl, ↓ndpre, ndow, ne_eq, not_false_eq_true, zaaa, zaab, ↓zaad, ↓zaae, and_false, if_false, Option.isNone_some, ↓ac, ↓k4, ↓k3, ↓fl, w1, w2, w3, h0, h02, ↓em, hx, ↓rp, ↓sc, ↓k3b, hxb, ↓rpb, ↓ar]
      refine zabb [[], [], [], [], [], [], [], [], [], [], [], [], [], [], [], [], [], [], []] false (by kernel_rfl) (by kernel_rfl) (by kernel_rfl) (by kernel_rfl) ?_
      simp -dsimp only [↓kpre, kpost, light, ret1, cellF, afill, setAll, simprocAttr, ↓opre, opost, vspan, ↓zaa3, zaa4, ↓cxpre, cxpost, List.length_map, ndl, ↓ndpre, ndow, ne_eq, not_false_eq_true, zaaa, zaab, ↓zaad, ↓zaae, and_false, if_false, Option.isNone_some, ↓ac, ↓k4, ↓k3, ↓fl, w1, w2, w3, h0, h02, ↓em, hx, ↓rp, ↓sc, ↓k3b, hxb, ↓rpb, ↓ar]
      refine zabb [[], [], [], [], [], [], [], [], [], [], [], [], [], [], [], [], [], [], []] false (by kernel_rfl) (by kernel_rfl) (by kernel_rfl) (by kernel_rfl) ?_
      simp -dsimp only [↓kpre, kpost, light, ret1, cellF, afill, setAll, simprocAttr, ↓opre, opost, vspan, ↓zaa3, zaa4, ↓cxpre, cxpost, List.length_map, ndl, ↓ndpre, ndow, ne_eq, not_false_eq_true, zaaa, zaab, ↓zaad, ↓zaae, and_false, if_false, Option.isNone_some, ↓ac, ↓k4, ↓k3, ↓fl, w1, w2, w3, h0, h02, ↓em, hx, ↓rp, ↓sc, ↓k3b, hxb, ↓rpb, ↓ar]
      exact ⟨Nd.zero, _, rfl, rfl⟩
     | some de =>
      obtain ⟨d, e⟩ := de
      rw [ha2] at rpb
      simp only [cellT] at rpb
      have ar := fun S K => ar sh c r sh d e S K
      cases hA : areaF ⟨sh, c, r⟩ ⟨sh, d, e⟩ with
      | false =>
       rw [hA] at ar
       have hm : smallF ⟨sh, c, r⟩ ⟨sh, d, e⟩ = false := by unfold smallF; rw [hA]; rfl
       simp only [hm, Bool.false_eq_true, if_false]
       refine ROut.er fun R => ?_
       refine zaaf h.ref Tryz.func65 rfl (by kernel_rfl) (by show 1 ≤ _; decide) ?_
       simp -dsimp only [↓kpre, kpost, light, ret1, cellF, afill, setAll, simprocAttr, ↓zaa3, zaa4, ↓cxpre, cxpost, List.length_map, ndl, ↓ndpre, ndow, ne_eq, not_false_eq_true, zaaa, zaab, ↓zaad, ↓zaae, and_false, if_false, Option.isNone_some, ↓ac, ↓k4, ↓k3, ↓fl, w1, w2, w3, h0, h02, ↓em, hx, ↓rp, ↓sc, ↓k3b, hxb, ↓rpb, ↓ar]
       refine zabb [[], [], [], [], [], [], [], [], [], [], [], [], [], [], [], [], [], [], []] false (by kernel_rfl) (by kernel_rfl) (by kernel_rfl) (by kernel_rfl) ?_
       simp -dsimp only [↓kpre, kpost, light, ret1, cellF, afill, setAll, simprocAttr, ↓opre, opost, vspan, ↓zaa3, zaa4, ↓cxpre, cxpost, List.length_map, ndl, ↓ndpre, ndow, ne_eq, not_false_eq_true, zaaa, zaab, ↓zaad, ↓zaae, and_false, if_false, Option.isNone_some, ↓ac, ↓k4, ↓k3, ↓fl, w1, w2, w3, h0, h02, ↓em, hx, ↓rp, ↓sc, ↓k3b, hxb, ↓rpb, ↓ar]
       refine zabb [[], [], [], [], [], [], [], [], [], [], [], [], [], [], [], [], [], [], []] false (by kernel_rfl) (by kernel_rfl) (by kernel_rfl) (by kernel_rfl) ?_
       simp -dsimp only [↓kpre, kpost, light, ret1, cellF, afill, setAll, simprocAttr, ↓opre, opost, vspan, ↓zaa3, zaa4, ↓cxpre, cxpost, List.length_map, ndl, ↓ndpre, ndow, ne_eq, not_false_eq_true, zaaa, zaab, ↓zaad, ↓zaae, and_false, if_false, Option.isNone_some, ↓ac, ↓k4, ↓k3, ↓fl, w1, w2, w3, h0, h02, ↓em, hx, ↓rp, ↓sc, ↓k3b, hxb, ↓rpb, ↓ar]
       exact ⟨Nd.zero, _, rfl, rfl⟩
      | true =>
       rw [hA] at ar
       by_cases hN : areaN ⟨sh, c, r⟩ ⟨sh, d, e⟩ ≤ 400
       ·have hm : smallF ⟨sh, c, r⟩ ⟨sh, d, e⟩ = true := by unfold smallF; rw [hA]; simpa using hN
        have hN' : ¬ (400 : Int) < areaN ⟨sh, c, r⟩ ⟨sh, d, e⟩ := by omega
        simp only [hm, if_true]
        refine ROut.ok fun R => ?_
        refine zaaf h.ref Tryz.func65 rfl (by kernel_rfl) (by show 1 ≤ _; decide) ?_
        simp -dsimp only [↓kpre, kpost, light, ret1, cellF, afill, setAll, simprocAttr, ↓zaa3, zaa4, ↓cxpre, cxpost, List.length_map, ndl, ↓ndpre, ndow, ne_eq, not_false_eq_true, zaaa, zaab, ↓zaad, ↓zaae, and_false, if_false, Option.isNone_some, ↓ac, ↓k4, ↓k3, ↓fl, w1, w2, w3, h0, h02, ↓em, hx, ↓rp, ↓sc, ↓k3b, hxb, ↓rpb, ↓ar, hN']
        refine zabb [[], [], [], [], [], [], [], [], [], [], [], [], [], [], [], [], [], [], []] false (by kernel_rfl) (by kernel_rfl) (by kernel_rfl) (by kernel_rfl) ?_
        simp -dsimp only [↓kpre, kpost, light, ret1, cellF, afill, setAll, simprocAttr, ↓opre, opost, vspan, ↓zaa3, zaa4, ↓cxpre, cxpost, List.length_map, ndl, ↓ndpre, ndow, ne_eq, not_false_eq_true, zaaa, zaab, ↓zaad, ↓zaae, and_false, if_false, Option.isNone_some, ↓ac, ↓k4, ↓k3, ↓fl, w1, w2, w3, h0, h02, ↓em, hx, ↓rp, ↓sc, ↓k3b, hxb, ↓rpb, ↓ar, hN']
        refine zabb [[], [], [], [], [], [], [], [], [], [], [], [], [], [], [], [], [], [], []] false (by kernel_rfl) (by kernel_rfl) (by kernel_rfl) (by kernel_rfl) ?_
        simp -dsimp only [↓kpre, kpost, light, ret1, cellF, afill, setAll, simprocAttr, ↓opre, opost, vspan, ↓zaa3, zaa4, ↓cxpre, cxpost, List.length_map, ndl, ↓ndpre, ndow, ne_eq, not_false_eq_true, zaaa, zaab, ↓zaad, ↓zaae, and_false, if_false, Option.isNone_some, ↓ac, ↓k4, ↓k3, ↓fl, w1, w2, w3, h0, h02, ↓em, hx, ↓rp, ↓sc, ↓k3b, hxb, ↓rpb, ↓ar, hN']
        simp [Nd.range, Nd.cs, Nd.vs, sl, v0, c0]
       ·have hm : smallF ⟨sh, c, r⟩ ⟨sh, d, e⟩ = false := by unfold smallF; rw [hA]; simpa using hN
        have hN' : (400 : Int) < areaN ⟨sh, c, r⟩ ⟨sh, d, e⟩ := by omega
        simp only [hm, Bool.false_eq_true, if_false]
        refine ROut.er fun R => ?_
        refine zaaf h.ref Tryz.func65 rfl (by kernel_rfl) (by show 1 ≤ _; decide) ?_
        simp -dsimp only [↓kpre, kpost, light, ret1, cellF, afill, setAll, simprocAttr, ↓zaa3, zaa4, ↓cxpre, cxpost, List.length_map, ndl, ↓ndpre, ndow, ne_eq, not_false_eq_true, zaaa, zaab, ↓zaad, ↓zaae, and_false, if_false, Option.isNone_some, ↓ac, ↓k4, ↓k3, ↓fl, w1, w2, w3, h0, h02, ↓em, hx, ↓rp, ↓sc, ↓k3b, hxb, ↓rpb, ↓ar, hN']
        refine zabb [[], [], [], [], [], [], [], [], [], [], [], [], [], [], [], [], [], [], []] false (by kernel_rfl) (by kernel_rfl) (by kernel_rfl) (by kernel_rfl) ?_
        simp -dsimp only [↓kpre, kpost, light, ret1, cellF, afill, setAll, simprocAttr, ↓opre, opost, vspan, ↓zaa3, zaa4, ↓cxpre, cxpost, List.length_map, ndl, ↓ndpre, ndow, ne_eq, not_false_eq_true, zaaa, zaab, ↓zaad, ↓zaae, and_false, if_false, Option.isNone_some, ↓ac, ↓k4, ↓k3, ↓fl, w1, w2, w3, h0, h02, ↓em, hx, ↓rp, ↓sc, ↓k3b, hxb, ↓rpb, ↓ar, hN']
        refine zabb [[], [], [], [], [], [], [], [], [], [], [], [], [], [], [], [], [], [], []] false (by kernel_rfl) (by kernel_rfl) (by kernel_rfl) (by kernel_rfl) ?_
        simp -dsimp only [↓kpre, kpost, light, ret1, cellF, afill, setAll, simprocAttr, ↓opre, opost, vspan, ↓zaa3, zaa4, ↓cxpre, cxpost, List.length_map, ndl, ↓ndpre, ndow, ne_eq, not_false_eq_true, zaaa, zaab, ↓zaad, ↓zaae, and_false, if_false, Option.isNone_some, ↓ac, ↓k4, ↓k3, ↓fl, w1, w2, w3, h0, h02, ↓em, hx, ↓rp, ↓sc, ↓k3b, hxb, ↓rpb, ↓ar, hN']
        exact ⟨Nd.zero, _, rfl, rfl⟩
theorem ref_b (h : RpOff X) (hT : TokOk T) (hl : T.length ≤ 1000) {n : Nat} {t : TK} (ht : T[n]? = some t) (hk : t.k = 4) (hsh : nameF t.t = true) (hs : sgn T (n + 1) ⟨#[33]⟩ = true) : ROut X T fin sh 65 [] n (cellG T fin t.t n 2) := by
 have hn := (List.getElem?_eq_some_iff.1 ht).1
 have k4 := fun R l w K => zaiy (T := T) (fin := fin) (sh := sh) h.kind n 4 (-1) R l w K
 rw [zaul ht hk] at k4
 have em := True.intro
 have ex := fun R l w K => ris_c (T := T) (fin := fin) (sh := sh) h.is (n + 1) ⟨#[33]⟩ (-1) R l w K
 rw [hs] at ex
 have hx4 : (T.map TK.v)[n]? = some (.agg ⟨[.int .i64 t.k, .int .i64 t.a, .string t.t]⟩) := by rw [List.getElem?_map, ht]; rfl
 have h04 : (0 : Int) ≤ ((n + 2 : Nat) : Int) := by omega
 have h0 : (0 : Int) ≤ n := by omega
 have h02 : (0 : Int) ≤ (((n + 4) : Nat) : Int) := by omega
 have ac := fun R l w K => rat_c (T := T) (fin := fin) (sh := sh) h.rat n (-1) R l w K
 have k3 := fun R l w K => zaiy (T := T) (fin := fin) (sh := sh) h.kind (n + 2) 3 (-1) R l w K
 have fl := fun (m : Int) R l w K => zanz (T := T) (fin := fin) (sh := sh) h.fail m (atT T fin n) R l w K
 have w1 : IntKind.i64.wrap (((n : Nat) : Int) + 1) = (((n + 1) : Nat) : Int) := zaaq (by omega) (by omega)
 have w2 : IntKind.i64.wrap ((((n + 1) : Nat) : Int) + 1) = (((n + 2) : Nat) : Int) := zaaq (by omega) (by omega)
 have w3 : IntKind.i64.wrap ((((n + 2) : Nat) : Int) + 1) = (((n + 3) : Nat) : Int) := zaaq (by omega) (by omega)
 have w4 : IntKind.i64.wrap ((((n + 3) : Nat) : Int) + 1) = (((n + 4) : Nat) : Int) := zaaq (by omega) (by omega)
 have w5 : IntKind.i64.wrap ((((n + 4) : Nat) : Int) + 1) = (((n + 5) : Nat) : Int) := zaaq (by omega) (by omega)
 unfold cellG
 have eq0 : n + 2 = (n + 2) := rfl
 rw [eq0]
 cases hq : isK T (n + 2) 3 with
 | false =>
  rw [hq] at k3
  rw [zamf hq]
  refine ROut.er fun R => ?_
  refine zaaf h.ref Tryz.func65 rfl (by kernel_rfl) (by show 1 ≤ _; decide) ?_
  simp -dsimp only [↓kpre, kpost, light, ret1, cellF, afill, setAll, simprocAttr, ↓zaa3, zaa4, ↓cxpre, cxpost, List.length_map, ndl, ↓ndpre, ndow, ne_eq, not_false_eq_true, zaaa, zaab, ↓zaad, ↓zaae, and_false, if_false, Option.isNone_some, ↓ac, ↓k4, ↓k3, ↓fl, w1, w2, w3, w4, w5, h0, h02, h04, hx4, ↓ex, ↓em]
  refine zaah [[], [], [], [], [], [], [], [], [], [], [], []] false (by kernel_rfl) (by kernel_rfl) (by kernel_rfl) ?_
  simp -dsimp only [↓kpre, kpost, light, ret1, cellF, afill, setAll, simprocAttr, ↓opre, opost, vspan, ↓zaa3, zaa4, ↓cxpre, cxpost, List.length_map, ndl, ↓ndpre, ndow, ne_eq, not_false_eq_true, zaaa, zaab, ↓zaad, ↓zaae, and_false, if_false, Option.isNone_some, ↓ac, ↓k4, ↓k3, ↓fl, w1, w2, w3, w4, w5, h0, h02, h04, hx4, ↓ex, ↓em]
  exact ⟨Nd.zero, _, rfl, rfl⟩
 | true =>
  rw [hq] at k3
  obtain ⟨t1, ht1, hk1⟩ := zane hq
  rw [zaic ht1 hk1]
  have hz1 := hT.size t1 (List.mem_of_getElem? ht1)
  have hx : (T.map TK.v)[(n + 2)]? = some (.agg ⟨[.int .i64 t1.k, .int .i64 t1.a, .string t1.t]⟩) := by rw [List.getElem?_map, ht1]; rfl
  have rp := fun S K => h.rd t1.t t.t (by omega) S K
  rw [rp_at hsh] at rp
  cases ha : atF t1.t with
  | none =>
   rw [ha] at rp
   simp only [cellT] at rp
   simp only
   refine ROut.er fun R => ?_
   refine zaaf h.ref Tryz.func65 rfl (by kernel_rfl) (by show 1 ≤ _; decide) ?_
   simp -dsimp only [↓kpre, kpost, light, ret1, cellF, afill, setAll, simprocAttr, ↓zaa3, zaa4, ↓cxpre, cxpost, List.length_map, ndl, ↓ndpre, ndow, ne_eq, not_false_eq_true, zaaa, zaab, ↓zaad, ↓zaae, and_false, if_false, Option.isNone_some, ↓ac, ↓k4, ↓k3, ↓fl, w1, w2, w3, w4, w5, h0, h02, h04, hx4, ↓ex, ↓em, hx, ↓rp]
   refine zaah [[], [], [], [], [], [], [], [], [], [], [], []] false (by kernel_rfl) (by kernel_rfl) (by kernel_rfl) ?_
   simp -dsimp only [↓kpre, kpost, light, ret1, cellF, afill, setAll, simprocAttr, ↓opre, opost, vspan, ↓zaa3, zaa4, ↓cxpre, cxpost, List.length_map, ndl, ↓ndpre, ndow, ne_eq, not_false_eq_true, zaaa, zaab, ↓zaad, ↓zaae, and_false, if_false, Option.isNone_some, ↓ac, ↓k4, ↓k3, ↓fl, w1, w2, w3, w4, w5, h0, h02, h04, hx4, ↓ex, ↓em, hx, ↓rp]
   refine zabb [[], [], [], [], [], [], [], [], [], [], [], [], [], [], [], [], [], [], []] false (by kernel_rfl) (by kernel_rfl) (by kernel_rfl) (by kernel_rfl) ?_
   simp -dsimp only [↓kpre, kpost, light, ret1, cellF, afill, setAll, simprocAttr, ↓opre, opost, vspan, ↓zaa3, zaa4, ↓cxpre, cxpost, List.length_map, ndl, ↓ndpre, ndow, ne_eq, not_false_eq_true, zaaa, zaab, ↓zaad, ↓zaae, and_false, if_false, Option.isNone_some, ↓ac, ↓k4, ↓k3, ↓fl, w1, w2, w3, w4, w5, h0, h02, h04, hx4, ↓ex, ↓em, hx, ↓rp]
   exact ⟨Nd.zero, _, rfl, rfl⟩
  | some cr =>
   obtain ⟨c, r⟩ := cr
   rw [ha] at rp
   simp only [cellT] at rp
   simp only
   have sc := fun R l w K => ris_c (T := T) (fin := fin) (sh := sh) h.is (n + 3) ⟨#[58]⟩ (-1) R l w K
   cases hs' : sgn T (n + 3) ⟨#[58]⟩ with
   | false =>
    rw [hs'] at sc
    simp only [Bool.false_eq_true, if_false]
    refine ROut.ok fun R => ?_
    refine zaaf h.ref Tryz.func65 rfl (by kernel_rfl) (by show 1 ≤ _; decide) ?_
    simp -dsimp only [↓kpre, kpost, light, ret1, cellF, afill, setAll, simprocAttr, ↓zaa3, zaa4, ↓cxpre, cxpost, List.length_map, ndl, ↓ndpre, ndow, ne_eq, not_false_eq_true, zaaa, zaab, ↓zaad, ↓zaae, and_false, if_false, Option.isNone_some, ↓ac, ↓k4, ↓k3, ↓fl, w1, w2, w3, w4, w5, h0, h02, h04, hx4, ↓ex, ↓em, hx, ↓rp, ↓sc]
    refine zaah [[], [], [], [], [], [], [], [], [], [], [], []] false (by kernel_rfl) (by kernel_rfl) (by kernel_rfl) ?_
    simp -dsimp only [↓kpre, kpost, light, ret1, cellF, afill, setAll, simprocAttr, ↓opre, opost, vspan, ↓zaa3, zaa4, ↓cxpre, cxpost, List.length_map, ndl, ↓ndpre, ndow, ne_eq, not_false_eq_true, zaaa, zaab, ↓zaad, ↓zaae, and_false, if_false, Option.isNone_some, ↓ac, ↓k4, ↓k3, ↓fl, w1, w2, w3, w4, w5, h0, h02, h04, hx4, ↓ex, ↓em, hx, ↓rp, ↓sc]
    refine zabb [[], [], [], [], [], [], [], [], [], [], [], [], [], [], [], [], [], [], []] false (by kernel_rfl) (by kernel_rfl) (by kernel_rfl) (by kernel_rfl) ?_
    simp -dsimp only [↓kpre, kpost, light, ret1, cellF, afill, setAll, simprocAttr, ↓opre, opost, vspan, ↓zaa3, zaa4, ↓cxpre, cxpost, List.length_map, ndl, ↓ndpre, ndow, ne_eq, not_false_eq_true, zaaa, zaab, ↓zaad, ↓zaae, and_false, if_false, Option.isNone_some, ↓ac, ↓k4, ↓k3, ↓fl, w1, w2, w3, w4, w5, h0, h02, h04, hx4, ↓ex, ↓em, hx, ↓rp, ↓sc]
    simp [Nd.cell, Nd.cs, Nd.vs, sl, v0, c0]
   | true =>
    rw [hs'] at sc
    simp only [if_true]
    have k3b := fun R l w K => zaiy (T := T) (fin := fin) (sh := sh) h.kind (n + 4) 3 (-1) R l w K
    cases hq2 : isK T (n + 4) 3 with
    | false =>
     rw [hq2] at k3b
     rw [zamf hq2]
     refine ROut.er fun R => ?_
     refine zaaf h.ref Tryz.func65 rfl (by kernel_rfl) (by show 1 ≤ _; decide) ?_
     simp -dsimp only [↓kpre, kpost, light, ret1, cellF, afill, setAll, simprocAttr, ↓zaa3, zaa4, ↓cxpre, cxpost, List.length_map, ndl, ↓ndpre, ndow, ne_eq, not_false_eq_true, zaaa, zaab, ↓zaad, ↓zaae, and_false, if_false, Option.isNone_some, ↓ac, ↓k4, ↓k3, ↓fl, w1, w2, w3, w4, w5, h0, h02, h04, hx4, ↓ex, ↓em, hx, ↓rp, ↓sc, ↓k3b]
     refine zaah [[], [], [], [], [], [], [], [], [], [], [], []] false (by kernel_rfl) (by kernel_rfl) (by kernel_rfl) ?_
     simp -dsimp only [↓kpre, kpost, light, ret1, cellF, afill, setAll, simprocAttr, ↓opre, opost, vspan, ↓zaa3, zaa4, ↓cxpre, cxpost, List.length_map, ndl, ↓ndpre, ndow, ne_eq, not_false_eq_true, zaaa, zaab, ↓zaad, ↓zaae, and_false, if_false, Option.isNone_some, ↓ac, ↓k4, ↓k3, ↓fl, w1, w2, w3, w4, w5, h0, h02, h04, hx4, ↓ex, ↓em, hx, ↓rp, ↓sc, ↓k3b]
     refine zabb [[], [], [], [], [], [], [], [], [], [], [], [], [], [], [], [], [], [], []] false (by kernel_rfl) (by kernel_rfl) (by kernel_rfl) (by kernel_rfl) ?_
     simp -dsimp only [↓kpre, kpost, light, ret1, cellF, afill, setAll, simprocAttr, ↓opre, opost, vspan, ↓zaa3, zaa4, ↓cxpre, cxpost, List.length_map, ndl, ↓ndpre, ndow, ne_eq, not_false_eq_true, zaaa, zaab, ↓zaad, ↓zaae, and_false, if_false, Option.isNone_some, ↓ac, ↓k4, ↓k3, ↓fl, w1, w2, w3, w4, w5, h0, h02, h04, hx4, ↓ex, ↓em, hx, ↓rp, ↓sc, ↓k3b]
     exact ⟨Nd.zero, _, rfl, rfl⟩
    | true =>
     rw [hq2] at k3b
     obtain ⟨t2, ht2, hk2⟩ := zane hq2
     rw [zaic ht2 hk2]
     have hz2 := hT.size t2 (List.mem_of_getElem? ht2)
     have hxb : (T.map TK.v)[(n + 4)]? = some (.agg ⟨[.int .i64 t2.k, .int .i64 t2.a, .string t2.t]⟩) := by rw [List.getElem?_map, ht2]; rfl
     have rpb := fun S K => h.rd t2.t t.t (by omega) S K
     rw [rp_at hsh] at rpb
     have ar := fun s c r s' c' r' S K => zavh (S := S) (K := K) h.r s c r s' c' r'
     cases ha2 : atF t2.t with
     | none =>
      rw [ha2] at rpb
      simp only [cellT] at rpb
      simp only
      refine ROut.er fun R => ?_
      refine zaaf h.ref Tryz.func65 rfl (by kernel_rfl) (by show 1 ≤ _; decide) ?_
      simp -dsimp only [↓kpre, kpost, light, ret1, cellF, afill, setAll, simprocAttr, ↓zaa3, zaa4, ↓cxpre, cxpost, List.length_map, ndl, ↓ndpre, ndow, ne_eq, not_false_eq_true, zaaa, zaab, ↓zaad, ↓zaae, and_false, if_false, Option.isNone_some, ↓ac, ↓k4, ↓k3, ↓fl, w1, w2, w3, w4, w5, h0, h02, h04, hx4, ↓ex, ↓em, hx, ↓rp, ↓sc, ↓k3b, hxb, ↓rpb, ↓ar]
      refine zaah [[], [], [], [], [], [], [], [], [], [], [], []] false (by kernel_rfl) (by kernel_rfl) (by kernel_rfl) ?_
      simp -dsimp only [↓kpre, kpost, light, ret1, cellF, afill, setAll, simprocAttr, ↓opre, opost, vspan, ↓zaa3, zaa4, ↓cxpre, cxpost, List.length_map, ndl, ↓ndpre, ndow, ne_eq, not_false_eq_true, zaaa, zaab, ↓zaad, ↓zaae, and_false, if_false, Option.isNone_some, ↓ac, ↓k4, ↓k3, ↓fl, w1, w2, w3, w4, w5, h0, h02, h04, hx4, ↓ex, ↓em, hx, ↓rp, ↓sc, ↓k3b, hxb, ↓rpb, ↓ar]
      refine zabb [[], [], [], [], [], [], [], [], [], [], [], [], [], [], [], [], [], [], []] false (by kernel_rfl) (by kernel_rfl) (by kernel_rfl) (by kernel_rfl) ?_
      simp -dsimp only [↓kpre, kpost, light, ret1, cellF, afill, setAll, simprocAttr, ↓opre, opost, vspan, ↓zaa3, zaa4, ↓cxpre, cxpost, List.length_map, ndl, ↓ndpre, ndow, ne_eq, not_false_eq_true, zaaa, zaab, ↓zaad, ↓zaae, and_false, if_false, Option.isNone_some, ↓ac, ↓k4, ↓k3, ↓fl, w1, w2, w3, w4, w5, h0, h02, h04, hx4, ↓ex, ↓em, hx, ↓rp, ↓sc, ↓k3b, hxb, ↓rpb, ↓ar]
      refine zabb [[], [], [], [], [], [], [], [], [], [], [], [], [], [], [], [], [], [], []] false (by kernel_rfl) (by kernel_rfl) (by kernel_rfl) (by kernel_rfl) ?_
      simp -dsimp only [↓kpre, kpost, light, ret1, cellF, afill, setAll, simprocAttr, ↓opre, opost, vspan, ↓zaa3, zaa4, ↓cxpre, cxpost, List.length_map, ndl, ↓ndpre, ndow, ne_eq, not_false_eq_true, zaaa, zaab, ↓zaad, ↓zaae, and_false, if_false, Option.isNone_some, ↓ac, ↓k4, ↓k3, ↓fl, w1, w2, w3, w4, w5, h0, h02, h04, hx4, ↓ex, ↓em, hx, ↓rp, ↓sc, ↓k3b, hxb, ↓rpb, ↓ar]
      exact ⟨Nd.zero, _, rfl, rfl⟩
     | some de =>
      obtain ⟨d, e⟩ := de
      rw [ha2] at rpb
      simp only [cellT] at rpb
      have ar := fun S K => ar t.t c r t.t d e S K
      cases hA : areaF ⟨t.t, c, r⟩ ⟨t.t, d, e⟩ with
      | false =>
       rw [hA] at ar
       have hm : smallF ⟨t.t, c, r⟩ ⟨t.t, d, e⟩ = false := by unfold smallF; rw [hA]; rfl
       simp only [hm, Bool.false_eq_true, if_false]
       refine ROut.er fun R => ?_
       refine zaaf h.ref Tryz.func65 rfl (by kernel_rfl) (by show 1 ≤ _; decide) ?_
       simp -dsimp only [↓kpre, kpost, light, ret1, cellF, afill, setAll, simprocAttr, ↓zaa3, zaa4, ↓cxpre, cxpost, List.length_map, ndl, ↓ndpre, ndow, ne_eq, not_false_eq_true, zaaa, zaab, ↓zaad, ↓zaae, and_false, if_false, Option.isNone_some, ↓ac, ↓k4, ↓k3, ↓fl, w1, w2, w3, w4, w5, h0, h02, h04, hx4, ↓ex, ↓em, hx, ↓rp, ↓sc, ↓k3b, hxb, ↓rpb, ↓ar]
       refine zaah [[], [], [], [], [], [], [], [], [], [], [], []] false (by kernel_rfl) (by kernel_rfl) (by kernel_rfl) ?_
       simp -dsimp only [↓kpre, kpost, light, ret1, cellF, afill, setAll, simprocAttr, ↓opre, opost, vspan, ↓zaa3, zaa4, ↓cxpre, cxpost, List.length_map, ndl, ↓ndpre, ndow, ne_eq, not_false_eq_true, zaaa, zaab, ↓zaad, ↓zaae, and_false, if_false, Option.isNone_some, ↓ac, ↓k4, ↓k3, ↓fl, w1, w2, w3, w4, w5, h0, h02, h04, hx4, ↓ex, ↓em, hx, ↓rp, ↓sc, ↓k3b, hxb, ↓rpb, ↓ar]
       refine zabb [[], [], [], [], [], [], [], [], [], [], [], [], [], [], [], [], [], [], []] false (by kernel_rfl) (by kernel_rfl) (by kernel_rfl) (by kernel_rfl) ?_
       simp -dsimp only [↓kpre, kpost, light, ret1, cellF, afill, setAll, simprocAttr, ↓opre, opost, vspan, ↓zaa3, zaa4, ↓cxpre, cxpost, List.length_map, ndl, ↓ndpre, ndow, ne_eq, not_false_eq_true, zaaa, zaab, ↓zaad, ↓zaae, and_false, if_false, Option.isNone_some, ↓ac, ↓k4, ↓k3, ↓fl, w1, w2, w3, w4, w5, h0, h02, h04, hx4, ↓ex, ↓em, hx, ↓rp, ↓sc, ↓k3b, hxb, ↓rpb, ↓ar]
       refine zabb [[], [], [], [], [], [], [], [], [], [], [], [], [], [], [], [], [], [], []] false (by kernel_rfl) (by kernel_rfl) (by kernel_rfl) (by kernel_rfl) ?_
       simp -dsimp only [↓kpre, kpost, light, ret1, cellF, afill, setAll, simprocAttr, ↓opre, opost, vspan, ↓zaa3, zaa4, ↓cxpre, cxpost, List.length_map, ndl, ↓ndpre, ndow, ne_eq, not_false_eq_true, zaaa, zaab, ↓zaad, ↓zaae, and_false, if_false, Option.isNone_some, ↓ac, ↓k4, ↓k3, ↓fl, w1, w2, w3, w4, w5, h0, h02, h04, hx4, ↓ex, ↓em, hx, ↓rp, ↓sc, ↓k3b, hxb, ↓rpb, ↓ar]
       exact ⟨Nd.zero, _, rfl, rfl⟩
      | true =>
       rw [hA] at ar
       by_cases hN : areaN ⟨t.t, c, r⟩ ⟨t.t, d, e⟩ ≤ 400
       ·have hm : smallF ⟨t.t, c, r⟩ ⟨t.t, d, e⟩ = true := by unfold smallF; rw [hA]; simpa using hN
        have hN' : ¬ (400 : Int) < areaN ⟨t.t, c, r⟩ ⟨t.t, d, e⟩ := by omega
        simp only [hm, if_true]
        refine ROut.ok fun R => ?_
        refine zaaf h.ref Tryz.func65 rfl (by kernel_rfl) (by show 1 ≤ _; decide) ?_
        simp -dsimp only [↓kpre, kpost, light, ret1, cellF, afill, setAll, simprocAttr, ↓zaa3, zaa4, ↓cxpre, cxpost, List.length_map, ndl, ↓ndpre, ndow, ne_eq, not_false_eq_true, zaaa, zaab, ↓zaad, ↓zaae, and_false, if_false, Option.isNone_some, ↓ac, ↓k4, ↓k3, ↓fl, w1, w2, w3, w4, w5, h0, h02, h04, hx4, ↓ex, ↓em, hx, ↓rp, ↓sc, ↓k3b, hxb, ↓rpb, ↓ar, hN']
        refine zaah [[], [], [], [], [], [], [], [], [], [], [], []] false (by kernel_rfl) (by kernel_rfl) (by kernel_rfl) ?_
        simp -dsimp only [↓kpre, kpost, light, ret1, cellF, afill, setAll, simprocAttr, ↓opre, opost, vspan, ↓zaa3, zaa4, ↓cxpre, cxpost, List.length_map, ndl, ↓ndpre, ndow, ne_eq, not_false_eq_true, zaaa, zaab, ↓zaad, ↓zaae, and_false, if_false, Option.isNone_some, ↓ac, ↓k4, ↓k3, ↓fl, w1, w2, w3, w4, w5, h0, h02, h04, hx4, ↓ex, ↓em, hx, ↓rp, ↓sc, ↓k3b, hxb, ↓rpb, ↓ar, hN']
        refine zabb [[], [], [], [], [], [], [], [], [], [], [], [], [], [], [], [], [], [], []] false (by kernel_rfl) (by kernel_rfl) (by kernel_rfl) (by kernel_rfl) ?_
        simp -dsimp only [↓kpre, kpost, light, ret1, cellF, afill, setAll, simprocAttr, ↓opre, opost, vspan, ↓zaa3, zaa4, ↓cxpre, cxpost, List.length_map, ndl, ↓ndpre, ndow, ne_eq, not_false_eq_true, zaaa, zaab, ↓zaad, ↓zaae, and_false, if_false, Option.isNone_some, ↓ac, ↓k4, ↓k3, ↓fl, w1, w2, w3, w4, w5, h0, h02, h04, hx4, ↓ex, ↓em, hx, ↓rp, ↓sc, ↓k3b, hxb, ↓rpb, ↓ar, hN']
        refine zabb [[], [], [], [], [], [], [], [], [], [], [], [], [], [], [], [], [], [], []] false (by kernel_rfl) (by kernel_rfl) (by kernel_rfl) (by kernel_rfl) ?_
        simp -dsimp only [↓kpre, kpost, light, ret1, cellF, afill, setAll, simprocAttr, ↓opre, opost, vspan, ↓zaa3, zaa4, ↓cxpre, cxpost, List.length_map, ndl, ↓ndpre, ndow, ne_eq, not_false_eq_true, zaaa, zaab, ↓zaad, ↓zaae, and_false, if_false, Option.isNone_some, ↓ac, ↓k4, ↓k3, ↓fl, w1, w2, w3, w4, w5, h0, h02, h04, hx4, ↓ex, ↓em, hx, ↓rp, ↓sc, ↓k3b, hxb, ↓rpb, ↓ar, hN']
        simp [Nd.range, Nd.cs, Nd.vs, sl, v0, c0]
       ·have hm : smallF ⟨t.t, c, r⟩ ⟨t.t, d, e⟩ = false := by unfold smallF; rw [hA]; simpa using hN
        have hN' : (400 : Int) < areaN ⟨t.t, c, r⟩ ⟨t.t, d, e⟩ := by omega
        simp only [hm, Bool.false_eq_true, if_false]
        refine ROut.er fun R => ?_
        refine zaaf h.ref Tryz.func65 rfl (by kernel_rfl) (by show 1 ≤ _; decide) ?_
        simp -dsimp only [↓kpre, kpost, light, ret1, cellF, afill, setAll, simprocAttr, ↓zaa3, zaa4, ↓cxpre, cxpost, List.length_map, ndl, ↓ndpre, ndow, ne_eq, not_false_eq_true, zaaa, zaab, ↓zaad, ↓zaae, and_false, if_false, Option.isNone_some, ↓ac, ↓k4, ↓k3, ↓fl, w1, w2, w3, w4, w5, h0, h02, h04, hx4, ↓ex, ↓em, hx, ↓rp, ↓sc, ↓k3b, hxb, ↓rpb, ↓ar, hN']
        refine zaah [[], [], [], [], [], [], [], [], [], [], [], []] false (by kernel_rfl) (by kernel_rfl) (by kernel_rfl) ?_
        simp -dsimp only [↓kpre, kpost, light, ret1, cellF, afill, setAll, simprocAttr, ↓opre, opost, vspan, ↓zaa3, zaa4, ↓cxpre, cxpost, List.length_map, ndl, ↓ndpre, ndow, ne_eq, not_false_eq_true, zaaa, zaab, ↓zaad, ↓zaae, and_false, if_false, Option.isNone_some, ↓ac, ↓k4, ↓k3, ↓fl, w1, w2, w3, w4, w5, h0, h02, h04, hx4, ↓ex, ↓em, hx, ↓rp, ↓sc, ↓k3b, hxb, ↓rpb, ↓ar, hN']
        refine zabb [[], [], [], [], [], [], [], [], [], [], [], [], [], [], [], [], [], [], []] false (by kernel_rfl) (by kernel_rfl) (by kernel_rfl) (by kernel_rfl) ?_
        simp -dsimp only [↓kpre, kpost, light, ret1, cellF, afill, setAll, simprocAttr, ↓opre, opost, vspan, ↓zaa3, zaa4, ↓cxpre, cxpost, List.length_map, ndl, ↓ndpre, ndow, ne_eq, not_false_eq_true, zaaa, zaab, ↓zaad, ↓zaae, and_false, if_false, Option.isNone_some, ↓ac, ↓k4, ↓k3, ↓fl, w1, w2, w3, w4, w5, h0, h02, h04, hx4, ↓ex, ↓em, hx, ↓rp, ↓sc, ↓k3b, hxb, ↓rpb, ↓ar, hN']
        refine zabb [[], [], [], [], [], [], [], [], [], [], [], [], [], [], [], [], [], [], []] false (by kernel_rfl) (by kernel_rfl) (by kernel_rfl) (by kernel_rfl) ?_
        simp -dsimp only [↓kpre, kpost, light, ret1, cellF, afill, setAll, simprocAttr, ↓opre, opost, vspan, ↓zaa3, zaa4, ↓cxpre, cxpost, List.length_map, ndl, ↓ndpre, ndow, ne_eq, not_false_eq_true, zaaa, zaab, ↓zaad, ↓zaae, and_false, if_false, Option.isNone_some, ↓ac, ↓k4, ↓k3, ↓fl, w1, w2, w3, w4, w5, h0, h02, h04, hx4, ↓ex, ↓em, hx, ↓rp, ↓sc, ↓k3b, hxb, ↓rpb, ↓ar, hN']
        exact ⟨Nd.zero, _, rfl, rfl⟩
end
end Go.Proofs.YtliemjbafgnnbaaGreatDoor.Abs
/- The reference's parser: calls. -/
namespace Go.Proofs.YtliemjbafgnnbaaGreatDoor.Abs
open Go
def zadr := And.intro (And.intro (@val29) (@vfk35)) (And.intro (@vfk17) (And.intro (@vfk19) (@vfk18)))
def zadt := And.intro (And.intro (And.intro (And.intro (@vld3) (And.intro (@vgt3) (@vld29))) (And.intro (And.intro (@vgt29) (@vld27)) (And.intro (@vgt27) (@vst29)))) (And.intro (And.intro (And.intro (@vst3) (@vst27)) (And.intro (@zagz) (@zag1))) (And.intro (And.intro (@zai1) (@zai3)) (And.intro (@zaoh) (@zaom))))) (And.intro (And.intro (And.intro (And.intro (@bd29) (@pl29_0)) (And.intro (@pl29_1) (@pl29_2))) (And.intro (And.intro (@pl29_3) (@pl29_4)) (And.intro (@pl29_5) (@pl29_6)))) (And.intro (And.intro (And.intro (@vbd27) (@vlr27)) (And.intro (@vlo27) (@vlz27))) (And.intro (And.intro (@vls27) (@vlw27)) (And.intro (@vap27) (@Tryz.results80)))))
section
variable {X : VOuter} {T : List TK} {fin : Nat} {sh : ByteArray}
theorem zaai (R : List Blk) (o sz off : Nat) (l : List Value) (v : Value) : dropBoxes [1] (.own (cl R + 1, some o) sz off l) v = v := by
 have h1 : ([1] : List Nat).contains (cl R + 1) = false := by
  have : ¬ (cl R + 1 = 1) := by unfold cl; omega
  simpa using this
 simp only [dropBoxes, fate, Option.isSome_some, Bool.true_and, h1, Bool.false_eq_true, if_false]
theorem za5z (h : RpOff X) (hT : TokOk T) (hl : T.length ≤ 1000) {n : Nat} (nm : ByteArray) (hk : n < T.length) {r : Except Nat (Nd × Nat)} (hp : Pr T fin sh (.args nm []) (n + 1) r)
    (hP : ∀ q, n < q → q ≤ T.length → ∀ r, Pr T fin sh (.pairs 0) q r → ROut X T fin sh 17 [.int .i64 0] q r) : ROut X T fin sh 80 [.string nm] n r := by
 have w1 : IntKind.i64.wrap ((n : Int) + 1) = ((n + 1 : Nat) : Int) := zaaq (by omega) (by omega)
 have sg : ∀ (q : Nat) (u : ByteArray) R l w K, Vcallee Tryz.prog X _ [p0, .string u] ⟨cx (rbx T fin sh q (-1)) R, l, w⟩ K = K (.bool (sgn T q u)) [] ⟨cx (rbx T fin sh q (-1)) R, l, w⟩ [] false := fun q u R l w K => ris_c (T := T) (fin := fin) (sh := sh) h.is q u (-1) R l w K
 have hm1 : ¬ (0 : Int) ≤ -1 := by omega
 have main : ∀ R, Vf Tryz.prog X 80 [p0, .string nm] (cx (rbx T fin sh n (-1)) R) fun v ws => match r with
     | .ok (x, m) => ws = [(1, rbx T fin sh m (-1))] ∧ v = .agg ⟨x.cs⟩
     | .error b => ∃ (y : Nd) (n' : Int), ws = [(1, rbx T fin sh n' b)] ∧ v = .agg ⟨y.cs⟩ := by
  intro R
  refine zaaf h.call Tryz.func80 rfl (by kernel_rfl) (by show 2 ≤ _; decide) ?_
  have s0 := sg (n + 1) ⟨#[41]⟩
  cases h0 : sgn T (n + 1) ⟨#[41]⟩ with
  | true =>
   rw [h0] at s0
   have w2 : IntKind.i64.wrap (((n + 1 : Nat) : Int) + 1) = ((n + 1 + 1 : Nat) : Int) := by have := sgn_lt h0; exact zaaq (by omega) (by omega)
   cases hp with
   | args0 hs =>
    simp -dsimp only [↓kpre, kpost, light, ret1, cellF, afill, setAll, simprocAttr, ↓zadr, zadt, ↓cxpre, cxpost, List.length_map, ndl, ↓ndpre, ndow, ne_eq, not_false_eq_true, zaaa, zaab, ↓zaad, ↓zaae, and_false, if_false, Option.isNone_some, zaai, w1, w2, ↓s0]
    simp [Nd.call, Nd.cs, Nd.vs, sl, v0, c0]
   | argsE hs h1 => rw [hs rfl] at h0; cases h0
   | argsZ hs h1 h2 => rw [hs rfl] at h0; cases h0
   | argsS hs h1 h2 h3 => rw [hs rfl] at h0; cases h0
   | argsC hs h1 h2 h3 h4 h5 => rw [hs rfl] at h0; cases h0
  | false =>
   rw [h0] at s0
   simp -dsimp only [↓kpre, kpost, light, ret1, cellF, afill, setAll, simprocAttr, ↓zadr, zadt, ↓cxpre, cxpost, List.length_map, ndl, ↓ndpre, ndow, ne_eq, not_false_eq_true, zaaa, zaab, ↓zaad, ↓zaae, and_false, if_false, Option.isNone_some, zaai, w1, ↓s0]
   refine zabw (fun m e S => ∃ (kids : List Nd) (q : Nat) (J : List Blk) (v : Value), m = T.length - q ∧ Pr T fin sh (.args nm kids) q r ∧ (kids = [] → sgn T q ⟨#[41]⟩ = false) ∧ n < q ∧ q ≤ T.length ∧ kids.length ≤ 19 ∧ slotF (cl R + 1, some 12) kids v ∧ eget e 0 = p0 ∧ eget e 4 = .pointer (some ⟨cl R, 0, none⟩) ∧ eget e 5 = .pointer (some ⟨cl R + 1, 0, none⟩) ∧
    S = ⟨cx (rbx T fin sh q (-1)) R, zbx :: .cells true 29 [.int .i64 6, .string .empty, .string nm, .int .i64 0, .int .i64 0, .string .empty, .string .empty, .int .i64 0, .int .i64 0, .string .empty, .int .i64 0, .int .i64 0, v] :: J, [1]⟩) (T.length - (n + 1)) ?_ ?_
   ·refine ⟨[], n + 1, [], _, rfl, hp, fun _ => h0, by omega, by omega, by simp, .inl ⟨rfl, rfl⟩, ?_, ?_, ?_, ?_⟩
    ·simp only [↓epre, epost, simprocAttr]
    ·simp only [↓epre, epost, simprocAttr]
    ·simp only [↓epre, epost, simprocAttr]
    ·rfl
   ·rintro m e S ⟨kids, q, J, v, rfl, hq, hno, hnq, hqT, hkl, hv, e0, e4, e5, rfl⟩
    refine VWP_Vc _ _ _ _ ?_
    have hne : ¬ (cl R + 1 = cl R) := by omega
    have hz : (1 == cl R + 1) = false := cl_one R 1
    cases hq with
    | args0 hs => rw [hno rfl] at hs; cases hs
    | argsE hs h1 =>
     rename_i b
     have hm2 : (0 : Int) ≤ (b : Int) := by omega
     obtain ⟨y, n', oc⟩ := (hP q hnq hqT _ h1).e rfl rfl
     rcases hv with ⟨h0, rfl⟩ | ⟨h0, rfl⟩
     ·subst h0
      simp -dsimp only [↓kpre, kpost, light, ret1, cellF, afill, setAll, simprocAttr, ↓zadr, zadt, ↓cxpre, cxpost, List.length_map, ndl, ↓ndpre, ndow, ne_eq, not_false_eq_true, zaaa, zaab, ↓zaad, ↓zaae, and_false, if_false, Option.isNone_some, zaai, e0, e4, e5]
      refine zaah [[], [1, 2], [], [], [], [], [], []] false (by kernel_rfl) (by kernel_rfl) (by kernel_rfl) ?_
      simp -dsimp only [↓kpre, kpost, light, ret1, cellF, afill, setAll, simprocAttr, ↓opre, opost, vspan, ↓zadr, zadt, ↓cxpre, cxpost, List.length_map, ndl, ↓ndpre, ndow, ne_eq, not_false_eq_true, zaaa, zaab, ↓zaad, ↓zaae, and_false, if_false, Option.isNone_some, zaai, e0, e4, e5, ↓oc, hne, hz, hm2]
      exact ⟨Nd.call nm [y _], _, rfl, by simp [Nd.call, Nd.cs, Nd.vs, sl, v0, c0]; rfl⟩
     ·have hcap : ((Nd.vs kids).length + (0 + 1)) * 160 ≤ 140737488355328 := by rw [zabx]; omega
      have hcap2 : (Nd.vs kids).length + (0 + 1) ≤ 9223372036854775807 := by rw [zabx]; omega
      simp -dsimp only [↓kpre, kpost, light, ret1, cellF, afill, setAll, simprocAttr, ↓zadr, zadt, ↓cxpre, cxpost, List.length_map, ndl, ↓ndpre, ndow, ne_eq, not_false_eq_true, zaaa, zaab, ↓zaad, ↓zaae, and_false, if_false, Option.isNone_some, zaai, e0, e4, e5]
      refine zaah [[], [1, 2], [], [], [], [], [], []] false (by kernel_rfl) (by kernel_rfl) (by kernel_rfl) ?_
      simp -dsimp only [↓kpre, kpost, light, ret1, cellF, afill, setAll, simprocAttr, ↓opre, opost, vspan, ↓zadr, zadt, ↓cxpre, cxpost, List.length_map, ndl, ↓ndpre, ndow, ne_eq, not_false_eq_true, zaaa, zaab, ↓zaad, ↓zaae, and_false, if_false, Option.isNone_some, zaai, e0, e4, e5, ↓oc, hne, hz, zadx, zaco, hm2, hcap, hcap2]
      exact ⟨Nd.call nm (kids ++ [y _]), _, rfl, by simp [Nd.call, Nd.cs, zaj6, sl, v0, c0]; rfl⟩
    | @argsZ _ _ _ x m' hs h1 h2 =>
     have oc := fun R l w K => (hP q hnq hqT _ h1).c rfl rfl R l w K
     have hon := h1.on _ _ rfl
     simp only [Gl.on] at hon
     have hm' : m' ≤ T.length := hon.2 hqT
     have sm := sg m' ⟨#[41]⟩
     rw [h2] at sm
     have w3 : IntKind.i64.wrap ((m' : Int) + 1) = ((m' + 1 : Nat) : Int) := zaaq (by omega) (by omega)
     rcases hv with ⟨h0, rfl⟩ | ⟨h0, rfl⟩
     ·subst h0
      simp -dsimp only [↓kpre, kpost, light, ret1, cellF, afill, setAll, simprocAttr, ↓zadr, zadt, ↓cxpre, cxpost, List.length_map, ndl, ↓ndpre, ndow, ne_eq, not_false_eq_true, zaaa, zaab, ↓zaad, ↓zaae, and_false, if_false, Option.isNone_some, zaai, e0, e4, e5]
      refine zaah [[], [1, 2], [], [], [], [], [], []] false (by kernel_rfl) (by kernel_rfl) (by kernel_rfl) ?_
      simp -dsimp only [↓kpre, kpost, light, ret1, cellF, afill, setAll, simprocAttr, ↓opre, opost, vspan, ↓zadr, zadt, ↓cxpre, cxpost, List.length_map, ndl, ↓ndpre, ndow, ne_eq, not_false_eq_true, zaaa, zaab, ↓zaad, ↓zaae, and_false, if_false, Option.isNone_some, zaai, e0, e4, e5, ↓oc, hne, hz, zadx, zaco, hm1, ↓sm, w3]
      simp [Nd.call, Nd.cs, Nd.vs, sl, v0, c0]
     ·have hcap : ((Nd.vs kids).length + (0 + 1)) * 160 ≤ 140737488355328 := by rw [zabx]; omega
      have hcap2 : (Nd.vs kids).length + (0 + 1) ≤ 9223372036854775807 := by rw [zabx]; omega
      simp -dsimp only [↓kpre, kpost, light, ret1, cellF, afill, setAll, simprocAttr, ↓zadr, zadt, ↓cxpre, cxpost, List.length_map, ndl, ↓ndpre, ndow, ne_eq, not_false_eq_true, zaaa, zaab, ↓zaad, ↓zaae, and_false, if_false, Option.isNone_some, zaai, e0, e4, e5]
      refine zaah [[], [1, 2], [], [], [], [], [], []] false (by kernel_rfl) (by kernel_rfl) (by kernel_rfl) ?_
      simp -dsimp only [↓kpre, kpost, light, ret1, cellF, afill, setAll, simprocAttr, ↓opre, opost, vspan, ↓zadr, zadt, ↓cxpre, cxpost, List.length_map, ndl, ↓ndpre, ndow, ne_eq, not_false_eq_true, zaaa, zaab, ↓zaad, ↓zaae, and_false, if_false, Option.isNone_some, zaai, e0, e4, e5, ↓oc, hne, hz, zadx, zaco, hm1, ↓sm, w3, hcap, hcap2]
      simp [Nd.call, Nd.cs, zaj6, sl, v0, c0]
    | @argsS _ _ _ x m' hs h1 h2 h3 =>
     have oc := fun R l w K => (hP q hnq hqT _ h1).c rfl rfl R l w K
     have hon := h1.on _ _ rfl
     simp only [Gl.on] at hon
     have hm' : m' ≤ T.length := hon.2 hqT
     have sm := sg m' ⟨#[41]⟩
     have sn := sg m' ⟨#[44]⟩
     have ac := fun R l w K => rat_c (T := T) (fin := fin) (sh := sh) h.rat m' (-1) R l w K
     have fl := fun R l w K => zanz (T := T) (fin := fin) (sh := sh) h.fail (m' : Int) (atT T fin m') R l w K
     rw [h2] at sm
     rcases hv with ⟨h0, rfl⟩ | ⟨h0, rfl⟩
     ·subst h0
      have h3' : sgn T m' ⟨#[44]⟩ = false := by simpa using h3
      rw [h3'] at sn
      simp -dsimp only [↓kpre, kpost, light, ret1, cellF, afill, setAll, simprocAttr, ↓zadr, zadt, ↓cxpre, cxpost, List.length_map, ndl, ↓ndpre, ndow, ne_eq, not_false_eq_true, zaaa, zaab, ↓zaad, ↓zaae, and_false, if_false, Option.isNone_some, zaai, e0, e4, e5]
      refine zaah [[], [1, 2], [], [], [], [], [], []] false (by kernel_rfl) (by kernel_rfl) (by kernel_rfl) ?_
      simp -dsimp only [↓kpre, kpost, light, ret1, cellF, afill, setAll, simprocAttr, ↓opre, opost, vspan, ↓zadr, zadt, ↓cxpre, cxpost, List.length_map, ndl, ↓ndpre, ndow, ne_eq, not_false_eq_true, zaaa, zaab, ↓zaad, ↓zaae, and_false, if_false, Option.isNone_some, zaai, e0, e4, e5, ↓oc, hne, hz, zadx, zaco, hm1, ↓sm, ↓sn, ↓ac, ↓fl]
      exact ⟨Nd.zero, _, rfl, rfl⟩
     ·have hcap : ((Nd.vs kids).length + (0 + 1)) * 160 ≤ 140737488355328 := by rw [zabx]; omega
      have hcap2 : (Nd.vs kids).length + (0 + 1) ≤ 9223372036854775807 := by rw [zabx]; omega
      have hll : (Nd.vs kids ++ [Value.agg ⟨x.cs⟩]).length = kids.length + 1 := by rw [List.length_append, zabx]; rfl
      cases hc : sgn T m' ⟨#[44]⟩
      ·rw [hc] at sn
       simp -dsimp only [↓kpre, kpost, light, ret1, cellF, afill, setAll, simprocAttr, ↓zadr, zadt, ↓cxpre, cxpost, List.length_map, ndl, ↓ndpre, ndow, ne_eq, not_false_eq_true, zaaa, zaab, ↓zaad, ↓zaae, and_false, if_false, Option.isNone_some, zaai, e0, e4, e5]
       refine zaah [[], [1, 2], [], [], [], [], [], []] false (by kernel_rfl) (by kernel_rfl) (by kernel_rfl) ?_
       simp -dsimp only [↓kpre, kpost, light, ret1, cellF, afill, setAll, simprocAttr, ↓opre, opost, vspan, ↓zadr, zadt, ↓cxpre, cxpost, List.length_map, ndl, ↓ndpre, ndow, ne_eq, not_false_eq_true, zaaa, zaab, ↓zaad, ↓zaae, and_false, if_false, Option.isNone_some, zaai, e0, e4, e5, ↓oc, hne, hz, zadx, zaco, hm1, ↓sm, ↓sn, ↓ac, ↓fl, hcap, hcap2]
       exact ⟨Nd.zero, _, rfl, rfl⟩
      ·rw [hc] at sn h3
       have h20' : ((kids.length + 1 : Nat) : Int) = 20 := by
        simp at h3
        omega
       simp -dsimp only [↓kpre, kpost, light, ret1, cellF, afill, setAll, simprocAttr, ↓zadr, zadt, ↓cxpre, cxpost, List.length_map, ndl, ↓ndpre, ndow, ne_eq, not_false_eq_true, zaaa, zaab, ↓zaad, ↓zaae, and_false, if_false, Option.isNone_some, zaai, e0, e4, e5]
       refine zaah [[], [1, 2], [], [], [], [], [], []] false (by kernel_rfl) (by kernel_rfl) (by kernel_rfl) ?_
       simp -dsimp only [↓kpre, kpost, light, ret1, cellF, afill, setAll, simprocAttr, ↓opre, opost, vspan, ↓zadr, zadt, ↓cxpre, cxpost, List.length_map, ndl, ↓ndpre, ndow, ne_eq, not_false_eq_true, zaaa, zaab, ↓zaad, ↓zaae, and_false, if_false, Option.isNone_some, zaai, e0, e4, e5, ↓oc, hne, hz, zadx, zaco, hm1, ↓sm, ↓sn, ↓ac, ↓fl, hcap, hcap2, ↓hll, h20']
       exact ⟨Nd.zero, _, rfl, rfl⟩
    | @argsC _ _ _ x m' _ hs h1 h2 h3 h4 h5 =>
     have oc := fun R l w K => (hP q hnq hqT _ h1).c rfl rfl R l w K
     have hon := h1.on _ _ rfl
     simp only [Gl.on] at hon
     have hm' : m' ≤ T.length := hon.2 hqT
     have sm := sg m' ⟨#[41]⟩
     have sn := sg m' ⟨#[44]⟩
     rw [h2] at sm
     rw [h3] at sn
     have hlt3 := sgn_lt h3
     have w3 : IntKind.i64.wrap ((m' : Int) + 1) = ((m' + 1 : Nat) : Int) := zaaq (by omega) (by omega)
     have hdone : ∀ J', ∃ k, k < T.length - q ∧ ∃ (kids' : List Nd) (q' : Nat) (J'' : List Blk) (v' : Value), k = T.length - q' ∧ Pr T fin sh (.args nm kids') q' r ∧ (kids' = [] → sgn T q' ⟨#[41]⟩ = false) ∧ n < q' ∧ q' ≤ T.length ∧ kids'.length ≤ 19 ∧ slotF (cl R + 1, some 12) kids' v' ∧
         (⟨cx (rbx T fin sh (m' + 1 : Nat) (-1)) R, zbx :: .cells true 29 [.int .i64 6, .string .empty, .string nm, .int .i64 0, .int .i64 0, .string .empty, .string .empty, .int .i64 0, .int .i64 0, .string .empty, .int .i64 0, .int .i64 0, vo (cl R + 1, some 12) 13 0 (Nd.vs kids ++ [.agg ⟨x.cs⟩])] :: J', [1]⟩ : VH) =
         ⟨cx (rbx T fin sh q' (-1)) R, zbx :: .cells true 29 [.int .i64 6, .string .empty, .string nm, .int .i64 0, .int .i64 0, .string .empty, .string .empty, .int .i64 0, .int .i64 0, .string .empty, .int .i64 0, .int .i64 0, v'] :: J'', [1]⟩ :=
      fun J' => ⟨T.length - (m' + 1), by omega, kids ++ [x], m' + 1, J', _, rfl, h5, by simp, by omega, by omega, by simp; omega, .inr ⟨by simp, by rw [zaj6]⟩, rfl⟩
     rcases hv with ⟨h0, rfl⟩ | ⟨h0, rfl⟩
     ·subst h0
      simp -dsimp only [↓kpre, kpost, light, ret1, cellF, afill, setAll, simprocAttr, ↓zadr, zadt, ↓cxpre, cxpost, List.length_map, ndl, ↓ndpre, ndow, ne_eq, not_false_eq_true, zaaa, zaab, ↓zaad, ↓zaae, and_false, if_false, Option.isNone_some, zaai, e0, e4, e5]
      refine zaah [[], [1, 2], [], [], [], [], [], []] false (by kernel_rfl) (by kernel_rfl) (by kernel_rfl) ?_
      simp -dsimp only [↓kpre, kpost, light, ret1, cellF, afill, setAll, simprocAttr, ↓opre, opost, vspan, ↓zadr, zadt, ↓cxpre, cxpost, List.length_map, ndl, ↓ndpre, ndow, ne_eq, not_false_eq_true, zaaa, zaab, ↓zaad, ↓zaae, and_false, if_false, Option.isNone_some, zaai, e0, e4, e5, ↓oc, hne, hz, zadx, zaco, hm1, ↓sm, ↓sn, w3]
      exact hdone _
     ·have hcap : ((Nd.vs kids).length + (0 + 1)) * 160 ≤ 140737488355328 := by rw [zabx]; omega
      have hcap2 : (Nd.vs kids).length + (0 + 1) ≤ 9223372036854775807 := by rw [zabx]; omega
      have hll : (Nd.vs kids ++ [Value.agg ⟨x.cs⟩]).length = kids.length + 1 := by rw [List.length_append, zabx]; rfl
      have h20 : ¬ ((kids.length + 1 : Nat) : Int) = 20 := by omega
      simp -dsimp only [↓kpre, kpost, light, ret1, cellF, afill, setAll, simprocAttr, ↓zadr, zadt, ↓cxpre, cxpost, List.length_map, ndl, ↓ndpre, ndow, ne_eq, not_false_eq_true, zaaa, zaab, ↓zaad, ↓zaae, and_false, if_false, Option.isNone_some, zaai, e0, e4, e5]
      refine zaah [[], [1, 2], [], [], [], [], [], []] false (by kernel_rfl) (by kernel_rfl) (by kernel_rfl) ?_
      simp -dsimp only [↓kpre, kpost, light, ret1, cellF, afill, setAll, simprocAttr, ↓opre, opost, vspan, ↓zadr, zadt, ↓cxpre, cxpost, List.length_map, ndl, ↓ndpre, ndow, ne_eq, not_false_eq_true, zaaa, zaab, ↓zaad, ↓zaae, and_false, if_false, Option.isNone_some, zaai, e0, e4, e5, ↓oc, hne, hz, zadx, zaco, hm1, ↓sm, ↓sn, w3, hcap, hcap2, ↓hll, h20]
      exact hdone _
 cases r with
 | ok xm => exact ROut.ok main
 | error b => exact ROut.er main
end
end Go.Proofs.YtliemjbafgnnbaaGreatDoor.Abs
/- The reference's parser: words, and what no op joins. -/
namespace Go.Proofs.YtliemjbafgnnbaaGreatDoor.Abs
open Go
def zagt := And.intro (And.intro (@val29) (And.intro (@vfk79) (@vfk41))) (And.intro (@vfk35) (And.intro (@vfk80) (@vfk65)))
def zagw := And.intro (And.intro (And.intro (And.intro (@vld3) (@vgt3)) (And.intro (@vld9) (And.intro (@vgt9) (@vld29)))) (And.intro (And.intro (@vgt29) (@vst3)) (And.intro (@vst29) (And.intro (@zagz) (@zag1))))) (And.intro (And.intro (And.intro (@zagi) (@zagj)) (And.intro (@bd29) (And.intro (@pl29_0) (@pl29_1)))) (And.intro (And.intro (@pl29_2) (And.intro (@pl29_3) (@pl29_4))) (And.intro (@pl29_5) (And.intro (@pl29_6) (@Tryz.results66)))))
def zaj9 := And.intro (And.intro (And.intro (@val29) (@val26)) (And.intro (@vfk19) (@vfk77))) (And.intro (And.intro (@vfk35) (@vfk18)) (And.intro (@vfk78) (@vfk39)))
def zakb := And.intro (And.intro (And.intro (And.intro (And.intro (@vld9) (@vgt9)) (And.intro (@vld39) (@vgt39))) (And.intro (And.intro (@vld3) (@vgt3)) (And.intro (@vld26) (And.intro (@vgt26) (@vld29))))) (And.intro (And.intro (And.intro (@vgt29) (@vst3)) (And.intro (@vst29) (@vst26))) (And.intro (And.intro (@za0w) (@za04)) (And.intro (@zals) (And.intro (@zalt) (@zagz)))))) (And.intro (And.intro (And.intro (And.intro (@zag1) (@zagi)) (And.intro (@zagj) (@bd29))) (And.intro (And.intro (@pl29_0) (@pl29_1)) (And.intro (@pl29_2) (And.intro (@pl29_3) (@pl29_4))))) (And.intro (And.intro (And.intro (@pl29_5) (@pl29_6)) (And.intro (@bd77) (And.intro (@pl77_0) (@pl77_1)))) (And.intro (And.intro (@vix39) (@vio39)) (And.intro (@vis39) (And.intro (@viw39) (@Tryz.results65))))))
section
variable {X : VOuter} {T : List TK} {fin : Nat} {sh : ByteArray}
theorem za3r (hX : X 79 = none) (b : Bool) (S : VH) (K : VCont) : Vcallee Tryz.prog X 79 [.bool b] S K = K (.agg ⟨[.int .i64 3, .int .i64 (if b then 1 else 0), .string .empty]⟩) [] S [] false := by
 refine zaag ?_ rfl rfl (by cases b <;> rfl)
 unfold Vp
 refine zaaf hX Tryz.func79 rfl (by kernel_rfl) (by show 1 ≤ _; decide) ?_
 cases b <;> simp -dsimp only [↓kpre, kpost, light, ret1, cellF, afill, setAll, simprocAttr, vld24, vgt24, vst24, ↓val24, bd24, pl24_0, pl24_1, pl24_2, Tryz.results79]
theorem rint_c (hX : X 64 = none) (n : Int) (S : VH) (K : VCont) : Vcallee Tryz.prog X 64 [.int .i64 n] S K = K (.agg ⟨[.int .i64 1, .int .i64 n, .string .empty]⟩) [] S [] false := by
 refine zaag ?_ rfl rfl rfl
 unfold Vp
 refine zaaf hX Tryz.func64 rfl (by kernel_rfl) (by show 1 ≤ _; decide) ?_
 simp -dsimp only [↓kpre, kpost, light, ret1, cellF, afill, setAll, simprocAttr, vld24, vgt24, vst24, ↓val24, bd24, pl24_0, pl24_1, pl24_2, Tryz.results64]
theorem zaym {n : Nat} {u v : ByteArray} (h : sgn T n u = true) (hne : u ≠ v) : sgn T n v = false := by
 unfold sgn at h ⊢
 split at h
 ·rename_i t' ht'
  simp only [Bool.and_eq_true, decide_eq_true_eq] at h
  rw [h.2]
  simp [hne]
 ·cases h
theorem za57 (h : RpOff X) (hT : TokOk T) (hl : T.length ≤ 1000) (hsh : nameF sh = true) {n : Nat} {t : TK} (ht : T[n]? = some t) (hk3 : t.k = 3) {r : Except Nat (Nd × Nat)} (hp : Pr T fin sh .one n r)
    (hC : ∀ r, n + 1 < T.length → Pr T fin sh (.args t.t []) (n + 2) r → ROut X T fin sh 80 [.string t.t] (n + 1) r) : ROut X T fin sh 66 [.agg ⟨[.int .i64 t.k, .int .i64 t.a, .string t.t]⟩] n r := by
 have hn := (List.getElem?_eq_some_iff.1 ht).1
 have w1 : IntKind.i64.wrap ((n : Int) + 1) = ((n + 1 : Nat) : Int) := zaaq (by omega) (by omega)
 have w2 : IntKind.i64.wrap (((n + 1 : Nat) : Int) + 1) = ((n + 2 : Nat) : Int) := zaaq (by omega) (by omega)
 have wb : IntKind.i64.wrap (((n + 1 : Nat) : Int) - 1) = (n : Int) := by rw [show ((n + 1 : Nat) : Int) - 1 = (n : Int) by omega]; exact zaar (by omega) (by omega)
 have sg := fun u R l w K => ris_c (T := T) (fin := fin) (sh := sh) h.is (n + 1) u (-1) R l w K
 have tc := fun b S K => za3r h.truth b S K
 have pc := fun S K => zavi h.cname h.great t.t S K
 have hTF : ¬ (⟨#[70, 65, 76, 83, 69]⟩ : ByteArray) = ⟨#[84, 82, 85, 69]⟩ := by decide
 have hRT : ¬ (⟨#[82, 69, 70]⟩ : ByteArray) = ⟨#[84, 82, 85, 69]⟩ := by decide
 have hRF : ¬ (⟨#[82, 69, 70]⟩ : ByteArray) = ⟨#[70, 65, 76, 83, 69]⟩ := by decide
 have same : ∀ {t'}, T[n]? = some t' → t' = t := fun h' => by rw [ht] at h'; cases h'; rfl
 cases hp with
 | yes ht' hk he =>
  cases same ht'
  simp only [sTRUE] at he
  rw [he]
  refine ROut.ok fun R => ?_
  refine zaaf h.word Tryz.func66 rfl (by kernel_rfl) (by show 2 ≤ _; decide) ?_
  simp -dsimp only [↓kpre, kpost, light, ret1, cellF, afill, setAll, simprocAttr, ↓zagt, zagw, ↓cxpre, cxpost, List.length_map, ndl, ↓ndpre, ndow, ne_eq, not_false_eq_true, zaaa, zaab, ↓zaad, ↓zaae, and_false, if_false, Option.isNone_some, zaai, ab_seq, w1, ↓tc]
  simp [Nd.val, Nd.cs, Nd.vs, sl, v0, c0, bV]
 | no ht' hk he =>
  cases same ht'
  simp only [sFALSE] at he
  rw [he]
  refine ROut.ok fun R => ?_
  refine zaaf h.word Tryz.func66 rfl (by kernel_rfl) (by show 2 ≤ _; decide) ?_
  simp -dsimp only [↓kpre, kpost, light, ret1, cellF, afill, setAll, simprocAttr, ↓zagt, zagw, ↓cxpre, cxpost, List.length_map, ndl, ↓ndpre, ndow, ne_eq, not_false_eq_true, zaaa, zaab, ↓zaad, ↓zaae, and_false, if_false, Option.isNone_some, zaai, ab_seq, w1, hTF, ↓tc]
  simp [Nd.val, Nd.cs, Nd.vs, sl, v0, c0, bV]
 | lost ht' hk he hs =>
  cases same ht'
  simp only [sREF] at he
  have hcf : callN ⟨#[82, 69, 70]⟩ = true := by decide
  rw [he] at pc ⊢
  rw [hcf] at pc
  have sg1 := sg ⟨#[33]⟩
  have sg2 := sg ⟨#[40]⟩
  rw [hs] at sg1
  rw [zaym hs (by decide)] at sg2
  refine ROut.ok fun R => ?_
  refine zaaf h.word Tryz.func66 rfl (by kernel_rfl) (by show 2 ≤ _; decide) ?_
  simp -dsimp only [↓kpre, kpost, light, ret1, cellF, afill, setAll, simprocAttr, ↓zagt, zagw, ↓cxpre, cxpost, List.length_map, ndl, ↓ndpre, ndow, ne_eq, not_false_eq_true, zaaa, zaab, ↓zaad, ↓zaae, and_false, if_false, Option.isNone_some, zaai, ab_seq, w1, w2, hRT, hRF, ↓pc, ↓sg1, ↓sg2]
  simp [Nd.bad, Nd.cs, Nd.vs, sl, v0, c0]
 | call ht' hk hc hs h1 =>
  cases same ht'
  have nT : ¬ t.t = ⟨#[84, 82, 85, 69]⟩ := fun e => by rw [e] at hc; revert hc; decide
  have nF : ¬ t.t = ⟨#[70, 65, 76, 83, 69]⟩ := fun e => by rw [e] at hc; revert hc; decide
  have sg2 := sg ⟨#[40]⟩
  rw [hs] at sg2
  rw [hc] at pc
  have oo := hC _ (sgn_lt hs) h1
  cases r with
  | ok xm =>
   obtain ⟨x, m⟩ := xm
   have oc := fun R l w K => oo.c (by simp only [zaap, zaa0, zabf]) (by simp only [zabl, zack, zab0, List.append_nil]) R l w K
   refine ROut.ok fun R => ?_
   refine zaaf h.word Tryz.func66 rfl (by kernel_rfl) (by show 2 ≤ _; decide) ?_
   simp -dsimp only [↓kpre, kpost, light, ret1, cellF, afill, setAll, simprocAttr, ↓zagt, zagw, ↓cxpre, cxpost, List.length_map, ndl, ↓ndpre, ndow, ne_eq, not_false_eq_true, zaaa, zaab, ↓zaad, ↓zaae, and_false, if_false, Option.isNone_some, zaai, ab_seq, w1, nT, nF, ↓pc, ↓sg2, ↓oc]
  | error b =>
   obtain ⟨y, n', oc⟩ := oo.e (by simp only [zaap, zaa0, zabf]) (by simp only [zabl, zack, zab0, List.append_nil])
   refine ROut.er fun R => ?_
   refine zaaf h.word Tryz.func66 rfl (by kernel_rfl) (by show 2 ≤ _; decide) ?_
   simp -dsimp only [↓kpre, kpost, light, ret1, cellF, afill, setAll, simprocAttr, ↓zagt, zagw, ↓cxpre, cxpost, List.length_map, ndl, ↓ndpre, ndow, ne_eq, not_false_eq_true, zaaa, zaab, ↓zaad, ↓zaae, and_false, if_false, Option.isNone_some, zaai, ab_seq, w1, nT, nF, ↓pc, ↓sg2, ↓oc]
   exact ⟨_, _, rfl, rfl⟩
 | word ht' hk e1 e2 e3 e4 =>
  cases same ht'
  have nT : ¬ t.t = ⟨#[84, 82, 85, 69]⟩ := e1
  have nF : ¬ t.t = ⟨#[70, 65, 76, 83, 69]⟩ := e2
  have sg1 := sg ⟨#[33]⟩
  have sg2 := sg ⟨#[40]⟩
  simp only [sREF] at e3
  have oo := ref_a (fin := fin) (sh := sh) h hT hl hsh ht hk
  generalize cellG T fin sh n 0 = r at oo
  have hRcase : t.t = ⟨#[82, 69, 70]⟩ → sgn T (n + 1) ⟨#[33]⟩ = false ∧ sgn T (n + 1) ⟨#[40]⟩ = false := fun hR => by
   have hcf : callN ⟨#[82, 69, 70]⟩ = true := by decide
   exact ⟨by simpa [hR] using e3, by simpa [hR, hcf] using e4⟩
  cases r with
  | ok xm =>
   obtain ⟨x, m⟩ := xm
   have oc := fun R l w K => oo.c rfl rfl R l w K
   refine ROut.ok fun R => ?_
   refine zaaf h.word Tryz.func66 rfl (by kernel_rfl) (by show 2 ≤ _; decide) ?_
   by_cases hR : t.t = ⟨#[82, 69, 70]⟩
   ·obtain ⟨h33, h40⟩ := hRcase hR
    have hcf : callN ⟨#[82, 69, 70]⟩ = true := by decide
    rw [h33] at sg1
    rw [h40] at sg2
    rw [hR] at pc ⊢
    rw [hcf] at pc
    simp -dsimp only [↓kpre, kpost, light, ret1, cellF, afill, setAll, simprocAttr, ↓zagt, zagw, ↓cxpre, cxpost, List.length_map, ndl, ↓ndpre, ndow, ne_eq, not_false_eq_true, zaaa, zaab, ↓zaad, ↓zaae, and_false, if_false, Option.isNone_some, zaai, ab_seq, w1, wb, hRT, hRF, ↓pc, ↓sg1, ↓sg2, ↓oc]
   ·cases hcf : callN t.t with
    | false =>
     rw [hcf] at pc
     simp -dsimp only [↓kpre, kpost, light, ret1, cellF, afill, setAll, simprocAttr, ↓zagt, zagw, ↓cxpre, cxpost, List.length_map, ndl, ↓ndpre, ndow, ne_eq, not_false_eq_true, zaaa, zaab, ↓zaad, ↓zaae, and_false, if_false, Option.isNone_some, zaai, ab_seq, w1, wb, nT, nF, hR, ↓pc, ↓sg1, ↓sg2, ↓oc]
    | true =>
     have h40 : sgn T (n + 1) ⟨#[40]⟩ = false := by simpa [hcf] using e4
     rw [h40] at sg2
     rw [hcf] at pc
     simp -dsimp only [↓kpre, kpost, light, ret1, cellF, afill, setAll, simprocAttr, ↓zagt, zagw, ↓cxpre, cxpost, List.length_map, ndl, ↓ndpre, ndow, ne_eq, not_false_eq_true, zaaa, zaab, ↓zaad, ↓zaae, and_false, if_false, Option.isNone_some, zaai, ab_seq, w1, wb, nT, nF, hR, ↓pc, ↓sg1, ↓sg2, ↓oc]
  | error b =>
   obtain ⟨y, n', oc⟩ := oo.e rfl rfl
   refine ROut.er fun R => ?_
   refine zaaf h.word Tryz.func66 rfl (by kernel_rfl) (by show 2 ≤ _; decide) ?_
   by_cases hR : t.t = ⟨#[82, 69, 70]⟩
   ·obtain ⟨h33, h40⟩ := hRcase hR
    have hcf : callN ⟨#[82, 69, 70]⟩ = true := by decide
    rw [h33] at sg1
    rw [h40] at sg2
    rw [hR] at pc ⊢
    rw [hcf] at pc
    simp -dsimp only [↓kpre, kpost, light, ret1, cellF, afill, setAll, simprocAttr, ↓zagt, zagw, ↓cxpre, cxpost, List.length_map, ndl, ↓ndpre, ndow, ne_eq, not_false_eq_true, zaaa, zaab, ↓zaad, ↓zaae, and_false, if_false, Option.isNone_some, zaai, ab_seq, w1, wb, hRT, hRF, ↓pc, ↓sg1, ↓sg2, ↓oc]
    exact ⟨_, _, rfl, rfl⟩
   ·cases hcf : callN t.t with
    | false =>
     rw [hcf] at pc
     simp -dsimp only [↓kpre, kpost, light, ret1, cellF, afill, setAll, simprocAttr, ↓zagt, zagw, ↓cxpre, cxpost, List.length_map, ndl, ↓ndpre, ndow, ne_eq, not_false_eq_true, zaaa, zaab, ↓zaad, ↓zaae, and_false, if_false, Option.isNone_some, zaai, ab_seq, w1, wb, nT, nF, hR, ↓pc, ↓sg1, ↓sg2, ↓oc]
     exact ⟨_, _, rfl, rfl⟩
    | true =>
     have h40 : sgn T (n + 1) ⟨#[40]⟩ = false := by simpa [hcf] using e4
     rw [h40] at sg2
     rw [hcf] at pc
     simp -dsimp only [↓kpre, kpost, light, ret1, cellF, afill, setAll, simprocAttr, ↓zagt, zagw, ↓cxpre, cxpost, List.length_map, ndl, ↓ndpre, ndow, ne_eq, not_false_eq_true, zaaa, zaab, ↓zaad, ↓zaae, and_false, if_false, Option.isNone_some, zaai, ab_seq, w1, wb, nT, nF, hR, ↓pc, ↓sg1, ↓sg2, ↓oc]
     exact ⟨_, _, rfl, rfl⟩
 | num ht' hk _ => cases same ht'; omega
 | numE ht' hk _ => cases same ht'; omega
 | text ht' hk => cases same ht'; omega
 | name ht' hk => cases same ht'; omega
 | nameE ht' hk => cases same ht'; omega
 | sign ht' hk => cases same ht'; omega
 | fin h' => rw [ht] at h'; cases h'
 | par hs => have := sgn_k5 ht hs; omega
 | parE hs => have := sgn_k5 ht hs; omega
 | parF hs => have := sgn_k5 ht hs; omega
theorem ref_e (h : RpOff X) (hT : TokOk T) (hl : T.length ≤ 1000) {n : Nat} {t : TK} (ht : T[n]? = some t) (hk : t.k = 4) (hs : (nameF t.t && sgn T (n + 1) ⟨#[33]⟩) = false) : ROut X T fin sh 65 [] n (.error t.a) := by
 have hn := (List.getElem?_eq_some_iff.1 ht).1
 have hat : atT T fin n = t.a := by simp [atT, ht]
 rw [← hat]
 have k4 := fun R l w K => zaiy (T := T) (fin := fin) (sh := sh) h.kind n 4 (-1) R l w K
 rw [zaul ht hk] at k4
 have ex := fun R l w K => ris_c (T := T) (fin := fin) (sh := sh) h.is (n + 1) ⟨#[33]⟩ (-1) R l w K
 have hx4 : (T.map TK.v)[n]? = some (.agg ⟨[.int .i64 t.k, .int .i64 t.a, .string t.t]⟩) := by rw [List.getElem?_map, ht]; rfl
 have h0 : (0 : Int) ≤ n := by omega
 have h02 : (0 : Int) ≤ ((n + 2 : Nat) : Int) := by omega
 have ac := fun R l w K => rat_c (T := T) (fin := fin) (sh := sh) h.rat n (-1) R l w K
 have k3 := fun R l w K => zaiy (T := T) (fin := fin) (sh := sh) h.kind (n + 2) 3 (-1) R l w K
 have fl := fun (m : Int) R l w K => zanz (T := T) (fin := fin) (sh := sh) h.fail m (atT T fin n) R l w K
 have w1 : IntKind.i64.wrap ((n : Int) + 1) = ((n + 1 : Nat) : Int) := zaaq (by omega) (by omega)
 have w2 : IntKind.i64.wrap (((n + 1 : Nat) : Int) + 1) = ((n + 2 : Nat) : Int) := zaaq (by omega) (by omega)
 refine ROut.er fun R => ?_
 refine zaaf h.ref Tryz.func65 rfl (by kernel_rfl) (by show 1 ≤ _; decide) ?_
 cases hs1 : sgn T (n + 1) ⟨#[33]⟩ with
 | false =>
  rw [hs1] at ex
  simp -dsimp only [↓kpre, kpost, light, ret1, cellF, afill, setAll, simprocAttr, ↓zaj9, zakb, ↓cxpre, cxpost, List.length_map, ndl, ↓ndpre, ndow, ne_eq, not_false_eq_true, zaaa, zaab, ↓zaad, ↓zaae, and_false, if_false, Option.isNone_some, zaai, ↓ac, ↓k4, ↓k3, ↓fl, w1, w2, h0, hx4, ↓ex]
  refine zaah [[], [], [], [], [], [], [], [], [], [], [], []] false (by kernel_rfl) (by kernel_rfl) (by kernel_rfl) ?_
  simp -dsimp only [↓kpre, kpost, light, ret1, cellF, afill, setAll, simprocAttr, ↓opre, opost, vspan, ↓zaj9, zakb, ↓cxpre, cxpost, List.length_map, ndl, ↓ndpre, ndow, ne_eq, not_false_eq_true, zaaa, zaab, ↓zaad, ↓zaae, and_false, if_false, Option.isNone_some, zaai, ↓ac, ↓k4, ↓k3, ↓fl, w1, w2, h0, hx4, ↓ex]
  exact ⟨Nd.zero, _, rfl, rfl⟩
 | true =>
  rw [hs1] at ex
  have hnm : nameF t.t = false := by simpa [hs1] using hs
  cases hq : isK T (n + 2) 3 with
  | false =>
   rw [hq] at k3
   simp -dsimp only [↓kpre, kpost, light, ret1, cellF, afill, setAll, simprocAttr, ↓zaj9, zakb, ↓cxpre, cxpost, List.length_map, ndl, ↓ndpre, ndow, ne_eq, not_false_eq_true, zaaa, zaab, ↓zaad, ↓zaae, and_false, if_false, Option.isNone_some, zaai, ↓ac, ↓k4, ↓k3, ↓fl, w1, w2, h0, hx4, ↓ex]
   refine zaah [[], [], [], [], [], [], [], [], [], [], [], []] false (by kernel_rfl) (by kernel_rfl) (by kernel_rfl) ?_
   simp -dsimp only [↓kpre, kpost, light, ret1, cellF, afill, setAll, simprocAttr, ↓opre, opost, vspan, ↓zaj9, zakb, ↓cxpre, cxpost, List.length_map, ndl, ↓ndpre, ndow, ne_eq, not_false_eq_true, zaaa, zaab, ↓zaad, ↓zaae, and_false, if_false, Option.isNone_some, zaai, ↓ac, ↓k4, ↓k3, ↓fl, w1, w2, h0, hx4, ↓ex]
   exact ⟨Nd.zero, _, rfl, rfl⟩
  | true =>
   rw [hq] at k3
   obtain ⟨t1, ht1, hk1⟩ := zane hq
   have hz1 := hT.size t1 (List.mem_of_getElem? ht1)
   have hx : (T.map TK.v)[n + 2]? = some (.agg ⟨[.int .i64 t1.k, .int .i64 t1.a, .string t1.t]⟩) := by rw [List.getElem?_map, ht1]; rfl
   have rp := fun S K => h.rd t1.t t.t (by omega) S K
   rw [rp_bad hnm] at rp
   simp only [cellT] at rp
   simp -dsimp only [↓kpre, kpost, light, ret1, cellF, afill, setAll, simprocAttr, ↓zaj9, zakb, ↓cxpre, cxpost, List.length_map, ndl, ↓ndpre, ndow, ne_eq, not_false_eq_true, zaaa, zaab, ↓zaad, ↓zaae, and_false, if_false, Option.isNone_some, zaai, ↓ac, ↓k4, ↓k3, ↓fl, w1, w2, h0, h02, hx4, ↓ex, hx, ↓rp]
   refine zaah [[], [], [], [], [], [], [], [], [], [], [], []] false (by kernel_rfl) (by kernel_rfl) (by kernel_rfl) ?_
   simp -dsimp only [↓kpre, kpost, light, ret1, cellF, afill, setAll, simprocAttr, ↓opre, opost, vspan, ↓zaj9, zakb, ↓cxpre, cxpost, List.length_map, ndl, ↓ndpre, ndow, ne_eq, not_false_eq_true, zaaa, zaab, ↓zaad, ↓zaae, and_false, if_false, Option.isNone_some, zaai, ↓ac, ↓k4, ↓k3, ↓fl, w1, w2, h0, h02, hx4, ↓ex, hx, ↓rp]
   refine zabb [[], [], [], [], [], [], [], [], [], [], [], [], [], [], [], [], [], [], []] false (by kernel_rfl) (by kernel_rfl) (by kernel_rfl) (by kernel_rfl) ?_
   simp -dsimp only [↓kpre, kpost, light, ret1, cellF, afill, setAll, simprocAttr, ↓opre, opost, vspan, ↓zaj9, zakb, ↓cxpre, cxpost, List.length_map, ndl, ↓ndpre, ndow, ne_eq, not_false_eq_true, zaaa, zaab, ↓zaad, ↓zaae, and_false, if_false, Option.isNone_some, zaai, ↓ac, ↓k4, ↓k3, ↓fl, w1, w2, h0, h02, hx4, ↓ex, hx, ↓rp]
   exact ⟨Nd.zero, _, rfl, rfl⟩
end
end Go.Proofs.YtliemjbafgnnbaaGreatDoor.Abs
/- The reference's parser: what no op joins; what ops join; the whole. -/
namespace Go.Proofs.YtliemjbafgnnbaaGreatDoor.Abs
open Go
def zabg := And.intro (And.intro (And.intro (@val29) (@val57)) (And.intro (@vfk18) (And.intro (@vfk63) (@vfk64)))) (And.intro (And.intro (@vfk35) (@vfk17)) (And.intro (@vfk19) (And.intro (@vfk65) (@vfk66))))
def zabh := And.intro (And.intro (And.intro (And.intro (And.intro (@vld3) (And.intro (@vgt3) (@vld39))) (And.intro (@vgt39) (And.intro (@vld57) (@vgt57)))) (And.intro (And.intro (@vld9) (And.intro (@vgt9) (@vld29))) (And.intro (@vgt29) (And.intro (@vst29) (@vst57))))) (And.intro (And.intro (And.intro (@vst3) (And.intro (@zagz) (@zag1))) (And.intro (@zals) (And.intro (@zalt) (@za0v)))) (And.intro (And.intro (@za03) (And.intro (@zaoi) (@zaon))) (And.intro (@zagi) (And.intro (@zagj) (@zawj)))))) (And.intro (And.intro (And.intro (And.intro (@zawr) (And.intro (@zaoh) (@zaom))) (And.intro (@bd29) (And.intro (@pl29_0) (@pl29_1)))) (And.intro (And.intro (@pl29_2) (And.intro (@pl29_3) (@pl29_4))) (And.intro (@pl29_5) (And.intro (@pl29_6) (@bd24))))) (And.intro (And.intro (And.intro (@pl24_0) (And.intro (@pl24_1) (@pl24_2))) (And.intro (@vix39) (And.intro (@vio39) (@vis39)))) (And.intro (And.intro (@viw39) (And.intro (@vlr39) (@vlo39))) (And.intro (And.intro (@vlz39) (@vls39)) (And.intro (@vlw39) (@Tryz.results53))))))
section
variable {X : VOuter} {T : List TK} {fin : Nat} {sh : ByteArray}
theorem zaac (s : List Nat × Bool) : depStep .ro s = true := _root_.id rfl
theorem rnum_c (h : RpOff X) (s : ByteArray) (hs : s.size ≤ 1000) (hd : digL s.data.toList) (S : VH) (K : VCont) : Vcallee Tryz.prog X 63 [.string s] S K = K (numV s) [] S [] false := zaag (rnum_p h.num s hs hd) rfl rfl (by unfold numV; cases digF 0 s.data.toList <;> rfl)
theorem za48 (h : RpOff X) (hT : TokOk T) (hl : T.length ≤ 1000) (hsh : nameF sh = true) {n : Nat} (hn : n ≤ T.length) {r : Except Nat (Nd × Nat)} (hp : Pr T fin sh .one n r)
    (hP : ∀ q, n < q → q ≤ T.length → ∀ r, Pr T fin sh (.pairs 0) q r → ROut X T fin sh 17 [.int .i64 0] q r) : ROut X T fin sh 53 [] n r := by
 have h0 : (0 : Int) ≤ n := by omega
 have w1 : IntKind.i64.wrap ((n : Int) + 1) = ((n + 1 : Nat) : Int) := zaaq (by omega) (by omega)
 have sn := fun u R l w K => ris_c (T := T) (fin := fin) (sh := sh) h.is n u (-1) R l w K
 have fl := fun (b : Nat) (m : Int) R l w K => zanz (T := T) (fin := fin) (sh := sh) h.fail m b R l w K
 have ic := fun n S K => rint_c h.int n S K
 have hm1 : ((-1 : Int) < 0) = True := by simp
 have hx : ∀ {t}, T[n]? = some t → (T.map TK.v)[n]? = some (.agg ⟨[.int .i64 t.k, .int .i64 t.a, .string t.t]⟩) := fun ht => by rw [List.getElem?_map, ht]; rfl
 have hg : ∀ {t}, T[n]? = some t → ¬ (T.length : Int) ≤ n := fun ht => by have := (List.getElem?_eq_some_iff.1 ht).1; omega
 have s40 : ∀ {t}, T[n]? = some t → t.k ≠ 5 → sgn T n ⟨#[40]⟩ = false := fun {t} ht hk => by
  cases hs : sgn T n ⟨#[40]⟩ with
  | false => rfl
  | true => exact absurd (sgn_k5 ht hs) hk
 have k13 : ∀ {k : Int}, k = 3 → (¬ k = 1) ∧ (¬ k = 2) ∧ (¬ k = 4) := fun h => by omega
 have wordcase : ∀ {t}, T[n]? = some t → t.k = 3 → ROut X T fin sh 53 [] n r := by
  intro t ht hk
  have oo := za57 h hT hl hsh ht hk hp fun r h1 hpp => za5z h hT hl t.t h1 hpp fun q hq1 hq2 r hppp => hP q (by omega) hq2 r hppp
  have hx := hx ht
  have hg := hg ht
  have sn := sn ⟨#[40]⟩
  rw [s40 ht (by omega)] at sn
  rw [hk] at hx oo
  have a1 : mapOwnL (lend false) [.agg ⟨[.int .i64 3, .int .i64 t.a, .string t.t]⟩] = [.agg ⟨[.int .i64 3, .int .i64 t.a, .string t.t]⟩] := by simp only [zaap, zaa0, zab3, List.map_cons, List.map_nil, zadk, zabf]
  have a2 : toksL [.agg ⟨[.int .i64 3, .int .i64 t.a, .string t.t]⟩] = [] := by simp only [zabl, zack, zagc, List.flatMap_cons, List.flatMap_nil, zaeu, zab0, List.append_nil]
  cases r with
  | ok xm =>
   obtain ⟨x, m⟩ := xm
   have oc := fun R l w K => oo.c a1 a2 R l w K
   refine ROut.ok fun R => ?_
   refine zaaf h.first Tryz.func53 rfl (by kernel_rfl) (by show 1 ≤ _; decide) ?_
   simp -dsimp only [↓kpre, kpost, light, ret1, cellF, afill, setAll, simprocAttr, ↓zabg, zabh, ↓cxpre, cxpost, List.length_map, ndl, ↓ndpre, ndow, ne_eq, not_false_eq_true, zaaa, zaab, ↓zaad, ↓zaae, and_false, if_false, Option.isNone_some, zaai, zaac]
   refine zaah [[], [], [], [], [], [], [], [], [], []] false (by kernel_rfl) (by kernel_rfl) (by kernel_rfl) ?_
   simp -dsimp only [↓kpre, kpost, light, ret1, cellF, afill, setAll, simprocAttr, ↓opre, opost, vspan, ↓zabg, zabh, ↓cxpre, cxpost, List.length_map, ndl, ↓ndpre, ndow, ne_eq, not_false_eq_true, zaaa, zaab, ↓zaad, ↓zaae, and_false, if_false, Option.isNone_some, zaai, zaac, hg]
   refine zaah [[], [], [], [1], [], [], [], [1], [], [1], [], []] false (by kernel_rfl) (by kernel_rfl) (by kernel_rfl) ?_
   simp -dsimp only [↓kpre, kpost, light, ret1, cellF, afill, setAll, simprocAttr, ↓opre, opost, vspan, ↓zabg, zabh, ↓cxpre, cxpost, List.length_map, ndl, ↓ndpre, ndow, ne_eq, not_false_eq_true, zaaa, zaab, ↓zaad, ↓zaae, and_false, if_false, Option.isNone_some, zaai, zaac, h0, hx, ↓sn, ↓oc]
  | error b =>
   obtain ⟨y, n', oc⟩ := oo.e a1 a2
   refine ROut.er fun R => ?_
   refine zaaf h.first Tryz.func53 rfl (by kernel_rfl) (by show 1 ≤ _; decide) ?_
   simp -dsimp only [↓kpre, kpost, light, ret1, cellF, afill, setAll, simprocAttr, ↓zabg, zabh, ↓cxpre, cxpost, List.length_map, ndl, ↓ndpre, ndow, ne_eq, not_false_eq_true, zaaa, zaab, ↓zaad, ↓zaae, and_false, if_false, Option.isNone_some, zaai, zaac]
   refine zaah [[], [], [], [], [], [], [], [], [], []] false (by kernel_rfl) (by kernel_rfl) (by kernel_rfl) ?_
   simp -dsimp only [↓kpre, kpost, light, ret1, cellF, afill, setAll, simprocAttr, ↓opre, opost, vspan, ↓zabg, zabh, ↓cxpre, cxpost, List.length_map, ndl, ↓ndpre, ndow, ne_eq, not_false_eq_true, zaaa, zaab, ↓zaad, ↓zaae, and_false, if_false, Option.isNone_some, zaai, zaac, hg]
   refine zaah [[], [], [], [1], [], [], [], [1], [], [1], [], []] false (by kernel_rfl) (by kernel_rfl) (by kernel_rfl) ?_
   simp -dsimp only [↓kpre, kpost, light, ret1, cellF, afill, setAll, simprocAttr, ↓opre, opost, vspan, ↓zabg, zabh, ↓cxpre, cxpost, List.length_map, ndl, ↓ndpre, ndow, ne_eq, not_false_eq_true, zaaa, zaab, ↓zaad, ↓zaae, and_false, if_false, Option.isNone_some, zaai, zaac, h0, hx, ↓sn, ↓oc]
   exact ⟨_, _, rfl, rfl⟩
 cases hp with
 | @num _ t v ht hk hv =>
  have hs := hT.size t (List.mem_of_getElem? ht)
  have hd := hT.dig t (List.mem_of_getElem? ht) hk
  have nc := fun S K => rnum_c h t.t (by omega) hd.2 S K
  rw [zaou _ hd.1 hd.2, Option.map_eq_some_iff] at hv
  obtain ⟨m, hm, rfl⟩ := hv
  simp only [numV, hm] at nc
  have hx := hx ht
  have hg := hg ht
  rw [hk] at hx
  refine ROut.ok fun R => ?_
  refine zaaf h.first Tryz.func53 rfl (by kernel_rfl) (by show 1 ≤ _; decide) ?_
  simp -dsimp only [↓kpre, kpost, light, ret1, cellF, afill, setAll, simprocAttr, ↓zabg, zabh, ↓cxpre, cxpost, List.length_map, ndl, ↓ndpre, ndow, ne_eq, not_false_eq_true, zaaa, zaab, ↓zaad, ↓zaae, and_false, if_false, Option.isNone_some, zaai, zaac]
  refine zaah [[], [], [], [], [], [], [], [], [], []] false (by kernel_rfl) (by kernel_rfl) (by kernel_rfl) ?_
  simp -dsimp only [↓kpre, kpost, light, ret1, cellF, afill, setAll, simprocAttr, ↓opre, opost, vspan, ↓zabg, zabh, ↓cxpre, cxpost, List.length_map, ndl, ↓ndpre, ndow, ne_eq, not_false_eq_true, zaaa, zaab, ↓zaad, ↓zaae, and_false, if_false, Option.isNone_some, zaai, zaac, hg]
  refine zaah [[], [], [], [1], [], [], [], [1], [], [1], [], []] false (by kernel_rfl) (by kernel_rfl) (by kernel_rfl) ?_
  simp -dsimp only [↓kpre, kpost, light, ret1, cellF, afill, setAll, simprocAttr, ↓opre, opost, vspan, ↓zabg, zabh, ↓cxpre, cxpost, List.length_map, ndl, ↓ndpre, ndow, ne_eq, not_false_eq_true, zaaa, zaab, ↓zaad, ↓zaae, and_false, if_false, Option.isNone_some, zaai, zaac, h0, hx, ↓nc, w1, ↓ic]
  simp [Nd.val, Nd.cs, Nd.vs, sl, v0, c0, iV]
 | @numE _ t ht hk hv =>
  have hs := hT.size t (List.mem_of_getElem? ht)
  have hd := hT.dig t (List.mem_of_getElem? ht) hk
  have nc := fun S K => rnum_c h t.t (by omega) hd.2 S K
  rw [zaou _ hd.1 hd.2, Option.map_eq_none_iff] at hv
  simp only [numV, hv] at nc
  have hx := hx ht
  have hg := hg ht
  rw [hk] at hx
  have fl := fl t.a
  refine ROut.er fun R => ?_
  refine zaaf h.first Tryz.func53 rfl (by kernel_rfl) (by show 1 ≤ _; decide) ?_
  simp -dsimp only [↓kpre, kpost, light, ret1, cellF, afill, setAll, simprocAttr, ↓zabg, zabh, ↓cxpre, cxpost, List.length_map, ndl, ↓ndpre, ndow, ne_eq, not_false_eq_true, zaaa, zaab, ↓zaad, ↓zaae, and_false, if_false, Option.isNone_some, zaai, zaac]
  refine zaah [[], [], [], [], [], [], [], [], [], []] false (by kernel_rfl) (by kernel_rfl) (by kernel_rfl) ?_
  simp -dsimp only [↓kpre, kpost, light, ret1, cellF, afill, setAll, simprocAttr, ↓opre, opost, vspan, ↓zabg, zabh, ↓cxpre, cxpost, List.length_map, ndl, ↓ndpre, ndow, ne_eq, not_false_eq_true, zaaa, zaab, ↓zaad, ↓zaae, and_false, if_false, Option.isNone_some, zaai, zaac, hg]
  refine zaah [[], [], [], [1], [], [], [], [1], [], [1], [], []] false (by kernel_rfl) (by kernel_rfl) (by kernel_rfl) ?_
  simp -dsimp only [↓kpre, kpost, light, ret1, cellF, afill, setAll, simprocAttr, ↓opre, opost, vspan, ↓zabg, zabh, ↓cxpre, cxpost, List.length_map, ndl, ↓ndpre, ndow, ne_eq, not_false_eq_true, zaaa, zaab, ↓zaad, ↓zaae, and_false, if_false, Option.isNone_some, zaai, zaac, h0, hx, ↓nc, ↓fl]
  exact ⟨Nd.zero, _, rfl, rfl⟩
 | @text _ t ht hk =>
  have hx := hx ht
  have hg := hg ht
  rw [hk] at hx
  refine ROut.ok fun R => ?_
  refine zaaf h.first Tryz.func53 rfl (by kernel_rfl) (by show 1 ≤ _; decide) ?_
  simp -dsimp only [↓kpre, kpost, light, ret1, cellF, afill, setAll, simprocAttr, ↓zabg, zabh, ↓cxpre, cxpost, List.length_map, ndl, ↓ndpre, ndow, ne_eq, not_false_eq_true, zaaa, zaab, ↓zaad, ↓zaae, and_false, if_false, Option.isNone_some, zaai, zaac]
  refine zaah [[], [], [], [], [], [], [], [], [], []] false (by kernel_rfl) (by kernel_rfl) (by kernel_rfl) ?_
  simp -dsimp only [↓kpre, kpost, light, ret1, cellF, afill, setAll, simprocAttr, ↓opre, opost, vspan, ↓zabg, zabh, ↓cxpre, cxpost, List.length_map, ndl, ↓ndpre, ndow, ne_eq, not_false_eq_true, zaaa, zaab, ↓zaad, ↓zaae, and_false, if_false, Option.isNone_some, zaai, zaac, hg]
  refine zaah [[], [], [], [1], [], [], [], [1], [], [1], [], []] false (by kernel_rfl) (by kernel_rfl) (by kernel_rfl) ?_
  simp -dsimp only [↓kpre, kpost, light, ret1, cellF, afill, setAll, simprocAttr, ↓opre, opost, vspan, ↓zabg, zabh, ↓cxpre, cxpost, List.length_map, ndl, ↓ndpre, ndow, ne_eq, not_false_eq_true, zaaa, zaab, ↓zaad, ↓zaae, and_false, if_false, Option.isNone_some, zaai, zaac, h0, hx, w1]
  simp [Nd.val, Nd.cs, Nd.vs, sl, v0, c0]
 | yes ht hk => exact wordcase ht hk
 | no ht hk => exact wordcase ht hk
 | lost ht hk => exact wordcase ht hk
 | call ht hk => exact wordcase ht hk
 | word ht hk => exact wordcase ht hk
 | @name _ t ht hk hn' hs =>
  have hx := hx ht
  have hg := hg ht
  have sn := sn ⟨#[40]⟩
  rw [s40 ht (by omega)] at sn
  rw [hk] at hx
  have oo := ref_b (fin := fin) (sh := sh) h hT hl ht hk hn' hs
  generalize cellG T fin t.t n 2 = r at oo
  cases r with
  | ok xm =>
   obtain ⟨x, m⟩ := xm
   have oc := fun R l w K => oo.c rfl rfl R l w K
   refine ROut.ok fun R => ?_
   refine zaaf h.first Tryz.func53 rfl (by kernel_rfl) (by show 1 ≤ _; decide) ?_
   simp -dsimp only [↓kpre, kpost, light, ret1, cellF, afill, setAll, simprocAttr, ↓zabg, zabh, ↓cxpre, cxpost, List.length_map, ndl, ↓ndpre, ndow, ne_eq, not_false_eq_true, zaaa, zaab, ↓zaad, ↓zaae, and_false, if_false, Option.isNone_some, zaai, zaac]
   refine zaah [[], [], [], [], [], [], [], [], [], []] false (by kernel_rfl) (by kernel_rfl) (by kernel_rfl) ?_
   simp -dsimp only [↓kpre, kpost, light, ret1, cellF, afill, setAll, simprocAttr, ↓opre, opost, vspan, ↓zabg, zabh, ↓cxpre, cxpost, List.length_map, ndl, ↓ndpre, ndow, ne_eq, not_false_eq_true, zaaa, zaab, ↓zaad, ↓zaae, and_false, if_false, Option.isNone_some, zaai, zaac, hg]
   refine zaah [[], [], [], [1], [], [], [], [1], [], [1], [], []] false (by kernel_rfl) (by kernel_rfl) (by kernel_rfl) ?_
   simp -dsimp only [↓kpre, kpost, light, ret1, cellF, afill, setAll, simprocAttr, ↓opre, opost, vspan, ↓zabg, zabh, ↓cxpre, cxpost, List.length_map, ndl, ↓ndpre, ndow, ne_eq, not_false_eq_true, zaaa, zaab, ↓zaad, ↓zaae, and_false, if_false, Option.isNone_some, zaai, zaac, h0, hx, ↓sn, ↓oc]
  | error b =>
   obtain ⟨y, n', oc⟩ := oo.e rfl rfl
   refine ROut.er fun R => ?_
   refine zaaf h.first Tryz.func53 rfl (by kernel_rfl) (by show 1 ≤ _; decide) ?_
   simp -dsimp only [↓kpre, kpost, light, ret1, cellF, afill, setAll, simprocAttr, ↓zabg, zabh, ↓cxpre, cxpost, List.length_map, ndl, ↓ndpre, ndow, ne_eq, not_false_eq_true, zaaa, zaab, ↓zaad, ↓zaae, and_false, if_false, Option.isNone_some, zaai, zaac]
   refine zaah [[], [], [], [], [], [], [], [], [], []] false (by kernel_rfl) (by kernel_rfl) (by kernel_rfl) ?_
   simp -dsimp only [↓kpre, kpost, light, ret1, cellF, afill, setAll, simprocAttr, ↓opre, opost, vspan, ↓zabg, zabh, ↓cxpre, cxpost, List.length_map, ndl, ↓ndpre, ndow, ne_eq, not_false_eq_true, zaaa, zaab, ↓zaad, ↓zaae, and_false, if_false, Option.isNone_some, zaai, zaac, hg]
   refine zaah [[], [], [], [1], [], [], [], [1], [], [1], [], []] false (by kernel_rfl) (by kernel_rfl) (by kernel_rfl) ?_
   simp -dsimp only [↓kpre, kpost, light, ret1, cellF, afill, setAll, simprocAttr, ↓opre, opost, vspan, ↓zabg, zabh, ↓cxpre, cxpost, List.length_map, ndl, ↓ndpre, ndow, ne_eq, not_false_eq_true, zaaa, zaab, ↓zaad, ↓zaae, and_false, if_false, Option.isNone_some, zaai, zaac, h0, hx, ↓sn, ↓oc]
   exact ⟨_, _, rfl, rfl⟩
 | @nameE _ t ht hk hs =>
  have hx := hx ht
  have hg := hg ht
  have sn := sn ⟨#[40]⟩
  rw [s40 ht (by omega)] at sn
  rw [hk] at hx
  obtain ⟨y, n', oc⟩ := (ref_e (fin := fin) (sh := sh) h hT hl ht hk hs).e rfl rfl
  refine ROut.er fun R => ?_
  refine zaaf h.first Tryz.func53 rfl (by kernel_rfl) (by show 1 ≤ _; decide) ?_
  simp -dsimp only [↓kpre, kpost, light, ret1, cellF, afill, setAll, simprocAttr, ↓zabg, zabh, ↓cxpre, cxpost, List.length_map, ndl, ↓ndpre, ndow, ne_eq, not_false_eq_true, zaaa, zaab, ↓zaad, ↓zaae, and_false, if_false, Option.isNone_some, zaai, zaac]
  refine zaah [[], [], [], [], [], [], [], [], [], []] false (by kernel_rfl) (by kernel_rfl) (by kernel_rfl) ?_
  simp -dsimp only [↓kpre, kpost, light, ret1, cellF, afill, setAll, simprocAttr, ↓opre, opost, vspan, ↓zabg, zabh, ↓cxpre, cxpost, List.length_map, ndl, ↓ndpre, ndow, ne_eq, not_false_eq_true, zaaa, zaab, ↓zaad, ↓zaae, and_false, if_false, Option.isNone_some, zaai, zaac, hg]
  refine zaah [[], [], [], [1], [], [], [], [1], [], [1], [], []] false (by kernel_rfl) (by kernel_rfl) (by kernel_rfl) ?_
  simp -dsimp only [↓kpre, kpost, light, ret1, cellF, afill, setAll, simprocAttr, ↓opre, opost, vspan, ↓zabg, zabh, ↓cxpre, cxpost, List.length_map, ndl, ↓ndpre, ndow, ne_eq, not_false_eq_true, zaaa, zaab, ↓zaad, ↓zaae, and_false, if_false, Option.isNone_some, zaai, zaac, h0, hx, ↓sn, ↓oc]
  exact ⟨_, _, rfl, rfl⟩
 | @par _ x m hs h1 h2 =>
  have hlt := sgn_lt hs
  obtain ⟨t, ht⟩ : ∃ t, T[n]? = some t := ⟨T[n], by simp [hlt]⟩
  have hx := hx ht
  have hg := hg ht
  have sn := sn ⟨#[40]⟩
  rw [hs] at sn
  rw [sgn_k5 ht hs] at hx
  have hon := h1.on _ _ rfl
  simp only [Gl.on] at hon
  have hm' : m ≤ T.length := hon.2 (by omega)
  have sm := fun R l w K => ris_c (T := T) (fin := fin) (sh := sh) h.is m ⟨#[41]⟩ (-1) R l w K
  rw [h2] at sm
  have w3 : IntKind.i64.wrap ((m : Int) + 1) = ((m + 1 : Nat) : Int) := zaaq (by omega) (by omega)
  have oc := fun R l w K => (hP (n + 1) (by omega) (by omega) _ h1).c rfl rfl R l w K
  refine ROut.ok fun R => ?_
  refine zaaf h.first Tryz.func53 rfl (by kernel_rfl) (by show 1 ≤ _; decide) ?_
  simp -dsimp only [↓kpre, kpost, light, ret1, cellF, afill, setAll, simprocAttr, ↓zabg, zabh, ↓cxpre, cxpost, List.length_map, ndl, ↓ndpre, ndow, ne_eq, not_false_eq_true, zaaa, zaab, ↓zaad, ↓zaae, and_false, if_false, Option.isNone_some, zaai, zaac]
  refine zaah [[], [], [], [], [], [], [], [], [], []] false (by kernel_rfl) (by kernel_rfl) (by kernel_rfl) ?_
  simp -dsimp only [↓kpre, kpost, light, ret1, cellF, afill, setAll, simprocAttr, ↓opre, opost, vspan, ↓zabg, zabh, ↓cxpre, cxpost, List.length_map, ndl, ↓ndpre, ndow, ne_eq, not_false_eq_true, zaaa, zaab, ↓zaad, ↓zaae, and_false, if_false, Option.isNone_some, zaai, zaac, hg]
  refine zaah [[], [], [], [1], [], [], [], [1], [], [1], [], []] false (by kernel_rfl) (by kernel_rfl) (by kernel_rfl) ?_
  simp -dsimp only [↓kpre, kpost, light, ret1, cellF, afill, setAll, simprocAttr, ↓opre, opost, vspan, ↓zabg, zabh, ↓cxpre, cxpost, List.length_map, ndl, ↓ndpre, ndow, ne_eq, not_false_eq_true, zaaa, zaab, ↓zaad, ↓zaae, and_false, if_false, Option.isNone_some, zaai, zaac, h0, hx, ↓sn, w1, ↓oc, hm1, ↓sm, w3]
 | @parE _ b hs h1 =>
  have hlt := sgn_lt hs
  obtain ⟨t, ht⟩ : ∃ t, T[n]? = some t := ⟨T[n], by simp [hlt]⟩
  have hx := hx ht
  have hg := hg ht
  have sn := sn ⟨#[40]⟩
  rw [hs] at sn
  rw [sgn_k5 ht hs] at hx
  have hm2 : ¬ ((b : Int) < 0) := by omega
  obtain ⟨y, n', oc⟩ := (hP (n + 1) (by omega) (by omega) _ h1).e rfl rfl
  refine ROut.er fun R => ?_
  refine zaaf h.first Tryz.func53 rfl (by kernel_rfl) (by show 1 ≤ _; decide) ?_
  simp -dsimp only [↓kpre, kpost, light, ret1, cellF, afill, setAll, simprocAttr, ↓zabg, zabh, ↓cxpre, cxpost, List.length_map, ndl, ↓ndpre, ndow, ne_eq, not_false_eq_true, zaaa, zaab, ↓zaad, ↓zaae, and_false, if_false, Option.isNone_some, zaai, zaac]
  refine zaah [[], [], [], [], [], [], [], [], [], []] false (by kernel_rfl) (by kernel_rfl) (by kernel_rfl) ?_
  simp -dsimp only [↓kpre, kpost, light, ret1, cellF, afill, setAll, simprocAttr, ↓opre, opost, vspan, ↓zabg, zabh, ↓cxpre, cxpost, List.length_map, ndl, ↓ndpre, ndow, ne_eq, not_false_eq_true, zaaa, zaab, ↓zaad, ↓zaae, and_false, if_false, Option.isNone_some, zaai, zaac, hg]
  refine zaah [[], [], [], [1], [], [], [], [1], [], [1], [], []] false (by kernel_rfl) (by kernel_rfl) (by kernel_rfl) ?_
  simp -dsimp only [↓kpre, kpost, light, ret1, cellF, afill, setAll, simprocAttr, ↓opre, opost, vspan, ↓zabg, zabh, ↓cxpre, cxpost, List.length_map, ndl, ↓ndpre, ndow, ne_eq, not_false_eq_true, zaaa, zaab, ↓zaad, ↓zaae, and_false, if_false, Option.isNone_some, zaai, zaac, h0, hx, ↓sn, w1, ↓oc, hm2]
  exact ⟨_, _, rfl, rfl⟩
 | @parF _ x m hs h1 h2 =>
  have hlt := sgn_lt hs
  obtain ⟨t, ht⟩ : ∃ t, T[n]? = some t := ⟨T[n], by simp [hlt]⟩
  have hx := hx ht
  have hg := hg ht
  have sn := sn ⟨#[40]⟩
  rw [hs] at sn
  rw [sgn_k5 ht hs] at hx
  have hon := h1.on _ _ rfl
  simp only [Gl.on] at hon
  have hm' : m ≤ T.length := hon.2 (by omega)
  have sm := fun R l w K => ris_c (T := T) (fin := fin) (sh := sh) h.is m ⟨#[41]⟩ (-1) R l w K
  rw [h2] at sm
  have ac := fun R l w K => rat_c (T := T) (fin := fin) (sh := sh) h.rat m (-1) R l w K
  have fl := fl (atT T fin m)
  have oc := fun R l w K => (hP (n + 1) (by omega) (by omega) _ h1).c rfl rfl R l w K
  refine ROut.er fun R => ?_
  refine zaaf h.first Tryz.func53 rfl (by kernel_rfl) (by show 1 ≤ _; decide) ?_
  simp -dsimp only [↓kpre, kpost, light, ret1, cellF, afill, setAll, simprocAttr, ↓zabg, zabh, ↓cxpre, cxpost, List.length_map, ndl, ↓ndpre, ndow, ne_eq, not_false_eq_true, zaaa, zaab, ↓zaad, ↓zaae, and_false, if_false, Option.isNone_some, zaai, zaac]
  refine zaah [[], [], [], [], [], [], [], [], [], []] false (by kernel_rfl) (by kernel_rfl) (by kernel_rfl) ?_
  simp -dsimp only [↓kpre, kpost, light, ret1, cellF, afill, setAll, simprocAttr, ↓opre, opost, vspan, ↓zabg, zabh, ↓cxpre, cxpost, List.length_map, ndl, ↓ndpre, ndow, ne_eq, not_false_eq_true, zaaa, zaab, ↓zaad, ↓zaae, and_false, if_false, Option.isNone_some, zaai, zaac, hg]
  refine zaah [[], [], [], [1], [], [], [], [1], [], [1], [], []] false (by kernel_rfl) (by kernel_rfl) (by kernel_rfl) ?_
  simp -dsimp only [↓kpre, kpost, light, ret1, cellF, afill, setAll, simprocAttr, ↓opre, opost, vspan, ↓zabg, zabh, ↓cxpre, cxpost, List.length_map, ndl, ↓ndpre, ndow, ne_eq, not_false_eq_true, zaaa, zaab, ↓zaad, ↓zaae, and_false, if_false, Option.isNone_some, zaai, zaac, h0, hx, ↓sn, w1, ↓oc, hm1, ↓sm, ↓ac, ↓fl]
  exact ⟨Nd.zero, _, rfl, rfl⟩
 | fin ht =>
  have hg : (T.length : Int) ≤ n := by
   have := List.getElem?_eq_none_iff.1 ht
   omega
  have fl := fl fin
  refine ROut.er fun R => ?_
  refine zaaf h.first Tryz.func53 rfl (by kernel_rfl) (by show 1 ≤ _; decide) ?_
  simp -dsimp only [↓kpre, kpost, light, ret1, cellF, afill, setAll, simprocAttr, ↓zabg, zabh, ↓cxpre, cxpost, List.length_map, ndl, ↓ndpre, ndow, ne_eq, not_false_eq_true, zaaa, zaab, ↓zaad, ↓zaae, and_false, if_false, Option.isNone_some, zaai, zaac]
  refine zaah [[], [], [], [], [], [], [], [], [], []] false (by kernel_rfl) (by kernel_rfl) (by kernel_rfl) ?_
  simp -dsimp only [↓kpre, kpost, light, ret1, cellF, afill, setAll, simprocAttr, ↓opre, opost, vspan, ↓zabg, zabh, ↓cxpre, cxpost, List.length_map, ndl, ↓ndpre, ndow, ne_eq, not_false_eq_true, zaaa, zaab, ↓zaad, ↓zaae, and_false, if_false, Option.isNone_some, zaai, zaac, hg, ↓fl]
  exact ⟨Nd.zero, _, rfl, rfl⟩
 | @sign _ t ht hk hs =>
  have hx := hx ht
  have hg := hg ht
  have sn := sn ⟨#[40]⟩
  rw [hs] at sn
  rw [hk] at hx
  have fl := fl t.a
  refine ROut.er fun R => ?_
  refine zaaf h.first Tryz.func53 rfl (by kernel_rfl) (by show 1 ≤ _; decide) ?_
  simp -dsimp only [↓kpre, kpost, light, ret1, cellF, afill, setAll, simprocAttr, ↓zabg, zabh, ↓cxpre, cxpost, List.length_map, ndl, ↓ndpre, ndow, ne_eq, not_false_eq_true, zaaa, zaab, ↓zaad, ↓zaae, and_false, if_false, Option.isNone_some, zaai, zaac]
  refine zaah [[], [], [], [], [], [], [], [], [], []] false (by kernel_rfl) (by kernel_rfl) (by kernel_rfl) ?_
  simp -dsimp only [↓kpre, kpost, light, ret1, cellF, afill, setAll, simprocAttr, ↓opre, opost, vspan, ↓zabg, zabh, ↓cxpre, cxpost, List.length_map, ndl, ↓ndpre, ndow, ne_eq, not_false_eq_true, zaaa, zaab, ↓zaad, ↓zaae, and_false, if_false, Option.isNone_some, zaai, zaac, hg]
  refine zaah [[], [], [], [1], [], [], [], [1], [], [1], [], []] false (by kernel_rfl) (by kernel_rfl) (by kernel_rfl) ?_
  simp -dsimp only [↓kpre, kpost, light, ret1, cellF, afill, setAll, simprocAttr, ↓opre, opost, vspan, ↓zabg, zabh, ↓cxpre, cxpost, List.length_map, ndl, ↓ndpre, ndow, ne_eq, not_false_eq_true, zaaa, zaab, ↓zaad, ↓zaae, and_false, if_false, Option.isNone_some, zaai, zaac, h0, hx, ↓sn, ↓fl]
  exact ⟨Nd.zero, _, rfl, rfl⟩
end
end Go.Proofs.YtliemjbafgnnbaaGreatDoor.Abs
/- The reference's parser: what ops join; the whole. -/
namespace Go.Proofs.YtliemjbafgnnbaaGreatDoor.Abs
open Go
def zae7 := And.intro (And.intro (@val29) (@vfk33)) (And.intro (@vfk17) (And.intro (@vfk34) (@vfk35)))
def zae8 := And.intro (And.intro (And.intro (And.intro (And.intro (@vld3) (@vgt3)) (And.intro (@vld65) (@vgt65))) (And.intro (And.intro (@vld9) (@vgt9)) (And.intro (@vld29) (And.intro (@vgt29) (@vst29))))) (And.intro (And.intro (And.intro (@vst3) (@zaoh)) (And.intro (@zaom) (@zagz))) (And.intro (And.intro (@zag1) (@bd29)) (And.intro (@pl29_0) (And.intro (@pl29_1) (@pl29_2)))))) (And.intro (And.intro (And.intro (And.intro (@pl29_3) (@pl29_4)) (And.intro (@pl29_5) (@pl29_6))) (And.intro (And.intro (@vbd27) (@vix60)) (And.intro (@vio60) (And.intro (@vis60) (@viw60))))) (And.intro (And.intro (And.intro (@vix65) (@vio65)) (And.intro (@vis65) (And.intro (@viw65) (@vlr65)))) (And.intro (And.intro (@vlo65) (@vlz65)) (And.intro (@vls65) (And.intro (@vlw65) (@Tryz.results17))))))
section
variable {X : VOuter} {T : List TK} {fin : Nat} {sh : ByteArray}
def txtT (T : List TK) (q : Nat) : ByteArray := match T[q]? with
 | some t => t.t
 | none => .empty
theorem zau6 (rank q : Nat) : opAt T rank q = if (opsL rank).any (fun o => sgn T q o) then some (txtT T q) else none := by
 unfold opAt txtT sgn
 cases T[q]? with
 | none => simp
 | some t =>
  show (if (decide (t.k = 5) && (opsL rank).any fun o => decide (t.t = o)) = true then some t.t else none) = if ((opsL rank).any fun o => decide (t.k = 5) && decide (t.t = o)) = true then some t.t else none
  generalize decide (t.k = 5) = b
  cases b
  ·have : ((opsL rank).any fun o => false && decide (t.t = o)) = false := by
    rw [List.any_eq_false]; intro o _; simp
   rw [this]; rfl
  ·have : ((opsL rank).any fun o => true && decide (t.t = o)) = (opsL rank).any fun o => decide (t.t = o) := rfl
   rw [this]; rfl
theorem za0f {q : Nat} {o : ByteArray} (h : sgn T q o = true) : txtT T q = o := by
 unfold sgn at h
 unfold txtT
 cases ht : T[q]? with
 | none => rw [ht] at h; cases h
 | some t =>
  rw [ht] at h
  simp only [Bool.and_eq_true, decide_eq_true_eq] at h
  exact h.2
theorem ops_ne (rank : Nat) : ∀ o ∈ opsL rank, o ≠ ⟨#[]⟩ := by
 match rank with
 | 0 | 1 | 2 | 3 => decide
 | r + 4 => intro o ho; cases ho
theorem zaz0 {rank q : Nat} {op : ByteArray} (h : opAt T rank q = some op) : op ≠ ⟨#[]⟩ := by
 rw [zau6] at h
 split at h
 ·rename_i ha
  cases h
  rw [List.any_eq_true] at ha
  obtain ⟨o, ho, hs⟩ := ha
  rw [za0f hs]
  exact ops_ne rank o ho
 ·cases h
def seenF (T : List TK) (q rank i : Nat) : ByteArray := if ((opsL rank).take i).any (fun o => sgn T q o) then txtT T q else .empty
theorem zayl {q rank i : Nat} (hi : i < (opsL rank).length) : seenF T q rank (i + 1) = if sgn T q (opsL rank)[i] then (opsL rank)[i] else seenF T q rank i := by
 unfold seenF
 rw [← List.take_append_getElem hi, List.any_append]
 cases hs : sgn T q (opsL rank)[i] with
 | true => simp [hs, za0f hs]
 | false => simp [hs]
theorem za5o (rank : Nat) : (opsL rank).length ≤ 6 := by
 match rank with
 | 0 | 1 | 2 | 3 => decide
 | r + 4 => exact Nat.zero_le _
theorem pair_w (h : RpOff X) (hT : TokOk T) (hl : T.length ≤ 1000) {n : Nat} (hn : n ≤ T.length) {rank : Nat} (hr : rank ≤ 4) {r : Except Nat (Nd × Nat)} (hp : Pr T fin sh (.pairs rank) n r)
    (hM : ∀ r, Pr T fin sh .minus n r → ROut X T fin sh 33 [] n r)
    (h0 : rank < 4 → ∀ r, Pr T fin sh (.pairs (rank + 1)) n r → ROut X T fin sh 17 [.int .i64 (rank + 1 : Nat)] n r)
    (hP : ∀ q, n < q → q ≤ T.length → ∀ r, rank < 4 → Pr T fin sh (.pairs (rank + 1)) q r → ROut X T fin sh 17 [.int .i64 (rank + 1 : Nat)] q r) : ROut X T fin sh 17 [.int .i64 rank] n r := by
 have rc := fun S K => za3g h.ranks S K
 have w1 : IntKind.i64.wrap ((rank : Int) + 1) = ((rank + 1 : Nat) : Int) := zaaq (by omega) (by omega)
 have a1 : mapOwnL (lend false) [.int .i64 ((rank + 1 : Nat) : Int)] = [.int .i64 ((rank + 1 : Nat) : Int)] := by simp only [zaap, zaa0, zadk]
 have a2 : toksL [.int .i64 ((rank + 1 : Nat) : Int)] = [] := by simp only [zabl, zack, zaeu, List.append_nil]
 have hm1 : ((-1 : Int) < 0) = True := by simp
 cases hp with
 | top h1 =>
  have oo := hM _ h1
  cases r with
  | ok xm =>
   obtain ⟨x, m⟩ := xm
   have oc := fun R l w K => oo.c rfl rfl R l w K
   refine ROut.ok fun R => ?_
   refine zaaf h.pair Tryz.func17 rfl (by kernel_rfl) (by show 2 ≤ _; decide) ?_
   simp -dsimp only [↓kpre, kpost, light, ret1, cellF, afill, setAll, ↓reduceIte, Nat.reduceEqDiff, reduceCtorEq, Nat.reduceBEq, Nat.reduceAdd, Nat.reduceMul, Nat.reduceSub, Nat.reduceLT, Nat.reduceLeDiff, Int.reduceLT, Int.reduceLE, Int.reduceToNat, Int.reduceBEq, Int.reduceBNe, Int.reduceSub, Int.reduceAdd, Int.reduceEq, Int.reduceNe, Int.reduceNeg, ↓zae7, zae8, ↓cxpre, cxpost, List.length_map, ndl, ↓ndpre, ndow, ne_eq, not_false_eq_true, zaaa, zaab, ↓zaad, ↓zaae, and_false, if_false, Option.isNone_some, zaai, zaac, ↓oc]
  | error b =>
   obtain ⟨y, n', oc⟩ := oo.e rfl rfl
   refine ROut.er fun R => ?_
   refine zaaf h.pair Tryz.func17 rfl (by kernel_rfl) (by show 2 ≤ _; decide) ?_
   simp -dsimp only [↓kpre, kpost, light, ret1, cellF, afill, setAll, ↓reduceIte, Nat.reduceEqDiff, reduceCtorEq, Nat.reduceBEq, Nat.reduceAdd, Nat.reduceMul, Nat.reduceSub, Nat.reduceLT, Nat.reduceLeDiff, Int.reduceLT, Int.reduceLE, Int.reduceToNat, Int.reduceBEq, Int.reduceBNe, Int.reduceSub, Int.reduceAdd, Int.reduceEq, Int.reduceNe, Int.reduceNeg, ↓zae7, zae8, ↓cxpre, cxpost, List.length_map, ndl, ↓ndpre, ndow, ne_eq, not_false_eq_true, zaaa, zaab, ↓zaad, ↓zaae, and_false, if_false, Option.isNone_some, zaai, zaac, ↓oc]
   exact ⟨_, _, rfl, rfl⟩
 | @pairsE _ _ b hr4 h1 =>
  have hne : ¬ (rank : Int) = 4 := by omega
  have hm2 : ¬ ((b : Int) < 0) := by omega
  obtain ⟨y, n', oc⟩ := (h0 hr4 _ h1).e a1 a2
  refine ROut.er fun R => ?_
  refine zaaf h.pair Tryz.func17 rfl (by kernel_rfl) (by show 2 ≤ _; decide) ?_
  simp -dsimp only [↓kpre, kpost, light, ret1, cellF, afill, setAll, ↓reduceIte, Nat.reduceEqDiff, reduceCtorEq, Nat.reduceBEq, Nat.reduceAdd, Nat.reduceMul, Nat.reduceSub, Nat.reduceLT, Nat.reduceLeDiff, Int.reduceLT, Int.reduceLE, Int.reduceToNat, Int.reduceBEq, Int.reduceBNe, Int.reduceSub, Int.reduceAdd, Int.reduceEq, Int.reduceNe, Int.reduceNeg, ↓zae7, zae8, ↓cxpre, cxpost, List.length_map, ndl, ↓ndpre, ndow, ne_eq, not_false_eq_true, zaaa, zaab, ↓zaad, ↓zaae, and_false, if_false, Option.isNone_some, zaai, zaac, hne, w1, ↓oc]
  refine zapr ?_
  simp -dsimp only [↓kpre, kpost, light, ret1, cellF, afill, setAll, ↓reduceIte, Nat.reduceEqDiff, reduceCtorEq, Nat.reduceBEq, Nat.reduceAdd, Nat.reduceMul, Nat.reduceSub, Nat.reduceLT, Nat.reduceLeDiff, Int.reduceLT, Int.reduceLE, Int.reduceToNat, Int.reduceBEq, Int.reduceBNe, Int.reduceSub, Int.reduceAdd, Int.reduceEq, Int.reduceNe, Int.reduceNeg, ↓zae7, zae8, ↓cxpre, cxpost, List.length_map, ndl, ↓ndpre, ndow, ne_eq, not_false_eq_true, zaaa, zaab, ↓zaad, ↓zaae, and_false, if_false, Option.isNone_some, zaai, zaac, hm2]
  exact ⟨_, _, rfl, rfl⟩
 | @pairs _ _ x m _ hr4 h1 h2 =>
  have hne : ¬ (rank : Int) = 4 := by omega
  have oc := fun R l w K => (h0 hr4 _ h1).c a1 a2 R l w K
  have hon := h1.on _ _ rfl
  simp only [Gl.on] at hon
  have hm' : m ≤ T.length := hon.2 (by omega)
  have main : ∀ R, Vf Tryz.prog X 17 [p0, .int .i64 rank] (cx (rbx T fin sh n (-1)) R) fun v ws => match r with
   | .ok (x, m) => ws = [(1, rbx T fin sh m (-1))] ∧ v = .agg ⟨x.cs⟩
   | .error b => ∃ (y : Nd) (n' : Int), ws = [(1, rbx T fin sh n' b)] ∧ v = .agg ⟨y.cs⟩ := by
   intro R
   refine zaaf h.pair Tryz.func17 rfl (by kernel_rfl) (by show 2 ≤ _; decide) ?_
   simp -dsimp only [↓kpre, kpost, light, ret1, cellF, afill, setAll, ↓reduceIte, Nat.reduceEqDiff, reduceCtorEq, Nat.reduceBEq, Nat.reduceAdd, Nat.reduceMul, Nat.reduceSub, Nat.reduceLT, Nat.reduceLeDiff, Int.reduceLT, Int.reduceLE, Int.reduceToNat, Int.reduceBEq, Int.reduceBNe, Int.reduceSub, Int.reduceAdd, Int.reduceEq, Int.reduceNe, Int.reduceNeg, ↓zae7, zae8, ↓cxpre, cxpost, List.length_map, ndl, ↓ndpre, ndow, ne_eq, not_false_eq_true, zaaa, zaab, ↓zaad, ↓zaae, and_false, if_false, Option.isNone_some, zaai, zaac, hne, w1, ↓oc]
   refine zabw (fun k e S => ∃ (x : Nd) (L : List Value) (J : List Blk), lieF (cl R + 1, some 12) x L ∧ eget e 0 = p0 ∧ eget e 1 = .int .i64 rank ∧ eget e 4 = .pointer (some ⟨cl R, 0, none⟩) ∧ eget e 5 = .pointer (some ⟨cl R + 1, 0, none⟩) ∧
    ((∃ q : Nat, k = T.length + 1 - q ∧ n < q ∧ q ≤ T.length ∧ Pr T fin sh (.rest rank x) q r ∧ S = ⟨cx (rbx T fin sh q (-1)) R, zbx :: .cells true 29 L :: J, [1]⟩) ∨
     (∃ (b : Nat) (n' : Int), k = 0 ∧ r = .error b ∧ S = ⟨cx (rbx T fin sh n' b) R, zbx :: .cells true 29 L :: J, [1]⟩))) (T.length + 1 - m) ?_ ?_
   ·refine ⟨x, x.cs, [], .inl rfl, ?_, ?_, ?_, ?_, .inl ⟨m, rfl, hon.1, hm', h2, ?_⟩⟩
    ·simp only [↓epre, epost, ↓reduceIte, Nat.reduceEqDiff, reduceCtorEq, Nat.reduceBEq, Nat.reduceAdd, Nat.reduceMul, Nat.reduceSub, Nat.reduceLT, Nat.reduceLeDiff]
    ·simp only [↓epre, epost, ↓reduceIte, Nat.reduceEqDiff, reduceCtorEq, Nat.reduceBEq, Nat.reduceAdd, Nat.reduceMul, Nat.reduceSub, Nat.reduceLT, Nat.reduceLeDiff]
    ·simp only [↓epre, epost, ↓reduceIte, Nat.reduceEqDiff, reduceCtorEq, Nat.reduceBEq, Nat.reduceAdd, Nat.reduceMul, Nat.reduceSub, Nat.reduceLT, Nat.reduceLeDiff]
    ·simp only [↓epre, epost, ↓reduceIte, Nat.reduceEqDiff, reduceCtorEq, Nat.reduceBEq, Nat.reduceAdd, Nat.reduceMul, Nat.reduceSub, Nat.reduceLT, Nat.reduceLeDiff]
    ·rfl
   ·rintro k e S ⟨x, L, J, hL, e0, e1, e4, e5, hst⟩
    refine VWP_Vc _ _ _ _ ?_
    have hcl : ¬ (cl R + 1 = cl R) := by omega
    rcases hst with ⟨q, rfl, hnq, hqT, hq, rfl⟩ | ⟨b, n', rfl, rfl, rfl⟩
    ·have hq0 : (0 : Int) ≤ q := by omega
     have hr0 : (0 : Int) ≤ rank := by omega
     have hops := zau7 hr4
     simp -dsimp only [↓kpre, kpost, light, ret1, cellF, afill, setAll, ↓reduceIte, Nat.reduceEqDiff, reduceCtorEq, Nat.reduceBEq, Nat.reduceAdd, Nat.reduceMul, Nat.reduceSub, Nat.reduceLT, Nat.reduceLeDiff, Int.reduceLT, Int.reduceLE, Int.reduceToNat, Int.reduceBEq, Int.reduceBNe, Int.reduceSub, Int.reduceAdd, Int.reduceEq, Int.reduceNe, Int.reduceNeg, ↓zae7, zae8, ↓cxpre, cxpost, List.length_map, ndl, ↓ndpre, ndow, ne_eq, not_false_eq_true, zaaa, zaab, ↓zaad, ↓zaae, and_false, if_false, Option.isNone_some, zaai, zaac, e0, e1, e4, e5, hm1, ↓rc, hr0, hops]
     refine zabw (fun k e S => ∃ i : Nat, k = (opsL rank).length - i ∧ i ≤ (opsL rank).length ∧ eget e 0 = p0 ∧ eget e 1 = .int .i64 rank ∧ eget e 4 = .pointer (some ⟨cl R, 0, none⟩) ∧ eget e 5 = .pointer (some ⟨cl R + 1, 0, none⟩) ∧ eget e 6 = sl false 0 1 ((opsL rank).map Value.string) ∧ eget e 7 = .string (seenF T q rank i) ∧ eget e 8 = .int .i64 i ∧ S = ⟨cx (rbx T fin sh q (-1)) R, zbx :: .cells true 29 L :: J, [1]⟩) (opsL rank).length ?_ ?_
     ·refine ⟨0, rfl, Nat.zero_le _, ?_, ?_, ?_, ?_, ?_, ?_, ?_, rfl⟩
      ·simp only [↓epre, epost, ↓reduceIte, Nat.reduceEqDiff, reduceCtorEq, Nat.reduceBEq, Nat.reduceAdd, Nat.reduceMul, Nat.reduceSub, Nat.reduceLT, Nat.reduceLeDiff, e0]
      ·simp only [↓epre, epost, ↓reduceIte, Nat.reduceEqDiff, reduceCtorEq, Nat.reduceBEq, Nat.reduceAdd, Nat.reduceMul, Nat.reduceSub, Nat.reduceLT, Nat.reduceLeDiff, e1]
      ·simp only [↓epre, epost, ↓reduceIte, Nat.reduceEqDiff, reduceCtorEq, Nat.reduceBEq, Nat.reduceAdd, Nat.reduceMul, Nat.reduceSub, Nat.reduceLT, Nat.reduceLeDiff, e4]
      ·simp only [↓epre, epost, ↓reduceIte, Nat.reduceEqDiff, reduceCtorEq, Nat.reduceBEq, Nat.reduceAdd, Nat.reduceMul, Nat.reduceSub, Nat.reduceLT, Nat.reduceLeDiff, e5]
      ·simp only [↓epre, epost, ↓reduceIte, Nat.reduceEqDiff, reduceCtorEq, Nat.reduceBEq, Nat.reduceAdd, Nat.reduceMul, Nat.reduceSub, Nat.reduceLT, Nat.reduceLeDiff]
      ·simp only [↓epre, epost, ↓reduceIte, Nat.reduceEqDiff, reduceCtorEq, Nat.reduceBEq, Nat.reduceAdd, Nat.reduceMul, Nat.reduceSub, Nat.reduceLT, Nat.reduceLeDiff]
       simp [seenF]
       rfl
      ·simp only [↓epre, epost, ↓reduceIte, Nat.reduceEqDiff, reduceCtorEq, Nat.reduceBEq, Nat.reduceAdd, Nat.reduceMul, Nat.reduceSub, Nat.reduceLT, Nat.reduceLeDiff]
       rfl
     ·rintro k e S ⟨i, rfl, hi, e0, e1, e4, e5, e6, e7, e8, rfl⟩
      refine VWP_Vc _ _ _ _ ?_
      have ho6 := za5o rank
      by_cases hin : i < (opsL rank).length
      ·have hlt : (i : Int) < (opsL rank).length := by omega
       have hi0 : (0 : Int) ≤ i := by omega
       have hx : ((opsL rank).map Value.string)[i]? = some (.string (opsL rank)[i]) := by simp [hin]
       have hwr : IntKind.i64.wrap ((i : Int) + 1) = ((i + 1 : Nat) : Int) := zaaq (by omega) (by omega)
       have hnx := zayl (T := T) (q := q) hin
       have sg := fun R l w K => ris_c (T := T) (fin := fin) (sh := sh) h.is q (opsL rank)[i] (-1) R l w K
       generalize (opsL rank)[i] = o at hx hnx sg
       cases hs : sgn T q o with
       | true =>
        rw [hs] at sg hnx
        rw [if_pos rfl] at hnx
        simp -dsimp only [↓kpre, kpost, light, ret1, cellF, afill, setAll, ↓reduceIte, Nat.reduceEqDiff, reduceCtorEq, Nat.reduceBEq, Nat.reduceAdd, Nat.reduceMul, Nat.reduceSub, Nat.reduceLT, Nat.reduceLeDiff, Int.reduceLT, Int.reduceLE, Int.reduceToNat, Int.reduceBEq, Int.reduceBNe, Int.reduceSub, Int.reduceAdd, Int.reduceEq, Int.reduceNe, Int.reduceNeg, ↓zae7, zae8, ↓cxpre, cxpost, List.length_map, ndl, ↓ndpre, ndow, ne_eq, not_false_eq_true, zaaa, zaab, ↓zaad, ↓zaae, and_false, if_false, Option.isNone_some, zaai, zaac, e0, e1, e4, e5, e6, e7, e8, hlt, hi0, hx, hwr, ↓sg]
        exact ⟨(opsL rank).length - (i + 1), by omega, i + 1, rfl, by omega, by rw [hnx], rfl⟩
       | false =>
        rw [hs] at sg hnx
        rw [if_neg (by simp)] at hnx
        simp -dsimp only [↓kpre, kpost, light, ret1, cellF, afill, setAll, ↓reduceIte, Nat.reduceEqDiff, reduceCtorEq, Nat.reduceBEq, Nat.reduceAdd, Nat.reduceMul, Nat.reduceSub, Nat.reduceLT, Nat.reduceLeDiff, Int.reduceLT, Int.reduceLE, Int.reduceToNat, Int.reduceBEq, Int.reduceBNe, Int.reduceSub, Int.reduceAdd, Int.reduceEq, Int.reduceNe, Int.reduceNeg, ↓zae7, zae8, ↓cxpre, cxpost, List.length_map, ndl, ↓ndpre, ndow, ne_eq, not_false_eq_true, zaaa, zaab, ↓zaad, ↓zaae, and_false, if_false, Option.isNone_some, zaai, zaac, e0, e1, e4, e5, e6, e7, e8, hlt, hi0, hx, hwr, ↓sg]
        exact ⟨(opsL rank).length - (i + 1), by omega, i + 1, rfl, by omega, by rw [hnx], rfl⟩
      ·obtain rfl : i = (opsL rank).length := by omega
       have hlt : ¬ (((opsL rank).length : Int) < (opsL rank).length) := by omega
       have hse : seenF T q rank (opsL rank).length = (opAt T rank q).getD .empty := by
        unfold seenF
        rw [List.take_length, zau6]
        split <;> rfl
       rw [hse] at e7
       cases hq with
       | restN _ ho =>
        rw [ho] at e7
        have hE : ByteArray.empty = ⟨#[]⟩ := _root_.id rfl
        simp only [Option.getD_none] at e7
        rw [hE] at e7
        rcases hL with rfl | ⟨op, a, b', rfl, rfl⟩
        ·simp -dsimp only [↓kpre, kpost, light, ret1, cellF, afill, setAll, ↓reduceIte, Nat.reduceEqDiff, reduceCtorEq, Nat.reduceBEq, Nat.reduceAdd, Nat.reduceMul, Nat.reduceSub, Nat.reduceLT, Nat.reduceLeDiff, Int.reduceLT, Int.reduceLE, Int.reduceToNat, Int.reduceBEq, Int.reduceBNe, Int.reduceSub, Int.reduceAdd, Int.reduceEq, Int.reduceNe, Int.reduceNeg, ↓zae7, zae8, ↓cxpre, cxpost, List.length_map, ndl, ↓ndpre, ndow, ne_eq, not_false_eq_true, zaaa, zaab, ↓zaad, ↓zaae, and_false, if_false, Option.isNone_some, zaai, zaac, e0, e1, e4, e5, e6, e7, e8, hlt, ab_seq]
        ·simp -dsimp only [↓kpre, kpost, light, ret1, cellF, afill, setAll, ↓reduceIte, Nat.reduceEqDiff, reduceCtorEq, Nat.reduceBEq, Nat.reduceAdd, Nat.reduceMul, Nat.reduceSub, Nat.reduceLT, Nat.reduceLeDiff, Int.reduceLT, Int.reduceLE, Int.reduceToNat, Int.reduceBEq, Int.reduceBNe, Int.reduceSub, Int.reduceAdd, Int.reduceEq, Int.reduceNe, Int.reduceNeg, ↓zae7, zae8, ↓cxpre, cxpost, List.length_map, ndl, ↓ndpre, ndow, ne_eq, not_false_eq_true, zaaa, zaab, ↓zaad, ↓zaae, and_false, if_false, Option.isNone_some, zaai, zaac, e0, e1, e4, e5, e6, e7, e8, hlt, ab_seq, hcl, zaib]
       | @restO _ _ _ op y m' _ _ ho h3 h4 =>
        rw [ho] at e7
        simp only [Option.getD_some] at e7
        have hne' : ¬ op = ⟨#[]⟩ := zaz0 ho
        have hlt' := zak8 ho
        have wq : IntKind.i64.wrap ((q : Int) + 1) = ((q + 1 : Nat) : Int) := zaaq (by omega) (by omega)
        have oc := fun R l w K => (hP (q + 1) (by omega) (by omega) _ hr4 h3).c a1 a2 R l w K
        have hon := h3.on _ _ rfl
        simp only [Gl.on] at hon
        have hm' : m' ≤ T.length := hon.2 (by omega)
        rcases hL with rfl | ⟨op', a, b', rfl, rfl⟩
        ·simp -dsimp only [↓kpre, kpost, light, ret1, cellF, afill, setAll, ↓reduceIte, Nat.reduceEqDiff, reduceCtorEq, Nat.reduceBEq, Nat.reduceAdd, Nat.reduceMul, Nat.reduceSub, Nat.reduceLT, Nat.reduceLeDiff, Int.reduceLT, Int.reduceLE, Int.reduceToNat, Int.reduceBEq, Int.reduceBNe, Int.reduceSub, Int.reduceAdd, Int.reduceEq, Int.reduceNe, Int.reduceNeg, ↓zae7, zae8, ↓cxpre, cxpost, List.length_map, ndl, ↓ndpre, ndow, ne_eq, not_false_eq_true, zaaa, zaab, ↓zaad, ↓zaae, and_false, if_false, Option.isNone_some, zaai, zaac, e0, e1, e4, e5, e6, e7, e8, hlt, ab_seq, hne', wq, w1, ↓oc]
         exact ⟨T.length + 1 - m', by omega, _, _, _, .inr ⟨_, _, _, rfl, rfl⟩, .inl ⟨m', rfl, by omega, hm', h4, by rw [zauz]⟩⟩
        ·simp -dsimp only [↓kpre, kpost, light, ret1, cellF, afill, setAll, ↓reduceIte, Nat.reduceEqDiff, reduceCtorEq, Nat.reduceBEq, Nat.reduceAdd, Nat.reduceMul, Nat.reduceSub, Nat.reduceLT, Nat.reduceLeDiff, Int.reduceLT, Int.reduceLE, Int.reduceToNat, Int.reduceBEq, Int.reduceBNe, Int.reduceSub, Int.reduceAdd, Int.reduceEq, Int.reduceNe, Int.reduceNeg, ↓zae7, zae8, ↓cxpre, cxpost, List.length_map, ndl, ↓ndpre, ndow, ne_eq, not_false_eq_true, zaaa, zaab, ↓zaad, ↓zaae, and_false, if_false, Option.isNone_some, zaai, zaac, e0, e1, e4, e5, e6, e7, e8, hlt, ab_seq, hne', wq, w1, ↓oc, hcl]
         refine ⟨T.length + 1 - m', by omega, Nd.pair op (Nd.pair op' a b') y, _, _, .inr ⟨_, _, _, rfl, ?_⟩, .inl ⟨m', rfl, by omega, hm', h4, rfl⟩⟩
         rw [zaib]
       | @restE _ _ _ op b _ ho h3 =>
        rw [ho] at e7
        simp only [Option.getD_some] at e7
        have hne' : ¬ op = ⟨#[]⟩ := zaz0 ho
        have hlt' := zak8 ho
        have wq : IntKind.i64.wrap ((q : Int) + 1) = ((q + 1 : Nat) : Int) := zaaq (by omega) (by omega)
        obtain ⟨y, n', oc⟩ := (hP (q + 1) (by omega) (by omega) _ hr4 h3).e a1 a2
        rcases hL with rfl | ⟨op', a, b', rfl, rfl⟩
        ·simp -dsimp only [↓kpre, kpost, light, ret1, cellF, afill, setAll, ↓reduceIte, Nat.reduceEqDiff, reduceCtorEq, Nat.reduceBEq, Nat.reduceAdd, Nat.reduceMul, Nat.reduceSub, Nat.reduceLT, Nat.reduceLeDiff, Int.reduceLT, Int.reduceLE, Int.reduceToNat, Int.reduceBEq, Int.reduceBNe, Int.reduceSub, Int.reduceAdd, Int.reduceEq, Int.reduceNe, Int.reduceNeg, ↓zae7, zae8, ↓cxpre, cxpost, List.length_map, ndl, ↓ndpre, ndow, ne_eq, not_false_eq_true, zaaa, zaab, ↓zaad, ↓zaae, and_false, if_false, Option.isNone_some, zaai, zaac, e0, e1, e4, e5, e6, e7, e8, hlt, ab_seq, hne', wq, w1, ↓oc]
         exact ⟨0, by omega, Nd.pair op x (y _), _, _, .inr ⟨_, _, _, rfl, rfl⟩, .inr ⟨_, _, rfl, rfl, by rw [zauz]⟩⟩
        ·simp -dsimp only [↓kpre, kpost, light, ret1, cellF, afill, setAll, ↓reduceIte, Nat.reduceEqDiff, reduceCtorEq, Nat.reduceBEq, Nat.reduceAdd, Nat.reduceMul, Nat.reduceSub, Nat.reduceLT, Nat.reduceLeDiff, Int.reduceLT, Int.reduceLE, Int.reduceToNat, Int.reduceBEq, Int.reduceBNe, Int.reduceSub, Int.reduceAdd, Int.reduceEq, Int.reduceNe, Int.reduceNeg, ↓zae7, zae8, ↓cxpre, cxpost, List.length_map, ndl, ↓ndpre, ndow, ne_eq, not_false_eq_true, zaaa, zaab, ↓zaad, ↓zaae, and_false, if_false, Option.isNone_some, zaai, zaac, e0, e1, e4, e5, e6, e7, e8, hlt, ab_seq, hne', wq, w1, ↓oc, hcl]
         refine ⟨0, by omega, Nd.pair op (Nd.pair op' a b') ?yy, _, _, .inr ⟨_, _, _, rfl, ?he⟩, .inr ⟨_, _, rfl, rfl, rfl⟩⟩
         case he => rw [zaib]
    ·have hm2 : ¬ ((b : Int) < 0) := by omega
     rcases hL with rfl | ⟨op, a, b', rfl, rfl⟩
     ·simp -dsimp only [↓kpre, kpost, light, ret1, cellF, afill, setAll, ↓reduceIte, Nat.reduceEqDiff, reduceCtorEq, Nat.reduceBEq, Nat.reduceAdd, Nat.reduceMul, Nat.reduceSub, Nat.reduceLT, Nat.reduceLeDiff, Int.reduceLT, Int.reduceLE, Int.reduceToNat, Int.reduceBEq, Int.reduceBNe, Int.reduceSub, Int.reduceAdd, Int.reduceEq, Int.reduceNe, Int.reduceNeg, ↓zae7, zae8, ↓cxpre, cxpost, List.length_map, ndl, ↓ndpre, ndow, ne_eq, not_false_eq_true, zaaa, zaab, ↓zaad, ↓zaae, and_false, if_false, Option.isNone_some, zaai, zaac, e0, e1, e4, e5, hm2]
      exact ⟨_, _, rfl, rfl⟩
     ·simp -dsimp only [↓kpre, kpost, light, ret1, cellF, afill, setAll, ↓reduceIte, Nat.reduceEqDiff, reduceCtorEq, Nat.reduceBEq, Nat.reduceAdd, Nat.reduceMul, Nat.reduceSub, Nat.reduceLT, Nat.reduceLeDiff, Int.reduceLT, Int.reduceLE, Int.reduceToNat, Int.reduceBEq, Int.reduceBNe, Int.reduceSub, Int.reduceAdd, Int.reduceEq, Int.reduceNe, Int.reduceNeg, ↓zae7, zae8, ↓cxpre, cxpost, List.length_map, ndl, ↓ndpre, ndow, ne_eq, not_false_eq_true, zaaa, zaab, ↓zaad, ↓zaae, and_false, if_false, Option.isNone_some, zaai, zaac, e0, e1, e4, e5, hm2, hcl]
      exact ⟨Nd.pair op a b', _, rfl, by rw [zaib]⟩
  cases r with
  | ok xm => exact ROut.ok main
  | error b => exact ROut.er main
theorem za3f (h : RpOff X) (hT : TokOk T) (hl : T.length ≤ 1000) (hsh : nameF sh = true) : ∀ d n, T.length - n ≤ d → n ≤ T.length →
    (∀ r, Pr T fin sh .one n r → ROut X T fin sh 53 [] n r) ∧ (∀ r, Pr T fin sh .minus n r → ROut X T fin sh 33 [] n r) ∧ (∀ rank, rank ≤ 4 → ∀ r, Pr T fin sh (.pairs rank) n r → ROut X T fin sh 17 [.int .i64 rank] n r) := by
 intro d
 induction d using Nat.strongRecOn with
 | ind d IH =>
  intro n hd hn
  have nx : ∀ q, n < q → q ≤ T.length → _ := fun q h1 h2 => IH (T.length - q) (by omega) q (Nat.le_refl _) h2
  have hone : ∀ r, Pr T fin sh .one n r → ROut X T fin sh 53 [] n r := fun r hp => za48 h hT hl hsh hn hp fun q h1 h2 r hpp => (nx q h1 h2).2.2 0 (by omega) r hpp
  have hmin : ∀ r, Pr T fin sh .minus n r → ROut X T fin sh 33 [] n r := fun r hp => za6j h hT hl hn hp hone fun h1 r hpp => (nx (n + 1) (by omega) (by omega)).2.1 r hpp
  refine ⟨hone, hmin, ?_⟩
  have key : ∀ k rank, rank + k = 4 → ∀ r, Pr T fin sh (.pairs rank) n r → ROut X T fin sh 17 [.int .i64 rank] n r := by
   intro k
   induction k with
   | zero => intro rank e r hp; exact pair_w h hT hl hn (by omega) hp hmin (fun h4 => by omega) (fun q h1 h2 r h4 => by omega)
   | succ k ih => intro rank e r hp; exact pair_w h hT hl hn (by omega) hp hmin (fun h4 r hpp => ih (rank + 1) (by omega) r hpp) (fun q h1 h2 r h4 hpp => (nx q h1 h2).2.2 (rank + 1) (by omega) r hpp)
  exact fun rank hr => key (4 - rank) rank (by omega)
theorem zayh (h : RpOff X) (hT : TokOk T) (hl : T.length ≤ 1000) (hsh : nameF sh = true) {r : Except Nat (Nd × Nat)} (hp : Pr T fin sh (.pairs 0) 0 r) : ROut X T fin sh 17 [.int .i64 0] 0 r := (za3f h hT hl hsh T.length 0 (by omega) (by omega)).2.2 0 (by omega) r hp
end
end Go.Proofs.YtliemjbafgnnbaaGreatDoor.Abs
