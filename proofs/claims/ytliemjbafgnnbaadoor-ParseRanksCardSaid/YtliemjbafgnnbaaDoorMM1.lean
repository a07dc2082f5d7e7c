/- The law ParseRanks: its text at value level. -/
import Derived.Test.YtliemjbafgnnbaaDoorML1
import Derived.Test.YtliemjbafgnnbaaDoorPW29
import Derived.Test.YtliemjbafgnnbaaDoorML4
set_option maxHeartbeats 0
set_option linter.defProp false
set_option linter.unnecessarySimpa false
set_option linter.unusedSimpArgs false
set_option linter.unusedVariables false
set_option maxRecDepth 8000
namespace Go.Proofs.YtliemjbafgnnbaaDoor.Abs
open Go
attribute [local irreducible] Hold VReg Vf Vc VWP With VStp Vcallee Vp VE SeqK BlkK FinK NormK
structure PkOff (X : VOuter) : Prop where
 parse : X 5 = none
 depth : X 12 = none
 split : X 8 = none
 same : X 7 = none
 num : X 6 = none
 tk : TkOff X
 pa : PaOff X
def reck (s : ByteArray) : Option Nd := if s.size ≤ 200 then (match splitF s s.size 0 [] with
 | .ok T => (match prF T s.size ⟨#[115]⟩ 200 (.pairs 0) 0 with
  | some (.ok (x, m)) => if m < T.length ∨ 20 < x.depth then none else some x
  | _ => none)
 | _ => none) else none
section
variable {X : VOuter}
theorem num7_c (hX : X 6 = none) (n : Int) (S : VH) (K : VCont) : Vcallee Tryd.prog X 6 [.int .i64 n] S K = K (.int .i64 n) [] S [] false := by
 refine zaac ?_ rfl rfl rfl
 unfold Vp
 refine zaao hX Tryd.func6 rfl (by kernel_rfl) (by show 1 ≤ _; decide) ?_
 simp -dsimp only [↓kpre, kpost, light, ret1, cellF, afill, setAll, simprocAttr, Tryd.results6]
theorem zahf (h : PkOff X) (s : ByteArray) (x : Nd) (hr : reck s = some x) : Vp Tryd.prog X 5 [.string s, .string ⟨#[115]⟩] (.tuple ⟨[.agg ⟨x.cs⟩, .int .i64 (-1), .int .i64 0]⟩) ∧ x.count ≤ 50000 := by
 unfold reck at hr
 split at hr
 ·rename_i hs
  split at hr
  ·rename_i T hF
   split at hr
   ·rename_i x' m hp
    split at hr
    ·cases hr
    ·rename_i hc
     cases hr
     have hp := prF_ok _ _ _ _ hp
     obtain ⟨hT, hl⟩ := zav7 hs hF
     have hv : splitV s = .tuple ⟨[sl true 0 3 (T.map TK.v), .int .i64 (-1), .int .i64 0]⟩ := by
      unfold splitV
      rw [if_neg (by omega), hF]
      rfl
     have hn : nameF ⟨#[115]⟩ = true := by decide
     have a := za2i h.parse h.split h.depth h.tk h.pa s ⟨#[115]⟩ hT (by omega) hv hn hp
     have hon := (hp.on _ _ rfl).2 (Nat.zero_le _)
     have hcnt := hp.count _ _ rfl
     simp only [Gl.had] at hcnt
     unfold parV at a
     simp only at a
     rw [if_neg (fun hh => hc (.inl hh)), if_neg (fun hh => hc (.inr hh))] at a
     exact ⟨a, by omega⟩
   ·cases hr
  ·cases hr
 ·cases hr
theorem zaza (h : PkOff X) (ha : X 4 = none) : Vp Tryd.prog X 4 [] (.bool true) := by
 unfold Vp
 refine zaao ha Tryd.func4 rfl (by kernel_rfl) (by show 0 ≤ _; decide) ?_
 obtain ⟨pp, _⟩ := zahf h ⟨#[49, 43, 50]⟩ (Nd.pair ⟨#[43]⟩ (Nd.val (iV 1)) (Nd.val (iV 2))) (by kernel_rfl)
 rw [zal5] at pp
 have pc := fun S K => zaac (S := S) (K := K) (args := [.string ⟨#[49, 43, 50]⟩, .string ⟨#[115]⟩]) pp rfl rfl rfl
 have nc := fun n S K => num7_c h.num n S K
 simp -dsimp only [↓kpre, kpost, light, ret1, cellF, afill, setAll, simprocAttr, vld3, vgt3, vld9, vgt9, vld29, vgt29, vst31, ↓val31, zaxy, zax9, zaxz, zaya, zaph, zapo, vlr29, vlo29, vlz29, vls29, vlw29, ↓vfk5, ↓vfk6, Tryd.results4, ndl, ne_eq, not_false_eq_true, zaaa, and_false, if_false, zaae, ↓pc, ↓nc, ab_seq]
end
def opsB : List (List UInt8) := [[61], [60, 62], [60], [62], [60, 61], [62, 61], [38], [43], [45], [42], [47]]
def rkB : List Int := [0, 0, 0, 0, 0, 0, 1, 2, 2, 3, 3]
def txt1 (a b : List UInt8) : List UInt8 := (([49, 32] ++ a) ++ [50] ++ b) ++ [32, 51]
def txt2 (a b : List UInt8) : List UInt8 := (([40, 49] ++ a) ++ [50, 41] ++ b) ++ [51]
def txt3 (a b : List UInt8) : List UInt8 := (([49] ++ a) ++ [40, 50] ++ b) ++ [51, 41]
def ckR (p q : Nat) : Bool := match opsB[p]?, opsB[q]?, rkB[p]?, rkB[q]? with
 | some a, some b, some rp, some rq => (match reck ⟨(txt1 a b).toArray⟩, reck ⟨(txt2 a b).toArray⟩, reck ⟨(txt3 a b).toArray⟩ with
  | some n, some l, some r => !(l.same r) && (if rp < rq then n.same r else n.same l)
  | _, _, _ => false)
 | _, _, _, _ => false
theorem ck0 : ((List.range 11).all (ckR 0)) = true := by kernel_rfl
theorem ck1 : ((List.range 11).all (ckR 1)) = true := by kernel_rfl
theorem ck2 : ((List.range 11).all (ckR 2)) = true := by kernel_rfl
theorem ck3 : ((List.range 11).all (ckR 3)) = true := by kernel_rfl
theorem ck4 : ((List.range 11).all (ckR 4)) = true := by kernel_rfl
theorem ck5 : ((List.range 11).all (ckR 5)) = true := by kernel_rfl
theorem ck6 : ((List.range 11).all (ckR 6)) = true := by kernel_rfl
theorem ck7 : ((List.range 11).all (ckR 7)) = true := by kernel_rfl
theorem ck8 : ((List.range 11).all (ckR 8)) = true := by kernel_rfl
theorem ck9 : ((List.range 11).all (ckR 9)) = true := by kernel_rfl
theorem ck10 : ((List.range 11).all (ckR 10)) = true := by kernel_rfl
theorem ck_all {p q : Nat} (hp : p < 11) (hq : q < 11) : ckR p q = true := by
 have hm : q ∈ List.range 11 := List.mem_range.2 hq
 rcases p with _ | _ | _ | _ | _ | _ | _ | _ | _ | _ | _ | p
 ·exact List.all_eq_true.1 ck0 q hm
 ·exact List.all_eq_true.1 ck1 q hm
 ·exact List.all_eq_true.1 ck2 q hm
 ·exact List.all_eq_true.1 ck3 q hm
 ·exact List.all_eq_true.1 ck4 q hm
 ·exact List.all_eq_true.1 ck5 q hm
 ·exact List.all_eq_true.1 ck6 q hm
 ·exact List.all_eq_true.1 ck7 q hm
 ·exact List.all_eq_true.1 ck8 q hm
 ·exact List.all_eq_true.1 ck9 q hm
 ·exact List.all_eq_true.1 ck10 q hm
 ·omega
theorem tabR {p q : Nat} (hp : p < 11) (hq : q < 11) : ∃ a b rp rq n l r, opsB[p]? = some a ∧ opsB[q]? = some b ∧ rkB[p]? = some rp ∧ rkB[q]? = some rq ∧ reck ⟨(txt1 a b).toArray⟩ = some n ∧ reck ⟨(txt2 a b).toArray⟩ = some l ∧ reck ⟨(txt3 a b).toArray⟩ = some r ∧
    l.same r = false ∧ (if rp < rq then n.same r else n.same l) = true := by
 have h := ck_all hp hq
 unfold ckR at h
 split at h
 ·rename_i a b rp rq h1 h2 h3 h4
  split at h
  ·rename_i n l r g1 g2 g3
   simp only [Bool.and_eq_true, Bool.not_eq_true'] at h
   exact ⟨a, b, rp, rq, n, l, r, h1, h2, h3, h4, g1, g2, g3, h.1, h.2⟩
  ·cases h
 ·cases h
theorem zas1 {p : Nat} {a : List UInt8} (h : opsB[p]? = some a) : a.length ≤ 2 := by
 have : ∀ x ∈ opsB, x.length ≤ 2 := by decide
 exact this a (List.mem_of_getElem? h)
theorem ba_eq7 {a b : ByteArray} (h : a.data.toList = b.data.toList) : a = b := by
 have e1 : a = ⟨(a.data.toList).toArray⟩ := rfl
 rw [e1, h]
theorem addS {P : Program} {t : TypeId} {x y : Operand} (l m : List UInt8) (hl : l.length ≤ 500) (hm : m.length ≤ 500) : abin P .add t x y (.string ⟨l.toArray⟩) (.string ⟨m.toArray⟩) = some (.string ⟨(l ++ m).toArray⟩) := by
 have h1 : (⟨l.toArray⟩ : ByteArray).size = l.length := by show l.toArray.size = _; simp
 have h2 : (⟨m.toArray⟩ : ByteArray).size = m.length := by show m.toArray.size = _; simp
 have : abin P .add t x y (.string ⟨l.toArray⟩) (.string ⟨m.toArray⟩) = onlyFlat (pureRun P (Op.stringOp .add ⟨l.toArray⟩ ⟨m.toArray⟩)) := rfl
 rw [this]
 unfold Op.stringOp
 simp only
 rw [if_neg (by simp only [IntKind.max, IntKind.signed, IntKind.bits]; simp; omega)]
 show some (Value.string (⟨l.toArray⟩ ++ ⟨m.toArray⟩)) = _
 exact congrArg some (congrArg Value.string (ba_eq7 (by simp)))
end Go.Proofs.YtliemjbafgnnbaaDoor.Abs
/- The law ParseRanks: any two numbers. -/
set_option maxRecDepth 8000
namespace Go.Proofs.YtliemjbafgnnbaaDoor.Abs
open Go
attribute [local irreducible] Hold VReg Vf Vc VWP With VStp Vcallee Vp VE SeqK BlkK FinK NormK
def pZM3_3 := And.intro (And.intro (@val31) (@vfk4)) (And.intro (@vfk5) (And.intro (@vfk6) (@vfk7)))
def qZM3_3 := And.intro (And.intro (And.intro (And.intro (@vld9) (@vgt9)) (And.intro (@vld31) (And.intro (@vgt31) (@vld3)))) (And.intro (And.intro (@vgt3) (And.intro (@vst31) (@vbd23))) (And.intro (@vbd24) (And.intro (@vix23) (@vio23))))) (And.intro (And.intro (And.intro (@vis23) (And.intro (@viw23) (@vix24))) (And.intro (@vio24) (And.intro (@vis24) (@viw24)))) (And.intro (And.intro (@vlr23) (And.intro (@vlo23) (@vlz23))) (And.intro (@vls23) (And.intro (@vlw23) (@Tryd.results3)))))
section
variable {X : VOuter}
theorem lawR_v (h : PkOff X) (ha : X 4 = none) (hL : X 3 = none) (p q : Int) : Vf Tryd.prog X 3 [.int .i64 p, .int .i64 q] [] fun v _ => v = .bool true := by
 refine zaao hL Tryd.func3 rfl (by kernel_rfl) (by show 2 ≤ _; decide) ?_
 have al := fun S K => zaac (S := S) (K := K) (args := []) (zaza h ha) rfl rfl rfl
 by_cases p0 : p < 0
 ·simp -dsimp only [↓kpre, kpost, light, ret1, cellF, afill, setAll, simprocAttr, ↓pZM3_3, qZM3_3, ndl, ne_eq, not_false_eq_true, zaaa, and_false, if_false, zaae, ↓al, p0]
 by_cases p1 : 11 ≤ p
 ·simp -dsimp only [↓kpre, kpost, light, ret1, cellF, afill, setAll, simprocAttr, ↓pZM3_3, qZM3_3, ndl, ne_eq, not_false_eq_true, zaaa, and_false, if_false, zaae, ↓al, p0, p1]
 by_cases q0 : q < 0
 ·simp -dsimp only [↓kpre, kpost, light, ret1, cellF, afill, setAll, simprocAttr, ↓pZM3_3, qZM3_3, ndl, ne_eq, not_false_eq_true, zaaa, and_false, if_false, zaae, ↓al, p0, p1, q0]
 by_cases q1 : 11 ≤ q
 ·simp -dsimp only [↓kpre, kpost, light, ret1, cellF, afill, setAll, simprocAttr, ↓pZM3_3, qZM3_3, ndl, ne_eq, not_false_eq_true, zaaa, and_false, if_false, zaae, ↓al, p0, p1, q0, q1]
 obtain ⟨a, b, rp, rq, n, l, r, ga, gb, gp, gq, g1, g2, g3, hs, hr⟩ := tabR (p := p.toNat) (q := q.toNat) (by omega) (by omega)
 have la := zas1 ga
 have lb := zas1 gb
 obtain ⟨n1, nc1⟩ := zahf h _ _ g1
 obtain ⟨n2, nc2⟩ := zahf h _ _ g2
 obtain ⟨n3, nc3⟩ := zahf h _ _ g3
 have okn : ∀ x : Nd, okv 0 false (.tuple ⟨[.agg ⟨x.cs⟩, .int .i64 (-1), .int .i64 0]⟩) = true := fun x => by simp only [zagg, zae1, List.all_cons, List.all_nil, nd_okv, zajv, Bool.and_self]
 have c1 := fun S K => zaac (S := S) (K := K) (args := [.string ⟨(txt1 a b).toArray⟩, .string ⟨#[115]⟩]) n1 rfl rfl (okn n)
 have c2 := fun S K => zaac (S := S) (K := K) (args := [.string ⟨(txt2 a b).toArray⟩, .string ⟨#[115]⟩]) n2 rfl rfl (okn l)
 have c3 := fun S K => zaac (S := S) (K := K) (args := [.string ⟨(txt3 a b).toArray⟩, .string ⟨#[115]⟩]) n3 rfl rfl (okn r)
 have nc := fun m S K => num7_c h.num m S K
 have sc : ∀ x y : Nd, x.count ≤ 50000 → y.count ≤ 50000 → ∀ S K, Vcallee Tryd.prog X 7 [.agg ⟨x.cs⟩, .agg ⟨y.cs⟩] S K = K (.bool (x.same y)) [] S [] false := fun x y hx hy S K =>
  zaac (S := S) (K := K) (args := [.agg ⟨x.cs⟩, .agg ⟨y.cs⟩]) (za2t h.same x y hx hy) (by simp only [zaal, zabf, zac2, zal0]) (by simp only [zaee, zaf2, zae1, nd_okv, Bool.and_true]) rfl
 have s1 := sc l r nc2 nc3
 have s2 := sc n r nc1 nc3
 have s3 := sc n l nc1 nc2
 rw [hs] at s1
 have fa : ([.string ⟨#[61]⟩, .string ⟨#[60, 62]⟩, .string ⟨#[60]⟩, .string ⟨#[62]⟩, .string ⟨#[60, 61]⟩, .string ⟨#[62, 61]⟩, .string ⟨#[38]⟩, .string ⟨#[43]⟩, .string ⟨#[45]⟩, .string ⟨#[42]⟩, .string ⟨#[47]⟩] : List Value)[p.toNat]? = some (.string ⟨a.toArray⟩) := by
  show (opsB.map fun l => Value.string ⟨l.toArray⟩)[p.toNat]? = _
  rw [List.getElem?_map, ga]; rfl
 have fb : ([.string ⟨#[61]⟩, .string ⟨#[60, 62]⟩, .string ⟨#[60]⟩, .string ⟨#[62]⟩, .string ⟨#[60, 61]⟩, .string ⟨#[62, 61]⟩, .string ⟨#[38]⟩, .string ⟨#[43]⟩, .string ⟨#[45]⟩, .string ⟨#[42]⟩, .string ⟨#[47]⟩] : List Value)[q.toNat]? = some (.string ⟨b.toArray⟩) := by
  show (opsB.map fun l => Value.string ⟨l.toArray⟩)[q.toNat]? = _
  rw [List.getElem?_map, gb]; rfl
 have fp : ([.int .i64 0, .int .i64 0, .int .i64 0, .int .i64 0, .int .i64 0, .int .i64 0, .int .i64 1, .int .i64 2, .int .i64 2, .int .i64 3, .int .i64 3] : List Value)[p.toNat]? = some (.int .i64 rp) := by
  show (rkB.map fun l => Value.int .i64 l)[p.toNat]? = _
  rw [List.getElem?_map, gp]; rfl
 have fq : ([.int .i64 0, .int .i64 0, .int .i64 0, .int .i64 0, .int .i64 0, .int .i64 0, .int .i64 1, .int .i64 2, .int .i64 2, .int .i64 3, .int .i64 3] : List Value)[q.toNat]? = some (.int .i64 rq) := by
  show (rkB.map fun l => Value.int .i64 l)[q.toNat]? = _
  rw [List.getElem?_map, gq]; rfl
 have hp0 : 0 ≤ p := by omega
 have hq0 : 0 ≤ q := by omega
 have x1 := fun t x y => addS (P := Tryd.prog) (t := t) (x := x) (y := y) [49, 32] a (by simp) (by omega)
 have x2 := fun t x y => addS (P := Tryd.prog) (t := t) (x := x) (y := y) ([49, 32] ++ a) [50] (by simp; omega) (by simp)
 have x3 := fun t x y => addS (P := Tryd.prog) (t := t) (x := x) (y := y) (([49, 32] ++ a) ++ [50]) b (by simp; omega) (by omega)
 have x4 := fun t x y => addS (P := Tryd.prog) (t := t) (x := x) (y := y) ((([49, 32] ++ a) ++ [50]) ++ b) [32, 51] (by simp; omega) (by simp)
 have y1 := fun t x y => addS (P := Tryd.prog) (t := t) (x := x) (y := y) [40, 49] a (by simp) (by omega)
 have y2 := fun t x y => addS (P := Tryd.prog) (t := t) (x := x) (y := y) ([40, 49] ++ a) [50, 41] (by simp; omega) (by simp)
 have y3 := fun t x y => addS (P := Tryd.prog) (t := t) (x := x) (y := y) (([40, 49] ++ a) ++ [50, 41]) b (by simp; omega) (by omega)
 have y4 := fun t x y => addS (P := Tryd.prog) (t := t) (x := x) (y := y) ((([40, 49] ++ a) ++ [50, 41]) ++ b) [51] (by simp; omega) (by simp)
 have z1 := fun t x y => addS (P := Tryd.prog) (t := t) (x := x) (y := y) [49] a (by simp) (by omega)
 have z2 := fun t x y => addS (P := Tryd.prog) (t := t) (x := x) (y := y) ([49] ++ a) [40, 50] (by simp; omega) (by simp)
 have z3 := fun t x y => addS (P := Tryd.prog) (t := t) (x := x) (y := y) (([49] ++ a) ++ [40, 50]) b (by simp; omega) (by omega)
 have z4 := fun t x y => addS (P := Tryd.prog) (t := t) (x := x) (y := y) ((([49] ++ a) ++ [40, 50]) ++ b) [51, 41] (by simp; omega) (by simp)
 unfold txt1 at c1
 unfold txt2 at c2
 unfold txt3 at c3
 generalize hA1 : [49, 32] ++ a = A1 at x1 x2 x3 x4 c1
 generalize hA2 : A1 ++ [50] = A2 at x2 x3 x4 c1
 generalize hA3 : A2 ++ b = A3 at x3 x4 c1
 generalize hA4 : A3 ++ [32, 51] = A4 at x4 c1
 generalize hB1 : [40, 49] ++ a = B1 at y1 y2 y3 y4 c2
 generalize hB2 : B1 ++ [50, 41] = B2 at y2 y3 y4 c2
 generalize hB3 : B2 ++ b = B3 at y3 y4 c2
 generalize hB4 : B3 ++ [51] = B4 at y4 c2
 generalize hC1 : [49] ++ a = C1 at z1 z2 z3 z4 c3
 generalize hC2 : C1 ++ [40, 50] = C2 at z2 z3 z4 c3
 generalize hC3 : C2 ++ b = C3 at z3 z4 c3
 generalize hC4 : C3 ++ [51, 41] = C4 at z4 c3
 simp -dsimp only [↓kpre, kpost, light, ret1, cellF, afill, setAll, simprocAttr, ↓pZM3_3, qZM3_3, ndl, ne_eq, not_false_eq_true, zaaa, and_false, if_false, zaae, ↓al, p0, p1, q0, q1]
 refine zakf [[], [], [], [], [], [], [], [], [], [], [], [], [], [], [], [], [], [], [], [], []] false (by kernel_rfl) (by kernel_rfl) (by kernel_rfl) (by kernel_rfl) ?_
 simp -dsimp only [↓kpre, kpost, light, ret1, cellF, afill, setAll, simprocAttr, ↓opre, opost, vspan, ↓pZM3_3, qZM3_3, ndl, ne_eq, not_false_eq_true, zaaa, and_false, if_false, zaae, hp0, hq0, fa, fb, x1, x2, x3, x4, ↓c1]
 refine zakf [[], [], [], [], [], [], [], [], [], [], [], [], [], [], [], [], [], [], [], [], []] false (by kernel_rfl) (by kernel_rfl) (by kernel_rfl) (by kernel_rfl) ?_
 simp -dsimp only [↓kpre, kpost, light, ret1, cellF, afill, setAll, simprocAttr, ↓opre, opost, vspan, ↓pZM3_3, qZM3_3, ndl, ne_eq, not_false_eq_true, zaaa, and_false, if_false, zaae, hp0, hq0, fa, fb, y1, y2, y3, y4, ↓c2]
 refine zakf [[], [], [], [], [], [], [], [], [], [], [], [], [], [], [], [], [], [], [], [], []] false (by kernel_rfl) (by kernel_rfl) (by kernel_rfl) (by kernel_rfl) ?_
 simp -dsimp only [↓kpre, kpost, light, ret1, cellF, afill, setAll, simprocAttr, ↓opre, opost, vspan, ↓pZM3_3, qZM3_3, ndl, ne_eq, not_false_eq_true, zaaa, and_false, if_false, zaae, hp0, hq0, fa, fb, z1, z2, z3, z4, ↓c3]
 simp -dsimp only [↓kpre, kpost, light, ret1, cellF, afill, setAll, simprocAttr, ↓pZM3_3, qZM3_3, ndl, ne_eq, not_false_eq_true, zaaa, and_false, if_false, zaae, ↓nc, ↓s1]
 have hgt : ∀ (h : rp < rq), rq > rp := fun h => h
 refine zaaj [[], [], [], [], [], [], [], [], []] false (by kernel_rfl) (by kernel_rfl) (by kernel_rfl) ?_
 by_cases rr : rp < rq
 ·rw [if_pos rr] at hr
  rw [hr] at s2
  simp -dsimp only [↓kpre, kpost, light, ret1, cellF, afill, setAll, simprocAttr, ↓opre, opost, vspan, ↓pZM3_3, qZM3_3, ndl, ne_eq, not_false_eq_true, zaaa, and_false, if_false, zaae, hp0, hq0, fp, fq, rr, ↓s2]
 ·rw [if_neg rr] at hr
  rw [hr] at s3
  simp -dsimp only [↓kpre, kpost, light, ret1, cellF, afill, setAll, simprocAttr, ↓opre, opost, vspan, ↓pZM3_3, qZM3_3, ndl, ne_eq, not_false_eq_true, zaaa, and_false, if_false, zaae, hp0, hq0, fp, fq, rr, ↓s3]
end
end Go.Proofs.YtliemjbafgnnbaaDoor.Abs
