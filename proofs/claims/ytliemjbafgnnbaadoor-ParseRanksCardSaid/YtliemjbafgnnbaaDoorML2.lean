/- The program's parser: cells and ranges. -/
import Derived.Test.YtliemjbafgnnbaaDoorML1
import Derived.Test.YtliemjbafgnnbaaDoorPW29
import Derived.Test.YtliemjbafgnnbaaDoorMW7
set_option maxHeartbeats 0
set_option linter.defProp false
set_option linter.unnecessarySimpa false
set_option linter.unusedSimpArgs false
set_option linter.unusedVariables false
set_option maxRecDepth 4000
namespace Go.Proofs.YtliemjbafgnnbaaDoor.Abs
open Go
def zal4 := And.intro (@val28) (And.intro (@vfk16) (@vfk56))
def zamb := And.intro (And.intro (And.intro (And.intro (@vld38) (And.intro (@vgt38) (@vld3))) (And.intro (@vgt3) (And.intro (@vld9) (@vgt9)))) (And.intro (And.intro (@vld28) (And.intro (@vgt28) (@vst28))) (And.intro (@zah3) (And.intro (@zah4) (@zagp))))) (And.intro (And.intro (And.intro (@zagq) (And.intro (@zaje) (@zajj))) (And.intro (@bd28) (And.intro (@pl28_0) (@pl28_1)))) (And.intro (And.intro (@pl28_2) (And.intro (@vix38) (@vio38))) (And.intro (@vis38) (And.intro (@viw38) (@Tryd.results47)))))
def zal3 := And.intro (And.intro (@val31) (And.intro (@val28) (@vfk47))) (And.intro (@vfk11) (And.intro (@vfk27) (@vfk48)))
def zama := And.intro (And.intro (And.intro (And.intro (@vld3) (@vgt3)) (And.intro (@vld28) (And.intro (@vgt28) (@vld31)))) (And.intro (And.intro (@vgt31) (And.intro (@vst28) (@vst31))) (And.intro (@vst3) (And.intro (@zagp) (@zagq))))) (And.intro (And.intro (And.intro (@bd31) (And.intro (@pl31_0) (@pl31_1))) (And.intro (@pl31_2) (And.intro (@pl31_3) (@pl31_4)))) (And.intro (And.intro (@pl31_5) (And.intro (@pl31_6) (@bd86))) (And.intro (@pl86_0) (And.intro (@pl86_1) (@Tryd.results38)))))
attribute [local irreducible] Hold VReg Vf Vc VWP With VStp Vcallee Vp VE
def atoiW (s : ByteArray) : Int := match Lib.atoiAll s.data.toList with
 | .range => Lib.atoiSat s.data.toList
 | _ => 0
structure PaOff (X : VOuter) : Prop where
 pairs : X 10 = none
 minus : X 15 = none
 one : X 28 = none
 word : X 37 = none
 cell : X 38 = none
 call : X 46 = none
 plc : X 47 = none
 kind : X 16 = none
 sign : X 27 = none
 take : X 18 = none
 fail : X 11 = none
 scon : X 17 = none
 sidx : X 29 = none
 ranks : X 14 = none
 const : X 34 = none
 pcall : X 45 = none
 int : X 35 = none
 bool : X 44 = none
 text : X 36 = none
 n : NOff X
 small : X 48 = none
 rd : ∀ t : ByteArray, t.size ≤ 1000 → ∀ S K, Vcallee Tryd.prog X 56 [.string t] S K = K (tripF (atF t)) [] S [] false
 atoi : ∀ t : ByteArray, t.size ≤ 1000 → ∀ S K, Vcallee Tryd.prog X 33 [.string t] S K = K (atoiV 92 atoiW t) [] S [] false
section
variable (X : VOuter) (T : List TK) (fin : Nat) (sh : ByteArray)
def Out (f : FuncId) (args : List Value) (n : Nat) (bad : Int) (r : Except Nat (Nd × Nat)) : Prop := ∀ R, match r with
 | .ok (x, m) => Vf Tryd.prog X f (p0 :: args) (cx (pbx T fin sh n bad) R) fun v ws => ws = [(1, pbx T fin sh m bad)] ∧ v = .tuple ⟨[.agg ⟨x.cs⟩, .bool true]⟩
 | .error b => ∃ (y : Nd) (n' : Int), Vf Tryd.prog X f (p0 :: args) (cx (pbx T fin sh n bad) R) fun v ws => ws = [(1, pbx T fin sh n' b)] ∧ v = .tuple ⟨[.agg ⟨y.cs⟩, .bool false]⟩
end
section
variable {X : VOuter} {T : List TK} {fin : Nat} {sh : ByteArray}
theorem Out.c {f : FuncId} {args : List Value} {n : Nat} {bad : Int} {x : Nd} {m : Nat} (h : Out X T fin sh f args n bad (.ok (x, m))) (ha : mapOwnL (lend false) args = args) (ht : toksL args = []) (R l : List Blk) (w : List Nat) (K : VCont) :
    Vcallee Tryd.prog X f (p0 :: args) ⟨cx (pbx T fin sh n bad) R, l, w⟩ K = K (.tuple ⟨[.agg ⟨x.cs⟩, .bool true]⟩) [dropBoxes [1]] ⟨cx (pbx T fin sh m bad) R, l, addW 1 w⟩ [1] false := zaf9 (h (cat R l)) ha ht (zaog _ _ _)
theorem Out.e {f : FuncId} {args : List Value} {n : Nat} {bad : Int} {b : Nat} (h : Out X T fin sh f args n bad (.error b)) (ha : mapOwnL (lend false) args = args) (ht : toksL args = []) : ∃ (y : List Blk → Nd) (n' : List Blk → Int), ∀ (R l : List Blk) (w : List Nat) (K : VCont),
    Vcallee Tryd.prog X f (p0 :: args) ⟨cx (pbx T fin sh n bad) R, l, w⟩ K = K (.tuple ⟨[.agg ⟨(y (cat R l)).cs⟩, .bool false]⟩) [dropBoxes [1]] ⟨cx (pbx T fin sh (n' (cat R l)) b) R, l, addW 1 w⟩ [1] false := by
 have h' : ∀ R, ∃ (y : Nd) (n' : Int), Vf Tryd.prog X f (p0 :: args) (cx (pbx T fin sh n bad) R) fun v ws => ws = [(1, pbx T fin sh n' b)] ∧ v = .tuple ⟨[.agg ⟨y.cs⟩, .bool false]⟩ := h
 refine ⟨fun R => Classical.choose (h' R), fun R => Classical.choose (Classical.choose_spec (h' R)), fun R l w K => ?_⟩
 exact zaf9 (Classical.choose_spec (Classical.choose_spec (h' (cat R l)))) ha ht (zaog _ _ _)
theorem zaql {q : Nat} {c r : Int} (h : placeT T q = some (c, r)) : ∃ t, T[q]? = some t ∧ t.k = 3 ∧ atF t.t = some (c, r) := by
 unfold placeT at h
 split at h
 ·rename_i t ht
  split at h
  ·rename_i hk; exact ⟨t, ht, hk, h⟩
  ·cases h
 ·cases h
theorem plc_ok (h : PaOff X) (hT : TokOk T) {n q : Nat} {j : Int} (hw : IntKind.i64.wrap ((n : Int) + j) = q) {c r : Int} (hp : placeT T q = some (c, r)) (s : ByteArray) (bad : Int) (R : List Blk) :
    Vf Tryd.prog X 47 [p0, .int .i64 j, .string s] (cx (pbx T fin sh n bad) R) fun v ws => ws = [] ∧ v = .tuple ⟨[.agg ⟨[.string s, .int .i64 c, .int .i64 r]⟩, .bool true]⟩ := by
 refine zaaw h.plc Tryd.func47 rfl (by kernel_rfl) (by show 3 ≤ _; decide) ?_
 obtain ⟨t, ht, hk, ha⟩ := zaql hp
 have h0 : (0 : Int) ≤ q := by omega
 have hx : (T.map TK.v)[q]? = some t.v := by rw [List.getElem?_map, ht]; rfl
 have kc := fun R l w K => kind_c (T := T) (fin := fin) (sh := sh) h.kind hw bad R l w K
 have hs := hT.size t (List.mem_of_getElem? ht)
 have hat := fun S K => h.rd t.t (by omega) S K
 rw [ha] at hat
 have hkk : kindT T q = 3 := by simp [kindT, ht, hk]
 rw [hkk] at kc
 obtain ⟨k, a, u⟩ := t
 simp only [TK.v] at hx hat
 simp only [tripF] at hat
 simp -dsimp only [↓kpre, kpost, light, ret1, cellF, afill, setAll, simprocAttr, ↓zal4, zamb, ↓cxpre, cxpost, List.length_map, ↓kc]
 refine zaei [[], [], [], [], [], [], [], [], [], [], [], [], [], [], [], [], [], [], [], [], []] false (by kernel_rfl) (by kernel_rfl) (by kernel_rfl) ?_
 simp -dsimp only [↓kpre, kpost, light, ret1, cellF, afill, setAll, simprocAttr, ↓opre, opost, vspan, ↓zal4, zamb, ↓cxpre, cxpost, List.length_map, ↓kc, hw, h0, hx, ↓hat]
theorem plc_no (h : PaOff X) (hT : TokOk T) {n q : Nat} {j : Int} (hw : IntKind.i64.wrap ((n : Int) + j) = q) (hp : placeT T q = none) (s : ByteArray) : ∃ s' : ByteArray, ∀ (bad : Int) (R : List Blk),
    Vf Tryd.prog X 47 [p0, .int .i64 j, .string s] (cx (pbx T fin sh n bad) R) fun v ws => ws = [] ∧ v = .tuple ⟨[.agg ⟨[.string s', .int .i64 0, .int .i64 0]⟩, .bool false]⟩ := by
 have h0 : (0 : Int) ≤ q := by omega
 by_cases hk : kindT T q = 3
 ·refine ⟨s, fun bad R => ?_⟩
  refine zaaw h.plc Tryd.func47 rfl (by kernel_rfl) (by show 3 ≤ _; decide) ?_
  have kc := fun R l w K => kind_c (T := T) (fin := fin) (sh := sh) h.kind hw bad R l w K
  rw [hk] at kc
  cases ht : T[q]? with
  | none => simp [kindT, ht] at hk
  | some t =>
   have hx : (T.map TK.v)[q]? = some t.v := by rw [List.getElem?_map, ht]; rfl
   have hs := hT.size t (List.mem_of_getElem? ht)
   have hat := fun S K => h.rd t.t (by omega) S K
   have ha : atF t.t = none := by
    simp only [kindT, ht] at hk
    simpa [placeT, ht, hk] using hp
   rw [ha] at hat
   obtain ⟨k, a, u⟩ := t
   simp only [TK.v] at hx hat
   simp only [tripF] at hat
   simp -dsimp only [↓kpre, kpost, light, ret1, cellF, afill, setAll, simprocAttr, ↓zal4, zamb, ↓cxpre, cxpost, List.length_map, ↓kc]
   refine zaei [[], [], [], [], [], [], [], [], [], [], [], [], [], [], [], [], [], [], [], [], []] false (by kernel_rfl) (by kernel_rfl) (by kernel_rfl) ?_
   simp -dsimp only [↓kpre, kpost, light, ret1, cellF, afill, setAll, simprocAttr, ↓opre, opost, vspan, ↓zal4, zamb, ↓cxpre, cxpost, List.length_map, ↓kc, hw, h0, hx, ↓hat]
 ·refine ⟨.empty, fun bad R => ?_⟩
  refine zaaw h.plc Tryd.func47 rfl (by kernel_rfl) (by show 3 ≤ _; decide) ?_
  have kc := fun R l w K => kind_c (T := T) (fin := fin) (sh := sh) h.kind hw bad R l w K
  generalize kindT T q = kk at hk kc
  simp -dsimp only [↓kpre, kpost, light, ret1, cellF, afill, setAll, simprocAttr, ↓zal4, zamb, ↓cxpre, cxpost, List.length_map, ↓kc, hk]
theorem cell_p (h : PaOff X) (hT : TokOk T) (hl : T.length ≤ 1000) (n ahead : Nat) (hn : n ≤ T.length) (ha : ahead ≤ 2) (s : ByteArray) (bad : Int) : Out X T fin sh 38 [.string s, .int .i64 ahead] n bad (cellG T fin s n ahead) := by
 have f0 := fun n bad R l w K => fail_c (T := T) (fin := fin) (sh := sh) h.fail n (q := n.toNat) bad R l w K
 have fl := fun R l w K => fail_c (T := T) (fin := fin) (sh := sh) h.fail (n : Int) n bad R l w K
 have w0 : IntKind.i64.wrap ((n : Int) + ahead) = ((n + ahead : Nat) : Int) := zabu (by omega) (by omega)
 have a1 : IntKind.i64.wrap ((ahead : Int) + 1) = ((ahead + 1 : Nat) : Int) := zabu (by omega) (by omega)
 have a2 : IntKind.i64.wrap ((ahead : Int) + 2) = ((ahead + 2 : Nat) : Int) := zabu (by omega) (by omega)
 have a3 : IntKind.i64.wrap ((ahead : Int) + 3) = ((ahead + 3 : Nat) : Int) := zabu (by omega) (by omega)
 have w1 : IntKind.i64.wrap ((n : Int) + ((ahead + 1 : Nat) : Int)) = ((n + ahead + 1 : Nat) : Int) := zabu (by omega) (by omega)
 have w2 : IntKind.i64.wrap ((n : Int) + ((ahead + 2 : Nat) : Int)) = ((n + ahead + 2 : Nat) : Int) := zabu (by omega) (by omega)
 have w3 : IntKind.i64.wrap ((n : Int) + ((ahead + 3 : Nat) : Int)) = ((n + ahead + 3 : Nat) : Int) := zabu (by omega) (by omega)
 have sg := fun R l w K => zaj0 (T := T) (fin := fin) (sh := sh) h.sign h.kind w1 ⟨#[58]⟩ bad R l w K
 unfold Out
 intro R
 unfold cellG
 cases hp : placeT T (n + ahead) with
 | none =>
  obtain ⟨s', pl⟩ := plc_no (fin := fin) (sh := sh) h hT w0 hp s
  have pc := fun R l w K => zaef (K := K) (w := w) (pl bad (cat R l)) rfl rfl
  refine ⟨Nd.zero, n, ?_⟩
  refine zaaw h.cell Tryd.func38 rfl (by kernel_rfl) (by show 3 ≤ _; decide) ?_
  simp -dsimp only [↓kpre, kpost, light, ret1, cellF, afill, setAll, simprocAttr, ↓zal3, zama, ↓cxpre, cxpost, List.length_map, ndl, ↓pc, ↓fl]
 | some cr =>
  obtain ⟨c, r⟩ := cr
  have pc := fun R l w K => zaef (K := K) (w := w) (plc_ok (fin := fin) (sh := sh) h hT w0 hp s bad (cat R l)) rfl rfl
  cases hs : sgn T (n + ahead + 1) ⟨#[58]⟩ with
  | false =>
   rw [hs] at sg
   simp only [Bool.false_eq_true, if_false]
   refine zaaw h.cell Tryd.func38 rfl (by kernel_rfl) (by show 3 ≤ _; decide) ?_
   simp -dsimp only [↓kpre, kpost, light, ret1, cellF, afill, setAll, simprocAttr, ↓zal3, zama, ↓cxpre, cxpost, List.length_map, ndl, ↓pc, ↓fl, a1, ↓sg, w1]
   simp [Nd.cell, Nd.cs, Nd.vs, sl, v0, c0]
  | true =>
   rw [hs] at sg
   simp only [if_true]
   cases hq : placeT T (n + ahead + 2) with
   | none =>
    obtain ⟨s', pl⟩ := plc_no (fin := fin) (sh := sh) h hT w2 hq s
    have pc2 := fun R l w K => zaef (K := K) (w := w) (pl bad (cat R l)) rfl rfl
    refine ⟨Nd.zero, n, ?_⟩
    refine zaaw h.cell Tryd.func38 rfl (by kernel_rfl) (by show 3 ≤ _; decide) ?_
    simp -dsimp only [↓kpre, kpost, light, ret1, cellF, afill, setAll, simprocAttr, ↓zal3, zama, ↓cxpre, cxpost, List.length_map, ndl, ↓pc, ↓pc2, ↓fl, a1, a2, ↓sg, w1]
   | some de =>
    obtain ⟨d, e⟩ := de
    have pc2 := fun R l w K => zaef (K := K) (w := w) (plc_ok (fin := fin) (sh := sh) h hT w2 hq s bad (cat R l)) rfl rfl
    have sc := fun S K => za2v (S := S) (K := K) h.n h.small s c r s d e
    cases hm : smallF ⟨s, c, r⟩ ⟨s, d, e⟩ with
    | false =>
     simp only [hm, Bool.false_eq_true, if_false]
     unfold smallF at hm
     rw [hm] at sc
     refine ⟨Nd.zero, n, ?_⟩
     refine zaaw h.cell Tryd.func38 rfl (by kernel_rfl) (by show 3 ≤ _; decide) ?_
     simp -dsimp only [↓kpre, kpost, light, ret1, cellF, afill, setAll, simprocAttr, ↓zal3, zama, ↓cxpre, cxpost, List.length_map, ndl, ↓pc, ↓pc2, ↓fl, a1, a2, ↓sg, w1, ↓sc]
    | true =>
     simp only [hm, if_true]
     unfold smallF at hm
     rw [hm] at sc
     refine zaaw h.cell Tryd.func38 rfl (by kernel_rfl) (by show 3 ≤ _; decide) ?_
     simp -dsimp only [↓kpre, kpost, light, ret1, cellF, afill, setAll, simprocAttr, ↓zal3, zama, ↓cxpre, cxpost, List.length_map, ndl, ↓pc, ↓pc2, ↓fl, a1, a2, a3, ↓sg, w1, w3, ↓sc]
     simp [Nd.range, Nd.cs, Nd.vs, sl, v0, c0]
end
end Go.Proofs.YtliemjbafgnnbaaDoor.Abs
/- The program's parser: what may have a sign ahead; names of calls. -/
namespace Go.Proofs.YtliemjbafgnnbaaDoor.Abs
open Go
def zaoz := And.intro (And.intro (@val31) (@vfk27)) (And.intro (@vfk28) (And.intro (@vfk18) (@vfk15)))
def zao2 := And.intro (And.intro (And.intro (@vld31) (And.intro (@vgt31) (@vst31))) (And.intro (@bd31) (And.intro (@pl31_0) (@pl31_1)))) (And.intro (And.intro (@pl31_2) (And.intro (@pl31_3) (@pl31_4))) (And.intro (And.intro (@pl31_5) (@pl31_6)) (And.intro (@vbd29) (@Tryd.results15))))
attribute [local irreducible] Hold VReg Vf Vc VWP With VStp Vcallee Vp VE
abbrev zbx : Blk := .cells true 31 [.int .i64 0, .string .empty, .string .empty, .int .i64 0, .int .i64 0, .string .empty, .string .empty, .int .i64 0, .int .i64 0, .string .empty, .int .i64 0, .int .i64 0, .slice none 0 0]
section
variable {k n cc cr tc tr : Int} {op nm s cs ts : ByteArray} {xk : Int} {l : List Value}
theorem zajx (q : Tok) : [.int .i64 k, .string op, .string nm, .int .i64 xk, .int .i64 n, .string s, .string cs, .int .i64 cc, .int .i64 cr, .string ts, .int .i64 tc, .int .i64 tr, vo q 13 0 l].flatMap toks = [q] := by
 simp only [List.flatMap_cons, List.flatMap_nil, zaes, zacr, zah2, List.append_nil, List.nil_append]
theorem zahw (q : Tok) : toksL [.int .i64 k, .string op, .string nm, .int .i64 xk, .int .i64 n, .string s, .string cs, .int .i64 cc, .int .i64 cr, .string ts, .int .i64 tc, .int .i64 tr, vo q 13 0 l] = [q] := by rw [zacx, zajx]
theorem zamu (i d : Nat) (S : VH) (e : TypeId) :
    vlay i 0 [.int .i64 k, .string op, .string nm, .int .i64 xk, .int .i64 n, .string s, .string cs, .int .i64 cc, .int .i64 cr, .string ts, .int .i64 tc, .int .i64 tr, vo (d, none) 13 0 l] S e = some ⟨undef, [fate (fput i 0 [.int .i64 k, .string op, .string nm, .int .i64 xk, .int .i64 n, .string s, .string cs, .int .i64 cc, .int .i64 cr, .string ts, .int .i64 tc, .int .i64 tr, vo (d, none) 13 0 l])], S.put i (.cells true e (setAll (cellsIn (S.get i)) 0 [.int .i64 k, .string op, .string nm, .int .i64 xk, .int .i64 n, .string s, .string cs, .int .i64 cc, .int .i64 cr, .string ts, .int .i64 tc, .int .i64 tr, vo (i, some 12) 13 0 l])), [i], false⟩ := by
 have hfo : foreign i 0 [.int .i64 k, .string op, .string nm, .int .i64 xk, .int .i64 n, .string s, .string cs, .int .i64 cc, .int .i64 cr, .string ts, .int .i64 tc, .int .i64 tr, vo (d, none) 13 0 l] = [] := rfl
 have hset : settle i 0 [.int .i64 k, .string op, .string nm, .int .i64 xk, .int .i64 n, .string s, .string cs, .int .i64 cc, .int .i64 cr, .string ts, .int .i64 tc, .int .i64 tr, vo (d, none) 13 0 l] = [.int .i64 k, .string op, .string nm, .int .i64 xk, .int .i64 n, .string s, .string cs, .int .i64 cc, .int .i64 cr, .string ts, .int .i64 tc, .int .i64 tr, vo (i, some 12) 13 0 l] := rfl
 have hok : ∀ n' b, cellsOk n' b i 0 [.int .i64 k, .string op, .string nm, .int .i64 xk, .int .i64 n, .string s, .string cs, .int .i64 cc, .int .i64 cr, .string ts, .int .i64 tc, .int .i64 tr, vo (d, none) 13 0 l] = true := fun n' b => rfl
 unfold vlay
 simp only [hfo, if_true]
 rw [if_pos (hok _ _)]
 simp only [vput, zahw, List.cons_ne_nil, if_false, hset, List.nil_append]
theorem zajh (i j : Nat) (hij : j ≠ i) (S : VH) (e : TypeId) :
    vlay i 0 [.int .i64 k, .string op, .string nm, .int .i64 xk, .int .i64 n, .string s, .string cs, .int .i64 cc, .int .i64 cr, .string ts, .int .i64 tc, .int .i64 tr, vo (j, some 12) 13 0 l] S e = some ⟨undef, [Abs.thaw [(j, some 12)]], (S.thaw [(j, some 12)]).put i (.cells true e (setAll (cellsIn ((S.thaw [(j, some 12)]).get i)) 0 [.int .i64 k, .string op, .string nm, .int .i64 xk, .int .i64 n, .string s, .string cs, .int .i64 cc, .int .i64 cr, .string ts, .int .i64 tc, .int .i64 tr, vs 0 13 l])), [i], false⟩ := by
 have hd : (decide (((j, some 12) : Tok) = (i, some 12))) = false := by simpa using hij
 have hfo : foreign i 0 [.int .i64 k, .string op, .string nm, .int .i64 xk, .int .i64 n, .string s, .string cs, .int .i64 cc, .int .i64 cr, .string ts, .int .i64 tc, .int .i64 tr, vo (j, some 12) 13 0 l] = [(j, some 12)] := by
  simp only [foreign, ownTok, za03, zaqy, zabs, Option.isNone_some, Bool.false_or, hd, Nat.zero_add, Nat.reduceAdd]
  rfl
 have hcs : [.int .i64 k, .string op, .string nm, .int .i64 xk, .int .i64 n, .string s, .string cs, .int .i64 cc, .int .i64 cr, .string ts, .int .i64 tc, .int .i64 tr, vo (j, some 12) 13 0 l].map (mapOwn (Abs.thaw [(j, some 12)])) = [.int .i64 k, .string op, .string nm, .int .i64 xk, .int .i64 n, .string s, .string cs, .int .i64 cc, .int .i64 cr, .string ts, .int .i64 tc, .int .i64 tr, vs 0 13 l] := by
  simp only [List.map_cons, List.map_nil, zady, zabj, zaib, zak3, List.mem_singleton, if_true]
 have hfree : toksL [.int .i64 k, .string op, .string nm, .int .i64 xk, .int .i64 n, .string s, .string cs, .int .i64 cc, .int .i64 cr, .string ts, .int .i64 tc, .int .i64 tr, vs 0 13 l] = [] := rfl
 have hset : settle i 0 [.int .i64 k, .string op, .string nm, .int .i64 xk, .int .i64 n, .string s, .string cs, .int .i64 cc, .int .i64 cr, .string ts, .int .i64 tc, .int .i64 tr, vs 0 13 l] = [.int .i64 k, .string op, .string nm, .int .i64 xk, .int .i64 n, .string s, .string cs, .int .i64 cc, .int .i64 cr, .string ts, .int .i64 tc, .int .i64 tr, vs 0 13 l] := zaeh _ 0 hfree
 have hok : ∀ n' b, cellsOk n' b i 0 [.int .i64 k, .string op, .string nm, .int .i64 xk, .int .i64 n, .string s, .string cs, .int .i64 cc, .int .i64 cr, .string ts, .int .i64 tc, .int .i64 tr, vs 0 13 l] = true := fun n' b => zail n' b i 0 _ (by cases b <;> rfl)
 unfold vlay
 simp only [hfo, List.cons_ne_nil, if_false, hcs]
 rw [if_pos (hok _ _)]
 simp only [vput, hfree, if_true, hset, List.append_nil]
end
theorem zaf8 (S : VH) (i o : Nat) : S.thaw [(i, some o)] = S.put i (mapB (mapOwn (Abs.thaw [(i, some o)])) (S.get i)) := _root_.id rfl
def ndpre := And.intro @zamu @zajh
def ndow := And.intro @zaf8 (And.intro @zajx @zahw)
section
variable {X : VOuter} {T : List TK} {fin : Nat} {sh : ByteArray}
theorem Vf_out {f : FuncId} {args : List Value} {B : List Blk} {b : Int} (h : Vf Tryd.prog X f args B fun v ws => ∃ (y : Nd) (n' : Int), ws = [(1, pbx T fin sh n' b)] ∧ v = .tuple ⟨[.agg ⟨y.cs⟩, .bool false]⟩) :
    ∃ (y : Nd) (n' : Int), Vf Tryd.prog X f args B fun v ws => ws = [(1, pbx T fin sh n' b)] ∧ v = .tuple ⟨[.agg ⟨y.cs⟩, .bool false]⟩ := by
 unfold Vf at h ⊢
 obtain ⟨n, r, h1, y, n', h2⟩ := h
 exact ⟨y, n', n, r, h1, h2⟩
theorem za10 (hX : X 34 = none) (k n : Int) (s : ByteArray) : Vp Tryd.prog X 34 [.agg ⟨[.int .i64 k, .int .i64 n, .string s]⟩] (.tuple ⟨[.agg ⟨(Nd.val ⟨k, n, s⟩).cs⟩, .bool true]⟩) := by
 unfold Vp
 refine zaaw hX Tryd.func34 rfl (by kernel_rfl) (by show 1 ≤ _; decide) ?_
 simp -dsimp only [↓kpre, kpost, light, ret1, cellF, afill, setAll, simprocAttr, vld26, vgt26, vld31, vgt31, vst31, ↓val31, bd31, pl31_0, pl31_1, pl31_2, pl31_3, pl31_4, pl31_5, pl31_6, Tryd.results34]
 simp [Nd.val, Nd.cs, Nd.vs, sl, v0, c0]
theorem zawz (hX : X 34 = none) (k n : Int) (s : ByteArray) (S : VH) (K : VCont) : Vcallee Tryd.prog X 34 [.agg ⟨[.int .i64 k, .int .i64 n, .string s]⟩] S K = K (.tuple ⟨[.agg ⟨(Nd.val ⟨k, n, s⟩).cs⟩, .bool true]⟩) [] S [] false := zaac (za10 hX k n s) rfl rfl (by simp only [zagg, zae1, List.all_cons, List.all_nil, nd_okv, zanh, Bool.and_true])
theorem za19 (h : PaOff X) (hT : TokOk T) (hl : T.length ≤ 1000) {n : Nat} (hn : n ≤ T.length) (bad : Int) {r : Except Nat (Nd × Nat)} (hp : Pr T fin sh .minus n r)
    (ho : ∀ r, Pr T fin sh .one n r → Out X T fin sh 28 [] n bad r) (hm : n < T.length → ∀ r, Pr T fin sh .minus (n + 1) r → Out X T fin sh 15 [] (n + 1) bad r) : Out X T fin sh 15 [] n bad r := by
 have w0 : IntKind.i64.wrap ((n : Int) + 0) = (n : Int) := zabu (by omega) (by omega)
 have sg := fun R l w K => zaj0 (T := T) (fin := fin) (sh := sh) h.sign h.kind w0 ⟨#[45]⟩ bad R l w K
 cases hp with
 | minusN hs h1 =>
  rw [hs] at sg
  have oo := ho r h1
  intro R
  cases r with
  | ok xm =>
   obtain ⟨x, m⟩ := xm
   have oc := fun R l w K => oo.c rfl rfl R l w K
   refine zaaw h.minus Tryd.func15 rfl (by kernel_rfl) (by show 1 ≤ _; decide) ?_
   simp -dsimp only [↓kpre, kpost, light, ret1, cellF, afill, setAll, simprocAttr, ↓zaoz, zao2, ↓cxpre, cxpost, List.length_map, ndl, ↓zamu, ↓zajh, zaf8, zajx, zahw, ↓sg, ↓oc]
  | error b =>
   obtain ⟨y, n', oc⟩ := oo.e rfl rfl
   refine Vf_out ?_
   refine zaaw h.minus Tryd.func15 rfl (by kernel_rfl) (by show 1 ≤ _; decide) ?_
   simp -dsimp only [↓kpre, kpost, light, ret1, cellF, afill, setAll, simprocAttr, ↓zaoz, zao2, ↓cxpre, cxpost, List.length_map, ndl, ↓zamu, ↓zajh, zaf8, zajx, zahw, ↓sg, ↓oc]
   exact ⟨_, _, rfl, rfl⟩
 | @minusO _ x m hs h1 =>
  rw [hs] at sg
  have hlt := sgn_lt hs
  obtain ⟨t, ht⟩ : ∃ t, T[n]? = some t := ⟨T[n], by simp [hlt]⟩
  have tk := fun R l w K => take_c (T := T) (fin := fin) (sh := sh) h.take ht hl bad R l w K
  have oc := fun R l w K => (hm hlt _ h1).c rfl rfl R l w K
  intro R
  refine zaaw h.minus Tryd.func15 rfl (by kernel_rfl) (by show 1 ≤ _; decide) ?_
  simp -dsimp only [↓kpre, kpost, light, ret1, cellF, afill, setAll, simprocAttr, ↓zaoz, zao2, ↓cxpre, cxpost, List.length_map, ndl, ↓zamu, ↓zajh, zaf8, zajx, zahw, ↓sg, ↓tk, ↓oc]
  simp [Nd.neg, Nd.cs, Nd.vs, sl, v0, c0]
 | @minusE _ b hs h1 =>
  rw [hs] at sg
  have hlt := sgn_lt hs
  obtain ⟨t, ht⟩ : ∃ t, T[n]? = some t := ⟨T[n], by simp [hlt]⟩
  have tk := fun R l w K => take_c (T := T) (fin := fin) (sh := sh) h.take ht hl bad R l w K
  obtain ⟨y, n', oc⟩ := (hm hlt _ h1).e rfl rfl
  intro R
  refine Vf_out ?_
  refine zaaw h.minus Tryd.func15 rfl (by kernel_rfl) (by show 1 ≤ _; decide) ?_
  simp -dsimp only [↓kpre, kpost, light, ret1, cellF, afill, setAll, simprocAttr, ↓zaoz, zao2, ↓cxpre, cxpost, List.length_map, ndl, ↓zamu, ↓zajh, zaf8, zajx, zahw, ↓sg, ↓tk, ↓oc]
  exact ⟨Nd.neg (y _), _, rfl, by simp [Nd.neg, Nd.cs, Nd.vs, sl, v0, c0]; rfl⟩
end
end Go.Proofs.YtliemjbafgnnbaaDoor.Abs
/- The program's parser: names of calls, calls. -/
namespace Go.Proofs.YtliemjbafgnnbaaDoor.Abs
open Go
def zafn := And.intro (And.intro (@val31) (@vfk18)) (And.intro (@vfk27) (And.intro (@vfk10) (@vfk11)))
def zafp := And.intro (And.intro (And.intro (And.intro (@vld29) (And.intro (@vgt29) (@vld31))) (And.intro (And.intro (@vgt31) (@vld3)) (And.intro (@vgt3) (@vst31)))) (And.intro (And.intro (@vst29) (And.intro (@zaph) (@zapo))) (And.intro (And.intro (@zagp) (@zagq)) (And.intro (@bd31) (@pl31_0))))) (And.intro (And.intro (And.intro (@pl31_1) (And.intro (@pl31_2) (@pl31_3))) (And.intro (And.intro (@pl31_4) (@pl31_5)) (And.intro (@pl31_6) (@vbd29)))) (And.intro (And.intro (@vlr29) (And.intro (@vlo29) (@vlz29))) (And.intro (And.intro (@vls29) (@vlw29)) (And.intro (@vap29) (@Tryd.results46)))))
attribute [local irreducible] Hold VReg Vf Vc VWP With VStp Vcallee Vp VE
theorem zarp {s : ByteArray} (h1 : 1 ≤ s.size) (h8 : s.size ≤ 8) (ht : s ≠ sTRUE) (hf : s ≠ sFALSE) (ha : ∀ i, i < s.size → atB greatB s i = true) : callN s = true := by
 simp only [callN, Bool.and_eq_true, decide_eq_true_eq, Bool.not_eq_true', decide_eq_false_iff_not, List.all_eq_true, List.mem_range]
 exact ⟨⟨⟨⟨by omega, by omega⟩, ht⟩, hf⟩, ha⟩
theorem zan5 {s : ByteArray} {i : Nat} (hi : i < s.size) (h : atB greatB s i = false) : callN s = false := by
 rw [Bool.eq_false_iff]
 intro hc
 simp only [callN, Bool.and_eq_true, List.all_eq_true, List.mem_range] at hc
 rw [hc.2 i hi] at h
 cases h
theorem zaro {s : ByteArray} (h : ¬ (1 ≤ s.size ∧ s.size ≤ 8)) : callN s = false := by
 rw [Bool.eq_false_iff]
 intro hc
 simp only [callN, Bool.and_eq_true, decide_eq_true_eq] at hc
 omega
theorem zazf {s : ByteArray} : s = .empty ↔ s.size = 0 := by
 constructor
 ·rintro rfl; rfl
 ·intro h; exact ByteArray.ext (Array.eq_empty_of_size_eq_zero h)
section
variable {X : VOuter} {T : List TK} {fin : Nat} {sh : ByteArray}
theorem za2l (hX : X 45 = none) (s : ByteArray) : Vp Tryd.prog X 45 [.string s] (.bool (callN s)) := by
 unfold Vp
 refine zaaw hX Tryd.func45 rfl (by kernel_rfl) (by show 1 ≤ _; decide) ?_
 by_cases h0 : s = .empty
 ·subst h0
  have hE : ByteArray.empty = ⟨#[]⟩ := _root_.id rfl
  simp -dsimp only [↓kpre, kpost, light, ret1, cellF, afill, setAll, simprocAttr, ix9, vlr9, Tryd.results45, ab_seq, ↓hE]
  rfl
 ·have hz : s.size ≠ 0 := fun h => h0 (zazf.2 h)
  have h0' : ¬ s = ⟨#[]⟩ := h0
  by_cases h8 : (8 : Int) < s.size
  ·simp -dsimp only [↓kpre, kpost, light, ret1, cellF, afill, setAll, simprocAttr, ix9, vlr9, Tryd.results45, ab_seq, h0, h0', h8]
   rw [zaro (by omega)]
  ·by_cases ht : s = ⟨#[84, 82, 85, 69]⟩
   ·subst ht
    simp -dsimp only [↓kpre, kpost, light, ret1, cellF, afill, setAll, simprocAttr, ix9, vlr9, Tryd.results45, ab_seq, h0, h0', h8]
    rfl
   ·by_cases hf : s = ⟨#[70, 65, 76, 83, 69]⟩
    ·subst hf
     simp -dsimp only [↓kpre, kpost, light, ret1, cellF, afill, setAll, simprocAttr, ix9, vlr9, Tryd.results45, ab_seq, h0, h0', h8, ht]
     rfl
    ·simp -dsimp only [↓kpre, kpost, light, ret1, cellF, afill, setAll, simprocAttr, ix9, vlr9, Tryd.results45, ab_seq, h0, h0', h8, ht, hf]
     refine zagn (fun m e S => ∃ i : Nat, m = s.size - i ∧ i ≤ s.size ∧ eget e 0 = .string s ∧ eget e 20 = .int .i64 s.size ∧ eget e 21 = .int .i64 i ∧ (∀ q, q < i → atB greatB s q = true) ∧ S = ⟨[], [], []⟩) s.size ?_ ?_
     ·refine ⟨0, rfl, Nat.zero_le _, ?_, ?_, ?_, fun q h => absurd h (Nat.not_lt_zero q), rfl⟩ <;> simp only [↓epre, epost, simprocAttr] <;> rfl
     ·rintro m e S ⟨i, rfl, hi, e0, e20, e21, hall, rfl⟩
      refine VWP_Vc _ _ _ _ ?_
      by_cases hin : i < s.size
      ·have hlt : (i : Int) < s.size := by omega
       have h0i : (0 : Int) ≤ i := by omega
       obtain ⟨b, hb⟩ := ba_get hin
       have hwr : IntKind.i64.wrap ((i : Int) + 1) = ((i + 1 : Nat) : Int) := zabu (by omega) (by omega)
       by_cases b1 : (b.toNat : Int) < 65
       ·simp -dsimp only [↓kpre, kpost, light, ret1, cellF, afill, setAll, simprocAttr, ix9, vlr9, Tryd.results45, e0, e20, e21, hlt, h0i, hb, hwr, b1]
        rw [zan5 hin (by rw [zaii hb]; simp [greatB]; omega)]
       ·by_cases b2 : (90 : Int) < b.toNat
        ·simp -dsimp only [↓kpre, kpost, light, ret1, cellF, afill, setAll, simprocAttr, ix9, vlr9, Tryd.results45, e0, e20, e21, hlt, h0i, hb, hwr, b1, b2]
         rw [zan5 hin (by rw [zaii hb]; simp [greatB]; omega)]
        ·simp -dsimp only [↓kpre, kpost, light, ret1, cellF, afill, setAll, simprocAttr, ix9, vlr9, Tryd.results45, e0, e20, e21, hlt, h0i, hb, hwr, b1, b2]
         refine ⟨s.size - (i + 1), by omega, i + 1, rfl, by omega, rfl, fun q hq => ?_⟩
         rcases Nat.lt_succ_iff_lt_or_eq.1 hq with hq | rfl
         ·exact hall q hq
         ·rw [zaii hb]; simp [greatB]; omega
      ·obtain rfl : i = s.size := by omega
       have hlt : ¬ ((s.size : Int) < s.size) := by omega
       simp -dsimp only [↓kpre, kpost, light, ret1, cellF, afill, setAll, simprocAttr, ix9, vlr9, Tryd.results45, e0, e20, e21, hlt]
       rw [zarp (by omega) (by omega) ht hf hall]
theorem za2k (hX : X 45 = none) (s : ByteArray) (S : VH) (K : VCont) : Vcallee Tryd.prog X 45 [.string s] S K = K (.bool (callN s)) [] S [] false := zaac (za2l hX s) rfl rfl rfl
theorem zafq (i o d sz : Nat) (l : List Value) (S : VH) (e : TypeId) : vlay i o [vo (d, none) sz 0 l] S e = some ⟨undef, [fate (fput i o [vo (d, none) sz 0 l])], S.put i (.cells true e (setAll (cellsIn (S.get i)) o [vo (i, some o) sz 0 l])), [i], false⟩ := by
 have hfo : foreign i o [vo (d, none) sz 0 l] = [] := rfl
 have hok : ∀ n' b, cellsOk n' b i o [vo (d, none) sz 0 l] = true := fun n' b => rfl
 unfold vlay
 simp only [hfo, if_true]
 rw [if_pos (hok _ _)]
 simp only [vput, zabr, zadf, zah2, List.append_nil, List.cons_ne_nil, if_false, List.nil_append]
 rfl
theorem zafr (i o sz : Nat) (l : List Value) (S : VH) (e : TypeId) : vlay i o [vo (i, some o) sz 0 l] S e = some ⟨undef, [fate (fput i o [vo (i, some o) sz 0 l])], S.put i (.cells true e (setAll (cellsIn (S.get i)) o [vo (i, some o) sz 0 l])), [i], false⟩ := by
 have hfo : foreign i o [vo (i, some o) sz 0 l] = [] := by
  simp only [foreign, ownTok, zabs, Option.isNone_some, Bool.false_or, decide_true, if_true, List.append_nil]
 have hok : ∀ n' b, cellsOk n' b i o [vo (i, some o) sz 0 l] = true := fun n' b => by
  simp [cellsOk, cellOk, zabs, ownTok, zadf]
 unfold vlay
 simp only [hfo, if_true]
 rw [if_pos (hok _ _)]
 simp only [vput, zabr, zadf, zah2, List.append_nil, List.cons_ne_nil, if_false, List.nil_append]
 rfl
theorem zaaa (g : Value → Value) (o : Bool) (e : TypeId) (c : List Value) : mapB g (.cells o e c) = .cells o e (c.map g) := _root_.id rfl
def slotF (q : Tok) (kids : List Nd) (v : Value) : Prop := (kids = [] ∧ v = .slice none 0 0) ∨ (kids ≠ [] ∧ v = vo q 13 0 (Nd.vs kids))
theorem zadd (l : List Nd) : (Nd.vs l).length = l.length := by rw [nd_vs, List.length_map]
theorem nvs_ne {l : List Nd} (h : l ≠ []) : Nd.vs l ≠ [] := by
 cases l with
 | nil => exact absurd rfl h
 | cons a l => simp [Nd.vs]
theorem zasw (l : List Nd) (x : Nd) : Nd.vs (l ++ [x]) = Nd.vs l ++ [.agg ⟨x.cs⟩] := by rw [nd_vs, nd_vs, List.map_append]; rfl
theorem call_w (h : PaOff X) (hT : TokOk T) (hl : T.length ≤ 1000) {n : Nat} {t : TK} (ht : T[n]? = some t) (hk : sgn T (n + 1) ⟨#[40]⟩ = true) (bad : Int) {r : Except Nat (Nd × Nat)} (hp : Pr T fin sh (.args t.t []) (n + 2) r)
    (hP : ∀ q, n < q → q ≤ T.length → ∀ r, Pr T fin sh (.pairs 0) q r → Out X T fin sh 10 [.int .i64 0] q bad r) : Out X T fin sh 46 [] n bad r := by
 have hlt := sgn_lt hk
 obtain ⟨t2, ht2⟩ : ∃ t2, T[n + 1]? = some t2 := ⟨T[n + 1], by simp [hlt]⟩
 have tk1 := fun R l w K => take_c (T := T) (fin := fin) (sh := sh) h.take ht hl bad R l w K
 have tk2 := fun R l w K => take_c (T := T) (fin := fin) (sh := sh) h.take ht2 hl bad R l w K
 have main : ∀ R, Vf Tryd.prog X 46 [p0] (cx (pbx T fin sh n bad) R) fun v ws => match r with
     | .ok (x, m) => ws = [(1, pbx T fin sh m bad)] ∧ v = .tuple ⟨[.agg ⟨x.cs⟩, .bool true]⟩
     | .error b => ∃ (y : Nd) (n' : Int), ws = [(1, pbx T fin sh n' b)] ∧ v = .tuple ⟨[.agg ⟨y.cs⟩, .bool false]⟩ := by
  intro R
  refine zaaw h.call Tryd.func46 rfl (by kernel_rfl) (by show 1 ≤ _; decide) ?_
  simp -dsimp only [↓kpre, kpost, light, ret1, cellF, afill, setAll, simprocAttr, ↓zafn, zafp, ↓cxpre, cxpost, List.length_map, ndl, ↓ndpre, ndow, ne_eq, not_false_eq_true, zaaa, zaa9, ↓zafq, ↓zafr, and_false, if_false, Option.isNone_some, ↓tk1, ↓tk2]
  refine zagn (fun m e S => ∃ (kids : List Nd) (q : Nat) (J : List Blk) (v : Value), m = T.length - q ∧ Pr T fin sh (.args t.t kids) q r ∧ n < q ∧ q ≤ T.length ∧ kids.length ≤ 19 ∧ slotF (cl R + 1, some 12) kids v ∧ eget e 0 = p0 ∧ eget e 2 = .pointer (some ⟨cl R, 0, none⟩) ∧ eget e 4 = .pointer (some ⟨cl R + 1, 0, none⟩) ∧
   S = ⟨cx (pbx T fin sh q bad) R, zbx :: .cells true 31 [.int .i64 6, .string .empty, .string t.t, .int .i64 0, .int .i64 0, .string .empty, .string .empty, .int .i64 0, .int .i64 0, .string .empty, .int .i64 0, .int .i64 0, v] :: J, [1]⟩) (T.length - (n + 2)) ?_ ?_
  ·refine ⟨[], n + 2, [], _, rfl, hp, by omega, by omega, by simp, .inl ⟨rfl, rfl⟩, ?_, ?_, ?_, ?_⟩
   ·simp only [↓epre, epost, simprocAttr]
   ·simp only [↓epre, epost, simprocAttr]
   ·simp only [↓epre, epost, simprocAttr]
   ·rfl
  ·rintro m e S ⟨kids, q, J, v, rfl, hq, hnq, hqT, hkl, hv, e0, e2, e4, rfl⟩
   refine VWP_Vc _ _ _ _ ?_
   have sg : ∀ (q : Nat), q ≤ 1000 → ∀ (u : ByteArray) R l w K, Vcallee Tryd.prog X _ [p0, .int .i64 0, .string u] ⟨cx (pbx T fin sh q bad) R, l, w⟩ K = K (.bool (sgn T q u)) [] ⟨cx (pbx T fin sh q bad) R, l, w⟩ [] false := fun q hq u R l w K => zaj0 (T := T) (fin := fin) (sh := sh) h.sign h.kind (zabu (j := 0) (by omega) (by omega)) u bad R l w K
   have sq := fun R l w K => sg q (by omega) ⟨#[41]⟩ R l w K
   have hne : ¬ (cl R + 1 = cl R) := by omega
   cases hq with
   | args0 hs =>
    rw [hs] at sq
    obtain ⟨t3, ht3⟩ : ∃ t3, T[q]? = some t3 := ⟨T[q]'(sgn_lt hs), by simp [sgn_lt hs]⟩
    have tk3 := fun R l w K => take_c (T := T) (fin := fin) (sh := sh) h.take ht3 hl bad R l w K
    rcases hv with ⟨_, rfl⟩ | ⟨h0, _⟩
    ·simp -dsimp only [↓kpre, kpost, light, ret1, cellF, afill, setAll, simprocAttr, ↓zafn, zafp, ↓cxpre, cxpost, List.length_map, ndl, ↓ndpre, ndow, ne_eq, not_false_eq_true, zaaa, zaa9, ↓zafq, ↓zafr, and_false, if_false, Option.isNone_some, e0, e2, e4, ↓sq, ↓tk3]
     simp [Nd.call, Nd.cs, Nd.vs, sl, v0, c0]
    ·exact absurd rfl h0
   | argsE hs h1 =>
    obtain ⟨y, n', oc⟩ := (hP q hnq hqT _ h1).e rfl rfl
    rcases hv with ⟨h0, rfl⟩ | ⟨h0, rfl⟩
    ·subst h0
     rw [hs rfl] at sq
     simp -dsimp only [↓kpre, kpost, light, ret1, cellF, afill, setAll, simprocAttr, ↓zafn, zafp, ↓cxpre, cxpost, List.length_map, ndl, ↓ndpre, ndow, ne_eq, not_false_eq_true, zaaa, zaa9, ↓zafq, ↓zafr, and_false, if_false, Option.isNone_some, e0, e2, e4, ↓sq, ↓oc]
     exact ⟨Nd.call t.t [], _, rfl, by simp [Nd.call, Nd.cs, Nd.vs, sl, v0, c0]⟩
    ·have hpos : (0 : Int) < (Nd.vs kids).length := by rw [zadd]; have := List.length_pos_iff.2 h0; omega
     generalize sgn T q ⟨#[41]⟩ = bs at sq
     cases bs
     ·simp -dsimp only [↓kpre, kpost, light, ret1, cellF, afill, setAll, simprocAttr, ↓zafn, zafp, ↓cxpre, cxpost, List.length_map, ndl, ↓ndpre, ndow, ne_eq, not_false_eq_true, zaaa, zaa9, ↓zafq, ↓zafr, and_false, if_false, Option.isNone_some, e0, e2, e4, ↓sq, ↓oc, hpos, hne]
      exact ⟨Nd.call t.t kids, _, rfl, by simp [Nd.call, Nd.cs, sl, v0, c0, nvs_ne h0]⟩
     ·simp -dsimp only [↓kpre, kpost, light, ret1, cellF, afill, setAll, simprocAttr, ↓zafn, zafp, ↓cxpre, cxpost, List.length_map, ndl, ↓ndpre, ndow, ne_eq, not_false_eq_true, zaaa, zaa9, ↓zafq, ↓zafr, and_false, if_false, Option.isNone_some, e0, e2, e4, ↓sq, ↓oc, hpos, hne]
      exact ⟨Nd.call t.t kids, _, rfl, by simp [Nd.call, Nd.cs, sl, v0, c0, nvs_ne h0]⟩
   | @argsZ _ _ _ x m' hs h1 h2 =>
    have oc := fun R l w K => (hP q hnq hqT _ h1).c rfl rfl R l w K
    have hon := h1.on _ _ rfl
    simp only [Gl.on] at hon
    have hm' : m' ≤ T.length := hon.2 hqT
    have sm := fun R l w K => sg m' (by omega) ⟨#[41]⟩ R l w K
    rw [h2] at sm
    obtain ⟨t3, ht3⟩ : ∃ t3, T[m']? = some t3 := ⟨T[m']'(sgn_lt h2), by simp [sgn_lt h2]⟩
    have tk3 := fun R l w K => take_c (T := T) (fin := fin) (sh := sh) h.take ht3 hl bad R l w K
    rcases hv with ⟨h0, rfl⟩ | ⟨h0, rfl⟩
    ·subst h0
     rw [hs rfl] at sq
     simp -dsimp only [↓kpre, kpost, light, ret1, cellF, afill, setAll, simprocAttr, ↓zafn, zafp, ↓cxpre, cxpost, List.length_map, ndl, ↓ndpre, ndow, ne_eq, not_false_eq_true, zaaa, zaa9, ↓zafq, ↓zafr, and_false, if_false, Option.isNone_some, e0, e2, e4, ↓sq, ↓oc, ↓sm, ↓tk3, hne]
     simp [Nd.call, Nd.cs, Nd.vs, sl, v0, c0]
    ·have hpos : (0 : Int) < (Nd.vs kids).length := by rw [zadd]; have := List.length_pos_iff.2 h0; omega
     have hcap : ((Nd.vs kids).length + (0 + 1)) * 160 ≤ 140737488355328 := by rw [zadd]; omega
     have hcap2 : (Nd.vs kids).length + (0 + 1) ≤ 9223372036854775807 := by rw [zadd]; omega
     generalize sgn T q ⟨#[41]⟩ = bs at sq
     cases bs
     all_goals
      simp -dsimp only [↓kpre, kpost, light, ret1, cellF, afill, setAll, simprocAttr, ↓zafn, zafp, ↓cxpre, cxpost, List.length_map, ndl, ↓ndpre, ndow, ne_eq, not_false_eq_true, zaaa, zaa9, ↓zafq, ↓zafr, and_false, if_false, Option.isNone_some, e0, e2, e4, ↓sq, ↓oc, ↓sm, ↓tk3, hpos, hne, hcap, hcap2, zahx, zagi]
      simp [Nd.call, Nd.cs, zasw, sl, v0, c0]
   | @argsS _ _ _ x m' hs h1 h2 h3 =>
    have oc := fun R l w K => (hP q hnq hqT _ h1).c rfl rfl R l w K
    have hon := h1.on _ _ rfl
    simp only [Gl.on] at hon
    have hm' : m' ≤ T.length := hon.2 hqT
    have sm := fun R l w K => sg m' (by omega) ⟨#[41]⟩ R l w K
    have sn := fun R l w K => sg m' (by omega) ⟨#[44]⟩ R l w K
    have fl := fun R l w K => fail_c (T := T) (fin := fin) (sh := sh) h.fail (m' : Int) m' bad R l w K
    rw [h2] at sm
    rcases hv with ⟨h0, rfl⟩ | ⟨h0, rfl⟩
    ·subst h0
     rw [hs rfl] at sq
     have h3' : sgn T m' ⟨#[44]⟩ = false := by simpa using h3
     rw [h3'] at sn
     simp -dsimp only [↓kpre, kpost, light, ret1, cellF, afill, setAll, simprocAttr, ↓zafn, zafp, ↓cxpre, cxpost, List.length_map, ndl, ↓ndpre, ndow, ne_eq, not_false_eq_true, zaaa, zaa9, ↓zafq, ↓zafr, and_false, if_false, Option.isNone_some, e0, e2, e4, ↓sq, ↓oc, ↓sm, ↓sn, ↓fl, hne]
     exact ⟨Nd.zero, _, rfl, rfl⟩
    ·have hpos : (0 : Int) < (Nd.vs kids).length := by rw [zadd]; have := List.length_pos_iff.2 h0; omega
     have hcap : ((Nd.vs kids).length + (0 + 1)) * 160 ≤ 140737488355328 := by rw [zadd]; omega
     have hcap2 : (Nd.vs kids).length + (0 + 1) ≤ 9223372036854775807 := by rw [zadd]; omega
     have hll : (Nd.vs kids ++ [Value.agg ⟨x.cs⟩]).length = kids.length + 1 := by rw [List.length_append, zadd]; rfl
     generalize sgn T q ⟨#[41]⟩ = bs at sq
     cases hc : sgn T m' ⟨#[44]⟩
     ·rw [hc] at sn
      cases bs
      all_goals
       simp -dsimp only [↓kpre, kpost, light, ret1, cellF, afill, setAll, simprocAttr, ↓zafn, zafp, ↓cxpre, cxpost, List.length_map, ndl, ↓ndpre, ndow, ne_eq, not_false_eq_true, zaaa, zaa9, ↓zafq, ↓zafr, and_false, if_false, Option.isNone_some, e0, e2, e4, ↓sq, ↓oc, ↓sm, ↓sn, ↓fl, hpos, hne, hcap, hcap2, hll, zahx, zagi]
       exact ⟨Nd.zero, _, rfl, rfl⟩
     ·rw [hc] at sn h3
      have h20 : ((((kids.length + 1 : Nat) : Int) == 20) = true) := by
       simp at h3
       rw [h3]
       rfl
      have h20' : ((kids.length + 1 : Nat) : Int) = 20 := by simpa using h20
      cases bs
      all_goals
       simp -dsimp only [↓kpre, kpost, light, ret1, cellF, afill, setAll, simprocAttr, ↓zafn, zafp, ↓cxpre, cxpost, List.length_map, ndl, ↓ndpre, ndow, ne_eq, not_false_eq_true, zaaa, zaa9, ↓zafq, ↓zafr, and_false, if_false, Option.isNone_some, e0, e2, e4, ↓sq, ↓oc, ↓sm, ↓sn, ↓fl, hpos, hne, hcap, hcap2, ↓hll, h20', zahx, zagi]
       exact ⟨Nd.zero, _, rfl, rfl⟩
   | @argsC _ _ _ x m' _ hs h1 h2 h3 h4 h5 =>
    have oc := fun R l w K => (hP q hnq hqT _ h1).c rfl rfl R l w K
    have hon := h1.on _ _ rfl
    simp only [Gl.on] at hon
    have hm' : m' ≤ T.length := hon.2 hqT
    have sm := fun R l w K => sg m' (by omega) ⟨#[41]⟩ R l w K
    have sn := fun R l w K => sg m' (by omega) ⟨#[44]⟩ R l w K
    rw [h2] at sm
    rw [h3] at sn
    have hlt3 := sgn_lt h3
    obtain ⟨t3, ht3⟩ : ∃ t3, T[m']? = some t3 := ⟨T[m']'hlt3, by simp [hlt3]⟩
    have tk3 := fun R l w K => take_c (T := T) (fin := fin) (sh := sh) h.take ht3 hl bad R l w K
    have hdone : ∀ J', ∃ k, k < T.length - q ∧ ∃ (kids' : List Nd) (q' : Nat) (J'' : List Blk) (v' : Value), k = T.length - q' ∧ Pr T fin sh (.args t.t kids') q' r ∧ n < q' ∧ q' ≤ T.length ∧ kids'.length ≤ 19 ∧ slotF (cl R + 1, some 12) kids' v' ∧
        (⟨cx (pbx T fin sh (m' + 1 : Nat) bad) R, zbx :: .cells true 31 [.int .i64 6, .string .empty, .string t.t, .int .i64 0, .int .i64 0, .string .empty, .string .empty, .int .i64 0, .int .i64 0, .string .empty, .int .i64 0, .int .i64 0, vo (cl R + 1, some 12) 13 0 (Nd.vs kids ++ [.agg ⟨x.cs⟩])] :: J', [1]⟩ : VH) =
        ⟨cx (pbx T fin sh q' bad) R, zbx :: .cells true 31 [.int .i64 6, .string .empty, .string t.t, .int .i64 0, .int .i64 0, .string .empty, .string .empty, .int .i64 0, .int .i64 0, .string .empty, .int .i64 0, .int .i64 0, v'] :: J'', [1]⟩ :=
     fun J' => ⟨T.length - (m' + 1), by omega, kids ++ [x], m' + 1, J', _, rfl, h5, by omega, by omega, by simp; omega, .inr ⟨by simp, by rw [zasw]⟩, rfl⟩
    rcases hv with ⟨h0, rfl⟩ | ⟨h0, rfl⟩
    ·subst h0
     rw [hs rfl] at sq
     simp -dsimp only [↓kpre, kpost, light, ret1, cellF, afill, setAll, simprocAttr, ↓zafn, zafp, ↓cxpre, cxpost, List.length_map, ndl, ↓ndpre, ndow, ne_eq, not_false_eq_true, zaaa, zaa9, ↓zafq, ↓zafr, and_false, if_false, Option.isNone_some, e0, e2, e4, ↓sq, ↓oc, ↓sm, ↓sn, ↓tk3, hne]
     exact hdone _
    ·have hpos : (0 : Int) < (Nd.vs kids).length := by rw [zadd]; have := List.length_pos_iff.2 h0; omega
     have hcap : ((Nd.vs kids).length + (0 + 1)) * 160 ≤ 140737488355328 := by rw [zadd]; omega
     have hcap2 : (Nd.vs kids).length + (0 + 1) ≤ 9223372036854775807 := by rw [zadd]; omega
     have hll : (Nd.vs kids ++ [Value.agg ⟨x.cs⟩]).length = kids.length + 1 := by rw [List.length_append, zadd]; rfl
     have h20 : ¬ ((kids.length + 1 : Nat) : Int) = 20 := by omega
     generalize sgn T q ⟨#[41]⟩ = bs at sq
     cases bs
     all_goals
      simp -dsimp only [↓kpre, kpost, light, ret1, cellF, afill, setAll, simprocAttr, ↓zafn, zafp, ↓cxpre, cxpost, List.length_map, ndl, ↓ndpre, ndow, ne_eq, not_false_eq_true, zaaa, zaa9, ↓zafq, ↓zafr, and_false, if_false, Option.isNone_some, e0, e2, e4, ↓sq, ↓oc, ↓sm, ↓sn, ↓tk3, hpos, hne, hcap, hcap2, ↓hll, h20, zahx, zagi]
      exact hdone _
 intro R
 cases r with
 | ok xm => exact main R
 | error b => exact Vf_out (main R)
end
end Go.Proofs.YtliemjbafgnnbaaDoor.Abs
/- The program's parser: what begins with a word; what no op joins. -/
namespace Go.Proofs.YtliemjbafgnnbaaDoor.Abs
open Go
def zabv := And.intro (And.intro (And.intro (@val31) (@vfk18)) (And.intro (@vfk44) (@vfk34))) (And.intro (And.intro (@vfk27) (@vfk45)) (And.intro (@vfk46) (@vfk38)))
def zabx := And.intro (And.intro (And.intro (And.intro (@vld38) (And.intro (@vgt38) (@vld3))) (And.intro (And.intro (@vgt3) (@vld9)) (And.intro (@vgt9) (@vld31)))) (And.intro (And.intro (And.intro (@vgt31) (@vst31)) (And.intro (@vst3) (@zah3))) (And.intro (And.intro (@zah4) (@zagp)) (And.intro (@zagq) (@zaje))))) (And.intro (And.intro (And.intro (And.intro (@zajj) (@za3a)) (And.intro (@za3l) (@bd31))) (And.intro (And.intro (@pl31_0) (@pl31_1)) (And.intro (@pl31_2) (@pl31_3)))) (And.intro (And.intro (And.intro (@pl31_4) (@pl31_5)) (And.intro (@pl31_6) (@vix38))) (And.intro (And.intro (@vio38) (@vis38)) (And.intro (@viw38) (@Tryd.results37)))))
attribute [local irreducible] Hold VReg Vf Vc VWP With VStp Vcallee Vp VE SeqK BlkK FinK NormK
section
variable {X : VOuter} {T : List TK} {fin : Nat} {sh : ByteArray}
theorem Out.ok {f : FuncId} {args : List Value} {n : Nat} {bad : Int} {x : Nd} {m : Nat} (h : ∀ R, Vf Tryd.prog X f (p0 :: args) (cx (pbx T fin sh n bad) R) fun v ws => ws = [(1, pbx T fin sh m bad)] ∧ v = .tuple ⟨[.agg ⟨x.cs⟩, .bool true]⟩) : Out X T fin sh f args n bad (.ok (x, m)) := h
theorem Out.er {f : FuncId} {args : List Value} {n : Nat} {bad : Int} {b : Nat} (h : ∀ R, Vf Tryd.prog X f (p0 :: args) (cx (pbx T fin sh n bad) R) fun v ws => ∃ (y : Nd) (n' : Int), ws = [(1, pbx T fin sh n' b)] ∧ v = .tuple ⟨[.agg ⟨y.cs⟩, .bool false]⟩) : Out X T fin sh f args n bad (.error b) := fun R => Vf_out (h R)
theorem sgn_k5 {n : Nat} {t : TK} {u : ByteArray} (ht : T[n]? = some t) (h : sgn T n u = true) : t.k = 5 := by
 simp [sgn, ht] at h; exact h.1
theorem word_w (h : PaOff X) (hT : TokOk T) (hl : T.length ≤ 1000) {n : Nat} {t : TK} (ht : T[n]? = some t) (hk3 : t.k = 3) (bad : Int) {r : Except Nat (Nd × Nat)} (hp : Pr T fin sh .one n r)
    (hC : ∀ r, callN t.t = true → sgn T (n + 1) ⟨#[40]⟩ = true → Pr T fin sh (.args t.t []) (n + 2) r → Out X T fin sh 46 [] n bad r) : Out X T fin sh 37 [] n bad r := by
 have hn := (List.getElem?_eq_some_iff.1 ht).1
 have h0 : (0 : Int) ≤ n := by omega
 have hx : (T.map TK.v)[n]? = some (.agg ⟨[.int .i64 t.k, .int .i64 t.a, .string t.t]⟩) := by rw [List.getElem?_map, ht]; rfl
 have tk := fun R l w K => take_c (T := T) (fin := fin) (sh := sh) h.take ht hl bad R l w K
 have w1 : IntKind.i64.wrap ((n : Int) + 1) = ((n + 1 : Nat) : Int) := zabu (by omega) (by omega)
 have w2 : IntKind.i64.wrap ((n : Int) + 2) = ((n + 2 : Nat) : Int) := zabu (by omega) (by omega)
 have sg := fun u R l w K => zaj0 (T := T) (fin := fin) (sh := sh) h.sign h.kind w1 u bad R l w K
 have ab : ∀ b S K, _ := fun b S K => zay3 (S := S) (K := K) h.bool b
 have pc := fun S K => za2k h.pcall t.t S K
 have cc := fun k n s S K => zawz h.const k n s S K
 have hTF : ¬ (⟨#[70, 65, 76, 83, 69]⟩ : ByteArray) = ⟨#[84, 82, 85, 69]⟩ := by decide
 have hRT : ¬ (⟨#[82, 69, 70]⟩ : ByteArray) = ⟨#[84, 82, 85, 69]⟩ := by decide
 have hRF : ¬ (⟨#[82, 69, 70]⟩ : ByteArray) = ⟨#[70, 65, 76, 83, 69]⟩ := by decide
 have same : ∀ {t'}, T[n]? = some t' → t' = t := fun h' => by rw [ht] at h'; cases h'; rfl
 cases hp with
 | yes ht' hk he =>
  cases same ht'
  refine Out.ok fun R => ?_
  refine zaao h.word Tryd.func37 rfl (by kernel_rfl) (by show 1 ≤ _; decide) ?_
  simp only [sTRUE] at he
  rw [he] at hx tk
  simp -dsimp only [↓kpre, kpost, light, ret1, cellF, afill, setAll, simprocAttr, ↓zabv, zabx, ↓cxpre, cxpost, List.length_map, ndl, ↓ndpre, ndow, ne_eq, not_false_eq_true]
  refine zaaj [[], [], [], [], [], [], [], [], [], [], [], []] false (by kernel_rfl) (by kernel_rfl) (by kernel_rfl) ?_
  simp -dsimp only [↓kpre, kpost, light, ret1, cellF, afill, setAll, simprocAttr, ↓opre, opost, vspan, ↓zabv, zabx, ↓cxpre, cxpost, List.length_map, ndl, ↓ndpre, ndow, ne_eq, not_false_eq_true, h0, hx, ab_seq, ↓tk, ↓ab, ↓cc]
  rfl
 | no ht' hk he =>
  cases same ht'
  refine Out.ok fun R => ?_
  refine zaao h.word Tryd.func37 rfl (by kernel_rfl) (by show 1 ≤ _; decide) ?_
  simp only [sFALSE] at he
  rw [he] at hx tk
  simp -dsimp only [↓kpre, kpost, light, ret1, cellF, afill, setAll, simprocAttr, ↓zabv, zabx, ↓cxpre, cxpost, List.length_map, ndl, ↓ndpre, ndow, ne_eq, not_false_eq_true]
  refine zaaj [[], [], [], [], [], [], [], [], [], [], [], []] false (by kernel_rfl) (by kernel_rfl) (by kernel_rfl) ?_
  simp -dsimp only [↓kpre, kpost, light, ret1, cellF, afill, setAll, simprocAttr, ↓opre, opost, vspan, ↓zabv, zabx, ↓cxpre, cxpost, List.length_map, ndl, ↓ndpre, ndow, ne_eq, not_false_eq_true, h0, hx, ab_seq, hTF, ↓tk, ↓ab, ↓cc]
  rfl
 | lost ht' hk he hs =>
  cases same ht'
  refine Out.ok fun R => ?_
  refine zaao h.word Tryd.func37 rfl (by kernel_rfl) (by show 1 ≤ _; decide) ?_
  simp only [sREF] at he
  rw [he] at hx
  have sg1 := sg ⟨#[33]⟩
  rw [hs] at sg1
  simp -dsimp only [↓kpre, kpost, light, ret1, cellF, afill, setAll, simprocAttr, ↓zabv, zabx, ↓cxpre, cxpost, List.length_map, ndl, ↓ndpre, ndow, ne_eq, not_false_eq_true]
  refine zaaj [[], [], [], [], [], [], [], [], [], [], [], []] false (by kernel_rfl) (by kernel_rfl) (by kernel_rfl) ?_
  simp -dsimp only [↓kpre, kpost, light, ret1, cellF, afill, setAll, simprocAttr, ↓opre, opost, vspan, ↓zabv, zabx, ↓cxpre, cxpost, List.length_map, ndl, ↓ndpre, ndow, ne_eq, not_false_eq_true, h0, hx, ab_seq, hRT, hRF, ↓sg1, w2]
  simp [Nd.bad, Nd.cs, Nd.vs, sl, v0, c0]
 | call ht' hk hc hs h1 =>
  cases same ht'
  have nT : ¬ t.t = ⟨#[84, 82, 85, 69]⟩ := fun e => by rw [e] at hc; revert hc; decide
  have nF : ¬ t.t = ⟨#[70, 65, 76, 83, 69]⟩ := fun e => by rw [e] at hc; revert hc; decide
  have sg1 := sg ⟨#[33]⟩
  have sg2 := sg ⟨#[40]⟩
  have h33 : sgn T (n + 1) ⟨#[33]⟩ = false := by
   cases h33 : sgn T (n + 1) ⟨#[33]⟩ with
   | false => rfl
   | true =>
    unfold sgn at hs h33
    split at hs
    ·rename_i t' ht'
     rw [ht'] at h33
     simp only [Bool.and_eq_true, decide_eq_true_eq] at hs h33
     rw [hs.2] at h33
     exact absurd h33.2 (by decide)
    ·cases hs
  rw [h33] at sg1
  rw [hs] at sg2
  rw [hc] at pc
  have oo := hC _ hc hs h1
  cases r with
  | ok xm =>
   obtain ⟨x, m⟩ := xm
   have oc := fun R l w K => oo.c rfl rfl R l w K
   refine Out.ok fun R => ?_
   refine zaao h.word Tryd.func37 rfl (by kernel_rfl) (by show 1 ≤ _; decide) ?_
   by_cases hR : t.t = ⟨#[82, 69, 70]⟩
   ·rw [hR] at hx pc
    simp -dsimp only [↓kpre, kpost, light, ret1, cellF, afill, setAll, simprocAttr, ↓zabv, zabx, ↓cxpre, cxpost, List.length_map, ndl, ↓ndpre, ndow, ne_eq, not_false_eq_true]
    refine zaaj [[], [], [], [], [], [], [], [], [], [], [], []] false (by kernel_rfl) (by kernel_rfl) (by kernel_rfl) ?_
    simp -dsimp only [↓kpre, kpost, light, ret1, cellF, afill, setAll, simprocAttr, ↓opre, opost, vspan, ↓zabv, zabx, ↓cxpre, cxpost, List.length_map, ndl, ↓ndpre, ndow, ne_eq, not_false_eq_true, h0, hx, ab_seq, hRT, hRF, ↓sg1, ↓sg2, ↓pc, ↓oc, w1]
   ·simp -dsimp only [↓kpre, kpost, light, ret1, cellF, afill, setAll, simprocAttr, ↓zabv, zabx, ↓cxpre, cxpost, List.length_map, ndl, ↓ndpre, ndow, ne_eq, not_false_eq_true]
    refine zaaj [[], [], [], [], [], [], [], [], [], [], [], []] false (by kernel_rfl) (by kernel_rfl) (by kernel_rfl) ?_
    simp -dsimp only [↓kpre, kpost, light, ret1, cellF, afill, setAll, simprocAttr, ↓opre, opost, vspan, ↓zabv, zabx, ↓cxpre, cxpost, List.length_map, ndl, ↓ndpre, ndow, ne_eq, not_false_eq_true, h0, hx, ab_seq, nT, nF, hR, ↓sg1, ↓sg2, ↓pc, ↓oc, w1]
  | error b =>
   obtain ⟨y, n', oc⟩ := oo.e rfl rfl
   refine Out.er fun R => ?_
   refine zaao h.word Tryd.func37 rfl (by kernel_rfl) (by show 1 ≤ _; decide) ?_
   by_cases hR : t.t = ⟨#[82, 69, 70]⟩
   ·rw [hR] at hx pc
    simp -dsimp only [↓kpre, kpost, light, ret1, cellF, afill, setAll, simprocAttr, ↓zabv, zabx, ↓cxpre, cxpost, List.length_map, ndl, ↓ndpre, ndow, ne_eq, not_false_eq_true]
    refine zaaj [[], [], [], [], [], [], [], [], [], [], [], []] false (by kernel_rfl) (by kernel_rfl) (by kernel_rfl) ?_
    simp -dsimp only [↓kpre, kpost, light, ret1, cellF, afill, setAll, simprocAttr, ↓opre, opost, vspan, ↓zabv, zabx, ↓cxpre, cxpost, List.length_map, ndl, ↓ndpre, ndow, ne_eq, not_false_eq_true, h0, hx, ab_seq, hRT, hRF, ↓sg1, ↓sg2, ↓pc, ↓oc, w1]
    exact ⟨_, _, rfl, rfl⟩
   ·simp -dsimp only [↓kpre, kpost, light, ret1, cellF, afill, setAll, simprocAttr, ↓zabv, zabx, ↓cxpre, cxpost, List.length_map, ndl, ↓ndpre, ndow, ne_eq, not_false_eq_true]
    refine zaaj [[], [], [], [], [], [], [], [], [], [], [], []] false (by kernel_rfl) (by kernel_rfl) (by kernel_rfl) ?_
    simp -dsimp only [↓kpre, kpost, light, ret1, cellF, afill, setAll, simprocAttr, ↓opre, opost, vspan, ↓zabv, zabx, ↓cxpre, cxpost, List.length_map, ndl, ↓ndpre, ndow, ne_eq, not_false_eq_true, h0, hx, ab_seq, nT, nF, hR, ↓sg1, ↓sg2, ↓pc, ↓oc, w1]
    exact ⟨_, _, rfl, rfl⟩
 | word ht' hk e1 e2 e3 e4 =>
  cases same ht'
  have nT : ¬ t.t = ⟨#[84, 82, 85, 69]⟩ := e1
  have nF : ¬ t.t = ⟨#[70, 65, 76, 83, 69]⟩ := e2
  have sg1 := sg ⟨#[33]⟩
  have sg2 := sg ⟨#[40]⟩
  simp only [sREF] at e3
  have oo := cell_p (fin := fin) (sh := sh) h hT hl n 0 (by omega) (by omega) sh bad
  generalize cellG T fin sh n 0 = r at oo
  have body : ∀ R, Vf Tryd.prog X 37 [p0] (cx (pbx T fin sh n bad) R) fun v ws => match r with
      | .ok (x, m) => ws = [(1, pbx T fin sh m bad)] ∧ v = .tuple ⟨[.agg ⟨x.cs⟩, .bool true]⟩
      | .error b => ∃ (y : Nd) (n' : Int), ws = [(1, pbx T fin sh n' b)] ∧ v = .tuple ⟨[.agg ⟨y.cs⟩, .bool false]⟩ := by
   intro R
   refine zaao h.word Tryd.func37 rfl (by kernel_rfl) (by show 1 ≤ _; decide) ?_
   cases r with
   | ok xm =>
    obtain ⟨x, m⟩ := xm
    have oc := fun R l w K => oo.c (by simp only [zaal, zabf, zabj, zady]) (by simp only [zabr, zadf, zacr, zaes, List.append_nil]) R l w K
    simp only [Int.natCast_zero] at oc
    by_cases hR : t.t = ⟨#[82, 69, 70]⟩
    ·have h33 : sgn T (n + 1) ⟨#[33]⟩ = false := by simpa [hR] using e3
     rw [h33] at sg1
     have hcf : callN ⟨#[82, 69, 70]⟩ = true := by decide
     have h40 : sgn T (n + 1) ⟨#[40]⟩ = false := by simpa [hR, hcf] using e4
     rw [h40] at sg2
     rw [hR] at pc hx
     rw [hcf] at pc
     simp -dsimp only [↓kpre, kpost, light, ret1, cellF, afill, setAll, simprocAttr, ↓zabv, zabx, ↓cxpre, cxpost, List.length_map, ndl, ↓ndpre, ndow, ne_eq, not_false_eq_true]
     refine zaaj [[], [], [], [], [], [], [], [], [], [], [], []] false (by kernel_rfl) (by kernel_rfl) (by kernel_rfl) ?_
     simp -dsimp only [↓kpre, kpost, light, ret1, cellF, afill, setAll, simprocAttr, ↓opre, opost, vspan, ↓zabv, zabx, ↓cxpre, cxpost, List.length_map, ndl, ↓ndpre, ndow, ne_eq, not_false_eq_true, h0, hx, ab_seq, hRT, hRF, ↓sg1, ↓sg2, ↓pc, ↓oc, w1]
    ·cases hcf : callN t.t with
     | false =>
      rw [hcf] at pc
      simp -dsimp only [↓kpre, kpost, light, ret1, cellF, afill, setAll, simprocAttr, ↓zabv, zabx, ↓cxpre, cxpost, List.length_map, ndl, ↓ndpre, ndow, ne_eq, not_false_eq_true]
      refine zaaj [[], [], [], [], [], [], [], [], [], [], [], []] false (by kernel_rfl) (by kernel_rfl) (by kernel_rfl) ?_
      simp -dsimp only [↓kpre, kpost, light, ret1, cellF, afill, setAll, simprocAttr, ↓opre, opost, vspan, ↓zabv, zabx, ↓cxpre, cxpost, List.length_map, ndl, ↓ndpre, ndow, ne_eq, not_false_eq_true, h0, hx, ab_seq, nT, nF, hR, ↓sg1, ↓sg2, ↓pc, ↓oc, w1]
     | true =>
      have h40 : sgn T (n + 1) ⟨#[40]⟩ = false := by simpa [hcf] using e4
      rw [h40] at sg2
      rw [hcf] at pc
      simp -dsimp only [↓kpre, kpost, light, ret1, cellF, afill, setAll, simprocAttr, ↓zabv, zabx, ↓cxpre, cxpost, List.length_map, ndl, ↓ndpre, ndow, ne_eq, not_false_eq_true]
      refine zaaj [[], [], [], [], [], [], [], [], [], [], [], []] false (by kernel_rfl) (by kernel_rfl) (by kernel_rfl) ?_
      simp -dsimp only [↓kpre, kpost, light, ret1, cellF, afill, setAll, simprocAttr, ↓opre, opost, vspan, ↓zabv, zabx, ↓cxpre, cxpost, List.length_map, ndl, ↓ndpre, ndow, ne_eq, not_false_eq_true, h0, hx, ab_seq, nT, nF, hR, ↓sg1, ↓sg2, ↓pc, ↓oc, w1]
   | error b =>
    obtain ⟨y, n', oc⟩ := oo.e (by simp only [zaal, zabf, zabj, zady]) (by simp only [zabr, zadf, zacr, zaes, List.append_nil])
    simp only [Int.natCast_zero] at oc
    by_cases hR : t.t = ⟨#[82, 69, 70]⟩
    ·have h33 : sgn T (n + 1) ⟨#[33]⟩ = false := by simpa [hR] using e3
     rw [h33] at sg1
     have hcf : callN ⟨#[82, 69, 70]⟩ = true := by decide
     have h40 : sgn T (n + 1) ⟨#[40]⟩ = false := by simpa [hR, hcf] using e4
     rw [h40] at sg2
     rw [hR] at pc hx
     rw [hcf] at pc
     simp -dsimp only [↓kpre, kpost, light, ret1, cellF, afill, setAll, simprocAttr, ↓zabv, zabx, ↓cxpre, cxpost, List.length_map, ndl, ↓ndpre, ndow, ne_eq, not_false_eq_true]
     refine zaaj [[], [], [], [], [], [], [], [], [], [], [], []] false (by kernel_rfl) (by kernel_rfl) (by kernel_rfl) ?_
     simp -dsimp only [↓kpre, kpost, light, ret1, cellF, afill, setAll, simprocAttr, ↓opre, opost, vspan, ↓zabv, zabx, ↓cxpre, cxpost, List.length_map, ndl, ↓ndpre, ndow, ne_eq, not_false_eq_true, h0, hx, ab_seq, hRT, hRF, ↓sg1, ↓sg2, ↓pc, ↓oc, w1]
     exact ⟨_, _, rfl, rfl⟩
    ·cases hcf : callN t.t with
     | false =>
      rw [hcf] at pc
      simp -dsimp only [↓kpre, kpost, light, ret1, cellF, afill, setAll, simprocAttr, ↓zabv, zabx, ↓cxpre, cxpost, List.length_map, ndl, ↓ndpre, ndow, ne_eq, not_false_eq_true]
      refine zaaj [[], [], [], [], [], [], [], [], [], [], [], []] false (by kernel_rfl) (by kernel_rfl) (by kernel_rfl) ?_
      simp -dsimp only [↓kpre, kpost, light, ret1, cellF, afill, setAll, simprocAttr, ↓opre, opost, vspan, ↓zabv, zabx, ↓cxpre, cxpost, List.length_map, ndl, ↓ndpre, ndow, ne_eq, not_false_eq_true, h0, hx, ab_seq, nT, nF, hR, ↓sg1, ↓sg2, ↓pc, ↓oc, w1]
      exact ⟨_, _, rfl, rfl⟩
     | true =>
      have h40 : sgn T (n + 1) ⟨#[40]⟩ = false := by simpa [hcf] using e4
      rw [h40] at sg2
      rw [hcf] at pc
      simp -dsimp only [↓kpre, kpost, light, ret1, cellF, afill, setAll, simprocAttr, ↓zabv, zabx, ↓cxpre, cxpost, List.length_map, ndl, ↓ndpre, ndow, ne_eq, not_false_eq_true]
      refine zaaj [[], [], [], [], [], [], [], [], [], [], [], []] false (by kernel_rfl) (by kernel_rfl) (by kernel_rfl) ?_
      simp -dsimp only [↓kpre, kpost, light, ret1, cellF, afill, setAll, simprocAttr, ↓opre, opost, vspan, ↓zabv, zabx, ↓cxpre, cxpost, List.length_map, ndl, ↓ndpre, ndow, ne_eq, not_false_eq_true, h0, hx, ab_seq, nT, nF, hR, ↓sg1, ↓sg2, ↓pc, ↓oc, w1]
      exact ⟨_, _, rfl, rfl⟩
  intro R
  cases r with
  | ok xm => exact body R
  | error b => exact Vf_out (body R)
 | num ht' hk _ => cases same ht'; omega
 | numE ht' hk _ => cases same ht'; omega
 | text ht' hk => cases same ht'; omega
 | name ht' hk => cases same ht'; omega
 | nameE ht' hk => cases same ht'; omega
 | sign ht' hk => cases same ht'; omega
 | fin h' => rw [ht] at h'; cases h'
 | par hs => have := sgn_k5 ht hs; omega
 | parE hs => have := sgn_k5 ht hs; omega
 | parF hs => have := sgn_k5 ht hs; omega
end
end Go.Proofs.YtliemjbafgnnbaaDoor.Abs
/- The program's parser: what no op joins. -/
namespace Go.Proofs.YtliemjbafgnnbaaDoor.Abs
open Go
def zac3 := And.intro (And.intro (And.intro (@val31) (And.intro (@vfk16) (@vfk33))) (And.intro (@vfk11) (And.intro (@vfk18) (@vfk35)))) (And.intro (And.intro (@vfk34) (And.intro (@vfk36) (@vfk37))) (And.intro (And.intro (@vfk9) (@vfk27)) (And.intro (@vfk38) (@vfk10))))
def zac4 := And.intro (And.intro (And.intro (And.intro (@vld38) (@vgt38)) (And.intro (@vld3) (And.intro (@vgt3) (@vld9)))) (And.intro (And.intro (@vgt9) (@vld31)) (And.intro (@vgt31) (And.intro (@vst31) (@zah3))))) (And.intro (And.intro (And.intro (@zah4) (@zagp)) (And.intro (@zagq) (And.intro (@zaje) (@zajj)))) (And.intro (And.intro (@vix38) (@vio38)) (And.intro (@vis38) (And.intro (@viw38) (@Tryd.results28)))))
attribute [local irreducible] Hold VReg Vf Vc VWP With VStp Vcallee Vp VE SeqK BlkK FinK NormK
section
variable {X : VOuter} {T : List TK} {fin : Nat} {sh : ByteArray}
theorem one_w (h : PaOff X) (hT : TokOk T) (hl : T.length ≤ 1000) {n : Nat} (hn : n ≤ T.length) (bad : Int) {r : Except Nat (Nd × Nat)} (hp : Pr T fin sh .one n r)
    (hP : ∀ q, n < q → q ≤ T.length → ∀ r, Pr T fin sh (.pairs 0) q r → Out X T fin sh 10 [.int .i64 0] q bad r) : Out X T fin sh 28 [] n bad r := by
 have h0 : (0 : Int) ≤ n := by omega
 have w0 : IntKind.i64.wrap ((n : Int) + 0) = (n : Int) := zabu (by omega) (by omega)
 have w1 : IntKind.i64.wrap ((n : Int) + 1) = ((n + 1 : Nat) : Int) := zabu (by omega) (by omega)
 have kc := fun R l w K => kind_c (T := T) (fin := fin) (sh := sh) h.kind w0 bad R l w K
 have hword : ∀ {t}, T[n]? = some t → t.k = 3 → Out X T fin sh 37 [] n bad r := fun {t} ht hk => word_w h hT hl ht hk bad hp fun r hc hs hpp => call_w h hT hl ht hs bad hpp hP
 have fl := fun R l w K => fail_c (T := T) (fin := fin) (sh := sh) h.fail (n : Int) n bad R l w K
 have cc := fun k n s S K => zawz h.const k n s S K
 have ic := fun n S K => int_c (S := S) (K := K) h.int n
 have sg : ∀ (q : Nat), q ≤ 1000 → ∀ (u : ByteArray) R l w K, Vcallee Tryd.prog X _ [p0, .int .i64 0, .string u] ⟨cx (pbx T fin sh q bad) R, l, w⟩ K = K (.bool (sgn T q u)) [] ⟨cx (pbx T fin sh q bad) R, l, w⟩ [] false := fun q hq u R l w K => zaj0 (T := T) (fin := fin) (sh := sh) h.sign h.kind (zabu (j := 0) (by omega) (by omega)) u bad R l w K
 have s1 := fun u R l w K => zaj0 (T := T) (fin := fin) (sh := sh) h.sign h.kind w1 u bad R l w K
 obtain ⟨ms, hms⟩ := err_ms
 have hx : ∀ {t}, T[n]? = some t → (T.map TK.v)[n]? = some (.agg ⟨[.int .i64 t.k, .int .i64 t.a, .string t.t]⟩) := fun ht => by rw [List.getElem?_map, ht]; rfl
 have tk := fun {t} (ht : T[n]? = some t) R l w K => take_c (T := T) (fin := fin) (sh := sh) h.take ht hl bad R l w K
 have hkk : ∀ {t}, T[n]? = some t → kindT T n = t.k := fun ht => by simp [kindT, ht]
 have hat : ∀ {t}, T[n]? = some t → atT T fin n = t.a := fun ht => by simp [atT, ht]
 have wordcase : ∀ {t}, T[n]? = some t → t.k = 3 → Out X T fin sh 28 [] n bad r := by
  intro t ht hk
  have oo := hword ht hk
  rw [hkk ht, hk] at kc
  cases r with
  | ok xm =>
   obtain ⟨x, m⟩ := xm
   have oc := fun R l w K => oo.c rfl rfl R l w K
   refine Out.ok fun R => ?_
   refine zaao h.one Tryd.func28 rfl (by kernel_rfl) (by show 1 ≤ _; decide) ?_
   simp -dsimp only [↓kpre, kpost, light, ret1, cellF, afill, setAll, simprocAttr, ↓zac3, zac4, ↓cxpre, cxpost, List.length_map, ndl, ↓ndpre, ndow, ne_eq, not_false_eq_true, ↓kc, ↓oc]
  | error b =>
   obtain ⟨y, n', oc⟩ := oo.e rfl rfl
   refine Out.er fun R => ?_
   refine zaao h.one Tryd.func28 rfl (by kernel_rfl) (by show 1 ≤ _; decide) ?_
   simp -dsimp only [↓kpre, kpost, light, ret1, cellF, afill, setAll, simprocAttr, ↓zac3, zac4, ↓cxpre, cxpost, List.length_map, ndl, ↓ndpre, ndow, ne_eq, not_false_eq_true, ↓kc, ↓oc]
   exact ⟨_, _, rfl, rfl⟩
 cases hp with
 | @num _ t v ht hk hv =>
  have hs := hT.size t (List.mem_of_getElem? ht)
  have at' := fun S K => h.atoi t.t (by omega) S K
  simp only [atoiV, hv] at at'
  have hx := hx ht
  have tk := tk ht
  rw [hkk ht, hk] at kc
  refine Out.ok fun R => ?_
  refine zaao h.one Tryd.func28 rfl (by kernel_rfl) (by show 1 ≤ _; decide) ?_
  simp -dsimp only [↓kpre, kpost, light, ret1, cellF, afill, setAll, simprocAttr, ↓zac3, zac4, ↓cxpre, cxpost, List.length_map, ndl, ↓ndpre, ndow, ne_eq, not_false_eq_true, ↓kc]
  refine zaaj [[], [], [], [], [], [], [], [], [], [], [], [], [], [], [], [], []] false (by kernel_rfl) (by kernel_rfl) (by kernel_rfl) ?_
  simp -dsimp only [↓kpre, kpost, light, ret1, cellF, afill, setAll, simprocAttr, ↓opre, opost, vspan, ↓zac3, zac4, ↓cxpre, cxpost, List.length_map, ndl, ↓ndpre, ndow, ne_eq, not_false_eq_true, ↓kc, h0, hx, ↓at', zadg, zae0, ↓tk, ↓ic, ↓cc]
  rfl
 | @numE _ t ht hk hv =>
  have hs := hT.size t (List.mem_of_getElem? ht)
  have at' := fun S K => h.atoi t.t (by omega) S K
  simp only [atoiV, hv] at at'
  have hx := hx ht
  rw [hkk ht, hk] at kc
  rw [hat ht] at fl
  refine Out.er fun R => ?_
  refine zaao h.one Tryd.func28 rfl (by kernel_rfl) (by show 1 ≤ _; decide) ?_
  simp -dsimp only [↓kpre, kpost, light, ret1, cellF, afill, setAll, simprocAttr, ↓zac3, zac4, ↓cxpre, cxpost, List.length_map, ndl, ↓ndpre, ndow, ne_eq, not_false_eq_true, ↓kc]
  refine zaaj [[], [], [], [], [], [], [], [], [], [], [], [], [], [], [], [], []] false (by kernel_rfl) (by kernel_rfl) (by kernel_rfl) ?_
  simp -dsimp only [↓kpre, kpost, light, ret1, cellF, afill, setAll, simprocAttr, ↓opre, opost, vspan, ↓zac3, zac4, ↓cxpre, cxpost, List.length_map, ndl, ↓ndpre, ndow, ne_eq, not_false_eq_true, ↓kc, h0, hx, ↓at', zadg, zajd _ _ hms, ↓fl]
  exact ⟨Nd.zero, _, rfl, rfl⟩
 | @text _ t ht hk =>
  have hs := hT.size t (List.mem_of_getElem? ht)
  have tc := fun S K => za20 (S := S) (K := K) h.text t.t hs
  have tk := tk ht
  rw [hkk ht, hk] at kc
  refine Out.ok fun R => ?_
  refine zaao h.one Tryd.func28 rfl (by kernel_rfl) (by show 1 ≤ _; decide) ?_
  simp -dsimp only [↓kpre, kpost, light, ret1, cellF, afill, setAll, simprocAttr, ↓zac3, zac4, ↓cxpre, cxpost, List.length_map, ndl, ↓ndpre, ndow, ne_eq, not_false_eq_true, ↓kc, ↓tk, ↓tc, ↓cc]
 | yes ht hk => exact wordcase ht hk
 | no ht hk => exact wordcase ht hk
 | lost ht hk => exact wordcase ht hk
 | call ht hk => exact wordcase ht hk
 | word ht hk => exact wordcase ht hk
 | @name _ t ht hk hn' hs =>
  have hx := hx ht
  rw [hkk ht, hk] at kc
  have nc := fun S K => name_c (S := S) (K := K) h.n.name t.t
  rw [hn'] at nc
  have s1' := s1 ⟨#[33]⟩
  rw [hs] at s1'
  have oo := cell_p (fin := fin) (sh := sh) h hT hl n 2 (by omega) (by omega) t.t bad
  generalize cellG T fin t.t n 2 = r at oo
  cases r with
  | ok xm =>
   obtain ⟨x, m⟩ := xm
   have oc := fun R l w K => oo.c (by simp only [zaal, zabf, zabj, zady]) (by simp only [zabr, zadf, zacr, zaes, List.append_nil]) R l w K
   simp only [Int.cast_ofNat_Int] at oc
   refine Out.ok fun R => ?_
   refine zaao h.one Tryd.func28 rfl (by kernel_rfl) (by show 1 ≤ _; decide) ?_
   simp -dsimp only [↓kpre, kpost, light, ret1, cellF, afill, setAll, simprocAttr, ↓zac3, zac4, ↓cxpre, cxpost, List.length_map, ndl, ↓ndpre, ndow, ne_eq, not_false_eq_true, ↓kc]
   refine zaaj [[], [], [], [], [], [], [], [], [], [], [], [], [], [], [], [], [], []] false (by kernel_rfl) (by kernel_rfl) (by kernel_rfl) ?_
   simp -dsimp only [↓kpre, kpost, light, ret1, cellF, afill, setAll, simprocAttr, ↓opre, opost, vspan, ↓zac3, zac4, ↓cxpre, cxpost, List.length_map, ndl, ↓ndpre, ndow, ne_eq, not_false_eq_true, h0, hx, ↓nc, ↓s1']
   refine zaaj [[], [], [], [], [], [], [], [], [], [], [], [], [], [], [], [], []] false (by kernel_rfl) (by kernel_rfl) (by kernel_rfl) ?_
   simp -dsimp only [↓kpre, kpost, light, ret1, cellF, afill, setAll, simprocAttr, ↓opre, opost, vspan, ↓zac3, zac4, ↓cxpre, cxpost, List.length_map, ndl, ↓ndpre, ndow, ne_eq, not_false_eq_true, h0, hx, ↓oc]
  | error b =>
   obtain ⟨y, n', oc⟩ := oo.e (by simp only [zaal, zabf, zabj, zady]) (by simp only [zabr, zadf, zacr, zaes, List.append_nil])
   simp only [Int.cast_ofNat_Int] at oc
   refine Out.er fun R => ?_
   refine zaao h.one Tryd.func28 rfl (by kernel_rfl) (by show 1 ≤ _; decide) ?_
   simp -dsimp only [↓kpre, kpost, light, ret1, cellF, afill, setAll, simprocAttr, ↓zac3, zac4, ↓cxpre, cxpost, List.length_map, ndl, ↓ndpre, ndow, ne_eq, not_false_eq_true, ↓kc]
   refine zaaj [[], [], [], [], [], [], [], [], [], [], [], [], [], [], [], [], [], []] false (by kernel_rfl) (by kernel_rfl) (by kernel_rfl) ?_
   simp -dsimp only [↓kpre, kpost, light, ret1, cellF, afill, setAll, simprocAttr, ↓opre, opost, vspan, ↓zac3, zac4, ↓cxpre, cxpost, List.length_map, ndl, ↓ndpre, ndow, ne_eq, not_false_eq_true, h0, hx, ↓nc, ↓s1']
   refine zaaj [[], [], [], [], [], [], [], [], [], [], [], [], [], [], [], [], []] false (by kernel_rfl) (by kernel_rfl) (by kernel_rfl) ?_
   simp -dsimp only [↓kpre, kpost, light, ret1, cellF, afill, setAll, simprocAttr, ↓opre, opost, vspan, ↓zac3, zac4, ↓cxpre, cxpost, List.length_map, ndl, ↓ndpre, ndow, ne_eq, not_false_eq_true, h0, hx, ↓oc]
   exact ⟨_, _, rfl, rfl⟩
 | @nameE _ t ht hk hs =>
  have hx := hx ht
  rw [hkk ht, hk] at kc
  rw [hat ht] at fl
  have nc := fun S K => name_c (S := S) (K := K) h.n.name t.t
  have s1' := s1 ⟨#[33]⟩
  refine Out.er fun R => ?_
  refine zaao h.one Tryd.func28 rfl (by kernel_rfl) (by show 1 ≤ _; decide) ?_
  simp -dsimp only [↓kpre, kpost, light, ret1, cellF, afill, setAll, simprocAttr, ↓zac3, zac4, ↓cxpre, cxpost, List.length_map, ndl, ↓ndpre, ndow, ne_eq, not_false_eq_true, ↓kc]
  refine zaaj [[], [], [], [], [], [], [], [], [], [], [], [], [], [], [], [], [], []] false (by kernel_rfl) (by kernel_rfl) (by kernel_rfl) ?_
  cases hn' : nameF t.t with
  | false =>
   rw [hn'] at nc
   simp -dsimp only [↓kpre, kpost, light, ret1, cellF, afill, setAll, simprocAttr, ↓opre, opost, vspan, ↓zac3, zac4, ↓cxpre, cxpost, List.length_map, ndl, ↓ndpre, ndow, ne_eq, not_false_eq_true, h0, hx, ↓nc, ↓s1', ↓fl]
   exact ⟨Nd.zero, _, rfl, rfl⟩
  | true =>
   rw [hn'] at nc hs
   rw [Bool.true_and] at hs
   rw [hs] at s1'
   simp -dsimp only [↓kpre, kpost, light, ret1, cellF, afill, setAll, simprocAttr, ↓opre, opost, vspan, ↓zac3, zac4, ↓cxpre, cxpost, List.length_map, ndl, ↓ndpre, ndow, ne_eq, not_false_eq_true, h0, hx, ↓nc, ↓s1', ↓fl]
   exact ⟨Nd.zero, _, rfl, rfl⟩
 | @par _ x m hs h1 h2 =>
  have hlt := sgn_lt hs
  obtain ⟨t, ht⟩ : ∃ t, T[n]? = some t := ⟨T[n], by simp [hlt]⟩
  have tk := tk ht
  rw [hkk ht, sgn_k5 ht hs] at kc
  have sn := sg n (by omega) ⟨#[40]⟩
  rw [hs] at sn
  have hon := h1.on _ _ rfl
  simp only [Gl.on] at hon
  have hm' : m ≤ T.length := hon.2 (by omega)
  have sm := sg m (by omega) ⟨#[41]⟩
  rw [h2] at sm
  obtain ⟨t2, ht2⟩ : ∃ t, T[m]? = some t := ⟨T[m]'(sgn_lt h2), by simp [sgn_lt h2]⟩
  have tk2 := fun R l w K => take_c (T := T) (fin := fin) (sh := sh) h.take ht2 hl bad R l w K
  have oc := fun R l w K => (hP (n + 1) (by omega) (by omega) _ h1).c rfl rfl R l w K
  refine Out.ok fun R => ?_
  refine zaao h.one Tryd.func28 rfl (by kernel_rfl) (by show 1 ≤ _; decide) ?_
  simp -dsimp only [↓kpre, kpost, light, ret1, cellF, afill, setAll, simprocAttr, ↓zac3, zac4, ↓cxpre, cxpost, List.length_map, ndl, ↓ndpre, ndow, ne_eq, not_false_eq_true, ↓kc, ↓sn, ↓tk, ↓oc, ↓sm, ↓tk2]
 | @parE _ b hs h1 =>
  have hlt := sgn_lt hs
  obtain ⟨t, ht⟩ : ∃ t, T[n]? = some t := ⟨T[n], by simp [hlt]⟩
  have tk := tk ht
  rw [hkk ht, sgn_k5 ht hs] at kc
  have sn := sg n (by omega) ⟨#[40]⟩
  rw [hs] at sn
  obtain ⟨y, n', oc⟩ := (hP (n + 1) (by omega) (by omega) _ h1).e rfl rfl
  refine Out.er fun R => ?_
  refine zaao h.one Tryd.func28 rfl (by kernel_rfl) (by show 1 ≤ _; decide) ?_
  simp -dsimp only [↓kpre, kpost, light, ret1, cellF, afill, setAll, simprocAttr, ↓zac3, zac4, ↓cxpre, cxpost, List.length_map, ndl, ↓ndpre, ndow, ne_eq, not_false_eq_true, ↓kc, ↓sn, ↓tk, ↓oc]
  exact ⟨_, _, rfl, rfl⟩
 | @parF _ x m hs h1 h2 =>
  have hlt := sgn_lt hs
  obtain ⟨t, ht⟩ : ∃ t, T[n]? = some t := ⟨T[n], by simp [hlt]⟩
  have tk := tk ht
  rw [hkk ht, sgn_k5 ht hs] at kc
  have sn := sg n (by omega) ⟨#[40]⟩
  rw [hs] at sn
  have hon := h1.on _ _ rfl
  simp only [Gl.on] at hon
  have hm' : m ≤ T.length := hon.2 (by omega)
  have sm := sg m (by omega) ⟨#[41]⟩
  rw [h2] at sm
  have flm := fun R l w K => fail_c (T := T) (fin := fin) (sh := sh) h.fail (m : Int) m bad R l w K
  have oc := fun R l w K => (hP (n + 1) (by omega) (by omega) _ h1).c rfl rfl R l w K
  refine Out.er fun R => ?_
  refine zaao h.one Tryd.func28 rfl (by kernel_rfl) (by show 1 ≤ _; decide) ?_
  simp -dsimp only [↓kpre, kpost, light, ret1, cellF, afill, setAll, simprocAttr, ↓zac3, zac4, ↓cxpre, cxpost, List.length_map, ndl, ↓ndpre, ndow, ne_eq, not_false_eq_true, ↓kc, ↓sn, ↓tk, ↓oc, ↓sm, ↓flm]
  exact ⟨Nd.zero, _, rfl, rfl⟩
 | fin ht =>
  have hk0 : kindT T n = 0 := by simp [kindT, ht]
  have ha : atT T fin n = fin := by simp [atT, ht]
  rw [hk0] at kc
  rw [ha] at fl
  have sn := sg n (by omega) ⟨#[40]⟩
  have hsf : sgn T n ⟨#[40]⟩ = false := by simp [sgn, ht]
  rw [hsf] at sn
  refine Out.er fun R => ?_
  refine zaao h.one Tryd.func28 rfl (by kernel_rfl) (by show 1 ≤ _; decide) ?_
  simp -dsimp only [↓kpre, kpost, light, ret1, cellF, afill, setAll, simprocAttr, ↓zac3, zac4, ↓cxpre, cxpost, List.length_map, ndl, ↓ndpre, ndow, ne_eq, not_false_eq_true, ↓kc, ↓sn, ↓fl]
  exact ⟨Nd.zero, _, rfl, rfl⟩
 | @sign _ t ht hk hs =>
  rw [hkk ht, hk] at kc
  rw [hat ht] at fl
  have sn := sg n (by omega) ⟨#[40]⟩
  rw [hs] at sn
  refine Out.er fun R => ?_
  refine zaao h.one Tryd.func28 rfl (by kernel_rfl) (by show 1 ≤ _; decide) ?_
  simp -dsimp only [↓kpre, kpost, light, ret1, cellF, afill, setAll, simprocAttr, ↓zac3, zac4, ↓cxpre, cxpost, List.length_map, ndl, ↓ndpre, ndow, ne_eq, not_false_eq_true, ↓kc, ↓sn, ↓fl]
  exact ⟨Nd.zero, _, rfl, rfl⟩
end
end Go.Proofs.YtliemjbafgnnbaaDoor.Abs
