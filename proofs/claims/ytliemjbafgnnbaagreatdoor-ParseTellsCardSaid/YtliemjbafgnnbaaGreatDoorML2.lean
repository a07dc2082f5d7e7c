/- The program's parser: cells and ranges. -/
import Derived.Test.YtliemjbafgnnbaaGreatDoorML1
import Derived.Test.YtliemjbafgnnbaaGreatDoorPW29
import Derived.Test.YtliemjbafgnnbaaGreatDoorMW7
set_option linter.defProp false
set_option linter.unnecessarySimpa false
set_option linter.unusedSimpArgs false
set_option linter.unusedVariables false
set_option maxRecDepth 4000
set_option maxHeartbeats 0
namespace Go.Proofs.YtliemjbafgnnbaaGreatDoor.Abs
open Go
def zanp := And.intro (@val26) (And.intro (@vfk25) (@vfk88))
def zanv := And.intro (And.intro (And.intro (And.intro (@vld39) (And.intro (@vgt39) (@vld3))) (And.intro (@vgt3) (And.intro (@vld9) (@vgt9)))) (And.intro (And.intro (@vld26) (And.intro (@vgt26) (@vst26))) (And.intro (@zai2) (And.intro (@zai4) (@zahe))))) (And.intro (And.intro (And.intro (@zahf) (And.intro (@zagi) (@zagj))) (And.intro (@bd26) (And.intro (@pl26_0) (@pl26_1)))) (And.intro (And.intro (@pl26_2) (And.intro (@vix39) (@vio39))) (And.intro (@vis39) (And.intro (@viw39) (@Tryz.results75)))))
def zano := And.intro (And.intro (@val29) (And.intro (@val26) (@vfk75))) (And.intro (@vfk13) (And.intro (@vfk50) (@vfk76)))
def zanu := And.intro (And.intro (And.intro (And.intro (@vld3) (@vgt3)) (And.intro (@vld26) (And.intro (@vgt26) (@vld29)))) (And.intro (And.intro (@vgt29) (And.intro (@vst26) (@vst29))) (And.intro (@vst3) (And.intro (@zahe) (@zahf))))) (And.intro (And.intro (And.intro (@bd29) (And.intro (@pl29_0) (@pl29_1))) (And.intro (@pl29_2) (And.intro (@pl29_3) (@pl29_4)))) (And.intro (And.intro (@pl29_5) (And.intro (@pl29_6) (@bd77))) (And.intro (@pl77_0) (And.intro (@pl77_1) (@Tryz.results62)))))
attribute [local irreducible] Hold VReg Vf Vc VWP With VStp Vcallee Vp VE
def atoiW (s : ByteArray) : Int := match Lib.atoiAll s.data.toList with
 | .range => Lib.atoiSat s.data.toList
 | _ => 0
structure PaOff (X : VOuter) : Prop where
 pairs : X 12 = none
 minus : X 24 = none
 one : X 51 = none
 word : X 61 = none
 cell : X 62 = none
 call : X 74 = none
 plc : X 75 = none
 kind : X 25 = none
 sign : X 50 = none
 take : X 27 = none
 fail : X 13 = none
 scon : X 26 = none
 sidx : X 52 = none
 ranks : X 23 = none
 const : X 58 = none
 pcall : X 73 = none
 int : X 59 = none
 bool : X 72 = none
 text : X 60 = none
 n : NOff X
 small : X 76 = none
 rd : ∀ t : ByteArray, t.size ≤ 1000 → ∀ S K, Vcallee Tryz.prog X 88 [.string t] S K = K (tripF (atF t)) [] S [] false
 atoi : ∀ t : ByteArray, t.size ≤ 1000 → ∀ S K, Vcallee Tryz.prog X 57 [.string t] S K = K (atoiV 112 atoiW t) [] S [] false
section
variable (X : VOuter) (T : List TK) (fin : Nat) (sh : ByteArray)
def Out (f : FuncId) (args : List Value) (n : Nat) (bad : Int) (r : Except Nat (Nd × Nat)) : Prop := ∀ R, match r with
 | .ok (x, m) => Vf Tryz.prog X f (p0 :: args) (cx (pbx T fin sh n bad) R) fun v ws => ws = [(1, pbx T fin sh m bad)] ∧ v = .tuple ⟨[.agg ⟨x.cs⟩, .bool true]⟩
 | .error b => ∃ (y : Nd) (n' : Int), Vf Tryz.prog X f (p0 :: args) (cx (pbx T fin sh n bad) R) fun v ws => ws = [(1, pbx T fin sh n' b)] ∧ v = .tuple ⟨[.agg ⟨y.cs⟩, .bool false]⟩
end
section
variable {X : VOuter} {T : List TK} {fin : Nat} {sh : ByteArray}
theorem Out.c {f : FuncId} {args : List Value} {n : Nat} {bad : Int} {x : Nd} {m : Nat} (h : Out X T fin sh f args n bad (.ok (x, m))) (ha : mapOwnL (lend false) args = args) (ht : toksL args = []) (R l : List Blk) (w : List Nat) (K : VCont) :
    Vcallee Tryz.prog X f (p0 :: args) ⟨cx (pbx T fin sh n bad) R, l, w⟩ K = K (.tuple ⟨[.agg ⟨x.cs⟩, .bool true]⟩) [dropBoxes [1]] ⟨cx (pbx T fin sh m bad) R, l, addW 1 w⟩ [1] false := zad4 (h (cat R l)) ha ht (zaqa _ _ _)
theorem Out.e {f : FuncId} {args : List Value} {n : Nat} {bad : Int} {b : Nat} (h : Out X T fin sh f args n bad (.error b)) (ha : mapOwnL (lend false) args = args) (ht : toksL args = []) : ∃ (y : List Blk → Nd) (n' : List Blk → Int), ∀ (R l : List Blk) (w : List Nat) (K : VCont),
    Vcallee Tryz.prog X f (p0 :: args) ⟨cx (pbx T fin sh n bad) R, l, w⟩ K = K (.tuple ⟨[.agg ⟨(y (cat R l)).cs⟩, .bool false]⟩) [dropBoxes [1]] ⟨cx (pbx T fin sh (n' (cat R l)) b) R, l, addW 1 w⟩ [1] false := by
 have h' : ∀ R, ∃ (y : Nd) (n' : Int), Vf Tryz.prog X f (p0 :: args) (cx (pbx T fin sh n bad) R) fun v ws => ws = [(1, pbx T fin sh n' b)] ∧ v = .tuple ⟨[.agg ⟨y.cs⟩, .bool false]⟩ := h
 refine ⟨fun R => Classical.choose (h' R), fun R => Classical.choose (Classical.choose_spec (h' R)), fun R l w K => ?_⟩
 exact zad4 (Classical.choose_spec (Classical.choose_spec (h' (cat R l)))) ha ht (zaqa _ _ _)
theorem zasl {q : Nat} {c r : Int} (h : placeT T q = some (c, r)) : ∃ t, T[q]? = some t ∧ t.k = 3 ∧ atF t.t = some (c, r) := by
 unfold placeT at h
 split at h
 ·rename_i t ht
  split at h
  ·rename_i hk; exact ⟨t, ht, hk, h⟩
  ·cases h
 ·cases h
theorem plc_ok (h : PaOff X) (hT : TokOk T) {n q : Nat} {j : Int} (hw : IntKind.i64.wrap ((n : Int) + j) = q) {c r : Int} (hp : placeT T q = some (c, r)) (s : ByteArray) (bad : Int) (R : List Blk) :
    Vf Tryz.prog X 75 [p0, .int .i64 j, .string s] (cx (pbx T fin sh n bad) R) fun v ws => ws = [] ∧ v = .tuple ⟨[.agg ⟨[.string s, .int .i64 c, .int .i64 r]⟩, .bool true]⟩ := by
 refine zaay h.plc Tryz.func75 rfl (by kernel_rfl) (by show 3 ≤ _; decide) ?_
 obtain ⟨t, ht, hk, ha⟩ := zasl hp
 have h0 : (0 : Int) ≤ q := by omega
 have hx : (T.map TK.v)[q]? = some t.v := by rw [List.getElem?_map, ht]; rfl
 have kc := fun R l w K => kind_c (T := T) (fin := fin) (sh := sh) h.kind hw bad R l w K
 have hs := hT.size t (List.mem_of_getElem? ht)
 have hat := fun S K => h.rd t.t (by omega) S K
 rw [ha] at hat
 have hkk : kindT T q = 3 := by simp [kindT, ht, hk]
 rw [hkk] at kc
 obtain ⟨k, a, u⟩ := t
 simp only [TK.v] at hx hat
 simp only [tripF] at hat
 simp -dsimp only [↓kpre, kpost, light, ret1, cellF, afill, setAll, simprocAttr, ↓zanp, zanv, ↓cxpre, cxpost, List.length_map, ↓kc]
 refine zado [[], [], [], [], [], [], [], [], [], [], [], [], [], [], [], [], [], [], [], [], []] false (by kernel_rfl) (by kernel_rfl) (by kernel_rfl) ?_
 simp -dsimp only [↓kpre, kpost, light, ret1, cellF, afill, setAll, simprocAttr, ↓opre, opost, vspan, ↓zanp, zanv, ↓cxpre, cxpost, List.length_map, ↓kc, hw, h0, hx, ↓hat]
theorem plc_no (h : PaOff X) (hT : TokOk T) {n q : Nat} {j : Int} (hw : IntKind.i64.wrap ((n : Int) + j) = q) (hp : placeT T q = none) (s : ByteArray) : ∃ s' : ByteArray, ∀ (bad : Int) (R : List Blk),
    Vf Tryz.prog X 75 [p0, .int .i64 j, .string s] (cx (pbx T fin sh n bad) R) fun v ws => ws = [] ∧ v = .tuple ⟨[.agg ⟨[.string s', .int .i64 0, .int .i64 0]⟩, .bool false]⟩ := by
 have h0 : (0 : Int) ≤ q := by omega
 by_cases hk : kindT T q = 3
 ·refine ⟨s, fun bad R => ?_⟩
  refine zaay h.plc Tryz.func75 rfl (by kernel_rfl) (by show 3 ≤ _; decide) ?_
  have kc := fun R l w K => kind_c (T := T) (fin := fin) (sh := sh) h.kind hw bad R l w K
  rw [hk] at kc
  cases ht : T[q]? with
  | none => simp [kindT, ht] at hk
  | some t =>
   have hx : (T.map TK.v)[q]? = some t.v := by rw [List.getElem?_map, ht]; rfl
   have hs := hT.size t (List.mem_of_getElem? ht)
   have hat := fun S K => h.rd t.t (by omega) S K
   have ha : atF t.t = none := by
    simp only [kindT, ht] at hk
    simpa [placeT, ht, hk] using hp
   rw [ha] at hat
   obtain ⟨k, a, u⟩ := t
   simp only [TK.v] at hx hat
   simp only [tripF] at hat
   simp -dsimp only [↓kpre, kpost, light, ret1, cellF, afill, setAll, simprocAttr, ↓zanp, zanv, ↓cxpre, cxpost, List.length_map, ↓kc]
   refine zado [[], [], [], [], [], [], [], [], [], [], [], [], [], [], [], [], [], [], [], [], []] false (by kernel_rfl) (by kernel_rfl) (by kernel_rfl) ?_
   simp -dsimp only [↓kpre, kpost, light, ret1, cellF, afill, setAll, simprocAttr, ↓opre, opost, vspan, ↓zanp, zanv, ↓cxpre, cxpost, List.length_map, ↓kc, hw, h0, hx, ↓hat]
 ·refine ⟨.empty, fun bad R => ?_⟩
  refine zaay h.plc Tryz.func75 rfl (by kernel_rfl) (by show 3 ≤ _; decide) ?_
  have kc := fun R l w K => kind_c (T := T) (fin := fin) (sh := sh) h.kind hw bad R l w K
  generalize kindT T q = kk at hk kc
  simp -dsimp only [↓kpre, kpost, light, ret1, cellF, afill, setAll, simprocAttr, ↓zanp, zanv, ↓cxpre, cxpost, List.length_map, ↓kc, hk]
theorem cell_p (h : PaOff X) (hT : TokOk T) (hl : T.length ≤ 1000) (n ahead : Nat) (hn : n ≤ T.length) (ha : ahead ≤ 2) (s : ByteArray) (bad : Int) : Out X T fin sh 62 [.string s, .int .i64 ahead] n bad (cellG T fin s n ahead) := by
 have f0 := fun n bad R l w K => fail_c (T := T) (fin := fin) (sh := sh) h.fail n (q := n.toNat) bad R l w K
 have fl := fun R l w K => fail_c (T := T) (fin := fin) (sh := sh) h.fail (n : Int) n bad R l w K
 have w0 : IntKind.i64.wrap ((n : Int) + ahead) = ((n + ahead : Nat) : Int) := zaaq (by omega) (by omega)
 have a1 : IntKind.i64.wrap ((ahead : Int) + 1) = ((ahead + 1 : Nat) : Int) := zaaq (by omega) (by omega)
 have a2 : IntKind.i64.wrap ((ahead : Int) + 2) = ((ahead + 2 : Nat) : Int) := zaaq (by omega) (by omega)
 have a3 : IntKind.i64.wrap ((ahead : Int) + 3) = ((ahead + 3 : Nat) : Int) := zaaq (by omega) (by omega)
 have w1 : IntKind.i64.wrap ((n : Int) + ((ahead + 1 : Nat) : Int)) = ((n + ahead + 1 : Nat) : Int) := zaaq (by omega) (by omega)
 have w2 : IntKind.i64.wrap ((n : Int) + ((ahead + 2 : Nat) : Int)) = ((n + ahead + 2 : Nat) : Int) := zaaq (by omega) (by omega)
 have w3 : IntKind.i64.wrap ((n : Int) + ((ahead + 3 : Nat) : Int)) = ((n + ahead + 3 : Nat) : Int) := zaaq (by omega) (by omega)
 have sg := fun R l w K => zale (T := T) (fin := fin) (sh := sh) h.sign h.kind w1 ⟨#[58]⟩ bad R l w K
 unfold Out
 intro R
 unfold cellG
 cases hp : placeT T (n + ahead) with
 | none =>
  obtain ⟨s', pl⟩ := plc_no (fin := fin) (sh := sh) h hT w0 hp s
  have pc := fun R l w K => zadd (K := K) (w := w) (pl bad (cat R l)) rfl rfl
  refine ⟨Nd.zero, n, ?_⟩
  refine zaay h.cell Tryz.func62 rfl (by kernel_rfl) (by show 3 ≤ _; decide) ?_
  simp -dsimp only [↓kpre, kpost, light, ret1, cellF, afill, setAll, simprocAttr, ↓zano, zanu, ↓cxpre, cxpost, List.length_map, ndl, ↓pc, ↓fl]
 | some cr =>
  obtain ⟨c, r⟩ := cr
  have pc := fun R l w K => zadd (K := K) (w := w) (plc_ok (fin := fin) (sh := sh) h hT w0 hp s bad (cat R l)) rfl rfl
  cases hs : sgn T (n + ahead + 1) ⟨#[58]⟩ with
  | false =>
   rw [hs] at sg
   simp only [Bool.false_eq_true, if_false]
   refine zaay h.cell Tryz.func62 rfl (by kernel_rfl) (by show 3 ≤ _; decide) ?_
   simp -dsimp only [↓kpre, kpost, light, ret1, cellF, afill, setAll, simprocAttr, ↓zano, zanu, ↓cxpre, cxpost, List.length_map, ndl, ↓pc, ↓fl, a1, ↓sg, w1]
   simp [Nd.cell, Nd.cs, Nd.vs, sl, v0, c0]
  | true =>
   rw [hs] at sg
   simp only [if_true]
   cases hq : placeT T (n + ahead + 2) with
   | none =>
    obtain ⟨s', pl⟩ := plc_no (fin := fin) (sh := sh) h hT w2 hq s
    have pc2 := fun R l w K => zadd (K := K) (w := w) (pl bad (cat R l)) rfl rfl
    refine ⟨Nd.zero, n, ?_⟩
    refine zaay h.cell Tryz.func62 rfl (by kernel_rfl) (by show 3 ≤ _; decide) ?_
    simp -dsimp only [↓kpre, kpost, light, ret1, cellF, afill, setAll, simprocAttr, ↓zano, zanu, ↓cxpre, cxpost, List.length_map, ndl, ↓pc, ↓pc2, ↓fl, a1, a2, ↓sg, w1]
   | some de =>
    obtain ⟨d, e⟩ := de
    have pc2 := fun R l w K => zadd (K := K) (w := w) (plc_ok (fin := fin) (sh := sh) h hT w2 hq s bad (cat R l)) rfl rfl
    have sc := fun S K => za6a (S := S) (K := K) h.n h.small s c r s d e
    cases hm : smallF ⟨s, c, r⟩ ⟨s, d, e⟩ with
    | false =>
     simp only [hm, Bool.false_eq_true, if_false]
     unfold smallF at hm
     rw [hm] at sc
     refine ⟨Nd.zero, n, ?_⟩
     refine zaay h.cell Tryz.func62 rfl (by kernel_rfl) (by show 3 ≤ _; decide) ?_
     simp -dsimp only [↓kpre, kpost, light, ret1, cellF, afill, setAll, simprocAttr, ↓zano, zanu, ↓cxpre, cxpost, List.length_map, ndl, ↓pc, ↓pc2, ↓fl, a1, a2, ↓sg, w1, ↓sc]
    | true =>
     simp only [hm, if_true]
     unfold smallF at hm
     rw [hm] at sc
     refine zaay h.cell Tryz.func62 rfl (by kernel_rfl) (by show 3 ≤ _; decide) ?_
     simp -dsimp only [↓kpre, kpost, light, ret1, cellF, afill, setAll, simprocAttr, ↓zano, zanu, ↓cxpre, cxpost, List.length_map, ndl, ↓pc, ↓pc2, ↓fl, a1, a2, a3, ↓sg, w1, w3, ↓sc]
     simp [Nd.range, Nd.cs, Nd.vs, sl, v0, c0]
end
end Go.Proofs.YtliemjbafgnnbaaGreatDoor.Abs
/- The program's parser: what may have a sign ahead; names of calls. -/
namespace Go.Proofs.YtliemjbafgnnbaaGreatDoor.Abs
open Go
def zaqt := And.intro (And.intro (@val29) (@vfk50)) (And.intro (@vfk51) (And.intro (@vfk27) (@vfk24)))
def zaqy := And.intro (And.intro (And.intro (@vld29) (And.intro (@vgt29) (@vst29))) (And.intro (@bd29) (And.intro (@pl29_0) (@pl29_1)))) (And.intro (And.intro (@pl29_2) (And.intro (@pl29_3) (@pl29_4))) (And.intro (And.intro (@pl29_5) (@pl29_6)) (And.intro (@vbd27) (@Tryz.results24))))
attribute [local irreducible] Hold VReg Vf Vc VWP With VStp Vcallee Vp VE
abbrev zbx : Blk := .cells true 29 [.int .i64 0, .string .empty, .string .empty, .int .i64 0, .int .i64 0, .string .empty, .string .empty, .int .i64 0, .int .i64 0, .string .empty, .int .i64 0, .int .i64 0, .slice none 0 0]
section
variable {k n cc cr tc tr : Int} {op nm s cs ts : ByteArray} {xk : Int} {l : List Value}
theorem zak9 (q : Tok) : [.int .i64 k, .string op, .string nm, .int .i64 xk, .int .i64 n, .string s, .string cs, .int .i64 cc, .int .i64 cr, .string ts, .int .i64 tc, .int .i64 tr, vo q 13 0 l].flatMap toks = [q] := by
 simp only [List.flatMap_cons, List.flatMap_nil, zaeu, zab0, zai0, List.append_nil, List.nil_append]
theorem zais (q : Tok) : toksL [.int .i64 k, .string op, .string nm, .int .i64 xk, .int .i64 n, .string s, .string cs, .int .i64 cc, .int .i64 cr, .string ts, .int .i64 tc, .int .i64 tr, vo q 13 0 l] = [q] := by rw [zady, zak9]
theorem zaok (i d : Nat) (S : VH) (e : TypeId) :
    vlay i 0 [.int .i64 k, .string op, .string nm, .int .i64 xk, .int .i64 n, .string s, .string cs, .int .i64 cc, .int .i64 cr, .string ts, .int .i64 tc, .int .i64 tr, vo (d, none) 13 0 l] S e = some ⟨undef, [fate (fput i 0 [.int .i64 k, .string op, .string nm, .int .i64 xk, .int .i64 n, .string s, .string cs, .int .i64 cc, .int .i64 cr, .string ts, .int .i64 tc, .int .i64 tr, vo (d, none) 13 0 l])], S.put i (.cells true e (setAll (cellsIn (S.get i)) 0 [.int .i64 k, .string op, .string nm, .int .i64 xk, .int .i64 n, .string s, .string cs, .int .i64 cc, .int .i64 cr, .string ts, .int .i64 tc, .int .i64 tr, vo (i, some 12) 13 0 l])), [i], false⟩ := by
 have hfo : foreign i 0 [.int .i64 k, .string op, .string nm, .int .i64 xk, .int .i64 n, .string s, .string cs, .int .i64 cc, .int .i64 cr, .string ts, .int .i64 tc, .int .i64 tr, vo (d, none) 13 0 l] = [] := rfl
 have hset : settle i 0 [.int .i64 k, .string op, .string nm, .int .i64 xk, .int .i64 n, .string s, .string cs, .int .i64 cc, .int .i64 cr, .string ts, .int .i64 tc, .int .i64 tr, vo (d, none) 13 0 l] = [.int .i64 k, .string op, .string nm, .int .i64 xk, .int .i64 n, .string s, .string cs, .int .i64 cc, .int .i64 cr, .string ts, .int .i64 tc, .int .i64 tr, vo (i, some 12) 13 0 l] := rfl
 have hok : ∀ n' b, cellsOk n' b i 0 [.int .i64 k, .string op, .string nm, .int .i64 xk, .int .i64 n, .string s, .string cs, .int .i64 cc, .int .i64 cr, .string ts, .int .i64 tc, .int .i64 tr, vo (d, none) 13 0 l] = true := fun n' b => rfl
 unfold vlay
 simp only [hfo, if_true]
 rw [if_pos (hok _ _)]
 simp only [vput, zais, List.cons_ne_nil, if_false, hset, List.nil_append]
theorem zaks (i j : Nat) (hij : j ≠ i) (S : VH) (e : TypeId) :
    vlay i 0 [.int .i64 k, .string op, .string nm, .int .i64 xk, .int .i64 n, .string s, .string cs, .int .i64 cc, .int .i64 cr, .string ts, .int .i64 tc, .int .i64 tr, vo (j, some 12) 13 0 l] S e = some ⟨undef, [Abs.thaw [(j, some 12)]], (S.thaw [(j, some 12)]).put i (.cells true e (setAll (cellsIn ((S.thaw [(j, some 12)]).get i)) 0 [.int .i64 k, .string op, .string nm, .int .i64 xk, .int .i64 n, .string s, .string cs, .int .i64 cc, .int .i64 cr, .string ts, .int .i64 tc, .int .i64 tr, vs 0 13 l])), [i], false⟩ := by
 have hd : (decide (((j, some 12) : Tok) = (i, some 12))) = false := by simpa using hij
 have hfo : foreign i 0 [.int .i64 k, .string op, .string nm, .int .i64 xk, .int .i64 n, .string s, .string cs, .int .i64 cc, .int .i64 cr, .string ts, .int .i64 tc, .int .i64 tr, vo (j, some 12) 13 0 l] = [(j, some 12)] := by
  simp only [foreign, ownTok, za30, zas0, zacp, Option.isNone_some, Bool.false_or, hd, Nat.zero_add, Nat.reduceAdd]
  rfl
 have hcs : [.int .i64 k, .string op, .string nm, .int .i64 xk, .int .i64 n, .string s, .string cs, .int .i64 cc, .int .i64 cr, .string ts, .int .i64 tc, .int .i64 tr, vo (j, some 12) 13 0 l].map (mapOwn (Abs.thaw [(j, some 12)])) = [.int .i64 k, .string op, .string nm, .int .i64 xk, .int .i64 n, .string s, .string cs, .int .i64 cc, .int .i64 cr, .string ts, .int .i64 tc, .int .i64 tr, vs 0 13 l] := by
  simp only [List.map_cons, List.map_nil, zadk, zabf, zaja, zamm, List.mem_singleton, if_true]
 have hfree : toksL [.int .i64 k, .string op, .string nm, .int .i64 xk, .int .i64 n, .string s, .string cs, .int .i64 cc, .int .i64 cr, .string ts, .int .i64 tc, .int .i64 tr, vs 0 13 l] = [] := rfl
 have hset : settle i 0 [.int .i64 k, .string op, .string nm, .int .i64 xk, .int .i64 n, .string s, .string cs, .int .i64 cc, .int .i64 cr, .string ts, .int .i64 tc, .int .i64 tr, vs 0 13 l] = [.int .i64 k, .string op, .string nm, .int .i64 xk, .int .i64 n, .string s, .string cs, .int .i64 cc, .int .i64 cr, .string ts, .int .i64 tc, .int .i64 tr, vs 0 13 l] := zafc _ 0 hfree
 have hok : ∀ n' b, cellsOk n' b i 0 [.int .i64 k, .string op, .string nm, .int .i64 xk, .int .i64 n, .string s, .string cs, .int .i64 cc, .int .i64 cr, .string ts, .int .i64 tc, .int .i64 tr, vs 0 13 l] = true := fun n' b => zajo n' b i 0 _ (by cases b <;> rfl)
 unfold vlay
 simp only [hfo, List.cons_ne_nil, if_false, hcs]
 rw [if_pos (hok _ _)]
 simp only [vput, hfree, if_true, hset, List.append_nil]
end
theorem zag2 (S : VH) (i o : Nat) : S.thaw [(i, some o)] = S.put i (mapB (mapOwn (Abs.thaw [(i, some o)])) (S.get i)) := _root_.id rfl
def ndpre := And.intro @zaok @zaks
def ndow := And.intro @zag2 (And.intro @zak9 @zais)
section
variable {X : VOuter} {T : List TK} {fin : Nat} {sh : ByteArray}
theorem Vf_out {f : FuncId} {args : List Value} {B : List Blk} {b : Int} (h : Vf Tryz.prog X f args B fun v ws => ∃ (y : Nd) (n' : Int), ws = [(1, pbx T fin sh n' b)] ∧ v = .tuple ⟨[.agg ⟨y.cs⟩, .bool false]⟩) :
    ∃ (y : Nd) (n' : Int), Vf Tryz.prog X f args B fun v ws => ws = [(1, pbx T fin sh n' b)] ∧ v = .tuple ⟨[.agg ⟨y.cs⟩, .bool false]⟩ := by
 unfold Vf at h ⊢
 obtain ⟨n, r, h1, y, n', h2⟩ := h
 exact ⟨y, n', n, r, h1, h2⟩
theorem za41 (hX : X 58 = none) (k n : Int) (s : ByteArray) : Vp Tryz.prog X 58 [.agg ⟨[.int .i64 k, .int .i64 n, .string s]⟩] (.tuple ⟨[.agg ⟨(Nd.val ⟨k, n, s⟩).cs⟩, .bool true]⟩) := by
 unfold Vp
 refine zaay hX Tryz.func58 rfl (by kernel_rfl) (by show 1 ≤ _; decide) ?_
 simp -dsimp only [↓kpre, kpost, light, ret1, cellF, afill, setAll, simprocAttr, vld24, vgt24, vld29, vgt29, vst29, ↓val29, bd29, pl29_0, pl29_1, pl29_2, pl29_3, pl29_4, pl29_5, pl29_6, Tryz.results58]
 simp [Nd.val, Nd.cs, Nd.vs, sl, v0, c0]
theorem zazk (hX : X 58 = none) (k n : Int) (s : ByteArray) (S : VH) (K : VCont) : Vcallee Tryz.prog X 58 [.agg ⟨[.int .i64 k, .int .i64 n, .string s]⟩] S K = K (.tuple ⟨[.agg ⟨(Nd.val ⟨k, n, s⟩).cs⟩, .bool true]⟩) [] S [] false := zaag (za41 hX k n s) rfl rfl (by simp only [zafb, zae6, List.all_cons, List.all_nil, nd_okv, zao8, Bool.and_true])
theorem za5f (h : PaOff X) (hT : TokOk T) (hl : T.length ≤ 1000) {n : Nat} (hn : n ≤ T.length) (bad : Int) {r : Except Nat (Nd × Nat)} (hp : Pr T fin sh .minus n r)
    (ho : ∀ r, Pr T fin sh .one n r → Out X T fin sh 51 [] n bad r) (hm : n < T.length → ∀ r, Pr T fin sh .minus (n + 1) r → Out X T fin sh 24 [] (n + 1) bad r) : Out X T fin sh 24 [] n bad r := by
 have w0 : IntKind.i64.wrap ((n : Int) + 0) = (n : Int) := zaaq (by omega) (by omega)
 have sg := fun R l w K => zale (T := T) (fin := fin) (sh := sh) h.sign h.kind w0 ⟨#[45]⟩ bad R l w K
 cases hp with
 | minusN hs h1 =>
  rw [hs] at sg
  have oo := ho r h1
  intro R
  cases r with
  | ok xm =>
   obtain ⟨x, m⟩ := xm
   have oc := fun R l w K => oo.c rfl rfl R l w K
   refine zaay h.minus Tryz.func24 rfl (by kernel_rfl) (by show 1 ≤ _; decide) ?_
   simp -dsimp only [↓kpre, kpost, light, ret1, cellF, afill, setAll, simprocAttr, ↓zaqt, zaqy, ↓cxpre, cxpost, List.length_map, ndl, ↓zaok, ↓zaks, zag2, zak9, zais, ↓sg, ↓oc]
  | error b =>
   obtain ⟨y, n', oc⟩ := oo.e rfl rfl
   refine Vf_out ?_
   refine zaay h.minus Tryz.func24 rfl (by kernel_rfl) (by show 1 ≤ _; decide) ?_
   simp -dsimp only [↓kpre, kpost, light, ret1, cellF, afill, setAll, simprocAttr, ↓zaqt, zaqy, ↓cxpre, cxpost, List.length_map, ndl, ↓zaok, ↓zaks, zag2, zak9, zais, ↓sg, ↓oc]
   exact ⟨_, _, rfl, rfl⟩
 | @minusO _ x m hs h1 =>
  rw [hs] at sg
  have hlt := sgn_lt hs
  obtain ⟨t, ht⟩ : ∃ t, T[n]? = some t := ⟨T[n], by simp [hlt]⟩
  have tk := fun R l w K => take_c (T := T) (fin := fin) (sh := sh) h.take ht hl bad R l w K
  have oc := fun R l w K => (hm hlt _ h1).c rfl rfl R l w K
  intro R
  refine zaay h.minus Tryz.func24 rfl (by kernel_rfl) (by show 1 ≤ _; decide) ?_
  simp -dsimp only [↓kpre, kpost, light, ret1, cellF, afill, setAll, simprocAttr, ↓zaqt, zaqy, ↓cxpre, cxpost, List.length_map, ndl, ↓zaok, ↓zaks, zag2, zak9, zais, ↓sg, ↓tk, ↓oc]
  simp [Nd.neg, Nd.cs, Nd.vs, sl, v0, c0]
 | @minusE _ b hs h1 =>
  rw [hs] at sg
  have hlt := sgn_lt hs
  obtain ⟨t, ht⟩ : ∃ t, T[n]? = some t := ⟨T[n], by simp [hlt]⟩
  have tk := fun R l w K => take_c (T := T) (fin := fin) (sh := sh) h.take ht hl bad R l w K
  obtain ⟨y, n', oc⟩ := (hm hlt _ h1).e rfl rfl
  intro R
  refine Vf_out ?_
  refine zaay h.minus Tryz.func24 rfl (by kernel_rfl) (by show 1 ≤ _; decide) ?_
  simp -dsimp only [↓kpre, kpost, light, ret1, cellF, afill, setAll, simprocAttr, ↓zaqt, zaqy, ↓cxpre, cxpost, List.length_map, ndl, ↓zaok, ↓zaks, zag2, zak9, zais, ↓sg, ↓tk, ↓oc]
  exact ⟨Nd.neg (y _), _, rfl, by simp [Nd.neg, Nd.cs, Nd.vs, sl, v0, c0]; rfl⟩
end
end Go.Proofs.YtliemjbafgnnbaaGreatDoor.Abs
/- The program's parser: names of calls, calls. -/
namespace Go.Proofs.YtliemjbafgnnbaaGreatDoor.Abs
open Go
def zagf := And.intro (And.intro (@val29) (@vfk27)) (And.intro (@vfk50) (And.intro (@vfk12) (@vfk13)))
def zagh := And.intro (And.intro (And.intro (And.intro (@vld27) (And.intro (@vgt27) (@vld29))) (And.intro (And.intro (@vgt29) (@vld3)) (And.intro (@vgt3) (@vst29)))) (And.intro (And.intro (@vst27) (And.intro (@zai1) (@zai3))) (And.intro (And.intro (@zahe) (@zahf)) (And.intro (@bd29) (@pl29_0))))) (And.intro (And.intro (And.intro (@pl29_1) (And.intro (@pl29_2) (@pl29_3))) (And.intro (And.intro (@pl29_4) (@pl29_5)) (And.intro (@pl29_6) (@vbd27)))) (And.intro (And.intro (@vlr27) (And.intro (@vlo27) (@vlz27))) (And.intro (And.intro (@vls27) (@vlw27)) (And.intro (@vap27) (@Tryz.results74)))))
attribute [local irreducible] Hold VReg Vf Vc VWP With VStp Vcallee Vp VE
theorem zam2 {s : ByteArray} (h1 : 1 ≤ s.size) (h8 : s.size ≤ 8) (ht : s ≠ sTRUE) (hf : s ≠ sFALSE) (ha : ∀ i, i < s.size → atB greatB s i = true) : callN s = true := by
 simp only [callN, Bool.and_eq_true, decide_eq_true_eq, Bool.not_eq_true', decide_eq_false_iff_not, List.all_eq_true, List.mem_range]
 exact ⟨⟨⟨⟨by omega, by omega⟩, ht⟩, hf⟩, ha⟩
theorem zal3 {s : ByteArray} {i : Nat} (hi : i < s.size) (h : atB greatB s i = false) : callN s = false := by
 rw [Bool.eq_false_iff]
 intro hc
 simp only [callN, Bool.and_eq_true, List.all_eq_true, List.mem_range] at hc
 rw [hc.2 i hi] at h
 cases h
theorem zajm {s : ByteArray} (h : ¬ (1 ≤ s.size ∧ s.size ≤ 8)) : callN s = false := by
 rw [Bool.eq_false_iff]
 intro hc
 simp only [callN, Bool.and_eq_true, decide_eq_true_eq] at hc
 omega
theorem za16 {s : ByteArray} : s = .empty ↔ s.size = 0 := by
 constructor
 ·rintro rfl; rfl
 ·intro h; exact ByteArray.ext (Array.eq_empty_of_size_eq_zero h)
section
variable {X : VOuter} {T : List TK} {fin : Nat} {sh : ByteArray}
theorem za5t (hX : X 73 = none) (s : ByteArray) : Vp Tryz.prog X 73 [.string s] (.bool (callN s)) := by
 unfold Vp
 refine zaay hX Tryz.func73 rfl (by kernel_rfl) (by show 1 ≤ _; decide) ?_
 by_cases h0 : s = .empty
 ·subst h0
  have hE : ByteArray.empty = ⟨#[]⟩ := _root_.id rfl
  simp -dsimp only [↓kpre, kpost, light, ret1, cellF, afill, setAll, simprocAttr, ix9, vlr9, Tryz.results73, ab_seq, ↓hE]
  rfl
 ·have hz : s.size ≠ 0 := fun h => h0 (za16.2 h)
  have h0' : ¬ s = ⟨#[]⟩ := h0
  by_cases h8 : (8 : Int) < s.size
  ·simp -dsimp only [↓kpre, kpost, light, ret1, cellF, afill, setAll, simprocAttr, ix9, vlr9, Tryz.results73, ab_seq, h0, h0', h8]
   rw [zajm (by omega)]
  ·by_cases ht : s = ⟨#[84, 82, 85, 69]⟩
   ·subst ht
    simp -dsimp only [↓kpre, kpost, light, ret1, cellF, afill, setAll, simprocAttr, ix9, vlr9, Tryz.results73, ab_seq, h0, h0', h8]
    rfl
   ·by_cases hf : s = ⟨#[70, 65, 76, 83, 69]⟩
    ·subst hf
     simp -dsimp only [↓kpre, kpost, light, ret1, cellF, afill, setAll, simprocAttr, ix9, vlr9, Tryz.results73, ab_seq, h0, h0', h8, ht]
     rfl
    ·simp -dsimp only [↓kpre, kpost, light, ret1, cellF, afill, setAll, simprocAttr, ix9, vlr9, Tryz.results73, ab_seq, h0, h0', h8, ht, hf]
     refine zabw (fun m e S => ∃ i : Nat, m = s.size - i ∧ i ≤ s.size ∧ eget e 0 = .string s ∧ eget e 20 = .int .i64 s.size ∧ eget e 21 = .int .i64 i ∧ (∀ q, q < i → atB greatB s q = true) ∧ S = ⟨[], [], []⟩) s.size ?_ ?_
     ·refine ⟨0, rfl, Nat.zero_le _, ?_, ?_, ?_, fun q h => absurd h (Nat.not_lt_zero q), rfl⟩ <;> simp only [↓epre, epost, simprocAttr] <;> rfl
     ·rintro m e S ⟨i, rfl, hi, e0, e20, e21, hall, rfl⟩
      refine VWP_Vc _ _ _ _ ?_
      by_cases hin : i < s.size
      ·have hlt : (i : Int) < s.size := by omega
       have h0i : (0 : Int) ≤ i := by omega
       obtain ⟨b, hb⟩ := ba_get hin
       have hwr : IntKind.i64.wrap ((i : Int) + 1) = ((i + 1 : Nat) : Int) := zaaq (by omega) (by omega)
       by_cases b1 : (b.toNat : Int) < 65
       ·simp -dsimp only [↓kpre, kpost, light, ret1, cellF, afill, setAll, simprocAttr, ix9, vlr9, Tryz.results73, e0, e20, e21, hlt, h0i, hb, hwr, b1]
        rw [zal3 hin (by rw [zafl hb]; simp [greatB]; omega)]
       ·by_cases b2 : (90 : Int) < b.toNat
        ·simp -dsimp only [↓kpre, kpost, light, ret1, cellF, afill, setAll, simprocAttr, ix9, vlr9, Tryz.results73, e0, e20, e21, hlt, h0i, hb, hwr, b1, b2]
         rw [zal3 hin (by rw [zafl hb]; simp [greatB]; omega)]
        ·simp -dsimp only [↓kpre, kpost, light, ret1, cellF, afill, setAll, simprocAttr, ix9, vlr9, Tryz.results73, e0, e20, e21, hlt, h0i, hb, hwr, b1, b2]
         refine ⟨s.size - (i + 1), by omega, i + 1, rfl, by omega, rfl, fun q hq => ?_⟩
         rcases Nat.lt_succ_iff_lt_or_eq.1 hq with hq | rfl
         ·exact hall q hq
         ·rw [zafl hb]; simp [greatB]; omega
      ·obtain rfl : i = s.size := by omega
       have hlt : ¬ ((s.size : Int) < s.size) := by omega
       simp -dsimp only [↓kpre, kpost, light, ret1, cellF, afill, setAll, simprocAttr, ix9, vlr9, Tryz.results73, e0, e20, e21, hlt]
       rw [zam2 (by omega) (by omega) ht hf hall]
theorem za5s (hX : X 73 = none) (s : ByteArray) (S : VH) (K : VCont) : Vcallee Tryz.prog X 73 [.string s] S K = K (.bool (callN s)) [] S [] false := zaag (za5t hX s) rfl rfl rfl
theorem zaad (i o d sz : Nat) (l : List Value) (S : VH) (e : TypeId) : vlay i o [vo (d, none) sz 0 l] S e = some ⟨undef, [fate (fput i o [vo (d, none) sz 0 l])], S.put i (.cells true e (setAll (cellsIn (S.get i)) o [vo (i, some o) sz 0 l])), [i], false⟩ := by
 have hfo : foreign i o [vo (d, none) sz 0 l] = [] := rfl
 have hok : ∀ n' b, cellsOk n' b i o [vo (d, none) sz 0 l] = true := fun n' b => rfl
 unfold vlay
 simp only [hfo, if_true]
 rw [if_pos (hok _ _)]
 simp only [vput, zabl, zack, zai0, List.append_nil, List.cons_ne_nil, if_false, List.nil_append]
 rfl
theorem zaae (i o sz : Nat) (l : List Value) (S : VH) (e : TypeId) : vlay i o [vo (i, some o) sz 0 l] S e = some ⟨undef, [fate (fput i o [vo (i, some o) sz 0 l])], S.put i (.cells true e (setAll (cellsIn (S.get i)) o [vo (i, some o) sz 0 l])), [i], false⟩ := by
 have hfo : foreign i o [vo (i, some o) sz 0 l] = [] := by
  simp only [foreign, ownTok, zacp, Option.isNone_some, Bool.false_or, decide_true, if_true, List.append_nil]
 have hok : ∀ n' b, cellsOk n' b i o [vo (i, some o) sz 0 l] = true := fun n' b => by
  simp [cellsOk, cellOk, zacp, ownTok, zack]
 unfold vlay
 simp only [hfo, if_true]
 rw [if_pos (hok _ _)]
 simp only [vput, zabl, zack, zai0, List.append_nil, List.cons_ne_nil, if_false, List.nil_append]
 rfl
theorem zaaa (g : Value → Value) (o : Bool) (e : TypeId) (c : List Value) : mapB g (.cells o e c) = .cells o e (c.map g) := _root_.id rfl
def slotF (q : Tok) (kids : List Nd) (v : Value) : Prop := (kids = [] ∧ v = .slice none 0 0) ∨ (kids ≠ [] ∧ v = vo q 13 0 (Nd.vs kids))
theorem zabx (l : List Nd) : (Nd.vs l).length = l.length := by rw [nd_vs, List.length_map]
theorem nvs_ne {l : List Nd} (h : l ≠ []) : Nd.vs l ≠ [] := by
 cases l with
 | nil => exact absurd rfl h
 | cons a l => simp [Nd.vs]
theorem zaj6 (l : List Nd) (x : Nd) : Nd.vs (l ++ [x]) = Nd.vs l ++ [.agg ⟨x.cs⟩] := by rw [nd_vs, nd_vs, List.map_append]; rfl
theorem call_w (h : PaOff X) (hT : TokOk T) (hl : T.length ≤ 1000) {n : Nat} {t : TK} (ht : T[n]? = some t) (hk : sgn T (n + 1) ⟨#[40]⟩ = true) (bad : Int) {r : Except Nat (Nd × Nat)} (hp : Pr T fin sh (.args t.t []) (n + 2) r)
    (hP : ∀ q, n < q → q ≤ T.length → ∀ r, Pr T fin sh (.pairs 0) q r → Out X T fin sh 12 [.int .i64 0] q bad r) : Out X T fin sh 74 [] n bad r := by
 have hlt := sgn_lt hk
 obtain ⟨t2, ht2⟩ : ∃ t2, T[n + 1]? = some t2 := ⟨T[n + 1], by simp [hlt]⟩
 have tk1 := fun R l w K => take_c (T := T) (fin := fin) (sh := sh) h.take ht hl bad R l w K
 have tk2 := fun R l w K => take_c (T := T) (fin := fin) (sh := sh) h.take ht2 hl bad R l w K
 have main : ∀ R, Vf Tryz.prog X 74 [p0] (cx (pbx T fin sh n bad) R) fun v ws => match r with
     | .ok (x, m) => ws = [(1, pbx T fin sh m bad)] ∧ v = .tuple ⟨[.agg ⟨x.cs⟩, .bool true]⟩
     | .error b => ∃ (y : Nd) (n' : Int), ws = [(1, pbx T fin sh n' b)] ∧ v = .tuple ⟨[.agg ⟨y.cs⟩, .bool false]⟩ := by
  intro R
  refine zaay h.call Tryz.func74 rfl (by kernel_rfl) (by show 1 ≤ _; decide) ?_
  simp -dsimp only [↓kpre, kpost, light, ret1, cellF, afill, setAll, simprocAttr, ↓zagf, zagh, ↓cxpre, cxpost, List.length_map, ndl, ↓ndpre, ndow, ne_eq, not_false_eq_true, zaaa, zaab, ↓zaad, ↓zaae, and_false, if_false, Option.isNone_some, ↓tk1, ↓tk2]
  refine zabw (fun m e S => ∃ (kids : List Nd) (q : Nat) (J : List Blk) (v : Value), m = T.length - q ∧ Pr T fin sh (.args t.t kids) q r ∧ n < q ∧ q ≤ T.length ∧ kids.length ≤ 19 ∧ slotF (cl R + 1, some 12) kids v ∧ eget e 0 = p0 ∧ eget e 2 = .pointer (some ⟨cl R, 0, none⟩) ∧ eget e 4 = .pointer (some ⟨cl R + 1, 0, none⟩) ∧
   S = ⟨cx (pbx T fin sh q bad) R, zbx :: .cells true 29 [.int .i64 6, .string .empty, .string t.t, .int .i64 0, .int .i64 0, .string .empty, .string .empty, .int .i64 0, .int .i64 0, .string .empty, .int .i64 0, .int .i64 0, v] :: J, [1]⟩) (T.length - (n + 2)) ?_ ?_
  ·refine ⟨[], n + 2, [], _, rfl, hp, by omega, by omega, by simp, .inl ⟨rfl, rfl⟩, ?_, ?_, ?_, ?_⟩
   ·simp only [↓epre, epost, simprocAttr]
   ·simp only [↓epre, epost, simprocAttr]
   ·simp only [↓epre, epost, simprocAttr]
   ·rfl
  ·rintro m e S ⟨kids, q, J, v, rfl, hq, hnq, hqT, hkl, hv, e0, e2, e4, rfl⟩
   refine VWP_Vc _ _ _ _ ?_
   have sg : ∀ (q : Nat), q ≤ 1000 → ∀ (u : ByteArray) R l w K, Vcallee Tryz.prog X _ [p0, .int .i64 0, .string u] ⟨cx (pbx T fin sh q bad) R, l, w⟩ K = K (.bool (sgn T q u)) [] ⟨cx (pbx T fin sh q bad) R, l, w⟩ [] false := fun q hq u R l w K => zale (T := T) (fin := fin) (sh := sh) h.sign h.kind (zaaq (j := 0) (by omega) (by omega)) u bad R l w K
   have sq := fun R l w K => sg q (by omega) ⟨#[41]⟩ R l w K
   have hne : ¬ (cl R + 1 = cl R) := by omega
   cases hq with
   | args0 hs =>
    rw [hs] at sq
    obtain ⟨t3, ht3⟩ : ∃ t3, T[q]? = some t3 := ⟨T[q]'(sgn_lt hs), by simp [sgn_lt hs]⟩
    have tk3 := fun R l w K => take_c (T := T) (fin := fin) (sh := sh) h.take ht3 hl bad R l w K
    rcases hv with ⟨_, rfl⟩ | ⟨h0, _⟩
    ·simp -dsimp only [↓kpre, kpost, light, ret1, cellF, afill, setAll, simprocAttr, ↓zagf, zagh, ↓cxpre, cxpost, List.length_map, ndl, ↓ndpre, ndow, ne_eq, not_false_eq_true, zaaa, zaab, ↓zaad, ↓zaae, and_false, if_false, Option.isNone_some, e0, e2, e4, ↓sq, ↓tk3]
     simp [Nd.call, Nd.cs, Nd.vs, sl, v0, c0]
    ·exact absurd rfl h0
   | argsE hs h1 =>
    obtain ⟨y, n', oc⟩ := (hP q hnq hqT _ h1).e rfl rfl
    rcases hv with ⟨h0, rfl⟩ | ⟨h0, rfl⟩
    ·subst h0
     rw [hs rfl] at sq
     simp -dsimp only [↓kpre, kpost, light, ret1, cellF, afill, setAll, simprocAttr, ↓zagf, zagh, ↓cxpre, cxpost, List.length_map, ndl, ↓ndpre, ndow, ne_eq, not_false_eq_true, zaaa, zaab, ↓zaad, ↓zaae, and_false, if_false, Option.isNone_some, e0, e2, e4, ↓sq, ↓oc]
     exact ⟨Nd.call t.t [], _, rfl, by simp [Nd.call, Nd.cs, Nd.vs, sl, v0, c0]⟩
    ·have hpos : (0 : Int) < (Nd.vs kids).length := by rw [zabx]; have := List.length_pos_iff.2 h0; omega
     generalize sgn T q ⟨#[41]⟩ = bs at sq
     cases bs
     ·simp -dsimp only [↓kpre, kpost, light, ret1, cellF, afill, setAll, simprocAttr, ↓zagf, zagh, ↓cxpre, cxpost, List.length_map, ndl, ↓ndpre, ndow, ne_eq, not_false_eq_true, zaaa, zaab, ↓zaad, ↓zaae, and_false, if_false, Option.isNone_some, e0, e2, e4, ↓sq, ↓oc, hpos, hne]
      exact ⟨Nd.call t.t kids, _, rfl, by simp [Nd.call, Nd.cs, sl, v0, c0, nvs_ne h0]⟩
     ·simp -dsimp only [↓kpre, kpost, light, ret1, cellF, afill, setAll, simprocAttr, ↓zagf, zagh, ↓cxpre, cxpost, List.length_map, ndl, ↓ndpre, ndow, ne_eq, not_false_eq_true, zaaa, zaab, ↓zaad, ↓zaae, and_false, if_false, Option.isNone_some, e0, e2, e4, ↓sq, ↓oc, hpos, hne]
      exact ⟨Nd.call t.t kids, _, rfl, by simp [Nd.call, Nd.cs, sl, v0, c0, nvs_ne h0]⟩
   | @argsZ _ _ _ x m' hs h1 h2 =>
    have oc := fun R l w K => (hP q hnq hqT _ h1).c rfl rfl R l w K
    have hon := h1.on _ _ rfl
    simp only [Gl.on] at hon
    have hm' : m' ≤ T.length := hon.2 hqT
    have sm := fun R l w K => sg m' (by omega) ⟨#[41]⟩ R l w K
    rw [h2] at sm
    obtain ⟨t3, ht3⟩ : ∃ t3, T[m']? = some t3 := ⟨T[m']'(sgn_lt h2), by simp [sgn_lt h2]⟩
    have tk3 := fun R l w K => take_c (T := T) (fin := fin) (sh := sh) h.take ht3 hl bad R l w K
    rcases hv with ⟨h0, rfl⟩ | ⟨h0, rfl⟩
    ·subst h0
     rw [hs rfl] at sq
     simp -dsimp only [↓kpre, kpost, light, ret1, cellF, afill, setAll, simprocAttr, ↓zagf, zagh, ↓cxpre, cxpost, List.length_map, ndl, ↓ndpre, ndow, ne_eq, not_false_eq_true, zaaa, zaab, ↓zaad, ↓zaae, and_false, if_false, Option.isNone_some, e0, e2, e4, ↓sq, ↓oc, ↓sm, ↓tk3, hne]
     simp [Nd.call, Nd.cs, Nd.vs, sl, v0, c0]
    ·have hpos : (0 : Int) < (Nd.vs kids).length := by rw [zabx]; have := List.length_pos_iff.2 h0; omega
     have hcap : ((Nd.vs kids).length + (0 + 1)) * 160 ≤ 140737488355328 := by rw [zabx]; omega
     have hcap2 : (Nd.vs kids).length + (0 + 1) ≤ 9223372036854775807 := by rw [zabx]; omega
     generalize sgn T q ⟨#[41]⟩ = bs at sq
     cases bs
     all_goals
      simp -dsimp only [↓kpre, kpost, light, ret1, cellF, afill, setAll, simprocAttr, ↓zagf, zagh, ↓cxpre, cxpost, List.length_map, ndl, ↓ndpre, ndow, ne_eq, not_false_eq_true, zaaa, zaab, ↓zaad, ↓zaae, and_false, if_false, Option.isNone_some, e0, e2, e4, ↓sq, ↓oc, ↓sm, ↓tk3, hpos, hne, hcap, hcap2, zadx, zaco]
      simp [Nd.call, Nd.cs, zaj6, sl, v0, c0]
   | @argsS _ _ _ x m' hs h1 h2 h3 =>
    have oc := fun R l w K => (hP q hnq hqT _ h1).c rfl rfl R l w K
    have hon := h1.on _ _ rfl
    simp only [Gl.on] at hon
    have hm' : m' ≤ T.length := hon.2 hqT
    have sm := fun R l w K => sg m' (by omega) ⟨#[41]⟩ R l w K
    have sn := fun R l w K => sg m' (by omega) ⟨#[44]⟩ R l w K
    have fl := fun R l w K => fail_c (T := T) (fin := fin) (sh := sh) h.fail (m' : Int) m' bad R l w K
    rw [h2] at sm
    rcases hv with ⟨h0, rfl⟩ | ⟨h0, rfl⟩
    ·subst h0
     rw [hs rfl] at sq
     have h3' : sgn T m' ⟨#[44]⟩ = false := by simpa using h3
     rw [h3'] at sn
     simp -dsimp only [↓kpre, kpost, light, ret1, cellF, afill, setAll, simprocAttr, ↓zagf, zagh, ↓cxpre, cxpost, List.length_map, ndl, ↓ndpre, ndow, ne_eq, not_false_eq_true, zaaa, zaab, ↓zaad, ↓zaae, and_false, if_false, Option.isNone_some, e0, e2, e4, ↓sq, ↓oc, ↓sm, ↓sn, ↓fl, hne]
     exact ⟨Nd.zero, _, rfl, rfl⟩
    ·have hpos : (0 : Int) < (Nd.vs kids).length := by rw [zabx]; have := List.length_pos_iff.2 h0; omega
     have hcap : ((Nd.vs kids).length + (0 + 1)) * 160 ≤ 140737488355328 := by rw [zabx]; omega
     have hcap2 : (Nd.vs kids).length + (0 + 1) ≤ 9223372036854775807 := by rw [zabx]; omega
     have hll : (Nd.vs kids ++ [Value.agg ⟨x.cs⟩]).length = kids.length + 1 := by rw [List.length_append, zabx]; rfl
     generalize sgn T q ⟨#[41]⟩ = bs at sq
     cases hc : sgn T m' ⟨#[44]⟩
     ·rw [hc] at sn
      cases bs
      all_goals
       simp -dsimp only [↓kpre, kpost, light, ret1, cellF, afill, setAll, simprocAttr, ↓zagf, zagh, ↓cxpre, cxpost, List.length_map, ndl, ↓ndpre, ndow, ne_eq, not_false_eq_true, zaaa, zaab, ↓zaad, ↓zaae, and_false, if_false, Option.isNone_some, e0, e2, e4, ↓sq, ↓oc, ↓sm, ↓sn, ↓fl, hpos, hne, hcap, hcap2, hll, zadx, zaco]
       exact ⟨Nd.zero, _, rfl, rfl⟩
     ·rw [hc] at sn h3
      have h20 : ((((kids.length + 1 : Nat) : Int) == 20) = true) := by
       simp at h3
       rw [h3]
       rfl
      have h20' : ((kids.length + 1 : Nat) : Int) = 20 := by simpa using h20
      cases bs
      all_goals
       simp -dsimp only [↓kpre, kpost, light, ret1, cellF, afill, setAll, simprocAttr, ↓zagf, zagh, ↓cxpre, cxpost, List.length_map, ndl, ↓ndpre, ndow, ne_eq, not_false_eq_true, zaaa, zaab, ↓zaad, ↓zaae, and_false, if_false, Option.isNone_some, e0, e2, e4, ↓sq, ↓oc, ↓sm, ↓sn, ↓fl, hpos, hne, hcap, hcap2, ↓hll, h20', zadx, zaco]
       exact ⟨Nd.zero, _, rfl, rfl⟩
   | @argsC _ _ _ x m' _ hs h1 h2 h3 h4 h5 =>
    have oc := fun R l w K => (hP q hnq hqT _ h1).c rfl rfl R l w K
    have hon := h1.on _ _ rfl
    simp only [Gl.on] at hon
    have hm' : m' ≤ T.length := hon.2 hqT
    have sm := fun R l w K => sg m' (by omega) ⟨#[41]⟩ R l w K
    have sn := fun R l w K => sg m' (by omega) ⟨#[44]⟩ R l w K
    rw [h2] at sm
    rw [h3] at sn
    have hlt3 := sgn_lt h3
    obtain ⟨t3, ht3⟩ : ∃ t3, T[m']? = some t3 := ⟨T[m']'hlt3, by simp [hlt3]⟩
    have tk3 := fun R l w K => take_c (T := T) (fin := fin) (sh := sh) h.take ht3 hl bad R l w K
    have hdone : ∀ J', ∃ k, k < T.length - q ∧ ∃ (kids' : List Nd) (q' : Nat) (J'' : List Blk) (v' : Value), k = T.length - q' ∧ Pr T fin sh (.args t.t kids') q' r ∧ n < q' ∧ q' ≤ T.length ∧ kids'.length ≤ 19 ∧ slotF (cl R + 1, some 12) kids' v' ∧
        (⟨cx (pbx T fin sh (m' + 1 : Nat) bad) R, zbx :: .cells true 29 [.int .i64 6, .string .empty, .string t.t, .int .i64 0, .int .i64 0, .string .empty, .string .empty, .int .i64 0, .int .i64 0, .string .empty, .int .i64 0, .int .i64 0, vo (cl R + 1, some 12) 13 0 (Nd.vs kids ++ [.agg ⟨x.cs⟩])] :: J', [1]⟩ : VH) =
        ⟨cx (pbx T fin sh q' bad) R, zbx :: .cells true 29 [.int .i64 6, .string .empty, .string t.t, .int .i64 0, .int .i64 0, .string .empty, .string .empty, .int .i64 0, .int .i64 0, .string .empty, .int .i64 0, .int .i64 0, v'] :: J'', [1]⟩ :=
     fun J' => ⟨T.length - (m' + 1), by omega, kids ++ [x], m' + 1, J', _, rfl, h5, by omega, by omega, by simp; omega, .inr ⟨by simp, by rw [zaj6]⟩, rfl⟩
    rcases hv with ⟨h0, rfl⟩ | ⟨h0, rfl⟩
    ·subst h0
     rw [hs rfl] at sq
     simp -dsimp only [↓kpre, kpost, light, ret1, cellF, afill, setAll, simprocAttr, ↓zagf, zagh, ↓cxpre, cxpost, List.length_map, ndl, ↓ndpre, ndow, ne_eq, not_false_eq_true, zaaa, zaab, ↓zaad, ↓zaae, and_false, if_false, Option.isNone_some, e0, e2, e4, ↓sq, ↓oc, ↓sm, ↓sn, ↓tk3, hne]
     exact hdone _
    ·have hpos : (0 : Int) < (Nd.vs kids).length := by rw [zabx]; have := List.length_pos_iff.2 h0; omega
     have hcap : ((Nd.vs kids).length + (0 + 1)) * 160 ≤ 140737488355328 := by rw [zabx]; omega
     have hcap2 : (Nd.vs kids).length + (0 + 1) ≤ 9223372036854775807 := by rw [zabx]; omega
     have hll : (Nd.vs kids ++ [Value.agg ⟨x.cs⟩]).length = kids.length + 1 := by rw [List.length_append, zabx]; rfl
     have h20 : ¬ ((kids.length + 1 : Nat) : Int) = 20 := by omega
     generalize sgn T q ⟨#[41]⟩ = bs at sq
     cases bs
     all_goals
      simp -dsimp only [↓kpre, kpost, light, ret1, cellF, afill, setAll, simprocAttr, ↓zagf, zagh, ↓cxpre, cxpost, List.length_map, ndl, ↓ndpre, ndow, ne_eq, not_false_eq_true, zaaa, zaab, ↓zaad, ↓zaae, and_false, if_false, Option.isNone_some, e0, e2, e4, ↓sq, ↓oc, ↓sm, ↓sn, ↓tk3, hpos, hne, hcap, hcap2, ↓hll, h20, zadx, zaco]
      exact hdone _
 intro R
 cases r with
 | ok xm => exact main R
 | error b => exact Vf_out (main R)
end
end Go.Proofs.YtliemjbafgnnbaaGreatDoor.Abs
/- The program's parser: what begins with a word; what no op joins. -/
namespace Go.Proofs.YtliemjbafgnnbaaGreatDoor.Abs
open Go
def zacd := And.intro (And.intro (And.intro (@val29) (@vfk27)) (And.intro (@vfk72) (@vfk58))) (And.intro (And.intro (@vfk50) (@vfk73)) (And.intro (@vfk74) (@vfk62)))
def zacf := And.intro (And.intro (And.intro (And.intro (@vld39) (And.intro (@vgt39) (@vld3))) (And.intro (And.intro (@vgt3) (@vld9)) (And.intro (@vgt9) (@vld29)))) (And.intro (And.intro (And.intro (@vgt29) (@vst29)) (And.intro (@vst3) (@zai2))) (And.intro (And.intro (@zai4) (@zahe)) (And.intro (@zahf) (@zagi))))) (And.intro (And.intro (And.intro (And.intro (@zagj) (@za6n)) (And.intro (@za6s) (@bd29))) (And.intro (And.intro (@pl29_0) (@pl29_1)) (And.intro (@pl29_2) (@pl29_3)))) (And.intro (And.intro (And.intro (@pl29_4) (@pl29_5)) (And.intro (@pl29_6) (@vix39))) (And.intro (And.intro (@vio39) (@vis39)) (And.intro (@viw39) (@Tryz.results61)))))
attribute [local irreducible] Hold VReg Vf Vc VWP With VStp Vcallee Vp VE SeqK BlkK FinK NormK
section
variable {X : VOuter} {T : List TK} {fin : Nat} {sh : ByteArray}
theorem Out.ok {f : FuncId} {args : List Value} {n : Nat} {bad : Int} {x : Nd} {m : Nat} (h : ∀ R, Vf Tryz.prog X f (p0 :: args) (cx (pbx T fin sh n bad) R) fun v ws => ws = [(1, pbx T fin sh m bad)] ∧ v = .tuple ⟨[.agg ⟨x.cs⟩, .bool true]⟩) : Out X T fin sh f args n bad (.ok (x, m)) := h
theorem Out.er {f : FuncId} {args : List Value} {n : Nat} {bad : Int} {b : Nat} (h : ∀ R, Vf Tryz.prog X f (p0 :: args) (cx (pbx T fin sh n bad) R) fun v ws => ∃ (y : Nd) (n' : Int), ws = [(1, pbx T fin sh n' b)] ∧ v = .tuple ⟨[.agg ⟨y.cs⟩, .bool false]⟩) : Out X T fin sh f args n bad (.error b) := fun R => Vf_out (h R)
theorem sgn_k5 {n : Nat} {t : TK} {u : ByteArray} (ht : T[n]? = some t) (h : sgn T n u = true) : t.k = 5 := by
 simp [sgn, ht] at h; exact h.1
theorem word_w (h : PaOff X) (hT : TokOk T) (hl : T.length ≤ 1000) {n : Nat} {t : TK} (ht : T[n]? = some t) (hk3 : t.k = 3) (bad : Int) {r : Except Nat (Nd × Nat)} (hp : Pr T fin sh .one n r)
    (hC : ∀ r, callN t.t = true → sgn T (n + 1) ⟨#[40]⟩ = true → Pr T fin sh (.args t.t []) (n + 2) r → Out X T fin sh 74 [] n bad r) : Out X T fin sh 61 [] n bad r := by
 have hn := (List.getElem?_eq_some_iff.1 ht).1
 have h0 : (0 : Int) ≤ n := by omega
 have hx : (T.map TK.v)[n]? = some (.agg ⟨[.int .i64 t.k, .int .i64 t.a, .string t.t]⟩) := by rw [List.getElem?_map, ht]; rfl
 have tk := fun R l w K => take_c (T := T) (fin := fin) (sh := sh) h.take ht hl bad R l w K
 have w1 : IntKind.i64.wrap ((n : Int) + 1) = ((n + 1 : Nat) : Int) := zaaq (by omega) (by omega)
 have w2 : IntKind.i64.wrap ((n : Int) + 2) = ((n + 2 : Nat) : Int) := zaaq (by omega) (by omega)
 have sg := fun u R l w K => zale (T := T) (fin := fin) (sh := sh) h.sign h.kind w1 u bad R l w K
 have ab : ∀ b S K, _ := fun b S K => za1x (S := S) (K := K) h.bool b
 have pc := fun S K => za5s h.pcall t.t S K
 have cc := fun k n s S K => zazk h.const k n s S K
 have hTF : ¬ (⟨#[70, 65, 76, 83, 69]⟩ : ByteArray) = ⟨#[84, 82, 85, 69]⟩ := by decide
 have hRT : ¬ (⟨#[82, 69, 70]⟩ : ByteArray) = ⟨#[84, 82, 85, 69]⟩ := by decide
 have hRF : ¬ (⟨#[82, 69, 70]⟩ : ByteArray) = ⟨#[70, 65, 76, 83, 69]⟩ := by decide
 have same : ∀ {t'}, T[n]? = some t' → t' = t := fun h' => by rw [ht] at h'; cases h'; rfl
 cases hp with
 | yes ht' hk he =>
  cases same ht'
  refine Out.ok fun R => ?_
  refine zaaf h.word Tryz.func61 rfl (by kernel_rfl) (by show 1 ≤ _; decide) ?_
  simp only [sTRUE] at he
  rw [he] at hx tk
  simp -dsimp only [↓kpre, kpost, light, ret1, cellF, afill, setAll, simprocAttr, ↓zacd, zacf, ↓cxpre, cxpost, List.length_map, ndl, ↓ndpre, ndow, ne_eq, not_false_eq_true]
  refine zaah [[], [], [], [], [], [], [], [], [], [], [], []] false (by kernel_rfl) (by kernel_rfl) (by kernel_rfl) ?_
  simp -dsimp only [↓kpre, kpost, light, ret1, cellF, afill, setAll, simprocAttr, ↓opre, opost, vspan, ↓zacd, zacf, ↓cxpre, cxpost, List.length_map, ndl, ↓ndpre, ndow, ne_eq, not_false_eq_true, h0, hx, ab_seq, ↓tk, ↓ab, ↓cc]
  rfl
 | no ht' hk he =>
  cases same ht'
  refine Out.ok fun R => ?_
  refine zaaf h.word Tryz.func61 rfl (by kernel_rfl) (by show 1 ≤ _; decide) ?_
  simp only [sFALSE] at he
  rw [he] at hx tk
  simp -dsimp only [↓kpre, kpost, light, ret1, cellF, afill, setAll, simprocAttr, ↓zacd, zacf, ↓cxpre, cxpost, List.length_map, ndl, ↓ndpre, ndow, ne_eq, not_false_eq_true]
  refine zaah [[], [], [], [], [], [], [], [], [], [], [], []] false (by kernel_rfl) (by kernel_rfl) (by kernel_rfl) ?_
  simp -dsimp only [↓kpre, kpost, light, ret1, cellF, afill, setAll, simprocAttr, ↓opre, opost, vspan, ↓zacd, zacf, ↓cxpre, cxpost, List.length_map, ndl, ↓ndpre, ndow, ne_eq, not_false_eq_true, h0, hx, ab_seq, hTF, ↓tk, ↓ab, ↓cc]
  rfl
 | lost ht' hk he hs =>
  cases same ht'
  refine Out.ok fun R => ?_
  refine zaaf h.word Tryz.func61 rfl (by kernel_rfl) (by show 1 ≤ _; decide) ?_
  simp only [sREF] at he
  rw [he] at hx
  have sg1 := sg ⟨#[33]⟩
  rw [hs] at sg1
  simp -dsimp only [↓kpre, kpost, light, ret1, cellF, afill, setAll, simprocAttr, ↓zacd, zacf, ↓cxpre, cxpost, List.length_map, ndl, ↓ndpre, ndow, ne_eq, not_false_eq_true]
  refine zaah [[], [], [], [], [], [], [], [], [], [], [], []] false (by kernel_rfl) (by kernel_rfl) (by kernel_rfl) ?_
  simp -dsimp only [↓kpre, kpost, light, ret1, cellF, afill, setAll, simprocAttr, ↓opre, opost, vspan, ↓zacd, zacf, ↓cxpre, cxpost, List.length_map, ndl, ↓ndpre, ndow, ne_eq, not_false_eq_true, h0, hx, ab_seq, hRT, hRF, ↓sg1, w2]
  simp [Nd.bad, Nd.cs, Nd.vs, sl, v0, c0]
 | call ht' hk hc hs h1 =>
  cases same ht'
  have nT : ¬ t.t = ⟨#[84, 82, 85, 69]⟩ := fun e => by rw [e] at hc; revert hc; decide
  have nF : ¬ t.t = ⟨#[70, 65, 76, 83, 69]⟩ := fun e => by rw [e] at hc; revert hc; decide
  have sg1 := sg ⟨#[33]⟩
  have sg2 := sg ⟨#[40]⟩
  have h33 : sgn T (n + 1) ⟨#[33]⟩ = false := by
   cases h33 : sgn T (n + 1) ⟨#[33]⟩ with
   | false => rfl
   | true =>
    unfold sgn at hs h33
    split at hs
    ·rename_i t' ht'
     rw [ht'] at h33
     simp only [Bool.and_eq_true, decide_eq_true_eq] at hs h33
     rw [hs.2] at h33
     exact absurd h33.2 (by decide)
    ·cases hs
  rw [h33] at sg1
  rw [hs] at sg2
  rw [hc] at pc
  have oo := hC _ hc hs h1
  cases r with
  | ok xm =>
   obtain ⟨x, m⟩ := xm
   have oc := fun R l w K => oo.c rfl rfl R l w K
   refine Out.ok fun R => ?_
   refine zaaf h.word Tryz.func61 rfl (by kernel_rfl) (by show 1 ≤ _; decide) ?_
   by_cases hR : t.t = ⟨#[82, 69, 70]⟩
   ·rw [hR] at hx pc
    simp -dsimp only [↓kpre, kpost, light, ret1, cellF, afill, setAll, simprocAttr, ↓zacd, zacf, ↓cxpre, cxpost, List.length_map, ndl, ↓ndpre, ndow, ne_eq, not_false_eq_true]
    refine zaah [[], [], [], [], [], [], [], [], [], [], [], []] false (by kernel_rfl) (by kernel_rfl) (by kernel_rfl) ?_
    simp -dsimp only [↓kpre, kpost, light, ret1, cellF, afill, setAll, simprocAttr, ↓opre, opost, vspan, ↓zacd, zacf, ↓cxpre, cxpost, List.length_map, ndl, ↓ndpre, ndow, ne_eq, not_false_eq_true, h0, hx, ab_seq, hRT, hRF, ↓sg1, ↓sg2, ↓pc, ↓oc, w1]
   ·simp -dsimp only [↓kpre, kpost, light, ret1, cellF, afill, setAll, simprocAttr, ↓zacd, zacf, ↓cxpre, cxpost, List.length_map, ndl, ↓ndpre, ndow, ne_eq, not_false_eq_true]
    refine zaah [[], [], [], [], [], [], [], [], [], [], [], []] false (by kernel_rfl) (by kernel_rfl) (by kernel_rfl) ?_
    simp -dsimp only [↓kpre, kpost, light, ret1, cellF, afill, setAll, simprocAttr, ↓opre, opost, vspan, ↓zacd, zacf, ↓cxpre, cxpost, List.length_map, ndl, ↓ndpre, ndow, ne_eq, not_false_eq_true, h0, hx, ab_seq, nT, nF, hR, ↓sg1, ↓sg2, ↓pc, ↓oc, w1]
  | error b =>
   obtain ⟨y, n', oc⟩ := oo.e rfl rfl
   refine Out.er fun R => ?_
   refine zaaf h.word Tryz.func61 rfl (by kernel_rfl) (by show 1 ≤ _; decide) ?_
   by_cases hR : t.t = ⟨#[82, 69, 70]⟩
   ·rw [hR] at hx pc
    simp -dsimp only [↓kpre, kpost, light, ret1, cellF, afill, setAll, simprocAttr, ↓zacd, zacf, ↓cxpre, cxpost, List.length_map, ndl, ↓ndpre, ndow, ne_eq, not_false_eq_true]
    refine zaah [[], [], [], [], [], [], [], [], [], [], [], []] false (by kernel_rfl) (by kernel_rfl) (by kernel_rfl) ?_
    simp -dsimp only [↓kpre, kpost, light, ret1, cellF, afill, setAll, simprocAttr, ↓opre, opost, vspan, ↓zacd, zacf, ↓cxpre, cxpost, List.length_map, ndl, ↓ndpre, ndow, ne_eq, not_false_eq_true, h0, hx, ab_seq, hRT, hRF, ↓sg1, ↓sg2, ↓pc, ↓oc, w1]
    exact ⟨_, _, rfl, rfl⟩
   ·simp -dsimp only [↓kpre, kpost, light, ret1, cellF, afill, setAll, simprocAttr, ↓zacd, zacf, ↓cxpre, cxpost, List.length_map, ndl, ↓ndpre, ndow, ne_eq, not_false_eq_true]
    refine zaah [[], [], [], [], [], [], [], [], [], [], [], []] false (by kernel_rfl) (by kernel_rfl) (by kernel_rfl) ?_
    simp -dsimp only [↓kpre, kpost, light, ret1, cellF, afill, setAll, simprocAttr, ↓opre, opost, vspan, ↓zacd, zacf, ↓cxpre, cxpost, List.length_map, ndl, ↓ndpre, ndow, ne_eq, not_false_eq_true, h0, hx, ab_seq, nT, nF, hR, ↓sg1, ↓sg2, ↓pc, ↓oc, w1]
    exact ⟨_, _, rfl, rfl⟩
 | word ht' hk e1 e2 e3 e4 =>
  cases same ht'
  have nT : ¬ t.t = ⟨#[84, 82, 85, 69]⟩ := e1
  have nF : ¬ t.t = ⟨#[70, 65, 76, 83, 69]⟩ := e2
  have sg1 := sg ⟨#[33]⟩
  have sg2 := sg ⟨#[40]⟩
  simp only [sREF] at e3
  have oo := cell_p (fin := fin) (sh := sh) h hT hl n 0 (by omega) (by omega) sh bad
  generalize cellG T fin sh n 0 = r at oo
  have body : ∀ R, Vf Tryz.prog X 61 [p0] (cx (pbx T fin sh n bad) R) fun v ws => match r with
      | .ok (x, m) => ws = [(1, pbx T fin sh m bad)] ∧ v = .tuple ⟨[.agg ⟨x.cs⟩, .bool true]⟩
      | .error b => ∃ (y : Nd) (n' : Int), ws = [(1, pbx T fin sh n' b)] ∧ v = .tuple ⟨[.agg ⟨y.cs⟩, .bool false]⟩ := by
   intro R
   refine zaaf h.word Tryz.func61 rfl (by kernel_rfl) (by show 1 ≤ _; decide) ?_
   cases r with
   | ok xm =>
    obtain ⟨x, m⟩ := xm
    have oc := fun R l w K => oo.c (by simp only [zaap, zaa0, zabf, zadk]) (by simp only [zabl, zack, zab0, zaeu, List.append_nil]) R l w K
    simp only [Int.natCast_zero] at oc
    by_cases hR : t.t = ⟨#[82, 69, 70]⟩
    ·have h33 : sgn T (n + 1) ⟨#[33]⟩ = false := by simpa [hR] using e3
     rw [h33] at sg1
     have hcf : callN ⟨#[82, 69, 70]⟩ = true := by decide
     have h40 : sgn T (n + 1) ⟨#[40]⟩ = false := by simpa [hR, hcf] using e4
     rw [h40] at sg2
     rw [hR] at pc hx
     rw [hcf] at pc
     simp -dsimp only [↓kpre, kpost, light, ret1, cellF, afill, setAll, simprocAttr, ↓zacd, zacf, ↓cxpre, cxpost, List.length_map, ndl, ↓ndpre, ndow, ne_eq, not_false_eq_true]
     refine zaah [[], [], [], [], [], [], [], [], [], [], [], []] false (by kernel_rfl) (by kernel_rfl) (by kernel_rfl) ?_
     simp -dsimp only [↓kpre, kpost, light, ret1, cellF, afill, setAll, simprocAttr, ↓opre, opost, vspan, ↓zacd, zacf, ↓cxpre, cxpost, List.length_map, ndl, ↓ndpre, ndow, ne_eq, not_false_eq_true, h0, hx, ab_seq, hRT, hRF, ↓sg1, ↓sg2, ↓pc, ↓oc, w1]
    ·cases hcf : callN t.t with
     | false =>
      rw [hcf] at pc
      simp -dsimp only [↓kpre, kpost, light, ret1, cellF, afill, setAll, simprocAttr, ↓zacd, zacf, ↓cxpre, cxpost, List.length_map, ndl, ↓ndpre, ndow, ne_eq, not_false_eq_true]
      refine zaah [[], [], [], [], [], [], [], [], [], [], [], []] false (by kernel_rfl) (by kernel_rfl) (by kernel_rfl) ?_
      simp -dsimp only [↓kpre, kpost, light, ret1, cellF, afill, setAll, simprocAttr, ↓opre, opost, vspan, ↓zacd, zacf, ↓cxpre, cxpost, List.length_map, ndl, ↓ndpre, ndow, ne_eq, not_false_eq_true, h0, hx, ab_seq, nT, nF, hR, ↓sg1, ↓sg2, ↓pc, ↓oc, w1]
     | true =>
      have h40 : sgn T (n + 1) ⟨#[40]⟩ = false := by simpa [hcf] using e4
      rw [h40] at sg2
      rw [hcf] at pc
      simp -dsimp only [↓kpre, kpost, light, ret1, cellF, afill, setAll, simprocAttr, ↓zacd, zacf, ↓cxpre, cxpost, List.length_map, ndl, ↓ndpre, ndow, ne_eq, not_false_eq_true]
      refine zaah [[], [], [], [], [], [], [], [], [], [], [], []] false (by kernel_rfl) (by kernel_rfl) (by kernel_rfl) ?_
      simp -dsimp only [↓kpre, kpost, light, ret1, cellF, afill, setAll, simprocAttr, ↓opre, opost, vspan, ↓zacd, zacf, ↓cxpre, cxpost, List.length_map, ndl, ↓ndpre, ndow, ne_eq, not_false_eq_true, h0, hx, ab_seq, nT, nF, hR, ↓sg1, ↓sg2, ↓pc, ↓oc, w1]
   | error b =>
    obtain ⟨y, n', oc⟩ := oo.e (by simp only [zaap, zaa0, zabf, zadk]) (by simp only [zabl, zack, zab0, zaeu, List.append_nil])
    simp only [Int.natCast_zero] at oc
    by_cases hR : t.t = ⟨#[82, 69, 70]⟩
    ·have h33 : sgn T (n + 1) ⟨#[33]⟩ = false := by simpa [hR] using e3
     rw [h33] at sg1
     have hcf : callN ⟨#[82, 69, 70]⟩ = true := by decide
     have h40 : sgn T (n + 1) ⟨#[40]⟩ = false := by simpa [hR, hcf] using e4
     rw [h40] at sg2
     rw [hR] at pc hx
     rw [hcf] at pc
     simp -dsimp only [↓kpre, kpost, light, ret1, cellF, afill, setAll, simprocAttr, ↓zacd, zacf, ↓cxpre, cxpost, List.length_map, ndl, ↓ndpre, ndow, ne_eq, not_false_eq_true]
     refine zaah [[], [], [], [], [], [], [], [], [], [], [], []] false (by kernel_rfl) (by kernel_rfl) (by kernel_rfl) ?_
     simp -dsimp only [↓kpre, kpost, light, ret1, cellF, afill, setAll, simprocAttr, ↓opre, opost, vspan, ↓zacd, zacf, ↓cxpre, cxpost, List.length_map, ndl, ↓ndpre, ndow, ne_eq, not_false_eq_true, h0, hx, ab_seq, hRT, hRF, ↓sg1, ↓sg2, ↓pc, ↓oc, w1]
     exact ⟨_, _, rfl, rfl⟩
    ·cases hcf : callN t.t with
     | false =>
      rw [hcf] at pc
      simp -dsimp only [↓kpre, kpost, light, ret1, cellF, afill, setAll, simprocAttr, ↓zacd, zacf, ↓cxpre, cxpost, List.length_map, ndl, ↓ndpre, ndow, ne_eq, not_false_eq_true]
      refine zaah [[], [], [], [], [], [], [], [], [], [], [], []] false (by kernel_rfl) (by kernel_rfl) (by kernel_rfl) ?_
      simp -dsimp only [↓kpre, kpost, light, ret1, cellF, afill, setAll, simprocAttr, ↓opre, opost, vspan, ↓zacd, zacf, ↓cxpre, cxpost, List.length_map, ndl, ↓ndpre, ndow, ne_eq, not_false_eq_true, h0, hx, ab_seq, nT, nF, hR, ↓sg1, ↓sg2, ↓pc, ↓oc, w1]
      exact ⟨_, _, rfl, rfl⟩
     | true =>
      have h40 : sgn T (n + 1) ⟨#[40]⟩ = false := by simpa [hcf] using e4
      rw [h40] at sg2
      rw [hcf] at pc
      simp -dsimp only [↓kpre, kpost, light, ret1, cellF, afill, setAll, simprocAttr, ↓zacd, zacf, ↓cxpre, cxpost, List.length_map, ndl, ↓ndpre, ndow, ne_eq, not_false_eq_true]
      refine zaah [[], [], [], [], [], [], [], [], [], [], [], []] false (by kernel_rfl) (by kernel_rfl) (by kernel_rfl) ?_
      simp -dsimp only [↓kpre, kpost, light, ret1, cellF, afill, setAll, simprocAttr, ↓opre, opost, vspan, ↓zacd, zacf, ↓cxpre, cxpost, List.length_map, ndl, ↓ndpre, ndow, ne_eq, not_false_eq_true, h0, hx, ab_seq, nT, nF, hR, ↓sg1, ↓sg2, ↓pc, ↓oc, w1]
      exact ⟨_, _, rfl, rfl⟩
  intro R
  cases r with
  | ok xm => exact body R
  | error b => exact Vf_out (body R)
 | num ht' hk _ => cases same ht'; omega
 | numE ht' hk _ => cases same ht'; omega
 | text ht' hk => cases same ht'; omega
 | name ht' hk => cases same ht'; omega
 | nameE ht' hk => cases same ht'; omega
 | sign ht' hk => cases same ht'; omega
 | fin h' => rw [ht] at h'; cases h'
 | par hs => have := sgn_k5 ht hs; omega
 | parE hs => have := sgn_k5 ht hs; omega
 | parF hs => have := sgn_k5 ht hs; omega
end
end Go.Proofs.YtliemjbafgnnbaaGreatDoor.Abs
/- The program's parser: what no op joins. -/
namespace Go.Proofs.YtliemjbafgnnbaaGreatDoor.Abs
open Go
def zadl := And.intro (And.intro (And.intro (@val29) (And.intro (@vfk25) (@vfk57))) (And.intro (@vfk13) (And.intro (@vfk27) (@vfk59)))) (And.intro (And.intro (@vfk58) (And.intro (@vfk60) (@vfk61))) (And.intro (And.intro (@vfk11) (@vfk50)) (And.intro (@vfk62) (@vfk12))))
def zadm := And.intro (And.intro (And.intro (And.intro (@vld39) (@vgt39)) (And.intro (@vld3) (And.intro (@vgt3) (@vld9)))) (And.intro (And.intro (@vgt9) (@vld29)) (And.intro (@vgt29) (And.intro (@vst29) (@zai2))))) (And.intro (And.intro (And.intro (@zai4) (@zahe)) (And.intro (@zahf) (And.intro (@zagi) (@zagj)))) (And.intro (And.intro (@vix39) (@vio39)) (And.intro (@vis39) (And.intro (@viw39) (@Tryz.results51)))))
attribute [local irreducible] Hold VReg Vf Vc VWP With VStp Vcallee Vp VE SeqK BlkK FinK NormK
section
variable {X : VOuter} {T : List TK} {fin : Nat} {sh : ByteArray}
theorem one_w (h : PaOff X) (hT : TokOk T) (hl : T.length ≤ 1000) {n : Nat} (hn : n ≤ T.length) (bad : Int) {r : Except Nat (Nd × Nat)} (hp : Pr T fin sh .one n r)
    (hP : ∀ q, n < q → q ≤ T.length → ∀ r, Pr T fin sh (.pairs 0) q r → Out X T fin sh 12 [.int .i64 0] q bad r) : Out X T fin sh 51 [] n bad r := by
 have h0 : (0 : Int) ≤ n := by omega
 have w0 : IntKind.i64.wrap ((n : Int) + 0) = (n : Int) := zaaq (by omega) (by omega)
 have w1 : IntKind.i64.wrap ((n : Int) + 1) = ((n + 1 : Nat) : Int) := zaaq (by omega) (by omega)
 have kc := fun R l w K => kind_c (T := T) (fin := fin) (sh := sh) h.kind w0 bad R l w K
 have hword : ∀ {t}, T[n]? = some t → t.k = 3 → Out X T fin sh 61 [] n bad r := fun {t} ht hk => word_w h hT hl ht hk bad hp fun r hc hs hpp => call_w h hT hl ht hs bad hpp hP
 have fl := fun R l w K => fail_c (T := T) (fin := fin) (sh := sh) h.fail (n : Int) n bad R l w K
 have cc := fun k n s S K => zazk h.const k n s S K
 have ic := fun n S K => int_c (S := S) (K := K) h.int n
 have sg : ∀ (q : Nat), q ≤ 1000 → ∀ (u : ByteArray) R l w K, Vcallee Tryz.prog X _ [p0, .int .i64 0, .string u] ⟨cx (pbx T fin sh q bad) R, l, w⟩ K = K (.bool (sgn T q u)) [] ⟨cx (pbx T fin sh q bad) R, l, w⟩ [] false := fun q hq u R l w K => zale (T := T) (fin := fin) (sh := sh) h.sign h.kind (zaaq (j := 0) (by omega) (by omega)) u bad R l w K
 have s1 := fun u R l w K => zale (T := T) (fin := fin) (sh := sh) h.sign h.kind w1 u bad R l w K
 obtain ⟨ms, hms⟩ := err_ms
 have hx : ∀ {t}, T[n]? = some t → (T.map TK.v)[n]? = some (.agg ⟨[.int .i64 t.k, .int .i64 t.a, .string t.t]⟩) := fun ht => by rw [List.getElem?_map, ht]; rfl
 have tk := fun {t} (ht : T[n]? = some t) R l w K => take_c (T := T) (fin := fin) (sh := sh) h.take ht hl bad R l w K
 have hkk : ∀ {t}, T[n]? = some t → kindT T n = t.k := fun ht => by simp [kindT, ht]
 have hat : ∀ {t}, T[n]? = some t → atT T fin n = t.a := fun ht => by simp [atT, ht]
 have wordcase : ∀ {t}, T[n]? = some t → t.k = 3 → Out X T fin sh 51 [] n bad r := by
  intro t ht hk
  have oo := hword ht hk
  rw [hkk ht, hk] at kc
  cases r with
  | ok xm =>
   obtain ⟨x, m⟩ := xm
   have oc := fun R l w K => oo.c rfl rfl R l w K
   refine Out.ok fun R => ?_
   refine zaaf h.one Tryz.func51 rfl (by kernel_rfl) (by show 1 ≤ _; decide) ?_
   simp -dsimp only [↓kpre, kpost, light, ret1, cellF, afill, setAll, simprocAttr, ↓zadl, zadm, ↓cxpre, cxpost, List.length_map, ndl, ↓ndpre, ndow, ne_eq, not_false_eq_true, ↓kc, ↓oc]
  | error b =>
   obtain ⟨y, n', oc⟩ := oo.e rfl rfl
   refine Out.er fun R => ?_
   refine zaaf h.one Tryz.func51 rfl (by kernel_rfl) (by show 1 ≤ _; decide) ?_
   simp -dsimp only [↓kpre, kpost, light, ret1, cellF, afill, setAll, simprocAttr, ↓zadl, zadm, ↓cxpre, cxpost, List.length_map, ndl, ↓ndpre, ndow, ne_eq, not_false_eq_true, ↓kc, ↓oc]
   exact ⟨_, _, rfl, rfl⟩
 cases hp with
 | @num _ t v ht hk hv =>
  have hs := hT.size t (List.mem_of_getElem? ht)
  have at' := fun S K => h.atoi t.t (by omega) S K
  simp only [atoiV, hv] at at'
  have hx := hx ht
  have tk := tk ht
  rw [hkk ht, hk] at kc
  refine Out.ok fun R => ?_
  refine zaaf h.one Tryz.func51 rfl (by kernel_rfl) (by show 1 ≤ _; decide) ?_
  simp -dsimp only [↓kpre, kpost, light, ret1, cellF, afill, setAll, simprocAttr, ↓zadl, zadm, ↓cxpre, cxpost, List.length_map, ndl, ↓ndpre, ndow, ne_eq, not_false_eq_true, ↓kc]
  refine zaah [[], [], [], [], [], [], [], [], [], [], [], [], [], [], [], [], []] false (by kernel_rfl) (by kernel_rfl) (by kernel_rfl) ?_
  simp -dsimp only [↓kpre, kpost, light, ret1, cellF, afill, setAll, simprocAttr, ↓opre, opost, vspan, ↓zadl, zadm, ↓cxpre, cxpost, List.length_map, ndl, ↓ndpre, ndow, ne_eq, not_false_eq_true, ↓kc, h0, hx, ↓at', zad1, zafu, ↓tk, ↓ic, ↓cc]
  rfl
 | @numE _ t ht hk hv =>
  have hs := hT.size t (List.mem_of_getElem? ht)
  have at' := fun S K => h.atoi t.t (by omega) S K
  simp only [atoiV, hv] at at'
  have hx := hx ht
  rw [hkk ht, hk] at kc
  rw [hat ht] at fl
  refine Out.er fun R => ?_
  refine zaaf h.one Tryz.func51 rfl (by kernel_rfl) (by show 1 ≤ _; decide) ?_
  simp -dsimp only [↓kpre, kpost, light, ret1, cellF, afill, setAll, simprocAttr, ↓zadl, zadm, ↓cxpre, cxpost, List.length_map, ndl, ↓ndpre, ndow, ne_eq, not_false_eq_true, ↓kc]
  refine zaah [[], [], [], [], [], [], [], [], [], [], [], [], [], [], [], [], []] false (by kernel_rfl) (by kernel_rfl) (by kernel_rfl) ?_
  simp -dsimp only [↓kpre, kpost, light, ret1, cellF, afill, setAll, simprocAttr, ↓opre, opost, vspan, ↓zadl, zadm, ↓cxpre, cxpost, List.length_map, ndl, ↓ndpre, ndow, ne_eq, not_false_eq_true, ↓kc, h0, hx, ↓at', zad1, zakn _ _ hms, ↓fl]
  exact ⟨Nd.zero, _, rfl, rfl⟩
 | @text _ t ht hk =>
  have hs := hT.size t (List.mem_of_getElem? ht)
  have tc := fun S K => za6f (S := S) (K := K) h.text t.t hs
  have tk := tk ht
  rw [hkk ht, hk] at kc
  refine Out.ok fun R => ?_
  refine zaaf h.one Tryz.func51 rfl (by kernel_rfl) (by show 1 ≤ _; decide) ?_
  simp -dsimp only [↓kpre, kpost, light, ret1, cellF, afill, setAll, simprocAttr, ↓zadl, zadm, ↓cxpre, cxpost, List.length_map, ndl, ↓ndpre, ndow, ne_eq, not_false_eq_true, ↓kc, ↓tk, ↓tc, ↓cc]
 | yes ht hk => exact wordcase ht hk
 | no ht hk => exact wordcase ht hk
 | lost ht hk => exact wordcase ht hk
 | call ht hk => exact wordcase ht hk
 | word ht hk => exact wordcase ht hk
 | @name _ t ht hk hn' hs =>
  have hx := hx ht
  rw [hkk ht, hk] at kc
  have nc := fun S K => name_c (S := S) (K := K) h.n.name t.t
  rw [hn'] at nc
  have s1' := s1 ⟨#[33]⟩
  rw [hs] at s1'
  have oo := cell_p (fin := fin) (sh := sh) h hT hl n 2 (by omega) (by omega) t.t bad
  generalize cellG T fin t.t n 2 = r at oo
  cases r with
  | ok xm =>
   obtain ⟨x, m⟩ := xm
   have oc := fun R l w K => oo.c (by simp only [zaap, zaa0, zabf, zadk]) (by simp only [zabl, zack, zab0, zaeu, List.append_nil]) R l w K
   simp only [Int.cast_ofNat_Int] at oc
   refine Out.ok fun R => ?_
   refine zaaf h.one Tryz.func51 rfl (by kernel_rfl) (by show 1 ≤ _; decide) ?_
   simp -dsimp only [↓kpre, kpost, light, ret1, cellF, afill, setAll, simprocAttr, ↓zadl, zadm, ↓cxpre, cxpost, List.length_map, ndl, ↓ndpre, ndow, ne_eq, not_false_eq_true, ↓kc]
   refine zaah [[], [], [], [], [], [], [], [], [], [], [], [], [], [], [], [], [], []] false (by kernel_rfl) (by kernel_rfl) (by kernel_rfl) ?_
   simp -dsimp only [↓kpre, kpost, light, ret1, cellF, afill, setAll, simprocAttr, ↓opre, opost, vspan, ↓zadl, zadm, ↓cxpre, cxpost, List.length_map, ndl, ↓ndpre, ndow, ne_eq, not_false_eq_true, h0, hx, ↓nc, ↓s1']
   refine zaah [[], [], [], [], [], [], [], [], [], [], [], [], [], [], [], [], []] false (by kernel_rfl) (by kernel_rfl) (by kernel_rfl) ?_
   simp -dsimp only [↓kpre, kpost, light, ret1, cellF, afill, setAll, simprocAttr, ↓opre, opost, vspan, ↓zadl, zadm, ↓cxpre, cxpost, List.length_map, ndl, ↓ndpre, ndow, ne_eq, not_false_eq_true, h0, hx, ↓oc]
  | error b =>
   obtain ⟨y, n', oc⟩ := oo.e (by simp only [zaap, zaa0, zabf, zadk]) (by simp only [zabl, zack, zab0, zaeu, List.append_nil])
   simp only [Int.cast_ofNat_Int] at oc
   refine Out.er fun R => ?_
   refine zaaf h.one Tryz.func51 rfl (by kernel_rfl) (by show 1 ≤ _; decide) ?_
   simp -dsimp only [↓kpre, kpost, light, ret1, cellF, afill, setAll, simprocAttr, ↓zadl, zadm, ↓cxpre, cxpost, List.length_map, ndl, ↓ndpre, ndow, ne_eq, not_false_eq_true, ↓kc]
   refine zaah [[], [], [], [], [], [], [], [], [], [], [], [], [], [], [], [], [], []] false (by kernel_rfl) (by kernel_rfl) (by kernel_rfl) ?_
   simp -dsimp only [↓kpre, kpost, light, ret1, cellF, afill, setAll, simprocAttr, ↓opre, opost, vspan, ↓zadl, zadm, ↓cxpre, cxpost, List.length_map, ndl, ↓ndpre, ndow, ne_eq, not_false_eq_true, h0, hx, ↓nc, ↓s1']
   refine zaah [[], [], [], [], [], [], [], [], [], [], [], [], [], [], [], [], []] false (by kernel_rfl) (by kernel_rfl) (by kernel_rfl) ?_
   simp -dsimp only [↓kpre, kpost, light, ret1, cellF, afill, setAll, simprocAttr, ↓opre, opost, vspan, ↓zadl, zadm, ↓cxpre, cxpost, List.length_map, ndl, ↓ndpre, ndow, ne_eq, not_false_eq_true, h0, hx, ↓oc]
   exact ⟨_, _, rfl, rfl⟩
 | @nameE _ t ht hk hs =>
  have hx := hx ht
  rw [hkk ht, hk] at kc
  rw [hat ht] at fl
  have nc := fun S K => name_c (S := S) (K := K) h.n.name t.t
  have s1' := s1 ⟨#[33]⟩
  refine Out.er fun R => ?_
  refine zaaf h.one Tryz.func51 rfl (by kernel_rfl) (by show 1 ≤ _; decide) ?_
  simp -dsimp only [↓kpre, kpost, light, ret1, cellF, afill, setAll, simprocAttr, ↓zadl, zadm, ↓cxpre, cxpost, List.length_map, ndl, ↓ndpre, ndow, ne_eq, not_false_eq_true, ↓kc]
  refine zaah [[], [], [], [], [], [], [], [], [], [], [], [], [], [], [], [], [], []] false (by kernel_rfl) (by kernel_rfl) (by kernel_rfl) ?_
  cases hn' : nameF t.t with
  | false =>
   rw [hn'] at nc
   simp -dsimp only [↓kpre, kpost, light, ret1, cellF, afill, setAll, simprocAttr, ↓opre, opost, vspan, ↓zadl, zadm, ↓cxpre, cxpost, List.length_map, ndl, ↓ndpre, ndow, ne_eq, not_false_eq_true, h0, hx, ↓nc, ↓s1', ↓fl]
   exact ⟨Nd.zero, _, rfl, rfl⟩
  | true =>
   rw [hn'] at nc hs
   rw [Bool.true_and] at hs
   rw [hs] at s1'
   simp -dsimp only [↓kpre, kpost, light, ret1, cellF, afill, setAll, simprocAttr, ↓opre, opost, vspan, ↓zadl, zadm, ↓cxpre, cxpost, List.length_map, ndl, ↓ndpre, ndow, ne_eq, not_false_eq_true, h0, hx, ↓nc, ↓s1', ↓fl]
   exact ⟨Nd.zero, _, rfl, rfl⟩
 | @par _ x m hs h1 h2 =>
  have hlt := sgn_lt hs
  obtain ⟨t, ht⟩ : ∃ t, T[n]? = some t := ⟨T[n], by simp [hlt]⟩
  have tk := tk ht
  rw [hkk ht, sgn_k5 ht hs] at kc
  have sn := sg n (by omega) ⟨#[40]⟩
  rw [hs] at sn
  have hon := h1.on _ _ rfl
  simp only [Gl.on] at hon
  have hm' : m ≤ T.length := hon.2 (by omega)
  have sm := sg m (by omega) ⟨#[41]⟩
  rw [h2] at sm
  obtain ⟨t2, ht2⟩ : ∃ t, T[m]? = some t := ⟨T[m]'(sgn_lt h2), by simp [sgn_lt h2]⟩
  have tk2 := fun R l w K => take_c (T := T) (fin := fin) (sh := sh) h.take ht2 hl bad R l w K
  have oc := fun R l w K => (hP (n + 1) (by omega) (by omega) _ h1).c rfl rfl R l w K
  refine Out.ok fun R => ?_
  refine zaaf h.one Tryz.func51 rfl (by kernel_rfl) (by show 1 ≤ _; decide) ?_
  simp -dsimp only [↓kpre, kpost, light, ret1, cellF, afill, setAll, simprocAttr, ↓zadl, zadm, ↓cxpre, cxpost, List.length_map, ndl, ↓ndpre, ndow, ne_eq, not_false_eq_true, ↓kc, ↓sn, ↓tk, ↓oc, ↓sm, ↓tk2]
 | @parE _ b hs h1 =>
  have hlt := sgn_lt hs
  obtain ⟨t, ht⟩ : ∃ t, T[n]? = some t := ⟨T[n], by simp [hlt]⟩
  have tk := tk ht
  rw [hkk ht, sgn_k5 ht hs] at kc
  have sn := sg n (by omega) ⟨#[40]⟩
  rw [hs] at sn
  obtain ⟨y, n', oc⟩ := (hP (n + 1) (by omega) (by omega) _ h1).e rfl rfl
  refine Out.er fun R => ?_
  refine zaaf h.one Tryz.func51 rfl (by kernel_rfl) (by show 1 ≤ _; decide) ?_
  simp -dsimp only [↓kpre, kpost, light, ret1, cellF, afill, setAll, simprocAttr, ↓zadl, zadm, ↓cxpre, cxpost, List.length_map, ndl, ↓ndpre, ndow, ne_eq, not_false_eq_true, ↓kc, ↓sn, ↓tk, ↓oc]
  exact ⟨_, _, rfl, rfl⟩
 | @parF _ x m hs h1 h2 =>
  have hlt := sgn_lt hs
  obtain ⟨t, ht⟩ : ∃ t, T[n]? = some t := ⟨T[n], by simp [hlt]⟩
  have tk := tk ht
  rw [hkk ht, sgn_k5 ht hs] at kc
  have sn := sg n (by omega) ⟨#[40]⟩
  rw [hs] at sn
  have hon := h1.on _ _ rfl
  simp only [Gl.on] at hon
  have hm' : m ≤ T.length := hon.2 (by omega)
  have sm := sg m (by omega) ⟨#[41]⟩
  rw [h2] at sm
  have flm := fun R l w K => fail_c (T := T) (fin := fin) (sh := sh) h.fail (m : Int) m bad R l w K
  have oc := fun R l w K => (hP (n + 1) (by omega) (by omega) _ h1).c rfl rfl R l w K
  refine Out.er fun R => ?_
  refine zaaf h.one Tryz.func51 rfl (by kernel_rfl) (by show 1 ≤ _; decide) ?_
  simp -dsimp only [↓kpre, kpost, light, ret1, cellF, afill, setAll, simprocAttr, ↓zadl, zadm, ↓cxpre, cxpost, List.length_map, ndl, ↓ndpre, ndow, ne_eq, not_false_eq_true, ↓kc, ↓sn, ↓tk, ↓oc, ↓sm, ↓flm]
  exact ⟨Nd.zero, _, rfl, rfl⟩
 | fin ht =>
  have hk0 : kindT T n = 0 := by simp [kindT, ht]
  have ha : atT T fin n = fin := by simp [atT, ht]
  rw [hk0] at kc
  rw [ha] at fl
  have sn := sg n (by omega) ⟨#[40]⟩
  have hsf : sgn T n ⟨#[40]⟩ = false := by simp [sgn, ht]
  rw [hsf] at sn
  refine Out.er fun R => ?_
  refine zaaf h.one Tryz.func51 rfl (by kernel_rfl) (by show 1 ≤ _; decide) ?_
  simp -dsimp only [↓kpre, kpost, light, ret1, cellF, afill, setAll, simprocAttr, ↓zadl, zadm, ↓cxpre, cxpost, List.length_map, ndl, ↓ndpre, ndow, ne_eq, not_false_eq_true, ↓kc, ↓sn, ↓fl]
  exact ⟨Nd.zero, _, rfl, rfl⟩
 | @sign _ t ht hk hs =>
  rw [hkk ht, hk] at kc
  rw [hat ht] at fl
  have sn := sg n (by omega) ⟨#[40]⟩
  rw [hs] at sn
  refine Out.er fun R => ?_
  refine zaaf h.one Tryz.func51 rfl (by kernel_rfl) (by show 1 ≤ _; decide) ?_
  simp -dsimp only [↓kpre, kpost, light, ret1, cellF, afill, setAll, simprocAttr, ↓zadl, zadm, ↓cxpre, cxpost, List.length_map, ndl, ↓ndpre, ndow, ne_eq, not_false_eq_true, ↓kc, ↓sn, ↓fl]
  exact ⟨Nd.zero, _, rfl, rfl⟩
end
end Go.Proofs.YtliemjbafgnnbaaGreatDoor.Abs
/- The program's parser: what ops join; the whole. -/
namespace Go.Proofs.YtliemjbafgnnbaaGreatDoor.Abs
open Go
def zace := And.intro (And.intro (@val29) (And.intro (@vfk23) (@vfk24))) (And.intro (And.intro (@vfk12) (@vfk25)) (And.intro (@vfk26) (@vfk27)))
def zacg := And.intro (And.intro (And.intro (And.intro (And.intro (@vld65) (@vgt65)) (And.intro (@vld39) (And.intro (@vgt39) (@vld3)))) (And.intro (And.intro (@vgt3) (@vld9)) (And.intro (@vgt9) (And.intro (@vld29) (@vgt29))))) (And.intro (And.intro (And.intro (@vst29) (@zai2)) (And.intro (@zai4) (And.intro (@zahe) (@zahf)))) (And.intro (And.intro (@zagi) (@zagj)) (And.intro (@bd29) (And.intro (@pl29_0) (@pl29_1)))))) (And.intro (And.intro (And.intro (And.intro (@pl29_2) (@pl29_3)) (And.intro (@pl29_4) (And.intro (@pl29_5) (@pl29_6)))) (And.intro (And.intro (@vbd27) (@vix60)) (And.intro (@vio60) (And.intro (@vis60) (@viw60))))) (And.intro (And.intro (And.intro (@vix39) (@vio39)) (And.intro (@vis39) (And.intro (@viw39) (@vlr60)))) (And.intro (And.intro (@vlo60) (@vlz60)) (And.intro (@vls60) (And.intro (@vlw60) (@Tryz.results12))))))
attribute [local irreducible] Hold VReg Vf Vc VWP With VStp Vcallee Vp VE SeqK BlkK FinK NormK
section
variable {X : VOuter} {T : List TK} {fin : Nat} {sh : ByteArray}
theorem zaqs {rank q : Nat} {op : ByteArray} (h : opAt T rank q = some op) : ∃ t, T[q]? = some t ∧ t.k = 5 ∧ t.t = op ∧ (opsL rank).any (fun o => decide (t.t = o)) = true := by
 unfold opAt at h
 split at h
 ·rename_i t ht
  split at h
  ·rename_i hh
   cases h
   simp only [Bool.and_eq_true, decide_eq_true_eq] at hh
   exact ⟨t, ht, hh.1, rfl, hh.2⟩
  ·cases h
 ·cases h
theorem za5m {rank q : Nat} (h : opAt T rank q = none) : kindT T q ≠ 5 ∨ ∃ t, T[q]? = some t ∧ t.k = 5 ∧ (opsL rank).any (fun o => decide (t.t = o)) = false := by
 unfold opAt at h
 cases ht : T[q]? with
 | none => left; simp [kindT, ht]
 | some t =>
  rw [ht] at h
  simp only at h
  by_cases hk : t.k = 5
  ·right
   refine ⟨t, rfl, hk, ?_⟩
   cases ha : (opsL rank).any (fun o => decide (t.t = o)) with
   | false => rfl
   | true => rw [hk, ha] at h; simp at h
  ·left; simp [kindT, ht, hk]
def lieF (q : Tok) (x : Nd) (L : List Value) : Prop := L = x.cs ∨ ∃ op a b, x = Nd.pair op a b ∧ L = [.int .i64 5, .string op, .string .empty, .int .i64 0, .int .i64 0, .string .empty, .string .empty, .int .i64 0, .int .i64 0, .string .empty, .int .i64 0, .int .i64 0, vo q 13 0 [.agg ⟨a.cs⟩, .agg ⟨b.cs⟩]]
theorem zaib (op : ByteArray) (a b : Nd) : (Nd.pair op a b).cs = [.int .i64 5, .string op, .string .empty, .int .i64 0, .int .i64 0, .string .empty, .string .empty, .int .i64 0, .int .i64 0, .string .empty, .int .i64 0, .int .i64 0, vs 0 13 [.agg ⟨a.cs⟩, .agg ⟨b.cs⟩]] := by simp [Nd.pair, Nd.cs, Nd.vs, sl, v0, c0]
theorem zauz (x : Nd) (a b c d e f g i j k l m n : Value) : ((((((((((((x.cs.set 0 a).set 1 b).set 2 c).set 3 d).set 4 e).set 5 f).set 6 g).set 7 i).set 8 j).set 9 k).set 10 l).set 11 m).set 12 n = [a, b, c, d, e, f, g, i, j, k, l, m, n] := by cases x; rfl
theorem zaz5 (h : PaOff X) (hT : TokOk T) (hl : T.length ≤ 1000) {n : Nat} (hn : n ≤ T.length) (bad : Int) {rank : Nat} (hr : rank ≤ 4) {r : Except Nat (Nd × Nat)} (hp : Pr T fin sh (.pairs rank) n r)
    (hM : ∀ r, Pr T fin sh .minus n r → Out X T fin sh 24 [] n bad r)
    (h0 : rank < 4 → ∀ r, Pr T fin sh (.pairs (rank + 1)) n r → Out X T fin sh 12 [.int .i64 (rank + 1 : Nat)] n bad r)
    (hP : ∀ q, n < q → q ≤ T.length → ∀ r, rank < 4 → Pr T fin sh (.pairs (rank + 1)) q r → Out X T fin sh 12 [.int .i64 (rank + 1 : Nat)] q bad r) : Out X T fin sh 12 [.int .i64 rank] n bad r := by
 have rc := fun S K => za5w h.ranks S K
 have w1 : IntKind.i64.wrap ((rank : Int) + 1) = ((rank + 1 : Nat) : Int) := zaaq (by omega) (by omega)
 have a1 : mapOwnL (lend false) [.int .i64 ((rank + 1 : Nat) : Int)] = [.int .i64 ((rank + 1 : Nat) : Int)] := by simp only [zaap, zaa0, zadk]
 have a2 : toksL [.int .i64 ((rank + 1 : Nat) : Int)] = [] := by simp only [zabl, zack, zaeu, List.append_nil]
 cases hp with
 | top h1 =>
  have oo := hM _ h1
  have e4 : ((opsVs.length : Nat) : Int) = 4 := rfl
  cases r with
  | ok xm =>
   obtain ⟨x, m⟩ := xm
   have oc := fun R l w K => oo.c rfl rfl R l w K
   refine Out.ok fun R => ?_
   refine zaaf h.pairs Tryz.func12 rfl (by kernel_rfl) (by show 2 ≤ _; decide) ?_
   simp -dsimp only [↓kpre, kpost, light, ret1, cellF, afill, setAll, simprocAttr, ↓zace, zacg, ↓cxpre, cxpost, List.length_map, ndl, ↓ndpre, ndow, ne_eq, not_false_eq_true, zaaa, and_false, if_false, Option.isNone_some, ↓rc, e4, ↓oc]
  | error b =>
   obtain ⟨y, n', oc⟩ := oo.e rfl rfl
   refine Out.er fun R => ?_
   refine zaaf h.pairs Tryz.func12 rfl (by kernel_rfl) (by show 2 ≤ _; decide) ?_
   simp -dsimp only [↓kpre, kpost, light, ret1, cellF, afill, setAll, simprocAttr, ↓zace, zacg, ↓cxpre, cxpost, List.length_map, ndl, ↓ndpre, ndow, ne_eq, not_false_eq_true, zaaa, and_false, if_false, Option.isNone_some, ↓rc, e4, ↓oc]
   exact ⟨_, _, rfl, rfl⟩
 | @pairsE _ _ b hr4 h1 =>
  have e4 : ((opsVs.length : Nat) : Int) = 4 := rfl
  have hne : ¬ (rank : Int) = 4 := by omega
  obtain ⟨y, n', oc⟩ := (h0 hr4 _ h1).e a1 a2
  refine Out.er fun R => ?_
  refine zaaf h.pairs Tryz.func12 rfl (by kernel_rfl) (by show 2 ≤ _; decide) ?_
  simp -dsimp only [↓kpre, kpost, light, ret1, cellF, afill, setAll, simprocAttr, ↓zace, zacg, ↓cxpre, cxpost, List.length_map, ndl, ↓ndpre, ndow, ne_eq, not_false_eq_true, zaaa, and_false, if_false, Option.isNone_some, ↓rc, e4, hne, w1, ↓oc]
  refine zapr ?_
  simp -dsimp only [↓kpre, kpost, light, ret1, cellF, afill, setAll, simprocAttr, ↓zace, zacg, ↓cxpre, cxpost, List.length_map, ndl, ↓ndpre, ndow, ne_eq, not_false_eq_true, zaaa, and_false, if_false, Option.isNone_some]
  refine zaah [[], [], [], [], [], [], [], [], [], [], [], [], [], [], [], [], [], [], [], [], [], [], [], []] false (by kernel_rfl) (by kernel_rfl) (by kernel_rfl) ?_
  simp -dsimp only [↓kpre, kpost, light, ret1, cellF, afill, setAll, simprocAttr, ↓opre, opost, vspan, ↓zace, zacg, ↓cxpre, cxpost, List.length_map, ndl, ↓ndpre, ndow, ne_eq, not_false_eq_true, zaaa, and_false, if_false, Option.isNone_some]
  exact ⟨_, _, rfl, rfl⟩
 | @pairs _ _ x m _ hr4 h1 h2 =>
  have e4 : ((opsVs.length : Nat) : Int) = 4 := rfl
  have hne : ¬ (rank : Int) = 4 := by omega
  have oc := fun R l w K => (h0 hr4 _ h1).c a1 a2 R l w K
  have hon := h1.on _ _ rfl
  simp only [Gl.on] at hon
  have hm' : m ≤ T.length := hon.2 (by omega)
  have main : ∀ R, Vf Tryz.prog X 12 [p0, .int .i64 rank] (cx (pbx T fin sh n bad) R) fun v ws => match r with
   | .ok (x, m) => ws = [(1, pbx T fin sh m bad)] ∧ v = .tuple ⟨[.agg ⟨x.cs⟩, .bool true]⟩
   | .error b => ∃ (y : Nd) (n' : Int), ws = [(1, pbx T fin sh n' b)] ∧ v = .tuple ⟨[.agg ⟨y.cs⟩, .bool false]⟩ := by
   intro R
   refine zaaf h.pairs Tryz.func12 rfl (by kernel_rfl) (by show 2 ≤ _; decide) ?_
   simp -dsimp only [↓kpre, kpost, light, ret1, cellF, afill, setAll, simprocAttr, ↓zace, zacg, ↓cxpre, cxpost, List.length_map, ndl, ↓ndpre, ndow, ne_eq, not_false_eq_true, zaaa, and_false, if_false, Option.isNone_some, ↓rc, e4, hne, w1, ↓oc]
   refine zabw (fun k e S => ∃ (x : Nd) (L : List Value) (J : List Blk), lieF (cl R + 1, some 12) x L ∧ eget e 0 = p0 ∧ eget e 1 = .int .i64 rank ∧ eget e 4 = .pointer (some ⟨cl R, 0, none⟩) ∧ eget e 6 = vs 0 1 opsVs ∧ eget e 7 = .pointer (some ⟨cl R + 1, 0, none⟩) ∧
    ((∃ q : Nat, k = T.length + 1 - q ∧ n < q ∧ q ≤ T.length ∧ Pr T fin sh (.rest rank x) q r ∧ eget e 8 = .bool true ∧ S = ⟨cx (pbx T fin sh q bad) R, zbx :: .cells true 29 L :: J, [1]⟩) ∨
     (∃ (b : Nat) (n' : Int), k = 0 ∧ r = .error b ∧ eget e 8 = .bool false ∧ S = ⟨cx (pbx T fin sh n' b) R, zbx :: .cells true 29 L :: J, [1]⟩))) (T.length + 1 - m) ?_ ?_
   ·refine ⟨x, x.cs, [], .inl rfl, ?_, ?_, ?_, ?_, ?_, .inl ⟨m, rfl, hon.1, hm', h2, ?_, ?_⟩⟩
    ·simp only [↓epre, epost, simprocAttr]
    ·simp only [↓epre, epost, simprocAttr]
    ·simp only [↓epre, epost, simprocAttr]
    ·simp only [↓epre, epost, simprocAttr]
    ·simp only [↓epre, epost, simprocAttr]
    ·simp only [↓epre, epost, simprocAttr]
    ·rfl
   ·rintro k e S ⟨x, L, J, hL, e0, e1, e4', e6, e7, hst⟩
    refine VWP_Vc _ _ _ _ ?_
    have hcl : ¬ (cl R + 1 = cl R) := by omega
    rcases hst with ⟨q, rfl, hnq, hqT, hq, e8, rfl⟩ | ⟨b, n', rfl, rfl, e8, rfl⟩
    ·have hq0 : (0 : Int) ≤ q := by omega
     have hr0 : (0 : Int) ≤ rank := by omega
     have w0 : IntKind.i64.wrap ((q : Int) + 0) = (q : Int) := zaaq (by omega) (by omega)
     have kc := fun R l w K => kind_c (T := T) (fin := fin) (sh := sh) h.kind w0 bad R l w K
     have hops := zau7 hr4
     have sc := fun u S K => scon_c h.scon h.sidx rank u S K
     cases hq with
     | restN _ ho =>
      rcases za5m ho with hk | ⟨t, ht, hk, ha⟩
      ·generalize kindT T q = kk at hk kc
       rcases hL with rfl | ⟨op, a, b', rfl, rfl⟩
       ·simp -dsimp only [↓kpre, kpost, light, ret1, cellF, afill, setAll, simprocAttr, ↓zace, zacg, ↓cxpre, cxpost, List.length_map, ndl, ↓ndpre, ndow, ne_eq, not_false_eq_true, zaaa, and_false, if_false, Option.isNone_some, e0, e1, e4', e6, e7, e8]
        refine zaah [[], [], [], [], [], [], [], [], [], [], [], [], [], [], [], [], [], [], [], [], [], [], [], []] false (by kernel_rfl) (by kernel_rfl) (by kernel_rfl) ?_
        simp -dsimp only [↓kpre, kpost, light, ret1, cellF, afill, setAll, simprocAttr, ↓opre, opost, vspan, ↓zace, zacg, ↓cxpre, cxpost, List.length_map, ndl, ↓ndpre, ndow, ne_eq, not_false_eq_true, zaaa, and_false, if_false, Option.isNone_some, e0, e1, e4', e6, e7, e8, ↓kc, hk]
       ·simp -dsimp only [↓kpre, kpost, light, ret1, cellF, afill, setAll, simprocAttr, ↓zace, zacg, ↓cxpre, cxpost, List.length_map, ndl, ↓ndpre, ndow, ne_eq, not_false_eq_true, zaaa, and_false, if_false, Option.isNone_some, e0, e1, e4', e6, e7, e8]
        refine zaah [[], [], [], [], [], [], [], [], [], [], [], [], [], [], [], [], [], [], [], [], [], [], [], []] false (by kernel_rfl) (by kernel_rfl) (by kernel_rfl) ?_
        simp -dsimp only [↓kpre, kpost, light, ret1, cellF, afill, setAll, simprocAttr, ↓opre, opost, vspan, ↓zace, zacg, ↓cxpre, cxpost, List.length_map, ndl, ↓ndpre, ndow, ne_eq, not_false_eq_true, zaaa, and_false, if_false, Option.isNone_some, e0, e1, e4', e6, e7, e8, ↓kc, hk, hcl, zaib]
      ·have hkk : kindT T q = 5 := by simp [kindT, ht, hk]
       rw [hkk] at kc
       have sc := sc t.t
       rw [ha] at sc
       have hx : (T.map TK.v)[q]? = some (.agg ⟨[.int .i64 t.k, .int .i64 t.a, .string t.t]⟩) := by rw [List.getElem?_map, ht]; rfl
       rcases hL with rfl | ⟨op, a, b', rfl, rfl⟩
       ·simp -dsimp only [↓kpre, kpost, light, ret1, cellF, afill, setAll, simprocAttr, ↓zace, zacg, ↓cxpre, cxpost, List.length_map, ndl, ↓ndpre, ndow, ne_eq, not_false_eq_true, zaaa, and_false, if_false, Option.isNone_some, e0, e1, e4', e6, e7, e8]
        refine zaah [[], [], [], [], [], [], [], [], [], [], [], [], [], [], [], [], [], [], [], [], [], [], [], []] false (by kernel_rfl) (by kernel_rfl) (by kernel_rfl) ?_
        simp -dsimp only [↓kpre, kpost, light, ret1, cellF, afill, setAll, simprocAttr, ↓opre, opost, vspan, ↓zace, zacg, ↓cxpre, cxpost, List.length_map, ndl, ↓ndpre, ndow, ne_eq, not_false_eq_true, zaaa, and_false, if_false, Option.isNone_some, e0, e1, e4', e6, e7, e8, ↓kc, hq0, hr0, hops, hx, ↓sc]
       ·simp -dsimp only [↓kpre, kpost, light, ret1, cellF, afill, setAll, simprocAttr, ↓zace, zacg, ↓cxpre, cxpost, List.length_map, ndl, ↓ndpre, ndow, ne_eq, not_false_eq_true, zaaa, and_false, if_false, Option.isNone_some, e0, e1, e4', e6, e7, e8]
        refine zaah [[], [], [], [], [], [], [], [], [], [], [], [], [], [], [], [], [], [], [], [], [], [], [], []] false (by kernel_rfl) (by kernel_rfl) (by kernel_rfl) ?_
        simp -dsimp only [↓kpre, kpost, light, ret1, cellF, afill, setAll, simprocAttr, ↓opre, opost, vspan, ↓zace, zacg, ↓cxpre, cxpost, List.length_map, ndl, ↓ndpre, ndow, ne_eq, not_false_eq_true, zaaa, and_false, if_false, Option.isNone_some, e0, e1, e4', e6, e7, e8, ↓kc, hq0, hr0, hops, hx, ↓sc, hcl, zaib]
     | @restO _ _ _ op y m' _ _ ho h3 h4 =>
      obtain ⟨t, ht, hk, rfl, ha⟩ := zaqs ho
      have hlt := zak8 ho
      have hkk : kindT T q = 5 := by simp [kindT, ht, hk]
      rw [hkk] at kc
      have sc := sc t.t
      rw [ha] at sc
      have hx : (T.map TK.v)[q]? = some (.agg ⟨[.int .i64 t.k, .int .i64 t.a, .string t.t]⟩) := by rw [List.getElem?_map, ht]; rfl
      have tk := fun R l w K => take_c (T := T) (fin := fin) (sh := sh) h.take ht hl bad R l w K
      have oc := fun R l w K => (hP (q + 1) (by omega) (by omega) _ hr4 h3).c a1 a2 R l w K
      have hon := h3.on _ _ rfl
      simp only [Gl.on] at hon
      have hm' : m' ≤ T.length := hon.2 (by omega)
      rcases hL with rfl | ⟨op, a, b', rfl, rfl⟩
      ·simp -dsimp only [↓kpre, kpost, light, ret1, cellF, afill, setAll, simprocAttr, ↓zace, zacg, ↓cxpre, cxpost, List.length_map, ndl, ↓ndpre, ndow, ne_eq, not_false_eq_true, zaaa, and_false, if_false, Option.isNone_some, e0, e1, e4', e6, e7, e8]
       refine zaah [[], [], [], [], [], [], [], [], [], [], [], [], [], [], [], [], [], [], [], [], [], [], [], []] false (by kernel_rfl) (by kernel_rfl) (by kernel_rfl) ?_
       simp -dsimp only [↓kpre, kpost, light, ret1, cellF, afill, setAll, simprocAttr, ↓opre, opost, vspan, ↓zace, zacg, ↓cxpre, cxpost, List.length_map, ndl, ↓ndpre, ndow, ne_eq, not_false_eq_true, zaaa, and_false, if_false, Option.isNone_some, e0, e1, e4', e6, e7, e8, ↓kc, hq0, hr0, hops, hx, ↓sc, ↓tk, w1, ↓oc]
       exact ⟨T.length + 1 - m', by omega, _, _, _, .inr ⟨_, _, _, rfl, rfl⟩, .inl ⟨m', rfl, by omega, hm', h4, by rw [zauz]⟩⟩
      ·simp -dsimp only [↓kpre, kpost, light, ret1, cellF, afill, setAll, simprocAttr, ↓zace, zacg, ↓cxpre, cxpost, List.length_map, ndl, ↓ndpre, ndow, ne_eq, not_false_eq_true, zaaa, and_false, if_false, Option.isNone_some, e0, e1, e4', e6, e7, e8]
       refine zaah [[], [], [], [], [], [], [], [], [], [], [], [], [], [], [], [], [], [], [], [], [], [], [], []] false (by kernel_rfl) (by kernel_rfl) (by kernel_rfl) ?_
       simp -dsimp only [↓kpre, kpost, light, ret1, cellF, afill, setAll, simprocAttr, ↓opre, opost, vspan, ↓zace, zacg, ↓cxpre, cxpost, List.length_map, ndl, ↓ndpre, ndow, ne_eq, not_false_eq_true, zaaa, and_false, if_false, Option.isNone_some, e0, e1, e4', e6, e7, e8, ↓kc, hq0, hr0, hops, hx, ↓sc, ↓tk, w1, ↓oc, hcl]
       refine ⟨T.length + 1 - m', by omega, Nd.pair t.t (Nd.pair op a b') y, _, _, .inr ⟨_, _, _, rfl, ?_⟩, .inl ⟨m', rfl, by omega, hm', h4, rfl⟩⟩
       rw [zaib]
     | @restE _ _ _ op b _ ho h3 =>
      obtain ⟨t, ht, hk, rfl, ha⟩ := zaqs ho
      have hlt := zak8 ho
      have hkk : kindT T q = 5 := by simp [kindT, ht, hk]
      rw [hkk] at kc
      have sc := sc t.t
      rw [ha] at sc
      have hx : (T.map TK.v)[q]? = some (.agg ⟨[.int .i64 t.k, .int .i64 t.a, .string t.t]⟩) := by rw [List.getElem?_map, ht]; rfl
      have tk := fun R l w K => take_c (T := T) (fin := fin) (sh := sh) h.take ht hl bad R l w K
      obtain ⟨y, n', oc⟩ := (hP (q + 1) (by omega) (by omega) _ hr4 h3).e a1 a2
      rcases hL with rfl | ⟨op, a, b', rfl, rfl⟩
      ·simp -dsimp only [↓kpre, kpost, light, ret1, cellF, afill, setAll, simprocAttr, ↓zace, zacg, ↓cxpre, cxpost, List.length_map, ndl, ↓ndpre, ndow, ne_eq, not_false_eq_true, zaaa, and_false, if_false, Option.isNone_some, e0, e1, e4', e6, e7, e8]
       refine zaah [[], [], [], [], [], [], [], [], [], [], [], [], [], [], [], [], [], [], [], [], [], [], [], []] false (by kernel_rfl) (by kernel_rfl) (by kernel_rfl) ?_
       simp -dsimp only [↓kpre, kpost, light, ret1, cellF, afill, setAll, simprocAttr, ↓opre, opost, vspan, ↓zace, zacg, ↓cxpre, cxpost, List.length_map, ndl, ↓ndpre, ndow, ne_eq, not_false_eq_true, zaaa, and_false, if_false, Option.isNone_some, e0, e1, e4', e6, e7, e8, ↓kc, hq0, hr0, hops, hx, ↓sc, ↓tk, w1, ↓oc]
       exact ⟨0, by omega, _, _, _, .inl rfl, .inr ⟨_, _, rfl, rfl, rfl⟩⟩
      ·simp -dsimp only [↓kpre, kpost, light, ret1, cellF, afill, setAll, simprocAttr, ↓zace, zacg, ↓cxpre, cxpost, List.length_map, ndl, ↓ndpre, ndow, ne_eq, not_false_eq_true, zaaa, and_false, if_false, Option.isNone_some, e0, e1, e4', e6, e7, e8]
       refine zaah [[], [], [], [], [], [], [], [], [], [], [], [], [], [], [], [], [], [], [], [], [], [], [], []] false (by kernel_rfl) (by kernel_rfl) (by kernel_rfl) ?_
       simp -dsimp only [↓kpre, kpost, light, ret1, cellF, afill, setAll, simprocAttr, ↓opre, opost, vspan, ↓zace, zacg, ↓cxpre, cxpost, List.length_map, ndl, ↓ndpre, ndow, ne_eq, not_false_eq_true, zaaa, and_false, if_false, Option.isNone_some, e0, e1, e4', e6, e7, e8, ↓kc, hq0, hr0, hops, hx, ↓sc, ↓tk, w1, ↓oc, hcl]
       exact ⟨0, by omega, _, _, _, .inr ⟨_, _, _, rfl, rfl⟩, .inr ⟨_, _, rfl, rfl, rfl⟩⟩
    ·rcases hL with rfl | ⟨op, a, b', rfl, rfl⟩
     ·simp -dsimp only [↓kpre, kpost, light, ret1, cellF, afill, setAll, simprocAttr, ↓zace, zacg, ↓cxpre, cxpost, List.length_map, ndl, ↓ndpre, ndow, ne_eq, not_false_eq_true, zaaa, and_false, if_false, Option.isNone_some, e0, e1, e4', e6, e7, e8]
      refine zaah [[], [], [], [], [], [], [], [], [], [], [], [], [], [], [], [], [], [], [], [], [], [], [], []] false (by kernel_rfl) (by kernel_rfl) (by kernel_rfl) ?_
      simp -dsimp only [↓kpre, kpost, light, ret1, cellF, afill, setAll, simprocAttr, ↓opre, opost, vspan, ↓zace, zacg, ↓cxpre, cxpost, List.length_map, ndl, ↓ndpre, ndow, ne_eq, not_false_eq_true, zaaa, and_false, if_false, Option.isNone_some, e0, e1, e4', e6, e7, e8]
      exact ⟨_, _, rfl, rfl⟩
     ·simp -dsimp only [↓kpre, kpost, light, ret1, cellF, afill, setAll, simprocAttr, ↓zace, zacg, ↓cxpre, cxpost, List.length_map, ndl, ↓ndpre, ndow, ne_eq, not_false_eq_true, zaaa, and_false, if_false, Option.isNone_some, e0, e1, e4', e6, e7, e8]
      refine zaah [[], [], [], [], [], [], [], [], [], [], [], [], [], [], [], [], [], [], [], [], [], [], [], []] false (by kernel_rfl) (by kernel_rfl) (by kernel_rfl) ?_
      simp -dsimp only [↓kpre, kpost, light, ret1, cellF, afill, setAll, simprocAttr, ↓opre, opost, vspan, ↓zace, zacg, ↓cxpre, cxpost, List.length_map, ndl, ↓ndpre, ndow, ne_eq, not_false_eq_true, zaaa, and_false, if_false, Option.isNone_some, e0, e1, e4', e6, e7, e8, hcl]
      exact ⟨Nd.pair op a b', _, rfl, by rw [zaib]⟩
  intro R
  cases r with
  | ok xm => exact main R
  | error b => exact Vf_out (main R)
theorem za5r (h : PaOff X) (hT : TokOk T) (hl : T.length ≤ 1000) (bad : Int) : ∀ d n, T.length - n ≤ d → n ≤ T.length →
    (∀ r, Pr T fin sh .one n r → Out X T fin sh 51 [] n bad r) ∧ (∀ r, Pr T fin sh .minus n r → Out X T fin sh 24 [] n bad r) ∧ (∀ rank, rank ≤ 4 → ∀ r, Pr T fin sh (.pairs rank) n r → Out X T fin sh 12 [.int .i64 rank] n bad r) := by
 intro d
 induction d using Nat.strongRecOn with
 | ind d IH =>
  intro n hd hn
  have nx : ∀ q, n < q → q ≤ T.length → _ := fun q h1 h2 => IH (T.length - q) (by omega) q (Nat.le_refl _) h2
  have hone : ∀ r, Pr T fin sh .one n r → Out X T fin sh 51 [] n bad r := fun r hp => one_w h hT hl hn bad hp fun q h1 h2 r hpp => (nx q h1 h2).2.2 0 (by omega) r hpp
  have hmin : ∀ r, Pr T fin sh .minus n r → Out X T fin sh 24 [] n bad r := fun r hp => za5f h hT hl hn bad hp hone fun h1 r hpp => (nx (n + 1) (by omega) (by omega)).2.1 r hpp
  refine ⟨hone, hmin, ?_⟩
  have key : ∀ k rank, rank + k = 4 → ∀ r, Pr T fin sh (.pairs rank) n r → Out X T fin sh 12 [.int .i64 rank] n bad r := by
   intro k
   induction k with
   | zero => intro rank e r hp; exact zaz5 h hT hl hn bad (by omega) hp hmin (fun h4 => by omega) (fun q h1 h2 r h4 => by omega)
   | succ k ih => intro rank e r hp; exact zaz5 h hT hl hn bad (by omega) hp hmin (fun h4 r hpp => ih (rank + 1) (by omega) r hpp) (fun q h1 h2 r h4 hpp => (nx q h1 h2).2.2 (rank + 1) (by omega) r hpp)
  exact fun rank hr => key (4 - rank) rank (by omega)
theorem za22 (h : PaOff X) (hT : TokOk T) (hl : T.length ≤ 1000) (bad : Int) {r : Except Nat (Nd × Nat)} (hp : Pr T fin sh (.pairs 0) 0 r) : Out X T fin sh 12 [.int .i64 0] 0 bad r := (za5r h hT hl bad T.length 0 (by omega) (by omega)).2.2 0 (by omega) r hp
end
end Go.Proofs.YtliemjbafgnnbaaGreatDoor.Abs
