/- The program's parser: what ops join; the whole. -/
import Derived.Test.YtliemjbafgnnbaaDoorML2
import Derived.Test.YtliemjbafgnnbaaDoorPW29
set_option maxHeartbeats 0
set_option linter.defProp false
set_option linter.unnecessarySimpa false
set_option linter.unusedSimpArgs false
set_option linter.unusedVariables false
set_option maxRecDepth 4000
namespace Go.Proofs.YtliemjbafgnnbaaDoor.Abs
open Go
def zabw := And.intro (And.intro (@val31) (And.intro (@vfk14) (@vfk15))) (And.intro (And.intro (@vfk10) (@vfk16)) (And.intro (@vfk17) (@vfk18)))
def zaby := And.intro (And.intro (And.intro (And.intro (And.intro (@vld23) (@vgt23)) (And.intro (@vld38) (And.intro (@vgt38) (@vld3)))) (And.intro (And.intro (@vgt3) (@vld9)) (And.intro (@vgt9) (And.intro (@vld31) (@vgt31))))) (And.intro (And.intro (And.intro (@vst31) (@zah3)) (And.intro (@zah4) (And.intro (@zagp) (@zagq)))) (And.intro (And.intro (@zaje) (@zajj)) (And.intro (@bd31) (And.intro (@pl31_0) (@pl31_1)))))) (And.intro (And.intro (And.intro (And.intro (@pl31_2) (@pl31_3)) (And.intro (@pl31_4) (And.intro (@pl31_5) (@pl31_6)))) (And.intro (And.intro (@vbd29) (@vix52)) (And.intro (@vio52) (And.intro (@vis52) (@viw52))))) (And.intro (And.intro (And.intro (@vix38) (@vio38)) (And.intro (@vis38) (And.intro (@viw38) (@vlr52)))) (And.intro (And.intro (@vlo52) (@vlz52)) (And.intro (@vls52) (And.intro (@vlw52) (@Tryd.results10))))))
attribute [local irreducible] Hold VReg Vf Vc VWP With VStp Vcallee Vp VE SeqK BlkK FinK NormK
section
variable {X : VOuter} {T : List TK} {fin : Nat} {sh : ByteArray}
theorem zaoy {rank q : Nat} {op : ByteArray} (h : opAt T rank q = some op) : ∃ t, T[q]? = some t ∧ t.k = 5 ∧ t.t = op ∧ (opsL rank).any (fun o => decide (t.t = o)) = true := by
 unfold opAt at h
 split at h
 ·rename_i t ht
  split at h
  ·rename_i hh
   cases h
   simp only [Bool.and_eq_true, decide_eq_true_eq] at hh
   exact ⟨t, ht, hh.1, rfl, hh.2⟩
  ·cases h
 ·cases h
theorem za2g {rank q : Nat} (h : opAt T rank q = none) : kindT T q ≠ 5 ∨ ∃ t, T[q]? = some t ∧ t.k = 5 ∧ (opsL rank).any (fun o => decide (t.t = o)) = false := by
 unfold opAt at h
 cases ht : T[q]? with
 | none => left; simp [kindT, ht]
 | some t =>
  rw [ht] at h
  simp only at h
  by_cases hk : t.k = 5
  ·right
   refine ⟨t, rfl, hk, ?_⟩
   cases ha : (opsL rank).any (fun o => decide (t.t = o)) with
   | false => rfl
   | true => rw [hk, ha] at h; simp at h
  ·left; simp [kindT, ht, hk]
def lieF (q : Tok) (x : Nd) (L : List Value) : Prop := L = x.cs ∨ ∃ op a b, x = Nd.pair op a b ∧ L = [.int .i64 5, .string op, .string .empty, .int .i64 0, .int .i64 0, .string .empty, .string .empty, .int .i64 0, .int .i64 0, .string .empty, .int .i64 0, .int .i64 0, vo q 13 0 [.agg ⟨a.cs⟩, .agg ⟨b.cs⟩]]
theorem zal5 (op : ByteArray) (a b : Nd) : (Nd.pair op a b).cs = [.int .i64 5, .string op, .string .empty, .int .i64 0, .int .i64 0, .string .empty, .string .empty, .int .i64 0, .int .i64 0, .string .empty, .int .i64 0, .int .i64 0, vs 0 13 [.agg ⟨a.cs⟩, .agg ⟨b.cs⟩]] := by simp [Nd.pair, Nd.cs, Nd.vs, sl, v0, c0]
theorem za2c (x : Nd) (a b c d e f g i j k l m n : Value) : ((((((((((((x.cs.set 0 a).set 1 b).set 2 c).set 3 d).set 4 e).set 5 f).set 6 g).set 7 i).set 8 j).set 9 k).set 10 l).set 11 m).set 12 n = [a, b, c, d, e, f, g, i, j, k, l, m, n] := by cases x; rfl
theorem zaxi (h : PaOff X) (hT : TokOk T) (hl : T.length ≤ 1000) {n : Nat} (hn : n ≤ T.length) (bad : Int) {rank : Nat} (hr : rank ≤ 4) {r : Except Nat (Nd × Nat)} (hp : Pr T fin sh (.pairs rank) n r)
    (hM : ∀ r, Pr T fin sh .minus n r → Out X T fin sh 15 [] n bad r)
    (h0 : rank < 4 → ∀ r, Pr T fin sh (.pairs (rank + 1)) n r → Out X T fin sh 10 [.int .i64 (rank + 1 : Nat)] n bad r)
    (hP : ∀ q, n < q → q ≤ T.length → ∀ r, rank < 4 → Pr T fin sh (.pairs (rank + 1)) q r → Out X T fin sh 10 [.int .i64 (rank + 1 : Nat)] q bad r) : Out X T fin sh 10 [.int .i64 rank] n bad r := by
 have rc := fun S K => za2o h.ranks S K
 have w1 : IntKind.i64.wrap ((rank : Int) + 1) = ((rank + 1 : Nat) : Int) := zabu (by omega) (by omega)
 have a1 : mapOwnL (lend false) [.int .i64 ((rank + 1 : Nat) : Int)] = [.int .i64 ((rank + 1 : Nat) : Int)] := by simp only [zaal, zabf, zady]
 have a2 : toksL [.int .i64 ((rank + 1 : Nat) : Int)] = [] := by simp only [zabr, zadf, zaes, List.append_nil]
 cases hp with
 | top h1 =>
  have oo := hM _ h1
  have e4 : ((opsVs.length : Nat) : Int) = 4 := rfl
  cases r with
  | ok xm =>
   obtain ⟨x, m⟩ := xm
   have oc := fun R l w K => oo.c rfl rfl R l w K
   refine Out.ok fun R => ?_
   refine zaao h.pairs Tryd.func10 rfl (by kernel_rfl) (by show 2 ≤ _; decide) ?_
   simp -dsimp only [↓kpre, kpost, light, ret1, cellF, afill, setAll, simprocAttr, ↓zabw, zaby, ↓cxpre, cxpost, List.length_map, ndl, ↓ndpre, ndow, ne_eq, not_false_eq_true, zaaa, and_false, if_false, Option.isNone_some, ↓rc, e4, ↓oc]
  | error b =>
   obtain ⟨y, n', oc⟩ := oo.e rfl rfl
   refine Out.er fun R => ?_
   refine zaao h.pairs Tryd.func10 rfl (by kernel_rfl) (by show 2 ≤ _; decide) ?_
   simp -dsimp only [↓kpre, kpost, light, ret1, cellF, afill, setAll, simprocAttr, ↓zabw, zaby, ↓cxpre, cxpost, List.length_map, ndl, ↓ndpre, ndow, ne_eq, not_false_eq_true, zaaa, and_false, if_false, Option.isNone_some, ↓rc, e4, ↓oc]
   exact ⟨_, _, rfl, rfl⟩
 | @pairsE _ _ b hr4 h1 =>
  have e4 : ((opsVs.length : Nat) : Int) = 4 := rfl
  have hne : ¬ (rank : Int) = 4 := by omega
  obtain ⟨y, n', oc⟩ := (h0 hr4 _ h1).e a1 a2
  refine Out.er fun R => ?_
  refine zaao h.pairs Tryd.func10 rfl (by kernel_rfl) (by show 2 ≤ _; decide) ?_
  simp -dsimp only [↓kpre, kpost, light, ret1, cellF, afill, setAll, simprocAttr, ↓zabw, zaby, ↓cxpre, cxpost, List.length_map, ndl, ↓ndpre, ndow, ne_eq, not_false_eq_true, zaaa, and_false, if_false, Option.isNone_some, ↓rc, e4, hne, w1, ↓oc]
  refine zaun ?_
  simp -dsimp only [↓kpre, kpost, light, ret1, cellF, afill, setAll, simprocAttr, ↓zabw, zaby, ↓cxpre, cxpost, List.length_map, ndl, ↓ndpre, ndow, ne_eq, not_false_eq_true, zaaa, and_false, if_false, Option.isNone_some]
  refine zaaj [[], [], [], [], [], [], [], [], [], [], [], [], [], [], [], [], [], [], [], [], [], [], [], []] false (by kernel_rfl) (by kernel_rfl) (by kernel_rfl) ?_
  simp -dsimp only [↓kpre, kpost, light, ret1, cellF, afill, setAll, simprocAttr, ↓opre, opost, vspan, ↓zabw, zaby, ↓cxpre, cxpost, List.length_map, ndl, ↓ndpre, ndow, ne_eq, not_false_eq_true, zaaa, and_false, if_false, Option.isNone_some]
  exact ⟨_, _, rfl, rfl⟩
 | @pairs _ _ x m _ hr4 h1 h2 =>
  have e4 : ((opsVs.length : Nat) : Int) = 4 := rfl
  have hne : ¬ (rank : Int) = 4 := by omega
  have oc := fun R l w K => (h0 hr4 _ h1).c a1 a2 R l w K
  have hon := h1.on _ _ rfl
  simp only [Gl.on] at hon
  have hm' : m ≤ T.length := hon.2 (by omega)
  have main : ∀ R, Vf Tryd.prog X 10 [p0, .int .i64 rank] (cx (pbx T fin sh n bad) R) fun v ws => match r with
   | .ok (x, m) => ws = [(1, pbx T fin sh m bad)] ∧ v = .tuple ⟨[.agg ⟨x.cs⟩, .bool true]⟩
   | .error b => ∃ (y : Nd) (n' : Int), ws = [(1, pbx T fin sh n' b)] ∧ v = .tuple ⟨[.agg ⟨y.cs⟩, .bool false]⟩ := by
   intro R
   refine zaao h.pairs Tryd.func10 rfl (by kernel_rfl) (by show 2 ≤ _; decide) ?_
   simp -dsimp only [↓kpre, kpost, light, ret1, cellF, afill, setAll, simprocAttr, ↓zabw, zaby, ↓cxpre, cxpost, List.length_map, ndl, ↓ndpre, ndow, ne_eq, not_false_eq_true, zaaa, and_false, if_false, Option.isNone_some, ↓rc, e4, hne, w1, ↓oc]
   refine zagn (fun k e S => ∃ (x : Nd) (L : List Value) (J : List Blk), lieF (cl R + 1, some 12) x L ∧ eget e 0 = p0 ∧ eget e 1 = .int .i64 rank ∧ eget e 4 = .pointer (some ⟨cl R, 0, none⟩) ∧ eget e 6 = vs 0 1 opsVs ∧ eget e 7 = .pointer (some ⟨cl R + 1, 0, none⟩) ∧
    ((∃ q : Nat, k = T.length + 1 - q ∧ n < q ∧ q ≤ T.length ∧ Pr T fin sh (.rest rank x) q r ∧ eget e 8 = .bool true ∧ S = ⟨cx (pbx T fin sh q bad) R, zbx :: .cells true 31 L :: J, [1]⟩) ∨
     (∃ (b : Nat) (n' : Int), k = 0 ∧ r = .error b ∧ eget e 8 = .bool false ∧ S = ⟨cx (pbx T fin sh n' b) R, zbx :: .cells true 31 L :: J, [1]⟩))) (T.length + 1 - m) ?_ ?_
   ·refine ⟨x, x.cs, [], .inl rfl, ?_, ?_, ?_, ?_, ?_, .inl ⟨m, rfl, hon.1, hm', h2, ?_, ?_⟩⟩
    ·simp only [↓epre, epost, simprocAttr]
    ·simp only [↓epre, epost, simprocAttr]
    ·simp only [↓epre, epost, simprocAttr]
    ·simp only [↓epre, epost, simprocAttr]
    ·simp only [↓epre, epost, simprocAttr]
    ·simp only [↓epre, epost, simprocAttr]
    ·rfl
   ·rintro k e S ⟨x, L, J, hL, e0, e1, e4', e6, e7, hst⟩
    refine VWP_Vc _ _ _ _ ?_
    have hcl : ¬ (cl R + 1 = cl R) := by omega
    rcases hst with ⟨q, rfl, hnq, hqT, hq, e8, rfl⟩ | ⟨b, n', rfl, rfl, e8, rfl⟩
    ·have hq0 : (0 : Int) ≤ q := by omega
     have hr0 : (0 : Int) ≤ rank := by omega
     have w0 : IntKind.i64.wrap ((q : Int) + 0) = (q : Int) := zabu (by omega) (by omega)
     have kc := fun R l w K => kind_c (T := T) (fin := fin) (sh := sh) h.kind w0 bad R l w K
     have hops := za0g hr4
     have sc := fun u S K => scon_c h.scon h.sidx rank u S K
     cases hq with
     | restN _ ho =>
      rcases za2g ho with hk | ⟨t, ht, hk, ha⟩
      ·generalize kindT T q = kk at hk kc
       rcases hL with rfl | ⟨op, a, b', rfl, rfl⟩
       ·simp -dsimp only [↓kpre, kpost, light, ret1, cellF, afill, setAll, simprocAttr, ↓zabw, zaby, ↓cxpre, cxpost, List.length_map, ndl, ↓ndpre, ndow, ne_eq, not_false_eq_true, zaaa, and_false, if_false, Option.isNone_some, e0, e1, e4', e6, e7, e8]
        refine zaaj [[], [], [], [], [], [], [], [], [], [], [], [], [], [], [], [], [], [], [], [], [], [], [], []] false (by kernel_rfl) (by kernel_rfl) (by kernel_rfl) ?_
        simp -dsimp only [↓kpre, kpost, light, ret1, cellF, afill, setAll, simprocAttr, ↓opre, opost, vspan, ↓zabw, zaby, ↓cxpre, cxpost, List.length_map, ndl, ↓ndpre, ndow, ne_eq, not_false_eq_true, zaaa, and_false, if_false, Option.isNone_some, e0, e1, e4', e6, e7, e8, ↓kc, hk]
       ·simp -dsimp only [↓kpre, kpost, light, ret1, cellF, afill, setAll, simprocAttr, ↓zabw, zaby, ↓cxpre, cxpost, List.length_map, ndl, ↓ndpre, ndow, ne_eq, not_false_eq_true, zaaa, and_false, if_false, Option.isNone_some, e0, e1, e4', e6, e7, e8]
        refine zaaj [[], [], [], [], [], [], [], [], [], [], [], [], [], [], [], [], [], [], [], [], [], [], [], []] false (by kernel_rfl) (by kernel_rfl) (by kernel_rfl) ?_
        simp -dsimp only [↓kpre, kpost, light, ret1, cellF, afill, setAll, simprocAttr, ↓opre, opost, vspan, ↓zabw, zaby, ↓cxpre, cxpost, List.length_map, ndl, ↓ndpre, ndow, ne_eq, not_false_eq_true, zaaa, and_false, if_false, Option.isNone_some, e0, e1, e4', e6, e7, e8, ↓kc, hk, hcl, zal5]
      ·have hkk : kindT T q = 5 := by simp [kindT, ht, hk]
       rw [hkk] at kc
       have sc := sc t.t
       rw [ha] at sc
       have hx : (T.map TK.v)[q]? = some (.agg ⟨[.int .i64 t.k, .int .i64 t.a, .string t.t]⟩) := by rw [List.getElem?_map, ht]; rfl
       rcases hL with rfl | ⟨op, a, b', rfl, rfl⟩
       ·simp -dsimp only [↓kpre, kpost, light, ret1, cellF, afill, setAll, simprocAttr, ↓zabw, zaby, ↓cxpre, cxpost, List.length_map, ndl, ↓ndpre, ndow, ne_eq, not_false_eq_true, zaaa, and_false, if_false, Option.isNone_some, e0, e1, e4', e6, e7, e8]
        refine zaaj [[], [], [], [], [], [], [], [], [], [], [], [], [], [], [], [], [], [], [], [], [], [], [], []] false (by kernel_rfl) (by kernel_rfl) (by kernel_rfl) ?_
        simp -dsimp only [↓kpre, kpost, light, ret1, cellF, afill, setAll, simprocAttr, ↓opre, opost, vspan, ↓zabw, zaby, ↓cxpre, cxpost, List.length_map, ndl, ↓ndpre, ndow, ne_eq, not_false_eq_true, zaaa, and_false, if_false, Option.isNone_some, e0, e1, e4', e6, e7, e8, ↓kc, hq0, hr0, hops, hx, ↓sc]
       ·simp -dsimp only [↓kpre, kpost, light, ret1, cellF, afill, setAll, simprocAttr, ↓zabw, zaby, ↓cxpre, cxpost, List.length_map, ndl, ↓ndpre, ndow, ne_eq, not_false_eq_true, zaaa, and_false, if_false, Option.isNone_some, e0, e1, e4', e6, e7, e8]
        refine zaaj [[], [], [], [], [], [], [], [], [], [], [], [], [], [], [], [], [], [], [], [], [], [], [], []] false (by kernel_rfl) (by kernel_rfl) (by kernel_rfl) ?_
        simp -dsimp only [↓kpre, kpost, light, ret1, cellF, afill, setAll, simprocAttr, ↓opre, opost, vspan, ↓zabw, zaby, ↓cxpre, cxpost, List.length_map, ndl, ↓ndpre, ndow, ne_eq, not_false_eq_true, zaaa, and_false, if_false, Option.isNone_some, e0, e1, e4', e6, e7, e8, ↓kc, hq0, hr0, hops, hx, ↓sc, hcl, zal5]
     | @restO _ _ _ op y m' _ _ ho h3 h4 =>
      obtain ⟨t, ht, hk, rfl, ha⟩ := zaoy ho
      have hlt := zaox ho
      have hkk : kindT T q = 5 := by simp [kindT, ht, hk]
      rw [hkk] at kc
      have sc := sc t.t
      rw [ha] at sc
      have hx : (T.map TK.v)[q]? = some (.agg ⟨[.int .i64 t.k, .int .i64 t.a, .string t.t]⟩) := by rw [List.getElem?_map, ht]; rfl
      have tk := fun R l w K => take_c (T := T) (fin := fin) (sh := sh) h.take ht hl bad R l w K
      have oc := fun R l w K => (hP (q + 1) (by omega) (by omega) _ hr4 h3).c a1 a2 R l w K
      have hon := h3.on _ _ rfl
      simp only [Gl.on] at hon
      have hm' : m' ≤ T.length := hon.2 (by omega)
      rcases hL with rfl | ⟨op, a, b', rfl, rfl⟩
      ·simp -dsimp only [↓kpre, kpost, light, ret1, cellF, afill, setAll, simprocAttr, ↓zabw, zaby, ↓cxpre, cxpost, List.length_map, ndl, ↓ndpre, ndow, ne_eq, not_false_eq_true, zaaa, and_false, if_false, Option.isNone_some, e0, e1, e4', e6, e7, e8]
       refine zaaj [[], [], [], [], [], [], [], [], [], [], [], [], [], [], [], [], [], [], [], [], [], [], [], []] false (by kernel_rfl) (by kernel_rfl) (by kernel_rfl) ?_
       simp -dsimp only [↓kpre, kpost, light, ret1, cellF, afill, setAll, simprocAttr, ↓opre, opost, vspan, ↓zabw, zaby, ↓cxpre, cxpost, List.length_map, ndl, ↓ndpre, ndow, ne_eq, not_false_eq_true, zaaa, and_false, if_false, Option.isNone_some, e0, e1, e4', e6, e7, e8, ↓kc, hq0, hr0, hops, hx, ↓sc, ↓tk, w1, ↓oc]
       exact ⟨T.length + 1 - m', by omega, _, _, _, .inr ⟨_, _, _, rfl, rfl⟩, .inl ⟨m', rfl, by omega, hm', h4, by rw [za2c]⟩⟩
      ·simp -dsimp only [↓kpre, kpost, light, ret1, cellF, afill, setAll, simprocAttr, ↓zabw, zaby, ↓cxpre, cxpost, List.length_map, ndl, ↓ndpre, ndow, ne_eq, not_false_eq_true, zaaa, and_false, if_false, Option.isNone_some, e0, e1, e4', e6, e7, e8]
       refine zaaj [[], [], [], [], [], [], [], [], [], [], [], [], [], [], [], [], [], [], [], [], [], [], [], []] false (by kernel_rfl) (by kernel_rfl) (by kernel_rfl) ?_
       simp -dsimp only [↓kpre, kpost, light, ret1, cellF, afill, setAll, simprocAttr, ↓opre, opost, vspan, ↓zabw, zaby, ↓cxpre, cxpost, List.length_map, ndl, ↓ndpre, ndow, ne_eq, not_false_eq_true, zaaa, and_false, if_false, Option.isNone_some, e0, e1, e4', e6, e7, e8, ↓kc, hq0, hr0, hops, hx, ↓sc, ↓tk, w1, ↓oc, hcl]
       refine ⟨T.length + 1 - m', by omega, Nd.pair t.t (Nd.pair op a b') y, _, _, .inr ⟨_, _, _, rfl, ?_⟩, .inl ⟨m', rfl, by omega, hm', h4, rfl⟩⟩
       rw [zal5]
     | @restE _ _ _ op b _ ho h3 =>
      obtain ⟨t, ht, hk, rfl, ha⟩ := zaoy ho
      have hlt := zaox ho
      have hkk : kindT T q = 5 := by simp [kindT, ht, hk]
      rw [hkk] at kc
      have sc := sc t.t
      rw [ha] at sc
      have hx : (T.map TK.v)[q]? = some (.agg ⟨[.int .i64 t.k, .int .i64 t.a, .string t.t]⟩) := by rw [List.getElem?_map, ht]; rfl
      have tk := fun R l w K => take_c (T := T) (fin := fin) (sh := sh) h.take ht hl bad R l w K
      obtain ⟨y, n', oc⟩ := (hP (q + 1) (by omega) (by omega) _ hr4 h3).e a1 a2
      rcases hL with rfl | ⟨op, a, b', rfl, rfl⟩
      ·simp -dsimp only [↓kpre, kpost, light, ret1, cellF, afill, setAll, simprocAttr, ↓zabw, zaby, ↓cxpre, cxpost, List.length_map, ndl, ↓ndpre, ndow, ne_eq, not_false_eq_true, zaaa, and_false, if_false, Option.isNone_some, e0, e1, e4', e6, e7, e8]
       refine zaaj [[], [], [], [], [], [], [], [], [], [], [], [], [], [], [], [], [], [], [], [], [], [], [], []] false (by kernel_rfl) (by kernel_rfl) (by kernel_rfl) ?_
       simp -dsimp only [↓kpre, kpost, light, ret1, cellF, afill, setAll, simprocAttr, ↓opre, opost, vspan, ↓zabw, zaby, ↓cxpre, cxpost, List.length_map, ndl, ↓ndpre, ndow, ne_eq, not_false_eq_true, zaaa, and_false, if_false, Option.isNone_some, e0, e1, e4', e6, e7, e8, ↓kc, hq0, hr0, hops, hx, ↓sc, ↓tk, w1, ↓oc]
       exact ⟨0, by omega, _, _, _, .inl rfl, .inr ⟨_, _, rfl, rfl, rfl⟩⟩
      ·simp -dsimp only [↓kpre, kpost, light, ret1, cellF, afill, setAll, simprocAttr, ↓zabw, zaby, ↓cxpre, cxpost, List.length_map, ndl, ↓ndpre, ndow, ne_eq, not_false_eq_true, zaaa, and_false, if_false, Option.isNone_some, e0, e1, e4', e6, e7, e8]
       refine zaaj [[], [], [], [], [], [], [], [], [], [], [], [], [], [], [], [], [], [], [], [], [], [], [], []] false (by kernel_rfl) (by kernel_rfl) (by kernel_rfl) ?_
       simp -dsimp only [↓kpre, kpost, light, ret1, cellF, afill, setAll, simprocAttr, ↓opre, opost, vspan, ↓zabw, zaby, ↓cxpre, cxpost, List.length_map, ndl, ↓ndpre, ndow, ne_eq, not_false_eq_true, zaaa, and_false, if_false, Option.isNone_some, e0, e1, e4', e6, e7, e8, ↓kc, hq0, hr0, hops, hx, ↓sc, ↓tk, w1, ↓oc, hcl]
       exact ⟨0, by omega, _, _, _, .inr ⟨_, _, _, rfl, rfl⟩, .inr ⟨_, _, rfl, rfl, rfl⟩⟩
    ·rcases hL with rfl | ⟨op, a, b', rfl, rfl⟩
     ·simp -dsimp only [↓kpre, kpost, light, ret1, cellF, afill, setAll, simprocAttr, ↓zabw, zaby, ↓cxpre, cxpost, List.length_map, ndl, ↓ndpre, ndow, ne_eq, not_false_eq_true, zaaa, and_false, if_false, Option.isNone_some, e0, e1, e4', e6, e7, e8]
      refine zaaj [[], [], [], [], [], [], [], [], [], [], [], [], [], [], [], [], [], [], [], [], [], [], [], []] false (by kernel_rfl) (by kernel_rfl) (by kernel_rfl) ?_
      simp -dsimp only [↓kpre, kpost, light, ret1, cellF, afill, setAll, simprocAttr, ↓opre, opost, vspan, ↓zabw, zaby, ↓cxpre, cxpost, List.length_map, ndl, ↓ndpre, ndow, ne_eq, not_false_eq_true, zaaa, and_false, if_false, Option.isNone_some, e0, e1, e4', e6, e7, e8]
      exact ⟨_, _, rfl, rfl⟩
     ·simp -dsimp only [↓kpre, kpost, light, ret1, cellF, afill, setAll, simprocAttr, ↓zabw, zaby, ↓cxpre, cxpost, List.length_map, ndl, ↓ndpre, ndow, ne_eq, not_false_eq_true, zaaa, and_false, if_false, Option.isNone_some, e0, e1, e4', e6, e7, e8]
      refine zaaj [[], [], [], [], [], [], [], [], [], [], [], [], [], [], [], [], [], [], [], [], [], [], [], []] false (by kernel_rfl) (by kernel_rfl) (by kernel_rfl) ?_
      simp -dsimp only [↓kpre, kpost, light, ret1, cellF, afill, setAll, simprocAttr, ↓opre, opost, vspan, ↓zabw, zaby, ↓cxpre, cxpost, List.length_map, ndl, ↓ndpre, ndow, ne_eq, not_false_eq_true, zaaa, and_false, if_false, Option.isNone_some, e0, e1, e4', e6, e7, e8, hcl]
      exact ⟨Nd.pair op a b', _, rfl, by rw [zal5]⟩
  intro R
  cases r with
  | ok xm => exact main R
  | error b => exact Vf_out (main R)
theorem za2j (h : PaOff X) (hT : TokOk T) (hl : T.length ≤ 1000) (bad : Int) : ∀ d n, T.length - n ≤ d → n ≤ T.length →
    (∀ r, Pr T fin sh .one n r → Out X T fin sh 28 [] n bad r) ∧ (∀ r, Pr T fin sh .minus n r → Out X T fin sh 15 [] n bad r) ∧ (∀ rank, rank ≤ 4 → ∀ r, Pr T fin sh (.pairs rank) n r → Out X T fin sh 10 [.int .i64 rank] n bad r) := by
 intro d
 induction d using Nat.strongRecOn with
 | ind d IH =>
  intro n hd hn
  have nx : ∀ q, n < q → q ≤ T.length → _ := fun q h1 h2 => IH (T.length - q) (by omega) q (Nat.le_refl _) h2
  have hone : ∀ r, Pr T fin sh .one n r → Out X T fin sh 28 [] n bad r := fun r hp => one_w h hT hl hn bad hp fun q h1 h2 r hpp => (nx q h1 h2).2.2 0 (by omega) r hpp
  have hmin : ∀ r, Pr T fin sh .minus n r → Out X T fin sh 15 [] n bad r := fun r hp => za19 h hT hl hn bad hp hone fun h1 r hpp => (nx (n + 1) (by omega) (by omega)).2.1 r hpp
  refine ⟨hone, hmin, ?_⟩
  have key : ∀ k rank, rank + k = 4 → ∀ r, Pr T fin sh (.pairs rank) n r → Out X T fin sh 10 [.int .i64 rank] n bad r := by
   intro k
   induction k with
   | zero => intro rank e r hp; exact zaxi h hT hl hn bad (by omega) hp hmin (fun h4 => by omega) (fun q h1 h2 r h4 => by omega)
   | succ k ih => intro rank e r hp; exact zaxi h hT hl hn bad (by omega) hp hmin (fun h4 r hpp => ih (rank + 1) (by omega) r hpp) (fun q h1 h2 r h4 hpp => (nx q h1 h2).2.2 (rank + 1) (by omega) r hpp)
  exact fun rank hr => key (4 - rank) rank (by omega)
theorem za0h (h : PaOff X) (hT : TokOk T) (hl : T.length ≤ 1000) (bad : Int) {r : Except Nat (Nd × Nat)} (hp : Pr T fin sh (.pairs 0) 0 r) : Out X T fin sh 10 [.int .i64 0] 0 bad r := (za2j h hT hl bad T.length 0 (by omega) (by omega)).2.2 0 (by omega) r hp
end
end Go.Proofs.YtliemjbafgnnbaaDoor.Abs
/- The reference's parser: tokens are looked at; numbers; names of calls. -/
namespace Go.Proofs.YtliemjbafgnnbaaDoor.Abs
open Go
attribute [local irreducible] Hold VReg Vf Vc VWP With VStp Vcallee Vp VE SeqK BlkK FinK NormK
section
variable {X : VOuter} {T : List TK} {fin : Nat} {sh : ByteArray} {bad : Int} {R : List Blk}
end
end Go.Proofs.YtliemjbafgnnbaaDoor.Abs
/- The reference's parser: references, calls, words. -/
namespace Go.Proofs.YtliemjbafgnnbaaDoor.Abs
open Go
attribute [local irreducible] Hold VReg Vf Vc VWP With VStp Vcallee Vp VE SeqK BlkK FinK NormK
section
variable (X : VOuter) (T : List TK) (fin : Nat) (sh : ByteArray)
end
section
variable {X : VOuter} {T : List TK} {fin : Nat} {sh : ByteArray}
end
end Go.Proofs.YtliemjbafgnnbaaDoor.Abs
/- The reference's parser: references. -/
namespace Go.Proofs.YtliemjbafgnnbaaDoor.Abs
open Go
attribute [local irreducible] Hold VReg Vf Vc VWP With VStp Vcallee Vp VE SeqK BlkK FinK NormK
section
variable {X : VOuter} {T : List TK} {fin : Nat} {sh : ByteArray}
end
end Go.Proofs.YtliemjbafgnnbaaDoor.Abs
/- The reference's parser: calls. -/
namespace Go.Proofs.YtliemjbafgnnbaaDoor.Abs
open Go
attribute [local irreducible] Hold VReg Vf Vc VWP With VStp Vcallee Vp VE SeqK BlkK FinK NormK
section
variable {X : VOuter} {T : List TK} {fin : Nat} {sh : ByteArray}
end
end Go.Proofs.YtliemjbafgnnbaaDoor.Abs
/- The reference's parser: words, and what no op joins. -/
namespace Go.Proofs.YtliemjbafgnnbaaDoor.Abs
open Go
attribute [local irreducible] Hold VReg Vf Vc VWP With VStp Vcallee Vp VE SeqK BlkK FinK NormK
section
variable {X : VOuter} {T : List TK} {fin : Nat} {sh : ByteArray}
end
end Go.Proofs.YtliemjbafgnnbaaDoor.Abs
/- The reference's parser: what no op joins; what ops join; the whole. -/
namespace Go.Proofs.YtliemjbafgnnbaaDoor.Abs
open Go
attribute [local irreducible] Hold VReg Vf Vc VWP With VStp Vcallee Vp VE SeqK BlkK FinK NormK
section
variable {X : VOuter} {T : List TK} {fin : Nat} {sh : ByteArray}
theorem zaae (s : List Nat × Bool) : depStep .ro s = true := _root_.id rfl
end
end Go.Proofs.YtliemjbafgnnbaaDoor.Abs
/- The reference's parser: what ops join; the whole. -/
namespace Go.Proofs.YtliemjbafgnnbaaDoor.Abs
open Go
attribute [local irreducible] Hold VReg Vf Vc VWP With VStp Vcallee Vp VE SeqK BlkK FinK NormK
section
variable {X : VOuter} {T : List TK} {fin : Nat} {sh : ByteArray}
end
end Go.Proofs.YtliemjbafgnnbaaDoor.Abs
