/- The law AddrTells: what its text answers, with the library's answers given from outside. -/
import Derived.Test.YtmdpggecelheoaaDoorMY4
import Derived.Shelf.LaysM
import Derived.Shelf.Strconv.Itoa3
import Derived.Shelf.LaysC
import Derived.Shelf.Strconv.AtoiAll
import Derived.Shelf.Strconv.ErrVarAll
import Derived.Shelf.Strings.Search1
import Derived.Shelf.Strings.Search2
import Derived.Shelf.Strings.Search3
import Derived.Shelf.Strings.Cut
import Derived.Test.YtmdpggecelheoaaDoorProg
import Derived.Test.YtmdpggecelheoaaDoorMY3
import Derived.Lib.ItoaNum
import Derived.Lib.AtoiAll
import Derived.Lib.LaidTab
import Derived.Lib.AppendIntMem
import Derived.Lib.AtoiErrMem
import Derived.Test.YtmdpggecelheoaaDoorRows
import Derived.Stop.LaidErr
import Derived.Shelf.Vars
import Derived.WalkKit
import Derived.ProofKit
import Derived.OpenShut
import Derived.ShutString
import Derived.ChangeOld
import Derived.Below
import Derived.SizedLaws
import Derived.LaidMore
import Derived.Stop.Joined
import Derived.Test.YtmdpggecelheoaaDoorPA20
import Derived.Test.YtmdpggecelheoaaDoorCards
import Derived.Test.YtmdpggecelheoaaDoorTie
import Derived.Lay
import Derived.ChangeMaps5
set_option linter.unusedVariables false
set_option linter.unusedSimpArgs false
set_option maxRecDepth 8000
set_option maxHeartbeats 0
namespace Go.Proofs.YtmdpggecelheoaaDoor.Abs
open Go
attribute [local irreducible] Hold VReg Vf Vc VWP With VStp Vcallee Vp VE
theorem ab_beq3 (x y : Operand) (p q : Bool) : abin Tryd.prog .eql 4 x y (.bool p) (.bool q) = some (.bool (p == q)) := by rw [abin_beql Tryd.underlying4 (by kernel_rfl)]
/-- What the law's text calls, as it is given. -/
structure Gives (X : VOuter) : Prop where
  n : NOff X
  m : MOff X
  r : ROff X
  alive : ∀ S K, Vcallee Tryd.prog X 12 [] S K = K (.bool true) [] S [] false
  read : ∀ s : ByteArray, s.size ≤ 1000 → ∀ S K, Vcallee Tryd.prog X 13 [.string s] S K = K (readV s) [] S [] false
  rcell : ∀ s : ByteArray, s.size ≤ 1000 → ∀ S K, Vcallee Tryd.prog X 14 [.string s] S K = K (readV s) [] S [] false
  show' : ∀ (s : ByteArray) (c r : Int) S K, Vcallee Tryd.prog X 21 [.agg ⟨[.string s, .int .i64 c, .int .i64 r]⟩] S K = K (.string (showS s c r)) [] S [] false
  rshow : ∀ (s : ByteArray) (c r : Int) S K, Vcallee Tryd.prog X 22 [.agg ⟨[.string s, .int .i64 c, .int .i64 r]⟩] S K = K (.string (showS s c r)) [] S [] false
  cells : X 24 = none
  small : X 47 = none
  inn : X 26 = none
  less : X 28 = none
  rcells : X 25 = none
  rin : X 27 = none
  rless : X 29 = none
  same : X 23 = none
  law : X 3 = none
theorem readV_cases (s : ByteArray) : ∃ (z : ByteArray) (x y : Int) (b : Bool), readV s = .tuple ⟨[.agg ⟨[.string z, .int .i64 x, .int .i64 y]⟩, .bool b]⟩ := by
  unfold readV
  cases bangF s with
  | none => exact ⟨_, _, _, _, rfl⟩
  | some i =>
    simp only
    cases arF (s.extract (i + 1) s.size) (s.extract 0 i) with
    | none => exact ⟨_, _, _, _, rfl⟩
    | some cr => obtain ⟨c, r⟩ := cr; exact ⟨_, _, _, _, rfl⟩
theorem cellsF_len (a b : CC) : (cellsF a b).length ≤ 1000000000 := by
  unfold cellsF
  rw [List.length_map, List.length_range]
  split
  · rename_i h
    rw [Bool.and_eq_true, decide_eq_true_eq] at h
    have := areaN_nat h.1
    omega
  · omega
theorem lawAT {X : VOuter} (h : Gives X) (s1 : ByteArray) (c1 r1 : Int) (s2 : ByteArray) (c2 r2 : Int) (s : ByteArray) : Vf Tryd.prog X 3 [.agg ⟨[.string s1, .int .i64 c1, .int .i64 r1]⟩, .agg ⟨[.string s2, .int .i64 c2, .int .i64 r2]⟩, .string s] [] fun v _ => v = .bool true := by
  refine Vf_text h.law Tryd.func3 rfl (by kernel_rfl) (by show 3 ≤ _; decide) ?_
  have al := h.alive
  by_cases a1 : (100 : Int) < s.size
  · simp -dsimp only [↓Hold_5, ↓VWP_seq, ↓VWP_region, ↓VWP_cond, ↓VWP_ret, ↓VReg_one, ↓VReg_nil, ↓VS_guard, ↓VS_move, ↓VS_assign, ↓VS_pick, ↓VS_binOp, ↓VS_unOp, ↓VS_len, ↓VS_box, ↓With_guard, ↓Hold_1, With_some, emap_nil, ↓eget_eset, ↓ae_tmp, ↓ae_int, ↓ae_bool, eget_zero, eget_succ, lop_pick, lop_not, asBool_bool, asGuard_bool, bb_tf, ayielded_eq, ↓dstAt_zero, ↓dstAt_succ, ↓vfinish_ret, ↓vres_nil, ↓vres_tmp, vtell_eq, ret1, Option.map_some, Option.bind_some, ↓reduceIte, Nat.reduceEqDiff, Bool.false_eq_true, decide_true, Bool.not_true, Bool.not_false, Nat.zero_add, Nat.add_zero, and_self, List.map_nil, List.all_cons, List.all_nil, tup_int, tup_str, tup_agg, cel_agg, List.toList_toArray, List.length_cons, List.length_nil, mapOwn_bool, toksL_nil, toksL_cons, toks_int, toks_string, okv_bool, okv_int, okv_string, List.all_nil, List.all_cons, List.append_nil, List.nil_append, List.cons_append, List.map_nil, Bool.and_self, Bool.not_true, Bool.not_false, beq_self_eq_true, vnext_mk, vpush_mk, List.length_cons, List.length_nil, vbin_int, ↓vbox_free, cellsOk_free, cellF, abin_gtr, beq_self_eq_true, gt_iff_lt, decide_true, beq_self_eq_true, bb_tf, vlr9, ↓vfk12, Tryd.results3, ↓al, a1]
  · by_cases a2 : (100 : Int) < s1.size
    · simp -dsimp only [↓Hold_5, ↓VWP_seq, ↓VWP_region, ↓VWP_cond, ↓VWP_ret, ↓VReg_one, ↓VReg_nil, ↓VS_guard, ↓VS_move, ↓VS_assign, ↓VS_pick, ↓VS_load, ↓VS_binOp, ↓VS_unOp, ↓VS_fieldAddr, ↓VS_len, ↓VS_box, ↓With_guard, ↓Hold_1, With_some, emap_nil, ↓eget_eset, ↓ae_tmp, ↓ae_int, ↓ae_bool, eget_zero, eget_succ, lop_pick, lop_not, asBool_bool, asGuard_bool, bb_tf, ayielded_eq, ↓dstAt_zero, ↓dstAt_succ, ↓vfinish_ret, ↓vres_nil, ↓vres_tmp, vtell_eq, ret1, Option.map_some, Option.bind_some, ↓reduceIte, Nat.reduceEqDiff, Bool.false_eq_true, decide_true, decide_false, Bool.not_true, Bool.not_false, List.getElem?_cons_zero, Nat.zero_add, Nat.add_zero, and_self, List.map_nil, List.all_cons, List.all_nil, tup_int, tup_str, tup_agg, cel_agg, List.toList_toArray, List.length_cons, List.length_nil, mapOwn_bool, toksL_nil, toksL_cons, toks_int, toks_string, okv_bool, okv_int, okv_string, List.all_nil, List.all_cons, List.append_nil, List.nil_append, List.cons_append, List.map_nil, Bool.and_self, Bool.not_true, Bool.not_false, beq_self_eq_true, vnext_mk, vpush_mk, vget_nil, cellsIn_mk, List.getD_cons_zero, List.length_cons, List.length_nil, vbin_int, ↓vbox_free, cellsOk_free, cellF, abin_gtr, beq_self_eq_true, gt_iff_lt, decide_true, decide_false, beq_self_eq_true, bb_tf, vld9, vfp23_0, vlr9, ↓vfk12, Tryd.results3, ↓al, a1, a2]
    · by_cases a3 : (100 : Int) < s2.size
      · simp -dsimp only [↓Hold_5, ↓VWP_seq, ↓VWP_region, ↓VWP_cond, ↓VWP_ret, ↓VReg_one, ↓VReg_nil, ↓VS_guard, ↓VS_move, ↓VS_assign, ↓VS_pick, ↓VS_load, ↓VS_binOp, ↓VS_unOp, ↓VS_fieldAddr, ↓VS_len, ↓VS_box, ↓With_guard, ↓Hold_1, With_some, emap_nil, ↓eget_eset, ↓ae_tmp, ↓ae_int, ↓ae_bool, eget_zero, eget_succ, lop_pick, lop_not, asBool_bool, asGuard_bool, ayielded_eq, ↓dstAt_zero, ↓dstAt_succ, ↓vfinish_ret, ↓vres_nil, ↓vres_tmp, vtell_eq, ret1, Option.map_some, Option.bind_some, ↓reduceIte, Nat.reduceEqDiff, Bool.false_eq_true, decide_true, decide_false, Bool.not_true, Bool.not_false, List.getElem?_cons_zero, Nat.zero_add, Nat.add_zero, and_self, List.map_nil, List.all_cons, List.all_nil, tup_int, tup_str, tup_agg, cel_agg, List.toList_toArray, List.length_cons, List.length_nil, mapOwn_bool, toksL_nil, toksL_cons, toks_int, toks_string, okv_bool, okv_int, okv_string, List.all_nil, List.all_cons, List.append_nil, List.nil_append, List.cons_append, List.map_nil, Bool.and_self, Bool.not_true, Bool.not_false, beq_self_eq_true, vnext_mk, vpush_mk, vget_nil, cellsIn_mk, List.getD_cons_zero, List.getD_cons_succ, List.length_cons, List.length_nil, vbin_int, ↓vbox_free, cellsOk_free, cellF, abin_gtr, beq_self_eq_true, gt_iff_lt, decide_true, decide_false, beq_self_eq_true, vld9, vfp23_0, vlr9, ↓vfk12, Tryd.results3, ↓al, a1, a2, a3]
      · have rd := fun S K => h.read s (by omega) S K
        have rc := fun S K => h.rcell s (by omega) S K
        obtain ⟨z, x, y, b, hv⟩ := readV_cases s
        rw [hv] at rd rc
        have ar := fun S K => area_c h.n s1 c1 r1 s2 c2 r2 (S := S) (K := K)
        have rar := fun S K => rarea_c h.r s1 c1 r1 s2 c2 r2 (S := S) (K := K)
        have ri := fun S K => right_c h.n.right h.n.place h.n.name s1 c1 r1 (S := S) (K := K)
        have rri := fun S K => rr_c h.r s1 c1 r1 (S := S) (K := K)
        have na := fun S K => name_c h.n.name s (S := S) (K := K)
        have rna := fun S K => rname_c h.r.name h.r.small h.r.digit s (S := S) (K := K)
        have sh := fun S K => h.show' s1 c1 r1 S K
        have rsh := fun S K => h.rshow s1 c1 r1 S K
        have ce := fun S K => cells_c h.n h.cells h.small s1 c1 r1 s2 c2 r2 (S := S) (K := K)
        have rce := fun S K => Vcallee_of (S := S) (K := K) (args := [.agg ⟨[.string s1, .int .i64 c1, .int .i64 r1, .string s2, .int .i64 c2, .int .i64 r2]⟩]) (rcells_p h.r h.rcells s1 c1 r1 s2 c2 r2) rfl rfl (okv_sl0 _ _ _ _ _)
        have sa := fun S K => Vcallee_of (S := S) (K := K) (args := [sl true 0 3 ((cellsF ⟨s1, c1, r1⟩ ⟨s2, c2, r2⟩).map CC.v), sl true 0 3 ((cellsF ⟨s1, c1, r1⟩ ⟨s2, c2, r2⟩).map CC.v)]) (same_p h.same true 0 true 0 (cellsF ⟨s1, c1, r1⟩ ⟨s2, c2, r2⟩) (cellsF_len _ _)) (by simp only [mapOwnL_cons, mapOwnL_nil, lend_sl]) (by simp only [okvL_cons, okvL_nil, okv_sl, Bool.and_true]) rfl
        have ii := fun S K => in_c h.n h.inn s1 c1 r1 s2 c2 r2 z x y (S := S) (K := K)
        have rii := fun S K => Vcallee_of (S := S) (K := K) (args := [.agg ⟨[.string s1, .int .i64 c1, .int .i64 r1, .string s2, .int .i64 c2, .int .i64 r2]⟩, .agg ⟨[.string z, .int .i64 x, .int .i64 y]⟩]) (rin_p h.r h.rin s1 c1 r1 s2 c2 r2 z x y) rfl rfl rfl
        have le := fun S K => less_c h.m h.less s1 c1 r1 s2 c2 r2 (S := S) (K := K)
        have rle := fun S K => Vcallee_of (S := S) (K := K) (args := [.agg ⟨[.string s1, .int .i64 c1, .int .i64 r1]⟩, .agg ⟨[.string s2, .int .i64 c2, .int .i64 r2]⟩]) (rless_p h.rless s1 c1 r1 s2 c2 r2) rfl rfl rfl
        simp -dsimp only [↓Hold_5, ↓VWP_seq, ↓VWP_region, ↓VWP_cond, ↓VWP_skip, ↓VWP_open, ↓VReg_one, ↓VReg_non, ↓VReg_nil, ↓VS_guard, ↓VS_move, ↓VS_assign, ↓VS_pick, ↓VS_build, ↓VS_load, ↓VS_binOp, ↓VS_unOp, ↓VS_fieldAddr, ↓VS_extract, ↓VS_len, ↓VS_box, ↓VS_store, ↓Hold_1, With_some, emap_nil, ↓eget_eset, ↓ae_tmp, ↓ae_int, ↓ae_bool, eget_zero, eget_succ, lop_pick, lop_extract, lop_not, asBool_bool, asGuard_bool, ayielded_eq, ↓dstAt_zero, ↓dstAt_succ, Option.map_some, Option.bind_some, ↓reduceIte, Nat.reduceEqDiff, Bool.false_eq_true, decide_false, Bool.not_true, Bool.not_false, List.getElem?_toArray, List.getElem?_cons_zero, List.getElem?_cons_succ, Nat.zero_add, Nat.add_zero, Nat.reduceAdd, Nat.reduceLT, Nat.reduceLeDiff, true_and, and_self, List.map_cons, List.map_nil, List.all_cons, List.all_nil, tup_int, tup_str, tup_agg, cel_agg, List.drop_zero, List.toList_toArray, List.size_toArray, List.length_cons, List.length_nil, toksL_nil, toksL_cons, toks_int, toks_string, okv_int, okv_string, List.all_nil, List.all_cons, List.append_nil, List.nil_append, List.cons_append, List.map_nil, List.map_cons, Bool.and_self, Bool.not_true, Bool.not_false, beq_self_eq_true, vnext_mk, vpush_mk, vget_nil, vput_nil, cellsIn_mk, List.getD_cons_zero, List.getD_cons_succ, List.set_cons_zero, List.set_cons_succ, List.length_cons, List.length_nil, List.drop_zero, List.take_succ_cons, List.take_zero, vbin_int, ↓vlay_free, ↓vbox_free, cellsOk_free, cellF, abin_gtr, beq_self_eq_true, gt_iff_lt, decide_false, beq_self_eq_true, setAll_whole, afill, setAll, vld9, vld23, vld26, vst26, vst23, ↓val26, ↓val23, vfp23_0, bd26, pl26_0, pl26_1, vlr9, ↓vfk12, ↓vfk13, ↓vfk14, ↓vfk15, ↓vfk16, ↓al, a1, a2, a3, ↓rd, ↓rc, ↓ar, ↓rar]
        refine Vc_open [[], [], [0], [], [], [], [], [], [], [], [], [], [], [], [], [4], [], [], [], [], [], [], [], [], [], [], [], [], [], [], [], [], [], [], [], [], [], [], [], [], [], [], [6], [], [], [], [], [], [], [], [9], [9], [], [], [], [], [], [], [], [11], [11], [], [], [], []] true (by kernel_rfl) (by kernel_rfl) (by kernel_rfl) ?_
        simp only [List.append_eq, List.cons_append, List.nil_append]
        simp -dsimp only [↓Hold_5, ↓VWP_ret, ↓VS_guard, ↓VS_move, ↓VS_assign, ↓VS_pick, ↓VS_load, ↓VS_binOp, ↓Hold_1, ↓Hold_3, With_some, emap_nil, ↓eget_eset, ↓ae_tmp, ↓ae_bool, eget_zero, eget_succ, lop_pick, asGuard_bool, ayielded_eq, ↓dstAt_zero, ↓dstAt_succ, light, ↓vfinish_ret, ↓vres_nil, ↓vres_tmp, vtell_eq, ret1, Option.map_some, Option.bind_some, ↓reduceIte, Nat.reduceEqDiff, reduceCtorEq, Bool.false_eq_true, decide_true, decide_false, Bool.not_false, List.getElem?_cons_zero, List.getElem?_cons_succ, Nat.zero_add, Nat.reduceAdd, Nat.reduceLeDiff, and_self, List.map_cons, List.map_nil, List.all_cons, List.all_nil, Bool.and_true, List.drop_zero, List.toList_toArray, List.length_cons, List.length_nil, mapOwn_bool, toks_bool, okv_bool, List.all_nil, List.all_cons, List.append_nil, List.nil_append, List.cons_append, List.map_nil, List.map_cons, Bool.and_true, Bool.and_self, Bool.not_false, Bool.or_false, beq_self_eq_true, vget_nil, cellsIn_mk, vthaw_nil, vwrites_nil, List.getD_cons_zero, List.getD_cons_succ, List.length_cons, List.length_nil, List.drop_zero, List.take_succ_cons, List.take_zero, vbin_int, vbin_bool, vbin_string, abin_eql, beq_self_eq_true, decide_true, decide_false, beq_self_eq_true, ↓VE_nil, ↓VE_one0, ↓VE_one1, ↓shade_one, ↓VE_one1g, shade_guard, shade_load, shade_move, shade_binOp, shade_pick, shade_call, ↓vobl_load, dep_box, isGone_agg, depStep_box, vspan, List.range_succ, List.range_zero, Bool.or_true, Nat.min_def, Nat.max_def, List.reverse_cons, List.reverse_nil, vld23, vld26, ↓vfk17, ↓vfk18, ↓vfk19, ↓vfk20, ↓vfk21, ↓vfk22, ↓vfk24, ↓vfk25, ↓vfk23, ↓vfk26, ↓vfk27, ↓vfk28, ↓vfk29, Tryd.results3, ↓ri, ↓rri, ↓na, ↓rna, ↓sh, ↓rsh, ↓ce, ↓rce, ↓sa, ↓ii, ↓rii, ↓le, ↓rle, ab_beq3, ab_seq, cell_eq, eqC_self, beq_self_eq_true, eq_self]
end Go.Proofs.YtmdpggecelheoaaDoor.Abs
/- The library's contracts at this program, printed by the shelf's own tool in plain words. -/
namespace Go.Proofs
open Go.Shelf
def Tryd.laysM171_ren : Go.Shelf.Ren := ⟨fun | 171 => 62 | 243 => 81 | 246 => 143 | 283 => 166 | 284 => 167 | 285 => 168 | 286 => 169 | 129 => 179 | 317 => 178 | 318 => 180 | 319 => 181 | 320 => 182 | 337 => 184 | 338 => 185 | n => n, fun | 3 => 3 | 9 => 9 | 2 => 2 | 4 => 4 | 171 => 163 | 0 => 0 | 53 => 110 | 37 => 129 | 5 => 5 | 173 => 166 | 212 => 177 | 51 => 154 | 20 => 20 | 213 => 178 | 46 => 127 | 232 => 183 | 233 => 184 | n => n, fun | 17 => 3 | 18 => 4 | 19 => 5 | n => n⟩
theorem Tryd.laysM171 : Go.Proofs.LaysM.n171 Tryd.prog Tryd.laysM171_ren := {
  mixed := by kernel_rfl
  f129 := Tryd.func179.trans (congrArg some (by kernel_rfl))
  f171 := Tryd.func62.trans (congrArg some (by kernel_rfl))
  f243 := Tryd.func81.trans (congrArg some (by kernel_rfl))
  f246 := Tryd.func143.trans (congrArg some (by kernel_rfl))
  f283 := Tryd.func166.trans (congrArg some (by kernel_rfl))
  f284 := Tryd.func167.trans (congrArg some (by kernel_rfl))
  f285 := Tryd.func168.trans (congrArg some (by kernel_rfl))
  f286 := Tryd.func169.trans (congrArg some (by kernel_rfl))
  f317 := Tryd.func178.trans (congrArg some (by kernel_rfl))
  f318 := Tryd.func180.trans (congrArg some (by kernel_rfl))
  f319 := Tryd.func181.trans (congrArg some (by kernel_rfl))
  f320 := Tryd.func182.trans (congrArg some (by kernel_rfl))
  f337 := Tryd.func184.trans (congrArg some (by kernel_rfl))
  f338 := Tryd.func185.trans (congrArg some (by kernel_rfl))
  t0 := Tryd.underlying0
  a0 := Tryd.isAgg0
  z0 := Tryd.sizeOf0
  v0 := Tryd.zeroValue0
  t2 := Tryd.underlying2
  a2 := Tryd.isAgg2
  z2 := Tryd.sizeOf2
  v2 := Tryd.zeroValue2
  t3 := Tryd.underlying3
  a3 := Tryd.isAgg3
  z3 := Tryd.sizeOf3
  v3 := Tryd.zeroValue3
  t4 := Tryd.underlying4
  a4 := Tryd.isAgg4
  z4 := Tryd.sizeOf4
  v4 := Tryd.zeroValue4
  t5 := Tryd.underlying5
  a5 := Tryd.isAgg5
  z5 := Tryd.sizeOf5
  v5 := Tryd.zeroValue5
  t9 := Tryd.underlying9
  a9 := Tryd.isAgg9
  z9 := Tryd.sizeOf9
  v9 := Tryd.zeroValue9
  t20 := Tryd.underlying20
  a20 := Tryd.isAgg20
  z20 := Tryd.sizeOf20
  v20 := Tryd.zeroValue20
  t37 := Tryd.underlying129
  a37 := Tryd.isAgg129
  z37 := Tryd.sizeOf129
  v37 := Tryd.zeroValue129
  t46 := Tryd.underlying127
  a46 := Tryd.isAgg127
  z46 := Tryd.sizeOf127
  v46 := Tryd.zeroValue127
  t51 := Tryd.underlying154
  a51 := Tryd.isAgg154
  z51 := Tryd.sizeOf154
  v51 := Tryd.zeroValue154
  t53 := Tryd.underlying110
  a53 := Tryd.isAgg110
  z53 := Tryd.sizeOf110
  v53 := Tryd.zeroValue110
  t171 := Tryd.underlying163
  a171 := Tryd.isAgg163
  z171 := Tryd.sizeOf163
  v171 := Tryd.zeroValue163
  t173 := Tryd.underlying166
  a173 := Tryd.isAgg166
  z173 := Tryd.sizeOf166
  v173 := Tryd.zeroValue166
  t212 := Tryd.underlying177
  a212 := Tryd.isAgg177
  z212 := Tryd.sizeOf177
  v212 := Tryd.zeroValue177
  t213 := Tryd.underlying178
  a213 := Tryd.isAgg178
  z213 := Tryd.sizeOf178
  t232 := Tryd.underlying183
  a232 := Tryd.isAgg183
  z232 := Tryd.sizeOf183
  v232 := Tryd.zeroValue183
  t233 := Tryd.underlying184
  a233 := Tryd.isAgg184
  z233 := Tryd.sizeOf184
  v233 := Tryd.zeroValue184
  g17 := by kernel_rfl
  g18 := by kernel_rfl
  g19 := by kernel_rfl
  i0 := by kernel_rfl
  i2 := by kernel_rfl
  i3 := by kernel_rfl
  i4 := by kernel_rfl
  i5 := by kernel_rfl
  i9 := by kernel_rfl
  i20 := by kernel_rfl
  i37 := by kernel_rfl
  i46 := by kernel_rfl
  i51 := by kernel_rfl
  i53 := by kernel_rfl
  i171 := by kernel_rfl
  i173 := by kernel_rfl
  i212 := by kernel_rfl
  i232 := by kernel_rfl
  i233 := by kernel_rfl
  m17 := by kernel_rfl
  m18 := by kernel_rfl
  m19 := by kernel_rfl }
def Tryd.laysC172_ren : Go.Shelf.Ren := ⟨fun | 172 => 60 | 244 => 79 | 245 => 80 | 247 => 138 | 279 => 139 | 280 => 140 | 281 => 141 | 282 => 142 | 287 => 163 | 316 => 164 | 171 => 62 | 205 => 165 | 321 => 176 | 322 => 177 | 243 => 81 | 246 => 143 | 283 => 166 | 284 => 167 | 285 => 168 | 286 => 169 | 129 => 179 | 317 => 178 | 318 => 180 | 319 => 181 | 320 => 182 | 337 => 184 | 338 => 185 | n => n, fun | 9 => 9 | 3 => 3 | 75 => 91 | 76 => 92 | 4 => 4 | 5 => 5 | 167 => 128 | 37 => 129 | 0 => 0 | 85 => 130 | 2 => 2 | 168 => 132 | 53 => 110 | 175 => 157 | 46 => 127 | 210 => 161 | 127 => 170 | 145 => 175 | 143 => 173 | 21 => 21 | 171 => 163 | 173 => 166 | 212 => 177 | 51 => 154 | 20 => 20 | 213 => 178 | 232 => 183 | 233 => 184 | 80 => 107 | n => n, fun | 15 => 1 | 16 => 2 | 17 => 3 | 18 => 4 | 19 => 5 | n => n⟩
theorem Tryd.laysC172 : Go.Proofs.LaysC.n172 Tryd.prog Tryd.laysC172_ren := {
  mixed := by kernel_rfl
  f129 := Tryd.func179.trans (congrArg some (by kernel_rfl))
  f171 := Tryd.func62.trans (congrArg some (by kernel_rfl))
  f172 := Tryd.func60.trans (congrArg some (by kernel_rfl))
  f205 := Tryd.func165.trans (congrArg some (by kernel_rfl))
  f243 := Tryd.func81.trans (congrArg some (by kernel_rfl))
  f244 := Tryd.func79.trans (congrArg some (by kernel_rfl))
  f245 := Tryd.func80.trans (congrArg some (by kernel_rfl))
  f246 := Tryd.func143.trans (congrArg some (by kernel_rfl))
  f247 := Tryd.func138.trans (congrArg some (by kernel_rfl))
  f279 := Tryd.func139.trans (congrArg some (by kernel_rfl))
  f280 := Tryd.func140.trans (congrArg some (by kernel_rfl))
  f281 := Tryd.func141.trans (congrArg some (by kernel_rfl))
  f282 := Tryd.func142.trans (congrArg some (by kernel_rfl))
  f283 := Tryd.func166.trans (congrArg some (by kernel_rfl))
  f284 := Tryd.func167.trans (congrArg some (by kernel_rfl))
  f285 := Tryd.func168.trans (congrArg some (by kernel_rfl))
  f286 := Tryd.func169.trans (congrArg some (by kernel_rfl))
  f287 := Tryd.func163.trans (congrArg some (by kernel_rfl))
  f316 := Tryd.func164.trans (congrArg some (by kernel_rfl))
  f317 := Tryd.func178.trans (congrArg some (by kernel_rfl))
  f318 := Tryd.func180.trans (congrArg some (by kernel_rfl))
  f319 := Tryd.func181.trans (congrArg some (by kernel_rfl))
  f320 := Tryd.func182.trans (congrArg some (by kernel_rfl))
  f321 := Tryd.func176.trans (congrArg some (by kernel_rfl))
  f322 := Tryd.func177.trans (congrArg some (by kernel_rfl))
  f337 := Tryd.func184.trans (congrArg some (by kernel_rfl))
  f338 := Tryd.func185.trans (congrArg some (by kernel_rfl))
  t0 := Tryd.underlying0
  a0 := Tryd.isAgg0
  z0 := Tryd.sizeOf0
  v0 := Tryd.zeroValue0
  t2 := Tryd.underlying2
  a2 := Tryd.isAgg2
  z2 := Tryd.sizeOf2
  v2 := Tryd.zeroValue2
  t3 := Tryd.underlying3
  a3 := Tryd.isAgg3
  z3 := Tryd.sizeOf3
  v3 := Tryd.zeroValue3
  t4 := Tryd.underlying4
  a4 := Tryd.isAgg4
  z4 := Tryd.sizeOf4
  v4 := Tryd.zeroValue4
  t5 := Tryd.underlying5
  a5 := Tryd.isAgg5
  z5 := Tryd.sizeOf5
  v5 := Tryd.zeroValue5
  t9 := Tryd.underlying9
  a9 := Tryd.isAgg9
  z9 := Tryd.sizeOf9
  v9 := Tryd.zeroValue9
  t20 := Tryd.underlying20
  a20 := Tryd.isAgg20
  z20 := Tryd.sizeOf20
  v20 := Tryd.zeroValue20
  t21 := Tryd.underlying21
  a21 := Tryd.isAgg21
  z21 := Tryd.sizeOf21
  v21 := Tryd.zeroValue21
  t37 := Tryd.underlying129
  a37 := Tryd.isAgg129
  z37 := Tryd.sizeOf129
  v37 := Tryd.zeroValue129
  t46 := Tryd.underlying127
  a46 := Tryd.isAgg127
  z46 := Tryd.sizeOf127
  v46 := Tryd.zeroValue127
  t51 := Tryd.underlying154
  a51 := Tryd.isAgg154
  z51 := Tryd.sizeOf154
  v51 := Tryd.zeroValue154
  t53 := Tryd.underlying110
  a53 := Tryd.isAgg110
  z53 := Tryd.sizeOf110
  v53 := Tryd.zeroValue110
  t75 := Tryd.underlying91
  a75 := Tryd.isAgg91
  z75 := Tryd.sizeOf91
  v75 := Tryd.zeroValue91
  t76 := Tryd.underlying92
  a76 := Tryd.isAgg92
  z76 := Tryd.sizeOf92
  v76 := Tryd.zeroValue92
  t85 := Tryd.underlying130
  a85 := Tryd.isAgg130
  z85 := Tryd.sizeOf130
  v85 := Tryd.zeroValue130
  t127 := Tryd.underlying170
  a127 := Tryd.isAgg170
  z127 := Tryd.sizeOf170
  v127 := Tryd.zeroValue170
  t143 := Tryd.underlying173
  a143 := Tryd.isAgg173
  z143 := Tryd.sizeOf173
  v143 := Tryd.zeroValue173
  t145 := Tryd.underlying175
  a145 := Tryd.isAgg175
  z145 := Tryd.sizeOf175
  v145 := Tryd.zeroValue175
  t167 := Tryd.underlying128
  a167 := Tryd.isAgg128
  z167 := Tryd.sizeOf128
  v167 := Tryd.zeroValue128
  t168 := Tryd.underlying132
  a168 := Tryd.isAgg132
  z168 := Tryd.sizeOf132
  v168 := Tryd.zeroValue132
  t171 := Tryd.underlying163
  a171 := Tryd.isAgg163
  z171 := Tryd.sizeOf163
  v171 := Tryd.zeroValue163
  t173 := Tryd.underlying166
  a173 := Tryd.isAgg166
  z173 := Tryd.sizeOf166
  v173 := Tryd.zeroValue166
  t175 := Tryd.underlying157
  a175 := Tryd.isAgg157
  z175 := Tryd.sizeOf157
  v175 := Tryd.zeroValue157
  t210 := Tryd.underlying161
  a210 := Tryd.isAgg161
  z210 := Tryd.sizeOf161
  v210 := Tryd.zeroValue161
  t212 := Tryd.underlying177
  a212 := Tryd.isAgg177
  z212 := Tryd.sizeOf177
  v212 := Tryd.zeroValue177
  t213 := Tryd.underlying178
  a213 := Tryd.isAgg178
  z213 := Tryd.sizeOf178
  t232 := Tryd.underlying183
  a232 := Tryd.isAgg183
  z232 := Tryd.sizeOf183
  v232 := Tryd.zeroValue183
  t233 := Tryd.underlying184
  a233 := Tryd.isAgg184
  z233 := Tryd.sizeOf184
  v233 := Tryd.zeroValue184
  g15 := by kernel_rfl
  g16 := by kernel_rfl
  g17 := by kernel_rfl
  g18 := by kernel_rfl
  g19 := by kernel_rfl
  t80 := Tryd.underlying107
  a80 := Tryd.isAgg107
  z80 := Tryd.sizeOf107
  v80 := Tryd.zeroValue107
  i0 := by kernel_rfl
  i2 := by kernel_rfl
  i3 := by kernel_rfl
  i4 := by kernel_rfl
  i5 := by kernel_rfl
  i9 := by kernel_rfl
  i20 := by kernel_rfl
  i21 := by kernel_rfl
  i37 := by kernel_rfl
  i46 := by kernel_rfl
  i51 := by kernel_rfl
  i53 := by kernel_rfl
  i75 := by kernel_rfl
  i76 := by kernel_rfl
  i80 := by kernel_rfl
  i85 := by kernel_rfl
  i127 := by kernel_rfl
  i143 := by kernel_rfl
  i145 := by kernel_rfl
  i167 := by kernel_rfl
  i168 := by kernel_rfl
  i171 := by kernel_rfl
  i173 := by kernel_rfl
  i175 := by kernel_rfl
  i210 := by kernel_rfl
  i212 := by kernel_rfl
  i232 := by kernel_rfl
  i233 := by kernel_rfl
  m15 := by kernel_rfl
  m16 := by kernel_rfl
  m17 := by kernel_rfl
  m18 := by kernel_rfl
  m19 := by kernel_rfl
  c0 := by kernel_rfl
  c2 := by kernel_rfl
  c3 := by kernel_rfl
  c4 := by kernel_rfl
  c5 := by kernel_rfl
  c9 := by kernel_rfl
  c20 := by kernel_rfl
  c21 := by kernel_rfl
  c37 := by kernel_rfl
  c46 := by kernel_rfl
  c51 := by kernel_rfl
  c53 := by kernel_rfl
  c75 := by kernel_rfl
  c76 := by kernel_rfl
  c80 := by kernel_rfl
  c85 := by kernel_rfl
  c127 := by kernel_rfl
  c143 := by kernel_rfl
  c145 := by kernel_rfl
  c167 := by kernel_rfl
  c168 := by kernel_rfl
  c171 := by kernel_rfl
  c173 := by kernel_rfl
  c175 := by kernel_rfl
  c210 := by kernel_rfl
  c212 := by kernel_rfl
  c213 := by kernel_rfl
  c232 := by kernel_rfl
  c233 := by kernel_rfl }
def Tryd.lays145_ren : Go.Shelf.Ren := ⟨fun | 145 => 39 | 220 => 59 | 219 => 78 | 217 => 134 | 225 => 135 | 224 => 136 | 267 => 137 | 266 => 161 | 314 => 162 | n => n, fun | 9 => 9 | 4 => 4 | 59 => 65 | 3 => 3 | 5 => 5 | 46 => 127 | 146 => 155 | 51 => 154 | n => n, fun | 1 => 0 | n => n⟩
theorem Tryd.lays145 : Go.Proofs.Lays.n145 Tryd.prog Tryd.lays145_ren := {
  mixed := by kernel_rfl
  f145 := Tryd.func39.trans (congrArg some (by kernel_rfl))
  f217 := Tryd.func134.trans (congrArg some (by kernel_rfl))
  f219 := Tryd.func78.trans (congrArg some (by kernel_rfl))
  f220 := Tryd.func59.trans (congrArg some (by kernel_rfl))
  f224 := Tryd.func136.trans (congrArg some (by kernel_rfl))
  f225 := Tryd.func135.trans (congrArg some (by kernel_rfl))
  f266 := Tryd.func161.trans (congrArg some (by kernel_rfl))
  f267 := Tryd.func137.trans (congrArg some (by kernel_rfl))
  f314 := Tryd.func162.trans (congrArg some (by kernel_rfl))
  t3 := Tryd.underlying3
  a3 := Tryd.isAgg3
  z3 := Tryd.sizeOf3
  v3 := Tryd.zeroValue3
  t4 := Tryd.underlying4
  a4 := Tryd.isAgg4
  z4 := Tryd.sizeOf4
  v4 := Tryd.zeroValue4
  t5 := Tryd.underlying5
  a5 := Tryd.isAgg5
  z5 := Tryd.sizeOf5
  v5 := Tryd.zeroValue5
  t9 := Tryd.underlying9
  a9 := Tryd.isAgg9
  z9 := Tryd.sizeOf9
  v9 := Tryd.zeroValue9
  t46 := Tryd.underlying127
  a46 := Tryd.isAgg127
  z46 := Tryd.sizeOf127
  v46 := Tryd.zeroValue127
  t51 := Tryd.underlying154
  a51 := Tryd.isAgg154
  z51 := Tryd.sizeOf154
  v51 := Tryd.zeroValue154
  t59 := Tryd.underlying65
  a59 := Tryd.isAgg65
  z59 := Tryd.sizeOf65
  v59 := Tryd.zeroValue65
  t146 := Tryd.underlying155
  a146 := Tryd.isAgg155
  z146 := Tryd.sizeOf155
  v146 := Tryd.zeroValue155
  g1 := by kernel_rfl }
open Go.RowKit Go.Sort Go.Lib in
/-- strconv.Itoa: "Itoa is equivalent to FormatInt(int64(i), 10).": i's DECIMAL NUMERAL ('Lib.itoa': a '-' where i is negative, then the digits), FOR EVERY int. The world behind the call: the world before it, new blocks behind the heap (the library's 'var a [24]byte'), draws. (LAID: no walk: one application.) -/
theorem Tryd.strconv_Itoa (n : Int) (h0 : -9223372036854775808 ≤ n) (h1 : n ≤ 9223372036854775807) (w : World) (htab : Lib.TabIs Tryd.prog w "internal/strconv.uint64pow10" .u64 Lib.pow10Tab) :
    Calls Tryd.prog 62 #[.int .i64 n] w fun e w' => e = .returned (.string ⟨(Lib.itoa n).toArray⟩) ∧ ∃ k os, w' = grow (w.drewN k) os := Any.strconv_Itoa Tryd.laysM171 n h0 h1 w htab
open Go.RowKit in
/-- strconv.Atoi, AT EVERY STRING THAT SPELLS AN int ('Lib.atoiAll .. = .ok v'; of whatever length: leading zeros count): v, AND NO ERROR. The world: as it was, or with the one new row that '[]byte(..)' lays. (LAID: no walk: one application.) -/
theorem Tryd.strconv_Atoi_ok (s : ByteArray) (hmax : s.size ≤ 9223372036854775806) (v : Int) (h : Lib.atoiAll s.data.toList = .ok v) (w : World) :
    Calls Tryd.prog 60 #[.string s] w fun e w' => e = .returned (.tuple #[.int .i64 v, .nilIface]) ∧ (w' = w ∨ ∃ t, w' = Lib.bytesWorld w 5 t) := Any.strconv_Atoi_ok Tryd.laysC172 s hmax v h w
open Go.RowKit in
theorem Tryd.strconv_Atoi_syntax_var (s : ByteArray) (hlim : s.size ≤ 281474976710656) (h : Lib.atoiAll s.data.toList = Lib.atoiAll []) (tp : TypeId) (p : Value) (w : World) (hvar : w.var? Tryd.prog "strconv.ErrSyntax" = some #[.iface tp p]) :
    Calls Tryd.prog 60 #[.string s] w fun e w' => ∃ N, e = .returned (.tuple #[.int .i64 0, .iface 132 (.pointer (some ⟨N, 0, none⟩))]) ∧ w.heap.size ≤ N ∧ w'.heap[N]? = some (.cells #[.string ⟨#[65, 116, 111, 105]⟩, .string s, .iface tp p] 161 (0, 0)) ∧ Below w.heap.size w w' := Any.strconv_Atoi_syntax_var Tryd.laysC172 s hlim h tp p w hvar
open Go.RowKit in
theorem Tryd.strconv_Atoi_range_var (s : ByteArray) (hlim : s.size ≤ 281474976710656) (h : Lib.atoiAll s.data.toList = .range) (tp : TypeId) (p : Value) (w : World) (hvar : w.var? Tryd.prog "strconv.ErrRange" = some #[.iface tp p]) :
    Calls Tryd.prog 60 #[.string s] w fun e w' => ∃ N, e = .returned (.tuple #[.int .i64 (Lib.atoiSat s.data.toList), .iface 132 (.pointer (some ⟨N, 0, none⟩))]) ∧ w.heap.size ≤ N ∧ w'.heap[N]? = some (.cells #[.string ⟨#[65, 116, 111, 105]⟩, .string s, .iface tp p] 161 (0, 0)) ∧ Below w.heap.size w w' := Any.strconv_Atoi_range_var Tryd.laysC172 s hlim h tp p w hvar
open Go.RowKit Go.Lib in
/-- strings.Cut: "Cut slices s around the first instance of sep, returning the text before and after sep. The found result reports whether sep appears in s. If sep does not appear in s, cut returns s, "", false.": IT RETURNS 'Lib.cut s sep'; the world is as it was but for the count of draws. (LAID: no walk: one application.) -/
theorem Tryd.strings_Cut (s sep : ByteArray) (m : Int) (w : World) (hs : s.size < 4294967281) (hm : w.cell? ⟨0, 0, none⟩ = some (.int .i64 m)) :
    Calls Tryd.prog 39 #[.string s, .string sep] w fun e w' => e = .returned (.tuple #[.string ⟨(Lib.cut s.data.toList sep.data.toList).1.toArray⟩, .string ⟨(Lib.cut s.data.toList sep.data.toList).2.1.toArray⟩, .bool (Lib.cut s.data.toList sep.data.toList).2.2]) ∧ ∃ n, w' = w.drewN n := Any.strings_Cut Tryd.lays145 s sep m w hs hm
end Go.Proofs
/- The library's contracts at this program, printed by the shelf's own tool in plain words. -/
namespace Go.Proofs
open Go.Shelf
def Tryd.lays217_ren : Go.Shelf.Ren := ⟨fun | 217 => 134 | 266 => 161 | n => n, fun | 9 => 9 | 5 => 5 | 3 => 3 | n => n, fun | n => n⟩
theorem Tryd.lays217 : Go.Proofs.Lays.n217 Tryd.prog Tryd.lays217_ren := {
  mixed := by kernel_rfl
  f217 := Tryd.func134.trans (congrArg some (by kernel_rfl))
  f266 := Tryd.func161.trans (congrArg some (by kernel_rfl))
  t3 := Tryd.underlying3
  a3 := Tryd.isAgg3
  z3 := Tryd.sizeOf3
  v3 := Tryd.zeroValue3
  t5 := Tryd.underlying5
  a5 := Tryd.isAgg5
  z5 := Tryd.sizeOf5
  v5 := Tryd.zeroValue5
  t9 := Tryd.underlying9
  a9 := Tryd.isAgg9
  z9 := Tryd.sizeOf9
  v9 := Tryd.zeroValue9 }
open Go.RowKit Go.Lib in
/-- internal/stringslite.IndexByte (what strings.IndexByte calls): IT RETURNS 'Lib.indexByte s c'; the world is as it was. (LAID: no walk: one application.) -/
theorem Tryd.stringslite_IndexByte (s : ByteArray) (c : Int) (w : World) :
    Calls Tryd.prog 134 #[.string s, .int .u8 c] w fun e w' => e = .returned (.int .i64 (Lib.indexByte s.data.toList c.toNat.toUInt8)) ∧ w' = w := Any.stringslite_IndexByte Tryd.lays217 s c w
end Go.Proofs
/- The library's answers that are supplied from outside: strconv.Itoa and strconv.Atoi, in a form that the kernel reckons. -/
set_option linter.unusedVariables false
set_option linter.unusedSimpArgs false
namespace Go.Proofs.YtmdpggecelheoaaDoor.Abs
open Go Go.RowKit Go.Sort
def decF : Nat → Nat → List UInt8
  | 0, _ => []
  | k + 1, u => if u < 10 then [UInt8.ofNat (48 + u)] else decF k (u / 10) ++ [UInt8.ofNat (48 + u % 10)]
theorem decF_eq : ∀ (k u : Nat), u < 10 ^ k → 0 < k → decF k u = Lib.decDigits u
  | 0, u, _, h => absurd h (by omega)
  | k + 1, u, h, _ => by
    rw [Lib.decDigits]
    simp only [decF]
    by_cases hu : u < 10
    · rw [if_pos hu, dif_pos hu]
    · rw [if_neg hu, dif_neg hu]
      have hk : 0 < k := by
        refine Nat.pos_of_ne_zero fun h0 => ?_
        subst h0
        simp at h
        omega
      rw [decF_eq k (u / 10) (by rw [Nat.pow_succ] at h; omega) hk]
def itoaK (n : Int) : List UInt8 := if n < 0 then 45 :: decF 20 n.natAbs else decF 20 n.toNat
theorem itoaK_eq {n : Int} (h : -9223372036854775808 ≤ n ∧ n ≤ 9223372036854775807) : itoaK n = Lib.itoa n := by
  unfold itoaK Lib.itoa
  split
  · rw [decF_eq 20 _ (Nat.lt_of_lt_of_le (show n.natAbs < 10000000000000000000 by omega) (by decide)) (by decide)]
  · rw [decF_eq 20 _ (Nat.lt_of_lt_of_le (show n.toNat < 10000000000000000000 by omega) (by decide)) (by decide)]
def itoaKG : List Value → Hp → Option (Value × Hp) := fun args H => match args with
  | [.int .i64 n] => if -9223372036854775808 ≤ n ∧ n ≤ 9223372036854775807 then some (.string ⟨(itoaK n).toArray⟩, H) else none
  | _ => none
def atoiG (T : TypeId) : List Value → Hp → Option (Value × Hp) := fun args H => match args with
  | [.string s] => if s.data.size ≤ 1000000 then (match Lib.atoiAll s.data.toList with
      | .ok v => some (.tuple #[.int .i64 v, .nilIface], H)
      | .range => some (.tuple #[.int .i64 (Lib.atoiSat s.data.toList), .iface T undef], H)
      | _ => some (.tuple #[.int .i64 0, .iface T undef], H)) else none
  | _ => none
theorem var_below {P : Program} {w0 w : World} {name : String} {a : Array Value} (h : w0.var? P name = some a) (b : Below w0.heap.size w0 w) : w.var? P name = some a := by
  unfold World.var? at *
  cases hg : P.globalNamed name with
  | none => rw [hg] at h; simp at h
  | some g =>
    rw [hg] at h
    simp only [Option.bind_some] at h ⊢
    have hlt : g < w0.heap.size := by
      refine Decidable.byContradiction fun hn => ?_
      rw [Array.getElem?_eq_none (by omega)] at h
      simp at h
    rw [b.block g hlt]
    exact h
theorem itoaK_sound {P : Program} {B : Nat} {w0 : World} {k : FuncId} (hc : ∀ (n : Int), -9223372036854775808 ≤ n → n ≤ 9223372036854775807 → ∀ w, Below B w0 w → Calls P k #[.int .i64 n] w fun e w' => e = .returned (.string ⟨(Lib.itoa n).toArray⟩) ∧ ∃ k os, w' = grow (w.drewN k) os) : KSound P B w0 fun f' args H => if f' = k then itoaKG args H else none := by
  intro b hb f' args H v H' hr φ w args' hR ha
  simp only at hr
  split at hr
  · rename_i hff
    subst hff
    unfold itoaKG at hr
    split at hr
    · rename_i n
      split at hr
      · rename_i hn
        cases hr
        have e : args' = [.int .i64 n] := flats_eq rfl ha
        subst e
        refine (hc n hn.1 hn.2 w (hb ▸ hR.below)).mono ?_
        rintro e w' ⟨rfl, k, os, rfl⟩
        rw [itoaK_eq hn]
        exact ⟨φ, _, Plan.le_refl φ, rfl, .string _, hR.grow (Lib.below_grow _ _ (Nat.le_refl _) _ _)⟩
      · cases hr
    · cases hr
  · cases hr
theorem tup2 {φ : Plan} {a b b' : Value} (ha : flat 8 a = true) (hb : VR φ b b') : VR φ (.tuple #[a, b]) (.tuple #[a, b']) := by
  refine .tuple _ _ rfl fun i => ?_
  match i with
  | 0 => exact flat_refl 8 _ ha
  | 1 => exact hb
  | i + 2 => simp [Array.getD]; exact .undef _ _
theorem atoi_sound {P : Program} {B : Nat} {w0 : World} {k : FuncId} {T u : TypeId}
    (h1 : ∀ (s : ByteArray), s.size ≤ 1000000 → ∀ v, Lib.atoiAll s.data.toList = .ok v → ∀ w, Calls P k #[.string s] w fun e w' => e = .returned (.tuple #[.int .i64 v, .nilIface]) ∧ (w' = w ∨ ∃ t, w' = Lib.bytesWorld w u t))
    (h2 : ∀ (s : ByteArray), s.size ≤ 1000000 → Lib.atoiAll s.data.toList = Lib.atoiAll [] → ∀ w, Below B w0 w → Calls P k #[.string s] w fun e w' => ∃ N : Nat, e = .returned (.tuple #[.int .i64 0, .iface T (.pointer (some ⟨N, 0, none⟩))]) ∧ Below w.heap.size w w')
    (h3 : ∀ (s : ByteArray), s.size ≤ 1000000 → Lib.atoiAll s.data.toList = .range → ∀ w, Below B w0 w → Calls P k #[.string s] w fun e w' => ∃ N : Nat, e = .returned (.tuple #[.int .i64 (Lib.atoiSat s.data.toList), .iface T (.pointer (some ⟨N, 0, none⟩))]) ∧ Below w.heap.size w w') :
    KSound P B w0 fun f' args H => if f' = k then atoiG T args H else none := by
  intro b hb f' args H v H' hr φ w args' hR ha
  simp only at hr
  split at hr
  · rename_i hff
    subst hff
    unfold atoiG at hr
    split at hr
    · rename_i s
      split at hr
      · rename_i hsz
        have e : args' = [.string s] := flats_eq rfl ha
        subst e
        split at hr
        · rename_i n hn
          cases hr
          refine (h1 s hsz n hn w).mono ?_
          rintro e w' ⟨rfl, hw⟩
          refine ⟨φ, _, Plan.le_refl φ, rfl, tup2 rfl .nilIface, ?_⟩
          rcases hw with rfl | ⟨t, rfl⟩
          · exact hR
          · exact hR.grow (Lib.bytesWorld_below _ _ _)
        · rename_i hn
          cases hr
          refine (h3 s hsz hn w (hb ▸ hR.below)).mono ?_
          rintro e w' ⟨N, rfl, hb⟩
          exact ⟨φ, _, Plan.le_refl φ, rfl, tup2 rfl (.iface _ _ _ (.undef _ _)), hR.grow hb⟩
        · rename_i hn1 hn2
          have hn : Lib.atoiAll s.data.toList = Lib.atoiAll [] := by
            cases hh : Lib.atoiAll s.data.toList with
            | ok v => exact (hn1 v hh).elim
            | range => exact (hn2 hh).elim
            | _ => rfl
          cases hr
          refine (h2 s hsz hn w (hb ▸ hR.below)).mono ?_
          rintro e w' ⟨N, rfl, hb⟩
          exact ⟨φ, _, Plan.le_refl φ, rfl, tup2 rfl (.iface _ _ _ (.undef _ _)), hR.grow hb⟩
      · cases hr
    · cases hr
  · cases hr
end Go.Proofs.YtmdpggecelheoaaDoor.Abs
/- The law AddrTells: the library's answers that are given from outside are sound. -/
set_option linter.unusedVariables false
set_option linter.unusedSimpArgs false
namespace Go.Proofs.YtmdpggecelheoaaDoor.Abs
open Go Go.RowKit Go.Sort
attribute [local irreducible] Hold VReg Vf Vc VWP With VStp Vcallee Vp VE
theorem pow10_of {W : World} {rest : List (String × DataW Unit)} (h : laidMet Tryd.prog (("internal/strconv.uint64pow10", Rows.laid_internal_strconv_uint64pow10) :: rest) W) : Lib.TabIs Tryd.prog W "internal/strconv.uint64pow10" .u64 Lib.pow10Tab :=
  Lib.tabIs_of_head (g := 3) (t := 177) (e := 110) (n := 20) (by kernel_rfl) (by kernel_rfl) Tryd.underlying177 Tryd.underlying110 (by kernel_rfl) (by kernel_rfl) h
theorem star_es : "*" ++ "errors.errorString" = "*errors.errorString" := by decide
theorem row_es (u : TypeId) (h : Tryd.prog.typeName? 3 u = some "*errors.errorString") : u = 173 :=
  typeName_ptr_named (nm := "errors.errorString") (by rw [star_es]; kernel_rfl) (by kernel_rfl) (by decide) u (by rw [star_es]; exact h)
theorem syn_of {W : World} {rest : List (String × DataW Unit)} (h : laidMet Tryd.prog (("strconv.ErrSyntax", Rows.laid_strconv_ErrSyntax) :: rest) W) : ∃ a, W.var? Tryd.prog "strconv.ErrSyntax" = some #[.iface 173 (.pointer (some a))] := by
  obtain ⟨a, s, h1, -⟩ := laid_sentinel (g := 1) (ti := 91) (tp := 173) (te := 175) (ts := 9) h (by kernel_rfl) (by kernel_rfl) Tryd.underlying91 row_es Tryd.underlying173 Tryd.underlying175 rfl rfl Tryd.underlying9 (by kernel_rfl) (by kernel_rfl)
  exact ⟨a, h1⟩
theorem ran_of {W : World} {rest : List (String × DataW Unit)} (h : laidMet Tryd.prog (("strconv.ErrRange", Rows.laid_strconv_ErrRange) :: rest) W) : ∃ a, W.var? Tryd.prog "strconv.ErrRange" = some #[.iface 173 (.pointer (some a))] := by
  obtain ⟨a, s, h1, -⟩ := laid_sentinel (g := 2) (ti := 91) (tp := 173) (te := 175) (ts := 9) h (by kernel_rfl) (by kernel_rfl) Tryd.underlying91 row_es Tryd.underlying173 Tryd.underlying175 rfl rfl Tryd.underlying9 (by kernel_rfl) (by kernel_rfl)
  exact ⟨a, h1⟩
/-- The library's variables that the start lays; what strings.Cut reads. -/
structure LibStart (W : World) : Prop where
  tab : Lib.TabIs Tryd.prog W "internal/strconv.uint64pow10" .u64 Lib.pow10Tab
  syn : ∃ a, W.var? Tryd.prog "strconv.ErrSyntax" = some #[.iface 173 (.pointer (some a))]
  ran : ∃ a, W.var? Tryd.prog "strconv.ErrRange" = some #[.iface 173 (.pointer (some a))]
  max : ∃ m, W.cell? ⟨0, 0, none⟩ = some (.int .i64 m)
theorem max_of {W : World} (h : W.ShapedOpen Tryd.prog) : ∃ m, W.cell? ⟨0, 0, none⟩ = some (.int .i64 m) :=
  cell_of_shapedOpen_int (g := 0) (t := 3) (zero := #[.int .i64 0]) h (of_decide_eq_true (by kernel_rfl)) (by kernel_rfl) rfl (by kernel_rfl) (by kernel_rfl) Tryd.underlying3
theorem max_below {W w : World} (h : ∃ m, W.cell? ⟨0, 0, none⟩ = some (.int .i64 m)) (b : Below W.heap.size W w) : ∃ m, w.cell? ⟨0, 0, none⟩ = some (.int .i64 m) := by
  obtain ⟨m, hm⟩ := h
  refine ⟨m, ?_⟩
  have hlt : 0 < W.heap.size := by
    rcases Nat.eq_zero_or_pos W.heap.size with h | h
    · unfold World.cell? at hm
      rw [Array.getElem?_eq_none (by show W.heap.size ≤ 0; omega)] at hm
      cases hm
    · exact h
  unfold World.cell? at hm ⊢
  rw [b.block 0 hlt]
  exact hm
theorem ext_list2 (s : ByteArray) (a b : Nat) : (s.extract a b).data.toList = (s.data.toList.drop a).take (b - a) := by
  rw [ByteArray.data_extract, Array.toList_extract, List.extract_eq_take_drop]
theorem cut_is (s : ByteArray) : (.tuple #[.string ⟨(Lib.cut s.data.toList [33]).1.toArray⟩, .string ⟨(Lib.cut s.data.toList [33]).2.1.toArray⟩, .bool (Lib.cut s.data.toList [33]).2.2] : Value) = cutT s := by
  unfold cutT bangF Lib.cut
  by_cases h : 0 ≤ Lib.index s.data.toList [33]
  · rw [if_pos h, if_pos h]
    generalize (Lib.index s.data.toList [33]).toNat = i
    have e1 : (⟨(s.data.toList.take i).toArray⟩ : ByteArray) = s.extract 0 i := by
      rw [list_ba (s.extract 0 i), ext_list2, List.drop_zero, Nat.sub_zero]
    have e2 : (⟨(s.data.toList.drop (i + 1)).toArray⟩ : ByteArray) = s.extract (i + 1) s.size := by
      rw [list_ba (s.extract (i + 1) s.size), ext_list2, List.take_of_length_le (by rw [List.length_drop, len_list]; exact Nat.le_refl _)]
    show (.tuple #[.string ⟨(s.data.toList.take i).toArray⟩, .string ⟨(s.data.toList.drop (i + 1)).toArray⟩, .bool true] : Value) = _
    rw [e1, e2]
  · rw [if_neg h, if_neg h]
    rfl
def cutG : List Value → Hp → Option (Value × Hp) := fun args H => match args with
  | [.string s, .string u] => if u.data.toList = [33] ∧ s.size ≤ 1000 then some (cutT s, H) else none
  | _ => none
theorem cutT_flat (s : ByteArray) {φ : Plan} : VR φ (cutT s) (cutT s) := by
  unfold cutT
  split
  · refine .tuple _ _ rfl fun i => ?_
    match i with
    | 0 => exact .string _
    | 1 => exact .string _
    | 2 => exact .bool _
    | i + 3 => simp [Array.getD]; exact .undef _ _
  · refine .tuple _ _ rfl fun i => ?_
    match i with
    | 0 => exact .string _
    | 1 => exact .string _
    | 2 => exact .bool _
    | i + 3 => simp [Array.getD]; exact .undef _ _
theorem cut_sound {B : Nat} {w0 : World} (hm : ∀ w, Below B w0 w → ∃ m, w.cell? ⟨0, 0, none⟩ = some (.int .i64 m)) : KSound Tryd.prog B w0 fun f' args H => if f' = 39 then cutG args H else none := by
  intro b hb f' args H v H' hr φ w args' hR ha
  simp only at hr
  split at hr
  · rename_i hff
    subst hff
    unfold cutG at hr
    split at hr
    · rename_i s u
      split at hr
      · rename_i hs
        cases hr
        have e : args' = [.string s, .string u] := flats_eq rfl ha
        subst e
        obtain ⟨m, hcell⟩ := hm w (hb ▸ hR.below)
        refine (Tryd.strings_Cut s u m w (by omega) hcell).mono ?_
        rintro e w' ⟨rfl, n, rfl⟩
        rw [hs.1, cut_is]
        exact ⟨φ, _, Plan.le_refl φ, rfl, cutT_flat s, hR.drawn _⟩
      · cases hr
    · cases hr
  · cases hr
noncomputable def YT0 : Outer := fun f => if f = 134 then some ixG else none
theorem yt0_sound (B : Nat) (w0 : World) : XSound Tryd.prog B w0 YT0 := by
  intro f g hg
  unfold YT0 at hg
  split at hg
  · rename_i hf
    subst hf
    cases hg
    exact ix_sound Tryd.stringslite_IndexByte
  · cases hg
theorem tells_alive : ansIs (run Tryd.prog YT0 100 12 [] ⟨0, []⟩) (.bool true) = true := by kernel_rfl
noncomputable def YT : Outer := fun f => if f = 12 then some trueG else if f = 62 then some itoaKG else if f = 60 then some (atoiG 132) else if f = 39 then some cutG else none
theorem yt_sound (mixed : Tryd.prog.follows .mixedOrders = true) {W : World} (h : LibStart W) : XSound Tryd.prog W.heap.size W YT := by
  intro f g hg
  unfold YT at hg
  split at hg
  · rename_i hf
    subst hf
    cases hg
    exact true_sound mixed yt0_sound tells_alive _ _
  split at hg
  · rename_i hf
    subst hf
    cases hg
    exact itoaK_sound fun n h0 h1 w b => Tryd.strconv_Itoa n h0 h1 w (var_below h.tab b)
  split at hg
  · rename_i hf
    subst hf
    cases hg
    obtain ⟨a, ha⟩ := h.syn
    obtain ⟨c, hc⟩ := h.ran
    refine atoi_sound (fun s hs v hv w => Tryd.strconv_Atoi_ok s (by omega) v hv w) (fun s hs hv w b => (Tryd.strconv_Atoi_syntax_var s (by omega) hv _ _ w (var_below ha b)).mono ?_) (fun s hs hv w b => (Tryd.strconv_Atoi_range_var s (by omega) hv _ _ w (var_below hc b)).mono ?_)
    · rintro e w' ⟨N, rfl, -, -, hb⟩
      exact ⟨N, rfl, hb⟩
    · rintro e w' ⟨N, rfl, -, -, hb⟩
      exact ⟨N, rfl, hb⟩
  split at hg
  · rename_i hf
    subst hf
    cases hg
    exact cut_sound fun w b => max_below h.max b
  · cases hg
end Go.Proofs.YtmdpggecelheoaaDoor.Abs
/- What a row of numbers needs. -/
namespace Go.Proofs.YtmdpggecelheoaaDoor.Abs
open Go
end Go.Proofs.YtmdpggecelheoaaDoor.Abs
/- The law AddrTells over the plain heap. -/
set_option linter.unusedVariables false
set_option linter.unusedSimpArgs false
namespace Go.Proofs.YtmdpggecelheoaaDoor.Abs
open Go Go.RowKit
attribute [local irreducible] Hold VReg Vf Vc VWP With VStp Vcallee Vp VE
def trueU : List Value → List Blk → Option (Value × List (Nat × Blk)) := fun args _ => match args with
  | [] => some (.bool true, [])
  | _ => none
def itoaU : List Value → List Blk → Option (Value × List (Nat × Blk)) := fun args _ => match args with
  | [.int .i64 n] => if 1 ≤ n ∧ n ≤ 999 then some (.string (itoaS n), []) else none
  | _ => none
def atoiSx (s : ByteArray) : Int := match Lib.atoiAll s.data.toList with
  | .range => Lib.atoiSat s.data.toList
  | _ => 0
def atoiU : List Value → List Blk → Option (Value × List (Nat × Blk)) := fun args _ => match args with
  | [.string s] => if s.size ≤ 1000 then some (atoiV 132 atoiSx s, []) else none
  | _ => none
def cutU : List Value → List Blk → Option (Value × List (Nat × Blk)) := fun args _ => match args with
  | [.string s, .string u] => if u.data.toList = [33] ∧ s.size ≤ 1000 then some (cutT s, []) else none
  | _ => none
def XT : VOuter := fun f => if f = 12 then some trueU else if f = 62 then some itoaU else if f = 60 then some atoiU else if f = 39 then some cutU else none
theorem done_refl4 {R : Rl} {B : List Blk} (hR : HRel R B) (hf : ∀ d, R.ρ (d, none) = none) : Done R R B [] where
  hr := hR
  φ := rfl
  M := rfl
  nx := Nat.le_refl _
  fr := fun _ _ _ => rfl
  keep := fun _ _ _ => rfl
  frame := hf
  tok := fun k b h => .inl h
  w := fun p h => by cases h
theorem rdl_scal {R : Rl} : ∀ (args cargs : List Value), RdL R args cargs → args.all isScal = true → cargs = args
  | [], cargs, h, _ => List.length_eq_zero_iff.1 h.1.symm
  | a :: args, [], h, _ => by have := h.1; simp at this
  | a :: args, c :: cargs, h, hs => by
    simp only [List.all_cons, Bool.and_eq_true] at hs
    rw [h.head.inv_scal hs.1, rdl_scal args cargs h.tail hs.2]
/-- What is given from outside, in both forms. -/
theorem vx_pure {f : FuncId} {gV : List Value → List Blk → Option (Value × List (Nat × Blk))} {gA : List Value → Hp → Option (Value × Hp)} (hY : YT f = some gA)
    (h : ∀ args B r ws, gV args B = some (r, ws) → ws = [] ∧ args.all isScal = true ∧ ∃ r', (∀ H, gA args H = some (r', H)) ∧ ∀ R, Rd R r r') :
    ∀ args B r ws, gV args B = some (r, ws) → ∀ R cargs, HRel R B → (∀ d, R.ρ (d, none) = none) → RdL R args cargs → Df Tryd.prog YT f cargs R.H fun cr H' => ∃ R' : Rl, R'.H = H' ∧ Done R R' B ws ∧ Rd R' r cr := by
  intro args B r ws hr R cargs hR hf ha
  obtain ⟨rfl, hs, r', hg, hrd⟩ := h args B r ws hr
  obtain rfl := rdl_scal args cargs ha hs
  exact Df_ext (g := gA) (r := (r', R.H)) hY (hg R.H) ⟨R, rfl, done_refl4 hR hf, hrd R⟩
theorem rd_cutT (R : Rl) (s : ByteArray) : Rd R (cutT s) (cutT s) := by
  unfold cutT
  split
  · exact .tuple _ _ rfl (RdL.cons (.string _) (.cons (.string _) (.cons (.bool _) .nil))).2
  · exact .tuple _ _ rfl (RdL.cons (.string _) (.cons (.string _) (.cons (.bool _) .nil))).2
theorem xt_ok : VXOk Tryd.prog YT XT := by
  intro f
  by_cases h1 : f = 12
  · subst h1
    show ∀ args B r ws, trueU args B = some (r, ws) → _
    refine vx_pure (gA := trueG) rfl fun args B r ws hr => ?_
    unfold trueU at hr
    split at hr
    · cases hr; exact ⟨rfl, rfl, _, fun H => rfl, fun R => .bool _⟩
    · cases hr
  · by_cases h2 : f = 62
    · subst h2
      show ∀ args B r ws, itoaU args B = some (r, ws) → _
      refine vx_pure (gA := itoaKG) rfl fun args B r ws hr => ?_
      unfold itoaU at hr
      split at hr
      · rename_i n
        split at hr
        · rename_i hn
          cases hr
          refine ⟨rfl, rfl, .string (itoaS n), fun H => ?_, fun R => .string _⟩
          simp only [itoaKG]
          rw [if_pos ⟨by omega, by omega⟩, itoaK_eq ⟨by omega, by omega⟩]
          rfl
        · cases hr
      · cases hr
    · by_cases h3 : f = 60
      · subst h3
        show ∀ args B r ws, atoiU args B = some (r, ws) → _
        refine vx_pure (gA := atoiG 132) rfl fun args B r ws hr => ?_
        unfold atoiU at hr
        split at hr
        · rename_i s
          split at hr
          · rename_i hs
            cases hr
            have hs2 : s.data.size ≤ 1000000 := by
              have : s.data.size = s.size := rfl
              omega
            cases ha : Lib.atoiAll s.data.toList with
            | ok v =>
              have hv : atoiV 132 atoiSx s = .tuple ⟨[.int .i64 v, .nilIface]⟩ := by simp [atoiV, atoiN, ha]
              rw [hv]
              refine ⟨rfl, rfl, _, fun H => by simp only [atoiG]; rw [if_pos hs2, ha], fun R => .tuple _ _ rfl (RdL.cons (.int _ _) (.cons (.scal _ rfl) .nil)).2⟩
            | range =>
              have hv : atoiV 132 atoiSx s = .tuple ⟨[.int .i64 (Lib.atoiSat s.data.toList), .iface 132 undef]⟩ := by simp [atoiV, atoiN, atoiSx, ha]
              rw [hv]
              refine ⟨rfl, rfl, _, fun H => by simp only [atoiG]; rw [if_pos hs2, ha], fun R => .tuple _ _ rfl (RdL.cons (.int _ _) (.cons (.iface _ _ _ (.undef _)) .nil)).2⟩
            | _ =>
              have hv : atoiV 132 atoiSx s = .tuple ⟨[.int .i64 0, .iface 132 undef]⟩ := by simp [atoiV, atoiN, atoiSx, ha]
              rw [hv]
              refine ⟨rfl, rfl, _, fun H => by simp only [atoiG]; rw [if_pos hs2, ha], fun R => .tuple _ _ rfl (RdL.cons (.int _ _) (.cons (.iface _ _ _ (.undef _)) .nil)).2⟩
          · cases hr
        · cases hr
      · by_cases h4 : f = 39
        · subst h4
          show ∀ args B r ws, cutU args B = some (r, ws) → _
          refine vx_pure (gA := cutG) rfl fun args B r ws hr => ?_
          unfold cutU at hr
          split at hr
          · rename_i s u
            split at hr
            · rename_i hs
              cases hr
              exact ⟨rfl, rfl, cutT s, fun H => by simp only [cutG]; rw [if_pos hs], fun R => rd_cutT R s⟩
            · cases hr
          · cases hr
        · have e : XT f = none := by unfold XT; rw [if_neg h1, if_neg h2, if_neg h3, if_neg h4]
          rw [e]
          show YT f = none
          unfold YT; rw [if_neg h1, if_neg h2, if_neg h3, if_neg h4]
end Go.Proofs.YtmdpggecelheoaaDoor.Abs
/- The wrap of a row, with the world's shape handed on (as in ZF5, by itself). -/
set_option linter.unusedVariables false
namespace Go.Proofs.YtmdpggecelheoaaDoor.Abs
open Go Go.RowKit
/-- The wrap of a row, with the world's shape handed on. -/
theorem returns_shaped {H : Type} {enc : TypeId × Value → H} {a : Assume} {C : Checked} {os : Os} {f : FuncId} {fn : Func} {s : ChangeSpec} {conds : List PathCond} {apart fresh handsOn again : Bool} {X : World → Array Value → Prop}
    (hX : ∀ (w w' : World) (args : Array Value), w.heap = w'.heap → X w args → X w' args)
    (own : ownKnob C.prog.godebug = none) (started : os.Started) (noInit : C.prog.inits.idxOf? f = none) (hfn : C.prog.funcs[f]? = some fn)
    (witness : ∃ (w : World) (tape : Tape) (i : Input), w.os = os ∧ (w.forCall tape i).Shaped C.prog ∧ i.vars = [] ∧ Input.okWide C.prog (w.forCall tape i) .any w.heap.size f i ∧
      ((s.pre enc C.prog fn conds apart (w.forCall tape i).memory i.args ∧ X (w.forCall tape i).memory i.args) ∧ sizedMet enc C.prog fn (OpenSpec.ofChange s) apart (w.forCall tape i).memory i.args) ∧ a.holds C.prog (lone (Frame.enter C.prog f i.args .normal) [] (w.forCall tape i)))
    (contract : ∀ (W : World) (base : Nat) (args : Array Value) (ds gs : List (DataW H)) (before : List MemPlace),
      (∀ (j : Nat) t v, fn.params[j]? = some t → args[j]? = some v → Value.okWide C.prog W .any base t v) →
      DataW.Whole enc C.prog fn.params.toList s.vars apart W args.toList ds gs before →
      conds.all (PathCond.test C.prog ⟨fn.params.toList, ds, s.plain.varTypes C.prog, gs⟩) = true →
      (DataW.weightsEach C.prog (fn.params.toList ++ s.plain.varTypes C.prog) (ds ++ gs)).all (· ≤ reachBytes) = true → X W args → W.ShapedOpen C.prog →
      a.holds C.prog (lone (Frame.enter C.prog f args .normal) [] W) →
      Calls C.prog f args W fun e W' => ∃ v, e = .returned v ∧ s.post enc C.prog fn apart fresh handsOn again W args v W') :
    ReturnsInHanded a C os f .any (fun w args => (s.pre enc C.prog fn conds apart w args ∧ X w args) ∧ sizedMet enc C.prog fn (OpenSpec.ofChange s) apart w args) (s.post enc C.prog fn apart fresh handsOn again) := by
  refine returnsInHanded_of_calls own started noInit witness ?_
  intro w tape i _ hsh _ hok hpre hholds
  obtain ⟨_, _, _, fn', hfn', _, _, _, _, hval⟩ := hok
  have e : fn' = fn := Option.some.inj (hfn'.symm.trans hfn)
  subst e
  obtain ⟨⟨⟨ds, gs, before, hw, hc⟩, hx⟩, hz⟩ := hpre
  have hw' := DataW.Whole.of_heap (w' := w.forCall tape i) (by rfl) hw
  refine (contract (w.forCall tape i) w.heap.size i.args ds gs before hval hw' hc (hz.weights hw) (hX _ _ _ (by rfl) hx) hsh hholds).mono fun e W' ⟨v, he, hp⟩ => ?_
  subst he
  exact ChangeSpec.post_blind hp
end Go.Proofs.YtmdpggecelheoaaDoor.Abs
/- The law AddrTells: all that is given. -/
set_option linter.unusedVariables false
set_option linter.unusedSimpArgs false
namespace Go.Proofs.YtmdpggecelheoaaDoor.Abs
open Go Go.RowKit
attribute [local irreducible] Hold VReg Vf Vc VWP With VStp Vcallee Vp VE
theorem xt_out {f : FuncId} {g : List Value → List Blk → Option (Value × List (Nat × Blk))} {args args' : List Value} {r : Value} (hX : XT f = some g) (ha : mapOwnL (lend true) args = args') (hg : g args' [] = some (r, [])) (h1 : okvL 0 false args' = true) (h2 : okv 0 (!(toksL args).isEmpty) r = true) (S : VH) (K : VCont) : Vcallee Tryd.prog XT f args S K = K r [] S [] false := by
  refine Vcallee_of (args' := args') ?_ ha h1 h2
  unfold Vp
  refine Vf_outer (g := g) hX ?_
  rw [hg]
  with_unfolding_all exact ⟨rfl, rfl⟩
theorem okv_atoi (n : Nat) (st : Bool) (s : ByteArray) : okv n st (atoiV 132 atoiSx s) = true := by unfold atoiV; cases atoiN s <;> rfl
theorem okv_cut (n : Nat) (st : Bool) (s : ByteArray) : okv n st (cutT s) = true := by unfold cutT; cases bangF s <;> rfl
theorem okv_trip (n : Nat) (st : Bool) (o : Option (Int × Int)) : okv n st (tripF o) = true := by cases o <;> rfl
theorem okv_cell (n : Nat) (st : Bool) (s : ByteArray) (o : Option (Int × Int)) : okv n st (cellT s o) = true := by cases o <;> rfl
theorem okv_read (n : Nat) (st : Bool) (s : ByteArray) : okv n st (readV s) = true := by obtain ⟨z, x, y, b, h⟩ := readV_cases s; rw [h]; rfl
theorem xt_n : NOff XT := ⟨rfl, rfl, rfl, rfl⟩
theorem xt_m : MOff XT := ⟨rfl, rfl, rfl, rfl, rfl, rfl⟩
theorem xt_r : ROff XT := ⟨rfl, rfl, rfl, rfl, rfl⟩
theorem xt_itoa (r : Int) (h1 : 1 ≤ r) (h2 : r ≤ 999) (S : VH) (K : VCont) : Vcallee Tryd.prog XT 62 [.int .i64 r] S K = K (.string (itoaS r)) [] S [] false :=
  xt_out (g := itoaU) (args' := [.int .i64 r]) rfl rfl (by simp only [itoaU]; rw [if_pos ⟨h1, h2⟩]) rfl rfl S K
theorem xt_atoi (s : ByteArray) (h : s.size ≤ 1000) (S : VH) (K : VCont) : Vcallee Tryd.prog XT 60 [.string s] S K = K (atoiV 132 atoiSx s) [] S [] false :=
  xt_out (g := atoiU) (args' := [.string s]) rfl rfl (by simp only [atoiU]; rw [if_pos h]) rfl (okv_atoi _ _ _) S K
theorem xt_cut (s : ByteArray) (h : s.size ≤ 1000) (S : VH) (K : VCont) : Vcallee Tryd.prog XT 39 [.string s, .string ⟨#[33]⟩] S K = K (cutT s) [] S [] false :=
  xt_out (g := cutU) (args' := [.string s, .string ⟨#[33]⟩]) rfl rfl (by simp [cutU, h]) rfl (okv_cut _ _ _) S K
theorem xt_at (t : ByteArray) (h : t.size ≤ 1000) (S : VH) (K : VCont) : Vcallee Tryd.prog XT 40 [.string t] S K = K (tripF (atF t)) [] S [] false :=
  Vcallee_of (at_p rfl rfl rfl 132 atoiSx xt_itoa xt_atoi t h) rfl rfl (okv_trip _ _ _)
theorem xt_rread (t sheet : ByteArray) (h : t.size ≤ 1000) (S : VH) (K : VCont) : Vcallee Tryd.prog XT 41 [.string t, .string sheet] S K = K (cellT sheet (rpF t sheet)) [] S [] false :=
  Vcallee_of (rread_p xt_r rfl rfl t sheet h) rfl rfl (okv_cell _ _ _ _)
theorem placeF_row {c r : Int} (h : placeF c r = true) : 1 ≤ r ∧ r ≤ 999 := ⟨(placeF_iff h).2.2.1, (placeF_iff h).2.2.2⟩
theorem xt_gives : Gives XT where
  n := xt_n
  m := xt_m
  r := xt_r
  alive := fun S K => xt_out (g := trueU) rfl rfl rfl rfl rfl S K
  read := fun s h S K => Vcallee_of (read_p xt_n rfl xt_cut xt_at s h) rfl rfl (okv_read _ _ _)
  rcell := fun s h S K => Vcallee_of (Vp_congr (rcell_p xt_r rfl xt_rread s h) (rc_read s)) rfl rfl (okv_read _ _ _)
  show' := fun s c r S K => Vcallee_of (cshow_p xt_n rfl rfl s c r fun hp S K => xt_itoa r (placeF_row hp).1 (placeF_row hp).2 S K) rfl rfl rfl
  rshow := fun s c r S K => Vcallee_of (rshow_p xt_r rfl rfl rfl rfl s c r) rfl rfl rfl
  cells := rfl
  small := rfl
  inn := rfl
  less := rfl
  rcells := rfl
  rin := rfl
  rless := rfl
  same := rfl
  law := rfl
def CcSh2 : List Sh := [.str, .int .i64, .int .i64]
theorem cc_shape : shapeT Tryd.prog 8 23 = some CcSh2 := by kernel_rfl
theorem cc_vals {t : List Value} (h : shapes CcSh2 t) : ∃ x : CC, t = [.string x.s, .int .i64 x.c, .int .i64 x.r] := by
  unfold CcSh2 at h
  obtain ⟨_, t0, rfl, ⟨x0, rfl, w0⟩, h0⟩ := shapes_cons h
  obtain ⟨_, t1, rfl, ⟨x1, rfl, w1⟩, h1⟩ := shapes_cons h0
  obtain ⟨_, t2, rfl, ⟨x2, rfl, w2⟩, h2⟩ := shapes_cons h1
  obtain rfl := shapes_nil h2
  exact ⟨⟨x0, x1, x2⟩, rfl⟩
abbrev CcSh : List Sh := CcSh2
theorem okWide_aggv {P : Program} {w : World} {r : Reach} {base : Nat} {t : TypeId} {v : Value} {fs : Array Field} (ht : P.underlying t = some (.struct fs)) (h : Value.okWide P w r base t v) : ∃ cs, v = .agg cs := by
  simp only [Value.okWide, ht] at h
  obtain ⟨cs, h1, _⟩ := h
  exact ⟨cs, h1⟩
theorem lawAT_df (x y : CC) (s : ByteArray) {H : Hp} : Df Tryd.prog YT 3 [.agg [.string x.s, .int .i64 x.c, .int .i64 x.r].toArray, .agg [.string y.s, .int .i64 y.c, .int .i64 y.r].toArray, .string s] H fun r _ => r = .bool true :=
  Vf_Df xt_ok (lawAT xt_gives x.s x.c x.r y.s y.c y.r s) (.cons (.of_flat 8 _ rfl) (.cons (.of_flat 8 _ rfl) (.cons (.string _) .nil)))
end Go.Proofs.YtmdpggecelheoaaDoor.Abs
/- The law AddrTells holds, and its tied card: which cells may be, how any is written and read, which cells a range has, and which is ahead; each argument reads behind the call as it read before. Condition: the listed package-level variables start as the program's text lays them, which the given tie shows. -/
namespace Go.Proofs.YtmdpggecelheoaaDoor.addrTells
open Go Go.ChangeShapes Go.WideShapes Go.ChangeAt Go.RowKit
open Go.ChangeMaps
open Go.Proofs.YtmdpggecelheoaaDoor.Abs
set_option linter.unusedVariables false
theorem own : ownKnob Tryd.prog.godebug = none := by kernel_rfl
theorem laidOut : laidOutB Tryd.prog = true := by kernel_rfl
theorem mixed : Tryd.prog.follows .mixedOrders = true := Checked.mixed Tryd.checked
set_option maxRecDepth 100000
theorem door_met (os : Os) (args : Array Value) : laidMetH Tryd.prog Rows.addrTellsRow.laid ((World.laidAll Tryd.prog os Rows.addrTellsRow.laid).forCall (fun _ _ => 0) ⟨#[], args, []⟩).memory :=
  show laidMet Tryd.prog Rows.addrTellsRow.laid _ from laidMet_laidAll args (by kernel_rfl) (by kernel_rfl)
theorem lifted (os : Os) (started : os.Started) (H : Type) (enc : TypeId × Value → H) :
    ReturnsInHanded {} Tryd.checked os 3 .any (fun w args => (Rows.addrTellsSpec.pre enc Tryd.prog Tryd.f3 [] false w args ∧ laidMetH Tryd.prog Rows.addrTellsRow.laid w) ∧ sizedMet enc Tryd.prog Tryd.f3 (OpenSpec.ofChange Rows.addrTellsSpec) false w args)
      (Rows.addrTellsSpec.post enc Tryd.prog Tryd.f3 false true false false) := by
  refine returns_shaped (C := Tryd.checked) (X := fun w _ => laidMetH Tryd.prog Rows.addrTellsRow.laid w) (fun _ _ _ hh h => h.of_heap hh) own started (by kernel_rfl) Tryd.func3
    (ChangeSpec.witness_shaped (enc := enc) (C := Tryd.checked) (os := os) (X := fun w _ => laidMetH Tryd.prog Rows.addrTellsRow.laid w) false (World.laidAll Tryd.prog os Rows.addrTellsRow.laid) #[.agg #[.string .empty, .int .i64 0, .int .i64 0], .agg #[.string .empty, .int .i64 0, .int .i64 0], .string .empty] 8 (World.laidAll_os _ _ _) (World.shaped_of_RefB (by kernel_rfl) (by kernel_rfl)) (by kernel_rfl) (by kernel_rfl) (by kernel_rfl) (door_met os _)) ?_
  intro W base args ds gs before hval0 hW _ _ hL hSh _
  have hval : ∀ (j : Nat) t v, Tryd.f3.params[j]? = some t → args[j]? = some v → Value.okWide Tryd.prog W .any base t v := hval0
  have hW' := hW
  obtain ⟨p, q, hA0, hV, rfl, hfz, hnd⟩ := hW
  have hA : DataW.TrodAll enc Tryd.prog W 0 (fun _ => true) true Tryd.f3.params.toList args.toList ds p := hA0
  rw [Tryd.params3] at hA hval
  obtain ⟨v0, vs0, d0, ds0, p0, q0, hargs, rfl, rfl, h0, r0⟩ := trodAll_cons hA
  obtain ⟨v1, vs1, d1, ds1, p1, q1, rfl, rfl, rfl, h1, r1⟩ := trodAll_cons r0
  obtain ⟨v2, vs2, d2, ds2, p2, q2, rfl, rfl, rfl, h2, r2⟩ := trodAll_cons r1
  obtain ⟨rfl, rfl, rfl⟩ := trodAll_nil r2
  obtain rfl : args = #[v0, v1, v2] := by cases args; simp_all
  obtain ⟨rfl, rfl⟩ := trodVars_none hV
  obtain ⟨cs0, rfl⟩ := okWide_aggv Tryd.underlying23 (hval 0 23 v0 rfl rfl)
  obtain ⟨cs1, rfl⟩ := okWide_aggv Tryd.underlying23 (hval 1 23 v1 rfl rfl)
  obtain ⟨a2, rfl, rfl, rfl, w2⟩ := open_string Tryd.underlying9 (hval 2 9 v2 rfl rfl) h2
  have k0 := h0
  have lt0 : ∀ x ∈ p0, x.block < W.heap.size := by obtain ⟨m, hm⟩ := k0; exact DataW.trod_lt m _ _ _ hm
  have k1 := h1
  have lt1 : ∀ x ∈ p1, x.block < W.heap.size := by obtain ⟨m, hm⟩ := k1; exact DataW.trod_lt m _ _ _ hm
  have hL2 : laidMet Tryd.prog Rows.addrTellsRow.laid W := hL
  have lib : LibStart W := ⟨pow10_of hL2.tail.tail, syn_of hL2.tail.tail.tail.tail, ran_of hL2.tail.tail.tail, max_of hSh⟩
  clear hA0 hval0
  obtain ⟨ψ0, H0, acs0, x0, hle0, -, hR0, hv0, hx0, hs0⟩ := arg_agg (opens_shape 8 23 CcSh cc_shape) h0 (rel_start W)
  obtain ⟨ψ1, H1, acs1, x1, hle1, -, hR1, hv1, hx1, hs1⟩ := arg_agg (opens_shape 8 23 CcSh cc_shape) h1 hR0
  obtain ⟨v0, rfl⟩ := cc_vals hs0
  obtain ⟨v1, rfl⟩ := cc_vals hs1
  refine (law_calls mixed (yt_sound mixed lib) hR1 (.cons (hv0.mono hle1) (.cons hv1 (VRs_one (.string _)))) (lawAT_df v0 v1 _)).mono fun e W' ⟨he, bel⟩ => ?_
  subst he
  exact ⟨_, rfl, _, _, _, [], _, [], hW', trodAll_mk1 (shut_bool Tryd.underlying4 _), (trodAll_cons_mk (Below.trod laidOut (by kernel_rfl) (of_decide_eq_true (by kernel_rfl)) k0 bel lt0) (trodAll_cons_mk (Below.trod laidOut (by kernel_rfl) (of_decide_eq_true (by kernel_rfl)) k1 bel lt1) (trodAll_cons_mk (shut_string Tryd.underlying9 w2) trodAll_mk0))), rfl, bel.frame _, fun h => by cases h⟩
theorem over : Rows.addrTellsRow.holds Tryd.pinned (OpenSpec.ofChange Rows.addrTellsSpec) :=
  OpenClaim.holds_of_wide 3 Tryd.f3 rfl rfl rfl rfl rfl rfl rfl ⟨rfl, rfl, rfl, rfl, rfl⟩ rfl rfl rfl rfl rfl (by kernel_rfl) Tryd.func3 (by kernel_rfl)
    (of_decide_eq_true (by kernel_rfl)) (by unfold Func.isWrapper; first | (rw [if_pos (by decide +kernel)]; kernel_rfl) | (rw [if_neg (by decide +kernel)]; exact ⟨rfl, rfl⟩))
    (fun os started H enc _ => lifted os started H enc)
end Go.Proofs.YtmdpggecelheoaaDoor.addrTells
namespace Go.Proofs.YtmdpggecelheoaaDoor
open Go
theorem addrTells_card : Rows.AddrTellsCardSaid :=
  Claim7.holds_tied_plain_at .later [] [.data, .data, .data, .sentinel, .sentinel] true (true, "3d4ef65ab9cb1b75a723f3501e7fecd5e6bcfd19ffc8ca5416c74e0e57128058") true
    addrTells.over (fun _ h => by cases h) (by kernel_rfl) (fun _ h => by cases h) addrTells_row_tie rfl ⟨rfl, rfl⟩ (by kernel_rfl) rfl
    (fun f fn hf hfn => by
      obtain rfl : f = 3 := Option.some.inj ((show Tryd.prog.funcNamed "abacist/abacistlaw3.AddrTells" = some 3 by kernel_rfl).symm.trans hf) |>.symm
      obtain rfl : fn = Tryd.f3 := (Option.some.inj (Tryd.func3.symm.trans hfn)).symm
      exact ⟨by kernel_rfl, fun j t ht => by
        rw [Tryd.params3] at ht
        have hm : t ∈ [23, 9] := by first | simpa using Array.mem_of_getElem? ht | (have h9 := Array.mem_of_getElem? ht; simp at h9 ⊢; rcases h9 with h9 | h9 | h9 <;> simp [h9]) | (have h9 := Array.mem_of_getElem? ht; simp at h9 ⊢; rcases h9 with h9 | h9 <;> simp [h9]) | (have h9 := Array.mem_of_getElem? ht; simp at h9 ⊢; rcases h9 with h9 | h9 | h9 | h9 <;> simp [h9]) | (have h9 := Array.mem_of_getElem? ht; simp at h9 ⊢; rcases h9 with h9 | h9 | h9 | h9 | h9 <;> simp [h9])
        have hall : ([23, 9].all fun u => !Tryd.prog.wantsStandIn u) = true := by kernel_rfl
        exact (show Tryd.prog.wantsStandIn t = false by simpa using List.all_eq_true.1 hall t hm)⟩)
    (by kernel_rfl)
#print axioms addrTells_card
end Go.Proofs.YtmdpggecelheoaaDoor
