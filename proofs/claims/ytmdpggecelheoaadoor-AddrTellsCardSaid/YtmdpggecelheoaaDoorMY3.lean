/- Ranges of cells: the reference. -/
import Derived.Test.YtmdpggecelheoaaDoorMY1
import Derived.Test.YtmdpggecelheoaaDoorPA20
import Derived.Test.YtmdpggecelheoaaDoorProg
import Derived.KernelRfl
import Derived.Lib.Bytealg
import Derived.Lib.ItoaNum
import Derived.Lib.AtoiAll
set_option linter.unusedVariables false
set_option linter.unusedSimpArgs false
set_option maxRecDepth 4000
set_option maxHeartbeats 0
namespace Go.Proofs.YtmdpggecelheoaaDoor.Abs
open Go
attribute [local irreducible] Hold VReg Vf Vc VWP With VStp Vcallee Vp VE
structure ROff (X : VOuter) : Prop where
  name : X 20 = none
  small : X 43 = none
  digit : X 44 = none
  right : X 18 = none
  area : X 16 = none
section
variable {X : VOuter}
theorem rr_c (h : ROff X) (s : ByteArray) (c r : Int) {S : VH} {K : VCont} : Vcallee Tryd.prog X 18 [.agg ⟨[.string s, .int .i64 c, .int .i64 r]⟩] S K = K (.bool (celF s c r)) [] S [] false := rright_c h.right h.name h.small h.digit s c r
theorem rarea_p (h : ROff X) (s : ByteArray) (c r : Int) (s' : ByteArray) (c' r' : Int) : Vp Tryd.prog X 16 [.agg ⟨[.string s, .int .i64 c, .int .i64 r, .string s', .int .i64 c', .int .i64 r']⟩] (.tuple ⟨[.int .i64 (areaN ⟨s, c, r⟩ ⟨s', c', r'⟩), .bool (areaF ⟨s, c, r⟩ ⟨s', c', r'⟩)]⟩) := by
  unfold Vp
  refine Vf_text h.area Tryd.func16 rfl (by kernel_rfl) (by show 1 ≤ _; decide) ?_
  cases h1 : celF s c r
  · simp -dsimp only [↓Hold_5, ↓VWP_seq, ↓VWP_region, ↓VWP_cond, ↓VWP_ret, ↓VReg_one, ↓VReg_nil, ↓VS_guard, ↓VS_move, ↓VS_assign, ↓VS_pick, ↓VS_load, ↓VS_unOp, ↓VS_fieldAddr, ↓VS_box, ↓With_guard, ↓Hold_1, With_some, emap_nil, ↓eget_eset, ↓ae_tmp, ↓ae_int, ↓ae_bool, eget_zero, lop_pick, lop_not, asBool_bool, asGuard_bool, bb_tf, ayielded_eq, ↓dstAt_zero, ↓dstAt_succ, ↓vfinish_ret, ↓vres_nil, ↓vres_tmp, vtell_eq, ret1, Option.map_some, Option.bind_some, ↓reduceIte, Nat.reduceEqDiff, Bool.false_eq_true, Bool.not_false, Nat.zero_add, Nat.add_zero, Nat.reduceAdd, Nat.reduceLeDiff, true_and, List.map_cons, List.map_nil, List.all_cons, List.all_nil, tup_int, tup_str, tup_agg, cel_agg, Bool.and_true, List.drop_zero, List.toList_toArray, List.length_cons, List.length_nil, mapOwn_tuple, mapOwn_bool, mapOwn_int, toksL_nil, toksL_cons, toks_int, toks_bool, toks_string, toks_tuple, okv_tuple, okv_bool, okv_int, okv_string, List.flatMap_nil, List.flatMap_cons, List.all_nil, List.all_cons, List.append_nil, List.nil_append, List.map_nil, List.map_cons, Bool.and_true, Bool.and_self, Bool.not_false, beq_self_eq_true, vnext_mk, vpush_mk, vget_nil, cellsIn_mk, vthaw_nil, vwrites_nil, List.getD_cons_zero, List.length_cons, List.length_nil, List.drop_zero, List.take_succ_cons, List.take_zero, ↓vbox_free, cellsOk_free, cellF, beq_self_eq_true, beq_self_eq_true, bb_tf, vld23, vfp26_0, ↓vfk18, Tryd.results16, ↓rr_c h, h1]
    simp [areaN, areaF, h1]
  · cases h2 : celF s' c' r'
    · simp -dsimp only [↓Hold_5, ↓VWP_seq, ↓VWP_region, ↓VWP_cond, ↓VWP_ret, ↓VReg_one, ↓VReg_nil, ↓VS_guard, ↓VS_move, ↓VS_assign, ↓VS_pick, ↓VS_load, ↓VS_unOp, ↓VS_fieldAddr, ↓VS_box, ↓With_guard, ↓Hold_1, With_some, emap_nil, ↓eget_eset, ↓ae_tmp, ↓ae_int, ↓ae_bool, eget_zero, lop_pick, lop_not, asBool_bool, asGuard_bool, bb_tf, ayielded_eq, ↓dstAt_zero, ↓dstAt_succ, ↓vfinish_ret, ↓vres_nil, ↓vres_tmp, vtell_eq, ret1, Option.map_some, Option.bind_some, ↓reduceIte, Nat.reduceEqDiff, Bool.false_eq_true, Bool.not_true, Bool.not_false, Nat.zero_add, Nat.add_zero, Nat.reduceAdd, Nat.reduceLeDiff, true_and, List.map_cons, List.map_nil, List.all_cons, List.all_nil, tup_int, tup_str, tup_agg, cel_agg, Bool.and_true, List.drop_zero, List.toList_toArray, List.length_cons, List.length_nil, mapOwn_tuple, mapOwn_bool, mapOwn_int, toksL_nil, toksL_cons, toks_int, toks_bool, toks_string, toks_tuple, okv_tuple, okv_bool, okv_int, okv_string, List.flatMap_nil, List.flatMap_cons, List.all_nil, List.all_cons, List.append_nil, List.nil_append, List.map_nil, List.map_cons, Bool.and_true, Bool.and_self, Bool.not_true, Bool.not_false, beq_self_eq_true, vnext_mk, vpush_mk, vget_nil, cellsIn_mk, vthaw_nil, vwrites_nil, List.getD_cons_zero, List.length_cons, List.length_nil, List.drop_zero, List.drop_succ_cons, List.take_succ_cons, List.take_zero, ↓vbox_free, cellsOk_free, cellF, beq_self_eq_true, beq_self_eq_true, bb_tf, vld23, vfp26_0, vfp26_1, ↓vfk18, Tryd.results16, ↓rr_c h, h1, h2]
      simp [areaN, areaF, h1, h2]
    · by_cases h3 : s = s'
      · subst h3
        by_cases h4 : c' < c
        · simp -dsimp only [↓Hold_5, ↓VWP_seq, ↓VWP_region, ↓VWP_cond, ↓VWP_ret, ↓VReg_one, ↓VReg_nil, ↓VS_guard, ↓VS_move, ↓VS_assign, ↓VS_pick, ↓VS_load, ↓VS_binOp, ↓VS_unOp, ↓VS_fieldAddr, ↓VS_box, ↓With_guard, ↓Hold_1, With_some, emap_nil, ↓eget_eset, ↓ae_tmp, ↓ae_int, ↓ae_bool, eget_zero, lop_pick, lop_not, asBool_bool, asGuard_bool, bb_tf, ayielded_eq, ↓dstAt_zero, ↓dstAt_succ, ↓vfinish_ret, ↓vres_nil, ↓vres_tmp, vtell_eq, ret1, Option.map_some, Option.bind_some, ↓reduceIte, Nat.reduceEqDiff, Bool.false_eq_true, decide_true, Bool.not_true, Bool.not_false, List.getElem?_cons_zero, List.getElem?_cons_succ, Nat.zero_add, Nat.add_zero, Nat.reduceAdd, Nat.reduceLeDiff, true_and, List.map_cons, List.map_nil, List.all_cons, List.all_nil, tup_int, tup_str, tup_agg, cel_agg, Bool.and_true, List.drop_zero, List.toList_toArray, List.length_cons, List.length_nil, mapOwn_tuple, mapOwn_bool, mapOwn_int, toksL_nil, toksL_cons, toks_int, toks_bool, toks_string, toks_tuple, okv_tuple, okv_bool, okv_int, okv_string, List.flatMap_nil, List.flatMap_cons, List.all_nil, List.all_cons, List.append_nil, List.nil_append, List.map_nil, List.map_cons, Bool.and_true, Bool.and_self, Bool.not_true, Bool.not_false, beq_self_eq_true, vnext_mk, vpush_mk, vget_nil, cellsIn_mk, vthaw_nil, vwrites_nil, List.getD_cons_zero, List.length_cons, List.length_nil, List.drop_zero, List.drop_succ_cons, List.take_succ_cons, List.take_zero, vbin_int, vbin_string, ↓vbox_free, cellsOk_free, cellF, abin_lss, beq_self_eq_true, decide_true, beq_self_eq_true, bb_tf, vld23, vld9, vld3, vfp26_0, vfp26_1, vfp23_0, vfp23_1, ↓vfk18, Tryd.results16, ↓rr_c h, h1, h2, ab_sne2, h4]
          have : ¬ c ≤ c' := by omega
          simp [areaN, areaF, h1, h2, this]
        · by_cases h5 : r' < r
          · simp -dsimp only [↓Hold_5, ↓VWP_seq, ↓VWP_region, ↓VWP_cond, ↓VWP_ret, ↓VReg_one, ↓VReg_nil, ↓VS_guard, ↓VS_move, ↓VS_assign, ↓VS_pick, ↓VS_load, ↓VS_binOp, ↓VS_unOp, ↓VS_fieldAddr, ↓VS_box, ↓With_guard, ↓Hold_1, With_some, emap_nil, ↓eget_eset, ↓ae_tmp, ↓ae_int, ↓ae_bool, eget_zero, lop_pick, lop_not, asBool_bool, asGuard_bool, ayielded_eq, ↓dstAt_zero, ↓dstAt_succ, ↓vfinish_ret, ↓vres_nil, ↓vres_tmp, vtell_eq, ret1, Option.map_some, Option.bind_some, ↓reduceIte, Nat.reduceEqDiff, Bool.false_eq_true, decide_true, decide_false, Bool.not_true, Bool.not_false, List.getElem?_cons_zero, List.getElem?_cons_succ, Nat.zero_add, Nat.add_zero, Nat.reduceAdd, Nat.reduceLeDiff, true_and, List.map_cons, List.map_nil, List.all_cons, List.all_nil, tup_int, tup_str, tup_agg, cel_agg, Bool.and_true, List.drop_zero, List.toList_toArray, List.length_cons, List.length_nil, mapOwn_tuple, mapOwn_bool, mapOwn_int, toksL_nil, toksL_cons, toks_int, toks_bool, toks_string, toks_tuple, okv_tuple, okv_bool, okv_int, okv_string, List.flatMap_nil, List.flatMap_cons, List.all_nil, List.all_cons, List.append_nil, List.nil_append, List.map_nil, List.map_cons, Bool.and_true, Bool.and_self, Bool.not_true, Bool.not_false, beq_self_eq_true, vnext_mk, vpush_mk, vget_nil, cellsIn_mk, vthaw_nil, vwrites_nil, List.getD_cons_zero, List.length_cons, List.length_nil, List.drop_zero, List.drop_succ_cons, List.take_succ_cons, List.take_zero, vbin_int, vbin_string, ↓vbox_free, cellsOk_free, cellF, abin_lss, beq_self_eq_true, decide_true, decide_false, beq_self_eq_true, vld23, vld9, vld3, vfp26_0, vfp26_1, vfp23_0, vfp23_1, vfp23_2, ↓vfk18, Tryd.results16, ↓rr_c h, h1, h2, ab_sne2, h4, h5]
            have : ¬ r ≤ r' := by omega
            simp [areaN, areaF, h1, h2, this]
          · have p1 := celF_place h1
            have p2 := celF_place h2
            have w1 : IntKind.i64.wrap (c' - c) = c' - c := wrap_id (by omega) (by omega)
            have w2 : IntKind.i64.wrap (c' - c + 1) = c' - c + 1 := wrap_id (by omega) (by omega)
            have w3 : IntKind.i64.wrap (r' - r) = r' - r := wrap_id (by omega) (by omega)
            have w4 : IntKind.i64.wrap (r' - r + 1) = r' - r + 1 := wrap_id (by omega) (by omega)
            have hp : 0 ≤ (c' - c + 1) * (r' - r + 1) ∧ (c' - c + 1) * (r' - r + 1) ≤ 702 * 999 := ⟨Int.mul_nonneg (by omega) (by omega), Int.mul_le_mul (by omega) (by omega) (by omega) (by omega)⟩
            have w5 : IntKind.i64.wrap ((c' - c + 1) * (r' - r + 1)) = (c' - c + 1) * (r' - r + 1) := wrap_id (by omega) (by omega)
            simp -dsimp only [↓Hold_5, ↓VWP_seq, ↓VWP_region, ↓VWP_cond, ↓VWP_ret, ↓VWP_skip, ↓VReg_one, ↓VReg_nil, ↓VS_guard, ↓VS_move, ↓VS_assign, ↓VS_pick, ↓VS_load, ↓VS_binOp, ↓VS_unOp, ↓VS_fieldAddr, ↓VS_box, ↓With_guard, ↓Hold_1, With_some, emap_nil, ↓eget_eset, ↓ae_tmp, ↓ae_int, ↓ae_bool, eget_zero, lop_pick, lop_not, asBool_bool, asGuard_bool, ayielded_eq, ↓dstAt_zero, ↓dstAt_succ, ↓vfinish_ret, ↓vres_nil, ↓vres_tmp, vtell_eq, ret1, Option.map_some, Option.bind_some, ↓reduceIte, Nat.reduceEqDiff, Bool.false_eq_true, decide_true, decide_false, Bool.not_true, Bool.not_false, List.getElem?_cons_zero, List.getElem?_cons_succ, Nat.zero_add, Nat.add_zero, Nat.reduceAdd, Nat.reduceLeDiff, true_and, List.map_cons, List.map_nil, List.all_cons, List.all_nil, tup_int, tup_str, tup_agg, cel_agg, Bool.and_true, List.drop_zero, List.toList_toArray, List.length_cons, List.length_nil, mapOwn_tuple, mapOwn_bool, mapOwn_int, toksL_nil, toksL_cons, toks_int, toks_bool, toks_string, toks_tuple, okv_tuple, okv_bool, okv_int, okv_string, List.flatMap_nil, List.flatMap_cons, List.all_nil, List.all_cons, List.append_nil, List.nil_append, List.map_nil, List.map_cons, Bool.and_true, Bool.and_self, Bool.not_true, Bool.not_false, beq_self_eq_true, vnext_mk, vpush_mk, vget_nil, cellsIn_mk, vthaw_nil, vwrites_nil, List.getD_cons_zero, List.length_cons, List.length_nil, List.drop_zero, List.drop_succ_cons, List.take_succ_cons, List.take_zero, vbin_int, vbin_string, ↓vbox_free, cellsOk_free, cellF, abin_lss, abin_add, abin_sub, abin_mul, beq_self_eq_true, decide_true, decide_false, beq_self_eq_true, vld23, vld9, vld3, vfp26_0, vfp26_1, vfp23_0, vfp23_1, vfp23_2, ↓vfk18, Tryd.results16, ↓rr_c h, h1, h2, ab_sne2, h4, h5, w1, w2, w3, w4, w5]
            have e1 : c ≤ c' := by omega
            have e2 : r ≤ r' := by omega
            simp [areaN, areaF, h1, h2, e1, e2]
      · simp -dsimp only [↓Hold_5, ↓VWP_seq, ↓VWP_region, ↓VWP_cond, ↓VWP_ret, ↓VReg_one, ↓VReg_nil, ↓VS_guard, ↓VS_move, ↓VS_assign, ↓VS_pick, ↓VS_load, ↓VS_binOp, ↓VS_unOp, ↓VS_fieldAddr, ↓VS_box, ↓With_guard, ↓Hold_1, With_some, emap_nil, ↓eget_eset, ↓ae_tmp, ↓ae_int, ↓ae_bool, eget_zero, lop_pick, lop_not, asBool_bool, asGuard_bool, bb_tf, ayielded_eq, ↓dstAt_zero, ↓dstAt_succ, ↓vfinish_ret, ↓vres_nil, ↓vres_tmp, vtell_eq, ret1, Option.map_some, Option.bind_some, ↓reduceIte, Nat.reduceEqDiff, Bool.false_eq_true, decide_false, Bool.not_true, Bool.not_false, List.getElem?_cons_zero, List.getElem?_cons_succ, Nat.zero_add, Nat.add_zero, Nat.reduceAdd, Nat.reduceLeDiff, true_and, List.map_cons, List.map_nil, List.all_cons, List.all_nil, tup_int, tup_str, tup_agg, cel_agg, Bool.and_true, List.drop_zero, List.toList_toArray, List.length_cons, List.length_nil, mapOwn_tuple, mapOwn_bool, mapOwn_int, toksL_nil, toksL_cons, toks_int, toks_bool, toks_string, toks_tuple, okv_tuple, okv_bool, okv_int, okv_string, List.flatMap_nil, List.flatMap_cons, List.all_nil, List.all_cons, List.append_nil, List.nil_append, List.map_nil, List.map_cons, Bool.and_true, Bool.and_self, Bool.not_true, Bool.not_false, beq_self_eq_true, vnext_mk, vpush_mk, vget_nil, cellsIn_mk, vthaw_nil, vwrites_nil, List.getD_cons_zero, List.length_cons, List.length_nil, List.drop_zero, List.drop_succ_cons, List.take_succ_cons, List.take_zero, vbin_string, ↓vbox_free, cellsOk_free, cellF, beq_self_eq_true, decide_false, beq_self_eq_true, bb_tf, vld23, vld9, vfp26_0, vfp26_1, vfp23_0, ↓vfk18, Tryd.results16, ↓rr_c h, h1, h2, ab_sne2, h3]
        simp [areaN, areaF, h1, h2, h3]
theorem rarea_c (h : ROff X) (s : ByteArray) (c r : Int) (s' : ByteArray) (c' r' : Int) {S : VH} {K : VCont} : Vcallee Tryd.prog X 16 [.agg ⟨[.string s, .int .i64 c, .int .i64 r, .string s', .int .i64 c', .int .i64 r']⟩] S K = K (.tuple ⟨[.int .i64 (areaN ⟨s, c, r⟩ ⟨s', c', r'⟩), .bool (areaF ⟨s, c, r⟩ ⟨s', c', r'⟩)]⟩) [] S [] false := Vcallee_of (rarea_p h s c r s' c' r') rfl rfl rfl
theorem rin_p (h : ROff X) (hX : X 27 = none) (s : ByteArray) (c r : Int) (s' : ByteArray) (c' r' : Int) (z : ByteArray) (x y : Int) : Vp Tryd.prog X 27 [.agg ⟨[.string s, .int .i64 c, .int .i64 r, .string s', .int .i64 c', .int .i64 r']⟩, .agg ⟨[.string z, .int .i64 x, .int .i64 y]⟩] (.bool (inF ⟨s, c, r⟩ ⟨s', c', r'⟩ ⟨z, x, y⟩)) := by
  unfold Vp
  refine Vf_text hX Tryd.func27 rfl (by kernel_rfl) (by show 2 ≤ _; decide) ?_
  cases h1 : areaF ⟨s, c, r⟩ ⟨s', c', r'⟩
  · simp -dsimp only [↓Hold_5, ↓VWP_seq, ↓VWP_region, ↓VWP_ret, ↓VReg_one, ↓VReg_nil, ↓VS_guard, ↓VS_move, ↓VS_assign, ↓VS_pick, ↓VS_load, ↓VS_extract, ↓VS_box, ↓With_guard, ↓Hold_1, With_some, emap_nil, ↓eget_eset, ↓ae_tmp, ↓ae_bool, eget_zero, eget_succ, lop_pick, lop_extract, asGuard_bool, bb_ft, ayielded_eq, ↓dstAt_zero, ↓dstAt_succ, ↓vfinish_ret, ↓vres_nil, ↓vres_tmp, vtell_eq, ret1, Option.map_some, Option.bind_some, ↓reduceIte, Nat.reduceEqDiff, Bool.false_eq_true, Bool.not_false, List.getElem?_toArray, List.getElem?_cons_zero, List.getElem?_cons_succ, Nat.zero_add, Nat.add_zero, Nat.reduceAdd, Nat.reduceLeDiff, true_and, List.map_cons, List.map_nil, List.all_cons, List.all_nil, tup_int, tup_str, tup_agg, cel_agg, List.drop_zero, List.toList_toArray, List.length_cons, List.length_nil, mapOwn_bool, toksL_nil, toksL_cons, toks_int, toks_bool, toks_string, okv_bool, okv_int, okv_string, List.all_nil, List.all_cons, List.append_nil, List.nil_append, List.cons_append, List.map_nil, List.map_cons, Bool.and_self, Bool.not_false, beq_self_eq_true, vnext_mk, vpush_mk, vget_nil, cellsIn_mk, vthaw_nil, vwrites_nil, List.getD_cons_zero, List.length_cons, List.length_nil, List.drop_zero, List.take_succ_cons, List.take_zero, ↓vbox_free, cellsOk_free, cellF, beq_self_eq_true, beq_self_eq_true, bb_ft, vld26, ↓vfk16, Tryd.results27, ↓rarea_c h, h1]
    simp [inF, h1]
  · by_cases h2 : z = s
    · by_cases h3 : c ≤ x <;> by_cases h4 : x ≤ c' <;> by_cases h5 : r ≤ y <;> by_cases h6 : y ≤ r' <;> simp -dsimp only [↓Hold_5, ↓VWP_seq, ↓VWP_region, ↓VWP_ret, ↓VReg_one, ↓VReg_nil, ↓VS_guard, ↓VS_move, ↓VS_assign, ↓VS_pick, ↓VS_load, ↓VS_binOp, ↓VS_fieldAddr, ↓VS_extract, ↓VS_box, ↓With_guard, ↓Hold_1, With_some, emap_nil, ↓eget_eset, ↓ae_tmp, ↓ae_bool, eget_zero, eget_succ, lop_pick, lop_extract, asGuard_bool, bb_ft, ayielded_eq, ↓dstAt_zero, ↓dstAt_succ, ↓vfinish_ret, ↓vres_nil, ↓vres_tmp, vtell_eq, ret1, Option.map_some, Option.bind_some, ↓reduceIte, Nat.reduceEqDiff, Bool.false_eq_true, decide_true, decide_false, Bool.not_false, List.getElem?_toArray, List.getElem?_cons_zero, List.getElem?_cons_succ, Nat.zero_add, Nat.add_zero, Nat.reduceAdd, Nat.reduceLeDiff, true_and, List.map_cons, List.map_nil, List.all_cons, List.all_nil, tup_int, tup_str, tup_agg, cel_agg, List.drop_zero, List.toList_toArray, List.length_cons, List.length_nil, mapOwn_bool, toksL_nil, toksL_cons, toks_int, toks_bool, toks_string, okv_bool, okv_int, okv_string, List.all_nil, List.all_cons, List.append_nil, List.nil_append, List.cons_append, List.map_nil, List.map_cons, Bool.and_self, Bool.not_false, beq_self_eq_true, vnext_mk, vpush_mk, vget_nil, cellsIn_mk, vthaw_nil, vwrites_nil, List.getD_cons_zero, List.getD_cons_succ, List.length_cons, List.length_nil, List.drop_zero, List.take_succ_cons, List.take_zero, vbin_int, vbin_string, ↓vbox_free, cellsOk_free, cellF, abin_leq, abin_geq, beq_self_eq_true, ge_iff_le, decide_true, decide_false, beq_self_eq_true, bb_ft, vld26, vld9, vld3, vfp23_0, vfp26_0, vfp23_1, vfp26_1, vfp23_2, ↓vfk16, Tryd.results27, ↓rarea_c h, h1, ab_seq, h2, h3, h4, h5, h6] <;> simp [inF, h1, h3, h4, h5, h6]
    · simp -dsimp only [↓Hold_5, ↓VWP_seq, ↓VWP_region, ↓VWP_ret, ↓VReg_one, ↓VReg_nil, ↓VS_guard, ↓VS_move, ↓VS_assign, ↓VS_pick, ↓VS_load, ↓VS_binOp, ↓VS_fieldAddr, ↓VS_extract, ↓VS_box, ↓With_guard, ↓Hold_1, With_some, emap_nil, ↓eget_eset, ↓ae_tmp, ↓ae_bool, eget_zero, eget_succ, lop_pick, lop_extract, asGuard_bool, bb_ft, ayielded_eq, ↓dstAt_zero, ↓dstAt_succ, ↓vfinish_ret, ↓vres_nil, ↓vres_tmp, vtell_eq, ret1, Option.map_some, Option.bind_some, ↓reduceIte, Nat.reduceEqDiff, Bool.false_eq_true, decide_false, Bool.not_false, List.getElem?_toArray, List.getElem?_cons_zero, List.getElem?_cons_succ, Nat.zero_add, Nat.add_zero, Nat.reduceAdd, Nat.reduceLeDiff, true_and, List.map_cons, List.map_nil, List.all_cons, List.all_nil, tup_int, tup_str, tup_agg, cel_agg, List.drop_zero, List.toList_toArray, List.length_cons, List.length_nil, mapOwn_bool, toksL_nil, toksL_cons, toks_int, toks_bool, toks_string, okv_bool, okv_int, okv_string, List.all_nil, List.all_cons, List.append_nil, List.nil_append, List.cons_append, List.map_nil, List.map_cons, Bool.and_self, Bool.not_false, beq_self_eq_true, vnext_mk, vpush_mk, vget_nil, cellsIn_mk, vthaw_nil, vwrites_nil, List.getD_cons_zero, List.getD_cons_succ, List.length_cons, List.length_nil, List.drop_zero, List.take_succ_cons, List.take_zero, vbin_string, ↓vbox_free, cellsOk_free, cellF, beq_self_eq_true, decide_false, beq_self_eq_true, bb_ft, vld26, vld9, vfp23_0, vfp26_0, ↓vfk16, Tryd.results27, ↓rarea_c h, h1, ab_seq, h2]
      simp [inF, h1, h2]
theorem ab_slt2 {P : Program} {t : TypeId} {x y : Operand} {a b : ByteArray} : abin P .lss t x y (.string a) (.string b) = some (.bool (lessS a b)) := _root_.id rfl
theorem less_eq (s : ByteArray) (c r : Int) (s' : ByteArray) (c' r' : Int) : decide (cmpC ⟨s, c, r⟩ ⟨s', c', r'⟩ < 0) = if s = s' then (if r = r' then decide (c < c') else decide (r < r')) else lessS s s' := by
  unfold cmpC or3V
  dsimp only
  by_cases h1 : s = s'
  · subst h1
    have hs : lessS s s = false := by
      have go : ∀ x : List UInt8, Op.bytesLess x x = false := by
        intro x
        induction x with
        | nil => rfl
        | cons a x ih => simp [Op.bytesLess, ih]
      exact go _
    have o : ordS s s = 0 := by simp [ordS, hs]
    rw [o, if_pos rfl]
    by_cases h2 : r = r'
    · subst h2
      have o2 : ordI r r = 0 := by simp [ordI]
      rw [o2, if_pos rfl]
      simp only [ne_eq, not_true_eq_false, if_false]
      unfold ordI
      by_cases h3 : c < c'
      · simp [h3]
      · by_cases h4 : c' < c <;> simp [h3, h4]
    · rw [if_neg h2]
      unfold ordI
      by_cases h3 : r < r'
      · simp [h3]
      · have h4 : r' < r := by omega
        simp [h3, h4]
  · rw [if_neg h1]
    have hne : (s.toList == s'.toList) = false := by
      rw [beq_eq_false_iff_ne]
      exact fun h => h1 (bytes_inj2 h)
    unfold ordS
    cases h2 : lessS s s'
    · simp [hne]
    · simp
theorem rless_p (hX : X 29 = none) (s : ByteArray) (c r : Int) (s' : ByteArray) (c' r' : Int) : Vp Tryd.prog X 29 [.agg ⟨[.string s, .int .i64 c, .int .i64 r]⟩, .agg ⟨[.string s', .int .i64 c', .int .i64 r']⟩] (.bool (decide (cmpC ⟨s, c, r⟩ ⟨s', c', r'⟩ < 0))) := by
  rw [less_eq]
  unfold Vp
  refine Vf_text hX Tryd.func29 rfl (by kernel_rfl) (by show 2 ≤ _; decide) ?_
  by_cases h1 : s = s'
  · by_cases h2 : r = r'
    · subst h2
      simp -dsimp only [↓VWP_seq, ↓VWP_region, ↓VWP_cond, ↓VWP_ret, ↓VWP_skip, ↓VWP_block, ↓VReg_one, ↓VReg_nil, ↓VS_assign, ↓VS_load, ↓VS_binOp, ↓VS_fieldAddr, ↓VS_box, ↓With_guard, ↓Hold_1, With_some, emap_nil, ↓eget_eset, ↓ae_tmp, ↓ae_bool, eget_zero, eget_succ, asBool_bool, ↓vfinish_ret, ↓vres_nil, ↓vres_tmp, vtell_eq, ret1, Option.map_some, Option.bind_some, ↓reduceIte, Nat.reduceEqDiff, Bool.false_eq_true, decide_true, Bool.not_true, Bool.not_false, List.getElem?_cons_zero, List.getElem?_cons_succ, Nat.zero_add, Nat.add_zero, and_self, List.all_cons, List.all_nil, tup_int, tup_str, tup_agg, cel_agg, List.toList_toArray, List.length_cons, List.length_nil, mapOwn_bool, toksL_nil, toksL_cons, toks_int, toks_bool, toks_string, okv_bool, okv_int, okv_string, List.all_nil, List.all_cons, List.append_nil, List.nil_append, List.cons_append, Bool.and_self, Bool.not_true, Bool.not_false, beq_self_eq_true, vnext_mk, vpush_mk, vget_nil, cellsIn_mk, vthaw_nil, vwrites_nil, List.getD_cons_zero, List.getD_cons_succ, List.length_cons, List.length_nil, vbin_int, vbin_string, ↓vbox_free, cellsOk_free, cellF, abin_neq, abin_lss, beq_self_eq_true, decide_true, beq_self_eq_true, bne_self_eq_false, vld9, vld3, vfp23_0, vfp23_2, vfp23_1, Tryd.results29, ab_sne2, h1]
    · simp -dsimp only [↓VWP_seq, ↓VWP_region, ↓VWP_cond, ↓VWP_ret, ↓VWP_block, ↓VReg_one, ↓VReg_nil, ↓VS_assign, ↓VS_load, ↓VS_binOp, ↓VS_fieldAddr, ↓VS_box, ↓With_guard, ↓Hold_1, With_some, emap_nil, ↓eget_eset, ↓ae_tmp, ↓ae_bool, eget_zero, eget_succ, asBool_bool, ↓vfinish_ret, ↓vres_nil, ↓vres_tmp, vtell_eq, ret1, Option.map_some, Option.bind_some, ↓reduceIte, Nat.reduceEqDiff, Bool.false_eq_true, decide_true, decide_false, Bool.not_true, Bool.not_false, List.getElem?_cons_zero, List.getElem?_cons_succ, Nat.zero_add, Nat.add_zero, and_self, List.all_cons, List.all_nil, tup_int, tup_str, tup_agg, cel_agg, List.toList_toArray, List.length_cons, List.length_nil, mapOwn_bool, toksL_nil, toksL_cons, toks_int, toks_bool, toks_string, okv_bool, okv_int, okv_string, List.all_nil, List.all_cons, List.append_nil, List.nil_append, List.cons_append, Bool.and_self, Bool.not_true, Bool.not_false, beq_self_eq_true, vnext_mk, vpush_mk, vget_nil, cellsIn_mk, vthaw_nil, vwrites_nil, List.getD_cons_zero, List.getD_cons_succ, List.length_cons, List.length_nil, vbin_int, vbin_string, ↓vbox_free, cellsOk_free, cellF, abin_neq, abin_lss, beq_self_eq_true, decide_true, decide_false, beq_self_eq_true, ibne, vld9, vld3, vfp23_0, vfp23_2, Tryd.results29, ab_sne2, h1, h2]
  · simp -dsimp only [↓VWP_seq, ↓VWP_region, ↓VWP_cond, ↓VWP_ret, ↓VWP_block, ↓VReg_one, ↓VReg_nil, ↓VS_assign, ↓VS_load, ↓VS_binOp, ↓VS_fieldAddr, ↓VS_box, ↓With_guard, ↓Hold_1, With_some, emap_nil, ↓eget_eset, ↓ae_tmp, ↓ae_bool, eget_zero, eget_succ, asBool_bool, ↓vfinish_ret, ↓vres_nil, ↓vres_tmp, vtell_eq, ret1, Option.map_some, Option.bind_some, ↓reduceIte, Nat.reduceEqDiff, decide_false, Bool.not_false, List.getElem?_cons_zero, Nat.zero_add, Nat.add_zero, and_self, List.all_cons, List.all_nil, tup_int, tup_str, tup_agg, cel_agg, List.toList_toArray, List.length_cons, List.length_nil, mapOwn_bool, toksL_nil, toksL_cons, toks_int, toks_bool, toks_string, okv_bool, okv_int, okv_string, List.all_nil, List.all_cons, List.append_nil, List.nil_append, List.cons_append, Bool.and_self, Bool.not_false, beq_self_eq_true, vnext_mk, vpush_mk, vget_nil, cellsIn_mk, vthaw_nil, vwrites_nil, List.getD_cons_zero, List.getD_cons_succ, List.length_cons, List.length_nil, vbin_string, ↓vbox_free, cellsOk_free, cellF, beq_self_eq_true, decide_false, beq_self_eq_true, vld9, vfp23_0, Tryd.results29, ab_sne2, ab_slt2, h1]
theorem eqC_self (x : CC) : eqC x x = true := by simp [eqC]
/-- A list is the same as itself. -/
theorem same_p (hX : X 23 = none) (cc : Bool) (dd : Nat) (ce : Bool) (de : Nat) (l : List CC) (hl : l.length ≤ 1000000000) : Vp Tryd.prog X 23 [sl cc dd 3 (l.map CC.v), sl ce de 3 (l.map CC.v)] (.bool true) := by
  unfold Vp
  refine Vf_text hX Tryd.func23 rfl (by kernel_rfl) (by show 2 ≤ _; decide) ?_
  simp -dsimp only [↓VWP_seq, ↓VWP_region, ↓VWP_cond, ↓VWP_skip, ↓VWP_block, ↓VWP_loop, ↓VReg_one, ↓VReg_nil, ↓VS_move, ↓VS_assign, ↓VS_binOp, ↓VS_len, ↓Hold_1, With_some, emap_nil, ↓eget_eset, ↓ae_tmp, ↓ae_int, ↓ae_bool, eget_zero, eget_succ, asBool_bool, ↓reduceIte, Nat.reduceEqDiff, reduceCtorEq, Bool.false_eq_true, vbin_int, abin_neq, bne_self_eq_false, vls35, List.length_map]
  refine Vc_loop (fun m e S => ∃ i : Nat, m = l.length - i ∧ i ≤ l.length ∧ eget e 0 = sl cc dd 3 (l.map CC.v) ∧ eget e 1 = sl ce de 3 (l.map CC.v) ∧ eget e 5 = .int .i64 i ∧ S = ⟨[], [], []⟩) l.length ?_ ?_
  · refine ⟨0, rfl, Nat.zero_le _, ?_, ?_, ?_, rfl⟩ <;> simp only [↓eget_eset, eget_zero, eget_succ, ↓reduceIte, Nat.reduceEqDiff, reduceCtorEq] <;> rfl
  · rintro m e S ⟨i, rfl, hi, e0, e1, e5, rfl⟩
    refine VWP_Vc _ _ _ _ ?_
    by_cases hin : i < l.length
    · have hlt : (i : Int) < l.length := by omega
      have h0 : (0 : Int) ≤ i := by omega
      have hx : (l.map CC.v)[i]? = some l[i].v := by simp [hin]
      have hnum : ((i : Int) + 1) = ((i + 1 : Nat) : Int) := by omega
      have hwr : IntKind.i64.wrap ((i : Int) + 1) = (i : Int) + 1 := wrap_id (by omega) (by omega)
      generalize l[i] = x at hx
      obtain ⟨s', c', r'⟩ := x
      simp only [CC.v] at hx
      simp -dsimp only [↓VWP_seq, ↓VWP_region, ↓VWP_cond, ↓VWP_skip, ↓VWP_block, ↓VWP_open, ↓VReg_one, ↓VReg_nil, ↓VS_move, ↓VS_binOp, ↓VS_len, ↓Hold_1, With_some, emap_nil, ↓eget_eset, ↓ae_tmp, asBool_bool, ↓reduceIte, Nat.reduceEqDiff, reduceCtorEq, decide_true, vbin_int, abin_lss, decide_true, vls35, e0, e5, hlt, List.length_map]
      refine Vc_open [[], [], [], [], [], [], [], [], []] false (by kernel_rfl) (by kernel_rfl) (by kernel_rfl) ?_
      simp -dsimp only [↓VWP_region, ↓VWP_cond, ↓VWP_skip, ↓VReg_one, ↓VReg_nil, ↓VS_move, ↓VS_assign, ↓VS_load, ↓VS_binOp, ↓VS_indexAddr, ↓Hold_1, ↓Hold_3, With_some, emap_nil, ↓eget_eset, ↓ae_tmp, ↓ae_int, asBool_bool, light, Option.map_some, ↓reduceIte, Nat.reduceEqDiff, reduceCtorEq, Bool.false_eq_true, Bool.not_true, Nat.zero_add, Nat.reduceAdd, and_true, true_and, List.all_nil, List.length_cons, List.length_nil, List.all_nil, Bool.not_true, List.length_cons, List.length_nil, vload_at, aggV_agg, vbin_int, abin_add, Int.toNat_natCast, ↓VE_nil, ↓VE_one0, List.reverse_nil, vgt23, vis35, e0, e1, e5, h0, hx, hwr, cell_ne, eqC_self]
      exact ⟨l.length - (i + 1), by omega, i + 1, rfl, by omega, by rw [hnum]⟩
    · obtain rfl : i = l.length := by omega
      have hlt : ¬ ((l.length : Int) < l.length) := by omega
      simp -dsimp only [↓VWP_seq, ↓VWP_region, ↓VWP_cond, ↓VWP_ret, ↓VWP_exit, ↓VReg_one, ↓VReg_nil, ↓VS_move, ↓VS_assign, ↓VS_binOp, ↓VS_len, ↓With_guard, ↓Hold_1, ↓Hold_3, With_some, emap_nil, ↓eget_eset, ↓ae_tmp, ↓ae_bool, asBool_bool, ↓vfinish_ret, ↓vres_nil, ↓vres_tmp, vtell_eq, ret1, Option.map_some, Option.bind_some, ↓reduceIte, Nat.reduceEqDiff, reduceCtorEq, Bool.false_eq_true, decide_false, and_self, List.toList_toArray, List.length_nil, mapOwn_bool, toks_bool, okv_bool, vthaw_nil, vwrites_nil, List.length_nil, vbin_int, abin_lss, decide_false, vls35, Tryd.results23, e0, e5, hlt, List.length_map]
end
theorem rcells_p {X : VOuter} (h : ROff X) (hX : X 25 = none) (s : ByteArray) (c r : Int) (s' : ByteArray) (c' r' : Int) : Vp Tryd.prog X 25 [.agg ⟨[.string s, .int .i64 c, .int .i64 r, .string s', .int .i64 c', .int .i64 r']⟩] (sl true 0 3 ((cellsF ⟨s, c, r⟩ ⟨s', c', r'⟩).map CC.v)) := by
  unfold Vp
  refine Vf_text hX Tryd.func25 rfl (by kernel_rfl) (by show 1 ≤ _; decide) ?_
  cases hA : areaF ⟨s, c, r⟩ ⟨s', c', r'⟩
  · simp -dsimp only [↓Hold_5, ↓VWP_seq, ↓VWP_region, ↓VWP_cond, ↓VWP_ret, ↓VReg_one, ↓VReg_nil, ↓VS_guard, ↓VS_move, ↓VS_assign, ↓VS_pick, ↓VS_load, ↓VS_unOp, ↓VS_extract, ↓VS_box, ↓With_guard, ↓Hold_1, With_some, emap_nil, ↓eget_eset, ↓ae_tmp, ↓ae_bool, ↓ae_slice0, eget_zero, lop_pick, lop_extract, lop_not, asBool_bool, asGuard_bool, bb_tf, ayielded_eq, ↓dstAt_zero, ↓dstAt_succ, ↓vfinish_ret, ↓vres_nil, ↓vres_tmp, vtell_eq, ret1, Option.map_some, Option.bind_some, ↓reduceIte, Nat.reduceEqDiff, Bool.false_eq_true, Bool.not_false, List.getElem?_toArray, List.getElem?_cons_zero, List.getElem?_cons_succ, Nat.zero_add, Nat.add_zero, Nat.reduceAdd, Nat.reduceLeDiff, true_and, List.map_cons, List.map_nil, List.all_cons, List.all_nil, tup_int, tup_str, tup_agg, cel_agg, List.drop_zero, List.toList_toArray, List.length_cons, List.length_nil, mapOwn_slice, toksL_nil, toksL_cons, toks_int, toks_string, toks_slice, okv_int, okv_string, okv_slice0, List.all_nil, List.all_cons, List.append_nil, List.nil_append, List.map_nil, List.map_cons, Bool.and_self, Bool.not_false, beq_self_eq_true, vnext_mk, vpush_mk, vget_nil, cellsIn_mk, vthaw_nil, vwrites_nil, List.getD_cons_zero, List.length_cons, List.length_nil, List.drop_zero, List.take_succ_cons, List.take_zero, ↓vbox_free, cellsOk_free, cellF, beq_self_eq_true, beq_self_eq_true, bb_tf, vld26, ↓vfk16, Tryd.results25, ↓rarea_c h, hA]
    simp [cellsF, hA]
    rfl
  · by_cases hB : 400 < areaN ⟨s, c, r⟩ ⟨s', c', r'⟩
    · simp -dsimp only [↓Hold_5, ↓VWP_seq, ↓VWP_region, ↓VWP_cond, ↓VWP_ret, ↓VReg_one, ↓VReg_nil, ↓VS_guard, ↓VS_move, ↓VS_assign, ↓VS_pick, ↓VS_load, ↓VS_binOp, ↓VS_unOp, ↓VS_extract, ↓VS_box, ↓With_guard, ↓Hold_1, With_some, emap_nil, ↓eget_eset, ↓ae_tmp, ↓ae_int, ↓ae_slice0, eget_zero, lop_pick, lop_extract, lop_not, asBool_bool, asGuard_bool, ayielded_eq, ↓dstAt_zero, ↓dstAt_succ, ↓vfinish_ret, ↓vres_nil, ↓vres_tmp, vtell_eq, ret1, Option.map_some, Option.bind_some, ↓reduceIte, Nat.reduceEqDiff, Bool.false_eq_true, decide_true, Bool.not_true, Bool.not_false, List.getElem?_toArray, List.getElem?_cons_zero, List.getElem?_cons_succ, Nat.zero_add, Nat.add_zero, Nat.reduceAdd, Nat.reduceLeDiff, true_and, List.map_cons, List.map_nil, List.all_cons, List.all_nil, tup_int, tup_str, tup_agg, cel_agg, List.drop_zero, List.toList_toArray, List.length_cons, List.length_nil, mapOwn_slice, toksL_nil, toksL_cons, toks_int, toks_string, toks_slice, okv_int, okv_string, okv_slice0, List.all_nil, List.all_cons, List.append_nil, List.nil_append, List.map_nil, List.map_cons, Bool.and_self, Bool.not_true, Bool.not_false, beq_self_eq_true, vnext_mk, vpush_mk, vget_nil, cellsIn_mk, vthaw_nil, vwrites_nil, List.getD_cons_zero, List.length_cons, List.length_nil, List.drop_zero, List.take_succ_cons, List.take_zero, vbin_int, ↓vbox_free, cellsOk_free, cellF, abin_gtr, beq_self_eq_true, gt_iff_lt, decide_true, beq_self_eq_true, vld26, ↓vfk16, Tryd.results25, ↓rarea_c h, hA, hB]
      simp [cellsF, hA, show ¬ areaN ⟨s, c, r⟩ ⟨s', c', r'⟩ ≤ 400 by omega]
      rfl
    · have h1 : (areaF ⟨s, c, r⟩ ⟨s', c', r'⟩ && decide (areaN ⟨s, c, r⟩ ⟨s', c', r'⟩ ≤ 400)) = true := by rw [hA, decide_eq_true (by omega)]; rfl
      have hF : cellsF ⟨s, c, r⟩ ⟨s', c', r'⟩ = (List.range (rowsN ⟨s, c, r⟩ ⟨s', c', r'⟩ * colsN ⟨s, c, r⟩ ⟨s', c', r'⟩)).map (nthC ⟨s, c, r⟩ ⟨s', c', r'⟩) := by
        unfold cellsF; rw [h1, if_pos rfl]
      rw [hF, List.map_map]
      have h1' := h1
      rw [Bool.and_eq_true, decide_eq_true_eq] at h1'
      have hN := h1'.2
      rw [areaN_nat h1'.1] at hN
      obtain ⟨k1, k2, -, k3, k4⟩ := areaF_spec h1'.1
      dsimp only at k1 k2 k3 k4
      have p1 := celF_place k1
      have p2 := celF_place k2
      have hC : (colsN ⟨s, c, r⟩ ⟨s', c', r'⟩ : Int) = c' - c + 1 := by unfold colsN; dsimp only; omega
      have hR : (rowsN ⟨s, c, r⟩ ⟨s', c', r'⟩ : Int) = r' - r + 1 := by unfold rowsN; dsimp only; omega
      have hnext := range_next ⟨s, c, r⟩ ⟨s', c', r'⟩
      dsimp only at hnext
      have hN : rowsN ⟨s, c, r⟩ ⟨s', c', r'⟩ * colsN ⟨s, c, r⟩ ⟨s', c', r'⟩ ≤ 400 := by omega
      generalize nthC ⟨s, c, r⟩ ⟨s', c', r'⟩ = g at hnext ⊢
      generalize colsN ⟨s, c, r⟩ ⟨s', c', r'⟩ = C at hnext hC hN ⊢
      generalize rowsN ⟨s, c, r⟩ ⟨s', c', r'⟩ = R at hR hN ⊢
      simp -dsimp only [↓Hold_5, ↓VWP_seq, ↓VWP_region, ↓VWP_cond, ↓VWP_skip, ↓VWP_block, ↓VWP_loop, ↓VReg_one, ↓VReg_nil, ↓VS_guard, ↓VS_move, ↓VS_assign, ↓VS_pick, ↓VS_load, ↓VS_binOp, ↓VS_unOp, ↓VS_fieldAddr, ↓VS_extract, ↓VS_box, ↓Hold_1, With_some, emap_nil, ↓eget_eset, ↓ae_tmp, ↓ae_int, ↓ae_slice0, eget_zero, lop_pick, lop_extract, lop_not, asBool_bool, asGuard_bool, ayielded_eq, ↓dstAt_zero, ↓dstAt_succ, Option.bind_some, ↓reduceIte, Nat.reduceEqDiff, Bool.false_eq_true, decide_false, Bool.not_true, Bool.not_false, List.getElem?_toArray, List.getElem?_cons_zero, List.getElem?_cons_succ, Nat.zero_add, Nat.add_zero, Nat.reduceAdd, Nat.reduceLeDiff, true_and, List.map_cons, List.map_nil, List.all_cons, List.all_nil, tup_int, tup_str, tup_agg, cel_agg, List.drop_zero, List.toList_toArray, List.length_cons, List.length_nil, toksL_nil, toksL_cons, toks_int, toks_string, okv_int, okv_string, List.all_nil, List.all_cons, List.append_nil, List.nil_append, List.map_nil, List.map_cons, Bool.and_self, Bool.not_true, Bool.not_false, beq_self_eq_true, vnext_mk, vpush_mk, vget_nil, cellsIn_mk, List.getD_cons_zero, List.length_cons, List.length_nil, List.drop_zero, List.take_succ_cons, List.take_zero, vbin_int, ↓vbox_free, cellsOk_free, cellF, abin_gtr, beq_self_eq_true, gt_iff_lt, decide_false, beq_self_eq_true, vld26, vld3, vfp26_0, vfp23_2, ↓vfk16, ↓rarea_c h, hA, hB]
      refine Vc_loop (fun m e S => ∃ j : Nat, m = R - j ∧ j ≤ R ∧ eget e 1 = .pointer (some { block := 0, off := 0 }) ∧ eget e 5 = ol true (47, none) 3 ((List.range (j * C)).map fun k => (g k).v) ∧ eget e 6 = .int .i64 (r + j) ∧ S = ⟨[], [.cells true 26 [.string s, .int .i64 c, .int .i64 r, .string s', .int .i64 c', .int .i64 r']], []⟩) R ?_ ?_
      · refine ⟨0, rfl, Nat.zero_le _, ?_, ?_, ?_, rfl⟩
        · simp only [↓eget_eset, ↓reduceIte, Nat.reduceEqDiff]
        · simp only [↓eget_eset, ↓reduceIte, Nat.reduceEqDiff, Nat.zero_mul]
          rfl
        · simp only [↓eget_eset, ↓reduceIte]
          simp
      · rintro m e S ⟨j, rfl, hj, e1, e3, e4, rfl⟩
        refine VWP_Vc _ _ _ _ ?_
        by_cases hjn : j < R
        · have hly : r + (j : Int) ≤ r' := by omega
          have hjC : (j + 1) * C ≤ R * C := Nat.mul_le_mul_right C hjn
          rw [Nat.succ_mul] at hjC
          simp -dsimp only [↓VWP_seq, ↓VWP_region, ↓VWP_cond, ↓VWP_skip, ↓VWP_block, ↓VWP_loop, ↓VReg_one, ↓VReg_nil, ↓VS_move, ↓VS_assign, ↓VS_load, ↓VS_binOp, ↓VS_fieldAddr, ↓Hold_1, With_some, emap_nil, ↓eget_eset, ↓ae_tmp, asBool_bool, ↓reduceIte, Nat.reduceEqDiff, decide_true, List.getElem?_cons_zero, List.getElem?_cons_succ, Nat.zero_add, Nat.add_zero, Nat.reduceAdd, vget_nil, cellsIn_mk, List.getD_cons_zero, vbin_int, abin_leq, decide_true, vld3, vfp26_0, vfp23_2, vfp26_1, vfp23_1, e1, e4, hly]
          refine Vc_loop (fun m e S => ∃ q : Nat, m = C - q ∧ q ≤ C ∧ eget e 1 = .pointer (some { block := 0, off := 0 }) ∧ eget e 5 = ol true (47, none) 3 ((List.range (j * C + q)).map fun k => (g k).v) ∧ eget e 6 = .int .i64 (r + j) ∧ eget e 7 = .int .i64 (c + q) ∧ S = ⟨[], [.cells true 26 [.string s, .int .i64 c, .int .i64 r, .string s', .int .i64 c', .int .i64 r']], []⟩) C ?_ ?_
          · refine ⟨0, rfl, Nat.zero_le _, ?_, ?_, ?_, ?_, rfl⟩
            · simp only [↓eget_eset, ↓reduceIte, Nat.reduceEqDiff, e1]
            · simp only [↓eget_eset, ↓reduceIte, Nat.reduceEqDiff, Nat.add_zero, e3]
            · simp only [↓eget_eset, ↓reduceIte, Nat.reduceEqDiff, e4]
            · simp only [↓eget_eset, ↓reduceIte]
              simp
          · rintro m e S ⟨q, rfl, hq, e1, e3, e4, e5, rfl⟩
            refine VWP_Vc _ _ _ _ ?_
            by_cases hqn : q < C
            · have hlx : c + (q : Int) ≤ c' := by omega
              have ht := hnext j q hqn
              have hlen : ((List.range (j * C + q)).map fun k => (g k).v).length = j * C + q := by simp
              have hw : IntKind.i64.wrap (c + q + 1) = c + q + 1 := wrap_id (by omega) (by omega)
              generalize (List.range (j * C + q)).map (fun k => (g k).v) = L at e3 ht hlen
              simp -dsimp only [thaw_ol, vgrow_ol, ↓VWP_seq, ↓VWP_region, ↓VWP_cond, ↓VWP_skip, ↓VWP_block, ↓VReg_one, ↓VReg_nil, ↓VS_move, ↓VS_assign, ↓VS_build, ↓VS_load, ↓VS_binOp, ↓VS_fieldAddr, ↓VS_buildSlice, ↓VS_append, ↓With_guard, ↓Hold_1, With_some, emap_nil, emap_cons, ↓eget_map, ↓eget_eset, ↓ae_tmp, ↓ae_int, asBool_bool, Option.map_some, Option.bind_some, ↓reduceIte, Nat.reduceEqDiff, decide_true, Bool.not_false, List.getElem?_cons_zero, List.getElem?_cons_succ, Nat.zero_add, Nat.add_zero, Nat.reduceAdd, Nat.reduceMul, Nat.reduceLT, Nat.reduceLeDiff, and_true, true_and, and_self, List.map_cons, List.map_nil, List.all_cons, List.all_nil, tup_int, cel_int, tup_str, cel_str, tup_agg, cel_agg, List.toList_toArray, List.size_toArray, List.length_cons, List.length_nil, mapOwn_agg, mapOwn_int, mapOwn_string, mapOwn_pointer, toksL_nil, toksL_cons, toks_int, toks_string, toks_agg, okv_agg, okv_int, okv_string, List.flatMap_nil, List.flatMap_cons, List.all_nil, List.all_cons, List.append_nil, List.map_nil, List.map_cons, Bool.and_self, Bool.not_false, List.mem_cons, List.not_mem_nil, or_false, Prod.mk.injEq, beq_self_eq_true, vget_nil, cellsIn_mk, vturn_nil, vthaw_one, boxesOf_nil, List.getD_cons_zero, List.set_cons_zero, List.set_cons_succ, List.length_cons, List.length_nil, velems_own, partsOk_nil, partsOk_cons, vfill_nil, vfill_cons, vbin_int, List.replicate_succ, List.replicate_zero, abin_leq, abin_add, beq_self_eq_true, decide_true, beq_self_eq_true, afill, setAll, vld3, vld9, vfp26_0, vfp26_1, vfp23_1, vfp23_0, bd23, pl23_0, pl23_1, pl23_2, vbd35, vap35, e1, e3, e4, e5, hlx, hlen]
              exact ⟨⟨by omega, by omega⟩, C - (q + 1), by omega, q + 1, rfl, by omega, by rw [ht], by rw [hw]; congr 1; omega⟩
            · obtain rfl : q = C := by omega
              have hlx : ¬ c + (q : Int) ≤ c' := by omega
              have hw : IntKind.i64.wrap (r + j + 1) = r + j + 1 := wrap_id (by omega) (by omega)
              simp -dsimp only [↓VWP_seq, ↓VWP_region, ↓VWP_cond, ↓VWP_exit, ↓VReg_one, ↓VReg_nil, ↓VS_move, ↓VS_assign, ↓VS_load, ↓VS_binOp, ↓VS_fieldAddr, ↓Hold_1, ↓Hold_3, With_some, emap_nil, ↓eget_eset, ↓ae_tmp, ↓ae_int, asBool_bool, ↓reduceIte, Nat.reduceEqDiff, Bool.false_eq_true, decide_false, List.getElem?_cons_zero, List.getElem?_cons_succ, Nat.zero_add, Nat.reduceAdd, and_true, true_and, vget_nil, cellsIn_mk, List.getD_cons_zero, vbin_int, abin_leq, abin_add, decide_false, vld3, vfp26_1, vfp23_1, e1, e3, e4, e5, hlx]
              exact ⟨R - (j + 1), by omega, j + 1, rfl, by omega, by rw [Nat.succ_mul], by rw [hw]; congr 1; omega⟩
        · obtain rfl : j = R := by omega
          have hly : ¬ r + (j : Int) ≤ r' := by omega
          simp -dsimp only [okv_sl0, toks_ol, thawAll_ol, thaw_tok1, ↓VWP_seq, ↓VWP_region, ↓VWP_cond, ↓VWP_ret, ↓VWP_exit, ↓VReg_one, ↓VReg_nil, ↓VS_move, ↓VS_assign, ↓VS_load, ↓VS_binOp, ↓VS_fieldAddr, ↓With_guard, ↓Hold_1, ↓Hold_3, With_some, emap_nil, ↓eget_eset, ↓ae_tmp, asBool_bool, ↓vfinish_ret, ↓vres_nil, ↓vres_tmp, vtell_eq, ret1, Option.map_some, Option.bind_some, ↓reduceIte, Nat.reduceEqDiff, Bool.false_eq_true, decide_false, List.getElem?_cons_zero, List.getElem?_cons_succ, Nat.zero_add, Nat.reduceAdd, true_and, List.toList_toArray, List.length_nil, Bool.true_and, vget_nil, cellsIn_mk, vwrites_nil, List.getD_cons_zero, List.length_nil, vbin_int, abin_leq, decide_false, vld3, vfp23_2, vfp26_1, Tryd.results25, e1, e3, e4, hly]
          rfl
end Go.Proofs.YtmdpggecelheoaaDoor.Abs
/- Closed runs: what the evaluator answers over the empty heap, it answers; finitely many inputs are gone through by the kernel. -/
set_option linter.unusedVariables false
set_option linter.unusedSimpArgs false
namespace Go.Proofs.YtmdpggecelheoaaDoor.Abs
open Go
theorem df_closed {P : Program} {X : Outer} {n : Nat} {f : FuncId} {args : List Value} {v : Value} (h : ansIs (run P X n f args ⟨0, []⟩) v = true) : Df P X f args ⟨0, []⟩ fun r _ => r = v := by
  obtain ⟨H, h⟩ := ansIs_some h
  exact ⟨n, _, h, rfl⟩
/-- The place of a byte in a text, or -1. -/
def ixB : List UInt8 → UInt8 → Int → Int
  | [], _, _ => -1
  | b :: l, c, i => if b == c then i else ixB l c (i + 1)
theorem ix_ge (l : List UInt8) (c : UInt8) : -1 ≤ Lib.indexByte l c := by
  induction l with
  | nil => simp [Lib.indexByte]
  | cons b l ih =>
    simp only [Lib.indexByte]
    split
    · omega
    · split <;> omega
theorem ixB_eq (l : List UInt8) (c : UInt8) : ∀ i : Int, 0 ≤ i → (Lib.indexByte l c = -1 → ixB l c i = -1) ∧ (Lib.indexByte l c ≠ -1 → ixB l c i = Lib.indexByte l c + i) := by
  induction l with
  | nil => intro i hi; exact ⟨fun _ => rfl, fun h => absurd rfl h⟩
  | cons b l ih =>
    intro i hi
    have hg := ix_ge l c
    have hc : Lib.indexByte (b :: l) c = if b == c then 0 else if Lib.indexByte l c == -1 then -1 else Lib.indexByte l c + 1 := rfl
    have hx : ixB (b :: l) c i = if b == c then i else ixB l c (i + 1) := rfl
    rw [hc, hx]
    obtain ⟨h1, h2⟩ := ih (i + 1) (by omega)
    by_cases hb : (b == c) = true
    · simp only [if_pos hb]
      exact ⟨fun h => by omega, fun _ => by omega⟩
    · simp only [if_neg hb]
      by_cases hx : Lib.indexByte l c = -1
      · have e : (Lib.indexByte l c == -1) = true := by simpa using hx
        simp only [if_pos e]
        exact ⟨fun _ => h1 hx, fun h => absurd rfl h⟩
      · have e : ¬ (Lib.indexByte l c == -1) = true := by simpa using hx
        simp only [if_neg e]
        exact ⟨fun h => by omega, fun _ => by rw [h2 hx]; omega⟩
/-- strings.IndexByte's answer. -/
def ixG : List Value → Hp → Option (Value × Hp) := fun args H => match args with
  | [.string s, .int .u8 c] => some (.int .i64 (ixB s.data.toList c.toNat.toUInt8 0), H)
  | _ => none
theorem ix_sound {P : Program} {B : Nat} {w0 : World} {k : FuncId} (hc : ∀ (s : ByteArray) (c : Int) (w : World), Calls P k #[.string s, .int .u8 c] w fun e w' => e = .returned (.int .i64 (Lib.indexByte s.data.toList c.toNat.toUInt8)) ∧ w' = w) : KSound P B w0 fun f' args H => if f' = k then ixG args H else none := by
  intro b hb f' args H v H' hr φ w args' hR ha
  simp only at hr
  split at hr
  · rename_i hff
    subst hff
    unfold ixG at hr
    split at hr
    · rename_i s c
      cases hr
      have e : args' = [.string s, .int .u8 c] := flats_eq rfl ha
      subst e
      refine (hc s c w).mono ?_
      rintro e w' ⟨rfl, rfl⟩
      refine ⟨φ, _, Plan.le_refl φ, rfl, ?_, hR⟩
      obtain ⟨h1, h2⟩ := ixB_eq s.data.toList c.toNat.toUInt8 0 (by omega)
      by_cases hx : Lib.indexByte s.data.toList c.toNat.toUInt8 = -1
      · rw [h1 hx, hx]; exact .int _ _
      · rw [h2 hx, Int.add_zero]; exact .int _ _
    · cases hr
  · cases hr
/-- A call that is known to answer true. -/
def trueG : List Value → Hp → Option (Value × Hp) := fun args H => match args with
  | [] => some (.bool true, H)
  | _ => none
theorem true_sound {P : Program} (hm : P.follows .mixedOrders = true) {X' : Outer} (h : ∀ B w0, XSound P B w0 X') {n : Nat} {k : FuncId} (hr : ansIs (run P X' n k [] ⟨0, []⟩) (.bool true) = true) (B : Nat) (w0 : World) : KSound P B w0 fun f' args H => if f' = k then trueG args H else none := by
  intro b hb f' args H v H' hrun φ w args' hR ha
  simp only at hrun
  split at hrun
  · rename_i hff
    subst hff
    unfold trueG at hrun
    split at hrun
    · cases hrun
      obtain ⟨H1, hr⟩ := ansIs_some hr
      exact xsound_pure hm h n [f'] B w0 f' (pureX P X' n f') (by simp [withPure]) b hb f' [] H (.bool true) H (by simp [pureX, hr, flatT, flat]) φ w args' hR ha
    · cases hrun
  · cases hrun
end Go.Proofs.YtmdpggecelheoaaDoor.Abs
/- How cells are written: the program and the reference. -/
set_option linter.unusedVariables false
set_option linter.unusedSimpArgs false
set_option maxRecDepth 4000
set_option maxHeartbeats 0
namespace Go.Proofs.YtmdpggecelheoaaDoor.Abs
open Go
attribute [local irreducible] Hold VReg Vf Vc VWP With VStp Vcallee Vp VE
theorem ab_sadd2 {P : Program} {t : TypeId} {x y : Operand} {a b : ByteArray} (ha : a.size ≤ 1000) (hb : b.size ≤ 1000) : abin P .add t x y (.string a) (.string b) = some (.string (a ++ b)) := by
  have : abin P .add t x y (.string a) (.string b) = onlyFlat (pureRun P (Op.stringOp .add a b)) := rfl
  rw [this]
  unfold Op.stringOp
  simp only
  rw [if_neg (by simp only [IntKind.max, IntKind.signed, IntKind.bits]; simp; omega)]
  rfl
theorem ab_rem3 {P : Program} {t : TypeId} {x y : Operand} {k : IntKind} {a b : Int} (hb : b ≠ 0) : abin P .rem t x y (.int k a) (.int k b) = some (.int k (a.tmod b)) := by
  have h : pureRun P (Op.intDiv .rem k a b) = some (.int k (a.tmod b)) := by
    unfold Op.intDiv
    rw [if_neg hb]
    rfl
  have h2 : abin P .rem t x y (.int k a) (.int k b) = onlyFlat (pureRun P (Op.intDiv .rem k a b)) := by cases k <;> rfl
  rw [h2, h]
  rfl
theorem ab_quo3 {P : Program} {t : TypeId} {x y : Operand} {k : IntKind} {a b : Int} (hb : b ≠ 0) : abin P .quo t x y (.int k a) (.int k b) = some (.int k (k.wrap (a.tdiv b))) := by
  have h : pureRun P (Op.intDiv .quo k a b) = some (.int k (k.wrap (a.tdiv b))) := by
    unfold Op.intDiv
    rw [if_neg hb]
    rfl
  have h2 : abin P .quo t x y (.int k a) (.int k b) = onlyFlat (pureRun P (Op.intDiv .quo k a b)) := by cases k <;> rfl
  rw [h2, h]
  rfl
def chr1 (n : Int) : ByteArray := ⟨#[UInt8.ofNat n.toNat]⟩
theorem chr1_size (n : Int) : (chr1 n).size = 1 := rfl
/-- A column in letters. -/
def colS (c : Int) : ByteArray := if 26 < c then chr1 (64 + (c - 1) / 26) ++ chr1 (65 + (c - 1) % 26) else chr1 (65 + (c - 1) % 26)
def itoaS (r : Int) : ByteArray := ⟨(Lib.itoa r).toArray⟩
def plS (c r : Int) : ByteArray := colS c ++ itoaS r
theorem vconv26 : ((List.range 26).all fun d => match vconv Tryd.prog 5 9 (.int .u8 (Int.ofNat (65 + d))) with | some (.string s) => s.data.toList == [UInt8.ofNat (65 + d)] | _ => false) = true := by kernel_rfl
theorem vconv_chr {n : Int} (h0 : 65 ≤ n) (h1 : n ≤ 90) : vconv Tryd.prog 5 9 (.int .u8 n) = some (.string (chr1 n)) := by
  obtain ⟨d, rfl⟩ : ∃ d : Nat, n = Int.ofNat (65 + d) := ⟨(n - 65).toNat, by simp; omega⟩
  have := List.all_eq_true.1 vconv26 d (List.mem_range.2 (by simp at h1; omega))
  split at this
  · rename_i s hs
    rw [hs]
    have h2 : s.data.toList = [UInt8.ofNat (65 + d)] := by simpa using this
    have h3 : s = chr1 (Int.ofNat (65 + d)) := by
      have e1 : s = ⟨(s.data.toList).toArray⟩ := rfl
      rw [e1, h2]; rfl
    rw [h3]
  · cases this
theorem vconv_u8 {n : Int} (h0 : 0 ≤ n) (h1 : n ≤ 255) : vconv Tryd.prog 3 5 (.int .i64 n) = some (.int .u8 n) := by
  have e : vconv Tryd.prog 3 5 (.int .i64 n) = some (.int .u8 (IntKind.u8.wrap n)) := by kernel_rfl
  rw [e]
  congr 2
  simp only [IntKind.wrap, IntKind.bits, IntKind.signed]
  simp
  omega
theorem vconv_u64 {n : Int} (h0 : 0 ≤ n) (h1 : n ≤ 1000) : vconv Tryd.prog 3 110 (.int .i64 n) = some (.int .u64 n) := by
  have e : vconv Tryd.prog 3 110 (.int .i64 n) = some (.int .u64 (IntKind.u64.wrap n)) := by kernel_rfl
  rw [e]
  congr 2
  simp only [IntKind.wrap, IntKind.bits, IntKind.signed]
  simp
  omega
def azS : ByteArray := ⟨#[65, 66, 67, 68, 69, 70, 71, 72, 73, 74, 75, 76, 77, 78, 79, 80, 81, 82, 83, 84, 85, 86, 87, 88, 89, 90]⟩
def digS : ByteArray := ⟨#[48, 49, 50, 51, 52, 53, 54, 55, 56, 57]⟩
theorem az_cut26 : ((List.range 26).all fun d => (azS.extract d (d + 1)).data.toList == [UInt8.ofNat (65 + d)]) = true := by kernel_rfl
theorem dig_cut10 : ((List.range 10).all fun d => (digS.extract d (d + 1)).data.toList == [UInt8.ofNat (48 + d)]) = true := by kernel_rfl
theorem az_cut {n : Int} (h0 : 0 ≤ n) (h1 : n ≤ 25) : azS.extract n.toNat (n + 1).toNat = chr1 (65 + n) := by
  obtain ⟨d, rfl⟩ := Int.eq_ofNat_of_zero_le h0
  have := List.all_eq_true.1 az_cut26 d (List.mem_range.2 (by omega))
  have e : ((d : Int) + 1).toNat = d + 1 := by omega
  rw [Int.toNat_natCast, e]
  have e1 : azS.extract d (d + 1) = ⟨((azS.extract d (d + 1)).data.toList).toArray⟩ := rfl
  rw [e1, show (azS.extract d (d + 1)).data.toList = [UInt8.ofNat (65 + d)] by simpa using this]
  unfold chr1
  have e2 : (65 + (d : Int)).toNat = 65 + d := by omega
  rw [e2]
theorem dig_cut {n : Int} (h0 : 0 ≤ n) (h1 : n ≤ 9) : digS.extract n.toNat (n + 1).toNat = chr1 (48 + n) := by
  obtain ⟨d, rfl⟩ := Int.eq_ofNat_of_zero_le h0
  have := List.all_eq_true.1 dig_cut10 d (List.mem_range.2 (by omega))
  have e : ((d : Int) + 1).toNat = d + 1 := by omega
  rw [Int.toNat_natCast, e]
  have e1 : digS.extract d (d + 1) = ⟨((digS.extract d (d + 1)).data.toList).toArray⟩ := rfl
  rw [e1, show (digS.extract d (d + 1)).data.toList = [UInt8.ofNat (48 + d)] by simpa using this]
  unfold chr1
  have e2 : (48 + (d : Int)).toNat = 48 + d := by omega
  rw [e2]
/-- A small number's digits. -/
def dec3 (n : Int) : ByteArray := if n ≤ 9 then chr1 (48 + n) else if n ≤ 99 then chr1 (48 + n / 10) ++ chr1 (48 + n % 10) else (chr1 (48 + n / 10 / 10) ++ chr1 (48 + n / 10 % 10)) ++ chr1 (48 + n % 10)
theorem dec_itoa1000 : ((List.range 1000).all fun n => (dec3 (Int.ofNat n)).data.toList == Lib.itoa (Int.ofNat n)) = true := by kernel_rfl
theorem dec_itoa {n : Int} (h0 : 0 ≤ n) (h1 : n ≤ 999) : dec3 n = itoaS n := by
  obtain ⟨d, rfl⟩ := Int.eq_ofNat_of_zero_le h0
  have := List.all_eq_true.1 dec_itoa1000 d (List.mem_range.2 (by omega))
  have e1 : dec3 d = ⟨((dec3 d).data.toList).toArray⟩ := rfl
  rw [e1, show (dec3 (d : Int)).data.toList = Lib.itoa d by simpa using this]
  rfl
theorem dec3_size (n : Int) : (dec3 n).size ≤ 3 := by
  unfold dec3
  split
  · rw [chr1_size]; decide
  · split
    · simp [ByteArray.size_append, chr1_size]
    · simp [ByteArray.size_append, chr1_size]
theorem colS_size (c : Int) : (colS c).size ≤ 2 := by
  unfold colS
  split
  · simp [ByteArray.size_append, chr1_size]
  · simp [chr1_size]
section
variable {X : VOuter}
theorem wplace_p (hX : X 45 = none) (s : ByteArray) (c r : Int) (hc : placeF c r = true) (hit : ∀ S K, Vcallee Tryd.prog X 62 [.int .i64 r] S K = K (.string (itoaS r)) [] S [] false) : Vp Tryd.prog X 45 [.agg ⟨[.string s, .int .i64 c, .int .i64 r]⟩] (.string (plS c r)) := by
  simp only [placeF, Bool.and_eq_true, decide_eq_true_eq] at hc
  obtain ⟨⟨⟨h1, h2⟩, h3⟩, h4⟩ := hc
  have w1 : IntKind.i64.wrap (c - 1) = c - 1 := wrap_id (by omega) (by omega)
  have m1 : (c - 1).tmod 26 = (c - 1) % 26 := Int.tmod_eq_emod_of_nonneg (by omega)
  have m2 : (c - 1).tdiv 26 = (c - 1) / 26 := Int.tdiv_eq_ediv_of_nonneg (by omega)
  have w2 : IntKind.i64.wrap (65 + (c - 1) % 26) = 65 + (c - 1) % 26 := wrap_id (by omega) (by omega)
  have w0 : IntKind.i64.wrap ((c - 1) / 26) = (c - 1) / 26 := wrap_id (by omega) (by omega)
  have w3 : IntKind.i64.wrap (65 + (c - 1) / 26) = 65 + (c - 1) / 26 := wrap_id (by omega) (by omega)
  have w4 : IntKind.i64.wrap (65 + (c - 1) / 26 - 1) = 64 + (c - 1) / 26 := by rw [show 65 + (c - 1) / 26 - 1 = 64 + (c - 1) / 26 by omega]; exact wrap_id (by omega) (by omega)
  have r1 := fun t x y => ab_rem3 (P := Tryd.prog) (t := t) (x := x) (y := y) (k := .i64) (a := c - 1) (b := 26) (by omega)
  have r2 := fun t x y => ab_quo3 (P := Tryd.prog) (t := t) (x := x) (y := y) (k := .i64) (a := c - 1) (b := 26) (by omega)
  have v1 := vconv_u8 (n := 65 + (c - 1) % 26) (by omega) (by omega)
  have x1 := vconv_chr (n := 65 + (c - 1) % 26) (by omega) (by omega)
  have hsz : (itoaS r).size ≤ 3 := by rw [← dec_itoa (by omega) h4]; exact dec3_size r
  have hcs := colS_size c
  unfold Vp
  refine Vf_text hX Tryd.func45 rfl (by kernel_rfl) (by show 1 ≤ _; decide) ?_
  by_cases h5 : 26 < c
  · have v2 := vconv_u8 (n := 64 + (c - 1) / 26) (by omega) (by omega)
    have x2 := vconv_chr (n := 64 + (c - 1) / 26) (by omega) (by omega)
    have hcc : colS c = chr1 (64 + (c - 1) / 26) ++ chr1 (65 + (c - 1) % 26) := by unfold colS; rw [if_pos h5]
    rw [hcc] at hcs
    have a1 := fun t x y => ab_sadd2 (P := Tryd.prog) (t := t) (x := x) (y := y) (a := chr1 (64 + (c - 1) / 26)) (b := chr1 (65 + (c - 1) % 26)) (by rw [chr1_size]; decide) (by rw [chr1_size]; decide)
    have a2 := fun t x y => ab_sadd2 (P := Tryd.prog) (t := t) (x := x) (y := y) (a := chr1 (64 + (c - 1) / 26) ++ chr1 (65 + (c - 1) % 26)) (b := itoaS r) (by omega) (by omega)
    unfold plS
    rw [hcc]
    simp -dsimp only [↓Hold_5, ↓VWP_seq, ↓VWP_region, ↓VWP_cond, ↓VWP_ret, ↓VReg_one, ↓VReg_nil, ↓VS_move, ↓VS_assign, ↓VS_load, ↓VS_binOp, ↓VS_fieldAddr, ↓VS_box, ↓With_guard, ↓Hold_1, With_some, emap_nil, ↓eget_eset, ↓ae_tmp, ↓ae_int, ↓ae_string, eget_zero, asBool_bool, ↓vfinish_ret, ↓vres_nil, ↓vres_tmp, vtell_eq, ret1, Option.map_some, Option.bind_some, ↓reduceIte, Nat.reduceEqDiff, decide_true, Bool.not_false, List.getElem?_cons_zero, List.getElem?_cons_succ, Nat.zero_add, Nat.add_zero, and_self, List.map_cons, List.map_nil, List.all_cons, List.all_nil, tup_int, tup_str, tup_agg, cel_agg, List.toList_toArray, List.length_nil, mapOwn_string, toksL_nil, toksL_cons, toks_int, toks_string, okv_int, okv_string, List.all_nil, List.all_cons, List.append_nil, List.nil_append, List.map_nil, List.map_cons, Bool.and_self, Bool.not_false, beq_self_eq_true, vnext_mk, vpush_mk, vget_nil, cellsIn_mk, vthaw_nil, vwrites_nil, List.getD_cons_zero, List.length_nil, vbin_int, vbin_string, ↓vbox_free, cellsOk_free, cellF, abin_gtr, abin_add, abin_sub, beq_self_eq_true, gt_iff_lt, decide_true, beq_self_eq_true, vld3, vfp23_1, vfp23_2, ↓vcv5, ↓vcv9, ↓vfk62, Tryd.results45, w1, r1, r2, m1, m2, w0, w2, w3, w4, v1, v2, x1, x2, h5, a1, a2, ↓hit]
  · have hcc : colS c = chr1 (65 + (c - 1) % 26) := by unfold colS; rw [if_neg h5]
    rw [hcc] at hcs
    have a2 := fun t x y => ab_sadd2 (P := Tryd.prog) (t := t) (x := x) (y := y) (a := chr1 (65 + (c - 1) % 26)) (b := itoaS r) (by omega) (by omega)
    unfold plS
    rw [hcc]
    simp -dsimp only [↓Hold_5, ↓VWP_seq, ↓VWP_region, ↓VWP_cond, ↓VWP_ret, ↓VWP_skip, ↓VReg_one, ↓VReg_nil, ↓VS_move, ↓VS_assign, ↓VS_load, ↓VS_binOp, ↓VS_fieldAddr, ↓VS_box, ↓With_guard, ↓Hold_1, With_some, emap_nil, ↓eget_eset, ↓ae_tmp, ↓ae_int, ↓ae_string, eget_zero, asBool_bool, ↓vfinish_ret, ↓vres_nil, ↓vres_tmp, vtell_eq, ret1, Option.map_some, Option.bind_some, ↓reduceIte, Nat.reduceEqDiff, Bool.false_eq_true, decide_false, Bool.not_false, List.getElem?_cons_zero, List.getElem?_cons_succ, Nat.zero_add, Nat.add_zero, and_self, List.map_cons, List.map_nil, List.all_cons, List.all_nil, tup_int, tup_str, tup_agg, cel_agg, List.toList_toArray, List.length_nil, mapOwn_string, toksL_nil, toksL_cons, toks_int, toks_string, okv_int, okv_string, List.all_nil, List.all_cons, List.append_nil, List.nil_append, List.map_nil, List.map_cons, Bool.and_self, Bool.not_false, beq_self_eq_true, vnext_mk, vpush_mk, vget_nil, cellsIn_mk, vthaw_nil, vwrites_nil, List.getD_cons_zero, List.length_nil, vbin_int, vbin_string, ↓vbox_free, cellsOk_free, cellF, abin_gtr, abin_add, abin_sub, beq_self_eq_true, gt_iff_lt, decide_false, beq_self_eq_true, vld3, vfp23_1, vfp23_2, ↓vcv5, ↓vcv9, ↓vfk62, Tryd.results45, w1, r1, m1, w2, v1, x1, h5, a2, ↓hit]
theorem decu1 (hX : X 82 = none) (n : Int) (h0 : 0 ≤ n) (h1 : n ≤ 9) : Vp Tryd.prog X 82 [.int .u64 n] (.string (dec3 n)) := by
  have m1 : n.tmod 10 = n := by rw [Int.tmod_eq_emod_of_nonneg h0]; omega
  have r1 := fun t x y => ab_rem3 (P := Tryd.prog) (t := t) (x := x) (y := y) (k := .u64) (a := n) (b := 10) (by omega)
  have w1 : IntKind.u64.wrap (n + 1) = n + 1 := by simp only [IntKind.wrap, IntKind.bits, IntKind.signed]; simp; omega
  have q1 : n ≤ n + 1 := by omega
  have q2 : n + 1 ≤ (digS.size : Int) := by show n + 1 ≤ 10; omega
  have q3 : ¬ 9 < n := by omega
  have e := dig_cut h0 h1
  unfold digS at e q2
  unfold Vp dec3
  rw [if_pos h1]
  refine Vf_text hX Tryd.func82 rfl (by kernel_rfl) (by show 1 ≤ _; decide) ?_
  simp -dsimp only [↓VWP_seq, ↓VWP_region, ↓VWP_cond, ↓VWP_ret, ↓VWP_skip, ↓VReg_one, ↓VReg_nil, ↓VS_move, ↓VS_assign, ↓VS_binOp, ↓VS_slice, ↓With_guard, ↓Hold_1, With_some, emap_nil, ↓eget_eset, ↓ae_tmp, ↓ae_int, ↓ae_string, eget_zero, asBool_bool, ↓vfinish_ret, ↓vres_nil, ↓vres_tmp, vtell_eq, ret1, Option.map_some, Option.bind_some, Option.map_none, ↓reduceIte, Nat.reduceEqDiff, reduceCtorEq, Bool.false_eq_true, decide_false, true_and, and_self, List.toList_toArray, List.length_nil, mapOwn_string, toks_string, okv_string, vthaw_nil, vwrites_nil, List.length_nil, vbin_int, abin_gtr, abin_add, gt_iff_lt, decide_false, abound_some, vsl9, Tryd.results82, r1, m1, w1, q1, q2, q3, h0, e]
end
end Go.Proofs.YtmdpggecelheoaaDoor.Abs
/- How cells are written: small numbers' digits, the reference's place, and the whole. -/
set_option linter.unusedVariables false
set_option linter.unusedSimpArgs false
set_option maxRecDepth 4000
set_option maxHeartbeats 0
namespace Go.Proofs.YtmdpggecelheoaaDoor.Abs
open Go
attribute [local irreducible] Hold VReg Vf Vc VWP With VStp Vcallee Vp VE
section
variable {X : VOuter}
theorem u64_id {n : Int} (h0 : 0 ≤ n) (h1 : n ≤ 1000) : IntKind.u64.wrap n = n := by simp only [IntKind.wrap, IntKind.bits, IntKind.signed]; simp; omega
/-- One digit more. -/
theorem decu_more (hX : X 82 = none) (n : Int) (h0 : 10 ≤ n) (h1 : n ≤ 999) (u : ByteArray) (hu : u.size ≤ 100) (hc : ∀ S K, Vcallee Tryd.prog X 82 [.int .u64 (n / 10)] S K = K (.string u) [] S [] false) : Vp Tryd.prog X 82 [.int .u64 n] (.string (u ++ chr1 (48 + n % 10))) := by
  have m1 : n.tmod 10 = n % 10 := Int.tmod_eq_emod_of_nonneg (by omega)
  have m2 : n.tdiv 10 = n / 10 := Int.tdiv_eq_ediv_of_nonneg (by omega)
  have r1 := fun t x y => ab_rem3 (P := Tryd.prog) (t := t) (x := x) (y := y) (k := .u64) (a := n) (b := 10) (by omega)
  have r2 := fun t x y => ab_quo3 (P := Tryd.prog) (t := t) (x := x) (y := y) (k := .u64) (a := n) (b := 10) (by omega)
  have w1 : IntKind.u64.wrap (n % 10 + 1) = n % 10 + 1 := u64_id (by omega) (by omega)
  have w2 : IntKind.u64.wrap (n / 10) = n / 10 := u64_id (by omega) (by omega)
  have q0 : 0 ≤ n % 10 := by omega
  have q1 : n % 10 ≤ n % 10 + 1 := by omega
  have q2 : n % 10 + 1 ≤ (digS.size : Int) := by show n % 10 + 1 ≤ 10; omega
  have q3 : 9 < n := by omega
  have e := dig_cut (n := n % 10) (by omega) (by omega)
  have a1 := fun t x y => ab_sadd2 (P := Tryd.prog) (t := t) (x := x) (y := y) (a := u) (b := chr1 (48 + n % 10)) (by omega) (by rw [chr1_size]; decide)
  unfold digS at e q2
  unfold Vp
  refine Vf_text hX Tryd.func82 rfl (by kernel_rfl) (by show 1 ≤ _; decide) ?_
  simp -dsimp only [↓Hold_5, ↓VWP_seq, ↓VWP_region, ↓VWP_cond, ↓VWP_ret, ↓VReg_one, ↓VReg_nil, ↓VS_move, ↓VS_assign, ↓VS_binOp, ↓VS_slice, ↓With_guard, ↓Hold_1, With_some, emap_nil, ↓eget_eset, ↓ae_tmp, ↓ae_int, ↓ae_string, eget_zero, asBool_bool, ↓vfinish_ret, ↓vres_nil, ↓vres_tmp, vtell_eq, ret1, Option.map_some, Option.bind_some, Option.map_none, ↓reduceIte, Nat.reduceEqDiff, reduceCtorEq, decide_true, true_and, and_self, List.map_cons, List.map_nil, List.toList_toArray, List.length_nil, mapOwn_string, toks_string, okv_string, List.map_nil, List.map_cons, vthaw_nil, vwrites_nil, List.length_nil, vbin_int, vbin_string, abin_gtr, abin_add, gt_iff_lt, decide_true, abound_some, vsl9, ↓vfk82, Tryd.results82, r1, r2, m1, m2, w1, w2, q0, q1, q2, q3, e, a1, ↓hc]
theorem decu_p (hX : X 82 = none) (n : Int) (h0 : 0 ≤ n) (h1 : n ≤ 999) : Vp Tryd.prog X 82 [.int .u64 n] (.string (dec3 n)) := by
  by_cases a : n ≤ 9
  · exact decu1 hX n h0 a
  · have two : ∀ m : Int, 10 ≤ m → m ≤ 99 → Vp Tryd.prog X 82 [.int .u64 m] (.string (dec3 m)) := fun m b c => by
      have h := decu_more hX m b (by omega) (dec3 (m / 10)) (by have := dec3_size (m / 10); omega) (fun S K => Vcallee_of (decu1 hX (m / 10) (by omega) (by omega)) rfl rfl rfl)
      refine Vp_congr h ?_
      unfold dec3
      rw [if_pos (show m / 10 ≤ 9 by omega), if_neg (show ¬ m ≤ 9 by omega), if_pos c]
    by_cases b : n ≤ 99
    · exact two n (by omega) b
    · have h := decu_more hX n (by omega) h1 (dec3 (n / 10)) (by have := dec3_size (n / 10); omega) (fun S K => Vcallee_of (two (n / 10) (by omega) (by omega)) rfl rfl rfl)
      refine Vp_congr h ?_
      unfold dec3
      rw [if_neg (show ¬ n / 10 ≤ 9 by omega), if_pos (show n / 10 ≤ 99 by omega), if_neg a, if_neg b]
theorem rdec_c (hX : X 63 = none) (hX1 : X 82 = none) (n : Int) (h0 : 0 ≤ n) (h1 : n ≤ 999) {S : VH} {K : VCont} : Vcallee Tryd.prog X 63 [.int .i64 n] S K = K (.string (itoaS n)) [] S [] false := by
  refine Vcallee_of ?_ rfl rfl rfl
  have q : ¬ n < 0 := by omega
  have v := vconv_u64 h0 (by omega : n ≤ 1000)
  have hc := fun S K => Vcallee_of (S := S) (K := K) (args := [.int .u64 n]) (decu_p hX1 n h0 h1) rfl rfl rfl
  rw [dec_itoa h0 h1] at hc
  unfold Vp
  refine Vf_text hX Tryd.func63 rfl (by kernel_rfl) (by show 1 ≤ _; decide) ?_
  simp -dsimp only [↓Hold_5, ↓VWP_seq, ↓VWP_region, ↓VWP_cond, ↓VWP_ret, ↓VWP_skip, ↓VReg_one, ↓VReg_nil, ↓VS_move, ↓VS_assign, ↓VS_binOp, ↓With_guard, ↓Hold_1, With_some, emap_nil, ↓eget_eset, ↓ae_tmp, ↓ae_int, ↓ae_string, eget_zero, asBool_bool, ↓vfinish_ret, ↓vres_nil, ↓vres_tmp, vtell_eq, ret1, Option.map_some, Option.bind_some, ↓reduceIte, reduceCtorEq, Bool.false_eq_true, decide_false, and_self, List.map_cons, List.map_nil, List.toList_toArray, List.length_nil, mapOwn_int, mapOwn_string, mapOwnL_nil, mapOwnL_cons, toks_string, okv_string, List.map_nil, List.map_cons, vthaw_nil, vwrites_nil, List.length_nil, vbin_int, abin_lss, decide_false, ↓vcv110, ↓vfk82, Tryd.results63, q, v, ↓hc]
theorem rplace_p (hX : X 46 = none) (hX1 : X 63 = none) (hX2 : X 82 = none) (s : ByteArray) (c r : Int) (hc : placeF c r = true) : Vp Tryd.prog X 46 [.agg ⟨[.string s, .int .i64 c, .int .i64 r]⟩] (.string (plS c r)) := by
  simp only [placeF, Bool.and_eq_true, decide_eq_true_eq] at hc
  obtain ⟨⟨⟨h1, h2⟩, h3⟩, h4⟩ := hc
  have w1 : IntKind.i64.wrap (c - 1) = c - 1 := wrap_id (by omega) (by omega)
  have m1 : (c - 1).tmod 26 = (c - 1) % 26 := Int.tmod_eq_emod_of_nonneg (by omega)
  have m2 : (c - 1).tdiv 26 = (c - 1) / 26 := Int.tdiv_eq_ediv_of_nonneg (by omega)
  have w2 : IntKind.i64.wrap ((c - 1) % 26 + 1) = (c - 1) % 26 + 1 := wrap_id (by omega) (by omega)
  have w0 : IntKind.i64.wrap ((c - 1) / 26) = (c - 1) / 26 := wrap_id (by omega) (by omega)
  have w3 : IntKind.i64.wrap ((c - 1) / 26 - 1) = (c - 1) / 26 - 1 := wrap_id (by omega) (by omega)
  have r1 := fun t x y => ab_rem3 (P := Tryd.prog) (t := t) (x := x) (y := y) (k := .i64) (a := c - 1) (b := 26) (by omega)
  have r2 := fun t x y => ab_quo3 (P := Tryd.prog) (t := t) (x := x) (y := y) (k := .i64) (a := c - 1) (b := 26) (by omega)
  have hsz : (itoaS r).size ≤ 3 := by rw [← dec_itoa (by omega) h4]; exact dec3_size r
  have hcs := colS_size c
  have q0 : 0 ≤ (c - 1) % 26 := by omega
  have q1 : (c - 1) % 26 ≤ (c - 1) % 26 + 1 := by omega
  have q2 : (c - 1) % 26 + 1 ≤ (azS.size : Int) := by show (c - 1) % 26 + 1 ≤ 26; omega
  have e1 := az_cut (n := (c - 1) % 26) (by omega) (by omega)
  have hd := fun S K => rdec_c hX1 hX2 r (by omega) h4 (S := S) (K := K)
  unfold Vp
  refine Vf_text hX Tryd.func46 rfl (by kernel_rfl) (by show 1 ≤ _; decide) ?_
  by_cases h5 : 26 < c
  · have h6 : 26 ≤ c - 1 := by omega
    have q3 : 0 ≤ (c - 1) / 26 - 1 := by omega
    have q4 : (c - 1) / 26 - 1 ≤ (c - 1) / 26 := by omega
    have q5 : (c - 1) / 26 ≤ (azS.size : Int) := by show (c - 1) / 26 ≤ 26; omega
    have e2 := az_cut (n := (c - 1) / 26 - 1) (by omega) (by omega)
    rw [show (c - 1) / 26 - 1 + 1 = (c - 1) / 26 by omega, show 65 + ((c - 1) / 26 - 1) = 64 + (c - 1) / 26 by omega] at e2
    have hcc : colS c = chr1 (64 + (c - 1) / 26) ++ chr1 (65 + (c - 1) % 26) := by unfold colS; rw [if_pos h5]
    rw [hcc] at hcs
    have a1 := fun t x y => ab_sadd2 (P := Tryd.prog) (t := t) (x := x) (y := y) (a := chr1 (64 + (c - 1) / 26)) (b := chr1 (65 + (c - 1) % 26)) (by rw [chr1_size]; decide) (by rw [chr1_size]; decide)
    have a2 := fun t x y => ab_sadd2 (P := Tryd.prog) (t := t) (x := x) (y := y) (a := chr1 (64 + (c - 1) / 26) ++ chr1 (65 + (c - 1) % 26)) (b := itoaS r) (by omega) (by omega)
    unfold plS
    rw [hcc]
    unfold azS at e1 e2 q2 q5
    simp -dsimp only [↓Hold_5, ↓VWP_seq, ↓VWP_region, ↓VWP_cond, ↓VWP_ret, ↓VReg_one, ↓VReg_nil, ↓VS_move, ↓VS_assign, ↓VS_load, ↓VS_binOp, ↓VS_slice, ↓VS_fieldAddr, ↓VS_box, ↓With_guard, ↓Hold_1, With_some, emap_nil, ↓eget_eset, ↓ae_tmp, ↓ae_int, ↓ae_string, eget_zero, asBool_bool, ↓vfinish_ret, ↓vres_nil, ↓vres_tmp, vtell_eq, ret1, Option.map_some, Option.bind_some, Option.map_none, ↓reduceIte, Nat.reduceEqDiff, decide_true, Bool.not_false, List.getElem?_cons_zero, List.getElem?_cons_succ, Nat.zero_add, Nat.add_zero, true_and, and_self, List.map_cons, List.map_nil, List.all_cons, List.all_nil, tup_int, tup_str, tup_agg, cel_agg, List.toList_toArray, List.length_nil, mapOwn_string, toksL_nil, toksL_cons, toks_int, toks_string, okv_int, okv_string, List.all_nil, List.all_cons, List.append_nil, List.nil_append, List.map_nil, List.map_cons, Bool.and_self, Bool.not_false, beq_self_eq_true, vnext_mk, vpush_mk, vget_nil, cellsIn_mk, vthaw_nil, vwrites_nil, List.getD_cons_zero, List.length_nil, vbin_int, vbin_string, ↓vbox_free, cellsOk_free, cellF, abin_geq, abin_add, abin_sub, beq_self_eq_true, ge_iff_le, decide_true, beq_self_eq_true, abound_some, vld3, vfp23_1, vfp23_2, vsl9, ↓vfk63, Tryd.results46, w1, r1, r2, m1, m2, w0, w2, w3, q0, q1, q2, q3, q4, q5, e1, e2, h6, a1, a2, ↓hd]
  · have h6 : ¬ 26 ≤ c - 1 := by omega
    have hcc : colS c = chr1 (65 + (c - 1) % 26) := by unfold colS; rw [if_neg h5]
    rw [hcc] at hcs
    have a2 := fun t x y => ab_sadd2 (P := Tryd.prog) (t := t) (x := x) (y := y) (a := chr1 (65 + (c - 1) % 26)) (b := itoaS r) (by omega) (by omega)
    unfold plS
    rw [hcc]
    unfold azS at e1 q2
    simp -dsimp only [↓Hold_5, ↓VWP_seq, ↓VWP_region, ↓VWP_cond, ↓VWP_ret, ↓VWP_skip, ↓VReg_one, ↓VReg_nil, ↓VS_move, ↓VS_assign, ↓VS_load, ↓VS_binOp, ↓VS_slice, ↓VS_fieldAddr, ↓VS_box, ↓With_guard, ↓Hold_1, With_some, emap_nil, ↓eget_eset, ↓ae_tmp, ↓ae_int, ↓ae_string, eget_zero, asBool_bool, ↓vfinish_ret, ↓vres_nil, ↓vres_tmp, vtell_eq, ret1, Option.map_some, Option.bind_some, Option.map_none, ↓reduceIte, Nat.reduceEqDiff, Bool.false_eq_true, decide_false, Bool.not_false, List.getElem?_cons_zero, List.getElem?_cons_succ, Nat.zero_add, Nat.add_zero, true_and, and_self, List.map_cons, List.map_nil, List.all_cons, List.all_nil, tup_int, tup_str, tup_agg, cel_agg, List.toList_toArray, List.length_nil, mapOwn_string, toksL_nil, toksL_cons, toks_int, toks_string, okv_int, okv_string, List.all_nil, List.all_cons, List.append_nil, List.nil_append, List.map_nil, List.map_cons, Bool.and_self, Bool.not_false, beq_self_eq_true, vnext_mk, vpush_mk, vget_nil, cellsIn_mk, vthaw_nil, vwrites_nil, List.getD_cons_zero, List.length_nil, vbin_int, vbin_string, ↓vbox_free, cellsOk_free, cellF, abin_geq, abin_add, abin_sub, beq_self_eq_true, ge_iff_le, decide_false, beq_self_eq_true, abound_some, vld3, vfp23_1, vfp23_2, vsl9, ↓vfk63, Tryd.results46, w1, r1, m1, w2, q0, q1, q2, e1, h6, a2, ↓hd]
/-- A cell as text. -/
def showS (s : ByteArray) (c r : Int) : ByteArray := if celF s c r then (s ++ ⟨#[33]⟩) ++ plS c r else ⟨#[]⟩
theorem celF_parts {s : ByteArray} {c r : Int} (h : celF s c r = true) : s.size ≤ 8 ∧ placeF c r = true := by
  simp only [celF, nameF, Bool.and_eq_true, decide_eq_true_eq] at h
  exact ⟨by omega, h.2⟩
theorem plS_size {c r : Int} (h : placeF c r = true) : (plS c r).size ≤ 5 := by
  simp only [placeF, Bool.and_eq_true, decide_eq_true_eq] at h
  have h1 := colS_size c
  have h2 : (itoaS r).size ≤ 3 := by rw [← dec_itoa (by omega) h.2]; exact dec3_size r
  unfold plS
  rw [ByteArray.size_append]
  omega
theorem cshow_p (h : NOff X) (hX : X 21 = none) (hX1 : X 45 = none) (s : ByteArray) (c r : Int) (hit : placeF c r = true → ∀ S K, Vcallee Tryd.prog X 62 [.int .i64 r] S K = K (.string (itoaS r)) [] S [] false) : Vp Tryd.prog X 21 [.agg ⟨[.string s, .int .i64 c, .int .i64 r]⟩] (.string (showS s c r)) := by
  unfold Vp
  refine Vf_text hX Tryd.func21 rfl (by kernel_rfl) (by show 1 ≤ _; decide) ?_
  cases h1 : celF s c r
  · simp -dsimp only [↓Hold_5, ↓VWP_seq, ↓VWP_region, ↓VWP_cond, ↓VWP_ret, ↓VReg_one, ↓VReg_nil, ↓VS_assign, ↓VS_load, ↓VS_unOp, ↓VS_box, ↓With_guard, ↓Hold_1, With_some, emap_nil, ↓eget_eset, ↓ae_tmp, ↓ae_string, eget_zero, lop_not, asBool_bool, ↓vfinish_ret, ↓vres_nil, ↓vres_tmp, vtell_eq, ret1, Option.map_some, Option.bind_some, ↓reduceIte, Nat.reduceEqDiff, Bool.not_false, Nat.zero_add, Nat.add_zero, Nat.reduceAdd, Nat.reduceLeDiff, true_and, List.map_cons, List.map_nil, List.all_cons, List.all_nil, tup_int, tup_str, tup_agg, cel_agg, List.drop_zero, List.toList_toArray, List.length_cons, List.length_nil, mapOwn_string, toksL_nil, toksL_cons, toks_int, toks_string, okv_int, okv_string, List.all_nil, List.all_cons, List.append_nil, List.nil_append, List.map_nil, List.map_cons, Bool.and_self, Bool.not_false, beq_self_eq_true, vnext_mk, vpush_mk, vget_nil, cellsIn_mk, vthaw_nil, vwrites_nil, List.getD_cons_zero, List.length_cons, List.length_nil, List.drop_zero, List.take_succ_cons, List.take_zero, ↓vbox_free, cellsOk_free, cellF, beq_self_eq_true, beq_self_eq_true, vld23, ↓vfk17, Tryd.results21, ↓right_c h.right h.place h.name, h1]
    simp [showS, h1]
  · obtain ⟨p1, p2⟩ := celF_parts h1
    have hw := fun S K => Vcallee_of (S := S) (K := K) (args := [.agg ⟨[.string s, .int .i64 c, .int .i64 r]⟩]) (wplace_p hX1 s c r p2 (hit p2)) rfl rfl rfl
    have hps := plS_size p2
    have a1 := fun t x y => ab_sadd2 (P := Tryd.prog) (t := t) (x := x) (y := y) (a := s) (b := ⟨#[33]⟩) (by omega) (by decide)
    have a2 := fun t x y => ab_sadd2 (P := Tryd.prog) (t := t) (x := x) (y := y) (a := s ++ ⟨#[33]⟩) (b := plS c r) (by rw [ByteArray.size_append]; show s.size + 1 ≤ 1000; omega) (by omega)
    simp -dsimp only [↓Hold_5, ↓VWP_seq, ↓VWP_region, ↓VWP_cond, ↓VWP_skip, ↓VWP_open, ↓VReg_one, ↓VReg_nil, ↓VS_assign, ↓VS_load, ↓VS_unOp, ↓VS_box, ↓Hold_1, With_some, emap_nil, ↓eget_eset, ↓ae_tmp, ↓ae_string, eget_zero, lop_not, asBool_bool, ↓reduceIte, Nat.reduceEqDiff, Bool.false_eq_true, Bool.not_true, Bool.not_false, Nat.zero_add, Nat.add_zero, Nat.reduceAdd, Nat.reduceLeDiff, true_and, List.map_cons, List.map_nil, List.all_cons, List.all_nil, tup_int, tup_str, tup_agg, cel_agg, List.drop_zero, List.toList_toArray, List.length_cons, List.length_nil, toksL_nil, toksL_cons, toks_int, toks_string, okv_int, okv_string, List.all_nil, List.all_cons, List.append_nil, List.nil_append, List.map_nil, List.map_cons, Bool.and_self, Bool.not_true, Bool.not_false, beq_self_eq_true, vnext_mk, vpush_mk, vget_nil, cellsIn_mk, List.getD_cons_zero, List.length_cons, List.length_nil, List.drop_zero, List.take_succ_cons, List.take_zero, ↓vbox_free, cellsOk_free, cellF, beq_self_eq_true, beq_self_eq_true, vld23, ↓vfk17, ↓right_c h.right h.place h.name, h1]
    refine Vc_open [[], [1], [], [], [], [], []] false (by kernel_rfl) (by kernel_rfl) (by kernel_rfl) ?_
    simp -dsimp only [↓Hold_5, ↓VWP_ret, ↓VS_assign, ↓VS_load, ↓VS_binOp, ↓VS_fieldAddr, ↓With_guard, ↓Hold_1, ↓Hold_3, With_some, emap_nil, ↓eget_eset, ↓ae_tmp, ↓ae_string, eget_succ, eget_nil, light, ↓vfinish_ret, ↓vres_nil, ↓vres_tmp, vtell_eq, ret1, Option.map_some, Option.bind_some, ↓reduceIte, Nat.reduceEqDiff, Bool.false_eq_true, decide_true, List.getElem?_cons_zero, Nat.zero_add, Nat.add_zero, Nat.reduceAdd, Nat.reduceLeDiff, true_and, List.map_cons, List.map_nil, List.all_cons, List.all_nil, Bool.and_true, List.drop_zero, List.toList_toArray, List.length_cons, List.length_nil, mapOwn_string, toks_string, okv_string, List.all_nil, List.all_cons, List.append_nil, List.nil_append, List.map_nil, List.map_cons, Bool.and_true, Bool.false_and, Bool.and_self, vget_nil, cellsIn_mk, vthaw_nil, vwrites_nil, List.getD_cons_zero, List.length_cons, List.length_nil, List.drop_zero, List.take_succ_cons, List.take_zero, vbin_string, decide_true, ↓VE_nil, ↓VE_one0, ↓VE_one1, ↓shade_off, shade_load, ↓vobl_load, dep_box, depStep_box, vspan, List.range_succ, List.range_zero, Bool.or_true, Nat.min_def, Nat.max_def, List.reverse_cons, List.reverse_nil, vld23, vld9, vfp23_0, ↓vfk45, Tryd.results21, ↓hw, a1, a2]
    simp [showS, h1]
theorem rshow_p (h : ROff X) (hX : X 22 = none) (hX1 : X 46 = none) (hX2 : X 63 = none) (hX3 : X 82 = none) (s : ByteArray) (c r : Int) : Vp Tryd.prog X 22 [.agg ⟨[.string s, .int .i64 c, .int .i64 r]⟩] (.string (showS s c r)) := by
  unfold Vp
  refine Vf_text hX Tryd.func22 rfl (by kernel_rfl) (by show 1 ≤ _; decide) ?_
  cases h1 : celF s c r
  · simp -dsimp only [↓Hold_5, ↓VWP_seq, ↓VWP_region, ↓VWP_cond, ↓VWP_ret, ↓VReg_one, ↓VReg_nil, ↓VS_assign, ↓VS_load, ↓VS_unOp, ↓VS_box, ↓With_guard, ↓Hold_1, With_some, emap_nil, ↓eget_eset, ↓ae_tmp, ↓ae_string, eget_zero, lop_not, asBool_bool, ↓vfinish_ret, ↓vres_nil, ↓vres_tmp, vtell_eq, ret1, Option.map_some, Option.bind_some, ↓reduceIte, Nat.reduceEqDiff, Bool.not_false, Nat.zero_add, Nat.add_zero, Nat.reduceAdd, Nat.reduceLeDiff, true_and, List.map_cons, List.map_nil, List.all_cons, List.all_nil, tup_int, tup_str, tup_agg, cel_agg, List.drop_zero, List.toList_toArray, List.length_cons, List.length_nil, mapOwn_string, toksL_nil, toksL_cons, toks_int, toks_string, okv_int, okv_string, List.all_nil, List.all_cons, List.append_nil, List.nil_append, List.map_nil, List.map_cons, Bool.and_self, Bool.not_false, beq_self_eq_true, vnext_mk, vpush_mk, vget_nil, cellsIn_mk, vthaw_nil, vwrites_nil, List.getD_cons_zero, List.length_cons, List.length_nil, List.drop_zero, List.take_succ_cons, List.take_zero, ↓vbox_free, cellsOk_free, cellF, beq_self_eq_true, beq_self_eq_true, vld23, ↓vfk18, Tryd.results22, ↓rr_c h, h1]
    simp [showS, h1]
  · obtain ⟨p1, p2⟩ := celF_parts h1
    have hw := fun S K => Vcallee_of (S := S) (K := K) (args := [.agg ⟨[.string s, .int .i64 c, .int .i64 r]⟩]) (rplace_p hX1 hX2 hX3 s c r p2) rfl rfl rfl
    have hps := plS_size p2
    have a1 := fun t x y => ab_sadd2 (P := Tryd.prog) (t := t) (x := x) (y := y) (a := s) (b := ⟨#[33]⟩) (by omega) (by decide)
    have a2 := fun t x y => ab_sadd2 (P := Tryd.prog) (t := t) (x := x) (y := y) (a := s ++ ⟨#[33]⟩) (b := plS c r) (by rw [ByteArray.size_append]; show s.size + 1 ≤ 1000; omega) (by omega)
    simp -dsimp only [↓Hold_5, ↓VWP_seq, ↓VWP_region, ↓VWP_cond, ↓VWP_skip, ↓VWP_open, ↓VReg_one, ↓VReg_nil, ↓VS_assign, ↓VS_load, ↓VS_unOp, ↓VS_box, ↓Hold_1, With_some, emap_nil, ↓eget_eset, ↓ae_tmp, ↓ae_string, eget_zero, lop_not, asBool_bool, ↓reduceIte, Nat.reduceEqDiff, Bool.false_eq_true, Bool.not_true, Bool.not_false, Nat.zero_add, Nat.add_zero, Nat.reduceAdd, Nat.reduceLeDiff, true_and, List.map_cons, List.map_nil, List.all_cons, List.all_nil, tup_int, tup_str, tup_agg, cel_agg, List.drop_zero, List.toList_toArray, List.length_cons, List.length_nil, toksL_nil, toksL_cons, toks_int, toks_string, okv_int, okv_string, List.all_nil, List.all_cons, List.append_nil, List.nil_append, List.map_nil, List.map_cons, Bool.and_self, Bool.not_true, Bool.not_false, beq_self_eq_true, vnext_mk, vpush_mk, vget_nil, cellsIn_mk, List.getD_cons_zero, List.length_cons, List.length_nil, List.drop_zero, List.take_succ_cons, List.take_zero, ↓vbox_free, cellsOk_free, cellF, beq_self_eq_true, beq_self_eq_true, vld23, ↓vfk18, ↓rr_c h, h1]
    refine Vc_open [[], [1], [], [], [], [], []] false (by kernel_rfl) (by kernel_rfl) (by kernel_rfl) ?_
    simp -dsimp only [↓Hold_5, ↓VWP_ret, ↓VS_assign, ↓VS_load, ↓VS_binOp, ↓VS_fieldAddr, ↓With_guard, ↓Hold_1, ↓Hold_3, With_some, emap_nil, ↓eget_eset, ↓ae_tmp, ↓ae_string, eget_succ, eget_nil, light, ↓vfinish_ret, ↓vres_nil, ↓vres_tmp, vtell_eq, ret1, Option.map_some, Option.bind_some, ↓reduceIte, Nat.reduceEqDiff, Bool.false_eq_true, decide_true, List.getElem?_cons_zero, Nat.zero_add, Nat.add_zero, Nat.reduceAdd, Nat.reduceLeDiff, true_and, List.map_cons, List.map_nil, List.all_cons, List.all_nil, Bool.and_true, List.drop_zero, List.toList_toArray, List.length_cons, List.length_nil, mapOwn_string, toks_string, okv_string, List.all_nil, List.all_cons, List.append_nil, List.nil_append, List.map_nil, List.map_cons, Bool.and_true, Bool.false_and, Bool.and_self, vget_nil, cellsIn_mk, vthaw_nil, vwrites_nil, List.getD_cons_zero, List.length_cons, List.length_nil, List.drop_zero, List.take_succ_cons, List.take_zero, vbin_string, decide_true, ↓VE_nil, ↓VE_one0, ↓VE_one1, ↓shade_off, shade_load, ↓vobl_load, dep_box, depStep_box, vspan, List.range_succ, List.range_zero, Bool.or_true, Nat.min_def, Nat.max_def, List.reverse_cons, List.reverse_nil, vld23, vld9, vfp23_0, ↓vfk46, Tryd.results22, ↓hw, a1, a2]
    simp [showS, h1]
end
end Go.Proofs.YtmdpggecelheoaaDoor.Abs
/- A column and a row are read. -/
set_option linter.unusedVariables false
set_option linter.unusedSimpArgs false
set_option maxRecDepth 4000
set_option maxHeartbeats 0
namespace Go.Proofs.YtmdpggecelheoaaDoor.Abs
open Go
attribute [local irreducible] Hold VReg Vf Vc VWP With VStp Vcallee Vp VE
def greatB (n : Int) : Bool := decide (65 ≤ n) && decide (n ≤ 90)
/-- What Atoi tells: a number, or none. -/
def atoiN (s : ByteArray) : Option Int := match Lib.atoiAll s.data.toList with
  | .ok v => some v
  | _ => none
def tryPl (t : ByteArray) (n : Nat) (col : Int) : Option (Int × Int) := match atoiN (t.extract n t.size) with
  | some v => if placeF col v = true ∧ plS col v = t then some (col, v) else none
  | none => none
def atF (t : ByteArray) : Option (Int × Int) := match t[0]? with
  | some a => if greatB a.toNat then (match t[1]? with
      | some b => if greatB b.toNat then tryPl t 2 (((a.toNat : Int) - 64) * 26 + ((b.toNat : Int) - 64)) else tryPl t 1 ((a.toNat : Int) - 64)
      | none => tryPl t 1 ((a.toNat : Int) - 64)) else none
  | none => none
def tripF : Option (Int × Int) → Value
  | some (c, r) => .tuple ⟨[.int .i64 c, .int .i64 r, .bool true]⟩
  | none => .tuple ⟨[.int .i64 0, .int .i64 0, .bool false]⟩
end Go.Proofs.YtmdpggecelheoaaDoor.Abs
/- A column and a row are read: the walk. -/
set_option linter.unusedVariables false
set_option linter.unusedSimpArgs false
set_option maxRecDepth 4000
set_option maxHeartbeats 0
namespace Go.Proofs.YtmdpggecelheoaaDoor.Abs
open Go
attribute [local irreducible] Hold VReg Vf Vc VWP With VStp Vcallee Vp VE
theorem ae_nili {e : Env} : aeval e (.const .nilIface) = .nilIface := _root_.id rfl
theorem nil_nil (i : Nat) : vbin Tryd.prog .neq 91 (.tmp i) (.const .nilIface) .nilIface .nilIface = some (.bool false) := by kernel_rfl
theorem err_ms : ∃ ms, Tryd.prog.underlying 91 = some (.interface ms) := ⟨_, Tryd.underlying91⟩
theorem vconv_int {n : Int} (h0 : 0 ≤ n) (h1 : n ≤ 255) : vconv Tryd.prog 5 3 (.int .u8 n) = some (.int .i64 n) := by
  have e : vconv Tryd.prog 5 3 (.int .u8 n) = some (.int .i64 (IntKind.i64.wrap n)) := by kernel_rfl
  rw [e, wrap_id (by omega) (by omega)]
/-- Atoi's answer. -/
def atoiV (T : TypeId) (w : ByteArray → Int) (s : ByteArray) : Value := match atoiN s with
  | some v => .tuple ⟨[.int .i64 v, .nilIface]⟩
  | none => .tuple ⟨[.int .i64 (w s), .iface T undef]⟩
def leadP (t : ByteArray) (n : Nat) (col : Int) : Prop := (n = 0 ∧ col = 0) ∨ (n = 1 ∧ ∃ a, t[0]? = some a ∧ greatB a.toNat = true ∧ col = (a.toNat : Int) - 64) ∨ (n = 2 ∧ ∃ a b, t[0]? = some a ∧ greatB a.toNat = true ∧ t[1]? = some b ∧ greatB b.toNat = true ∧ col = ((a.toNat : Int) - 64) * 26 + ((b.toNat : Int) - 64))
/-- What is read when no more letters follow. -/
theorem atF_end {t : ByteArray} {n : Nat} {col : Int} (h : leadP t n col) (hend : n = 2 ∨ (∀ b, t[n]? = some b → greatB b.toNat = false)) : atF t = if n = 0 then none else tryPl t n col := by
  unfold atF
  rcases h with ⟨rfl, rfl⟩ | ⟨rfl, a, ha, hg, rfl⟩ | ⟨rfl, a, b, ha, hg, hb, hg2, rfl⟩
  · rw [if_pos rfl]
    have hend := hend.resolve_left (by decide)
    cases h0 : t[0]? with
    | none => rfl
    | some a => simp [hend a h0]
  · rw [ha, if_neg (by decide)]
    have hend := hend.resolve_left (by decide)
    simp only [hg, if_true]
    cases h1 : t[1]? with
    | none => rfl
    | some b => simp [hend b h1]
  · rw [ha, hb, if_neg (by decide)]
    simp [hg, hg2]
theorem leadP_col {t : ByteArray} {n : Nat} {col : Int} (h : leadP t n col) : 0 ≤ col ∧ col ≤ 702 ∧ (n = 0 → col = 0) := by
  rcases h with ⟨rfl, rfl⟩ | ⟨rfl, a, ha, hg, rfl⟩ | ⟨rfl, a, b, ha, hg, hb, hg2, rfl⟩
  · exact ⟨by decide, by decide, fun _ => rfl⟩
  · simp only [greatB, Bool.and_eq_true, decide_eq_true_eq] at hg
    exact ⟨by omega, by omega, fun h => by cases h⟩
  · simp only [greatB, Bool.and_eq_true, decide_eq_true_eq] at hg hg2
    exact ⟨by omega, by omega, fun h => by cases h⟩
section
variable {X : VOuter}
theorem at_p (hX : X 40 = none) (hX1 : X 42 = none) (hX2 : X 45 = none) (T : TypeId) (w : ByteArray → Int)
    (hit : ∀ r, 1 ≤ r → r ≤ 999 → ∀ S K, Vcallee Tryd.prog X 62 [.int .i64 r] S K = K (.string (itoaS r)) [] S [] false)
    (hat : ∀ s : ByteArray, s.size ≤ 1000 → ∀ S K, Vcallee Tryd.prog X 60 [.string s] S K = K (atoiV T w s) [] S [] false)
    (t : ByteArray) (ht : t.size ≤ 1000) : Vp Tryd.prog X 40 [.string t] (tripF (atF t)) := by
  unfold Vp
  refine Vf_text hX Tryd.func40 rfl (by kernel_rfl) (by show 1 ≤ _; decide) ?_
  simp -dsimp only [↓VWP_seq, ↓VWP_region, ↓VWP_block, ↓VWP_loop, ↓VReg_one, ↓VReg_non, ↓VReg_nil, ↓VS_assign, ↓VS_build, ↓VS_store, ↓Hold_1, With_some, emap_nil, ↓eget_eset, ↓ae_tmp, ↓ae_int, ↓ae_bool, Option.map_some, ↓reduceIte, Nat.reduceEqDiff, Bool.not_false, Nat.zero_add, Nat.add_zero, Nat.reduceAdd, Nat.reduceLeDiff, true_and, List.map_nil, List.all_cons, List.all_nil, tup_int, tup_str, tup_agg, cel_agg, List.toList_toArray, List.size_toArray, List.length_cons, List.length_nil, toksL_nil, toksL_cons, toks_int, toks_string, okv_int, okv_string, List.all_nil, List.all_cons, List.append_nil, List.nil_append, List.map_nil, Bool.and_self, Bool.not_false, beq_self_eq_true, vnext_mk, vpush_mk, vget_nil, vput_nil, cellsIn_mk, List.getD_cons_zero, List.set_cons_zero, List.set_cons_succ, List.length_cons, List.length_nil, ↓vlay_free, cellsOk_free, cellF, beq_self_eq_true, beq_self_eq_true, afill, setAll, vst23, ↓val23, bd23]
  refine Vc_loop (fun m e S => ∃ (n : Nat) (col : Int), m = 2 - n ∧ n ≤ 2 ∧ n ≤ t.size ∧ leadP t n col ∧ eget e 0 = .string t ∧ eget e 5 = .pointer (some { block := 0, off := 0 }) ∧ eget e 6 = .int .i64 n ∧ S = ⟨[], [.cells true 23 [.string .empty, .int .i64 col, .int .i64 0]], []⟩) 2 ?_ ?_
  · refine ⟨0, 0, rfl, by omega, Nat.zero_le _, .inl ⟨rfl, rfl⟩, ?_, ?_, ?_, ?_⟩ <;> first | (simp only [↓eget_eset, eget_zero, ↓reduceIte, Nat.reduceEqDiff, reduceCtorEq]; done) | (simp only [↓eget_eset, ↓reduceIte]; rfl) | rfl
  · rintro m e S ⟨n, col, rfl, hn, hnt, hl, e0, e5, e6, rfl⟩
    refine VWP_Vc _ _ _ _ ?_
    obtain ⟨c0, c1, c2⟩ := leadP_col hl
    have h0 : (0 : Int) ≤ n := by omega
    have wn : IntKind.i64.wrap ((n : Int) + 1) = (n : Int) + 1 := wrap_id (by omega) (by omega)
    have hsz : (t.extract n t.size).size ≤ 1000 := by rw [ByteArray.size_extract]; omega
    have hns : (n : Int) ≤ t.size := by omega
    obtain ⟨ms, hms⟩ := err_ms
    by_cases hs : n < t.size
    · have hs' : (n : Int) < t.size := by omega
      obtain ⟨b, hb⟩ := ba_get hs
      by_cases h2 : (n : Int) < 2
      · by_cases g1 : 65 ≤ (b.toNat : Int)
        · by_cases g2 : (b.toNat : Int) ≤ 90
          · have u1 : IntKind.u8.wrap ((b.toNat : Int) - 65) = (b.toNat : Int) - 65 := by simp only [IntKind.wrap, IntKind.bits, IntKind.signed]; simp; omega
            have v1 := vconv_int (n := (b.toNat : Int) - 65) (by omega) (by omega)
            have x1 : IntKind.i64.wrap (col * 26) = col * 26 := wrap_id (by omega) (by omega)
            have x2 : IntKind.i64.wrap (col * 26 + ((b.toNat : Int) - 65)) = col * 26 + ((b.toNat : Int) - 65) := wrap_id (by omega) (by omega)
            have x3 : IntKind.i64.wrap (col * 26 + ((b.toNat : Int) - 65) + 1) = col * 26 + ((b.toNat : Int) - 65) + 1 := wrap_id (by omega) (by omega)
            simp -dsimp only [↓VWP_seq, ↓VWP_region, ↓VWP_cond, ↓VWP_skip, ↓VWP_block, ↓VWP_open, ↓VReg_one, ↓VReg_nil, ↓VS_guard, ↓VS_move, ↓VS_pick, ↓VS_binOp, ↓VS_index, ↓VS_len, ↓Hold_1, With_some, emap_nil, ↓eget_eset, ↓ae_tmp, ↓ae_int, lop_pick, asBool_bool, asGuard_bool, ayielded_eq, ↓dstAt_zero, ↓dstAt_succ, Option.map_some, Option.bind_some, ↓reduceIte, Nat.reduceEqDiff, reduceCtorEq, decide_true, beq_self_eq_true, vbin_int, abin_lss, abin_leq, abin_geq, beq_self_eq_true, Int.toNat_natCast, ge_iff_le, decide_true, beq_self_eq_true, ix9, vlr9, e0, e6, hs', h2, h0, hb, g1, g2]
            refine Vc_open [[], [], [], [], [], [], [], [], [], [], [], []] false (by kernel_rfl) (by kernel_rfl) (by kernel_rfl) ?_
            simp -dsimp only [↓VWP_region, ↓VReg_one, ↓VReg_nil, ↓VS_move, ↓VS_assign, ↓VS_load, ↓VS_binOp, ↓VS_fieldAddr, ↓VS_index, ↓VS_store, ↓Hold_1, ↓Hold_3, With_some, emap_nil, ↓eget_eset, ↓ae_tmp, ↓ae_int, light, Option.map_some, ↓reduceIte, Nat.reduceEqDiff, reduceCtorEq, Bool.false_eq_true, decide_false, Bool.not_false, List.getElem?_cons_zero, List.getElem?_cons_succ, Nat.zero_add, Nat.reduceAdd, Nat.reduceLT, Nat.reduceLeDiff, true_and, and_self, List.all_cons, List.all_nil, tup_int, cel_int, List.toList_toArray, List.size_toArray, List.length_cons, List.length_nil, toksL_nil, toksL_cons, toks_int, okv_int, List.all_nil, List.all_cons, List.append_nil, Bool.and_self, Bool.not_false, beq_self_eq_true, vnext_mk, vget_nil, vput_nil, cellsIn_mk, List.getD_cons_zero, List.set_cons_zero, List.set_cons_succ, List.length_cons, List.length_nil, vbin_int, ↓vlay_free, cellsOk_free, cellF, abin_add, abin_sub, abin_mul, beq_self_eq_true, Int.toNat_natCast, decide_false, beq_self_eq_true, setAll, ↓VE_nil, ↓VE_one0, ↓VE_non0, List.reverse_cons, vld3, vst3, vfp23_1, ix9, ↓vcv3, e0, e5, e6, h0, hb, u1, v1, x1, x2, x3, wn]
            refine ⟨2 - (n + 1), by omega, n + 1, col * 26 + ((b.toNat : Int) - 65) + 1, rfl, by omega, by omega, ?_, by rw [Int.natCast_add]; rfl, rfl⟩
            have hg : greatB b.toNat = true := by simp [greatB, g1, g2]
            rcases hl with ⟨rfl, rfl⟩ | ⟨rfl, a, ha, hga, rfl⟩ | ⟨rfl, _⟩
            · exact .inr (.inl ⟨rfl, b, hb, hg, by omega⟩)
            · exact .inr (.inr ⟨rfl, a, b, ha, hga, hb, hg, by omega⟩)
            · omega
          · have hng : greatB b.toNat = false := by simp [greatB, g2]
            have hend : n = 2 ∨ (∀ b, t[n]? = some b → greatB b.toNat = false) := .inr fun x hx => by rw [hb] at hx; cases hx; exact hng
            rw [atF_end hl hend]
            cases ha : atoiN (t.extract n t.size) with
            | none =>
              have hat' := fun S K => hat (t.extract n t.size) hsz S K
              simp only [atoiV, ha] at hat'
              have hf : (if n = 0 then none else tryPl t n col) = none := by split <;> simp [tryPl, ha]
              rw [hf]
              simp -dsimp only [↓Hold_5, ↓VWP_seq, ↓VWP_region, ↓VWP_cond, ↓VWP_ret, ↓VWP_exit, ↓VReg_one, ↓VReg_non, ↓VReg_nil, ↓VS_guard, ↓VS_move, ↓VS_assign, ↓VS_pick, ↓VS_binOp, ↓VS_slice, ↓VS_fieldAddr, ↓VS_index, ↓VS_extract, ↓VS_len, ↓VS_store, ↓With_guard, ↓Hold_1, ↓Hold_3, With_some, emap_nil, ↓eget_eset, ↓ae_tmp, ↓ae_int, ↓ae_bool, lop_pick, lop_extract, asBool_bool, asGuard_bool, bb_tf, ayielded_eq, ↓dstAt_zero, ↓dstAt_succ, ↓vfinish_ret, ↓vres_nil, ↓vres_tmp, vtell_eq, ret1, Option.map_some, Option.bind_some, Option.map_none, ↓reduceIte, Nat.reduceEqDiff, reduceCtorEq, Bool.false_eq_true, decide_true, decide_false, Bool.not_false, List.getElem?_toArray, List.getElem?_cons_zero, List.getElem?_cons_succ, Nat.zero_add, Nat.reduceAdd, Nat.reduceLT, Nat.reduceLeDiff, true_and, and_self, List.map_cons, List.map_nil, List.all_cons, List.all_nil, tup_int, cel_int, Bool.and_true, List.toList_toArray, List.size_toArray, List.length_cons, List.length_nil, mapOwn_tuple, mapOwn_bool, mapOwn_int, toksL_nil, toksL_cons, toks_int, toks_bool, toks_tuple, okv_tuple, okv_bool, okv_int, List.flatMap_nil, List.flatMap_cons, List.all_nil, List.all_cons, List.append_nil, List.map_nil, List.map_cons, Bool.and_true, Bool.and_self, Bool.not_false, beq_self_eq_true, vnext_mk, vget_nil, vput_nil, cellsIn_mk, vthaw_nil, vwrites_nil, List.getD_cons_zero, List.set_cons_zero, List.set_cons_succ, List.length_cons, List.length_nil, vbin_int, ↓vlay_free, cellsOk_free, cellF, abin_lss, abin_leq, abin_geq, beq_self_eq_true, Int.toNat_natCast, ge_iff_le, decide_true, decide_false, beq_self_eq_true, bb_tf, setAll, abound_none, abound_some, vst3, vfp23_2, ix9, vsl9, vlr9, ↓vfk60, Tryd.results40, e0, e5, e6, h0, hns, ae_nili, Int.le_refl, ↓hat', hs', h2, hb, g1, g2, vbin_ifn _ _ hms, tripF]
            | some v =>
              have hat' := fun S K => hat (t.extract n t.size) hsz S K
              simp only [atoiV, ha] at hat'
              cases hp : placeF col v
              · have hf : (if n = 0 then none else tryPl t n col) = none := by split <;> simp [tryPl, ha, hp]
                rw [hf]
                simp -dsimp only [↓Hold_5, ↓VWP_seq, ↓VWP_region, ↓VWP_cond, ↓VWP_ret, ↓VWP_exit, ↓VReg_one, ↓VReg_non, ↓VReg_nil, ↓VS_guard, ↓VS_move, ↓VS_assign, ↓VS_pick, ↓VS_load, ↓VS_binOp, ↓VS_unOp, ↓VS_slice, ↓VS_fieldAddr, ↓VS_index, ↓VS_extract, ↓VS_len, ↓VS_store, ↓With_guard, ↓Hold_1, ↓Hold_3, With_some, emap_nil, ↓eget_eset, ↓ae_tmp, ↓ae_int, ↓ae_bool, lop_pick, lop_extract, lop_not, asBool_bool, asGuard_bool, bb_tf, ayielded_eq, ↓dstAt_zero, ↓dstAt_succ, ↓vfinish_ret, ↓vres_nil, ↓vres_tmp, vtell_eq, ret1, Option.map_some, Option.bind_some, Option.map_none, ↓reduceIte, Nat.reduceEqDiff, reduceCtorEq, Bool.false_eq_true, decide_true, decide_false, Bool.not_false, List.getElem?_toArray, List.getElem?_cons_zero, List.getElem?_cons_succ, Nat.zero_add, Nat.reduceAdd, Nat.reduceLT, Nat.reduceLeDiff, true_and, and_self, List.map_cons, List.map_nil, List.all_cons, List.all_nil, tup_int, cel_int, Bool.and_true, List.drop_zero, List.toList_toArray, List.size_toArray, List.length_cons, List.length_nil, mapOwn_tuple, mapOwn_bool, mapOwn_int, toksL_nil, toksL_cons, toks_int, toks_bool, toks_tuple, okv_tuple, okv_bool, okv_int, List.flatMap_nil, List.flatMap_cons, List.all_nil, List.all_cons, List.append_nil, List.map_nil, List.map_cons, Bool.and_true, Bool.and_self, Bool.not_false, beq_self_eq_true, vnext_mk, vget_nil, vput_nil, cellsIn_mk, vthaw_nil, vwrites_nil, List.getD_cons_zero, List.set_cons_zero, List.set_cons_succ, List.length_cons, List.length_nil, List.drop_zero, List.take_succ_cons, List.take_zero, vbin_int, ↓vlay_free, cellsOk_free, cellF, abin_lss, abin_leq, abin_geq, beq_self_eq_true, Int.toNat_natCast, ge_iff_le, decide_true, decide_false, beq_self_eq_true, bb_tf, setAll, abound_none, abound_some, vld23, vst3, vfp23_2, ix9, vsl9, vlr9, ↓vfk60, ↓vfk42, Tryd.results40, e0, e5, e6, h0, hns, ae_nili, Int.le_refl, ↓hat', hs', h2, hb, g1, g2, nil_nil, ↓place_c hX1, hp, tripF]
              · have hpp := hp
                simp only [placeF, Bool.and_eq_true, decide_eq_true_eq] at hpp
                have hn0 : n ≠ 0 := fun h => by have := c2 h; omega
                rw [if_neg hn0]
                have hwp := fun S K => Vcallee_of (S := S) (K := K) (args := [.agg ⟨[.string .empty, .int .i64 col, .int .i64 v]⟩]) (wplace_p hX2 .empty col v hp (hit v (by omega) (by omega))) rfl rfl rfl
                by_cases he : plS col v = t
                · have hf : tryPl t n col = some (col, v) := by simp [tryPl, ha, hp, he]
                  rw [hf]
                  simp -dsimp only [↓Hold_5, ↓VWP_seq, ↓VWP_region, ↓VWP_cond, ↓VWP_skip, ↓VWP_exit, ↓VWP_open, ↓VReg_one, ↓VReg_non, ↓VReg_nil, ↓VS_guard, ↓VS_move, ↓VS_assign, ↓VS_pick, ↓VS_load, ↓VS_binOp, ↓VS_unOp, ↓VS_slice, ↓VS_fieldAddr, ↓VS_index, ↓VS_extract, ↓VS_len, ↓VS_store, ↓Hold_1, ↓Hold_3, With_some, emap_nil, ↓eget_eset, ↓ae_tmp, ↓ae_int, lop_pick, lop_extract, lop_not, asBool_bool, asGuard_bool, ayielded_eq, ↓dstAt_zero, ↓dstAt_succ, Option.map_some, Option.bind_some, Option.map_none, ↓reduceIte, Nat.reduceEqDiff, reduceCtorEq, Bool.false_eq_true, decide_true, decide_false, Bool.not_true, Bool.not_false, List.getElem?_toArray, List.getElem?_cons_zero, List.getElem?_cons_succ, Nat.zero_add, Nat.reduceAdd, Nat.reduceLT, Nat.reduceLeDiff, true_and, and_self, List.map_cons, List.map_nil, List.all_cons, List.all_nil, tup_int, cel_int, List.drop_zero, List.toList_toArray, List.size_toArray, List.length_cons, List.length_nil, toksL_nil, toksL_cons, toks_int, okv_int, List.all_nil, List.all_cons, List.append_nil, List.map_nil, List.map_cons, Bool.and_self, Bool.not_true, Bool.not_false, beq_self_eq_true, vnext_mk, vget_nil, vput_nil, cellsIn_mk, List.getD_cons_zero, List.set_cons_zero, List.set_cons_succ, List.length_cons, List.length_nil, List.drop_zero, List.take_succ_cons, List.take_zero, vbin_int, vbin_string, ↓vlay_free, cellsOk_free, cellF, abin_lss, abin_leq, abin_geq, beq_self_eq_true, Int.toNat_natCast, ge_iff_le, decide_true, decide_false, beq_self_eq_true, setAll, abound_none, abound_some, vld23, vst3, vfp23_2, ix9, vsl9, vlr9, ↓vfk60, ↓vfk42, ↓vfk45, e0, e5, e6, h0, hns, ae_nili, Int.le_refl, ↓hat', hs', h2, hb, g1, g2, nil_nil, ↓place_c hX1, hp, ↓hwp, ab_sne2, he]
                  refine Vc_open [[], [], [], [], [], [], []] false (by kernel_rfl) (by kernel_rfl) (by kernel_rfl) ?_
                  simp -dsimp only [↓VWP_ret, ↓VS_assign, ↓VS_load, ↓VS_fieldAddr, ↓With_guard, ↓Hold_1, ↓Hold_3, With_some, emap_nil, ↓eget_eset, ↓ae_tmp, ↓ae_bool, light, ↓vfinish_ret, ↓vres_nil, ↓vres_tmp, vtell_eq, ret1, Option.map_some, Option.bind_some, ↓reduceIte, Nat.reduceEqDiff, List.getElem?_cons_zero, List.getElem?_cons_succ, Nat.zero_add, and_self, List.map_cons, List.map_nil, List.all_cons, List.all_nil, Bool.and_true, List.toList_toArray, List.length_nil, mapOwn_tuple, mapOwn_bool, mapOwn_int, toks_int, toks_bool, toks_tuple, okv_tuple, okv_bool, okv_int, List.flatMap_nil, List.flatMap_cons, List.all_nil, List.all_cons, List.append_nil, List.map_nil, List.map_cons, Bool.and_true, vget_nil, cellsIn_mk, vthaw_nil, vwrites_nil, List.getD_cons_zero, List.length_nil, ↓VE_nil, ↓VE_one0, List.reverse_nil, Bool.and_eq_true, vld3, vfp23_1, vfp23_2, Tryd.results40, e5, tripF]
                · have hf : tryPl t n col = none := by simp [tryPl, ha, hp, he]
                  rw [hf]
                  simp -dsimp only [↓Hold_5, ↓VWP_seq, ↓VWP_region, ↓VWP_cond, ↓VWP_ret, ↓VWP_exit, ↓VReg_one, ↓VReg_non, ↓VReg_nil, ↓VS_guard, ↓VS_move, ↓VS_assign, ↓VS_pick, ↓VS_load, ↓VS_binOp, ↓VS_unOp, ↓VS_slice, ↓VS_fieldAddr, ↓VS_index, ↓VS_extract, ↓VS_len, ↓VS_store, ↓With_guard, ↓Hold_1, ↓Hold_3, With_some, emap_nil, ↓eget_eset, ↓ae_tmp, ↓ae_int, ↓ae_bool, lop_pick, lop_extract, lop_not, asBool_bool, asGuard_bool, ayielded_eq, ↓dstAt_zero, ↓dstAt_succ, ↓vfinish_ret, ↓vres_nil, ↓vres_tmp, vtell_eq, ret1, Option.map_some, Option.bind_some, Option.map_none, ↓reduceIte, Nat.reduceEqDiff, reduceCtorEq, Bool.false_eq_true, decide_true, decide_false, Bool.not_true, Bool.not_false, List.getElem?_toArray, List.getElem?_cons_zero, List.getElem?_cons_succ, Nat.zero_add, Nat.reduceAdd, Nat.reduceLT, Nat.reduceLeDiff, true_and, and_self, List.map_cons, List.map_nil, List.all_cons, List.all_nil, tup_int, cel_int, Bool.and_true, List.drop_zero, List.toList_toArray, List.size_toArray, List.length_cons, List.length_nil, mapOwn_tuple, mapOwn_bool, mapOwn_int, toksL_nil, toksL_cons, toks_int, toks_bool, toks_tuple, okv_tuple, okv_bool, okv_int, List.flatMap_nil, List.flatMap_cons, List.all_nil, List.all_cons, List.append_nil, List.map_nil, List.map_cons, Bool.and_true, Bool.and_self, Bool.not_true, Bool.not_false, beq_self_eq_true, vnext_mk, vget_nil, vput_nil, cellsIn_mk, vthaw_nil, vwrites_nil, List.getD_cons_zero, List.set_cons_zero, List.set_cons_succ, List.length_cons, List.length_nil, List.drop_zero, List.take_succ_cons, List.take_zero, vbin_int, vbin_string, ↓vlay_free, cellsOk_free, cellF, abin_lss, abin_leq, abin_geq, beq_self_eq_true, Int.toNat_natCast, ge_iff_le, decide_true, decide_false, beq_self_eq_true, setAll, abound_none, abound_some, vld23, vst3, vfp23_2, ix9, vsl9, vlr9, ↓vfk60, ↓vfk42, ↓vfk45, Tryd.results40, e0, e5, e6, h0, hns, ae_nili, Int.le_refl, ↓hat', hs', h2, hb, g1, g2, nil_nil, ↓place_c hX1, hp, ↓hwp, ab_sne2, he, tripF]
        · have hng : greatB b.toNat = false := by simp [greatB, g1]
          have hend : n = 2 ∨ (∀ b, t[n]? = some b → greatB b.toNat = false) := .inr fun x hx => by rw [hb] at hx; cases hx; exact hng
          rw [atF_end hl hend]
          cases ha : atoiN (t.extract n t.size) with
          | none =>
            have hat' := fun S K => hat (t.extract n t.size) hsz S K
            simp only [atoiV, ha] at hat'
            have hf : (if n = 0 then none else tryPl t n col) = none := by split <;> simp [tryPl, ha]
            rw [hf]
            simp -dsimp only [↓Hold_5, ↓VWP_seq, ↓VWP_region, ↓VWP_cond, ↓VWP_ret, ↓VWP_exit, ↓VReg_one, ↓VReg_non, ↓VReg_nil, ↓VS_guard, ↓VS_move, ↓VS_assign, ↓VS_pick, ↓VS_binOp, ↓VS_slice, ↓VS_fieldAddr, ↓VS_index, ↓VS_extract, ↓VS_len, ↓VS_store, ↓With_guard, ↓Hold_1, ↓Hold_3, With_some, emap_nil, ↓eget_eset, ↓ae_tmp, ↓ae_int, ↓ae_bool, lop_pick, lop_extract, asBool_bool, asGuard_bool, bb_ft, bb_tf, ayielded_eq, ↓dstAt_zero, ↓dstAt_succ, ↓vfinish_ret, ↓vres_nil, ↓vres_tmp, vtell_eq, ret1, Option.map_some, Option.bind_some, Option.map_none, ↓reduceIte, Nat.reduceEqDiff, reduceCtorEq, Bool.false_eq_true, decide_true, decide_false, Bool.not_false, List.getElem?_toArray, List.getElem?_cons_zero, List.getElem?_cons_succ, Nat.zero_add, Nat.reduceAdd, Nat.reduceLT, Nat.reduceLeDiff, true_and, and_self, List.map_cons, List.map_nil, List.all_cons, List.all_nil, tup_int, cel_int, Bool.and_true, List.toList_toArray, List.size_toArray, List.length_cons, List.length_nil, mapOwn_tuple, mapOwn_bool, mapOwn_int, toksL_nil, toksL_cons, toks_int, toks_bool, toks_tuple, okv_tuple, okv_bool, okv_int, List.flatMap_nil, List.flatMap_cons, List.all_nil, List.all_cons, List.append_nil, List.map_nil, List.map_cons, Bool.and_true, Bool.and_self, Bool.not_false, beq_self_eq_true, vnext_mk, vget_nil, vput_nil, cellsIn_mk, vthaw_nil, vwrites_nil, List.getD_cons_zero, List.set_cons_zero, List.set_cons_succ, List.length_cons, List.length_nil, vbin_int, ↓vlay_free, cellsOk_free, cellF, abin_lss, abin_geq, beq_self_eq_true, Int.toNat_natCast, ge_iff_le, decide_true, decide_false, beq_self_eq_true, bb_ft, bb_tf, setAll, abound_none, abound_some, vst3, vfp23_2, ix9, vsl9, vlr9, ↓vfk60, Tryd.results40, e0, e5, e6, h0, hns, ae_nili, Int.le_refl, ↓hat', hs', h2, hb, g1, vbin_ifn _ _ hms, tripF]
          | some v =>
            have hat' := fun S K => hat (t.extract n t.size) hsz S K
            simp only [atoiV, ha] at hat'
            cases hp : placeF col v
            · have hf : (if n = 0 then none else tryPl t n col) = none := by split <;> simp [tryPl, ha, hp]
              rw [hf]
              simp -dsimp only [↓Hold_5, ↓VWP_seq, ↓VWP_region, ↓VWP_cond, ↓VWP_ret, ↓VWP_exit, ↓VReg_one, ↓VReg_non, ↓VReg_nil, ↓VS_guard, ↓VS_move, ↓VS_assign, ↓VS_pick, ↓VS_load, ↓VS_binOp, ↓VS_unOp, ↓VS_slice, ↓VS_fieldAddr, ↓VS_index, ↓VS_extract, ↓VS_len, ↓VS_store, ↓With_guard, ↓Hold_1, ↓Hold_3, With_some, emap_nil, ↓eget_eset, ↓ae_tmp, ↓ae_int, ↓ae_bool, lop_pick, lop_extract, lop_not, asBool_bool, asGuard_bool, bb_ft, bb_tf, ayielded_eq, ↓dstAt_zero, ↓dstAt_succ, ↓vfinish_ret, ↓vres_nil, ↓vres_tmp, vtell_eq, ret1, Option.map_some, Option.bind_some, Option.map_none, ↓reduceIte, Nat.reduceEqDiff, reduceCtorEq, Bool.false_eq_true, decide_true, decide_false, Bool.not_false, List.getElem?_toArray, List.getElem?_cons_zero, List.getElem?_cons_succ, Nat.zero_add, Nat.reduceAdd, Nat.reduceLT, Nat.reduceLeDiff, true_and, and_self, List.map_cons, List.map_nil, List.all_cons, List.all_nil, tup_int, cel_int, Bool.and_true, List.drop_zero, List.toList_toArray, List.size_toArray, List.length_cons, List.length_nil, mapOwn_tuple, mapOwn_bool, mapOwn_int, toksL_nil, toksL_cons, toks_int, toks_bool, toks_tuple, okv_tuple, okv_bool, okv_int, List.flatMap_nil, List.flatMap_cons, List.all_nil, List.all_cons, List.append_nil, List.map_nil, List.map_cons, Bool.and_true, Bool.and_self, Bool.not_false, beq_self_eq_true, vnext_mk, vget_nil, vput_nil, cellsIn_mk, vthaw_nil, vwrites_nil, List.getD_cons_zero, List.set_cons_zero, List.set_cons_succ, List.length_cons, List.length_nil, List.drop_zero, List.take_succ_cons, List.take_zero, vbin_int, ↓vlay_free, cellsOk_free, cellF, abin_lss, abin_geq, beq_self_eq_true, Int.toNat_natCast, ge_iff_le, decide_true, decide_false, beq_self_eq_true, bb_ft, bb_tf, setAll, abound_none, abound_some, vld23, vst3, vfp23_2, ix9, vsl9, vlr9, ↓vfk60, ↓vfk42, Tryd.results40, e0, e5, e6, h0, hns, ae_nili, Int.le_refl, ↓hat', hs', h2, hb, g1, nil_nil, ↓place_c hX1, hp, tripF]
            · have hpp := hp
              simp only [placeF, Bool.and_eq_true, decide_eq_true_eq] at hpp
              have hn0 : n ≠ 0 := fun h => by have := c2 h; omega
              rw [if_neg hn0]
              have hwp := fun S K => Vcallee_of (S := S) (K := K) (args := [.agg ⟨[.string .empty, .int .i64 col, .int .i64 v]⟩]) (wplace_p hX2 .empty col v hp (hit v (by omega) (by omega))) rfl rfl rfl
              by_cases he : plS col v = t
              · have hf : tryPl t n col = some (col, v) := by simp [tryPl, ha, hp, he]
                rw [hf]
                simp -dsimp only [↓Hold_5, ↓VWP_seq, ↓VWP_region, ↓VWP_cond, ↓VWP_skip, ↓VWP_exit, ↓VWP_open, ↓VReg_one, ↓VReg_non, ↓VReg_nil, ↓VS_guard, ↓VS_move, ↓VS_assign, ↓VS_pick, ↓VS_load, ↓VS_binOp, ↓VS_unOp, ↓VS_slice, ↓VS_fieldAddr, ↓VS_index, ↓VS_extract, ↓VS_len, ↓VS_store, ↓Hold_1, ↓Hold_3, With_some, emap_nil, ↓eget_eset, ↓ae_tmp, ↓ae_int, ↓ae_bool, lop_pick, lop_extract, lop_not, asBool_bool, asGuard_bool, bb_ft, ayielded_eq, ↓dstAt_zero, ↓dstAt_succ, Option.map_some, Option.bind_some, Option.map_none, ↓reduceIte, Nat.reduceEqDiff, reduceCtorEq, Bool.false_eq_true, decide_true, decide_false, Bool.not_true, Bool.not_false, List.getElem?_toArray, List.getElem?_cons_zero, List.getElem?_cons_succ, Nat.zero_add, Nat.reduceAdd, Nat.reduceLT, Nat.reduceLeDiff, true_and, and_self, List.map_cons, List.map_nil, List.all_cons, List.all_nil, tup_int, cel_int, List.drop_zero, List.toList_toArray, List.size_toArray, List.length_cons, List.length_nil, toksL_nil, toksL_cons, toks_int, okv_int, List.all_nil, List.all_cons, List.append_nil, List.map_nil, List.map_cons, Bool.and_self, Bool.not_true, Bool.not_false, beq_self_eq_true, vnext_mk, vget_nil, vput_nil, cellsIn_mk, List.getD_cons_zero, List.set_cons_zero, List.set_cons_succ, List.length_cons, List.length_nil, List.drop_zero, List.take_succ_cons, List.take_zero, vbin_int, vbin_string, ↓vlay_free, cellsOk_free, cellF, abin_lss, abin_geq, beq_self_eq_true, Int.toNat_natCast, ge_iff_le, decide_true, decide_false, beq_self_eq_true, bb_ft, setAll, abound_none, abound_some, vld23, vst3, vfp23_2, ix9, vsl9, vlr9, ↓vfk60, ↓vfk42, ↓vfk45, e0, e5, e6, h0, hns, ae_nili, Int.le_refl, ↓hat', hs', h2, hb, g1, nil_nil, ↓place_c hX1, hp, ↓hwp, ab_sne2, he]
                refine Vc_open [[], [], [], [], [], [], []] false (by kernel_rfl) (by kernel_rfl) (by kernel_rfl) ?_
                simp -dsimp only [↓VWP_ret, ↓VS_assign, ↓VS_load, ↓VS_fieldAddr, ↓With_guard, ↓Hold_1, ↓Hold_3, With_some, emap_nil, ↓eget_eset, ↓ae_tmp, ↓ae_bool, light, ↓vfinish_ret, ↓vres_nil, ↓vres_tmp, vtell_eq, ret1, Option.map_some, Option.bind_some, ↓reduceIte, Nat.reduceEqDiff, List.getElem?_cons_zero, List.getElem?_cons_succ, Nat.zero_add, and_self, List.map_cons, List.map_nil, List.all_cons, List.all_nil, Bool.and_true, List.toList_toArray, List.length_nil, mapOwn_tuple, mapOwn_bool, mapOwn_int, toks_int, toks_bool, toks_tuple, okv_tuple, okv_bool, okv_int, List.flatMap_nil, List.flatMap_cons, List.all_nil, List.all_cons, List.append_nil, List.map_nil, List.map_cons, Bool.and_true, vget_nil, cellsIn_mk, vthaw_nil, vwrites_nil, List.getD_cons_zero, List.length_nil, ↓VE_nil, ↓VE_one0, List.reverse_nil, Bool.and_eq_true, vld3, vfp23_1, vfp23_2, Tryd.results40, e5, tripF]
              · have hf : tryPl t n col = none := by simp [tryPl, ha, hp, he]
                rw [hf]
                simp -dsimp only [↓Hold_5, ↓VWP_seq, ↓VWP_region, ↓VWP_cond, ↓VWP_ret, ↓VWP_exit, ↓VReg_one, ↓VReg_non, ↓VReg_nil, ↓VS_guard, ↓VS_move, ↓VS_assign, ↓VS_pick, ↓VS_load, ↓VS_binOp, ↓VS_unOp, ↓VS_slice, ↓VS_fieldAddr, ↓VS_index, ↓VS_extract, ↓VS_len, ↓VS_store, ↓With_guard, ↓Hold_1, ↓Hold_3, With_some, emap_nil, ↓eget_eset, ↓ae_tmp, ↓ae_int, ↓ae_bool, lop_pick, lop_extract, lop_not, asBool_bool, asGuard_bool, bb_ft, ayielded_eq, ↓dstAt_zero, ↓dstAt_succ, ↓vfinish_ret, ↓vres_nil, ↓vres_tmp, vtell_eq, ret1, Option.map_some, Option.bind_some, Option.map_none, ↓reduceIte, Nat.reduceEqDiff, reduceCtorEq, Bool.false_eq_true, decide_true, decide_false, Bool.not_true, Bool.not_false, List.getElem?_toArray, List.getElem?_cons_zero, List.getElem?_cons_succ, Nat.zero_add, Nat.reduceAdd, Nat.reduceLT, Nat.reduceLeDiff, true_and, and_self, List.map_cons, List.map_nil, List.all_cons, List.all_nil, tup_int, cel_int, Bool.and_true, List.drop_zero, List.toList_toArray, List.size_toArray, List.length_cons, List.length_nil, mapOwn_tuple, mapOwn_bool, mapOwn_int, toksL_nil, toksL_cons, toks_int, toks_bool, toks_tuple, okv_tuple, okv_bool, okv_int, List.flatMap_nil, List.flatMap_cons, List.all_nil, List.all_cons, List.append_nil, List.map_nil, List.map_cons, Bool.and_true, Bool.and_self, Bool.not_true, Bool.not_false, beq_self_eq_true, vnext_mk, vget_nil, vput_nil, cellsIn_mk, vthaw_nil, vwrites_nil, List.getD_cons_zero, List.set_cons_zero, List.set_cons_succ, List.length_cons, List.length_nil, List.drop_zero, List.take_succ_cons, List.take_zero, vbin_int, vbin_string, ↓vlay_free, cellsOk_free, cellF, abin_lss, abin_geq, beq_self_eq_true, Int.toNat_natCast, ge_iff_le, decide_true, decide_false, beq_self_eq_true, bb_ft, setAll, abound_none, abound_some, vld23, vst3, vfp23_2, ix9, vsl9, vlr9, ↓vfk60, ↓vfk42, ↓vfk45, Tryd.results40, e0, e5, e6, h0, hns, ae_nili, Int.le_refl, ↓hat', hs', h2, hb, g1, nil_nil, ↓place_c hX1, hp, ↓hwp, ab_sne2, he, tripF]
      · have hend : n = 2 ∨ (∀ b, t[n]? = some b → greatB b.toNat = false) := .inl (by omega)
        rw [atF_end hl hend]
        cases ha : atoiN (t.extract n t.size) with
        | none =>
          have hat' := fun S K => hat (t.extract n t.size) hsz S K
          simp only [atoiV, ha] at hat'
          have hf : (if n = 0 then none else tryPl t n col) = none := by split <;> simp [tryPl, ha]
          rw [hf]
          simp -dsimp only [↓Hold_5, ↓VWP_seq, ↓VWP_region, ↓VWP_cond, ↓VWP_ret, ↓VWP_exit, ↓VReg_one, ↓VReg_non, ↓VReg_nil, ↓VS_guard, ↓VS_move, ↓VS_assign, ↓VS_pick, ↓VS_binOp, ↓VS_slice, ↓VS_fieldAddr, ↓VS_extract, ↓VS_len, ↓VS_store, ↓With_guard, ↓Hold_1, ↓Hold_3, With_some, emap_nil, ↓eget_eset, ↓ae_tmp, ↓ae_int, ↓ae_bool, lop_pick, lop_extract, asBool_bool, asGuard_bool, bb_ft, bb_tf, ayielded_eq, ↓dstAt_zero, ↓dstAt_succ, ↓vfinish_ret, ↓vres_nil, ↓vres_tmp, vtell_eq, ret1, Option.map_some, Option.bind_some, Option.map_none, ↓reduceIte, Nat.reduceEqDiff, reduceCtorEq, Bool.false_eq_true, decide_true, decide_false, Bool.not_false, List.getElem?_toArray, List.getElem?_cons_zero, List.getElem?_cons_succ, Nat.zero_add, Nat.reduceAdd, Nat.reduceLT, Nat.reduceLeDiff, true_and, and_self, List.map_cons, List.map_nil, List.all_cons, List.all_nil, tup_int, cel_int, Bool.and_true, List.toList_toArray, List.size_toArray, List.length_cons, List.length_nil, mapOwn_tuple, mapOwn_bool, mapOwn_int, toksL_nil, toksL_cons, toks_int, toks_bool, toks_tuple, okv_tuple, okv_bool, okv_int, List.flatMap_nil, List.flatMap_cons, List.all_nil, List.all_cons, List.append_nil, List.map_nil, List.map_cons, Bool.and_true, Bool.and_self, Bool.not_false, beq_self_eq_true, vnext_mk, vget_nil, vput_nil, cellsIn_mk, vthaw_nil, vwrites_nil, List.getD_cons_zero, List.set_cons_zero, List.set_cons_succ, List.length_cons, List.length_nil, vbin_int, ↓vlay_free, cellsOk_free, cellF, abin_lss, beq_self_eq_true, Int.toNat_natCast, decide_true, decide_false, beq_self_eq_true, bb_ft, bb_tf, setAll, abound_none, abound_some, vst3, vfp23_2, vsl9, vlr9, ↓vfk60, Tryd.results40, e0, e5, e6, h0, hns, ae_nili, Int.le_refl, ↓hat', hs', h2, vbin_ifn _ _ hms, tripF]
        | some v =>
          have hat' := fun S K => hat (t.extract n t.size) hsz S K
          simp only [atoiV, ha] at hat'
          cases hp : placeF col v
          · have hf : (if n = 0 then none else tryPl t n col) = none := by split <;> simp [tryPl, ha, hp]
            rw [hf]
            simp -dsimp only [↓Hold_5, ↓VWP_seq, ↓VWP_region, ↓VWP_cond, ↓VWP_ret, ↓VWP_exit, ↓VReg_one, ↓VReg_non, ↓VReg_nil, ↓VS_guard, ↓VS_move, ↓VS_assign, ↓VS_pick, ↓VS_load, ↓VS_binOp, ↓VS_unOp, ↓VS_slice, ↓VS_fieldAddr, ↓VS_extract, ↓VS_len, ↓VS_store, ↓With_guard, ↓Hold_1, ↓Hold_3, With_some, emap_nil, ↓eget_eset, ↓ae_tmp, ↓ae_int, ↓ae_bool, lop_pick, lop_extract, lop_not, asBool_bool, asGuard_bool, bb_ft, bb_tf, ayielded_eq, ↓dstAt_zero, ↓dstAt_succ, ↓vfinish_ret, ↓vres_nil, ↓vres_tmp, vtell_eq, ret1, Option.map_some, Option.bind_some, Option.map_none, ↓reduceIte, Nat.reduceEqDiff, reduceCtorEq, Bool.false_eq_true, decide_true, decide_false, Bool.not_false, List.getElem?_toArray, List.getElem?_cons_zero, List.getElem?_cons_succ, Nat.zero_add, Nat.reduceAdd, Nat.reduceLT, Nat.reduceLeDiff, true_and, and_self, List.map_cons, List.map_nil, List.all_cons, List.all_nil, tup_int, cel_int, Bool.and_true, List.drop_zero, List.toList_toArray, List.size_toArray, List.length_cons, List.length_nil, mapOwn_tuple, mapOwn_bool, mapOwn_int, toksL_nil, toksL_cons, toks_int, toks_bool, toks_tuple, okv_tuple, okv_bool, okv_int, List.flatMap_nil, List.flatMap_cons, List.all_nil, List.all_cons, List.append_nil, List.map_nil, List.map_cons, Bool.and_true, Bool.and_self, Bool.not_false, beq_self_eq_true, vnext_mk, vget_nil, vput_nil, cellsIn_mk, vthaw_nil, vwrites_nil, List.getD_cons_zero, List.set_cons_zero, List.set_cons_succ, List.length_cons, List.length_nil, List.drop_zero, List.take_succ_cons, List.take_zero, vbin_int, ↓vlay_free, cellsOk_free, cellF, abin_lss, beq_self_eq_true, Int.toNat_natCast, decide_true, decide_false, beq_self_eq_true, bb_ft, bb_tf, setAll, abound_none, abound_some, vld23, vst3, vfp23_2, vsl9, vlr9, ↓vfk60, ↓vfk42, Tryd.results40, e0, e5, e6, h0, hns, ae_nili, Int.le_refl, ↓hat', hs', h2, nil_nil, ↓place_c hX1, hp, tripF]
          · have hpp := hp
            simp only [placeF, Bool.and_eq_true, decide_eq_true_eq] at hpp
            have hn0 : n ≠ 0 := fun h => by have := c2 h; omega
            rw [if_neg hn0]
            have hwp := fun S K => Vcallee_of (S := S) (K := K) (args := [.agg ⟨[.string .empty, .int .i64 col, .int .i64 v]⟩]) (wplace_p hX2 .empty col v hp (hit v (by omega) (by omega))) rfl rfl rfl
            by_cases he : plS col v = t
            · have hf : tryPl t n col = some (col, v) := by simp [tryPl, ha, hp, he]
              rw [hf]
              simp -dsimp only [↓Hold_5, ↓VWP_seq, ↓VWP_region, ↓VWP_cond, ↓VWP_skip, ↓VWP_exit, ↓VWP_open, ↓VReg_one, ↓VReg_non, ↓VReg_nil, ↓VS_guard, ↓VS_move, ↓VS_assign, ↓VS_pick, ↓VS_load, ↓VS_binOp, ↓VS_unOp, ↓VS_slice, ↓VS_fieldAddr, ↓VS_extract, ↓VS_len, ↓VS_store, ↓Hold_1, ↓Hold_3, With_some, emap_nil, ↓eget_eset, ↓ae_tmp, ↓ae_int, ↓ae_bool, lop_pick, lop_extract, lop_not, asBool_bool, asGuard_bool, bb_ft, ayielded_eq, ↓dstAt_zero, ↓dstAt_succ, Option.map_some, Option.bind_some, Option.map_none, ↓reduceIte, Nat.reduceEqDiff, reduceCtorEq, Bool.false_eq_true, decide_true, decide_false, Bool.not_true, Bool.not_false, List.getElem?_toArray, List.getElem?_cons_zero, List.getElem?_cons_succ, Nat.zero_add, Nat.reduceAdd, Nat.reduceLT, Nat.reduceLeDiff, true_and, and_self, List.map_cons, List.map_nil, List.all_cons, List.all_nil, tup_int, cel_int, List.drop_zero, List.toList_toArray, List.size_toArray, List.length_cons, List.length_nil, toksL_nil, toksL_cons, toks_int, okv_int, List.all_nil, List.all_cons, List.append_nil, List.map_nil, List.map_cons, Bool.and_self, Bool.not_true, Bool.not_false, beq_self_eq_true, vnext_mk, vget_nil, vput_nil, cellsIn_mk, List.getD_cons_zero, List.set_cons_zero, List.set_cons_succ, List.length_cons, List.length_nil, List.drop_zero, List.take_succ_cons, List.take_zero, vbin_int, vbin_string, ↓vlay_free, cellsOk_free, cellF, abin_lss, beq_self_eq_true, Int.toNat_natCast, decide_true, decide_false, beq_self_eq_true, bb_ft, setAll, abound_none, abound_some, vld23, vst3, vfp23_2, vsl9, vlr9, ↓vfk60, ↓vfk42, ↓vfk45, e0, e5, e6, h0, hns, ae_nili, Int.le_refl, ↓hat', hs', h2, nil_nil, ↓place_c hX1, hp, ↓hwp, ab_sne2, he]
              refine Vc_open [[], [], [], [], [], [], []] false (by kernel_rfl) (by kernel_rfl) (by kernel_rfl) ?_
              simp -dsimp only [↓VWP_ret, ↓VS_assign, ↓VS_load, ↓VS_fieldAddr, ↓With_guard, ↓Hold_1, ↓Hold_3, With_some, emap_nil, ↓eget_eset, ↓ae_tmp, ↓ae_bool, light, ↓vfinish_ret, ↓vres_nil, ↓vres_tmp, vtell_eq, ret1, Option.map_some, Option.bind_some, ↓reduceIte, Nat.reduceEqDiff, List.getElem?_cons_zero, List.getElem?_cons_succ, Nat.zero_add, and_self, List.map_cons, List.map_nil, List.all_cons, List.all_nil, Bool.and_true, List.toList_toArray, List.length_nil, mapOwn_tuple, mapOwn_bool, mapOwn_int, toks_int, toks_bool, toks_tuple, okv_tuple, okv_bool, okv_int, List.flatMap_nil, List.flatMap_cons, List.all_nil, List.all_cons, List.append_nil, List.map_nil, List.map_cons, Bool.and_true, vget_nil, cellsIn_mk, vthaw_nil, vwrites_nil, List.getD_cons_zero, List.length_nil, ↓VE_nil, ↓VE_one0, List.reverse_nil, Bool.and_eq_true, vld3, vfp23_1, vfp23_2, Tryd.results40, e5, tripF]
            · have hf : tryPl t n col = none := by simp [tryPl, ha, hp, he]
              rw [hf]
              simp -dsimp only [↓Hold_5, ↓VWP_seq, ↓VWP_region, ↓VWP_cond, ↓VWP_ret, ↓VWP_exit, ↓VReg_one, ↓VReg_non, ↓VReg_nil, ↓VS_guard, ↓VS_move, ↓VS_assign, ↓VS_pick, ↓VS_load, ↓VS_binOp, ↓VS_unOp, ↓VS_slice, ↓VS_fieldAddr, ↓VS_extract, ↓VS_len, ↓VS_store, ↓With_guard, ↓Hold_1, ↓Hold_3, With_some, emap_nil, ↓eget_eset, ↓ae_tmp, ↓ae_int, ↓ae_bool, lop_pick, lop_extract, lop_not, asBool_bool, asGuard_bool, bb_ft, ayielded_eq, ↓dstAt_zero, ↓dstAt_succ, ↓vfinish_ret, ↓vres_nil, ↓vres_tmp, vtell_eq, ret1, Option.map_some, Option.bind_some, Option.map_none, ↓reduceIte, Nat.reduceEqDiff, reduceCtorEq, Bool.false_eq_true, decide_true, decide_false, Bool.not_true, Bool.not_false, List.getElem?_toArray, List.getElem?_cons_zero, List.getElem?_cons_succ, Nat.zero_add, Nat.reduceAdd, Nat.reduceLT, Nat.reduceLeDiff, true_and, and_self, List.map_cons, List.map_nil, List.all_cons, List.all_nil, tup_int, cel_int, Bool.and_true, List.drop_zero, List.toList_toArray, List.size_toArray, List.length_cons, List.length_nil, mapOwn_tuple, mapOwn_bool, mapOwn_int, toksL_nil, toksL_cons, toks_int, toks_bool, toks_tuple, okv_tuple, okv_bool, okv_int, List.flatMap_nil, List.flatMap_cons, List.all_nil, List.all_cons, List.append_nil, List.map_nil, List.map_cons, Bool.and_true, Bool.and_self, Bool.not_true, Bool.not_false, beq_self_eq_true, vnext_mk, vget_nil, vput_nil, cellsIn_mk, vthaw_nil, vwrites_nil, List.getD_cons_zero, List.set_cons_zero, List.set_cons_succ, List.length_cons, List.length_nil, List.drop_zero, List.take_succ_cons, List.take_zero, vbin_int, vbin_string, ↓vlay_free, cellsOk_free, cellF, abin_lss, beq_self_eq_true, Int.toNat_natCast, decide_true, decide_false, beq_self_eq_true, bb_ft, setAll, abound_none, abound_some, vld23, vst3, vfp23_2, vsl9, vlr9, ↓vfk60, ↓vfk42, ↓vfk45, Tryd.results40, e0, e5, e6, h0, hns, ae_nili, Int.le_refl, ↓hat', hs', h2, nil_nil, ↓place_c hX1, hp, ↓hwp, ab_sne2, he, tripF]
    · have hs' : ¬ (n : Int) < t.size := by omega
      have hend : n = 2 ∨ (∀ b, t[n]? = some b → greatB b.toNat = false) := .inr fun x hx => by rw [getElem?_neg t n hs] at hx; cases hx
      rw [atF_end hl hend]
      cases ha : atoiN (t.extract n t.size) with
      | none =>
        have hat' := fun S K => hat (t.extract n t.size) hsz S K
        simp only [atoiV, ha] at hat'
        have hf : (if n = 0 then none else tryPl t n col) = none := by split <;> simp [tryPl, ha]
        rw [hf]
        simp -dsimp only [↓Hold_5, ↓VWP_seq, ↓VWP_region, ↓VWP_cond, ↓VWP_ret, ↓VWP_exit, ↓VReg_one, ↓VReg_non, ↓VReg_nil, ↓VS_guard, ↓VS_move, ↓VS_assign, ↓VS_pick, ↓VS_binOp, ↓VS_slice, ↓VS_fieldAddr, ↓VS_extract, ↓VS_len, ↓VS_store, ↓With_guard, ↓Hold_1, ↓Hold_3, With_some, emap_nil, ↓eget_eset, ↓ae_tmp, ↓ae_int, ↓ae_bool, lop_pick, lop_extract, asBool_bool, asGuard_bool, bb_ft, bb_tf, ayielded_eq, ↓dstAt_zero, ↓dstAt_succ, ↓vfinish_ret, ↓vres_nil, ↓vres_tmp, vtell_eq, ret1, Option.map_some, Option.bind_some, Option.map_none, ↓reduceIte, Nat.reduceEqDiff, reduceCtorEq, Bool.false_eq_true, decide_false, Bool.not_false, List.getElem?_toArray, List.getElem?_cons_zero, List.getElem?_cons_succ, Nat.zero_add, Nat.reduceAdd, Nat.reduceLT, Nat.reduceLeDiff, true_and, and_self, List.map_cons, List.map_nil, List.all_cons, List.all_nil, tup_int, cel_int, Bool.and_true, List.toList_toArray, List.size_toArray, List.length_cons, List.length_nil, mapOwn_tuple, mapOwn_bool, mapOwn_int, toksL_nil, toksL_cons, toks_int, toks_bool, toks_tuple, okv_tuple, okv_bool, okv_int, List.flatMap_nil, List.flatMap_cons, List.all_nil, List.all_cons, List.append_nil, List.map_nil, List.map_cons, Bool.and_true, Bool.and_self, Bool.not_false, beq_self_eq_true, vnext_mk, vget_nil, vput_nil, cellsIn_mk, vthaw_nil, vwrites_nil, List.getD_cons_zero, List.set_cons_zero, List.set_cons_succ, List.length_cons, List.length_nil, vbin_int, ↓vlay_free, cellsOk_free, cellF, abin_lss, beq_self_eq_true, Int.toNat_natCast, decide_false, beq_self_eq_true, bb_ft, bb_tf, setAll, abound_none, abound_some, vst3, vfp23_2, vsl9, vlr9, ↓vfk60, Tryd.results40, e0, e5, e6, h0, hns, ae_nili, Int.le_refl, ↓hat', hs', vbin_ifn _ _ hms, tripF]
      | some v =>
        have hat' := fun S K => hat (t.extract n t.size) hsz S K
        simp only [atoiV, ha] at hat'
        cases hp : placeF col v
        · have hf : (if n = 0 then none else tryPl t n col) = none := by split <;> simp [tryPl, ha, hp]
          rw [hf]
          simp -dsimp only [↓Hold_5, ↓VWP_seq, ↓VWP_region, ↓VWP_cond, ↓VWP_ret, ↓VWP_exit, ↓VReg_one, ↓VReg_non, ↓VReg_nil, ↓VS_guard, ↓VS_move, ↓VS_assign, ↓VS_pick, ↓VS_load, ↓VS_binOp, ↓VS_unOp, ↓VS_slice, ↓VS_fieldAddr, ↓VS_extract, ↓VS_len, ↓VS_store, ↓With_guard, ↓Hold_1, ↓Hold_3, With_some, emap_nil, ↓eget_eset, ↓ae_tmp, ↓ae_int, ↓ae_bool, lop_pick, lop_extract, lop_not, asBool_bool, asGuard_bool, bb_ft, bb_tf, ayielded_eq, ↓dstAt_zero, ↓dstAt_succ, ↓vfinish_ret, ↓vres_nil, ↓vres_tmp, vtell_eq, ret1, Option.map_some, Option.bind_some, Option.map_none, ↓reduceIte, Nat.reduceEqDiff, reduceCtorEq, Bool.false_eq_true, decide_false, Bool.not_false, List.getElem?_toArray, List.getElem?_cons_zero, List.getElem?_cons_succ, Nat.zero_add, Nat.reduceAdd, Nat.reduceLT, Nat.reduceLeDiff, true_and, and_self, List.map_cons, List.map_nil, List.all_cons, List.all_nil, tup_int, cel_int, Bool.and_true, List.drop_zero, List.toList_toArray, List.size_toArray, List.length_cons, List.length_nil, mapOwn_tuple, mapOwn_bool, mapOwn_int, toksL_nil, toksL_cons, toks_int, toks_bool, toks_tuple, okv_tuple, okv_bool, okv_int, List.flatMap_nil, List.flatMap_cons, List.all_nil, List.all_cons, List.append_nil, List.map_nil, List.map_cons, Bool.and_true, Bool.and_self, Bool.not_false, beq_self_eq_true, vnext_mk, vget_nil, vput_nil, cellsIn_mk, vthaw_nil, vwrites_nil, List.getD_cons_zero, List.set_cons_zero, List.set_cons_succ, List.length_cons, List.length_nil, List.drop_zero, List.take_succ_cons, List.take_zero, vbin_int, ↓vlay_free, cellsOk_free, cellF, abin_lss, beq_self_eq_true, Int.toNat_natCast, decide_false, beq_self_eq_true, bb_ft, bb_tf, setAll, abound_none, abound_some, vld23, vst3, vfp23_2, vsl9, vlr9, ↓vfk60, ↓vfk42, Tryd.results40, e0, e5, e6, h0, hns, ae_nili, Int.le_refl, ↓hat', hs', nil_nil, ↓place_c hX1, hp, tripF]
        · have hpp := hp
          simp only [placeF, Bool.and_eq_true, decide_eq_true_eq] at hpp
          have hn0 : n ≠ 0 := fun h => by have := c2 h; omega
          rw [if_neg hn0]
          have hwp := fun S K => Vcallee_of (S := S) (K := K) (args := [.agg ⟨[.string .empty, .int .i64 col, .int .i64 v]⟩]) (wplace_p hX2 .empty col v hp (hit v (by omega) (by omega))) rfl rfl rfl
          by_cases he : plS col v = t
          · have hf : tryPl t n col = some (col, v) := by simp [tryPl, ha, hp, he]
            rw [hf]
            simp -dsimp only [↓Hold_5, ↓VWP_seq, ↓VWP_region, ↓VWP_cond, ↓VWP_skip, ↓VWP_exit, ↓VWP_open, ↓VReg_one, ↓VReg_non, ↓VReg_nil, ↓VS_guard, ↓VS_move, ↓VS_assign, ↓VS_pick, ↓VS_load, ↓VS_binOp, ↓VS_unOp, ↓VS_slice, ↓VS_fieldAddr, ↓VS_extract, ↓VS_len, ↓VS_store, ↓Hold_1, ↓Hold_3, With_some, emap_nil, ↓eget_eset, ↓ae_tmp, ↓ae_bool, lop_pick, lop_extract, lop_not, asBool_bool, asGuard_bool, bb_ft, ayielded_eq, ↓dstAt_zero, ↓dstAt_succ, Option.map_some, Option.bind_some, Option.map_none, ↓reduceIte, Nat.reduceEqDiff, reduceCtorEq, Bool.false_eq_true, decide_true, decide_false, Bool.not_true, Bool.not_false, List.getElem?_toArray, List.getElem?_cons_zero, List.getElem?_cons_succ, Nat.zero_add, Nat.reduceAdd, Nat.reduceLT, Nat.reduceLeDiff, true_and, and_self, List.map_cons, List.map_nil, List.all_cons, List.all_nil, tup_int, cel_int, List.drop_zero, List.toList_toArray, List.size_toArray, List.length_cons, List.length_nil, toksL_nil, toksL_cons, toks_int, okv_int, List.all_nil, List.all_cons, List.append_nil, List.map_nil, List.map_cons, Bool.and_self, Bool.not_true, Bool.not_false, beq_self_eq_true, vnext_mk, vget_nil, vput_nil, cellsIn_mk, List.getD_cons_zero, List.set_cons_zero, List.set_cons_succ, List.length_cons, List.length_nil, List.drop_zero, List.take_succ_cons, List.take_zero, vbin_int, vbin_string, ↓vlay_free, cellsOk_free, cellF, abin_lss, beq_self_eq_true, Int.toNat_natCast, decide_true, decide_false, beq_self_eq_true, bb_ft, setAll, abound_none, abound_some, vld23, vst3, vfp23_2, vsl9, vlr9, ↓vfk60, ↓vfk42, ↓vfk45, e0, e5, e6, h0, hns, ae_nili, Int.le_refl, ↓hat', hs', nil_nil, ↓place_c hX1, hp, ↓hwp, ab_sne2, he]
            refine Vc_open [[], [], [], [], [], [], []] false (by kernel_rfl) (by kernel_rfl) (by kernel_rfl) ?_
            simp -dsimp only [↓VWP_ret, ↓VS_assign, ↓VS_load, ↓VS_fieldAddr, ↓With_guard, ↓Hold_1, ↓Hold_3, With_some, emap_nil, ↓eget_eset, ↓ae_tmp, ↓ae_bool, light, ↓vfinish_ret, ↓vres_nil, ↓vres_tmp, vtell_eq, ret1, Option.map_some, Option.bind_some, ↓reduceIte, Nat.reduceEqDiff, List.getElem?_cons_zero, List.getElem?_cons_succ, Nat.zero_add, and_self, List.map_cons, List.map_nil, List.all_cons, List.all_nil, Bool.and_true, List.toList_toArray, List.length_nil, mapOwn_tuple, mapOwn_bool, mapOwn_int, toks_int, toks_bool, toks_tuple, okv_tuple, okv_bool, okv_int, List.flatMap_nil, List.flatMap_cons, List.all_nil, List.all_cons, List.append_nil, List.map_nil, List.map_cons, Bool.and_true, vget_nil, cellsIn_mk, vthaw_nil, vwrites_nil, List.getD_cons_zero, List.length_nil, ↓VE_nil, ↓VE_one0, List.reverse_nil, Bool.and_eq_true, vld3, vfp23_1, vfp23_2, Tryd.results40, e5, tripF]
          · have hf : tryPl t n col = none := by simp [tryPl, ha, hp, he]
            rw [hf]
            simp -dsimp only [↓Hold_5, ↓VWP_seq, ↓VWP_region, ↓VWP_cond, ↓VWP_ret, ↓VWP_exit, ↓VReg_one, ↓VReg_non, ↓VReg_nil, ↓VS_guard, ↓VS_move, ↓VS_assign, ↓VS_pick, ↓VS_load, ↓VS_binOp, ↓VS_unOp, ↓VS_slice, ↓VS_fieldAddr, ↓VS_extract, ↓VS_len, ↓VS_store, ↓With_guard, ↓Hold_1, ↓Hold_3, With_some, emap_nil, ↓eget_eset, ↓ae_tmp, ↓ae_int, ↓ae_bool, lop_pick, lop_extract, lop_not, asBool_bool, asGuard_bool, bb_ft, ayielded_eq, ↓dstAt_zero, ↓dstAt_succ, ↓vfinish_ret, ↓vres_nil, ↓vres_tmp, vtell_eq, ret1, Option.map_some, Option.bind_some, Option.map_none, ↓reduceIte, Nat.reduceEqDiff, reduceCtorEq, Bool.false_eq_true, decide_false, Bool.not_true, Bool.not_false, List.getElem?_toArray, List.getElem?_cons_zero, List.getElem?_cons_succ, Nat.zero_add, Nat.reduceAdd, Nat.reduceLT, Nat.reduceLeDiff, true_and, and_self, List.map_cons, List.map_nil, List.all_cons, List.all_nil, tup_int, cel_int, Bool.and_true, List.drop_zero, List.toList_toArray, List.size_toArray, List.length_cons, List.length_nil, mapOwn_tuple, mapOwn_bool, mapOwn_int, toksL_nil, toksL_cons, toks_int, toks_bool, toks_tuple, okv_tuple, okv_bool, okv_int, List.flatMap_nil, List.flatMap_cons, List.all_nil, List.all_cons, List.append_nil, List.map_nil, List.map_cons, Bool.and_true, Bool.and_self, Bool.not_true, Bool.not_false, beq_self_eq_true, vnext_mk, vget_nil, vput_nil, cellsIn_mk, vthaw_nil, vwrites_nil, List.getD_cons_zero, List.set_cons_zero, List.set_cons_succ, List.length_cons, List.length_nil, List.drop_zero, List.take_succ_cons, List.take_zero, vbin_int, vbin_string, ↓vlay_free, cellsOk_free, cellF, abin_lss, beq_self_eq_true, Int.toNat_natCast, decide_false, beq_self_eq_true, bb_ft, setAll, abound_none, abound_some, vld23, vst3, vfp23_2, vsl9, vlr9, ↓vfk60, ↓vfk42, ↓vfk45, Tryd.results40, e0, e5, e6, h0, hns, ae_nili, Int.le_refl, ↓hat', hs', nil_nil, ↓place_c hX1, hp, ↓hwp, ab_sne2, he, tripF]
end
end Go.Proofs.YtmdpggecelheoaaDoor.Abs
