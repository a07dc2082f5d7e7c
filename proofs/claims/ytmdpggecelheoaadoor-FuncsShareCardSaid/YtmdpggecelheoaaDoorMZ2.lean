/- Sums and quotients of two values. -/
import Derived.Test.YtmdpggecelheoaaDoorMZ1
set_option linter.unusedVariables false
set_option linter.unusedSimpArgs false
set_option maxRecDepth 4000
set_option maxHeartbeats 0
namespace Go.Proofs.YtmdpggecelheoaaDoor.Abs
open Go
attribute [local irreducible] Hold VReg Vf Vc VWP With VStp Vcallee Vp VE
theorem ab_quo4 {P : Program} {t : TypeId} {x y : Operand} {k : IntKind} {a b : Int} (hb : b ≠ 0) : abin P .quo t x y (.int k a) (.int k b) = some (.int k (k.wrap (a.tdiv b))) := by
  have h : pureRun P (Op.intDiv .quo k a b) = some (.int k (k.wrap (a.tdiv b))) := by
    unfold Op.intDiv
    rw [if_neg hb]
    rfl
  have h2 : abin P .quo t x y (.int k a) (.int k b) = onlyFlat (pureRun P (Op.intDiv .quo k a b)) := by cases k <;> rfl
  rw [h2, h]
  rfl
section
variable {X : VOuter}
def addV (a b : Int) : VV := if decide (a ≤ IntKind.i64.wrap (a + b)) == decide (0 ≤ b) then iV (IntKind.i64.wrap (a + b)) else eV 1
theorem add_p (hX : X 147 = none) (hX0 : X 170 = none) (hX1 : X 51 = none) (hX2 : X 92 = none) (a b : Int) : Vp Tryd.prog X 147 [.string ⟨#[43]⟩, .int .i64 a, .int .i64 b] (addV a b).v := by
  unfold Vp
  refine Vf_text hX Tryd.func147 rfl (by kernel_rfl) (by show 3 ≤ _; decide) ?_
  by_cases h1 : a ≤ IntKind.i64.wrap (a + b) <;> by_cases h2 : 0 ≤ b <;> simp -dsimp only [↓Hold_5, ↓VWP_seq, ↓VWP_region, ↓VWP_cond, ↓VWP_ret, ↓VWP_block, ↓VReg_one, ↓VReg_non, ↓VReg_nil, ↓VS_move, ↓VS_assign, ↓VS_binOp, ↓VS_store, ↓With_bindH, ↓With_guard, ↓Hold_1, With_some, emap_nil, ↓eget_eset, ↓ae_tmp, ↓ae_int, ↓ae_string, eget_zero, eget_succ, asBool_bool, bb_ft, bb_tf, ↓vfinish_ret, ↓vres_nil, ↓vres_cell, vtell_eq, ret1, Option.map_some, ↓reduceIte, Nat.reduceEqDiff, reduceCtorEq, Bool.false_eq_true, decide_true, decide_false, Bool.not_false, Nat.zero_add, Nat.add_zero, Nat.reduceAdd, Nat.reduceLT, Nat.reduceLeDiff, true_and, and_self, List.map_cons, List.map_nil, List.all_cons, List.all_nil, tup_int, tup_str, tup_agg, cel_agg, List.drop_zero, List.toList_toArray, List.size_toArray, List.length_cons, List.length_nil, mapOwn_agg, mapOwn_int, mapOwn_string, toksL_nil, toksL_cons, toks_int, toks_string, toks_agg, okv_agg, okv_int, okv_string, List.flatMap_nil, List.flatMap_cons, List.all_nil, List.all_cons, List.append_nil, List.nil_append, List.map_nil, List.map_cons, Bool.and_self, Bool.not_false, beq_self_eq_true, vnext_mk, vpush_mk, vget_nil, vput_nil, cellsIn_mk, vthaw_nil, vwrites_nil, List.getD_cons_zero, List.set_cons_zero, List.length_cons, List.length_nil, List.drop_zero, List.take_succ_cons, List.take_zero, vbin_int, vbin_bool, vbin_string, ↓vlay_free, cellsOk_free, cellF, abin_geq, abin_add, beq_self_eq_true, ge_iff_le, decide_true, decide_false, beq_self_eq_true, bb_ft, bb_tf, setAll_whole, vld48, vst48, ↓val48, ↓vfk170, Tryd.results147, ↓ain_c hX0 hX1 hX2, slit, h1, h2, ab_beq, beq_self_eq_true] <;> simp [addV, h1, h2, VV.v]
def divV (a b : Int) : VV := if b = 0 then eV 2 else if a = -9223372036854775808 ∧ b = -1 then eV 1 else iV (IntKind.i64.wrap (a.tdiv b))
theorem div_p (hX : X 147 = none) (hX0 : X 170 = none) (hX1 : X 51 = none) (hX2 : X 92 = none) (a b : Int) : Vp Tryd.prog X 147 [.string ⟨#[47]⟩, .int .i64 a, .int .i64 b] (divV a b).v := by
  unfold Vp
  refine Vf_text hX Tryd.func147 rfl (by kernel_rfl) (by show 3 ≤ _; decide) ?_
  have q1 : ((47 : UInt8) == 43) = false := rfl
  have q2 : ((47 : UInt8) == 45) = false := rfl
  have q3 : ((47 : UInt8) == 42) = false := rfl
  by_cases h0 : b = 0
  · simp -dsimp only [↓Hold_5, ↓VWP_seq, ↓VWP_region, ↓VWP_cond, ↓VWP_ret, ↓VWP_skip, ↓VWP_block, ↓VReg_one, ↓VReg_non, ↓VReg_nil, ↓VS_move, ↓VS_assign, ↓VS_binOp, ↓VS_store, ↓With_bindH, ↓With_guard, ↓Hold_1, With_some, emap_nil, ↓eget_eset, ↓ae_tmp, ↓ae_int, ↓ae_string, eget_zero, eget_succ, asBool_bool, ↓vfinish_ret, ↓vres_nil, ↓vres_cell, vtell_eq, ret1, Option.map_some, ↓reduceIte, Nat.reduceEqDiff, reduceCtorEq, Bool.false_eq_true, decide_false, Bool.not_false, Nat.zero_add, Nat.add_zero, Nat.reduceAdd, Nat.reduceLT, Nat.reduceLeDiff, true_and, and_self, List.map_cons, List.map_nil, List.all_cons, List.all_nil, tup_int, tup_str, tup_agg, cel_agg, Bool.and_true, List.drop_zero, List.toList_toArray, List.size_toArray, List.length_cons, List.length_nil, mapOwn_agg, mapOwn_int, mapOwn_string, toksL_nil, toksL_cons, toks_int, toks_string, toks_agg, okv_agg, okv_int, okv_string, List.flatMap_nil, List.flatMap_cons, List.all_nil, List.all_cons, List.append_nil, List.nil_append, List.map_nil, List.map_cons, Bool.and_true, Bool.and_self, Bool.not_false, beq_self_eq_true, vnext_mk, vpush_mk, vget_nil, vput_nil, cellsIn_mk, vthaw_nil, vwrites_nil, List.getD_cons_zero, List.set_cons_zero, List.length_cons, List.length_nil, List.drop_zero, List.take_succ_cons, List.take_zero, vbin_int, vbin_string, ↓vlay_free, cellsOk_free, cellF, abin_eql, beq_self_eq_true, decide_false, beq_self_eq_true, setAll_whole, vld48, vst48, ↓val48, ↓vfk51, Tryd.results147, ↓err_c hX1, slit, List.cons_beq_cons, q1, q2, q3, h0, beq_self_eq_true]
    simp [divV, VV.v, eV]
  · have hq : ∀ x y, abin Tryd.prog .quo 3 x y (.int .i64 a) (.int .i64 (-1)) = some (.int .i64 (IntKind.i64.wrap (a.tdiv (-1)))) := fun x y => ab_quo4 (by decide)
    by_cases h1 : a = -9223372036854775808 <;> by_cases h2 : b = -1 <;> simp -dsimp only [↓Hold_5, ↓VWP_seq, ↓VWP_region, ↓VWP_cond, ↓VWP_ret, ↓VWP_skip, ↓VWP_block, ↓VReg_one, ↓VReg_non, ↓VReg_nil, ↓VS_guard, ↓VS_move, ↓VS_assign, ↓VS_pick, ↓VS_binOp, ↓VS_store, ↓With_bindH, ↓With_guard, ↓Hold_1, With_some, emap_nil, ↓eget_eset, ↓ae_tmp, ↓ae_int, ↓ae_bool, ↓ae_string, eget_zero, eget_succ, lop_pick, asBool_bool, asGuard_bool, bb_ft, ayielded_eq, ↓dstAt_zero, ↓dstAt_succ, ↓vfinish_ret, ↓vres_nil, ↓vres_cell, vtell_eq, ret1, Option.map_some, Option.bind_some, ↓reduceIte, Nat.reduceEqDiff, reduceCtorEq, Bool.false_eq_true, decide_false, Bool.not_false, Nat.zero_add, Nat.add_zero, Nat.reduceAdd, Nat.reduceLT, Nat.reduceLeDiff, true_and, and_self, List.map_cons, List.map_nil, List.all_cons, List.all_nil, tup_int, tup_str, tup_agg, cel_agg, Bool.and_true, List.drop_zero, List.toList_toArray, List.size_toArray, List.length_cons, List.length_nil, mapOwn_agg, mapOwn_int, mapOwn_string, toksL_nil, toksL_cons, toks_int, toks_string, toks_agg, okv_agg, okv_int, okv_string, List.flatMap_nil, List.flatMap_cons, List.all_nil, List.all_cons, List.append_nil, List.nil_append, List.map_nil, List.map_cons, Bool.and_true, Bool.and_self, Bool.not_false, beq_self_eq_true, vnext_mk, vpush_mk, vget_nil, vput_nil, cellsIn_mk, vthaw_nil, vwrites_nil, List.getD_cons_zero, List.set_cons_zero, List.length_cons, List.length_nil, List.drop_zero, List.take_succ_cons, List.take_zero, vbin_int, vbin_string, ↓vlay_free, cellsOk_free, cellF, abin_eql, beq_self_eq_true, decide_false, beq_self_eq_true, bb_ft, setAll_whole, ibeq, Int.reduceNeg, vld48, vst48, ↓val48, ↓vfk51, ↓vfk92, Tryd.results147, ↓err_c hX1, ↓int_c hX2, slit, List.cons_beq_cons, q1, q2, q3, h0, h1, h2, ab_quo4 h0, hq, beq_self_eq_true] <;> simp [divV, h0, h1, h2, VV.v, eV, iV]
theorem add_c (h : AOff X) (a b : Int) {S : VH} {K : VCont} : Vcallee Tryd.prog X 147 [.string ⟨#[43]⟩, .int .i64 a, .int .i64 b] S K = K (.agg ⟨[.int .i64 (addV a b).k, .int .i64 (addV a b).n, .string (addV a b).s]⟩) [] S [] false := Vcallee_of (add_p h.reck h.ain h.err h.int a b) rfl rfl rfl
theorem div_c (h : AOff X) (a b : Int) {S : VH} {K : VCont} : Vcallee Tryd.prog X 147 [.string ⟨#[47]⟩, .int .i64 a, .int .i64 b] S K = K (.agg ⟨[.int .i64 (divV a b).k, .int .i64 (divV a b).n, .string (divV a b).s]⟩) [] S [] false := Vcallee_of (div_p h.reck h.ain h.err h.int a b) rfl rfl rfl
theorem pairadd_p (h : AOff X) (k n : Int) (s : ByteArray) (k' n' : Int) (s' : ByteArray) : Vp Tryd.prog X 96 [.string ⟨#[43]⟩, .agg ⟨[.int .i64 k, .int .i64 n, .string s]⟩, .agg ⟨[.int .i64 k', .int .i64 n', .string s']⟩] (pairF addV ⟨k, n, s⟩ ⟨k', n', s'⟩).v := by
  unfold Vp
  refine Vf_text h.pair Tryd.func96 rfl (by kernel_rfl) (by show 3 ≤ _; decide) ?_
  have q2 : ((43 : UInt8) == 38) = false := rfl
  have r1 : ((43 : UInt8) == 60) = false := rfl
  have r2 : ((43 : UInt8) == 61) = false := rfl
  have r3 : ((43 : UInt8) == 62) = false := rfl
  cases h1 : (firstF [⟨k, n, s⟩, ⟨k', n', s'⟩]).2
  · cases h2 : (numF ⟨k, n, s⟩).2.2
    · simp -dsimp only [↓Hold_5, ↓VWP_seq, ↓VWP_region, ↓VWP_cond, ↓VWP_ret, ↓VWP_skip, ↓VWP_block, ↓VReg_one, ↓VReg_non, ↓VReg_nil, ↓VS_move, ↓VS_assign, ↓VS_load, ↓VS_binOp, ↓VS_unOp, ↓VS_extract, ↓VS_box, ↓VS_buildSlice, ↓VS_store, ↓With_bindH, ↓With_guard, ↓Hold_1, With_some, emap_nil, emap_cons, ↓eget_map, ↓eget_eset, ↓ae_tmp, ↓ae_string, eget_zero, eget_succ, lop_extract, lop_not, asBool_bool, ↓vfinish_ret, ↓vres_nil, ↓vres_cell, vtell_eq, ret1, Option.map_some, ↓reduceIte, Nat.reduceEqDiff, reduceCtorEq, Bool.false_eq_true, decide_true, decide_false, Bool.not_false, List.getElem?_toArray, List.getElem?_cons_zero, List.getElem?_cons_succ, Nat.zero_add, Nat.add_zero, Nat.reduceAdd, Nat.reduceMul, Nat.reduceLT, Nat.reduceLeDiff, true_and, and_self, List.map_cons, List.map_nil, List.all_cons, List.all_nil, tup_int, tup_str, tup_agg, cel_agg, Bool.and_true, List.drop_zero, List.toList_toArray, List.size_toArray, List.length_cons, List.length_nil, mapOwn_agg, mapOwn_int, mapOwn_string, mapOwn_pointer, toksL_nil, toksL_cons, toks_int, toks_string, toks_agg, okv_agg, okv_int, okv_string, List.flatMap_nil, List.flatMap_cons, List.all_nil, List.all_cons, List.append_nil, List.nil_append, List.cons_append, List.map_nil, List.map_cons, Bool.and_true, Bool.and_self, Bool.not_false, beq_self_eq_true, vnext_mk, vpush_mk, vget_nil, vput_nil, cellsIn_mk, vturn_nil, vthaw_one, vthaw_nil, boxesOf_nil, vwrites_nil, List.getD_cons_zero, List.getD_cons_succ, List.set_cons_zero, List.set_cons_succ, List.length_cons, List.length_nil, List.drop_zero, List.take_succ_cons, List.take_zero, partsOk_nil, partsOk_cons, vfill_nil, vfill_cons, vbin_string, ↓vlay_free, ↓vbox_free, cellsOk_free, cellF, List.replicate_succ, List.replicate_zero, beq_self_eq_true, decide_true, decide_false, beq_self_eq_true, setAll_whole, vld48, vst48, ↓val48, vbd42, ↓vfk54, ↓vfk144, ↓vfk146, Tryd.results96, ↓first2_c h, ↓acmp_c h 43 r1 r2 r3, ↓number_c h.number h.right h.err, slit, List.cons_beq_cons, q2, h1, h2]
      simp [pairF, h1, h2, VV.v]
    · cases h3 : (numF ⟨k', n', s'⟩).2.2
      · simp -dsimp only [↓Hold_5, ↓VWP_seq, ↓VWP_region, ↓VWP_cond, ↓VWP_ret, ↓VWP_skip, ↓VWP_block, ↓VReg_one, ↓VReg_non, ↓VReg_nil, ↓VS_move, ↓VS_assign, ↓VS_load, ↓VS_binOp, ↓VS_unOp, ↓VS_extract, ↓VS_box, ↓VS_buildSlice, ↓VS_store, ↓With_bindH, ↓With_guard, ↓Hold_1, With_some, emap_nil, emap_cons, ↓eget_map, ↓eget_eset, ↓ae_tmp, ↓ae_string, eget_zero, eget_succ, lop_extract, lop_not, asBool_bool, ↓vfinish_ret, ↓vres_nil, ↓vres_cell, vtell_eq, ret1, Option.map_some, ↓reduceIte, Nat.reduceEqDiff, reduceCtorEq, Bool.false_eq_true, decide_true, decide_false, Bool.not_true, Bool.not_false, List.getElem?_toArray, List.getElem?_cons_zero, List.getElem?_cons_succ, Nat.zero_add, Nat.add_zero, Nat.reduceAdd, Nat.reduceMul, Nat.reduceLT, Nat.reduceLeDiff, true_and, and_self, List.map_cons, List.map_nil, List.all_cons, List.all_nil, tup_int, tup_str, tup_agg, cel_agg, Bool.and_true, List.drop_zero, List.toList_toArray, List.size_toArray, List.length_cons, List.length_nil, mapOwn_agg, mapOwn_int, mapOwn_string, mapOwn_pointer, toksL_nil, toksL_cons, toks_int, toks_string, toks_agg, okv_agg, okv_int, okv_string, List.flatMap_nil, List.flatMap_cons, List.all_nil, List.all_cons, List.append_nil, List.nil_append, List.cons_append, List.map_nil, List.map_cons, Bool.and_true, Bool.and_self, Bool.not_true, Bool.not_false, beq_self_eq_true, vnext_mk, vpush_mk, vget_nil, vput_nil, cellsIn_mk, vturn_nil, vthaw_one, vthaw_nil, boxesOf_nil, vwrites_nil, List.getD_cons_zero, List.getD_cons_succ, List.set_cons_zero, List.set_cons_succ, List.length_cons, List.length_nil, List.drop_zero, List.take_succ_cons, List.take_zero, partsOk_nil, partsOk_cons, vfill_nil, vfill_cons, vbin_string, ↓vlay_free, ↓vbox_free, cellsOk_free, cellF, List.replicate_succ, List.replicate_zero, beq_self_eq_true, decide_true, decide_false, beq_self_eq_true, setAll_whole, vld48, vst48, ↓val48, vbd42, ↓vfk54, ↓vfk144, ↓vfk146, Tryd.results96, ↓first2_c h, ↓acmp_c h 43 r1 r2 r3, ↓number_c h.number h.right h.err, slit, List.cons_beq_cons, q2, h1, h2, h3]
        simp [pairF, h1, h2, h3, VV.v]
      · simp -dsimp only [↓Hold_5, ↓VWP_seq, ↓VWP_region, ↓VWP_cond, ↓VWP_ret, ↓VWP_skip, ↓VWP_block, ↓VReg_one, ↓VReg_non, ↓VReg_nil, ↓VS_move, ↓VS_assign, ↓VS_load, ↓VS_binOp, ↓VS_unOp, ↓VS_extract, ↓VS_box, ↓VS_buildSlice, ↓VS_store, ↓With_bindH, ↓With_guard, ↓Hold_1, With_some, emap_nil, emap_cons, ↓eget_map, ↓eget_eset, ↓ae_tmp, ↓ae_string, eget_zero, eget_succ, lop_extract, lop_not, asBool_bool, ↓vfinish_ret, ↓vres_nil, ↓vres_cell, vtell_eq, ret1, Option.map_some, ↓reduceIte, Nat.reduceEqDiff, reduceCtorEq, Bool.false_eq_true, decide_true, decide_false, Bool.not_true, Bool.not_false, List.getElem?_toArray, List.getElem?_cons_zero, List.getElem?_cons_succ, Nat.zero_add, Nat.add_zero, Nat.reduceAdd, Nat.reduceMul, Nat.reduceLT, Nat.reduceLeDiff, true_and, and_self, List.map_cons, List.map_nil, List.all_cons, List.all_nil, tup_int, tup_str, tup_agg, cel_agg, Bool.and_true, List.drop_zero, List.toList_toArray, List.size_toArray, List.length_cons, List.length_nil, mapOwn_agg, mapOwn_int, mapOwn_string, mapOwn_pointer, toksL_nil, toksL_cons, toks_int, toks_string, toks_agg, okv_agg, okv_int, okv_string, List.flatMap_nil, List.flatMap_cons, List.all_nil, List.all_cons, List.append_nil, List.nil_append, List.cons_append, List.map_nil, List.map_cons, Bool.and_true, Bool.and_self, Bool.not_true, Bool.not_false, beq_self_eq_true, vnext_mk, vpush_mk, vget_nil, vput_nil, cellsIn_mk, vturn_nil, vthaw_one, vthaw_nil, boxesOf_nil, vwrites_nil, List.getD_cons_zero, List.getD_cons_succ, List.set_cons_zero, List.set_cons_succ, List.length_cons, List.length_nil, List.drop_zero, List.take_succ_cons, List.take_zero, partsOk_nil, partsOk_cons, vfill_nil, vfill_cons, vbin_string, ↓vlay_free, ↓vbox_free, cellsOk_free, cellF, List.replicate_succ, List.replicate_zero, beq_self_eq_true, decide_true, decide_false, beq_self_eq_true, setAll_whole, vld48, vst48, ↓val48, vbd42, ↓vfk54, ↓vfk144, ↓vfk146, ↓vfk147, Tryd.results96, ↓first2_c h, ↓acmp_c h 43 r1 r2 r3, ↓number_c h.number h.right h.err, ↓add_c h, slit, List.cons_beq_cons, q2, h1, h2, h3]
        simp [pairF, h1, h2, h3, VV.v]
  · simp -dsimp only [↓Hold_5, ↓VWP_seq, ↓VWP_region, ↓VWP_cond, ↓VWP_ret, ↓VReg_one, ↓VReg_non, ↓VReg_nil, ↓VS_move, ↓VS_assign, ↓VS_load, ↓VS_extract, ↓VS_box, ↓VS_buildSlice, ↓VS_store, ↓With_bindH, ↓With_guard, ↓Hold_1, With_some, emap_nil, emap_cons, ↓eget_map, ↓eget_eset, ↓ae_tmp, eget_zero, eget_succ, lop_extract, asBool_bool, ↓vfinish_ret, ↓vres_nil, ↓vres_cell, vtell_eq, ret1, Option.map_some, ↓reduceIte, Nat.reduceEqDiff, decide_true, decide_false, Bool.not_false, List.getElem?_toArray, List.getElem?_cons_zero, List.getElem?_cons_succ, Nat.zero_add, Nat.add_zero, Nat.reduceAdd, Nat.reduceMul, Nat.reduceLT, Nat.reduceLeDiff, true_and, and_self, List.map_cons, List.map_nil, List.all_cons, List.all_nil, tup_int, tup_str, tup_agg, cel_agg, List.drop_zero, List.toList_toArray, List.size_toArray, List.length_cons, List.length_nil, mapOwn_agg, mapOwn_int, mapOwn_string, mapOwn_pointer, toksL_nil, toksL_cons, toks_int, toks_string, toks_agg, okv_agg, okv_int, okv_string, List.flatMap_nil, List.flatMap_cons, List.all_nil, List.all_cons, List.append_nil, List.nil_append, List.cons_append, List.map_nil, List.map_cons, Bool.and_self, Bool.not_false, beq_self_eq_true, vnext_mk, vpush_mk, vget_nil, vput_nil, cellsIn_mk, vturn_nil, vthaw_one, vthaw_nil, boxesOf_nil, vwrites_nil, List.getD_cons_zero, List.getD_cons_succ, List.set_cons_zero, List.set_cons_succ, List.length_cons, List.length_nil, List.drop_zero, List.take_succ_cons, List.take_zero, partsOk_nil, partsOk_cons, vfill_nil, vfill_cons, ↓vlay_free, ↓vbox_free, cellsOk_free, cellF, List.replicate_succ, List.replicate_zero, beq_self_eq_true, decide_true, decide_false, beq_self_eq_true, setAll_whole, vld48, vst48, ↓val48, vbd42, ↓vfk54, Tryd.results96, ↓first2_c h, h1]
    simp [pairF, h1, VV.v]
theorem pairdiv_p (h : AOff X) (k n : Int) (s : ByteArray) (k' n' : Int) (s' : ByteArray) : Vp Tryd.prog X 96 [.string ⟨#[47]⟩, .agg ⟨[.int .i64 k, .int .i64 n, .string s]⟩, .agg ⟨[.int .i64 k', .int .i64 n', .string s']⟩] (pairF divV ⟨k, n, s⟩ ⟨k', n', s'⟩).v := by
  unfold Vp
  refine Vf_text h.pair Tryd.func96 rfl (by kernel_rfl) (by show 3 ≤ _; decide) ?_
  have q1 : ((47 : UInt8) == 43) = false := rfl
  have q2 : ((47 : UInt8) == 38) = false := rfl
  have q3 : ((47 : UInt8) == 45) = false := rfl
  have q4 : ((47 : UInt8) == 42) = false := rfl
  have r1 : ((47 : UInt8) == 60) = false := rfl
  have r2 : ((47 : UInt8) == 61) = false := rfl
  have r3 : ((47 : UInt8) == 62) = false := rfl
  cases h1 : (firstF [⟨k, n, s⟩, ⟨k', n', s'⟩]).2
  · cases h2 : (numF ⟨k, n, s⟩).2.2
    · simp -dsimp only [↓Hold_5, ↓VWP_seq, ↓VWP_region, ↓VWP_cond, ↓VWP_ret, ↓VWP_skip, ↓VWP_block, ↓VReg_one, ↓VReg_non, ↓VReg_nil, ↓VS_move, ↓VS_assign, ↓VS_load, ↓VS_binOp, ↓VS_unOp, ↓VS_extract, ↓VS_box, ↓VS_buildSlice, ↓VS_store, ↓With_bindH, ↓With_guard, ↓Hold_1, With_some, emap_nil, emap_cons, ↓eget_map, ↓eget_eset, ↓ae_tmp, ↓ae_string, eget_zero, eget_succ, lop_extract, lop_not, asBool_bool, ↓vfinish_ret, ↓vres_nil, ↓vres_cell, vtell_eq, ret1, Option.map_some, ↓reduceIte, Nat.reduceEqDiff, reduceCtorEq, Bool.false_eq_true, decide_true, decide_false, Bool.not_false, List.getElem?_toArray, List.getElem?_cons_zero, List.getElem?_cons_succ, Nat.zero_add, Nat.add_zero, Nat.reduceAdd, Nat.reduceMul, Nat.reduceLT, Nat.reduceLeDiff, true_and, and_self, List.map_cons, List.map_nil, List.all_cons, List.all_nil, tup_int, tup_str, tup_agg, cel_agg, Bool.and_true, List.drop_zero, List.toList_toArray, List.size_toArray, List.length_cons, List.length_nil, mapOwn_agg, mapOwn_int, mapOwn_string, mapOwn_pointer, toksL_nil, toksL_cons, toks_int, toks_string, toks_agg, okv_agg, okv_int, okv_string, List.flatMap_nil, List.flatMap_cons, List.all_nil, List.all_cons, List.append_nil, List.nil_append, List.cons_append, List.map_nil, List.map_cons, Bool.and_true, Bool.and_self, Bool.not_false, beq_self_eq_true, vnext_mk, vpush_mk, vget_nil, vput_nil, cellsIn_mk, vturn_nil, vthaw_one, vthaw_nil, boxesOf_nil, vwrites_nil, List.getD_cons_zero, List.getD_cons_succ, List.set_cons_zero, List.set_cons_succ, List.length_cons, List.length_nil, List.drop_zero, List.take_succ_cons, List.take_zero, partsOk_nil, partsOk_cons, vfill_nil, vfill_cons, vbin_string, ↓vlay_free, ↓vbox_free, cellsOk_free, cellF, List.replicate_succ, List.replicate_zero, beq_self_eq_true, decide_true, decide_false, beq_self_eq_true, setAll_whole, vld48, vst48, ↓val48, vbd42, ↓vfk54, ↓vfk144, ↓vfk146, Tryd.results96, ↓first2_c h, ↓acmp_c h 47 r1 r2 r3, ↓number_c h.number h.right h.err, slit, List.cons_beq_cons, q1, q2, q3, q4, h1, h2]
      simp [pairF, h1, h2, VV.v]
    · cases h3 : (numF ⟨k', n', s'⟩).2.2
      · simp -dsimp only [↓Hold_5, ↓VWP_seq, ↓VWP_region, ↓VWP_cond, ↓VWP_ret, ↓VWP_skip, ↓VWP_block, ↓VReg_one, ↓VReg_non, ↓VReg_nil, ↓VS_move, ↓VS_assign, ↓VS_load, ↓VS_binOp, ↓VS_unOp, ↓VS_extract, ↓VS_box, ↓VS_buildSlice, ↓VS_store, ↓With_bindH, ↓With_guard, ↓Hold_1, With_some, emap_nil, emap_cons, ↓eget_map, ↓eget_eset, ↓ae_tmp, ↓ae_string, eget_zero, eget_succ, lop_extract, lop_not, asBool_bool, ↓vfinish_ret, ↓vres_nil, ↓vres_cell, vtell_eq, ret1, Option.map_some, ↓reduceIte, Nat.reduceEqDiff, reduceCtorEq, Bool.false_eq_true, decide_true, decide_false, Bool.not_true, Bool.not_false, List.getElem?_toArray, List.getElem?_cons_zero, List.getElem?_cons_succ, Nat.zero_add, Nat.add_zero, Nat.reduceAdd, Nat.reduceMul, Nat.reduceLT, Nat.reduceLeDiff, true_and, and_self, List.map_cons, List.map_nil, List.all_cons, List.all_nil, tup_int, tup_str, tup_agg, cel_agg, Bool.and_true, List.drop_zero, List.toList_toArray, List.size_toArray, List.length_cons, List.length_nil, mapOwn_agg, mapOwn_int, mapOwn_string, mapOwn_pointer, toksL_nil, toksL_cons, toks_int, toks_string, toks_agg, okv_agg, okv_int, okv_string, List.flatMap_nil, List.flatMap_cons, List.all_nil, List.all_cons, List.append_nil, List.nil_append, List.cons_append, List.map_nil, List.map_cons, Bool.and_true, Bool.and_self, Bool.not_true, Bool.not_false, beq_self_eq_true, vnext_mk, vpush_mk, vget_nil, vput_nil, cellsIn_mk, vturn_nil, vthaw_one, vthaw_nil, boxesOf_nil, vwrites_nil, List.getD_cons_zero, List.getD_cons_succ, List.set_cons_zero, List.set_cons_succ, List.length_cons, List.length_nil, List.drop_zero, List.take_succ_cons, List.take_zero, partsOk_nil, partsOk_cons, vfill_nil, vfill_cons, vbin_string, ↓vlay_free, ↓vbox_free, cellsOk_free, cellF, List.replicate_succ, List.replicate_zero, beq_self_eq_true, decide_true, decide_false, beq_self_eq_true, setAll_whole, vld48, vst48, ↓val48, vbd42, ↓vfk54, ↓vfk144, ↓vfk146, Tryd.results96, ↓first2_c h, ↓acmp_c h 47 r1 r2 r3, ↓number_c h.number h.right h.err, slit, List.cons_beq_cons, q1, q2, q3, q4, h1, h2, h3]
        simp [pairF, h1, h2, h3, VV.v]
      · simp -dsimp only [↓Hold_5, ↓VWP_seq, ↓VWP_region, ↓VWP_cond, ↓VWP_ret, ↓VWP_skip, ↓VWP_block, ↓VReg_one, ↓VReg_non, ↓VReg_nil, ↓VS_move, ↓VS_assign, ↓VS_load, ↓VS_binOp, ↓VS_unOp, ↓VS_extract, ↓VS_box, ↓VS_buildSlice, ↓VS_store, ↓With_bindH, ↓With_guard, ↓Hold_1, With_some, emap_nil, emap_cons, ↓eget_map, ↓eget_eset, ↓ae_tmp, ↓ae_string, eget_zero, eget_succ, lop_extract, lop_not, asBool_bool, ↓vfinish_ret, ↓vres_nil, ↓vres_cell, vtell_eq, ret1, Option.map_some, ↓reduceIte, Nat.reduceEqDiff, reduceCtorEq, Bool.false_eq_true, decide_true, decide_false, Bool.not_true, Bool.not_false, List.getElem?_toArray, List.getElem?_cons_zero, List.getElem?_cons_succ, Nat.zero_add, Nat.add_zero, Nat.reduceAdd, Nat.reduceMul, Nat.reduceLT, Nat.reduceLeDiff, true_and, and_self, List.map_cons, List.map_nil, List.all_cons, List.all_nil, tup_int, tup_str, tup_agg, cel_agg, Bool.and_true, List.drop_zero, List.toList_toArray, List.size_toArray, List.length_cons, List.length_nil, mapOwn_agg, mapOwn_int, mapOwn_string, mapOwn_pointer, toksL_nil, toksL_cons, toks_int, toks_string, toks_agg, okv_agg, okv_int, okv_string, List.flatMap_nil, List.flatMap_cons, List.all_nil, List.all_cons, List.append_nil, List.nil_append, List.cons_append, List.map_nil, List.map_cons, Bool.and_true, Bool.and_self, Bool.not_true, Bool.not_false, beq_self_eq_true, vnext_mk, vpush_mk, vget_nil, vput_nil, cellsIn_mk, vturn_nil, vthaw_one, vthaw_nil, boxesOf_nil, vwrites_nil, List.getD_cons_zero, List.getD_cons_succ, List.set_cons_zero, List.set_cons_succ, List.length_cons, List.length_nil, List.drop_zero, List.take_succ_cons, List.take_zero, partsOk_nil, partsOk_cons, vfill_nil, vfill_cons, vbin_string, ↓vlay_free, ↓vbox_free, cellsOk_free, cellF, List.replicate_succ, List.replicate_zero, beq_self_eq_true, decide_true, decide_false, beq_self_eq_true, setAll_whole, vld48, vst48, ↓val48, vbd42, ↓vfk54, ↓vfk144, ↓vfk146, ↓vfk147, Tryd.results96, ↓first2_c h, ↓acmp_c h 47 r1 r2 r3, ↓number_c h.number h.right h.err, ↓div_c h, slit, List.cons_beq_cons, q1, q2, q3, q4, h1, h2, h3]
        simp [pairF, h1, h2, h3, VV.v]
  · simp -dsimp only [↓Hold_5, ↓VWP_seq, ↓VWP_region, ↓VWP_cond, ↓VWP_ret, ↓VReg_one, ↓VReg_non, ↓VReg_nil, ↓VS_move, ↓VS_assign, ↓VS_load, ↓VS_extract, ↓VS_box, ↓VS_buildSlice, ↓VS_store, ↓With_bindH, ↓With_guard, ↓Hold_1, With_some, emap_nil, emap_cons, ↓eget_map, ↓eget_eset, ↓ae_tmp, eget_zero, eget_succ, lop_extract, asBool_bool, ↓vfinish_ret, ↓vres_nil, ↓vres_cell, vtell_eq, ret1, Option.map_some, ↓reduceIte, Nat.reduceEqDiff, decide_true, decide_false, Bool.not_false, List.getElem?_toArray, List.getElem?_cons_zero, List.getElem?_cons_succ, Nat.zero_add, Nat.add_zero, Nat.reduceAdd, Nat.reduceMul, Nat.reduceLT, Nat.reduceLeDiff, true_and, and_self, List.map_cons, List.map_nil, List.all_cons, List.all_nil, tup_int, tup_str, tup_agg, cel_agg, List.drop_zero, List.toList_toArray, List.size_toArray, List.length_cons, List.length_nil, mapOwn_agg, mapOwn_int, mapOwn_string, mapOwn_pointer, toksL_nil, toksL_cons, toks_int, toks_string, toks_agg, okv_agg, okv_int, okv_string, List.flatMap_nil, List.flatMap_cons, List.all_nil, List.all_cons, List.append_nil, List.nil_append, List.cons_append, List.map_nil, List.map_cons, Bool.and_self, Bool.not_false, beq_self_eq_true, vnext_mk, vpush_mk, vget_nil, vput_nil, cellsIn_mk, vturn_nil, vthaw_one, vthaw_nil, boxesOf_nil, vwrites_nil, List.getD_cons_zero, List.getD_cons_succ, List.set_cons_zero, List.set_cons_succ, List.length_cons, List.length_nil, List.drop_zero, List.take_succ_cons, List.take_zero, partsOk_nil, partsOk_cons, vfill_nil, vfill_cons, ↓vlay_free, ↓vbox_free, cellsOk_free, cellF, List.replicate_succ, List.replicate_zero, beq_self_eq_true, decide_true, decide_false, beq_self_eq_true, setAll_whole, vld48, vst48, ↓val48, vbd42, ↓vfk54, Tryd.results96, ↓first2_c h, h1]
    simp [pairF, h1, VV.v]
theorem pairadd_c (h : AOff X) (k n : Int) (s : ByteArray) (k' n' : Int) (s' : ByteArray) {S : VH} {K : VCont} : Vcallee Tryd.prog X 96 [.string ⟨#[43]⟩, .agg ⟨[.int .i64 k, .int .i64 n, .string s]⟩, .agg ⟨[.int .i64 k', .int .i64 n', .string s']⟩] S K = K (.agg ⟨[.int .i64 (pairF addV ⟨k, n, s⟩ ⟨k', n', s'⟩).k, .int .i64 (pairF addV ⟨k, n, s⟩ ⟨k', n', s'⟩).n, .string (pairF addV ⟨k, n, s⟩ ⟨k', n', s'⟩).s]⟩) [] S [] false := Vcallee_of (pairadd_p h k n s k' n' s') rfl rfl rfl
theorem pairdiv_c (h : AOff X) (k n : Int) (s : ByteArray) (k' n' : Int) (s' : ByteArray) {S : VH} {K : VCont} : Vcallee Tryd.prog X 96 [.string ⟨#[47]⟩, .agg ⟨[.int .i64 k, .int .i64 n, .string s]⟩, .agg ⟨[.int .i64 k', .int .i64 n', .string s']⟩] S K = K (.agg ⟨[.int .i64 (pairF divV ⟨k, n, s⟩ ⟨k', n', s'⟩).k, .int .i64 (pairF divV ⟨k, n, s⟩ ⟨k', n', s'⟩).n, .string (pairF divV ⟨k, n, s⟩ ⟨k', n', s'⟩).s]⟩) [] S [] false := Vcallee_of (pairdiv_p h k n s k' n' s') rfl rfl rfl
end
end Go.Proofs.YtmdpggecelheoaaDoor.Abs
/- Few: how many rows and values there are. -/
set_option linter.unusedVariables false
set_option linter.unusedSimpArgs false
set_option maxRecDepth 4000
set_option maxHeartbeats 0
namespace Go.Proofs.YtmdpggecelheoaaDoor.Abs
open Go
attribute [local irreducible] Hold VReg Vf Vc VWP With VStp Vcallee Vp VE
/-- The texts of the first values are short. -/
def shortF (l : List VV) : Bool := (l.take 300).all fun x => decide ((x.s.size : Int) ≤ 400)
def fewGo : List RW → Int → Bool
  | [], n => decide (n ≤ 300)
  | r :: rs, n => if n < 1000 then (if shortF r.l then fewGo rs (n + 1 + r.l.length) else false) else decide (n ≤ 300)
def fewF (rs : List RW) : Bool := fewGo rs 0
theorem fewGo_sum : ∀ (rs : List RW) (n : Int), 0 ≤ n → fewGo rs n = true → n + (rs.map fun r => (1 + r.l.length : Int)).sum ≤ 300
  | [], n, h0, h => by simpa [fewGo] using h
  | r :: rs, n, h0, h => by
    unfold fewGo at h
    split at h
    · split at h
      · have := fewGo_sum rs _ (by omega) h
        simp only [List.map_cons, List.sum_cons]
        omega
      · cases h
    · simp at h; omega
theorem shortF_at (l : List VV) : shortF l = true ↔ ∀ j, (h : j < l.length) → j < 300 → (l[j].s.size : Int) ≤ 400 := by
  unfold shortF
  rw [List.all_eq_true]
  constructor
  · intro h j hj h3
    have h2 : j < (l.take 300).length := by rw [List.length_take]; omega
    have := h (l.take 300)[j] (List.getElem_mem h2)
    rw [List.getElem_take] at this
    simpa using this
  · intro h x hx
    obtain ⟨j, hj, rfl⟩ := List.getElem_of_mem hx
    rw [List.length_take] at hj
    rw [List.getElem_take]
    simpa using h j (by omega) (by omega)
theorem few_p {X : VOuter} (hX : X 32 = none) (c : Bool) (d d' : Nat) (rs : List RW) (hl : rs.length ≤ 140737488355328) (hr : ∀ r ∈ rs, r.l.length ≤ 140737488355328) : Vp Tryd.prog X 32 [sl c d 1 (rs.map (RW.v d'))] (.bool (fewF rs)) := by
  unfold Vp
  refine Vf_text hX Tryd.func32 rfl (by kernel_rfl) (by show 1 ≤ _; decide) ?_
  simp -dsimp only [↓VWP_seq, ↓VWP_region, ↓VWP_block, ↓VWP_loop, ↓VReg_one, ↓VReg_nil, ↓VS_assign, ↓Hold_1, With_some, emap_nil, ↓ae_int, ↓ae_bool]
  refine Vc_loop (fun m e S => ∃ (i : Nat) (n : Int), m = rs.length - i ∧ i ≤ rs.length ∧ eget e 0 = sl c d 1 (rs.map (RW.v d')) ∧ eget e 3 = .int .i64 n ∧ eget e 4 = .int .i64 i ∧ 0 ≤ n ∧ n ≤ 140737488365328 ∧ fewF rs = fewGo (rs.drop i) n ∧ S = ⟨[], [], []⟩) rs.length ?_ ?_
  · refine ⟨0, 0, rfl, Nat.zero_le _, ?_, ?_, ?_, by omega, by omega, rfl, rfl⟩ <;> simp only [↓eget_eset, eget_zero, ↓reduceIte, Nat.reduceEqDiff, reduceCtorEq] <;> rfl
  · rintro m e S ⟨i, n, rfl, hi, e0, e3, e4, n0, n1, hf, rfl⟩
    refine VWP_Vc _ _ _ _ ?_
    by_cases hin : i < rs.length
    · have hlt : (i : Int) < rs.length := by omega
      have h0 : (0 : Int) ≤ i := by omega
      by_cases hn : n < 1000
      · have hx : (rs.map (RW.v d'))[i]? = some (rs[i].v d') := by simp [hin]
        have hrl := hr rs[i] (List.getElem_mem hin)
        rw [List.drop_eq_getElem_cons hin] at hf
        generalize rs[i] = x at hx hf hrl
        obtain ⟨c', l⟩ := x
        simp only [RW.v] at hx
        dsimp only at hf hrl
        have w1 : IntKind.i64.wrap (n + 1) = n + 1 := wrap_id (by omega) (by omega)
        have w2 : IntKind.i64.wrap (n + 1 + l.length) = n + 1 + l.length := wrap_id (by omega) (by omega)
        simp -dsimp only [cellV_sl, ↓VWP_seq, ↓VWP_region, ↓VWP_cond, ↓VWP_skip, ↓VWP_block, ↓VWP_loop, ↓VReg_one, ↓VReg_nil, ↓VS_guard, ↓VS_move, ↓VS_assign, ↓VS_pick, ↓VS_load, ↓VS_binOp, ↓VS_indexAddr, ↓VS_len, ↓Hold_1, With_some, emap_nil, ↓eget_eset, ↓ae_tmp, ↓ae_int, lop_pick, asBool_bool, asGuard_bool, ayielded_eq, ↓dstAt_zero, ↓dstAt_succ, Option.map_some, Option.bind_some, ↓reduceIte, Nat.reduceEqDiff, reduceCtorEq, decide_true, beq_self_eq_true, vload_at, vbin_int, abin_lss, abin_add, beq_self_eq_true, Int.toNat_natCast, decide_true, beq_self_eq_true, vgt42, vis46, vls46, vls42, e0, e3, e4, hlt, h0, hn, hx, w1, w2, List.length_map]
        refine Vc_loop (fun m e S => ∃ j : Nat, m = l.length - j ∧ j ≤ l.length ∧ eget e 0 = sl c d 1 (rs.map (RW.v d')) ∧ eget e 3 = .int .i64 (n + 1 + l.length) ∧ eget e 4 = .int .i64 i ∧ eget e 5 = .int .i64 j ∧ (∀ q, (h : q < l.length) → q < j → (l[q].s.size : Int) ≤ 400) ∧ S = ⟨[], [], []⟩) l.length ?_ ?_
        · refine ⟨0, rfl, Nat.zero_le _, ?_, ?_, ?_, ?_, fun q _ h => absurd h (Nat.not_lt_zero q), rfl⟩ <;> simp only [↓eget_eset, ↓reduceIte, Nat.reduceEqDiff, reduceCtorEq, e0, e4] <;> rfl
        · rintro m e S ⟨j, rfl, hj, e0, e3, e4, e5, hall, rfl⟩
          refine VWP_Vc _ _ _ _ ?_
          have hnum : ((i : Int) + 1) = ((i + 1 : Nat) : Int) := by omega
          have hwr : IntKind.i64.wrap ((i : Int) + 1) = ((i + 1 : Nat) : Int) := by rw [hnum]; exact wrap_id (by omega) (by omega)
          by_cases hjn : j < l.length
          · have hlt : (j : Int) < l.length := by omega
            have h0j : (0 : Int) ≤ j := by omega
            by_cases h3 : (j : Int) < 300
            · have hxj : (l.map VV.v)[j]? = some l[j].v := by simp [hjn]
              have hnumj : ((j : Int) + 1) = ((j + 1 : Nat) : Int) := by omega
              have hwrj : IntKind.i64.wrap ((j : Int) + 1) = ((j + 1 : Nat) : Int) := by rw [hnumj]; exact wrap_id (by omega) (by omega)
              have hs : l[j].s.size = l[j].s.size := rfl
              by_cases h4 : (400 : Int) < l[j].s.size
              · have hsh : shortF l = false := by
                  rw [Bool.eq_false_iff, Ne, shortF_at]
                  intro hh
                  have := hh j hjn (by omega)
                  omega
                generalize l[j] = x at hxj h4
                obtain ⟨k, m, s⟩ := x
                simp only [VV.v] at hxj
                simp -dsimp only [cellV_sl, ↓VWP_seq, ↓VWP_region, ↓VWP_cond, ↓VWP_ret, ↓VWP_skip, ↓VWP_block, ↓VReg_one, ↓VReg_nil, ↓VS_guard, ↓VS_move, ↓VS_assign, ↓VS_pick, ↓VS_load, ↓VS_binOp, ↓VS_fieldAddr, ↓VS_indexAddr, ↓VS_len, ↓With_guard, ↓Hold_1, ↓Hold_3, With_some, emap_nil, ↓eget_eset, ↓ae_tmp, ↓ae_int, ↓ae_bool, lop_pick, asBool_bool, asGuard_bool, ayielded_eq, ↓dstAt_zero, ↓dstAt_succ, ↓vfinish_ret, ↓vres_nil, ↓vres_tmp, vtell_eq, ret1, Option.map_some, Option.bind_some, ↓reduceIte, Nat.reduceEqDiff, reduceCtorEq, Bool.false_eq_true, decide_true, List.getElem?_cons_zero, List.getElem?_cons_succ, true_and, List.toList_toArray, List.length_nil, mapOwn_bool, toks_bool, okv_bool, beq_self_eq_true, vthaw_nil, vwrites_nil, List.length_nil, vload_at, vfield_at, cellV_string, isAggV_string, vbin_int, abin_lss, abin_gtr, beq_self_eq_true, Int.toNat_natCast, gt_iff_lt, decide_true, beq_self_eq_true, vgt42, vgt9, vpt48_2, vis46, vis42, vls42, vlr9, Tryd.results32, e0, e4, e5, hlt, h0, h0j, hx, hxj, h3, h4, List.length_map]
                rw [hf, fewGo, if_pos hn]
                simp [hsh]
              · have hle : (l[j].s.size : Int) ≤ 400 := by omega
                generalize hX2 : l[j] = x at hxj h4 hle
                obtain ⟨k, m, s⟩ := x
                simp only [VV.v] at hxj
                simp -dsimp only [cellV_sl, ↓VWP_seq, ↓VWP_region, ↓VWP_cond, ↓VWP_skip, ↓VWP_block, ↓VReg_one, ↓VReg_nil, ↓VS_guard, ↓VS_move, ↓VS_assign, ↓VS_pick, ↓VS_load, ↓VS_binOp, ↓VS_fieldAddr, ↓VS_indexAddr, ↓VS_len, ↓Hold_1, With_some, emap_nil, ↓eget_eset, ↓ae_tmp, ↓ae_int, lop_pick, asBool_bool, asGuard_bool, ayielded_eq, ↓dstAt_zero, ↓dstAt_succ, Option.map_some, Option.bind_some, ↓reduceIte, Nat.reduceEqDiff, reduceCtorEq, Bool.false_eq_true, decide_true, decide_false, List.getElem?_cons_zero, List.getElem?_cons_succ, and_true, true_and, beq_self_eq_true, vload_at, vfield_at, cellV_string, isAggV_string, vbin_int, abin_lss, abin_gtr, abin_add, beq_self_eq_true, Int.toNat_natCast, gt_iff_lt, decide_true, decide_false, beq_self_eq_true, vgt42, vgt9, vpt48_2, vis46, vis42, vls42, vlr9, e0, e3, e4, e5, hlt, h0, h0j, hx, hxj, h3, h4, List.length_map]
                exact ⟨l.length - (j + 1), by omega, j + 1, rfl, by omega, by rw [hwrj], fun q hq h => by
                  rcases Nat.lt_succ_iff_lt_or_eq.1 h with h | rfl
                  · exact hall q hq h
                  · rw [hX2]; exact hle⟩
            · have hsh : shortF l = true := by
                rw [shortF_at]
                intro q hq h
                exact hall q hq (by omega)
              simp -dsimp only [cellV_sl, ↓VWP_seq, ↓VWP_region, ↓VWP_cond, ↓VWP_exit, ↓VReg_one, ↓VReg_nil, ↓VS_guard, ↓VS_move, ↓VS_assign, ↓VS_pick, ↓VS_load, ↓VS_binOp, ↓VS_indexAddr, ↓VS_len, ↓Hold_1, ↓Hold_3, With_some, emap_nil, ↓eget_eset, ↓ae_tmp, ↓ae_int, lop_pick, asBool_bool, asGuard_bool, ayielded_eq, ↓dstAt_zero, ↓dstAt_succ, Option.map_some, Option.bind_some, ↓reduceIte, Nat.reduceEqDiff, reduceCtorEq, Bool.false_eq_true, decide_true, decide_false, and_true, true_and, beq_self_eq_true, vload_at, vbin_int, abin_lss, abin_add, beq_self_eq_true, Int.toNat_natCast, decide_true, decide_false, beq_self_eq_true, vgt42, vis46, vls42, e0, e3, e4, e5, hlt, h0, hx, h3, List.length_map]
              exact ⟨rs.length - (i + 1), by omega, i + 1, n + 1 + l.length, rfl, by omega, rfl, by rw [hwr], by omega, by omega, by rw [hf, fewGo, if_pos hn]; simp [hsh]⟩
          · obtain rfl : j = l.length := by omega
            have hlt : ¬ ((l.length : Int) < l.length) := by omega
            have hsh : shortF l = true := by
              rw [shortF_at]
              intro q hq h
              exact hall q hq hq
            simp -dsimp only [cellV_sl, ↓VWP_seq, ↓VWP_region, ↓VWP_cond, ↓VWP_exit, ↓VReg_one, ↓VReg_nil, ↓VS_guard, ↓VS_move, ↓VS_assign, ↓VS_pick, ↓VS_load, ↓VS_binOp, ↓VS_indexAddr, ↓VS_len, ↓Hold_1, ↓Hold_3, With_some, emap_nil, ↓eget_eset, ↓ae_tmp, ↓ae_int, ↓ae_bool, lop_pick, asBool_bool, asGuard_bool, bb_ft, ayielded_eq, ↓dstAt_zero, ↓dstAt_succ, Option.map_some, Option.bind_some, ↓reduceIte, Nat.reduceEqDiff, reduceCtorEq, Bool.false_eq_true, decide_false, and_true, true_and, vload_at, vbin_int, abin_lss, abin_add, Int.toNat_natCast, decide_false, bb_ft, vgt42, vis46, vls42, e0, e3, e4, e5, hlt, h0, hx, List.length_map]
            exact ⟨rs.length - (i + 1), by omega, i + 1, n + 1 + l.length, rfl, by omega, rfl, by rw [hwr], by omega, by omega, by rw [hf, fewGo, if_pos hn]; simp [hsh]⟩
      · simp -dsimp only [↓VWP_seq, ↓VWP_region, ↓VWP_cond, ↓VWP_ret, ↓VWP_exit, ↓VReg_one, ↓VReg_nil, ↓VS_guard, ↓VS_move, ↓VS_assign, ↓VS_pick, ↓VS_binOp, ↓VS_len, ↓With_guard, ↓Hold_1, ↓Hold_3, With_some, emap_nil, ↓eget_eset, ↓ae_tmp, ↓ae_int, lop_pick, asBool_bool, asGuard_bool, ayielded_eq, ↓dstAt_zero, ↓dstAt_succ, ↓vfinish_ret, ↓vres_nil, ↓vres_tmp, vtell_eq, ret1, Option.map_some, Option.bind_some, ↓reduceIte, Nat.reduceEqDiff, reduceCtorEq, Bool.false_eq_true, decide_true, decide_false, true_and, List.toList_toArray, List.length_nil, mapOwn_bool, toks_bool, okv_bool, beq_self_eq_true, vthaw_nil, vwrites_nil, List.length_nil, vbin_int, abin_lss, abin_leq, beq_self_eq_true, decide_true, decide_false, beq_self_eq_true, vls46, Tryd.results32, e0, e3, e4, hlt, hn, List.length_map]
        rw [hf, List.drop_eq_getElem_cons hin, fewGo, if_neg hn]
    · obtain rfl : i = rs.length := by omega
      have hlt : ¬ ((rs.length : Int) < rs.length) := by omega
      simp -dsimp only [↓VWP_seq, ↓VWP_region, ↓VWP_cond, ↓VWP_ret, ↓VWP_exit, ↓VReg_one, ↓VReg_nil, ↓VS_guard, ↓VS_move, ↓VS_assign, ↓VS_pick, ↓VS_binOp, ↓VS_len, ↓With_guard, ↓Hold_1, ↓Hold_3, With_some, emap_nil, ↓eget_eset, ↓ae_tmp, ↓ae_int, ↓ae_bool, lop_pick, asBool_bool, asGuard_bool, bb_ft, ayielded_eq, ↓dstAt_zero, ↓dstAt_succ, ↓vfinish_ret, ↓vres_nil, ↓vres_tmp, vtell_eq, ret1, Option.map_some, Option.bind_some, ↓reduceIte, Nat.reduceEqDiff, reduceCtorEq, Bool.false_eq_true, decide_false, true_and, List.toList_toArray, List.length_nil, mapOwn_bool, toks_bool, okv_bool, vthaw_nil, vwrites_nil, List.length_nil, vbin_int, abin_lss, abin_leq, decide_false, bb_ft, vls46, Tryd.results32, e0, e3, e4, hlt, List.length_map]
      rw [hf, List.drop_length, fewGo]
end Go.Proofs.YtmdpggecelheoaaDoor.Abs
/- The reference: right values; a choice. -/
set_option linter.unusedVariables false
set_option linter.unusedSimpArgs false
set_option maxRecDepth 4000
set_option maxHeartbeats 0
namespace Go.Proofs.YtmdpggecelheoaaDoor.Abs
open Go
attribute [local irreducible] Hold VReg Vf Vc VWP With VStp Vcallee Vp VE
theorem qright_p {X : VOuter} (hX : X 34 = none) (k n : Int) (s : ByteArray) : Vp Tryd.prog X 34 [.agg ⟨[.int .i64 k, .int .i64 n, .string s]⟩] (.bool (rightF ⟨k, n, s⟩)) := by
  unfold Vp
  refine Vf_text hX Tryd.func34 rfl (by kernel_rfl) (by show 1 ≤ _; decide) ?_
  have hl : ((s.size : Int) ≤ 200) ↔ s.size ≤ 200 := by omega
  unfold rightF
  by_cases k0 : k = 0
  · subst k0
    by_cases h1 : n = 0 <;> by_cases h2 : s.size = 0 <;> simp -dsimp only [↓VWP_seq, ↓VWP_region, ↓VWP_cond, ↓VWP_ret, ↓VWP_block, ↓VReg_one, ↓VReg_nil, ↓VS_guard, ↓VS_move, ↓VS_assign, ↓VS_pick, ↓VS_load, ↓VS_binOp, ↓VS_fieldAddr, ↓VS_box, ↓With_guard, ↓Hold_1, With_some, emap_nil, ↓eget_eset, ↓ae_tmp, ↓ae_int, ↓ae_bool, ↓ae_string, eget_zero, lop_pick, asBool_bool, asGuard_bool, bb_ft, ayielded_eq, ↓dstAt_zero, ↓dstAt_succ, ↓vfinish_ret, ↓vres_nil, ↓vres_tmp, vtell_eq, ret1, Option.map_some, Option.bind_some, ↓reduceIte, Nat.reduceEqDiff, Bool.false_eq_true, decide_true, decide_false, Bool.not_false, List.getElem?_cons_zero, List.getElem?_cons_succ, Nat.zero_add, Nat.add_zero, and_self, List.all_cons, List.all_nil, tup_int, tup_str, tup_agg, cel_agg, Bool.and_true, List.toList_toArray, List.length_nil, mapOwn_bool, toksL_nil, toksL_cons, toks_int, toks_bool, toks_string, okv_bool, okv_int, okv_string, List.all_nil, List.all_cons, List.append_nil, List.nil_append, Bool.and_true, Bool.and_false, Bool.and_self, Bool.not_false, beq_self_eq_true, vnext_mk, vpush_mk, vget_nil, cellsIn_mk, vthaw_nil, vwrites_nil, List.getD_cons_zero, List.length_nil, vbin_int, vbin_string, ↓vbox_free, cellsOk_free, cellF, abin_eql, beq_self_eq_true, decide_true, decide_false, beq_self_eq_true, bb_ft, ibeq, vld3, vld9, vfp48_0, vfp48_1, vfp48_2, Tryd.results34, sempty, h1, h2]
  · by_cases k1 : k = 1
    · subst k1
      by_cases h2 : s.size = 0 <;> simp -dsimp only [↓VWP_seq, ↓VWP_region, ↓VWP_cond, ↓VWP_ret, ↓VWP_block, ↓VReg_one, ↓VReg_nil, ↓VS_assign, ↓VS_load, ↓VS_binOp, ↓VS_fieldAddr, ↓VS_box, ↓With_guard, ↓Hold_1, With_some, emap_nil, ↓eget_eset, ↓ae_tmp, ↓ae_int, ↓ae_bool, ↓ae_string, eget_zero, asBool_bool, ↓vfinish_ret, ↓vres_nil, ↓vres_tmp, vtell_eq, ret1, Option.map_some, Option.bind_some, ↓reduceIte, Nat.reduceEqDiff, Bool.false_eq_true, decide_true, decide_false, Bool.not_false, List.getElem?_cons_zero, List.getElem?_cons_succ, Nat.zero_add, Nat.add_zero, and_self, List.all_cons, List.all_nil, tup_int, tup_str, tup_agg, cel_agg, List.toList_toArray, List.length_nil, mapOwn_bool, toksL_nil, toksL_cons, toks_int, toks_bool, toks_string, okv_bool, okv_int, okv_string, List.all_nil, List.all_cons, List.append_nil, List.nil_append, Bool.and_self, Bool.not_false, beq_self_eq_true, vnext_mk, vpush_mk, vget_nil, cellsIn_mk, vthaw_nil, vwrites_nil, List.getD_cons_zero, List.length_nil, vbin_int, vbin_string, ↓vbox_free, cellsOk_free, cellF, abin_eql, beq_self_eq_true, decide_true, decide_false, beq_self_eq_true, ibeq, vld3, vld9, vfp48_0, vfp48_2, Tryd.results34, sempty, h2, k0]
    · by_cases k2 : k = 2
      · subst k2
        by_cases h1 : n = 0 <;> by_cases h2 : s.size ≤ 200 <;> simp -dsimp only [↓VWP_seq, ↓VWP_region, ↓VWP_cond, ↓VWP_ret, ↓VWP_block, ↓VReg_one, ↓VReg_nil, ↓VS_guard, ↓VS_move, ↓VS_assign, ↓VS_pick, ↓VS_load, ↓VS_binOp, ↓VS_fieldAddr, ↓VS_len, ↓VS_box, ↓With_guard, ↓Hold_1, With_some, emap_nil, ↓eget_eset, ↓ae_tmp, ↓ae_int, ↓ae_bool, eget_zero, lop_pick, asBool_bool, asGuard_bool, bb_ft, ayielded_eq, ↓dstAt_zero, ↓dstAt_succ, ↓vfinish_ret, ↓vres_nil, ↓vres_tmp, vtell_eq, ret1, Option.map_some, Option.bind_some, ↓reduceIte, Nat.reduceEqDiff, Bool.false_eq_true, decide_true, decide_false, Bool.not_false, List.getElem?_cons_zero, List.getElem?_cons_succ, Nat.zero_add, Nat.add_zero, and_self, List.all_cons, List.all_nil, tup_int, tup_str, tup_agg, cel_agg, Bool.and_true, List.toList_toArray, List.length_nil, mapOwn_bool, toksL_nil, toksL_cons, toks_int, toks_bool, toks_string, okv_bool, okv_int, okv_string, List.all_nil, List.all_cons, List.append_nil, List.nil_append, Bool.and_true, Bool.and_false, Bool.and_self, Bool.not_false, beq_self_eq_true, vnext_mk, vpush_mk, vget_nil, cellsIn_mk, vthaw_nil, vwrites_nil, List.getD_cons_zero, List.length_nil, vbin_int, ↓vbox_free, cellsOk_free, cellF, abin_eql, abin_leq, beq_self_eq_true, decide_true, decide_false, beq_self_eq_true, bb_ft, ibeq, vld3, vld9, vfp48_0, vfp48_1, vfp48_2, vlr9, Tryd.results34, h1, h2, hl, k0, k1]
      · by_cases k3 : k = 3
        · subst k3
          by_cases h1 : n = 0 <;> by_cases h3 : n = 1 <;> by_cases h2 : s.size = 0 <;> simp -dsimp only [↓VWP_seq, ↓VWP_region, ↓VWP_cond, ↓VWP_ret, ↓VWP_block, ↓VReg_one, ↓VReg_nil, ↓VS_guard, ↓VS_move, ↓VS_assign, ↓VS_pick, ↓VS_load, ↓VS_binOp, ↓VS_fieldAddr, ↓VS_box, ↓With_guard, ↓Hold_1, With_some, emap_nil, ↓eget_eset, ↓ae_tmp, ↓ae_int, ↓ae_bool, ↓ae_string, eget_zero, lop_pick, asBool_bool, asGuard_bool, bb_ft, bb_tf, ayielded_eq, ↓dstAt_zero, ↓dstAt_succ, ↓vfinish_ret, ↓vres_nil, ↓vres_tmp, vtell_eq, ret1, Option.map_some, Option.bind_some, ↓reduceIte, Nat.reduceEqDiff, Bool.false_eq_true, decide_true, decide_false, Bool.not_false, List.getElem?_cons_zero, List.getElem?_cons_succ, Nat.zero_add, Nat.add_zero, and_self, List.all_cons, List.all_nil, tup_int, tup_str, tup_agg, cel_agg, Bool.and_true, List.toList_toArray, List.length_nil, mapOwn_bool, toksL_nil, toksL_cons, toks_int, toks_bool, toks_string, okv_bool, okv_int, okv_string, List.all_nil, List.all_cons, List.append_nil, List.nil_append, Bool.and_true, Bool.and_false, Bool.and_self, Bool.not_false, Bool.false_or, Bool.or_false, beq_self_eq_true, vnext_mk, vpush_mk, vget_nil, cellsIn_mk, vthaw_nil, vwrites_nil, List.getD_cons_zero, List.length_nil, vbin_int, vbin_string, ↓vbox_free, cellsOk_free, cellF, abin_eql, beq_self_eq_true, decide_true, decide_false, beq_self_eq_true, bb_ft, bb_tf, ibeq, Int.reduceEq, vld3, vld9, vfp48_0, vfp48_1, vfp48_2, Tryd.results34, sempty, h1, h2, h3, k0, k1, k2]
        · by_cases k4 : k = 4
          · subst k4
            by_cases h1 : 1 ≤ n <;> by_cases h3 : n ≤ 7 <;> by_cases h2 : s.size = 0 <;> simp -dsimp only [↓VWP_seq, ↓VWP_region, ↓VWP_cond, ↓VWP_ret, ↓VWP_block, ↓VReg_one, ↓VReg_nil, ↓VS_guard, ↓VS_move, ↓VS_assign, ↓VS_pick, ↓VS_load, ↓VS_binOp, ↓VS_fieldAddr, ↓VS_box, ↓With_guard, ↓Hold_1, With_some, emap_nil, ↓eget_eset, ↓ae_tmp, ↓ae_int, ↓ae_bool, ↓ae_string, eget_zero, lop_pick, asBool_bool, asGuard_bool, bb_ft, ayielded_eq, ↓dstAt_zero, ↓dstAt_succ, ↓vfinish_ret, ↓vres_nil, ↓vres_tmp, vtell_eq, ret1, Option.map_some, Option.bind_some, ↓reduceIte, Nat.reduceEqDiff, Bool.false_eq_true, decide_true, decide_false, Bool.not_false, List.getElem?_cons_zero, List.getElem?_cons_succ, Nat.zero_add, Nat.add_zero, and_self, List.all_cons, List.all_nil, tup_int, tup_str, tup_agg, cel_agg, Bool.and_true, List.toList_toArray, List.length_nil, mapOwn_bool, toksL_nil, toksL_cons, toks_int, toks_bool, toks_string, okv_bool, okv_int, okv_string, List.all_nil, List.all_cons, List.append_nil, List.nil_append, Bool.and_true, Bool.and_false, Bool.and_self, Bool.not_false, beq_self_eq_true, vnext_mk, vpush_mk, vget_nil, cellsIn_mk, vthaw_nil, vwrites_nil, List.getD_cons_zero, List.length_nil, vbin_int, vbin_string, ↓vbox_free, cellsOk_free, cellF, abin_eql, abin_leq, abin_geq, beq_self_eq_true, ge_iff_le, decide_true, decide_false, beq_self_eq_true, bb_ft, ibeq, vld3, vld9, vfp48_0, vfp48_1, vfp48_2, Tryd.results34, sempty, h1, h2, h3, k0, k1, k2, k3]
          · simp -dsimp only [↓VWP_seq, ↓VWP_region, ↓VWP_cond, ↓VWP_ret, ↓VWP_skip, ↓VWP_block, ↓VReg_one, ↓VReg_nil, ↓VS_assign, ↓VS_load, ↓VS_binOp, ↓VS_fieldAddr, ↓VS_box, ↓With_guard, ↓Hold_1, With_some, emap_nil, ↓eget_eset, ↓ae_tmp, ↓ae_int, ↓ae_bool, eget_zero, asBool_bool, ↓vfinish_ret, ↓vres_nil, ↓vres_tmp, vtell_eq, ret1, Option.map_some, Option.bind_some, ↓reduceIte, Nat.reduceEqDiff, Bool.false_eq_true, decide_false, Bool.not_false, List.getElem?_cons_zero, Nat.add_zero, and_self, List.all_cons, List.all_nil, tup_int, tup_str, tup_agg, cel_agg, List.toList_toArray, List.length_nil, mapOwn_bool, toksL_nil, toksL_cons, toks_int, toks_bool, toks_string, okv_bool, okv_int, okv_string, List.all_nil, List.all_cons, List.append_nil, List.nil_append, Bool.and_self, Bool.not_false, beq_self_eq_true, vnext_mk, vpush_mk, vget_nil, cellsIn_mk, vthaw_nil, vwrites_nil, List.getD_cons_zero, List.length_nil, vbin_int, ↓vbox_free, cellsOk_free, cellF, abin_eql, beq_self_eq_true, decide_false, beq_self_eq_true, ibeq, vld3, vfp48_0, Tryd.results34, k0, k1, k2, k3, k4]
theorem qright_c {X : VOuter} (hX : X 34 = none) (k n : Int) (s : ByteArray) {S : VH} {K : VCont} : Vcallee Tryd.prog X 34 [.agg ⟨[.int .i64 k, .int .i64 n, .string s]⟩] S K = K (.bool (rightF ⟨k, n, s⟩)) [] S [] false := Vcallee_of (qright_p hX k n s) rfl rfl rfl
def chooseF (x : VV) (l : List VV) : VV := if (numF x).2.2 then (if (numF x).1 < 1 ∨ (l.length : Int) + 1 ≤ (numF x).1 then eV 7 else l.getD ((numF x).1 - 1).toNat zV) else (numF x).2.1
theorem choose_p {X : VOuter} (h : AOff X) (hX : X 121 = none) (hX1 : X 151 = none) (c : Bool) (d : Nat) (k n : Int) (s : ByteArray) (l : List VV) : Vp Tryd.prog X 121 [sl c d 3 (((⟨k, n, s⟩ : VV) :: l).map VV.v)] (chooseF ⟨k, n, s⟩ l).v := by
  unfold Vp
  refine Vf_text hX Tryd.func121 rfl (by kernel_rfl) (by show 1 ≤ _; decide) ?_
  have hN := numsF_one ⟨k, n, s⟩
  cases h1 : (numF ⟨k, n, s⟩).2.2
  · rw [h1, if_neg (by simp)] at hN
    simp -dsimp only [↓Hold_5, ↓VWP_seq, ↓VWP_region, ↓VWP_cond, ↓VWP_ret, ↓VWP_block, ↓VReg_one, ↓VReg_non, ↓VReg_nil, ↓VS_move, ↓VS_assign, ↓VS_load, ↓VS_unOp, ↓VS_indexAddr, ↓VS_extract, ↓VS_buildSlice, ↓VS_store, ↓With_bindH, ↓With_guard, ↓Hold_1, With_some, emap_nil, emap_cons, ↓eget_map, ↓eget_eset, ↓ae_tmp, ↓ae_int, eget_zero, lop_extract, lop_not, asBool_bool, ↓vfinish_ret, ↓vres_nil, ↓vres_cell, vtell_eq, ret1, Option.map_some, ↓reduceIte, Nat.reduceEqDiff, reduceCtorEq, decide_true, decide_false, Bool.not_false, List.getElem?_toArray, List.getElem?_cons_zero, List.getElem?_cons_succ, Nat.zero_add, Nat.add_zero, Nat.reduceAdd, Nat.reduceMul, Nat.reduceLT, Nat.reduceLeDiff, true_and, and_self, List.map_cons, List.map_nil, List.all_cons, List.all_nil, tup_int, tup_str, tup_agg, cel_agg, List.drop_zero, List.toList_toArray, List.size_toArray, List.length_cons, List.length_nil, mapOwn_agg, mapOwn_int, mapOwn_string, mapOwn_pointer, toksL_nil, toksL_cons, toks_int, toks_string, toks_agg, okv_agg, okv_int, okv_string, List.flatMap_nil, List.flatMap_cons, List.all_nil, List.all_cons, List.append_nil, List.nil_append, List.cons_append, List.map_nil, List.map_cons, Bool.and_self, Bool.not_false, beq_self_eq_true, vnext_mk, vpush_mk, vget_nil, vput_nil, cellsIn_mk, vturn_nil, vthaw_one, vthaw_nil, boxesOf_nil, vwrites_nil, List.getD_cons_zero, List.getD_cons_succ, List.set_cons_zero, List.set_cons_succ, List.length_cons, List.length_nil, List.drop_zero, List.take_succ_cons, List.take_zero, vload_at, aggV_agg, partsOk_nil, partsOk_cons, vfill_nil, vfill_cons, ↓vlay_free, cellsOk_free, cellF, List.replicate_succ, List.replicate_zero, beq_self_eq_true, Int.reduceLE, Int.reduceToNat, decide_true, decide_false, beq_self_eq_true, setAll_whole, vld48, vgt48, vst48, ↓val48, vbd42, vis42, ↓vfk151, Tryd.results121, VV.v, ↓numbers1_c h hX1, hN]
    simp [chooseF, h1]
  · rw [h1, if_pos rfl] at hN
    generalize hm : (numF ⟨k, n, s⟩).1 = m at hN
    by_cases h2 : m < 1
    · simp -dsimp only [↓Hold_5, ↓VWP_seq, ↓VWP_region, ↓VWP_cond, ↓VWP_ret, ↓VWP_block, ↓VReg_one, ↓VReg_non, ↓VReg_nil, ↓VS_guard, ↓VS_move, ↓VS_assign, ↓VS_pick, ↓VS_load, ↓VS_binOp, ↓VS_unOp, ↓VS_indexAddr, ↓VS_extract, ↓VS_buildSlice, ↓VS_store, ↓With_bindH, ↓With_guard, ↓Hold_1, With_some, emap_nil, emap_cons, ↓eget_map, ↓eget_eset, ↓ae_tmp, ↓ae_int, ↓ae_bool, eget_zero, lop_pick, lop_extract, lop_not, asBool_bool, asGuard_bool, bb_tf, ayielded_eq, ↓dstAt_zero, ↓dstAt_succ, ↓vfinish_ret, ↓vres_nil, ↓vres_cell, vtell_eq, ret1, Option.map_some, Option.bind_some, ↓reduceIte, Nat.reduceEqDiff, reduceCtorEq, Bool.false_eq_true, decide_true, decide_false, Bool.not_true, Bool.not_false, List.getElem?_toArray, List.getElem?_cons_zero, List.getElem?_cons_succ, Nat.zero_add, Nat.add_zero, Nat.reduceAdd, Nat.reduceMul, Nat.reduceLT, Nat.reduceLeDiff, true_and, and_self, List.map_cons, List.map_nil, List.all_cons, List.all_nil, tup_int, tup_str, tup_agg, cel_agg, List.drop_zero, List.toList_toArray, List.size_toArray, List.length_cons, List.length_nil, mapOwn_agg, mapOwn_int, mapOwn_string, mapOwn_pointer, toksL_nil, toksL_cons, toks_int, toks_string, toks_agg, okv_agg, okv_int, okv_string, List.flatMap_nil, List.flatMap_cons, List.all_nil, List.all_cons, List.append_nil, List.nil_append, List.cons_append, List.map_nil, List.map_cons, Bool.and_self, Bool.not_true, Bool.not_false, beq_self_eq_true, vnext_mk, vpush_mk, vget_nil, vput_nil, cellsIn_mk, vturn_nil, vthaw_one, vthaw_nil, boxesOf_nil, vwrites_nil, List.getD_cons_zero, List.getD_cons_succ, List.set_cons_zero, List.set_cons_succ, List.length_cons, List.length_nil, List.drop_zero, List.take_succ_cons, List.take_zero, vload_at, cellV_int, aggV_agg, partsOk_nil, partsOk_cons, vfill_nil, vfill_cons, vbin_int, ↓vlay_free, cellsOk_free, cellF, List.replicate_succ, List.replicate_zero, abin_lss, beq_self_eq_true, Int.reduceLE, Int.reduceToNat, decide_true, decide_false, beq_self_eq_true, bb_tf, setAll_whole, vld48, vgt48, vgt3, vst48, ↓val48, vbd42, vis42, vis43, ↓vfk151, ↓vfk51, Tryd.results121, VV.v, vI, ↓numbers1_c h hX1, hN, h2, ↓err_c h.err]
      simp [chooseF, h1, hm, h2, eV]
    · by_cases h3 : (l.length : Int) + 1 ≤ m
      · simp -dsimp only [↓Hold_5, thaw_sl, ↓VWP_seq, ↓VWP_region, ↓VWP_cond, ↓VWP_ret, ↓VWP_block, ↓VReg_one, ↓VReg_non, ↓VReg_nil, ↓VS_guard, ↓VS_move, ↓VS_assign, ↓VS_pick, ↓VS_load, ↓VS_binOp, ↓VS_unOp, ↓VS_indexAddr, ↓VS_extract, ↓VS_len, ↓VS_buildSlice, ↓VS_store, ↓With_bindH, ↓With_guard, ↓Hold_1, With_some, emap_nil, emap_cons, ↓eget_map, ↓eget_eset, ↓ae_tmp, ↓ae_int, eget_zero, lop_pick, lop_extract, lop_not, asBool_bool, asGuard_bool, ayielded_eq, ↓dstAt_zero, ↓dstAt_succ, ↓vfinish_ret, ↓vres_nil, ↓vres_cell, vtell_eq, ret1, Option.map_some, Option.bind_some, ↓reduceIte, Nat.reduceEqDiff, reduceCtorEq, Bool.false_eq_true, decide_true, decide_false, Bool.not_true, Bool.not_false, List.getElem?_toArray, List.getElem?_cons_zero, List.getElem?_cons_succ, Nat.zero_add, Nat.add_zero, Nat.reduceAdd, Nat.reduceMul, Nat.reduceLT, Nat.reduceLeDiff, true_and, and_self, List.map_cons, List.map_nil, List.all_cons, List.all_nil, tup_int, tup_str, tup_agg, cel_agg, List.drop_zero, List.toList_toArray, List.size_toArray, List.length_cons, List.length_nil, mapOwn_agg, mapOwn_int, mapOwn_string, mapOwn_pointer, toksL_nil, toksL_cons, toks_int, toks_string, toks_agg, okv_agg, okv_int, okv_string, List.flatMap_nil, List.flatMap_cons, List.all_nil, List.all_cons, List.append_nil, List.nil_append, List.cons_append, List.map_nil, List.map_cons, Bool.and_self, Bool.not_true, Bool.not_false, beq_self_eq_true, vnext_mk, vpush_mk, vget_nil, vput_nil, cellsIn_mk, vturn_nil, vthaw_one, vthaw_nil, boxesOf_nil, vwrites_nil, List.getD_cons_zero, List.getD_cons_succ, List.set_cons_zero, List.set_cons_succ, List.length_cons, List.length_nil, List.drop_zero, List.take_succ_cons, List.take_zero, vload_at, cellV_int, aggV_agg, partsOk_nil, partsOk_cons, vfill_nil, vfill_cons, vbin_int, ↓vlay_free, cellsOk_free, cellF, List.replicate_succ, List.replicate_zero, abin_lss, abin_geq, Int.cast_ofNat_Int, beq_self_eq_true, Int.reduceLE, Int.reduceToNat, ge_iff_le, decide_true, decide_false, beq_self_eq_true, setAll_whole, vld48, vgt48, vgt3, vst48, ↓val48, vbd42, vis42, vis43, vls42, ↓vfk151, ↓vfk51, Tryd.results121, VV.v, vI, ↓numbers1_c h hX1, hN, h2, h3, ↓err_c h.err, List.length_map, Int.natCast_add, Int.cast_ofNat_Int]
        simp [chooseF, h1, hm, h2, h3, eV]
      · have h0 : 0 ≤ m := by omega
        have hi : m.toNat = (m - 1).toNat + 1 := by omega
        have hil : (m - 1).toNat < l.length := by omega
        have hx : (Value.agg ⟨[.int .i64 k, .int .i64 n, .string s]⟩ :: l.map VV.v)[m.toNat]? = some (l.getD (m - 1).toNat zV).v := by
          rw [hi, List.getElem?_cons_succ, List.getElem?_map, List.getD_eq_getElem?_getD, List.getElem?_eq_getElem hil]
          rfl
        have hch : chooseF ⟨k, n, s⟩ l = l.getD (m - 1).toNat zV := by
          unfold chooseF
          rw [h1, if_pos rfl, hm, if_neg (by omega)]
        rw [hch]
        generalize l.getD (m - 1).toNat zV = x at hx
        simp only [VV.v] at hx ⊢
        simp -dsimp only [↓Hold_5, thaw_sl, ↓VWP_seq, ↓VWP_region, ↓VWP_cond, ↓VWP_ret, ↓VWP_skip, ↓VWP_block, ↓VReg_one, ↓VReg_non, ↓VReg_nil, ↓VS_guard, ↓VS_move, ↓VS_assign, ↓VS_pick, ↓VS_load, ↓VS_binOp, ↓VS_unOp, ↓VS_indexAddr, ↓VS_extract, ↓VS_len, ↓VS_buildSlice, ↓VS_store, ↓With_bindH, ↓With_guard, ↓Hold_1, With_some, emap_nil, emap_cons, ↓eget_map, ↓eget_eset, ↓ae_tmp, ↓ae_int, eget_zero, lop_pick, lop_extract, lop_not, asBool_bool, asGuard_bool, ayielded_eq, ↓dstAt_zero, ↓dstAt_succ, ↓vfinish_ret, ↓vres_nil, ↓vres_cell, vtell_eq, ret1, Option.map_some, Option.bind_some, ↓reduceIte, Nat.reduceEqDiff, reduceCtorEq, Bool.false_eq_true, decide_true, decide_false, Bool.not_true, Bool.not_false, List.getElem?_toArray, List.getElem?_cons_zero, List.getElem?_cons_succ, Nat.zero_add, Nat.add_zero, Nat.reduceAdd, Nat.reduceMul, Nat.reduceLT, Nat.reduceLeDiff, and_self, List.map_cons, List.map_nil, List.all_cons, List.all_nil, tup_int, tup_str, tup_agg, cel_agg, List.drop_zero, List.toList_toArray, List.size_toArray, List.length_cons, List.length_nil, mapOwn_agg, mapOwn_int, mapOwn_string, mapOwn_pointer, toksL_nil, toksL_cons, toks_int, toks_string, toks_agg, okv_agg, okv_int, okv_string, List.flatMap_nil, List.flatMap_cons, List.all_nil, List.all_cons, List.append_nil, List.nil_append, List.cons_append, List.map_nil, List.map_cons, Bool.and_self, Bool.not_true, Bool.not_false, beq_self_eq_true, vnext_mk, vpush_mk, vget_nil, vput_nil, cellsIn_mk, vturn_nil, vthaw_one, vthaw_nil, boxesOf_nil, vwrites_nil, List.getD_cons_zero, List.getD_cons_succ, List.set_cons_zero, List.set_cons_succ, List.length_cons, List.length_nil, List.drop_zero, List.take_succ_cons, List.take_zero, vload_at, cellV_int, aggV_agg, partsOk_nil, partsOk_cons, vfill_nil, vfill_cons, vbin_int, ↓vlay_free, cellsOk_free, cellF, List.replicate_succ, List.replicate_zero, abin_lss, abin_geq, Int.cast_ofNat_Int, beq_self_eq_true, Int.reduceLE, Int.reduceToNat, ge_iff_le, decide_true, decide_false, beq_self_eq_true, setAll_whole, vld48, vgt48, vgt3, vst48, ↓val48, vbd42, vis42, vis43, vls42, ↓vfk151, Tryd.results121, VV.v, vI, ↓numbers1_c h hX1, hN, h2, h3, h0, ↓hx, List.length_map, Int.natCast_add, Int.cast_ofNat_Int]
end Go.Proofs.YtmdpggecelheoaaDoor.Abs
/- Where a value stands among others. -/
set_option linter.unusedVariables false
set_option linter.unusedSimpArgs false
set_option maxRecDepth 4000
set_option maxHeartbeats 0
namespace Go.Proofs.YtmdpggecelheoaaDoor.Abs
open Go
attribute [local irreducible] Hold VReg Vf Vc VWP With VStp Vcallee Vp VE
def matchGo (x : VV) : List VV → Nat → VV
  | [], _ => eV 7
  | y :: l, i => if y.k ≠ 4 ∧ cmpF y x = 0 then iV ((i : Int) + 1) else matchGo x l (i + 1)
def matchF (x : VV) (l : List VV) : VV := if x.k = 4 then x else matchGo x l 0
theorem match_p {X : VOuter} (h : AOff X) (hX : X 122 = none) (c : Bool) (d : Nat) (k n : Int) (s : ByteArray) (l : List VV) (hl : l.length ≤ 1000000000) : Vp Tryd.prog X 122 [sl c d 3 (((⟨k, n, s⟩ : VV) :: l).map VV.v)] (matchF ⟨k, n, s⟩ l).v := by
  unfold Vp
  refine Vf_text hX Tryd.func122 rfl (by kernel_rfl) (by show 1 ≤ _; decide) ?_
  by_cases h4 : k = 4
  · simp -dsimp only [↓VWP_seq, ↓VWP_region, ↓VWP_cond, ↓VWP_ret, ↓VReg_one, ↓VReg_non, ↓VReg_nil, ↓VS_move, ↓VS_load, ↓VS_binOp, ↓VS_fieldAddr, ↓VS_indexAddr, ↓VS_store, ↓With_bindH, ↓With_guard, ↓Hold_1, With_some, emap_nil, ↓eget_eset, ↓ae_tmp, ↓ae_int, eget_zero, asBool_bool, ↓vfinish_ret, ↓vres_nil, ↓vres_cell, vtell_eq, ret1, Option.map_some, Option.bind_some, ↓reduceIte, Nat.reduceEqDiff, reduceCtorEq, Bool.false_eq_true, decide_false, Bool.not_false, List.getElem?_cons_zero, Nat.zero_add, Nat.add_zero, Nat.reduceAdd, Nat.reduceLT, Nat.reduceLeDiff, true_and, and_self, List.map_cons, List.map_nil, List.all_cons, List.all_nil, tup_int, tup_str, tup_agg, cel_agg, List.drop_zero, List.toList_toArray, List.size_toArray, List.length_cons, List.length_nil, mapOwn_agg, mapOwn_int, mapOwn_string, toksL_nil, toksL_cons, toks_int, toks_string, toks_agg, okv_agg, okv_int, okv_string, List.flatMap_nil, List.flatMap_cons, List.all_nil, List.all_cons, List.append_nil, List.nil_append, List.map_nil, List.map_cons, Bool.and_self, Bool.not_false, beq_self_eq_true, vnext_mk, vpush_mk, vget_nil, vput_nil, cellsIn_mk, vthaw_nil, vwrites_nil, List.getD_cons_zero, List.set_cons_zero, List.length_cons, List.length_nil, List.drop_zero, List.take_succ_cons, List.take_zero, vload_at, vfield_at, cellV_int, aggV_agg, isAggV_int, vbin_int, ↓vlay_free, cellsOk_free, cellF, abin_eql, beq_self_eq_true, Int.reduceLE, Int.reduceToNat, decide_false, beq_self_eq_true, setAll_whole, vgt3, vld48, vgt48, vst48, ↓val48, vpt48_0, vis42, Tryd.results122, VV.v, h4]
    simp [matchF]
  · have hb : (1 : Int) ≤ l.length + 1 := by omega
    have htk : ((l.length : Int) + 1 - 1).toNat = l.length := by omega
    have htl : (l.map VV.v).take l.length = l.map VV.v := List.take_of_length_le (by simp)
    have hm : matchF ⟨k, n, s⟩ l = matchGo ⟨k, n, s⟩ l 0 := by simp [matchF, h4]
    rw [hm]
    have e0 : ((⟨k, n, s⟩ : VV) :: l).map VV.v = .agg ⟨[.int .i64 k, .int .i64 n, .string s]⟩ :: l.map VV.v := rfl
    rw [e0]
    simp -dsimp only [↓VWP_seq, ↓VWP_region, ↓VWP_cond, ↓VWP_skip, ↓VWP_block, ↓VWP_loop, ↓VReg_one, ↓VReg_nil, ↓VS_move, ↓VS_load, ↓VS_binOp, ↓VS_slice, ↓VS_fieldAddr, ↓VS_indexAddr, ↓VS_len, ↓Hold_1, With_some, emap_nil, ↓eget_eset, ↓ae_tmp, ↓ae_int, eget_zero, asBool_bool, Option.map_some, Option.bind_some, Option.map_none, ↓reduceIte, reduceCtorEq, Bool.false_eq_true, decide_false, List.getElem?_cons_zero, Nat.add_zero, true_and, and_self, List.drop_zero, List.length_cons, List.length_nil, List.nil_append, List.isEmpty_cons, Bool.and_false, vnext_mk, vpush_mk, List.length_cons, List.length_nil, List.drop_zero, List.drop_succ_cons, vload_at, vfield_at, cellV_int, isAggV_int, vbin_int, abin_eql, Int.cast_ofNat_Int, Int.reduceLE, Int.reduceToNat, decide_false, ibeq, abound_none, abound_some, vgt3, ↓val48, vpt48_0, vis42, vcs42, vls42, h4, hb, htk, htl, List.length_map, Int.natCast_add, Int.cast_ofNat_Int, List.isEmpty_cons, Bool.and_false, Int.le_refl]
    refine Vc_loop (fun m e S => ∃ i : Nat, m = l.length - i ∧ i ≤ l.length ∧ eget e 0 = sl c d 3 (.agg ⟨[.int .i64 k, .int .i64 n, .string s]⟩ :: l.map VV.v) ∧ eget e 14 = sl false d 3 (l.map VV.v) ∧ eget e 15 = .int .i64 l.length ∧ eget e 16 = .int .i64 i ∧ eget e 2 = .pointer (some { block := 0, off := 0 }) ∧ matchGo ⟨k, n, s⟩ (l.drop i) i = matchGo ⟨k, n, s⟩ l 0 ∧ ∃ J, S = ⟨[], .cells true 48 [.int .i64 0, .int .i64 0, .string .empty] :: J, []⟩) l.length ?_ ?_
    · refine ⟨0, rfl, Nat.zero_le _, ?_, ?_, ?_, ?_, ?_, rfl, [], rfl⟩ <;> simp only [↓eget_eset, eget_zero, ↓reduceIte, Nat.reduceEqDiff, reduceCtorEq] <;> rfl
    · rintro m e S ⟨i, rfl, hi, e0, e14, e15, e16, e2, hf, J, rfl⟩
      refine VWP_Vc _ _ _ _ ?_
      by_cases hin : i < l.length
      · have hlt : (i : Int) < l.length := by omega
        have h0 : (0 : Int) ≤ i := by omega
        have hx : (l.map VV.v)[i]? = some l[i].v := by simp [hin]
        rw [List.drop_eq_getElem_cons hin] at hf
        have hnum : ((i : Int) + 1) = ((i + 1 : Nat) : Int) := by omega
        have hwr : IntKind.i64.wrap ((i : Int) + 1) = (i : Int) + 1 := wrap_id (by omega) (by omega)
        generalize l[i] = x at hx hf
        obtain ⟨k', n', s'⟩ := x
        simp only [VV.v] at hx
        rw [matchGo] at hf
        dsimp only at hf
        by_cases hk : k' = 4
        · simp -dsimp only [↓VWP_seq, ↓VWP_region, ↓VWP_cond, ↓VWP_skip, ↓VWP_block, ↓VWP_open, ↓VReg_one, ↓VReg_non, ↓VReg_nil, ↓VS_move, ↓VS_assign, ↓VS_load, ↓VS_binOp, ↓VS_indexAddr, ↓VS_store, ↓Hold_1, With_some, emap_nil, ↓eget_eset, ↓ae_tmp, asBool_bool, Option.map_some, ↓reduceIte, Nat.reduceEqDiff, decide_true, Bool.not_false, Nat.zero_add, Nat.reduceAdd, Nat.reduceLeDiff, and_self, List.all_cons, List.all_nil, tup_int, tup_str, tup_agg, cel_agg, List.toList_toArray, List.size_toArray, List.length_cons, List.length_nil, toksL_nil, toksL_cons, toks_int, toks_string, okv_int, okv_string, List.all_nil, List.all_cons, List.append_nil, List.cons_append, Bool.and_self, Bool.not_false, beq_self_eq_true, vnext_mk, vpush_mk, vget_nil, vput_nil, cellsIn_mk, List.getD_cons_zero, List.getD_cons_succ, List.set_cons_zero, List.set_cons_succ, List.length_cons, List.length_nil, getD_app0, set_app0, List.length_append, vload_at, aggV_agg, vbin_int, ↓vlay_free, cellsOk_free, cellF, abin_lss, beq_self_eq_true, Int.toNat_natCast, decide_true, beq_self_eq_true, setAll_whole, vgt48, vst48, ↓val48, vis42, e14, e15, e16, hlt, h0, hx, hk]
          first | refine Vc_open [[], [], [], [], [], [], [], [], [], [], []] false (by kernel_rfl) (by kernel_rfl) (by kernel_rfl) ?_ | refine Vc_open2 [[], [], [], [], [], [], [], [], [], [], []] false (by kernel_rfl) (by kernel_rfl) (by kernel_rfl) (by kernel_rfl) ?_
          simp -dsimp only [↓VWP_region, ↓VWP_cond, ↓VWP_skip, ↓VReg_one, ↓VReg_nil, ↓VS_guard, ↓VS_move, ↓VS_pick, ↓VS_load, ↓VS_binOp, ↓VS_fieldAddr, ↓Hold_1, ↓Hold_3, With_some, emap_nil, ↓eget_eset, ↓ae_tmp, ↓ae_int, ↓ae_bool, lop_pick, asBool_bool, asGuard_bool, bb_ft, ayielded_eq, ↓dstAt_zero, ↓dstAt_succ, light, Option.bind_some, ↓reduceIte, Nat.reduceEqDiff, reduceCtorEq, Bool.false_eq_true, List.getElem?_cons_zero, Nat.add_zero, true_and, List.all_nil, List.all_nil, List.nil_append, vget_nil, cellsIn_mk, List.getD_cons_zero, List.getD_cons_succ, getD_app0, vbin_int, abin_neq, abin_add, bb_ft, bne_self_eq_false, ↓VE_nil, ↓VE_one0, List.reverse_cons, List.reverse_nil, vld3, vfp48_0, e0, e14, e15, e16, e2, hwr]
          exact ⟨l.length - (i + 1), by omega, i + 1, rfl, by omega, by rw [hnum], by rw [← hf, if_neg (by simp [hk])], _, rfl⟩
        · by_cases hc : cmpF ⟨k', n', s'⟩ ⟨k, n, s⟩ = 0
          · rw [if_pos ⟨hk, hc⟩] at hf
            rw [← hf]
            simp -dsimp only [↓VWP_seq, ↓VWP_region, ↓VWP_cond, ↓VWP_skip, ↓VWP_block, ↓VWP_open, ↓VReg_one, ↓VReg_non, ↓VReg_nil, ↓VS_move, ↓VS_assign, ↓VS_load, ↓VS_binOp, ↓VS_indexAddr, ↓VS_store, ↓Hold_1, With_some, emap_nil, ↓eget_eset, ↓ae_tmp, asBool_bool, Option.map_some, ↓reduceIte, Nat.reduceEqDiff, decide_true, Bool.not_false, Nat.zero_add, Nat.reduceAdd, Nat.reduceLeDiff, and_self, List.all_cons, List.all_nil, tup_int, tup_str, tup_agg, cel_agg, List.toList_toArray, List.size_toArray, List.length_cons, List.length_nil, toksL_nil, toksL_cons, toks_int, toks_string, okv_int, okv_string, List.all_nil, List.all_cons, List.append_nil, List.cons_append, Bool.and_self, Bool.not_false, beq_self_eq_true, vnext_mk, vpush_mk, vget_nil, vput_nil, cellsIn_mk, List.getD_cons_zero, List.getD_cons_succ, List.set_cons_zero, List.set_cons_succ, List.length_cons, List.length_nil, getD_app0, set_app0, List.length_append, vload_at, aggV_agg, vbin_int, ↓vlay_free, cellsOk_free, cellF, abin_lss, beq_self_eq_true, Int.toNat_natCast, decide_true, beq_self_eq_true, setAll_whole, vgt48, vst48, ↓val48, vis42, e14, e15, e16, hlt, h0, hx]
            first | refine Vc_open [[], [], [], [], [], [], [], [], [], [], []] false (by kernel_rfl) (by kernel_rfl) (by kernel_rfl) ?_ | refine Vc_open2 [[], [], [], [], [], [], [], [], [], [], []] false (by kernel_rfl) (by kernel_rfl) (by kernel_rfl) (by kernel_rfl) ?_
            simp -dsimp only [↓Hold_5, ↓VWP_seq, ↓VWP_region, ↓VWP_cond, ↓VWP_ret, ↓VReg_one, ↓VReg_non, ↓VReg_nil, ↓VS_guard, ↓VS_move, ↓VS_pick, ↓VS_load, ↓VS_binOp, ↓VS_fieldAddr, ↓VS_indexAddr, ↓VS_store, ↓With_bindH, ↓With_guard, ↓Hold_1, ↓Hold_3, With_some, emap_nil, ↓eget_eset, ↓ae_tmp, ↓ae_int, lop_pick, asBool_bool, asGuard_bool, ayielded_eq, ↓dstAt_zero, ↓dstAt_succ, light, ↓vfinish_ret, ↓vres_nil, ↓vres_cell, vtell_eq, ret1, Option.map_some, Option.bind_some, ↓reduceIte, Nat.reduceEqDiff, reduceCtorEq, Bool.false_eq_true, decide_false, Bool.not_false, List.getElem?_cons_zero, Nat.zero_add, Nat.add_zero, Nat.reduceAdd, Nat.reduceLT, Nat.reduceLeDiff, true_and, and_self, List.map_cons, List.map_nil, List.all_cons, List.all_nil, tup_int, tup_str, tup_agg, cel_agg, List.drop_zero, List.toList_toArray, List.size_toArray, List.length_cons, List.length_nil, mapOwn_agg, mapOwn_int, mapOwn_string, toksL_nil, toksL_cons, toks_int, toks_string, toks_agg, okv_agg, okv_int, okv_string, List.flatMap_nil, List.flatMap_cons, List.all_nil, List.all_cons, List.append_nil, List.nil_append, List.map_nil, List.map_cons, Bool.and_self, Bool.not_false, beq_self_eq_true, vnext_mk, vget_nil, vput_nil, cellsIn_mk, vthaw_nil, vwrites_nil, List.getD_cons_zero, List.getD_cons_succ, List.set_cons_zero, List.length_cons, List.length_nil, List.drop_zero, List.take_succ_cons, List.take_zero, getD_app0, List.length_append, vload_at, aggV_agg, vbin_int, ↓vlay_free, cellsOk_free, cellF, abin_eql, abin_neq, abin_add, beq_self_eq_true, Int.reduceLE, Int.reduceToNat, decide_false, beq_self_eq_true, setAll_whole, ibne, ↓VE_nil, ↓VE_one0, List.reverse_cons, List.reverse_nil, vld3, vld48, vgt48, vst48, vfp48_0, vis42, ↓vfk155, ↓vfk92, Tryd.results122, e0, e2, hk, hwr, hc, ↓compare_c h.compare h.right h.cmpi h.cmps h.cmpor h.nani h.nans, ↓int_c h.int]
            rfl
          · rw [if_neg (fun hh => hc hh.2)] at hf
            simp -dsimp only [↓VWP_seq, ↓VWP_region, ↓VWP_cond, ↓VWP_skip, ↓VWP_block, ↓VWP_open, ↓VReg_one, ↓VReg_non, ↓VReg_nil, ↓VS_move, ↓VS_assign, ↓VS_load, ↓VS_binOp, ↓VS_indexAddr, ↓VS_store, ↓Hold_1, With_some, emap_nil, ↓eget_eset, ↓ae_tmp, asBool_bool, Option.map_some, ↓reduceIte, Nat.reduceEqDiff, decide_true, Bool.not_false, Nat.zero_add, Nat.reduceAdd, Nat.reduceLeDiff, and_self, List.all_cons, List.all_nil, tup_int, tup_str, tup_agg, cel_agg, List.toList_toArray, List.size_toArray, List.length_cons, List.length_nil, toksL_nil, toksL_cons, toks_int, toks_string, okv_int, okv_string, List.all_nil, List.all_cons, List.append_nil, List.cons_append, Bool.and_self, Bool.not_false, beq_self_eq_true, vnext_mk, vpush_mk, vget_nil, vput_nil, cellsIn_mk, List.getD_cons_zero, List.getD_cons_succ, List.set_cons_zero, List.set_cons_succ, List.length_cons, List.length_nil, getD_app0, set_app0, List.length_append, vload_at, aggV_agg, vbin_int, ↓vlay_free, cellsOk_free, cellF, abin_lss, beq_self_eq_true, Int.toNat_natCast, decide_true, beq_self_eq_true, setAll_whole, vgt48, vst48, ↓val48, vis42, e14, e15, e16, hlt, h0, hx]
            first | refine Vc_open [[], [], [], [], [], [], [], [], [], [], []] false (by kernel_rfl) (by kernel_rfl) (by kernel_rfl) ?_ | refine Vc_open2 [[], [], [], [], [], [], [], [], [], [], []] false (by kernel_rfl) (by kernel_rfl) (by kernel_rfl) (by kernel_rfl) ?_
            simp -dsimp only [↓Hold_5, ↓VWP_region, ↓VWP_cond, ↓VWP_skip, ↓VReg_one, ↓VReg_nil, ↓VS_guard, ↓VS_move, ↓VS_pick, ↓VS_load, ↓VS_binOp, ↓VS_fieldAddr, ↓VS_indexAddr, ↓Hold_1, ↓Hold_3, With_some, emap_nil, ↓eget_eset, ↓ae_tmp, ↓ae_int, lop_pick, asBool_bool, asGuard_bool, ayielded_eq, ↓dstAt_zero, ↓dstAt_succ, light, Option.map_some, Option.bind_some, ↓reduceIte, Nat.reduceEqDiff, reduceCtorEq, Bool.false_eq_true, decide_false, Bool.not_false, List.getElem?_cons_zero, Nat.zero_add, Nat.add_zero, Nat.reduceAdd, Nat.reduceLeDiff, true_and, List.map_cons, List.map_nil, List.all_nil, List.drop_zero, List.length_cons, List.length_nil, List.all_nil, List.nil_append, List.map_nil, List.map_cons, Bool.not_false, beq_self_eq_true, vget_nil, cellsIn_mk, List.getD_cons_zero, List.getD_cons_succ, List.length_cons, List.length_nil, List.drop_zero, List.take_succ_cons, List.take_zero, getD_app0, vload_at, aggV_agg, vbin_int, abin_eql, abin_neq, abin_add, beq_self_eq_true, Int.reduceLE, Int.reduceToNat, decide_false, beq_self_eq_true, ibeq, ibne, ↓VE_nil, ↓VE_one0, List.reverse_cons, List.reverse_nil, vld3, vld48, vgt48, vfp48_0, vis42, ↓vfk155, e0, e14, e15, e16, e2, hk, hwr, hc, ↓compare_c h.compare h.right h.cmpi h.cmps h.cmpor h.nani h.nans]
            exact ⟨l.length - (i + 1), by omega, i + 1, rfl, by omega, by rw [hnum], hf, _, rfl⟩
      · obtain rfl : i = l.length := by omega
        have hlt : ¬ ((l.length : Int) < l.length) := by omega
        rw [List.drop_length, matchGo] at hf
        rw [← hf]
        simp -dsimp only [↓Hold_5, ↓VWP_seq, ↓VWP_region, ↓VWP_cond, ↓VWP_ret, ↓VWP_exit, ↓VReg_one, ↓VReg_non, ↓VReg_nil, ↓VS_binOp, ↓VS_store, ↓With_bindH, ↓With_guard, ↓Hold_1, ↓Hold_3, With_some, emap_nil, ↓eget_eset, ↓ae_tmp, ↓ae_int, asBool_bool, ↓vfinish_ret, ↓vres_nil, ↓vres_cell, vtell_eq, ret1, Option.map_some, ↓reduceIte, Nat.reduceEqDiff, Bool.false_eq_true, decide_false, Bool.not_false, Nat.zero_add, Nat.reduceAdd, Nat.reduceLT, Nat.reduceLeDiff, true_and, and_self, List.map_cons, List.map_nil, List.all_cons, List.all_nil, tup_int, tup_str, tup_agg, cel_agg, List.drop_zero, List.toList_toArray, List.size_toArray, List.length_cons, List.length_nil, mapOwn_agg, mapOwn_int, mapOwn_string, toksL_nil, toksL_cons, toks_int, toks_string, toks_agg, okv_agg, okv_int, okv_string, List.flatMap_nil, List.flatMap_cons, List.all_nil, List.all_cons, List.append_nil, List.map_nil, List.map_cons, Bool.and_self, Bool.not_false, beq_self_eq_true, vnext_mk, vget_nil, vput_nil, cellsIn_mk, vthaw_nil, vwrites_nil, List.getD_cons_zero, List.set_cons_zero, List.length_cons, List.length_nil, List.drop_zero, List.take_succ_cons, List.take_zero, vbin_int, ↓vlay_free, cellsOk_free, cellF, abin_lss, beq_self_eq_true, decide_false, beq_self_eq_true, setAll_whole, vld48, vst48, ↓vfk51, Tryd.results122, e15, e16, e2, hlt, ↓err_c h.err]
        rfl
/-! The plain side. -/
theorem ba_inj {a b : ByteArray} (h : a.toList = b.toList) : a = b := by
  rw [ByteArray.toList_eq, ByteArray.toList_eq] at h
  have e1 : a = ⟨(a.data.toList).toArray⟩ := rfl
  rw [e1, h]
theorem bless_irrefl : ∀ x : List UInt8, Op.bytesLess x x = false
  | [] => rfl
  | a :: x => by simp [Op.bytesLess, bless_irrefl x]
theorem ordI_zero {a b : Int} (h : ordI a b = 0) : a = b := by
  unfold ordI at h
  split at h
  · cases h
  · split at h
    · cases h
    · omega
theorem ordI_self (a : Int) : ordI a a = 0 := by simp [ordI]
theorem ordS_zero {a b : ByteArray} (h : ordS a b = 0) : a = b := by
  unfold ordS at h
  split at h
  · cases h
  · split at h
    · rename_i h1 h2
      rw [Bool.or_eq_true] at h2
      rcases h2 with h2 | h2
      · exact absurd h2 h1
      · exact ba_inj (by simpa using h2)
    · cases h
theorem ordS_self (a : ByteArray) : ordS a a = 0 := by
  have h : lessS a a = false := bless_irrefl _
  simp [ordS, h]
theorem cmpF_self (x : VV) : cmpF x x = 0 := by
  unfold cmpF
  simp [ordI_self, ordS_self, or3V]
theorem cmpF_zero {x y : VV} (hx : rightF x = true) (hy : rightF y = true) (h : cmpF x y = 0) : x = y := by
  unfold cmpF at h
  rw [hx, hy] at h
  simp only [Bool.and_self, if_true] at h
  unfold or3V at h
  obtain ⟨a, b, c⟩ := x
  obtain ⟨a', b', c'⟩ := y
  dsimp only at h
  by_cases h1 : ordI a a' = 0
  · by_cases h2 : ordI b b' = 0
    · rw [h1, h2] at h
      simp at h
      rw [ordI_zero h1, ordI_zero h2, ordS_zero h]
    · rw [h1] at h; simp [h2] at h
  · simp [h1] at h
theorem matchGo_spec {x : VV} (hx : rightF x = true) (hk : x.k ≠ 4) : ∀ (l : List VV) (i j : Nat), (∀ y ∈ l, rightF y = true) → l[j]? = some x → ∃ m, m ≤ j ∧ matchGo x l i = iV ((i + m : Nat) + 1) ∧ l[m]? = some x
  | [], i, j, _, h => by simp at h
  | y :: l, i, j, hr, h => by
    rw [matchGo]
    by_cases hc : y.k ≠ 4 ∧ cmpF y x = 0
    · have e : y = x := cmpF_zero (hr y List.mem_cons_self) hx hc.2
      refine ⟨0, Nat.zero_le _, ?_, by simp [e]⟩
      rw [if_pos hc]; rfl
    · rw [if_neg hc]
      cases j with
      | zero =>
        simp at h
        subst h
        exact absurd ⟨hk, cmpF_self _⟩ hc
      | succ j =>
        rw [List.getElem?_cons_succ] at h
        obtain ⟨m, h1, h2, h3⟩ := matchGo_spec hx hk l (i + 1) j (fun z hz => hr z (List.mem_cons_of_mem _ hz)) h
        refine ⟨m + 1, by omega, ?_, by rw [List.getElem?_cons_succ]; exact h3⟩
        rw [h2]
        congr 1
        omega
end Go.Proofs.YtmdpggecelheoaaDoor.Abs
/- The law FuncsChoose: what its text answers. -/
set_option linter.unusedVariables false
set_option linter.unusedSimpArgs false
set_option maxRecDepth 4000
set_option maxHeartbeats 0
namespace Go.Proofs.YtmdpggecelheoaaDoor.Abs
open Go
attribute [local irreducible] Hold VReg Vf Vc VWP With VStp Vcallee Vp VE
def fnL (n : Int) (g : FuncId) : Value := .tuple ⟨[.agg ⟨[.int .i64 n, .bool true, .func (.func g) #[] #[]]⟩, .bool true]⟩
theorem find_choose (S : VH) (K : VCont) : Vcallee Tryd.prog XZ 50 [.string ⟨#[67, 72, 79, 79, 83, 69]⟩] S K = K (fnL (-2) 121) [] S [] false := Vcallee_of (Vp_closed xz_off 6 (by kernel_rfl)) rfl rfl rfl
theorem find_match (S : VH) (K : VCont) : Vcallee Tryd.prog XZ 50 [.string ⟨#[77, 65, 84, 67, 72]⟩] S K = K (fnL (-3) 122) [] S [] false := Vcallee_of (Vp_closed xz_off 6 (by kernel_rfl)) rfl rfl rfl
def rowsC (n : Int) (l : List VV) : List RW := ⟨false, [iV n]⟩ :: l.map fun x => ⟨false, [x]⟩
theorem fix_right {x : VV} (h : rightF x = true) : fixV x = x := by simp [fixV, h]
theorem flat_ones : ∀ (l : List VV), (∀ x ∈ l, rightF x = true) → flatF (l.map fun x => (⟨false, [x]⟩ : RW)) = l
  | [], _ => rfl
  | x :: l, h => by
    have := flat_ones l fun y hy => h y (List.mem_cons_of_mem _ hy)
    unfold flatF at this ⊢
    rw [List.map_cons, List.flatMap_cons, this, List.map_cons, List.map_nil, fix_right (h x List.mem_cons_self)]
    rfl
theorem flat_rowsC (n : Int) (l : List VV) (h : ∀ x ∈ l, rightF x = true) : flatF (rowsC n l) = iV n :: l := by
  have := flat_ones l h
  unfold flatF rowsC at *
  rw [List.flatMap_cons, this]
  rfl
theorem fits_rowsC (n : Int) (l : List VV) (h : 1 ≤ l.length) : fitsF (-2) (rowsC n l) = true := by
  unfold fitsF
  rw [if_neg (by decide), if_pos rfl]
  have e : (2 : Int) ≤ (rowsC n l).length := by simp [rowsC]; omega
  rw [decide_eq_true e, Bool.true_and]
  simp [singleF, rowsC]
def chooseR (n : Int) (l : List VV) : VV := if n < 1 ∨ (l.length : Int) + 1 ≤ n then eV 7 else l.getD (n - 1).toNat zV
theorem call_choose (t : Nat) (n : Int) (l : List VV) (h1 : 1 ≤ l.length) (h2 : l.length ≤ 1000) (hr : ∀ x ∈ l, rightF x = true) (S : VH) (K : VCont) : Vcallee Tryd.prog XZ 33 [.string ⟨#[67, 72, 79, 79, 83, 69]⟩, vo (t, none) 1 0 ((rowsC n l).map (RW.v 0))] S K = K (.agg ⟨[.int .i64 (chooseR n l).k, .int .i64 (chooseR n l).n, .string (chooseR n l).s]⟩) [] S [] false :=
  Vcallee_of (Vp_congr (call_p xz_a rfl rfl rfl ⟨#[67, 72, 79, 79, 83, 69]⟩ (-2) true 121 (fun l => chooseF (l.headD zV) l.tail) find_choose (by kernel_rfl) false 1 0 (rowsC n l) (by simp [rowsC]; omega) (by rw [flat_rowsC n l hr]; simp; omega)
    (fun c S K => by rw [flat_rowsC n l hr]; exact Vcallee_of (choose_p xz_a rfl rfl c 1 1 n .empty l) (by simp only [mapOwnL_cons, mapOwnL_nil, lend_ol]; rfl) (by simp only [okvL_cons, okvL_nil, okv_sl, Bool.and_true]) rfl)) (by
      unfold callF
      rw [fits_rowsC n l h1, flat_rowsC n l hr]
      simp [chooseF, chooseR, num_i]
      rfl)) rfl (by simp only [okvL_cons, okvL_nil, Bool.and_true]; rfl) rfl
theorem flat_match (v : VV) (r : RW) (hv : rightF v = true) (hr : ∀ x ∈ r.l, rightF x = true) : flatF [⟨false, [v]⟩, r] = v :: r.l := by
  have e : r.l.map fixV = r.l := by
    conv => rhs; rw [← List.map_id r.l]
    exact List.map_congr_left fun x hx => fix_right (hr x hx)
  simp [flatF, fix_right hv, e]
theorem call_match (t : Nat) (k n : Int) (s : ByteArray) (c : Bool) (l : List VV) (h2 : l.length ≤ 1000) (hv : rightF ⟨k, n, s⟩ = true) (hr : ∀ x ∈ l, rightF x = true) (S : VH) (K : VCont) : Vcallee Tryd.prog XZ 33 [.string ⟨#[77, 65, 84, 67, 72]⟩, vo (t, none) 1 0 [vs 0 3 [.agg ⟨[.int .i64 k, .int .i64 n, .string s]⟩], sl c 0 3 (l.map VV.v)]] S K = K (.agg ⟨[.int .i64 (matchF ⟨k, n, s⟩ l).k, .int .i64 (matchF ⟨k, n, s⟩ l).n, .string (matchF ⟨k, n, s⟩ l).s]⟩) [] S [] false :=
  Vcallee_of (Vp_congr (call_p xz_a rfl rfl rfl ⟨#[77, 65, 84, 67, 72]⟩ (-3) true 122 (fun l => matchF (l.headD zV) l.tail) find_match (by kernel_rfl) false 1 0 [⟨false, [⟨k, n, s⟩]⟩, ⟨c, l⟩] (by simp) (by rw [flat_match _ _ hv hr]; simp; omega)
    (fun c' S K => by rw [flat_match _ _ hv hr]; exact Vcallee_of (match_p xz_a rfl c' 1 k n s l (by omega)) (by simp only [mapOwnL_cons, mapOwnL_nil, lend_ol]) (by simp only [okvL_cons, okvL_nil, okv_sl, Bool.and_true]) rfl)) (by
      unfold callF
      rw [flat_match _ _ hv hr]
      simp [fitsF, singleF]
      rfl)) rfl (by simp only [okvL_cons, okvL_nil, Bool.and_true]; rfl) rfl
theorem few1_c (t : Nat) (c : Bool) (l : List VV) (hl : (l.length : Int) ≤ 18) (S : VH) (K : VCont) : Vcallee Tryd.prog XZ 32 [vo (t, none) 1 0 [sl c 0 3 (l.map VV.v)]] S K = K (.bool (fewF [⟨c, l⟩])) [] S [] false :=
  Vcallee_of (few_p rfl false 1 0 [⟨c, l⟩] (by simp) (by intro r hr; simp at hr; subst hr; dsimp only; omega)) rfl rfl rfl
theorem self_vv (x y : Operand) (k n : Int) (s : ByteArray) : vbin Tryd.prog .eql 48 x y (.agg ⟨[.int .i64 k, .int .i64 n, .string s]⟩) (.agg ⟨[.int .i64 k, .int .i64 n, .string s]⟩) = some (.bool true) := by
  rw [vbin_agg _ _ _ _ _ rfl rfl]
  exact abin_aeql rfl rfl Tryd.eqGuardType48 (aeq_self 20 48 _ (by kernel_rfl))
theorem row_take (n : Int) (l : List VV) (i : Nat) (h : i < l.length) : (rowsC n (l.take (i + 1))).map (RW.v 0) = (rowsC n (l.take i)).map (RW.v 0) ++ [vs 0 3 [l[i].v]] := by
  rw [← List.take_append_getElem h]
  unfold rowsC
  rw [List.map_append, List.map_cons, List.map_cons, List.map_append]
  rfl
theorem all_take2 (l : List VV) (i : Nat) (h : i < l.length) (ha : ∀ x ∈ l.take i, rightF x = true ∧ x.k ≠ 4) (hr : rightF l[i] = true) (hk : l[i].k ≠ 4) : ∀ x ∈ l.take (i + 1), rightF x = true ∧ x.k ≠ 4 := by
  intro x hx
  rw [← List.take_append_getElem h] at hx
  rcases List.mem_append.1 hx with hx | hx
  · exact ha x hx
  · simp at hx; subst hx; exact ⟨hr, hk⟩
theorem law9 (c : Bool) (l : List VV) (n : Int) : Vf Tryd.prog XZ 9 [sl c 0 3 (l.map VV.v), .int .i64 n] [] fun v _ => v = .bool true := by
  refine Vf_text rfl Tryd.func9 rfl (by kernel_rfl) (by show 2 ≤ _; decide) ?_
  by_cases a1 : (l.length : Int) < 1
  · simp -dsimp only [↓Hold_5, ↓VWP_seq, ↓VWP_region, ↓VWP_cond, ↓VWP_ret, ↓VReg_one, ↓VReg_nil, ↓VS_guard, ↓VS_move, ↓VS_assign, ↓VS_pick, ↓VS_binOp, ↓VS_unOp, ↓VS_len, ↓With_guard, ↓Hold_1, With_some, emap_nil, ↓eget_eset, ↓ae_tmp, ↓ae_int, ↓ae_bool, eget_zero, lop_pick, lop_not, asBool_bool, asGuard_bool, bb_tf, ayielded_eq, ↓dstAt_zero, ↓dstAt_succ, ↓vfinish_ret, ↓vres_nil, ↓vres_tmp, vtell_eq, ret1, Option.map_some, Option.bind_some, ↓reduceIte, Nat.reduceEqDiff, reduceCtorEq, Bool.false_eq_true, decide_true, Bool.not_true, and_self, List.map_nil, List.toList_toArray, List.length_nil, mapOwn_bool, okv_bool, List.map_nil, Bool.not_true, beq_self_eq_true, List.length_nil, vbin_int, abin_lss, beq_self_eq_true, decide_true, beq_self_eq_true, bb_tf, Int.reduceNeg, vls42, ↓vfk31, Tryd.results9, ↓alive_c, a1, List.length_map]
  · by_cases a2 : (18 : Int) < l.length
    · simp -dsimp only [↓Hold_5, ↓VWP_seq, ↓VWP_region, ↓VWP_cond, ↓VWP_ret, ↓VReg_one, ↓VReg_nil, ↓VS_guard, ↓VS_move, ↓VS_assign, ↓VS_pick, ↓VS_binOp, ↓VS_unOp, ↓VS_len, ↓With_guard, ↓Hold_1, With_some, emap_nil, ↓eget_eset, ↓ae_tmp, ↓ae_int, ↓ae_bool, eget_zero, lop_pick, lop_not, asBool_bool, asGuard_bool, bb_tf, ayielded_eq, ↓dstAt_zero, ↓dstAt_succ, ↓vfinish_ret, ↓vres_nil, ↓vres_tmp, vtell_eq, ret1, Option.map_some, Option.bind_some, ↓reduceIte, Nat.reduceEqDiff, reduceCtorEq, Bool.false_eq_true, decide_true, decide_false, Bool.not_true, and_self, List.map_nil, List.toList_toArray, List.length_nil, mapOwn_bool, okv_bool, List.map_nil, Bool.not_true, beq_self_eq_true, List.length_nil, vbin_int, abin_lss, abin_gtr, beq_self_eq_true, gt_iff_lt, decide_true, decide_false, beq_self_eq_true, bb_tf, Int.reduceNeg, vls42, ↓vfk31, Tryd.results9, ↓alive_c, a1, a2, List.length_map]
    · by_cases a3 : n < -5
      · simp -dsimp only [↓Hold_5, ↓VWP_seq, ↓VWP_region, ↓VWP_cond, ↓VWP_ret, ↓VReg_one, ↓VReg_nil, ↓VS_guard, ↓VS_move, ↓VS_assign, ↓VS_pick, ↓VS_binOp, ↓VS_unOp, ↓VS_len, ↓With_guard, ↓Hold_1, With_some, emap_nil, ↓eget_eset, ↓ae_tmp, ↓ae_int, ↓ae_bool, eget_zero, eget_succ, lop_pick, lop_not, asBool_bool, asGuard_bool, bb_tf, ayielded_eq, ↓dstAt_zero, ↓dstAt_succ, ↓vfinish_ret, ↓vres_nil, ↓vres_tmp, vtell_eq, ret1, Option.map_some, Option.bind_some, ↓reduceIte, Nat.reduceEqDiff, reduceCtorEq, Bool.false_eq_true, decide_true, decide_false, Bool.not_true, and_self, List.map_nil, List.toList_toArray, List.length_nil, mapOwn_bool, okv_bool, List.map_nil, Bool.not_true, beq_self_eq_true, List.length_nil, vbin_int, abin_lss, abin_gtr, beq_self_eq_true, gt_iff_lt, decide_true, decide_false, beq_self_eq_true, bb_tf, Int.reduceNeg, vls42, ↓vfk31, Tryd.results9, ↓alive_c, a1, a2, a3, List.length_map]
      · by_cases a4 : 30 < n
        · simp -dsimp only [↓Hold_5, ↓VWP_seq, ↓VWP_region, ↓VWP_cond, ↓VWP_ret, ↓VReg_one, ↓VReg_nil, ↓VS_guard, ↓VS_move, ↓VS_assign, ↓VS_pick, ↓VS_binOp, ↓VS_unOp, ↓VS_len, ↓With_guard, ↓Hold_1, With_some, emap_nil, ↓eget_eset, ↓ae_tmp, ↓ae_int, ↓ae_bool, eget_zero, eget_succ, lop_pick, lop_not, asBool_bool, asGuard_bool, bb_tf, ayielded_eq, ↓dstAt_zero, ↓dstAt_succ, ↓vfinish_ret, ↓vres_nil, ↓vres_tmp, vtell_eq, ret1, Option.map_some, Option.bind_some, ↓reduceIte, Nat.reduceEqDiff, reduceCtorEq, Bool.false_eq_true, decide_true, decide_false, Bool.not_true, and_self, List.map_nil, List.toList_toArray, List.length_nil, mapOwn_bool, okv_bool, List.map_nil, Bool.not_true, beq_self_eq_true, List.length_nil, vbin_int, abin_lss, abin_gtr, beq_self_eq_true, gt_iff_lt, decide_true, decide_false, beq_self_eq_true, bb_tf, Int.reduceNeg, vls42, ↓vfk31, Tryd.results9, ↓alive_c, a1, a2, a3, a4, List.length_map]
        · have hf := fun t S K => few1_c t c l (by omega) S K
          cases a5 : fewF [⟨c, l⟩]
          · simp -dsimp only [↓Hold_5, toks_sl, thawAll_sl, okv_sl0, tup_sl, cel_sl, ↓VWP_seq, ↓VWP_region, ↓VWP_cond, ↓VWP_ret, ↓VReg_one, ↓VReg_nil, ↓VS_guard, ↓VS_move, ↓VS_assign, ↓VS_pick, ↓VS_binOp, ↓VS_unOp, ↓VS_len, ↓VS_buildSlice, ↓With_guard, ↓Hold_1, With_some, emap_nil, emap_cons, ↓eget_map, ↓eget_eset, ↓ae_tmp, ↓ae_int, ↓ae_bool, eget_zero, eget_succ, lop_pick, lop_not, asBool_bool, asGuard_bool, ayielded_eq, ↓dstAt_zero, ↓dstAt_succ, ↓vfinish_ret, ↓vres_nil, ↓vres_tmp, vtell_eq, ret1, Option.map_some, Option.bind_some, ↓reduceIte, Nat.reduceEqDiff, reduceCtorEq, Bool.false_eq_true, decide_true, decide_false, Bool.not_true, Bool.not_false, Nat.zero_add, Nat.reduceMul, Nat.reduceLT, Nat.reduceLeDiff, and_self, List.map_cons, List.map_nil, List.toList_toArray, List.size_toArray, List.length_cons, List.length_nil, mapOwn_bool, toksL_nil, toksL_cons, okv_bool, List.append_nil, List.map_nil, List.map_cons, Bool.and_self, Bool.not_true, Bool.not_false, beq_self_eq_true, vturn_nil, vthaw_one, boxesOf_nil, List.set_cons_zero, List.length_cons, List.length_nil, partsOk_nil, partsOk_cons, vfill_nil, vfill_cons, vbin_int, List.replicate_succ, List.replicate_zero, abin_lss, abin_gtr, beq_self_eq_true, gt_iff_lt, decide_true, decide_false, beq_self_eq_true, Int.reduceNeg, vbd46, vls42, ↓vfk31, ↓vfk32, Tryd.results9, ↓alive_c, a1, a2, a3, a4, ↓hf, a5, List.length_map]
          · simp -dsimp only [↓Hold_5, toks_sl, thawAll_sl, okv_sl0, tup_sl, cel_sl, ↓VWP_seq, ↓VWP_region, ↓VWP_cond, ↓VWP_skip, ↓VWP_block, ↓VWP_loop, ↓VReg_one, ↓VReg_nil, ↓VS_guard, ↓VS_move, ↓VS_assign, ↓VS_pick, ↓VS_build, ↓VS_binOp, ↓VS_unOp, ↓VS_len, ↓VS_buildSlice, ↓Hold_1, With_some, emap_nil, emap_cons, ↓eget_map, ↓eget_eset, ↓ae_tmp, ↓ae_int, ↓ae_bool, eget_zero, eget_succ, lop_pick, lop_not, asBool_bool, asGuard_bool, ayielded_eq, ↓dstAt_zero, ↓dstAt_succ, Option.map_some, Option.bind_some, ↓reduceIte, Nat.reduceEqDiff, reduceCtorEq, Bool.false_eq_true, decide_true, decide_false, Bool.not_true, Bool.not_false, Nat.zero_add, Nat.reduceAdd, Nat.reduceMul, Nat.reduceLT, Nat.reduceLeDiff, true_and, and_self, List.map_cons, List.map_nil, List.all_cons, List.all_nil, tup_int, cel_int, tup_agg, cel_agg, List.toList_toArray, List.size_toArray, List.length_cons, List.length_nil, mapOwn_vo, mapOwn_agg, mapOwn_bool, mapOwn_int, mapOwn_string, thawAll_own, toksL_nil, toksL_cons, toks_int, toks_string, toks_agg, toks_vo, okv_agg, okv_vs, okv_int, okv_string, List.flatMap_nil, List.flatMap_cons, List.all_nil, List.all_cons, List.append_nil, List.map_nil, List.map_cons, Bool.and_self, Bool.not_true, Bool.not_false, Bool.false_or, beq_self_eq_true, vturn_nil, vthaw_one, boxesOf_nil, boxesOf_none, List.set_cons_zero, List.set_cons_succ, List.length_cons, List.length_nil, partsOk_nil, partsOk_cons, vfill_nil, vfill_cons, vbin_int, tup_vo, cel_vo, List.replicate_succ, List.replicate_zero, abin_lss, abin_gtr, beq_self_eq_true, gt_iff_lt, decide_true, decide_false, beq_self_eq_true, afill, setAll, Int.reduceNeg, bd48, pl48_0, pl48_1, vbd46, vbd42, vls42, ↓vfk31, ↓vfk32, ↓alive_c, a1, a2, a3, a4, ↓hf, a5, List.length_map]
            refine Vc_loop (fun m e S => ∃ i : Nat, m = l.length - i ∧ i ≤ l.length ∧ eget e 0 = sl c 0 3 (l.map VV.v) ∧ eget e 1 = .int .i64 n ∧ eget e 6 = vo (41, none) 1 0 ((rowsC n (l.take i)).map (RW.v 0)) ∧ eget e 7 = .int .i64 i ∧ (∀ x ∈ l.take i, rightF x = true ∧ x.k ≠ 4) ∧ S = ⟨[], [], []⟩) l.length ?_ ?_
            · refine ⟨0, rfl, Nat.zero_le _, ?_, ?_, ?_, ?_, ?_, rfl⟩
              · simp only [↓eget_map, ↓eget_eset, eget_zero, ↓reduceIte, reduceCtorEq, thaw_sl]
              · simp only [↓eget_map, ↓eget_eset, eget_zero, eget_succ, ↓reduceIte, Nat.reduceEqDiff, mapOwn_int]
              · simp only [↓eget_eset, ↓reduceIte, Nat.reduceEqDiff]
                rfl
              · simp only [↓eget_eset, ↓reduceIte]
                rfl
              · simp
            · rintro m e S ⟨i, rfl, hi, e0, e1, e6, e7, hall, rfl⟩
              refine VWP_Vc _ _ _ _ ?_
              by_cases hin : i < l.length
              · have hlt : (i : Int) < l.length := by omega
                have h0 : (0 : Int) ≤ i := by omega
                have hx : (l.map VV.v)[i]? = some l[i].v := by simp [hin]
                have ht := row_take n l i hin
                have hal := all_take2 l i hin hall
                have hnum : ((i : Int) + 1) = ((i + 1 : Nat) : Int) := by omega
                have hwr : IntKind.i64.wrap ((i : Int) + 1) = ((i + 1 : Nat) : Int) := by rw [hnum]; exact wrap_id (by omega) (by omega)
                have hlen : ((rowsC n (l.take i)).map (RW.v 0)).length = i + 1 := by simp [rowsC]; omega
                generalize (rowsC n (l.take i)).map (RW.v 0) = N at e6 ht hlen
                generalize l[i] = x at hx ht hal
                obtain ⟨k, m, s⟩ := x
                simp only [VV.v] at hx
                cases h1 : rightF ⟨k, m, s⟩
                · simp -dsimp only [↓Hold_5, ↓VWP_seq, ↓VWP_region, ↓VWP_cond, ↓VWP_ret, ↓VWP_skip, ↓VWP_block, ↓VReg_one, ↓VReg_nil, ↓VS_guard, ↓VS_move, ↓VS_assign, ↓VS_pick, ↓VS_load, ↓VS_binOp, ↓VS_unOp, ↓VS_indexAddr, ↓VS_len, ↓With_guard, ↓Hold_1, ↓Hold_3, With_some, emap_nil, ↓eget_eset, ↓ae_tmp, ↓ae_bool, lop_pick, lop_not, asBool_bool, asGuard_bool, bb_tf, ayielded_eq, ↓dstAt_zero, ↓dstAt_succ, ↓vfinish_ret, ↓vres_nil, ↓vres_tmp, vtell_eq, ret1, Option.map_some, Option.bind_some, ↓reduceIte, Nat.reduceEqDiff, reduceCtorEq, Bool.false_eq_true, decide_true, Bool.not_false, Nat.zero_add, Nat.reduceAdd, and_self, List.map_cons, List.map_nil, List.toList_toArray, List.length_cons, List.length_nil, mapOwn_bool, okv_bool, List.map_nil, List.map_cons, Bool.not_false, List.length_cons, List.length_nil, vload_at, aggV_agg, vbin_int, abin_lss, Int.toNat_natCast, decide_true, bb_tf, vgt48, vis42, vls42, ↓vfk34, Tryd.results9, e0, e7, hlt, h0, hx, ↓qright_c (X := XZ) rfl, h1, List.length_map]
                · by_cases hk : k = 4
                  · subst hk
                    simp -dsimp only [↓Hold_5, ↓VWP_seq, ↓VWP_region, ↓VWP_cond, ↓VWP_ret, ↓VWP_skip, ↓VWP_block, ↓VReg_one, ↓VReg_nil, ↓VS_guard, ↓VS_move, ↓VS_assign, ↓VS_pick, ↓VS_load, ↓VS_binOp, ↓VS_unOp, ↓VS_fieldAddr, ↓VS_indexAddr, ↓VS_len, ↓With_guard, ↓Hold_1, ↓Hold_3, With_some, emap_nil, ↓eget_eset, ↓ae_tmp, ↓ae_int, ↓ae_bool, lop_pick, lop_not, asBool_bool, asGuard_bool, ayielded_eq, ↓dstAt_zero, ↓dstAt_succ, ↓vfinish_ret, ↓vres_nil, ↓vres_tmp, vtell_eq, ret1, Option.map_some, Option.bind_some, ↓reduceIte, Nat.reduceEqDiff, reduceCtorEq, Bool.false_eq_true, decide_true, Bool.not_true, List.getElem?_cons_zero, Nat.zero_add, Nat.reduceAdd, and_self, List.map_cons, List.map_nil, List.toList_toArray, List.length_cons, List.length_nil, mapOwn_bool, okv_bool, List.map_nil, List.map_cons, Bool.not_true, beq_self_eq_true, List.length_cons, List.length_nil, vload_at, vfield_at, cellV_int, aggV_agg, isAggV_int, vbin_int, abin_eql, abin_lss, beq_self_eq_true, Int.toNat_natCast, decide_true, beq_self_eq_true, vgt48, vgt3, vpt48_0, vis42, vls42, ↓vfk34, Tryd.results9, e0, e7, hlt, h0, hx, ↓qright_c (X := XZ) rfl, h1, List.length_map]
                  · simp -dsimp only [↓Hold_5, thaw_sl, scrub_sl, ↓VWP_seq, ↓VWP_region, ↓VWP_cond, ↓VWP_skip, ↓VWP_block, ↓VReg_one, ↓VReg_nil, ↓VS_guard, ↓VS_move, ↓VS_assign, ↓VS_pick, ↓VS_load, ↓VS_binOp, ↓VS_unOp, ↓VS_fieldAddr, ↓VS_indexAddr, ↓VS_len, ↓VS_buildSlice, ↓VS_append, ↓With_guard, ↓Hold_1, With_some, emap_nil, emap_cons, ↓eget_map, ↓eget_eset, ↓ae_tmp, ↓ae_int, lop_pick, lop_not, asBool_bool, asGuard_bool, ayielded_eq, ↓dstAt_zero, ↓dstAt_succ, Option.map_some, Option.bind_some, ↓reduceIte, Nat.reduceEqDiff, reduceCtorEq, Bool.false_eq_true, decide_true, decide_false, Bool.not_true, Bool.not_false, List.getElem?_cons_zero, Nat.zero_add, Nat.reduceAdd, Nat.reduceMul, Nat.reduceLT, Nat.reduceLeDiff, and_true, true_and, List.map_cons, List.map_nil, List.all_cons, List.all_nil, tup_agg, cel_agg, List.size_toArray, List.length_cons, List.length_nil, mapOwn_vo, mapOwn_agg, mapOwn_int, mapOwn_string, thaw_own, thawAll_own, toksL_nil, toksL_cons, toks_int, toks_string, toks_agg, toks_vo, okv_agg, okv_vs, okv_int, okv_string, List.flatMap_nil, List.flatMap_cons, List.all_nil, List.all_cons, List.append_nil, List.map_nil, List.map_cons, Bool.and_self, Bool.not_true, Bool.not_false, Bool.false_or, List.mem_cons, List.not_mem_nil, or_false, Prod.mk.injEq, beq_self_eq_true, vturn_nil, vthaw_one, boxesOf_nil, boxesOf_none, ownBox_none, List.set_cons_zero, List.length_cons, List.length_nil, vload_at, vfield_at, cellV_int, aggV_agg, isAggV_int, velems_own, vgrow_own, partsOk_nil, partsOk_cons, vfill_nil, vfill_cons, vbin_int, tup_vo, cel_vo, List.replicate_succ, List.replicate_zero, abin_eql, abin_lss, abin_add, beq_self_eq_true, Int.toNat_natCast, decide_true, decide_false, beq_self_eq_true, ibeq, vgt48, vgt3, vpt48_0, vbd46, vbd42, vis42, vls42, vap46, ↓vfk34, e0, e1, e6, e7, hlt, h0, hx, ↓qright_c (X := XZ) rfl, h1, hk, hlen, List.length_map]
                    exact ⟨⟨by omega, by omega⟩, l.length - (i + 1), by omega, i + 1, rfl, by omega, by rw [ht]; rfl, by rw [hwr], hal h1 hk⟩
              · obtain rfl : i = l.length := by omega
                have hlt : ¬ ((l.length : Int) < l.length) := by omega
                rw [List.take_length] at e6 hall
                have hr : ∀ x ∈ l, rightF x = true := fun x hx => (hall x hx).1
                have cc := fun t S K => call_choose t n l (by omega) (by omega) hr S K
                by_cases b1 : n < 1
                · have hR : chooseR n l = eV 7 := by unfold chooseR; rw [if_pos (.inl b1)]
                  rw [hR] at cc
                  simp only [eV] at cc
                  simp -dsimp only [↓Hold_5, ↓VWP_seq, ↓VWP_region, ↓VWP_cond, ↓VWP_ret, ↓VWP_exit, ↓VReg_one, ↓VReg_non, ↓VReg_nil, ↓VS_guard, ↓VS_move, ↓VS_assign, ↓VS_pick, ↓VS_build, ↓VS_load, ↓VS_binOp, ↓VS_len, ↓VS_store, ↓With_guard, ↓Hold_1, ↓Hold_3, With_some, emap_nil, ↓eget_eset, ↓ae_tmp, ↓ae_int, ↓ae_bool, ↓ae_string, lop_pick, asBool_bool, asGuard_bool, bb_tf, ayielded_eq, ↓dstAt_zero, ↓dstAt_succ, ↓vfinish_ret, ↓vres_nil, ↓vres_tmp, vtell_eq, ret1, Option.map_some, Option.bind_some, ↓reduceIte, Nat.reduceEqDiff, reduceCtorEq, Bool.false_eq_true, decide_true, decide_false, Bool.not_false, Nat.zero_add, Nat.add_zero, Nat.reduceAdd, Nat.reduceLT, Nat.reduceLeDiff, true_and, and_self, List.map_cons, List.map_nil, List.all_cons, List.all_nil, tup_int, cel_int, tup_str, tup_agg, cel_agg, List.drop_zero, List.toList_toArray, List.size_toArray, List.length_cons, List.length_nil, mapOwn_bool, toksL_nil, toksL_cons, toks_int, toks_string, okv_bool, okv_int, okv_string, List.all_nil, List.all_cons, List.append_nil, List.nil_append, List.map_nil, List.map_cons, Bool.and_self, Bool.not_false, beq_self_eq_true, vnext_mk, vpush_mk, vget_nil, vput_nil, cellsIn_mk, List.getD_cons_zero, List.set_cons_zero, List.set_cons_succ, List.length_cons, List.length_nil, List.drop_zero, List.take_succ_cons, List.take_zero, vbin_int, ↓vlay_free, cellsOk_free, cellF, abin_lss, beq_self_eq_true, decide_true, decide_false, beq_self_eq_true, bb_tf, setAll_whole, afill, setAll, vld48, vst48, ↓val48, bd48, pl48_0, pl48_1, vls42, ↓vfk33, Tryd.results9, e0, e1, e6, e7, hlt, ↓cc, b1, ↓self_vv, List.length_map]
                · by_cases b2 : (l.length : Int) < n
                  · have hR : chooseR n l = eV 7 := by unfold chooseR; rw [if_pos (.inr (by omega))]
                    rw [hR] at cc
                    simp only [eV] at cc
                    simp -dsimp only [↓Hold_5, ↓VWP_seq, ↓VWP_region, ↓VWP_cond, ↓VWP_ret, ↓VWP_exit, ↓VReg_one, ↓VReg_non, ↓VReg_nil, ↓VS_guard, ↓VS_move, ↓VS_assign, ↓VS_pick, ↓VS_build, ↓VS_load, ↓VS_binOp, ↓VS_len, ↓VS_store, ↓With_guard, ↓Hold_1, ↓Hold_3, With_some, emap_nil, ↓eget_eset, ↓ae_tmp, ↓ae_int, ↓ae_string, lop_pick, asBool_bool, asGuard_bool, ayielded_eq, ↓dstAt_zero, ↓dstAt_succ, ↓vfinish_ret, ↓vres_nil, ↓vres_tmp, vtell_eq, ret1, Option.map_some, Option.bind_some, ↓reduceIte, Nat.reduceEqDiff, reduceCtorEq, Bool.false_eq_true, decide_true, decide_false, Bool.not_false, Nat.zero_add, Nat.add_zero, Nat.reduceAdd, Nat.reduceLT, Nat.reduceLeDiff, true_and, and_self, List.map_cons, List.map_nil, List.all_cons, List.all_nil, tup_int, cel_int, tup_str, tup_agg, cel_agg, List.drop_zero, List.toList_toArray, List.size_toArray, List.length_cons, List.length_nil, mapOwn_bool, toksL_nil, toksL_cons, toks_int, toks_string, okv_bool, okv_int, okv_string, List.all_nil, List.all_cons, List.append_nil, List.nil_append, List.map_nil, List.map_cons, Bool.and_self, Bool.not_false, beq_self_eq_true, vnext_mk, vpush_mk, vget_nil, vput_nil, cellsIn_mk, List.getD_cons_zero, List.set_cons_zero, List.set_cons_succ, List.length_cons, List.length_nil, List.drop_zero, List.take_succ_cons, List.take_zero, vbin_int, ↓vlay_free, cellsOk_free, cellF, abin_lss, abin_gtr, beq_self_eq_true, gt_iff_lt, decide_true, decide_false, beq_self_eq_true, setAll_whole, afill, setAll, vld48, vst48, ↓val48, bd48, pl48_0, pl48_1, vls42, ↓vfk33, Tryd.results9, e0, e1, e6, e7, hlt, ↓cc, b1, b2, ↓self_vv, List.length_map]
                  · have hi : (n - 1).toNat < l.length := by omega
                    have hR : chooseR n l = l[(n - 1).toNat] := by
                      unfold chooseR
                      rw [if_neg (by omega), List.getD_eq_getElem?_getD, List.getElem?_eq_getElem hi]
                      rfl
                    have hj : l[(n - 1).toNat]? = some l[(n - 1).toNat] := List.getElem?_eq_getElem hi
                    have hxr := hall _ (List.getElem_mem hi)
                    rw [hR] at cc
                    generalize l[(n - 1).toNat] = x at cc hj hxr
                    obtain ⟨m, hm1, hm2, hm3⟩ := matchGo_spec hxr.1 hxr.2 l 0 _ hr hj
                    have hM : matchF x l = iV ((m : Int) + 1) := by
                      unfold matchF
                      rw [if_neg hxr.2, hm2, Nat.zero_add]
                    have g1 : (l.map VV.v)[(n - 1).toNat]? = some x.v := by rw [List.getElem?_map, hj]; rfl
                    have g2 : (l.map VV.v)[m]? = some x.v := by rw [List.getElem?_map, hm3]; rfl
                    obtain ⟨k, q, s⟩ := x
                    have cm := fun t S K => call_match t k q s c l (by omega) hxr.1 hr S K
                    rw [hM] at cm
                    simp only [iV] at cm
                    simp only [VV.v] at g1 g2
                    have w1 : IntKind.i64.wrap (n - 1) = n - 1 := wrap_id (by omega) (by omega)
                    have w2 : IntKind.i64.wrap ((m : Int) + 1 - 1) = m := by rw [wrap_id (by omega) (by omega)]; omega
                    have q0 : 0 ≤ n - 1 := by omega
                    have q1 : (1 : Int) ≤ (m : Int) + 1 := by omega
                    have q2 : (m : Int) + 1 ≤ n := by omega
                    have q3 : (0 : Int) ≤ m := by omega
                    simp -dsimp only [↓Hold_5, toks_sl, thaw_sl, thawAll_sl, okv_sl0, tup_sl, cel_sl, ↓VWP_seq, ↓VWP_region, ↓VWP_cond, ↓VWP_skip, ↓VWP_exit, ↓VWP_open, ↓VReg_one, ↓VReg_non, ↓VReg_nil, ↓VS_guard, ↓VS_move, ↓VS_pick, ↓VS_load, ↓VS_binOp, ↓VS_len, ↓VS_buildSlice, ↓VS_store, ↓Hold_1, ↓Hold_3, With_some, emap_nil, emap_cons, ↓eget_map, ↓eget_eset, ↓ae_tmp, ↓ae_int, ↓ae_string, lop_pick, asBool_bool, asGuard_bool, ayielded_eq, ↓dstAt_zero, ↓dstAt_succ, Option.bind_some, ↓reduceIte, Nat.reduceEqDiff, reduceCtorEq, Bool.false_eq_true, decide_true, decide_false, Bool.not_true, Bool.not_false, Nat.zero_add, Nat.add_zero, Nat.reduceAdd, Nat.reduceMul, Nat.reduceLT, Nat.reduceLeDiff, and_self, List.map_cons, List.map_nil, List.all_cons, List.all_nil, tup_int, tup_str, tup_agg, cel_agg, List.drop_zero, List.toList_toArray, List.size_toArray, List.length_cons, List.length_nil, mapOwn_vo, mapOwn_agg, mapOwn_int, mapOwn_string, thawAll_own, toksL_nil, toksL_cons, toks_int, toks_string, toks_agg, toks_vo, okv_agg, okv_vs, okv_int, okv_string, List.flatMap_nil, List.flatMap_cons, List.all_nil, List.all_cons, List.append_nil, List.nil_append, List.cons_append, List.map_nil, List.map_cons, Bool.and_self, Bool.not_true, Bool.not_false, Bool.false_or, beq_self_eq_true, vnext_mk, vpush_mk, vget_nil, vput_nil, cellsIn_mk, vturn_nil, vthaw_one, boxesOf_nil, boxesOf_none, List.getD_cons_zero, List.getD_cons_succ, List.set_cons_zero, List.set_cons_succ, List.length_cons, List.length_nil, List.drop_zero, List.take_succ_cons, List.take_zero, partsOk_nil, partsOk_cons, vfill_nil, vfill_cons, vbin_int, ↓vlay_free, cellsOk_free, cellF, tup_vo, cel_vo, List.replicate_succ, List.replicate_zero, abin_lss, abin_gtr, beq_self_eq_true, gt_iff_lt, decide_true, decide_false, beq_self_eq_true, setAll_whole, vld48, vst48, ↓val48, vbd46, vbd42, vls42, ↓vfk33, e0, e1, e6, e7, hlt, ↓cc, ↓cm, b1, b2, List.length_map]
                    first | refine Vc_open [[], [], [], [], [], [], [], [], [], [], [], [], [], [], [], [], [], [], [], [], [], [], [], [], [], [], [], [], [], [], [], [], [], []] false (by kernel_rfl) (by kernel_rfl) (by kernel_rfl) ?_ | refine Vc_open2 [[], [], [], [], [], [], [], [], [], [], [], [], [], [], [], [], [], [], [], [], [], [], [], [], [], [], [], [], [], [], [], [], [], []] false (by kernel_rfl) (by kernel_rfl) (by kernel_rfl) (by kernel_rfl) ?_
                    simp -dsimp only [thaw_sl, ↓VWP_ret, ↓VS_guard, ↓VS_move, ↓VS_assign, ↓VS_pick, ↓VS_load, ↓VS_binOp, ↓VS_fieldAddr, ↓VS_indexAddr, ↓With_guard, ↓Hold_1, ↓Hold_3, With_some, emap_nil, ↓eget_map, ↓eget_eset, ↓ae_tmp, ↓ae_int, lop_pick, asGuard_bool, ayielded_eq, ↓dstAt_zero, ↓dstAt_succ, light, ↓vfinish_ret, ↓vres_nil, ↓vres_tmp, vtell_eq, ret1, Option.map_some, Option.bind_some, ↓reduceIte, Nat.reduceEqDiff, reduceCtorEq, decide_true, List.getElem?_cons_zero, List.getElem?_cons_succ, Nat.zero_add, Nat.add_zero, Nat.reduceAdd, Nat.reduceLeDiff, and_self, List.all_nil, List.drop_zero, List.toList_toArray, List.length_cons, List.length_nil, mapOwn_bool, mapOwn_int, mapOwn_pointer, okv_bool, List.all_nil, beq_self_eq_true, vget_nil, cellsIn_mk, List.getD_cons_zero, List.getD_cons_succ, List.length_cons, List.length_nil, List.drop_zero, List.take_succ_cons, List.take_zero, vload_at, aggV_agg, vbin_int, abin_eql, abin_leq, abin_geq, abin_sub, beq_self_eq_true, Int.toNat_natCast, ge_iff_le, decide_true, beq_self_eq_true, ↓VE_nil, ↓VE_one0, List.reverse_nil, vld48, vgt48, vld3, vfp48_0, vfp48_1, vis42, Tryd.results9, e0, e1, w1, w2, q0, q1, q2, q3, ↓self_vv, g1, g2]
end Go.Proofs.YtmdpggecelheoaaDoor.Abs
/- Functions of others: truths, errors, a choice; how many there are. -/
set_option linter.unusedVariables false
set_option linter.unusedSimpArgs false
set_option maxRecDepth 4000
set_option maxHeartbeats 0
namespace Go.Proofs.YtmdpggecelheoaaDoor.Abs
open Go
attribute [local irreducible] Hold VReg Vf Vc VWP With VStp Vcallee Vp VE
section
variable {X : VOuter}
theorem abool_p (hX : X 118 = none) (b : Bool) : Vp Tryd.prog X 118 [.bool b] (bV b).v := by
  unfold Vp
  refine Vf_text hX Tryd.func118 rfl (by kernel_rfl) (by show 1 ≤ _; decide) ?_
  cases b <;> simp -dsimp only [↓VWP_seq, ↓VWP_region, ↓VWP_cond, ↓VWP_ret, ↓VWP_skip, ↓VReg_one, ↓VReg_non, ↓VReg_nil, ↓VS_move, ↓VS_build, ↓VS_store, ↓With_bindH, ↓With_guard, ↓Hold_1, With_some, emap_nil, ↓eget_eset, ↓ae_tmp, ↓ae_int, eget_zero, asBool_bool, ↓vfinish_ret, ↓vres_nil, ↓vres_cell, vtell_eq, ret1, Option.map_some, Option.bind_some, ↓reduceIte, Nat.reduceEqDiff, reduceCtorEq, Bool.false_eq_true, decide_false, Bool.not_false, Nat.zero_add, Nat.add_zero, Nat.reduceAdd, Nat.reduceLT, Nat.reduceLeDiff, true_and, and_self, List.map_cons, List.map_nil, List.all_cons, List.all_nil, tup_int, cel_int, tup_str, tup_agg, cel_agg, List.drop_zero, List.toList_toArray, List.size_toArray, List.length_cons, List.length_nil, mapOwn_agg, mapOwn_int, mapOwn_string, toksL_nil, toksL_cons, toks_int, toks_string, toks_agg, okv_agg, okv_int, okv_string, List.flatMap_nil, List.flatMap_cons, List.all_nil, List.all_cons, List.append_nil, List.nil_append, List.map_nil, List.map_cons, Bool.and_self, Bool.not_false, beq_self_eq_true, vnext_mk, vpush_mk, vget_nil, vput_nil, cellsIn_mk, vthaw_nil, vwrites_nil, List.getD_cons_zero, List.set_cons_zero, List.set_cons_succ, List.length_cons, List.length_nil, List.drop_zero, List.take_succ_cons, List.take_zero, ↓vlay_free, cellsOk_free, cellF, beq_self_eq_true, decide_false, beq_self_eq_true, setAll_whole, afill, setAll, vld48, vst48, ↓val48, bd48, pl48_0, pl48_1, Tryd.results118] <;> rfl
theorem abool_c (hX : X 118 = none) (b : Bool) {S : VH} {K : VCont} : Vcallee Tryd.prog X 118 [.bool b] S K = K (.agg ⟨[.int .i64 3, .int .i64 (if b then 1 else 0), .string .empty]⟩) [] S [] false := Vcallee_of (abool_p hX b) rfl rfl (by cases b <;> rfl)
theorem truth_p (hX : X 148 = none) (k n : Int) (s : ByteArray) : Vp Tryd.prog X 148 [.agg ⟨[.int .i64 k, .int .i64 n, .string s]⟩] (.tuple ⟨[.bool (decide (k = 3) && decide (n = 1)), .bool (decide (k = 3) || decide (k = 0))]⟩) := by
  unfold Vp
  refine Vf_text hX Tryd.func148 rfl (by kernel_rfl) (by show 1 ≤ _; decide) ?_
  by_cases h1 : k = 3
  · by_cases h2 : n = 1
    · simp -dsimp only [↓VWP_seq, ↓VWP_region, ↓VWP_open, ↓VReg_one, ↓VReg_nil, ↓VS_assign, ↓VS_box, ↓Hold_1, With_some, emap_nil, ↓ae_tmp, ↓ae_bool, eget_zero, Bool.not_false, Nat.add_zero, true_and, List.all_cons, List.all_nil, tup_int, tup_str, tup_agg, cel_agg, List.toList_toArray, List.length_nil, toksL_nil, toksL_cons, toks_int, toks_string, okv_int, okv_string, List.all_nil, List.all_cons, List.append_nil, List.nil_append, Bool.and_self, Bool.not_false, beq_self_eq_true, vnext_mk, vpush_mk, List.length_nil, ↓vbox_free, cellsOk_free, cellF, beq_self_eq_true, beq_self_eq_true, h1, h2]
      refine Vc_open [[], [], [], [], [], [], [], [], [], [], [], [], [], [], [], [], [], []] false (by kernel_rfl) (by kernel_rfl) (by kernel_rfl) ?_
      simp -dsimp only [↓VWP_ret, ↓VS_guard, ↓VS_move, ↓VS_assign, ↓VS_pick, ↓VS_load, ↓VS_binOp, ↓VS_fieldAddr, ↓With_guard, ↓Hold_1, ↓Hold_3, With_some, emap_nil, ↓eget_eset, ↓ae_tmp, ↓ae_int, ↓ae_bool, lop_pick, asGuard_bool, bb_tf, ayielded_eq, ↓dstAt_zero, ↓dstAt_succ, light, ↓vfinish_ret, ↓vres_nil, ↓vres_tmp, vtell_eq, ret1, Option.map_some, Option.bind_some, ↓reduceIte, Nat.reduceEqDiff, Bool.false_eq_true, decide_true, decide_false, List.getElem?_cons_zero, List.getElem?_cons_succ, Nat.zero_add, Nat.add_zero, and_self, List.map_cons, List.map_nil, List.all_cons, List.all_nil, Bool.and_true, List.toList_toArray, List.length_nil, mapOwn_tuple, mapOwn_bool, toks_bool, toks_tuple, okv_tuple, okv_bool, List.flatMap_nil, List.flatMap_cons, List.all_nil, List.all_cons, List.append_nil, List.map_nil, List.map_cons, Bool.and_true, Bool.and_self, Bool.or_false, beq_self_eq_true, vget_nil, cellsIn_mk, vthaw_nil, vwrites_nil, List.getD_cons_zero, List.length_nil, vbin_int, abin_eql, beq_self_eq_true, decide_true, decide_false, beq_self_eq_true, bb_tf, Int.reduceEq, ↓VE_nil, ↓VE_one0, List.reverse_nil, Bool.and_eq_true, vld3, vfp48_0, vfp48_1, Tryd.results148, h1, h2]
    · simp -dsimp only [↓VWP_seq, ↓VWP_region, ↓VWP_open, ↓VReg_one, ↓VReg_nil, ↓VS_assign, ↓VS_box, ↓Hold_1, With_some, emap_nil, ↓ae_tmp, ↓ae_bool, eget_zero, Bool.not_false, Nat.add_zero, true_and, List.all_cons, List.all_nil, tup_int, tup_str, tup_agg, cel_agg, List.toList_toArray, List.length_nil, toksL_nil, toksL_cons, toks_int, toks_string, okv_int, okv_string, List.all_nil, List.all_cons, List.append_nil, List.nil_append, Bool.and_self, Bool.not_false, beq_self_eq_true, vnext_mk, vpush_mk, List.length_nil, ↓vbox_free, cellsOk_free, cellF, beq_self_eq_true, beq_self_eq_true, h1]
      refine Vc_open [[], [], [], [], [], [], [], [], [], [], [], [], [], [], [], [], [], []] false (by kernel_rfl) (by kernel_rfl) (by kernel_rfl) ?_
      simp -dsimp only [↓VWP_ret, ↓VS_guard, ↓VS_move, ↓VS_assign, ↓VS_pick, ↓VS_load, ↓VS_binOp, ↓VS_fieldAddr, ↓With_guard, ↓Hold_1, ↓Hold_3, With_some, emap_nil, ↓eget_eset, ↓ae_tmp, ↓ae_int, ↓ae_bool, lop_pick, asGuard_bool, bb_tf, ayielded_eq, ↓dstAt_zero, ↓dstAt_succ, light, ↓vfinish_ret, ↓vres_nil, ↓vres_tmp, vtell_eq, ret1, Option.map_some, Option.bind_some, ↓reduceIte, Nat.reduceEqDiff, Bool.false_eq_true, decide_true, decide_false, List.getElem?_cons_zero, List.getElem?_cons_succ, Nat.zero_add, Nat.add_zero, and_self, List.map_cons, List.map_nil, List.all_cons, List.all_nil, Bool.and_true, List.toList_toArray, List.length_nil, mapOwn_tuple, mapOwn_bool, toks_bool, toks_tuple, okv_tuple, okv_bool, List.flatMap_nil, List.flatMap_cons, List.all_nil, List.all_cons, List.append_nil, List.map_nil, List.map_cons, Bool.and_true, Bool.and_false, Bool.or_false, beq_self_eq_true, vget_nil, cellsIn_mk, vthaw_nil, vwrites_nil, List.getD_cons_zero, List.length_nil, vbin_int, abin_eql, beq_self_eq_true, decide_true, decide_false, beq_self_eq_true, bb_tf, ibeq, Int.reduceEq, ↓VE_nil, ↓VE_one0, List.reverse_nil, Bool.and_eq_true, vld3, vfp48_0, vfp48_1, Tryd.results148, h1, h2]
  · by_cases h2 : k = 0
    · subst h2
      simp -dsimp only [↓VWP_seq, ↓VWP_region, ↓VWP_open, ↓VReg_one, ↓VReg_nil, ↓VS_assign, ↓VS_box, ↓Hold_1, With_some, emap_nil, ↓ae_tmp, ↓ae_bool, eget_zero, Bool.not_false, Nat.add_zero, true_and, List.all_cons, List.all_nil, tup_int, tup_str, tup_agg, cel_agg, List.toList_toArray, List.length_nil, toksL_nil, toksL_cons, toks_int, toks_string, okv_int, okv_string, List.all_nil, List.all_cons, List.append_nil, List.nil_append, Bool.and_self, Bool.not_false, beq_self_eq_true, vnext_mk, vpush_mk, List.length_nil, ↓vbox_free, cellsOk_free, cellF, beq_self_eq_true, beq_self_eq_true]
      refine Vc_open [[], [], [], [], [], [], [], [], [], [], [], [], [], [], [], [], [], []] false (by kernel_rfl) (by kernel_rfl) (by kernel_rfl) ?_
      simp -dsimp only [↓VWP_ret, ↓VS_guard, ↓VS_move, ↓VS_assign, ↓VS_pick, ↓VS_load, ↓VS_binOp, ↓VS_fieldAddr, ↓With_guard, ↓Hold_1, ↓Hold_3, With_some, emap_nil, ↓eget_eset, ↓ae_tmp, ↓ae_int, ↓ae_bool, lop_pick, asGuard_bool, bb_ft, ayielded_eq, ↓dstAt_zero, ↓dstAt_succ, light, ↓vfinish_ret, ↓vres_nil, ↓vres_tmp, vtell_eq, ret1, Option.map_some, Option.bind_some, ↓reduceIte, Nat.reduceEqDiff, Bool.false_eq_true, decide_true, decide_false, List.getElem?_cons_zero, Nat.add_zero, and_self, List.map_cons, List.map_nil, List.all_cons, List.all_nil, Bool.and_true, List.toList_toArray, List.length_nil, mapOwn_tuple, mapOwn_bool, toks_bool, toks_tuple, okv_tuple, okv_bool, List.flatMap_nil, List.flatMap_cons, List.all_nil, List.all_cons, List.append_nil, List.map_nil, List.map_cons, Bool.and_true, Bool.false_and, beq_self_eq_true, vget_nil, cellsIn_mk, vthaw_nil, vwrites_nil, List.getD_cons_zero, List.length_nil, vbin_int, abin_eql, beq_self_eq_true, decide_true, decide_false, beq_self_eq_true, bb_ft, ibeq, Int.reduceEq, ↓VE_nil, ↓VE_one0, Bool.or_true, List.reverse_nil, Bool.and_eq_true, vld3, vfp48_0, Tryd.results148]
    · simp -dsimp only [↓VWP_seq, ↓VWP_region, ↓VWP_open, ↓VReg_one, ↓VReg_nil, ↓VS_assign, ↓VS_box, ↓Hold_1, With_some, emap_nil, ↓ae_tmp, ↓ae_bool, eget_zero, Bool.not_false, Nat.add_zero, true_and, List.all_cons, List.all_nil, tup_int, tup_str, tup_agg, cel_agg, List.toList_toArray, List.length_nil, toksL_nil, toksL_cons, toks_int, toks_string, okv_int, okv_string, List.all_nil, List.all_cons, List.append_nil, List.nil_append, Bool.and_self, Bool.not_false, beq_self_eq_true, vnext_mk, vpush_mk, List.length_nil, ↓vbox_free, cellsOk_free, cellF, beq_self_eq_true, beq_self_eq_true]
      refine Vc_open [[], [], [], [], [], [], [], [], [], [], [], [], [], [], [], [], [], []] false (by kernel_rfl) (by kernel_rfl) (by kernel_rfl) ?_
      simp -dsimp only [↓VWP_ret, ↓VS_guard, ↓VS_move, ↓VS_assign, ↓VS_pick, ↓VS_load, ↓VS_binOp, ↓VS_fieldAddr, ↓With_guard, ↓Hold_1, ↓Hold_3, With_some, emap_nil, ↓eget_eset, ↓ae_tmp, ↓ae_int, ↓ae_bool, lop_pick, asGuard_bool, bb_ft, ayielded_eq, ↓dstAt_zero, ↓dstAt_succ, light, ↓vfinish_ret, ↓vres_nil, ↓vres_tmp, vtell_eq, ret1, Option.map_some, Option.bind_some, ↓reduceIte, Nat.reduceEqDiff, Bool.false_eq_true, decide_false, List.getElem?_cons_zero, Nat.add_zero, and_self, List.map_cons, List.map_nil, List.all_cons, List.all_nil, Bool.and_true, List.toList_toArray, List.length_nil, mapOwn_tuple, mapOwn_bool, toks_bool, toks_tuple, okv_tuple, okv_bool, List.flatMap_nil, List.flatMap_cons, List.all_nil, List.all_cons, List.append_nil, List.map_nil, List.map_cons, Bool.and_true, Bool.false_and, beq_self_eq_true, vget_nil, cellsIn_mk, vthaw_nil, vwrites_nil, List.getD_cons_zero, List.length_nil, vbin_int, abin_eql, beq_self_eq_true, decide_false, beq_self_eq_true, bb_ft, ibeq, ↓VE_nil, ↓VE_one0, Bool.or_self, List.reverse_nil, Bool.and_eq_true, vld3, vfp48_0, Tryd.results148, h1, h2]
theorem truth_c (hX : X 148 = none) (k n : Int) (s : ByteArray) {S : VH} {K : VCont} : Vcallee Tryd.prog X 148 [.agg ⟨[.int .i64 k, .int .i64 n, .string s]⟩] S K = K (.tuple ⟨[.bool (decide (k = 3) && decide (n = 1)), .bool (decide (k = 3) || decide (k = 0))]⟩) [] S [] false := Vcallee_of (truth_p hX k n s) rfl rfl rfl
/-- A choice whose first value is TRUE. -/
theorem either_t (h : AOff X) (hX : X 120 = none) (hX1 : X 148 = none) (c : Bool) (d : Nat) (x y : VV) : Vp Tryd.prog X 120 [sl c d 3 [.agg ⟨[.int .i64 3, .int .i64 1, .string .empty]⟩, .agg ⟨[.int .i64 x.k, .int .i64 x.n, .string x.s]⟩, .agg ⟨[.int .i64 y.k, .int .i64 y.n, .string y.s]⟩]] x.v := by
  unfold Vp
  refine Vf_text hX Tryd.func120 rfl (by kernel_rfl) (by show 1 ≤ _; decide) ?_
  simp -dsimp only [↓Hold_5, ↓VWP_seq, ↓VWP_region, ↓VWP_cond, ↓VWP_ret, ↓VWP_block, ↓VReg_one, ↓VReg_non, ↓VReg_nil, ↓VS_move, ↓VS_assign, ↓VS_load, ↓VS_binOp, ↓VS_unOp, ↓VS_fieldAddr, ↓VS_indexAddr, ↓VS_extract, ↓VS_store, ↓With_bindH, ↓With_guard, ↓Hold_1, With_some, emap_nil, ↓eget_eset, ↓ae_tmp, ↓ae_int, eget_zero, lop_extract, lop_not, asBool_bool, ↓vfinish_ret, ↓vres_nil, ↓vres_cell, vtell_eq, ret1, Option.map_some, Option.bind_some, ↓reduceIte, Nat.reduceEqDiff, reduceCtorEq, Bool.false_eq_true, decide_true, decide_false, Bool.not_true, Bool.not_false, List.getElem?_toArray, List.getElem?_cons_zero, List.getElem?_cons_succ, Nat.zero_add, Nat.add_zero, Nat.reduceAdd, Nat.reduceLT, Nat.reduceLeDiff, true_and, and_self, List.map_cons, List.map_nil, List.all_cons, List.all_nil, tup_int, tup_str, tup_agg, cel_agg, List.drop_zero, List.toList_toArray, List.size_toArray, List.length_cons, List.length_nil, mapOwn_agg, mapOwn_int, mapOwn_string, toksL_nil, toksL_cons, toks_int, toks_string, toks_agg, okv_agg, okv_int, okv_string, List.flatMap_nil, List.flatMap_cons, List.all_nil, List.all_cons, List.append_nil, List.nil_append, List.map_nil, List.map_cons, Bool.and_self, Bool.not_true, Bool.not_false, Bool.or_false, beq_self_eq_true, vnext_mk, vpush_mk, vget_nil, vput_nil, cellsIn_mk, vthaw_nil, vwrites_nil, List.getD_cons_zero, List.set_cons_zero, List.length_cons, List.length_nil, List.drop_zero, List.take_succ_cons, List.take_zero, vload_at, vfield_at, cellV_int, aggV_agg, isAggV_int, vbin_int, ↓vlay_free, cellsOk_free, cellF, abin_eql, beq_self_eq_true, Int.reduceLE, Int.reduceToNat, decide_true, decide_false, beq_self_eq_true, setAll_whole, ibeq, Int.reduceEq, vld48, vgt48, vgt3, vst48, ↓val48, vpt48_0, vis42, ↓vfk148, Tryd.results120, ↓truth_c hX1]
  rfl
theorem iserr_p (hX : X 117 = none) (hX1 : X 118 = none) (c : Bool) (d : Nat) (n : Int) (s : ByteArray) : Vp Tryd.prog X 117 [sl c d 3 [.agg ⟨[.int .i64 4, .int .i64 n, .string s]⟩]] (bV true).v := by
  unfold Vp
  refine Vf_text hX Tryd.func117 rfl (by kernel_rfl) (by show 1 ≤ _; decide) ?_
  simp -dsimp only [↓Hold_5, ↓VWP_seq, ↓VWP_region, ↓VWP_ret, ↓VReg_one, ↓VReg_non, ↓VReg_nil, ↓VS_move, ↓VS_load, ↓VS_binOp, ↓VS_fieldAddr, ↓VS_indexAddr, ↓VS_store, ↓With_bindH, ↓With_guard, ↓Hold_1, With_some, emap_nil, ↓eget_eset, ↓ae_tmp, ↓ae_int, eget_zero, ↓vfinish_ret, ↓vres_nil, ↓vres_cell, vtell_eq, ret1, Option.map_some, Option.bind_some, ↓reduceIte, Nat.reduceEqDiff, reduceCtorEq, Bool.false_eq_true, decide_false, Bool.not_false, List.getElem?_cons_zero, Nat.zero_add, Nat.add_zero, Nat.reduceAdd, Nat.reduceLT, Nat.reduceLeDiff, true_and, and_self, List.map_cons, List.map_nil, List.all_cons, List.all_nil, tup_int, tup_str, tup_agg, cel_agg, List.drop_zero, List.toList_toArray, List.size_toArray, List.length_cons, List.length_nil, mapOwn_agg, mapOwn_int, mapOwn_string, toksL_nil, toksL_cons, toks_int, toks_string, toks_agg, okv_agg, okv_int, okv_string, List.flatMap_nil, List.flatMap_cons, List.all_nil, List.all_cons, List.append_nil, List.nil_append, List.map_nil, List.map_cons, Bool.and_self, Bool.not_false, beq_self_eq_true, vnext_mk, vpush_mk, vget_nil, vput_nil, cellsIn_mk, vthaw_nil, vwrites_nil, List.getD_cons_zero, List.set_cons_zero, List.length_cons, List.length_nil, List.drop_zero, List.take_succ_cons, List.take_zero, vload_at, vfield_at, cellV_int, isAggV_int, vbin_int, ↓vlay_free, cellsOk_free, cellF, abin_eql, beq_self_eq_true, Int.reduceLE, Int.reduceToNat, decide_false, beq_self_eq_true, setAll_whole, vgt3, vld48, vst48, ↓val48, vpt48_0, vis42, ↓vfk118, Tryd.results117, ↓abool_c hX1]
  rfl
theorem counta_1 (h : AOff X) (hX : X 94 = none) (c : Bool) (d : Nat) (n : Int) (s : ByteArray) : Vp Tryd.prog X 94 [sl c d 3 [.agg ⟨[.int .i64 4, .int .i64 n, .string s]⟩]] (iV 1).v := by
  have w : IntKind.i64.wrap (0 + 1) = 1 := rfl
  have w1 : IntKind.i64.wrap 1 = 1 := rfl
  unfold Vp
  refine Vf_text hX Tryd.func94 rfl (by kernel_rfl) (by show 1 ≤ _; decide) ?_
  simp -dsimp only [↓VWP_seq, ↓VWP_region, ↓VWP_block, ↓VWP_loop, ↓VReg_one, ↓VReg_nil, ↓VS_move, ↓VS_assign, ↓VS_len, ↓Hold_1, With_some, emap_nil, ↓eget_eset, ↓ae_tmp, ↓ae_int, eget_zero, ↓reduceIte, reduceCtorEq, Nat.zero_add, Nat.add_zero, List.length_cons, List.length_nil, List.nil_append, vnext_mk, vpush_mk, List.length_cons, List.length_nil, Int.cast_ofNat_Int, ↓val48, vls42]
  refine Vc_unroll ?_
  simp -dsimp only [↓VWP_seq, ↓VWP_region, ↓VWP_cond, ↓VWP_skip, ↓VWP_block, ↓VReg_one, ↓VReg_non, ↓VReg_nil, ↓VS_move, ↓VS_assign, ↓VS_load, ↓VS_binOp, ↓VS_fieldAddr, ↓VS_indexAddr, ↓VS_store, ↓Hold_1, With_some, emap_nil, ↓eget_eset, ↓ae_tmp, ↓ae_int, asBool_bool, Option.map_some, ↓reduceIte, Nat.reduceEqDiff, decide_true, decide_false, Bool.not_false, List.getElem?_cons_zero, Nat.zero_add, Nat.add_zero, Nat.reduceAdd, Nat.reduceLT, Nat.reduceLeDiff, and_self, List.all_cons, List.all_nil, tup_int, tup_str, tup_agg, cel_agg, List.toList_toArray, List.size_toArray, List.length_cons, List.length_nil, toksL_nil, toksL_cons, toks_int, toks_string, okv_int, okv_string, List.all_nil, List.all_cons, List.append_nil, List.nil_append, List.cons_append, Bool.and_self, Bool.not_false, beq_self_eq_true, vnext_mk, vpush_mk, vget_nil, vput_nil, cellsIn_mk, List.getD_cons_zero, List.getD_cons_succ, List.set_cons_zero, List.set_cons_succ, List.length_cons, List.length_nil, vload_at, aggV_agg, vbin_int, ↓vlay_free, cellsOk_free, cellF, abin_neq, abin_lss, abin_add, beq_self_eq_true, Int.reduceLT, Int.reduceLE, Int.reduceToNat, Int.reduceAdd, decide_true, decide_false, beq_self_eq_true, setAll_whole, ibne, Int.reduceEq, vgt48, vld3, vst48, ↓val48, vfp48_0, vis42, w1]
  refine Vc_unroll ?_
  simp -dsimp only [↓Hold_5, ↓VWP_seq, ↓VWP_region, ↓VWP_cond, ↓VWP_ret, ↓VWP_exit, ↓VReg_one, ↓VReg_non, ↓VReg_nil, ↓VS_move, ↓VS_binOp, ↓VS_store, ↓With_bindH, ↓With_guard, ↓Hold_1, ↓Hold_3, With_some, emap_nil, ↓eget_eset, ↓ae_tmp, asBool_bool, ↓vfinish_ret, ↓vres_nil, ↓vres_cell, vtell_eq, ret1, Option.map_some, ↓reduceIte, Nat.reduceEqDiff, Bool.false_eq_true, decide_false, Bool.not_false, Nat.zero_add, Nat.reduceAdd, Nat.reduceLT, Nat.reduceLeDiff, true_and, and_self, List.map_cons, List.map_nil, List.all_cons, List.all_nil, tup_int, tup_str, tup_agg, cel_agg, List.drop_zero, List.toList_toArray, List.size_toArray, List.length_cons, List.length_nil, mapOwn_agg, mapOwn_int, mapOwn_string, toksL_nil, toksL_cons, toks_int, toks_string, toks_agg, okv_agg, okv_int, okv_string, List.flatMap_nil, List.flatMap_cons, List.all_nil, List.all_cons, List.append_nil, List.map_nil, List.map_cons, Bool.and_self, Bool.not_false, beq_self_eq_true, vnext_mk, vget_nil, vput_nil, cellsIn_mk, vthaw_nil, vwrites_nil, List.getD_cons_zero, List.set_cons_zero, List.length_cons, List.length_nil, List.drop_zero, List.take_succ_cons, List.take_zero, vbin_int, ↓vlay_free, cellsOk_free, cellF, abin_lss, beq_self_eq_true, Int.lt_irrefl, decide_false, beq_self_eq_true, setAll_whole, vld48, vst48, ↓vfk92, Tryd.results94, ↓int_c h.int]
  rfl
end
end Go.Proofs.YtmdpggecelheoaaDoor.Abs
/- Functions of all values: SUM, COUNT, COUNTA, AVG, AND, OR. -/
set_option linter.unusedVariables false
set_option linter.unusedSimpArgs false
set_option maxRecDepth 4000
set_option maxHeartbeats 0
namespace Go.Proofs.YtmdpggecelheoaaDoor.Abs
open Go
attribute [local irreducible] Hold VReg Vf Vc VWP With VStp Vcallee Vp VE
section
variable {X : VOuter}
def sumF (N : List Int) : VV := N.foldl (fun o n => pairF addV o (iV n)) (iV 0)
theorem sumF_take (N : List Int) (i : Nat) (h : i < N.length) : sumF (N.take (i + 1)) = pairF addV (sumF (N.take i)) (iV N[i]) := by
  unfold sumF
  rw [← List.take_append_getElem h, List.foldl_append]
  rfl
theorem sum_p (h : AOff X) (hX : X 85 = none) (hX1 : X 93 = none) (c : Bool) (d : Nat) (l : List VV) (hl : l.length ≤ 1000000000) : Vp Tryd.prog X 85 [sl c d 3 (l.map VV.v)] (sumF (intsF l)).v := by
  unfold Vp
  refine Vf_text hX Tryd.func85 rfl (by kernel_rfl) (by show 1 ≤ _; decide) ?_
  have hlen := intsF_len l
  simp -dsimp only [↓Hold_5, ↓VWP_seq, ↓VWP_region, ↓VWP_block, ↓VWP_loop, ↓VReg_one, ↓VReg_non, ↓VReg_nil, ↓VS_move, ↓VS_len, ↓VS_store, ↓Hold_1, With_some, emap_nil, ↓eget_eset, ↓ae_tmp, ↓ae_int, eget_zero, ↓reduceIte, Nat.reduceEqDiff, reduceCtorEq, Bool.not_false, Nat.zero_add, Nat.add_zero, Nat.reduceAdd, Nat.reduceLeDiff, true_and, List.map_cons, List.map_nil, List.all_cons, List.all_nil, tup_int, tup_str, tup_agg, cel_agg, List.toList_toArray, List.size_toArray, List.length_cons, List.length_nil, toksL_nil, toksL_cons, toks_int, toks_string, okv_int, okv_string, List.all_nil, List.all_cons, List.append_nil, List.nil_append, List.cons_append, List.map_nil, List.map_cons, Bool.and_self, Bool.not_false, beq_self_eq_true, vnext_mk, vpush_mk, vget_nil, vput_nil, cellsIn_mk, List.getD_cons_zero, List.getD_cons_succ, List.set_cons_zero, List.set_cons_succ, List.length_cons, List.length_nil, ↓vlay_free, cellsOk_free, cellF, beq_self_eq_true, beq_self_eq_true, setAll, vst48, ↓val48, vls43, ↓vfk92, ↓vfk93, ↓ints_c hX1 c d l hl, ↓int_c h.int, List.length_map]
  generalize intsF l = N at *
  refine Vc_loop (fun m e S => ∃ i : Nat, m = N.length - i ∧ i ≤ N.length ∧ eget e 8 = sl true 0 1 (N.map vI) ∧ eget e 9 = .int .i64 N.length ∧ eget e 10 = .int .i64 i ∧ eget e 2 = .pointer (some { block := 0, off := 0 }) ∧ eget e 3 = .pointer (some { block := 1, off := 0 }) ∧ S = ⟨[], [.cells true 48 [.int .i64 0, .int .i64 0, .string .empty], .cells true 48 [.int .i64 (sumF (N.take i)).k, .int .i64 (sumF (N.take i)).n, .string (sumF (N.take i)).s]], []⟩) N.length ?_ ?_
  · refine ⟨0, rfl, Nat.zero_le _, ?_, ?_, ?_, ?_, ?_, rfl⟩ <;> simp only [↓eget_eset, ↓reduceIte, Nat.reduceEqDiff] <;> rfl
  · rintro m e S ⟨i, rfl, hi, e8, e9, e10, e2, e3, rfl⟩
    refine VWP_Vc _ _ _ _ ?_
    by_cases hin : i < N.length
    · have hlt : (i : Int) < N.length := by omega
      have h0 : (0 : Int) ≤ i := by omega
      have hx : (N.map vI)[i]? = some (.int .i64 N[i]) := by simp [hin, vI]
      have ht := sumF_take N i hin
      have hnum : ((i : Int) + 1) = ((i + 1 : Nat) : Int) := by omega
      have hwr : IntKind.i64.wrap ((i : Int) + 1) = ((i + 1 : Nat) : Int) := by rw [hnum]; exact wrap_id (by omega) (by omega)
      generalize N[i] = x at hx ht
      generalize sumF (N.take i) = A at ht
      obtain ⟨ak, an, az⟩ := A
      simp -dsimp only [↓VWP_seq, ↓VWP_region, ↓VWP_cond, ↓VWP_skip, ↓VWP_block, ↓VWP_open, ↓VReg_one, ↓VReg_nil, ↓VS_assign, ↓VS_load, ↓VS_binOp, ↓VS_indexAddr, ↓Hold_1, With_some, emap_nil, ↓eget_eset, ↓ae_tmp, asBool_bool, Option.map_some, ↓reduceIte, Nat.reduceEqDiff, decide_true, vload_at, cellV_int, vbin_int, abin_lss, Int.toNat_natCast, decide_true, vgt3, vis43, e8, e9, e10, hlt, h0, hx]
      refine Vc_open [[1], [], [], [], []] false (by kernel_rfl) (by kernel_rfl) (by kernel_rfl) ?_
      simp -dsimp only [↓Hold_5, ↓VWP_region, ↓VReg_one, ↓VReg_nil, ↓VS_move, ↓VS_load, ↓VS_binOp, ↓VS_store, ↓Hold_1, ↓Hold_3, With_some, emap_nil, ↓eget_eset, ↓ae_tmp, ↓ae_int, ↓ae_string, light, Option.bind_some, ↓reduceIte, Nat.reduceEqDiff, Bool.false_eq_true, decide_true, decide_false, Bool.not_true, Bool.not_false, List.getElem?_cons_zero, List.getElem?_cons_succ, Nat.zero_add, Nat.reduceAdd, Nat.reduceLT, Nat.reduceLeDiff, true_and, and_self, List.map_cons, List.map_nil, List.all_cons, List.all_nil, tup_int, tup_str, tup_agg, cel_agg, Bool.and_true, List.drop_zero, List.toList_toArray, List.size_toArray, List.length_cons, List.length_nil, toksL_nil, toksL_cons, toks_int, toks_string, okv_int, okv_string, List.all_nil, List.all_cons, List.append_nil, List.nil_append, List.cons_append, List.map_nil, List.map_cons, Bool.and_true, Bool.and_false, Bool.and_self, Bool.true_and, Bool.not_true, Bool.not_false, Bool.or_false, beq_self_eq_true, vnext_mk, vget_nil, vput_nil, cellsIn_mk, List.getD_cons_zero, List.getD_cons_succ, List.set_cons_zero, List.set_cons_succ, List.length_cons, List.length_nil, List.drop_zero, List.take_succ_cons, List.take_zero, vbin_int, ↓vlay_free, cellsOk_free, cellF, abin_add, beq_self_eq_true, decide_true, decide_false, beq_self_eq_true, setAll_whole, ↓VE_nil, ↓VE_one0, ↓VE_one1, ↓VE_non0, shade_load, ↓vobl_load, dep_box, isGone_agg, depStep_box, vspan, List.range_succ, List.range_zero, Bool.or_true, Nat.min_def, Nat.max_def, List.reverse_cons, List.reverse_nil, vld48, vst48, ↓vfk92, ↓vfk96, e8, e9, e10, e2, e3, ↓int_c h.int, ↓pairadd_c h]
      exact ⟨N.length - (i + 1), by omega, i + 1, rfl, by omega, by rw [hwr], by rw [ht]; rfl⟩
    · obtain rfl : i = N.length := by omega
      have hlt : ¬ ((N.length : Int) < N.length) := by omega
      simp -dsimp only [↓VWP_seq, ↓VWP_region, ↓VWP_cond, ↓VWP_ret, ↓VWP_exit, ↓VReg_one, ↓VReg_non, ↓VReg_nil, ↓VS_load, ↓VS_binOp, ↓VS_store, ↓With_bindH, ↓With_guard, ↓Hold_1, ↓Hold_3, With_some, emap_nil, ↓eget_eset, ↓ae_tmp, asBool_bool, ↓vfinish_ret, ↓vres_nil, ↓vres_cell, vtell_eq, ret1, Option.map_some, ↓reduceIte, Nat.reduceEqDiff, Bool.false_eq_true, decide_false, Bool.not_false, Nat.zero_add, Nat.reduceAdd, Nat.reduceLT, Nat.reduceLeDiff, true_and, and_self, List.map_cons, List.map_nil, List.all_cons, List.all_nil, tup_int, tup_str, tup_agg, cel_agg, List.drop_zero, List.toList_toArray, List.size_toArray, List.length_cons, List.length_nil, mapOwn_agg, mapOwn_int, mapOwn_string, toksL_nil, toksL_cons, toks_int, toks_string, toks_agg, okv_agg, okv_int, okv_string, List.flatMap_nil, List.flatMap_cons, List.all_nil, List.all_cons, List.append_nil, List.map_nil, List.map_cons, Bool.and_self, Bool.not_false, beq_self_eq_true, vnext_mk, vget_nil, vput_nil, cellsIn_mk, vthaw_nil, vwrites_nil, List.getD_cons_zero, List.getD_cons_succ, List.set_cons_zero, List.length_cons, List.length_nil, List.drop_zero, List.take_succ_cons, List.take_zero, vbin_int, ↓vlay_free, cellsOk_free, cellF, abin_lss, beq_self_eq_true, decide_false, beq_self_eq_true, setAll_whole, vld48, vst48, Tryd.results85, e9, e10, e2, e3, hlt, List.take_length]
      rfl
theorem sum_c (h : AOff X) (hX : X 85 = none) (hX1 : X 93 = none) (c : Bool) (d : Nat) (l : List VV) (hl : l.length ≤ 1000000000) (S : VH) (K : VCont) : Vcallee Tryd.prog X 85 [sl c d 3 (l.map VV.v)] S K = K (.agg ⟨[.int .i64 (sumF (intsF l)).k, .int .i64 (sumF (intsF l)).n, .string (sumF (intsF l)).s]⟩) [] S [] false :=
  Vcallee_of (sum_p h hX hX1 c d l hl) (by simp only [mapOwnL_cons, mapOwnL_nil, lend_sl]) (by simp only [okvL_cons, okvL_nil, okv_sl, Bool.and_true]) rfl
theorem count_p (h : AOff X) (hX : X 91 = none) (hX1 : X 93 = none) (c : Bool) (d : Nat) (l : List VV) (hl : l.length ≤ 1000000000) : Vp Tryd.prog X 91 [sl c d 3 (l.map VV.v)] (iV (intsF l).length).v := by
  unfold Vp
  refine Vf_text hX Tryd.func91 rfl (by kernel_rfl) (by show 1 ≤ _; decide) ?_
  simp -dsimp only [↓Hold_5, ↓VWP_seq, ↓VWP_region, ↓VWP_ret, ↓VReg_one, ↓VReg_non, ↓VReg_nil, ↓VS_move, ↓VS_len, ↓VS_store, ↓With_bindH, ↓With_guard, ↓Hold_1, With_some, emap_nil, ↓eget_eset, ↓ae_tmp, eget_zero, ↓vfinish_ret, ↓vres_nil, ↓vres_cell, vtell_eq, ret1, Option.map_some, ↓reduceIte, Nat.reduceEqDiff, reduceCtorEq, decide_false, Bool.not_false, Nat.zero_add, Nat.add_zero, Nat.reduceAdd, Nat.reduceLT, Nat.reduceLeDiff, true_and, and_self, List.map_cons, List.map_nil, List.all_cons, List.all_nil, tup_int, tup_str, tup_agg, cel_agg, List.drop_zero, List.toList_toArray, List.size_toArray, List.length_cons, List.length_nil, mapOwn_agg, mapOwn_int, mapOwn_string, toksL_nil, toksL_cons, toks_int, toks_string, toks_agg, okv_agg, okv_int, okv_string, List.flatMap_nil, List.flatMap_cons, List.all_nil, List.all_cons, List.append_nil, List.nil_append, List.map_nil, List.map_cons, Bool.and_self, Bool.not_false, beq_self_eq_true, vnext_mk, vpush_mk, vget_nil, vput_nil, cellsIn_mk, vthaw_nil, vwrites_nil, List.getD_cons_zero, List.set_cons_zero, List.length_cons, List.length_nil, List.drop_zero, List.take_succ_cons, List.take_zero, ↓vlay_free, cellsOk_free, cellF, beq_self_eq_true, decide_false, beq_self_eq_true, setAll_whole, vld48, vst48, ↓val48, vls43, ↓vfk93, ↓vfk92, Tryd.results91, ↓ints_c hX1 c d l hl, ↓int_c h.int, List.length_map]
  rfl
theorem avg_p (h : AOff X) (hX : X 95 = none) (hX0 : X 85 = none) (hX1 : X 93 = none) (c : Bool) (d : Nat) (l : List VV) (hl : l.length ≤ 1000000000) : Vp Tryd.prog X 95 [sl c d 3 (l.map VV.v)] (pairF divV (sumF (intsF l)) (iV (intsF l).length)).v := by
  unfold Vp
  refine Vf_text hX Tryd.func95 rfl (by kernel_rfl) (by show 1 ≤ _; decide) ?_
  simp -dsimp only [↓Hold_5, ↓VWP_seq, ↓VWP_region, ↓VWP_ret, ↓VReg_one, ↓VReg_non, ↓VReg_nil, ↓VS_move, ↓VS_len, ↓VS_store, ↓With_bindH, ↓With_guard, ↓Hold_1, With_some, emap_nil, ↓eget_eset, ↓ae_tmp, ↓ae_string, eget_zero, ↓vfinish_ret, ↓vres_nil, ↓vres_cell, vtell_eq, ret1, Option.map_some, ↓reduceIte, Nat.reduceEqDiff, reduceCtorEq, decide_false, Bool.not_false, Nat.zero_add, Nat.add_zero, Nat.reduceAdd, Nat.reduceLT, Nat.reduceLeDiff, true_and, and_self, List.map_cons, List.map_nil, List.all_cons, List.all_nil, tup_int, tup_str, tup_agg, cel_agg, List.drop_zero, List.toList_toArray, List.size_toArray, List.length_cons, List.length_nil, mapOwn_agg, mapOwn_int, mapOwn_string, toksL_nil, toksL_cons, toks_int, toks_string, toks_agg, okv_agg, okv_int, okv_string, List.flatMap_nil, List.flatMap_cons, List.all_nil, List.all_cons, List.append_nil, List.nil_append, List.map_nil, List.map_cons, Bool.and_self, Bool.not_false, beq_self_eq_true, vnext_mk, vpush_mk, vget_nil, vput_nil, cellsIn_mk, vthaw_nil, vwrites_nil, List.getD_cons_zero, List.set_cons_zero, List.length_cons, List.length_nil, List.drop_zero, List.take_succ_cons, List.take_zero, ↓vlay_free, cellsOk_free, cellF, beq_self_eq_true, decide_false, beq_self_eq_true, setAll_whole, vld48, vst48, ↓val48, vls43, ↓vfk85, ↓vfk93, ↓vfk92, ↓vfk96, Tryd.results95, ↓ints_c hX1 c d l hl, ↓sum_c h hX0 hX1 c d l hl, ↓int_c h.int, ↓pairdiv_c h, List.length_map]
  rfl
def countaF (l : List VV) : Nat := (l.filter fun x => !decide (x.k = 0)).length
theorem countaF_take (l : List VV) (i : Nat) (h : i < l.length) : countaF (l.take (i + 1)) = countaF (l.take i) + if l[i].k = 0 then 0 else 1 := by
  unfold countaF
  rw [← List.take_append_getElem h, List.filter_append, List.length_append]
  by_cases hk : l[i].k = 0 <;> simp [hk]
theorem countaF_le (l : List VV) : countaF l ≤ l.length := List.length_filter_le _ _
theorem counta_p (h : AOff X) (hX : X 94 = none) (c : Bool) (d : Nat) (l : List VV) (hl : l.length ≤ 1000000000) : Vp Tryd.prog X 94 [sl c d 3 (l.map VV.v)] (iV (countaF l)).v := by
  unfold Vp
  refine Vf_text hX Tryd.func94 rfl (by kernel_rfl) (by show 1 ≤ _; decide) ?_
  simp -dsimp only [↓VWP_seq, ↓VWP_region, ↓VWP_block, ↓VWP_loop, ↓VReg_one, ↓VReg_nil, ↓VS_move, ↓VS_assign, ↓VS_len, ↓Hold_1, With_some, emap_nil, ↓eget_eset, ↓ae_tmp, ↓ae_int, eget_zero, ↓reduceIte, reduceCtorEq, Nat.add_zero, List.length_nil, List.nil_append, vnext_mk, vpush_mk, List.length_nil, ↓val48, vls42, List.length_map]
  refine Vc_loop (fun m e S => ∃ i : Nat, m = l.length - i ∧ i ≤ l.length ∧ eget e 6 = sl c d 3 (l.map VV.v) ∧ eget e 7 = .int .i64 l.length ∧ eget e 8 = .int .i64 i ∧ eget e 2 = .pointer (some { block := 0, off := 0 }) ∧ eget e 3 = .int .i64 (countaF (l.take i)) ∧ ∃ J, S = ⟨[], .cells true 48 [.int .i64 0, .int .i64 0, .string .empty] :: J, []⟩) l.length ?_ ?_
  · refine ⟨0, rfl, Nat.zero_le _, ?_, ?_, ?_, ?_, ?_, [], rfl⟩ <;> simp only [↓eget_eset, ↓reduceIte, Nat.reduceEqDiff] <;> rfl
  · rintro m e S ⟨i, rfl, hi, e6, e7, e8, e2, e3, J, rfl⟩
    refine VWP_Vc _ _ _ _ ?_
    by_cases hin : i < l.length
    · have hlt : (i : Int) < l.length := by omega
      have h0 : (0 : Int) ≤ i := by omega
      have hx : (l.map VV.v)[i]? = some l[i].v := by simp [hin]
      have ht := countaF_take l i hin
      have hle := countaF_le (l.take i)
      have hlt2 : (l.take i).length ≤ l.length := by rw [List.length_take]; omega
      have hnum : ((i : Int) + 1) = ((i + 1 : Nat) : Int) := by omega
      have hwr : IntKind.i64.wrap ((i : Int) + 1) = ((i + 1 : Nat) : Int) := by rw [hnum]; exact wrap_id (by omega) (by omega)
      generalize l[i] = x at hx ht
      obtain ⟨k, n, s⟩ := x
      simp only [VV.v] at hx
      simp only at ht
      generalize countaF (l.take i) = A at *
      have hwa : IntKind.i64.wrap ((A : Int) + 1) = ((A + 1 : Nat) : Int) := by rw [wrap_id (by omega) (by omega)]; omega
      by_cases hk : k = 0
      · rw [if_pos hk] at ht
        simp -dsimp only [↓VWP_seq, ↓VWP_region, ↓VWP_cond, ↓VWP_skip, ↓VWP_block, ↓VReg_one, ↓VReg_non, ↓VReg_nil, ↓VS_move, ↓VS_load, ↓VS_binOp, ↓VS_fieldAddr, ↓VS_indexAddr, ↓VS_store, ↓Hold_1, With_some, emap_nil, ↓eget_eset, ↓ae_tmp, ↓ae_int, asBool_bool, Option.map_some, ↓reduceIte, Nat.reduceEqDiff, Bool.false_eq_true, decide_true, Bool.not_false, List.getElem?_cons_zero, Nat.zero_add, Nat.add_zero, Nat.reduceAdd, Nat.reduceLeDiff, true_and, and_self, List.all_cons, List.all_nil, tup_int, tup_str, tup_agg, cel_agg, List.toList_toArray, List.size_toArray, List.length_cons, List.length_nil, toksL_nil, toksL_cons, toks_int, toks_string, okv_int, okv_string, List.all_nil, List.all_cons, List.append_nil, List.cons_append, Bool.and_self, Bool.not_false, beq_self_eq_true, vnext_mk, vpush_mk, vget_nil, vput_nil, cellsIn_mk, List.getD_cons_zero, List.getD_cons_succ, List.set_cons_zero, List.set_cons_succ, List.length_cons, List.length_nil, getD_app0, set_app0, List.length_append, vload_at, aggV_agg, vbin_int, ↓vlay_free, cellsOk_free, cellF, abin_neq, abin_lss, abin_add, beq_self_eq_true, Int.toNat_natCast, decide_true, beq_self_eq_true, bne_self_eq_false, setAll_whole, vgt48, vld3, vst48, ↓val48, vfp48_0, vis42, e6, e7, e8, e2, e3, hlt, h0, hx, hk]
        exact ⟨l.length - (i + 1), by omega, i + 1, rfl, by omega, by rw [hwr], by rw [ht]; rfl, _, rfl⟩
      · rw [if_neg hk] at ht
        simp -dsimp only [↓VWP_seq, ↓VWP_region, ↓VWP_cond, ↓VWP_skip, ↓VWP_block, ↓VReg_one, ↓VReg_non, ↓VReg_nil, ↓VS_move, ↓VS_assign, ↓VS_load, ↓VS_binOp, ↓VS_fieldAddr, ↓VS_indexAddr, ↓VS_store, ↓Hold_1, With_some, emap_nil, ↓eget_eset, ↓ae_tmp, ↓ae_int, asBool_bool, Option.map_some, ↓reduceIte, Nat.reduceEqDiff, decide_true, decide_false, Bool.not_false, List.getElem?_cons_zero, Nat.zero_add, Nat.add_zero, Nat.reduceAdd, Nat.reduceLeDiff, true_and, and_self, List.all_cons, List.all_nil, tup_int, tup_str, tup_agg, cel_agg, List.toList_toArray, List.size_toArray, List.length_cons, List.length_nil, toksL_nil, toksL_cons, toks_int, toks_string, okv_int, okv_string, List.all_nil, List.all_cons, List.append_nil, List.cons_append, Bool.and_self, Bool.not_false, beq_self_eq_true, vnext_mk, vpush_mk, vget_nil, vput_nil, cellsIn_mk, List.getD_cons_zero, List.getD_cons_succ, List.set_cons_zero, List.set_cons_succ, List.length_cons, List.length_nil, getD_app0, set_app0, List.length_append, vload_at, aggV_agg, vbin_int, ↓vlay_free, cellsOk_free, cellF, abin_neq, abin_lss, abin_add, beq_self_eq_true, Int.toNat_natCast, decide_true, decide_false, beq_self_eq_true, setAll_whole, ibne, vgt48, vld3, vst48, ↓val48, vfp48_0, vis42, e6, e7, e8, e2, e3, hlt, h0, hx, hk, hwa]
        exact ⟨l.length - (i + 1), by omega, i + 1, rfl, by omega, by rw [hwr], by rw [ht], _, rfl⟩
    · obtain rfl : i = l.length := by omega
      have hlt : ¬ ((l.length : Int) < l.length) := by omega
      simp -dsimp only [↓Hold_5, ↓VWP_seq, ↓VWP_region, ↓VWP_cond, ↓VWP_ret, ↓VWP_exit, ↓VReg_one, ↓VReg_non, ↓VReg_nil, ↓VS_move, ↓VS_binOp, ↓VS_store, ↓With_bindH, ↓With_guard, ↓Hold_1, ↓Hold_3, With_some, emap_nil, ↓eget_eset, ↓ae_tmp, asBool_bool, ↓vfinish_ret, ↓vres_nil, ↓vres_cell, vtell_eq, ret1, Option.map_some, ↓reduceIte, Nat.reduceEqDiff, Bool.false_eq_true, decide_false, Bool.not_false, Nat.zero_add, Nat.reduceAdd, Nat.reduceLT, Nat.reduceLeDiff, true_and, and_self, List.map_cons, List.map_nil, List.all_cons, List.all_nil, tup_int, tup_str, tup_agg, cel_agg, List.drop_zero, List.toList_toArray, List.size_toArray, List.length_cons, List.length_nil, mapOwn_agg, mapOwn_int, mapOwn_string, toksL_nil, toksL_cons, toks_int, toks_string, toks_agg, okv_agg, okv_int, okv_string, List.flatMap_nil, List.flatMap_cons, List.all_nil, List.all_cons, List.append_nil, List.map_nil, List.map_cons, Bool.and_self, Bool.not_false, beq_self_eq_true, vnext_mk, vget_nil, vput_nil, cellsIn_mk, vthaw_nil, vwrites_nil, List.getD_cons_zero, List.set_cons_zero, List.length_cons, List.length_nil, List.drop_zero, List.take_succ_cons, List.take_zero, vbin_int, ↓vlay_free, cellsOk_free, cellF, abin_lss, beq_self_eq_true, decide_false, beq_self_eq_true, setAll_whole, vld48, vst48, ↓vfk92, Tryd.results94, e7, e8, e2, e3, hlt, List.take_length, ↓int_c h.int]
      rfl
/-! ### Truths -/
def okT (x : VV) : Bool := decide (x.k = 3) || decide (x.k = 0)
def isT (x : VV) : Bool := decide (x.k = 3) && decide (x.n = 1)
def truthsF (so : Bool) (l : List VV) : VV := if l.all okT then bV (if l.any (fun x => isT x == so) then so else !so) else eV 3
theorem tr_take (p : VV → Bool) (l : List VV) (i : Nat) (h : i < l.length) : (l.take (i + 1)).all p = ((l.take i).all p && p l[i]) ∧ (l.take (i + 1)).any p = ((l.take i).any p || p l[i]) := by
  rw [← List.take_append_getElem h, List.all_append, List.any_append]
  simp
theorem ab_beq4 (x y : Operand) (p q : Bool) : abin Tryd.prog .eql 4 x y (.bool p) (.bool q) = some (.bool (p == q)) := abin_beql Tryd.underlying4 (by kernel_rfl)
theorem truths_p (h : AOff X) (hX : X 98 = none) (hX1 : X 148 = none) (hX2 : X 118 = none) (so : Bool) (c : Bool) (d : Nat) (l : List VV) (hl : l.length ≤ 1000000000) : Vp Tryd.prog X 98 [sl c d 3 (l.map VV.v), .bool so] (truthsF so l).v := by
  unfold Vp
  refine Vf_text hX Tryd.func98 rfl (by kernel_rfl) (by show 2 ≤ _; decide) ?_
  simp -dsimp only [↓VWP_seq, ↓VWP_region, ↓VWP_block, ↓VWP_loop, ↓VReg_one, ↓VReg_nil, ↓VS_move, ↓VS_assign, ↓VS_unOp, ↓VS_len, ↓Hold_1, With_some, emap_nil, ↓eget_eset, ↓ae_tmp, ↓ae_int, eget_zero, eget_succ, lop_not, ↓reduceIte, Nat.reduceEqDiff, reduceCtorEq, Nat.add_zero, List.length_nil, List.nil_append, vnext_mk, vpush_mk, List.length_nil, ↓val48, vls42, List.length_map]
  refine Vc_loop (fun m e S => ∃ i : Nat, m = l.length - i ∧ i ≤ l.length ∧ eget e 12 = sl c d 3 (l.map VV.v) ∧ eget e 13 = .int .i64 l.length ∧ eget e 14 = .int .i64 i ∧ eget e 4 = .pointer (some { block := 0, off := 0 }) ∧ eget e 1 = .bool so ∧ eget e 5 = .bool (if (l.take i).any (fun x => isT x == so) then so else !so) ∧ (l.take i).all okT = true ∧ ∃ J, S = ⟨[], .cells true 48 [.int .i64 0, .int .i64 0, .string .empty] :: J, []⟩) l.length ?_ ?_
  · refine ⟨0, rfl, Nat.zero_le _, ?_, ?_, ?_, ?_, ?_, ?_, rfl, [], rfl⟩ <;> simp only [↓eget_eset, eget_zero, eget_succ, ↓reduceIte, Nat.reduceEqDiff] <;> rfl
  · rintro m e S ⟨i, rfl, hi, e12, e13, e14, e4, e1, e5, hall, J, rfl⟩
    refine VWP_Vc _ _ _ _ ?_
    by_cases hin : i < l.length
    · have hlt : (i : Int) < l.length := by omega
      have h0 : (0 : Int) ≤ i := by omega
      have hx : (l.map VV.v)[i]? = some l[i].v := by simp [hin]
      have ht := (tr_take okT l i hin).1
      have ha := (tr_take (fun x => isT x == so) l i hin).2
      have hnot : okT l[i] = false → l.all okT = false := fun hh => by
        rw [List.all_eq_false]
        exact ⟨l[i], List.getElem_mem hin, by simp [hh]⟩
      have hnum : ((i : Int) + 1) = ((i + 1 : Nat) : Int) := by omega
      have hwr : IntKind.i64.wrap ((i : Int) + 1) = ((i + 1 : Nat) : Int) := by rw [hnum]; exact wrap_id (by omega) (by omega)
      generalize l[i] = x at hx ht ha hnot
      obtain ⟨k, n, s⟩ := x
      simp only [VV.v] at hx
      have tc := fun S K => truth_c hX1 k n s (S := S) (K := K)
      have o1 : (decide (k = 3) || decide (k = 0)) = okT ⟨k, n, s⟩ := rfl
      have o2 : (decide (k = 3) && decide (n = 1)) = isT ⟨k, n, s⟩ := rfl
      rw [o1, o2] at tc
      generalize (l.take i).any (fun x => isT x == so) = A at *
      cases hk : okT ⟨k, n, s⟩ with
      | false =>
        rw [hk] at tc
        simp -dsimp only [↓Hold_5, ↓VWP_seq, ↓VWP_region, ↓VWP_cond, ↓VWP_ret, ↓VWP_skip, ↓VWP_block, ↓VReg_one, ↓VReg_non, ↓VReg_nil, ↓VS_move, ↓VS_assign, ↓VS_load, ↓VS_binOp, ↓VS_unOp, ↓VS_indexAddr, ↓VS_extract, ↓VS_store, ↓With_bindH, ↓With_guard, ↓Hold_1, ↓Hold_3, With_some, emap_nil, ↓eget_eset, ↓ae_tmp, ↓ae_int, lop_extract, lop_not, asBool_bool, ↓vfinish_ret, ↓vres_nil, ↓vres_cell, vtell_eq, ret1, Option.map_some, ↓reduceIte, Nat.reduceEqDiff, decide_true, decide_false, Bool.not_false, List.getElem?_toArray, List.getElem?_cons_zero, List.getElem?_cons_succ, Nat.zero_add, Nat.reduceAdd, Nat.reduceLT, Nat.reduceLeDiff, true_and, and_self, List.map_cons, List.map_nil, List.all_cons, List.all_nil, tup_int, tup_str, tup_agg, cel_agg, List.drop_zero, List.toList_toArray, List.size_toArray, List.length_cons, List.length_nil, mapOwn_agg, mapOwn_int, mapOwn_string, toksL_nil, toksL_cons, toks_int, toks_string, toks_agg, okv_agg, okv_int, okv_string, List.flatMap_nil, List.flatMap_cons, List.all_nil, List.all_cons, List.append_nil, List.cons_append, List.map_nil, List.map_cons, Bool.and_self, Bool.not_false, beq_self_eq_true, vnext_mk, vpush_mk, vget_nil, vput_nil, cellsIn_mk, vthaw_nil, vwrites_nil, List.getD_cons_zero, List.getD_cons_succ, List.set_cons_zero, List.set_cons_succ, List.length_cons, List.length_nil, List.drop_zero, List.take_succ_cons, List.take_zero, getD_app0, set_app0, List.length_append, vload_at, aggV_agg, vbin_int, ↓vlay_free, cellsOk_free, cellF, abin_lss, beq_self_eq_true, Int.toNat_natCast, decide_true, decide_false, beq_self_eq_true, setAll_whole, vld48, vgt48, vst48, ↓val48, vis42, ↓vfk148, ↓vfk51, Tryd.results98, e12, e13, e14, e4, hlt, h0, hx, ↓tc, ↓err_c h.err]
        simp [truthsF, hnot hk, eV, VV.v]
      | true =>
        rw [hk] at tc
        rw [hk, hall] at ht
        cases hs : isT ⟨k, n, s⟩ == so with
        | true =>
          rw [hs] at ha
          simp -dsimp only [↓Hold_5, ↓VWP_seq, ↓VWP_region, ↓VWP_cond, ↓VWP_skip, ↓VWP_block, ↓VReg_one, ↓VReg_non, ↓VReg_nil, ↓VS_move, ↓VS_assign, ↓VS_load, ↓VS_binOp, ↓VS_unOp, ↓VS_indexAddr, ↓VS_extract, ↓VS_store, ↓Hold_1, With_some, emap_nil, ↓eget_eset, ↓ae_tmp, ↓ae_int, lop_extract, lop_not, asBool_bool, Option.map_some, ↓reduceIte, Nat.reduceEqDiff, Bool.false_eq_true, decide_true, Bool.not_true, Bool.not_false, List.getElem?_toArray, List.getElem?_cons_zero, List.getElem?_cons_succ, Nat.zero_add, Nat.reduceAdd, Nat.reduceLeDiff, true_and, and_self, List.map_cons, List.map_nil, List.all_cons, List.all_nil, tup_int, tup_str, tup_agg, cel_agg, List.drop_zero, List.toList_toArray, List.size_toArray, List.length_cons, List.length_nil, toksL_nil, toksL_cons, toks_int, toks_string, okv_int, okv_string, List.all_nil, List.all_cons, List.append_nil, List.cons_append, List.map_nil, List.map_cons, Bool.and_self, Bool.not_true, Bool.not_false, beq_self_eq_true, vnext_mk, vpush_mk, vget_nil, vput_nil, cellsIn_mk, List.getD_cons_zero, List.getD_cons_succ, List.set_cons_zero, List.set_cons_succ, List.length_cons, List.length_nil, List.drop_zero, List.take_succ_cons, List.take_zero, getD_app0, set_app0, List.length_append, vload_at, aggV_agg, vbin_int, vbin_bool, ↓vlay_free, cellsOk_free, cellF, abin_lss, abin_add, beq_self_eq_true, Int.toNat_natCast, decide_true, beq_self_eq_true, setAll_whole, vld48, vgt48, vst48, ↓val48, vis42, ↓vfk148, e12, e13, e14, e4, e1, hlt, h0, hx, ↓tc, ab_beq4, hs]
          exact ⟨l.length - (i + 1), by omega, i + 1, rfl, by omega, by rw [hwr], by rw [ha]; simp, by rw [ht]; rfl, _, rfl⟩
        | false =>
          rw [hs] at ha
          simp -dsimp only [↓Hold_5, ↓VWP_seq, ↓VWP_region, ↓VWP_cond, ↓VWP_skip, ↓VWP_block, ↓VReg_one, ↓VReg_non, ↓VReg_nil, ↓VS_move, ↓VS_assign, ↓VS_load, ↓VS_binOp, ↓VS_unOp, ↓VS_indexAddr, ↓VS_extract, ↓VS_store, ↓Hold_1, With_some, emap_nil, ↓eget_eset, ↓ae_tmp, ↓ae_int, lop_extract, lop_not, asBool_bool, Option.map_some, ↓reduceIte, Nat.reduceEqDiff, Bool.false_eq_true, decide_true, Bool.not_true, Bool.not_false, List.getElem?_toArray, List.getElem?_cons_zero, List.getElem?_cons_succ, Nat.zero_add, Nat.reduceAdd, Nat.reduceLeDiff, true_and, and_self, List.map_cons, List.map_nil, List.all_cons, List.all_nil, tup_int, tup_str, tup_agg, cel_agg, List.drop_zero, List.toList_toArray, List.size_toArray, List.length_cons, List.length_nil, toksL_nil, toksL_cons, toks_int, toks_string, okv_int, okv_string, List.all_nil, List.all_cons, List.append_nil, List.cons_append, List.map_nil, List.map_cons, Bool.and_self, Bool.not_true, Bool.not_false, beq_self_eq_true, vnext_mk, vpush_mk, vget_nil, vput_nil, cellsIn_mk, List.getD_cons_zero, List.getD_cons_succ, List.set_cons_zero, List.set_cons_succ, List.length_cons, List.length_nil, List.drop_zero, List.take_succ_cons, List.take_zero, getD_app0, set_app0, List.length_append, vload_at, aggV_agg, vbin_int, vbin_bool, ↓vlay_free, cellsOk_free, cellF, abin_lss, abin_add, beq_self_eq_true, Int.toNat_natCast, decide_true, beq_self_eq_true, setAll_whole, vld48, vgt48, vst48, ↓val48, vis42, ↓vfk148, e12, e13, e14, e4, e1, e5, hlt, h0, hx, ↓tc, ab_beq4, hs]
          exact ⟨l.length - (i + 1), by omega, i + 1, rfl, by omega, by rw [hwr], by rw [ha]; simp, by rw [ht]; rfl, _, rfl⟩
    · obtain rfl : i = l.length := by omega
      have hlt : ¬ ((l.length : Int) < l.length) := by omega
      rw [List.take_length] at hall
      simp -dsimp only [↓Hold_5, ↓VWP_seq, ↓VWP_region, ↓VWP_cond, ↓VWP_ret, ↓VWP_exit, ↓VReg_one, ↓VReg_non, ↓VReg_nil, ↓VS_move, ↓VS_binOp, ↓VS_store, ↓With_bindH, ↓With_guard, ↓Hold_1, ↓Hold_3, With_some, emap_nil, ↓eget_eset, ↓ae_tmp, asBool_bool, ↓vfinish_ret, ↓vres_nil, ↓vres_cell, vtell_eq, ret1, Option.map_some, ↓reduceIte, Nat.reduceEqDiff, Bool.false_eq_true, decide_false, Bool.not_false, Nat.zero_add, Nat.reduceAdd, Nat.reduceLT, Nat.reduceLeDiff, true_and, and_self, List.map_cons, List.map_nil, List.all_cons, List.all_nil, tup_int, tup_str, tup_agg, cel_agg, List.drop_zero, List.toList_toArray, List.size_toArray, List.length_cons, List.length_nil, mapOwn_agg, mapOwn_int, mapOwn_string, toksL_nil, toksL_cons, toks_int, toks_string, toks_agg, okv_agg, okv_int, okv_string, List.flatMap_nil, List.flatMap_cons, List.all_nil, List.all_cons, List.append_nil, List.map_nil, List.map_cons, Bool.and_self, Bool.not_false, beq_self_eq_true, vnext_mk, vget_nil, vput_nil, cellsIn_mk, vthaw_nil, vwrites_nil, List.getD_cons_zero, List.set_cons_zero, List.length_cons, List.length_nil, List.drop_zero, List.take_succ_cons, List.take_zero, vbin_int, ↓vlay_free, cellsOk_free, cellF, abin_lss, beq_self_eq_true, decide_false, beq_self_eq_true, setAll_whole, vld48, vst48, ↓vfk118, Tryd.results98, e13, e14, e4, e5, hlt, List.take_length, ↓abool_c hX2]
      simp [truthsF, hall, bV, VV.v]
theorem truths_c (h : AOff X) (hX : X 98 = none) (hX1 : X 148 = none) (hX2 : X 118 = none) (so : Bool) (c : Bool) (d : Nat) (l : List VV) (hl : l.length ≤ 1000000000) (S : VH) (K : VCont) : Vcallee Tryd.prog X 98 [sl c d 3 (l.map VV.v), .bool so] S K = K (.agg ⟨[.int .i64 (truthsF so l).k, .int .i64 (truthsF so l).n, .string (truthsF so l).s]⟩) [] S [] false :=
  Vcallee_of (truths_p h hX hX1 hX2 so c d l hl) (by simp only [mapOwnL_cons, mapOwnL_nil, lend_sl]; rfl) (by simp only [okvL_cons, okvL_nil, okv_sl, Bool.and_true]; rfl) rfl
theorem and_p (h : AOff X) (hX0 : X 97 = none) (hX : X 98 = none) (hX1 : X 148 = none) (hX2 : X 118 = none) (c : Bool) (d : Nat) (l : List VV) (hl : l.length ≤ 1000000000) : Vp Tryd.prog X 97 [sl c d 3 (l.map VV.v)] (truthsF false l).v := by
  unfold Vp
  refine Vf_text hX0 Tryd.func97 rfl (by kernel_rfl) (by show 1 ≤ _; decide) ?_
  simp -dsimp only [↓Hold_5, ↓VWP_seq, ↓VWP_region, ↓VWP_ret, ↓VReg_one, ↓VReg_non, ↓VReg_nil, ↓VS_move, ↓VS_store, ↓With_bindH, ↓With_guard, ↓Hold_1, With_some, emap_nil, ↓eget_eset, ↓ae_tmp, ↓ae_bool, eget_zero, ↓vfinish_ret, ↓vres_nil, ↓vres_cell, vtell_eq, ret1, Option.map_some, ↓reduceIte, Nat.reduceEqDiff, reduceCtorEq, decide_false, Bool.not_false, Nat.zero_add, Nat.add_zero, Nat.reduceAdd, Nat.reduceLT, Nat.reduceLeDiff, true_and, and_self, List.map_cons, List.map_nil, List.all_cons, List.all_nil, tup_int, tup_str, tup_agg, cel_agg, List.drop_zero, List.toList_toArray, List.size_toArray, List.length_cons, List.length_nil, mapOwn_agg, mapOwn_int, mapOwn_string, toksL_nil, toksL_cons, toks_int, toks_string, toks_agg, okv_agg, okv_int, okv_string, List.flatMap_nil, List.flatMap_cons, List.all_nil, List.all_cons, List.append_nil, List.nil_append, List.map_nil, List.map_cons, Bool.and_self, Bool.not_false, beq_self_eq_true, vnext_mk, vpush_mk, vget_nil, vput_nil, cellsIn_mk, vthaw_nil, vwrites_nil, List.getD_cons_zero, List.set_cons_zero, List.length_cons, List.length_nil, List.drop_zero, List.take_succ_cons, List.take_zero, ↓vlay_free, cellsOk_free, cellF, beq_self_eq_true, decide_false, beq_self_eq_true, setAll_whole, vld48, vst48, ↓val48, ↓vfk98, Tryd.results97, ↓truths_c h hX hX1 hX2 false c d l hl]
  rfl
theorem or_p (h : AOff X) (hX0 : X 99 = none) (hX : X 98 = none) (hX1 : X 148 = none) (hX2 : X 118 = none) (c : Bool) (d : Nat) (l : List VV) (hl : l.length ≤ 1000000000) : Vp Tryd.prog X 99 [sl c d 3 (l.map VV.v)] (truthsF true l).v := by
  unfold Vp
  refine Vf_text hX0 Tryd.func99 rfl (by kernel_rfl) (by show 1 ≤ _; decide) ?_
  simp -dsimp only [↓Hold_5, ↓VWP_seq, ↓VWP_region, ↓VWP_ret, ↓VReg_one, ↓VReg_non, ↓VReg_nil, ↓VS_move, ↓VS_store, ↓With_bindH, ↓With_guard, ↓Hold_1, With_some, emap_nil, ↓eget_eset, ↓ae_tmp, ↓ae_bool, eget_zero, ↓vfinish_ret, ↓vres_nil, ↓vres_cell, vtell_eq, ret1, Option.map_some, ↓reduceIte, Nat.reduceEqDiff, reduceCtorEq, decide_false, Bool.not_false, Nat.zero_add, Nat.add_zero, Nat.reduceAdd, Nat.reduceLT, Nat.reduceLeDiff, true_and, and_self, List.map_cons, List.map_nil, List.all_cons, List.all_nil, tup_int, tup_str, tup_agg, cel_agg, List.drop_zero, List.toList_toArray, List.size_toArray, List.length_cons, List.length_nil, mapOwn_agg, mapOwn_int, mapOwn_string, toksL_nil, toksL_cons, toks_int, toks_string, toks_agg, okv_agg, okv_int, okv_string, List.flatMap_nil, List.flatMap_cons, List.all_nil, List.all_cons, List.append_nil, List.nil_append, List.map_nil, List.map_cons, Bool.and_self, Bool.not_false, beq_self_eq_true, vnext_mk, vpush_mk, vget_nil, vput_nil, cellsIn_mk, vthaw_nil, vwrites_nil, List.getD_cons_zero, List.set_cons_zero, List.length_cons, List.length_nil, List.drop_zero, List.take_succ_cons, List.take_zero, ↓vlay_free, cellsOk_free, cellF, beq_self_eq_true, decide_false, beq_self_eq_true, setAll_whole, vld48, vst48, ↓val48, ↓vfk98, Tryd.results99, ↓truths_c h hX hX1 hX2 true c d l hl]
  rfl
end
end Go.Proofs.YtmdpggecelheoaaDoor.Abs
