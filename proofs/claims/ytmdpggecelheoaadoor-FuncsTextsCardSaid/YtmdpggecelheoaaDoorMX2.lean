/- Pairs of values: sums and differences. -/
import Derived.Test.YtmdpggecelheoaaDoorMZ1
import Derived.Lib.IndexMore
set_option linter.unusedVariables false
set_option linter.unusedSimpArgs false
set_option maxRecDepth 4000
set_option maxHeartbeats 0
namespace Go.Proofs.YtmdpggecelheoaaDoor.Abs
open Go
attribute [local irreducible] Hold VReg Vf Vc VWP With VStp Vcallee Vp VE
/-- Nothing of the arithmetic is given from outside. -/
structure AOff (X : VOuter) : Prop where
  nani : X 84 = none
  nans : X 83 = none
  cmpi : X 66 = none
  cmps : X 65 = none
  cmpor : X 64 = none
  right : X 53 = none
  compare : X 155 = none
  acmp : X 144 = none
  pair : X 96 = none
  reck : X 147 = none
  first : X 54 = none
  number : X 146 = none
  err : X 51 = none
  int : X 92 = none
  ain : X 170 = none
  minus : X 152 = none
section
variable {X : VOuter}
theorem first2_c (h : AOff X) (t : Nat) (k n : Int) (s : ByteArray) (k' n' : Int) (s' : ByteArray) {S : VH} {K : VCont} : Vcallee Tryd.prog X 54 [vo (t, none) 3 0 [.agg ⟨[.int .i64 k, .int .i64 n, .string s]⟩, .agg ⟨[.int .i64 k', .int .i64 n', .string s']⟩]] S K = K (.tuple ⟨[.agg ⟨[.int .i64 (firstF [⟨k, n, s⟩, ⟨k', n', s'⟩]).1.k, .int .i64 (firstF [⟨k, n, s⟩, ⟨k', n', s'⟩]).1.n, .string (firstF [⟨k, n, s⟩, ⟨k', n', s'⟩]).1.s]⟩, .bool (firstF [⟨k, n, s⟩, ⟨k', n', s'⟩]).2]⟩) [] S [] false :=
  Vcallee_of (by have := first_p h.first h.right h.err false 1 [⟨k, n, s⟩, ⟨k', n', s'⟩] (by show 2 ≤ _; omega); exact this) rfl rfl rfl
theorem acmp_c (h : AOff X) (c : UInt8) (h1 : (c == 60) = false) (h2 : (c == 61) = false) (h3 : (c == 62) = false) (k n : Int) (s : ByteArray) (k' n' : Int) (s' : ByteArray) {S : VH} {K : VCont} : Vcallee Tryd.prog X 144 [.string ⟨#[c]⟩, .agg ⟨[.int .i64 k, .int .i64 n, .string s]⟩, .agg ⟨[.int .i64 k', .int .i64 n', .string s']⟩] S K = K (.tuple ⟨[.bool false, .bool false]⟩) [] S [] false :=
  Vcallee_of (acmp_p h.acmp h.compare h.right h.cmpi h.cmps h.cmpor h.nani h.nans c h1 h2 h3 k n s k' n' s') rfl rfl rfl
theorem sub_c (h : AOff X) (a b : Int) {S : VH} {K : VCont} : Vcallee Tryd.prog X 147 [.string ⟨#[45]⟩, .int .i64 a, .int .i64 b] S K = K (.agg ⟨[.int .i64 (subV a b).k, .int .i64 (subV a b).n, .string (subV a b).s]⟩) [] S [] false := Vcallee_of (sub_p h.reck h.ain h.err h.int a b) rfl rfl rfl
def pairF (f : Int → Int → VV) (x y : VV) : VV := if (firstF [x, y]).2 then (firstF [x, y]).1 else if !(numF x).2.2 then (numF x).2.1 else if !(numF y).2.2 then (numF y).2.1 else f (numF x).1 (numF y).1
theorem pairsub_p (h : AOff X) (k n : Int) (s : ByteArray) (k' n' : Int) (s' : ByteArray) : Vp Tryd.prog X 96 [.string ⟨#[45]⟩, .agg ⟨[.int .i64 k, .int .i64 n, .string s]⟩, .agg ⟨[.int .i64 k', .int .i64 n', .string s']⟩] (pairF subV ⟨k, n, s⟩ ⟨k', n', s'⟩).v := by
  unfold Vp
  refine Vf_text h.pair Tryd.func96 rfl (by kernel_rfl) (by show 3 ≤ _; decide) ?_
  have q1 : ((45 : UInt8) == 43) = false := rfl
  have q2 : ((45 : UInt8) == 38) = false := rfl
  have r1 : ((45 : UInt8) == 60) = false := rfl
  have r2 : ((45 : UInt8) == 61) = false := rfl
  have r3 : ((45 : UInt8) == 62) = false := rfl
  cases h1 : (firstF [⟨k, n, s⟩, ⟨k', n', s'⟩]).2
  · cases h2 : (numF ⟨k, n, s⟩).2.2
    · simp -dsimp only [↓Hold_5, ↓VWP_seq, ↓VWP_region, ↓VWP_cond, ↓VWP_ret, ↓VWP_skip, ↓VWP_block, ↓VReg_one, ↓VReg_non, ↓VReg_nil, ↓VS_move, ↓VS_assign, ↓VS_load, ↓VS_binOp, ↓VS_unOp, ↓VS_extract, ↓VS_box, ↓VS_buildSlice, ↓VS_store, ↓With_bindH, ↓With_guard, ↓Hold_1, With_some, emap_nil, emap_cons, ↓eget_map, ↓eget_eset, ↓ae_tmp, ↓ae_string, eget_zero, eget_succ, lop_extract, lop_not, asBool_bool, ↓vfinish_ret, ↓vres_nil, ↓vres_cell, vtell_eq, ret1, Option.map_some, ↓reduceIte, Nat.reduceEqDiff, reduceCtorEq, Bool.false_eq_true, decide_true, decide_false, Bool.not_false, List.getElem?_toArray, List.getElem?_cons_zero, List.getElem?_cons_succ, Nat.zero_add, Nat.add_zero, Nat.reduceAdd, Nat.reduceMul, Nat.reduceLT, Nat.reduceLeDiff, true_and, and_self, List.map_cons, List.map_nil, List.all_cons, List.all_nil, tup_int, tup_str, tup_agg, cel_agg, Bool.and_true, List.drop_zero, List.toList_toArray, List.size_toArray, List.length_cons, List.length_nil, mapOwn_agg, mapOwn_int, mapOwn_string, mapOwn_pointer, toksL_nil, toksL_cons, toks_int, toks_string, toks_agg, okv_agg, okv_int, okv_string, List.flatMap_nil, List.flatMap_cons, List.all_nil, List.all_cons, List.append_nil, List.nil_append, List.cons_append, List.map_nil, List.map_cons, Bool.and_true, Bool.and_self, Bool.not_false, beq_self_eq_true, vnext_mk, vpush_mk, vget_nil, vput_nil, cellsIn_mk, vturn_nil, vthaw_one, vthaw_nil, boxesOf_nil, vwrites_nil, List.getD_cons_zero, List.getD_cons_succ, List.set_cons_zero, List.set_cons_succ, List.length_cons, List.length_nil, List.drop_zero, List.take_succ_cons, List.take_zero, partsOk_nil, partsOk_cons, vfill_nil, vfill_cons, vbin_string, ↓vlay_free, ↓vbox_free, cellsOk_free, cellF, List.replicate_succ, List.replicate_zero, beq_self_eq_true, decide_true, decide_false, beq_self_eq_true, setAll_whole, vld48, vst48, ↓val48, vbd42, ↓vfk54, ↓vfk144, ↓vfk146, Tryd.results96, ↓first2_c h, ↓acmp_c h 45 r1 r2 r3, ↓number_c h.number h.right h.err, slit, List.cons_beq_cons, q1, q2, h1, h2]
      simp [pairF, h1, h2, VV.v]
    · cases h3 : (numF ⟨k', n', s'⟩).2.2
      · simp -dsimp only [↓Hold_5, ↓VWP_seq, ↓VWP_region, ↓VWP_cond, ↓VWP_ret, ↓VWP_skip, ↓VWP_block, ↓VReg_one, ↓VReg_non, ↓VReg_nil, ↓VS_move, ↓VS_assign, ↓VS_load, ↓VS_binOp, ↓VS_unOp, ↓VS_extract, ↓VS_box, ↓VS_buildSlice, ↓VS_store, ↓With_bindH, ↓With_guard, ↓Hold_1, With_some, emap_nil, emap_cons, ↓eget_map, ↓eget_eset, ↓ae_tmp, ↓ae_string, eget_zero, eget_succ, lop_extract, lop_not, asBool_bool, ↓vfinish_ret, ↓vres_nil, ↓vres_cell, vtell_eq, ret1, Option.map_some, ↓reduceIte, Nat.reduceEqDiff, reduceCtorEq, Bool.false_eq_true, decide_true, decide_false, Bool.not_true, Bool.not_false, List.getElem?_toArray, List.getElem?_cons_zero, List.getElem?_cons_succ, Nat.zero_add, Nat.add_zero, Nat.reduceAdd, Nat.reduceMul, Nat.reduceLT, Nat.reduceLeDiff, true_and, and_self, List.map_cons, List.map_nil, List.all_cons, List.all_nil, tup_int, tup_str, tup_agg, cel_agg, Bool.and_true, List.drop_zero, List.toList_toArray, List.size_toArray, List.length_cons, List.length_nil, mapOwn_agg, mapOwn_int, mapOwn_string, mapOwn_pointer, toksL_nil, toksL_cons, toks_int, toks_string, toks_agg, okv_agg, okv_int, okv_string, List.flatMap_nil, List.flatMap_cons, List.all_nil, List.all_cons, List.append_nil, List.nil_append, List.cons_append, List.map_nil, List.map_cons, Bool.and_true, Bool.and_self, Bool.not_true, Bool.not_false, beq_self_eq_true, vnext_mk, vpush_mk, vget_nil, vput_nil, cellsIn_mk, vturn_nil, vthaw_one, vthaw_nil, boxesOf_nil, vwrites_nil, List.getD_cons_zero, List.getD_cons_succ, List.set_cons_zero, List.set_cons_succ, List.length_cons, List.length_nil, List.drop_zero, List.take_succ_cons, List.take_zero, partsOk_nil, partsOk_cons, vfill_nil, vfill_cons, vbin_string, ↓vlay_free, ↓vbox_free, cellsOk_free, cellF, List.replicate_succ, List.replicate_zero, beq_self_eq_true, decide_true, decide_false, beq_self_eq_true, setAll_whole, vld48, vst48, ↓val48, vbd42, ↓vfk54, ↓vfk144, ↓vfk146, Tryd.results96, ↓first2_c h, ↓acmp_c h 45 r1 r2 r3, ↓number_c h.number h.right h.err, slit, List.cons_beq_cons, q1, q2, h1, h2, h3]
        simp [pairF, h1, h2, h3, VV.v]
      · simp -dsimp only [↓Hold_5, ↓VWP_seq, ↓VWP_region, ↓VWP_cond, ↓VWP_ret, ↓VWP_skip, ↓VWP_block, ↓VReg_one, ↓VReg_non, ↓VReg_nil, ↓VS_move, ↓VS_assign, ↓VS_load, ↓VS_binOp, ↓VS_unOp, ↓VS_extract, ↓VS_box, ↓VS_buildSlice, ↓VS_store, ↓With_bindH, ↓With_guard, ↓Hold_1, With_some, emap_nil, emap_cons, ↓eget_map, ↓eget_eset, ↓ae_tmp, ↓ae_string, eget_zero, eget_succ, lop_extract, lop_not, asBool_bool, ↓vfinish_ret, ↓vres_nil, ↓vres_cell, vtell_eq, ret1, Option.map_some, ↓reduceIte, Nat.reduceEqDiff, reduceCtorEq, Bool.false_eq_true, decide_true, decide_false, Bool.not_true, Bool.not_false, List.getElem?_toArray, List.getElem?_cons_zero, List.getElem?_cons_succ, Nat.zero_add, Nat.add_zero, Nat.reduceAdd, Nat.reduceMul, Nat.reduceLT, Nat.reduceLeDiff, true_and, and_self, List.map_cons, List.map_nil, List.all_cons, List.all_nil, tup_int, tup_str, tup_agg, cel_agg, Bool.and_true, List.drop_zero, List.toList_toArray, List.size_toArray, List.length_cons, List.length_nil, mapOwn_agg, mapOwn_int, mapOwn_string, mapOwn_pointer, toksL_nil, toksL_cons, toks_int, toks_string, toks_agg, okv_agg, okv_int, okv_string, List.flatMap_nil, List.flatMap_cons, List.all_nil, List.all_cons, List.append_nil, List.nil_append, List.cons_append, List.map_nil, List.map_cons, Bool.and_true, Bool.and_self, Bool.not_true, Bool.not_false, beq_self_eq_true, vnext_mk, vpush_mk, vget_nil, vput_nil, cellsIn_mk, vturn_nil, vthaw_one, vthaw_nil, boxesOf_nil, vwrites_nil, List.getD_cons_zero, List.getD_cons_succ, List.set_cons_zero, List.set_cons_succ, List.length_cons, List.length_nil, List.drop_zero, List.take_succ_cons, List.take_zero, partsOk_nil, partsOk_cons, vfill_nil, vfill_cons, vbin_string, ↓vlay_free, ↓vbox_free, cellsOk_free, cellF, List.replicate_succ, List.replicate_zero, beq_self_eq_true, decide_true, decide_false, beq_self_eq_true, setAll_whole, vld48, vst48, ↓val48, vbd42, ↓vfk54, ↓vfk144, ↓vfk146, ↓vfk147, Tryd.results96, ↓first2_c h, ↓acmp_c h 45 r1 r2 r3, ↓number_c h.number h.right h.err, ↓sub_c h, slit, List.cons_beq_cons, q1, q2, h1, h2, h3]
        simp [pairF, h1, h2, h3, VV.v]
  · simp -dsimp only [↓Hold_5, ↓VWP_seq, ↓VWP_region, ↓VWP_cond, ↓VWP_ret, ↓VReg_one, ↓VReg_non, ↓VReg_nil, ↓VS_move, ↓VS_assign, ↓VS_load, ↓VS_extract, ↓VS_box, ↓VS_buildSlice, ↓VS_store, ↓With_bindH, ↓With_guard, ↓Hold_1, With_some, emap_nil, emap_cons, ↓eget_map, ↓eget_eset, ↓ae_tmp, eget_zero, eget_succ, lop_extract, asBool_bool, ↓vfinish_ret, ↓vres_nil, ↓vres_cell, vtell_eq, ret1, Option.map_some, ↓reduceIte, Nat.reduceEqDiff, decide_true, decide_false, Bool.not_false, List.getElem?_toArray, List.getElem?_cons_zero, List.getElem?_cons_succ, Nat.zero_add, Nat.add_zero, Nat.reduceAdd, Nat.reduceMul, Nat.reduceLT, Nat.reduceLeDiff, true_and, and_self, List.map_cons, List.map_nil, List.all_cons, List.all_nil, tup_int, tup_str, tup_agg, cel_agg, List.drop_zero, List.toList_toArray, List.size_toArray, List.length_cons, List.length_nil, mapOwn_agg, mapOwn_int, mapOwn_string, mapOwn_pointer, toksL_nil, toksL_cons, toks_int, toks_string, toks_agg, okv_agg, okv_int, okv_string, List.flatMap_nil, List.flatMap_cons, List.all_nil, List.all_cons, List.append_nil, List.nil_append, List.cons_append, List.map_nil, List.map_cons, Bool.and_self, Bool.not_false, beq_self_eq_true, vnext_mk, vpush_mk, vget_nil, vput_nil, cellsIn_mk, vturn_nil, vthaw_one, vthaw_nil, boxesOf_nil, vwrites_nil, List.getD_cons_zero, List.getD_cons_succ, List.set_cons_zero, List.set_cons_succ, List.length_cons, List.length_nil, List.drop_zero, List.take_succ_cons, List.take_zero, partsOk_nil, partsOk_cons, vfill_nil, vfill_cons, ↓vlay_free, ↓vbox_free, cellsOk_free, cellF, List.replicate_succ, List.replicate_zero, beq_self_eq_true, decide_true, decide_false, beq_self_eq_true, setAll_whole, vld48, vst48, ↓val48, vbd42, ↓vfk54, Tryd.results96, ↓first2_c h, h1]
    simp [pairF, h1, VV.v]
theorem pairsub_c (h : AOff X) (k n : Int) (s : ByteArray) (k' n' : Int) (s' : ByteArray) {S : VH} {K : VCont} : Vcallee Tryd.prog X 96 [.string ⟨#[45]⟩, .agg ⟨[.int .i64 k, .int .i64 n, .string s]⟩, .agg ⟨[.int .i64 k', .int .i64 n', .string s']⟩] S K = K (.agg ⟨[.int .i64 (pairF subV ⟨k, n, s⟩ ⟨k', n', s'⟩).k, .int .i64 (pairF subV ⟨k, n, s⟩ ⟨k', n', s'⟩).n, .string (pairF subV ⟨k, n, s⟩ ⟨k', n', s'⟩).s]⟩) [] S [] false := Vcallee_of (pairsub_p h k n s k' n' s') rfl rfl rfl
theorem minus_p (h : AOff X) (k n : Int) (s : ByteArray) : Vp Tryd.prog X 152 [.agg ⟨[.int .i64 k, .int .i64 n, .string s]⟩] (pairF subV (iV 0) ⟨k, n, s⟩).v := by
  unfold Vp
  refine Vf_text h.minus Tryd.func152 rfl (by kernel_rfl) (by show 1 ≤ _; decide) ?_
  simp -dsimp only [↓VWP_seq, ↓VWP_region, ↓VWP_open, ↓VReg_one, ↓VReg_nil, ↓VS_box, ↓Hold_1, With_some, emap_nil, ↓ae_tmp, eget_zero, Bool.not_false, Nat.zero_add, Nat.add_zero, true_and, List.all_cons, List.all_nil, tup_int, tup_str, tup_agg, cel_agg, List.toList_toArray, List.length_cons, List.length_nil, toksL_nil, toksL_cons, toks_int, toks_string, okv_int, okv_string, List.all_nil, List.all_cons, List.append_nil, List.nil_append, List.cons_append, Bool.and_self, Bool.not_false, beq_self_eq_true, vnext_mk, vpush_mk, List.length_cons, List.length_nil, ↓vbox_free, cellsOk_free, cellF, beq_self_eq_true, beq_self_eq_true, ↓val48]
  first | refine Vc_open [[], [0], [], []] true (by kernel_rfl) (by kernel_rfl) (by kernel_rfl) ?_ | refine Vc_open [[], [0], [], []] false (by kernel_rfl) (by kernel_rfl) (by kernel_rfl) ?_ | refine Vc_open2 [[], [0], [], []] true (by kernel_rfl) (by kernel_rfl) (by kernel_rfl) (by kernel_rfl) ?_ | refine Vc_open2 [[], [0], [], []] false (by kernel_rfl) (by kernel_rfl) (by kernel_rfl) (by kernel_rfl) ?_
  simp -dsimp only [↓Hold_5, ↓VWP_ret, ↓VS_load, ↓VS_store, ↓With_bindH, ↓With_guard, ↓Hold_1, ↓Hold_3, With_some, emap_nil, ↓eget_eset, ↓ae_tmp, ↓ae_int, ↓ae_string, light, ↓vfinish_ret, ↓vres_nil, ↓vres_cell, vtell_eq, ret1, Option.map_some, Option.bind_some, ↓reduceIte, Nat.reduceEqDiff, Bool.false_eq_true, Nat.reduceBEq, decide_true, decide_false, Bool.not_false, List.getElem?_cons_zero, List.getElem?_cons_succ, Nat.zero_add, Nat.reduceAdd, Nat.reduceLT, Nat.reduceLeDiff, true_and, and_self, List.map_cons, List.map_nil, List.all_cons, List.all_nil, tup_int, tup_str, tup_agg, cel_agg, Bool.and_true, List.drop_zero, List.toList_toArray, List.size_toArray, List.length_cons, List.length_nil, mapOwn_agg, mapOwn_int, mapOwn_string, toksL_nil, toksL_cons, toks_int, toks_string, toks_agg, okv_agg, okv_int, okv_string, List.flatMap_nil, List.flatMap_cons, List.all_nil, List.all_cons, List.append_nil, List.nil_append, List.cons_append, List.map_nil, List.map_cons, Bool.and_true, Bool.and_self, Bool.not_false, Bool.or_false, beq_self_eq_true, vnext_mk, vget_nil, vput_nil, cellsIn_mk, vthaw_nil, vwrites_nil, List.getD_cons_zero, List.getD_cons_succ, List.set_cons_zero, List.set_cons_succ, List.length_cons, List.length_nil, List.drop_zero, List.take_succ_cons, List.take_zero, ↓vlay_free, cellsOk_free, cellF, beq_self_eq_true, decide_true, decide_false, beq_self_eq_true, setAll_whole, ↓VE_nil, ↓VE_one0, ↓VE_one1, ↓VE_non0, ↓shade_one, shade_load, shade_call, ↓vobl_load, dep_box, isGone_agg, depStep_box, vspan, List.range_succ, List.range_zero, Bool.or_true, Nat.min_def, Nat.max_def, List.reverse_cons, List.reverse_nil, vld48, vst48, ↓vfk92, ↓vfk96, Tryd.results152, ↓int_c h.int, ↓pairsub_c h]
  rfl
end
end Go.Proofs.YtmdpggecelheoaaDoor.Abs
/- Functions of numbers. -/
set_option linter.unusedVariables false
set_option linter.unusedSimpArgs false
set_option maxRecDepth 4000
set_option maxHeartbeats 0
namespace Go.Proofs.YtmdpggecelheoaaDoor.Abs
open Go
attribute [local irreducible] Hold VReg Vf Vc VWP With VStp Vcallee Vp VE
theorem amin_i (k : IntKind) (a b : Int) : amin (.int k a) (.int k b) = some (.int k (if b < a then b else a)) := by simp [amin]
theorem amax_i (k : IntKind) (a b : Int) : amax (.int k a) (.int k b) = some (.int k (if a < b then b else a)) := by simp [amax]
section
variable {X : VOuter}
theorem minus_c (h : AOff X) (k n : Int) (s : ByteArray) {S : VH} {K : VCont} : Vcallee Tryd.prog X 152 [.agg ⟨[.int .i64 k, .int .i64 n, .string s]⟩] S K = K (.agg ⟨[.int .i64 (pairF subV (iV 0) ⟨k, n, s⟩).k, .int .i64 (pairF subV (iV 0) ⟨k, n, s⟩).n, .string (pairF subV (iV 0) ⟨k, n, s⟩).s]⟩) [] S [] false := Vcallee_of (minus_p h k n s) rfl rfl rfl
theorem numbers_c (h : AOff X) (hX : X 151 = none) (c : Bool) (d : Nat) (l : List VV) (hl : l.length ≤ 1000000000) {S : VH} {K : VCont} : Vcallee Tryd.prog X 151 [sl c d 3 (l.map VV.v)] S K = K (.tuple ⟨[sl true 0 1 ((numsF l).1.map vI), .agg ⟨[.int .i64 (numsF l).2.1.k, .int .i64 (numsF l).2.1.n, .string (numsF l).2.1.s]⟩, .bool (numsF l).2.2]⟩) [] S [] false :=
  Vcallee_of (numbers_p hX h.number h.right h.err c d l hl) (by simp only [mapOwnL_cons, mapOwnL_nil, lend_sl]) (by simp only [okvL_cons, okvL_nil, okv_sl, Bool.and_true]) (by simp only [okv_tuple, List.all_cons, List.all_nil, okv_sl0, okv_agg, okv_int, okv_string, okv_bool, Bool.and_true])
theorem numbers1_c (h : AOff X) (hX : X 151 = none) (t : Nat) (k n : Int) (s : ByteArray) {S : VH} {K : VCont} : Vcallee Tryd.prog X 151 [vo (t, none) 3 0 [.agg ⟨[.int .i64 k, .int .i64 n, .string s]⟩]] S K = K (.tuple ⟨[sl true 0 1 ((numsF [⟨k, n, s⟩]).1.map vI), .agg ⟨[.int .i64 (numsF [⟨k, n, s⟩]).2.1.k, .int .i64 (numsF [⟨k, n, s⟩]).2.1.n, .string (numsF [⟨k, n, s⟩]).2.1.s]⟩, .bool (numsF [⟨k, n, s⟩]).2.2]⟩) [] S [] false :=
  Vcallee_of (by have := numbers_p hX h.number h.right h.err false 1 [⟨k, n, s⟩] (by show 1 ≤ _; omega); exact this) rfl rfl (by simp only [okv_tuple, List.all_cons, List.all_nil, okv_sl0, okv_agg, okv_int, okv_string, okv_bool, Bool.and_true])
theorem numsF_one (x : VV) : numsF [x] = if (numF x).2.2 then ([(numF x).1], zV, true) else ([], (numF x).2.1, false) := by
  unfold numsF
  cases h : (numF x).2.2 <;> simp [h]
def absF (x : VV) : VV := if (numF x).2.2 then (if (numF x).1 < 0 then pairF subV (iV 0) (iV (numF x).1) else iV (numF x).1) else (numF x).2.1
def signF (x : VV) : VV := if (numF x).2.2 then (if (numF x).1 < 0 then iV (-1) else iV (if 1 < (numF x).1 then 1 else (numF x).1)) else (numF x).2.1
theorem abs_p (h : AOff X) (hX : X 101 = none) (hX1 : X 151 = none) (c : Bool) (d : Nat) (k n : Int) (s : ByteArray) (l : List VV) : Vp Tryd.prog X 101 [sl c d 3 (((⟨k, n, s⟩ : VV) :: l).map VV.v)] (absF ⟨k, n, s⟩).v := by
  unfold Vp
  refine Vf_text hX Tryd.func101 rfl (by kernel_rfl) (by show 1 ≤ _; decide) ?_
  have hN := numsF_one ⟨k, n, s⟩
  cases h1 : (numF ⟨k, n, s⟩).2.2
  · rw [h1, if_neg (by simp)] at hN
    simp -dsimp only [↓Hold_5, ↓VWP_seq, ↓VWP_region, ↓VWP_cond, ↓VWP_ret, ↓VWP_block, ↓VReg_one, ↓VReg_non, ↓VReg_nil, ↓VS_move, ↓VS_assign, ↓VS_load, ↓VS_unOp, ↓VS_indexAddr, ↓VS_extract, ↓VS_buildSlice, ↓VS_store, ↓With_bindH, ↓With_guard, ↓Hold_1, With_some, emap_nil, emap_cons, ↓eget_map, ↓eget_eset, ↓ae_tmp, ↓ae_int, eget_zero, lop_extract, lop_not, asBool_bool, ↓vfinish_ret, ↓vres_nil, ↓vres_cell, vtell_eq, ret1, Option.map_some, ↓reduceIte, Nat.reduceEqDiff, reduceCtorEq, decide_true, decide_false, Bool.not_false, List.getElem?_toArray, List.getElem?_cons_zero, List.getElem?_cons_succ, Nat.zero_add, Nat.add_zero, Nat.reduceAdd, Nat.reduceMul, Nat.reduceLT, Nat.reduceLeDiff, true_and, and_self, List.map_cons, List.map_nil, List.all_cons, List.all_nil, tup_int, tup_str, tup_agg, cel_agg, List.drop_zero, List.toList_toArray, List.size_toArray, List.length_cons, List.length_nil, mapOwn_agg, mapOwn_int, mapOwn_string, mapOwn_pointer, toksL_nil, toksL_cons, toks_int, toks_string, toks_agg, okv_agg, okv_int, okv_string, List.flatMap_nil, List.flatMap_cons, List.all_nil, List.all_cons, List.append_nil, List.nil_append, List.cons_append, List.map_nil, List.map_cons, Bool.and_self, Bool.not_false, beq_self_eq_true, vnext_mk, vpush_mk, vget_nil, vput_nil, cellsIn_mk, vturn_nil, vthaw_one, vthaw_nil, boxesOf_nil, vwrites_nil, List.getD_cons_zero, List.getD_cons_succ, List.set_cons_zero, List.set_cons_succ, List.length_cons, List.length_nil, List.drop_zero, List.take_succ_cons, List.take_zero, vload_at, aggV_agg, partsOk_nil, partsOk_cons, vfill_nil, vfill_cons, ↓vlay_free, cellsOk_free, cellF, List.replicate_succ, List.replicate_zero, beq_self_eq_true, Int.reduceLE, Int.reduceToNat, decide_true, decide_false, beq_self_eq_true, setAll_whole, vld48, vgt48, vst48, ↓val48, vbd42, vis42, ↓vfk151, Tryd.results101, VV.v, ↓numbers1_c h hX1, hN]
    simp [absF, h1]
  · rw [h1, if_pos rfl] at hN
    by_cases h2 : (numF ⟨k, n, s⟩).1 < 0 <;> simp -dsimp only [↓Hold_5, ↓VWP_seq, ↓VWP_region, ↓VWP_cond, ↓VWP_ret, ↓VWP_skip, ↓VWP_block, ↓VReg_one, ↓VReg_non, ↓VReg_nil, ↓VS_move, ↓VS_assign, ↓VS_load, ↓VS_binOp, ↓VS_unOp, ↓VS_indexAddr, ↓VS_extract, ↓VS_buildSlice, ↓VS_store, ↓With_bindH, ↓With_guard, ↓Hold_1, With_some, emap_nil, emap_cons, ↓eget_map, ↓eget_eset, ↓ae_tmp, ↓ae_int, eget_zero, lop_extract, lop_not, asBool_bool, ↓vfinish_ret, ↓vres_nil, ↓vres_cell, vtell_eq, ret1, Option.map_some, ↓reduceIte, Nat.reduceEqDiff, reduceCtorEq, Bool.false_eq_true, decide_true, decide_false, Bool.not_true, Bool.not_false, List.getElem?_toArray, List.getElem?_cons_zero, List.getElem?_cons_succ, Nat.zero_add, Nat.add_zero, Nat.reduceAdd, Nat.reduceMul, Nat.reduceLT, Nat.reduceLeDiff, true_and, and_self, List.map_cons, List.map_nil, List.all_cons, List.all_nil, tup_int, tup_str, tup_agg, cel_agg, List.drop_zero, List.toList_toArray, List.size_toArray, List.length_cons, List.length_nil, mapOwn_agg, mapOwn_int, mapOwn_string, mapOwn_pointer, toksL_nil, toksL_cons, toks_int, toks_string, toks_agg, okv_agg, okv_int, okv_string, List.flatMap_nil, List.flatMap_cons, List.all_nil, List.all_cons, List.append_nil, List.nil_append, List.cons_append, List.map_nil, List.map_cons, Bool.and_self, Bool.not_true, Bool.not_false, beq_self_eq_true, vnext_mk, vpush_mk, vget_nil, vput_nil, cellsIn_mk, vturn_nil, vthaw_one, vthaw_nil, boxesOf_nil, vwrites_nil, List.getD_cons_zero, List.getD_cons_succ, List.set_cons_zero, List.set_cons_succ, List.length_cons, List.length_nil, List.drop_zero, List.take_succ_cons, List.take_zero, vload_at, cellV_int, aggV_agg, partsOk_nil, partsOk_cons, vfill_nil, vfill_cons, vbin_int, ↓vlay_free, cellsOk_free, cellF, List.replicate_succ, List.replicate_zero, abin_lss, beq_self_eq_true, Int.reduceLE, Int.reduceToNat, decide_true, decide_false, beq_self_eq_true, setAll_whole, vld48, vgt48, vgt3, vst48, ↓val48, vbd42, vis42, vis43, ↓vfk151, ↓vfk92, ↓vfk152, Tryd.results101, VV.v, vI, ↓numbers1_c h hX1, hN, ↓minus_c h, ↓int_c h.int, h2] <;> simp [absF, h1, h2, iV]
theorem sign_p (h : AOff X) (hX : X 102 = none) (hX1 : X 151 = none) (c : Bool) (d : Nat) (k n : Int) (s : ByteArray) (l : List VV) : Vp Tryd.prog X 102 [sl c d 3 (((⟨k, n, s⟩ : VV) :: l).map VV.v)] (signF ⟨k, n, s⟩).v := by
  unfold Vp
  refine Vf_text hX Tryd.func102 rfl (by kernel_rfl) (by show 1 ≤ _; decide) ?_
  have hN := numsF_one ⟨k, n, s⟩
  cases h1 : (numF ⟨k, n, s⟩).2.2
  · rw [h1, if_neg (by simp)] at hN
    simp -dsimp only [↓Hold_5, ↓VWP_seq, ↓VWP_region, ↓VWP_cond, ↓VWP_ret, ↓VWP_block, ↓VReg_one, ↓VReg_non, ↓VReg_nil, ↓VS_move, ↓VS_assign, ↓VS_load, ↓VS_unOp, ↓VS_indexAddr, ↓VS_extract, ↓VS_buildSlice, ↓VS_store, ↓With_bindH, ↓With_guard, ↓Hold_1, With_some, emap_nil, emap_cons, ↓eget_map, ↓eget_eset, ↓ae_tmp, ↓ae_int, eget_zero, lop_extract, lop_not, asBool_bool, ↓vfinish_ret, ↓vres_nil, ↓vres_cell, vtell_eq, ret1, Option.map_some, ↓reduceIte, Nat.reduceEqDiff, reduceCtorEq, decide_true, decide_false, Bool.not_false, List.getElem?_toArray, List.getElem?_cons_zero, List.getElem?_cons_succ, Nat.zero_add, Nat.add_zero, Nat.reduceAdd, Nat.reduceMul, Nat.reduceLT, Nat.reduceLeDiff, true_and, and_self, List.map_cons, List.map_nil, List.all_cons, List.all_nil, tup_int, tup_str, tup_agg, cel_agg, List.drop_zero, List.toList_toArray, List.size_toArray, List.length_cons, List.length_nil, mapOwn_agg, mapOwn_int, mapOwn_string, mapOwn_pointer, toksL_nil, toksL_cons, toks_int, toks_string, toks_agg, okv_agg, okv_int, okv_string, List.flatMap_nil, List.flatMap_cons, List.all_nil, List.all_cons, List.append_nil, List.nil_append, List.cons_append, List.map_nil, List.map_cons, Bool.and_self, Bool.not_false, beq_self_eq_true, vnext_mk, vpush_mk, vget_nil, vput_nil, cellsIn_mk, vturn_nil, vthaw_one, vthaw_nil, boxesOf_nil, vwrites_nil, List.getD_cons_zero, List.getD_cons_succ, List.set_cons_zero, List.set_cons_succ, List.length_cons, List.length_nil, List.drop_zero, List.take_succ_cons, List.take_zero, vload_at, aggV_agg, partsOk_nil, partsOk_cons, vfill_nil, vfill_cons, ↓vlay_free, cellsOk_free, cellF, List.replicate_succ, List.replicate_zero, beq_self_eq_true, Int.reduceLE, Int.reduceToNat, decide_true, decide_false, beq_self_eq_true, setAll_whole, vld48, vgt48, vst48, ↓val48, vbd42, vis42, ↓vfk151, Tryd.results102, VV.v, ↓numbers1_c h hX1, hN]
    simp [signF, h1]
  · rw [h1, if_pos rfl] at hN
    by_cases h2 : (numF ⟨k, n, s⟩).1 < 0 <;> simp -dsimp only [↓Hold_5, ↓VWP_seq, ↓VWP_region, ↓VWP_cond, ↓VWP_ret, ↓VWP_skip, ↓VWP_block, ↓VReg_one, ↓VReg_non, ↓VReg_nil, ↓VS_move, ↓VS_assign, ↓VS_load, ↓VS_binOp, ↓VS_unOp, ↓VS_indexAddr, ↓VS_extract, ↓VS_min, ↓VS_buildSlice, ↓VS_store, ↓With_bindH, ↓With_guard, ↓Hold_1, With_some, emap_nil, emap_cons, ↓eget_map, ↓eget_eset, ↓ae_tmp, ↓ae_int, eget_zero, lop_extract, lop_not, asBool_bool, ↓vfinish_ret, ↓vres_nil, ↓vres_cell, vtell_eq, ret1, Option.map_some, ↓reduceIte, Nat.reduceEqDiff, reduceCtorEq, Bool.false_eq_true, decide_true, decide_false, Bool.not_true, Bool.not_false, List.getElem?_toArray, List.getElem?_cons_zero, List.getElem?_cons_succ, Nat.zero_add, Nat.add_zero, Nat.reduceAdd, Nat.reduceMul, Nat.reduceLT, Nat.reduceLeDiff, true_and, and_self, List.map_cons, List.map_nil, List.all_cons, List.all_nil, tup_int, tup_str, tup_agg, cel_agg, List.drop_zero, List.toList_toArray, List.size_toArray, List.length_cons, List.length_nil, mapOwn_agg, mapOwn_int, mapOwn_string, mapOwn_pointer, toksL_nil, toksL_cons, toks_int, toks_string, toks_agg, okv_agg, okv_int, okv_string, List.flatMap_nil, List.flatMap_cons, List.all_nil, List.all_cons, List.append_nil, List.nil_append, List.cons_append, List.map_nil, List.map_cons, Bool.and_self, Bool.not_true, Bool.not_false, beq_self_eq_true, vnext_mk, vpush_mk, vget_nil, vput_nil, cellsIn_mk, vturn_nil, vthaw_one, vthaw_nil, boxesOf_nil, vwrites_nil, List.getD_cons_zero, List.getD_cons_succ, List.set_cons_zero, List.set_cons_succ, List.length_cons, List.length_nil, List.drop_zero, List.take_succ_cons, List.take_zero, vload_at, cellV_int, aggV_agg, partsOk_nil, partsOk_cons, vfill_nil, vfill_cons, vbin_int, ↓vlay_free, cellsOk_free, cellF, List.replicate_succ, List.replicate_zero, abin_lss, beq_self_eq_true, Int.reduceLE, Int.reduceToNat, decide_true, decide_false, beq_self_eq_true, setAll_whole, Int.reduceNeg, vld48, vgt48, vgt3, vst48, ↓val48, vbd42, vis42, vis43, ↓vfk151, ↓vfk92, Tryd.results102, amin_i, VV.v, vI, ↓numbers1_c h hX1, hN, ↓int_c h.int, h2] <;> simp [signF, h1, h2, iV]
end
end Go.Proofs.YtmdpggecelheoaaDoor.Abs
/- The remainder; the least and the greatest. -/
set_option linter.unusedVariables false
set_option linter.unusedSimpArgs false
set_option maxRecDepth 4000
set_option maxHeartbeats 0
namespace Go.Proofs.YtmdpggecelheoaaDoor.Abs
open Go
attribute [local irreducible] Hold VReg Vf Vc VWP With VStp Vcallee Vp VE
theorem ab_rem {P : Program} {t : TypeId} {x y : Operand} {k : IntKind} {a b : Int} (hb : b ≠ 0) : abin P .rem t x y (.int k a) (.int k b) = some (.int k (a.tmod b)) := by
  have h : pureRun P (Op.intDiv .rem k a b) = some (.int k (a.tmod b)) := by
    unfold Op.intDiv
    rw [if_neg hb]
    rfl
  have h2 : abin P .rem t x y (.int k a) (.int k b) = onlyFlat (pureRun P (Op.intDiv .rem k a b)) := by cases k <;> rfl
  rw [h2, h]
  rfl
section
variable {X : VOuter}
theorem numsF_two (x y : VV) : numsF [x, y] = if (numF x).2.2 then (if (numF y).2.2 then ([(numF x).1, (numF y).1], zV, true) else ([], (numF y).2.1, false)) else ([], (numF x).2.1, false) := by
  unfold numsF
  cases h : (numF x).2.2 <;> cases h2 : (numF y).2.2 <;> simp [h, h2]
def modF (x y : VV) : VV := if (numF x).2.2 then (if (numF y).2.2 then (if (numF y).1 = 0 then eV 2 else if (numF y).1 = -1 then iV 0 else iV ((numF x).1.tmod (numF y).1)) else (numF y).2.1) else (numF x).2.1
theorem mod_p (h : AOff X) (hX : X 103 = none) (hX1 : X 151 = none) (c : Bool) (d : Nat) (x y : VV) : Vp Tryd.prog X 103 [sl c d 3 ([x, y].map VV.v)] (modF x y).v := by
  unfold Vp
  refine Vf_text hX Tryd.func103 rfl (by kernel_rfl) (by show 1 ≤ _; decide) ?_
  have hN := numsF_two x y
  have hc := fun (S : VH) (K : VCont) => numbers_c (K := K) (S := S) h hX1 c d [x, y] (by show 2 ≤ _; omega)
  simp only [List.map_cons, List.map_nil] at hc ⊢
  cases h1 : (numF x).2.2
  · rw [h1, if_neg (by simp)] at hN
    simp -dsimp only [↓Hold_5, ↓VWP_seq, ↓VWP_region, ↓VWP_cond, ↓VWP_ret, ↓VWP_block, ↓VReg_one, ↓VReg_non, ↓VReg_nil, ↓VS_move, ↓VS_assign, ↓VS_load, ↓VS_unOp, ↓VS_extract, ↓VS_store, ↓With_bindH, ↓With_guard, ↓Hold_1, With_some, emap_nil, ↓eget_eset, ↓ae_tmp, eget_zero, lop_extract, lop_not, asBool_bool, ↓vfinish_ret, ↓vres_nil, ↓vres_cell, vtell_eq, ret1, Option.map_some, ↓reduceIte, Nat.reduceEqDiff, reduceCtorEq, decide_false, Bool.not_false, List.getElem?_toArray, List.getElem?_cons_zero, List.getElem?_cons_succ, Nat.zero_add, Nat.add_zero, Nat.reduceAdd, Nat.reduceLT, Nat.reduceLeDiff, true_and, and_self, List.map_cons, List.map_nil, List.all_cons, List.all_nil, tup_int, tup_str, tup_agg, cel_agg, List.drop_zero, List.toList_toArray, List.size_toArray, List.length_cons, List.length_nil, mapOwn_agg, mapOwn_int, mapOwn_string, toksL_nil, toksL_cons, toks_int, toks_string, toks_agg, okv_agg, okv_int, okv_string, List.flatMap_nil, List.flatMap_cons, List.all_nil, List.all_cons, List.append_nil, List.nil_append, List.cons_append, List.map_nil, List.map_cons, Bool.and_self, Bool.not_false, beq_self_eq_true, vnext_mk, vpush_mk, vget_nil, vput_nil, cellsIn_mk, vthaw_nil, vwrites_nil, List.getD_cons_zero, List.getD_cons_succ, List.set_cons_zero, List.set_cons_succ, List.length_cons, List.length_nil, List.drop_zero, List.take_succ_cons, List.take_zero, ↓vlay_free, cellsOk_free, cellF, beq_self_eq_true, decide_false, beq_self_eq_true, setAll_whole, vld48, vst48, ↓val48, ↓vfk151, Tryd.results103, ↓hc, hN]
    simp [modF, h1, VV.v]
  · rw [h1, if_pos rfl] at hN
    cases h2 : (numF y).2.2
    · rw [h2, if_neg (by simp)] at hN
      simp -dsimp only [↓Hold_5, ↓VWP_seq, ↓VWP_region, ↓VWP_cond, ↓VWP_ret, ↓VWP_block, ↓VReg_one, ↓VReg_non, ↓VReg_nil, ↓VS_move, ↓VS_assign, ↓VS_load, ↓VS_unOp, ↓VS_extract, ↓VS_store, ↓With_bindH, ↓With_guard, ↓Hold_1, With_some, emap_nil, ↓eget_eset, ↓ae_tmp, eget_zero, lop_extract, lop_not, asBool_bool, ↓vfinish_ret, ↓vres_nil, ↓vres_cell, vtell_eq, ret1, Option.map_some, ↓reduceIte, Nat.reduceEqDiff, reduceCtorEq, decide_false, Bool.not_false, List.getElem?_toArray, List.getElem?_cons_zero, List.getElem?_cons_succ, Nat.zero_add, Nat.add_zero, Nat.reduceAdd, Nat.reduceLT, Nat.reduceLeDiff, true_and, and_self, List.map_cons, List.map_nil, List.all_cons, List.all_nil, tup_int, tup_str, tup_agg, cel_agg, List.drop_zero, List.toList_toArray, List.size_toArray, List.length_cons, List.length_nil, mapOwn_agg, mapOwn_int, mapOwn_string, toksL_nil, toksL_cons, toks_int, toks_string, toks_agg, okv_agg, okv_int, okv_string, List.flatMap_nil, List.flatMap_cons, List.all_nil, List.all_cons, List.append_nil, List.nil_append, List.cons_append, List.map_nil, List.map_cons, Bool.and_self, Bool.not_false, beq_self_eq_true, vnext_mk, vpush_mk, vget_nil, vput_nil, cellsIn_mk, vthaw_nil, vwrites_nil, List.getD_cons_zero, List.getD_cons_succ, List.set_cons_zero, List.set_cons_succ, List.length_cons, List.length_nil, List.drop_zero, List.take_succ_cons, List.take_zero, ↓vlay_free, cellsOk_free, cellF, beq_self_eq_true, decide_false, beq_self_eq_true, setAll_whole, vld48, vst48, ↓val48, ↓vfk151, Tryd.results103, ↓hc, hN]
      simp [modF, h1, h2, VV.v]
    · rw [h2, if_pos rfl] at hN
      by_cases h3 : (numF y).1 = 0
      · simp -dsimp only [↓Hold_5, ↓VWP_seq, ↓VWP_region, ↓VWP_cond, ↓VWP_ret, ↓VWP_block, ↓VReg_one, ↓VReg_non, ↓VReg_nil, ↓VS_move, ↓VS_assign, ↓VS_load, ↓VS_binOp, ↓VS_unOp, ↓VS_indexAddr, ↓VS_extract, ↓VS_store, ↓With_bindH, ↓With_guard, ↓Hold_1, With_some, emap_nil, ↓eget_eset, ↓ae_tmp, ↓ae_int, eget_zero, lop_extract, lop_not, asBool_bool, ↓vfinish_ret, ↓vres_nil, ↓vres_cell, vtell_eq, ret1, Option.map_some, ↓reduceIte, Nat.reduceEqDiff, reduceCtorEq, Bool.false_eq_true, decide_false, Bool.not_true, Bool.not_false, List.getElem?_toArray, List.getElem?_cons_zero, List.getElem?_cons_succ, Nat.zero_add, Nat.add_zero, Nat.reduceAdd, Nat.reduceLT, Nat.reduceLeDiff, true_and, and_self, List.map_cons, List.map_nil, List.all_cons, List.all_nil, tup_int, tup_str, tup_agg, cel_agg, List.drop_zero, List.toList_toArray, List.size_toArray, List.length_cons, List.length_nil, mapOwn_agg, mapOwn_int, mapOwn_string, toksL_nil, toksL_cons, toks_int, toks_string, toks_agg, okv_agg, okv_int, okv_string, List.flatMap_nil, List.flatMap_cons, List.all_nil, List.all_cons, List.append_nil, List.nil_append, List.cons_append, List.map_nil, List.map_cons, Bool.and_self, Bool.not_true, Bool.not_false, beq_self_eq_true, vnext_mk, vpush_mk, vget_nil, vput_nil, cellsIn_mk, vthaw_nil, vwrites_nil, List.getD_cons_zero, List.getD_cons_succ, List.set_cons_zero, List.set_cons_succ, List.length_cons, List.length_nil, List.drop_zero, List.take_succ_cons, List.take_zero, vload_at, cellV_int, vbin_int, ↓vlay_free, cellsOk_free, cellF, abin_eql, beq_self_eq_true, Int.reduceLE, Int.reduceToNat, decide_false, beq_self_eq_true, setAll_whole, vld48, vgt3, vst48, ↓val48, vis43, ↓vfk151, ↓vfk51, Tryd.results103, ↓hc, hN, vI, h3, ↓err_c h.err]
        simp [modF, h1, h2, h3, VV.v, eV]
      · by_cases h4 : (numF y).1 = -1
        · simp -dsimp only [↓Hold_5, ↓VWP_seq, ↓VWP_region, ↓VWP_cond, ↓VWP_ret, ↓VWP_block, ↓VReg_one, ↓VReg_non, ↓VReg_nil, ↓VS_move, ↓VS_assign, ↓VS_load, ↓VS_binOp, ↓VS_unOp, ↓VS_indexAddr, ↓VS_extract, ↓VS_store, ↓With_bindH, ↓With_guard, ↓Hold_1, With_some, emap_nil, ↓eget_eset, ↓ae_tmp, ↓ae_int, eget_zero, lop_extract, lop_not, asBool_bool, ↓vfinish_ret, ↓vres_nil, ↓vres_cell, vtell_eq, ret1, Option.map_some, ↓reduceIte, Nat.reduceEqDiff, reduceCtorEq, Bool.false_eq_true, decide_false, Bool.not_true, Bool.not_false, List.getElem?_toArray, List.getElem?_cons_zero, List.getElem?_cons_succ, Nat.zero_add, Nat.add_zero, Nat.reduceAdd, Nat.reduceLT, Nat.reduceLeDiff, true_and, and_self, List.map_cons, List.map_nil, List.all_cons, List.all_nil, tup_int, tup_str, tup_agg, cel_agg, List.drop_zero, List.toList_toArray, List.size_toArray, List.length_cons, List.length_nil, mapOwn_agg, mapOwn_int, mapOwn_string, toksL_nil, toksL_cons, toks_int, toks_string, toks_agg, okv_agg, okv_int, okv_string, List.flatMap_nil, List.flatMap_cons, List.all_nil, List.all_cons, List.append_nil, List.nil_append, List.cons_append, List.map_nil, List.map_cons, Bool.and_self, Bool.not_true, Bool.not_false, beq_self_eq_true, vnext_mk, vpush_mk, vget_nil, vput_nil, cellsIn_mk, vthaw_nil, vwrites_nil, List.getD_cons_zero, List.getD_cons_succ, List.set_cons_zero, List.set_cons_succ, List.length_cons, List.length_nil, List.drop_zero, List.take_succ_cons, List.take_zero, vload_at, cellV_int, vbin_int, ↓vlay_free, cellsOk_free, cellF, abin_eql, beq_self_eq_true, Int.reduceLE, Int.reduceToNat, decide_false, beq_self_eq_true, setAll_whole, ibeq, Int.reduceNeg, vld48, vgt3, vst48, ↓val48, vis43, ↓vfk151, ↓vfk92, Tryd.results103, ↓hc, hN, vI, h4, ↓int_c h.int]
          simp [modF, h1, h2, h4, VV.v, iV]
        · simp -dsimp only [↓Hold_5, ↓VWP_seq, ↓VWP_region, ↓VWP_cond, ↓VWP_skip, ↓VWP_block, ↓VWP_open, ↓VReg_one, ↓VReg_non, ↓VReg_nil, ↓VS_move, ↓VS_assign, ↓VS_load, ↓VS_binOp, ↓VS_unOp, ↓VS_indexAddr, ↓VS_extract, ↓VS_store, ↓Hold_1, With_some, emap_nil, ↓eget_eset, ↓ae_tmp, ↓ae_int, eget_zero, lop_extract, lop_not, asBool_bool, Option.map_some, ↓reduceIte, Nat.reduceEqDiff, reduceCtorEq, Bool.false_eq_true, decide_false, Bool.not_true, Bool.not_false, List.getElem?_toArray, List.getElem?_cons_zero, List.getElem?_cons_succ, Nat.zero_add, Nat.add_zero, Nat.reduceAdd, Nat.reduceLT, Nat.reduceLeDiff, and_self, List.map_cons, List.map_nil, List.all_cons, List.all_nil, tup_int, tup_str, tup_agg, cel_agg, List.toList_toArray, List.size_toArray, List.length_cons, List.length_nil, toksL_nil, toksL_cons, toks_int, toks_string, okv_int, okv_string, List.all_nil, List.all_cons, List.append_nil, List.nil_append, List.cons_append, List.map_nil, List.map_cons, Bool.and_self, Bool.not_true, Bool.not_false, beq_self_eq_true, vnext_mk, vpush_mk, vget_nil, vput_nil, cellsIn_mk, List.getD_cons_zero, List.getD_cons_succ, List.set_cons_zero, List.set_cons_succ, List.length_cons, List.length_nil, vload_at, cellV_int, vbin_int, ↓vlay_free, cellsOk_free, cellF, abin_eql, beq_self_eq_true, Int.reduceLE, Int.reduceToNat, decide_false, beq_self_eq_true, setAll_whole, ibeq, Int.reduceNeg, vgt3, vst48, ↓val48, vis43, ↓vfk151, ↓hc, hN, vI, h3, h4]
          first | refine Vc_open [[], [], [], [], [], [], [], [], []] false (by kernel_rfl) (by kernel_rfl) (by kernel_rfl) ?_ | refine Vc_open2 [[], [], [], [], [], [], [], [], []] false (by kernel_rfl) (by kernel_rfl) (by kernel_rfl) (by kernel_rfl) ?_
          simp -dsimp only [↓Hold_5, ↓VWP_ret, ↓VS_move, ↓VS_load, ↓VS_binOp, ↓VS_indexAddr, ↓VS_store, ↓With_bindH, ↓With_guard, ↓Hold_1, ↓Hold_3, With_some, emap_nil, ↓eget_eset, ↓ae_tmp, ↓ae_int, light, ↓vfinish_ret, ↓vres_nil, ↓vres_cell, vtell_eq, ret1, Option.map_some, ↓reduceIte, Nat.reduceEqDiff, Bool.false_eq_true, decide_false, Bool.not_false, List.getElem?_cons_zero, List.getElem?_cons_succ, Nat.zero_add, Nat.reduceAdd, Nat.reduceLT, Nat.reduceLeDiff, true_and, and_self, List.map_cons, List.map_nil, List.all_cons, List.all_nil, tup_int, tup_str, tup_agg, cel_agg, List.drop_zero, List.toList_toArray, List.size_toArray, List.length_cons, List.length_nil, mapOwn_agg, mapOwn_int, mapOwn_string, toksL_nil, toksL_cons, toks_int, toks_string, toks_agg, okv_agg, okv_int, okv_string, List.flatMap_nil, List.flatMap_cons, List.all_nil, List.all_cons, List.append_nil, List.nil_append, List.cons_append, List.map_nil, List.map_cons, Bool.and_self, Bool.not_false, beq_self_eq_true, vnext_mk, vget_nil, vput_nil, cellsIn_mk, vthaw_nil, vwrites_nil, List.getD_cons_zero, List.set_cons_zero, List.length_cons, List.length_nil, List.drop_zero, List.take_succ_cons, List.take_zero, vload_at, cellV_int, vbin_int, ↓vlay_free, cellsOk_free, cellF, beq_self_eq_true, Int.reduceLE, Int.reduceToNat, decide_false, beq_self_eq_true, setAll_whole, ↓VE_nil, ↓VE_one0, ↓VE_non0, List.reverse_cons, List.reverse_nil, vld48, vgt3, vst48, vis43, ↓vfk92, Tryd.results103, ↓int_c h.int, ab_rem h3]
          simp [modF, h1, h2, h3, h4, VV.v, iV]
def bestF (F : Int → Int → Int) : List Int → Int
  | [] => 0
  | a :: r => r.foldl F (F a a)
theorem bestF_take (F : Int → Int → Int) (N : List Int) (i : Nat) (h : i < N.length) : bestF F (N.take (i + 1)) = F (if (i : Int) = 0 then N[i] else bestF F (N.take i)) N[i] := by
  cases i with
  | zero =>
    cases N with
    | nil => simp at h
    | cons a r => simp [bestF]
  | succ i =>
    cases N with
    | nil => simp at h
    | cons a r =>
      have hr : i < r.length := by simpa using h
      rw [List.take_succ_cons, List.take_succ_cons]
      have h2 : ¬ (((i + 1 : Nat) : Int) = 0) := by omega
      rw [if_neg h2]
      simp only [bestF, List.getElem_cons_succ]
      rw [← List.take_append_getElem hr, List.foldl_append]
      rfl
theorem ints_c (hX : X 93 = none) (c : Bool) (d : Nat) (l : List VV) (hl : l.length ≤ 1000000000) {S : VH} {K : VCont} : Vcallee Tryd.prog X 93 [sl c d 3 (l.map VV.v)] S K = K (sl true 0 1 ((intsF l).map vI)) [] S [] false :=
  Vcallee_of (ints_p hX c d l hl) (by simp only [mapOwnL_cons, mapOwnL_nil, lend_sl]) (by simp only [okvL_cons, okvL_nil, okv_sl, Bool.and_true]) (okv_sl0 _ _ _ _ _)
theorem best_p (h : AOff X) (hX : X 87 = none) (hX1 : X 93 = none) (g : FuncId) (F : Int → Int → Int) (hg : funcOk Tryd.prog g = true) (hF : ∀ a b S K, Vcallee Tryd.prog X g [.int .i64 a, .int .i64 b] S K = K (.int .i64 (F a b)) [] S [] false) (c : Bool) (d : Nat) (l : List VV) (hl : l.length ≤ 1000000000) : Vp Tryd.prog X 87 [sl c d 3 (l.map VV.v), .func (.func g) #[] #[]] (iV (bestF F (intsF l))).v := by
  unfold Vp
  refine Vf_text hX Tryd.func87 rfl (by kernel_rfl) (by show 2 ≤ _; decide) ?_
  have hlen := intsF_len l
  simp -dsimp only [↓Hold_5, ↓VWP_seq, ↓VWP_region, ↓VWP_block, ↓VWP_loop, ↓VReg_one, ↓VReg_nil, ↓VS_move, ↓VS_assign, ↓VS_len, ↓Hold_1, With_some, emap_nil, ↓eget_eset, ↓ae_tmp, ↓ae_int, eget_zero, ↓reduceIte, reduceCtorEq, Nat.add_zero, List.map_cons, List.map_nil, List.length_nil, List.nil_append, List.map_nil, List.map_cons, vnext_mk, vpush_mk, List.length_nil, ↓val48, vls43, ↓vfk93, ↓ints_c hX1 c d l hl, List.length_map]
  generalize intsF l = N at *
  refine Vc_loop (fun m e S => ∃ i : Nat, m = N.length - i ∧ i ≤ N.length ∧ eget e 9 = sl true 0 1 (N.map vI) ∧ eget e 10 = .int .i64 N.length ∧ eget e 11 = .int .i64 i ∧ eget e 4 = .pointer (some { block := 0, off := 0 }) ∧ eget e 1 = .func (.func g) #[] #[] ∧ eget e 5 = .int .i64 (bestF F (N.take i)) ∧ S = ⟨[], [.cells true 48 [.int .i64 0, .int .i64 0, .string .empty]], []⟩) N.length ?_ ?_
  · refine ⟨0, rfl, Nat.zero_le _, ?_, ?_, ?_, ?_, ?_, ?_, rfl⟩ <;> simp only [↓eget_eset, eget_zero, eget_succ, ↓reduceIte, Nat.reduceEqDiff] <;> rfl
  · rintro m e S ⟨i, rfl, hi, e9, e10, e11, e4, e1, e5, rfl⟩
    refine VWP_Vc _ _ _ _ ?_
    by_cases hin : i < N.length
    · have hlt : (i : Int) < N.length := by omega
      have h0 : (0 : Int) ≤ i := by omega
      have hx : (N.map vI)[i]? = some (.int .i64 N[i]) := by simp [hin, vI]
      have ht := bestF_take F N i hin
      have hnum : ((i : Int) + 1) = ((i + 1 : Nat) : Int) := by omega
      have hwr : IntKind.i64.wrap ((i : Int) + 1) = ((i + 1 : Nat) : Int) := by rw [hnum]; exact wrap_id (by omega) (by omega)
      generalize N[i] = x at hx ht
      by_cases hz : (i : Int) = 0
      · rw [if_pos hz] at ht
        have hz' := decide_eq_true hz
        simp -dsimp only [↓Hold_5, ↓VWP_seq, ↓VWP_region, ↓VWP_cond, ↓VWP_skip, ↓VWP_block, ↓VReg_one, ↓VReg_nil, ↓VS_move, ↓VS_assign, ↓VS_load, ↓VS_binOp, ↓VS_indexAddr, ↓VS_callv, ↓Hold_1, With_some, emap_nil, ↓eget_eset, ↓ae_tmp, ↓ae_int, asBool_bool, Option.map_some, ↓reduceIte, Nat.reduceEqDiff, decide_true, and_true, true_and, List.map_cons, List.map_nil, List.append_nil, List.nil_append, List.map_nil, List.map_cons, vload_at, cellV_int, vbin_int, asClo_fun, abin_eql, abin_lss, abin_add, Int.toNat_natCast, decide_true, ibeq, vgt3, vis43, e9, e10, e11, e4, e1, hlt, h0, hx, hz', asClo_fun, hg, ↓hF]
        exact ⟨N.length - (i + 1), by omega, i + 1, rfl, by omega, by rw [hwr], by rw [ht]⟩
      · rw [if_neg hz] at ht
        simp -dsimp only [↓Hold_5, ↓VWP_seq, ↓VWP_region, ↓VWP_cond, ↓VWP_skip, ↓VWP_block, ↓VReg_one, ↓VReg_nil, ↓VS_move, ↓VS_assign, ↓VS_load, ↓VS_binOp, ↓VS_indexAddr, ↓VS_callv, ↓Hold_1, With_some, emap_nil, ↓eget_eset, ↓ae_tmp, ↓ae_int, asBool_bool, Option.map_some, ↓reduceIte, Nat.reduceEqDiff, Bool.false_eq_true, decide_true, decide_false, and_true, true_and, List.map_cons, List.map_nil, List.append_nil, List.nil_append, List.map_nil, List.map_cons, vload_at, cellV_int, vbin_int, asClo_fun, abin_eql, abin_lss, abin_add, Int.toNat_natCast, decide_true, decide_false, ibeq, vgt3, vis43, e9, e10, e11, e4, e1, e5, hlt, h0, hx, hz, asClo_fun, hg, ↓hF]
        exact ⟨N.length - (i + 1), by omega, i + 1, rfl, by omega, by rw [hwr], by rw [ht]⟩
    · obtain rfl : i = N.length := by omega
      have hlt : ¬ ((N.length : Int) < N.length) := by omega
      simp -dsimp only [↓Hold_5, ↓VWP_seq, ↓VWP_region, ↓VWP_cond, ↓VWP_ret, ↓VWP_exit, ↓VReg_one, ↓VReg_non, ↓VReg_nil, ↓VS_move, ↓VS_binOp, ↓VS_store, ↓With_bindH, ↓With_guard, ↓Hold_1, ↓Hold_3, With_some, emap_nil, ↓eget_eset, ↓ae_tmp, asBool_bool, ↓vfinish_ret, ↓vres_nil, ↓vres_cell, vtell_eq, ret1, Option.map_some, ↓reduceIte, Nat.reduceEqDiff, Bool.false_eq_true, decide_false, Bool.not_false, Nat.zero_add, Nat.reduceAdd, Nat.reduceLT, Nat.reduceLeDiff, true_and, and_self, List.map_cons, List.map_nil, List.all_cons, List.all_nil, tup_int, tup_str, tup_agg, cel_agg, List.drop_zero, List.toList_toArray, List.size_toArray, List.length_cons, List.length_nil, mapOwn_agg, mapOwn_int, mapOwn_string, toksL_nil, toksL_cons, toks_int, toks_string, toks_agg, okv_agg, okv_int, okv_string, List.flatMap_nil, List.flatMap_cons, List.all_nil, List.all_cons, List.append_nil, List.map_nil, List.map_cons, Bool.and_self, Bool.not_false, beq_self_eq_true, vnext_mk, vget_nil, vput_nil, cellsIn_mk, vthaw_nil, vwrites_nil, List.getD_cons_zero, List.set_cons_zero, List.length_cons, List.length_nil, List.drop_zero, List.take_succ_cons, List.take_zero, vbin_int, ↓vlay_free, cellsOk_free, cellF, abin_lss, beq_self_eq_true, decide_false, beq_self_eq_true, setAll_whole, vld48, vst48, ↓vfk92, Tryd.results87, e10, e11, e4, e5, hlt, List.take_length, ↓int_c h.int]
      rfl
def minI (a b : Int) : Int := if b < a then b else a
def maxI (a b : Int) : Int := if a < b then b else a
theorem least_p (hX : X 88 = none) (a b : Int) : Vp Tryd.prog X 88 [.int .i64 a, .int .i64 b] (.int .i64 (minI a b)) := by
  unfold Vp
  refine Vf_text hX Tryd.func88 rfl (by kernel_rfl) (by show 2 ≤ _; decide) ?_
  simp -dsimp only [↓VWP_seq, ↓VWP_region, ↓VWP_ret, ↓VReg_one, ↓VReg_nil, ↓VS_move, ↓VS_assign, ↓VS_min, ↓With_guard, ↓Hold_1, With_some, emap_nil, ↓eget_eset, ↓ae_tmp, ↓ae_int, eget_zero, eget_succ, ↓vfinish_ret, ↓vres_nil, ↓vres_tmp, vtell_eq, ret1, Option.map_some, Option.bind_some, ↓reduceIte, Nat.reduceEqDiff, reduceCtorEq, true_and, List.toList_toArray, List.length_nil, mapOwn_int, toks_int, okv_int, vthaw_nil, vwrites_nil, List.length_nil, Tryd.results88, amin_i]
  simp [minI]
theorem great_p (hX : X 90 = none) (a b : Int) : Vp Tryd.prog X 90 [.int .i64 a, .int .i64 b] (.int .i64 (maxI a b)) := by
  unfold Vp
  refine Vf_text hX Tryd.func90 rfl (by kernel_rfl) (by show 2 ≤ _; decide) ?_
  simp -dsimp only [↓VWP_seq, ↓VWP_region, ↓VWP_ret, ↓VReg_one, ↓VReg_nil, ↓VS_move, ↓VS_assign, ↓VS_max, ↓With_guard, ↓Hold_1, With_some, emap_nil, ↓eget_eset, ↓ae_tmp, ↓ae_int, eget_zero, eget_succ, ↓vfinish_ret, ↓vres_nil, ↓vres_tmp, vtell_eq, ret1, Option.map_some, Option.bind_some, ↓reduceIte, Nat.reduceEqDiff, reduceCtorEq, true_and, List.toList_toArray, List.length_nil, mapOwn_int, toks_int, okv_int, vthaw_nil, vwrites_nil, List.length_nil, Tryd.results90, amax_i]
  simp [maxI]
theorem bestmin_c (h : AOff X) (hX : X 87 = none) (hX1 : X 93 = none) (hX2 : X 88 = none) (c : Bool) (d : Nat) (l : List VV) (hl : l.length ≤ 1000000000) {S : VH} {K : VCont} : Vcallee Tryd.prog X 87 [sl c d 3 (l.map VV.v), .func (.func 88) #[] #[]] S K = K (.agg ⟨[.int .i64 1, .int .i64 (bestF minI (intsF l)), .string .empty]⟩) [] S [] false :=
  Vcallee_of (best_p h hX hX1 88 minI (by kernel_rfl) (fun a b S K => Vcallee_of (least_p hX2 a b) rfl rfl rfl) c d l hl) (by simp only [mapOwnL_cons, mapOwnL_nil, lend_sl]; rfl) (by simp only [okvL_cons, okvL_nil, okv_sl, Bool.and_true]; rfl) rfl
theorem bestmax_c (h : AOff X) (hX : X 87 = none) (hX1 : X 93 = none) (hX2 : X 90 = none) (c : Bool) (d : Nat) (l : List VV) (hl : l.length ≤ 1000000000) {S : VH} {K : VCont} : Vcallee Tryd.prog X 87 [sl c d 3 (l.map VV.v), .func (.func 90) #[] #[]] S K = K (.agg ⟨[.int .i64 1, .int .i64 (bestF maxI (intsF l)), .string .empty]⟩) [] S [] false :=
  Vcallee_of (best_p h hX hX1 90 maxI (by kernel_rfl) (fun a b S K => Vcallee_of (great_p hX2 a b) rfl rfl rfl) c d l hl) (by simp only [mapOwnL_cons, mapOwnL_nil, lend_sl]; rfl) (by simp only [okvL_cons, okvL_nil, okv_sl, Bool.and_true]; rfl) rfl
theorem min_p (h : AOff X) (hX0 : X 86 = none) (hX : X 87 = none) (hX1 : X 93 = none) (hX2 : X 88 = none) (c : Bool) (d : Nat) (l : List VV) (hl : l.length ≤ 1000000000) : Vp Tryd.prog X 86 [sl c d 3 (l.map VV.v)] (iV (bestF minI (intsF l))).v := by
  unfold Vp
  refine Vf_text hX0 Tryd.func86 rfl (by kernel_rfl) (by show 1 ≤ _; decide) ?_
  simp -dsimp only [↓Hold_5, ↓VWP_seq, ↓VWP_region, ↓VWP_ret, ↓VReg_one, ↓VReg_non, ↓VReg_nil, ↓VS_move, ↓VS_store, ↓With_bindH, ↓With_guard, ↓Hold_1, With_some, emap_nil, ↓eget_eset, ↓ae_tmp, ↓ae_func, eget_zero, ↓vfinish_ret, ↓vres_nil, ↓vres_cell, vtell_eq, ret1, Option.map_some, ↓reduceIte, Nat.reduceEqDiff, reduceCtorEq, decide_false, Bool.not_false, Nat.zero_add, Nat.add_zero, Nat.reduceAdd, Nat.reduceLT, Nat.reduceLeDiff, true_and, and_self, List.map_cons, List.map_nil, List.all_cons, List.all_nil, tup_int, tup_str, tup_agg, cel_agg, List.drop_zero, List.toList_toArray, List.size_toArray, List.length_cons, List.length_nil, mapOwn_agg, mapOwn_int, mapOwn_string, toksL_nil, toksL_cons, toks_int, toks_string, toks_agg, okv_agg, okv_int, okv_string, List.flatMap_nil, List.flatMap_cons, List.all_nil, List.all_cons, List.append_nil, List.nil_append, List.map_nil, List.map_cons, Bool.and_self, Bool.not_false, beq_self_eq_true, vnext_mk, vpush_mk, vget_nil, vput_nil, cellsIn_mk, vthaw_nil, vwrites_nil, List.getD_cons_zero, List.set_cons_zero, List.length_cons, List.length_nil, List.drop_zero, List.take_succ_cons, List.take_zero, ↓vlay_free, cellsOk_free, cellF, beq_self_eq_true, decide_false, beq_self_eq_true, setAll_whole, vld48, vst48, ↓val48, ↓vfk87, Tryd.results86, ↓bestmin_c h hX hX1 hX2 c d l hl]
  rfl
theorem max_p (h : AOff X) (hX0 : X 89 = none) (hX : X 87 = none) (hX1 : X 93 = none) (hX2 : X 90 = none) (c : Bool) (d : Nat) (l : List VV) (hl : l.length ≤ 1000000000) : Vp Tryd.prog X 89 [sl c d 3 (l.map VV.v)] (iV (bestF maxI (intsF l))).v := by
  unfold Vp
  refine Vf_text hX0 Tryd.func89 rfl (by kernel_rfl) (by show 1 ≤ _; decide) ?_
  simp -dsimp only [↓Hold_5, ↓VWP_seq, ↓VWP_region, ↓VWP_ret, ↓VReg_one, ↓VReg_non, ↓VReg_nil, ↓VS_move, ↓VS_store, ↓With_bindH, ↓With_guard, ↓Hold_1, With_some, emap_nil, ↓eget_eset, ↓ae_tmp, ↓ae_func, eget_zero, ↓vfinish_ret, ↓vres_nil, ↓vres_cell, vtell_eq, ret1, Option.map_some, ↓reduceIte, Nat.reduceEqDiff, reduceCtorEq, decide_false, Bool.not_false, Nat.zero_add, Nat.add_zero, Nat.reduceAdd, Nat.reduceLT, Nat.reduceLeDiff, true_and, and_self, List.map_cons, List.map_nil, List.all_cons, List.all_nil, tup_int, tup_str, tup_agg, cel_agg, List.drop_zero, List.toList_toArray, List.size_toArray, List.length_cons, List.length_nil, mapOwn_agg, mapOwn_int, mapOwn_string, toksL_nil, toksL_cons, toks_int, toks_string, toks_agg, okv_agg, okv_int, okv_string, List.flatMap_nil, List.flatMap_cons, List.all_nil, List.all_cons, List.append_nil, List.nil_append, List.map_nil, List.map_cons, Bool.and_self, Bool.not_false, beq_self_eq_true, vnext_mk, vpush_mk, vget_nil, vput_nil, cellsIn_mk, vthaw_nil, vwrites_nil, List.getD_cons_zero, List.set_cons_zero, List.length_cons, List.length_nil, List.drop_zero, List.take_succ_cons, List.take_zero, ↓vlay_free, cellsOk_free, cellF, beq_self_eq_true, decide_false, beq_self_eq_true, setAll_whole, vld48, vst48, ↓val48, ↓vfk87, Tryd.results89, ↓bestmax_c h hX hX1 hX2 c d l hl]
  rfl
end
end Go.Proofs.YtmdpggecelheoaaDoor.Abs
/- How many rows a function takes. -/
set_option linter.unusedVariables false
set_option linter.unusedSimpArgs false
set_option maxRecDepth 4000
set_option maxHeartbeats 0
namespace Go.Proofs.YtmdpggecelheoaaDoor.Abs
open Go
attribute [local irreducible] Hold VReg Vf Vc VWP With VStp Vcallee Vp VE
def fitsF (n : Int) (rs : List RW) : Bool :=
  if n = -1 then true else
  if n = -2 then decide ((2 : Int) ≤ rs.length) && singleF rs else
  if n = -3 then decide ((rs.length : Int) = 2) && singleF (rs.take 1) else decide ((rs.length : Int) = n) && singleF rs
section
variable {X : VOuter}
theorem single_c (hX : X 71 = none) (c : Bool) (d d' : Nat) (l : List RW) (hl : l.length ≤ 1000000000) {S : VH} {K : VCont} : Vcallee Tryd.prog X 71 [sl c d 1 (l.map (RW.v d'))] S K = K (.bool (singleF l)) [] S [] false :=
  Vcallee_of (single_p hX c d d' l hl) (by simp only [mapOwnL_cons, mapOwnL_nil, lend_sl]) (by simp only [okvL_cons, okvL_nil, okv_sl, Bool.and_true]) rfl
theorem fits_p (hX : X 52 = none) (hX1 : X 71 = none) (n : Int) (b : Bool) (g : FuncId) (c : Bool) (d d' : Nat) (l : List RW) (hl : l.length ≤ 1000000000) : Vp Tryd.prog X 52 [.agg ⟨[.int .i64 n, .bool b, .func (.func g) #[] #[]]⟩, sl c d 1 (l.map (RW.v d'))] (.bool (fitsF n l)) := by
  unfold Vp
  refine Vf_text hX Tryd.func52 rfl (by kernel_rfl) (by show 2 ≤ _; decide) ?_
  by_cases n1 : n = -1
  · subst n1
    simp -dsimp only [↓VWP_seq, ↓VWP_region, ↓VWP_cond, ↓VWP_ret, ↓VWP_block, ↓VReg_one, ↓VReg_nil, ↓VS_assign, ↓VS_load, ↓VS_binOp, ↓VS_fieldAddr, ↓VS_box, ↓With_guard, ↓Hold_1, With_some, emap_nil, ↓eget_eset, ↓ae_tmp, ↓ae_int, ↓ae_bool, eget_zero, asBool_bool, ↓vfinish_ret, ↓vres_nil, ↓vres_tmp, vtell_eq, ret1, Option.map_some, Option.bind_some, ↓reduceIte, Nat.reduceEqDiff, Bool.not_false, List.getElem?_cons_zero, Nat.add_zero, true_and, List.all_cons, List.all_nil, tup_int, tup_bool, tup_func, tup_agg, cel_agg, List.toList_toArray, List.length_nil, mapOwn_bool, toksL_nil, toksL_cons, toks_int, toks_bool, toks_clo, okv_clo, okv_bool, okv_int, List.flatMap_nil, List.all_nil, List.all_cons, List.append_nil, List.nil_append, Bool.and_self, Bool.not_false, beq_self_eq_true, vnext_mk, vpush_mk, vget_nil, cellsIn_mk, vthaw_nil, vwrites_nil, List.getD_cons_zero, List.length_nil, vbin_int, ↓vbox_free, cellsOk_free, cellF, abin_eql, beq_self_eq_true, beq_self_eq_true, Int.reduceNeg, vld3, vfp75_0, Tryd.results52]
    rfl
  · by_cases n2 : n = -2
    · subst n2
      by_cases h1 : (2 : Int) ≤ l.length <;> simp -dsimp only [↓Hold_5, ↓VWP_seq, ↓VWP_region, ↓VWP_cond, ↓VWP_ret, ↓VWP_block, ↓VReg_one, ↓VReg_nil, ↓VS_guard, ↓VS_move, ↓VS_assign, ↓VS_pick, ↓VS_load, ↓VS_binOp, ↓VS_fieldAddr, ↓VS_len, ↓VS_box, ↓With_guard, ↓Hold_1, With_some, emap_nil, ↓eget_eset, ↓ae_tmp, ↓ae_int, ↓ae_bool, eget_zero, eget_succ, lop_pick, asBool_bool, asGuard_bool, bb_ft, ayielded_eq, ↓dstAt_zero, ↓dstAt_succ, ↓vfinish_ret, ↓vres_nil, ↓vres_tmp, vtell_eq, ret1, Option.map_some, Option.bind_some, ↓reduceIte, Nat.reduceEqDiff, Bool.false_eq_true, decide_true, decide_false, Bool.not_false, List.getElem?_cons_zero, Nat.add_zero, true_and, List.map_cons, List.map_nil, List.all_cons, List.all_nil, tup_int, tup_bool, tup_func, tup_agg, cel_agg, List.toList_toArray, List.length_nil, mapOwn_bool, toksL_nil, toksL_cons, toks_int, toks_bool, toks_clo, okv_clo, okv_bool, okv_int, List.flatMap_nil, List.all_nil, List.all_cons, List.append_nil, List.nil_append, List.map_nil, List.map_cons, Bool.and_self, Bool.not_false, beq_self_eq_true, vnext_mk, vpush_mk, vget_nil, cellsIn_mk, vthaw_nil, vwrites_nil, List.getD_cons_zero, List.length_nil, vbin_int, ↓vbox_free, cellsOk_free, cellF, abin_eql, abin_geq, beq_self_eq_true, ge_iff_le, decide_true, decide_false, beq_self_eq_true, bb_ft, ibeq, Int.reduceEq, Int.reduceNeg, vld3, vfp75_0, vls46, ↓vfk71, Tryd.results52, List.length_map, h1, ↓single_c hX1 c d d' l hl] <;> simp [fitsF, h1]
    · by_cases n3 : n = -3
      · subst n3
        by_cases h1 : (l.length : Int) = 2
        · have h2 : l.length = 2 := by omega
          have hs := fun S K => single_c (S := S) (K := K) hX1 (c && (l.map (RW.v d')).isEmpty) d d' (l.take 1) (by rw [List.length_take]; omega)
          rw [List.map_take] at hs
          simp -dsimp only [↓Hold_5, ↓VWP_seq, ↓VWP_region, ↓VWP_cond, ↓VWP_ret, ↓VWP_block, ↓VReg_one, ↓VReg_nil, ↓VS_guard, ↓VS_move, ↓VS_assign, ↓VS_pick, ↓VS_load, ↓VS_binOp, ↓VS_slice, ↓VS_fieldAddr, ↓VS_len, ↓VS_box, ↓With_guard, ↓Hold_1, With_some, emap_nil, ↓eget_eset, ↓ae_tmp, ↓ae_int, ↓ae_bool, eget_zero, eget_succ, lop_pick, asBool_bool, asGuard_bool, ayielded_eq, ↓dstAt_zero, ↓dstAt_succ, ↓vfinish_ret, ↓vres_nil, ↓vres_tmp, vtell_eq, ret1, Option.map_some, Option.bind_some, Option.map_none, ↓reduceIte, Nat.reduceEqDiff, Bool.false_eq_true, decide_false, Bool.not_false, List.getElem?_cons_zero, Nat.add_zero, true_and, and_self, List.map_cons, List.map_nil, List.all_cons, List.all_nil, tup_int, tup_bool, tup_func, tup_agg, cel_agg, List.drop_zero, List.toList_toArray, List.length_nil, mapOwn_bool, toksL_nil, toksL_cons, toks_int, toks_bool, toks_clo, okv_clo, okv_bool, okv_int, List.flatMap_nil, List.all_nil, List.all_cons, List.append_nil, List.nil_append, List.map_nil, List.map_cons, Bool.and_self, Bool.not_false, beq_self_eq_true, vnext_mk, vpush_mk, vget_nil, cellsIn_mk, vthaw_nil, vwrites_nil, List.getD_cons_zero, List.length_nil, List.drop_zero, vbin_int, ↓vbox_free, cellsOk_free, cellF, abin_eql, beq_self_eq_true, Int.reduceLE, Int.reduceToNat, Int.reduceSub, decide_false, beq_self_eq_true, ibeq, Int.reduceEq, Int.reduceNeg, abound_none, abound_some, vld3, vfp75_0, vcs46, vls46, ↓vfk71, Tryd.results52, List.length_map, h1, ↓hs]
          simp [fitsF, h1]
        · simp -dsimp only [↓VWP_seq, ↓VWP_region, ↓VWP_cond, ↓VWP_ret, ↓VWP_block, ↓VReg_one, ↓VReg_nil, ↓VS_guard, ↓VS_move, ↓VS_assign, ↓VS_pick, ↓VS_load, ↓VS_binOp, ↓VS_fieldAddr, ↓VS_len, ↓VS_box, ↓With_guard, ↓Hold_1, With_some, emap_nil, ↓eget_eset, ↓ae_tmp, ↓ae_int, ↓ae_bool, eget_zero, eget_succ, lop_pick, asBool_bool, asGuard_bool, bb_ft, ayielded_eq, ↓dstAt_zero, ↓dstAt_succ, ↓vfinish_ret, ↓vres_nil, ↓vres_tmp, vtell_eq, ret1, Option.map_some, Option.bind_some, ↓reduceIte, Nat.reduceEqDiff, Bool.false_eq_true, decide_false, Bool.not_false, List.getElem?_cons_zero, Nat.add_zero, true_and, List.all_cons, List.all_nil, tup_int, tup_bool, tup_func, tup_agg, cel_agg, List.toList_toArray, List.length_nil, mapOwn_bool, toksL_nil, toksL_cons, toks_int, toks_bool, toks_clo, okv_clo, okv_bool, okv_int, List.flatMap_nil, List.all_nil, List.all_cons, List.append_nil, List.nil_append, Bool.and_self, Bool.not_false, beq_self_eq_true, vnext_mk, vpush_mk, vget_nil, cellsIn_mk, vthaw_nil, vwrites_nil, List.getD_cons_zero, List.length_nil, vbin_int, ↓vbox_free, cellsOk_free, cellF, abin_eql, beq_self_eq_true, decide_false, beq_self_eq_true, bb_ft, ibeq, Int.reduceEq, Int.reduceNeg, vld3, vfp75_0, vls46, Tryd.results52, List.length_map, h1]
          simp [fitsF, h1]
      · by_cases h1 : (l.length : Int) = n <;> simp -dsimp only [↓Hold_5, ↓VWP_seq, ↓VWP_region, ↓VWP_cond, ↓VWP_ret, ↓VWP_skip, ↓VWP_block, ↓VReg_one, ↓VReg_nil, ↓VS_guard, ↓VS_move, ↓VS_assign, ↓VS_pick, ↓VS_load, ↓VS_binOp, ↓VS_fieldAddr, ↓VS_len, ↓VS_box, ↓With_guard, ↓Hold_1, With_some, emap_nil, ↓eget_eset, ↓ae_tmp, ↓ae_int, ↓ae_bool, eget_zero, eget_succ, lop_pick, asBool_bool, asGuard_bool, bb_ft, ayielded_eq, ↓dstAt_zero, ↓dstAt_succ, ↓vfinish_ret, ↓vres_nil, ↓vres_tmp, vtell_eq, ret1, Option.map_some, Option.bind_some, ↓reduceIte, Nat.reduceEqDiff, Bool.false_eq_true, decide_false, Bool.not_false, List.getElem?_cons_zero, Nat.add_zero, true_and, List.map_cons, List.map_nil, List.all_cons, List.all_nil, tup_int, tup_bool, tup_func, tup_agg, cel_agg, List.toList_toArray, List.length_nil, mapOwn_bool, toksL_nil, toksL_cons, toks_int, toks_bool, toks_clo, okv_clo, okv_bool, okv_int, List.flatMap_nil, List.all_nil, List.all_cons, List.append_nil, List.nil_append, List.map_nil, List.map_cons, Bool.and_self, Bool.not_false, beq_self_eq_true, vnext_mk, vpush_mk, vget_nil, cellsIn_mk, vthaw_nil, vwrites_nil, List.getD_cons_zero, List.length_nil, vbin_int, ↓vbox_free, cellsOk_free, cellF, abin_eql, beq_self_eq_true, decide_false, beq_self_eq_true, bb_ft, ibeq, Int.reduceNeg, vld3, vfp75_0, vls46, ↓vfk71, Tryd.results52, List.length_map, n1, n2, n3, h1, ↓single_c hX1 c d d' l hl] <;> simp [fitsF, n1, n2, n3, h1]
end
end Go.Proofs.YtmdpggecelheoaaDoor.Abs
/- A call of a function by its name. -/
set_option linter.unusedVariables false
set_option linter.unusedSimpArgs false
set_option maxRecDepth 4000
set_option maxHeartbeats 0
namespace Go.Proofs.YtmdpggecelheoaaDoor.Abs
open Go
attribute [local irreducible] Hold VReg Vf Vc VWP With VStp Vcallee Vp VE
def fixV (x : VV) : VV := if rightF x then x else eV 3
def flatF (rs : List RW) : List VV := rs.flatMap fun r => r.l.map fixV
theorem flatF_take (rs : List RW) (i : Nat) (h : i < rs.length) : flatF (rs.take (i + 1)) = flatF (rs.take i) ++ rs[i].l.map fixV := by
  rw [← List.take_append_getElem h]
  unfold flatF
  rw [List.flatMap_append, List.flatMap_cons, List.flatMap_nil, List.append_nil]
theorem flatF_len (rs : List RW) (i : Nat) (h : i < rs.length) : (flatF (rs.take i)).length + rs[i].l.length ≤ (flatF rs).length := by
  have e : rs = rs.take (i + 1) ++ rs.drop (i + 1) := by simp
  have h2 : (flatF rs).length = (flatF (rs.take (i + 1))).length + (flatF (rs.drop (i + 1))).length := by
    conv => lhs; rw [e]
    unfold flatF
    rw [List.flatMap_append, List.length_append]
  rw [flatF_take rs i h] at h2
  simp at h2
  omega
theorem fix_take (l : List VV) (i : Nat) (h : i < l.length) : (l.take (i + 1)).map fixV = (l.take i).map fixV ++ [fixV l[i]] := by
  rw [← List.take_append_getElem h, List.map_append]
  rfl
def callF (n : Int) (lazy : Bool) (g : List VV → VV) (rs : List RW) : VV := if fitsF n rs then (if (firstF (flatF rs)).2 && !lazy then (firstF (flatF rs)).1 else g (flatF rs)) else eV 6
section
variable {X : VOuter}
theorem fits_c (hX : X 52 = none) (hX1 : X 71 = none) (n : Int) (b : Bool) (g : FuncId) (c : Bool) (d d' : Nat) (l : List RW) (hl : l.length ≤ 1000000000) {S : VH} {K : VCont} : Vcallee Tryd.prog X 52 [.agg ⟨[.int .i64 n, .bool b, .func (.func g) #[] #[]]⟩, sl c d 1 (l.map (RW.v d'))] S K = K (.bool (fitsF n l)) [] S [] false :=
  Vcallee_of (fits_p hX hX1 n b g c d d' l hl) (by simp only [mapOwnL_cons, mapOwnL_nil, lend_sl]; rfl) (by simp only [okvL_cons, okvL_nil, okv_sl, Bool.and_true]; rfl) rfl
theorem first_c (h : AOff X) (c : Bool) (t : Nat) (l : List VV) (hl : l.length ≤ 1000000000) {S : VH} {K : VCont} : Vcallee Tryd.prog X 54 [ol c (t, none) 3 (l.map VV.v)] S K = K (.tuple ⟨[.agg ⟨[.int .i64 (firstF l).1.k, .int .i64 (firstF l).1.n, .string (firstF l).1.s]⟩, .bool (firstF l).2]⟩) [] S [] false :=
  Vcallee_of (first_p h.first h.right h.err c 1 l hl) (by simp only [mapOwnL_cons, mapOwnL_nil, lend_ol]) (by simp only [okvL_cons, okvL_nil, okv_sl, Bool.and_true]) (by simp only [okv_tuple, List.all_cons, List.all_nil, okv_agg, okv_int, okv_string, okv_bool, Bool.and_true])
theorem call_p (h : AOff X) (hX : X 33 = none) (hX1 : X 52 = none) (hX2 : X 71 = none) (name : ByteArray) (n : Int) (lazy : Bool) (g : FuncId) (G : List VV → VV)
    (hfind : ∀ S K, Vcallee Tryd.prog X 50 [.string name] S K = K (.tuple ⟨[.agg ⟨[.int .i64 n, .bool lazy, .func (.func g) #[] #[]]⟩, .bool true]⟩) [] S [] false)
    (hg : funcOk Tryd.prog g = true) (c : Bool) (d d' : Nat) (rs : List RW) (hl : rs.length ≤ 1000000000) (hl2 : (flatF rs).length ≤ 1000000000)
    (hG : ∀ c S K, Vcallee Tryd.prog X g [ol c (46, none) 3 ((flatF rs).map VV.v)] S K = K (.agg ⟨[.int .i64 (G (flatF rs)).k, .int .i64 (G (flatF rs)).n, .string (G (flatF rs)).s]⟩) [] S [] false) : Vp Tryd.prog X 33 [.string name, sl c d 1 (rs.map (RW.v d'))] (callF n lazy G rs).v := by
  unfold Vp
  refine Vf_text hX Tryd.func33 rfl (by kernel_rfl) (by show 2 ≤ _; decide) ?_
  cases hf : fitsF n rs
  · simp -dsimp only [↓Hold_5, ↓VWP_seq, ↓VWP_region, ↓VWP_cond, ↓VWP_ret, ↓VWP_skip, ↓VReg_one, ↓VReg_non, ↓VReg_nil, ↓VS_move, ↓VS_assign, ↓VS_load, ↓VS_unOp, ↓VS_extract, ↓VS_store, ↓With_bindH, ↓With_guard, ↓Hold_1, With_some, emap_nil, ↓eget_eset, ↓ae_tmp, ↓ae_int, eget_zero, eget_succ, lop_extract, lop_not, asBool_bool, ↓vfinish_ret, ↓vres_nil, ↓vres_cell, vtell_eq, ret1, Option.map_some, ↓reduceIte, Nat.reduceEqDiff, reduceCtorEq, Bool.false_eq_true, decide_false, Bool.not_true, Bool.not_false, List.getElem?_toArray, List.getElem?_cons_zero, List.getElem?_cons_succ, Nat.zero_add, Nat.add_zero, Nat.reduceAdd, Nat.reduceLT, Nat.reduceLeDiff, true_and, and_self, List.map_cons, List.map_nil, List.all_cons, List.all_nil, tup_int, tup_bool, tup_str, tup_func, tup_agg, cel_agg, List.drop_zero, List.toList_toArray, List.size_toArray, List.length_cons, List.length_nil, mapOwn_agg, mapOwn_int, mapOwn_string, toksL_nil, toksL_cons, toks_int, toks_bool, toks_string, toks_agg, toks_clo, okv_agg, okv_clo, okv_bool, okv_int, okv_string, List.flatMap_nil, List.flatMap_cons, List.all_nil, List.all_cons, List.append_nil, List.nil_append, List.cons_append, List.map_nil, List.map_cons, Bool.and_self, Bool.not_true, Bool.not_false, beq_self_eq_true, vnext_mk, vpush_mk, vget_nil, vput_nil, cellsIn_mk, vthaw_nil, vwrites_nil, List.getD_cons_zero, List.getD_cons_succ, List.set_cons_zero, List.set_cons_succ, List.length_cons, List.length_nil, List.drop_zero, List.take_succ_cons, List.take_zero, ↓vlay_free, cellsOk_free, cellF, beq_self_eq_true, decide_false, beq_self_eq_true, setAll_whole, vld75, vld48, vst75, vst48, ↓val48, ↓val75, ↓vfk50, ↓vfk51, ↓vfk52, Tryd.results33, ↓hfind, ↓fits_c hX1 hX2 n lazy g c d d' rs hl, hf, ↓err_c h.err]
    simp [callF, hf, eV, VV.v]
  · simp -dsimp only [↓Hold_5, ↓VWP_seq, ↓VWP_region, ↓VWP_cond, ↓VWP_skip, ↓VWP_block, ↓VWP_loop, ↓VReg_one, ↓VReg_non, ↓VReg_nil, ↓VS_move, ↓VS_assign, ↓VS_load, ↓VS_unOp, ↓VS_extract, ↓VS_len, ↓VS_store, ↓Hold_1, With_some, emap_nil, ↓eget_eset, ↓ae_tmp, ↓ae_int, ↓ae_slice0, eget_zero, eget_succ, lop_extract, lop_not, asBool_bool, ↓reduceIte, Nat.reduceEqDiff, reduceCtorEq, Bool.false_eq_true, decide_false, Bool.not_true, Bool.not_false, List.getElem?_toArray, List.getElem?_cons_zero, List.getElem?_cons_succ, Nat.zero_add, Nat.add_zero, Nat.reduceAdd, Nat.reduceLT, Nat.reduceLeDiff, and_self, List.map_cons, List.map_nil, List.all_cons, List.all_nil, tup_int, tup_bool, tup_func, tup_agg, cel_agg, List.drop_zero, List.toList_toArray, List.size_toArray, List.length_cons, List.length_nil, toksL_nil, toksL_cons, toks_int, toks_bool, toks_clo, okv_clo, okv_bool, okv_int, List.flatMap_nil, List.all_nil, List.all_cons, List.append_nil, List.nil_append, List.cons_append, List.map_nil, List.map_cons, Bool.and_self, Bool.not_true, Bool.not_false, beq_self_eq_true, vnext_mk, vpush_mk, vget_nil, vput_nil, cellsIn_mk, List.getD_cons_zero, List.getD_cons_succ, List.set_cons_zero, List.set_cons_succ, List.length_cons, List.length_nil, List.drop_zero, List.take_succ_cons, List.take_zero, ↓vlay_free, cellsOk_free, cellF, beq_self_eq_true, decide_false, beq_self_eq_true, setAll_whole, vld75, vst75, ↓val48, ↓val75, vls46, ↓vfk50, ↓vfk52, ↓hfind, ↓fits_c hX1 hX2 n lazy g c d d' rs hl, hf, List.length_map]
    refine Vc_loop (fun m e S => ∃ i : Nat, m = rs.length - i ∧ i ≤ rs.length ∧ eget e 27 = sl c d 1 (rs.map (RW.v d')) ∧ eget e 28 = .int .i64 rs.length ∧ eget e 29 = .int .i64 i ∧ eget e 4 = .pointer (some { block := 0, off := 0 }) ∧ eget e 5 = .pointer (some { block := 1, off := 0 }) ∧ eget e 7 = ol true (46, none) 3 ((flatF (rs.take i)).map VV.v) ∧ ∃ J, S = ⟨[], .cells true 48 [.int .i64 0, .int .i64 0, .string .empty] :: .cells true 75 [.int .i64 n, .bool lazy, .func (.func g) #[] #[]] :: J, []⟩) rs.length ?_ ?_
    · refine ⟨0, rfl, Nat.zero_le _, ?_, ?_, ?_, ?_, ?_, ?_, [], rfl⟩ <;> simp only [↓eget_eset, ↓reduceIte, Nat.reduceEqDiff] <;> rfl
    · rintro m e S ⟨i, rfl, hi, e27, e28, e29, e4, e5, e7, J, rfl⟩
      refine VWP_Vc _ _ _ _ ?_
      by_cases hin : i < rs.length
      · have hlt : (i : Int) < rs.length := by omega
        have h0 : (0 : Int) ≤ i := by omega
        have hx : (rs.map (RW.v d'))[i]? = some (rs[i].v d') := by simp [hin]
        have ht := flatF_take rs i hin
        have hlen := flatF_len rs i hin
        have hnum : ((i : Int) + 1) = ((i + 1 : Nat) : Int) := by omega
        have hwr : IntKind.i64.wrap ((i : Int) + 1) = ((i + 1 : Nat) : Int) := by rw [hnum]; exact wrap_id (by omega) (by omega)
        generalize rs[i] = x at hx ht hlen
        obtain ⟨c', l⟩ := x
        simp only [RW.v] at hx
        dsimp only at ht hlen
        generalize flatF (rs.take i) = N at e7 ht hlen
        simp -dsimp only [cellV_sl, ↓VWP_seq, ↓VWP_region, ↓VWP_cond, ↓VWP_skip, ↓VWP_block, ↓VWP_loop, ↓VReg_one, ↓VReg_nil, ↓VS_move, ↓VS_assign, ↓VS_load, ↓VS_binOp, ↓VS_indexAddr, ↓VS_len, ↓Hold_1, With_some, emap_nil, ↓eget_eset, ↓ae_tmp, ↓ae_int, asBool_bool, Option.map_some, ↓reduceIte, Nat.reduceEqDiff, decide_true, vload_at, vbin_int, abin_lss, Int.toNat_natCast, decide_true, vgt42, vis46, vls42, e27, e28, e29, hlt, h0, hx, List.length_map]
        refine Vc_loop (fun m e S => ∃ j : Nat, m = l.length - j ∧ j ≤ l.length ∧ eget e 33 = sl c' d' 3 (l.map VV.v) ∧ eget e 34 = .int .i64 l.length ∧ eget e 35 = .int .i64 j ∧ eget e 27 = sl c d 1 (rs.map (RW.v d')) ∧ eget e 28 = .int .i64 rs.length ∧ eget e 29 = .int .i64 i ∧ eget e 4 = .pointer (some { block := 0, off := 0 }) ∧ eget e 5 = .pointer (some { block := 1, off := 0 }) ∧ eget e 7 = ol true (46, none) 3 ((N ++ (l.take j).map fixV).map VV.v) ∧ ∃ J, S = ⟨[], .cells true 48 [.int .i64 0, .int .i64 0, .string .empty] :: .cells true 75 [.int .i64 n, .bool lazy, .func (.func g) #[] #[]] :: J, []⟩) l.length ?_ ?_
        · refine ⟨0, rfl, Nat.zero_le _, ?_, ?_, ?_, ?_, ?_, ?_, ?_, ?_, ?_, _, rfl⟩ <;> simp only [↓eget_eset, ↓reduceIte, Nat.reduceEqDiff, e27, e28, e29, e4, e5, e7, List.take_zero, List.map_nil, List.append_nil] <;> rfl
        · rintro m e S ⟨j, rfl, hj, e33, e34, e35, e27, e28, e29, e4, e5, e7, J, rfl⟩
          refine VWP_Vc _ _ _ _ ?_
          by_cases hjn : j < l.length
          · have hlt : (j : Int) < l.length := by omega
            have h0 : (0 : Int) ≤ j := by omega
            have hx : (l.map VV.v)[j]? = some l[j].v := by simp [hjn]
            have ht := fix_take l j hjn
            have hnum : ((j : Int) + 1) = ((j + 1 : Nat) : Int) := by omega
            have hwr : IntKind.i64.wrap ((j : Int) + 1) = ((j + 1 : Nat) : Int) := by rw [hnum]; exact wrap_id (by omega) (by omega)
            have hm : (l.take j).length = j := by rw [List.length_take]; omega
            generalize l[j] = x at hx ht
            obtain ⟨k, m, s⟩ := x
            simp only [VV.v] at hx
            cases hr : rightF ⟨k, m, s⟩
            · simp -dsimp only [↓Hold_5, thaw_sl, thaw_ol, growT_sl, vgrow_ol, ↓VWP_seq, ↓VWP_region, ↓VWP_cond, ↓VWP_skip, ↓VWP_block, ↓VReg_one, ↓VReg_non, ↓VReg_nil, ↓VS_move, ↓VS_assign, ↓VS_load, ↓VS_binOp, ↓VS_unOp, ↓VS_indexAddr, ↓VS_buildSlice, ↓VS_store, ↓VS_append, ↓With_guard, ↓Hold_1, With_some, emap_nil, emap_cons, ↓eget_map, ↓eget_eset, ↓ae_tmp, ↓ae_int, lop_not, asBool_bool, Option.map_some, Option.bind_some, ↓reduceIte, Nat.reduceEqDiff, decide_true, Bool.not_false, Nat.zero_add, Nat.reduceAdd, Nat.reduceMul, Nat.reduceLT, Nat.reduceLeDiff, and_true, true_and, and_self, List.map_cons, List.map_nil, List.all_cons, List.all_nil, tup_int, tup_str, tup_agg, cel_agg, List.drop_zero, List.toList_toArray, List.size_toArray, List.length_cons, List.length_nil, mapOwn_agg, mapOwn_int, mapOwn_string, mapOwn_pointer, toksL_nil, toksL_cons, toks_int, toks_string, toks_agg, okv_agg, okv_int, okv_string, List.flatMap_nil, List.flatMap_cons, List.all_nil, List.all_cons, List.append_nil, List.cons_append, List.map_nil, List.map_cons, Bool.and_self, Bool.not_false, List.mem_cons, List.not_mem_nil, or_false, Prod.mk.injEq, beq_self_eq_true, vnext_mk, vpush_mk, vget_nil, vput_nil, cellsIn_mk, vturn_nil, vthaw_one, boxesOf_nil, List.getD_cons_zero, List.getD_cons_succ, List.set_cons_zero, List.set_cons_succ, List.length_cons, List.length_nil, List.drop_zero, List.take_succ_cons, List.take_zero, getD_app0, set_app0, List.length_append, vload_at, aggV_agg, velems_own, partsOk_nil, partsOk_cons, vfill_nil, vfill_cons, vbin_int, ↓vlay_free, cellsOk_free, cellF, List.replicate_succ, List.replicate_zero, abin_lss, abin_add, beq_self_eq_true, Int.toNat_natCast, decide_true, beq_self_eq_true, setAll_whole, vld48, vgt48, vst48, ↓val48, vbd42, vis42, vap42, ↓vfk51, ↓vfk53, e27, e28, e29, e33, e34, e35, e4, e5, e7, hlt, h0, hx, List.length_map, ↓valright_c h.right, hr, ↓err_c h.err]
              exact ⟨⟨by omega, by omega⟩, l.length - (j + 1), by omega, j + 1, rfl, by omega, by rw [hwr], by rw [ht]; simp [fixV, hr, eV, VV.v], _, rfl⟩
            · simp -dsimp only [↓Hold_5, thaw_sl, thaw_ol, growT_sl, vgrow_ol, ↓VWP_seq, ↓VWP_region, ↓VWP_cond, ↓VWP_skip, ↓VWP_block, ↓VReg_one, ↓VReg_non, ↓VReg_nil, ↓VS_move, ↓VS_assign, ↓VS_load, ↓VS_binOp, ↓VS_unOp, ↓VS_indexAddr, ↓VS_buildSlice, ↓VS_store, ↓VS_append, ↓With_guard, ↓Hold_1, With_some, emap_nil, emap_cons, ↓eget_map, ↓eget_eset, ↓ae_tmp, ↓ae_int, lop_not, asBool_bool, Option.map_some, Option.bind_some, ↓reduceIte, Nat.reduceEqDiff, Bool.false_eq_true, decide_true, Bool.not_true, Bool.not_false, Nat.zero_add, Nat.reduceAdd, Nat.reduceMul, Nat.reduceLT, Nat.reduceLeDiff, and_true, true_and, and_self, List.map_cons, List.map_nil, List.all_cons, List.all_nil, tup_int, tup_str, tup_agg, cel_agg, List.drop_zero, List.toList_toArray, List.size_toArray, List.length_cons, List.length_nil, mapOwn_agg, mapOwn_int, mapOwn_string, mapOwn_pointer, toksL_nil, toksL_cons, toks_int, toks_string, toks_agg, okv_agg, okv_int, okv_string, List.flatMap_nil, List.flatMap_cons, List.all_nil, List.all_cons, List.append_nil, List.cons_append, List.map_nil, List.map_cons, Bool.and_self, Bool.not_true, Bool.not_false, List.mem_cons, List.not_mem_nil, or_false, Prod.mk.injEq, beq_self_eq_true, vnext_mk, vpush_mk, vget_nil, vput_nil, cellsIn_mk, vturn_nil, vthaw_one, boxesOf_nil, List.getD_cons_zero, List.getD_cons_succ, List.set_cons_zero, List.set_cons_succ, List.length_cons, List.length_nil, List.drop_zero, List.take_succ_cons, List.take_zero, getD_app0, set_app0, List.length_append, vload_at, aggV_agg, velems_own, partsOk_nil, partsOk_cons, vfill_nil, vfill_cons, vbin_int, ↓vlay_free, cellsOk_free, cellF, List.replicate_succ, List.replicate_zero, abin_lss, abin_add, beq_self_eq_true, Int.toNat_natCast, decide_true, beq_self_eq_true, setAll_whole, vld48, vgt48, vst48, ↓val48, vbd42, vis42, vap42, ↓vfk53, e27, e28, e29, e33, e34, e35, e4, e5, e7, hlt, h0, hx, List.length_map, ↓valright_c h.right, hr]
              exact ⟨⟨by omega, by omega⟩, l.length - (j + 1), by omega, j + 1, rfl, by omega, by rw [hwr], by rw [ht]; simp [fixV, hr, VV.v], _, rfl⟩
          · obtain rfl : j = l.length := by omega
            have hlt : ¬ ((l.length : Int) < l.length) := by omega
            simp -dsimp only [↓VWP_seq, ↓VWP_region, ↓VWP_cond, ↓VWP_exit, ↓VReg_one, ↓VReg_nil, ↓VS_move, ↓VS_binOp, ↓Hold_1, ↓Hold_3, With_some, emap_nil, ↓eget_eset, ↓ae_tmp, ↓ae_int, asBool_bool, ↓reduceIte, Nat.reduceEqDiff, Bool.false_eq_true, decide_false, true_and, vbin_int, abin_lss, abin_add, decide_false, e27, e28, e29, e34, e35, e4, e5, e7, hlt, List.take_length]
            have hnum : ((i : Int) + 1) = ((i + 1 : Nat) : Int) := by omega
            have hwr : IntKind.i64.wrap ((i : Int) + 1) = ((i + 1 : Nat) : Int) := by rw [hnum]; exact wrap_id (by omega) (by omega)
            exact ⟨rs.length - (i + 1), by omega, i + 1, rfl, by omega, by rw [hwr], by rw [ht], _, rfl⟩
      · obtain rfl : i = rs.length := by omega
        have hlt : ¬ ((rs.length : Int) < rs.length) := by omega
        rw [List.take_length] at e7
        cases h1 : (firstF (flatF rs)).2
        · simp -dsimp only [↓Hold_5, ↓VWP_seq, ↓VWP_region, ↓VWP_cond, ↓VWP_ret, ↓VWP_skip, ↓VWP_exit, ↓VReg_one, ↓VReg_non, ↓VReg_nil, ↓VS_guard, ↓VS_move, ↓VS_assign, ↓VS_pick, ↓VS_load, ↓VS_binOp, ↓VS_fieldAddr, ↓VS_extract, ↓VS_store, ↓VS_callv, ↓With_bindH, ↓With_guard, ↓Hold_1, ↓Hold_3, With_some, emap_nil, ↓eget_eset, ↓ae_tmp, ↓ae_bool, lop_pick, lop_extract, asBool_bool, asGuard_bool, bb_ft, ayielded_eq, ↓dstAt_zero, ↓dstAt_succ, ↓vfinish_ret, ↓vres_nil, ↓vres_cell, vtell_eq, ret1, Option.map_some, Option.bind_some, ↓reduceIte, Nat.reduceEqDiff, Bool.false_eq_true, decide_false, Bool.not_false, List.getElem?_toArray, List.getElem?_cons_zero, List.getElem?_cons_succ, Nat.zero_add, Nat.reduceAdd, Nat.reduceLT, Nat.reduceLeDiff, true_and, and_self, List.map_cons, List.map_nil, List.all_cons, List.all_nil, tup_int, tup_str, tup_agg, cel_agg, List.drop_zero, List.toList_toArray, List.size_toArray, List.length_cons, List.length_nil, mapOwn_agg, mapOwn_int, mapOwn_string, toksL_nil, toksL_cons, toks_int, toks_string, toks_agg, okv_agg, okv_int, okv_string, List.flatMap_nil, List.flatMap_cons, List.all_nil, List.all_cons, List.append_nil, List.nil_append, List.cons_append, List.map_nil, List.map_cons, Bool.and_self, Bool.not_false, beq_self_eq_true, vnext_mk, vpush_mk, vget_nil, vput_nil, cellsIn_mk, vthaw_nil, vwrites_nil, List.getD_cons_zero, List.getD_cons_succ, List.set_cons_zero, List.set_cons_succ, List.length_cons, List.length_nil, List.drop_zero, List.take_succ_cons, List.take_zero, getD_app0, set_app0, List.length_append, vbin_int, ↓vlay_free, cellsOk_free, cellF, asClo_fun, abin_lss, beq_self_eq_true, decide_false, beq_self_eq_true, bb_ft, setAll_whole, vld48, vld73, vst48, ↓val48, vfp75_2, ↓vfk54, Tryd.results33, e28, e29, e4, e5, e7, hlt, ↓first_c h true 46 (flatF rs) hl2, h1, asClo_fun, hg, ↓hG]
          simp [callF, hf, h1, VV.v]
        · cases lazy
          · simp -dsimp only [↓Hold_5, ↓VWP_seq, ↓VWP_region, ↓VWP_cond, ↓VWP_ret, ↓VWP_exit, ↓VReg_one, ↓VReg_non, ↓VReg_nil, ↓VS_guard, ↓VS_move, ↓VS_assign, ↓VS_pick, ↓VS_load, ↓VS_binOp, ↓VS_unOp, ↓VS_fieldAddr, ↓VS_extract, ↓VS_store, ↓With_bindH, ↓With_guard, ↓Hold_1, ↓Hold_3, With_some, emap_nil, ↓eget_eset, ↓ae_tmp, lop_pick, lop_extract, lop_not, asBool_bool, asGuard_bool, ayielded_eq, ↓dstAt_zero, ↓dstAt_succ, ↓vfinish_ret, ↓vres_nil, ↓vres_cell, vtell_eq, ret1, Option.map_some, Option.bind_some, ↓reduceIte, Nat.reduceEqDiff, Bool.false_eq_true, decide_false, Bool.not_false, List.getElem?_toArray, List.getElem?_cons_zero, List.getElem?_cons_succ, Nat.zero_add, Nat.reduceAdd, Nat.reduceLT, Nat.reduceLeDiff, true_and, and_self, List.map_cons, List.map_nil, List.all_cons, List.all_nil, tup_int, tup_str, tup_agg, cel_agg, List.drop_zero, List.toList_toArray, List.size_toArray, List.length_cons, List.length_nil, mapOwn_agg, mapOwn_int, mapOwn_string, toksL_nil, toksL_cons, toks_int, toks_string, toks_agg, okv_agg, okv_int, okv_string, List.flatMap_nil, List.flatMap_cons, List.all_nil, List.all_cons, List.append_nil, List.cons_append, List.map_nil, List.map_cons, Bool.and_self, Bool.not_false, beq_self_eq_true, vnext_mk, vpush_mk, vget_nil, vput_nil, cellsIn_mk, vthaw_nil, vwrites_nil, List.getD_cons_zero, List.getD_cons_succ, List.set_cons_zero, List.set_cons_succ, List.length_cons, List.length_nil, List.drop_zero, List.take_succ_cons, List.take_zero, getD_app0, set_app0, List.length_append, vbin_int, ↓vlay_free, cellsOk_free, cellF, abin_lss, beq_self_eq_true, decide_false, beq_self_eq_true, setAll_whole, vld48, vld4, vst48, ↓val48, vfp75_1, ↓vfk54, Tryd.results33, e28, e29, e4, e5, e7, hlt, ↓first_c h true 46 (flatF rs) hl2, h1]
            simp [callF, hf, h1, VV.v]
          · simp -dsimp only [↓Hold_5, ↓VWP_seq, ↓VWP_region, ↓VWP_cond, ↓VWP_ret, ↓VWP_skip, ↓VWP_exit, ↓VReg_one, ↓VReg_non, ↓VReg_nil, ↓VS_guard, ↓VS_move, ↓VS_assign, ↓VS_pick, ↓VS_load, ↓VS_binOp, ↓VS_unOp, ↓VS_fieldAddr, ↓VS_extract, ↓VS_store, ↓VS_callv, ↓With_bindH, ↓With_guard, ↓Hold_1, ↓Hold_3, With_some, emap_nil, ↓eget_eset, ↓ae_tmp, lop_pick, lop_extract, lop_not, asBool_bool, asGuard_bool, ayielded_eq, ↓dstAt_zero, ↓dstAt_succ, ↓vfinish_ret, ↓vres_nil, ↓vres_cell, vtell_eq, ret1, Option.map_some, Option.bind_some, ↓reduceIte, Nat.reduceEqDiff, Bool.false_eq_true, decide_false, Bool.not_true, Bool.not_false, List.getElem?_toArray, List.getElem?_cons_zero, List.getElem?_cons_succ, Nat.zero_add, Nat.reduceAdd, Nat.reduceLT, Nat.reduceLeDiff, true_and, and_self, List.map_cons, List.map_nil, List.all_cons, List.all_nil, tup_int, tup_str, tup_agg, cel_agg, List.drop_zero, List.toList_toArray, List.size_toArray, List.length_cons, List.length_nil, mapOwn_agg, mapOwn_int, mapOwn_string, toksL_nil, toksL_cons, toks_int, toks_string, toks_agg, okv_agg, okv_int, okv_string, List.flatMap_nil, List.flatMap_cons, List.all_nil, List.all_cons, List.append_nil, List.nil_append, List.cons_append, List.map_nil, List.map_cons, Bool.and_self, Bool.not_true, Bool.not_false, beq_self_eq_true, vnext_mk, vpush_mk, vget_nil, vput_nil, cellsIn_mk, vthaw_nil, vwrites_nil, List.getD_cons_zero, List.getD_cons_succ, List.set_cons_zero, List.set_cons_succ, List.length_cons, List.length_nil, List.drop_zero, List.take_succ_cons, List.take_zero, getD_app0, set_app0, List.length_append, vbin_int, ↓vlay_free, cellsOk_free, cellF, asClo_fun, abin_lss, beq_self_eq_true, decide_false, beq_self_eq_true, setAll_whole, vld48, vld4, vld73, vst48, ↓val48, vfp75_1, vfp75_2, ↓vfk54, Tryd.results33, e28, e29, e4, e5, e7, hlt, ↓first_c h true 46 (flatF rs) hl2, h1, asClo_fun, hg, ↓hG]
            simp [callF, hf, h1, VV.v]
end
end Go.Proofs.YtmdpggecelheoaaDoor.Abs
/- Parts of a text. -/
set_option linter.unusedVariables false
set_option linter.unusedSimpArgs false
set_option maxRecDepth 4000
set_option maxHeartbeats 0
namespace Go.Proofs.YtmdpggecelheoaaDoor.Abs
open Go
attribute [local irreducible] Hold VReg Vf Vc VWP With VStp Vcallee Vp VE
/-- A text. -/
def tV (s : ByteArray) : VV := ⟨2, 0, s⟩
theorem right_t {s : ByteArray} (h : s.size ≤ 200) : rightF ⟨2, 0, s⟩ = true := by simp [rightF, h]
structure TOff (X : VOuter) : Prop where
  show' : X 105 = none
  text : X 145 = none
  part : X 107 = none
  lefte : X 108 = none
  rgte : X 110 = none
  numbers : X 151 = none
section
variable {X : VOuter}
theorem show_t (h : AOff X) (hX : X 105 = none) (s : ByteArray) (hs : s.size ≤ 200) : Vp Tryd.prog X 105 [.agg ⟨[.int .i64 2, .int .i64 0, .string s]⟩] (.string s) := by
  unfold Vp
  refine Vf_text hX Tryd.func105 rfl (by kernel_rfl) (by show 1 ≤ _; decide) ?_
  simp -dsimp only [↓Hold_5, ↓VWP_seq, ↓VWP_region, ↓VWP_cond, ↓VWP_ret, ↓VWP_skip, ↓VWP_block, ↓VReg_one, ↓VReg_nil, ↓VS_guard, ↓VS_move, ↓VS_assign, ↓VS_pick, ↓VS_load, ↓VS_binOp, ↓VS_unOp, ↓VS_fieldAddr, ↓VS_box, ↓With_guard, ↓Hold_1, With_some, emap_nil, ↓eget_eset, ↓ae_tmp, ↓ae_int, ↓ae_bool, ↓ae_string, eget_zero, lop_pick, lop_not, asBool_bool, asGuard_bool, bb_ft, ayielded_eq, ↓dstAt_zero, ↓dstAt_succ, ↓vfinish_ret, ↓vres_nil, ↓vres_tmp, vtell_eq, ret1, Option.map_some, Option.bind_some, ↓reduceIte, Nat.reduceEqDiff, Bool.false_eq_true, decide_false, Bool.not_true, Bool.not_false, List.getElem?_cons_zero, List.getElem?_cons_succ, Nat.zero_add, Nat.add_zero, Nat.reduceAdd, Nat.reduceLeDiff, and_self, List.map_cons, List.map_nil, List.all_cons, List.all_nil, tup_int, tup_str, tup_agg, cel_agg, List.drop_zero, List.toList_toArray, List.length_cons, List.length_nil, mapOwn_string, toksL_nil, toksL_cons, toks_int, toks_string, okv_int, okv_string, List.all_nil, List.all_cons, List.append_nil, List.nil_append, List.map_nil, List.map_cons, Bool.and_self, Bool.not_true, Bool.not_false, beq_self_eq_true, vnext_mk, vpush_mk, vget_nil, cellsIn_mk, vthaw_nil, vwrites_nil, List.getD_cons_zero, List.length_cons, List.length_nil, List.drop_zero, List.take_succ_cons, List.take_zero, vbin_int, ↓vbox_free, cellsOk_free, cellF, abin_eql, beq_self_eq_true, decide_false, beq_self_eq_true, bb_ft, ibeq, Int.reduceEq, vld48, vld3, vld9, vfp48_0, vfp48_2, ↓vfk53, Tryd.results105, ↓valright_c h.right, right_t hs]
theorem show_c (h : AOff X) (hX : X 105 = none) (s : ByteArray) (hs : s.size ≤ 200) {S : VH} {K : VCont} : Vcallee Tryd.prog X 105 [.agg ⟨[.int .i64 2, .int .i64 0, .string s]⟩] S K = K (.string s) [] S [] false := Vcallee_of (show_t h hX s hs) rfl rfl rfl
theorem text_p (hX : X 145 = none) (s : ByteArray) (hs : s.size ≤ 200) : Vp Tryd.prog X 145 [.string s] (tV s).v := by
  have hl : ¬ (200 : Int) < s.size := by omega
  unfold Vp
  refine Vf_text hX Tryd.func145 rfl (by kernel_rfl) (by show 1 ≤ _; decide) ?_
  simp -dsimp only [↓VWP_seq, ↓VWP_region, ↓VWP_cond, ↓VWP_ret, ↓VWP_skip, ↓VReg_one, ↓VReg_non, ↓VReg_nil, ↓VS_move, ↓VS_build, ↓VS_binOp, ↓VS_len, ↓VS_store, ↓With_bindH, ↓With_guard, ↓Hold_1, With_some, emap_nil, ↓eget_eset, ↓ae_tmp, ↓ae_int, eget_zero, asBool_bool, ↓vfinish_ret, ↓vres_nil, ↓vres_cell, vtell_eq, ret1, Option.map_some, Option.bind_some, ↓reduceIte, Nat.reduceEqDiff, reduceCtorEq, Bool.false_eq_true, decide_false, Bool.not_false, Nat.zero_add, Nat.add_zero, Nat.reduceAdd, Nat.reduceLT, Nat.reduceLeDiff, true_and, and_self, List.map_cons, List.map_nil, List.all_cons, List.all_nil, tup_int, cel_int, tup_str, cel_str, tup_agg, cel_agg, List.drop_zero, List.toList_toArray, List.size_toArray, List.length_cons, List.length_nil, mapOwn_agg, mapOwn_int, mapOwn_string, toksL_nil, toksL_cons, toks_int, toks_string, toks_agg, okv_agg, okv_int, okv_string, List.flatMap_nil, List.flatMap_cons, List.all_nil, List.all_cons, List.append_nil, List.nil_append, List.map_nil, List.map_cons, Bool.and_self, Bool.not_false, beq_self_eq_true, vnext_mk, vpush_mk, vget_nil, vput_nil, cellsIn_mk, vthaw_nil, vwrites_nil, List.getD_cons_zero, List.set_cons_zero, List.set_cons_succ, List.length_cons, List.length_nil, List.drop_zero, List.take_succ_cons, List.take_zero, vbin_int, ↓vlay_free, cellsOk_free, cellF, abin_gtr, beq_self_eq_true, gt_iff_lt, decide_false, beq_self_eq_true, setAll_whole, afill, setAll, vld48, vst48, ↓val48, bd48, pl48_0, pl48_2, vlr9, Tryd.results145, hl]
  rfl
theorem text_c (hX : X 145 = none) (s : ByteArray) (hs : s.size ≤ 200) {S : VH} {K : VCont} : Vcallee Tryd.prog X 145 [.string s] S K = K (.agg ⟨[.int .i64 2, .int .i64 0, .string s]⟩) [] S [] false := Vcallee_of (text_p hX s hs) rfl rfl rfl
theorem nums1 (n : Int) : numsF [⟨1, n, .empty⟩] = ([n], zV, true) := rfl
theorem nums2 (a n : Int) : numsF [⟨1, a, .empty⟩, ⟨1, n, .empty⟩] = ([a, n], zV, true) := rfl
theorem part_p (h : AOff X) (t : TOff X) (c : Bool) (d : Nat) (s : ByteArray) (n : Int) (hs : s.size ≤ 200) (h0 : 0 ≤ n) (g : FuncId) (hgo : funcOk Tryd.prog g = true) (u : ByteArray) (hu : u.size ≤ 200)
    (hg : ∀ S K, Vcallee Tryd.prog X g [.string s, .int .i64 (if (s.size : Int) < n then (s.size : Int) else n)] S K = K (.string u) [] S [] false) :
    Vp Tryd.prog X 107 [sl c d 3 [.agg ⟨[.int .i64 2, .int .i64 0, .string s]⟩, .agg ⟨[.int .i64 1, .int .i64 n, .string .empty]⟩], .func (.func g) ⟨[]⟩ ⟨[]⟩] (tV u).v := by
  have hn : ¬ n < 0 := by omega
  unfold Vp
  refine Vf_text t.part Tryd.func107 rfl (by kernel_rfl) (by show 2 ≤ _; decide) ?_
  simp -dsimp only [↓Hold_5, thaw_sl, ↓VWP_seq, ↓VWP_region, ↓VWP_cond, ↓VWP_ret, ↓VWP_skip, ↓VWP_block, ↓VReg_one, ↓VReg_non, ↓VReg_nil, ↓VS_move, ↓VS_assign, ↓VS_load, ↓VS_binOp, ↓VS_unOp, ↓VS_indexAddr, ↓VS_extract, ↓VS_len, ↓VS_min, ↓VS_buildSlice, ↓VS_store, ↓VS_callv, ↓With_bindH, ↓With_guard, ↓Hold_1, With_some, emap_nil, emap_cons, ↓eget_map, ↓eget_eset, ↓ae_tmp, ↓ae_int, eget_zero, eget_succ, lop_extract, lop_not, asBool_bool, ↓vfinish_ret, ↓vres_nil, ↓vres_cell, vtell_eq, ret1, Option.map_some, ↓reduceIte, Nat.reduceEqDiff, reduceCtorEq, Bool.false_eq_true, decide_true, decide_false, Bool.not_true, Bool.not_false, List.getElem?_toArray, List.getElem?_cons_zero, List.getElem?_cons_succ, Nat.zero_add, Nat.add_zero, Nat.reduceAdd, Nat.reduceMul, Nat.reduceLT, Nat.reduceLeDiff, true_and, and_self, List.map_cons, List.map_nil, List.all_cons, List.all_nil, tup_int, tup_str, tup_agg, cel_agg, List.drop_zero, List.toList_toArray, List.size_toArray, List.length_cons, List.length_nil, mapOwn_agg, mapOwn_clo, mapOwn_int, mapOwn_string, mapOwn_pointer, toksL_nil, toksL_cons, toks_int, toks_string, toks_agg, okv_agg, okv_int, okv_string, List.flatMap_nil, List.flatMap_cons, List.all_nil, List.all_cons, List.append_nil, List.nil_append, List.cons_append, List.map_nil, List.map_cons, Bool.and_self, Bool.not_true, Bool.not_false, beq_self_eq_true, vnext_mk, vpush_mk, vget_nil, vput_nil, cellsIn_mk, vturn_nil, vthaw_one, vthaw_nil, boxesOf_nil, vwrites_nil, List.getD_cons_zero, List.getD_cons_succ, List.set_cons_zero, List.set_cons_succ, List.length_cons, List.length_nil, List.drop_zero, List.take_succ_cons, List.take_zero, vload_at, cellV_int, aggV_agg, partsOk_nil, partsOk_cons, vfill_nil, vfill_cons, vbin_int, ↓vlay_free, cellsOk_free, cellF, asClo_fun, List.replicate_succ, List.replicate_zero, abin_lss, beq_self_eq_true, Int.reduceLE, Int.reduceToNat, decide_true, decide_false, beq_self_eq_true, setAll_whole, vld48, vgt48, vgt3, vst48, ↓val48, vbd42, vis42, vis43, vlr9, ↓vfk151, ↓vfk105, ↓vfk145, Tryd.results107, ↓numbers1_c h t.numbers, nums1, vI, hn, ↓show_c h t.show' s hs, amin_i, asClo_fun, hgo, ↓hg, ↓text_c t.text u hu]
  rfl
theorem part_c (h : AOff X) (t : TOff X) (k : Nat) (s : ByteArray) (n : Int) (hs : s.size ≤ 200) (h0 : 0 ≤ n) (g : FuncId) (hgo : funcOk Tryd.prog g = true) (u : ByteArray) (hu : u.size ≤ 200)
    (hg : ∀ S K, Vcallee Tryd.prog X g [.string s, .int .i64 (if (s.size : Int) < n then (s.size : Int) else n)] S K = K (.string u) [] S [] false) (c : Bool) (d : Nat) {S : VH} {K : VCont} :
    Vcallee Tryd.prog X 107 [sl c d 3 [.agg ⟨[.int .i64 2, .int .i64 0, .string s]⟩, .agg ⟨[.int .i64 1, .int .i64 n, .string .empty]⟩], .func (.func g) ⟨[]⟩ ⟨[]⟩] S K = K (.agg ⟨[.int .i64 2, .int .i64 0, .string u]⟩) [] S [] false :=
  Vcallee_of (part_p h t c d s n hs h0 g hgo u hu hg) (by simp only [mapOwnL_cons, mapOwnL_nil, lend_sl]; rfl) (by simp only [okvL_cons, okvL_nil, okv_sl, Bool.and_true]; rfl) rfl
theorem lefte_c (hX : X 108 = none) (s : ByteArray) (m : Int) (h0 : 0 ≤ m) (h1 : m ≤ s.size) {S : VH} {K : VCont} : Vcallee Tryd.prog X 108 [.string s, .int .i64 m] S K = K (.string (s.extract 0 m.toNat)) [] S [] false := by
  refine Vcallee_of ?_ rfl rfl rfl
  unfold Vp
  refine Vf_text hX Tryd.func108 rfl (by kernel_rfl) (by show 2 ≤ _; decide) ?_
  simp -dsimp only [↓VWP_seq, ↓VWP_region, ↓VWP_ret, ↓VReg_one, ↓VReg_nil, ↓VS_move, ↓VS_assign, ↓VS_slice, ↓With_guard, ↓Hold_1, With_some, emap_nil, ↓eget_eset, ↓ae_tmp, ↓ae_string, eget_zero, eget_succ, ↓vfinish_ret, ↓vres_nil, ↓vres_tmp, vtell_eq, ret1, Option.map_some, Option.bind_some, Option.map_none, ↓reduceIte, Nat.reduceEqDiff, reduceCtorEq, true_and, and_self, List.toList_toArray, List.length_nil, mapOwn_int, mapOwn_string, mapOwnL_nil, mapOwnL_cons, toks_string, okv_string, vthaw_nil, vwrites_nil, List.length_nil, Int.reduceToNat, abound_none, abound_some, vsl9, Tryd.results108, h0, h1, Int.le_refl]
theorem rgte_c (hX : X 110 = none) (s : ByteArray) (m : Int) (h0 : 0 ≤ m) (h1 : m ≤ s.size) (hs : s.size ≤ 200) {S : VH} {K : VCont} : Vcallee Tryd.prog X 110 [.string s, .int .i64 m] S K = K (.string (s.extract (s.size - m).toNat s.size)) [] S [] false := by
  refine Vcallee_of ?_ rfl rfl rfl
  have w : IntKind.i64.wrap ((s.size : Int) - m) = (s.size : Int) - m := wrap_id (by omega) (by omega)
  have q0 : 0 ≤ (s.size : Int) - m := by omega
  have q1 : (s.size : Int) - m ≤ s.size := by omega
  unfold Vp
  refine Vf_text hX Tryd.func110 rfl (by kernel_rfl) (by show 2 ≤ _; decide) ?_
  simp -dsimp only [↓VWP_seq, ↓VWP_region, ↓VWP_ret, ↓VReg_one, ↓VReg_nil, ↓VS_move, ↓VS_assign, ↓VS_binOp, ↓VS_slice, ↓VS_len, ↓With_guard, ↓Hold_1, With_some, emap_nil, ↓eget_eset, ↓ae_tmp, ↓ae_string, eget_zero, eget_succ, ↓vfinish_ret, ↓vres_nil, ↓vres_tmp, vtell_eq, ret1, Option.map_some, Option.bind_some, Option.map_none, ↓reduceIte, Nat.reduceEqDiff, reduceCtorEq, true_and, and_self, List.toList_toArray, List.length_nil, mapOwn_int, mapOwn_string, mapOwnL_nil, mapOwnL_cons, toks_string, okv_string, vthaw_nil, vwrites_nil, List.length_nil, vbin_int, abin_sub, Int.toNat_natCast, abound_none, abound_some, vsl9, vlr9, Tryd.results110, w, q0, q1, Int.le_refl]
def cutN (s : ByteArray) (n : Int) : Nat := (if (s.size : Int) < n then (s.size : Int) else n).toNat
theorem left_p (h : AOff X) (t : TOff X) (hX : X 106 = none) (c : Bool) (d : Nat) (s : ByteArray) (n : Int) (hs : s.size ≤ 200) (h0 : 0 ≤ n) : Vp Tryd.prog X 106 [sl c d 3 [.agg ⟨[.int .i64 2, .int .i64 0, .string s]⟩, .agg ⟨[.int .i64 1, .int .i64 n, .string .empty]⟩]] (tV (s.extract 0 (cutN s n))).v := by
  have hg := fun S K => lefte_c (X := X) t.lefte s (if (s.size : Int) < n then (s.size : Int) else n) (by split <;> omega) (by split <;> omega) (S := S) (K := K)
  have hu : (s.extract 0 (cutN s n)).size ≤ 200 := by rw [ByteArray.size_extract]; omega
  unfold Vp
  refine Vf_text hX Tryd.func106 rfl (by kernel_rfl) (by show 1 ≤ _; decide) ?_
  simp -dsimp only [↓Hold_5, ↓VWP_seq, ↓VWP_region, ↓VWP_ret, ↓VReg_one, ↓VReg_non, ↓VReg_nil, ↓VS_move, ↓VS_store, ↓With_bindH, ↓With_guard, ↓Hold_1, With_some, emap_nil, ↓eget_eset, ↓ae_tmp, ↓ae_func, eget_zero, ↓vfinish_ret, ↓vres_nil, ↓vres_cell, vtell_eq, ret1, Option.map_some, ↓reduceIte, Nat.reduceEqDiff, reduceCtorEq, decide_false, Bool.not_false, Nat.zero_add, Nat.add_zero, Nat.reduceAdd, Nat.reduceLT, Nat.reduceLeDiff, true_and, and_self, List.map_cons, List.map_nil, List.all_cons, List.all_nil, tup_int, tup_str, tup_agg, cel_agg, List.drop_zero, List.toList_toArray, List.size_toArray, List.length_cons, List.length_nil, mapOwn_agg, mapOwn_int, mapOwn_string, toksL_nil, toksL_cons, toks_int, toks_string, toks_agg, okv_agg, okv_int, okv_string, List.flatMap_nil, List.flatMap_cons, List.all_nil, List.all_cons, List.append_nil, List.nil_append, List.map_nil, List.map_cons, Bool.and_self, Bool.not_false, beq_self_eq_true, vnext_mk, vpush_mk, vget_nil, vput_nil, cellsIn_mk, vthaw_nil, vwrites_nil, List.getD_cons_zero, List.set_cons_zero, List.length_cons, List.length_nil, List.drop_zero, List.take_succ_cons, List.take_zero, ↓vlay_free, cellsOk_free, cellF, beq_self_eq_true, decide_false, beq_self_eq_true, setAll_whole, vld48, vst48, ↓val48, ↓vfk107, Tryd.results106, ↓part_c h t 0 s n hs h0 108 (by kernel_rfl) _ hu hg]
  rfl
theorem rgt_p (h : AOff X) (t : TOff X) (hX : X 109 = none) (c : Bool) (d : Nat) (s : ByteArray) (n : Int) (hs : s.size ≤ 200) (h0 : 0 ≤ n) : Vp Tryd.prog X 109 [sl c d 3 [.agg ⟨[.int .i64 2, .int .i64 0, .string s]⟩, .agg ⟨[.int .i64 1, .int .i64 n, .string .empty]⟩]] (tV (s.extract (s.size - (if (s.size : Int) < n then (s.size : Int) else n)).toNat s.size)).v := by
  have hg := fun S K => rgte_c (X := X) t.rgte s (if (s.size : Int) < n then (s.size : Int) else n) (by split <;> omega) (by split <;> omega) hs (S := S) (K := K)
  have hu : (s.extract (s.size - (if (s.size : Int) < n then (s.size : Int) else n)).toNat s.size).size ≤ 200 := by rw [ByteArray.size_extract]; omega
  unfold Vp
  refine Vf_text hX Tryd.func109 rfl (by kernel_rfl) (by show 1 ≤ _; decide) ?_
  simp -dsimp only [↓Hold_5, ↓VWP_seq, ↓VWP_region, ↓VWP_ret, ↓VReg_one, ↓VReg_non, ↓VReg_nil, ↓VS_move, ↓VS_store, ↓With_bindH, ↓With_guard, ↓Hold_1, With_some, emap_nil, ↓eget_eset, ↓ae_tmp, ↓ae_func, eget_zero, ↓vfinish_ret, ↓vres_nil, ↓vres_cell, vtell_eq, ret1, Option.map_some, ↓reduceIte, Nat.reduceEqDiff, reduceCtorEq, decide_false, Bool.not_false, Nat.zero_add, Nat.add_zero, Nat.reduceAdd, Nat.reduceLT, Nat.reduceLeDiff, true_and, and_self, List.map_cons, List.map_nil, List.all_cons, List.all_nil, tup_int, tup_str, tup_agg, cel_agg, List.drop_zero, List.toList_toArray, List.size_toArray, List.length_cons, List.length_nil, mapOwn_agg, mapOwn_int, mapOwn_string, toksL_nil, toksL_cons, toks_int, toks_string, toks_agg, okv_agg, okv_int, okv_string, List.flatMap_nil, List.flatMap_cons, List.all_nil, List.all_cons, List.append_nil, List.nil_append, List.map_nil, List.map_cons, Bool.and_self, Bool.not_false, beq_self_eq_true, vnext_mk, vpush_mk, vget_nil, vput_nil, cellsIn_mk, vthaw_nil, vwrites_nil, List.getD_cons_zero, List.set_cons_zero, List.length_cons, List.length_nil, List.drop_zero, List.take_succ_cons, List.take_zero, ↓vlay_free, cellsOk_free, cellF, beq_self_eq_true, decide_false, beq_self_eq_true, setAll_whole, vld48, vst48, ↓val48, ↓vfk107, Tryd.results109, ↓part_c h t 0 s n hs h0 110 (by kernel_rfl) _ hu hg]
  rfl
theorem numbers2_c (h : AOff X) (hX : X 151 = none) (c : Bool) (d : Nat) (a n : Int) {S : VH} {K : VCont} : Vcallee Tryd.prog X 151 [sl c d 3 [.agg ⟨[.int .i64 1, .int .i64 a, .string .empty]⟩, .agg ⟨[.int .i64 1, .int .i64 n, .string .empty]⟩]] S K = K (.tuple ⟨[sl true 0 1 [.int .i64 a, .int .i64 n], .agg ⟨[.int .i64 0, .int .i64 0, .string .empty]⟩, .bool true]⟩) [] S [] false := by
  have := numbers_c h hX c d [⟨1, a, .empty⟩, ⟨1, n, .empty⟩] (by show 2 ≤ _; omega) (S := S) (K := K)
  rw [nums2] at this
  exact this
/-- A text's part from place a on, of n bytes at most. -/
def midS (s : ByteArray) (a n : Int) : ByteArray := (s.extract (cutN s (a - 1)) s.size).extract 0 (cutN (s.extract (cutN s (a - 1)) s.size) n)
theorem mid_p (h : AOff X) (t : TOff X) (hX : X 111 = none) (c : Bool) (d : Nat) (s : ByteArray) (a n : Int) (hs : s.size ≤ 200) (ha : 1 ≤ a) (ha2 : a ≤ 1000) (h0 : 0 ≤ n) : Vp Tryd.prog X 111 [sl c d 3 [.agg ⟨[.int .i64 2, .int .i64 0, .string s]⟩, .agg ⟨[.int .i64 1, .int .i64 a, .string .empty]⟩, .agg ⟨[.int .i64 1, .int .i64 n, .string .empty]⟩]] (tV (midS s a n)).v := by
  have h1 : ¬ a < 1 := by omega
  have h2 : ¬ n < 0 := by omega
  have w : IntKind.i64.wrap (a - 1) = a - 1 := wrap_id (by omega) (by omega)
  have hu : (midS s a n).size ≤ 200 := by unfold midS; rw [ByteArray.size_extract, ByteArray.size_extract]; omega
  have tx := fun S K => text_c (X := X) t.text (midS s a n) hu (S := S) (K := K)
  have hz : (0 : Int) ≤ s.size := by omega
  have q0 : (0 : Int) ≤ a - 1 := by omega
  unfold midS cutN at tx ⊢
  unfold Vp
  refine Vf_text hX Tryd.func111 rfl (by kernel_rfl) (by show 1 ≤ _; decide) ?_
  by_cases hA : (s.size : Int) < a - 1
  · rw [if_pos hA] at tx ⊢
    simp only [Int.toNat_natCast] at tx ⊢
    have q1 : True := trivial
    have z2 : (0 : Int) ≤ (s.extract s.size s.size).size := by omega
    by_cases hB : ((s.extract s.size s.size).size : Int) < n
    · rw [if_pos hB] at tx ⊢
      simp only [Int.toNat_natCast] at tx ⊢
      have q2 : True := trivial
      simp -dsimp only [↓Hold_5, ↓VWP_seq, ↓VWP_region, ↓VWP_cond, ↓VWP_ret, ↓VWP_skip, ↓VWP_block, ↓VReg_one, ↓VReg_non, ↓VReg_nil, ↓VS_guard, ↓VS_move, ↓VS_assign, ↓VS_pick, ↓VS_load, ↓VS_binOp, ↓VS_unOp, ↓VS_slice, ↓VS_indexAddr, ↓VS_extract, ↓VS_len, ↓VS_min, ↓VS_store, ↓With_bindH, ↓With_guard, ↓Hold_1, With_some, emap_nil, ↓eget_eset, ↓ae_tmp, ↓ae_int, eget_zero, lop_pick, lop_extract, lop_not, asBool_bool, asGuard_bool, ayielded_eq, ↓dstAt_zero, ↓dstAt_succ, ↓vfinish_ret, ↓vres_nil, ↓vres_cell, vtell_eq, ret1, Option.map_some, Option.bind_some, Option.map_none, ↓reduceIte, Nat.reduceEqDiff, reduceCtorEq, Bool.false_eq_true, decide_false, Bool.not_true, Bool.not_false, List.getElem?_toArray, List.getElem?_cons_zero, List.getElem?_cons_succ, Nat.zero_add, Nat.add_zero, Nat.reduceAdd, Nat.reduceLT, Nat.reduceLeDiff, true_and, and_self, List.map_cons, List.map_nil, List.all_cons, List.all_nil, tup_int, tup_str, tup_agg, cel_agg, List.drop_zero, List.toList_toArray, List.size_toArray, List.length_cons, List.length_nil, mapOwn_agg, mapOwn_int, mapOwn_string, toksL_nil, toksL_cons, toks_int, toks_string, toks_agg, okv_agg, okv_int, okv_string, List.flatMap_nil, List.flatMap_cons, List.all_nil, List.all_cons, List.append_nil, List.nil_append, List.cons_append, List.map_nil, List.map_cons, List.isEmpty_cons, Bool.and_false, Bool.and_self, Bool.not_true, Bool.not_false, beq_self_eq_true, vnext_mk, vpush_mk, vget_nil, vput_nil, cellsIn_mk, vthaw_nil, vwrites_nil, List.getD_cons_zero, List.getD_cons_succ, List.set_cons_zero, List.set_cons_succ, List.length_cons, List.length_nil, List.drop_zero, List.drop_succ_cons, List.take_succ_cons, List.take_zero, vload_at, cellV_int, aggV_agg, vbin_int, ↓vlay_free, cellsOk_free, cellF, abin_lss, abin_sub, Int.cast_ofNat_Int, beq_self_eq_true, Int.reduceLE, Int.reduceToNat, Int.toNat_natCast, Int.reduceSub, decide_false, beq_self_eq_true, setAll_whole, abound_none, abound_some, vld48, vgt48, vgt3, vst48, ↓val48, vis43, vis42, vcs42, vsl9, vlr9, ↓vfk151, ↓vfk105, ↓vfk145, Tryd.results111, Int.reduceSub, Int.reduceToNat, ↓numbers2_c h t.numbers, h1, h2, w, hz, z2, hA, hB, ↓show_c h t.show' s hs, amin_i, ↓tx, Int.le_refl]
      rfl
    · rw [if_neg hB] at tx ⊢
      have q2 : n ≤ ((s.extract s.size s.size).size : Int) := by omega
      simp -dsimp only [↓Hold_5, ↓VWP_seq, ↓VWP_region, ↓VWP_cond, ↓VWP_ret, ↓VWP_skip, ↓VWP_block, ↓VReg_one, ↓VReg_non, ↓VReg_nil, ↓VS_guard, ↓VS_move, ↓VS_assign, ↓VS_pick, ↓VS_load, ↓VS_binOp, ↓VS_unOp, ↓VS_slice, ↓VS_indexAddr, ↓VS_extract, ↓VS_len, ↓VS_min, ↓VS_store, ↓With_bindH, ↓With_guard, ↓Hold_1, With_some, emap_nil, ↓eget_eset, ↓ae_tmp, ↓ae_int, eget_zero, lop_pick, lop_extract, lop_not, asBool_bool, asGuard_bool, ayielded_eq, ↓dstAt_zero, ↓dstAt_succ, ↓vfinish_ret, ↓vres_nil, ↓vres_cell, vtell_eq, ret1, Option.map_some, Option.bind_some, Option.map_none, ↓reduceIte, Nat.reduceEqDiff, reduceCtorEq, Bool.false_eq_true, decide_false, Bool.not_true, Bool.not_false, List.getElem?_toArray, List.getElem?_cons_zero, List.getElem?_cons_succ, Nat.zero_add, Nat.add_zero, Nat.reduceAdd, Nat.reduceLT, Nat.reduceLeDiff, true_and, and_self, List.map_cons, List.map_nil, List.all_cons, List.all_nil, tup_int, tup_str, tup_agg, cel_agg, List.drop_zero, List.toList_toArray, List.size_toArray, List.length_cons, List.length_nil, mapOwn_agg, mapOwn_int, mapOwn_string, toksL_nil, toksL_cons, toks_int, toks_string, toks_agg, okv_agg, okv_int, okv_string, List.flatMap_nil, List.flatMap_cons, List.all_nil, List.all_cons, List.append_nil, List.nil_append, List.cons_append, List.map_nil, List.map_cons, List.isEmpty_cons, Bool.and_false, Bool.and_self, Bool.not_true, Bool.not_false, beq_self_eq_true, vnext_mk, vpush_mk, vget_nil, vput_nil, cellsIn_mk, vthaw_nil, vwrites_nil, List.getD_cons_zero, List.getD_cons_succ, List.set_cons_zero, List.set_cons_succ, List.length_cons, List.length_nil, List.drop_zero, List.drop_succ_cons, List.take_succ_cons, List.take_zero, vload_at, cellV_int, aggV_agg, vbin_int, ↓vlay_free, cellsOk_free, cellF, abin_lss, abin_sub, Int.cast_ofNat_Int, beq_self_eq_true, Int.reduceLE, Int.reduceToNat, Int.toNat_natCast, Int.reduceSub, decide_false, beq_self_eq_true, setAll_whole, abound_none, abound_some, vld48, vgt48, vgt3, vst48, ↓val48, vis43, vis42, vcs42, vsl9, vlr9, ↓vfk151, ↓vfk105, ↓vfk145, Tryd.results111, Int.reduceSub, Int.reduceToNat, ↓numbers2_c h t.numbers, h1, h2, w, hz, q2, h0, hA, hB, ↓show_c h t.show' s hs, amin_i, ↓tx, Int.le_refl]
      rfl
  · rw [if_neg hA] at tx ⊢
    have q1 : a - 1 ≤ (s.size : Int) := by omega
    have z2 : (0 : Int) ≤ (s.extract (a - 1).toNat s.size).size := by omega
    by_cases hB : ((s.extract (a - 1).toNat s.size).size : Int) < n
    · rw [if_pos hB] at tx ⊢
      simp only [Int.toNat_natCast] at tx ⊢
      have q2 : True := trivial
      simp -dsimp only [↓Hold_5, ↓VWP_seq, ↓VWP_region, ↓VWP_cond, ↓VWP_ret, ↓VWP_skip, ↓VWP_block, ↓VReg_one, ↓VReg_non, ↓VReg_nil, ↓VS_guard, ↓VS_move, ↓VS_assign, ↓VS_pick, ↓VS_load, ↓VS_binOp, ↓VS_unOp, ↓VS_slice, ↓VS_indexAddr, ↓VS_extract, ↓VS_len, ↓VS_min, ↓VS_store, ↓With_bindH, ↓With_guard, ↓Hold_1, With_some, emap_nil, ↓eget_eset, ↓ae_tmp, ↓ae_int, eget_zero, lop_pick, lop_extract, lop_not, asBool_bool, asGuard_bool, ayielded_eq, ↓dstAt_zero, ↓dstAt_succ, ↓vfinish_ret, ↓vres_nil, ↓vres_cell, vtell_eq, ret1, Option.map_some, Option.bind_some, Option.map_none, ↓reduceIte, Nat.reduceEqDiff, reduceCtorEq, Bool.false_eq_true, decide_false, Bool.not_true, Bool.not_false, List.getElem?_toArray, List.getElem?_cons_zero, List.getElem?_cons_succ, Nat.zero_add, Nat.add_zero, Nat.reduceAdd, Nat.reduceLT, Nat.reduceLeDiff, true_and, and_self, List.map_cons, List.map_nil, List.all_cons, List.all_nil, tup_int, tup_str, tup_agg, cel_agg, List.drop_zero, List.toList_toArray, List.size_toArray, List.length_cons, List.length_nil, mapOwn_agg, mapOwn_int, mapOwn_string, toksL_nil, toksL_cons, toks_int, toks_string, toks_agg, okv_agg, okv_int, okv_string, List.flatMap_nil, List.flatMap_cons, List.all_nil, List.all_cons, List.append_nil, List.nil_append, List.cons_append, List.map_nil, List.map_cons, List.isEmpty_cons, Bool.and_false, Bool.and_self, Bool.not_true, Bool.not_false, beq_self_eq_true, vnext_mk, vpush_mk, vget_nil, vput_nil, cellsIn_mk, vthaw_nil, vwrites_nil, List.getD_cons_zero, List.getD_cons_succ, List.set_cons_zero, List.set_cons_succ, List.length_cons, List.length_nil, List.drop_zero, List.drop_succ_cons, List.take_succ_cons, List.take_zero, vload_at, cellV_int, aggV_agg, vbin_int, ↓vlay_free, cellsOk_free, cellF, abin_lss, abin_sub, Int.cast_ofNat_Int, beq_self_eq_true, Int.reduceLE, Int.reduceToNat, Int.toNat_natCast, Int.reduceSub, decide_false, beq_self_eq_true, setAll_whole, abound_none, abound_some, vld48, vgt48, vgt3, vst48, ↓val48, vis43, vis42, vcs42, vsl9, vlr9, ↓vfk151, ↓vfk105, ↓vfk145, Tryd.results111, Int.reduceSub, Int.reduceToNat, ↓numbers2_c h t.numbers, h1, h2, w, q0, q1, z2, hA, hB, ↓show_c h t.show' s hs, amin_i, ↓tx, Int.le_refl]
      rfl
    · rw [if_neg hB] at tx ⊢
      have q2 : n ≤ ((s.extract (a - 1).toNat s.size).size : Int) := by omega
      simp -dsimp only [↓Hold_5, ↓VWP_seq, ↓VWP_region, ↓VWP_cond, ↓VWP_ret, ↓VWP_skip, ↓VWP_block, ↓VReg_one, ↓VReg_non, ↓VReg_nil, ↓VS_guard, ↓VS_move, ↓VS_assign, ↓VS_pick, ↓VS_load, ↓VS_binOp, ↓VS_unOp, ↓VS_slice, ↓VS_indexAddr, ↓VS_extract, ↓VS_len, ↓VS_min, ↓VS_store, ↓With_bindH, ↓With_guard, ↓Hold_1, With_some, emap_nil, ↓eget_eset, ↓ae_tmp, ↓ae_int, eget_zero, lop_pick, lop_extract, lop_not, asBool_bool, asGuard_bool, ayielded_eq, ↓dstAt_zero, ↓dstAt_succ, ↓vfinish_ret, ↓vres_nil, ↓vres_cell, vtell_eq, ret1, Option.map_some, Option.bind_some, Option.map_none, ↓reduceIte, Nat.reduceEqDiff, reduceCtorEq, Bool.false_eq_true, decide_false, Bool.not_true, Bool.not_false, List.getElem?_toArray, List.getElem?_cons_zero, List.getElem?_cons_succ, Nat.zero_add, Nat.add_zero, Nat.reduceAdd, Nat.reduceLT, Nat.reduceLeDiff, true_and, and_self, List.map_cons, List.map_nil, List.all_cons, List.all_nil, tup_int, tup_str, tup_agg, cel_agg, List.drop_zero, List.toList_toArray, List.size_toArray, List.length_cons, List.length_nil, mapOwn_agg, mapOwn_int, mapOwn_string, toksL_nil, toksL_cons, toks_int, toks_string, toks_agg, okv_agg, okv_int, okv_string, List.flatMap_nil, List.flatMap_cons, List.all_nil, List.all_cons, List.append_nil, List.nil_append, List.cons_append, List.map_nil, List.map_cons, List.isEmpty_cons, Bool.and_false, Bool.and_self, Bool.not_true, Bool.not_false, beq_self_eq_true, vnext_mk, vpush_mk, vget_nil, vput_nil, cellsIn_mk, vthaw_nil, vwrites_nil, List.getD_cons_zero, List.getD_cons_succ, List.set_cons_zero, List.set_cons_succ, List.length_cons, List.length_nil, List.drop_zero, List.drop_succ_cons, List.take_succ_cons, List.take_zero, vload_at, cellV_int, aggV_agg, vbin_int, ↓vlay_free, cellsOk_free, cellF, abin_lss, abin_sub, Int.cast_ofNat_Int, beq_self_eq_true, Int.reduceLE, Int.reduceToNat, Int.toNat_natCast, Int.reduceSub, decide_false, beq_self_eq_true, setAll_whole, abound_none, abound_some, vld48, vgt48, vgt3, vst48, ↓val48, vis43, vis42, vcs42, vsl9, vlr9, ↓vfk151, ↓vfk105, ↓vfk145, Tryd.results111, Int.reduceSub, Int.reduceToNat, ↓numbers2_c h t.numbers, h1, h2, w, q0, q1, q2, h0, hA, hB, ↓show_c h t.show' s hs, amin_i, ↓tx, Int.le_refl]
      rfl
theorem where_p (h : AOff X) (t : TOff X) (hX : X 115 = none) (c : Bool) (d : Nat) (s u : ByteArray) (hs : s.size ≤ 200) (hu : u.size ≤ 200) (i : Int) (h0 : 0 ≤ i) (hi : i ≤ 1000)
    (hx : ∀ S K, Vcallee Tryd.prog X 154 [.string s, .string u] S K = K (.int .i64 i) [] S [] false) : Vp Tryd.prog X 115 [sl c d 3 [.agg ⟨[.int .i64 2, .int .i64 0, .string u]⟩, .agg ⟨[.int .i64 2, .int .i64 0, .string s]⟩]] (iV (i + 1)).v := by
  have hn : ¬ i < 0 := by omega
  have w : IntKind.i64.wrap (i + 1) = i + 1 := wrap_id (by omega) (by omega)
  unfold Vp
  refine Vf_text hX Tryd.func115 rfl (by kernel_rfl) (by show 1 ≤ _; decide) ?_
  simp -dsimp only [↓VWP_seq, ↓VWP_region, ↓VWP_open, ↓VReg_one, ↓VReg_nil, emap_nil, Nat.add_zero, List.length_nil, List.nil_append, vnext_mk, vpush_mk, List.length_nil, ↓val48]
  refine Vc_open [[], [], [], [], [], [], [0], [], [], []] true (by kernel_rfl) (by kernel_rfl) (by kernel_rfl) ?_
  simp -dsimp only [↓Hold_5, ↓VWP_seq, ↓VWP_region, ↓VWP_cond, ↓VWP_ret, ↓VWP_skip, ↓VReg_one, ↓VReg_non, ↓VReg_nil, ↓VS_move, ↓VS_assign, ↓VS_load, ↓VS_binOp, ↓VS_indexAddr, ↓VS_store, ↓With_bindH, ↓With_guard, ↓Hold_1, ↓Hold_3, With_some, emap_nil, ↓eget_eset, ↓ae_tmp, ↓ae_int, eget_zero, asBool_bool, light, ↓vfinish_ret, ↓vres_nil, ↓vres_cell, vtell_eq, ret1, Option.map_some, Option.bind_some, ↓reduceIte, Nat.reduceEqDiff, reduceCtorEq, Bool.false_eq_true, decide_true, decide_false, Bool.not_true, Bool.not_false, List.getElem?_cons_zero, List.getElem?_cons_succ, Nat.zero_add, Nat.reduceAdd, Nat.reduceLT, Nat.reduceLeDiff, true_and, and_self, List.map_cons, List.map_nil, List.all_cons, List.all_nil, tup_int, tup_str, tup_agg, cel_agg, Bool.and_true, List.drop_zero, List.toList_toArray, List.size_toArray, List.length_cons, List.length_nil, mapOwn_agg, mapOwn_int, mapOwn_string, toksL_nil, toksL_cons, toks_int, toks_string, toks_agg, okv_agg, okv_int, okv_string, List.flatMap_nil, List.flatMap_cons, List.all_nil, List.all_cons, List.append_nil, List.nil_append, List.cons_append, List.map_nil, List.map_cons, Bool.and_true, Bool.and_false, Bool.and_self, Bool.true_and, Bool.not_true, Bool.not_false, Bool.false_or, Bool.true_or, Bool.or_false, beq_self_eq_true, vnext_mk, vget_nil, vput_nil, cellsIn_mk, vthaw_nil, vwrites_nil, List.getD_cons_zero, List.set_cons_zero, List.length_cons, List.length_nil, List.drop_zero, List.take_succ_cons, List.take_zero, vload_at, aggV_agg, vbin_int, ↓vlay_free, cellsOk_free, cellF, abin_lss, abin_add, beq_self_eq_true, Int.reduceLE, Int.reduceToNat, decide_true, decide_false, beq_self_eq_true, setAll_whole, ↓VE_nil, ↓VE_one0, ↓VE_one1, ↓shade_one, shade_load, shade_move, shade_indexAddr, shade_call, Option.getD_some, ↓vobl_load, dep_at, vspan, List.range_succ, List.range_zero, Nat.min_def, Nat.max_def, List.reverse_cons, List.reverse_nil, vld48, vgt48, vst48, vis42, ↓vfk105, ↓vfk154, ↓vfk92, Tryd.results115, ↓show_c h t.show' s hs, ↓show_c h t.show' u hu, ↓hx, hn, w, ↓int_c h.int]
  exact ⟨rfl, rfl, rfl⟩
end
end Go.Proofs.YtmdpggecelheoaaDoor.Abs
/- Calls of functions of texts by their names. -/
set_option linter.unusedVariables false
set_option linter.unusedSimpArgs false
set_option maxRecDepth 4000
set_option maxHeartbeats 0
namespace Go.Proofs.YtmdpggecelheoaaDoor.Abs
open Go
attribute [local irreducible] Hold VReg Vf Vc VWP With VStp Vcallee Vp VE
def idxV : List Value → List Blk → Option (Value × List (Nat × Blk)) := fun args _ => match args with
  | [.string s, .string u] => if s.size ≤ 1000 then some (.int .i64 (Lib.index s.data.toList u.data.toList), []) else none
  | _ => none
/-- strings.Index is given from outside. -/
def XQ : VOuter := fun f => if f = 154 then some idxV else none
theorem xq_off : XOff [154] XQ := fun f h => by
  unfold XQ
  rw [if_neg]
  rintro rfl
  simp at h
theorem xq_a : AOff XQ := ⟨rfl, rfl, rfl, rfl, rfl, rfl, rfl, rfl, rfl, rfl, rfl, rfl, rfl, rfl, rfl, rfl⟩
theorem xq_t : TOff XQ := ⟨rfl, rfl, rfl, rfl, rfl, rfl⟩
theorem idx_c (s u : ByteArray) (hs : s.size ≤ 1000) (S : VH) (K : VCont) : Vcallee Tryd.prog XQ 154 [.string s, .string u] S K = K (.int .i64 (Lib.index s.data.toList u.data.toList)) [] S [] false := by
  refine Vcallee_of ?_ rfl rfl rfl
  unfold Vp
  refine Vf_outer (g := idxV) rfl ?_
  have e : idxV [.string s, .string u] [] = some (.int .i64 (Lib.index s.data.toList u.data.toList), []) := by simp only [idxV, if_pos hs]
  show With (idxV [.string s, .string u] []) _
  rw [e]
  with_unfolding_all exact ⟨rfl, rfl⟩
def fnQ (n : Int) (g : FuncId) : Value := .tuple ⟨[.agg ⟨[.int .i64 n, .bool false, .func (.func g) #[] #[]]⟩, .bool true]⟩
theorem find_left (S : VH) (K : VCont) : Vcallee Tryd.prog XQ 50 [.string ⟨#[76, 69, 70, 84]⟩] S K = K (fnQ 2 106) [] S [] false := Vcallee_of (Vp_closed xq_off 6 (by kernel_rfl)) rfl rfl rfl
theorem find_rgt (S : VH) (K : VCont) : Vcallee Tryd.prog XQ 50 [.string ⟨#[82, 73, 71, 72, 84]⟩] S K = K (fnQ 2 109) [] S [] false := Vcallee_of (Vp_closed xq_off 6 (by kernel_rfl)) rfl rfl rfl
theorem find_mid (S : VH) (K : VCont) : Vcallee Tryd.prog XQ 50 [.string ⟨#[77, 73, 68]⟩] S K = K (fnQ 3 111) [] S [] false := Vcallee_of (Vp_closed xq_off 6 (by kernel_rfl)) rfl rfl rfl
theorem find_where (S : VH) (K : VCont) : Vcallee Tryd.prog XQ 50 [.string ⟨#[70, 73, 78, 68]⟩] S K = K (fnQ 2 115) [] S [] false := Vcallee_of (Vp_closed xq_off 6 (by kernel_rfl)) rfl rfl rfl
theorem alive_q (S : VH) (K : VCont) : Vcallee Tryd.prog XQ 31 [] S K = K (.bool true) [] S [] false := Vcallee_of (Vp_closed xq_off 20 (by kernel_rfl)) rfl rfl rfl
theorem flat_ones2 : ∀ (l : List VV), (∀ x ∈ l, rightF x = true) → flatF (l.map fun x => (⟨false, [x]⟩ : RW)) = l
  | [], _ => rfl
  | x :: l, h => by
    have := flat_ones2 l fun y hy => h y (List.mem_cons_of_mem _ hy)
    unfold flatF at this ⊢
    rw [List.map_cons, List.flatMap_cons, this, List.map_cons, List.map_nil, fixV, if_pos (h x List.mem_cons_self)]
    rfl
theorem first_none (l : List VV) (h : ∀ x ∈ l, rightF x = true ∧ x.k ≠ 4) : (firstF l).2 = false := by
  unfold firstF
  rw [if_pos (List.all_eq_true.2 fun x hx => (h x hx).1)]
  have : l.find? (fun x => decide (x.k = 4)) = none := by
    rw [List.find?_eq_none]
    intro x hx
    simp [(h x hx).2]
  rw [this]
/-- A call of a function that takes so many values, all right, none an error. -/
theorem call_q (name : ByteArray) (n : Int) (g : FuncId) (hn : 0 < n) (l : List VV) (hl : (l.length : Int) = n) (hlen : l.length ≤ 10) (h : ∀ x ∈ l, rightF x = true ∧ x.k ≠ 4) (r : VV)
    (hfind : ∀ S K, Vcallee Tryd.prog XQ 50 [.string name] S K = K (fnQ n g) [] S [] false) (hgo : funcOk Tryd.prog g = true)
    (hG : ∀ c S K, Vcallee Tryd.prog XQ g [ol c (46, none) 3 (l.map VV.v)] S K = K (.agg ⟨[.int .i64 r.k, .int .i64 r.n, .string r.s]⟩) [] S [] false) :
    Vp Tryd.prog XQ 33 [.string name, sl false 1 1 ((l.map fun x => (⟨false, [x]⟩ : RW)).map (RW.v 0))] r.v := by
  have hf := flat_ones2 l fun x hx => (h x hx).1
  refine Vp_congr (call_p xq_a rfl rfl rfl name n false g (fun _ => r) hfind hgo false 1 0 _ (by simp; omega) (by rw [hf]; omega) (by rw [hf]; exact hG)) ?_
  unfold callF
  rw [hf, first_none l h]
  have hs : singleF (l.map fun x => (⟨false, [x]⟩ : RW)) = true := by simp [singleF]
  have hfit : fitsF n (l.map fun x => (⟨false, [x]⟩ : RW)) = true := by
    unfold fitsF
    rw [if_neg (by omega), if_neg (by omega), if_neg (by omega), hs]
    simp [hl]
  rw [hfit]
  rfl
theorem tv_ok {s : ByteArray} (hs : s.size ≤ 200) : rightF (tV s) = true ∧ (tV s).k ≠ 4 := ⟨right_t hs, by simp [tV]⟩
theorem iv_ok (n : Int) : rightF (iV n) = true ∧ (iV n).k ≠ 4 := ⟨rfl, by simp [iV]⟩
theorem all2 {a b : VV} (ha : rightF a = true ∧ a.k ≠ 4) (hb : rightF b = true ∧ b.k ≠ 4) : ∀ x ∈ [a, b], rightF x = true ∧ x.k ≠ 4 := by simp [ha, hb]
theorem all3 {a b c : VV} (ha : rightF a = true ∧ a.k ≠ 4) (hb : rightF b = true ∧ b.k ≠ 4) (hc : rightF c = true ∧ c.k ≠ 4) : ∀ x ∈ [a, b, c], rightF x = true ∧ x.k ≠ 4 := by simp [ha, hb, hc]
theorem call_left (t : Nat) (s : ByteArray) (n : Int) (hs : s.size ≤ 200) (h0 : 0 ≤ n) (S : VH) (K : VCont) : Vcallee Tryd.prog XQ 33 [.string ⟨#[76, 69, 70, 84]⟩, vo (t, none) 1 0 [vs 0 3 [.agg ⟨[.int .i64 2, .int .i64 0, .string s]⟩], vs 0 3 [.agg ⟨[.int .i64 1, .int .i64 n, .string .empty]⟩]]] S K = K (.agg ⟨[.int .i64 2, .int .i64 0, .string (s.extract 0 (cutN s n))]⟩) [] S [] false :=
  Vcallee_of (call_q _ 2 106 (by decide) [tV s, iV n] rfl (by simp) (all2 (tv_ok hs) (iv_ok n)) (tV (s.extract 0 (cutN s n))) find_left (by kernel_rfl)
    (fun c S K => Vcallee_of (left_p xq_a xq_t rfl c 1 s n hs h0) (by simp only [mapOwnL_cons, mapOwnL_nil, lend_ol]; rfl) (by simp only [okvL_cons, okvL_nil, okv_sl, Bool.and_true]) rfl)) rfl rfl rfl
theorem call_rgt (t : Nat) (s : ByteArray) (n : Int) (hs : s.size ≤ 200) (h0 : 0 ≤ n) (S : VH) (K : VCont) : Vcallee Tryd.prog XQ 33 [.string ⟨#[82, 73, 71, 72, 84]⟩, vo (t, none) 1 0 [vs 0 3 [.agg ⟨[.int .i64 2, .int .i64 0, .string s]⟩], vs 0 3 [.agg ⟨[.int .i64 1, .int .i64 n, .string .empty]⟩]]] S K = K (.agg ⟨[.int .i64 2, .int .i64 0, .string (s.extract (s.size - (if (s.size : Int) < n then (s.size : Int) else n)).toNat s.size)]⟩) [] S [] false :=
  Vcallee_of (call_q _ 2 109 (by decide) [tV s, iV n] rfl (by simp) (all2 (tv_ok hs) (iv_ok n)) (tV (s.extract (s.size - (if (s.size : Int) < n then (s.size : Int) else n)).toNat s.size)) find_rgt (by kernel_rfl)
    (fun c S K => Vcallee_of (rgt_p xq_a xq_t rfl c 1 s n hs h0) (by simp only [mapOwnL_cons, mapOwnL_nil, lend_ol]; rfl) (by simp only [okvL_cons, okvL_nil, okv_sl, Bool.and_true]) rfl)) rfl rfl rfl
theorem call_mid (t : Nat) (s : ByteArray) (a n : Int) (hs : s.size ≤ 200) (ha : 1 ≤ a) (ha2 : a ≤ 1000) (h0 : 0 ≤ n) (S : VH) (K : VCont) : Vcallee Tryd.prog XQ 33 [.string ⟨#[77, 73, 68]⟩, vo (t, none) 1 0 [vs 0 3 [.agg ⟨[.int .i64 2, .int .i64 0, .string s]⟩], vs 0 3 [.agg ⟨[.int .i64 1, .int .i64 a, .string .empty]⟩], vs 0 3 [.agg ⟨[.int .i64 1, .int .i64 n, .string .empty]⟩]]] S K = K (.agg ⟨[.int .i64 2, .int .i64 0, .string (midS s a n)]⟩) [] S [] false :=
  Vcallee_of (call_q _ 3 111 (by decide) [tV s, iV a, iV n] rfl (by simp) (all3 (tv_ok hs) (iv_ok a) (iv_ok n)) (tV (midS s a n)) find_mid (by kernel_rfl)
    (fun c S K => Vcallee_of (mid_p xq_a xq_t rfl c 1 s a n hs ha ha2 h0) (by simp only [mapOwnL_cons, mapOwnL_nil, lend_ol]; rfl) (by simp only [okvL_cons, okvL_nil, okv_sl, Bool.and_true]) rfl)) rfl rfl rfl
theorem call_where (t : Nat) (s u : ByteArray) (hs : s.size ≤ 200) (hu : u.size ≤ 200) (i : Nat) (hi : i ≤ 1000) (hx : Lib.index s.data.toList u.data.toList = i) (S : VH) (K : VCont) : Vcallee Tryd.prog XQ 33 [.string ⟨#[70, 73, 78, 68]⟩, vo (t, none) 1 0 [vs 0 3 [.agg ⟨[.int .i64 2, .int .i64 0, .string u]⟩], vs 0 3 [.agg ⟨[.int .i64 2, .int .i64 0, .string s]⟩]]] S K = K (.agg ⟨[.int .i64 1, .int .i64 ((i : Int) + 1), .string .empty]⟩) [] S [] false :=
  Vcallee_of (call_q _ 2 115 (by decide) [tV u, tV s] rfl (by simp) (all2 (tv_ok hu) (tv_ok hs)) (iV ((i : Int) + 1)) find_where (by kernel_rfl)
    (fun c S K => Vcallee_of (where_p xq_a xq_t rfl c 1 s u hs hu i (by omega) (by omega) (fun S K => by rw [idx_c s u (by omega), hx])) (by simp only [mapOwnL_cons, mapOwnL_nil, lend_ol]; rfl) (by simp only [okvL_cons, okvL_nil, okv_sl, Bool.and_true]) rfl)) rfl rfl rfl
end Go.Proofs.YtmdpggecelheoaaDoor.Abs
/- The law FuncsTexts: the plain side. -/
set_option linter.unusedVariables false
set_option linter.unusedSimpArgs false
namespace Go.Proofs.YtmdpggecelheoaaDoor.Abs
open Go
theorem ba_eqq {a b : ByteArray} (h : a.data.toList = b.data.toList) : a = b := by
  have e1 : a = ⟨(a.data.toList).toArray⟩ := rfl
  rw [e1, h]
theorem ab_sq {P : Program} {t : TypeId} {x y : Operand} {s r : ByteArray} : abin P .eql t x y (.string s) (.string r) = some (.bool (decide (s = r))) := by
  rw [abin_seql]
  congr 2
  rw [Bool.eq_iff_iff]
  simp only [beq_iff_eq, decide_eq_true_eq]
  exact ⟨fun h => by rw [ByteArray.toList_eq, ByteArray.toList_eq] at h; exact ba_eqq h, fun h => by rw [h]⟩
theorem ab_snq {P : Program} {t : TypeId} {x y : Operand} {s r : ByteArray} : abin P .neq t x y (.string s) (.string r) = some (.bool (!decide (s = r))) := by
  have h := ab_sq (P := P) (t := t) (x := x) (y := y) (s := s) (r := r)
  rw [abin_seql] at h
  rw [abin_sneq]
  simp only [Option.some.injEq, Value.bool.injEq] at h
  rw [h]
theorem ab_sadd {P : Program} {t : TypeId} {x y : Operand} {a b : ByteArray} (ha : a.size ≤ 1000) (hb : b.size ≤ 1000) : abin P .add t x y (.string a) (.string b) = some (.string (a ++ b)) := by
  have : abin P .add t x y (.string a) (.string b) = onlyFlat (pureRun P (Op.stringOp .add a b)) := rfl
  rw [this]
  unfold Op.stringOp
  simp only
  rw [if_neg (by simp only [IntKind.max, IntKind.signed, IntKind.bits]; simp; omega)]
  rfl
theorem ext_list (s : ByteArray) (a b : Nat) : (s.extract a b).data.toList = (s.data.toList.drop a).take (b - a) := by
  rw [ByteArray.data_extract, Array.toList_extract]
theorem size_list (s : ByteArray) : s.data.toList.length = s.size := by rw [Array.length_toList]; rfl
theorem cut_whole (s : ByteArray) (m : Nat) (h : m ≤ s.size) : s.extract 0 m ++ s.extract m s.size = s := by
  rw [ByteArray.extract_append_extract]
  apply ba_eqq
  rw [ext_list]
  rw [Nat.min_eq_left (Nat.zero_le _), Nat.max_eq_right h, List.drop_zero, Nat.sub_zero, List.take_of_length_le (by rw [size_list]; exact Nat.le_refl _)]
theorem cutN_le (s : ByteArray) (n : Int) (h : 0 ≤ n) : cutN s n ≤ s.size ∧ (cutN s n : Int) ≤ n := by
  unfold cutN
  split <;> omega
/-- Where a part of a text is found: not behind where it was taken from. -/
theorem find_mid_spec (s : ByteArray) (a n : Int) (ha : 1 ≤ a) (hn : 0 ≤ n) : ∃ p : Nat, Lib.index s.data.toList (midS s a n).data.toList = p ∧ (p : Int) + 1 ≤ a ∧ p + (midS s a n).size ≤ s.size ∧ s.extract p (p + (midS s a n).size) = midS s a n := by
  have hi := cutN_le s (a - 1) (by omega)
  have hl : (midS s a n).data.toList = ((s.data.toList.drop (cutN s (a - 1))).take (cutN (s.extract (cutN s (a - 1)) s.size) n)) := by
    unfold midS
    rw [ext_list, ext_list, List.drop_zero, Nat.sub_zero]
    congr 1
    rw [List.take_of_length_le (by rw [List.length_drop, size_list]; exact Nat.le_refl _)]
  have hocc : Lib.occAt s.data.toList (midS s a n).data.toList (cutN s (a - 1)) = true := by
    unfold Lib.occAt
    rw [hl, List.isPrefixOf_iff_prefix]
    exact List.take_prefix _ _
  rcases Lib.index_spec s.data.toList (midS s a n).data.toList with ⟨_, h⟩ | ⟨p, h1, h2, h3, h4⟩
  · have := h _ (by rw [size_list]; exact hi.1)
    rw [hocc] at this
    cases this
  · have hp : p ≤ cutN s (a - 1) := by
      rcases Nat.lt_or_ge (cutN s (a - 1)) p with hlt | hge
      · have := h4 _ hlt
        rw [hocc] at this
        cases this
      · exact hge
    unfold Lib.occAt at h3
    rw [List.isPrefixOf_iff_prefix] at h3
    have hlen := h3.length_le
    rw [List.length_drop, size_list, size_list] at hlen
    rw [size_list] at h2
    refine ⟨p, h1, by omega, by omega, ?_⟩
    apply ba_eqq
    rw [ext_list, Nat.add_sub_cancel_left, ← size_list]
    exact (List.prefix_iff_eq_take.1 h3).symm
end Go.Proofs.YtmdpggecelheoaaDoor.Abs
