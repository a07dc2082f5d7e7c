/- Pairs of values: sums and differences. -/
import Derived.Test.YtmdpggecelheoaaDoorMZ1
import Derived.WalkKit
import Derived.ProofKit
import Derived.OpenShut
import Derived.ShutString
import Derived.ChangeOld
import Derived.Below
import Derived.SizedLaws
import Derived.LaidMore
import Derived.Stop.Joined
import Derived.Test.YtmdpggecelheoaaDoorPA20
import Derived.Test.YtmdpggecelheoaaDoorMW9
set_option linter.unusedVariables false
set_option linter.unusedSimpArgs false
set_option maxRecDepth 4000
set_option maxHeartbeats 0
namespace Go.Proofs.YtmdpggecelheoaaDoor.Abs
open Go
attribute [local irreducible] Hold VReg Vf Vc VWP With VStp Vcallee Vp VE
/-- Nothing of the arithmetic is given from outside. -/
structure AOff (X : VOuter) : Prop where
  nani : X 84 = none
  nans : X 83 = none
  cmpi : X 66 = none
  cmps : X 65 = none
  cmpor : X 64 = none
  right : X 53 = none
  compare : X 155 = none
  acmp : X 144 = none
  pair : X 96 = none
  reck : X 147 = none
  first : X 54 = none
  number : X 146 = none
  err : X 51 = none
  int : X 92 = none
  ain : X 170 = none
  minus : X 152 = none
section
variable {X : VOuter}
theorem first2_c (h : AOff X) (t : Nat) (k n : Int) (s : ByteArray) (k' n' : Int) (s' : ByteArray) {S : VH} {K : VCont} : Vcallee Tryd.prog X 54 [vo (t, none) 3 0 [.agg ⟨[.int .i64 k, .int .i64 n, .string s]⟩, .agg ⟨[.int .i64 k', .int .i64 n', .string s']⟩]] S K = K (.tuple ⟨[.agg ⟨[.int .i64 (firstF [⟨k, n, s⟩, ⟨k', n', s'⟩]).1.k, .int .i64 (firstF [⟨k, n, s⟩, ⟨k', n', s'⟩]).1.n, .string (firstF [⟨k, n, s⟩, ⟨k', n', s'⟩]).1.s]⟩, .bool (firstF [⟨k, n, s⟩, ⟨k', n', s'⟩]).2]⟩) [] S [] false :=
  Vcallee_of (by have := first_p h.first h.right h.err false 1 [⟨k, n, s⟩, ⟨k', n', s'⟩] (by show 2 ≤ _; omega); exact this) rfl rfl rfl
theorem acmp_c (h : AOff X) (c : UInt8) (h1 : (c == 60) = false) (h2 : (c == 61) = false) (h3 : (c == 62) = false) (k n : Int) (s : ByteArray) (k' n' : Int) (s' : ByteArray) {S : VH} {K : VCont} : Vcallee Tryd.prog X 144 [.string ⟨#[c]⟩, .agg ⟨[.int .i64 k, .int .i64 n, .string s]⟩, .agg ⟨[.int .i64 k', .int .i64 n', .string s']⟩] S K = K (.tuple ⟨[.bool false, .bool false]⟩) [] S [] false :=
  Vcallee_of (acmp_p h.acmp h.compare h.right h.cmpi h.cmps h.cmpor h.nani h.nans c h1 h2 h3 k n s k' n' s') rfl rfl rfl
theorem sub_c (h : AOff X) (a b : Int) {S : VH} {K : VCont} : Vcallee Tryd.prog X 147 [.string ⟨#[45]⟩, .int .i64 a, .int .i64 b] S K = K (.agg ⟨[.int .i64 (subV a b).k, .int .i64 (subV a b).n, .string (subV a b).s]⟩) [] S [] false := Vcallee_of (sub_p h.reck h.ain h.err h.int a b) rfl rfl rfl
def pairF (f : Int → Int → VV) (x y : VV) : VV := if (firstF [x, y]).2 then (firstF [x, y]).1 else if !(numF x).2.2 then (numF x).2.1 else if !(numF y).2.2 then (numF y).2.1 else f (numF x).1 (numF y).1
theorem pairsub_p (h : AOff X) (k n : Int) (s : ByteArray) (k' n' : Int) (s' : ByteArray) : Vp Tryd.prog X 96 [.string ⟨#[45]⟩, .agg ⟨[.int .i64 k, .int .i64 n, .string s]⟩, .agg ⟨[.int .i64 k', .int .i64 n', .string s']⟩] (pairF subV ⟨k, n, s⟩ ⟨k', n', s'⟩).v := by
  unfold Vp
  refine Vf_text h.pair Tryd.func96 rfl (by kernel_rfl) (by show 3 ≤ _; decide) ?_
  have q1 : ((45 : UInt8) == 43) = false := rfl
  have q2 : ((45 : UInt8) == 38) = false := rfl
  have r1 : ((45 : UInt8) == 60) = false := rfl
  have r2 : ((45 : UInt8) == 61) = false := rfl
  have r3 : ((45 : UInt8) == 62) = false := rfl
  cases h1 : (firstF [⟨k, n, s⟩, ⟨k', n', s'⟩]).2
  · cases h2 : (numF ⟨k, n, s⟩).2.2
    · simp -dsimp only [↓Hold_5, ↓VWP_seq, ↓VWP_region, ↓VWP_cond, ↓VWP_ret, ↓VWP_skip, ↓VWP_block, ↓VReg_one, ↓VReg_non, ↓VReg_nil, ↓VS_move, ↓VS_assign, ↓VS_load, ↓VS_binOp, ↓VS_unOp, ↓VS_extract, ↓VS_box, ↓VS_buildSlice, ↓VS_store, ↓With_bindH, ↓With_guard, ↓Hold_1, With_some, emap_nil, emap_cons, ↓eget_map, ↓eget_eset, ↓ae_tmp, ↓ae_string, eget_zero, eget_succ, lop_extract, lop_not, asBool_bool, ↓vfinish_ret, ↓vres_nil, ↓vres_cell, vtell_eq, ret1, Option.map_some, ↓reduceIte, Nat.reduceEqDiff, reduceCtorEq, Bool.false_eq_true, decide_true, decide_false, Bool.not_false, List.getElem?_toArray, List.getElem?_cons_zero, List.getElem?_cons_succ, Nat.zero_add, Nat.add_zero, Nat.reduceAdd, Nat.reduceMul, Nat.reduceLT, Nat.reduceLeDiff, true_and, and_self, List.map_cons, List.map_nil, List.all_cons, List.all_nil, tup_int, tup_str, tup_agg, cel_agg, Bool.and_true, List.drop_zero, List.toList_toArray, List.size_toArray, List.length_cons, List.length_nil, mapOwn_agg, mapOwn_int, mapOwn_string, mapOwn_pointer, toksL_nil, toksL_cons, toks_int, toks_string, toks_agg, okv_agg, okv_int, okv_string, List.flatMap_nil, List.flatMap_cons, List.all_nil, List.all_cons, List.append_nil, List.nil_append, List.cons_append, List.map_nil, List.map_cons, Bool.and_true, Bool.and_self, Bool.not_false, beq_self_eq_true, vnext_mk, vpush_mk, vget_nil, vput_nil, cellsIn_mk, vturn_nil, vthaw_one, vthaw_nil, boxesOf_nil, vwrites_nil, List.getD_cons_zero, List.getD_cons_succ, List.set_cons_zero, List.set_cons_succ, List.length_cons, List.length_nil, List.drop_zero, List.take_succ_cons, List.take_zero, partsOk_nil, partsOk_cons, vfill_nil, vfill_cons, vbin_string, ↓vlay_free, ↓vbox_free, cellsOk_free, cellF, List.replicate_succ, List.replicate_zero, beq_self_eq_true, decide_true, decide_false, beq_self_eq_true, setAll_whole, vld48, vst48, ↓val48, vbd42, ↓vfk54, ↓vfk144, ↓vfk146, Tryd.results96, ↓first2_c h, ↓acmp_c h 45 r1 r2 r3, ↓number_c h.number h.right h.err, slit, List.cons_beq_cons, q1, q2, h1, h2]
      simp [pairF, h1, h2, VV.v]
    · cases h3 : (numF ⟨k', n', s'⟩).2.2
      · simp -dsimp only [↓Hold_5, ↓VWP_seq, ↓VWP_region, ↓VWP_cond, ↓VWP_ret, ↓VWP_skip, ↓VWP_block, ↓VReg_one, ↓VReg_non, ↓VReg_nil, ↓VS_move, ↓VS_assign, ↓VS_load, ↓VS_binOp, ↓VS_unOp, ↓VS_extract, ↓VS_box, ↓VS_buildSlice, ↓VS_store, ↓With_bindH, ↓With_guard, ↓Hold_1, With_some, emap_nil, emap_cons, ↓eget_map, ↓eget_eset, ↓ae_tmp, ↓ae_string, eget_zero, eget_succ, lop_extract, lop_not, asBool_bool, ↓vfinish_ret, ↓vres_nil, ↓vres_cell, vtell_eq, ret1, Option.map_some, ↓reduceIte, Nat.reduceEqDiff, reduceCtorEq, Bool.false_eq_true, decide_true, decide_false, Bool.not_true, Bool.not_false, List.getElem?_toArray, List.getElem?_cons_zero, List.getElem?_cons_succ, Nat.zero_add, Nat.add_zero, Nat.reduceAdd, Nat.reduceMul, Nat.reduceLT, Nat.reduceLeDiff, true_and, and_self, List.map_cons, List.map_nil, List.all_cons, List.all_nil, tup_int, tup_str, tup_agg, cel_agg, Bool.and_true, List.drop_zero, List.toList_toArray, List.size_toArray, List.length_cons, List.length_nil, mapOwn_agg, mapOwn_int, mapOwn_string, mapOwn_pointer, toksL_nil, toksL_cons, toks_int, toks_string, toks_agg, okv_agg, okv_int, okv_string, List.flatMap_nil, List.flatMap_cons, List.all_nil, List.all_cons, List.append_nil, List.nil_append, List.cons_append, List.map_nil, List.map_cons, Bool.and_true, Bool.and_self, Bool.not_true, Bool.not_false, beq_self_eq_true, vnext_mk, vpush_mk, vget_nil, vput_nil, cellsIn_mk, vturn_nil, vthaw_one, vthaw_nil, boxesOf_nil, vwrites_nil, List.getD_cons_zero, List.getD_cons_succ, List.set_cons_zero, List.set_cons_succ, List.length_cons, List.length_nil, List.drop_zero, List.take_succ_cons, List.take_zero, partsOk_nil, partsOk_cons, vfill_nil, vfill_cons, vbin_string, ↓vlay_free, ↓vbox_free, cellsOk_free, cellF, List.replicate_succ, List.replicate_zero, beq_self_eq_true, decide_true, decide_false, beq_self_eq_true, setAll_whole, vld48, vst48, ↓val48, vbd42, ↓vfk54, ↓vfk144, ↓vfk146, Tryd.results96, ↓first2_c h, ↓acmp_c h 45 r1 r2 r3, ↓number_c h.number h.right h.err, slit, List.cons_beq_cons, q1, q2, h1, h2, h3]
        simp [pairF, h1, h2, h3, VV.v]
      · simp -dsimp only [↓Hold_5, ↓VWP_seq, ↓VWP_region, ↓VWP_cond, ↓VWP_ret, ↓VWP_skip, ↓VWP_block, ↓VReg_one, ↓VReg_non, ↓VReg_nil, ↓VS_move, ↓VS_assign, ↓VS_load, ↓VS_binOp, ↓VS_unOp, ↓VS_extract, ↓VS_box, ↓VS_buildSlice, ↓VS_store, ↓With_bindH, ↓With_guard, ↓Hold_1, With_some, emap_nil, emap_cons, ↓eget_map, ↓eget_eset, ↓ae_tmp, ↓ae_string, eget_zero, eget_succ, lop_extract, lop_not, asBool_bool, ↓vfinish_ret, ↓vres_nil, ↓vres_cell, vtell_eq, ret1, Option.map_some, ↓reduceIte, Nat.reduceEqDiff, reduceCtorEq, Bool.false_eq_true, decide_true, decide_false, Bool.not_true, Bool.not_false, List.getElem?_toArray, List.getElem?_cons_zero, List.getElem?_cons_succ, Nat.zero_add, Nat.add_zero, Nat.reduceAdd, Nat.reduceMul, Nat.reduceLT, Nat.reduceLeDiff, true_and, and_self, List.map_cons, List.map_nil, List.all_cons, List.all_nil, tup_int, tup_str, tup_agg, cel_agg, Bool.and_true, List.drop_zero, List.toList_toArray, List.size_toArray, List.length_cons, List.length_nil, mapOwn_agg, mapOwn_int, mapOwn_string, mapOwn_pointer, toksL_nil, toksL_cons, toks_int, toks_string, toks_agg, okv_agg, okv_int, okv_string, List.flatMap_nil, List.flatMap_cons, List.all_nil, List.all_cons, List.append_nil, List.nil_append, List.cons_append, List.map_nil, List.map_cons, Bool.and_true, Bool.and_self, Bool.not_true, Bool.not_false, beq_self_eq_true, vnext_mk, vpush_mk, vget_nil, vput_nil, cellsIn_mk, vturn_nil, vthaw_one, vthaw_nil, boxesOf_nil, vwrites_nil, List.getD_cons_zero, List.getD_cons_succ, List.set_cons_zero, List.set_cons_succ, List.length_cons, List.length_nil, List.drop_zero, List.take_succ_cons, List.take_zero, partsOk_nil, partsOk_cons, vfill_nil, vfill_cons, vbin_string, ↓vlay_free, ↓vbox_free, cellsOk_free, cellF, List.replicate_succ, List.replicate_zero, beq_self_eq_true, decide_true, decide_false, beq_self_eq_true, setAll_whole, vld48, vst48, ↓val48, vbd42, ↓vfk54, ↓vfk144, ↓vfk146, ↓vfk147, Tryd.results96, ↓first2_c h, ↓acmp_c h 45 r1 r2 r3, ↓number_c h.number h.right h.err, ↓sub_c h, slit, List.cons_beq_cons, q1, q2, h1, h2, h3]
        simp [pairF, h1, h2, h3, VV.v]
  · simp -dsimp only [↓Hold_5, ↓VWP_seq, ↓VWP_region, ↓VWP_cond, ↓VWP_ret, ↓VReg_one, ↓VReg_non, ↓VReg_nil, ↓VS_move, ↓VS_assign, ↓VS_load, ↓VS_extract, ↓VS_box, ↓VS_buildSlice, ↓VS_store, ↓With_bindH, ↓With_guard, ↓Hold_1, With_some, emap_nil, emap_cons, ↓eget_map, ↓eget_eset, ↓ae_tmp, eget_zero, eget_succ, lop_extract, asBool_bool, ↓vfinish_ret, ↓vres_nil, ↓vres_cell, vtell_eq, ret1, Option.map_some, ↓reduceIte, Nat.reduceEqDiff, decide_true, decide_false, Bool.not_false, List.getElem?_toArray, List.getElem?_cons_zero, List.getElem?_cons_succ, Nat.zero_add, Nat.add_zero, Nat.reduceAdd, Nat.reduceMul, Nat.reduceLT, Nat.reduceLeDiff, true_and, and_self, List.map_cons, List.map_nil, List.all_cons, List.all_nil, tup_int, tup_str, tup_agg, cel_agg, List.drop_zero, List.toList_toArray, List.size_toArray, List.length_cons, List.length_nil, mapOwn_agg, mapOwn_int, mapOwn_string, mapOwn_pointer, toksL_nil, toksL_cons, toks_int, toks_string, toks_agg, okv_agg, okv_int, okv_string, List.flatMap_nil, List.flatMap_cons, List.all_nil, List.all_cons, List.append_nil, List.nil_append, List.cons_append, List.map_nil, List.map_cons, Bool.and_self, Bool.not_false, beq_self_eq_true, vnext_mk, vpush_mk, vget_nil, vput_nil, cellsIn_mk, vturn_nil, vthaw_one, vthaw_nil, boxesOf_nil, vwrites_nil, List.getD_cons_zero, List.getD_cons_succ, List.set_cons_zero, List.set_cons_succ, List.length_cons, List.length_nil, List.drop_zero, List.take_succ_cons, List.take_zero, partsOk_nil, partsOk_cons, vfill_nil, vfill_cons, ↓vlay_free, ↓vbox_free, cellsOk_free, cellF, List.replicate_succ, List.replicate_zero, beq_self_eq_true, decide_true, decide_false, beq_self_eq_true, setAll_whole, vld48, vst48, ↓val48, vbd42, ↓vfk54, Tryd.results96, ↓first2_c h, h1]
    simp [pairF, h1, VV.v]
theorem pairsub_c (h : AOff X) (k n : Int) (s : ByteArray) (k' n' : Int) (s' : ByteArray) {S : VH} {K : VCont} : Vcallee Tryd.prog X 96 [.string ⟨#[45]⟩, .agg ⟨[.int .i64 k, .int .i64 n, .string s]⟩, .agg ⟨[.int .i64 k', .int .i64 n', .string s']⟩] S K = K (.agg ⟨[.int .i64 (pairF subV ⟨k, n, s⟩ ⟨k', n', s'⟩).k, .int .i64 (pairF subV ⟨k, n, s⟩ ⟨k', n', s'⟩).n, .string (pairF subV ⟨k, n, s⟩ ⟨k', n', s'⟩).s]⟩) [] S [] false := Vcallee_of (pairsub_p h k n s k' n' s') rfl rfl rfl
theorem minus_p (h : AOff X) (k n : Int) (s : ByteArray) : Vp Tryd.prog X 152 [.agg ⟨[.int .i64 k, .int .i64 n, .string s]⟩] (pairF subV (iV 0) ⟨k, n, s⟩).v := by
  unfold Vp
  refine Vf_text h.minus Tryd.func152 rfl (by kernel_rfl) (by show 1 ≤ _; decide) ?_
  simp -dsimp only [↓VWP_seq, ↓VWP_region, ↓VWP_open, ↓VReg_one, ↓VReg_nil, ↓VS_box, ↓Hold_1, With_some, emap_nil, ↓ae_tmp, eget_zero, Bool.not_false, Nat.zero_add, Nat.add_zero, true_and, List.all_cons, List.all_nil, tup_int, tup_str, tup_agg, cel_agg, List.toList_toArray, List.length_cons, List.length_nil, toksL_nil, toksL_cons, toks_int, toks_string, okv_int, okv_string, List.all_nil, List.all_cons, List.append_nil, List.nil_append, List.cons_append, Bool.and_self, Bool.not_false, beq_self_eq_true, vnext_mk, vpush_mk, List.length_cons, List.length_nil, ↓vbox_free, cellsOk_free, cellF, beq_self_eq_true, beq_self_eq_true, ↓val48]
  first | refine Vc_open [[], [0], [], []] true (by kernel_rfl) (by kernel_rfl) (by kernel_rfl) ?_ | refine Vc_open [[], [0], [], []] false (by kernel_rfl) (by kernel_rfl) (by kernel_rfl) ?_ | refine Vc_open2 [[], [0], [], []] true (by kernel_rfl) (by kernel_rfl) (by kernel_rfl) (by kernel_rfl) ?_ | refine Vc_open2 [[], [0], [], []] false (by kernel_rfl) (by kernel_rfl) (by kernel_rfl) (by kernel_rfl) ?_
  simp -dsimp only [↓Hold_5, ↓VWP_ret, ↓VS_load, ↓VS_store, ↓With_bindH, ↓With_guard, ↓Hold_1, ↓Hold_3, With_some, emap_nil, ↓eget_eset, ↓ae_tmp, ↓ae_int, ↓ae_string, light, ↓vfinish_ret, ↓vres_nil, ↓vres_cell, vtell_eq, ret1, Option.map_some, Option.bind_some, ↓reduceIte, Nat.reduceEqDiff, Bool.false_eq_true, Nat.reduceBEq, decide_true, decide_false, Bool.not_false, List.getElem?_cons_zero, List.getElem?_cons_succ, Nat.zero_add, Nat.reduceAdd, Nat.reduceLT, Nat.reduceLeDiff, true_and, and_self, List.map_cons, List.map_nil, List.all_cons, List.all_nil, tup_int, tup_str, tup_agg, cel_agg, Bool.and_true, List.drop_zero, List.toList_toArray, List.size_toArray, List.length_cons, List.length_nil, mapOwn_agg, mapOwn_int, mapOwn_string, toksL_nil, toksL_cons, toks_int, toks_string, toks_agg, okv_agg, okv_int, okv_string, List.flatMap_nil, List.flatMap_cons, List.all_nil, List.all_cons, List.append_nil, List.nil_append, List.cons_append, List.map_nil, List.map_cons, Bool.and_true, Bool.and_self, Bool.not_false, Bool.or_false, beq_self_eq_true, vnext_mk, vget_nil, vput_nil, cellsIn_mk, vthaw_nil, vwrites_nil, List.getD_cons_zero, List.getD_cons_succ, List.set_cons_zero, List.set_cons_succ, List.length_cons, List.length_nil, List.drop_zero, List.take_succ_cons, List.take_zero, ↓vlay_free, cellsOk_free, cellF, beq_self_eq_true, decide_true, decide_false, beq_self_eq_true, setAll_whole, ↓VE_nil, ↓VE_one0, ↓VE_one1, ↓VE_non0, ↓shade_one, shade_load, shade_call, ↓vobl_load, dep_box, isGone_agg, depStep_box, vspan, List.range_succ, List.range_zero, Bool.or_true, Nat.min_def, Nat.max_def, List.reverse_cons, List.reverse_nil, vld48, vst48, ↓vfk92, ↓vfk96, Tryd.results152, ↓int_c h.int, ↓pairsub_c h]
  rfl
end
end Go.Proofs.YtmdpggecelheoaaDoor.Abs
/- Functions of numbers. -/
set_option linter.unusedVariables false
set_option linter.unusedSimpArgs false
set_option maxRecDepth 4000
set_option maxHeartbeats 0
namespace Go.Proofs.YtmdpggecelheoaaDoor.Abs
open Go
attribute [local irreducible] Hold VReg Vf Vc VWP With VStp Vcallee Vp VE
theorem amin_i (k : IntKind) (a b : Int) : amin (.int k a) (.int k b) = some (.int k (if b < a then b else a)) := by simp [amin]
theorem amax_i (k : IntKind) (a b : Int) : amax (.int k a) (.int k b) = some (.int k (if a < b then b else a)) := by simp [amax]
section
variable {X : VOuter}
theorem minus_c (h : AOff X) (k n : Int) (s : ByteArray) {S : VH} {K : VCont} : Vcallee Tryd.prog X 152 [.agg ⟨[.int .i64 k, .int .i64 n, .string s]⟩] S K = K (.agg ⟨[.int .i64 (pairF subV (iV 0) ⟨k, n, s⟩).k, .int .i64 (pairF subV (iV 0) ⟨k, n, s⟩).n, .string (pairF subV (iV 0) ⟨k, n, s⟩).s]⟩) [] S [] false := Vcallee_of (minus_p h k n s) rfl rfl rfl
theorem numbers_c (h : AOff X) (hX : X 151 = none) (c : Bool) (d : Nat) (l : List VV) (hl : l.length ≤ 1000000000) {S : VH} {K : VCont} : Vcallee Tryd.prog X 151 [sl c d 3 (l.map VV.v)] S K = K (.tuple ⟨[sl true 0 1 ((numsF l).1.map vI), .agg ⟨[.int .i64 (numsF l).2.1.k, .int .i64 (numsF l).2.1.n, .string (numsF l).2.1.s]⟩, .bool (numsF l).2.2]⟩) [] S [] false :=
  Vcallee_of (numbers_p hX h.number h.right h.err c d l hl) (by simp only [mapOwnL_cons, mapOwnL_nil, lend_sl]) (by simp only [okvL_cons, okvL_nil, okv_sl, Bool.and_true]) (by simp only [okv_tuple, List.all_cons, List.all_nil, okv_sl0, okv_agg, okv_int, okv_string, okv_bool, Bool.and_true])
theorem numbers1_c (h : AOff X) (hX : X 151 = none) (t : Nat) (k n : Int) (s : ByteArray) {S : VH} {K : VCont} : Vcallee Tryd.prog X 151 [vo (t, none) 3 0 [.agg ⟨[.int .i64 k, .int .i64 n, .string s]⟩]] S K = K (.tuple ⟨[sl true 0 1 ((numsF [⟨k, n, s⟩]).1.map vI), .agg ⟨[.int .i64 (numsF [⟨k, n, s⟩]).2.1.k, .int .i64 (numsF [⟨k, n, s⟩]).2.1.n, .string (numsF [⟨k, n, s⟩]).2.1.s]⟩, .bool (numsF [⟨k, n, s⟩]).2.2]⟩) [] S [] false :=
  Vcallee_of (by have := numbers_p hX h.number h.right h.err false 1 [⟨k, n, s⟩] (by show 1 ≤ _; omega); exact this) rfl rfl (by simp only [okv_tuple, List.all_cons, List.all_nil, okv_sl0, okv_agg, okv_int, okv_string, okv_bool, Bool.and_true])
theorem numsF_one (x : VV) : numsF [x] = if (numF x).2.2 then ([(numF x).1], zV, true) else ([], (numF x).2.1, false) := by
  unfold numsF
  cases h : (numF x).2.2 <;> simp [h]
def absF (x : VV) : VV := if (numF x).2.2 then (if (numF x).1 < 0 then pairF subV (iV 0) (iV (numF x).1) else iV (numF x).1) else (numF x).2.1
def signF (x : VV) : VV := if (numF x).2.2 then (if (numF x).1 < 0 then iV (-1) else iV (if 1 < (numF x).1 then 1 else (numF x).1)) else (numF x).2.1
theorem abs_p (h : AOff X) (hX : X 101 = none) (hX1 : X 151 = none) (c : Bool) (d : Nat) (k n : Int) (s : ByteArray) (l : List VV) : Vp Tryd.prog X 101 [sl c d 3 (((⟨k, n, s⟩ : VV) :: l).map VV.v)] (absF ⟨k, n, s⟩).v := by
  unfold Vp
  refine Vf_text hX Tryd.func101 rfl (by kernel_rfl) (by show 1 ≤ _; decide) ?_
  have hN := numsF_one ⟨k, n, s⟩
  cases h1 : (numF ⟨k, n, s⟩).2.2
  · rw [h1, if_neg (by simp)] at hN
    simp -dsimp only [↓Hold_5, ↓VWP_seq, ↓VWP_region, ↓VWP_cond, ↓VWP_ret, ↓VWP_block, ↓VReg_one, ↓VReg_non, ↓VReg_nil, ↓VS_move, ↓VS_assign, ↓VS_load, ↓VS_unOp, ↓VS_indexAddr, ↓VS_extract, ↓VS_buildSlice, ↓VS_store, ↓With_bindH, ↓With_guard, ↓Hold_1, With_some, emap_nil, emap_cons, ↓eget_map, ↓eget_eset, ↓ae_tmp, ↓ae_int, eget_zero, lop_extract, lop_not, asBool_bool, ↓vfinish_ret, ↓vres_nil, ↓vres_cell, vtell_eq, ret1, Option.map_some, ↓reduceIte, Nat.reduceEqDiff, reduceCtorEq, decide_true, decide_false, Bool.not_false, List.getElem?_toArray, List.getElem?_cons_zero, List.getElem?_cons_succ, Nat.zero_add, Nat.add_zero, Nat.reduceAdd, Nat.reduceMul, Nat.reduceLT, Nat.reduceLeDiff, true_and, and_self, List.map_cons, List.map_nil, List.all_cons, List.all_nil, tup_int, tup_str, tup_agg, cel_agg, List.drop_zero, List.toList_toArray, List.size_toArray, List.length_cons, List.length_nil, mapOwn_agg, mapOwn_int, mapOwn_string, mapOwn_pointer, toksL_nil, toksL_cons, toks_int, toks_string, toks_agg, okv_agg, okv_int, okv_string, List.flatMap_nil, List.flatMap_cons, List.all_nil, List.all_cons, List.append_nil, List.nil_append, List.cons_append, List.map_nil, List.map_cons, Bool.and_self, Bool.not_false, beq_self_eq_true, vnext_mk, vpush_mk, vget_nil, vput_nil, cellsIn_mk, vturn_nil, vthaw_one, vthaw_nil, boxesOf_nil, vwrites_nil, List.getD_cons_zero, List.getD_cons_succ, List.set_cons_zero, List.set_cons_succ, List.length_cons, List.length_nil, List.drop_zero, List.take_succ_cons, List.take_zero, vload_at, aggV_agg, partsOk_nil, partsOk_cons, vfill_nil, vfill_cons, ↓vlay_free, cellsOk_free, cellF, List.replicate_succ, List.replicate_zero, beq_self_eq_true, Int.reduceLE, Int.reduceToNat, decide_true, decide_false, beq_self_eq_true, setAll_whole, vld48, vgt48, vst48, ↓val48, vbd42, vis42, ↓vfk151, Tryd.results101, VV.v, ↓numbers1_c h hX1, hN]
    simp [absF, h1]
  · rw [h1, if_pos rfl] at hN
    by_cases h2 : (numF ⟨k, n, s⟩).1 < 0 <;> simp -dsimp only [↓Hold_5, ↓VWP_seq, ↓VWP_region, ↓VWP_cond, ↓VWP_ret, ↓VWP_skip, ↓VWP_block, ↓VReg_one, ↓VReg_non, ↓VReg_nil, ↓VS_move, ↓VS_assign, ↓VS_load, ↓VS_binOp, ↓VS_unOp, ↓VS_indexAddr, ↓VS_extract, ↓VS_buildSlice, ↓VS_store, ↓With_bindH, ↓With_guard, ↓Hold_1, With_some, emap_nil, emap_cons, ↓eget_map, ↓eget_eset, ↓ae_tmp, ↓ae_int, eget_zero, lop_extract, lop_not, asBool_bool, ↓vfinish_ret, ↓vres_nil, ↓vres_cell, vtell_eq, ret1, Option.map_some, ↓reduceIte, Nat.reduceEqDiff, reduceCtorEq, Bool.false_eq_true, decide_true, decide_false, Bool.not_true, Bool.not_false, List.getElem?_toArray, List.getElem?_cons_zero, List.getElem?_cons_succ, Nat.zero_add, Nat.add_zero, Nat.reduceAdd, Nat.reduceMul, Nat.reduceLT, Nat.reduceLeDiff, true_and, and_self, List.map_cons, List.map_nil, List.all_cons, List.all_nil, tup_int, tup_str, tup_agg, cel_agg, List.drop_zero, List.toList_toArray, List.size_toArray, List.length_cons, List.length_nil, mapOwn_agg, mapOwn_int, mapOwn_string, mapOwn_pointer, toksL_nil, toksL_cons, toks_int, toks_string, toks_agg, okv_agg, okv_int, okv_string, List.flatMap_nil, List.flatMap_cons, List.all_nil, List.all_cons, List.append_nil, List.nil_append, List.cons_append, List.map_nil, List.map_cons, Bool.and_self, Bool.not_true, Bool.not_false, beq_self_eq_true, vnext_mk, vpush_mk, vget_nil, vput_nil, cellsIn_mk, vturn_nil, vthaw_one, vthaw_nil, boxesOf_nil, vwrites_nil, List.getD_cons_zero, List.getD_cons_succ, List.set_cons_zero, List.set_cons_succ, List.length_cons, List.length_nil, List.drop_zero, List.take_succ_cons, List.take_zero, vload_at, cellV_int, aggV_agg, partsOk_nil, partsOk_cons, vfill_nil, vfill_cons, vbin_int, ↓vlay_free, cellsOk_free, cellF, List.replicate_succ, List.replicate_zero, abin_lss, beq_self_eq_true, Int.reduceLE, Int.reduceToNat, decide_true, decide_false, beq_self_eq_true, setAll_whole, vld48, vgt48, vgt3, vst48, ↓val48, vbd42, vis42, vis43, ↓vfk151, ↓vfk92, ↓vfk152, Tryd.results101, VV.v, vI, ↓numbers1_c h hX1, hN, ↓minus_c h, ↓int_c h.int, h2] <;> simp [absF, h1, h2, iV]
theorem sign_p (h : AOff X) (hX : X 102 = none) (hX1 : X 151 = none) (c : Bool) (d : Nat) (k n : Int) (s : ByteArray) (l : List VV) : Vp Tryd.prog X 102 [sl c d 3 (((⟨k, n, s⟩ : VV) :: l).map VV.v)] (signF ⟨k, n, s⟩).v := by
  unfold Vp
  refine Vf_text hX Tryd.func102 rfl (by kernel_rfl) (by show 1 ≤ _; decide) ?_
  have hN := numsF_one ⟨k, n, s⟩
  cases h1 : (numF ⟨k, n, s⟩).2.2
  · rw [h1, if_neg (by simp)] at hN
    simp -dsimp only [↓Hold_5, ↓VWP_seq, ↓VWP_region, ↓VWP_cond, ↓VWP_ret, ↓VWP_block, ↓VReg_one, ↓VReg_non, ↓VReg_nil, ↓VS_move, ↓VS_assign, ↓VS_load, ↓VS_unOp, ↓VS_indexAddr, ↓VS_extract, ↓VS_buildSlice, ↓VS_store, ↓With_bindH, ↓With_guard, ↓Hold_1, With_some, emap_nil, emap_cons, ↓eget_map, ↓eget_eset, ↓ae_tmp, ↓ae_int, eget_zero, lop_extract, lop_not, asBool_bool, ↓vfinish_ret, ↓vres_nil, ↓vres_cell, vtell_eq, ret1, Option.map_some, ↓reduceIte, Nat.reduceEqDiff, reduceCtorEq, decide_true, decide_false, Bool.not_false, List.getElem?_toArray, List.getElem?_cons_zero, List.getElem?_cons_succ, Nat.zero_add, Nat.add_zero, Nat.reduceAdd, Nat.reduceMul, Nat.reduceLT, Nat.reduceLeDiff, true_and, and_self, List.map_cons, List.map_nil, List.all_cons, List.all_nil, tup_int, tup_str, tup_agg, cel_agg, List.drop_zero, List.toList_toArray, List.size_toArray, List.length_cons, List.length_nil, mapOwn_agg, mapOwn_int, mapOwn_string, mapOwn_pointer, toksL_nil, toksL_cons, toks_int, toks_string, toks_agg, okv_agg, okv_int, okv_string, List.flatMap_nil, List.flatMap_cons, List.all_nil, List.all_cons, List.append_nil, List.nil_append, List.cons_append, List.map_nil, List.map_cons, Bool.and_self, Bool.not_false, beq_self_eq_true, vnext_mk, vpush_mk, vget_nil, vput_nil, cellsIn_mk, vturn_nil, vthaw_one, vthaw_nil, boxesOf_nil, vwrites_nil, List.getD_cons_zero, List.getD_cons_succ, List.set_cons_zero, List.set_cons_succ, List.length_cons, List.length_nil, List.drop_zero, List.take_succ_cons, List.take_zero, vload_at, aggV_agg, partsOk_nil, partsOk_cons, vfill_nil, vfill_cons, ↓vlay_free, cellsOk_free, cellF, List.replicate_succ, List.replicate_zero, beq_self_eq_true, Int.reduceLE, Int.reduceToNat, decide_true, decide_false, beq_self_eq_true, setAll_whole, vld48, vgt48, vst48, ↓val48, vbd42, vis42, ↓vfk151, Tryd.results102, VV.v, ↓numbers1_c h hX1, hN]
    simp [signF, h1]
  · rw [h1, if_pos rfl] at hN
    by_cases h2 : (numF ⟨k, n, s⟩).1 < 0 <;> simp -dsimp only [↓Hold_5, ↓VWP_seq, ↓VWP_region, ↓VWP_cond, ↓VWP_ret, ↓VWP_skip, ↓VWP_block, ↓VReg_one, ↓VReg_non, ↓VReg_nil, ↓VS_move, ↓VS_assign, ↓VS_load, ↓VS_binOp, ↓VS_unOp, ↓VS_indexAddr, ↓VS_extract, ↓VS_min, ↓VS_buildSlice, ↓VS_store, ↓With_bindH, ↓With_guard, ↓Hold_1, With_some, emap_nil, emap_cons, ↓eget_map, ↓eget_eset, ↓ae_tmp, ↓ae_int, eget_zero, lop_extract, lop_not, asBool_bool, ↓vfinish_ret, ↓vres_nil, ↓vres_cell, vtell_eq, ret1, Option.map_some, ↓reduceIte, Nat.reduceEqDiff, reduceCtorEq, Bool.false_eq_true, decide_true, decide_false, Bool.not_true, Bool.not_false, List.getElem?_toArray, List.getElem?_cons_zero, List.getElem?_cons_succ, Nat.zero_add, Nat.add_zero, Nat.reduceAdd, Nat.reduceMul, Nat.reduceLT, Nat.reduceLeDiff, true_and, and_self, List.map_cons, List.map_nil, List.all_cons, List.all_nil, tup_int, tup_str, tup_agg, cel_agg, List.drop_zero, List.toList_toArray, List.size_toArray, List.length_cons, List.length_nil, mapOwn_agg, mapOwn_int, mapOwn_string, mapOwn_pointer, toksL_nil, toksL_cons, toks_int, toks_string, toks_agg, okv_agg, okv_int, okv_string, List.flatMap_nil, List.flatMap_cons, List.all_nil, List.all_cons, List.append_nil, List.nil_append, List.cons_append, List.map_nil, List.map_cons, Bool.and_self, Bool.not_true, Bool.not_false, beq_self_eq_true, vnext_mk, vpush_mk, vget_nil, vput_nil, cellsIn_mk, vturn_nil, vthaw_one, vthaw_nil, boxesOf_nil, vwrites_nil, List.getD_cons_zero, List.getD_cons_succ, List.set_cons_zero, List.set_cons_succ, List.length_cons, List.length_nil, List.drop_zero, List.take_succ_cons, List.take_zero, vload_at, cellV_int, aggV_agg, partsOk_nil, partsOk_cons, vfill_nil, vfill_cons, vbin_int, ↓vlay_free, cellsOk_free, cellF, List.replicate_succ, List.replicate_zero, abin_lss, beq_self_eq_true, Int.reduceLE, Int.reduceToNat, decide_true, decide_false, beq_self_eq_true, setAll_whole, Int.reduceNeg, vld48, vgt48, vgt3, vst48, ↓val48, vbd42, vis42, vis43, ↓vfk151, ↓vfk92, Tryd.results102, amin_i, VV.v, vI, ↓numbers1_c h hX1, hN, ↓int_c h.int, h2] <;> simp [signF, h1, h2, iV]
end
end Go.Proofs.YtmdpggecelheoaaDoor.Abs
/- The remainder; the least and the greatest. -/
set_option linter.unusedVariables false
set_option linter.unusedSimpArgs false
set_option maxRecDepth 4000
set_option maxHeartbeats 0
namespace Go.Proofs.YtmdpggecelheoaaDoor.Abs
open Go
attribute [local irreducible] Hold VReg Vf Vc VWP With VStp Vcallee Vp VE
theorem ab_rem {P : Program} {t : TypeId} {x y : Operand} {k : IntKind} {a b : Int} (hb : b ≠ 0) : abin P .rem t x y (.int k a) (.int k b) = some (.int k (a.tmod b)) := by
  have h : pureRun P (Op.intDiv .rem k a b) = some (.int k (a.tmod b)) := by
    unfold Op.intDiv
    rw [if_neg hb]
    rfl
  have h2 : abin P .rem t x y (.int k a) (.int k b) = onlyFlat (pureRun P (Op.intDiv .rem k a b)) := by cases k <;> rfl
  rw [h2, h]
  rfl
section
variable {X : VOuter}
theorem numsF_two (x y : VV) : numsF [x, y] = if (numF x).2.2 then (if (numF y).2.2 then ([(numF x).1, (numF y).1], zV, true) else ([], (numF y).2.1, false)) else ([], (numF x).2.1, false) := by
  unfold numsF
  cases h : (numF x).2.2 <;> cases h2 : (numF y).2.2 <;> simp [h, h2]
def modF (x y : VV) : VV := if (numF x).2.2 then (if (numF y).2.2 then (if (numF y).1 = 0 then eV 2 else if (numF y).1 = -1 then iV 0 else iV ((numF x).1.tmod (numF y).1)) else (numF y).2.1) else (numF x).2.1
theorem mod_p (h : AOff X) (hX : X 103 = none) (hX1 : X 151 = none) (c : Bool) (d : Nat) (x y : VV) : Vp Tryd.prog X 103 [sl c d 3 ([x, y].map VV.v)] (modF x y).v := by
  unfold Vp
  refine Vf_text hX Tryd.func103 rfl (by kernel_rfl) (by show 1 ≤ _; decide) ?_
  have hN := numsF_two x y
  have hc := fun (S : VH) (K : VCont) => numbers_c (K := K) (S := S) h hX1 c d [x, y] (by show 2 ≤ _; omega)
  simp only [List.map_cons, List.map_nil] at hc ⊢
  cases h1 : (numF x).2.2
  · rw [h1, if_neg (by simp)] at hN
    simp -dsimp only [↓Hold_5, ↓VWP_seq, ↓VWP_region, ↓VWP_cond, ↓VWP_ret, ↓VWP_block, ↓VReg_one, ↓VReg_non, ↓VReg_nil, ↓VS_move, ↓VS_assign, ↓VS_load, ↓VS_unOp, ↓VS_extract, ↓VS_store, ↓With_bindH, ↓With_guard, ↓Hold_1, With_some, emap_nil, ↓eget_eset, ↓ae_tmp, eget_zero, lop_extract, lop_not, asBool_bool, ↓vfinish_ret, ↓vres_nil, ↓vres_cell, vtell_eq, ret1, Option.map_some, ↓reduceIte, Nat.reduceEqDiff, reduceCtorEq, decide_false, Bool.not_false, List.getElem?_toArray, List.getElem?_cons_zero, List.getElem?_cons_succ, Nat.zero_add, Nat.add_zero, Nat.reduceAdd, Nat.reduceLT, Nat.reduceLeDiff, true_and, and_self, List.map_cons, List.map_nil, List.all_cons, List.all_nil, tup_int, tup_str, tup_agg, cel_agg, List.drop_zero, List.toList_toArray, List.size_toArray, List.length_cons, List.length_nil, mapOwn_agg, mapOwn_int, mapOwn_string, toksL_nil, toksL_cons, toks_int, toks_string, toks_agg, okv_agg, okv_int, okv_string, List.flatMap_nil, List.flatMap_cons, List.all_nil, List.all_cons, List.append_nil, List.nil_append, List.cons_append, List.map_nil, List.map_cons, Bool.and_self, Bool.not_false, beq_self_eq_true, vnext_mk, vpush_mk, vget_nil, vput_nil, cellsIn_mk, vthaw_nil, vwrites_nil, List.getD_cons_zero, List.getD_cons_succ, List.set_cons_zero, List.set_cons_succ, List.length_cons, List.length_nil, List.drop_zero, List.take_succ_cons, List.take_zero, ↓vlay_free, cellsOk_free, cellF, beq_self_eq_true, decide_false, beq_self_eq_true, setAll_whole, vld48, vst48, ↓val48, ↓vfk151, Tryd.results103, ↓hc, hN]
    simp [modF, h1, VV.v]
  · rw [h1, if_pos rfl] at hN
    cases h2 : (numF y).2.2
    · rw [h2, if_neg (by simp)] at hN
      simp -dsimp only [↓Hold_5, ↓VWP_seq, ↓VWP_region, ↓VWP_cond, ↓VWP_ret, ↓VWP_block, ↓VReg_one, ↓VReg_non, ↓VReg_nil, ↓VS_move, ↓VS_assign, ↓VS_load, ↓VS_unOp, ↓VS_extract, ↓VS_store, ↓With_bindH, ↓With_guard, ↓Hold_1, With_some, emap_nil, ↓eget_eset, ↓ae_tmp, eget_zero, lop_extract, lop_not, asBool_bool, ↓vfinish_ret, ↓vres_nil, ↓vres_cell, vtell_eq, ret1, Option.map_some, ↓reduceIte, Nat.reduceEqDiff, reduceCtorEq, decide_false, Bool.not_false, List.getElem?_toArray, List.getElem?_cons_zero, List.getElem?_cons_succ, Nat.zero_add, Nat.add_zero, Nat.reduceAdd, Nat.reduceLT, Nat.reduceLeDiff, true_and, and_self, List.map_cons, List.map_nil, List.all_cons, List.all_nil, tup_int, tup_str, tup_agg, cel_agg, List.drop_zero, List.toList_toArray, List.size_toArray, List.length_cons, List.length_nil, mapOwn_agg, mapOwn_int, mapOwn_string, toksL_nil, toksL_cons, toks_int, toks_string, toks_agg, okv_agg, okv_int, okv_string, List.flatMap_nil, List.flatMap_cons, List.all_nil, List.all_cons, List.append_nil, List.nil_append, List.cons_append, List.map_nil, List.map_cons, Bool.and_self, Bool.not_false, beq_self_eq_true, vnext_mk, vpush_mk, vget_nil, vput_nil, cellsIn_mk, vthaw_nil, vwrites_nil, List.getD_cons_zero, List.getD_cons_succ, List.set_cons_zero, List.set_cons_succ, List.length_cons, List.length_nil, List.drop_zero, List.take_succ_cons, List.take_zero, ↓vlay_free, cellsOk_free, cellF, beq_self_eq_true, decide_false, beq_self_eq_true, setAll_whole, vld48, vst48, ↓val48, ↓vfk151, Tryd.results103, ↓hc, hN]
      simp [modF, h1, h2, VV.v]
    · rw [h2, if_pos rfl] at hN
      by_cases h3 : (numF y).1 = 0
      · simp -dsimp only [↓Hold_5, ↓VWP_seq, ↓VWP_region, ↓VWP_cond, ↓VWP_ret, ↓VWP_block, ↓VReg_one, ↓VReg_non, ↓VReg_nil, ↓VS_move, ↓VS_assign, ↓VS_load, ↓VS_binOp, ↓VS_unOp, ↓VS_indexAddr, ↓VS_extract, ↓VS_store, ↓With_bindH, ↓With_guard, ↓Hold_1, With_some, emap_nil, ↓eget_eset, ↓ae_tmp, ↓ae_int, eget_zero, lop_extract, lop_not, asBool_bool, ↓vfinish_ret, ↓vres_nil, ↓vres_cell, vtell_eq, ret1, Option.map_some, ↓reduceIte, Nat.reduceEqDiff, reduceCtorEq, Bool.false_eq_true, decide_false, Bool.not_true, Bool.not_false, List.getElem?_toArray, List.getElem?_cons_zero, List.getElem?_cons_succ, Nat.zero_add, Nat.add_zero, Nat.reduceAdd, Nat.reduceLT, Nat.reduceLeDiff, true_and, and_self, List.map_cons, List.map_nil, List.all_cons, List.all_nil, tup_int, tup_str, tup_agg, cel_agg, List.drop_zero, List.toList_toArray, List.size_toArray, List.length_cons, List.length_nil, mapOwn_agg, mapOwn_int, mapOwn_string, toksL_nil, toksL_cons, toks_int, toks_string, toks_agg, okv_agg, okv_int, okv_string, List.flatMap_nil, List.flatMap_cons, List.all_nil, List.all_cons, List.append_nil, List.nil_append, List.cons_append, List.map_nil, List.map_cons, Bool.and_self, Bool.not_true, Bool.not_false, beq_self_eq_true, vnext_mk, vpush_mk, vget_nil, vput_nil, cellsIn_mk, vthaw_nil, vwrites_nil, List.getD_cons_zero, List.getD_cons_succ, List.set_cons_zero, List.set_cons_succ, List.length_cons, List.length_nil, List.drop_zero, List.take_succ_cons, List.take_zero, vload_at, cellV_int, vbin_int, ↓vlay_free, cellsOk_free, cellF, abin_eql, beq_self_eq_true, Int.reduceLE, Int.reduceToNat, decide_false, beq_self_eq_true, setAll_whole, vld48, vgt3, vst48, ↓val48, vis43, ↓vfk151, ↓vfk51, Tryd.results103, ↓hc, hN, vI, h3, ↓err_c h.err]
        simp [modF, h1, h2, h3, VV.v, eV]
      · by_cases h4 : (numF y).1 = -1
        · simp -dsimp only [↓Hold_5, ↓VWP_seq, ↓VWP_region, ↓VWP_cond, ↓VWP_ret, ↓VWP_block, ↓VReg_one, ↓VReg_non, ↓VReg_nil, ↓VS_move, ↓VS_assign, ↓VS_load, ↓VS_binOp, ↓VS_unOp, ↓VS_indexAddr, ↓VS_extract, ↓VS_store, ↓With_bindH, ↓With_guard, ↓Hold_1, With_some, emap_nil, ↓eget_eset, ↓ae_tmp, ↓ae_int, eget_zero, lop_extract, lop_not, asBool_bool, ↓vfinish_ret, ↓vres_nil, ↓vres_cell, vtell_eq, ret1, Option.map_some, ↓reduceIte, Nat.reduceEqDiff, reduceCtorEq, Bool.false_eq_true, decide_false, Bool.not_true, Bool.not_false, List.getElem?_toArray, List.getElem?_cons_zero, List.getElem?_cons_succ, Nat.zero_add, Nat.add_zero, Nat.reduceAdd, Nat.reduceLT, Nat.reduceLeDiff, true_and, and_self, List.map_cons, List.map_nil, List.all_cons, List.all_nil, tup_int, tup_str, tup_agg, cel_agg, List.drop_zero, List.toList_toArray, List.size_toArray, List.length_cons, List.length_nil, mapOwn_agg, mapOwn_int, mapOwn_string, toksL_nil, toksL_cons, toks_int, toks_string, toks_agg, okv_agg, okv_int, okv_string, List.flatMap_nil, List.flatMap_cons, List.all_nil, List.all_cons, List.append_nil, List.nil_append, List.cons_append, List.map_nil, List.map_cons, Bool.and_self, Bool.not_true, Bool.not_false, beq_self_eq_true, vnext_mk, vpush_mk, vget_nil, vput_nil, cellsIn_mk, vthaw_nil, vwrites_nil, List.getD_cons_zero, List.getD_cons_succ, List.set_cons_zero, List.set_cons_succ, List.length_cons, List.length_nil, List.drop_zero, List.take_succ_cons, List.take_zero, vload_at, cellV_int, vbin_int, ↓vlay_free, cellsOk_free, cellF, abin_eql, beq_self_eq_true, Int.reduceLE, Int.reduceToNat, decide_false, beq_self_eq_true, setAll_whole, ibeq, Int.reduceNeg, vld48, vgt3, vst48, ↓val48, vis43, ↓vfk151, ↓vfk92, Tryd.results103, ↓hc, hN, vI, h4, ↓int_c h.int]
          simp [modF, h1, h2, h4, VV.v, iV]
        · simp -dsimp only [↓Hold_5, ↓VWP_seq, ↓VWP_region, ↓VWP_cond, ↓VWP_skip, ↓VWP_block, ↓VWP_open, ↓VReg_one, ↓VReg_non, ↓VReg_nil, ↓VS_move, ↓VS_assign, ↓VS_load, ↓VS_binOp, ↓VS_unOp, ↓VS_indexAddr, ↓VS_extract, ↓VS_store, ↓Hold_1, With_some, emap_nil, ↓eget_eset, ↓ae_tmp, ↓ae_int, eget_zero, lop_extract, lop_not, asBool_bool, Option.map_some, ↓reduceIte, Nat.reduceEqDiff, reduceCtorEq, Bool.false_eq_true, decide_false, Bool.not_true, Bool.not_false, List.getElem?_toArray, List.getElem?_cons_zero, List.getElem?_cons_succ, Nat.zero_add, Nat.add_zero, Nat.reduceAdd, Nat.reduceLT, Nat.reduceLeDiff, and_self, List.map_cons, List.map_nil, List.all_cons, List.all_nil, tup_int, tup_str, tup_agg, cel_agg, List.toList_toArray, List.size_toArray, List.length_cons, List.length_nil, toksL_nil, toksL_cons, toks_int, toks_string, okv_int, okv_string, List.all_nil, List.all_cons, List.append_nil, List.nil_append, List.cons_append, List.map_nil, List.map_cons, Bool.and_self, Bool.not_true, Bool.not_false, beq_self_eq_true, vnext_mk, vpush_mk, vget_nil, vput_nil, cellsIn_mk, List.getD_cons_zero, List.getD_cons_succ, List.set_cons_zero, List.set_cons_succ, List.length_cons, List.length_nil, vload_at, cellV_int, vbin_int, ↓vlay_free, cellsOk_free, cellF, abin_eql, beq_self_eq_true, Int.reduceLE, Int.reduceToNat, decide_false, beq_self_eq_true, setAll_whole, ibeq, Int.reduceNeg, vgt3, vst48, ↓val48, vis43, ↓vfk151, ↓hc, hN, vI, h3, h4]
          first | refine Vc_open [[], [], [], [], [], [], [], [], []] false (by kernel_rfl) (by kernel_rfl) (by kernel_rfl) ?_ | refine Vc_open2 [[], [], [], [], [], [], [], [], []] false (by kernel_rfl) (by kernel_rfl) (by kernel_rfl) (by kernel_rfl) ?_
          simp -dsimp only [↓Hold_5, ↓VWP_ret, ↓VS_move, ↓VS_load, ↓VS_binOp, ↓VS_indexAddr, ↓VS_store, ↓With_bindH, ↓With_guard, ↓Hold_1, ↓Hold_3, With_some, emap_nil, ↓eget_eset, ↓ae_tmp, ↓ae_int, light, ↓vfinish_ret, ↓vres_nil, ↓vres_cell, vtell_eq, ret1, Option.map_some, ↓reduceIte, Nat.reduceEqDiff, Bool.false_eq_true, decide_false, Bool.not_false, List.getElem?_cons_zero, List.getElem?_cons_succ, Nat.zero_add, Nat.reduceAdd, Nat.reduceLT, Nat.reduceLeDiff, true_and, and_self, List.map_cons, List.map_nil, List.all_cons, List.all_nil, tup_int, tup_str, tup_agg, cel_agg, List.drop_zero, List.toList_toArray, List.size_toArray, List.length_cons, List.length_nil, mapOwn_agg, mapOwn_int, mapOwn_string, toksL_nil, toksL_cons, toks_int, toks_string, toks_agg, okv_agg, okv_int, okv_string, List.flatMap_nil, List.flatMap_cons, List.all_nil, List.all_cons, List.append_nil, List.nil_append, List.cons_append, List.map_nil, List.map_cons, Bool.and_self, Bool.not_false, beq_self_eq_true, vnext_mk, vget_nil, vput_nil, cellsIn_mk, vthaw_nil, vwrites_nil, List.getD_cons_zero, List.set_cons_zero, List.length_cons, List.length_nil, List.drop_zero, List.take_succ_cons, List.take_zero, vload_at, cellV_int, vbin_int, ↓vlay_free, cellsOk_free, cellF, beq_self_eq_true, Int.reduceLE, Int.reduceToNat, decide_false, beq_self_eq_true, setAll_whole, ↓VE_nil, ↓VE_one0, ↓VE_non0, List.reverse_cons, List.reverse_nil, vld48, vgt3, vst48, vis43, ↓vfk92, Tryd.results103, ↓int_c h.int, ab_rem h3]
          simp [modF, h1, h2, h3, h4, VV.v, iV]
def bestF (F : Int → Int → Int) : List Int → Int
  | [] => 0
  | a :: r => r.foldl F (F a a)
theorem bestF_take (F : Int → Int → Int) (N : List Int) (i : Nat) (h : i < N.length) : bestF F (N.take (i + 1)) = F (if (i : Int) = 0 then N[i] else bestF F (N.take i)) N[i] := by
  cases i with
  | zero =>
    cases N with
    | nil => simp at h
    | cons a r => simp [bestF]
  | succ i =>
    cases N with
    | nil => simp at h
    | cons a r =>
      have hr : i < r.length := by simpa using h
      rw [List.take_succ_cons, List.take_succ_cons]
      have h2 : ¬ (((i + 1 : Nat) : Int) = 0) := by omega
      rw [if_neg h2]
      simp only [bestF, List.getElem_cons_succ]
      rw [← List.take_append_getElem hr, List.foldl_append]
      rfl
theorem ints_c (hX : X 93 = none) (c : Bool) (d : Nat) (l : List VV) (hl : l.length ≤ 1000000000) {S : VH} {K : VCont} : Vcallee Tryd.prog X 93 [sl c d 3 (l.map VV.v)] S K = K (sl true 0 1 ((intsF l).map vI)) [] S [] false :=
  Vcallee_of (ints_p hX c d l hl) (by simp only [mapOwnL_cons, mapOwnL_nil, lend_sl]) (by simp only [okvL_cons, okvL_nil, okv_sl, Bool.and_true]) (okv_sl0 _ _ _ _ _)
theorem best_p (h : AOff X) (hX : X 87 = none) (hX1 : X 93 = none) (g : FuncId) (F : Int → Int → Int) (hg : funcOk Tryd.prog g = true) (hF : ∀ a b S K, Vcallee Tryd.prog X g [.int .i64 a, .int .i64 b] S K = K (.int .i64 (F a b)) [] S [] false) (c : Bool) (d : Nat) (l : List VV) (hl : l.length ≤ 1000000000) : Vp Tryd.prog X 87 [sl c d 3 (l.map VV.v), .func (.func g) #[] #[]] (iV (bestF F (intsF l))).v := by
  unfold Vp
  refine Vf_text hX Tryd.func87 rfl (by kernel_rfl) (by show 2 ≤ _; decide) ?_
  have hlen := intsF_len l
  simp -dsimp only [↓Hold_5, ↓VWP_seq, ↓VWP_region, ↓VWP_block, ↓VWP_loop, ↓VReg_one, ↓VReg_nil, ↓VS_move, ↓VS_assign, ↓VS_len, ↓Hold_1, With_some, emap_nil, ↓eget_eset, ↓ae_tmp, ↓ae_int, eget_zero, ↓reduceIte, reduceCtorEq, Nat.add_zero, List.map_cons, List.map_nil, List.length_nil, List.nil_append, List.map_nil, List.map_cons, vnext_mk, vpush_mk, List.length_nil, ↓val48, vls43, ↓vfk93, ↓ints_c hX1 c d l hl, List.length_map]
  generalize intsF l = N at *
  refine Vc_loop (fun m e S => ∃ i : Nat, m = N.length - i ∧ i ≤ N.length ∧ eget e 9 = sl true 0 1 (N.map vI) ∧ eget e 10 = .int .i64 N.length ∧ eget e 11 = .int .i64 i ∧ eget e 4 = .pointer (some { block := 0, off := 0 }) ∧ eget e 1 = .func (.func g) #[] #[] ∧ eget e 5 = .int .i64 (bestF F (N.take i)) ∧ S = ⟨[], [.cells true 48 [.int .i64 0, .int .i64 0, .string .empty]], []⟩) N.length ?_ ?_
  · refine ⟨0, rfl, Nat.zero_le _, ?_, ?_, ?_, ?_, ?_, ?_, rfl⟩ <;> simp only [↓eget_eset, eget_zero, eget_succ, ↓reduceIte, Nat.reduceEqDiff] <;> rfl
  · rintro m e S ⟨i, rfl, hi, e9, e10, e11, e4, e1, e5, rfl⟩
    refine VWP_Vc _ _ _ _ ?_
    by_cases hin : i < N.length
    · have hlt : (i : Int) < N.length := by omega
      have h0 : (0 : Int) ≤ i := by omega
      have hx : (N.map vI)[i]? = some (.int .i64 N[i]) := by simp [hin, vI]
      have ht := bestF_take F N i hin
      have hnum : ((i : Int) + 1) = ((i + 1 : Nat) : Int) := by omega
      have hwr : IntKind.i64.wrap ((i : Int) + 1) = ((i + 1 : Nat) : Int) := by rw [hnum]; exact wrap_id (by omega) (by omega)
      generalize N[i] = x at hx ht
      by_cases hz : (i : Int) = 0
      · rw [if_pos hz] at ht
        have hz' := decide_eq_true hz
        simp -dsimp only [↓Hold_5, ↓VWP_seq, ↓VWP_region, ↓VWP_cond, ↓VWP_skip, ↓VWP_block, ↓VReg_one, ↓VReg_nil, ↓VS_move, ↓VS_assign, ↓VS_load, ↓VS_binOp, ↓VS_indexAddr, ↓VS_callv, ↓Hold_1, With_some, emap_nil, ↓eget_eset, ↓ae_tmp, ↓ae_int, asBool_bool, Option.map_some, ↓reduceIte, Nat.reduceEqDiff, decide_true, and_true, true_and, List.map_cons, List.map_nil, List.append_nil, List.nil_append, List.map_nil, List.map_cons, vload_at, cellV_int, vbin_int, asClo_fun, abin_eql, abin_lss, abin_add, Int.toNat_natCast, decide_true, ibeq, vgt3, vis43, e9, e10, e11, e4, e1, hlt, h0, hx, hz', asClo_fun, hg, ↓hF]
        exact ⟨N.length - (i + 1), by omega, i + 1, rfl, by omega, by rw [hwr], by rw [ht]⟩
      · rw [if_neg hz] at ht
        simp -dsimp only [↓Hold_5, ↓VWP_seq, ↓VWP_region, ↓VWP_cond, ↓VWP_skip, ↓VWP_block, ↓VReg_one, ↓VReg_nil, ↓VS_move, ↓VS_assign, ↓VS_load, ↓VS_binOp, ↓VS_indexAddr, ↓VS_callv, ↓Hold_1, With_some, emap_nil, ↓eget_eset, ↓ae_tmp, ↓ae_int, asBool_bool, Option.map_some, ↓reduceIte, Nat.reduceEqDiff, Bool.false_eq_true, decide_true, decide_false, and_true, true_and, List.map_cons, List.map_nil, List.append_nil, List.nil_append, List.map_nil, List.map_cons, vload_at, cellV_int, vbin_int, asClo_fun, abin_eql, abin_lss, abin_add, Int.toNat_natCast, decide_true, decide_false, ibeq, vgt3, vis43, e9, e10, e11, e4, e1, e5, hlt, h0, hx, hz, asClo_fun, hg, ↓hF]
        exact ⟨N.length - (i + 1), by omega, i + 1, rfl, by omega, by rw [hwr], by rw [ht]⟩
    · obtain rfl : i = N.length := by omega
      have hlt : ¬ ((N.length : Int) < N.length) := by omega
      simp -dsimp only [↓Hold_5, ↓VWP_seq, ↓VWP_region, ↓VWP_cond, ↓VWP_ret, ↓VWP_exit, ↓VReg_one, ↓VReg_non, ↓VReg_nil, ↓VS_move, ↓VS_binOp, ↓VS_store, ↓With_bindH, ↓With_guard, ↓Hold_1, ↓Hold_3, With_some, emap_nil, ↓eget_eset, ↓ae_tmp, asBool_bool, ↓vfinish_ret, ↓vres_nil, ↓vres_cell, vtell_eq, ret1, Option.map_some, ↓reduceIte, Nat.reduceEqDiff, Bool.false_eq_true, decide_false, Bool.not_false, Nat.zero_add, Nat.reduceAdd, Nat.reduceLT, Nat.reduceLeDiff, true_and, and_self, List.map_cons, List.map_nil, List.all_cons, List.all_nil, tup_int, tup_str, tup_agg, cel_agg, List.drop_zero, List.toList_toArray, List.size_toArray, List.length_cons, List.length_nil, mapOwn_agg, mapOwn_int, mapOwn_string, toksL_nil, toksL_cons, toks_int, toks_string, toks_agg, okv_agg, okv_int, okv_string, List.flatMap_nil, List.flatMap_cons, List.all_nil, List.all_cons, List.append_nil, List.map_nil, List.map_cons, Bool.and_self, Bool.not_false, beq_self_eq_true, vnext_mk, vget_nil, vput_nil, cellsIn_mk, vthaw_nil, vwrites_nil, List.getD_cons_zero, List.set_cons_zero, List.length_cons, List.length_nil, List.drop_zero, List.take_succ_cons, List.take_zero, vbin_int, ↓vlay_free, cellsOk_free, cellF, abin_lss, beq_self_eq_true, decide_false, beq_self_eq_true, setAll_whole, vld48, vst48, ↓vfk92, Tryd.results87, e10, e11, e4, e5, hlt, List.take_length, ↓int_c h.int]
      rfl
def minI (a b : Int) : Int := if b < a then b else a
def maxI (a b : Int) : Int := if a < b then b else a
theorem least_p (hX : X 88 = none) (a b : Int) : Vp Tryd.prog X 88 [.int .i64 a, .int .i64 b] (.int .i64 (minI a b)) := by
  unfold Vp
  refine Vf_text hX Tryd.func88 rfl (by kernel_rfl) (by show 2 ≤ _; decide) ?_
  simp -dsimp only [↓VWP_seq, ↓VWP_region, ↓VWP_ret, ↓VReg_one, ↓VReg_nil, ↓VS_move, ↓VS_assign, ↓VS_min, ↓With_guard, ↓Hold_1, With_some, emap_nil, ↓eget_eset, ↓ae_tmp, ↓ae_int, eget_zero, eget_succ, ↓vfinish_ret, ↓vres_nil, ↓vres_tmp, vtell_eq, ret1, Option.map_some, Option.bind_some, ↓reduceIte, Nat.reduceEqDiff, reduceCtorEq, true_and, List.toList_toArray, List.length_nil, mapOwn_int, toks_int, okv_int, vthaw_nil, vwrites_nil, List.length_nil, Tryd.results88, amin_i]
  simp [minI]
theorem great_p (hX : X 90 = none) (a b : Int) : Vp Tryd.prog X 90 [.int .i64 a, .int .i64 b] (.int .i64 (maxI a b)) := by
  unfold Vp
  refine Vf_text hX Tryd.func90 rfl (by kernel_rfl) (by show 2 ≤ _; decide) ?_
  simp -dsimp only [↓VWP_seq, ↓VWP_region, ↓VWP_ret, ↓VReg_one, ↓VReg_nil, ↓VS_move, ↓VS_assign, ↓VS_max, ↓With_guard, ↓Hold_1, With_some, emap_nil, ↓eget_eset, ↓ae_tmp, ↓ae_int, eget_zero, eget_succ, ↓vfinish_ret, ↓vres_nil, ↓vres_tmp, vtell_eq, ret1, Option.map_some, Option.bind_some, ↓reduceIte, Nat.reduceEqDiff, reduceCtorEq, true_and, List.toList_toArray, List.length_nil, mapOwn_int, toks_int, okv_int, vthaw_nil, vwrites_nil, List.length_nil, Tryd.results90, amax_i]
  simp [maxI]
theorem bestmin_c (h : AOff X) (hX : X 87 = none) (hX1 : X 93 = none) (hX2 : X 88 = none) (c : Bool) (d : Nat) (l : List VV) (hl : l.length ≤ 1000000000) {S : VH} {K : VCont} : Vcallee Tryd.prog X 87 [sl c d 3 (l.map VV.v), .func (.func 88) #[] #[]] S K = K (.agg ⟨[.int .i64 1, .int .i64 (bestF minI (intsF l)), .string .empty]⟩) [] S [] false :=
  Vcallee_of (best_p h hX hX1 88 minI (by kernel_rfl) (fun a b S K => Vcallee_of (least_p hX2 a b) rfl rfl rfl) c d l hl) (by simp only [mapOwnL_cons, mapOwnL_nil, lend_sl]; rfl) (by simp only [okvL_cons, okvL_nil, okv_sl, Bool.and_true]; rfl) rfl
theorem bestmax_c (h : AOff X) (hX : X 87 = none) (hX1 : X 93 = none) (hX2 : X 90 = none) (c : Bool) (d : Nat) (l : List VV) (hl : l.length ≤ 1000000000) {S : VH} {K : VCont} : Vcallee Tryd.prog X 87 [sl c d 3 (l.map VV.v), .func (.func 90) #[] #[]] S K = K (.agg ⟨[.int .i64 1, .int .i64 (bestF maxI (intsF l)), .string .empty]⟩) [] S [] false :=
  Vcallee_of (best_p h hX hX1 90 maxI (by kernel_rfl) (fun a b S K => Vcallee_of (great_p hX2 a b) rfl rfl rfl) c d l hl) (by simp only [mapOwnL_cons, mapOwnL_nil, lend_sl]; rfl) (by simp only [okvL_cons, okvL_nil, okv_sl, Bool.and_true]; rfl) rfl
theorem min_p (h : AOff X) (hX0 : X 86 = none) (hX : X 87 = none) (hX1 : X 93 = none) (hX2 : X 88 = none) (c : Bool) (d : Nat) (l : List VV) (hl : l.length ≤ 1000000000) : Vp Tryd.prog X 86 [sl c d 3 (l.map VV.v)] (iV (bestF minI (intsF l))).v := by
  unfold Vp
  refine Vf_text hX0 Tryd.func86 rfl (by kernel_rfl) (by show 1 ≤ _; decide) ?_
  simp -dsimp only [↓Hold_5, ↓VWP_seq, ↓VWP_region, ↓VWP_ret, ↓VReg_one, ↓VReg_non, ↓VReg_nil, ↓VS_move, ↓VS_store, ↓With_bindH, ↓With_guard, ↓Hold_1, With_some, emap_nil, ↓eget_eset, ↓ae_tmp, ↓ae_func, eget_zero, ↓vfinish_ret, ↓vres_nil, ↓vres_cell, vtell_eq, ret1, Option.map_some, ↓reduceIte, Nat.reduceEqDiff, reduceCtorEq, decide_false, Bool.not_false, Nat.zero_add, Nat.add_zero, Nat.reduceAdd, Nat.reduceLT, Nat.reduceLeDiff, true_and, and_self, List.map_cons, List.map_nil, List.all_cons, List.all_nil, tup_int, tup_str, tup_agg, cel_agg, List.drop_zero, List.toList_toArray, List.size_toArray, List.length_cons, List.length_nil, mapOwn_agg, mapOwn_int, mapOwn_string, toksL_nil, toksL_cons, toks_int, toks_string, toks_agg, okv_agg, okv_int, okv_string, List.flatMap_nil, List.flatMap_cons, List.all_nil, List.all_cons, List.append_nil, List.nil_append, List.map_nil, List.map_cons, Bool.and_self, Bool.not_false, beq_self_eq_true, vnext_mk, vpush_mk, vget_nil, vput_nil, cellsIn_mk, vthaw_nil, vwrites_nil, List.getD_cons_zero, List.set_cons_zero, List.length_cons, List.length_nil, List.drop_zero, List.take_succ_cons, List.take_zero, ↓vlay_free, cellsOk_free, cellF, beq_self_eq_true, decide_false, beq_self_eq_true, setAll_whole, vld48, vst48, ↓val48, ↓vfk87, Tryd.results86, ↓bestmin_c h hX hX1 hX2 c d l hl]
  rfl
theorem max_p (h : AOff X) (hX0 : X 89 = none) (hX : X 87 = none) (hX1 : X 93 = none) (hX2 : X 90 = none) (c : Bool) (d : Nat) (l : List VV) (hl : l.length ≤ 1000000000) : Vp Tryd.prog X 89 [sl c d 3 (l.map VV.v)] (iV (bestF maxI (intsF l))).v := by
  unfold Vp
  refine Vf_text hX0 Tryd.func89 rfl (by kernel_rfl) (by show 1 ≤ _; decide) ?_
  simp -dsimp only [↓Hold_5, ↓VWP_seq, ↓VWP_region, ↓VWP_ret, ↓VReg_one, ↓VReg_non, ↓VReg_nil, ↓VS_move, ↓VS_store, ↓With_bindH, ↓With_guard, ↓Hold_1, With_some, emap_nil, ↓eget_eset, ↓ae_tmp, ↓ae_func, eget_zero, ↓vfinish_ret, ↓vres_nil, ↓vres_cell, vtell_eq, ret1, Option.map_some, ↓reduceIte, Nat.reduceEqDiff, reduceCtorEq, decide_false, Bool.not_false, Nat.zero_add, Nat.add_zero, Nat.reduceAdd, Nat.reduceLT, Nat.reduceLeDiff, true_and, and_self, List.map_cons, List.map_nil, List.all_cons, List.all_nil, tup_int, tup_str, tup_agg, cel_agg, List.drop_zero, List.toList_toArray, List.size_toArray, List.length_cons, List.length_nil, mapOwn_agg, mapOwn_int, mapOwn_string, toksL_nil, toksL_cons, toks_int, toks_string, toks_agg, okv_agg, okv_int, okv_string, List.flatMap_nil, List.flatMap_cons, List.all_nil, List.all_cons, List.append_nil, List.nil_append, List.map_nil, List.map_cons, Bool.and_self, Bool.not_false, beq_self_eq_true, vnext_mk, vpush_mk, vget_nil, vput_nil, cellsIn_mk, vthaw_nil, vwrites_nil, List.getD_cons_zero, List.set_cons_zero, List.length_cons, List.length_nil, List.drop_zero, List.take_succ_cons, List.take_zero, ↓vlay_free, cellsOk_free, cellF, beq_self_eq_true, decide_false, beq_self_eq_true, setAll_whole, vld48, vst48, ↓val48, ↓vfk87, Tryd.results89, ↓bestmax_c h hX hX1 hX2 c d l hl]
  rfl
end
end Go.Proofs.YtmdpggecelheoaaDoor.Abs
/- How many rows a function takes. -/
set_option linter.unusedVariables false
set_option linter.unusedSimpArgs false
set_option maxRecDepth 4000
set_option maxHeartbeats 0
namespace Go.Proofs.YtmdpggecelheoaaDoor.Abs
open Go
attribute [local irreducible] Hold VReg Vf Vc VWP With VStp Vcallee Vp VE
def fitsF (n : Int) (rs : List RW) : Bool :=
  if n = -1 then true else
  if n = -2 then decide ((2 : Int) ≤ rs.length) && singleF rs else
  if n = -3 then decide ((rs.length : Int) = 2) && singleF (rs.take 1) else decide ((rs.length : Int) = n) && singleF rs
section
variable {X : VOuter}
theorem single_c (hX : X 71 = none) (c : Bool) (d d' : Nat) (l : List RW) (hl : l.length ≤ 1000000000) {S : VH} {K : VCont} : Vcallee Tryd.prog X 71 [sl c d 1 (l.map (RW.v d'))] S K = K (.bool (singleF l)) [] S [] false :=
  Vcallee_of (single_p hX c d d' l hl) (by simp only [mapOwnL_cons, mapOwnL_nil, lend_sl]) (by simp only [okvL_cons, okvL_nil, okv_sl, Bool.and_true]) rfl
theorem fits_p (hX : X 52 = none) (hX1 : X 71 = none) (n : Int) (b : Bool) (g : FuncId) (c : Bool) (d d' : Nat) (l : List RW) (hl : l.length ≤ 1000000000) : Vp Tryd.prog X 52 [.agg ⟨[.int .i64 n, .bool b, .func (.func g) #[] #[]]⟩, sl c d 1 (l.map (RW.v d'))] (.bool (fitsF n l)) := by
  unfold Vp
  refine Vf_text hX Tryd.func52 rfl (by kernel_rfl) (by show 2 ≤ _; decide) ?_
  by_cases n1 : n = -1
  · subst n1
    simp -dsimp only [↓VWP_seq, ↓VWP_region, ↓VWP_cond, ↓VWP_ret, ↓VWP_block, ↓VReg_one, ↓VReg_nil, ↓VS_assign, ↓VS_load, ↓VS_binOp, ↓VS_fieldAddr, ↓VS_box, ↓With_guard, ↓Hold_1, With_some, emap_nil, ↓eget_eset, ↓ae_tmp, ↓ae_int, ↓ae_bool, eget_zero, asBool_bool, ↓vfinish_ret, ↓vres_nil, ↓vres_tmp, vtell_eq, ret1, Option.map_some, Option.bind_some, ↓reduceIte, Nat.reduceEqDiff, Bool.not_false, List.getElem?_cons_zero, Nat.add_zero, true_and, List.all_cons, List.all_nil, tup_int, tup_bool, tup_func, tup_agg, cel_agg, List.toList_toArray, List.length_nil, mapOwn_bool, toksL_nil, toksL_cons, toks_int, toks_bool, toks_clo, okv_clo, okv_bool, okv_int, List.flatMap_nil, List.all_nil, List.all_cons, List.append_nil, List.nil_append, Bool.and_self, Bool.not_false, beq_self_eq_true, vnext_mk, vpush_mk, vget_nil, cellsIn_mk, vthaw_nil, vwrites_nil, List.getD_cons_zero, List.length_nil, vbin_int, ↓vbox_free, cellsOk_free, cellF, abin_eql, beq_self_eq_true, beq_self_eq_true, Int.reduceNeg, vld3, vfp75_0, Tryd.results52]
    rfl
  · by_cases n2 : n = -2
    · subst n2
      by_cases h1 : (2 : Int) ≤ l.length <;> simp -dsimp only [↓Hold_5, ↓VWP_seq, ↓VWP_region, ↓VWP_cond, ↓VWP_ret, ↓VWP_block, ↓VReg_one, ↓VReg_nil, ↓VS_guard, ↓VS_move, ↓VS_assign, ↓VS_pick, ↓VS_load, ↓VS_binOp, ↓VS_fieldAddr, ↓VS_len, ↓VS_box, ↓With_guard, ↓Hold_1, With_some, emap_nil, ↓eget_eset, ↓ae_tmp, ↓ae_int, ↓ae_bool, eget_zero, eget_succ, lop_pick, asBool_bool, asGuard_bool, bb_ft, ayielded_eq, ↓dstAt_zero, ↓dstAt_succ, ↓vfinish_ret, ↓vres_nil, ↓vres_tmp, vtell_eq, ret1, Option.map_some, Option.bind_some, ↓reduceIte, Nat.reduceEqDiff, Bool.false_eq_true, decide_true, decide_false, Bool.not_false, List.getElem?_cons_zero, Nat.add_zero, true_and, List.map_cons, List.map_nil, List.all_cons, List.all_nil, tup_int, tup_bool, tup_func, tup_agg, cel_agg, List.toList_toArray, List.length_nil, mapOwn_bool, toksL_nil, toksL_cons, toks_int, toks_bool, toks_clo, okv_clo, okv_bool, okv_int, List.flatMap_nil, List.all_nil, List.all_cons, List.append_nil, List.nil_append, List.map_nil, List.map_cons, Bool.and_self, Bool.not_false, beq_self_eq_true, vnext_mk, vpush_mk, vget_nil, cellsIn_mk, vthaw_nil, vwrites_nil, List.getD_cons_zero, List.length_nil, vbin_int, ↓vbox_free, cellsOk_free, cellF, abin_eql, abin_geq, beq_self_eq_true, ge_iff_le, decide_true, decide_false, beq_self_eq_true, bb_ft, ibeq, Int.reduceEq, Int.reduceNeg, vld3, vfp75_0, vls46, ↓vfk71, Tryd.results52, List.length_map, h1, ↓single_c hX1 c d d' l hl] <;> simp [fitsF, h1]
    · by_cases n3 : n = -3
      · subst n3
        by_cases h1 : (l.length : Int) = 2
        · have h2 : l.length = 2 := by omega
          have hs := fun S K => single_c (S := S) (K := K) hX1 (c && (l.map (RW.v d')).isEmpty) d d' (l.take 1) (by rw [List.length_take]; omega)
          rw [List.map_take] at hs
          simp -dsimp only [↓Hold_5, ↓VWP_seq, ↓VWP_region, ↓VWP_cond, ↓VWP_ret, ↓VWP_block, ↓VReg_one, ↓VReg_nil, ↓VS_guard, ↓VS_move, ↓VS_assign, ↓VS_pick, ↓VS_load, ↓VS_binOp, ↓VS_slice, ↓VS_fieldAddr, ↓VS_len, ↓VS_box, ↓With_guard, ↓Hold_1, With_some, emap_nil, ↓eget_eset, ↓ae_tmp, ↓ae_int, ↓ae_bool, eget_zero, eget_succ, lop_pick, asBool_bool, asGuard_bool, ayielded_eq, ↓dstAt_zero, ↓dstAt_succ, ↓vfinish_ret, ↓vres_nil, ↓vres_tmp, vtell_eq, ret1, Option.map_some, Option.bind_some, Option.map_none, ↓reduceIte, Nat.reduceEqDiff, Bool.false_eq_true, decide_false, Bool.not_false, List.getElem?_cons_zero, Nat.add_zero, true_and, and_self, List.map_cons, List.map_nil, List.all_cons, List.all_nil, tup_int, tup_bool, tup_func, tup_agg, cel_agg, List.drop_zero, List.toList_toArray, List.length_nil, mapOwn_bool, toksL_nil, toksL_cons, toks_int, toks_bool, toks_clo, okv_clo, okv_bool, okv_int, List.flatMap_nil, List.all_nil, List.all_cons, List.append_nil, List.nil_append, List.map_nil, List.map_cons, Bool.and_self, Bool.not_false, beq_self_eq_true, vnext_mk, vpush_mk, vget_nil, cellsIn_mk, vthaw_nil, vwrites_nil, List.getD_cons_zero, List.length_nil, List.drop_zero, vbin_int, ↓vbox_free, cellsOk_free, cellF, abin_eql, beq_self_eq_true, Int.reduceLE, Int.reduceToNat, Int.reduceSub, decide_false, beq_self_eq_true, ibeq, Int.reduceEq, Int.reduceNeg, abound_none, abound_some, vld3, vfp75_0, vcs46, vls46, ↓vfk71, Tryd.results52, List.length_map, h1, ↓hs]
          simp [fitsF, h1]
        · simp -dsimp only [↓VWP_seq, ↓VWP_region, ↓VWP_cond, ↓VWP_ret, ↓VWP_block, ↓VReg_one, ↓VReg_nil, ↓VS_guard, ↓VS_move, ↓VS_assign, ↓VS_pick, ↓VS_load, ↓VS_binOp, ↓VS_fieldAddr, ↓VS_len, ↓VS_box, ↓With_guard, ↓Hold_1, With_some, emap_nil, ↓eget_eset, ↓ae_tmp, ↓ae_int, ↓ae_bool, eget_zero, eget_succ, lop_pick, asBool_bool, asGuard_bool, bb_ft, ayielded_eq, ↓dstAt_zero, ↓dstAt_succ, ↓vfinish_ret, ↓vres_nil, ↓vres_tmp, vtell_eq, ret1, Option.map_some, Option.bind_some, ↓reduceIte, Nat.reduceEqDiff, Bool.false_eq_true, decide_false, Bool.not_false, List.getElem?_cons_zero, Nat.add_zero, true_and, List.all_cons, List.all_nil, tup_int, tup_bool, tup_func, tup_agg, cel_agg, List.toList_toArray, List.length_nil, mapOwn_bool, toksL_nil, toksL_cons, toks_int, toks_bool, toks_clo, okv_clo, okv_bool, okv_int, List.flatMap_nil, List.all_nil, List.all_cons, List.append_nil, List.nil_append, Bool.and_self, Bool.not_false, beq_self_eq_true, vnext_mk, vpush_mk, vget_nil, cellsIn_mk, vthaw_nil, vwrites_nil, List.getD_cons_zero, List.length_nil, vbin_int, ↓vbox_free, cellsOk_free, cellF, abin_eql, beq_self_eq_true, decide_false, beq_self_eq_true, bb_ft, ibeq, Int.reduceEq, Int.reduceNeg, vld3, vfp75_0, vls46, Tryd.results52, List.length_map, h1]
          simp [fitsF, h1]
      · by_cases h1 : (l.length : Int) = n <;> simp -dsimp only [↓Hold_5, ↓VWP_seq, ↓VWP_region, ↓VWP_cond, ↓VWP_ret, ↓VWP_skip, ↓VWP_block, ↓VReg_one, ↓VReg_nil, ↓VS_guard, ↓VS_move, ↓VS_assign, ↓VS_pick, ↓VS_load, ↓VS_binOp, ↓VS_fieldAddr, ↓VS_len, ↓VS_box, ↓With_guard, ↓Hold_1, With_some, emap_nil, ↓eget_eset, ↓ae_tmp, ↓ae_int, ↓ae_bool, eget_zero, eget_succ, lop_pick, asBool_bool, asGuard_bool, bb_ft, ayielded_eq, ↓dstAt_zero, ↓dstAt_succ, ↓vfinish_ret, ↓vres_nil, ↓vres_tmp, vtell_eq, ret1, Option.map_some, Option.bind_some, ↓reduceIte, Nat.reduceEqDiff, Bool.false_eq_true, decide_false, Bool.not_false, List.getElem?_cons_zero, Nat.add_zero, true_and, List.map_cons, List.map_nil, List.all_cons, List.all_nil, tup_int, tup_bool, tup_func, tup_agg, cel_agg, List.toList_toArray, List.length_nil, mapOwn_bool, toksL_nil, toksL_cons, toks_int, toks_bool, toks_clo, okv_clo, okv_bool, okv_int, List.flatMap_nil, List.all_nil, List.all_cons, List.append_nil, List.nil_append, List.map_nil, List.map_cons, Bool.and_self, Bool.not_false, beq_self_eq_true, vnext_mk, vpush_mk, vget_nil, cellsIn_mk, vthaw_nil, vwrites_nil, List.getD_cons_zero, List.length_nil, vbin_int, ↓vbox_free, cellsOk_free, cellF, abin_eql, beq_self_eq_true, decide_false, beq_self_eq_true, bb_ft, ibeq, Int.reduceNeg, vld3, vfp75_0, vls46, ↓vfk71, Tryd.results52, List.length_map, n1, n2, n3, h1, ↓single_c hX1 c d d' l hl] <;> simp [fitsF, n1, n2, n3, h1]
end
end Go.Proofs.YtmdpggecelheoaaDoor.Abs
/- A call of a function by its name. -/
set_option linter.unusedVariables false
set_option linter.unusedSimpArgs false
set_option maxRecDepth 4000
set_option maxHeartbeats 0
namespace Go.Proofs.YtmdpggecelheoaaDoor.Abs
open Go
attribute [local irreducible] Hold VReg Vf Vc VWP With VStp Vcallee Vp VE
def fixV (x : VV) : VV := if rightF x then x else eV 3
def flatF (rs : List RW) : List VV := rs.flatMap fun r => r.l.map fixV
theorem flatF_take (rs : List RW) (i : Nat) (h : i < rs.length) : flatF (rs.take (i + 1)) = flatF (rs.take i) ++ rs[i].l.map fixV := by
  rw [← List.take_append_getElem h]
  unfold flatF
  rw [List.flatMap_append, List.flatMap_cons, List.flatMap_nil, List.append_nil]
theorem flatF_len (rs : List RW) (i : Nat) (h : i < rs.length) : (flatF (rs.take i)).length + rs[i].l.length ≤ (flatF rs).length := by
  have e : rs = rs.take (i + 1) ++ rs.drop (i + 1) := by simp
  have h2 : (flatF rs).length = (flatF (rs.take (i + 1))).length + (flatF (rs.drop (i + 1))).length := by
    conv => lhs; rw [e]
    unfold flatF
    rw [List.flatMap_append, List.length_append]
  rw [flatF_take rs i h] at h2
  simp at h2
  omega
theorem fix_take (l : List VV) (i : Nat) (h : i < l.length) : (l.take (i + 1)).map fixV = (l.take i).map fixV ++ [fixV l[i]] := by
  rw [← List.take_append_getElem h, List.map_append]
  rfl
def callF (n : Int) (lazy : Bool) (g : List VV → VV) (rs : List RW) : VV := if fitsF n rs then (if (firstF (flatF rs)).2 && !lazy then (firstF (flatF rs)).1 else g (flatF rs)) else eV 6
section
variable {X : VOuter}
theorem fits_c (hX : X 52 = none) (hX1 : X 71 = none) (n : Int) (b : Bool) (g : FuncId) (c : Bool) (d d' : Nat) (l : List RW) (hl : l.length ≤ 1000000000) {S : VH} {K : VCont} : Vcallee Tryd.prog X 52 [.agg ⟨[.int .i64 n, .bool b, .func (.func g) #[] #[]]⟩, sl c d 1 (l.map (RW.v d'))] S K = K (.bool (fitsF n l)) [] S [] false :=
  Vcallee_of (fits_p hX hX1 n b g c d d' l hl) (by simp only [mapOwnL_cons, mapOwnL_nil, lend_sl]; rfl) (by simp only [okvL_cons, okvL_nil, okv_sl, Bool.and_true]; rfl) rfl
theorem first_c (h : AOff X) (c : Bool) (t : Nat) (l : List VV) (hl : l.length ≤ 1000000000) {S : VH} {K : VCont} : Vcallee Tryd.prog X 54 [ol c (t, none) 3 (l.map VV.v)] S K = K (.tuple ⟨[.agg ⟨[.int .i64 (firstF l).1.k, .int .i64 (firstF l).1.n, .string (firstF l).1.s]⟩, .bool (firstF l).2]⟩) [] S [] false :=
  Vcallee_of (first_p h.first h.right h.err c 1 l hl) (by simp only [mapOwnL_cons, mapOwnL_nil, lend_ol]) (by simp only [okvL_cons, okvL_nil, okv_sl, Bool.and_true]) (by simp only [okv_tuple, List.all_cons, List.all_nil, okv_agg, okv_int, okv_string, okv_bool, Bool.and_true])
theorem call_p (h : AOff X) (hX : X 33 = none) (hX1 : X 52 = none) (hX2 : X 71 = none) (name : ByteArray) (n : Int) (lazy : Bool) (g : FuncId) (G : List VV → VV)
    (hfind : ∀ S K, Vcallee Tryd.prog X 50 [.string name] S K = K (.tuple ⟨[.agg ⟨[.int .i64 n, .bool lazy, .func (.func g) #[] #[]]⟩, .bool true]⟩) [] S [] false)
    (hg : funcOk Tryd.prog g = true) (c : Bool) (d d' : Nat) (rs : List RW) (hl : rs.length ≤ 1000000000) (hl2 : (flatF rs).length ≤ 1000000000)
    (hG : ∀ c S K, Vcallee Tryd.prog X g [ol c (46, none) 3 ((flatF rs).map VV.v)] S K = K (.agg ⟨[.int .i64 (G (flatF rs)).k, .int .i64 (G (flatF rs)).n, .string (G (flatF rs)).s]⟩) [] S [] false) : Vp Tryd.prog X 33 [.string name, sl c d 1 (rs.map (RW.v d'))] (callF n lazy G rs).v := by
  unfold Vp
  refine Vf_text hX Tryd.func33 rfl (by kernel_rfl) (by show 2 ≤ _; decide) ?_
  cases hf : fitsF n rs
  · simp -dsimp only [↓Hold_5, ↓VWP_seq, ↓VWP_region, ↓VWP_cond, ↓VWP_ret, ↓VWP_skip, ↓VReg_one, ↓VReg_non, ↓VReg_nil, ↓VS_move, ↓VS_assign, ↓VS_load, ↓VS_unOp, ↓VS_extract, ↓VS_store, ↓With_bindH, ↓With_guard, ↓Hold_1, With_some, emap_nil, ↓eget_eset, ↓ae_tmp, ↓ae_int, eget_zero, eget_succ, lop_extract, lop_not, asBool_bool, ↓vfinish_ret, ↓vres_nil, ↓vres_cell, vtell_eq, ret1, Option.map_some, ↓reduceIte, Nat.reduceEqDiff, reduceCtorEq, Bool.false_eq_true, decide_false, Bool.not_true, Bool.not_false, List.getElem?_toArray, List.getElem?_cons_zero, List.getElem?_cons_succ, Nat.zero_add, Nat.add_zero, Nat.reduceAdd, Nat.reduceLT, Nat.reduceLeDiff, true_and, and_self, List.map_cons, List.map_nil, List.all_cons, List.all_nil, tup_int, tup_bool, tup_str, tup_func, tup_agg, cel_agg, List.drop_zero, List.toList_toArray, List.size_toArray, List.length_cons, List.length_nil, mapOwn_agg, mapOwn_int, mapOwn_string, toksL_nil, toksL_cons, toks_int, toks_bool, toks_string, toks_agg, toks_clo, okv_agg, okv_clo, okv_bool, okv_int, okv_string, List.flatMap_nil, List.flatMap_cons, List.all_nil, List.all_cons, List.append_nil, List.nil_append, List.cons_append, List.map_nil, List.map_cons, Bool.and_self, Bool.not_true, Bool.not_false, beq_self_eq_true, vnext_mk, vpush_mk, vget_nil, vput_nil, cellsIn_mk, vthaw_nil, vwrites_nil, List.getD_cons_zero, List.getD_cons_succ, List.set_cons_zero, List.set_cons_succ, List.length_cons, List.length_nil, List.drop_zero, List.take_succ_cons, List.take_zero, ↓vlay_free, cellsOk_free, cellF, beq_self_eq_true, decide_false, beq_self_eq_true, setAll_whole, vld75, vld48, vst75, vst48, ↓val48, ↓val75, ↓vfk50, ↓vfk51, ↓vfk52, Tryd.results33, ↓hfind, ↓fits_c hX1 hX2 n lazy g c d d' rs hl, hf, ↓err_c h.err]
    simp [callF, hf, eV, VV.v]
  · simp -dsimp only [↓Hold_5, ↓VWP_seq, ↓VWP_region, ↓VWP_cond, ↓VWP_skip, ↓VWP_block, ↓VWP_loop, ↓VReg_one, ↓VReg_non, ↓VReg_nil, ↓VS_move, ↓VS_assign, ↓VS_load, ↓VS_unOp, ↓VS_extract, ↓VS_len, ↓VS_store, ↓Hold_1, With_some, emap_nil, ↓eget_eset, ↓ae_tmp, ↓ae_int, ↓ae_slice0, eget_zero, eget_succ, lop_extract, lop_not, asBool_bool, ↓reduceIte, Nat.reduceEqDiff, reduceCtorEq, Bool.false_eq_true, decide_false, Bool.not_true, Bool.not_false, List.getElem?_toArray, List.getElem?_cons_zero, List.getElem?_cons_succ, Nat.zero_add, Nat.add_zero, Nat.reduceAdd, Nat.reduceLT, Nat.reduceLeDiff, and_self, List.map_cons, List.map_nil, List.all_cons, List.all_nil, tup_int, tup_bool, tup_func, tup_agg, cel_agg, List.drop_zero, List.toList_toArray, List.size_toArray, List.length_cons, List.length_nil, toksL_nil, toksL_cons, toks_int, toks_bool, toks_clo, okv_clo, okv_bool, okv_int, List.flatMap_nil, List.all_nil, List.all_cons, List.append_nil, List.nil_append, List.cons_append, List.map_nil, List.map_cons, Bool.and_self, Bool.not_true, Bool.not_false, beq_self_eq_true, vnext_mk, vpush_mk, vget_nil, vput_nil, cellsIn_mk, List.getD_cons_zero, List.getD_cons_succ, List.set_cons_zero, List.set_cons_succ, List.length_cons, List.length_nil, List.drop_zero, List.take_succ_cons, List.take_zero, ↓vlay_free, cellsOk_free, cellF, beq_self_eq_true, decide_false, beq_self_eq_true, setAll_whole, vld75, vst75, ↓val48, ↓val75, vls46, ↓vfk50, ↓vfk52, ↓hfind, ↓fits_c hX1 hX2 n lazy g c d d' rs hl, hf, List.length_map]
    refine Vc_loop (fun m e S => ∃ i : Nat, m = rs.length - i ∧ i ≤ rs.length ∧ eget e 27 = sl c d 1 (rs.map (RW.v d')) ∧ eget e 28 = .int .i64 rs.length ∧ eget e 29 = .int .i64 i ∧ eget e 4 = .pointer (some { block := 0, off := 0 }) ∧ eget e 5 = .pointer (some { block := 1, off := 0 }) ∧ eget e 7 = ol true (46, none) 3 ((flatF (rs.take i)).map VV.v) ∧ ∃ J, S = ⟨[], .cells true 48 [.int .i64 0, .int .i64 0, .string .empty] :: .cells true 75 [.int .i64 n, .bool lazy, .func (.func g) #[] #[]] :: J, []⟩) rs.length ?_ ?_
    · refine ⟨0, rfl, Nat.zero_le _, ?_, ?_, ?_, ?_, ?_, ?_, [], rfl⟩ <;> simp only [↓eget_eset, ↓reduceIte, Nat.reduceEqDiff] <;> rfl
    · rintro m e S ⟨i, rfl, hi, e27, e28, e29, e4, e5, e7, J, rfl⟩
      refine VWP_Vc _ _ _ _ ?_
      by_cases hin : i < rs.length
      · have hlt : (i : Int) < rs.length := by omega
        have h0 : (0 : Int) ≤ i := by omega
        have hx : (rs.map (RW.v d'))[i]? = some (rs[i].v d') := by simp [hin]
        have ht := flatF_take rs i hin
        have hlen := flatF_len rs i hin
        have hnum : ((i : Int) + 1) = ((i + 1 : Nat) : Int) := by omega
        have hwr : IntKind.i64.wrap ((i : Int) + 1) = ((i + 1 : Nat) : Int) := by rw [hnum]; exact wrap_id (by omega) (by omega)
        generalize rs[i] = x at hx ht hlen
        obtain ⟨c', l⟩ := x
        simp only [RW.v] at hx
        dsimp only at ht hlen
        generalize flatF (rs.take i) = N at e7 ht hlen
        simp -dsimp only [cellV_sl, ↓VWP_seq, ↓VWP_region, ↓VWP_cond, ↓VWP_skip, ↓VWP_block, ↓VWP_loop, ↓VReg_one, ↓VReg_nil, ↓VS_move, ↓VS_assign, ↓VS_load, ↓VS_binOp, ↓VS_indexAddr, ↓VS_len, ↓Hold_1, With_some, emap_nil, ↓eget_eset, ↓ae_tmp, ↓ae_int, asBool_bool, Option.map_some, ↓reduceIte, Nat.reduceEqDiff, decide_true, vload_at, vbin_int, abin_lss, Int.toNat_natCast, decide_true, vgt42, vis46, vls42, e27, e28, e29, hlt, h0, hx, List.length_map]
        refine Vc_loop (fun m e S => ∃ j : Nat, m = l.length - j ∧ j ≤ l.length ∧ eget e 33 = sl c' d' 3 (l.map VV.v) ∧ eget e 34 = .int .i64 l.length ∧ eget e 35 = .int .i64 j ∧ eget e 27 = sl c d 1 (rs.map (RW.v d')) ∧ eget e 28 = .int .i64 rs.length ∧ eget e 29 = .int .i64 i ∧ eget e 4 = .pointer (some { block := 0, off := 0 }) ∧ eget e 5 = .pointer (some { block := 1, off := 0 }) ∧ eget e 7 = ol true (46, none) 3 ((N ++ (l.take j).map fixV).map VV.v) ∧ ∃ J, S = ⟨[], .cells true 48 [.int .i64 0, .int .i64 0, .string .empty] :: .cells true 75 [.int .i64 n, .bool lazy, .func (.func g) #[] #[]] :: J, []⟩) l.length ?_ ?_
        · refine ⟨0, rfl, Nat.zero_le _, ?_, ?_, ?_, ?_, ?_, ?_, ?_, ?_, ?_, _, rfl⟩ <;> simp only [↓eget_eset, ↓reduceIte, Nat.reduceEqDiff, e27, e28, e29, e4, e5, e7, List.take_zero, List.map_nil, List.append_nil] <;> rfl
        · rintro m e S ⟨j, rfl, hj, e33, e34, e35, e27, e28, e29, e4, e5, e7, J, rfl⟩
          refine VWP_Vc _ _ _ _ ?_
          by_cases hjn : j < l.length
          · have hlt : (j : Int) < l.length := by omega
            have h0 : (0 : Int) ≤ j := by omega
            have hx : (l.map VV.v)[j]? = some l[j].v := by simp [hjn]
            have ht := fix_take l j hjn
            have hnum : ((j : Int) + 1) = ((j + 1 : Nat) : Int) := by omega
            have hwr : IntKind.i64.wrap ((j : Int) + 1) = ((j + 1 : Nat) : Int) := by rw [hnum]; exact wrap_id (by omega) (by omega)
            have hm : (l.take j).length = j := by rw [List.length_take]; omega
            generalize l[j] = x at hx ht
            obtain ⟨k, m, s⟩ := x
            simp only [VV.v] at hx
            cases hr : rightF ⟨k, m, s⟩
            · simp -dsimp only [↓Hold_5, thaw_sl, thaw_ol, growT_sl, vgrow_ol, ↓VWP_seq, ↓VWP_region, ↓VWP_cond, ↓VWP_skip, ↓VWP_block, ↓VReg_one, ↓VReg_non, ↓VReg_nil, ↓VS_move, ↓VS_assign, ↓VS_load, ↓VS_binOp, ↓VS_unOp, ↓VS_indexAddr, ↓VS_buildSlice, ↓VS_store, ↓VS_append, ↓With_guard, ↓Hold_1, With_some, emap_nil, emap_cons, ↓eget_map, ↓eget_eset, ↓ae_tmp, ↓ae_int, lop_not, asBool_bool, Option.map_some, Option.bind_some, ↓reduceIte, Nat.reduceEqDiff, decide_true, Bool.not_false, Nat.zero_add, Nat.reduceAdd, Nat.reduceMul, Nat.reduceLT, Nat.reduceLeDiff, and_true, true_and, and_self, List.map_cons, List.map_nil, List.all_cons, List.all_nil, tup_int, tup_str, tup_agg, cel_agg, List.drop_zero, List.toList_toArray, List.size_toArray, List.length_cons, List.length_nil, mapOwn_agg, mapOwn_int, mapOwn_string, mapOwn_pointer, toksL_nil, toksL_cons, toks_int, toks_string, toks_agg, okv_agg, okv_int, okv_string, List.flatMap_nil, List.flatMap_cons, List.all_nil, List.all_cons, List.append_nil, List.cons_append, List.map_nil, List.map_cons, Bool.and_self, Bool.not_false, List.mem_cons, List.not_mem_nil, or_false, Prod.mk.injEq, beq_self_eq_true, vnext_mk, vpush_mk, vget_nil, vput_nil, cellsIn_mk, vturn_nil, vthaw_one, boxesOf_nil, List.getD_cons_zero, List.getD_cons_succ, List.set_cons_zero, List.set_cons_succ, List.length_cons, List.length_nil, List.drop_zero, List.take_succ_cons, List.take_zero, getD_app0, set_app0, List.length_append, vload_at, aggV_agg, velems_own, partsOk_nil, partsOk_cons, vfill_nil, vfill_cons, vbin_int, ↓vlay_free, cellsOk_free, cellF, List.replicate_succ, List.replicate_zero, abin_lss, abin_add, beq_self_eq_true, Int.toNat_natCast, decide_true, beq_self_eq_true, setAll_whole, vld48, vgt48, vst48, ↓val48, vbd42, vis42, vap42, ↓vfk51, ↓vfk53, e27, e28, e29, e33, e34, e35, e4, e5, e7, hlt, h0, hx, List.length_map, ↓valright_c h.right, hr, ↓err_c h.err]
              exact ⟨⟨by omega, by omega⟩, l.length - (j + 1), by omega, j + 1, rfl, by omega, by rw [hwr], by rw [ht]; simp [fixV, hr, eV, VV.v], _, rfl⟩
            · simp -dsimp only [↓Hold_5, thaw_sl, thaw_ol, growT_sl, vgrow_ol, ↓VWP_seq, ↓VWP_region, ↓VWP_cond, ↓VWP_skip, ↓VWP_block, ↓VReg_one, ↓VReg_non, ↓VReg_nil, ↓VS_move, ↓VS_assign, ↓VS_load, ↓VS_binOp, ↓VS_unOp, ↓VS_indexAddr, ↓VS_buildSlice, ↓VS_store, ↓VS_append, ↓With_guard, ↓Hold_1, With_some, emap_nil, emap_cons, ↓eget_map, ↓eget_eset, ↓ae_tmp, ↓ae_int, lop_not, asBool_bool, Option.map_some, Option.bind_some, ↓reduceIte, Nat.reduceEqDiff, Bool.false_eq_true, decide_true, Bool.not_true, Bool.not_false, Nat.zero_add, Nat.reduceAdd, Nat.reduceMul, Nat.reduceLT, Nat.reduceLeDiff, and_true, true_and, and_self, List.map_cons, List.map_nil, List.all_cons, List.all_nil, tup_int, tup_str, tup_agg, cel_agg, List.drop_zero, List.toList_toArray, List.size_toArray, List.length_cons, List.length_nil, mapOwn_agg, mapOwn_int, mapOwn_string, mapOwn_pointer, toksL_nil, toksL_cons, toks_int, toks_string, toks_agg, okv_agg, okv_int, okv_string, List.flatMap_nil, List.flatMap_cons, List.all_nil, List.all_cons, List.append_nil, List.cons_append, List.map_nil, List.map_cons, Bool.and_self, Bool.not_true, Bool.not_false, List.mem_cons, List.not_mem_nil, or_false, Prod.mk.injEq, beq_self_eq_true, vnext_mk, vpush_mk, vget_nil, vput_nil, cellsIn_mk, vturn_nil, vthaw_one, boxesOf_nil, List.getD_cons_zero, List.getD_cons_succ, List.set_cons_zero, List.set_cons_succ, List.length_cons, List.length_nil, List.drop_zero, List.take_succ_cons, List.take_zero, getD_app0, set_app0, List.length_append, vload_at, aggV_agg, velems_own, partsOk_nil, partsOk_cons, vfill_nil, vfill_cons, vbin_int, ↓vlay_free, cellsOk_free, cellF, List.replicate_succ, List.replicate_zero, abin_lss, abin_add, beq_self_eq_true, Int.toNat_natCast, decide_true, beq_self_eq_true, setAll_whole, vld48, vgt48, vst48, ↓val48, vbd42, vis42, vap42, ↓vfk53, e27, e28, e29, e33, e34, e35, e4, e5, e7, hlt, h0, hx, List.length_map, ↓valright_c h.right, hr]
              exact ⟨⟨by omega, by omega⟩, l.length - (j + 1), by omega, j + 1, rfl, by omega, by rw [hwr], by rw [ht]; simp [fixV, hr, VV.v], _, rfl⟩
          · obtain rfl : j = l.length := by omega
            have hlt : ¬ ((l.length : Int) < l.length) := by omega
            simp -dsimp only [↓VWP_seq, ↓VWP_region, ↓VWP_cond, ↓VWP_exit, ↓VReg_one, ↓VReg_nil, ↓VS_move, ↓VS_binOp, ↓Hold_1, ↓Hold_3, With_some, emap_nil, ↓eget_eset, ↓ae_tmp, ↓ae_int, asBool_bool, ↓reduceIte, Nat.reduceEqDiff, Bool.false_eq_true, decide_false, true_and, vbin_int, abin_lss, abin_add, decide_false, e27, e28, e29, e34, e35, e4, e5, e7, hlt, List.take_length]
            have hnum : ((i : Int) + 1) = ((i + 1 : Nat) : Int) := by omega
            have hwr : IntKind.i64.wrap ((i : Int) + 1) = ((i + 1 : Nat) : Int) := by rw [hnum]; exact wrap_id (by omega) (by omega)
            exact ⟨rs.length - (i + 1), by omega, i + 1, rfl, by omega, by rw [hwr], by rw [ht], _, rfl⟩
      · obtain rfl : i = rs.length := by omega
        have hlt : ¬ ((rs.length : Int) < rs.length) := by omega
        rw [List.take_length] at e7
        cases h1 : (firstF (flatF rs)).2
        · simp -dsimp only [↓Hold_5, ↓VWP_seq, ↓VWP_region, ↓VWP_cond, ↓VWP_ret, ↓VWP_skip, ↓VWP_exit, ↓VReg_one, ↓VReg_non, ↓VReg_nil, ↓VS_guard, ↓VS_move, ↓VS_assign, ↓VS_pick, ↓VS_load, ↓VS_binOp, ↓VS_fieldAddr, ↓VS_extract, ↓VS_store, ↓VS_callv, ↓With_bindH, ↓With_guard, ↓Hold_1, ↓Hold_3, With_some, emap_nil, ↓eget_eset, ↓ae_tmp, ↓ae_bool, lop_pick, lop_extract, asBool_bool, asGuard_bool, bb_ft, ayielded_eq, ↓dstAt_zero, ↓dstAt_succ, ↓vfinish_ret, ↓vres_nil, ↓vres_cell, vtell_eq, ret1, Option.map_some, Option.bind_some, ↓reduceIte, Nat.reduceEqDiff, Bool.false_eq_true, decide_false, Bool.not_false, List.getElem?_toArray, List.getElem?_cons_zero, List.getElem?_cons_succ, Nat.zero_add, Nat.reduceAdd, Nat.reduceLT, Nat.reduceLeDiff, true_and, and_self, List.map_cons, List.map_nil, List.all_cons, List.all_nil, tup_int, tup_str, tup_agg, cel_agg, List.drop_zero, List.toList_toArray, List.size_toArray, List.length_cons, List.length_nil, mapOwn_agg, mapOwn_int, mapOwn_string, toksL_nil, toksL_cons, toks_int, toks_string, toks_agg, okv_agg, okv_int, okv_string, List.flatMap_nil, List.flatMap_cons, List.all_nil, List.all_cons, List.append_nil, List.nil_append, List.cons_append, List.map_nil, List.map_cons, Bool.and_self, Bool.not_false, beq_self_eq_true, vnext_mk, vpush_mk, vget_nil, vput_nil, cellsIn_mk, vthaw_nil, vwrites_nil, List.getD_cons_zero, List.getD_cons_succ, List.set_cons_zero, List.set_cons_succ, List.length_cons, List.length_nil, List.drop_zero, List.take_succ_cons, List.take_zero, getD_app0, set_app0, List.length_append, vbin_int, ↓vlay_free, cellsOk_free, cellF, asClo_fun, abin_lss, beq_self_eq_true, decide_false, beq_self_eq_true, bb_ft, setAll_whole, vld48, vld73, vst48, ↓val48, vfp75_2, ↓vfk54, Tryd.results33, e28, e29, e4, e5, e7, hlt, ↓first_c h true 46 (flatF rs) hl2, h1, asClo_fun, hg, ↓hG]
          simp [callF, hf, h1, VV.v]
        · cases lazy
          · simp -dsimp only [↓Hold_5, ↓VWP_seq, ↓VWP_region, ↓VWP_cond, ↓VWP_ret, ↓VWP_exit, ↓VReg_one, ↓VReg_non, ↓VReg_nil, ↓VS_guard, ↓VS_move, ↓VS_assign, ↓VS_pick, ↓VS_load, ↓VS_binOp, ↓VS_unOp, ↓VS_fieldAddr, ↓VS_extract, ↓VS_store, ↓With_bindH, ↓With_guard, ↓Hold_1, ↓Hold_3, With_some, emap_nil, ↓eget_eset, ↓ae_tmp, lop_pick, lop_extract, lop_not, asBool_bool, asGuard_bool, ayielded_eq, ↓dstAt_zero, ↓dstAt_succ, ↓vfinish_ret, ↓vres_nil, ↓vres_cell, vtell_eq, ret1, Option.map_some, Option.bind_some, ↓reduceIte, Nat.reduceEqDiff, Bool.false_eq_true, decide_false, Bool.not_false, List.getElem?_toArray, List.getElem?_cons_zero, List.getElem?_cons_succ, Nat.zero_add, Nat.reduceAdd, Nat.reduceLT, Nat.reduceLeDiff, true_and, and_self, List.map_cons, List.map_nil, List.all_cons, List.all_nil, tup_int, tup_str, tup_agg, cel_agg, List.drop_zero, List.toList_toArray, List.size_toArray, List.length_cons, List.length_nil, mapOwn_agg, mapOwn_int, mapOwn_string, toksL_nil, toksL_cons, toks_int, toks_string, toks_agg, okv_agg, okv_int, okv_string, List.flatMap_nil, List.flatMap_cons, List.all_nil, List.all_cons, List.append_nil, List.cons_append, List.map_nil, List.map_cons, Bool.and_self, Bool.not_false, beq_self_eq_true, vnext_mk, vpush_mk, vget_nil, vput_nil, cellsIn_mk, vthaw_nil, vwrites_nil, List.getD_cons_zero, List.getD_cons_succ, List.set_cons_zero, List.set_cons_succ, List.length_cons, List.length_nil, List.drop_zero, List.take_succ_cons, List.take_zero, getD_app0, set_app0, List.length_append, vbin_int, ↓vlay_free, cellsOk_free, cellF, abin_lss, beq_self_eq_true, decide_false, beq_self_eq_true, setAll_whole, vld48, vld4, vst48, ↓val48, vfp75_1, ↓vfk54, Tryd.results33, e28, e29, e4, e5, e7, hlt, ↓first_c h true 46 (flatF rs) hl2, h1]
            simp [callF, hf, h1, VV.v]
          · simp -dsimp only [↓Hold_5, ↓VWP_seq, ↓VWP_region, ↓VWP_cond, ↓VWP_ret, ↓VWP_skip, ↓VWP_exit, ↓VReg_one, ↓VReg_non, ↓VReg_nil, ↓VS_guard, ↓VS_move, ↓VS_assign, ↓VS_pick, ↓VS_load, ↓VS_binOp, ↓VS_unOp, ↓VS_fieldAddr, ↓VS_extract, ↓VS_store, ↓VS_callv, ↓With_bindH, ↓With_guard, ↓Hold_1, ↓Hold_3, With_some, emap_nil, ↓eget_eset, ↓ae_tmp, lop_pick, lop_extract, lop_not, asBool_bool, asGuard_bool, ayielded_eq, ↓dstAt_zero, ↓dstAt_succ, ↓vfinish_ret, ↓vres_nil, ↓vres_cell, vtell_eq, ret1, Option.map_some, Option.bind_some, ↓reduceIte, Nat.reduceEqDiff, Bool.false_eq_true, decide_false, Bool.not_true, Bool.not_false, List.getElem?_toArray, List.getElem?_cons_zero, List.getElem?_cons_succ, Nat.zero_add, Nat.reduceAdd, Nat.reduceLT, Nat.reduceLeDiff, true_and, and_self, List.map_cons, List.map_nil, List.all_cons, List.all_nil, tup_int, tup_str, tup_agg, cel_agg, List.drop_zero, List.toList_toArray, List.size_toArray, List.length_cons, List.length_nil, mapOwn_agg, mapOwn_int, mapOwn_string, toksL_nil, toksL_cons, toks_int, toks_string, toks_agg, okv_agg, okv_int, okv_string, List.flatMap_nil, List.flatMap_cons, List.all_nil, List.all_cons, List.append_nil, List.nil_append, List.cons_append, List.map_nil, List.map_cons, Bool.and_self, Bool.not_true, Bool.not_false, beq_self_eq_true, vnext_mk, vpush_mk, vget_nil, vput_nil, cellsIn_mk, vthaw_nil, vwrites_nil, List.getD_cons_zero, List.getD_cons_succ, List.set_cons_zero, List.set_cons_succ, List.length_cons, List.length_nil, List.drop_zero, List.take_succ_cons, List.take_zero, getD_app0, set_app0, List.length_append, vbin_int, ↓vlay_free, cellsOk_free, cellF, asClo_fun, abin_lss, beq_self_eq_true, decide_false, beq_self_eq_true, setAll_whole, vld48, vld4, vld73, vst48, ↓val48, vfp75_1, vfp75_2, ↓vfk54, Tryd.results33, e28, e29, e4, e5, e7, hlt, ↓first_c h true 46 (flatF rs) hl2, h1, asClo_fun, hg, ↓hG]
            simp [callF, hf, h1, VV.v]
end
end Go.Proofs.YtmdpggecelheoaaDoor.Abs
/- A call of a function by its name: what the function does is asked only if it is called. -/
set_option linter.unusedVariables false
set_option linter.unusedSimpArgs false
set_option maxRecDepth 4000
set_option maxHeartbeats 0
namespace Go.Proofs.YtmdpggecelheoaaDoor.Abs
open Go
attribute [local irreducible] Hold VReg Vf Vc VWP With VStp Vcallee Vp VE
section
variable {X : VOuter}
theorem call_p2 (h : AOff X) (hX : X 33 = none) (hX1 : X 52 = none) (hX2 : X 71 = none) (name : ByteArray) (n : Int) (lazy : Bool) (g : FuncId) (G : List VV → VV)
    (hfind : ∀ S K, Vcallee Tryd.prog X 50 [.string name] S K = K (.tuple ⟨[.agg ⟨[.int .i64 n, .bool lazy, .func (.func g) #[] #[]]⟩, .bool true]⟩) [] S [] false)
    (hg : funcOk Tryd.prog g = true) (c : Bool) (d d' : Nat) (rs : List RW) (hl : rs.length ≤ 1000000000) (hl2 : (flatF rs).length ≤ 1000000000)
    (hG : ((firstF (flatF rs)).2 && !lazy) = false → ∀ c S K, Vcallee Tryd.prog X g [ol c (46, none) 3 ((flatF rs).map VV.v)] S K = K (.agg ⟨[.int .i64 (G (flatF rs)).k, .int .i64 (G (flatF rs)).n, .string (G (flatF rs)).s]⟩) [] S [] false) : Vp Tryd.prog X 33 [.string name, sl c d 1 (rs.map (RW.v d'))] (callF n lazy G rs).v := by
  unfold Vp
  refine Vf_text hX Tryd.func33 rfl (by kernel_rfl) (by show 2 ≤ _; decide) ?_
  cases hf : fitsF n rs
  · simp -dsimp only [↓Hold_5, ↓VWP_seq, ↓VWP_region, ↓VWP_cond, ↓VWP_ret, ↓VWP_skip, ↓VReg_one, ↓VReg_non, ↓VReg_nil, ↓VS_move, ↓VS_assign, ↓VS_load, ↓VS_unOp, ↓VS_extract, ↓VS_store, ↓With_bindH, ↓With_guard, ↓Hold_1, With_some, emap_nil, ↓eget_eset, ↓ae_tmp, ↓ae_int, eget_zero, eget_succ, lop_extract, lop_not, asBool_bool, ↓vfinish_ret, ↓vres_nil, ↓vres_cell, vtell_eq, ret1, Option.map_some, ↓reduceIte, Nat.reduceEqDiff, reduceCtorEq, Bool.false_eq_true, decide_false, Bool.not_true, Bool.not_false, List.getElem?_toArray, List.getElem?_cons_zero, List.getElem?_cons_succ, Nat.zero_add, Nat.add_zero, Nat.reduceAdd, Nat.reduceLT, Nat.reduceLeDiff, true_and, and_self, List.map_cons, List.map_nil, List.all_cons, List.all_nil, tup_int, tup_bool, tup_str, tup_func, tup_agg, cel_agg, List.drop_zero, List.toList_toArray, List.size_toArray, List.length_cons, List.length_nil, mapOwn_agg, mapOwn_int, mapOwn_string, toksL_nil, toksL_cons, toks_int, toks_bool, toks_string, toks_agg, toks_clo, okv_agg, okv_clo, okv_bool, okv_int, okv_string, List.flatMap_nil, List.flatMap_cons, List.all_nil, List.all_cons, List.append_nil, List.nil_append, List.cons_append, List.map_nil, List.map_cons, Bool.and_self, Bool.not_true, Bool.not_false, beq_self_eq_true, vnext_mk, vpush_mk, vget_nil, vput_nil, cellsIn_mk, vthaw_nil, vwrites_nil, List.getD_cons_zero, List.getD_cons_succ, List.set_cons_zero, List.set_cons_succ, List.length_cons, List.length_nil, List.drop_zero, List.take_succ_cons, List.take_zero, ↓vlay_free, cellsOk_free, cellF, beq_self_eq_true, decide_false, beq_self_eq_true, setAll_whole, vld75, vld48, vst75, vst48, ↓val48, ↓val75, ↓vfk50, ↓vfk51, ↓vfk52, Tryd.results33, ↓hfind, ↓fits_c hX1 hX2 n lazy g c d d' rs hl, hf, ↓err_c h.err]
    simp [callF, hf, eV, VV.v]
  · simp -dsimp only [↓Hold_5, ↓VWP_seq, ↓VWP_region, ↓VWP_cond, ↓VWP_skip, ↓VWP_block, ↓VWP_loop, ↓VReg_one, ↓VReg_non, ↓VReg_nil, ↓VS_move, ↓VS_assign, ↓VS_load, ↓VS_unOp, ↓VS_extract, ↓VS_len, ↓VS_store, ↓Hold_1, With_some, emap_nil, ↓eget_eset, ↓ae_tmp, ↓ae_int, ↓ae_slice0, eget_zero, eget_succ, lop_extract, lop_not, asBool_bool, ↓reduceIte, Nat.reduceEqDiff, reduceCtorEq, Bool.false_eq_true, decide_false, Bool.not_true, Bool.not_false, List.getElem?_toArray, List.getElem?_cons_zero, List.getElem?_cons_succ, Nat.zero_add, Nat.add_zero, Nat.reduceAdd, Nat.reduceLT, Nat.reduceLeDiff, and_self, List.map_cons, List.map_nil, List.all_cons, List.all_nil, tup_int, tup_bool, tup_func, tup_agg, cel_agg, List.drop_zero, List.toList_toArray, List.size_toArray, List.length_cons, List.length_nil, toksL_nil, toksL_cons, toks_int, toks_bool, toks_clo, okv_clo, okv_bool, okv_int, List.flatMap_nil, List.all_nil, List.all_cons, List.append_nil, List.nil_append, List.cons_append, List.map_nil, List.map_cons, Bool.and_self, Bool.not_true, Bool.not_false, beq_self_eq_true, vnext_mk, vpush_mk, vget_nil, vput_nil, cellsIn_mk, List.getD_cons_zero, List.getD_cons_succ, List.set_cons_zero, List.set_cons_succ, List.length_cons, List.length_nil, List.drop_zero, List.take_succ_cons, List.take_zero, ↓vlay_free, cellsOk_free, cellF, beq_self_eq_true, decide_false, beq_self_eq_true, setAll_whole, vld75, vst75, ↓val48, ↓val75, vls46, ↓vfk50, ↓vfk52, ↓hfind, ↓fits_c hX1 hX2 n lazy g c d d' rs hl, hf, List.length_map]
    refine Vc_loop (fun m e S => ∃ i : Nat, m = rs.length - i ∧ i ≤ rs.length ∧ eget e 27 = sl c d 1 (rs.map (RW.v d')) ∧ eget e 28 = .int .i64 rs.length ∧ eget e 29 = .int .i64 i ∧ eget e 4 = .pointer (some { block := 0, off := 0 }) ∧ eget e 5 = .pointer (some { block := 1, off := 0 }) ∧ eget e 7 = ol true (46, none) 3 ((flatF (rs.take i)).map VV.v) ∧ ∃ J, S = ⟨[], .cells true 48 [.int .i64 0, .int .i64 0, .string .empty] :: .cells true 75 [.int .i64 n, .bool lazy, .func (.func g) #[] #[]] :: J, []⟩) rs.length ?_ ?_
    · refine ⟨0, rfl, Nat.zero_le _, ?_, ?_, ?_, ?_, ?_, ?_, [], rfl⟩ <;> simp only [↓eget_eset, ↓reduceIte, Nat.reduceEqDiff] <;> rfl
    · rintro m e S ⟨i, rfl, hi, e27, e28, e29, e4, e5, e7, J, rfl⟩
      refine VWP_Vc _ _ _ _ ?_
      by_cases hin : i < rs.length
      · have hlt : (i : Int) < rs.length := by omega
        have h0 : (0 : Int) ≤ i := by omega
        have hx : (rs.map (RW.v d'))[i]? = some (rs[i].v d') := by simp [hin]
        have ht := flatF_take rs i hin
        have hlen := flatF_len rs i hin
        have hnum : ((i : Int) + 1) = ((i + 1 : Nat) : Int) := by omega
        have hwr : IntKind.i64.wrap ((i : Int) + 1) = ((i + 1 : Nat) : Int) := by rw [hnum]; exact wrap_id (by omega) (by omega)
        generalize rs[i] = x at hx ht hlen
        obtain ⟨c', l⟩ := x
        simp only [RW.v] at hx
        dsimp only at ht hlen
        generalize flatF (rs.take i) = N at e7 ht hlen
        simp -dsimp only [cellV_sl, ↓VWP_seq, ↓VWP_region, ↓VWP_cond, ↓VWP_skip, ↓VWP_block, ↓VWP_loop, ↓VReg_one, ↓VReg_nil, ↓VS_move, ↓VS_assign, ↓VS_load, ↓VS_binOp, ↓VS_indexAddr, ↓VS_len, ↓Hold_1, With_some, emap_nil, ↓eget_eset, ↓ae_tmp, ↓ae_int, asBool_bool, Option.map_some, ↓reduceIte, Nat.reduceEqDiff, decide_true, vload_at, vbin_int, abin_lss, Int.toNat_natCast, decide_true, vgt42, vis46, vls42, e27, e28, e29, hlt, h0, hx, List.length_map]
        refine Vc_loop (fun m e S => ∃ j : Nat, m = l.length - j ∧ j ≤ l.length ∧ eget e 33 = sl c' d' 3 (l.map VV.v) ∧ eget e 34 = .int .i64 l.length ∧ eget e 35 = .int .i64 j ∧ eget e 27 = sl c d 1 (rs.map (RW.v d')) ∧ eget e 28 = .int .i64 rs.length ∧ eget e 29 = .int .i64 i ∧ eget e 4 = .pointer (some { block := 0, off := 0 }) ∧ eget e 5 = .pointer (some { block := 1, off := 0 }) ∧ eget e 7 = ol true (46, none) 3 ((N ++ (l.take j).map fixV).map VV.v) ∧ ∃ J, S = ⟨[], .cells true 48 [.int .i64 0, .int .i64 0, .string .empty] :: .cells true 75 [.int .i64 n, .bool lazy, .func (.func g) #[] #[]] :: J, []⟩) l.length ?_ ?_
        · refine ⟨0, rfl, Nat.zero_le _, ?_, ?_, ?_, ?_, ?_, ?_, ?_, ?_, ?_, _, rfl⟩ <;> simp only [↓eget_eset, ↓reduceIte, Nat.reduceEqDiff, e27, e28, e29, e4, e5, e7, List.take_zero, List.map_nil, List.append_nil] <;> rfl
        · rintro m e S ⟨j, rfl, hj, e33, e34, e35, e27, e28, e29, e4, e5, e7, J, rfl⟩
          refine VWP_Vc _ _ _ _ ?_
          by_cases hjn : j < l.length
          · have hlt : (j : Int) < l.length := by omega
            have h0 : (0 : Int) ≤ j := by omega
            have hx : (l.map VV.v)[j]? = some l[j].v := by simp [hjn]
            have ht := fix_take l j hjn
            have hnum : ((j : Int) + 1) = ((j + 1 : Nat) : Int) := by omega
            have hwr : IntKind.i64.wrap ((j : Int) + 1) = ((j + 1 : Nat) : Int) := by rw [hnum]; exact wrap_id (by omega) (by omega)
            have hm : (l.take j).length = j := by rw [List.length_take]; omega
            generalize l[j] = x at hx ht
            obtain ⟨k, m, s⟩ := x
            simp only [VV.v] at hx
            cases hr : rightF ⟨k, m, s⟩
            · simp -dsimp only [↓Hold_5, thaw_sl, thaw_ol, growT_sl, vgrow_ol, ↓VWP_seq, ↓VWP_region, ↓VWP_cond, ↓VWP_skip, ↓VWP_block, ↓VReg_one, ↓VReg_non, ↓VReg_nil, ↓VS_move, ↓VS_assign, ↓VS_load, ↓VS_binOp, ↓VS_unOp, ↓VS_indexAddr, ↓VS_buildSlice, ↓VS_store, ↓VS_append, ↓With_guard, ↓Hold_1, With_some, emap_nil, emap_cons, ↓eget_map, ↓eget_eset, ↓ae_tmp, ↓ae_int, lop_not, asBool_bool, Option.map_some, Option.bind_some, ↓reduceIte, Nat.reduceEqDiff, decide_true, Bool.not_false, Nat.zero_add, Nat.reduceAdd, Nat.reduceMul, Nat.reduceLT, Nat.reduceLeDiff, and_true, true_and, and_self, List.map_cons, List.map_nil, List.all_cons, List.all_nil, tup_int, tup_str, tup_agg, cel_agg, List.drop_zero, List.toList_toArray, List.size_toArray, List.length_cons, List.length_nil, mapOwn_agg, mapOwn_int, mapOwn_string, mapOwn_pointer, toksL_nil, toksL_cons, toks_int, toks_string, toks_agg, okv_agg, okv_int, okv_string, List.flatMap_nil, List.flatMap_cons, List.all_nil, List.all_cons, List.append_nil, List.cons_append, List.map_nil, List.map_cons, Bool.and_self, Bool.not_false, List.mem_cons, List.not_mem_nil, or_false, Prod.mk.injEq, beq_self_eq_true, vnext_mk, vpush_mk, vget_nil, vput_nil, cellsIn_mk, vturn_nil, vthaw_one, boxesOf_nil, List.getD_cons_zero, List.getD_cons_succ, List.set_cons_zero, List.set_cons_succ, List.length_cons, List.length_nil, List.drop_zero, List.take_succ_cons, List.take_zero, getD_app0, set_app0, List.length_append, vload_at, aggV_agg, velems_own, partsOk_nil, partsOk_cons, vfill_nil, vfill_cons, vbin_int, ↓vlay_free, cellsOk_free, cellF, List.replicate_succ, List.replicate_zero, abin_lss, abin_add, beq_self_eq_true, Int.toNat_natCast, decide_true, beq_self_eq_true, setAll_whole, vld48, vgt48, vst48, ↓val48, vbd42, vis42, vap42, ↓vfk51, ↓vfk53, e27, e28, e29, e33, e34, e35, e4, e5, e7, hlt, h0, hx, List.length_map, ↓valright_c h.right, hr, ↓err_c h.err]
              exact ⟨⟨by omega, by omega⟩, l.length - (j + 1), by omega, j + 1, rfl, by omega, by rw [hwr], by rw [ht]; simp [fixV, hr, eV, VV.v], _, rfl⟩
            · simp -dsimp only [↓Hold_5, thaw_sl, thaw_ol, growT_sl, vgrow_ol, ↓VWP_seq, ↓VWP_region, ↓VWP_cond, ↓VWP_skip, ↓VWP_block, ↓VReg_one, ↓VReg_non, ↓VReg_nil, ↓VS_move, ↓VS_assign, ↓VS_load, ↓VS_binOp, ↓VS_unOp, ↓VS_indexAddr, ↓VS_buildSlice, ↓VS_store, ↓VS_append, ↓With_guard, ↓Hold_1, With_some, emap_nil, emap_cons, ↓eget_map, ↓eget_eset, ↓ae_tmp, ↓ae_int, lop_not, asBool_bool, Option.map_some, Option.bind_some, ↓reduceIte, Nat.reduceEqDiff, Bool.false_eq_true, decide_true, Bool.not_true, Bool.not_false, Nat.zero_add, Nat.reduceAdd, Nat.reduceMul, Nat.reduceLT, Nat.reduceLeDiff, and_true, true_and, and_self, List.map_cons, List.map_nil, List.all_cons, List.all_nil, tup_int, tup_str, tup_agg, cel_agg, List.drop_zero, List.toList_toArray, List.size_toArray, List.length_cons, List.length_nil, mapOwn_agg, mapOwn_int, mapOwn_string, mapOwn_pointer, toksL_nil, toksL_cons, toks_int, toks_string, toks_agg, okv_agg, okv_int, okv_string, List.flatMap_nil, List.flatMap_cons, List.all_nil, List.all_cons, List.append_nil, List.cons_append, List.map_nil, List.map_cons, Bool.and_self, Bool.not_true, Bool.not_false, List.mem_cons, List.not_mem_nil, or_false, Prod.mk.injEq, beq_self_eq_true, vnext_mk, vpush_mk, vget_nil, vput_nil, cellsIn_mk, vturn_nil, vthaw_one, boxesOf_nil, List.getD_cons_zero, List.getD_cons_succ, List.set_cons_zero, List.set_cons_succ, List.length_cons, List.length_nil, List.drop_zero, List.take_succ_cons, List.take_zero, getD_app0, set_app0, List.length_append, vload_at, aggV_agg, velems_own, partsOk_nil, partsOk_cons, vfill_nil, vfill_cons, vbin_int, ↓vlay_free, cellsOk_free, cellF, List.replicate_succ, List.replicate_zero, abin_lss, abin_add, beq_self_eq_true, Int.toNat_natCast, decide_true, beq_self_eq_true, setAll_whole, vld48, vgt48, vst48, ↓val48, vbd42, vis42, vap42, ↓vfk53, e27, e28, e29, e33, e34, e35, e4, e5, e7, hlt, h0, hx, List.length_map, ↓valright_c h.right, hr]
              exact ⟨⟨by omega, by omega⟩, l.length - (j + 1), by omega, j + 1, rfl, by omega, by rw [hwr], by rw [ht]; simp [fixV, hr, VV.v], _, rfl⟩
          · obtain rfl : j = l.length := by omega
            have hlt : ¬ ((l.length : Int) < l.length) := by omega
            simp -dsimp only [↓VWP_seq, ↓VWP_region, ↓VWP_cond, ↓VWP_exit, ↓VReg_one, ↓VReg_nil, ↓VS_move, ↓VS_binOp, ↓Hold_1, ↓Hold_3, With_some, emap_nil, ↓eget_eset, ↓ae_tmp, ↓ae_int, asBool_bool, ↓reduceIte, Nat.reduceEqDiff, Bool.false_eq_true, decide_false, true_and, vbin_int, abin_lss, abin_add, decide_false, e27, e28, e29, e34, e35, e4, e5, e7, hlt, List.take_length]
            have hnum : ((i : Int) + 1) = ((i + 1 : Nat) : Int) := by omega
            have hwr : IntKind.i64.wrap ((i : Int) + 1) = ((i + 1 : Nat) : Int) := by rw [hnum]; exact wrap_id (by omega) (by omega)
            exact ⟨rs.length - (i + 1), by omega, i + 1, rfl, by omega, by rw [hwr], by rw [ht], _, rfl⟩
      · obtain rfl : i = rs.length := by omega
        have hlt : ¬ ((rs.length : Int) < rs.length) := by omega
        rw [List.take_length] at e7
        cases h1 : (firstF (flatF rs)).2
        · have hG := hG (by rw [h1]; rfl)
          simp -dsimp only [↓Hold_5, ↓VWP_seq, ↓VWP_region, ↓VWP_cond, ↓VWP_ret, ↓VWP_skip, ↓VWP_exit, ↓VReg_one, ↓VReg_non, ↓VReg_nil, ↓VS_guard, ↓VS_move, ↓VS_assign, ↓VS_pick, ↓VS_load, ↓VS_binOp, ↓VS_fieldAddr, ↓VS_extract, ↓VS_store, ↓VS_callv, ↓With_bindH, ↓With_guard, ↓Hold_1, ↓Hold_3, With_some, emap_nil, ↓eget_eset, ↓ae_tmp, ↓ae_bool, lop_pick, lop_extract, asBool_bool, asGuard_bool, bb_ft, ayielded_eq, ↓dstAt_zero, ↓dstAt_succ, ↓vfinish_ret, ↓vres_nil, ↓vres_cell, vtell_eq, ret1, Option.map_some, Option.bind_some, ↓reduceIte, Nat.reduceEqDiff, Bool.false_eq_true, decide_false, Bool.not_false, List.getElem?_toArray, List.getElem?_cons_zero, List.getElem?_cons_succ, Nat.zero_add, Nat.reduceAdd, Nat.reduceLT, Nat.reduceLeDiff, true_and, and_self, List.map_cons, List.map_nil, List.all_cons, List.all_nil, tup_int, tup_str, tup_agg, cel_agg, List.drop_zero, List.toList_toArray, List.size_toArray, List.length_cons, List.length_nil, mapOwn_agg, mapOwn_int, mapOwn_string, toksL_nil, toksL_cons, toks_int, toks_string, toks_agg, okv_agg, okv_int, okv_string, List.flatMap_nil, List.flatMap_cons, List.all_nil, List.all_cons, List.append_nil, List.nil_append, List.cons_append, List.map_nil, List.map_cons, Bool.and_self, Bool.not_false, beq_self_eq_true, vnext_mk, vpush_mk, vget_nil, vput_nil, cellsIn_mk, vthaw_nil, vwrites_nil, List.getD_cons_zero, List.getD_cons_succ, List.set_cons_zero, List.set_cons_succ, List.length_cons, List.length_nil, List.drop_zero, List.take_succ_cons, List.take_zero, getD_app0, set_app0, List.length_append, vbin_int, ↓vlay_free, cellsOk_free, cellF, asClo_fun, abin_lss, beq_self_eq_true, decide_false, beq_self_eq_true, bb_ft, setAll_whole, vld48, vld73, vst48, ↓val48, vfp75_2, ↓vfk54, Tryd.results33, e28, e29, e4, e5, e7, hlt, ↓first_c h true 46 (flatF rs) hl2, h1, asClo_fun, hg, ↓hG]
          simp [callF, hf, h1, VV.v]
        · cases lazy
          · simp -dsimp only [↓Hold_5, ↓VWP_seq, ↓VWP_region, ↓VWP_cond, ↓VWP_ret, ↓VWP_exit, ↓VReg_one, ↓VReg_non, ↓VReg_nil, ↓VS_guard, ↓VS_move, ↓VS_assign, ↓VS_pick, ↓VS_load, ↓VS_binOp, ↓VS_unOp, ↓VS_fieldAddr, ↓VS_extract, ↓VS_store, ↓With_bindH, ↓With_guard, ↓Hold_1, ↓Hold_3, With_some, emap_nil, ↓eget_eset, ↓ae_tmp, lop_pick, lop_extract, lop_not, asBool_bool, asGuard_bool, ayielded_eq, ↓dstAt_zero, ↓dstAt_succ, ↓vfinish_ret, ↓vres_nil, ↓vres_cell, vtell_eq, ret1, Option.map_some, Option.bind_some, ↓reduceIte, Nat.reduceEqDiff, Bool.false_eq_true, decide_false, Bool.not_false, List.getElem?_toArray, List.getElem?_cons_zero, List.getElem?_cons_succ, Nat.zero_add, Nat.reduceAdd, Nat.reduceLT, Nat.reduceLeDiff, true_and, and_self, List.map_cons, List.map_nil, List.all_cons, List.all_nil, tup_int, tup_str, tup_agg, cel_agg, List.drop_zero, List.toList_toArray, List.size_toArray, List.length_cons, List.length_nil, mapOwn_agg, mapOwn_int, mapOwn_string, toksL_nil, toksL_cons, toks_int, toks_string, toks_agg, okv_agg, okv_int, okv_string, List.flatMap_nil, List.flatMap_cons, List.all_nil, List.all_cons, List.append_nil, List.cons_append, List.map_nil, List.map_cons, Bool.and_self, Bool.not_false, beq_self_eq_true, vnext_mk, vpush_mk, vget_nil, vput_nil, cellsIn_mk, vthaw_nil, vwrites_nil, List.getD_cons_zero, List.getD_cons_succ, List.set_cons_zero, List.set_cons_succ, List.length_cons, List.length_nil, List.drop_zero, List.take_succ_cons, List.take_zero, getD_app0, set_app0, List.length_append, vbin_int, ↓vlay_free, cellsOk_free, cellF, abin_lss, beq_self_eq_true, decide_false, beq_self_eq_true, setAll_whole, vld48, vld4, vst48, ↓val48, vfp75_1, ↓vfk54, Tryd.results33, e28, e29, e4, e5, e7, hlt, ↓first_c h true 46 (flatF rs) hl2, h1]
            simp [callF, hf, h1, VV.v]
          · have hG := hG (by rw [h1]; rfl)
            simp -dsimp only [↓Hold_5, ↓VWP_seq, ↓VWP_region, ↓VWP_cond, ↓VWP_ret, ↓VWP_skip, ↓VWP_exit, ↓VReg_one, ↓VReg_non, ↓VReg_nil, ↓VS_guard, ↓VS_move, ↓VS_assign, ↓VS_pick, ↓VS_load, ↓VS_binOp, ↓VS_unOp, ↓VS_fieldAddr, ↓VS_extract, ↓VS_store, ↓VS_callv, ↓With_bindH, ↓With_guard, ↓Hold_1, ↓Hold_3, With_some, emap_nil, ↓eget_eset, ↓ae_tmp, lop_pick, lop_extract, lop_not, asBool_bool, asGuard_bool, ayielded_eq, ↓dstAt_zero, ↓dstAt_succ, ↓vfinish_ret, ↓vres_nil, ↓vres_cell, vtell_eq, ret1, Option.map_some, Option.bind_some, ↓reduceIte, Nat.reduceEqDiff, Bool.false_eq_true, decide_false, Bool.not_true, Bool.not_false, List.getElem?_toArray, List.getElem?_cons_zero, List.getElem?_cons_succ, Nat.zero_add, Nat.reduceAdd, Nat.reduceLT, Nat.reduceLeDiff, true_and, and_self, List.map_cons, List.map_nil, List.all_cons, List.all_nil, tup_int, tup_str, tup_agg, cel_agg, List.drop_zero, List.toList_toArray, List.size_toArray, List.length_cons, List.length_nil, mapOwn_agg, mapOwn_int, mapOwn_string, toksL_nil, toksL_cons, toks_int, toks_string, toks_agg, okv_agg, okv_int, okv_string, List.flatMap_nil, List.flatMap_cons, List.all_nil, List.all_cons, List.append_nil, List.nil_append, List.cons_append, List.map_nil, List.map_cons, Bool.and_self, Bool.not_true, Bool.not_false, beq_self_eq_true, vnext_mk, vpush_mk, vget_nil, vput_nil, cellsIn_mk, vthaw_nil, vwrites_nil, List.getD_cons_zero, List.getD_cons_succ, List.set_cons_zero, List.set_cons_succ, List.length_cons, List.length_nil, List.drop_zero, List.take_succ_cons, List.take_zero, getD_app0, set_app0, List.length_append, vbin_int, ↓vlay_free, cellsOk_free, cellF, asClo_fun, abin_lss, beq_self_eq_true, decide_false, beq_self_eq_true, setAll_whole, vld48, vld4, vld73, vst48, ↓val48, vfp75_1, vfp75_2, ↓vfk54, Tryd.results33, e28, e29, e4, e5, e7, hlt, ↓first_c h true 46 (flatF rs) hl2, h1, asClo_fun, hg, ↓hG]
            simp [callF, hf, h1, VV.v]
end
end Go.Proofs.YtmdpggecelheoaaDoor.Abs
/- Few: how many rows and values there are. -/
set_option linter.unusedVariables false
set_option linter.unusedSimpArgs false
set_option maxRecDepth 4000
set_option maxHeartbeats 0
namespace Go.Proofs.YtmdpggecelheoaaDoor.Abs
open Go
attribute [local irreducible] Hold VReg Vf Vc VWP With VStp Vcallee Vp VE
/-- The texts of the first values are short. -/
def shortF (l : List VV) : Bool := (l.take 300).all fun x => decide ((x.s.size : Int) ≤ 400)
def fewGo : List RW → Int → Bool
  | [], n => decide (n ≤ 300)
  | r :: rs, n => if n < 1000 then (if shortF r.l then fewGo rs (n + 1 + r.l.length) else false) else decide (n ≤ 300)
def fewF (rs : List RW) : Bool := fewGo rs 0
theorem fewGo_sum : ∀ (rs : List RW) (n : Int), 0 ≤ n → fewGo rs n = true → n + (rs.map fun r => (1 + r.l.length : Int)).sum ≤ 300
  | [], n, h0, h => by simpa [fewGo] using h
  | r :: rs, n, h0, h => by
    unfold fewGo at h
    split at h
    · split at h
      · have := fewGo_sum rs _ (by omega) h
        simp only [List.map_cons, List.sum_cons]
        omega
      · cases h
    · simp at h; omega
theorem shortF_at (l : List VV) : shortF l = true ↔ ∀ j, (h : j < l.length) → j < 300 → (l[j].s.size : Int) ≤ 400 := by
  unfold shortF
  rw [List.all_eq_true]
  constructor
  · intro h j hj h3
    have h2 : j < (l.take 300).length := by rw [List.length_take]; omega
    have := h (l.take 300)[j] (List.getElem_mem h2)
    rw [List.getElem_take] at this
    simpa using this
  · intro h x hx
    obtain ⟨j, hj, rfl⟩ := List.getElem_of_mem hx
    rw [List.length_take] at hj
    rw [List.getElem_take]
    simpa using h j (by omega) (by omega)
theorem few_p {X : VOuter} (hX : X 32 = none) (c : Bool) (d d' : Nat) (rs : List RW) (hl : rs.length ≤ 140737488355328) (hr : ∀ r ∈ rs, r.l.length ≤ 140737488355328) : Vp Tryd.prog X 32 [sl c d 1 (rs.map (RW.v d'))] (.bool (fewF rs)) := by
  unfold Vp
  refine Vf_text hX Tryd.func32 rfl (by kernel_rfl) (by show 1 ≤ _; decide) ?_
  simp -dsimp only [↓VWP_seq, ↓VWP_region, ↓VWP_block, ↓VWP_loop, ↓VReg_one, ↓VReg_nil, ↓VS_assign, ↓Hold_1, With_some, emap_nil, ↓ae_int, ↓ae_bool]
  refine Vc_loop (fun m e S => ∃ (i : Nat) (n : Int), m = rs.length - i ∧ i ≤ rs.length ∧ eget e 0 = sl c d 1 (rs.map (RW.v d')) ∧ eget e 3 = .int .i64 n ∧ eget e 4 = .int .i64 i ∧ 0 ≤ n ∧ n ≤ 140737488365328 ∧ fewF rs = fewGo (rs.drop i) n ∧ S = ⟨[], [], []⟩) rs.length ?_ ?_
  · refine ⟨0, 0, rfl, Nat.zero_le _, ?_, ?_, ?_, by omega, by omega, rfl, rfl⟩ <;> simp only [↓eget_eset, eget_zero, ↓reduceIte, Nat.reduceEqDiff, reduceCtorEq] <;> rfl
  · rintro m e S ⟨i, n, rfl, hi, e0, e3, e4, n0, n1, hf, rfl⟩
    refine VWP_Vc _ _ _ _ ?_
    by_cases hin : i < rs.length
    · have hlt : (i : Int) < rs.length := by omega
      have h0 : (0 : Int) ≤ i := by omega
      by_cases hn : n < 1000
      · have hx : (rs.map (RW.v d'))[i]? = some (rs[i].v d') := by simp [hin]
        have hrl := hr rs[i] (List.getElem_mem hin)
        rw [List.drop_eq_getElem_cons hin] at hf
        generalize rs[i] = x at hx hf hrl
        obtain ⟨c', l⟩ := x
        simp only [RW.v] at hx
        dsimp only at hf hrl
        have w1 : IntKind.i64.wrap (n + 1) = n + 1 := wrap_id (by omega) (by omega)
        have w2 : IntKind.i64.wrap (n + 1 + l.length) = n + 1 + l.length := wrap_id (by omega) (by omega)
        simp -dsimp only [cellV_sl, ↓VWP_seq, ↓VWP_region, ↓VWP_cond, ↓VWP_skip, ↓VWP_block, ↓VWP_loop, ↓VReg_one, ↓VReg_nil, ↓VS_guard, ↓VS_move, ↓VS_assign, ↓VS_pick, ↓VS_load, ↓VS_binOp, ↓VS_indexAddr, ↓VS_len, ↓Hold_1, With_some, emap_nil, ↓eget_eset, ↓ae_tmp, ↓ae_int, lop_pick, asBool_bool, asGuard_bool, ayielded_eq, ↓dstAt_zero, ↓dstAt_succ, Option.map_some, Option.bind_some, ↓reduceIte, Nat.reduceEqDiff, reduceCtorEq, decide_true, beq_self_eq_true, vload_at, vbin_int, abin_lss, abin_add, beq_self_eq_true, Int.toNat_natCast, decide_true, beq_self_eq_true, vgt42, vis46, vls46, vls42, e0, e3, e4, hlt, h0, hn, hx, w1, w2, List.length_map]
        refine Vc_loop (fun m e S => ∃ j : Nat, m = l.length - j ∧ j ≤ l.length ∧ eget e 0 = sl c d 1 (rs.map (RW.v d')) ∧ eget e 3 = .int .i64 (n + 1 + l.length) ∧ eget e 4 = .int .i64 i ∧ eget e 5 = .int .i64 j ∧ (∀ q, (h : q < l.length) → q < j → (l[q].s.size : Int) ≤ 400) ∧ S = ⟨[], [], []⟩) l.length ?_ ?_
        · refine ⟨0, rfl, Nat.zero_le _, ?_, ?_, ?_, ?_, fun q _ h => absurd h (Nat.not_lt_zero q), rfl⟩ <;> simp only [↓eget_eset, ↓reduceIte, Nat.reduceEqDiff, reduceCtorEq, e0, e4] <;> rfl
        · rintro m e S ⟨j, rfl, hj, e0, e3, e4, e5, hall, rfl⟩
          refine VWP_Vc _ _ _ _ ?_
          have hnum : ((i : Int) + 1) = ((i + 1 : Nat) : Int) := by omega
          have hwr : IntKind.i64.wrap ((i : Int) + 1) = ((i + 1 : Nat) : Int) := by rw [hnum]; exact wrap_id (by omega) (by omega)
          by_cases hjn : j < l.length
          · have hlt : (j : Int) < l.length := by omega
            have h0j : (0 : Int) ≤ j := by omega
            by_cases h3 : (j : Int) < 300
            · have hxj : (l.map VV.v)[j]? = some l[j].v := by simp [hjn]
              have hnumj : ((j : Int) + 1) = ((j + 1 : Nat) : Int) := by omega
              have hwrj : IntKind.i64.wrap ((j : Int) + 1) = ((j + 1 : Nat) : Int) := by rw [hnumj]; exact wrap_id (by omega) (by omega)
              have hs : l[j].s.size = l[j].s.size := rfl
              by_cases h4 : (400 : Int) < l[j].s.size
              · have hsh : shortF l = false := by
                  rw [Bool.eq_false_iff, Ne, shortF_at]
                  intro hh
                  have := hh j hjn (by omega)
                  omega
                generalize l[j] = x at hxj h4
                obtain ⟨k, m, s⟩ := x
                simp only [VV.v] at hxj
                simp -dsimp only [cellV_sl, ↓VWP_seq, ↓VWP_region, ↓VWP_cond, ↓VWP_ret, ↓VWP_skip, ↓VWP_block, ↓VReg_one, ↓VReg_nil, ↓VS_guard, ↓VS_move, ↓VS_assign, ↓VS_pick, ↓VS_load, ↓VS_binOp, ↓VS_fieldAddr, ↓VS_indexAddr, ↓VS_len, ↓With_guard, ↓Hold_1, ↓Hold_3, With_some, emap_nil, ↓eget_eset, ↓ae_tmp, ↓ae_int, ↓ae_bool, lop_pick, asBool_bool, asGuard_bool, ayielded_eq, ↓dstAt_zero, ↓dstAt_succ, ↓vfinish_ret, ↓vres_nil, ↓vres_tmp, vtell_eq, ret1, Option.map_some, Option.bind_some, ↓reduceIte, Nat.reduceEqDiff, reduceCtorEq, Bool.false_eq_true, decide_true, List.getElem?_cons_zero, List.getElem?_cons_succ, true_and, List.toList_toArray, List.length_nil, mapOwn_bool, toks_bool, okv_bool, beq_self_eq_true, vthaw_nil, vwrites_nil, List.length_nil, vload_at, vfield_at, cellV_string, isAggV_string, vbin_int, abin_lss, abin_gtr, beq_self_eq_true, Int.toNat_natCast, gt_iff_lt, decide_true, beq_self_eq_true, vgt42, vgt9, vpt48_2, vis46, vis42, vls42, vlr9, Tryd.results32, e0, e4, e5, hlt, h0, h0j, hx, hxj, h3, h4, List.length_map]
                rw [hf, fewGo, if_pos hn]
                simp [hsh]
              · have hle : (l[j].s.size : Int) ≤ 400 := by omega
                generalize hX2 : l[j] = x at hxj h4 hle
                obtain ⟨k, m, s⟩ := x
                simp only [VV.v] at hxj
                simp -dsimp only [cellV_sl, ↓VWP_seq, ↓VWP_region, ↓VWP_cond, ↓VWP_skip, ↓VWP_block, ↓VReg_one, ↓VReg_nil, ↓VS_guard, ↓VS_move, ↓VS_assign, ↓VS_pick, ↓VS_load, ↓VS_binOp, ↓VS_fieldAddr, ↓VS_indexAddr, ↓VS_len, ↓Hold_1, With_some, emap_nil, ↓eget_eset, ↓ae_tmp, ↓ae_int, lop_pick, asBool_bool, asGuard_bool, ayielded_eq, ↓dstAt_zero, ↓dstAt_succ, Option.map_some, Option.bind_some, ↓reduceIte, Nat.reduceEqDiff, reduceCtorEq, Bool.false_eq_true, decide_true, decide_false, List.getElem?_cons_zero, List.getElem?_cons_succ, and_true, true_and, beq_self_eq_true, vload_at, vfield_at, cellV_string, isAggV_string, vbin_int, abin_lss, abin_gtr, abin_add, beq_self_eq_true, Int.toNat_natCast, gt_iff_lt, decide_true, decide_false, beq_self_eq_true, vgt42, vgt9, vpt48_2, vis46, vis42, vls42, vlr9, e0, e3, e4, e5, hlt, h0, h0j, hx, hxj, h3, h4, List.length_map]
                exact ⟨l.length - (j + 1), by omega, j + 1, rfl, by omega, by rw [hwrj], fun q hq h => by
                  rcases Nat.lt_succ_iff_lt_or_eq.1 h with h | rfl
                  · exact hall q hq h
                  · rw [hX2]; exact hle⟩
            · have hsh : shortF l = true := by
                rw [shortF_at]
                intro q hq h
                exact hall q hq (by omega)
              simp -dsimp only [cellV_sl, ↓VWP_seq, ↓VWP_region, ↓VWP_cond, ↓VWP_exit, ↓VReg_one, ↓VReg_nil, ↓VS_guard, ↓VS_move, ↓VS_assign, ↓VS_pick, ↓VS_load, ↓VS_binOp, ↓VS_indexAddr, ↓VS_len, ↓Hold_1, ↓Hold_3, With_some, emap_nil, ↓eget_eset, ↓ae_tmp, ↓ae_int, lop_pick, asBool_bool, asGuard_bool, ayielded_eq, ↓dstAt_zero, ↓dstAt_succ, Option.map_some, Option.bind_some, ↓reduceIte, Nat.reduceEqDiff, reduceCtorEq, Bool.false_eq_true, decide_true, decide_false, and_true, true_and, beq_self_eq_true, vload_at, vbin_int, abin_lss, abin_add, beq_self_eq_true, Int.toNat_natCast, decide_true, decide_false, beq_self_eq_true, vgt42, vis46, vls42, e0, e3, e4, e5, hlt, h0, hx, h3, List.length_map]
              exact ⟨rs.length - (i + 1), by omega, i + 1, n + 1 + l.length, rfl, by omega, rfl, by rw [hwr], by omega, by omega, by rw [hf, fewGo, if_pos hn]; simp [hsh]⟩
          · obtain rfl : j = l.length := by omega
            have hlt : ¬ ((l.length : Int) < l.length) := by omega
            have hsh : shortF l = true := by
              rw [shortF_at]
              intro q hq h
              exact hall q hq hq
            simp -dsimp only [cellV_sl, ↓VWP_seq, ↓VWP_region, ↓VWP_cond, ↓VWP_exit, ↓VReg_one, ↓VReg_nil, ↓VS_guard, ↓VS_move, ↓VS_assign, ↓VS_pick, ↓VS_load, ↓VS_binOp, ↓VS_indexAddr, ↓VS_len, ↓Hold_1, ↓Hold_3, With_some, emap_nil, ↓eget_eset, ↓ae_tmp, ↓ae_int, ↓ae_bool, lop_pick, asBool_bool, asGuard_bool, bb_ft, ayielded_eq, ↓dstAt_zero, ↓dstAt_succ, Option.map_some, Option.bind_some, ↓reduceIte, Nat.reduceEqDiff, reduceCtorEq, Bool.false_eq_true, decide_false, and_true, true_and, vload_at, vbin_int, abin_lss, abin_add, Int.toNat_natCast, decide_false, bb_ft, vgt42, vis46, vls42, e0, e3, e4, e5, hlt, h0, hx, List.length_map]
            exact ⟨rs.length - (i + 1), by omega, i + 1, n + 1 + l.length, rfl, by omega, rfl, by rw [hwr], by omega, by omega, by rw [hf, fewGo, if_pos hn]; simp [hsh]⟩
      · simp -dsimp only [↓VWP_seq, ↓VWP_region, ↓VWP_cond, ↓VWP_ret, ↓VWP_exit, ↓VReg_one, ↓VReg_nil, ↓VS_guard, ↓VS_move, ↓VS_assign, ↓VS_pick, ↓VS_binOp, ↓VS_len, ↓With_guard, ↓Hold_1, ↓Hold_3, With_some, emap_nil, ↓eget_eset, ↓ae_tmp, ↓ae_int, lop_pick, asBool_bool, asGuard_bool, ayielded_eq, ↓dstAt_zero, ↓dstAt_succ, ↓vfinish_ret, ↓vres_nil, ↓vres_tmp, vtell_eq, ret1, Option.map_some, Option.bind_some, ↓reduceIte, Nat.reduceEqDiff, reduceCtorEq, Bool.false_eq_true, decide_true, decide_false, true_and, List.toList_toArray, List.length_nil, mapOwn_bool, toks_bool, okv_bool, beq_self_eq_true, vthaw_nil, vwrites_nil, List.length_nil, vbin_int, abin_lss, abin_leq, beq_self_eq_true, decide_true, decide_false, beq_self_eq_true, vls46, Tryd.results32, e0, e3, e4, hlt, hn, List.length_map]
        rw [hf, List.drop_eq_getElem_cons hin, fewGo, if_neg hn]
    · obtain rfl : i = rs.length := by omega
      have hlt : ¬ ((rs.length : Int) < rs.length) := by omega
      simp -dsimp only [↓VWP_seq, ↓VWP_region, ↓VWP_cond, ↓VWP_ret, ↓VWP_exit, ↓VReg_one, ↓VReg_nil, ↓VS_guard, ↓VS_move, ↓VS_assign, ↓VS_pick, ↓VS_binOp, ↓VS_len, ↓With_guard, ↓Hold_1, ↓Hold_3, With_some, emap_nil, ↓eget_eset, ↓ae_tmp, ↓ae_int, ↓ae_bool, lop_pick, asBool_bool, asGuard_bool, bb_ft, ayielded_eq, ↓dstAt_zero, ↓dstAt_succ, ↓vfinish_ret, ↓vres_nil, ↓vres_tmp, vtell_eq, ret1, Option.map_some, Option.bind_some, ↓reduceIte, Nat.reduceEqDiff, reduceCtorEq, Bool.false_eq_true, decide_false, true_and, List.toList_toArray, List.length_nil, mapOwn_bool, toks_bool, okv_bool, vthaw_nil, vwrites_nil, List.length_nil, vbin_int, abin_lss, abin_leq, decide_false, bb_ft, vls46, Tryd.results32, e0, e3, e4, hlt, List.length_map]
      rw [hf, List.drop_length, fewGo]
end Go.Proofs.YtmdpggecelheoaaDoor.Abs
/- The reference: right values; a choice. -/
set_option linter.unusedVariables false
set_option linter.unusedSimpArgs false
set_option maxRecDepth 4000
set_option maxHeartbeats 0
namespace Go.Proofs.YtmdpggecelheoaaDoor.Abs
open Go
attribute [local irreducible] Hold VReg Vf Vc VWP With VStp Vcallee Vp VE
theorem qright_p {X : VOuter} (hX : X 34 = none) (k n : Int) (s : ByteArray) : Vp Tryd.prog X 34 [.agg ⟨[.int .i64 k, .int .i64 n, .string s]⟩] (.bool (rightF ⟨k, n, s⟩)) := by
  unfold Vp
  refine Vf_text hX Tryd.func34 rfl (by kernel_rfl) (by show 1 ≤ _; decide) ?_
  have hl : ((s.size : Int) ≤ 200) ↔ s.size ≤ 200 := by omega
  unfold rightF
  by_cases k0 : k = 0
  · subst k0
    by_cases h1 : n = 0 <;> by_cases h2 : s.size = 0 <;> simp -dsimp only [↓VWP_seq, ↓VWP_region, ↓VWP_cond, ↓VWP_ret, ↓VWP_block, ↓VReg_one, ↓VReg_nil, ↓VS_guard, ↓VS_move, ↓VS_assign, ↓VS_pick, ↓VS_load, ↓VS_binOp, ↓VS_fieldAddr, ↓VS_box, ↓With_guard, ↓Hold_1, With_some, emap_nil, ↓eget_eset, ↓ae_tmp, ↓ae_int, ↓ae_bool, ↓ae_string, eget_zero, lop_pick, asBool_bool, asGuard_bool, bb_ft, ayielded_eq, ↓dstAt_zero, ↓dstAt_succ, ↓vfinish_ret, ↓vres_nil, ↓vres_tmp, vtell_eq, ret1, Option.map_some, Option.bind_some, ↓reduceIte, Nat.reduceEqDiff, Bool.false_eq_true, decide_true, decide_false, Bool.not_false, List.getElem?_cons_zero, List.getElem?_cons_succ, Nat.zero_add, Nat.add_zero, and_self, List.all_cons, List.all_nil, tup_int, tup_str, tup_agg, cel_agg, Bool.and_true, List.toList_toArray, List.length_nil, mapOwn_bool, toksL_nil, toksL_cons, toks_int, toks_bool, toks_string, okv_bool, okv_int, okv_string, List.all_nil, List.all_cons, List.append_nil, List.nil_append, Bool.and_true, Bool.and_false, Bool.and_self, Bool.not_false, beq_self_eq_true, vnext_mk, vpush_mk, vget_nil, cellsIn_mk, vthaw_nil, vwrites_nil, List.getD_cons_zero, List.length_nil, vbin_int, vbin_string, ↓vbox_free, cellsOk_free, cellF, abin_eql, beq_self_eq_true, decide_true, decide_false, beq_self_eq_true, bb_ft, ibeq, vld3, vld9, vfp48_0, vfp48_1, vfp48_2, Tryd.results34, sempty, h1, h2]
  · by_cases k1 : k = 1
    · subst k1
      by_cases h2 : s.size = 0 <;> simp -dsimp only [↓VWP_seq, ↓VWP_region, ↓VWP_cond, ↓VWP_ret, ↓VWP_block, ↓VReg_one, ↓VReg_nil, ↓VS_assign, ↓VS_load, ↓VS_binOp, ↓VS_fieldAddr, ↓VS_box, ↓With_guard, ↓Hold_1, With_some, emap_nil, ↓eget_eset, ↓ae_tmp, ↓ae_int, ↓ae_bool, ↓ae_string, eget_zero, asBool_bool, ↓vfinish_ret, ↓vres_nil, ↓vres_tmp, vtell_eq, ret1, Option.map_some, Option.bind_some, ↓reduceIte, Nat.reduceEqDiff, Bool.false_eq_true, decide_true, decide_false, Bool.not_false, List.getElem?_cons_zero, List.getElem?_cons_succ, Nat.zero_add, Nat.add_zero, and_self, List.all_cons, List.all_nil, tup_int, tup_str, tup_agg, cel_agg, List.toList_toArray, List.length_nil, mapOwn_bool, toksL_nil, toksL_cons, toks_int, toks_bool, toks_string, okv_bool, okv_int, okv_string, List.all_nil, List.all_cons, List.append_nil, List.nil_append, Bool.and_self, Bool.not_false, beq_self_eq_true, vnext_mk, vpush_mk, vget_nil, cellsIn_mk, vthaw_nil, vwrites_nil, List.getD_cons_zero, List.length_nil, vbin_int, vbin_string, ↓vbox_free, cellsOk_free, cellF, abin_eql, beq_self_eq_true, decide_true, decide_false, beq_self_eq_true, ibeq, vld3, vld9, vfp48_0, vfp48_2, Tryd.results34, sempty, h2, k0]
    · by_cases k2 : k = 2
      · subst k2
        by_cases h1 : n = 0 <;> by_cases h2 : s.size ≤ 200 <;> simp -dsimp only [↓VWP_seq, ↓VWP_region, ↓VWP_cond, ↓VWP_ret, ↓VWP_block, ↓VReg_one, ↓VReg_nil, ↓VS_guard, ↓VS_move, ↓VS_assign, ↓VS_pick, ↓VS_load, ↓VS_binOp, ↓VS_fieldAddr, ↓VS_len, ↓VS_box, ↓With_guard, ↓Hold_1, With_some, emap_nil, ↓eget_eset, ↓ae_tmp, ↓ae_int, ↓ae_bool, eget_zero, lop_pick, asBool_bool, asGuard_bool, bb_ft, ayielded_eq, ↓dstAt_zero, ↓dstAt_succ, ↓vfinish_ret, ↓vres_nil, ↓vres_tmp, vtell_eq, ret1, Option.map_some, Option.bind_some, ↓reduceIte, Nat.reduceEqDiff, Bool.false_eq_true, decide_true, decide_false, Bool.not_false, List.getElem?_cons_zero, List.getElem?_cons_succ, Nat.zero_add, Nat.add_zero, and_self, List.all_cons, List.all_nil, tup_int, tup_str, tup_agg, cel_agg, Bool.and_true, List.toList_toArray, List.length_nil, mapOwn_bool, toksL_nil, toksL_cons, toks_int, toks_bool, toks_string, okv_bool, okv_int, okv_string, List.all_nil, List.all_cons, List.append_nil, List.nil_append, Bool.and_true, Bool.and_false, Bool.and_self, Bool.not_false, beq_self_eq_true, vnext_mk, vpush_mk, vget_nil, cellsIn_mk, vthaw_nil, vwrites_nil, List.getD_cons_zero, List.length_nil, vbin_int, ↓vbox_free, cellsOk_free, cellF, abin_eql, abin_leq, beq_self_eq_true, decide_true, decide_false, beq_self_eq_true, bb_ft, ibeq, vld3, vld9, vfp48_0, vfp48_1, vfp48_2, vlr9, Tryd.results34, h1, h2, hl, k0, k1]
      · by_cases k3 : k = 3
        · subst k3
          by_cases h1 : n = 0 <;> by_cases h3 : n = 1 <;> by_cases h2 : s.size = 0 <;> simp -dsimp only [↓VWP_seq, ↓VWP_region, ↓VWP_cond, ↓VWP_ret, ↓VWP_block, ↓VReg_one, ↓VReg_nil, ↓VS_guard, ↓VS_move, ↓VS_assign, ↓VS_pick, ↓VS_load, ↓VS_binOp, ↓VS_fieldAddr, ↓VS_box, ↓With_guard, ↓Hold_1, With_some, emap_nil, ↓eget_eset, ↓ae_tmp, ↓ae_int, ↓ae_bool, ↓ae_string, eget_zero, lop_pick, asBool_bool, asGuard_bool, bb_ft, bb_tf, ayielded_eq, ↓dstAt_zero, ↓dstAt_succ, ↓vfinish_ret, ↓vres_nil, ↓vres_tmp, vtell_eq, ret1, Option.map_some, Option.bind_some, ↓reduceIte, Nat.reduceEqDiff, Bool.false_eq_true, decide_true, decide_false, Bool.not_false, List.getElem?_cons_zero, List.getElem?_cons_succ, Nat.zero_add, Nat.add_zero, and_self, List.all_cons, List.all_nil, tup_int, tup_str, tup_agg, cel_agg, Bool.and_true, List.toList_toArray, List.length_nil, mapOwn_bool, toksL_nil, toksL_cons, toks_int, toks_bool, toks_string, okv_bool, okv_int, okv_string, List.all_nil, List.all_cons, List.append_nil, List.nil_append, Bool.and_true, Bool.and_false, Bool.and_self, Bool.not_false, Bool.false_or, Bool.or_false, beq_self_eq_true, vnext_mk, vpush_mk, vget_nil, cellsIn_mk, vthaw_nil, vwrites_nil, List.getD_cons_zero, List.length_nil, vbin_int, vbin_string, ↓vbox_free, cellsOk_free, cellF, abin_eql, beq_self_eq_true, decide_true, decide_false, beq_self_eq_true, bb_ft, bb_tf, ibeq, Int.reduceEq, vld3, vld9, vfp48_0, vfp48_1, vfp48_2, Tryd.results34, sempty, h1, h2, h3, k0, k1, k2]
        · by_cases k4 : k = 4
          · subst k4
            by_cases h1 : 1 ≤ n <;> by_cases h3 : n ≤ 7 <;> by_cases h2 : s.size = 0 <;> simp -dsimp only [↓VWP_seq, ↓VWP_region, ↓VWP_cond, ↓VWP_ret, ↓VWP_block, ↓VReg_one, ↓VReg_nil, ↓VS_guard, ↓VS_move, ↓VS_assign, ↓VS_pick, ↓VS_load, ↓VS_binOp, ↓VS_fieldAddr, ↓VS_box, ↓With_guard, ↓Hold_1, With_some, emap_nil, ↓eget_eset, ↓ae_tmp, ↓ae_int, ↓ae_bool, ↓ae_string, eget_zero, lop_pick, asBool_bool, asGuard_bool, bb_ft, ayielded_eq, ↓dstAt_zero, ↓dstAt_succ, ↓vfinish_ret, ↓vres_nil, ↓vres_tmp, vtell_eq, ret1, Option.map_some, Option.bind_some, ↓reduceIte, Nat.reduceEqDiff, Bool.false_eq_true, decide_true, decide_false, Bool.not_false, List.getElem?_cons_zero, List.getElem?_cons_succ, Nat.zero_add, Nat.add_zero, and_self, List.all_cons, List.all_nil, tup_int, tup_str, tup_agg, cel_agg, Bool.and_true, List.toList_toArray, List.length_nil, mapOwn_bool, toksL_nil, toksL_cons, toks_int, toks_bool, toks_string, okv_bool, okv_int, okv_string, List.all_nil, List.all_cons, List.append_nil, List.nil_append, Bool.and_true, Bool.and_false, Bool.and_self, Bool.not_false, beq_self_eq_true, vnext_mk, vpush_mk, vget_nil, cellsIn_mk, vthaw_nil, vwrites_nil, List.getD_cons_zero, List.length_nil, vbin_int, vbin_string, ↓vbox_free, cellsOk_free, cellF, abin_eql, abin_leq, abin_geq, beq_self_eq_true, ge_iff_le, decide_true, decide_false, beq_self_eq_true, bb_ft, ibeq, vld3, vld9, vfp48_0, vfp48_1, vfp48_2, Tryd.results34, sempty, h1, h2, h3, k0, k1, k2, k3]
          · simp -dsimp only [↓VWP_seq, ↓VWP_region, ↓VWP_cond, ↓VWP_ret, ↓VWP_skip, ↓VWP_block, ↓VReg_one, ↓VReg_nil, ↓VS_assign, ↓VS_load, ↓VS_binOp, ↓VS_fieldAddr, ↓VS_box, ↓With_guard, ↓Hold_1, With_some, emap_nil, ↓eget_eset, ↓ae_tmp, ↓ae_int, ↓ae_bool, eget_zero, asBool_bool, ↓vfinish_ret, ↓vres_nil, ↓vres_tmp, vtell_eq, ret1, Option.map_some, Option.bind_some, ↓reduceIte, Nat.reduceEqDiff, Bool.false_eq_true, decide_false, Bool.not_false, List.getElem?_cons_zero, Nat.add_zero, and_self, List.all_cons, List.all_nil, tup_int, tup_str, tup_agg, cel_agg, List.toList_toArray, List.length_nil, mapOwn_bool, toksL_nil, toksL_cons, toks_int, toks_bool, toks_string, okv_bool, okv_int, okv_string, List.all_nil, List.all_cons, List.append_nil, List.nil_append, Bool.and_self, Bool.not_false, beq_self_eq_true, vnext_mk, vpush_mk, vget_nil, cellsIn_mk, vthaw_nil, vwrites_nil, List.getD_cons_zero, List.length_nil, vbin_int, ↓vbox_free, cellsOk_free, cellF, abin_eql, beq_self_eq_true, decide_false, beq_self_eq_true, ibeq, vld3, vfp48_0, Tryd.results34, k0, k1, k2, k3, k4]
theorem qright_c {X : VOuter} (hX : X 34 = none) (k n : Int) (s : ByteArray) {S : VH} {K : VCont} : Vcallee Tryd.prog X 34 [.agg ⟨[.int .i64 k, .int .i64 n, .string s]⟩] S K = K (.bool (rightF ⟨k, n, s⟩)) [] S [] false := Vcallee_of (qright_p hX k n s) rfl rfl rfl
def chooseF (x : VV) (l : List VV) : VV := if (numF x).2.2 then (if (numF x).1 < 1 ∨ (l.length : Int) + 1 ≤ (numF x).1 then eV 7 else l.getD ((numF x).1 - 1).toNat zV) else (numF x).2.1
theorem choose_p {X : VOuter} (h : AOff X) (hX : X 121 = none) (hX1 : X 151 = none) (c : Bool) (d : Nat) (k n : Int) (s : ByteArray) (l : List VV) : Vp Tryd.prog X 121 [sl c d 3 (((⟨k, n, s⟩ : VV) :: l).map VV.v)] (chooseF ⟨k, n, s⟩ l).v := by
  unfold Vp
  refine Vf_text hX Tryd.func121 rfl (by kernel_rfl) (by show 1 ≤ _; decide) ?_
  have hN := numsF_one ⟨k, n, s⟩
  cases h1 : (numF ⟨k, n, s⟩).2.2
  · rw [h1, if_neg (by simp)] at hN
    simp -dsimp only [↓Hold_5, ↓VWP_seq, ↓VWP_region, ↓VWP_cond, ↓VWP_ret, ↓VWP_block, ↓VReg_one, ↓VReg_non, ↓VReg_nil, ↓VS_move, ↓VS_assign, ↓VS_load, ↓VS_unOp, ↓VS_indexAddr, ↓VS_extract, ↓VS_buildSlice, ↓VS_store, ↓With_bindH, ↓With_guard, ↓Hold_1, With_some, emap_nil, emap_cons, ↓eget_map, ↓eget_eset, ↓ae_tmp, ↓ae_int, eget_zero, lop_extract, lop_not, asBool_bool, ↓vfinish_ret, ↓vres_nil, ↓vres_cell, vtell_eq, ret1, Option.map_some, ↓reduceIte, Nat.reduceEqDiff, reduceCtorEq, decide_true, decide_false, Bool.not_false, List.getElem?_toArray, List.getElem?_cons_zero, List.getElem?_cons_succ, Nat.zero_add, Nat.add_zero, Nat.reduceAdd, Nat.reduceMul, Nat.reduceLT, Nat.reduceLeDiff, true_and, and_self, List.map_cons, List.map_nil, List.all_cons, List.all_nil, tup_int, tup_str, tup_agg, cel_agg, List.drop_zero, List.toList_toArray, List.size_toArray, List.length_cons, List.length_nil, mapOwn_agg, mapOwn_int, mapOwn_string, mapOwn_pointer, toksL_nil, toksL_cons, toks_int, toks_string, toks_agg, okv_agg, okv_int, okv_string, List.flatMap_nil, List.flatMap_cons, List.all_nil, List.all_cons, List.append_nil, List.nil_append, List.cons_append, List.map_nil, List.map_cons, Bool.and_self, Bool.not_false, beq_self_eq_true, vnext_mk, vpush_mk, vget_nil, vput_nil, cellsIn_mk, vturn_nil, vthaw_one, vthaw_nil, boxesOf_nil, vwrites_nil, List.getD_cons_zero, List.getD_cons_succ, List.set_cons_zero, List.set_cons_succ, List.length_cons, List.length_nil, List.drop_zero, List.take_succ_cons, List.take_zero, vload_at, aggV_agg, partsOk_nil, partsOk_cons, vfill_nil, vfill_cons, ↓vlay_free, cellsOk_free, cellF, List.replicate_succ, List.replicate_zero, beq_self_eq_true, Int.reduceLE, Int.reduceToNat, decide_true, decide_false, beq_self_eq_true, setAll_whole, vld48, vgt48, vst48, ↓val48, vbd42, vis42, ↓vfk151, Tryd.results121, VV.v, ↓numbers1_c h hX1, hN]
    simp [chooseF, h1]
  · rw [h1, if_pos rfl] at hN
    generalize hm : (numF ⟨k, n, s⟩).1 = m at hN
    by_cases h2 : m < 1
    · simp -dsimp only [↓Hold_5, ↓VWP_seq, ↓VWP_region, ↓VWP_cond, ↓VWP_ret, ↓VWP_block, ↓VReg_one, ↓VReg_non, ↓VReg_nil, ↓VS_guard, ↓VS_move, ↓VS_assign, ↓VS_pick, ↓VS_load, ↓VS_binOp, ↓VS_unOp, ↓VS_indexAddr, ↓VS_extract, ↓VS_buildSlice, ↓VS_store, ↓With_bindH, ↓With_guard, ↓Hold_1, With_some, emap_nil, emap_cons, ↓eget_map, ↓eget_eset, ↓ae_tmp, ↓ae_int, ↓ae_bool, eget_zero, lop_pick, lop_extract, lop_not, asBool_bool, asGuard_bool, bb_tf, ayielded_eq, ↓dstAt_zero, ↓dstAt_succ, ↓vfinish_ret, ↓vres_nil, ↓vres_cell, vtell_eq, ret1, Option.map_some, Option.bind_some, ↓reduceIte, Nat.reduceEqDiff, reduceCtorEq, Bool.false_eq_true, decide_true, decide_false, Bool.not_true, Bool.not_false, List.getElem?_toArray, List.getElem?_cons_zero, List.getElem?_cons_succ, Nat.zero_add, Nat.add_zero, Nat.reduceAdd, Nat.reduceMul, Nat.reduceLT, Nat.reduceLeDiff, true_and, and_self, List.map_cons, List.map_nil, List.all_cons, List.all_nil, tup_int, tup_str, tup_agg, cel_agg, List.drop_zero, List.toList_toArray, List.size_toArray, List.length_cons, List.length_nil, mapOwn_agg, mapOwn_int, mapOwn_string, mapOwn_pointer, toksL_nil, toksL_cons, toks_int, toks_string, toks_agg, okv_agg, okv_int, okv_string, List.flatMap_nil, List.flatMap_cons, List.all_nil, List.all_cons, List.append_nil, List.nil_append, List.cons_append, List.map_nil, List.map_cons, Bool.and_self, Bool.not_true, Bool.not_false, beq_self_eq_true, vnext_mk, vpush_mk, vget_nil, vput_nil, cellsIn_mk, vturn_nil, vthaw_one, vthaw_nil, boxesOf_nil, vwrites_nil, List.getD_cons_zero, List.getD_cons_succ, List.set_cons_zero, List.set_cons_succ, List.length_cons, List.length_nil, List.drop_zero, List.take_succ_cons, List.take_zero, vload_at, cellV_int, aggV_agg, partsOk_nil, partsOk_cons, vfill_nil, vfill_cons, vbin_int, ↓vlay_free, cellsOk_free, cellF, List.replicate_succ, List.replicate_zero, abin_lss, beq_self_eq_true, Int.reduceLE, Int.reduceToNat, decide_true, decide_false, beq_self_eq_true, bb_tf, setAll_whole, vld48, vgt48, vgt3, vst48, ↓val48, vbd42, vis42, vis43, ↓vfk151, ↓vfk51, Tryd.results121, VV.v, vI, ↓numbers1_c h hX1, hN, h2, ↓err_c h.err]
      simp [chooseF, h1, hm, h2, eV]
    · by_cases h3 : (l.length : Int) + 1 ≤ m
      · simp -dsimp only [↓Hold_5, thaw_sl, ↓VWP_seq, ↓VWP_region, ↓VWP_cond, ↓VWP_ret, ↓VWP_block, ↓VReg_one, ↓VReg_non, ↓VReg_nil, ↓VS_guard, ↓VS_move, ↓VS_assign, ↓VS_pick, ↓VS_load, ↓VS_binOp, ↓VS_unOp, ↓VS_indexAddr, ↓VS_extract, ↓VS_len, ↓VS_buildSlice, ↓VS_store, ↓With_bindH, ↓With_guard, ↓Hold_1, With_some, emap_nil, emap_cons, ↓eget_map, ↓eget_eset, ↓ae_tmp, ↓ae_int, eget_zero, lop_pick, lop_extract, lop_not, asBool_bool, asGuard_bool, ayielded_eq, ↓dstAt_zero, ↓dstAt_succ, ↓vfinish_ret, ↓vres_nil, ↓vres_cell, vtell_eq, ret1, Option.map_some, Option.bind_some, ↓reduceIte, Nat.reduceEqDiff, reduceCtorEq, Bool.false_eq_true, decide_true, decide_false, Bool.not_true, Bool.not_false, List.getElem?_toArray, List.getElem?_cons_zero, List.getElem?_cons_succ, Nat.zero_add, Nat.add_zero, Nat.reduceAdd, Nat.reduceMul, Nat.reduceLT, Nat.reduceLeDiff, true_and, and_self, List.map_cons, List.map_nil, List.all_cons, List.all_nil, tup_int, tup_str, tup_agg, cel_agg, List.drop_zero, List.toList_toArray, List.size_toArray, List.length_cons, List.length_nil, mapOwn_agg, mapOwn_int, mapOwn_string, mapOwn_pointer, toksL_nil, toksL_cons, toks_int, toks_string, toks_agg, okv_agg, okv_int, okv_string, List.flatMap_nil, List.flatMap_cons, List.all_nil, List.all_cons, List.append_nil, List.nil_append, List.cons_append, List.map_nil, List.map_cons, Bool.and_self, Bool.not_true, Bool.not_false, beq_self_eq_true, vnext_mk, vpush_mk, vget_nil, vput_nil, cellsIn_mk, vturn_nil, vthaw_one, vthaw_nil, boxesOf_nil, vwrites_nil, List.getD_cons_zero, List.getD_cons_succ, List.set_cons_zero, List.set_cons_succ, List.length_cons, List.length_nil, List.drop_zero, List.take_succ_cons, List.take_zero, vload_at, cellV_int, aggV_agg, partsOk_nil, partsOk_cons, vfill_nil, vfill_cons, vbin_int, ↓vlay_free, cellsOk_free, cellF, List.replicate_succ, List.replicate_zero, abin_lss, abin_geq, Int.cast_ofNat_Int, beq_self_eq_true, Int.reduceLE, Int.reduceToNat, ge_iff_le, decide_true, decide_false, beq_self_eq_true, setAll_whole, vld48, vgt48, vgt3, vst48, ↓val48, vbd42, vis42, vis43, vls42, ↓vfk151, ↓vfk51, Tryd.results121, VV.v, vI, ↓numbers1_c h hX1, hN, h2, h3, ↓err_c h.err, List.length_map, Int.natCast_add, Int.cast_ofNat_Int]
        simp [chooseF, h1, hm, h2, h3, eV]
      · have h0 : 0 ≤ m := by omega
        have hi : m.toNat = (m - 1).toNat + 1 := by omega
        have hil : (m - 1).toNat < l.length := by omega
        have hx : (Value.agg ⟨[.int .i64 k, .int .i64 n, .string s]⟩ :: l.map VV.v)[m.toNat]? = some (l.getD (m - 1).toNat zV).v := by
          rw [hi, List.getElem?_cons_succ, List.getElem?_map, List.getD_eq_getElem?_getD, List.getElem?_eq_getElem hil]
          rfl
        have hch : chooseF ⟨k, n, s⟩ l = l.getD (m - 1).toNat zV := by
          unfold chooseF
          rw [h1, if_pos rfl, hm, if_neg (by omega)]
        rw [hch]
        generalize l.getD (m - 1).toNat zV = x at hx
        simp only [VV.v] at hx ⊢
        simp -dsimp only [↓Hold_5, thaw_sl, ↓VWP_seq, ↓VWP_region, ↓VWP_cond, ↓VWP_ret, ↓VWP_skip, ↓VWP_block, ↓VReg_one, ↓VReg_non, ↓VReg_nil, ↓VS_guard, ↓VS_move, ↓VS_assign, ↓VS_pick, ↓VS_load, ↓VS_binOp, ↓VS_unOp, ↓VS_indexAddr, ↓VS_extract, ↓VS_len, ↓VS_buildSlice, ↓VS_store, ↓With_bindH, ↓With_guard, ↓Hold_1, With_some, emap_nil, emap_cons, ↓eget_map, ↓eget_eset, ↓ae_tmp, ↓ae_int, eget_zero, lop_pick, lop_extract, lop_not, asBool_bool, asGuard_bool, ayielded_eq, ↓dstAt_zero, ↓dstAt_succ, ↓vfinish_ret, ↓vres_nil, ↓vres_cell, vtell_eq, ret1, Option.map_some, Option.bind_some, ↓reduceIte, Nat.reduceEqDiff, reduceCtorEq, Bool.false_eq_true, decide_true, decide_false, Bool.not_true, Bool.not_false, List.getElem?_toArray, List.getElem?_cons_zero, List.getElem?_cons_succ, Nat.zero_add, Nat.add_zero, Nat.reduceAdd, Nat.reduceMul, Nat.reduceLT, Nat.reduceLeDiff, and_self, List.map_cons, List.map_nil, List.all_cons, List.all_nil, tup_int, tup_str, tup_agg, cel_agg, List.drop_zero, List.toList_toArray, List.size_toArray, List.length_cons, List.length_nil, mapOwn_agg, mapOwn_int, mapOwn_string, mapOwn_pointer, toksL_nil, toksL_cons, toks_int, toks_string, toks_agg, okv_agg, okv_int, okv_string, List.flatMap_nil, List.flatMap_cons, List.all_nil, List.all_cons, List.append_nil, List.nil_append, List.cons_append, List.map_nil, List.map_cons, Bool.and_self, Bool.not_true, Bool.not_false, beq_self_eq_true, vnext_mk, vpush_mk, vget_nil, vput_nil, cellsIn_mk, vturn_nil, vthaw_one, vthaw_nil, boxesOf_nil, vwrites_nil, List.getD_cons_zero, List.getD_cons_succ, List.set_cons_zero, List.set_cons_succ, List.length_cons, List.length_nil, List.drop_zero, List.take_succ_cons, List.take_zero, vload_at, cellV_int, aggV_agg, partsOk_nil, partsOk_cons, vfill_nil, vfill_cons, vbin_int, ↓vlay_free, cellsOk_free, cellF, List.replicate_succ, List.replicate_zero, abin_lss, abin_geq, Int.cast_ofNat_Int, beq_self_eq_true, Int.reduceLE, Int.reduceToNat, ge_iff_le, decide_true, decide_false, beq_self_eq_true, setAll_whole, vld48, vgt48, vgt3, vst48, ↓val48, vbd42, vis42, vis43, vls42, ↓vfk151, Tryd.results121, VV.v, vI, ↓numbers1_c h hX1, hN, h2, h3, h0, ↓hx, List.length_map, Int.natCast_add, Int.cast_ofNat_Int]
end Go.Proofs.YtmdpggecelheoaaDoor.Abs
/- Where a value stands among others. -/
set_option linter.unusedVariables false
set_option linter.unusedSimpArgs false
set_option maxRecDepth 4000
set_option maxHeartbeats 0
namespace Go.Proofs.YtmdpggecelheoaaDoor.Abs
open Go
attribute [local irreducible] Hold VReg Vf Vc VWP With VStp Vcallee Vp VE
def matchGo (x : VV) : List VV → Nat → VV
  | [], _ => eV 7
  | y :: l, i => if y.k ≠ 4 ∧ cmpF y x = 0 then iV ((i : Int) + 1) else matchGo x l (i + 1)
def matchF (x : VV) (l : List VV) : VV := if x.k = 4 then x else matchGo x l 0
theorem match_p {X : VOuter} (h : AOff X) (hX : X 122 = none) (c : Bool) (d : Nat) (k n : Int) (s : ByteArray) (l : List VV) (hl : l.length ≤ 1000000000) : Vp Tryd.prog X 122 [sl c d 3 (((⟨k, n, s⟩ : VV) :: l).map VV.v)] (matchF ⟨k, n, s⟩ l).v := by
  unfold Vp
  refine Vf_text hX Tryd.func122 rfl (by kernel_rfl) (by show 1 ≤ _; decide) ?_
  by_cases h4 : k = 4
  · simp -dsimp only [↓VWP_seq, ↓VWP_region, ↓VWP_cond, ↓VWP_ret, ↓VReg_one, ↓VReg_non, ↓VReg_nil, ↓VS_move, ↓VS_load, ↓VS_binOp, ↓VS_fieldAddr, ↓VS_indexAddr, ↓VS_store, ↓With_bindH, ↓With_guard, ↓Hold_1, With_some, emap_nil, ↓eget_eset, ↓ae_tmp, ↓ae_int, eget_zero, asBool_bool, ↓vfinish_ret, ↓vres_nil, ↓vres_cell, vtell_eq, ret1, Option.map_some, Option.bind_some, ↓reduceIte, Nat.reduceEqDiff, reduceCtorEq, Bool.false_eq_true, decide_false, Bool.not_false, List.getElem?_cons_zero, Nat.zero_add, Nat.add_zero, Nat.reduceAdd, Nat.reduceLT, Nat.reduceLeDiff, true_and, and_self, List.map_cons, List.map_nil, List.all_cons, List.all_nil, tup_int, tup_str, tup_agg, cel_agg, List.drop_zero, List.toList_toArray, List.size_toArray, List.length_cons, List.length_nil, mapOwn_agg, mapOwn_int, mapOwn_string, toksL_nil, toksL_cons, toks_int, toks_string, toks_agg, okv_agg, okv_int, okv_string, List.flatMap_nil, List.flatMap_cons, List.all_nil, List.all_cons, List.append_nil, List.nil_append, List.map_nil, List.map_cons, Bool.and_self, Bool.not_false, beq_self_eq_true, vnext_mk, vpush_mk, vget_nil, vput_nil, cellsIn_mk, vthaw_nil, vwrites_nil, List.getD_cons_zero, List.set_cons_zero, List.length_cons, List.length_nil, List.drop_zero, List.take_succ_cons, List.take_zero, vload_at, vfield_at, cellV_int, aggV_agg, isAggV_int, vbin_int, ↓vlay_free, cellsOk_free, cellF, abin_eql, beq_self_eq_true, Int.reduceLE, Int.reduceToNat, decide_false, beq_self_eq_true, setAll_whole, vgt3, vld48, vgt48, vst48, ↓val48, vpt48_0, vis42, Tryd.results122, VV.v, h4]
    simp [matchF]
  · have hb : (1 : Int) ≤ l.length + 1 := by omega
    have htk : ((l.length : Int) + 1 - 1).toNat = l.length := by omega
    have htl : (l.map VV.v).take l.length = l.map VV.v := List.take_of_length_le (by simp)
    have hm : matchF ⟨k, n, s⟩ l = matchGo ⟨k, n, s⟩ l 0 := by simp [matchF, h4]
    rw [hm]
    have e0 : ((⟨k, n, s⟩ : VV) :: l).map VV.v = .agg ⟨[.int .i64 k, .int .i64 n, .string s]⟩ :: l.map VV.v := rfl
    rw [e0]
    simp -dsimp only [↓VWP_seq, ↓VWP_region, ↓VWP_cond, ↓VWP_skip, ↓VWP_block, ↓VWP_loop, ↓VReg_one, ↓VReg_nil, ↓VS_move, ↓VS_load, ↓VS_binOp, ↓VS_slice, ↓VS_fieldAddr, ↓VS_indexAddr, ↓VS_len, ↓Hold_1, With_some, emap_nil, ↓eget_eset, ↓ae_tmp, ↓ae_int, eget_zero, asBool_bool, Option.map_some, Option.bind_some, Option.map_none, ↓reduceIte, reduceCtorEq, Bool.false_eq_true, decide_false, List.getElem?_cons_zero, Nat.add_zero, true_and, and_self, List.drop_zero, List.length_cons, List.length_nil, List.nil_append, List.isEmpty_cons, Bool.and_false, vnext_mk, vpush_mk, List.length_cons, List.length_nil, List.drop_zero, List.drop_succ_cons, vload_at, vfield_at, cellV_int, isAggV_int, vbin_int, abin_eql, Int.cast_ofNat_Int, Int.reduceLE, Int.reduceToNat, decide_false, ibeq, abound_none, abound_some, vgt3, ↓val48, vpt48_0, vis42, vcs42, vls42, h4, hb, htk, htl, List.length_map, Int.natCast_add, Int.cast_ofNat_Int, List.isEmpty_cons, Bool.and_false, Int.le_refl]
    refine Vc_loop (fun m e S => ∃ i : Nat, m = l.length - i ∧ i ≤ l.length ∧ eget e 0 = sl c d 3 (.agg ⟨[.int .i64 k, .int .i64 n, .string s]⟩ :: l.map VV.v) ∧ eget e 14 = sl false d 3 (l.map VV.v) ∧ eget e 15 = .int .i64 l.length ∧ eget e 16 = .int .i64 i ∧ eget e 2 = .pointer (some { block := 0, off := 0 }) ∧ matchGo ⟨k, n, s⟩ (l.drop i) i = matchGo ⟨k, n, s⟩ l 0 ∧ ∃ J, S = ⟨[], .cells true 48 [.int .i64 0, .int .i64 0, .string .empty] :: J, []⟩) l.length ?_ ?_
    · refine ⟨0, rfl, Nat.zero_le _, ?_, ?_, ?_, ?_, ?_, rfl, [], rfl⟩ <;> simp only [↓eget_eset, eget_zero, ↓reduceIte, Nat.reduceEqDiff, reduceCtorEq] <;> rfl
    · rintro m e S ⟨i, rfl, hi, e0, e14, e15, e16, e2, hf, J, rfl⟩
      refine VWP_Vc _ _ _ _ ?_
      by_cases hin : i < l.length
      · have hlt : (i : Int) < l.length := by omega
        have h0 : (0 : Int) ≤ i := by omega
        have hx : (l.map VV.v)[i]? = some l[i].v := by simp [hin]
        rw [List.drop_eq_getElem_cons hin] at hf
        have hnum : ((i : Int) + 1) = ((i + 1 : Nat) : Int) := by omega
        have hwr : IntKind.i64.wrap ((i : Int) + 1) = (i : Int) + 1 := wrap_id (by omega) (by omega)
        generalize l[i] = x at hx hf
        obtain ⟨k', n', s'⟩ := x
        simp only [VV.v] at hx
        rw [matchGo] at hf
        dsimp only at hf
        by_cases hk : k' = 4
        · simp -dsimp only [↓VWP_seq, ↓VWP_region, ↓VWP_cond, ↓VWP_skip, ↓VWP_block, ↓VWP_open, ↓VReg_one, ↓VReg_non, ↓VReg_nil, ↓VS_move, ↓VS_assign, ↓VS_load, ↓VS_binOp, ↓VS_indexAddr, ↓VS_store, ↓Hold_1, With_some, emap_nil, ↓eget_eset, ↓ae_tmp, asBool_bool, Option.map_some, ↓reduceIte, Nat.reduceEqDiff, decide_true, Bool.not_false, Nat.zero_add, Nat.reduceAdd, Nat.reduceLeDiff, and_self, List.all_cons, List.all_nil, tup_int, tup_str, tup_agg, cel_agg, List.toList_toArray, List.size_toArray, List.length_cons, List.length_nil, toksL_nil, toksL_cons, toks_int, toks_string, okv_int, okv_string, List.all_nil, List.all_cons, List.append_nil, List.cons_append, Bool.and_self, Bool.not_false, beq_self_eq_true, vnext_mk, vpush_mk, vget_nil, vput_nil, cellsIn_mk, List.getD_cons_zero, List.getD_cons_succ, List.set_cons_zero, List.set_cons_succ, List.length_cons, List.length_nil, getD_app0, set_app0, List.length_append, vload_at, aggV_agg, vbin_int, ↓vlay_free, cellsOk_free, cellF, abin_lss, beq_self_eq_true, Int.toNat_natCast, decide_true, beq_self_eq_true, setAll_whole, vgt48, vst48, ↓val48, vis42, e14, e15, e16, hlt, h0, hx, hk]
          first | refine Vc_open [[], [], [], [], [], [], [], [], [], [], []] false (by kernel_rfl) (by kernel_rfl) (by kernel_rfl) ?_ | refine Vc_open2 [[], [], [], [], [], [], [], [], [], [], []] false (by kernel_rfl) (by kernel_rfl) (by kernel_rfl) (by kernel_rfl) ?_
          simp -dsimp only [↓VWP_region, ↓VWP_cond, ↓VWP_skip, ↓VReg_one, ↓VReg_nil, ↓VS_guard, ↓VS_move, ↓VS_pick, ↓VS_load, ↓VS_binOp, ↓VS_fieldAddr, ↓Hold_1, ↓Hold_3, With_some, emap_nil, ↓eget_eset, ↓ae_tmp, ↓ae_int, ↓ae_bool, lop_pick, asBool_bool, asGuard_bool, bb_ft, ayielded_eq, ↓dstAt_zero, ↓dstAt_succ, light, Option.bind_some, ↓reduceIte, Nat.reduceEqDiff, reduceCtorEq, Bool.false_eq_true, List.getElem?_cons_zero, Nat.add_zero, true_and, List.all_nil, List.all_nil, List.nil_append, vget_nil, cellsIn_mk, List.getD_cons_zero, List.getD_cons_succ, getD_app0, vbin_int, abin_neq, abin_add, bb_ft, bne_self_eq_false, ↓VE_nil, ↓VE_one0, List.reverse_cons, List.reverse_nil, vld3, vfp48_0, e0, e14, e15, e16, e2, hwr]
          exact ⟨l.length - (i + 1), by omega, i + 1, rfl, by omega, by rw [hnum], by rw [← hf, if_neg (by simp [hk])], _, rfl⟩
        · by_cases hc : cmpF ⟨k', n', s'⟩ ⟨k, n, s⟩ = 0
          · rw [if_pos ⟨hk, hc⟩] at hf
            rw [← hf]
            simp -dsimp only [↓VWP_seq, ↓VWP_region, ↓VWP_cond, ↓VWP_skip, ↓VWP_block, ↓VWP_open, ↓VReg_one, ↓VReg_non, ↓VReg_nil, ↓VS_move, ↓VS_assign, ↓VS_load, ↓VS_binOp, ↓VS_indexAddr, ↓VS_store, ↓Hold_1, With_some, emap_nil, ↓eget_eset, ↓ae_tmp, asBool_bool, Option.map_some, ↓reduceIte, Nat.reduceEqDiff, decide_true, Bool.not_false, Nat.zero_add, Nat.reduceAdd, Nat.reduceLeDiff, and_self, List.all_cons, List.all_nil, tup_int, tup_str, tup_agg, cel_agg, List.toList_toArray, List.size_toArray, List.length_cons, List.length_nil, toksL_nil, toksL_cons, toks_int, toks_string, okv_int, okv_string, List.all_nil, List.all_cons, List.append_nil, List.cons_append, Bool.and_self, Bool.not_false, beq_self_eq_true, vnext_mk, vpush_mk, vget_nil, vput_nil, cellsIn_mk, List.getD_cons_zero, List.getD_cons_succ, List.set_cons_zero, List.set_cons_succ, List.length_cons, List.length_nil, getD_app0, set_app0, List.length_append, vload_at, aggV_agg, vbin_int, ↓vlay_free, cellsOk_free, cellF, abin_lss, beq_self_eq_true, Int.toNat_natCast, decide_true, beq_self_eq_true, setAll_whole, vgt48, vst48, ↓val48, vis42, e14, e15, e16, hlt, h0, hx]
            first | refine Vc_open [[], [], [], [], [], [], [], [], [], [], []] false (by kernel_rfl) (by kernel_rfl) (by kernel_rfl) ?_ | refine Vc_open2 [[], [], [], [], [], [], [], [], [], [], []] false (by kernel_rfl) (by kernel_rfl) (by kernel_rfl) (by kernel_rfl) ?_
            simp -dsimp only [↓Hold_5, ↓VWP_seq, ↓VWP_region, ↓VWP_cond, ↓VWP_ret, ↓VReg_one, ↓VReg_non, ↓VReg_nil, ↓VS_guard, ↓VS_move, ↓VS_pick, ↓VS_load, ↓VS_binOp, ↓VS_fieldAddr, ↓VS_indexAddr, ↓VS_store, ↓With_bindH, ↓With_guard, ↓Hold_1, ↓Hold_3, With_some, emap_nil, ↓eget_eset, ↓ae_tmp, ↓ae_int, lop_pick, asBool_bool, asGuard_bool, ayielded_eq, ↓dstAt_zero, ↓dstAt_succ, light, ↓vfinish_ret, ↓vres_nil, ↓vres_cell, vtell_eq, ret1, Option.map_some, Option.bind_some, ↓reduceIte, Nat.reduceEqDiff, reduceCtorEq, Bool.false_eq_true, decide_false, Bool.not_false, List.getElem?_cons_zero, Nat.zero_add, Nat.add_zero, Nat.reduceAdd, Nat.reduceLT, Nat.reduceLeDiff, true_and, and_self, List.map_cons, List.map_nil, List.all_cons, List.all_nil, tup_int, tup_str, tup_agg, cel_agg, List.drop_zero, List.toList_toArray, List.size_toArray, List.length_cons, List.length_nil, mapOwn_agg, mapOwn_int, mapOwn_string, toksL_nil, toksL_cons, toks_int, toks_string, toks_agg, okv_agg, okv_int, okv_string, List.flatMap_nil, List.flatMap_cons, List.all_nil, List.all_cons, List.append_nil, List.nil_append, List.map_nil, List.map_cons, Bool.and_self, Bool.not_false, beq_self_eq_true, vnext_mk, vget_nil, vput_nil, cellsIn_mk, vthaw_nil, vwrites_nil, List.getD_cons_zero, List.getD_cons_succ, List.set_cons_zero, List.length_cons, List.length_nil, List.drop_zero, List.take_succ_cons, List.take_zero, getD_app0, List.length_append, vload_at, aggV_agg, vbin_int, ↓vlay_free, cellsOk_free, cellF, abin_eql, abin_neq, abin_add, beq_self_eq_true, Int.reduceLE, Int.reduceToNat, decide_false, beq_self_eq_true, setAll_whole, ibne, ↓VE_nil, ↓VE_one0, List.reverse_cons, List.reverse_nil, vld3, vld48, vgt48, vst48, vfp48_0, vis42, ↓vfk155, ↓vfk92, Tryd.results122, e0, e2, hk, hwr, hc, ↓compare_c h.compare h.right h.cmpi h.cmps h.cmpor h.nani h.nans, ↓int_c h.int]
            rfl
          · rw [if_neg (fun hh => hc hh.2)] at hf
            simp -dsimp only [↓VWP_seq, ↓VWP_region, ↓VWP_cond, ↓VWP_skip, ↓VWP_block, ↓VWP_open, ↓VReg_one, ↓VReg_non, ↓VReg_nil, ↓VS_move, ↓VS_assign, ↓VS_load, ↓VS_binOp, ↓VS_indexAddr, ↓VS_store, ↓Hold_1, With_some, emap_nil, ↓eget_eset, ↓ae_tmp, asBool_bool, Option.map_some, ↓reduceIte, Nat.reduceEqDiff, decide_true, Bool.not_false, Nat.zero_add, Nat.reduceAdd, Nat.reduceLeDiff, and_self, List.all_cons, List.all_nil, tup_int, tup_str, tup_agg, cel_agg, List.toList_toArray, List.size_toArray, List.length_cons, List.length_nil, toksL_nil, toksL_cons, toks_int, toks_string, okv_int, okv_string, List.all_nil, List.all_cons, List.append_nil, List.cons_append, Bool.and_self, Bool.not_false, beq_self_eq_true, vnext_mk, vpush_mk, vget_nil, vput_nil, cellsIn_mk, List.getD_cons_zero, List.getD_cons_succ, List.set_cons_zero, List.set_cons_succ, List.length_cons, List.length_nil, getD_app0, set_app0, List.length_append, vload_at, aggV_agg, vbin_int, ↓vlay_free, cellsOk_free, cellF, abin_lss, beq_self_eq_true, Int.toNat_natCast, decide_true, beq_self_eq_true, setAll_whole, vgt48, vst48, ↓val48, vis42, e14, e15, e16, hlt, h0, hx]
            first | refine Vc_open [[], [], [], [], [], [], [], [], [], [], []] false (by kernel_rfl) (by kernel_rfl) (by kernel_rfl) ?_ | refine Vc_open2 [[], [], [], [], [], [], [], [], [], [], []] false (by kernel_rfl) (by kernel_rfl) (by kernel_rfl) (by kernel_rfl) ?_
            simp -dsimp only [↓Hold_5, ↓VWP_region, ↓VWP_cond, ↓VWP_skip, ↓VReg_one, ↓VReg_nil, ↓VS_guard, ↓VS_move, ↓VS_pick, ↓VS_load, ↓VS_binOp, ↓VS_fieldAddr, ↓VS_indexAddr, ↓Hold_1, ↓Hold_3, With_some, emap_nil, ↓eget_eset, ↓ae_tmp, ↓ae_int, lop_pick, asBool_bool, asGuard_bool, ayielded_eq, ↓dstAt_zero, ↓dstAt_succ, light, Option.map_some, Option.bind_some, ↓reduceIte, Nat.reduceEqDiff, reduceCtorEq, Bool.false_eq_true, decide_false, Bool.not_false, List.getElem?_cons_zero, Nat.zero_add, Nat.add_zero, Nat.reduceAdd, Nat.reduceLeDiff, true_and, List.map_cons, List.map_nil, List.all_nil, List.drop_zero, List.length_cons, List.length_nil, List.all_nil, List.nil_append, List.map_nil, List.map_cons, Bool.not_false, beq_self_eq_true, vget_nil, cellsIn_mk, List.getD_cons_zero, List.getD_cons_succ, List.length_cons, List.length_nil, List.drop_zero, List.take_succ_cons, List.take_zero, getD_app0, vload_at, aggV_agg, vbin_int, abin_eql, abin_neq, abin_add, beq_self_eq_true, Int.reduceLE, Int.reduceToNat, decide_false, beq_self_eq_true, ibeq, ibne, ↓VE_nil, ↓VE_one0, List.reverse_cons, List.reverse_nil, vld3, vld48, vgt48, vfp48_0, vis42, ↓vfk155, e0, e14, e15, e16, e2, hk, hwr, hc, ↓compare_c h.compare h.right h.cmpi h.cmps h.cmpor h.nani h.nans]
            exact ⟨l.length - (i + 1), by omega, i + 1, rfl, by omega, by rw [hnum], hf, _, rfl⟩
      · obtain rfl : i = l.length := by omega
        have hlt : ¬ ((l.length : Int) < l.length) := by omega
        rw [List.drop_length, matchGo] at hf
        rw [← hf]
        simp -dsimp only [↓Hold_5, ↓VWP_seq, ↓VWP_region, ↓VWP_cond, ↓VWP_ret, ↓VWP_exit, ↓VReg_one, ↓VReg_non, ↓VReg_nil, ↓VS_binOp, ↓VS_store, ↓With_bindH, ↓With_guard, ↓Hold_1, ↓Hold_3, With_some, emap_nil, ↓eget_eset, ↓ae_tmp, ↓ae_int, asBool_bool, ↓vfinish_ret, ↓vres_nil, ↓vres_cell, vtell_eq, ret1, Option.map_some, ↓reduceIte, Nat.reduceEqDiff, Bool.false_eq_true, decide_false, Bool.not_false, Nat.zero_add, Nat.reduceAdd, Nat.reduceLT, Nat.reduceLeDiff, true_and, and_self, List.map_cons, List.map_nil, List.all_cons, List.all_nil, tup_int, tup_str, tup_agg, cel_agg, List.drop_zero, List.toList_toArray, List.size_toArray, List.length_cons, List.length_nil, mapOwn_agg, mapOwn_int, mapOwn_string, toksL_nil, toksL_cons, toks_int, toks_string, toks_agg, okv_agg, okv_int, okv_string, List.flatMap_nil, List.flatMap_cons, List.all_nil, List.all_cons, List.append_nil, List.map_nil, List.map_cons, Bool.and_self, Bool.not_false, beq_self_eq_true, vnext_mk, vget_nil, vput_nil, cellsIn_mk, vthaw_nil, vwrites_nil, List.getD_cons_zero, List.set_cons_zero, List.length_cons, List.length_nil, List.drop_zero, List.take_succ_cons, List.take_zero, vbin_int, ↓vlay_free, cellsOk_free, cellF, abin_lss, beq_self_eq_true, decide_false, beq_self_eq_true, setAll_whole, vld48, vst48, ↓vfk51, Tryd.results122, e15, e16, e2, hlt, ↓err_c h.err]
        rfl
/-! The plain side. -/
theorem ba_inj {a b : ByteArray} (h : a.toList = b.toList) : a = b := by
  rw [ByteArray.toList_eq, ByteArray.toList_eq] at h
  have e1 : a = ⟨(a.data.toList).toArray⟩ := rfl
  rw [e1, h]
theorem bless_irrefl : ∀ x : List UInt8, Op.bytesLess x x = false
  | [] => rfl
  | a :: x => by simp [Op.bytesLess, bless_irrefl x]
theorem ordI_zero {a b : Int} (h : ordI a b = 0) : a = b := by
  unfold ordI at h
  split at h
  · cases h
  · split at h
    · cases h
    · omega
theorem ordI_self (a : Int) : ordI a a = 0 := by simp [ordI]
theorem ordS_zero {a b : ByteArray} (h : ordS a b = 0) : a = b := by
  unfold ordS at h
  split at h
  · cases h
  · split at h
    · rename_i h1 h2
      rw [Bool.or_eq_true] at h2
      rcases h2 with h2 | h2
      · exact absurd h2 h1
      · exact ba_inj (by simpa using h2)
    · cases h
theorem ordS_self (a : ByteArray) : ordS a a = 0 := by
  have h : lessS a a = false := bless_irrefl _
  simp [ordS, h]
theorem cmpF_self (x : VV) : cmpF x x = 0 := by
  unfold cmpF
  simp [ordI_self, ordS_self, or3V]
theorem cmpF_zero {x y : VV} (hx : rightF x = true) (hy : rightF y = true) (h : cmpF x y = 0) : x = y := by
  unfold cmpF at h
  rw [hx, hy] at h
  simp only [Bool.and_self, if_true] at h
  unfold or3V at h
  obtain ⟨a, b, c⟩ := x
  obtain ⟨a', b', c'⟩ := y
  dsimp only at h
  by_cases h1 : ordI a a' = 0
  · by_cases h2 : ordI b b' = 0
    · rw [h1, h2] at h
      simp at h
      rw [ordI_zero h1, ordI_zero h2, ordS_zero h]
    · rw [h1] at h; simp [h2] at h
  · simp [h1] at h
theorem matchGo_spec {x : VV} (hx : rightF x = true) (hk : x.k ≠ 4) : ∀ (l : List VV) (i j : Nat), (∀ y ∈ l, rightF y = true) → l[j]? = some x → ∃ m, m ≤ j ∧ matchGo x l i = iV ((i + m : Nat) + 1) ∧ l[m]? = some x
  | [], i, j, _, h => by simp at h
  | y :: l, i, j, hr, h => by
    rw [matchGo]
    by_cases hc : y.k ≠ 4 ∧ cmpF y x = 0
    · have e : y = x := cmpF_zero (hr y List.mem_cons_self) hx hc.2
      refine ⟨0, Nat.zero_le _, ?_, by simp [e]⟩
      rw [if_pos hc]; rfl
    · rw [if_neg hc]
      cases j with
      | zero =>
        simp at h
        subst h
        exact absurd ⟨hk, cmpF_self _⟩ hc
      | succ j =>
        rw [List.getElem?_cons_succ] at h
        obtain ⟨m, h1, h2, h3⟩ := matchGo_spec hx hk l (i + 1) j (fun z hz => hr z (List.mem_cons_of_mem _ hz)) h
        refine ⟨m + 1, by omega, ?_, by rw [List.getElem?_cons_succ]; exact h3⟩
        rw [h2]
        congr 1
        omega
end Go.Proofs.YtmdpggecelheoaaDoor.Abs
/- Calls by name with whole numbers. -/
set_option linter.unusedVariables false
set_option linter.unusedSimpArgs false
set_option maxRecDepth 4000
set_option maxHeartbeats 0
namespace Go.Proofs.YtmdpggecelheoaaDoor.Abs
open Go
attribute [local irreducible] Hold VReg Vf Vc VWP With VStp Vcallee Vp VE
def XZ : VOuter := fun _ => none
theorem xz_ok : VXOk Tryd.prog (fun _ => none) XZ := fun f => rfl
theorem xz_off : XOff [] XZ := fun _ _ => rfl
theorem xz_a : AOff XZ := ⟨rfl, rfl, rfl, rfl, rfl, rfl, rfl, rfl, rfl, rfl, rfl, rfl, rfl, rfl, rfl, rfl⟩
def fnV (n : Int) (g : FuncId) : Value := .tuple ⟨[.agg ⟨[.int .i64 n, .bool false, .func (.func g) #[] #[]]⟩, .bool true]⟩
theorem find_sign (S : VH) (K : VCont) : Vcallee Tryd.prog XZ 50 [.string ⟨#[83, 73, 71, 78]⟩] S K = K (fnV 1 102) [] S [] false := Vcallee_of (Vp_closed xz_off 6 (by kernel_rfl)) rfl rfl rfl
theorem find_abs (S : VH) (K : VCont) : Vcallee Tryd.prog XZ 50 [.string ⟨#[65, 66, 83]⟩] S K = K (fnV 1 101) [] S [] false := Vcallee_of (Vp_closed xz_off 6 (by kernel_rfl)) rfl rfl rfl
theorem find_mod (S : VH) (K : VCont) : Vcallee Tryd.prog XZ 50 [.string ⟨#[77, 79, 68]⟩] S K = K (fnV 2 103) [] S [] false := Vcallee_of (Vp_closed xz_off 6 (by kernel_rfl)) rfl rfl rfl
theorem find_min (S : VH) (K : VCont) : Vcallee Tryd.prog XZ 50 [.string ⟨#[77, 73, 78]⟩] S K = K (fnV (-1) 86) [] S [] false := Vcallee_of (Vp_closed xz_off 6 (by kernel_rfl)) rfl rfl rfl
theorem find_max (S : VH) (K : VCont) : Vcallee Tryd.prog XZ 50 [.string ⟨#[77, 65, 88]⟩] S K = K (fnV (-1) 89) [] S [] false := Vcallee_of (Vp_closed xz_off 6 (by kernel_rfl)) rfl rfl rfl
theorem alive_c (S : VH) (K : VCont) : Vcallee Tryd.prog XZ 31 [] S K = K (.bool true) [] S [] false := Vcallee_of (Vp_closed xz_off 20 (by kernel_rfl)) rfl rfl rfl
theorem right_i (n : Int) : rightF (iV n) = true := rfl
theorem num_i (n : Int) : numF (iV n) = (n, zV, true) := rfl
theorem first_i1 (n : Int) : firstF [iV n] = (zV, false) := rfl
theorem first_i2 (n m : Int) : firstF [iV n, iV m] = (zV, false) := rfl
theorem flat_i1 (n : Int) : flatF [⟨false, [iV n]⟩] = [iV n] := rfl
theorem flat_i2 (n m : Int) : flatF [⟨false, [iV n]⟩, ⟨false, [iV m]⟩] = [iV n, iV m] := rfl
theorem call_sign (t : Nat) (n : Int) (S : VH) (K : VCont) : Vcallee Tryd.prog XZ 33 [.string ⟨#[83, 73, 71, 78]⟩, vo (t, none) 1 0 [vs 0 3 [(iV n).v]]] S K = K (signF (iV n)).v [] S [] false :=
  Vcallee_of (Vp_congr (call_p xz_a rfl rfl rfl ⟨#[83, 73, 71, 78]⟩ 1 false 102 (fun l => signF (l.headD zV)) find_sign (by kernel_rfl) false 1 0 [⟨false, [iV n]⟩] (by show 1 ≤ _; omega) (by show 1 ≤ _; omega)
    (fun c S K => Vcallee_of (sign_p xz_a rfl rfl c 1 1 n .empty []) (by simp only [mapOwnL_cons, mapOwnL_nil, flat_i1, lend_ol]; rfl) (by simp only [okvL_cons, okvL_nil, okv_sl, Bool.and_true]) rfl)) rfl) rfl rfl rfl
theorem call_abs (t : Nat) (n : Int) (S : VH) (K : VCont) : Vcallee Tryd.prog XZ 33 [.string ⟨#[65, 66, 83]⟩, vo (t, none) 1 0 [vs 0 3 [(iV n).v]]] S K = K (absF (iV n)).v [] S [] false :=
  Vcallee_of (Vp_congr (call_p xz_a rfl rfl rfl ⟨#[65, 66, 83]⟩ 1 false 101 (fun l => absF (l.headD zV)) find_abs (by kernel_rfl) false 1 0 [⟨false, [iV n]⟩] (by simp) (by simp [flat_i1])
    (fun c S K => Vcallee_of (abs_p xz_a rfl rfl c 1 1 n .empty []) (by simp only [mapOwnL_cons, mapOwnL_nil, flat_i1, lend_ol]; rfl) (by simp only [okvL_cons, okvL_nil, okv_sl, Bool.and_true]) rfl)) rfl) rfl rfl rfl
theorem call_mod (t : Nat) (n m : Int) (S : VH) (K : VCont) : Vcallee Tryd.prog XZ 33 [.string ⟨#[77, 79, 68]⟩, vo (t, none) 1 0 [vs 0 3 [(iV n).v], vs 0 3 [(iV m).v]]] S K = K (modF (iV n) (iV m)).v [] S [] false :=
  Vcallee_of (Vp_congr (call_p xz_a rfl rfl rfl ⟨#[77, 79, 68]⟩ 2 false 103 (fun l => modF (l.headD zV) ((l.drop 1).headD zV)) find_mod (by kernel_rfl) false 1 0 [⟨false, [iV n]⟩, ⟨false, [iV m]⟩] (by simp) (by simp [flat_i2])
    (fun c S K => Vcallee_of (mod_p xz_a rfl rfl c 1 (iV n) (iV m)) (by simp only [mapOwnL_cons, mapOwnL_nil, flat_i2, lend_ol]) (by simp only [okvL_cons, okvL_nil, okv_sl, Bool.and_true]) rfl)) rfl) rfl rfl rfl
theorem call_min (t : Nat) (n m : Int) (S : VH) (K : VCont) : Vcallee Tryd.prog XZ 33 [.string ⟨#[77, 73, 78]⟩, vo (t, none) 1 0 [vs 0 3 [(iV n).v], vs 0 3 [(iV m).v]]] S K = K (iV (minI (minI n n) m)).v [] S [] false :=
  Vcallee_of (Vp_congr (call_p xz_a rfl rfl rfl ⟨#[77, 73, 78]⟩ (-1) false 86 (fun l => iV (bestF minI (intsF l))) find_min (by kernel_rfl) false 1 0 [⟨false, [iV n]⟩, ⟨false, [iV m]⟩] (by simp) (by simp [flat_i2])
    (fun c S K => Vcallee_of (min_p xz_a rfl rfl rfl rfl c 1 [iV n, iV m] (by simp)) (by simp only [mapOwnL_cons, mapOwnL_nil, flat_i2, lend_ol]) (by simp only [okvL_cons, okvL_nil, okv_sl, Bool.and_true]) rfl)) rfl) rfl rfl rfl
theorem call_max (t : Nat) (n m : Int) (S : VH) (K : VCont) : Vcallee Tryd.prog XZ 33 [.string ⟨#[77, 65, 88]⟩, vo (t, none) 1 0 [vs 0 3 [(iV n).v], vs 0 3 [(iV m).v]]] S K = K (iV (maxI (maxI n n) m)).v [] S [] false :=
  Vcallee_of (Vp_congr (call_p xz_a rfl rfl rfl ⟨#[77, 65, 88]⟩ (-1) false 89 (fun l => iV (bestF maxI (intsF l))) find_max (by kernel_rfl) false 1 0 [⟨false, [iV n]⟩, ⟨false, [iV m]⟩] (by simp) (by simp [flat_i2])
    (fun c S K => Vcallee_of (max_p xz_a rfl rfl rfl rfl c 1 [iV n, iV m] (by simp)) (by simp only [mapOwnL_cons, mapOwnL_nil, flat_i2, lend_ol]) (by simp only [okvL_cons, okvL_nil, okv_sl, Bool.and_true]) rfl)) rfl) rfl rfl rfl
end Go.Proofs.YtmdpggecelheoaaDoor.Abs
/- The law FuncsChoose: what its text answers. -/
set_option linter.unusedVariables false
set_option linter.unusedSimpArgs false
set_option maxRecDepth 4000
set_option maxHeartbeats 0
namespace Go.Proofs.YtmdpggecelheoaaDoor.Abs
open Go
attribute [local irreducible] Hold VReg Vf Vc VWP With VStp Vcallee Vp VE
def fnL (n : Int) (g : FuncId) : Value := .tuple ⟨[.agg ⟨[.int .i64 n, .bool true, .func (.func g) #[] #[]]⟩, .bool true]⟩
theorem find_choose (S : VH) (K : VCont) : Vcallee Tryd.prog XZ 50 [.string ⟨#[67, 72, 79, 79, 83, 69]⟩] S K = K (fnL (-2) 121) [] S [] false := Vcallee_of (Vp_closed xz_off 6 (by kernel_rfl)) rfl rfl rfl
theorem find_match (S : VH) (K : VCont) : Vcallee Tryd.prog XZ 50 [.string ⟨#[77, 65, 84, 67, 72]⟩] S K = K (fnL (-3) 122) [] S [] false := Vcallee_of (Vp_closed xz_off 6 (by kernel_rfl)) rfl rfl rfl
def rowsC (n : Int) (l : List VV) : List RW := ⟨false, [iV n]⟩ :: l.map fun x => ⟨false, [x]⟩
theorem fix_right {x : VV} (h : rightF x = true) : fixV x = x := by simp [fixV, h]
theorem flat_ones : ∀ (l : List VV), (∀ x ∈ l, rightF x = true) → flatF (l.map fun x => (⟨false, [x]⟩ : RW)) = l
  | [], _ => rfl
  | x :: l, h => by
    have := flat_ones l fun y hy => h y (List.mem_cons_of_mem _ hy)
    unfold flatF at this ⊢
    rw [List.map_cons, List.flatMap_cons, this, List.map_cons, List.map_nil, fix_right (h x List.mem_cons_self)]
    rfl
theorem flat_rowsC (n : Int) (l : List VV) (h : ∀ x ∈ l, rightF x = true) : flatF (rowsC n l) = iV n :: l := by
  have := flat_ones l h
  unfold flatF rowsC at *
  rw [List.flatMap_cons, this]
  rfl
theorem fits_rowsC (n : Int) (l : List VV) (h : 1 ≤ l.length) : fitsF (-2) (rowsC n l) = true := by
  unfold fitsF
  rw [if_neg (by decide), if_pos rfl]
  have e : (2 : Int) ≤ (rowsC n l).length := by simp [rowsC]; omega
  rw [decide_eq_true e, Bool.true_and]
  simp [singleF, rowsC]
def chooseR (n : Int) (l : List VV) : VV := if n < 1 ∨ (l.length : Int) + 1 ≤ n then eV 7 else l.getD (n - 1).toNat zV
theorem call_choose (t : Nat) (n : Int) (l : List VV) (h1 : 1 ≤ l.length) (h2 : l.length ≤ 1000) (hr : ∀ x ∈ l, rightF x = true) (S : VH) (K : VCont) : Vcallee Tryd.prog XZ 33 [.string ⟨#[67, 72, 79, 79, 83, 69]⟩, vo (t, none) 1 0 ((rowsC n l).map (RW.v 0))] S K = K (.agg ⟨[.int .i64 (chooseR n l).k, .int .i64 (chooseR n l).n, .string (chooseR n l).s]⟩) [] S [] false :=
  Vcallee_of (Vp_congr (call_p xz_a rfl rfl rfl ⟨#[67, 72, 79, 79, 83, 69]⟩ (-2) true 121 (fun l => chooseF (l.headD zV) l.tail) find_choose (by kernel_rfl) false 1 0 (rowsC n l) (by simp [rowsC]; omega) (by rw [flat_rowsC n l hr]; simp; omega)
    (fun c S K => by rw [flat_rowsC n l hr]; exact Vcallee_of (choose_p xz_a rfl rfl c 1 1 n .empty l) (by simp only [mapOwnL_cons, mapOwnL_nil, lend_ol]; rfl) (by simp only [okvL_cons, okvL_nil, okv_sl, Bool.and_true]) rfl)) (by
      unfold callF
      rw [fits_rowsC n l h1, flat_rowsC n l hr]
      simp [chooseF, chooseR, num_i]
      rfl)) rfl (by simp only [okvL_cons, okvL_nil, Bool.and_true]; rfl) rfl
theorem flat_match (v : VV) (r : RW) (hv : rightF v = true) (hr : ∀ x ∈ r.l, rightF x = true) : flatF [⟨false, [v]⟩, r] = v :: r.l := by
  have e : r.l.map fixV = r.l := by
    conv => rhs; rw [← List.map_id r.l]
    exact List.map_congr_left fun x hx => fix_right (hr x hx)
  simp [flatF, fix_right hv, e]
theorem call_match (t : Nat) (k n : Int) (s : ByteArray) (c : Bool) (l : List VV) (h2 : l.length ≤ 1000) (hv : rightF ⟨k, n, s⟩ = true) (hr : ∀ x ∈ l, rightF x = true) (S : VH) (K : VCont) : Vcallee Tryd.prog XZ 33 [.string ⟨#[77, 65, 84, 67, 72]⟩, vo (t, none) 1 0 [vs 0 3 [.agg ⟨[.int .i64 k, .int .i64 n, .string s]⟩], sl c 0 3 (l.map VV.v)]] S K = K (.agg ⟨[.int .i64 (matchF ⟨k, n, s⟩ l).k, .int .i64 (matchF ⟨k, n, s⟩ l).n, .string (matchF ⟨k, n, s⟩ l).s]⟩) [] S [] false :=
  Vcallee_of (Vp_congr (call_p xz_a rfl rfl rfl ⟨#[77, 65, 84, 67, 72]⟩ (-3) true 122 (fun l => matchF (l.headD zV) l.tail) find_match (by kernel_rfl) false 1 0 [⟨false, [⟨k, n, s⟩]⟩, ⟨c, l⟩] (by simp) (by rw [flat_match _ _ hv hr]; simp; omega)
    (fun c' S K => by rw [flat_match _ _ hv hr]; exact Vcallee_of (match_p xz_a rfl c' 1 k n s l (by omega)) (by simp only [mapOwnL_cons, mapOwnL_nil, lend_ol]) (by simp only [okvL_cons, okvL_nil, okv_sl, Bool.and_true]) rfl)) (by
      unfold callF
      rw [flat_match _ _ hv hr]
      simp [fitsF, singleF]
      rfl)) rfl (by simp only [okvL_cons, okvL_nil, Bool.and_true]; rfl) rfl
theorem few1_c (t : Nat) (c : Bool) (l : List VV) (hl : (l.length : Int) ≤ 18) (S : VH) (K : VCont) : Vcallee Tryd.prog XZ 32 [vo (t, none) 1 0 [sl c 0 3 (l.map VV.v)]] S K = K (.bool (fewF [⟨c, l⟩])) [] S [] false :=
  Vcallee_of (few_p rfl false 1 0 [⟨c, l⟩] (by simp) (by intro r hr; simp at hr; subst hr; dsimp only; omega)) rfl rfl rfl
theorem self_vv (x y : Operand) (k n : Int) (s : ByteArray) : vbin Tryd.prog .eql 48 x y (.agg ⟨[.int .i64 k, .int .i64 n, .string s]⟩) (.agg ⟨[.int .i64 k, .int .i64 n, .string s]⟩) = some (.bool true) := by
  rw [vbin_agg _ _ _ _ _ rfl rfl]
  exact abin_aeql rfl rfl Tryd.eqGuardType48 (aeq_self 20 48 _ (by kernel_rfl))
theorem row_take (n : Int) (l : List VV) (i : Nat) (h : i < l.length) : (rowsC n (l.take (i + 1))).map (RW.v 0) = (rowsC n (l.take i)).map (RW.v 0) ++ [vs 0 3 [l[i].v]] := by
  rw [← List.take_append_getElem h]
  unfold rowsC
  rw [List.map_append, List.map_cons, List.map_cons, List.map_append]
  rfl
theorem all_take2 (l : List VV) (i : Nat) (h : i < l.length) (ha : ∀ x ∈ l.take i, rightF x = true ∧ x.k ≠ 4) (hr : rightF l[i] = true) (hk : l[i].k ≠ 4) : ∀ x ∈ l.take (i + 1), rightF x = true ∧ x.k ≠ 4 := by
  intro x hx
  rw [← List.take_append_getElem h] at hx
  rcases List.mem_append.1 hx with hx | hx
  · exact ha x hx
  · simp at hx; subst hx; exact ⟨hr, hk⟩
theorem law9 (c : Bool) (l : List VV) (n : Int) : Vf Tryd.prog XZ 9 [sl c 0 3 (l.map VV.v), .int .i64 n] [] fun v _ => v = .bool true := by
  refine Vf_text rfl Tryd.func9 rfl (by kernel_rfl) (by show 2 ≤ _; decide) ?_
  by_cases a1 : (l.length : Int) < 1
  · simp -dsimp only [↓Hold_5, ↓VWP_seq, ↓VWP_region, ↓VWP_cond, ↓VWP_ret, ↓VReg_one, ↓VReg_nil, ↓VS_guard, ↓VS_move, ↓VS_assign, ↓VS_pick, ↓VS_binOp, ↓VS_unOp, ↓VS_len, ↓With_guard, ↓Hold_1, With_some, emap_nil, ↓eget_eset, ↓ae_tmp, ↓ae_int, ↓ae_bool, eget_zero, lop_pick, lop_not, asBool_bool, asGuard_bool, bb_tf, ayielded_eq, ↓dstAt_zero, ↓dstAt_succ, ↓vfinish_ret, ↓vres_nil, ↓vres_tmp, vtell_eq, ret1, Option.map_some, Option.bind_some, ↓reduceIte, Nat.reduceEqDiff, reduceCtorEq, Bool.false_eq_true, decide_true, Bool.not_true, and_self, List.map_nil, List.toList_toArray, List.length_nil, mapOwn_bool, okv_bool, List.map_nil, Bool.not_true, beq_self_eq_true, List.length_nil, vbin_int, abin_lss, beq_self_eq_true, decide_true, beq_self_eq_true, bb_tf, Int.reduceNeg, vls42, ↓vfk31, Tryd.results9, ↓alive_c, a1, List.length_map]
  · by_cases a2 : (18 : Int) < l.length
    · simp -dsimp only [↓Hold_5, ↓VWP_seq, ↓VWP_region, ↓VWP_cond, ↓VWP_ret, ↓VReg_one, ↓VReg_nil, ↓VS_guard, ↓VS_move, ↓VS_assign, ↓VS_pick, ↓VS_binOp, ↓VS_unOp, ↓VS_len, ↓With_guard, ↓Hold_1, With_some, emap_nil, ↓eget_eset, ↓ae_tmp, ↓ae_int, ↓ae_bool, eget_zero, lop_pick, lop_not, asBool_bool, asGuard_bool, bb_tf, ayielded_eq, ↓dstAt_zero, ↓dstAt_succ, ↓vfinish_ret, ↓vres_nil, ↓vres_tmp, vtell_eq, ret1, Option.map_some, Option.bind_some, ↓reduceIte, Nat.reduceEqDiff, reduceCtorEq, Bool.false_eq_true, decide_true, decide_false, Bool.not_true, and_self, List.map_nil, List.toList_toArray, List.length_nil, mapOwn_bool, okv_bool, List.map_nil, Bool.not_true, beq_self_eq_true, List.length_nil, vbin_int, abin_lss, abin_gtr, beq_self_eq_true, gt_iff_lt, decide_true, decide_false, beq_self_eq_true, bb_tf, Int.reduceNeg, vls42, ↓vfk31, Tryd.results9, ↓alive_c, a1, a2, List.length_map]
    · by_cases a3 : n < -5
      · simp -dsimp only [↓Hold_5, ↓VWP_seq, ↓VWP_region, ↓VWP_cond, ↓VWP_ret, ↓VReg_one, ↓VReg_nil, ↓VS_guard, ↓VS_move, ↓VS_assign, ↓VS_pick, ↓VS_binOp, ↓VS_unOp, ↓VS_len, ↓With_guard, ↓Hold_1, With_some, emap_nil, ↓eget_eset, ↓ae_tmp, ↓ae_int, ↓ae_bool, eget_zero, eget_succ, lop_pick, lop_not, asBool_bool, asGuard_bool, bb_tf, ayielded_eq, ↓dstAt_zero, ↓dstAt_succ, ↓vfinish_ret, ↓vres_nil, ↓vres_tmp, vtell_eq, ret1, Option.map_some, Option.bind_some, ↓reduceIte, Nat.reduceEqDiff, reduceCtorEq, Bool.false_eq_true, decide_true, decide_false, Bool.not_true, and_self, List.map_nil, List.toList_toArray, List.length_nil, mapOwn_bool, okv_bool, List.map_nil, Bool.not_true, beq_self_eq_true, List.length_nil, vbin_int, abin_lss, abin_gtr, beq_self_eq_true, gt_iff_lt, decide_true, decide_false, beq_self_eq_true, bb_tf, Int.reduceNeg, vls42, ↓vfk31, Tryd.results9, ↓alive_c, a1, a2, a3, List.length_map]
      · by_cases a4 : 30 < n
        · simp -dsimp only [↓Hold_5, ↓VWP_seq, ↓VWP_region, ↓VWP_cond, ↓VWP_ret, ↓VReg_one, ↓VReg_nil, ↓VS_guard, ↓VS_move, ↓VS_assign, ↓VS_pick, ↓VS_binOp, ↓VS_unOp, ↓VS_len, ↓With_guard, ↓Hold_1, With_some, emap_nil, ↓eget_eset, ↓ae_tmp, ↓ae_int, ↓ae_bool, eget_zero, eget_succ, lop_pick, lop_not, asBool_bool, asGuard_bool, bb_tf, ayielded_eq, ↓dstAt_zero, ↓dstAt_succ, ↓vfinish_ret, ↓vres_nil, ↓vres_tmp, vtell_eq, ret1, Option.map_some, Option.bind_some, ↓reduceIte, Nat.reduceEqDiff, reduceCtorEq, Bool.false_eq_true, decide_true, decide_false, Bool.not_true, and_self, List.map_nil, List.toList_toArray, List.length_nil, mapOwn_bool, okv_bool, List.map_nil, Bool.not_true, beq_self_eq_true, List.length_nil, vbin_int, abin_lss, abin_gtr, beq_self_eq_true, gt_iff_lt, decide_true, decide_false, beq_self_eq_true, bb_tf, Int.reduceNeg, vls42, ↓vfk31, Tryd.results9, ↓alive_c, a1, a2, a3, a4, List.length_map]
        · have hf := fun t S K => few1_c t c l (by omega) S K
          cases a5 : fewF [⟨c, l⟩]
          · simp -dsimp only [↓Hold_5, toks_sl, thawAll_sl, okv_sl0, tup_sl, cel_sl, ↓VWP_seq, ↓VWP_region, ↓VWP_cond, ↓VWP_ret, ↓VReg_one, ↓VReg_nil, ↓VS_guard, ↓VS_move, ↓VS_assign, ↓VS_pick, ↓VS_binOp, ↓VS_unOp, ↓VS_len, ↓VS_buildSlice, ↓With_guard, ↓Hold_1, With_some, emap_nil, emap_cons, ↓eget_map, ↓eget_eset, ↓ae_tmp, ↓ae_int, ↓ae_bool, eget_zero, eget_succ, lop_pick, lop_not, asBool_bool, asGuard_bool, ayielded_eq, ↓dstAt_zero, ↓dstAt_succ, ↓vfinish_ret, ↓vres_nil, ↓vres_tmp, vtell_eq, ret1, Option.map_some, Option.bind_some, ↓reduceIte, Nat.reduceEqDiff, reduceCtorEq, Bool.false_eq_true, decide_true, decide_false, Bool.not_true, Bool.not_false, Nat.zero_add, Nat.reduceMul, Nat.reduceLT, Nat.reduceLeDiff, and_self, List.map_cons, List.map_nil, List.toList_toArray, List.size_toArray, List.length_cons, List.length_nil, mapOwn_bool, toksL_nil, toksL_cons, okv_bool, List.append_nil, List.map_nil, List.map_cons, Bool.and_self, Bool.not_true, Bool.not_false, beq_self_eq_true, vturn_nil, vthaw_one, boxesOf_nil, List.set_cons_zero, List.length_cons, List.length_nil, partsOk_nil, partsOk_cons, vfill_nil, vfill_cons, vbin_int, List.replicate_succ, List.replicate_zero, abin_lss, abin_gtr, beq_self_eq_true, gt_iff_lt, decide_true, decide_false, beq_self_eq_true, Int.reduceNeg, vbd46, vls42, ↓vfk31, ↓vfk32, Tryd.results9, ↓alive_c, a1, a2, a3, a4, ↓hf, a5, List.length_map]
          · simp -dsimp only [↓Hold_5, toks_sl, thawAll_sl, okv_sl0, tup_sl, cel_sl, ↓VWP_seq, ↓VWP_region, ↓VWP_cond, ↓VWP_skip, ↓VWP_block, ↓VWP_loop, ↓VReg_one, ↓VReg_nil, ↓VS_guard, ↓VS_move, ↓VS_assign, ↓VS_pick, ↓VS_build, ↓VS_binOp, ↓VS_unOp, ↓VS_len, ↓VS_buildSlice, ↓Hold_1, With_some, emap_nil, emap_cons, ↓eget_map, ↓eget_eset, ↓ae_tmp, ↓ae_int, ↓ae_bool, eget_zero, eget_succ, lop_pick, lop_not, asBool_bool, asGuard_bool, ayielded_eq, ↓dstAt_zero, ↓dstAt_succ, Option.map_some, Option.bind_some, ↓reduceIte, Nat.reduceEqDiff, reduceCtorEq, Bool.false_eq_true, decide_true, decide_false, Bool.not_true, Bool.not_false, Nat.zero_add, Nat.reduceAdd, Nat.reduceMul, Nat.reduceLT, Nat.reduceLeDiff, true_and, and_self, List.map_cons, List.map_nil, List.all_cons, List.all_nil, tup_int, cel_int, tup_agg, cel_agg, List.toList_toArray, List.size_toArray, List.length_cons, List.length_nil, mapOwn_vo, mapOwn_agg, mapOwn_bool, mapOwn_int, mapOwn_string, thawAll_own, toksL_nil, toksL_cons, toks_int, toks_string, toks_agg, toks_vo, okv_agg, okv_vs, okv_int, okv_string, List.flatMap_nil, List.flatMap_cons, List.all_nil, List.all_cons, List.append_nil, List.map_nil, List.map_cons, Bool.and_self, Bool.not_true, Bool.not_false, Bool.false_or, beq_self_eq_true, vturn_nil, vthaw_one, boxesOf_nil, boxesOf_none, List.set_cons_zero, List.set_cons_succ, List.length_cons, List.length_nil, partsOk_nil, partsOk_cons, vfill_nil, vfill_cons, vbin_int, tup_vo, cel_vo, List.replicate_succ, List.replicate_zero, abin_lss, abin_gtr, beq_self_eq_true, gt_iff_lt, decide_true, decide_false, beq_self_eq_true, afill, setAll, Int.reduceNeg, bd48, pl48_0, pl48_1, vbd46, vbd42, vls42, ↓vfk31, ↓vfk32, ↓alive_c, a1, a2, a3, a4, ↓hf, a5, List.length_map]
            refine Vc_loop (fun m e S => ∃ i : Nat, m = l.length - i ∧ i ≤ l.length ∧ eget e 0 = sl c 0 3 (l.map VV.v) ∧ eget e 1 = .int .i64 n ∧ eget e 6 = vo (41, none) 1 0 ((rowsC n (l.take i)).map (RW.v 0)) ∧ eget e 7 = .int .i64 i ∧ (∀ x ∈ l.take i, rightF x = true ∧ x.k ≠ 4) ∧ S = ⟨[], [], []⟩) l.length ?_ ?_
            · refine ⟨0, rfl, Nat.zero_le _, ?_, ?_, ?_, ?_, ?_, rfl⟩
              · simp only [↓eget_map, ↓eget_eset, eget_zero, ↓reduceIte, reduceCtorEq, thaw_sl]
              · simp only [↓eget_map, ↓eget_eset, eget_zero, eget_succ, ↓reduceIte, Nat.reduceEqDiff, mapOwn_int]
              · simp only [↓eget_eset, ↓reduceIte, Nat.reduceEqDiff]
                rfl
              · simp only [↓eget_eset, ↓reduceIte]
                rfl
              · simp
            · rintro m e S ⟨i, rfl, hi, e0, e1, e6, e7, hall, rfl⟩
              refine VWP_Vc _ _ _ _ ?_
              by_cases hin : i < l.length
              · have hlt : (i : Int) < l.length := by omega
                have h0 : (0 : Int) ≤ i := by omega
                have hx : (l.map VV.v)[i]? = some l[i].v := by simp [hin]
                have ht := row_take n l i hin
                have hal := all_take2 l i hin hall
                have hnum : ((i : Int) + 1) = ((i + 1 : Nat) : Int) := by omega
                have hwr : IntKind.i64.wrap ((i : Int) + 1) = ((i + 1 : Nat) : Int) := by rw [hnum]; exact wrap_id (by omega) (by omega)
                have hlen : ((rowsC n (l.take i)).map (RW.v 0)).length = i + 1 := by simp [rowsC]; omega
                generalize (rowsC n (l.take i)).map (RW.v 0) = N at e6 ht hlen
                generalize l[i] = x at hx ht hal
                obtain ⟨k, m, s⟩ := x
                simp only [VV.v] at hx
                cases h1 : rightF ⟨k, m, s⟩
                · simp -dsimp only [↓Hold_5, ↓VWP_seq, ↓VWP_region, ↓VWP_cond, ↓VWP_ret, ↓VWP_skip, ↓VWP_block, ↓VReg_one, ↓VReg_nil, ↓VS_guard, ↓VS_move, ↓VS_assign, ↓VS_pick, ↓VS_load, ↓VS_binOp, ↓VS_unOp, ↓VS_indexAddr, ↓VS_len, ↓With_guard, ↓Hold_1, ↓Hold_3, With_some, emap_nil, ↓eget_eset, ↓ae_tmp, ↓ae_bool, lop_pick, lop_not, asBool_bool, asGuard_bool, bb_tf, ayielded_eq, ↓dstAt_zero, ↓dstAt_succ, ↓vfinish_ret, ↓vres_nil, ↓vres_tmp, vtell_eq, ret1, Option.map_some, Option.bind_some, ↓reduceIte, Nat.reduceEqDiff, reduceCtorEq, Bool.false_eq_true, decide_true, Bool.not_false, Nat.zero_add, Nat.reduceAdd, and_self, List.map_cons, List.map_nil, List.toList_toArray, List.length_cons, List.length_nil, mapOwn_bool, okv_bool, List.map_nil, List.map_cons, Bool.not_false, List.length_cons, List.length_nil, vload_at, aggV_agg, vbin_int, abin_lss, Int.toNat_natCast, decide_true, bb_tf, vgt48, vis42, vls42, ↓vfk34, Tryd.results9, e0, e7, hlt, h0, hx, ↓qright_c (X := XZ) rfl, h1, List.length_map]
                · by_cases hk : k = 4
                  · subst hk
                    simp -dsimp only [↓Hold_5, ↓VWP_seq, ↓VWP_region, ↓VWP_cond, ↓VWP_ret, ↓VWP_skip, ↓VWP_block, ↓VReg_one, ↓VReg_nil, ↓VS_guard, ↓VS_move, ↓VS_assign, ↓VS_pick, ↓VS_load, ↓VS_binOp, ↓VS_unOp, ↓VS_fieldAddr, ↓VS_indexAddr, ↓VS_len, ↓With_guard, ↓Hold_1, ↓Hold_3, With_some, emap_nil, ↓eget_eset, ↓ae_tmp, ↓ae_int, ↓ae_bool, lop_pick, lop_not, asBool_bool, asGuard_bool, ayielded_eq, ↓dstAt_zero, ↓dstAt_succ, ↓vfinish_ret, ↓vres_nil, ↓vres_tmp, vtell_eq, ret1, Option.map_some, Option.bind_some, ↓reduceIte, Nat.reduceEqDiff, reduceCtorEq, Bool.false_eq_true, decide_true, Bool.not_true, List.getElem?_cons_zero, Nat.zero_add, Nat.reduceAdd, and_self, List.map_cons, List.map_nil, List.toList_toArray, List.length_cons, List.length_nil, mapOwn_bool, okv_bool, List.map_nil, List.map_cons, Bool.not_true, beq_self_eq_true, List.length_cons, List.length_nil, vload_at, vfield_at, cellV_int, aggV_agg, isAggV_int, vbin_int, abin_eql, abin_lss, beq_self_eq_true, Int.toNat_natCast, decide_true, beq_self_eq_true, vgt48, vgt3, vpt48_0, vis42, vls42, ↓vfk34, Tryd.results9, e0, e7, hlt, h0, hx, ↓qright_c (X := XZ) rfl, h1, List.length_map]
                  · simp -dsimp only [↓Hold_5, thaw_sl, scrub_sl, ↓VWP_seq, ↓VWP_region, ↓VWP_cond, ↓VWP_skip, ↓VWP_block, ↓VReg_one, ↓VReg_nil, ↓VS_guard, ↓VS_move, ↓VS_assign, ↓VS_pick, ↓VS_load, ↓VS_binOp, ↓VS_unOp, ↓VS_fieldAddr, ↓VS_indexAddr, ↓VS_len, ↓VS_buildSlice, ↓VS_append, ↓With_guard, ↓Hold_1, With_some, emap_nil, emap_cons, ↓eget_map, ↓eget_eset, ↓ae_tmp, ↓ae_int, lop_pick, lop_not, asBool_bool, asGuard_bool, ayielded_eq, ↓dstAt_zero, ↓dstAt_succ, Option.map_some, Option.bind_some, ↓reduceIte, Nat.reduceEqDiff, reduceCtorEq, Bool.false_eq_true, decide_true, decide_false, Bool.not_true, Bool.not_false, List.getElem?_cons_zero, Nat.zero_add, Nat.reduceAdd, Nat.reduceMul, Nat.reduceLT, Nat.reduceLeDiff, and_true, true_and, List.map_cons, List.map_nil, List.all_cons, List.all_nil, tup_agg, cel_agg, List.size_toArray, List.length_cons, List.length_nil, mapOwn_vo, mapOwn_agg, mapOwn_int, mapOwn_string, thaw_own, thawAll_own, toksL_nil, toksL_cons, toks_int, toks_string, toks_agg, toks_vo, okv_agg, okv_vs, okv_int, okv_string, List.flatMap_nil, List.flatMap_cons, List.all_nil, List.all_cons, List.append_nil, List.map_nil, List.map_cons, Bool.and_self, Bool.not_true, Bool.not_false, Bool.false_or, List.mem_cons, List.not_mem_nil, or_false, Prod.mk.injEq, beq_self_eq_true, vturn_nil, vthaw_one, boxesOf_nil, boxesOf_none, ownBox_none, List.set_cons_zero, List.length_cons, List.length_nil, vload_at, vfield_at, cellV_int, aggV_agg, isAggV_int, velems_own, vgrow_own, partsOk_nil, partsOk_cons, vfill_nil, vfill_cons, vbin_int, tup_vo, cel_vo, List.replicate_succ, List.replicate_zero, abin_eql, abin_lss, abin_add, beq_self_eq_true, Int.toNat_natCast, decide_true, decide_false, beq_self_eq_true, ibeq, vgt48, vgt3, vpt48_0, vbd46, vbd42, vis42, vls42, vap46, ↓vfk34, e0, e1, e6, e7, hlt, h0, hx, ↓qright_c (X := XZ) rfl, h1, hk, hlen, List.length_map]
                    exact ⟨⟨by omega, by omega⟩, l.length - (i + 1), by omega, i + 1, rfl, by omega, by rw [ht]; rfl, by rw [hwr], hal h1 hk⟩
              · obtain rfl : i = l.length := by omega
                have hlt : ¬ ((l.length : Int) < l.length) := by omega
                rw [List.take_length] at e6 hall
                have hr : ∀ x ∈ l, rightF x = true := fun x hx => (hall x hx).1
                have cc := fun t S K => call_choose t n l (by omega) (by omega) hr S K
                by_cases b1 : n < 1
                · have hR : chooseR n l = eV 7 := by unfold chooseR; rw [if_pos (.inl b1)]
                  rw [hR] at cc
                  simp only [eV] at cc
                  simp -dsimp only [↓Hold_5, ↓VWP_seq, ↓VWP_region, ↓VWP_cond, ↓VWP_ret, ↓VWP_exit, ↓VReg_one, ↓VReg_non, ↓VReg_nil, ↓VS_guard, ↓VS_move, ↓VS_assign, ↓VS_pick, ↓VS_build, ↓VS_load, ↓VS_binOp, ↓VS_len, ↓VS_store, ↓With_guard, ↓Hold_1, ↓Hold_3, With_some, emap_nil, ↓eget_eset, ↓ae_tmp, ↓ae_int, ↓ae_bool, ↓ae_string, lop_pick, asBool_bool, asGuard_bool, bb_tf, ayielded_eq, ↓dstAt_zero, ↓dstAt_succ, ↓vfinish_ret, ↓vres_nil, ↓vres_tmp, vtell_eq, ret1, Option.map_some, Option.bind_some, ↓reduceIte, Nat.reduceEqDiff, reduceCtorEq, Bool.false_eq_true, decide_true, decide_false, Bool.not_false, Nat.zero_add, Nat.add_zero, Nat.reduceAdd, Nat.reduceLT, Nat.reduceLeDiff, true_and, and_self, List.map_cons, List.map_nil, List.all_cons, List.all_nil, tup_int, cel_int, tup_str, tup_agg, cel_agg, List.drop_zero, List.toList_toArray, List.size_toArray, List.length_cons, List.length_nil, mapOwn_bool, toksL_nil, toksL_cons, toks_int, toks_string, okv_bool, okv_int, okv_string, List.all_nil, List.all_cons, List.append_nil, List.nil_append, List.map_nil, List.map_cons, Bool.and_self, Bool.not_false, beq_self_eq_true, vnext_mk, vpush_mk, vget_nil, vput_nil, cellsIn_mk, List.getD_cons_zero, List.set_cons_zero, List.set_cons_succ, List.length_cons, List.length_nil, List.drop_zero, List.take_succ_cons, List.take_zero, vbin_int, ↓vlay_free, cellsOk_free, cellF, abin_lss, beq_self_eq_true, decide_true, decide_false, beq_self_eq_true, bb_tf, setAll_whole, afill, setAll, vld48, vst48, ↓val48, bd48, pl48_0, pl48_1, vls42, ↓vfk33, Tryd.results9, e0, e1, e6, e7, hlt, ↓cc, b1, ↓self_vv, List.length_map]
                · by_cases b2 : (l.length : Int) < n
                  · have hR : chooseR n l = eV 7 := by unfold chooseR; rw [if_pos (.inr (by omega))]
                    rw [hR] at cc
                    simp only [eV] at cc
                    simp -dsimp only [↓Hold_5, ↓VWP_seq, ↓VWP_region, ↓VWP_cond, ↓VWP_ret, ↓VWP_exit, ↓VReg_one, ↓VReg_non, ↓VReg_nil, ↓VS_guard, ↓VS_move, ↓VS_assign, ↓VS_pick, ↓VS_build, ↓VS_load, ↓VS_binOp, ↓VS_len, ↓VS_store, ↓With_guard, ↓Hold_1, ↓Hold_3, With_some, emap_nil, ↓eget_eset, ↓ae_tmp, ↓ae_int, ↓ae_string, lop_pick, asBool_bool, asGuard_bool, ayielded_eq, ↓dstAt_zero, ↓dstAt_succ, ↓vfinish_ret, ↓vres_nil, ↓vres_tmp, vtell_eq, ret1, Option.map_some, Option.bind_some, ↓reduceIte, Nat.reduceEqDiff, reduceCtorEq, Bool.false_eq_true, decide_true, decide_false, Bool.not_false, Nat.zero_add, Nat.add_zero, Nat.reduceAdd, Nat.reduceLT, Nat.reduceLeDiff, true_and, and_self, List.map_cons, List.map_nil, List.all_cons, List.all_nil, tup_int, cel_int, tup_str, tup_agg, cel_agg, List.drop_zero, List.toList_toArray, List.size_toArray, List.length_cons, List.length_nil, mapOwn_bool, toksL_nil, toksL_cons, toks_int, toks_string, okv_bool, okv_int, okv_string, List.all_nil, List.all_cons, List.append_nil, List.nil_append, List.map_nil, List.map_cons, Bool.and_self, Bool.not_false, beq_self_eq_true, vnext_mk, vpush_mk, vget_nil, vput_nil, cellsIn_mk, List.getD_cons_zero, List.set_cons_zero, List.set_cons_succ, List.length_cons, List.length_nil, List.drop_zero, List.take_succ_cons, List.take_zero, vbin_int, ↓vlay_free, cellsOk_free, cellF, abin_lss, abin_gtr, beq_self_eq_true, gt_iff_lt, decide_true, decide_false, beq_self_eq_true, setAll_whole, afill, setAll, vld48, vst48, ↓val48, bd48, pl48_0, pl48_1, vls42, ↓vfk33, Tryd.results9, e0, e1, e6, e7, hlt, ↓cc, b1, b2, ↓self_vv, List.length_map]
                  · have hi : (n - 1).toNat < l.length := by omega
                    have hR : chooseR n l = l[(n - 1).toNat] := by
                      unfold chooseR
                      rw [if_neg (by omega), List.getD_eq_getElem?_getD, List.getElem?_eq_getElem hi]
                      rfl
                    have hj : l[(n - 1).toNat]? = some l[(n - 1).toNat] := List.getElem?_eq_getElem hi
                    have hxr := hall _ (List.getElem_mem hi)
                    rw [hR] at cc
                    generalize l[(n - 1).toNat] = x at cc hj hxr
                    obtain ⟨m, hm1, hm2, hm3⟩ := matchGo_spec hxr.1 hxr.2 l 0 _ hr hj
                    have hM : matchF x l = iV ((m : Int) + 1) := by
                      unfold matchF
                      rw [if_neg hxr.2, hm2, Nat.zero_add]
                    have g1 : (l.map VV.v)[(n - 1).toNat]? = some x.v := by rw [List.getElem?_map, hj]; rfl
                    have g2 : (l.map VV.v)[m]? = some x.v := by rw [List.getElem?_map, hm3]; rfl
                    obtain ⟨k, q, s⟩ := x
                    have cm := fun t S K => call_match t k q s c l (by omega) hxr.1 hr S K
                    rw [hM] at cm
                    simp only [iV] at cm
                    simp only [VV.v] at g1 g2
                    have w1 : IntKind.i64.wrap (n - 1) = n - 1 := wrap_id (by omega) (by omega)
                    have w2 : IntKind.i64.wrap ((m : Int) + 1 - 1) = m := by rw [wrap_id (by omega) (by omega)]; omega
                    have q0 : 0 ≤ n - 1 := by omega
                    have q1 : (1 : Int) ≤ (m : Int) + 1 := by omega
                    have q2 : (m : Int) + 1 ≤ n := by omega
                    have q3 : (0 : Int) ≤ m := by omega
                    simp -dsimp only [↓Hold_5, toks_sl, thaw_sl, thawAll_sl, okv_sl0, tup_sl, cel_sl, ↓VWP_seq, ↓VWP_region, ↓VWP_cond, ↓VWP_skip, ↓VWP_exit, ↓VWP_open, ↓VReg_one, ↓VReg_non, ↓VReg_nil, ↓VS_guard, ↓VS_move, ↓VS_pick, ↓VS_load, ↓VS_binOp, ↓VS_len, ↓VS_buildSlice, ↓VS_store, ↓Hold_1, ↓Hold_3, With_some, emap_nil, emap_cons, ↓eget_map, ↓eget_eset, ↓ae_tmp, ↓ae_int, ↓ae_string, lop_pick, asBool_bool, asGuard_bool, ayielded_eq, ↓dstAt_zero, ↓dstAt_succ, Option.bind_some, ↓reduceIte, Nat.reduceEqDiff, reduceCtorEq, Bool.false_eq_true, decide_true, decide_false, Bool.not_true, Bool.not_false, Nat.zero_add, Nat.add_zero, Nat.reduceAdd, Nat.reduceMul, Nat.reduceLT, Nat.reduceLeDiff, and_self, List.map_cons, List.map_nil, List.all_cons, List.all_nil, tup_int, tup_str, tup_agg, cel_agg, List.drop_zero, List.toList_toArray, List.size_toArray, List.length_cons, List.length_nil, mapOwn_vo, mapOwn_agg, mapOwn_int, mapOwn_string, thawAll_own, toksL_nil, toksL_cons, toks_int, toks_string, toks_agg, toks_vo, okv_agg, okv_vs, okv_int, okv_string, List.flatMap_nil, List.flatMap_cons, List.all_nil, List.all_cons, List.append_nil, List.nil_append, List.cons_append, List.map_nil, List.map_cons, Bool.and_self, Bool.not_true, Bool.not_false, Bool.false_or, beq_self_eq_true, vnext_mk, vpush_mk, vget_nil, vput_nil, cellsIn_mk, vturn_nil, vthaw_one, boxesOf_nil, boxesOf_none, List.getD_cons_zero, List.getD_cons_succ, List.set_cons_zero, List.set_cons_succ, List.length_cons, List.length_nil, List.drop_zero, List.take_succ_cons, List.take_zero, partsOk_nil, partsOk_cons, vfill_nil, vfill_cons, vbin_int, ↓vlay_free, cellsOk_free, cellF, tup_vo, cel_vo, List.replicate_succ, List.replicate_zero, abin_lss, abin_gtr, beq_self_eq_true, gt_iff_lt, decide_true, decide_false, beq_self_eq_true, setAll_whole, vld48, vst48, ↓val48, vbd46, vbd42, vls42, ↓vfk33, e0, e1, e6, e7, hlt, ↓cc, ↓cm, b1, b2, List.length_map]
                    first | refine Vc_open [[], [], [], [], [], [], [], [], [], [], [], [], [], [], [], [], [], [], [], [], [], [], [], [], [], [], [], [], [], [], [], [], [], []] false (by kernel_rfl) (by kernel_rfl) (by kernel_rfl) ?_ | refine Vc_open2 [[], [], [], [], [], [], [], [], [], [], [], [], [], [], [], [], [], [], [], [], [], [], [], [], [], [], [], [], [], [], [], [], [], []] false (by kernel_rfl) (by kernel_rfl) (by kernel_rfl) (by kernel_rfl) ?_
                    simp -dsimp only [thaw_sl, ↓VWP_ret, ↓VS_guard, ↓VS_move, ↓VS_assign, ↓VS_pick, ↓VS_load, ↓VS_binOp, ↓VS_fieldAddr, ↓VS_indexAddr, ↓With_guard, ↓Hold_1, ↓Hold_3, With_some, emap_nil, ↓eget_map, ↓eget_eset, ↓ae_tmp, ↓ae_int, lop_pick, asGuard_bool, ayielded_eq, ↓dstAt_zero, ↓dstAt_succ, light, ↓vfinish_ret, ↓vres_nil, ↓vres_tmp, vtell_eq, ret1, Option.map_some, Option.bind_some, ↓reduceIte, Nat.reduceEqDiff, reduceCtorEq, decide_true, List.getElem?_cons_zero, List.getElem?_cons_succ, Nat.zero_add, Nat.add_zero, Nat.reduceAdd, Nat.reduceLeDiff, and_self, List.all_nil, List.drop_zero, List.toList_toArray, List.length_cons, List.length_nil, mapOwn_bool, mapOwn_int, mapOwn_pointer, okv_bool, List.all_nil, beq_self_eq_true, vget_nil, cellsIn_mk, List.getD_cons_zero, List.getD_cons_succ, List.length_cons, List.length_nil, List.drop_zero, List.take_succ_cons, List.take_zero, vload_at, aggV_agg, vbin_int, abin_eql, abin_leq, abin_geq, abin_sub, beq_self_eq_true, Int.toNat_natCast, ge_iff_le, decide_true, beq_self_eq_true, ↓VE_nil, ↓VE_one0, List.reverse_nil, vld48, vgt48, vld3, vfp48_0, vfp48_1, vis42, Tryd.results9, e0, e1, w1, w2, q0, q1, q2, q3, ↓self_vv, g1, g2]
end Go.Proofs.YtmdpggecelheoaaDoor.Abs
/- Functions of others: truths, errors, a choice; how many there are. -/
set_option linter.unusedVariables false
set_option linter.unusedSimpArgs false
set_option maxRecDepth 4000
set_option maxHeartbeats 0
namespace Go.Proofs.YtmdpggecelheoaaDoor.Abs
open Go
attribute [local irreducible] Hold VReg Vf Vc VWP With VStp Vcallee Vp VE
section
variable {X : VOuter}
theorem abool_p (hX : X 118 = none) (b : Bool) : Vp Tryd.prog X 118 [.bool b] (bV b).v := by
  unfold Vp
  refine Vf_text hX Tryd.func118 rfl (by kernel_rfl) (by show 1 ≤ _; decide) ?_
  cases b <;> simp -dsimp only [↓VWP_seq, ↓VWP_region, ↓VWP_cond, ↓VWP_ret, ↓VWP_skip, ↓VReg_one, ↓VReg_non, ↓VReg_nil, ↓VS_move, ↓VS_build, ↓VS_store, ↓With_bindH, ↓With_guard, ↓Hold_1, With_some, emap_nil, ↓eget_eset, ↓ae_tmp, ↓ae_int, eget_zero, asBool_bool, ↓vfinish_ret, ↓vres_nil, ↓vres_cell, vtell_eq, ret1, Option.map_some, Option.bind_some, ↓reduceIte, Nat.reduceEqDiff, reduceCtorEq, Bool.false_eq_true, decide_false, Bool.not_false, Nat.zero_add, Nat.add_zero, Nat.reduceAdd, Nat.reduceLT, Nat.reduceLeDiff, true_and, and_self, List.map_cons, List.map_nil, List.all_cons, List.all_nil, tup_int, cel_int, tup_str, tup_agg, cel_agg, List.drop_zero, List.toList_toArray, List.size_toArray, List.length_cons, List.length_nil, mapOwn_agg, mapOwn_int, mapOwn_string, toksL_nil, toksL_cons, toks_int, toks_string, toks_agg, okv_agg, okv_int, okv_string, List.flatMap_nil, List.flatMap_cons, List.all_nil, List.all_cons, List.append_nil, List.nil_append, List.map_nil, List.map_cons, Bool.and_self, Bool.not_false, beq_self_eq_true, vnext_mk, vpush_mk, vget_nil, vput_nil, cellsIn_mk, vthaw_nil, vwrites_nil, List.getD_cons_zero, List.set_cons_zero, List.set_cons_succ, List.length_cons, List.length_nil, List.drop_zero, List.take_succ_cons, List.take_zero, ↓vlay_free, cellsOk_free, cellF, beq_self_eq_true, decide_false, beq_self_eq_true, setAll_whole, afill, setAll, vld48, vst48, ↓val48, bd48, pl48_0, pl48_1, Tryd.results118] <;> rfl
theorem abool_c (hX : X 118 = none) (b : Bool) {S : VH} {K : VCont} : Vcallee Tryd.prog X 118 [.bool b] S K = K (.agg ⟨[.int .i64 3, .int .i64 (if b then 1 else 0), .string .empty]⟩) [] S [] false := Vcallee_of (abool_p hX b) rfl rfl (by cases b <;> rfl)
theorem truth_p (hX : X 148 = none) (k n : Int) (s : ByteArray) : Vp Tryd.prog X 148 [.agg ⟨[.int .i64 k, .int .i64 n, .string s]⟩] (.tuple ⟨[.bool (decide (k = 3) && decide (n = 1)), .bool (decide (k = 3) || decide (k = 0))]⟩) := by
  unfold Vp
  refine Vf_text hX Tryd.func148 rfl (by kernel_rfl) (by show 1 ≤ _; decide) ?_
  by_cases h1 : k = 3
  · by_cases h2 : n = 1
    · simp -dsimp only [↓VWP_seq, ↓VWP_region, ↓VWP_open, ↓VReg_one, ↓VReg_nil, ↓VS_assign, ↓VS_box, ↓Hold_1, With_some, emap_nil, ↓ae_tmp, ↓ae_bool, eget_zero, Bool.not_false, Nat.add_zero, true_and, List.all_cons, List.all_nil, tup_int, tup_str, tup_agg, cel_agg, List.toList_toArray, List.length_nil, toksL_nil, toksL_cons, toks_int, toks_string, okv_int, okv_string, List.all_nil, List.all_cons, List.append_nil, List.nil_append, Bool.and_self, Bool.not_false, beq_self_eq_true, vnext_mk, vpush_mk, List.length_nil, ↓vbox_free, cellsOk_free, cellF, beq_self_eq_true, beq_self_eq_true, h1, h2]
      refine Vc_open [[], [], [], [], [], [], [], [], [], [], [], [], [], [], [], [], [], []] false (by kernel_rfl) (by kernel_rfl) (by kernel_rfl) ?_
      simp -dsimp only [↓VWP_ret, ↓VS_guard, ↓VS_move, ↓VS_assign, ↓VS_pick, ↓VS_load, ↓VS_binOp, ↓VS_fieldAddr, ↓With_guard, ↓Hold_1, ↓Hold_3, With_some, emap_nil, ↓eget_eset, ↓ae_tmp, ↓ae_int, ↓ae_bool, lop_pick, asGuard_bool, bb_tf, ayielded_eq, ↓dstAt_zero, ↓dstAt_succ, light, ↓vfinish_ret, ↓vres_nil, ↓vres_tmp, vtell_eq, ret1, Option.map_some, Option.bind_some, ↓reduceIte, Nat.reduceEqDiff, Bool.false_eq_true, decide_true, decide_false, List.getElem?_cons_zero, List.getElem?_cons_succ, Nat.zero_add, Nat.add_zero, and_self, List.map_cons, List.map_nil, List.all_cons, List.all_nil, Bool.and_true, List.toList_toArray, List.length_nil, mapOwn_tuple, mapOwn_bool, toks_bool, toks_tuple, okv_tuple, okv_bool, List.flatMap_nil, List.flatMap_cons, List.all_nil, List.all_cons, List.append_nil, List.map_nil, List.map_cons, Bool.and_true, Bool.and_self, Bool.or_false, beq_self_eq_true, vget_nil, cellsIn_mk, vthaw_nil, vwrites_nil, List.getD_cons_zero, List.length_nil, vbin_int, abin_eql, beq_self_eq_true, decide_true, decide_false, beq_self_eq_true, bb_tf, Int.reduceEq, ↓VE_nil, ↓VE_one0, List.reverse_nil, Bool.and_eq_true, vld3, vfp48_0, vfp48_1, Tryd.results148, h1, h2]
    · simp -dsimp only [↓VWP_seq, ↓VWP_region, ↓VWP_open, ↓VReg_one, ↓VReg_nil, ↓VS_assign, ↓VS_box, ↓Hold_1, With_some, emap_nil, ↓ae_tmp, ↓ae_bool, eget_zero, Bool.not_false, Nat.add_zero, true_and, List.all_cons, List.all_nil, tup_int, tup_str, tup_agg, cel_agg, List.toList_toArray, List.length_nil, toksL_nil, toksL_cons, toks_int, toks_string, okv_int, okv_string, List.all_nil, List.all_cons, List.append_nil, List.nil_append, Bool.and_self, Bool.not_false, beq_self_eq_true, vnext_mk, vpush_mk, List.length_nil, ↓vbox_free, cellsOk_free, cellF, beq_self_eq_true, beq_self_eq_true, h1]
      refine Vc_open [[], [], [], [], [], [], [], [], [], [], [], [], [], [], [], [], [], []] false (by kernel_rfl) (by kernel_rfl) (by kernel_rfl) ?_
      simp -dsimp only [↓VWP_ret, ↓VS_guard, ↓VS_move, ↓VS_assign, ↓VS_pick, ↓VS_load, ↓VS_binOp, ↓VS_fieldAddr, ↓With_guard, ↓Hold_1, ↓Hold_3, With_some, emap_nil, ↓eget_eset, ↓ae_tmp, ↓ae_int, ↓ae_bool, lop_pick, asGuard_bool, bb_tf, ayielded_eq, ↓dstAt_zero, ↓dstAt_succ, light, ↓vfinish_ret, ↓vres_nil, ↓vres_tmp, vtell_eq, ret1, Option.map_some, Option.bind_some, ↓reduceIte, Nat.reduceEqDiff, Bool.false_eq_true, decide_true, decide_false, List.getElem?_cons_zero, List.getElem?_cons_succ, Nat.zero_add, Nat.add_zero, and_self, List.map_cons, List.map_nil, List.all_cons, List.all_nil, Bool.and_true, List.toList_toArray, List.length_nil, mapOwn_tuple, mapOwn_bool, toks_bool, toks_tuple, okv_tuple, okv_bool, List.flatMap_nil, List.flatMap_cons, List.all_nil, List.all_cons, List.append_nil, List.map_nil, List.map_cons, Bool.and_true, Bool.and_false, Bool.or_false, beq_self_eq_true, vget_nil, cellsIn_mk, vthaw_nil, vwrites_nil, List.getD_cons_zero, List.length_nil, vbin_int, abin_eql, beq_self_eq_true, decide_true, decide_false, beq_self_eq_true, bb_tf, ibeq, Int.reduceEq, ↓VE_nil, ↓VE_one0, List.reverse_nil, Bool.and_eq_true, vld3, vfp48_0, vfp48_1, Tryd.results148, h1, h2]
  · by_cases h2 : k = 0
    · subst h2
      simp -dsimp only [↓VWP_seq, ↓VWP_region, ↓VWP_open, ↓VReg_one, ↓VReg_nil, ↓VS_assign, ↓VS_box, ↓Hold_1, With_some, emap_nil, ↓ae_tmp, ↓ae_bool, eget_zero, Bool.not_false, Nat.add_zero, true_and, List.all_cons, List.all_nil, tup_int, tup_str, tup_agg, cel_agg, List.toList_toArray, List.length_nil, toksL_nil, toksL_cons, toks_int, toks_string, okv_int, okv_string, List.all_nil, List.all_cons, List.append_nil, List.nil_append, Bool.and_self, Bool.not_false, beq_self_eq_true, vnext_mk, vpush_mk, List.length_nil, ↓vbox_free, cellsOk_free, cellF, beq_self_eq_true, beq_self_eq_true]
      refine Vc_open [[], [], [], [], [], [], [], [], [], [], [], [], [], [], [], [], [], []] false (by kernel_rfl) (by kernel_rfl) (by kernel_rfl) ?_
      simp -dsimp only [↓VWP_ret, ↓VS_guard, ↓VS_move, ↓VS_assign, ↓VS_pick, ↓VS_load, ↓VS_binOp, ↓VS_fieldAddr, ↓With_guard, ↓Hold_1, ↓Hold_3, With_some, emap_nil, ↓eget_eset, ↓ae_tmp, ↓ae_int, ↓ae_bool, lop_pick, asGuard_bool, bb_ft, ayielded_eq, ↓dstAt_zero, ↓dstAt_succ, light, ↓vfinish_ret, ↓vres_nil, ↓vres_tmp, vtell_eq, ret1, Option.map_some, Option.bind_some, ↓reduceIte, Nat.reduceEqDiff, Bool.false_eq_true, decide_true, decide_false, List.getElem?_cons_zero, Nat.add_zero, and_self, List.map_cons, List.map_nil, List.all_cons, List.all_nil, Bool.and_true, List.toList_toArray, List.length_nil, mapOwn_tuple, mapOwn_bool, toks_bool, toks_tuple, okv_tuple, okv_bool, List.flatMap_nil, List.flatMap_cons, List.all_nil, List.all_cons, List.append_nil, List.map_nil, List.map_cons, Bool.and_true, Bool.false_and, beq_self_eq_true, vget_nil, cellsIn_mk, vthaw_nil, vwrites_nil, List.getD_cons_zero, List.length_nil, vbin_int, abin_eql, beq_self_eq_true, decide_true, decide_false, beq_self_eq_true, bb_ft, ibeq, Int.reduceEq, ↓VE_nil, ↓VE_one0, Bool.or_true, List.reverse_nil, Bool.and_eq_true, vld3, vfp48_0, Tryd.results148]
    · simp -dsimp only [↓VWP_seq, ↓VWP_region, ↓VWP_open, ↓VReg_one, ↓VReg_nil, ↓VS_assign, ↓VS_box, ↓Hold_1, With_some, emap_nil, ↓ae_tmp, ↓ae_bool, eget_zero, Bool.not_false, Nat.add_zero, true_and, List.all_cons, List.all_nil, tup_int, tup_str, tup_agg, cel_agg, List.toList_toArray, List.length_nil, toksL_nil, toksL_cons, toks_int, toks_string, okv_int, okv_string, List.all_nil, List.all_cons, List.append_nil, List.nil_append, Bool.and_self, Bool.not_false, beq_self_eq_true, vnext_mk, vpush_mk, List.length_nil, ↓vbox_free, cellsOk_free, cellF, beq_self_eq_true, beq_self_eq_true]
      refine Vc_open [[], [], [], [], [], [], [], [], [], [], [], [], [], [], [], [], [], []] false (by kernel_rfl) (by kernel_rfl) (by kernel_rfl) ?_
      simp -dsimp only [↓VWP_ret, ↓VS_guard, ↓VS_move, ↓VS_assign, ↓VS_pick, ↓VS_load, ↓VS_binOp, ↓VS_fieldAddr, ↓With_guard, ↓Hold_1, ↓Hold_3, With_some, emap_nil, ↓eget_eset, ↓ae_tmp, ↓ae_int, ↓ae_bool, lop_pick, asGuard_bool, bb_ft, ayielded_eq, ↓dstAt_zero, ↓dstAt_succ, light, ↓vfinish_ret, ↓vres_nil, ↓vres_tmp, vtell_eq, ret1, Option.map_some, Option.bind_some, ↓reduceIte, Nat.reduceEqDiff, Bool.false_eq_true, decide_false, List.getElem?_cons_zero, Nat.add_zero, and_self, List.map_cons, List.map_nil, List.all_cons, List.all_nil, Bool.and_true, List.toList_toArray, List.length_nil, mapOwn_tuple, mapOwn_bool, toks_bool, toks_tuple, okv_tuple, okv_bool, List.flatMap_nil, List.flatMap_cons, List.all_nil, List.all_cons, List.append_nil, List.map_nil, List.map_cons, Bool.and_true, Bool.false_and, beq_self_eq_true, vget_nil, cellsIn_mk, vthaw_nil, vwrites_nil, List.getD_cons_zero, List.length_nil, vbin_int, abin_eql, beq_self_eq_true, decide_false, beq_self_eq_true, bb_ft, ibeq, ↓VE_nil, ↓VE_one0, Bool.or_self, List.reverse_nil, Bool.and_eq_true, vld3, vfp48_0, Tryd.results148, h1, h2]
theorem truth_c (hX : X 148 = none) (k n : Int) (s : ByteArray) {S : VH} {K : VCont} : Vcallee Tryd.prog X 148 [.agg ⟨[.int .i64 k, .int .i64 n, .string s]⟩] S K = K (.tuple ⟨[.bool (decide (k = 3) && decide (n = 1)), .bool (decide (k = 3) || decide (k = 0))]⟩) [] S [] false := Vcallee_of (truth_p hX k n s) rfl rfl rfl
/-- A choice whose first value is TRUE. -/
theorem either_t (h : AOff X) (hX : X 120 = none) (hX1 : X 148 = none) (c : Bool) (d : Nat) (x y : VV) : Vp Tryd.prog X 120 [sl c d 3 [.agg ⟨[.int .i64 3, .int .i64 1, .string .empty]⟩, .agg ⟨[.int .i64 x.k, .int .i64 x.n, .string x.s]⟩, .agg ⟨[.int .i64 y.k, .int .i64 y.n, .string y.s]⟩]] x.v := by
  unfold Vp
  refine Vf_text hX Tryd.func120 rfl (by kernel_rfl) (by show 1 ≤ _; decide) ?_
  simp -dsimp only [↓Hold_5, ↓VWP_seq, ↓VWP_region, ↓VWP_cond, ↓VWP_ret, ↓VWP_block, ↓VReg_one, ↓VReg_non, ↓VReg_nil, ↓VS_move, ↓VS_assign, ↓VS_load, ↓VS_binOp, ↓VS_unOp, ↓VS_fieldAddr, ↓VS_indexAddr, ↓VS_extract, ↓VS_store, ↓With_bindH, ↓With_guard, ↓Hold_1, With_some, emap_nil, ↓eget_eset, ↓ae_tmp, ↓ae_int, eget_zero, lop_extract, lop_not, asBool_bool, ↓vfinish_ret, ↓vres_nil, ↓vres_cell, vtell_eq, ret1, Option.map_some, Option.bind_some, ↓reduceIte, Nat.reduceEqDiff, reduceCtorEq, Bool.false_eq_true, decide_true, decide_false, Bool.not_true, Bool.not_false, List.getElem?_toArray, List.getElem?_cons_zero, List.getElem?_cons_succ, Nat.zero_add, Nat.add_zero, Nat.reduceAdd, Nat.reduceLT, Nat.reduceLeDiff, true_and, and_self, List.map_cons, List.map_nil, List.all_cons, List.all_nil, tup_int, tup_str, tup_agg, cel_agg, List.drop_zero, List.toList_toArray, List.size_toArray, List.length_cons, List.length_nil, mapOwn_agg, mapOwn_int, mapOwn_string, toksL_nil, toksL_cons, toks_int, toks_string, toks_agg, okv_agg, okv_int, okv_string, List.flatMap_nil, List.flatMap_cons, List.all_nil, List.all_cons, List.append_nil, List.nil_append, List.map_nil, List.map_cons, Bool.and_self, Bool.not_true, Bool.not_false, Bool.or_false, beq_self_eq_true, vnext_mk, vpush_mk, vget_nil, vput_nil, cellsIn_mk, vthaw_nil, vwrites_nil, List.getD_cons_zero, List.set_cons_zero, List.length_cons, List.length_nil, List.drop_zero, List.take_succ_cons, List.take_zero, vload_at, vfield_at, cellV_int, aggV_agg, isAggV_int, vbin_int, ↓vlay_free, cellsOk_free, cellF, abin_eql, beq_self_eq_true, Int.reduceLE, Int.reduceToNat, decide_true, decide_false, beq_self_eq_true, setAll_whole, ibeq, Int.reduceEq, vld48, vgt48, vgt3, vst48, ↓val48, vpt48_0, vis42, ↓vfk148, Tryd.results120, ↓truth_c hX1]
  rfl
theorem iserr_p (hX : X 117 = none) (hX1 : X 118 = none) (c : Bool) (d : Nat) (n : Int) (s : ByteArray) : Vp Tryd.prog X 117 [sl c d 3 [.agg ⟨[.int .i64 4, .int .i64 n, .string s]⟩]] (bV true).v := by
  unfold Vp
  refine Vf_text hX Tryd.func117 rfl (by kernel_rfl) (by show 1 ≤ _; decide) ?_
  simp -dsimp only [↓Hold_5, ↓VWP_seq, ↓VWP_region, ↓VWP_ret, ↓VReg_one, ↓VReg_non, ↓VReg_nil, ↓VS_move, ↓VS_load, ↓VS_binOp, ↓VS_fieldAddr, ↓VS_indexAddr, ↓VS_store, ↓With_bindH, ↓With_guard, ↓Hold_1, With_some, emap_nil, ↓eget_eset, ↓ae_tmp, ↓ae_int, eget_zero, ↓vfinish_ret, ↓vres_nil, ↓vres_cell, vtell_eq, ret1, Option.map_some, Option.bind_some, ↓reduceIte, Nat.reduceEqDiff, reduceCtorEq, Bool.false_eq_true, decide_false, Bool.not_false, List.getElem?_cons_zero, Nat.zero_add, Nat.add_zero, Nat.reduceAdd, Nat.reduceLT, Nat.reduceLeDiff, true_and, and_self, List.map_cons, List.map_nil, List.all_cons, List.all_nil, tup_int, tup_str, tup_agg, cel_agg, List.drop_zero, List.toList_toArray, List.size_toArray, List.length_cons, List.length_nil, mapOwn_agg, mapOwn_int, mapOwn_string, toksL_nil, toksL_cons, toks_int, toks_string, toks_agg, okv_agg, okv_int, okv_string, List.flatMap_nil, List.flatMap_cons, List.all_nil, List.all_cons, List.append_nil, List.nil_append, List.map_nil, List.map_cons, Bool.and_self, Bool.not_false, beq_self_eq_true, vnext_mk, vpush_mk, vget_nil, vput_nil, cellsIn_mk, vthaw_nil, vwrites_nil, List.getD_cons_zero, List.set_cons_zero, List.length_cons, List.length_nil, List.drop_zero, List.take_succ_cons, List.take_zero, vload_at, vfield_at, cellV_int, isAggV_int, vbin_int, ↓vlay_free, cellsOk_free, cellF, abin_eql, beq_self_eq_true, Int.reduceLE, Int.reduceToNat, decide_false, beq_self_eq_true, setAll_whole, vgt3, vld48, vst48, ↓val48, vpt48_0, vis42, ↓vfk118, Tryd.results117, ↓abool_c hX1]
  rfl
theorem counta_1 (h : AOff X) (hX : X 94 = none) (c : Bool) (d : Nat) (n : Int) (s : ByteArray) : Vp Tryd.prog X 94 [sl c d 3 [.agg ⟨[.int .i64 4, .int .i64 n, .string s]⟩]] (iV 1).v := by
  have w : IntKind.i64.wrap (0 + 1) = 1 := rfl
  have w1 : IntKind.i64.wrap 1 = 1 := rfl
  unfold Vp
  refine Vf_text hX Tryd.func94 rfl (by kernel_rfl) (by show 1 ≤ _; decide) ?_
  simp -dsimp only [↓VWP_seq, ↓VWP_region, ↓VWP_block, ↓VWP_loop, ↓VReg_one, ↓VReg_nil, ↓VS_move, ↓VS_assign, ↓VS_len, ↓Hold_1, With_some, emap_nil, ↓eget_eset, ↓ae_tmp, ↓ae_int, eget_zero, ↓reduceIte, reduceCtorEq, Nat.zero_add, Nat.add_zero, List.length_cons, List.length_nil, List.nil_append, vnext_mk, vpush_mk, List.length_cons, List.length_nil, Int.cast_ofNat_Int, ↓val48, vls42]
  refine Vc_unroll ?_
  simp -dsimp only [↓VWP_seq, ↓VWP_region, ↓VWP_cond, ↓VWP_skip, ↓VWP_block, ↓VReg_one, ↓VReg_non, ↓VReg_nil, ↓VS_move, ↓VS_assign, ↓VS_load, ↓VS_binOp, ↓VS_fieldAddr, ↓VS_indexAddr, ↓VS_store, ↓Hold_1, With_some, emap_nil, ↓eget_eset, ↓ae_tmp, ↓ae_int, asBool_bool, Option.map_some, ↓reduceIte, Nat.reduceEqDiff, decide_true, decide_false, Bool.not_false, List.getElem?_cons_zero, Nat.zero_add, Nat.add_zero, Nat.reduceAdd, Nat.reduceLT, Nat.reduceLeDiff, and_self, List.all_cons, List.all_nil, tup_int, tup_str, tup_agg, cel_agg, List.toList_toArray, List.size_toArray, List.length_cons, List.length_nil, toksL_nil, toksL_cons, toks_int, toks_string, okv_int, okv_string, List.all_nil, List.all_cons, List.append_nil, List.nil_append, List.cons_append, Bool.and_self, Bool.not_false, beq_self_eq_true, vnext_mk, vpush_mk, vget_nil, vput_nil, cellsIn_mk, List.getD_cons_zero, List.getD_cons_succ, List.set_cons_zero, List.set_cons_succ, List.length_cons, List.length_nil, vload_at, aggV_agg, vbin_int, ↓vlay_free, cellsOk_free, cellF, abin_neq, abin_lss, abin_add, beq_self_eq_true, Int.reduceLT, Int.reduceLE, Int.reduceToNat, Int.reduceAdd, decide_true, decide_false, beq_self_eq_true, setAll_whole, ibne, Int.reduceEq, vgt48, vld3, vst48, ↓val48, vfp48_0, vis42, w1]
  refine Vc_unroll ?_
  simp -dsimp only [↓Hold_5, ↓VWP_seq, ↓VWP_region, ↓VWP_cond, ↓VWP_ret, ↓VWP_exit, ↓VReg_one, ↓VReg_non, ↓VReg_nil, ↓VS_move, ↓VS_binOp, ↓VS_store, ↓With_bindH, ↓With_guard, ↓Hold_1, ↓Hold_3, With_some, emap_nil, ↓eget_eset, ↓ae_tmp, asBool_bool, ↓vfinish_ret, ↓vres_nil, ↓vres_cell, vtell_eq, ret1, Option.map_some, ↓reduceIte, Nat.reduceEqDiff, Bool.false_eq_true, decide_false, Bool.not_false, Nat.zero_add, Nat.reduceAdd, Nat.reduceLT, Nat.reduceLeDiff, true_and, and_self, List.map_cons, List.map_nil, List.all_cons, List.all_nil, tup_int, tup_str, tup_agg, cel_agg, List.drop_zero, List.toList_toArray, List.size_toArray, List.length_cons, List.length_nil, mapOwn_agg, mapOwn_int, mapOwn_string, toksL_nil, toksL_cons, toks_int, toks_string, toks_agg, okv_agg, okv_int, okv_string, List.flatMap_nil, List.flatMap_cons, List.all_nil, List.all_cons, List.append_nil, List.map_nil, List.map_cons, Bool.and_self, Bool.not_false, beq_self_eq_true, vnext_mk, vget_nil, vput_nil, cellsIn_mk, vthaw_nil, vwrites_nil, List.getD_cons_zero, List.set_cons_zero, List.length_cons, List.length_nil, List.drop_zero, List.take_succ_cons, List.take_zero, vbin_int, ↓vlay_free, cellsOk_free, cellF, abin_lss, beq_self_eq_true, Int.lt_irrefl, decide_false, beq_self_eq_true, setAll_whole, vld48, vst48, ↓vfk92, Tryd.results94, ↓int_c h.int]
  rfl
end
end Go.Proofs.YtmdpggecelheoaaDoor.Abs
/- What a row of numbers needs. -/
namespace Go.Proofs.YtmdpggecelheoaaDoor.Abs
open Go
end Go.Proofs.YtmdpggecelheoaaDoor.Abs
/- What rows of values that are arguments lay into the plain heap, and how they read. -/
set_option linter.unusedVariables false
set_option linter.unusedSimpArgs false
namespace Go.Proofs.YtmdpggecelheoaaDoor.Abs
open Go Go.RowKit
/-- The plain heap alone, no boxes, no own slices. -/
abbrev Rl0 (H : Hp) : Rl := ⟨[], fun _ => none, fun _ _ => True, H⟩
def VV.ok (x : VV) : Prop := (-9223372036854775808 ≤ x.k ∧ x.k ≤ 9223372036854775807) ∧ (-9223372036854775808 ≤ x.n ∧ x.n ≤ 9223372036854775807) ∧ x.s.size ≤ 9223372036854775807
def VvSh : List Sh := [.int .i64, .int .i64, .str]
theorem vv_shape : shapeT Tryd.prog 8 48 = some VvSh := by kernel_rfl
def RVV : Hp → VV → List Value → Prop := fun _ x cs => cs = [.int .i64 x.k, .int .i64 x.n, .string x.s] ∧ x.ok
theorem RVV.mono : Mono RVV := fun _ _ _ _ _ h => h
theorem vv_of {H : Hp} {x cs : List Value} (h : RSh VvSh H x cs) : ∃ y, RVV H y cs := by
  obtain ⟨rfl, h⟩ := h
  unfold VvSh at h
  obtain ⟨_, t0, rfl, ⟨x0, rfl, w0⟩, h0⟩ := shapes_cons h
  obtain ⟨_, t1, rfl, ⟨x1, rfl, w1⟩, h1⟩ := shapes_cons h0
  obtain ⟨_, t2, rfl, ⟨x2, rfl, w2⟩, h2⟩ := shapes_cons h1
  obtain rfl := shapes_nil h2
  refine ⟨⟨x0, x1, x2⟩, rfl, ?_, ?_, w2⟩
  · simpa [Lit.wf, IntKind.min, IntKind.max, IntKind.signed, IntKind.bits] using w0
  · simpa [Lit.wf, IntKind.min, IntKind.max, IntKind.signed, IntKind.bits] using w1
theorem opens_vv : OpensA Tryd.prog 48 RVV := fun n => Opens.map (opens_shape 8 48 VvSh vv_shape n) fun H x cs h => vv_of h
/-- A slice that opens, read as a row. -/
theorem rd_slice {α : Type} {e : TypeId} {sz : Nat} {R : Hp → α → List Value → Prop} {H : Hp} {V : α → Value} (hz : 0 < sz) (hV : ∀ x c, R H x c → (V x).cells.size = sz ∧ okv 0 true (V x) = true ∧ RdL (Rl0 H) (V x).cells.toList c) {xs : List α} {v : Value} (h : RSlice e sz R H xs [v]) :
    ∃ c, Rd (Rl0 H) (sl c 0 sz (xs.map V)) v := by
  obtain ⟨u, hu, h⟩ := h
  cases hu
  rcases h with ⟨rfl, rfl | ⟨b, rfl⟩⟩ | ⟨hne, i, c, rfl, hi, hg, hr⟩
  · exact ⟨true, .scal _ rfl⟩
  · exact ⟨false, .roE 0 sz b 0 hz⟩
  · refine ⟨false, ?_⟩
    have key : ∀ (xs : List α) (c : List Value), RList sz R H xs c → (∀ x ∈ xs.map V, x.cells.size = sz) ∧ okvL 0 true (xs.map V) = true ∧ RdL (Rl0 H) (cellsL (xs.map V)) c := by
      intro xs
      induction xs with
      | nil => intro c h; obtain rfl : c = [] := h; exact ⟨by simp, rfl, RdL.nil⟩
      | cons x xs ih =>
        intro c ⟨c1, c2, hc, hl, hx, hr⟩
        obtain ⟨e1, e2, e3⟩ := ih c2 hr
        obtain ⟨f1, f2, f3⟩ := hV x c1 hx
        refine ⟨?_, ?_, ?_⟩
        · intro y hy
          rw [List.map_cons] at hy
          rcases List.mem_cons.1 hy with rfl | hy
          · exact f1
          · exact e1 y hy
        · rw [List.map_cons, okvL, f2, e2]; rfl
        · rw [hc, List.map_cons]
          exact RdL.append f3 e3
    obtain ⟨e1, e2, e3⟩ := key xs c hr
    have hlen := RList.length xs c hr
    have hl2 : (xs.map V).length = xs.length := List.length_map ..
    rw [← vs_sl, ← hl2]
    refine Rd.ro 0 sz (xs.map V) i 0 false e c hz ⟨hi, by simp, fun k h => by cases h⟩ trivial hg (by rw [hl2, hlen]; omega) e1 e2 ?_
    rw [List.drop_zero, List.take_of_length_le (by rw [hl2, hlen]; exact Nat.le_refl _)]
    exact e3.2
/-- A row of values. -/
def RRow : Hp → RW → List Value → Prop := fun H r cs => ∃ v, cs = [v] ∧ Rd (Rl0 H) (r.v 0) v ∧ ∀ x ∈ r.l, x.ok
theorem row_of {H : Hp} {xs : List VV} {cs : List Value} (h : RSlice 48 3 RVV H xs cs) : ∃ r, RRow H r cs := by
  have hok : ∀ x ∈ xs, x.ok := by
    obtain ⟨u, hu, h⟩ := h
    rcases h with ⟨rfl, _⟩ | ⟨_, i, c, _, _, _, hr⟩
    · simp
    · have key : ∀ (xs : List VV) (c : List Value), RList 3 RVV H xs c → ∀ x ∈ xs, x.ok := by
        intro xs
        induction xs with
        | nil => intro c _ x hx; cases hx
        | cons y xs ih =>
          intro c ⟨c1, c2, _, _, hy, hr⟩ x hx
          rcases List.mem_cons.1 hx with rfl | hx
          · exact hy.2
          · exact ih c2 hr x hx
      exact key xs c hr
  have h2 := h
  obtain ⟨u, rfl, _⟩ := h2
  obtain ⟨c, hc⟩ := rd_slice (V := VV.v) (by decide) (fun x c hx => ⟨rfl, rfl, by rw [hx.1]; exact .cons (.int _ _) (.cons (.int _ _) (.cons (.string _) .nil))⟩) h
  exact ⟨⟨c, xs⟩, u, rfl, hc, hok⟩
theorem opensA_row {t : TypeId} (h : Tryd.prog.underlying t = some (.slice 48)) : OpensA Tryd.prog t RRow := fun n => Opens.map (opensA_slice (sz := 3) h (by kernel_rfl) (by decide) opens_vv RVV.mono n) fun H x cs h => row_of h
theorem RRow.mono : Mono RRow := by
  rintro H H' r cs hl ⟨v, rfl, h, hok⟩
  refine ⟨v, rfl, ?_, hok⟩
  refine Rd.conv (R := Rl0 H) (R' := Rl0 H') (fun i b h => h) (fun d b hp hm => ?_) (fun k b h => by cases h) h
  exact ⟨⟨Nat.lt_of_lt_of_le hp.1 hl.next, by simp, fun k h => by cases h⟩, trivial, hl.get b hp.1⟩
/-- Rows of rows. -/
theorem opensA_rows {t r : TypeId} (h : Tryd.prog.underlying t = some (.slice r)) (k : Tryd.prog.underlying r = some (.slice 48)) (hc : Tryd.prog.cellsOf r = 1) : OpensA Tryd.prog t (RSlice r 1 RRow) := opensA_slice h hc (by decide) (opensA_row k) RRow.mono
theorem rd_rows {r : TypeId} {H : Hp} {xs : List RW} {v : Value} (h : RSlice r 1 RRow H xs [v]) : ∃ c, Rd (Rl0 H) (sl c 0 1 (xs.map (RW.v 0))) v := by
  refine rd_slice (by decide) (fun x c hx => ?_) h
  obtain ⟨u, rfl, h, _⟩ := hx
  refine ⟨?_, okv_sl0 _ _ _ _ _, ?_⟩
  · unfold RW.v; rw [cel_sl]; rfl
  · unfold RW.v at h ⊢
    rw [cel_sl]
    exact .cons h .nil
end Go.Proofs.YtmdpggecelheoaaDoor.Abs
/- A text whose beginning is run by the kernel and whose end is walked over values. -/
set_option linter.unusedVariables false
set_option linter.unusedSimpArgs false
namespace Go.Proofs.YtmdpggecelheoaaDoor.Abs
open Go
def dropSeq : Nat → Code → Code
  | 0, c => c
  | k + 1, .seq _ b => dropSeq k b
  | _ + 1, c => c
theorem dropSeq_zero (c : Code) : dropSeq 0 c = c := _root_.id rfl
theorem dropSeq_succ (k : Nat) (a b : Code) : dropSeq (k + 1) (a.seq b) = dropSeq k b := _root_.id rfl
section
variable {P : Program} {X : Outer}
/-- The first k parts of a text. -/
def runK (P : Program) (X : Outer) (n : Nat) : Nat → Code → Env → Hp → Option (Env × Hp)
  | 0, _, e, H => some (e, H)
  | k + 1, .seq a b, e, H => match runC P (run P X n) n a e H with
    | some (.normal, e', H') => runK P X n k b e' H'
    | _ => none
  | _ + 1, _, _, _ => none
theorem runK_Dc {n : Nat} : ∀ (k : Nat) (c : Code) (e : Env) (H : Hp) (e' : Env) (H' : Hp) (Q : Ex → Env → Hp → Prop), runK P X n k c e H = some (e', H') → Dc P X (dropSeq k c) e' H' Q → Dc P X c e H Q := by
  intro k
  induction k with
  | zero => intro c e H e' H' Q h hq; simp only [runK] at h; cases h; exact hq
  | succ k ih =>
    intro c e H e' H' Q h hq
    cases c with
    | seq a b =>
      simp only [runK] at h
      split at h
      · rename_i e1 H1 h1
        exact Dc_seq ⟨n, (.normal, e1, H1), h1, ih b e1 H1 e' H' Q h hq⟩
      · cases h
    | _ => simp [runK] at h
abbrev RlB (φ : List Nat) (H : Hp) : Rl := ⟨φ, fun _ => none, fun _ _ => True, H⟩
def scB (v u : Value) : Bool := isScal v && vbeq u v
theorem scB_rd {R : Rl} {v u : Value} (h : scB v u = true) : Rd R v u := by
  unfold scB at h
  rw [Bool.and_eq_true] at h
  rw [vbeq_eq _ _ h.2]
  exact .scal _ h.1
def all2B {α : Type} (f : α → Value → Bool) : List α → List Value → Bool
  | [], [] => true
  | x :: xs, y :: ys => f x y && all2B f xs ys
  | _, _ => false
theorem all2B_rdl {R : Rl} {α : Type} {f : α → Value → Bool} {g : α → Value} (hf : ∀ x u, f x u = true → Rd R (g x) u) : ∀ (xs : List α) (ys : List Value), all2B f xs ys = true → RdL R (xs.map g) ys
  | [], [], _ => RdL.nil
  | x :: xs, y :: ys, h => by
    simp only [all2B, Bool.and_eq_true] at h
    exact .cons (hf x y h.1) (all2B_rdl hf xs ys h.2)
  | [], _ :: _, h => by simp [all2B] at h
  | _ :: _, [], h => by simp [all2B] at h
def sliceOk (φ : List Nat) (H : Hp) (sz len : Nat) : Value → Option (List Value)
  | .slice (some a) m s => if a.spot = none ∧ m = len ∧ s = sz ∧ 0 < sz ∧ a.block < H.next ∧ a.block ∉ φ then
      match H.get a.block with
      | .cells _ _ c => if a.off + len * sz ≤ c.length then some ((c.drop a.off).take (len * sz)) else none
      | _ => none
    else none
  | _ => none
theorem sliceOk_rd {φ : List Nat} {H : Hp} {sz : Nat} {l : List Value} {u : Value} {c : List Value} (h : sliceOk φ H sz l.length u = some c) (h1 : ∀ x ∈ l, x.cells.size = sz) (h2 : okvL 0 true l = true) (h3 : RdL (RlB φ H) (cellsL l) c) : Rd (RlB φ H) (vs 0 sz l) u := by
  unfold sliceOk at h
  split at h
  · rename_i a m s
    split at h
    · rename_i hc
      obtain ⟨e1, rfl, rfl, hz, hb, hφ⟩ := hc
      split at h
      · rename_i o el cs hg
        split at h
        · rename_i hle
          cases h
          obtain ⟨ab, ao, asp⟩ := a
          dsimp only at e1 hb hφ hg hle h3 ⊢
          subst e1
          exact Rd.ro 0 s l ab ao o el cs hz ⟨hb, hφ, fun k h => by cases h⟩ trivial hg hle h1 h2 h3.2
        · cases h
      · cases h
    · cases h
  · cases h
def rowB (φ : List Nat) (H : Hp) (sz : Nat) (l : List Value) (u : Value) : Bool := match sliceOk φ H sz l.length u with
  | some c => l.all (fun x => x.cells.size == sz) && okvL 0 true l && all2B scB (cellsL l) c
  | none => false
theorem rowB_rd {φ : List Nat} {H : Hp} {sz : Nat} {l : List Value} {u : Value} (h : rowB φ H sz l u = true) : Rd (RlB φ H) (vs 0 sz l) u := by
  unfold rowB at h
  split at h
  · rename_i c hc
    simp only [Bool.and_eq_true, List.all_eq_true, beq_iff_eq] at h
    refine sliceOk_rd hc h.1.1 h.1.2 ?_
    have := all2B_rdl (R := RlB φ H) (g := id) (fun x u hx => scB_rd hx) _ _ h.2
    rwa [List.map_id] at this
  · cases h
def rowsB (φ : List Nat) (H : Hp) (sz : Nat) (ls : List (List Value)) (u : Value) : Bool := match sliceOk φ H 1 ls.length u with
  | some c => all2B (rowB φ H sz) ls c
  | none => false
theorem rowsB_rd {φ : List Nat} {H : Hp} {sz : Nat} {ls : List (List Value)} {u : Value} (h : rowsB φ H sz ls u = true) : Rd (RlB φ H) (vs 0 1 (ls.map (vs 0 sz))) u := by
  unfold rowsB at h
  split at h
  · rename_i c hc
    refine sliceOk_rd (by rw [List.length_map]; exact hc) ?_ ?_ ?_
    · intro x hx
      obtain ⟨l, _, rfl⟩ := List.mem_map.1 hx
      rfl
    · rw [okvL_eq, List.all_eq_true]
      intro x hx
      obtain ⟨l, _, rfl⟩ := List.mem_map.1 hx
      rfl
    · have h2 := all2B_rdl (R := RlB φ H) (g := vs 0 sz) (fun x u hx => rowB_rd hx) _ _ h
      have e : ∀ l : List (List Value), cellsL (l.map (vs 0 sz)) = l.map (vs 0 sz) := by
        intro l
        induction l with
        | nil => rfl
        | cons a l ih => unfold cellsL at ih ⊢; rw [List.map_cons, List.flatMap_cons, ih]; rfl
      rw [e]
      exact h2
  · cases h
/-- One box that a pointer points at, cells that are plain. -/
def boxB (H : Hp) (T : TypeId) (cs : List Value) : Value → Option Nat
  | .pointer (some a) => if a.spot = none ∧ a.off = 0 ∧ a.block < H.next then
      match H.get a.block with
      | .cells true e c => if e = T ∧ all2B scB cs c = true then some a.block else none
      | _ => none
    else none
  | _ => none
theorem boxB_spec {H : Hp} {T : TypeId} {cs : List Value} {u : Value} {b : Nat} (h : boxB H T cs u = some b) : u = .pointer (some ⟨b, 0, none⟩) ∧ b < H.next ∧ ∃ c, H.get b = .cells true T c ∧ all2B scB cs c = true := by
  unfold boxB at h
  split at h
  · rename_i a
    split at h
    · rename_i hc
      obtain ⟨e1, e2, hb⟩ := hc
      split at h
      · rename_i el c hg
        split at h
        · rename_i ha
          cases h
          obtain ⟨rfl, ha⟩ := ha
          obtain ⟨ab, ao, asp⟩ := a
          dsimp only at e1 e2 hb hg ⊢
          subst e1 e2
          exact ⟨rfl, hb, c, hg, ha⟩
        · cases h
      · cases h
    · cases h
  · cases h
theorem vsta_one {e ce : Env} {H : Hp} {b : Nat} {el t : TypeId} {cs c : List Value} (hb : b < H.next) (hg : H.get b = .cells true t c) (ha : all2B scB cs c = true) (hel : el = t) (hflat : ∀ x ∈ cs, toks x = []) (henv : ∀ i, Rd (RlB [b] H) (eget e i) (eget ce i)) :
    VSta [] ⟨[], fun _ => none, fun _ _ => True, ⟨0, []⟩⟩ (RlB [b] H) ⟨[], [.cells true el cs], []⟩ e ce where
  hr := {
    len := rfl
    nodup := by simp
    lt := by simp [hb]
    inj := fun k k' b h => by cases h
    sep := fun k b h => by cases h
    fr := fun _ _ => trivial
    dom := fun i o b h => by cases h
    own := fun k b h => by cases h
    blk := fun i b' h => by
      cases i with
      | zero =>
        simp at h
        subst h
        show BR _ 0 (.cells true el cs) (H.get b)
        rw [hg]
        subst hel
        refine ⟨rfl, c, rfl, ?_, fun j x hx => .inl (hflat x (List.mem_of_getElem? hx))⟩
        have := all2B_rdl (R := RlB [b] H) (g := id) (fun x u hx => scB_rd hx) _ _ ha
        rwa [List.map_id] at this
      | succ i => simp at h }
  bn := rfl
  bn0 := rfl
  hr0 := fun i o b h => by cases h
  fr0 := fun d => rfl
  pre := fun i b h => by simp at h
  M := rfl
  nx := Nat.zero_le _
  fr := fun b h => absurd h (Nat.not_lt_zero b)
  keep := fun i h => absurd h (Nat.not_lt_zero i)
  tok := fun k b h => by cases h
  box := fun i b _ _ => Nat.zero_le _
  w := fun i h => by cases h
  low := fun i h => absurd h (Nat.not_lt_zero i)
  same := fun i h => absurd h (Nat.not_lt_zero i)
  env := henv
/-- What is walked over values comes to the same over the plain heap. -/
theorem Vc_Dc {XV : VOuter} (hX : VXOk P X XV) {c : Code} {e ce : Env} {S : VH} {n : List Blk} {R0 R : Rl} {Q : Ex → Env → VH → Prop} (hs : VSta n R0 R S e ce) (h : Vc P XV c e S Q) : Dc P X c ce R.H fun x ce' H' => ∃ e' S' R1, Q x e' S' ∧ R1.H = H' ∧ VSta n R0 R1 S' e' ce' := by
  obtain ⟨m, r, h1, hq⟩ := h
  refine (code_ok (run_ok hX m) c R S e ce r h1 hs).mono ?_
  rintro x ce' H' ⟨rfl, R1, e1, hs1⟩
  exact ⟨_, _, R1, hq, e1, hs1⟩
end
end Go.Proofs.YtmdpggecelheoaaDoor.Abs
/- The law FuncsErrors: its calls, and its text behind the first of them. -/
set_option linter.unusedVariables false
set_option linter.unusedSimpArgs false
set_option maxRecDepth 4000
set_option maxHeartbeats 0
namespace Go.Proofs.YtmdpggecelheoaaDoor.Abs
open Go
attribute [local irreducible] Hold VReg Vf Vc VWP With VStp Vcallee Vp VE
/-- The example of the document is given from outside. -/
def trueW : List Value → List Blk → Option (Value × List (Nat × Blk)) := fun args _ => match args with
  | [] => some (.bool true, [])
  | _ => none
def XE : VOuter := fun f => if f = 31 then some trueW else none
theorem xe_off : XOff [31] XE := fun f h => by
  unfold XE
  rw [if_neg]
  rintro rfl
  simp at h
theorem xe_a : AOff XE := ⟨rfl, rfl, rfl, rfl, rfl, rfl, rfl, rfl, rfl, rfl, rfl, rfl, rfl, rfl, rfl, rfl⟩
theorem alive_e (S : VH) (K : VCont) : Vcallee Tryd.prog XE 31 [] S K = K (.bool true) [] S [] false := by
  refine Vcallee_of ?_ rfl rfl rfl
  unfold Vp
  exact Vf_outer (g := trueW) rfl (by with_unfolding_all exact ⟨rfl, rfl⟩)
theorem e_find_choose (S : VH) (K : VCont) : Vcallee Tryd.prog XE 50 [.string ⟨#[67, 72, 79, 79, 83, 69]⟩] S K = K (fnL (-2) 121) [] S [] false := Vcallee_of (Vp_closed xe_off 6 (by kernel_rfl)) rfl rfl rfl
theorem e_find_match (S : VH) (K : VCont) : Vcallee Tryd.prog XE 50 [.string ⟨#[77, 65, 84, 67, 72]⟩] S K = K (fnL (-3) 122) [] S [] false := Vcallee_of (Vp_closed xe_off 6 (by kernel_rfl)) rfl rfl rfl
theorem e_call_choose (t : Nat) (n : Int) (l : List VV) (h1 : 1 ≤ l.length) (h2 : l.length ≤ 1000) (hr : ∀ x ∈ l, rightF x = true) (S : VH) (K : VCont) : Vcallee Tryd.prog XE 33 [.string ⟨#[67, 72, 79, 79, 83, 69]⟩, vo (t, none) 1 0 ((rowsC n l).map (RW.v 0))] S K = K (.agg ⟨[.int .i64 (chooseR n l).k, .int .i64 (chooseR n l).n, .string (chooseR n l).s]⟩) [] S [] false :=
  Vcallee_of (Vp_congr (call_p xe_a rfl rfl rfl ⟨#[67, 72, 79, 79, 83, 69]⟩ (-2) true 121 (fun l => chooseF (l.headD zV) l.tail) e_find_choose (by kernel_rfl) false 1 0 (rowsC n l) (by simp [rowsC]; omega) (by rw [flat_rowsC n l hr]; simp; omega)
    (fun c S K => by rw [flat_rowsC n l hr]; exact Vcallee_of (choose_p xe_a rfl rfl c 1 1 n .empty l) (by simp only [mapOwnL_cons, mapOwnL_nil, lend_ol]; rfl) (by simp only [okvL_cons, okvL_nil, okv_sl, Bool.and_true]) rfl)) (by
      unfold callF
      rw [fits_rowsC n l h1, flat_rowsC n l hr]
      simp [chooseF, chooseR, num_i]
      rfl)) rfl (by simp only [okvL_cons, okvL_nil, Bool.and_true]; rfl) rfl
theorem e_call_match (t : Nat) (k n : Int) (s : ByteArray) (c : Bool) (l : List VV) (h2 : l.length ≤ 1000) (hv : rightF ⟨k, n, s⟩ = true) (hr : ∀ x ∈ l, rightF x = true) (S : VH) (K : VCont) : Vcallee Tryd.prog XE 33 [.string ⟨#[77, 65, 84, 67, 72]⟩, vo (t, none) 1 0 [vs 0 3 [.agg ⟨[.int .i64 k, .int .i64 n, .string s]⟩], sl c 0 3 (l.map VV.v)]] S K = K (.agg ⟨[.int .i64 (matchF ⟨k, n, s⟩ l).k, .int .i64 (matchF ⟨k, n, s⟩ l).n, .string (matchF ⟨k, n, s⟩ l).s]⟩) [] S [] false :=
  Vcallee_of (Vp_congr (call_p xe_a rfl rfl rfl ⟨#[77, 65, 84, 67, 72]⟩ (-3) true 122 (fun l => matchF (l.headD zV) l.tail) e_find_match (by kernel_rfl) false 1 0 [⟨false, [⟨k, n, s⟩]⟩, ⟨c, l⟩] (by simp) (by rw [flat_match _ _ hv hr]; simp; omega)
    (fun c' S K => by rw [flat_match _ _ hv hr]; exact Vcallee_of (match_p xe_a rfl c' 1 k n s l (by omega)) (by simp only [mapOwnL_cons, mapOwnL_nil, lend_ol]) (by simp only [okvL_cons, okvL_nil, okv_sl, Bool.and_true]) rfl)) (by
      unfold callF
      rw [flat_match _ _ hv hr]
      simp [fitsF, singleF]
      rfl)) rfl (by simp only [okvL_cons, okvL_nil, Bool.and_true]; rfl) rfl
theorem find_iserr (S : VH) (K : VCont) : Vcallee Tryd.prog XE 50 [.string ⟨#[73, 83, 69, 82, 82]⟩] S K = K (fnL 1 117) [] S [] false := Vcallee_of (Vp_closed xe_off 6 (by kernel_rfl)) rfl rfl rfl
theorem find_counta (S : VH) (K : VCont) : Vcallee Tryd.prog XE 50 [.string ⟨#[67, 79, 85, 78, 84, 65]⟩] S K = K (fnL (-1) 94) [] S [] false := Vcallee_of (Vp_closed xe_off 6 (by kernel_rfl)) rfl rfl rfl
theorem find_if (S : VH) (K : VCont) : Vcallee Tryd.prog XE 50 [.string ⟨#[73, 70]⟩] S K = K (fnL 3 120) [] S [] false := Vcallee_of (Vp_closed xe_off 6 (by kernel_rfl)) rfl rfl rfl
theorem singles (l : List VV) : singleF (l.map fun x => (⟨false, [x]⟩ : RW)) = true := by simp [singleF]
/-- A call of a function that takes errors. -/
theorem call_z (name : ByteArray) (n : Int) (g : FuncId) (l : List VV) (hfit : fitsF n (l.map fun x => (⟨false, [x]⟩ : RW)) = true) (hlen : l.length ≤ 10) (h : ∀ x ∈ l, rightF x = true) (r : VV)
    (hfind : ∀ S K, Vcallee Tryd.prog XE 50 [.string name] S K = K (fnL n g) [] S [] false) (hgo : funcOk Tryd.prog g = true)
    (hG : ∀ c S K, Vcallee Tryd.prog XE g [ol c (46, none) 3 (l.map VV.v)] S K = K (.agg ⟨[.int .i64 r.k, .int .i64 r.n, .string r.s]⟩) [] S [] false) :
    Vp Tryd.prog XE 33 [.string name, sl false 1 1 ((l.map fun x => (⟨false, [x]⟩ : RW)).map (RW.v 0))] r.v := by
  have hf := flat_ones l h
  refine Vp_congr (call_p xe_a rfl rfl rfl name n true g (fun _ => r) hfind hgo false 1 0 _ (by simp; omega) (by rw [hf]; omega) (by rw [hf]; exact hG)) ?_
  unfold callF
  rw [hf, hfit]
  simp
/-- A call of a function that takes no errors, with an error among its values. -/
theorem call_e (name : ByteArray) (n : Int) (g : FuncId) (l : List VV) (hfit : fitsF n (l.map fun x => (⟨false, [x]⟩ : RW)) = true) (hlen : l.length ≤ 10) (h : ∀ x ∈ l, rightF x = true) (e : VV) (he : firstF l = (e, true))
    (hfind : ∀ S K, Vcallee Tryd.prog XE 50 [.string name] S K = K (fnV n g) [] S [] false) (hgo : funcOk Tryd.prog g = true) (d : Nat) :
    Vp Tryd.prog XE 33 [.string name, sl false d 1 ((l.map fun x => (⟨false, [x]⟩ : RW)).map (RW.v 0))] e.v := by
  have hf := flat_ones l h
  refine Vp_congr (call_p2 xe_a rfl rfl rfl name n false g (fun _ => e) hfind hgo false d 0 _ (by simp; omega) (by rw [hf]; omega) (fun hh => by rw [hf, he] at hh; cases hh)) ?_
  unfold callF
  rw [hf, hfit, he]
  rfl
def ones : Nat → Int → Int → List VV := fun n code a => (List.range n).map fun (i : Nat) => if (i : Int) = a then eV code else bV true
def errNames : List Value := [.string ⟨#[83, 85, 77]⟩, .string ⟨#[77, 73, 78]⟩, .string ⟨#[67, 79, 85, 78, 84]⟩, .string ⟨#[65, 86, 71]⟩, .string ⟨#[65, 78, 68]⟩, .string ⟨#[67, 79, 78, 67, 65, 84]⟩, .string ⟨#[78, 79, 84]⟩, .string ⟨#[65, 66, 83]⟩, .string ⟨#[76, 69, 78]⟩, .string ⟨#[77, 79, 68]⟩, .string ⟨#[76, 69, 70, 84]⟩, .string ⟨#[70, 73, 78, 68]⟩, .string ⟨#[77, 73, 68]⟩]
theorem er_ok {code : Int} (h1 : 1 ≤ code) (h2 : code ≤ 7) : rightF (eV code) = true := by simp [rightF, eV, h1, h2]
theorem ones_right {code : Int} (h1 : 1 ≤ code) (h2 : code ≤ 7) (n : Nat) (a : Int) : ∀ x ∈ ones n code a, rightF x = true := by
  intro x hx
  obtain ⟨i, _, rfl⟩ := List.mem_map.1 hx
  split
  · exact er_ok h1 h2
  · rfl
theorem ones_first {code : Int} (h1 : 1 ≤ code) (h2 : code ≤ 7) (n : Nat) (a : Int) (ha : 0 ≤ a) (hn : a < n) : firstF (ones n code a) = (eV code, true) := by
  unfold firstF
  rw [if_pos (List.all_eq_true.2 (ones_right h1 h2 n a))]
  have : (ones n code a).find? (fun x => decide (x.k = 4)) = some (eV code) := by
    have hm : eV code ∈ ones n code a := List.mem_map.2 ⟨a.toNat, by simp; omega, by rw [if_pos (by omega)]⟩
    cases hf : (ones n code a).find? (fun x => decide (x.k = 4)) with
    | none =>
      rw [List.find?_eq_none] at hf
      exact absurd (show decide ((eV code).k = 4) = true from rfl) (hf _ hm)
    | some x =>
      have h3 := List.find?_some hf
      have h4 := List.mem_of_find?_eq_some hf
      obtain ⟨i, _, rfl⟩ := List.mem_map.1 h4
      split at h3
      · rename_i hi; rw [if_pos hi]
      · simp [bV] at h3
  rw [this]
/-- The first call of each function. -/
theorem call_first (w : Nat) (n : Nat) (code a : Int) (nm : ByteArray) (h1 : 1 ≤ code) (h2 : code ≤ 7) (ha : 0 ≤ a) (hn : a < n) (hnm : errNames[w]? = some (.string nm)) (hw : [3, 3, 3, 3, 3, 3, 1, 1, 1, 2, 2, 2, 3][w]? = some n) (S : VH) (K : VCont) :
    Vcallee Tryd.prog XE 33 [.string nm, vs 0 1 ((ones n code a).map fun x => vs 0 3 [x.v])] S K = K (.agg ⟨[.int .i64 4, .int .i64 code, .string .empty]⟩) [] S [] false := by
  have e : ((ones n code a).map fun x => vs 0 3 [x.v]) = ((ones n code a).map fun x => (⟨false, [x]⟩ : RW)).map (RW.v 0) := by rw [List.map_map]; rfl
  rw [e]
  have hr := ones_right h1 h2 n a
  have hf := ones_first h1 h2 n a ha hn
  have hs := singles (ones n code a)
  have hlen : ((ones n code a).map fun x => (⟨false, [x]⟩ : RW)).length = n := by simp [ones]
  have hl2 : (ones n code a).length = n := by simp [ones]
  have go : ∀ (k : Int) (g : FuncId), fitsF k ((ones n code a).map fun x => (⟨false, [x]⟩ : RW)) = true → n ≤ 10 → funcOk Tryd.prog g = true → (∀ S K, Vcallee Tryd.prog XE 50 [.string nm] S K = K (fnV k g) [] S [] false) → Vcallee Tryd.prog XE 33 [.string nm, vs 0 1 (((ones n code a).map fun x => (⟨false, [x]⟩ : RW)).map (RW.v 0))] S K = K (.agg ⟨[.int .i64 4, .int .i64 code, .string .empty]⟩) [] S [] false :=
    fun k g h3 h4 h5 h6 => Vcallee_of (call_e nm k g _ h3 (by rw [hl2]; exact h4) hr _ hf h6 h5 0) rfl rfl rfl
  rcases w with _ | _ | _ | _ | _ | _ | _ | _ | _ | _ | _ | _ | _ | w
  · obtain rfl : ⟨#[83, 85, 77]⟩ = nm := by simpa [errNames] using hnm
    obtain rfl : 3 = n := by simpa using hw
    exact go (-1) 85 (by unfold fitsF; rfl) (by decide) (by kernel_rfl) fun S K => Vcallee_of (Vp_closed xe_off 6 (by kernel_rfl)) rfl rfl rfl
  · obtain rfl : ⟨#[77, 73, 78]⟩ = nm := by simpa [errNames] using hnm
    obtain rfl : 3 = n := by simpa using hw
    exact go (-1) 86 (by unfold fitsF; rfl) (by decide) (by kernel_rfl) fun S K => Vcallee_of (Vp_closed xe_off 6 (by kernel_rfl)) rfl rfl rfl
  · obtain rfl : ⟨#[67, 79, 85, 78, 84]⟩ = nm := by simpa [errNames] using hnm
    obtain rfl : 3 = n := by simpa using hw
    exact go (-1) 91 (by unfold fitsF; rfl) (by decide) (by kernel_rfl) fun S K => Vcallee_of (Vp_closed xe_off 6 (by kernel_rfl)) rfl rfl rfl
  · obtain rfl : ⟨#[65, 86, 71]⟩ = nm := by simpa [errNames] using hnm
    obtain rfl : 3 = n := by simpa using hw
    exact go (-1) 95 (by unfold fitsF; rfl) (by decide) (by kernel_rfl) fun S K => Vcallee_of (Vp_closed xe_off 6 (by kernel_rfl)) rfl rfl rfl
  · obtain rfl : ⟨#[65, 78, 68]⟩ = nm := by simpa [errNames] using hnm
    obtain rfl : 3 = n := by simpa using hw
    exact go (-1) 97 (by unfold fitsF; rfl) (by decide) (by kernel_rfl) fun S K => Vcallee_of (Vp_closed xe_off 6 (by kernel_rfl)) rfl rfl rfl
  · obtain rfl : ⟨#[67, 79, 78, 67, 65, 84]⟩ = nm := by simpa [errNames] using hnm
    obtain rfl : 3 = n := by simpa using hw
    exact go (-1) 100 (by unfold fitsF; rfl) (by decide) (by kernel_rfl) fun S K => Vcallee_of (Vp_closed xe_off 6 (by kernel_rfl)) rfl rfl rfl
  · obtain rfl : ⟨#[78, 79, 84]⟩ = nm := by simpa [errNames] using hnm
    obtain rfl : 1 = n := by simpa using hw
    exact go (1) 116 (by unfold fitsF; rw [if_neg (by decide), if_neg (by decide), if_neg (by decide), hs, hlen]; rfl) (by decide) (by kernel_rfl) fun S K => Vcallee_of (Vp_closed xe_off 6 (by kernel_rfl)) rfl rfl rfl
  · obtain rfl : ⟨#[65, 66, 83]⟩ = nm := by simpa [errNames] using hnm
    obtain rfl : 1 = n := by simpa using hw
    exact go (1) 101 (by unfold fitsF; rw [if_neg (by decide), if_neg (by decide), if_neg (by decide), hs, hlen]; rfl) (by decide) (by kernel_rfl) fun S K => Vcallee_of (Vp_closed xe_off 6 (by kernel_rfl)) rfl rfl rfl
  · obtain rfl : ⟨#[76, 69, 78]⟩ = nm := by simpa [errNames] using hnm
    obtain rfl : 1 = n := by simpa using hw
    exact go (1) 104 (by unfold fitsF; rw [if_neg (by decide), if_neg (by decide), if_neg (by decide), hs, hlen]; rfl) (by decide) (by kernel_rfl) fun S K => Vcallee_of (Vp_closed xe_off 6 (by kernel_rfl)) rfl rfl rfl
  · obtain rfl : ⟨#[77, 79, 68]⟩ = nm := by simpa [errNames] using hnm
    obtain rfl : 2 = n := by simpa using hw
    exact go (2) 103 (by unfold fitsF; rw [if_neg (by decide), if_neg (by decide), if_neg (by decide), hs, hlen]; rfl) (by decide) (by kernel_rfl) fun S K => Vcallee_of (Vp_closed xe_off 6 (by kernel_rfl)) rfl rfl rfl
  · obtain rfl : ⟨#[76, 69, 70, 84]⟩ = nm := by simpa [errNames] using hnm
    obtain rfl : 2 = n := by simpa using hw
    exact go (2) 106 (by unfold fitsF; rw [if_neg (by decide), if_neg (by decide), if_neg (by decide), hs, hlen]; rfl) (by decide) (by kernel_rfl) fun S K => Vcallee_of (Vp_closed xe_off 6 (by kernel_rfl)) rfl rfl rfl
  · obtain rfl : ⟨#[70, 73, 78, 68]⟩ = nm := by simpa [errNames] using hnm
    obtain rfl : 2 = n := by simpa using hw
    exact go (2) 115 (by unfold fitsF; rw [if_neg (by decide), if_neg (by decide), if_neg (by decide), hs, hlen]; rfl) (by decide) (by kernel_rfl) fun S K => Vcallee_of (Vp_closed xe_off 6 (by kernel_rfl)) rfl rfl rfl
  · obtain rfl : ⟨#[77, 73, 68]⟩ = nm := by simpa [errNames] using hnm
    obtain rfl : 3 = n := by simpa using hw
    exact go (3) 111 (by unfold fitsF; rw [if_neg (by decide), if_neg (by decide), if_neg (by decide), hs, hlen]; rfl) (by decide) (by kernel_rfl) fun S K => Vcallee_of (Vp_closed xe_off 6 (by kernel_rfl)) rfl rfl rfl
  · simp [errNames] at hnm
end Go.Proofs.YtmdpggecelheoaaDoor.Abs
/- The law FuncsErrors: its text behind the beginning. -/
set_option linter.unusedVariables false
set_option linter.unusedSimpArgs false
set_option maxRecDepth 4000
set_option maxHeartbeats 0
namespace Go.Proofs.YtmdpggecelheoaaDoor.Abs
open Go
attribute [local irreducible] Hold VReg Vf Vc VWP With VStp Vcallee Vp VE
theorem self_vvn (x y : Operand) (k n : Int) (s : ByteArray) : vbin Tryd.prog .neq 48 x y (.agg ⟨[.int .i64 k, .int .i64 n, .string s]⟩) (.agg ⟨[.int .i64 k, .int .i64 n, .string s]⟩) = some (.bool false) := by
  rw [vbin_agg _ _ _ _ _ rfl rfl]
  exact abin_aneq rfl rfl Tryd.eqGuardType48 (aeq_self 20 48 _ (by kernel_rfl))
section
variable {code : Int} (h1 : 1 ≤ code) (h2 : code ≤ 7)
include h1 h2
theorem c_iserr (t : Nat) (S : VH) (K : VCont) : Vcallee Tryd.prog XE 33 [.string ⟨#[73, 83, 69, 82, 82]⟩, vo (t, none) 1 0 [vs 0 3 [.agg ⟨[.int .i64 4, .int .i64 code, .string .empty]⟩]]] S K = K (.agg ⟨[.int .i64 3, .int .i64 1, .string .empty]⟩) [] S [] false :=
  Vcallee_of (call_z _ 1 117 [⟨4, code, .empty⟩] (rfl) (by simp) (by simp [rightF, h1, h2]) (bV true) find_iserr (by kernel_rfl)
    (fun c S K => Vcallee_of (iserr_p rfl rfl c 1 code .empty) (by simp only [mapOwnL_cons, mapOwnL_nil, lend_ol]; rfl) (by simp only [okvL_cons, okvL_nil, okv_sl, Bool.and_true]) rfl)) rfl rfl rfl
theorem c_counta (t : Nat) (S : VH) (K : VCont) : Vcallee Tryd.prog XE 33 [.string ⟨#[67, 79, 85, 78, 84, 65]⟩, vo (t, none) 1 0 [vs 0 3 [.agg ⟨[.int .i64 4, .int .i64 code, .string .empty]⟩]]] S K = K (.agg ⟨[.int .i64 1, .int .i64 1, .string .empty]⟩) [] S [] false :=
  Vcallee_of (call_z _ (-1) 94 [⟨4, code, .empty⟩] (rfl) (by simp) (by simp [rightF, h1, h2]) (iV 1) find_counta (by kernel_rfl)
    (fun c S K => Vcallee_of (counta_1 xe_a rfl c 1 code .empty) (by simp only [mapOwnL_cons, mapOwnL_nil, lend_ol]; rfl) (by simp only [okvL_cons, okvL_nil, okv_sl, Bool.and_true]) rfl)) rfl rfl rfl
theorem c_if1 (t : Nat) (S : VH) (K : VCont) : Vcallee Tryd.prog XE 33 [.string ⟨#[73, 70]⟩, vo (t, none) 1 0 [vs 0 3 [.agg ⟨[.int .i64 3, .int .i64 1, .string .empty]⟩], vs 0 3 [.agg ⟨[.int .i64 1, .int .i64 2, .string .empty]⟩], vs 0 3 [.agg ⟨[.int .i64 4, .int .i64 code, .string .empty]⟩]]] S K = K (.agg ⟨[.int .i64 1, .int .i64 2, .string .empty]⟩) [] S [] false :=
  Vcallee_of (call_z _ 3 120 [⟨3, 1, .empty⟩, ⟨1, 2, .empty⟩, ⟨4, code, .empty⟩] (rfl) (by simp) (by simp [rightF, h1, h2]) ⟨1, 2, .empty⟩ find_if (by kernel_rfl)
    (fun c S K => Vcallee_of (either_t xe_a rfl rfl c 1 ⟨1, 2, .empty⟩ ⟨4, code, .empty⟩) (by simp only [mapOwnL_cons, mapOwnL_nil, lend_ol]; rfl) (by simp only [okvL_cons, okvL_nil, okv_sl, Bool.and_true]) rfl)) rfl rfl rfl
theorem c_if2 (t : Nat) (S : VH) (K : VCont) : Vcallee Tryd.prog XE 33 [.string ⟨#[73, 70]⟩, vo (t, none) 1 0 [vs 0 3 [.agg ⟨[.int .i64 3, .int .i64 1, .string .empty]⟩], vs 0 3 [.agg ⟨[.int .i64 4, .int .i64 code, .string .empty]⟩], vs 0 3 [.agg ⟨[.int .i64 1, .int .i64 2, .string .empty]⟩]]] S K = K (.agg ⟨[.int .i64 4, .int .i64 code, .string .empty]⟩) [] S [] false :=
  Vcallee_of (call_z _ 3 120 [⟨3, 1, .empty⟩, ⟨4, code, .empty⟩, ⟨1, 2, .empty⟩] (rfl) (by simp) (by simp [rightF, h1, h2]) ⟨4, code, .empty⟩ find_if (by kernel_rfl)
    (fun c S K => Vcallee_of (either_t xe_a rfl rfl c 1 ⟨4, code, .empty⟩ ⟨1, 2, .empty⟩) (by simp only [mapOwnL_cons, mapOwnL_nil, lend_ol]; rfl) (by simp only [okvL_cons, okvL_nil, okv_sl, Bool.and_true]) rfl)) rfl rfl rfl
theorem c_choose (t : Nat) (S : VH) (K : VCont) : Vcallee Tryd.prog XE 33 [.string ⟨#[67, 72, 79, 79, 83, 69]⟩, vo (t, none) 1 0 [vs 0 3 [.agg ⟨[.int .i64 1, .int .i64 2, .string .empty]⟩], vs 0 3 [.agg ⟨[.int .i64 4, .int .i64 code, .string .empty]⟩], vs 0 3 [.agg ⟨[.int .i64 3, .int .i64 1, .string .empty]⟩]]] S K = K (.agg ⟨[.int .i64 3, .int .i64 1, .string .empty]⟩) [] S [] false :=
  e_call_choose t 2 [⟨4, code, .empty⟩, ⟨3, 1, .empty⟩] (by simp) (by simp) (by simp [rightF, h1, h2]) S K
theorem c_match (t : Nat) (S : VH) (K : VCont) : Vcallee Tryd.prog XE 33 [.string ⟨#[77, 65, 84, 67, 72]⟩, vo (t, none) 1 0 [vs 0 3 [.agg ⟨[.int .i64 1, .int .i64 2, .string .empty]⟩], vs 0 3 [.agg ⟨[.int .i64 4, .int .i64 code, .string .empty]⟩, .agg ⟨[.int .i64 1, .int .i64 2, .string .empty]⟩]]] S K = K (.agg ⟨[.int .i64 1, .int .i64 2, .string .empty]⟩) [] S [] false := by
  have h := e_call_match t 1 2 .empty false [⟨4, code, .empty⟩, ⟨1, 2, .empty⟩] (by simp) rfl (by simp [rightF, h1, h2]) S K
  have e : matchF ⟨1, 2, .empty⟩ [⟨4, code, .empty⟩, ⟨1, 2, .empty⟩] = ⟨1, 2, .empty⟩ := by
    unfold matchF
    rw [if_neg (by decide), matchGo, if_neg (by simp), matchGo, if_pos ⟨by decide, cmpF_self _⟩]
    rfl
  rw [e] at h
  exact h
theorem post7 {w n : Nat} {a : Int} {nm : ByteArray} (ha : 0 ≤ a) (hn : a < n) (hnm : errNames[w]? = some (.string nm)) (hw : [3, 3, 3, 3, 3, 3, 1, 1, 1, 2, 2, 2, 3][w]? = some n) (c : Code) (hb : Tryd.f7.body = some c) (E : Env)
    (e0 : eget E 0 = .int .i64 w) (e8 : eget E 8 = vs 0 1 errNames) (e10 : eget E 10 = .pointer (some { block := 0, off := 0 })) (e11 : eget E 11 = vs 0 1 ((ones n code a).map fun x => vs 0 3 [x.v])) :
    Vc Tryd.prog XE (dropSeq 9 c) E ⟨[], [.cells true 48 [.int .i64 4, .int .i64 code, .string .empty]], []⟩ fun x e' S' => x = .ret ∧ eget e' 6 = .bool true := by
  obtain rfl := Option.some.inj (hb.symm.trans (show Tryd.f7.body = some _ from rfl))
  clear hb
  simp only [dropSeq_succ, dropSeq_zero]
  refine VWP_Vc _ _ _ _ ?_
  have cf := fun S K => call_first w n code a nm h1 h2 ha hn hnm hw S K
  have w0 : (0 : Int) ≤ w := by omega
  have c1 := c_iserr h1 h2
  have c2 := c_counta h1 h2
  have c3 := c_if1 h1 h2
  have c4 := c_if2 h1 h2
  have c5 := c_choose h1 h2
  have c6 := c_match h1 h2
  simp -dsimp only [↓VWP_seq, ↓VWP_open]
  refine Vc_open [[], [], [], [], [], [], [0], []] true (by kernel_rfl) (by kernel_rfl) (by kernel_rfl) ?_
  simp -dsimp only [↓Hold_5, ↓VWP_seq, ↓VWP_region, ↓VWP_cond, ↓VWP_skip, ↓VWP_open, ↓VReg_one, ↓VReg_non, ↓VReg_nil, ↓VS_move, ↓VS_assign, ↓VS_build, ↓VS_load, ↓VS_binOp, ↓VS_indexAddr, ↓VS_buildSlice, ↓VS_store, ↓Hold_1, ↓Hold_3, With_some, emap_nil, emap_cons, ↓eget_eset, ↓ae_tmp, ↓ae_int, asBool_bool, light, Option.map_some, Option.bind_some, ↓reduceIte, Nat.reduceEqDiff, reduceCtorEq, Bool.false_eq_true, decide_true, decide_false, Bool.not_true, Bool.not_false, List.getElem?_cons_zero, Nat.zero_add, Nat.reduceAdd, Nat.reduceMul, Nat.reduceLT, Nat.reduceLeDiff, true_and, and_self, List.map_cons, List.map_nil, List.all_cons, List.all_nil, tup_int, cel_int, tup_str, tup_agg, cel_agg, Bool.and_true, List.drop_zero, List.toList_toArray, List.size_toArray, List.length_cons, List.length_nil, mapOwn_vo, mapOwn_agg, mapOwn_int, mapOwn_string, thawAll_own, toksL_nil, toksL_cons, toks_int, toks_string, toks_agg, toks_vo, okv_agg, okv_vs, okv_int, okv_string, List.flatMap_nil, List.flatMap_cons, List.all_nil, List.all_cons, List.append_nil, List.nil_append, List.cons_append, List.map_nil, List.map_cons, Bool.and_true, Bool.and_self, Bool.not_true, Bool.not_false, Bool.or_false, beq_self_eq_true, vnext_mk, vpush_mk, vget_nil, vput_nil, cellsIn_mk, vturn_nil, vthaw_one, boxesOf_nil, boxesOf_none, List.getD_cons_zero, List.getD_cons_succ, List.set_cons_zero, List.set_cons_succ, List.length_cons, List.length_nil, List.drop_zero, List.take_succ_cons, List.take_zero, vload_at, cellV_string, partsOk_nil, partsOk_cons, vfill_nil, vfill_cons, ↓vlay_free, cellsOk_free, cellF, tup_vo, cel_vo, List.replicate_succ, List.replicate_zero, beq_self_eq_true, Int.toNat_natCast, decide_true, decide_false, beq_self_eq_true, afill, setAll, ↓VE_nil, ↓VE_one0, ↓VE_one1, ↓shade_one, shade_load, shade_move, shade_indexAddr, shade_call, Option.getD_some, ↓vobl_load, dep_box, dep_at, isGone_agg, depStep_box, vspan, List.range_succ, List.range_zero, Bool.or_true, Nat.min_def, Nat.max_def, List.reverse_cons, List.reverse_nil, vld48, vgt9, vst48, ↓val48, bd48, pl48_0, pl48_1, vbd42, vbd46, vix44, ↓vfk33, e0, e8, e10, e11, w0, hnm, ↓cf, ↓self_vvn]
  refine Vc_open2 [[], [], [0], [], [], [], [], [], [], [], [], [3, 4, 5, 6], [], [2, 4, 5, 6], [], [2, 3, 5, 6], [], [], [], [2, 3, 4, 5, 6, 8, 9, 10, 11], [], [], [], [8, 9, 10, 11], [], [7, 9, 10, 11], [], [7, 8, 10, 11], [], [], [], [7, 8, 9, 10, 11, 13, 14, 15, 16], [], [], [], [13, 14, 15, 16], [], [12, 14, 15, 16], [], [12, 13, 15, 16], [], [], [], [12, 13, 14, 15, 16, 18, 19, 20], [], [], [], [18, 19, 20], [], [17, 19, 20], [17, 19, 20], [], [], [], [17, 18, 19, 20], [], [], []] true (by kernel_rfl) (by kernel_rfl) (by kernel_rfl) (by kernel_rfl) ?_
  simp -dsimp only [↓Hold_5, ↓VWP_ret, ↓VS_guard, ↓VS_move, ↓VS_assign, ↓VS_pick, ↓VS_build, ↓VS_load, ↓VS_binOp, ↓VS_buildSlice, ↓Hold_1, ↓Hold_3, With_some, emap_nil, emap_cons, ↓eget_map, ↓eget_eset, ↓ae_tmp, ↓ae_int, ↓ae_bool, ↓ae_string, lop_pick, asGuard_bool, ayielded_eq, ↓dstAt_zero, ↓dstAt_succ, light, Option.map_some, Option.bind_some, ↓reduceIte, Nat.reduceEqDiff, reduceCtorEq, Bool.false_eq_true, decide_true, decide_false, Bool.not_true, Bool.not_false, List.getElem?_cons_zero, List.getElem?_cons_succ, Nat.zero_add, Nat.reduceAdd, Nat.reduceMul, Nat.reduceLT, Nat.reduceLeDiff, and_true, true_and, and_self, List.map_cons, List.map_nil, List.all_cons, List.all_nil, tup_int, cel_int, tup_agg, cel_agg, Bool.and_true, List.drop_zero, List.toList_toArray, List.size_toArray, List.length_cons, List.length_nil, mapOwn_vo, mapOwn_agg, mapOwn_bool, mapOwn_int, mapOwn_string, mapOwn_pointer, thaw_own, thawAll_own, toksL_nil, toksL_cons, toks_int, toks_string, toks_agg, toks_vo, okv_agg, okv_vs, okv_int, okv_string, List.flatMap_nil, List.flatMap_cons, List.all_nil, List.all_cons, List.append_nil, List.nil_append, List.cons_append, List.map_nil, List.map_cons, Bool.and_true, Bool.and_self, Bool.not_true, Bool.not_false, Bool.or_false, List.mem_cons, List.not_mem_nil, or_false, Prod.mk.injEq, beq_self_eq_true, vget_nil, cellsIn_mk, vturn_nil, vthaw_one, boxesOf_nil, boxesOf_none, List.getD_cons_zero, List.getD_cons_succ, List.set_cons_zero, List.set_cons_succ, List.length_cons, List.length_nil, List.drop_zero, List.take_succ_cons, List.take_zero, partsOk_nil, partsOk_cons, vfill_nil, vfill_cons, tup_vo, cel_vo, List.replicate_succ, List.replicate_zero, beq_self_eq_true, decide_true, decide_false, beq_self_eq_true, afill, setAll, ↓VE_nil, ↓VE_one0, ↓VE_one1, ↓shade_one, ↓VE_one1g, shade_guard, shade_load, shade_move, shade_binOp, shade_pick, shade_call, ↓vobl_load, dep_box, isGone_agg, depStep_box, vspan, List.range_succ, List.range_zero, Bool.or_true, Bool.or_self, Nat.min_def, Nat.max_def, List.reverse_cons, List.reverse_nil, vld48, bd48, pl48_0, pl48_1, vbd42, vbd46, ↓vfk33, e10, ↓c1, ↓c2, ↓c3, ↓c4, ↓c5, ↓c6, ↓self_vv]
end
end Go.Proofs.YtmdpggecelheoaaDoor.Abs
