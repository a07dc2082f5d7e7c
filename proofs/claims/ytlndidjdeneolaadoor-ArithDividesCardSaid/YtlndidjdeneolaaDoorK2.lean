/- Reckoning: times, numbers, signs, errors first. -/
import Derived.Test.YtlndidjdeneolaaDoorK1
set_option linter.unusedVariables false
set_option linter.unusedSimpArgs false
set_option maxRecDepth 4000
set_option maxHeartbeats 0
namespace Go.Proofs.YtlndidjdeneolaaDoor.Abs
open Go
attribute [local irreducible] Hold DR DF Df Dc WP With
theorem lit_eq {P : Program} {t : TypeId} {x y : Operand} {s : ByteArray} (l : List UInt8) : abin P .eql t x y (.string s) (.string ⟨l.toArray⟩) = some (.bool (decide (sb s = l))) := by
  rw [abin_seql, ByteArray.toList_eq, ByteArray.toList_eq]
  show some (Value.bool (sb s == l)) = _
  congr 2
  rw [Bool.eq_iff_iff]
  simp
theorem seq_1 {P : Program} {t : TypeId} {x y : Operand} {s : ByteArray} : abin P .eql t x y (.string s) (.string ⟨#[43]⟩) = some (.bool (opn s == 1)) := by
  refine (lit_eq [43]).trans ?_
  congr 2
  unfold opn
  repeat' split
  all_goals simp_all
theorem seq_2 {P : Program} {t : TypeId} {x y : Operand} {s : ByteArray} : abin P .eql t x y (.string s) (.string ⟨#[45]⟩) = some (.bool (opn s == 2)) := by
  refine (lit_eq [45]).trans ?_
  congr 2
  unfold opn
  repeat' split
  all_goals simp_all
theorem seq_3 {P : Program} {t : TypeId} {x y : Operand} {s : ByteArray} : abin P .eql t x y (.string s) (.string ⟨#[42]⟩) = some (.bool (opn s == 3)) := by
  refine (lit_eq [42]).trans ?_
  congr 2
  unfold opn
  repeat' split
  all_goals simp_all
theorem seq_4 {P : Program} {t : TypeId} {x y : Operand} {s : ByteArray} : abin P .eql t x y (.string s) (.string ⟨#[47]⟩) = some (.bool (opn s == 4)) := by
  refine (lit_eq [47]).trans ?_
  congr 2
  unfold opn
  repeat' split
  all_goals simp_all
theorem seq_5 {P : Program} {t : TypeId} {x y : Operand} {s : ByteArray} : abin P .eql t x y (.string s) (.string ⟨#[38]⟩) = some (.bool (opn s == 5)) := by
  refine (lit_eq [38]).trans ?_
  congr 2
  unfold opn
  repeat' split
  all_goals simp_all
theorem seq_6 {P : Program} {t : TypeId} {x y : Operand} {s : ByteArray} : abin P .eql t x y (.string s) (.string ⟨#[61]⟩) = some (.bool (opn s == 6)) := by
  refine (lit_eq [61]).trans ?_
  congr 2
  unfold opn
  repeat' split
  all_goals simp_all
theorem seq_7 {P : Program} {t : TypeId} {x y : Operand} {s : ByteArray} : abin P .eql t x y (.string s) (.string ⟨#[60, 62]⟩) = some (.bool (opn s == 7)) := by
  refine (lit_eq [60, 62]).trans ?_
  congr 2
  unfold opn
  repeat' split
  all_goals simp_all
theorem seq_8 {P : Program} {t : TypeId} {x y : Operand} {s : ByteArray} : abin P .eql t x y (.string s) (.string ⟨#[60]⟩) = some (.bool (opn s == 8)) := by
  refine (lit_eq [60]).trans ?_
  congr 2
  unfold opn
  repeat' split
  all_goals simp_all
theorem seq_9 {P : Program} {t : TypeId} {x y : Operand} {s : ByteArray} : abin P .eql t x y (.string s) (.string ⟨#[62]⟩) = some (.bool (opn s == 9)) := by
  refine (lit_eq [62]).trans ?_
  congr 2
  unfold opn
  repeat' split
  all_goals simp_all
theorem seq_10 {P : Program} {t : TypeId} {x y : Operand} {s : ByteArray} : abin P .eql t x y (.string s) (.string ⟨#[60, 61]⟩) = some (.bool (opn s == 10)) := by
  refine (lit_eq [60, 61]).trans ?_
  congr 2
  unfold opn
  repeat' split
  all_goals simp_all
theorem seq_11 {P : Program} {t : TypeId} {x y : Operand} {s : ByteArray} : abin P .eql t x y (.string s) (.string ⟨#[62, 61]⟩) = some (.bool (opn s == 11)) := by
  refine (lit_eq [62, 61]).trans ?_
  congr 2
  unfold opn
  repeat' split
  all_goals simp_all
theorem times_spec {X : Outer} (hX : X 44 = none) {H : Hp} {x y : Int} (hx : inR x = true) (hy : inR y = true) : Df Tryd.prog X 44 [.int .i64 x, .int .i64 y] H fun r H' => H' = H ∧ ∃ z, r = .tuple #[.int .i64 z, .bool (inR (x * y))] ∧ (inR (x * y) = true → z = x * y) := by
  refine Df_text hX Tryd.func44 rfl (by kernel_rfl) (by show 2 ≤ _; decide) ?_
  by_cases hx0 : x = 0
  · subst hx0
    simp -dsimp only [↓WP_seq, ↓WP_region, ↓WP_cond, ↓WP_ret, ↓WP_skip, ↓WP_block, ↓WP_exit, ↓WP_loop, ↓WP_open, ↓DR_one, ↓DR_non, ↓DR_nil, ↓DF_one0, ↓DF_one1, ↓DF_non0, ↓DF_non1, ↓DF_nil, ↓Step_guard, ↓Step_move, ↓Step_assign, ↓Step_pick, ↓Step_build, ↓Step_load, ↓Step_nilCheck, ↓Step_binOp, ↓Step_unOp, ↓Step_makeFunc, ↓Step_slice, ↓Step_fieldAddr, ↓Step_field, ↓Step_indexAddr, ↓Step_index, ↓Step_extract, ↓Step_len, ↓Step_box, ↓Step_buildSlice, ↓Step_store, ↓Step_append, ↓Step_call, ↓With_mapH, ↓With_bindH, ↓With_guard, ↓Hold_1, ↓Hold_2, ↓Hold_3, With_some, With_none, ↓eget_eset, ↓ae_tmp, ↓ae_int, ↓ae_bool, ↓ae_string, ↓ae_func, ↓ae_slice0, ↓ae_ptr0, eget_zero, eget_succ, eget_nil, lop_pick, lop_nil, lop_extract, lop_len, lop_not, asBool_bool, asGuard_bool, asGuard_nr, bb_ff, bb_ft, bb_tf, bb_tt, ayielded_eq, ↓dstAt_zero, ↓dstAt_succ, light, ↓finish_ret, ↓finish_normal, ↓ares_nil, ↓ares_tmp, ↓ares_cell, ret1, Option.map_some, Option.bind_some, Option.map_none, Option.bind_none, ↓reduceIte, Nat.reduceEqDiff, reduceCtorEq, Bool.false_eq_true, Nat.reduceBEq, decide_true, decide_false, Bool.not_true, Bool.not_false, List.getElem?_toArray, List.getElem?_cons_zero, List.getElem?_cons_succ, Nat.zero_add, Nat.add_zero, Nat.reduceAdd, Nat.reduceMul, Nat.reduceSub, Nat.reduceLT, Nat.reduceLeDiff, and_true, true_and, and_self, List.map_cons, List.map_nil, List.all_cons, List.all_nil, tup_int, cel_int, tup_bool, cel_bool, tup_str, cel_str, tup_slice, cel_slice, tup_ptr, cel_ptr, tup_nilf, cel_nilf, tup_nili, cel_nili, tup_map, cel_map, tup_ifc, cel_ifc, tup_func, cel_func, tup_agg, cel_agg, Bool.and_true, List.drop_zero, List.toList_toArray, List.size_toArray, List.length_cons, List.length_nil, fill_one, setAll_one, abin_eql, abin_neq, abin_lss, abin_leq, abin_gtr, abin_geq, abin_add, abin_sub, abin_mul, Int.cast_ofNat_Int, beq_self_eq_true, Int.reduceLT, Int.reduceLE, Int.reduceToNat, Int.toNat_natCast, Int.reduceBEq, Int.reduceBNe, Int.reduceSub, Int.reduceAdd, gt_iff_lt, ge_iff_le, Int.lt_irrefl, decide_true, decide_false, Bool.not_eq_true, beq_self_eq_true, bb_ff, bb_ft, bb_tf, bb_tt, bne_self_eq_false, Tryd.results44]
    refine ⟨0, ?_, fun _ => by omega⟩
    rw [show inR ((0 : Int) * y) = true by simp [inR]]
  by_cases hy0 : y = 0
  · subst hy0
    have q1 : (x == 0) = false := by simpa using hx0
    simp -dsimp only [↓WP_seq, ↓WP_region, ↓WP_cond, ↓WP_ret, ↓WP_skip, ↓WP_block, ↓WP_exit, ↓WP_loop, ↓WP_open, ↓DR_one, ↓DR_non, ↓DR_nil, ↓DF_one0, ↓DF_one1, ↓DF_non0, ↓DF_non1, ↓DF_nil, ↓Step_guard, ↓Step_move, ↓Step_assign, ↓Step_pick, ↓Step_build, ↓Step_load, ↓Step_nilCheck, ↓Step_binOp, ↓Step_unOp, ↓Step_makeFunc, ↓Step_slice, ↓Step_fieldAddr, ↓Step_field, ↓Step_indexAddr, ↓Step_index, ↓Step_extract, ↓Step_len, ↓Step_box, ↓Step_buildSlice, ↓Step_store, ↓Step_append, ↓Step_call, ↓With_mapH, ↓With_bindH, ↓With_guard, ↓Hold_1, ↓Hold_2, ↓Hold_3, With_some, With_none, ↓eget_eset, ↓ae_tmp, ↓ae_int, ↓ae_bool, ↓ae_string, ↓ae_func, ↓ae_slice0, ↓ae_ptr0, eget_zero, eget_succ, eget_nil, lop_pick, lop_nil, lop_extract, lop_len, lop_not, asBool_bool, asGuard_bool, asGuard_nr, bb_ff, bb_ft, bb_tf, bb_tt, ayielded_eq, ↓dstAt_zero, ↓dstAt_succ, light, ↓finish_ret, ↓finish_normal, ↓ares_nil, ↓ares_tmp, ↓ares_cell, ret1, Option.map_some, Option.bind_some, Option.map_none, Option.bind_none, ↓reduceIte, Nat.reduceEqDiff, reduceCtorEq, Bool.false_eq_true, Nat.reduceBEq, decide_true, decide_false, Bool.not_true, Bool.not_false, List.getElem?_toArray, List.getElem?_cons_zero, List.getElem?_cons_succ, Nat.zero_add, Nat.add_zero, Nat.reduceAdd, Nat.reduceMul, Nat.reduceSub, Nat.reduceLT, Nat.reduceLeDiff, and_true, true_and, and_self, List.map_cons, List.map_nil, List.all_cons, List.all_nil, tup_int, cel_int, tup_bool, cel_bool, tup_str, cel_str, tup_slice, cel_slice, tup_ptr, cel_ptr, tup_nilf, cel_nilf, tup_nili, cel_nili, tup_map, cel_map, tup_ifc, cel_ifc, tup_func, cel_func, tup_agg, cel_agg, Bool.and_true, List.drop_zero, List.toList_toArray, List.size_toArray, List.length_cons, List.length_nil, fill_one, setAll_one, abin_eql, abin_neq, abin_lss, abin_leq, abin_gtr, abin_geq, abin_add, abin_sub, abin_mul, Int.cast_ofNat_Int, beq_self_eq_true, Int.reduceLT, Int.reduceLE, Int.reduceToNat, Int.toNat_natCast, Int.reduceBEq, Int.reduceBNe, Int.reduceSub, Int.reduceAdd, gt_iff_lt, ge_iff_le, Int.lt_irrefl, decide_true, decide_false, Bool.not_eq_true, beq_self_eq_true, bb_ff, bb_ft, bb_tf, bb_tt, bne_self_eq_false, Tryd.results44, q1]
    refine ⟨0, ?_, fun _ => by omega⟩
    rw [show inR (x * (0 : Int)) = true by simp [inR]]
  have q1 : (x == 0) = false := by simpa using hx0
  have q2 : (y == 0) = false := by simpa using hy0
  simp -dsimp only [↓WP_seq, ↓WP_region, ↓WP_cond, ↓WP_ret, ↓WP_skip, ↓WP_block, ↓WP_exit, ↓WP_loop, ↓WP_open, ↓DR_one, ↓DR_non, ↓DR_nil, ↓DF_one0, ↓DF_one1, ↓DF_non0, ↓DF_non1, ↓DF_nil, ↓Step_guard, ↓Step_move, ↓Step_assign, ↓Step_pick, ↓Step_build, ↓Step_load, ↓Step_nilCheck, ↓Step_binOp, ↓Step_unOp, ↓Step_makeFunc, ↓Step_slice, ↓Step_fieldAddr, ↓Step_field, ↓Step_indexAddr, ↓Step_index, ↓Step_extract, ↓Step_len, ↓Step_box, ↓Step_buildSlice, ↓Step_store, ↓Step_append, ↓Step_call, ↓With_mapH, ↓With_bindH, ↓With_guard, ↓Hold_1, ↓Hold_2, ↓Hold_3, With_some, With_none, ↓eget_eset, ↓ae_tmp, ↓ae_int, ↓ae_bool, ↓ae_string, ↓ae_func, ↓ae_slice0, ↓ae_ptr0, eget_zero, eget_succ, eget_nil, lop_pick, lop_nil, lop_extract, lop_len, lop_not, asBool_bool, asGuard_bool, asGuard_nr, bb_ff, bb_ft, bb_tf, bb_tt, ayielded_eq, ↓dstAt_zero, ↓dstAt_succ, light, ↓finish_ret, ↓finish_normal, ↓ares_nil, ↓ares_tmp, ↓ares_cell, ret1, Option.map_some, Option.bind_some, Option.map_none, Option.bind_none, ↓reduceIte, Nat.reduceEqDiff, reduceCtorEq, Bool.false_eq_true, Nat.reduceBEq, decide_true, decide_false, Bool.not_true, Bool.not_false, List.getElem?_toArray, List.getElem?_cons_zero, List.getElem?_cons_succ, Nat.zero_add, Nat.add_zero, Nat.reduceAdd, Nat.reduceMul, Nat.reduceSub, Nat.reduceLT, Nat.reduceLeDiff, and_true, true_and, and_self, List.map_cons, List.map_nil, List.all_cons, List.all_nil, tup_int, cel_int, tup_bool, cel_bool, tup_str, cel_str, tup_slice, cel_slice, tup_ptr, cel_ptr, tup_nilf, cel_nilf, tup_nili, cel_nili, tup_map, cel_map, tup_ifc, cel_ifc, tup_func, cel_func, tup_agg, cel_agg, Bool.and_true, List.drop_zero, List.toList_toArray, List.size_toArray, List.length_cons, List.length_nil, fill_one, setAll_one, abin_eql, abin_neq, abin_lss, abin_leq, abin_gtr, abin_geq, abin_add, abin_sub, abin_mul, Int.cast_ofNat_Int, beq_self_eq_true, Int.reduceLT, Int.reduceLE, Int.reduceToNat, Int.toNat_natCast, Int.reduceBEq, Int.reduceBNe, Int.reduceSub, Int.reduceAdd, gt_iff_lt, ge_iff_le, Int.lt_irrefl, decide_true, decide_false, Bool.not_eq_true, beq_self_eq_true, bb_ff, bb_ft, bb_tf, bb_tt, bne_self_eq_false, Tryd.results44, q1, q2]
  refine Dc_any [[], [], [], [], [], [], [], [], [], [], [], [], [], [], [], [], [], [], [], [], [], [], [], [], [], []] (by kernel_rfl) (by kernel_rfl) ?_
  have hq : ∀ a b, abin Tryd.prog .quo 3 a b (.int .i64 (IntKind.i64.wrap (x * y))) (.int .i64 y) = some (.int .i64 (IntKind.i64.wrap ((IntKind.i64.wrap (x * y)).tdiv y))) := fun a b => abin_quo hy0
  have hok : ¬ (y = -1 ∧ x = -9223372036854775808) → (IntKind.i64.wrap ((IntKind.i64.wrap (x * y)).tdiv y) == x) = inR (x * y) := fun h => by
    rw [Bool.eq_iff_iff, beq_iff_eq]
    exact times_ok hx hy hy0 h
  have hw : inR (x * y) = true → IntKind.i64.wrap (x * y) = x * y := wrapR
  generalize IntKind.i64.wrap (x * y) = z at hq hok hw
  by_cases e1 : x = -1 ∧ y = -9223372036854775808
  · have hn : inR (x * y) = false := times_min (.inr e1)
    have p1 : (x == -1) = true := by rw [beq_iff_eq]; exact e1.1
    have p2 : (y == -9223372036854775808) = true := by rw [beq_iff_eq]; exact e1.2
    have p3 : (y == -1) = false := by rw [beq_eq_false_iff_ne, e1.2]; decide
    have p4 : (x == -9223372036854775808) = false := by rw [beq_eq_false_iff_ne, e1.1]; decide
    rw [hn]
    simp -dsimp only [↓WP_seq, ↓WP_region, ↓WP_cond, ↓WP_ret, ↓WP_skip, ↓WP_block, ↓WP_exit, ↓WP_loop, ↓WP_open, ↓DR_one, ↓DR_non, ↓DR_nil, ↓DF_one0, ↓DF_one1, ↓DF_non0, ↓DF_non1, ↓DF_nil, ↓Step_guard, ↓Step_move, ↓Step_assign, ↓Step_pick, ↓Step_build, ↓Step_load, ↓Step_nilCheck, ↓Step_binOp, ↓Step_unOp, ↓Step_makeFunc, ↓Step_slice, ↓Step_fieldAddr, ↓Step_field, ↓Step_indexAddr, ↓Step_index, ↓Step_extract, ↓Step_len, ↓Step_box, ↓Step_buildSlice, ↓Step_store, ↓Step_append, ↓Step_call, ↓With_mapH, ↓With_bindH, ↓With_guard, ↓Hold_1, ↓Hold_2, ↓Hold_3, With_some, With_none, ↓eget_eset, ↓ae_tmp, ↓ae_int, ↓ae_bool, ↓ae_string, ↓ae_func, ↓ae_slice0, ↓ae_ptr0, eget_zero, eget_succ, eget_nil, lop_pick, lop_nil, lop_extract, lop_len, lop_not, asBool_bool, asGuard_bool, asGuard_nr, bb_ff, bb_ft, bb_tf, bb_tt, ayielded_eq, ↓dstAt_zero, ↓dstAt_succ, light, ↓finish_ret, ↓finish_normal, ↓ares_nil, ↓ares_tmp, ↓ares_cell, ret1, Option.map_some, Option.bind_some, Option.map_none, Option.bind_none, ↓reduceIte, Nat.reduceEqDiff, reduceCtorEq, Bool.false_eq_true, Nat.reduceBEq, decide_true, decide_false, Bool.not_true, Bool.not_false, List.getElem?_toArray, List.getElem?_cons_zero, List.getElem?_cons_succ, Nat.zero_add, Nat.add_zero, Nat.reduceAdd, Nat.reduceMul, Nat.reduceSub, Nat.reduceLT, Nat.reduceLeDiff, and_true, true_and, and_self, List.map_cons, List.map_nil, List.all_cons, List.all_nil, tup_int, cel_int, tup_bool, cel_bool, tup_str, cel_str, tup_slice, cel_slice, tup_ptr, cel_ptr, tup_nilf, cel_nilf, tup_nili, cel_nili, tup_map, cel_map, tup_ifc, cel_ifc, tup_func, cel_func, tup_agg, cel_agg, Bool.and_true, List.drop_zero, List.toList_toArray, List.size_toArray, List.length_cons, List.length_nil, fill_one, setAll_one, abin_eql, abin_neq, abin_lss, abin_leq, abin_gtr, abin_geq, abin_add, abin_sub, abin_mul, Int.cast_ofNat_Int, beq_self_eq_true, Int.reduceLT, Int.reduceLE, Int.reduceToNat, Int.toNat_natCast, Int.reduceBEq, Int.reduceBNe, Int.reduceSub, Int.reduceAdd, gt_iff_lt, ge_iff_le, Int.lt_irrefl, decide_true, decide_false, Bool.not_eq_true, beq_self_eq_true, bb_ff, bb_ft, bb_tf, bb_tt, bne_self_eq_false, met_nil, met_cons, metK_nil, metK_cons, List.reverse_cons, List.reverse_nil, List.nil_append, List.cons_append, lval_free, lop_load, lop_convert, List.cons_ne_nil, lval_guard, Tryd.results44, p1, p2, p3, p4, hq]
    exact ⟨_, rfl, fun h => by cases h⟩
  by_cases e2 : y = -1 ∧ x = -9223372036854775808
  · have hn : inR (x * y) = false := times_min (.inl e2)
    have p1 : (x == -1) = false := by rw [beq_eq_false_iff_ne, e2.2]; decide
    have p3 : (y == -1) = true := by rw [beq_iff_eq]; exact e2.1
    have p4 : (x == -9223372036854775808) = true := by rw [beq_iff_eq]; exact e2.2
    rw [hn]
    simp -dsimp only [↓WP_seq, ↓WP_region, ↓WP_cond, ↓WP_ret, ↓WP_skip, ↓WP_block, ↓WP_exit, ↓WP_loop, ↓WP_open, ↓DR_one, ↓DR_non, ↓DR_nil, ↓DF_one0, ↓DF_one1, ↓DF_non0, ↓DF_non1, ↓DF_nil, ↓Step_guard, ↓Step_move, ↓Step_assign, ↓Step_pick, ↓Step_build, ↓Step_load, ↓Step_nilCheck, ↓Step_binOp, ↓Step_unOp, ↓Step_makeFunc, ↓Step_slice, ↓Step_fieldAddr, ↓Step_field, ↓Step_indexAddr, ↓Step_index, ↓Step_extract, ↓Step_len, ↓Step_box, ↓Step_buildSlice, ↓Step_store, ↓Step_append, ↓Step_call, ↓With_mapH, ↓With_bindH, ↓With_guard, ↓Hold_1, ↓Hold_2, ↓Hold_3, With_some, With_none, ↓eget_eset, ↓ae_tmp, ↓ae_int, ↓ae_bool, ↓ae_string, ↓ae_func, ↓ae_slice0, ↓ae_ptr0, eget_zero, eget_succ, eget_nil, lop_pick, lop_nil, lop_extract, lop_len, lop_not, asBool_bool, asGuard_bool, asGuard_nr, bb_ff, bb_ft, bb_tf, bb_tt, ayielded_eq, ↓dstAt_zero, ↓dstAt_succ, light, ↓finish_ret, ↓finish_normal, ↓ares_nil, ↓ares_tmp, ↓ares_cell, ret1, Option.map_some, Option.bind_some, Option.map_none, Option.bind_none, ↓reduceIte, Nat.reduceEqDiff, reduceCtorEq, Bool.false_eq_true, Nat.reduceBEq, decide_true, decide_false, Bool.not_true, Bool.not_false, List.getElem?_toArray, List.getElem?_cons_zero, List.getElem?_cons_succ, Nat.zero_add, Nat.add_zero, Nat.reduceAdd, Nat.reduceMul, Nat.reduceSub, Nat.reduceLT, Nat.reduceLeDiff, and_true, true_and, and_self, List.map_cons, List.map_nil, List.all_cons, List.all_nil, tup_int, cel_int, tup_bool, cel_bool, tup_str, cel_str, tup_slice, cel_slice, tup_ptr, cel_ptr, tup_nilf, cel_nilf, tup_nili, cel_nili, tup_map, cel_map, tup_ifc, cel_ifc, tup_func, cel_func, tup_agg, cel_agg, Bool.and_true, List.drop_zero, List.toList_toArray, List.size_toArray, List.length_cons, List.length_nil, fill_one, setAll_one, abin_eql, abin_neq, abin_lss, abin_leq, abin_gtr, abin_geq, abin_add, abin_sub, abin_mul, Int.cast_ofNat_Int, beq_self_eq_true, Int.reduceLT, Int.reduceLE, Int.reduceToNat, Int.toNat_natCast, Int.reduceBEq, Int.reduceBNe, Int.reduceSub, Int.reduceAdd, gt_iff_lt, ge_iff_le, Int.lt_irrefl, decide_true, decide_false, Bool.not_eq_true, beq_self_eq_true, bb_ff, bb_ft, bb_tf, bb_tt, bne_self_eq_false, met_nil, met_cons, metK_nil, metK_cons, List.reverse_cons, List.reverse_nil, List.nil_append, List.cons_append, lval_free, lop_load, lop_convert, List.cons_ne_nil, lval_guard, Tryd.results44, p1, p3, p4, hq]
    exact ⟨_, rfl, fun h => by cases h⟩
  have h5 := hok e2
  cases p1 : (x == -1) with
  | true =>
    have p2 : (y == -9223372036854775808) = false := by
      rw [beq_eq_false_iff_ne]
      rw [beq_iff_eq] at p1
      exact fun h => e1 ⟨p1, h⟩
    cases p3 : (y == -1) with
    | true =>
      have p4 : (x == -9223372036854775808) = false := by
        rw [beq_eq_false_iff_ne]
        rw [beq_iff_eq] at p3
        exact fun h => e2 ⟨p3, h⟩
      simp -dsimp only [↓WP_seq, ↓WP_region, ↓WP_cond, ↓WP_ret, ↓WP_skip, ↓WP_block, ↓WP_exit, ↓WP_loop, ↓WP_open, ↓DR_one, ↓DR_non, ↓DR_nil, ↓DF_one0, ↓DF_one1, ↓DF_non0, ↓DF_non1, ↓DF_nil, ↓Step_guard, ↓Step_move, ↓Step_assign, ↓Step_pick, ↓Step_build, ↓Step_load, ↓Step_nilCheck, ↓Step_binOp, ↓Step_unOp, ↓Step_makeFunc, ↓Step_slice, ↓Step_fieldAddr, ↓Step_field, ↓Step_indexAddr, ↓Step_index, ↓Step_extract, ↓Step_len, ↓Step_box, ↓Step_buildSlice, ↓Step_store, ↓Step_append, ↓Step_call, ↓With_mapH, ↓With_bindH, ↓With_guard, ↓Hold_1, ↓Hold_2, ↓Hold_3, With_some, With_none, ↓eget_eset, ↓ae_tmp, ↓ae_int, ↓ae_bool, ↓ae_string, ↓ae_func, ↓ae_slice0, ↓ae_ptr0, eget_zero, eget_succ, eget_nil, lop_pick, lop_nil, lop_extract, lop_len, lop_not, asBool_bool, asGuard_bool, asGuard_nr, bb_ff, bb_ft, bb_tf, bb_tt, ayielded_eq, ↓dstAt_zero, ↓dstAt_succ, light, ↓finish_ret, ↓finish_normal, ↓ares_nil, ↓ares_tmp, ↓ares_cell, ret1, Option.map_some, Option.bind_some, Option.map_none, Option.bind_none, ↓reduceIte, Nat.reduceEqDiff, reduceCtorEq, Bool.false_eq_true, Nat.reduceBEq, decide_true, decide_false, Bool.not_true, Bool.not_false, List.getElem?_toArray, List.getElem?_cons_zero, List.getElem?_cons_succ, Nat.zero_add, Nat.add_zero, Nat.reduceAdd, Nat.reduceMul, Nat.reduceSub, Nat.reduceLT, Nat.reduceLeDiff, and_true, true_and, and_self, List.map_cons, List.map_nil, List.all_cons, List.all_nil, tup_int, cel_int, tup_bool, cel_bool, tup_str, cel_str, tup_slice, cel_slice, tup_ptr, cel_ptr, tup_nilf, cel_nilf, tup_nili, cel_nili, tup_map, cel_map, tup_ifc, cel_ifc, tup_func, cel_func, tup_agg, cel_agg, Bool.and_true, List.drop_zero, List.toList_toArray, List.size_toArray, List.length_cons, List.length_nil, fill_one, setAll_one, abin_eql, abin_neq, abin_lss, abin_leq, abin_gtr, abin_geq, abin_add, abin_sub, abin_mul, Int.cast_ofNat_Int, beq_self_eq_true, Int.reduceLT, Int.reduceLE, Int.reduceToNat, Int.toNat_natCast, Int.reduceBEq, Int.reduceBNe, Int.reduceSub, Int.reduceAdd, gt_iff_lt, ge_iff_le, Int.lt_irrefl, decide_true, decide_false, Bool.not_eq_true, beq_self_eq_true, bb_ff, bb_ft, bb_tf, bb_tt, bne_self_eq_false, met_nil, met_cons, metK_nil, metK_cons, List.reverse_cons, List.reverse_nil, List.nil_append, List.cons_append, lval_free, lop_load, lop_convert, List.cons_ne_nil, lval_guard, Tryd.results44, p1, p2, p3, p4, hq, h5]
      exact ⟨_, rfl, hw⟩
    | false =>
      simp -dsimp only [↓WP_seq, ↓WP_region, ↓WP_cond, ↓WP_ret, ↓WP_skip, ↓WP_block, ↓WP_exit, ↓WP_loop, ↓WP_open, ↓DR_one, ↓DR_non, ↓DR_nil, ↓DF_one0, ↓DF_one1, ↓DF_non0, ↓DF_non1, ↓DF_nil, ↓Step_guard, ↓Step_move, ↓Step_assign, ↓Step_pick, ↓Step_build, ↓Step_load, ↓Step_nilCheck, ↓Step_binOp, ↓Step_unOp, ↓Step_makeFunc, ↓Step_slice, ↓Step_fieldAddr, ↓Step_field, ↓Step_indexAddr, ↓Step_index, ↓Step_extract, ↓Step_len, ↓Step_box, ↓Step_buildSlice, ↓Step_store, ↓Step_append, ↓Step_call, ↓With_mapH, ↓With_bindH, ↓With_guard, ↓Hold_1, ↓Hold_2, ↓Hold_3, With_some, With_none, ↓eget_eset, ↓ae_tmp, ↓ae_int, ↓ae_bool, ↓ae_string, ↓ae_func, ↓ae_slice0, ↓ae_ptr0, eget_zero, eget_succ, eget_nil, lop_pick, lop_nil, lop_extract, lop_len, lop_not, asBool_bool, asGuard_bool, asGuard_nr, bb_ff, bb_ft, bb_tf, bb_tt, ayielded_eq, ↓dstAt_zero, ↓dstAt_succ, light, ↓finish_ret, ↓finish_normal, ↓ares_nil, ↓ares_tmp, ↓ares_cell, ret1, Option.map_some, Option.bind_some, Option.map_none, Option.bind_none, ↓reduceIte, Nat.reduceEqDiff, reduceCtorEq, Bool.false_eq_true, Nat.reduceBEq, decide_true, decide_false, Bool.not_true, Bool.not_false, List.getElem?_toArray, List.getElem?_cons_zero, List.getElem?_cons_succ, Nat.zero_add, Nat.add_zero, Nat.reduceAdd, Nat.reduceMul, Nat.reduceSub, Nat.reduceLT, Nat.reduceLeDiff, and_true, true_and, and_self, List.map_cons, List.map_nil, List.all_cons, List.all_nil, tup_int, cel_int, tup_bool, cel_bool, tup_str, cel_str, tup_slice, cel_slice, tup_ptr, cel_ptr, tup_nilf, cel_nilf, tup_nili, cel_nili, tup_map, cel_map, tup_ifc, cel_ifc, tup_func, cel_func, tup_agg, cel_agg, Bool.and_true, List.drop_zero, List.toList_toArray, List.size_toArray, List.length_cons, List.length_nil, fill_one, setAll_one, abin_eql, abin_neq, abin_lss, abin_leq, abin_gtr, abin_geq, abin_add, abin_sub, abin_mul, Int.cast_ofNat_Int, beq_self_eq_true, Int.reduceLT, Int.reduceLE, Int.reduceToNat, Int.toNat_natCast, Int.reduceBEq, Int.reduceBNe, Int.reduceSub, Int.reduceAdd, gt_iff_lt, ge_iff_le, Int.lt_irrefl, decide_true, decide_false, Bool.not_eq_true, beq_self_eq_true, bb_ff, bb_ft, bb_tf, bb_tt, bne_self_eq_false, met_nil, met_cons, metK_nil, metK_cons, List.reverse_cons, List.reverse_nil, List.nil_append, List.cons_append, lval_free, lop_load, lop_convert, List.cons_ne_nil, lval_guard, Tryd.results44, p1, p2, p3, hq, h5]
      exact ⟨_, rfl, hw⟩
  | false =>
    cases p3 : (y == -1) with
    | true =>
      have p4 : (x == -9223372036854775808) = false := by
        rw [beq_eq_false_iff_ne]
        rw [beq_iff_eq] at p3
        exact fun h => e2 ⟨p3, h⟩
      simp -dsimp only [↓WP_seq, ↓WP_region, ↓WP_cond, ↓WP_ret, ↓WP_skip, ↓WP_block, ↓WP_exit, ↓WP_loop, ↓WP_open, ↓DR_one, ↓DR_non, ↓DR_nil, ↓DF_one0, ↓DF_one1, ↓DF_non0, ↓DF_non1, ↓DF_nil, ↓Step_guard, ↓Step_move, ↓Step_assign, ↓Step_pick, ↓Step_build, ↓Step_load, ↓Step_nilCheck, ↓Step_binOp, ↓Step_unOp, ↓Step_makeFunc, ↓Step_slice, ↓Step_fieldAddr, ↓Step_field, ↓Step_indexAddr, ↓Step_index, ↓Step_extract, ↓Step_len, ↓Step_box, ↓Step_buildSlice, ↓Step_store, ↓Step_append, ↓Step_call, ↓With_mapH, ↓With_bindH, ↓With_guard, ↓Hold_1, ↓Hold_2, ↓Hold_3, With_some, With_none, ↓eget_eset, ↓ae_tmp, ↓ae_int, ↓ae_bool, ↓ae_string, ↓ae_func, ↓ae_slice0, ↓ae_ptr0, eget_zero, eget_succ, eget_nil, lop_pick, lop_nil, lop_extract, lop_len, lop_not, asBool_bool, asGuard_bool, asGuard_nr, bb_ff, bb_ft, bb_tf, bb_tt, ayielded_eq, ↓dstAt_zero, ↓dstAt_succ, light, ↓finish_ret, ↓finish_normal, ↓ares_nil, ↓ares_tmp, ↓ares_cell, ret1, Option.map_some, Option.bind_some, Option.map_none, Option.bind_none, ↓reduceIte, Nat.reduceEqDiff, reduceCtorEq, Bool.false_eq_true, Nat.reduceBEq, decide_true, decide_false, Bool.not_true, Bool.not_false, List.getElem?_toArray, List.getElem?_cons_zero, List.getElem?_cons_succ, Nat.zero_add, Nat.add_zero, Nat.reduceAdd, Nat.reduceMul, Nat.reduceSub, Nat.reduceLT, Nat.reduceLeDiff, and_true, true_and, and_self, List.map_cons, List.map_nil, List.all_cons, List.all_nil, tup_int, cel_int, tup_bool, cel_bool, tup_str, cel_str, tup_slice, cel_slice, tup_ptr, cel_ptr, tup_nilf, cel_nilf, tup_nili, cel_nili, tup_map, cel_map, tup_ifc, cel_ifc, tup_func, cel_func, tup_agg, cel_agg, Bool.and_true, List.drop_zero, List.toList_toArray, List.size_toArray, List.length_cons, List.length_nil, fill_one, setAll_one, abin_eql, abin_neq, abin_lss, abin_leq, abin_gtr, abin_geq, abin_add, abin_sub, abin_mul, Int.cast_ofNat_Int, beq_self_eq_true, Int.reduceLT, Int.reduceLE, Int.reduceToNat, Int.toNat_natCast, Int.reduceBEq, Int.reduceBNe, Int.reduceSub, Int.reduceAdd, gt_iff_lt, ge_iff_le, Int.lt_irrefl, decide_true, decide_false, Bool.not_eq_true, beq_self_eq_true, bb_ff, bb_ft, bb_tf, bb_tt, bne_self_eq_false, met_nil, met_cons, metK_nil, metK_cons, List.reverse_cons, List.reverse_nil, List.nil_append, List.cons_append, lval_free, lop_load, lop_convert, List.cons_ne_nil, lval_guard, Tryd.results44, p1, p3, p4, hq, h5]
      exact ⟨_, rfl, hw⟩
    | false =>
      simp -dsimp only [↓WP_seq, ↓WP_region, ↓WP_cond, ↓WP_ret, ↓WP_skip, ↓WP_block, ↓WP_exit, ↓WP_loop, ↓WP_open, ↓DR_one, ↓DR_non, ↓DR_nil, ↓DF_one0, ↓DF_one1, ↓DF_non0, ↓DF_non1, ↓DF_nil, ↓Step_guard, ↓Step_move, ↓Step_assign, ↓Step_pick, ↓Step_build, ↓Step_load, ↓Step_nilCheck, ↓Step_binOp, ↓Step_unOp, ↓Step_makeFunc, ↓Step_slice, ↓Step_fieldAddr, ↓Step_field, ↓Step_indexAddr, ↓Step_index, ↓Step_extract, ↓Step_len, ↓Step_box, ↓Step_buildSlice, ↓Step_store, ↓Step_append, ↓Step_call, ↓With_mapH, ↓With_bindH, ↓With_guard, ↓Hold_1, ↓Hold_2, ↓Hold_3, With_some, With_none, ↓eget_eset, ↓ae_tmp, ↓ae_int, ↓ae_bool, ↓ae_string, ↓ae_func, ↓ae_slice0, ↓ae_ptr0, eget_zero, eget_succ, eget_nil, lop_pick, lop_nil, lop_extract, lop_len, lop_not, asBool_bool, asGuard_bool, asGuard_nr, bb_ff, bb_ft, bb_tf, bb_tt, ayielded_eq, ↓dstAt_zero, ↓dstAt_succ, light, ↓finish_ret, ↓finish_normal, ↓ares_nil, ↓ares_tmp, ↓ares_cell, ret1, Option.map_some, Option.bind_some, Option.map_none, Option.bind_none, ↓reduceIte, Nat.reduceEqDiff, reduceCtorEq, Bool.false_eq_true, Nat.reduceBEq, decide_true, decide_false, Bool.not_true, Bool.not_false, List.getElem?_toArray, List.getElem?_cons_zero, List.getElem?_cons_succ, Nat.zero_add, Nat.add_zero, Nat.reduceAdd, Nat.reduceMul, Nat.reduceSub, Nat.reduceLT, Nat.reduceLeDiff, and_true, true_and, and_self, List.map_cons, List.map_nil, List.all_cons, List.all_nil, tup_int, cel_int, tup_bool, cel_bool, tup_str, cel_str, tup_slice, cel_slice, tup_ptr, cel_ptr, tup_nilf, cel_nilf, tup_nili, cel_nili, tup_map, cel_map, tup_ifc, cel_ifc, tup_func, cel_func, tup_agg, cel_agg, Bool.and_true, List.drop_zero, List.toList_toArray, List.size_toArray, List.length_cons, List.length_nil, fill_one, setAll_one, abin_eql, abin_neq, abin_lss, abin_leq, abin_gtr, abin_geq, abin_add, abin_sub, abin_mul, Int.cast_ofNat_Int, beq_self_eq_true, Int.reduceLT, Int.reduceLE, Int.reduceToNat, Int.toNat_natCast, Int.reduceBEq, Int.reduceBNe, Int.reduceSub, Int.reduceAdd, gt_iff_lt, ge_iff_le, Int.lt_irrefl, decide_true, decide_false, Bool.not_eq_true, beq_self_eq_true, bb_ff, bb_ft, bb_tf, bb_tt, bne_self_eq_false, met_nil, met_cons, metK_nil, metK_cons, List.reverse_cons, List.reverse_nil, List.nil_append, List.cons_append, lval_free, lop_load, lop_convert, List.cons_ne_nil, lval_guard, Tryd.results44, p1, p3, hq, h5]
      exact ⟨_, rfl, hw⟩
end Go.Proofs.YtlndidjdeneolaaDoor.Abs
