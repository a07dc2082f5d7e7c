/- The law AddrBack: what its text answers. -/
import Derived.Test.YtenilfkkpoajbaaDoorP2
import Derived.Test.YtenilfkkpoajbaaDoorL7
import Derived.Test.YtenilfkkpoajbaaDoorSHI
set_option linter.unusedVariables false
set_option linter.unusedSimpArgs false
set_option maxRecDepth 4000
set_option maxHeartbeats 0
namespace Go.Proofs.YtenilfkkpoajbaaDoor.Abs
open Go
attribute [local irreducible] Hold DR DF Df Dc WP With
theorem cread_spec {X : Outer} (hX : X 22 = none) (hXc : X 62 = none) (hXl : X 86 = none) (hX0 : X 105 = none) (hX1 : X 156 = some ixG) (hXa : X 63 = none) (hXp : X 66 = none) (hXw : X 64 = none) (hXn : X 28 = none) (hXr : X 27 = none)
    (hit : ∀ (n : Int) (H : Hp), -9223372036854775808 ≤ n ∧ n ≤ 9223372036854775807 → Df Tryd.prog X 80 [.int .i64 n] H fun r H' => r = .string ⟨(Lib.itoa n).toArray⟩ ∧ H' = H)
    (hat : ∀ (l : List UInt8) (v : Int) (H : Hp), l.length ≤ 1000 → Lib.atoiAll l = .ok v → Df Tryd.prog X 87 [.string ⟨l.toArray⟩] H fun r H' => r = .tuple #[.int .i64 v, .nilIface] ∧ H' = H) {H : Hp} {c : CL} (hc : rightC c = true) :
    Df Tryd.prog X 22 [.string ⟨(sb c.sheet ++ 33 :: placeB c).toArray⟩] H fun r H' => r = .tuple #[.agg c.vals.toArray, .bool true] ∧ Fr H H' := by
  obtain ⟨sheet, col, row⟩ := c
  have hc2 := hc
  simp only [rightC, Bool.and_eq_true] at hc2
  have hpl := placeB_len hc2.2
  refine Df_text hX Tryd.func22 rfl (by kernel_rfl) (by show 1 ≤ _; decide) ?_
  generalize hs : (⟨(sb sheet ++ 33 :: placeB ⟨sheet, col, row⟩).toArray⟩ : ByteArray) = s
  refine WP_cut (fun E Ha => eget E 0 = .string s ∧ eget E 2 = .pointer (some ⟨H.next, 0, none⟩) ∧ Ha = H.push (.cells true 31 [.string .empty, .int .i64 0, .int .i64 0])) (by simp -dsimp only [↓WP_seq, ↓WP_region, ↓WP_cond, ↓WP_ret, ↓WP_skip, ↓WP_block, ↓WP_exit, ↓WP_loop, ↓WP_open, ↓DR_one, ↓DR_non, ↓DR_nil, ↓DF_one0, ↓DF_one1, ↓DF_non0, ↓DF_non1, ↓DF_nil, ↓Step_guard, ↓Step_move, ↓Step_assign, ↓Step_pick, ↓Step_build, ↓Step_load, ↓Step_nilCheck, ↓Step_binOp, ↓Step_unOp, ↓Step_makeFunc, ↓Step_slice, ↓Step_fieldAddr, ↓Step_field, ↓Step_indexAddr, ↓Step_index, ↓Step_extract, ↓Step_len, ↓Step_box, ↓Step_buildSlice, ↓Step_store, ↓Step_append, ↓Step_call, ↓With_mapH, ↓With_bindH, ↓With_guard, ↓Hold_1, ↓Hold_2, ↓Hold_3, With_some, With_none, ↓eget_eset, ↓ae_tmp, ↓ae_int, ↓ae_bool, ↓ae_string, ↓ae_func, ↓ae_slice0, ↓ae_ptr0, eget_zero, eget_succ, eget_nil, lop_pick, lop_nil, lop_extract, lop_len, lop_not, asBool_bool, asGuard_bool, asGuard_nr, bb_ff, bb_ft, bb_tf, bb_tt, ayielded_eq, ↓dstAt_zero, ↓dstAt_succ, light, ↓finish_ret, ↓finish_normal, ↓ares_nil, ↓ares_tmp, ↓ares_cell, ret1, Option.map_some, Option.bind_some, Option.map_none, Option.bind_none, ↓reduceIte, Nat.reduceEqDiff, reduceCtorEq, Bool.false_eq_true, Nat.reduceBEq, decide_true, decide_false, Bool.not_true, Bool.not_false, List.getElem?_toArray, List.getElem?_cons_zero, List.getElem?_cons_succ, Nat.zero_add, Nat.add_zero, Nat.reduceAdd, Nat.reduceMul, Nat.reduceSub, Nat.reduceLT, Nat.reduceLeDiff, and_true, true_and, and_self, List.map_cons, List.map_nil, List.all_cons, List.all_nil, tup_int, cel_int, tup_bool, cel_bool, tup_str, cel_str, tup_slice, cel_slice, tup_ptr, cel_ptr, tup_nilf, cel_nilf, tup_nili, cel_nili, tup_map, cel_map, tup_ifc, cel_ifc, tup_func, cel_func, tup_agg, cel_agg, Bool.and_true, List.drop_zero, List.toList_toArray, List.size_toArray, List.length_cons, List.length_nil, fill_one, setAll_one, abin_eql, abin_neq, abin_lss, abin_leq, abin_gtr, abin_geq, abin_add, abin_sub, abin_mul, Int.cast_ofNat_Int, beq_self_eq_true, Int.reduceLT, Int.reduceLE, Int.reduceToNat, Int.toNat_natCast, Int.reduceBEq, Int.reduceBNe, Int.reduceSub, Int.reduceAdd, gt_iff_lt, ge_iff_le, Int.lt_irrefl, decide_true, decide_false, Bool.not_eq_true, beq_self_eq_true, bb_ff, bb_ft, bb_tf, bb_tt, bne_self_eq_false, ↓al31, bd31, so31, ld31, pl31_0, pl31_1, pl31_2, fa31_0, fa31_1, fa31_2, ld3, ld9, afill, setAll, List.set_cons_zero, List.set_cons_succ, List.drop_zero, List.drop_succ_cons, List.take_succ_cons, List.take_zero]) ?_
  rintro E0 Ha ⟨e0, e2, hHa⟩
  have fa : Fr H Ha := by rw [hHa]; exact (Fr.refl H).push _
  have na : Ha.next = H.next + 1 := by rw [hHa, next_push]
  have ga : Ha.get H.next = .cells true 31 [.string .empty, .int .i64 0, .int .i64 0] := by rw [hHa, get_push, if_pos rfl]
  clear hHa
  simp -dsimp only [↓WP_seq, ↓WP_region, ↓WP_cond, ↓WP_ret, ↓WP_skip, ↓WP_block, ↓WP_exit, ↓WP_loop, ↓WP_open, ↓DR_one, ↓DR_non, ↓DR_nil, ↓DF_one0, ↓DF_one1, ↓DF_non0, ↓DF_non1, ↓DF_nil, ↓Step_guard, ↓Step_move, ↓Step_assign, ↓Step_pick, ↓Step_build, ↓Step_load, ↓Step_nilCheck, ↓Step_binOp, ↓Step_unOp, ↓Step_makeFunc, ↓Step_slice, ↓Step_fieldAddr, ↓Step_field, ↓Step_indexAddr, ↓Step_index, ↓Step_extract, ↓Step_len, ↓Step_box, ↓Step_buildSlice, ↓Step_store, ↓Step_append, ↓Step_call, ↓With_mapH, ↓With_bindH, ↓With_guard, ↓Hold_1, ↓Hold_2, ↓Hold_3, With_some, With_none, ↓eget_eset, ↓ae_tmp, ↓ae_int, ↓ae_bool, ↓ae_string, ↓ae_func, ↓ae_slice0, ↓ae_ptr0, eget_zero, eget_succ, eget_nil, lop_pick, lop_nil, lop_extract, lop_len, lop_not, asBool_bool, asGuard_bool, asGuard_nr, bb_ff, bb_ft, bb_tf, bb_tt, ayielded_eq, ↓dstAt_zero, ↓dstAt_succ, light, ↓finish_ret, ↓finish_normal, ↓ares_nil, ↓ares_tmp, ↓ares_cell, ret1, Option.map_some, Option.bind_some, Option.map_none, Option.bind_none, ↓reduceIte, Nat.reduceEqDiff, reduceCtorEq, Bool.false_eq_true, Nat.reduceBEq, decide_true, decide_false, Bool.not_true, Bool.not_false, List.getElem?_toArray, List.getElem?_cons_zero, List.getElem?_cons_succ, Nat.zero_add, Nat.add_zero, Nat.reduceAdd, Nat.reduceMul, Nat.reduceSub, Nat.reduceLT, Nat.reduceLeDiff, and_true, true_and, and_self, List.map_cons, List.map_nil, List.all_cons, List.all_nil, tup_int, cel_int, tup_bool, cel_bool, tup_str, cel_str, tup_slice, cel_slice, tup_ptr, cel_ptr, tup_nilf, cel_nilf, tup_nili, cel_nili, tup_map, cel_map, tup_ifc, cel_ifc, tup_func, cel_func, tup_agg, cel_agg, Bool.and_true, List.drop_zero, List.toList_toArray, List.size_toArray, List.length_cons, List.length_nil, fill_one, setAll_one, abin_eql, abin_neq, abin_lss, abin_leq, abin_gtr, abin_geq, abin_add, abin_sub, abin_mul, Int.cast_ofNat_Int, beq_self_eq_true, Int.reduceLT, Int.reduceLE, Int.reduceToNat, Int.toNat_natCast, Int.reduceBEq, Int.reduceBNe, Int.reduceSub, Int.reduceAdd, gt_iff_lt, ge_iff_le, Int.lt_irrefl, decide_true, decide_false, Bool.not_eq_true, beq_self_eq_true, bb_ff, bb_ft, bb_tf, bb_tt, bne_self_eq_false, get_push, get_put, next_push, next_put, cellAt, cellsAt, setAll_whole, acells, alenOf, Nat.le_refl, abound_none, abound_some, ↓al31, bd31, so31, ld31, pl31_0, pl31_1, pl31_2, fa31_0, fa31_1, fa31_2, ld3, ld9, afill, setAll, List.set_cons_zero, List.set_cons_succ, List.drop_zero, List.drop_succ_cons, List.take_succ_cons, List.take_zero, Tryd.results22, e0, e2, fk62]
  rw [← hs]
  refine (cut_spec hXc hXl hX0 hX1 hc2.1 (by omega)).mono ?_
  rintro r1 H1 ⟨rfl, rfl⟩
  have hsh : (⟨(sb sheet).toArray⟩ : ByteArray) = sheet := rfl
  simp -dsimp only [↓WP_seq, ↓WP_region, ↓WP_cond, ↓WP_ret, ↓WP_skip, ↓WP_block, ↓WP_exit, ↓WP_loop, ↓WP_open, ↓DR_one, ↓DR_non, ↓DR_nil, ↓DF_one0, ↓DF_one1, ↓DF_non0, ↓DF_non1, ↓DF_nil, ↓Step_guard, ↓Step_move, ↓Step_assign, ↓Step_pick, ↓Step_build, ↓Step_load, ↓Step_nilCheck, ↓Step_binOp, ↓Step_unOp, ↓Step_makeFunc, ↓Step_slice, ↓Step_fieldAddr, ↓Step_field, ↓Step_indexAddr, ↓Step_index, ↓Step_extract, ↓Step_len, ↓Step_box, ↓Step_buildSlice, ↓Step_store, ↓Step_append, ↓Step_call, ↓With_mapH, ↓With_bindH, ↓With_guard, ↓Hold_1, ↓Hold_2, ↓Hold_3, With_some, With_none, ↓eget_eset, ↓ae_tmp, ↓ae_int, ↓ae_bool, ↓ae_string, ↓ae_func, ↓ae_slice0, ↓ae_ptr0, eget_zero, eget_succ, eget_nil, lop_pick, lop_nil, lop_extract, lop_len, lop_not, asBool_bool, asGuard_bool, asGuard_nr, bb_ff, bb_ft, bb_tf, bb_tt, ayielded_eq, ↓dstAt_zero, ↓dstAt_succ, light, ↓finish_ret, ↓finish_normal, ↓ares_nil, ↓ares_tmp, ↓ares_cell, ret1, Option.map_some, Option.bind_some, Option.map_none, Option.bind_none, ↓reduceIte, Nat.reduceEqDiff, reduceCtorEq, Bool.false_eq_true, Nat.reduceBEq, decide_true, decide_false, Bool.not_true, Bool.not_false, List.getElem?_toArray, List.getElem?_cons_zero, List.getElem?_cons_succ, Nat.zero_add, Nat.add_zero, Nat.reduceAdd, Nat.reduceMul, Nat.reduceSub, Nat.reduceLT, Nat.reduceLeDiff, and_true, true_and, and_self, List.map_cons, List.map_nil, List.all_cons, List.all_nil, tup_int, cel_int, tup_bool, cel_bool, tup_str, cel_str, tup_slice, cel_slice, tup_ptr, cel_ptr, tup_nilf, cel_nilf, tup_nili, cel_nili, tup_map, cel_map, tup_ifc, cel_ifc, tup_func, cel_func, tup_agg, cel_agg, Bool.and_true, List.drop_zero, List.toList_toArray, List.size_toArray, List.length_cons, List.length_nil, fill_one, setAll_one, abin_eql, abin_neq, abin_lss, abin_leq, abin_gtr, abin_geq, abin_add, abin_sub, abin_mul, Int.cast_ofNat_Int, beq_self_eq_true, Int.reduceLT, Int.reduceLE, Int.reduceToNat, Int.toNat_natCast, Int.reduceBEq, Int.reduceBNe, Int.reduceSub, Int.reduceAdd, gt_iff_lt, ge_iff_le, Int.lt_irrefl, decide_true, decide_false, Bool.not_eq_true, beq_self_eq_true, bb_ff, bb_ft, bb_tf, bb_tt, bne_self_eq_false, get_push, get_put, next_push, next_put, cellAt, cellsAt, setAll_whole, acells, alenOf, Nat.le_refl, abound_none, abound_some, ↓al31, bd31, so31, ld31, pl31_0, pl31_1, pl31_2, fa31_0, fa31_1, fa31_2, ld3, ld9, afill, setAll, List.set_cons_zero, List.set_cons_succ, List.drop_zero, List.drop_succ_cons, List.take_succ_cons, List.take_zero, Tryd.results22, e0, e2, fk63]
  refine (at_spec hXa hXp hXw hit hat hc2.2).mono ?_
  rintro r2 H2 ⟨rfl, f2⟩
  rw [hsh]
  have g2 := Fr.get f2 (by omega) ga
  have F2 := fa.trans f2
  have n2 : H1.next ≤ H2.next := f2.1
  have hne : ¬ H.next = H2.next := by omega
  simp -dsimp only [↓WP_seq, ↓WP_region, ↓WP_cond, ↓WP_ret, ↓WP_skip, ↓WP_block, ↓WP_exit, ↓WP_loop, ↓WP_open, ↓DR_one, ↓DR_non, ↓DR_nil, ↓DF_one0, ↓DF_one1, ↓DF_non0, ↓DF_non1, ↓DF_nil, ↓Step_guard, ↓Step_move, ↓Step_assign, ↓Step_pick, ↓Step_build, ↓Step_load, ↓Step_nilCheck, ↓Step_binOp, ↓Step_unOp, ↓Step_makeFunc, ↓Step_slice, ↓Step_fieldAddr, ↓Step_field, ↓Step_indexAddr, ↓Step_index, ↓Step_extract, ↓Step_len, ↓Step_box, ↓Step_buildSlice, ↓Step_store, ↓Step_append, ↓Step_call, ↓With_mapH, ↓With_bindH, ↓With_guard, ↓Hold_1, ↓Hold_2, ↓Hold_3, With_some, With_none, ↓eget_eset, ↓ae_tmp, ↓ae_int, ↓ae_bool, ↓ae_string, ↓ae_func, ↓ae_slice0, ↓ae_ptr0, eget_zero, eget_succ, eget_nil, lop_pick, lop_nil, lop_extract, lop_len, lop_not, asBool_bool, asGuard_bool, asGuard_nr, bb_ff, bb_ft, bb_tf, bb_tt, ayielded_eq, ↓dstAt_zero, ↓dstAt_succ, light, ↓finish_ret, ↓finish_normal, ↓ares_nil, ↓ares_tmp, ↓ares_cell, ret1, Option.map_some, Option.bind_some, Option.map_none, Option.bind_none, ↓reduceIte, Nat.reduceEqDiff, reduceCtorEq, Bool.false_eq_true, Nat.reduceBEq, decide_true, decide_false, Bool.not_true, Bool.not_false, List.getElem?_toArray, List.getElem?_cons_zero, List.getElem?_cons_succ, Nat.zero_add, Nat.add_zero, Nat.reduceAdd, Nat.reduceMul, Nat.reduceSub, Nat.reduceLT, Nat.reduceLeDiff, and_true, true_and, and_self, List.map_cons, List.map_nil, List.all_cons, List.all_nil, tup_int, cel_int, tup_bool, cel_bool, tup_str, cel_str, tup_slice, cel_slice, tup_ptr, cel_ptr, tup_nilf, cel_nilf, tup_nili, cel_nili, tup_map, cel_map, tup_ifc, cel_ifc, tup_func, cel_func, tup_agg, cel_agg, Bool.and_true, List.drop_zero, List.toList_toArray, List.size_toArray, List.length_cons, List.length_nil, fill_one, setAll_one, abin_eql, abin_neq, abin_lss, abin_leq, abin_gtr, abin_geq, abin_add, abin_sub, abin_mul, Int.cast_ofNat_Int, beq_self_eq_true, Int.reduceLT, Int.reduceLE, Int.reduceToNat, Int.toNat_natCast, Int.reduceBEq, Int.reduceBNe, Int.reduceSub, Int.reduceAdd, gt_iff_lt, ge_iff_le, Int.lt_irrefl, decide_true, decide_false, Bool.not_eq_true, beq_self_eq_true, bb_ff, bb_ft, bb_tf, bb_tt, bne_self_eq_false, get_push, get_put, next_push, next_put, cellAt, cellsAt, setAll_whole, acells, alenOf, Nat.le_refl, abound_none, abound_some, ↓al31, bd31, so31, ld31, pl31_0, pl31_1, pl31_2, fa31_0, fa31_1, fa31_2, ld3, ld9, afill, setAll, List.set_cons_zero, List.set_cons_succ, List.drop_zero, List.drop_succ_cons, List.take_succ_cons, List.take_zero, Tryd.results22, e0, e2, g2, hne, fk27]
  generalize hHb : (H2.push (.cells true 31 _)).put H2.next _ = Hb
  have fb : Fr H2 Hb := by rw [← hHb]; exact ((Fr.refl H2).push _).put (Nat.le_refl _) _
  have nb : Hb.next = H2.next + 1 := by rw [← hHb, next_put, next_push]
  have gb : Hb.get H2.next = .cells true 31 [.string sheet, .int .i64 col, .int .i64 row] := by rw [← hHb, get_put, if_pos rfl]
  have gba := Fr.get fb (by omega) g2
  clear hHb
  refine (cright_spec (c := ⟨sheet, col, row⟩) hXr hXn hXp).mono ?_
  rintro r3 H3 ⟨rfl, f3⟩
  rw [hc]
  have g3 := Fr.get f3 (by omega) gb
  have g3a := Fr.get f3 (by omega) gba
  have F3 := (F2.trans fb).trans f3
  simp -dsimp only [↓WP_seq, ↓WP_region, ↓WP_cond, ↓WP_ret, ↓WP_skip, ↓WP_block, ↓WP_exit, ↓WP_loop, ↓WP_open, ↓DR_one, ↓DR_non, ↓DR_nil, ↓DF_one0, ↓DF_one1, ↓DF_non0, ↓DF_non1, ↓DF_nil, ↓Step_guard, ↓Step_move, ↓Step_assign, ↓Step_pick, ↓Step_build, ↓Step_load, ↓Step_nilCheck, ↓Step_binOp, ↓Step_unOp, ↓Step_makeFunc, ↓Step_slice, ↓Step_fieldAddr, ↓Step_field, ↓Step_indexAddr, ↓Step_index, ↓Step_extract, ↓Step_len, ↓Step_box, ↓Step_buildSlice, ↓Step_store, ↓Step_append, ↓Step_call, ↓With_mapH, ↓With_bindH, ↓With_guard, ↓Hold_1, ↓Hold_2, ↓Hold_3, With_some, With_none, ↓eget_eset, ↓ae_tmp, ↓ae_int, ↓ae_bool, ↓ae_string, ↓ae_func, ↓ae_slice0, ↓ae_ptr0, eget_zero, eget_succ, eget_nil, lop_pick, lop_nil, lop_extract, lop_len, lop_not, asBool_bool, asGuard_bool, asGuard_nr, bb_ff, bb_ft, bb_tf, bb_tt, ayielded_eq, ↓dstAt_zero, ↓dstAt_succ, light, ↓finish_ret, ↓finish_normal, ↓ares_nil, ↓ares_tmp, ↓ares_cell, ret1, Option.map_some, Option.bind_some, Option.map_none, Option.bind_none, ↓reduceIte, Nat.reduceEqDiff, reduceCtorEq, Bool.false_eq_true, Nat.reduceBEq, decide_true, decide_false, Bool.not_true, Bool.not_false, List.getElem?_toArray, List.getElem?_cons_zero, List.getElem?_cons_succ, Nat.zero_add, Nat.add_zero, Nat.reduceAdd, Nat.reduceMul, Nat.reduceSub, Nat.reduceLT, Nat.reduceLeDiff, and_true, true_and, and_self, List.map_cons, List.map_nil, List.all_cons, List.all_nil, tup_int, cel_int, tup_bool, cel_bool, tup_str, cel_str, tup_slice, cel_slice, tup_ptr, cel_ptr, tup_nilf, cel_nilf, tup_nili, cel_nili, tup_map, cel_map, tup_ifc, cel_ifc, tup_func, cel_func, tup_agg, cel_agg, Bool.and_true, List.drop_zero, List.toList_toArray, List.size_toArray, List.length_cons, List.length_nil, fill_one, setAll_one, abin_eql, abin_neq, abin_lss, abin_leq, abin_gtr, abin_geq, abin_add, abin_sub, abin_mul, Int.cast_ofNat_Int, beq_self_eq_true, Int.reduceLT, Int.reduceLE, Int.reduceToNat, Int.toNat_natCast, Int.reduceBEq, Int.reduceBNe, Int.reduceSub, Int.reduceAdd, gt_iff_lt, ge_iff_le, Int.lt_irrefl, decide_true, decide_false, Bool.not_eq_true, beq_self_eq_true, bb_ff, bb_ft, bb_tf, bb_tt, bne_self_eq_false, get_push, get_put, next_push, next_put, cellAt, cellsAt, setAll_whole, acells, alenOf, Nat.le_refl, abound_none, abound_some, ↓al31, bd31, so31, ld31, pl31_0, pl31_1, pl31_2, fa31_0, fa31_1, fa31_2, ld3, ld9, afill, setAll, List.set_cons_zero, List.set_cons_succ, List.drop_zero, List.drop_succ_cons, List.take_succ_cons, List.take_zero, Tryd.results22, e0, e2, g3, g3a, CL.vals]
  exact F3.put (by omega) _
noncomputable def XI2 : Outer := fun f => if f = 156 then some ixG else none
theorem xi2_sound (B : Nat) (w0 : World) : XSound Tryd.prog B w0 XI2 := by
  intro f g hg
  unfold XI2 at hg
  split at hg
  · rename_i hf
    subst hf
    cases hg
    exact ix_sound Tryd.stringslite_IndexByte
  · cases hg
theorem addr_alive2 : ansIs (run Tryd.prog XI2 100 20 [] ⟨0, []⟩) (.bool true) = true := by kernel_rfl
/-- strconv.Atoi's answer where it succeeds. -/
def atoiOk : List Value → Hp → Option (Value × Hp) := fun args H => match args with
  | [.string s] => if s.data.size ≤ 1000000 then (match Lib.atoiAll s.data.toList with
      | .ok v => some (.tuple #[.int .i64 v, .nilIface], H)
      | _ => none) else none
  | _ => none
theorem atoiOk_sound {B : Nat} {w0 : World} : KSound Tryd.prog B w0 fun f' args H => if f' = 87 then atoiOk args H else none := by
  intro f' args H v H' hr φ w args' hR ha
  simp only at hr
  split at hr
  · rename_i hff
    subst hff
    unfold atoiOk at hr
    split at hr
    · rename_i s
      split at hr
      · rename_i hsz
        have hsz' : s.size ≤ 1000000 := hsz
        have e : args' = [.string s] := flats_eq rfl ha
        subst e
        split at hr
        · rename_i n hn
          cases hr
          refine (Tryd.strconv_Atoi_ok s (by omega) n hn w).mono ?_
          rintro e w' ⟨rfl, hw⟩
          refine ⟨φ, _, Plan.le_refl φ, rfl, tup2 rfl .nilIface, ?_⟩
          rcases hw with rfl | ⟨t, rfl⟩
          · exact hR
          · exact hR.grow (Lib.bytesWorld_below _ _ _)
        · cases hr
      · cases hr
    · cases hr
  · cases hr
noncomputable def XB : Outer := fun f => if f = 80 then some itoaG else if f = 87 then some atoiOk else if f = 156 then some ixG else if f = 20 then some trueG else none
theorem xb_sound (mixed : Tryd.prog.follows .mixedOrders = true) {W : World} (htab : Lib.TabIs Tryd.prog W "internal/strconv.uint64pow10" .u64 Lib.pow10Tab) : XSound Tryd.prog W.heap.size W XB := by
  intro f g hg
  unfold XB at hg
  split at hg
  · rename_i hf
    subst hf
    cases hg
    exact itoa_sound fun w b => tab_below htab b
  split at hg
  · rename_i hf
    subst hf
    cases hg
    exact atoiOk_sound
  split at hg
  · rename_i hf
    subst hf
    cases hg
    exact ix_sound Tryd.stringslite_IndexByte
  split at hg
  · rename_i hf
    subst hf
    cases hg
    exact true_sound mixed xi2_sound addr_alive2 _ _
  · cases hg
theorem itoa_XB (n : Int) (H : Hp) (hn : -9223372036854775808 ≤ n ∧ n ≤ 9223372036854775807) : Df Tryd.prog XB 80 [.int .i64 n] H fun r H' => r = .string ⟨(Lib.itoa n).toArray⟩ ∧ H' = H :=
  Df_ext (g := itoaG) (r := (.string ⟨(Lib.itoa n).toArray⟩, H)) rfl (by simp only [itoaG, if_pos hn]) ⟨rfl, rfl⟩
theorem atoi_XB (l : List UInt8) (v : Int) (H : Hp) (hl : l.length ≤ 1000) (h : Lib.atoiAll l = .ok v) : Df Tryd.prog XB 87 [.string ⟨l.toArray⟩] H fun r H' => r = .tuple #[.int .i64 v, .nilIface] ∧ H' = H :=
  Df_ext (g := atoiOk) (r := (.tuple #[.int .i64 v, .nilIface], H)) rfl (by
    simp only [atoiOk]
    rw [if_pos (by simp; omega)]
    simp only [h]) ⟨rfl, rfl⟩
theorem showC_eq {c : CL} (h : rightC c = true) : showC c = ⟨(sb c.sheet ++ 33 :: placeB c).toArray⟩ := by
  rw [showC, if_pos h]
  have hsh : c.sheet = ⟨(sb c.sheet).toArray⟩ := rfl
  rw [hsh, show (⟨#[33]⟩ : ByteArray) = ⟨[33].toArray⟩ by rfl, ba_app, ba_app, sb_mk]
  simp
  rfl
end Go.Proofs.YtenilfkkpoajbaaDoor.Abs
