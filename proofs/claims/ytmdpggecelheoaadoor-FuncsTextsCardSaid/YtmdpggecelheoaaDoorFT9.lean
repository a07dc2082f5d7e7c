/- The law FuncsTexts: what its text answers. -/
import Derived.Test.YtmdpggecelheoaaDoorMX2
import Derived.Shelf.LaysM
import Derived.Shelf.Strings.Search1
import Derived.Shelf.Strings.Search2
import Derived.Shelf.Strings.Search3
import Derived.Test.YtmdpggecelheoaaDoorProg
import Derived.WalkKit
import Derived.ProofKit
import Derived.OpenShut
import Derived.ShutString
import Derived.ChangeOld
import Derived.Below
import Derived.SizedLaws
import Derived.LaidMore
import Derived.Stop.Joined
import Derived.Test.YtmdpggecelheoaaDoorPA20
import Derived.Shelf.Vars
import Derived.Test.YtmdpggecelheoaaDoorRows
import Derived.Test.YtmdpggecelheoaaDoorCards
import Derived.Test.YtmdpggecelheoaaDoorTie
import Derived.ChangeMaps5
set_option linter.unusedVariables false
set_option linter.unusedSimpArgs false
set_option maxRecDepth 4000
set_option maxHeartbeats 0
namespace Go.Proofs.YtmdpggecelheoaaDoor.Abs
open Go
attribute [local irreducible] Hold VReg Vf Vc VWP With VStp Vcallee Vp VE
theorem lawT (s : ByteArray) (n a : Int) : Vf Tryd.prog XQ 6 [.string s, .int .i64 n, .int .i64 a] [] fun v _ => v = .bool true := by
  refine Vf_text rfl Tryd.func6 rfl (by kernel_rfl) (by show 3 ≤ _; decide) ?_
  by_cases a1 : (200 : Int) < s.size
  · simp -dsimp only [↓Hold_5, ↓VWP_seq, ↓VWP_region, ↓VWP_cond, ↓VWP_ret, ↓VReg_one, ↓VReg_nil, ↓VS_guard, ↓VS_move, ↓VS_assign, ↓VS_pick, ↓VS_binOp, ↓VS_unOp, ↓VS_len, ↓With_guard, ↓Hold_1, With_some, emap_nil, ↓eget_eset, ↓ae_tmp, ↓ae_int, ↓ae_bool, eget_zero, lop_pick, lop_not, asBool_bool, asGuard_bool, bb_tf, ayielded_eq, ↓dstAt_zero, ↓dstAt_succ, ↓vfinish_ret, ↓vres_nil, ↓vres_tmp, vtell_eq, ret1, Option.map_some, Option.bind_some, ↓reduceIte, Nat.reduceEqDiff, reduceCtorEq, Bool.false_eq_true, decide_true, Bool.not_true, and_self, List.map_nil, List.toList_toArray, List.length_nil, mapOwn_bool, okv_bool, List.map_nil, Bool.not_true, beq_self_eq_true, List.length_nil, vbin_int, abin_gtr, beq_self_eq_true, gt_iff_lt, decide_true, beq_self_eq_true, bb_tf, vlr9, ↓vfk31, Tryd.results6, ↓alive_q, a1]
  · by_cases a2 : n < 0
    · simp -dsimp only [↓Hold_5, ↓VWP_seq, ↓VWP_region, ↓VWP_cond, ↓VWP_ret, ↓VReg_one, ↓VReg_nil, ↓VS_guard, ↓VS_move, ↓VS_assign, ↓VS_pick, ↓VS_binOp, ↓VS_unOp, ↓VS_len, ↓With_guard, ↓Hold_1, With_some, emap_nil, ↓eget_eset, ↓ae_tmp, ↓ae_int, ↓ae_bool, eget_zero, eget_succ, lop_pick, lop_not, asBool_bool, asGuard_bool, bb_tf, ayielded_eq, ↓dstAt_zero, ↓dstAt_succ, ↓vfinish_ret, ↓vres_nil, ↓vres_tmp, vtell_eq, ret1, Option.map_some, Option.bind_some, ↓reduceIte, Nat.reduceEqDiff, reduceCtorEq, Bool.false_eq_true, decide_true, decide_false, Bool.not_true, and_self, List.map_nil, List.toList_toArray, List.length_nil, mapOwn_bool, okv_bool, List.map_nil, Bool.not_true, beq_self_eq_true, List.length_nil, vbin_int, abin_lss, abin_gtr, beq_self_eq_true, gt_iff_lt, decide_true, decide_false, beq_self_eq_true, bb_tf, vlr9, ↓vfk31, Tryd.results6, ↓alive_q, a1, a2]
    · by_cases a3 : 300 < n
      · simp -dsimp only [↓Hold_5, ↓VWP_seq, ↓VWP_region, ↓VWP_cond, ↓VWP_ret, ↓VReg_one, ↓VReg_nil, ↓VS_guard, ↓VS_move, ↓VS_assign, ↓VS_pick, ↓VS_binOp, ↓VS_unOp, ↓VS_len, ↓With_guard, ↓Hold_1, With_some, emap_nil, ↓eget_eset, ↓ae_tmp, ↓ae_int, ↓ae_bool, eget_zero, eget_succ, lop_pick, lop_not, asBool_bool, asGuard_bool, bb_tf, ayielded_eq, ↓dstAt_zero, ↓dstAt_succ, ↓vfinish_ret, ↓vres_nil, ↓vres_tmp, vtell_eq, ret1, Option.map_some, Option.bind_some, ↓reduceIte, Nat.reduceEqDiff, reduceCtorEq, Bool.false_eq_true, decide_true, decide_false, Bool.not_true, and_self, List.map_nil, List.toList_toArray, List.length_nil, mapOwn_bool, okv_bool, List.map_nil, Bool.not_true, beq_self_eq_true, List.length_nil, vbin_int, abin_lss, abin_gtr, beq_self_eq_true, gt_iff_lt, decide_true, decide_false, beq_self_eq_true, bb_tf, vlr9, ↓vfk31, Tryd.results6, ↓alive_q, a1, a2, a3]
      · by_cases a4 : a < 1
        · simp -dsimp only [↓Hold_5, ↓VWP_seq, ↓VWP_region, ↓VWP_cond, ↓VWP_ret, ↓VReg_one, ↓VReg_nil, ↓VS_guard, ↓VS_move, ↓VS_assign, ↓VS_pick, ↓VS_binOp, ↓VS_unOp, ↓VS_len, ↓With_guard, ↓Hold_1, With_some, emap_nil, ↓eget_eset, ↓ae_tmp, ↓ae_int, ↓ae_bool, eget_zero, eget_succ, lop_pick, lop_not, asBool_bool, asGuard_bool, bb_tf, ayielded_eq, ↓dstAt_zero, ↓dstAt_succ, ↓vfinish_ret, ↓vres_nil, ↓vres_tmp, vtell_eq, ret1, Option.map_some, Option.bind_some, ↓reduceIte, Nat.reduceEqDiff, reduceCtorEq, Bool.false_eq_true, decide_true, decide_false, Bool.not_true, and_self, List.map_nil, List.toList_toArray, List.length_nil, mapOwn_bool, okv_bool, List.map_nil, Bool.not_true, beq_self_eq_true, List.length_nil, vbin_int, abin_lss, abin_gtr, beq_self_eq_true, gt_iff_lt, decide_true, decide_false, beq_self_eq_true, bb_tf, vlr9, ↓vfk31, Tryd.results6, ↓alive_q, a1, a2, a3, a4]
        · by_cases a5 : 300 < a
          · simp -dsimp only [↓Hold_5, ↓VWP_seq, ↓VWP_region, ↓VWP_cond, ↓VWP_ret, ↓VReg_one, ↓VReg_nil, ↓VS_guard, ↓VS_move, ↓VS_assign, ↓VS_pick, ↓VS_binOp, ↓VS_unOp, ↓VS_len, ↓With_guard, ↓Hold_1, With_some, emap_nil, ↓eget_eset, ↓ae_tmp, ↓ae_int, ↓ae_bool, eget_zero, eget_succ, lop_pick, lop_not, asBool_bool, asGuard_bool, ayielded_eq, ↓dstAt_zero, ↓dstAt_succ, ↓vfinish_ret, ↓vres_nil, ↓vres_tmp, vtell_eq, ret1, Option.map_some, Option.bind_some, ↓reduceIte, Nat.reduceEqDiff, reduceCtorEq, Bool.false_eq_true, decide_true, decide_false, Bool.not_true, and_self, List.map_nil, List.toList_toArray, List.length_nil, mapOwn_bool, okv_bool, List.map_nil, Bool.not_true, beq_self_eq_true, List.length_nil, vbin_int, abin_lss, abin_gtr, beq_self_eq_true, gt_iff_lt, decide_true, decide_false, beq_self_eq_true, vlr9, ↓vfk31, Tryd.results6, ↓alive_q, a1, a2, a3, a4, a5]
          · have hs : s.size ≤ 200 := by omega
            have k1 := cutN_le s n (by omega)
            obtain ⟨p, p1, p2, p3, p4⟩ := find_mid_spec s a n (by omega) (by omega)
            have hMs : (midS s a n).size ≤ 200 := by omega
            have cl := fun t S K => call_left t s n hs (by omega) S K
            have cm := fun t S K => call_mid t s a n hs (by omega) (by omega) (by omega) S K
            have cw := fun t S K => call_where t s (midS s a n) hs hMs p (by omega) p1 S K
            have hcat := cut_whole s (cutN s n) k1.1
            have z1 : (s.extract 0 (cutN s n)).size ≤ 1000 := by rw [ByteArray.size_extract]; omega
            have z2 : (s.extract (cutN s n) s.size).size ≤ 1000 := by rw [ByteArray.size_extract]; omega
            have cr : ∀ t m, (m : Int) = cutN s n → ∀ S K, Vcallee Tryd.prog XQ 33 [.string ⟨#[82, 73, 71, 72, 84]⟩, vo (t, none) 1 0 [vs 0 3 [.agg ⟨[.int .i64 2, .int .i64 0, .string s]⟩], vs 0 3 [.agg ⟨[.int .i64 1, .int .i64 (s.size - m), .string .empty]⟩]]] S K = K (.agg ⟨[.int .i64 2, .int .i64 0, .string (s.extract (cutN s n) s.size)]⟩) [] S [] false := fun t m hm S K => by
              have h := call_rgt t s (s.size - m) hs (by omega) S K
              rw [if_neg (show ¬ ((s.size : Int) < s.size - m) by omega), show ((s.size : Int) - (s.size - m)).toNat = cutN s n by omega] at h
              exact h
            have e1 : IntKind.i64.wrap ((p : Int) + 1 - 1) = p := by rw [wrap_id (by omega) (by omega)]; omega
            have e2 : IntKind.i64.wrap ((p : Int) + (midS s a n).size) = (p : Int) + (midS s a n).size := wrap_id (by omega) (by omega)
            have e3 : ((p : Int) + (midS s a n).size).toNat = p + (midS s a n).size := by omega
            have e4 : ¬ (p : Int) + 1 < 1 := by omega
            have e5 : ¬ a < (p : Int) + 1 := by omega
            have e6 : ¬ (s.size : Int) < (p : Int) + (midS s a n).size := by omega
            have e7 : (0 : Int) ≤ p := by omega
            have e8 : (p : Int) ≤ (p : Int) + (midS s a n).size := by omega
            have e9 : (p : Int) + (midS s a n).size ≤ s.size := by omega
            by_cases b1 : (s.size : Int) < n
            · have hm : ((s.size : Int)) = cutN s n := by unfold cutN; rw [if_pos b1]; omega
              have w : IntKind.i64.wrap ((s.size : Int) - s.size) = (s.size : Int) - s.size := wrap_id (by omega) (by omega)
              have cr2 := fun t S K => cr t _ hm S K
              generalize s.extract 0 (cutN s n) = A at *
              generalize s.extract (cutN s n) s.size = B at *
              generalize midS s a n = M at *
              simp -dsimp only [↓Hold_5, ↓VWP_seq, ↓VWP_region, ↓VWP_cond, ↓VWP_skip, ↓VWP_open, ↓VReg_one, ↓VReg_non, ↓VReg_nil, ↓VS_guard, ↓VS_move, ↓VS_assign, ↓VS_pick, ↓VS_build, ↓VS_load, ↓VS_binOp, ↓VS_unOp, ↓VS_fieldAddr, ↓VS_len, ↓VS_buildSlice, ↓VS_store, ↓With_mapH, ↓With_guard, ↓Hold_1, With_some, emap_nil, emap_cons, ↓eget_map, ↓eget_eset, ↓ae_tmp, ↓ae_int, ↓ae_bool, ↓ae_string, eget_zero, eget_succ, lop_pick, lop_not, asBool_bool, asGuard_bool, ayielded_eq, ↓dstAt_zero, ↓dstAt_succ, Option.map_some, Option.bind_some, ↓reduceIte, Nat.reduceEqDiff, reduceCtorEq, Bool.false_eq_true, decide_true, decide_false, Bool.not_true, Bool.not_false, List.getElem?_cons_zero, List.getElem?_cons_succ, Nat.zero_add, Nat.add_zero, Nat.reduceAdd, Nat.reduceMul, Nat.reduceLT, Nat.reduceLeDiff, and_true, true_and, and_self, List.map_cons, List.map_nil, List.all_cons, List.all_nil, tup_int, cel_int, tup_str, cel_str, tup_agg, cel_agg, Bool.and_true, List.drop_zero, List.toList_toArray, List.size_toArray, List.length_cons, List.length_nil, mapOwn_vo, mapOwn_agg, mapOwn_int, mapOwn_string, mapOwn_pointer, thaw_own, thawAll_own, toksL_nil, toksL_cons, toks_int, toks_string, toks_agg, toks_vo, okv_agg, okv_vs, okv_int, okv_string, List.flatMap_nil, List.flatMap_cons, List.all_nil, List.all_cons, List.append_nil, List.nil_append, List.cons_append, List.map_nil, List.map_cons, Bool.and_true, Bool.and_self, Bool.true_and, Bool.not_true, Bool.not_false, Bool.false_or, List.mem_cons, List.not_mem_nil, or_false, Prod.mk.injEq, beq_self_eq_true, vnext_mk, vpush_mk, vget_nil, vput_nil, cellsIn_mk, vturn_nil, vthaw_one, boxesOf_nil, boxesOf_none, List.getD_cons_zero, List.getD_cons_succ, List.set_cons_zero, List.set_cons_succ, List.length_cons, List.length_nil, List.drop_zero, List.take_succ_cons, List.take_zero, partsOk_nil, partsOk_cons, vfill_nil, vfill_cons, vbin_int, vbin_string, ↓vlay_free, cellsOk_free, cellF, tup_vo, cel_vo, List.replicate_succ, List.replicate_zero, abin_neq, abin_lss, abin_gtr, abin_add, abin_sub, beq_self_eq_true, gt_iff_lt, decide_true, decide_false, beq_self_eq_true, bne_self_eq_false, setAll_whole, afill, setAll, vld48, vld3, vld9, vst48, ↓val48, vfp48_0, vfp48_2, vfp48_1, bd48, pl48_0, pl48_1, pl48_2, vbd42, vbd46, vlr9, ↓vfk31, ↓vfk33, ↓alive_q, a1, a2, a3, a4, a5, ↓cl, ↓cm, ↓cw, ↓cr2, b1, w, ab_sadd z1 z2, hcat, ab_snq, e1, e2, e4, e5, e6]
              refine Vc_open [[], [], [], [], [], [], [], [], [], [], [], [], [], [], [], []] false (by kernel_rfl) (by kernel_rfl) (by kernel_rfl) ?_
              simp -dsimp only [↓VWP_ret, ↓VS_move, ↓VS_assign, ↓VS_load, ↓VS_binOp, ↓VS_slice, ↓VS_fieldAddr, ↓VS_len, ↓With_guard, ↓Hold_1, ↓Hold_3, With_some, emap_nil, ↓eget_map, ↓eget_eset, ↓ae_tmp, ↓ae_int, eget_zero, light, ↓vfinish_ret, ↓vres_nil, ↓vres_tmp, vtell_eq, ret1, Option.map_some, Option.bind_some, Option.map_none, ↓reduceIte, Nat.reduceEqDiff, reduceCtorEq, decide_true, List.getElem?_cons_zero, List.getElem?_cons_succ, Nat.zero_add, true_and, and_self, List.all_nil, List.toList_toArray, List.length_nil, mapOwn_bool, mapOwn_string, mapOwn_pointer, okv_bool, List.all_nil, vget_nil, cellsIn_mk, List.getD_cons_zero, List.getD_cons_succ, List.length_nil, vbin_int, vbin_string, abin_add, abin_sub, Int.toNat_natCast, decide_true, abound_some, ↓VE_nil, ↓VE_one0, List.reverse_nil, vld3, vld9, vfp48_2, vfp48_1, vsl9, vlr9, Tryd.results6, e1, e2, e3, e7, e8, e9, p4, ab_sq]
            · have hm : n = cutN s n := by unfold cutN; rw [if_neg b1]; omega
              have w : IntKind.i64.wrap ((s.size : Int) - n) = (s.size : Int) - n := wrap_id (by omega) (by omega)
              have cr2 := fun t S K => cr t _ hm S K
              generalize s.extract 0 (cutN s n) = A at *
              generalize s.extract (cutN s n) s.size = B at *
              generalize midS s a n = M at *
              simp -dsimp only [↓Hold_5, ↓VWP_seq, ↓VWP_region, ↓VWP_cond, ↓VWP_skip, ↓VWP_open, ↓VReg_one, ↓VReg_non, ↓VReg_nil, ↓VS_guard, ↓VS_move, ↓VS_assign, ↓VS_pick, ↓VS_build, ↓VS_load, ↓VS_binOp, ↓VS_unOp, ↓VS_fieldAddr, ↓VS_len, ↓VS_buildSlice, ↓VS_store, ↓With_mapH, ↓With_guard, ↓Hold_1, With_some, emap_nil, emap_cons, ↓eget_map, ↓eget_eset, ↓ae_tmp, ↓ae_int, ↓ae_bool, ↓ae_string, eget_zero, eget_succ, lop_pick, lop_not, asBool_bool, asGuard_bool, ayielded_eq, ↓dstAt_zero, ↓dstAt_succ, Option.map_some, Option.bind_some, ↓reduceIte, Nat.reduceEqDiff, reduceCtorEq, Bool.false_eq_true, decide_true, decide_false, Bool.not_true, Bool.not_false, List.getElem?_cons_zero, List.getElem?_cons_succ, Nat.zero_add, Nat.add_zero, Nat.reduceAdd, Nat.reduceMul, Nat.reduceLT, Nat.reduceLeDiff, and_true, true_and, and_self, List.map_cons, List.map_nil, List.all_cons, List.all_nil, tup_int, cel_int, tup_str, cel_str, tup_agg, cel_agg, Bool.and_true, List.drop_zero, List.toList_toArray, List.size_toArray, List.length_cons, List.length_nil, mapOwn_vo, mapOwn_agg, mapOwn_int, mapOwn_string, mapOwn_pointer, thaw_own, thawAll_own, toksL_nil, toksL_cons, toks_int, toks_string, toks_agg, toks_vo, okv_agg, okv_vs, okv_int, okv_string, List.flatMap_nil, List.flatMap_cons, List.all_nil, List.all_cons, List.append_nil, List.nil_append, List.cons_append, List.map_nil, List.map_cons, Bool.and_true, Bool.and_self, Bool.true_and, Bool.not_true, Bool.not_false, Bool.false_or, List.mem_cons, List.not_mem_nil, or_false, Prod.mk.injEq, beq_self_eq_true, vnext_mk, vpush_mk, vget_nil, vput_nil, cellsIn_mk, vturn_nil, vthaw_one, boxesOf_nil, boxesOf_none, List.getD_cons_zero, List.getD_cons_succ, List.set_cons_zero, List.set_cons_succ, List.length_cons, List.length_nil, List.drop_zero, List.take_succ_cons, List.take_zero, partsOk_nil, partsOk_cons, vfill_nil, vfill_cons, vbin_int, vbin_string, ↓vlay_free, cellsOk_free, cellF, tup_vo, cel_vo, List.replicate_succ, List.replicate_zero, abin_neq, abin_lss, abin_gtr, abin_add, abin_sub, beq_self_eq_true, gt_iff_lt, decide_true, decide_false, beq_self_eq_true, bne_self_eq_false, setAll_whole, afill, setAll, vld48, vld3, vld9, vst48, ↓val48, vfp48_0, vfp48_2, vfp48_1, bd48, pl48_0, pl48_1, pl48_2, vbd42, vbd46, vlr9, ↓vfk31, ↓vfk33, ↓alive_q, a1, a2, a3, a4, a5, ↓cl, ↓cm, ↓cw, ↓cr2, b1, w, ab_sadd z1 z2, hcat, ab_snq, e1, e2, e4, e5, e6]
              refine Vc_open [[], [], [], [], [], [], [], [], [], [], [], [], [], [], [], []] false (by kernel_rfl) (by kernel_rfl) (by kernel_rfl) ?_
              simp -dsimp only [↓VWP_ret, ↓VS_move, ↓VS_assign, ↓VS_load, ↓VS_binOp, ↓VS_slice, ↓VS_fieldAddr, ↓VS_len, ↓With_guard, ↓Hold_1, ↓Hold_3, With_some, emap_nil, ↓eget_map, ↓eget_eset, ↓ae_tmp, ↓ae_int, eget_zero, light, ↓vfinish_ret, ↓vres_nil, ↓vres_tmp, vtell_eq, ret1, Option.map_some, Option.bind_some, Option.map_none, ↓reduceIte, Nat.reduceEqDiff, reduceCtorEq, decide_true, List.getElem?_cons_zero, List.getElem?_cons_succ, Nat.zero_add, true_and, and_self, List.all_nil, List.toList_toArray, List.length_nil, mapOwn_bool, mapOwn_string, mapOwn_pointer, okv_bool, List.all_nil, vget_nil, cellsIn_mk, List.getD_cons_zero, List.getD_cons_succ, List.length_nil, vbin_int, vbin_string, abin_add, abin_sub, Int.toNat_natCast, decide_true, abound_some, ↓VE_nil, ↓VE_one0, List.reverse_nil, vld3, vld9, vfp48_2, vfp48_1, vsl9, vlr9, Tryd.results6, e1, e2, e3, e7, e8, e9, p4, ab_sq]
end Go.Proofs.YtmdpggecelheoaaDoor.Abs
/- The library's contracts at this program, printed by the shelf's own tool in plain words. -/
namespace Go.Proofs
open Go.Shelf
def Tryd.lays143_ren : Go.Shelf.Ren := ⟨fun | 143 => 154 | 219 => 78 | 217 => 134 | 225 => 135 | 224 => 136 | 267 => 137 | 266 => 161 | 314 => 162 | n => n, fun | 9 => 9 | 3 => 3 | 4 => 4 | 5 => 5 | 46 => 127 | 146 => 155 | 51 => 154 | n => n, fun | 1 => 0 | n => n⟩
theorem Tryd.lays143 : Go.Proofs.Lays.n143 Tryd.prog Tryd.lays143_ren := {
  mixed := by kernel_rfl
  f143 := Tryd.func154.trans (congrArg some (by kernel_rfl))
  f217 := Tryd.func134.trans (congrArg some (by kernel_rfl))
  f219 := Tryd.func78.trans (congrArg some (by kernel_rfl))
  f224 := Tryd.func136.trans (congrArg some (by kernel_rfl))
  f225 := Tryd.func135.trans (congrArg some (by kernel_rfl))
  f266 := Tryd.func161.trans (congrArg some (by kernel_rfl))
  f267 := Tryd.func137.trans (congrArg some (by kernel_rfl))
  f314 := Tryd.func162.trans (congrArg some (by kernel_rfl))
  t3 := Tryd.underlying3
  a3 := Tryd.isAgg3
  z3 := Tryd.sizeOf3
  v3 := Tryd.zeroValue3
  t4 := Tryd.underlying4
  a4 := Tryd.isAgg4
  z4 := Tryd.sizeOf4
  v4 := Tryd.zeroValue4
  t5 := Tryd.underlying5
  a5 := Tryd.isAgg5
  z5 := Tryd.sizeOf5
  v5 := Tryd.zeroValue5
  t9 := Tryd.underlying9
  a9 := Tryd.isAgg9
  z9 := Tryd.sizeOf9
  v9 := Tryd.zeroValue9
  t46 := Tryd.underlying127
  a46 := Tryd.isAgg127
  z46 := Tryd.sizeOf127
  v46 := Tryd.zeroValue127
  t51 := Tryd.underlying154
  a51 := Tryd.isAgg154
  z51 := Tryd.sizeOf154
  v51 := Tryd.zeroValue154
  t146 := Tryd.underlying155
  a146 := Tryd.isAgg155
  z146 := Tryd.sizeOf155
  v146 := Tryd.zeroValue155
  g1 := by kernel_rfl }
open Go.RowKit Go.Lib in
/-- strings.Index: "Index returns the index of the first instance of substr in s, or -1 if substr is not present in s.": IT RETURNS 'Lib.index s substr'; the world is as it was. (LAID: no walk: one application.) -/
theorem Tryd.strings_Index (s sub : ByteArray) (m : Int) (w : World) (hs : s.size < 4294967281) (hm : w.cell? ⟨0, 0, none⟩ = some (.int .i64 m)) :
    Calls Tryd.prog 154 #[.string s, .string sub] w fun e w' => e = .returned (.int .i64 (Lib.index s.data.toList sub.data.toList)) ∧ w' = w := Any.strings_Index Tryd.lays143 s sub m w hs hm
end Go.Proofs
/- What a row of numbers needs. -/
namespace Go.Proofs.YtmdpggecelheoaaDoor.Abs
open Go
end Go.Proofs.YtmdpggecelheoaaDoor.Abs
/- The law FuncsTexts over the plain heap; what is given from outside is sound. -/
set_option linter.unusedVariables false
namespace Go.Proofs.YtmdpggecelheoaaDoor.Abs
open Go Go.RowKit
/-- The wrap of a row, with the world's shape handed on. -/
theorem returns_shaped {H : Type} {enc : TypeId × Value → H} {a : Assume} {C : Checked} {os : Os} {f : FuncId} {fn : Func} {s : ChangeSpec} {conds : List PathCond} {apart fresh handsOn again : Bool} {X : World → Array Value → Prop}
    (hX : ∀ (w w' : World) (args : Array Value), w.heap = w'.heap → X w args → X w' args)
    (own : ownKnob C.prog.godebug = none) (started : os.Started) (noInit : C.prog.inits.idxOf? f = none) (hfn : C.prog.funcs[f]? = some fn)
    (witness : ∃ (w : World) (tape : Tape) (i : Input), w.os = os ∧ (w.forCall tape i).Shaped C.prog ∧ i.vars = [] ∧ Input.okWide C.prog (w.forCall tape i) .any w.heap.size f i ∧
      ((s.pre enc C.prog fn conds apart (w.forCall tape i).memory i.args ∧ X (w.forCall tape i).memory i.args) ∧ sizedMet enc C.prog fn (OpenSpec.ofChange s) apart (w.forCall tape i).memory i.args) ∧ a.holds C.prog (lone (Frame.enter C.prog f i.args .normal) [] (w.forCall tape i)))
    (contract : ∀ (W : World) (base : Nat) (args : Array Value) (ds gs : List (DataW H)) (before : List MemPlace),
      (∀ (j : Nat) t v, fn.params[j]? = some t → args[j]? = some v → Value.okWide C.prog W .any base t v) →
      DataW.Whole enc C.prog fn.params.toList s.vars apart W args.toList ds gs before →
      conds.all (PathCond.test C.prog ⟨fn.params.toList, ds, s.plain.varTypes C.prog, gs⟩) = true →
      (DataW.weightsEach C.prog (fn.params.toList ++ s.plain.varTypes C.prog) (ds ++ gs)).all (· ≤ reachBytes) = true → X W args → W.ShapedOpen C.prog →
      a.holds C.prog (lone (Frame.enter C.prog f args .normal) [] W) →
      Calls C.prog f args W fun e W' => ∃ v, e = .returned v ∧ s.post enc C.prog fn apart fresh handsOn again W args v W') :
    ReturnsInHanded a C os f .any (fun w args => (s.pre enc C.prog fn conds apart w args ∧ X w args) ∧ sizedMet enc C.prog fn (OpenSpec.ofChange s) apart w args) (s.post enc C.prog fn apart fresh handsOn again) := by
  refine returnsInHanded_of_calls own started noInit witness ?_
  intro w tape i _ hsh _ hok hpre hholds
  obtain ⟨_, _, _, fn', hfn', _, _, _, _, hval⟩ := hok
  have e : fn' = fn := Option.some.inj (hfn'.symm.trans hfn)
  subst e
  obtain ⟨⟨⟨ds, gs, before, hw, hc⟩, hx⟩, hz⟩ := hpre
  have hw' := DataW.Whole.of_heap (w' := w.forCall tape i) (by rfl) hw
  refine (contract (w.forCall tape i) w.heap.size i.args ds gs before hval hw' hc (hz.weights hw) (hX _ _ _ (by rfl) hx) hsh hholds).mono fun e W' ⟨v, he, hp⟩ => ?_
  subst he
  exact ChangeSpec.post_blind hp
def idxG : List Value → Hp → Option (Value × Hp) := fun args H => match args with
  | [.string s, .string u] => if s.size ≤ 1000 then some (.int .i64 (Lib.index s.data.toList u.data.toList), H) else none
  | _ => none
noncomputable def YQ : Outer := fun f => if f = 154 then some idxG else none
theorem idx_sound {B : Nat} {w0 : World} (hm : ∀ w, Below B w0 w → ∃ m, w.cell? ⟨0, 0, none⟩ = some (.int .i64 m)) : KSound Tryd.prog B w0 fun f' args H => if f' = 154 then idxG args H else none := by
  intro b hb f' args H v H' hr φ w args' hR ha
  simp only at hr
  split at hr
  · rename_i hff
    subst hff
    unfold idxG at hr
    split at hr
    · rename_i s u
      split at hr
      · rename_i hs
        cases hr
        have e : args' = [.string s, .string u] := flats_eq rfl ha
        subst e
        obtain ⟨m, hcell⟩ := hm w (hb ▸ hR.below)
        refine (Tryd.strings_Index s u m w (by omega) hcell).mono ?_
        rintro e w' ⟨rfl, rfl⟩
        exact ⟨φ, _, Plan.le_refl φ, rfl, .int _ _, hR⟩
      · cases hr
    · cases hr
  · cases hr
theorem yq_sound {W : World} (h : W.ShapedOpen Tryd.prog) : XSound Tryd.prog W.heap.size W YQ := by
  have h0 : ∃ m, W.cell? ⟨0, 0, none⟩ = some (.int .i64 m) := cell_of_shapedOpen_int (g := 0) (t := 3) (zero := #[.int .i64 0]) h (of_decide_eq_true (by kernel_rfl)) (by kernel_rfl) rfl (by kernel_rfl) (by kernel_rfl) Tryd.underlying3
  intro f g hg
  unfold YQ at hg
  split at hg
  · rename_i hf
    subst hf
    cases hg
    refine idx_sound fun w b => ?_
    obtain ⟨m, hm⟩ := h0
    refine ⟨m, ?_⟩
    have hlt : 0 < W.heap.size := by
      rcases Nat.eq_zero_or_pos W.heap.size with h | h
      · unfold World.cell? at hm
        rw [Array.getElem?_eq_none (by show W.heap.size ≤ 0; omega)] at hm
        cases hm
      · exact h
    unfold World.cell? at hm ⊢
    rw [b.block 0 hlt]
    exact hm
  · cases hg
theorem done_refl2 {R : Rl} {B : List Blk} (hR : HRel R B) (hf : ∀ d, R.ρ (d, none) = none) : Done R R B [] where
  hr := hR
  φ := rfl
  M := rfl
  nx := Nat.le_refl _
  fr := fun _ _ _ => rfl
  keep := fun _ _ _ => rfl
  frame := hf
  tok := fun k b h => .inl h
  w := fun p h => by cases h
theorem xq_ok : VXOk Tryd.prog YQ XQ := by
  intro f
  by_cases h : f = 154
  · subst h
    show ∀ args B r ws, idxV args B = some (r, ws) → _
    intro args B r ws hr R cargs hR hf ha
    unfold idxV at hr
    split at hr
    · rename_i s u
      split at hr
      · rename_i hs
        cases hr
        obtain ⟨c1, c2, rfl⟩ : ∃ c1 c2, cargs = [c1, c2] := by
          have := ha.1
          match cargs, this with
          | [c1, c2], _ => exact ⟨c1, c2, rfl⟩
        obtain rfl := ha.head.inv_string
        obtain rfl := ha.tail.head.inv_string
        exact Df_ext (g := idxG) (r := (.int .i64 (Lib.index s.data.toList u.data.toList), R.H)) rfl (by simp only [idxG, if_pos hs]) ⟨R, rfl, done_refl2 hR hf, .int _ _⟩
      · cases hr
    · cases hr
  · have e : XQ f = none := if_neg h
    rw [e]
    exact if_neg h
theorem lawT_df (s : ByteArray) (n a : Int) {H : Hp} : Df Tryd.prog YQ 6 [.string s, .int .i64 n, .int .i64 a] H fun r _ => r = .bool true :=
  Vf_Df xq_ok (lawT s n a) (.cons (.string _) (.cons (.int _ _) (.cons (.int _ _) .nil)))
end Go.Proofs.YtmdpggecelheoaaDoor.Abs
/- The law FuncsTexts holds, and its tied card: the parts of a text make it again, and where one is found; each argument reads behind the call as it read before. Condition: the listed package-level variables start as the program's text lays them, which the given tie shows. -/
namespace Go.Proofs.YtmdpggecelheoaaDoor.funcsTexts
open Go Go.ChangeShapes Go.WideShapes Go.ChangeAt Go.RowKit
open Go.ChangeMaps
open Go.Proofs.YtmdpggecelheoaaDoor.Abs
set_option linter.unusedVariables false
theorem own : ownKnob Tryd.prog.godebug = none := by kernel_rfl
theorem laidOut : laidOutB Tryd.prog = true := by kernel_rfl
theorem mixed : Tryd.prog.follows .mixedOrders = true := Checked.mixed Tryd.checked
set_option maxRecDepth 100000
theorem door_met (os : Os) (args : Array Value) : laidMetH Tryd.prog Rows.funcsTextsRow.laid ((World.doorLaid Tryd.prog 400 os).forCall (fun _ _ => 0) ⟨#[], args, []⟩).memory :=
  laidMetH_of_parts3 (fuel := 8) (laidMet_of_run' 8 (by kernel_rfl) (by kernel_rfl)) (by kernel_rfl) (by kernel_rfl)
theorem lifted (os : Os) (started : os.Started) (H : Type) (enc : TypeId × Value → H) :
    ReturnsInHanded {} Tryd.checked os 6 .any (fun w args => (Rows.funcsTextsSpec.pre enc Tryd.prog Tryd.f6 [] false w args ∧ laidMetH Tryd.prog Rows.funcsTextsRow.laid w) ∧ sizedMet enc Tryd.prog Tryd.f6 (OpenSpec.ofChange Rows.funcsTextsSpec) false w args)
      (Rows.funcsTextsSpec.post enc Tryd.prog Tryd.f6 false true false false) := by
  refine returns_shaped (C := Tryd.checked) (X := fun w _ => laidMetH Tryd.prog Rows.funcsTextsRow.laid w) (fun _ _ _ hh h => h.of_heap hh) own started (by kernel_rfl) Tryd.func6
    (ChangeSpec.witness_shaped (enc := enc) (C := Tryd.checked) (os := os) (X := fun w _ => laidMetH Tryd.prog Rows.funcsTextsRow.laid w) false (World.doorLaid Tryd.prog 400 os) #[.string .empty, .int .i64 0, .int .i64 0] 8 rfl (World.shaped_of_RefB (by kernel_rfl) (by kernel_rfl)) (by kernel_rfl) (by kernel_rfl) (by kernel_rfl) (door_met os _)) ?_
  intro W base args ds gs before hval0 hW _ _ hL hSh _
  have hval : ∀ (j : Nat) t v, Tryd.f6.params[j]? = some t → args[j]? = some v → Value.okWide Tryd.prog W .any base t v := hval0
  have hW' := hW
  obtain ⟨p, q, hA0, hV, rfl, hfz, hnd⟩ := hW
  have hA : DataW.TrodAll enc Tryd.prog W 0 (fun _ => true) true Tryd.f6.params.toList args.toList ds p := hA0
  rw [Tryd.params6] at hA hval
  obtain ⟨v0, vs0, d0, ds0, p0, q0, hargs, rfl, rfl, h0, r0⟩ := trodAll_cons hA
  obtain ⟨v1, vs1, d1, ds1, p1, q1, rfl, rfl, rfl, h1, r1⟩ := trodAll_cons r0
  obtain ⟨v2, vs2, d2, ds2, p2, q2, rfl, rfl, rfl, h2, r2⟩ := trodAll_cons r1
  obtain ⟨rfl, rfl, rfl⟩ := trodAll_nil r2
  obtain rfl : args = #[v0, v1, v2] := by cases args; simp_all
  obtain ⟨rfl, rfl⟩ := trodVars_none hV
  obtain ⟨a0, rfl, rfl, rfl, w0⟩ := open_string Tryd.underlying9 (hval 0 9 v0 rfl rfl) h0
  obtain ⟨a1, rfl, rfl, rfl, w1⟩ := open_int Tryd.underlying3 (hval 1 3 v1 rfl rfl) h1
  obtain ⟨a2, rfl, rfl, rfl, w2⟩ := open_int Tryd.underlying3 (hval 2 3 v2 rfl rfl) h2
  clear hA0 hval0
  refine (law_calls mixed (yq_sound hSh) (rel_start W) (.cons (.string _) (.cons (.int _ _) (VRs_one (.int _ _)))) (lawT_df _ _ _)).mono fun e W' ⟨he, bel⟩ => ?_
  subst he
  exact ⟨_, rfl, _, _, _, [], _, [], hW', trodAll_mk1 (shut_bool Tryd.underlying4 _), (trodAll_cons_mk (shut_string Tryd.underlying9 w0) (trodAll_cons_mk (shut_int Tryd.underlying3 w1) (trodAll_cons_mk (shut_int Tryd.underlying3 w2) trodAll_mk0))), rfl, bel.frame _, fun h => by cases h⟩
theorem over : Rows.funcsTextsRow.holds Tryd.pinned (OpenSpec.ofChange Rows.funcsTextsSpec) :=
  OpenClaim.holds_of_wide 6 Tryd.f6 rfl rfl rfl rfl rfl rfl rfl ⟨rfl, rfl, rfl, rfl, rfl⟩ rfl rfl rfl rfl rfl (by kernel_rfl) Tryd.func6 (by kernel_rfl)
    (of_decide_eq_true (by kernel_rfl)) (by unfold Func.isWrapper; first | (rw [if_pos (by decide +kernel)]; kernel_rfl) | (rw [if_neg (by decide +kernel)]; exact ⟨rfl, rfl⟩))
    (fun os started H enc _ => lifted os started H enc)
end Go.Proofs.YtmdpggecelheoaaDoor.funcsTexts
namespace Go.Proofs.YtmdpggecelheoaaDoor
open Go
theorem funcsTexts_card : Rows.FuncsTextsCardSaid :=
  Claim7.holds_tied_plain_at .later [] [.data, .data, .data] true (true, "3d4ef65ab9cb1b75a723f3501e7fecd5e6bcfd19ffc8ca5416c74e0e57128058") true
    funcsTexts.over (fun _ h => by cases h) (by kernel_rfl) (fun _ h => by cases h) funcsTexts_row_tie rfl ⟨rfl, rfl⟩ (by kernel_rfl) rfl
    (fun f fn hf hfn => by
      obtain rfl : f = 6 := Option.some.inj ((show Tryd.prog.funcNamed "abacist/abacistlaw10.FuncsTexts" = some 6 by kernel_rfl).symm.trans hf) |>.symm
      obtain rfl : fn = Tryd.f6 := (Option.some.inj (Tryd.func6.symm.trans hfn)).symm
      exact ⟨by kernel_rfl, fun j t ht => by
        rw [Tryd.params6] at ht
        have hm : t ∈ [9, 3] := by first | simpa using Array.mem_of_getElem? ht | (have h9 := Array.mem_of_getElem? ht; simp at h9 ⊢; rcases h9 with h9 | h9 | h9 <;> simp [h9]) | (have h9 := Array.mem_of_getElem? ht; simp at h9 ⊢; rcases h9 with h9 | h9 <;> simp [h9]) | (have h9 := Array.mem_of_getElem? ht; simp at h9 ⊢; rcases h9 with h9 | h9 | h9 | h9 <;> simp [h9]) | (have h9 := Array.mem_of_getElem? ht; simp at h9 ⊢; rcases h9 with h9 | h9 | h9 | h9 | h9 <;> simp [h9])
        have hall : ([9, 3].all fun u => !Tryd.prog.wantsStandIn u) = true := by kernel_rfl
        exact (show Tryd.prog.wantsStandIn t = false by simpa using List.all_eq_true.1 hall t hm)⟩)
    (by kernel_rfl)
#print axioms funcsTexts_card
end Go.Proofs.YtmdpggecelheoaaDoor
