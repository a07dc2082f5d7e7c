/- The laws of chapter 6 whose inputs are few: alive, run by the kernel. -/
import Derived.Test.YtmdpggecelheoaaDoorMP1
import Derived.KernelRfl
import Derived.Test.YtmdpggecelheoaaDoorMW9
import Derived.Test.YtmdpggecelheoaaDoorPVTF
import Derived.WalkKit
import Derived.ProofKit
import Derived.OpenShut
import Derived.ShutString
import Derived.ChangeOld
import Derived.Below
import Derived.SizedLaws
import Derived.LaidMore
import Derived.Stop.Joined
import Derived.Test.YtmdpggecelheoaaDoorPA20
import Derived.Test.YtmdpggecelheoaaDoorRows
import Derived.Test.YtmdpggecelheoaaDoorCards
import Derived.Test.YtmdpggecelheoaaDoorTie
import Derived.Lay
set_option linter.unusedVariables false
set_option maxRecDepth 100000
set_option maxHeartbeats 0
namespace Go.Proofs.YtmdpggecelheoaaDoor.Abs
open Go Go.RowKit
theorem true_sound3 {P : Program} (hm : P.follows .mixedOrders = true) {X' : Outer} {B : Nat} {w0 : World} (h : ∀ w, Below B w0 w → XSound P w.heap.size w X') {n : Nat} {k : FuncId} (hr : ansIs (run P X' n k [] ⟨0, .tip⟩) (.bool true) = true) : KSound P B w0 fun f' args H => if f' = k then trueG args H else none := by
  intro b hb f' args H v H' hrun φ w args' hR ha
  simp only at hrun
  split at hrun
  · rename_i hff
    subst hff
    unfold trueG at hrun
    split at hrun
    · cases hrun
      obtain ⟨H1, hr⟩ := ansIs_some hr
      have e : args' = [] := flats_eq rfl ha
      subst e
      refine (run_sound hm (h w (hb ▸ hR.below)) n w rfl f' [] _ (.bool true) H1 hr (fun _ => none) w [] (rel_start w) (flats_refl rfl)).mono ?_
      rintro e w' ⟨ψ, v', _, rfl, hv, hR'⟩
      exact ⟨φ, v', Plan.le_refl φ, rfl, by rw [hv.bool_inv]; exact .bool _, hR.grow hR'.below⟩
    · cases hrun
  · cases hrun
theorem alive_f : ansIs (crun Tryd.prog YP 100 35 [] ⟨0, .tip⟩) (.bool true) = true := by kernel_rfl
/-- The same, and alive told. -/
noncomputable def YQ : Outer := fun f => if f = 35 then some trueG else YP f
theorem yq_sound (mixed : Tryd.prog.follows .mixedOrders = true) {W : World} (h : LibP W) : XSound Tryd.prog W.heap.size W YQ := by
  intro f g hg
  unfold YQ at hg
  split at hg
  · rename_i hf
    subst hf
    cases hg
    exact true_sound3 mixed (fun w b => yp_sound (h.below b)) (f_ans alive_f)
  · exact yp_sound h f g hg
end Go.Proofs.YtmdpggecelheoaaDoor.Abs
/- The law ParseWrong: each of its texts, run by the kernel. -/
set_option linter.unusedVariables false
set_option maxRecDepth 100000
set_option maxHeartbeats 0
namespace Go.Proofs.YtmdpggecelheoaaDoor.Abs
open Go
noncomputable def tryW (w : Nat) : Bool := ansIs (crun Tryd.prog YQ 100 11 [.int .i64 w] ⟨0, .tip⟩) (.bool true)
theorem w_0 : ((List.range 5).all fun w => tryW (w + 0)) = true := by kernel_rfl
theorem w_1 : ((List.range 5).all fun w => tryW (w + 5)) = true := by kernel_rfl
theorem w_2 : ((List.range 5).all fun w => tryW (w + 10)) = true := by kernel_rfl
theorem w_3 : ((List.range 5).all fun w => tryW (w + 15)) = true := by kernel_rfl
theorem w_4 : ((List.range 5).all fun w => tryW (w + 20)) = true := by kernel_rfl
theorem w_5 : ((List.range 5).all fun w => tryW (w + 25)) = true := by kernel_rfl
theorem w_6 : ((List.range 5).all fun w => tryW (w + 30)) = true := by kernel_rfl
theorem w_7 : ((List.range 5).all fun w => tryW (w + 35)) = true := by kernel_rfl
theorem w_8 : ((List.range 1).all fun w => tryW (w + 40)) = true := by kernel_rfl
theorem all_w {w : Nat} (h : w < 41) : tryW w = true := by
  have go : ∀ {k n : Nat}, ((List.range n).all fun w => tryW (w + k)) = true → k ≤ w → w < k + n → tryW w = true := fun {k n} h h1 h2 => by
    rw [List.all_eq_true] at h
    have h3 := h (w - k) (List.mem_range.2 (by omega))
    rwa [Nat.sub_add_cancel h1] at h3
  by_cases h0 : w < 5
  · exact go w_0 (by omega) (by omega)
  by_cases h1 : w < 10
  · exact go w_1 (by omega) (by omega)
  by_cases h2 : w < 15
  · exact go w_2 (by omega) (by omega)
  by_cases h3 : w < 20
  · exact go w_3 (by omega) (by omega)
  by_cases h4 : w < 25
  · exact go w_4 (by omega) (by omega)
  by_cases h5 : w < 30
  · exact go w_5 (by omega) (by omega)
  by_cases h6 : w < 35
  · exact go w_6 (by omega) (by omega)
  by_cases h7 : w < 40
  · exact go w_7 (by omega) (by omega)
  exact go w_8 (by omega) (by omega)
end Go.Proofs.YtmdpggecelheoaaDoor.Abs
/- The law ParseWrong over the plain heap. -/
set_option linter.unusedVariables false
set_option linter.unusedSimpArgs false
set_option maxRecDepth 8000
set_option maxHeartbeats 0
namespace Go.Proofs.YtmdpggecelheoaaDoor.Abs
open Go Go.RowKit
attribute [local irreducible] Hold VReg Vf Vc VWP With VStp Vcallee Vp VE
def trueP : List Value → List Blk → Option (Value × List (Nat × Blk)) := fun args _ => match args with
  | [] => some (.bool true, [])
  | _ => none
noncomputable def XQ : VOuter := fun f => if f = 35 then some trueP else if (YP f).isSome then some (fun _ _ => none) else none
theorem done_refl6 {R : Rl} {B : List Blk} (hR : HRel R B) (hf : ∀ d, R.ρ (d, none) = none) : Done R R B [] where
  hr := hR
  φ := rfl
  M := rfl
  nx := Nat.le_refl _
  fr := fun _ _ _ => rfl
  keep := fun _ _ _ => rfl
  frame := hf
  tok := fun k b h => .inl h
  w := fun p h => by cases h
theorem xq_ok : VXOk Tryd.prog YQ XQ := by
  intro f
  by_cases h : f = 35
  · subst h
    show ∀ args B r ws, trueP args B = some (r, ws) → _
    intro args B r ws hr R cargs hR hf ha
    unfold trueP at hr
    split at hr
    · cases hr
      obtain rfl : cargs = [] := List.length_eq_zero_iff.1 ha.1.symm
      exact Df_ext (g := trueG) (r := (.bool true, R.H)) rfl rfl ⟨R, rfl, done_refl6 hR hf, .bool true⟩
    · cases hr
  · cases hY : YP f with
    | none =>
      have e : XQ f = none := by unfold XQ; rw [if_neg h, hY]; rfl
      rw [e]
      show YQ f = none
      unfold YQ
      rw [if_neg h, hY]
    | some g =>
      have e : XQ f = some (fun _ _ => none) := by unfold XQ; rw [if_neg h, hY]; rfl
      rw [e]
      intro args B r ws hr
      cases hr
theorem alive_q (S : VH) (K : VCont) : Vcallee Tryd.prog XQ 35 [] S K = K (.bool true) [] S [] false := by
  refine Vcallee_of ?_ rfl rfl rfl
  unfold Vp
  exact Vf_outer (g := trueP) rfl (by with_unfolding_all exact ⟨rfl, rfl⟩)
theorem lawW_out {w : Int} (h : w < 0 ∨ 41 ≤ w) : Vf Tryd.prog XQ 11 [.int .i64 w] [] fun v _ => v = .bool true := by
  refine Vf_text rfl Tryd.func11 rfl (by kernel_rfl) (by show 1 ≤ _; decide) ?_
  by_cases a1 : w < 0
  · simp -dsimp only [↓Hold_5, toks_sl, thaw_sl, scrub_sl, thawAll_sl, lend_sl, drop_sl, okv_sl, okv_sl0, tup_sl, cel_sl, cellV_sl, isAggV_sl, velems_sl, toks_ol, thawAll_ol, lend_ol, thaw_ol, tup_ol, cel_ol, velems_ol, thaw_tok0, thaw_tok1, growT_sl, growT_ro, growT_at, vgrow_ol, ↓VWP_seq, ↓VWP_region, ↓VWP_cond, ↓VWP_ret, ↓VWP_skip, ↓VWP_block, ↓VWP_exit, ↓VWP_loop, ↓VWP_open, ↓VReg_one, ↓VReg_non, ↓VReg_nil, ↓VS_guard, ↓VS_move, ↓VS_assign, ↓VS_pick, ↓VS_build, ↓VS_load, ↓VS_nilCheck, ↓VS_binOp, ↓VS_unOp, ↓VS_makeFunc, ↓VS_slice, ↓VS_fieldAddr, ↓VS_field, ↓VS_indexAddr, ↓VS_index, ↓VS_extract, ↓VS_len, ↓VS_min, ↓VS_max, ↓VS_box, ↓VS_buildSlice, ↓VS_store, ↓VS_append, ↓VS_callv, ↓With_mapH, ↓With_bindH, ↓With_guard, ↓Hold_1, ↓Hold_2, ↓Hold_3, With_some, With_none, emap_nil, emap_cons, ↓eget_map, ↓eget_eset, ↓ae_tmp, ↓ae_int, ↓ae_bool, ↓ae_string, ↓ae_func, ↓ae_slice0, ↓ae_ptr0, eget_zero, eget_succ, eget_nil, lop_pick, lop_extract, lop_not, asBool_bool, asGuard_bool, asGuard_nr, bb_ff, bb_ft, bb_tf, bb_tt, ayielded_eq, ↓dstAt_zero, ↓dstAt_succ, light, ↓vfinish_ret, ↓vfinish_normal, ↓vres_nil, ↓vres_tmp, ↓vres_cell, vtell_eq, ret1, Option.map_some, Option.bind_some, Option.map_none, Option.bind_none, ↓reduceIte, Nat.reduceEqDiff, reduceCtorEq, Bool.false_eq_true, Nat.reduceBEq, decide_true, decide_false, Bool.not_true, Bool.not_false, List.getElem?_toArray, List.getElem?_cons_zero, List.getElem?_cons_succ, Nat.zero_add, Nat.add_zero, Nat.reduceAdd, Nat.reduceMul, Nat.reduceSub, Nat.reduceLT, Nat.reduceLeDiff, and_true, true_and, and_self, List.map_cons, List.map_nil, List.all_cons, List.all_nil, tup_int, cel_int, tup_bool, cel_bool, tup_str, cel_str, tup_slice, cel_slice, tup_ptr, cel_ptr, tup_nilf, cel_nilf, tup_nili, cel_nili, tup_map, cel_map, tup_ifc, cel_ifc, tup_func, cel_func, tup_agg, cel_agg, Bool.and_true, List.drop_zero, List.toList_toArray, List.size_toArray, List.length_cons, List.length_nil, fill_one, setAll_one, mapOwn_vs, mapOwn_vo, mapOwn_vp, mapOwn_agg, mapOwn_tuple, mapOwn_iface, mapOwn_clo, mapOwn_bool, mapOwn_int, mapOwn_string, mapOwn_pointer, mapOwn_slice, mapOwn_chan, mapOwn_nilFunc, mapOwn_nilIface, mapOwn_undef, mapOwn_nr, thaw_own, thawAll_own, scrub_own, lend_own_true, thaw_ro, thawAll_ro, scrub_ro, lend_ro, drop_ro, fate_ro, thaw_at, scrub_at, drop_at, fate_at, mapOwnL_nil, mapOwnL_cons, okvL_nil, okvL_cons, toksL_nil, toksL_cons, toks_int, toks_bool, toks_string, toks_pointer, toks_slice, toks_nilFunc, toks_nilIface, toks_agg, toks_tuple, toks_iface, toks_clo, toks_vs, toks_vo, okv_agg, okv_tuple, okv_iface, okv_clo, okv_vs, okv_vo, okv_vp, okv_vq, okv_vr, okv_bool, okv_int, okv_string, okv_ptr0, okv_ptr, okv_slice0, okv_nilFunc, okv_nilIface, okv_chan, List.flatMap_nil, List.flatMap_cons, List.all_nil, List.all_cons, List.append_nil, List.nil_append, List.cons_append, List.map_nil, List.map_cons, List.isEmpty_nil, List.isEmpty_cons, Bool.and_true, Bool.and_false, Bool.false_and, Bool.and_self, Bool.true_and, Bool.not_true, Bool.not_false, Bool.false_or, Bool.true_or, Bool.or_false, List.mem_cons, List.mem_singleton, List.not_mem_nil, or_false, false_or, Prod.mk.injEq, beq_self_eq_true, vnext_mk, vpush_mk, vget_nil, vput_nil, vget_loc, vput_loc, cellsIn_mk, vturn_nil, vturn_cons, vthaw_one, vthaw_nil, boxesOf_nil, boxesOf_none, boxesOf_some, ownBox_none, ownBox_some, vputs_nil, vall_mk, vwrites_nil, List.getD_cons_zero, List.getD_cons_succ, List.set_cons_zero, List.set_cons_succ, List.length_cons, List.length_nil, List.drop_zero, List.drop_succ_cons, List.take_succ_cons, List.take_zero, getD_app, getD_app0, set_app, set_app0, List.append_assoc, List.length_append, vload_at, vload_atOwn, vload_inOwn, vfield_at, vfield_atOwn, vfield_inOwn, cellV_int, cellV_bool, cellV_string, cellV_vs, cellV_vo, cellV_slice, cellV_pointer, cellV_func, cellV_nilFunc, cellV_nilIface, cellV_iface, aggV_agg, isAggV_int, isAggV_bool, isAggV_string, isAggV_slice, isAggV_vs, isAggV_vo, isAggV_func, velems_ro, velems_own, velems_nil, vgrow_nil, vgrow_own, partsOk_nil, partsOk_cons, vfill_nil, vfill_cons, vnil_ptr, vnil_at, vnil_atOwn, vnil_fun, vbin_int, vbin_bool, vbin_string, ↓vlay_free, ↓vbox_free, cellsOk_free, cellF, tup_vs, tup_vo, cel_vs, cel_vo, asClo_fun, List.replicate_succ, List.replicate_zero, abin_eql, abin_neq, abin_lss, abin_leq, abin_gtr, abin_geq, abin_add, abin_sub, abin_mul, Int.cast_ofNat_Int, beq_self_eq_true, Int.reduceLT, Int.reduceLE, Int.reduceToNat, Int.toNat_natCast, Int.reduceBEq, Int.reduceBNe, Int.reduceSub, Int.reduceAdd, gt_iff_lt, ge_iff_le, Int.lt_irrefl, decide_true, decide_false, Bool.not_eq_true, beq_self_eq_true, bb_ff, bb_ft, bb_tf, bb_tt, bne_self_eq_false, setAll_whole, afill, setAll, ibeq, ibne, Int.reduceEq, Int.reduceNe, Int.reduceNeg, abound_none, abound_some, vld9, vgt9, vld3, vgt3, vst58, ↓val58, vbd44, vbd43, vix44, vio44, vis44, viw44, vix43, vio43, vis43, viw43, vlr44, vlo44, vlz44, vls44, vlw44, ↓vfk35, ↓vfk36, ↓vfk37, Tryd.results11, ↓alive_q, a1]
  · have a2 : (41 : Int) ≤ w := by omega
    simp -dsimp only [↓Hold_5, toks_sl, thaw_sl, scrub_sl, thawAll_sl, lend_sl, drop_sl, okv_sl, okv_sl0, tup_sl, cel_sl, cellV_sl, isAggV_sl, velems_sl, toks_ol, thawAll_ol, lend_ol, thaw_ol, tup_ol, cel_ol, velems_ol, thaw_tok0, thaw_tok1, growT_sl, growT_ro, growT_at, vgrow_ol, ↓VWP_seq, ↓VWP_region, ↓VWP_cond, ↓VWP_ret, ↓VWP_skip, ↓VWP_block, ↓VWP_exit, ↓VWP_loop, ↓VWP_open, ↓VReg_one, ↓VReg_non, ↓VReg_nil, ↓VS_guard, ↓VS_move, ↓VS_assign, ↓VS_pick, ↓VS_build, ↓VS_load, ↓VS_nilCheck, ↓VS_binOp, ↓VS_unOp, ↓VS_makeFunc, ↓VS_slice, ↓VS_fieldAddr, ↓VS_field, ↓VS_indexAddr, ↓VS_index, ↓VS_extract, ↓VS_len, ↓VS_min, ↓VS_max, ↓VS_box, ↓VS_buildSlice, ↓VS_store, ↓VS_append, ↓VS_callv, ↓With_mapH, ↓With_bindH, ↓With_guard, ↓Hold_1, ↓Hold_2, ↓Hold_3, With_some, With_none, emap_nil, emap_cons, ↓eget_map, ↓eget_eset, ↓ae_tmp, ↓ae_int, ↓ae_bool, ↓ae_string, ↓ae_func, ↓ae_slice0, ↓ae_ptr0, eget_zero, eget_succ, eget_nil, lop_pick, lop_extract, lop_not, asBool_bool, asGuard_bool, asGuard_nr, bb_ff, bb_ft, bb_tf, bb_tt, ayielded_eq, ↓dstAt_zero, ↓dstAt_succ, light, ↓vfinish_ret, ↓vfinish_normal, ↓vres_nil, ↓vres_tmp, ↓vres_cell, vtell_eq, ret1, Option.map_some, Option.bind_some, Option.map_none, Option.bind_none, ↓reduceIte, Nat.reduceEqDiff, reduceCtorEq, Bool.false_eq_true, Nat.reduceBEq, decide_true, decide_false, Bool.not_true, Bool.not_false, List.getElem?_toArray, List.getElem?_cons_zero, List.getElem?_cons_succ, Nat.zero_add, Nat.add_zero, Nat.reduceAdd, Nat.reduceMul, Nat.reduceSub, Nat.reduceLT, Nat.reduceLeDiff, and_true, true_and, and_self, List.map_cons, List.map_nil, List.all_cons, List.all_nil, tup_int, cel_int, tup_bool, cel_bool, tup_str, cel_str, tup_slice, cel_slice, tup_ptr, cel_ptr, tup_nilf, cel_nilf, tup_nili, cel_nili, tup_map, cel_map, tup_ifc, cel_ifc, tup_func, cel_func, tup_agg, cel_agg, Bool.and_true, List.drop_zero, List.toList_toArray, List.size_toArray, List.length_cons, List.length_nil, fill_one, setAll_one, mapOwn_vs, mapOwn_vo, mapOwn_vp, mapOwn_agg, mapOwn_tuple, mapOwn_iface, mapOwn_clo, mapOwn_bool, mapOwn_int, mapOwn_string, mapOwn_pointer, mapOwn_slice, mapOwn_chan, mapOwn_nilFunc, mapOwn_nilIface, mapOwn_undef, mapOwn_nr, thaw_own, thawAll_own, scrub_own, lend_own_true, thaw_ro, thawAll_ro, scrub_ro, lend_ro, drop_ro, fate_ro, thaw_at, scrub_at, drop_at, fate_at, mapOwnL_nil, mapOwnL_cons, okvL_nil, okvL_cons, toksL_nil, toksL_cons, toks_int, toks_bool, toks_string, toks_pointer, toks_slice, toks_nilFunc, toks_nilIface, toks_agg, toks_tuple, toks_iface, toks_clo, toks_vs, toks_vo, okv_agg, okv_tuple, okv_iface, okv_clo, okv_vs, okv_vo, okv_vp, okv_vq, okv_vr, okv_bool, okv_int, okv_string, okv_ptr0, okv_ptr, okv_slice0, okv_nilFunc, okv_nilIface, okv_chan, List.flatMap_nil, List.flatMap_cons, List.all_nil, List.all_cons, List.append_nil, List.nil_append, List.cons_append, List.map_nil, List.map_cons, List.isEmpty_nil, List.isEmpty_cons, Bool.and_true, Bool.and_false, Bool.false_and, Bool.and_self, Bool.true_and, Bool.not_true, Bool.not_false, Bool.false_or, Bool.true_or, Bool.or_false, List.mem_cons, List.mem_singleton, List.not_mem_nil, or_false, false_or, Prod.mk.injEq, beq_self_eq_true, vnext_mk, vpush_mk, vget_nil, vput_nil, vget_loc, vput_loc, cellsIn_mk, vturn_nil, vturn_cons, vthaw_one, vthaw_nil, boxesOf_nil, boxesOf_none, boxesOf_some, ownBox_none, ownBox_some, vputs_nil, vall_mk, vwrites_nil, List.getD_cons_zero, List.getD_cons_succ, List.set_cons_zero, List.set_cons_succ, List.length_cons, List.length_nil, List.drop_zero, List.drop_succ_cons, List.take_succ_cons, List.take_zero, getD_app, getD_app0, set_app, set_app0, List.append_assoc, List.length_append, vload_at, vload_atOwn, vload_inOwn, vfield_at, vfield_atOwn, vfield_inOwn, cellV_int, cellV_bool, cellV_string, cellV_vs, cellV_vo, cellV_slice, cellV_pointer, cellV_func, cellV_nilFunc, cellV_nilIface, cellV_iface, aggV_agg, isAggV_int, isAggV_bool, isAggV_string, isAggV_slice, isAggV_vs, isAggV_vo, isAggV_func, velems_ro, velems_own, velems_nil, vgrow_nil, vgrow_own, partsOk_nil, partsOk_cons, vfill_nil, vfill_cons, vnil_ptr, vnil_at, vnil_atOwn, vnil_fun, vbin_int, vbin_bool, vbin_string, ↓vlay_free, ↓vbox_free, cellsOk_free, cellF, tup_vs, tup_vo, cel_vs, cel_vo, asClo_fun, List.replicate_succ, List.replicate_zero, abin_eql, abin_neq, abin_lss, abin_leq, abin_gtr, abin_geq, abin_add, abin_sub, abin_mul, Int.cast_ofNat_Int, beq_self_eq_true, Int.reduceLT, Int.reduceLE, Int.reduceToNat, Int.toNat_natCast, Int.reduceBEq, Int.reduceBNe, Int.reduceSub, Int.reduceAdd, gt_iff_lt, ge_iff_le, Int.lt_irrefl, decide_true, decide_false, Bool.not_eq_true, beq_self_eq_true, bb_ff, bb_ft, bb_tf, bb_tt, bne_self_eq_false, setAll_whole, afill, setAll, ibeq, ibne, Int.reduceEq, Int.reduceNe, Int.reduceNeg, abound_none, abound_some, vld9, vgt9, vld3, vgt3, vst58, ↓val58, vbd44, vbd43, vix44, vio44, vis44, viw44, vix43, vio43, vis43, viw43, vlr44, vlo44, vlz44, vls44, vlw44, ↓vfk35, ↓vfk36, ↓vfk37, Tryd.results11, ↓alive_q, a1, a2]
theorem lawW_df (w : Int) : Df Tryd.prog YQ 11 [.int .i64 w] ⟨0, .tip⟩ fun r _ => r = .bool true := by
  by_cases h : 0 ≤ w ∧ w < 41
  · obtain ⟨h0, h1⟩ := h
    obtain ⟨n, rfl⟩ := Int.eq_ofNat_of_zero_le h0
    obtain ⟨H, hr⟩ := ansIs_some (f_ans (all_w (w := n) (by omega)))
    exact ⟨100, (_, H), hr, rfl⟩
  · exact Vf_Df xq_ok (lawW_out (by omega)) (.cons (.of_flat 8 _ rfl) .nil)
end Go.Proofs.YtmdpggecelheoaaDoor.Abs
/- What a row of numbers needs. -/
namespace Go.Proofs.YtmdpggecelheoaaDoor.Abs
open Go
end Go.Proofs.YtmdpggecelheoaaDoor.Abs
/- The law ParseWrong holds, and its tied card: which texts are none, where, and what is near them; each argument reads behind the call as it read before. Condition: the listed package-level variables start as the program's text lays them, which the given tie shows. -/
namespace Go.Proofs.YtmdpggecelheoaaDoor.parseWrong
open Go Go.ChangeShapes Go.WideShapes Go.ChangeAt Go.RowKit
open Go
open Go.Proofs.YtmdpggecelheoaaDoor.Abs
set_option linter.unusedVariables false
theorem own : ownKnob Tryd.prog.godebug = none := by kernel_rfl
theorem laidOut : laidOutB Tryd.prog = true := by kernel_rfl
theorem mixed : Tryd.prog.follows .mixedOrders = true := Checked.mixed Tryd.checked
set_option maxRecDepth 100000
theorem door_met (os : Os) (args : Array Value) : laidMetH Tryd.prog Rows.parseWrongRow.laid ((World.laidAll Tryd.prog os Rows.parseWrongRow.laid).forCall (fun _ _ => 0) ⟨#[], args, []⟩).memory :=
  show laidMet Tryd.prog Rows.parseWrongRow.laid _ from laidMet_laidAll args (by kernel_rfl) (by kernel_rfl)
theorem lifted (os : Os) (started : os.Started) (H : Type) (enc : TypeId × Value → H) :
    ReturnsInHanded {} Tryd.checked os 11 .any (fun w args => (Rows.parseWrongSpec.pre enc Tryd.prog Tryd.f11 [] false w args ∧ laidMetH Tryd.prog Rows.parseWrongRow.laid w) ∧ sizedMet enc Tryd.prog Tryd.f11 (OpenSpec.ofChange Rows.parseWrongSpec) false w args)
      (Rows.parseWrongSpec.post enc Tryd.prog Tryd.f11 false true false false) := by
  refine returnsInHanded_of_change_and (C := Tryd.checked) (X := fun w _ => laidMetH Tryd.prog Rows.parseWrongRow.laid w) (fun _ _ _ hh h => h.of_heap hh) own started (by kernel_rfl) Tryd.func11
    (ChangeSpec.witness_shaped (enc := enc) (C := Tryd.checked) (os := os) (X := fun w _ => laidMetH Tryd.prog Rows.parseWrongRow.laid w) false (World.laidAll Tryd.prog os Rows.parseWrongRow.laid) #[.int .i64 0] 8 (World.laidAll_os _ _ _) (World.shaped_of_RefB (by kernel_rfl) (by kernel_rfl)) (by kernel_rfl) (by kernel_rfl) (by kernel_rfl) (door_met os _)) ?_
  intro W base args ds gs before hval0 hW _ _ hL _
  have hval : ∀ (j : Nat) t v, Tryd.f11.params[j]? = some t → args[j]? = some v → Value.okWide Tryd.prog W .any base t v := hval0
  have hW' := hW
  obtain ⟨p, q, hA0, hV, rfl, hfz, hnd⟩ := hW
  have hA : DataW.TrodAll enc Tryd.prog W 0 (fun _ => true) true Tryd.f11.params.toList args.toList ds p := hA0
  rw [Tryd.params11] at hA hval
  obtain ⟨v0, vs0, d0, ds0, p0, q0, hargs, rfl, rfl, h0, r0⟩ := trodAll_cons hA
  obtain ⟨rfl, rfl, rfl⟩ := trodAll_nil r0
  obtain rfl : args = #[v0] := by cases args; simp_all
  obtain ⟨rfl, rfl⟩ := trodVars_none hV
  obtain ⟨a0, rfl, rfl, rfl, w0⟩ := open_int Tryd.underlying3 (hval 0 3 v0 rfl rfl) h0
  have hL2 : laidMet Tryd.prog Rows.parseWrongRow.laid W := hL
  have lib : LibP W := ⟨pow10_p hL2.tail.tail, syn_p hL2.tail.tail.tail.tail, ran_p hL2.tail.tail.tail⟩
  clear hA0 hval0
  refine (law_calls mixed (yq_sound mixed lib) (rel_start W) (VRs_one (.int _ _)) (lawW_df _)).mono fun e W' ⟨he, bel⟩ => ?_
  subst he
  exact ⟨_, rfl, _, _, _, [], _, [], hW', trodAll_mk1 (shut_bool Tryd.underlying4 _), (trodAll_cons_mk (shut_int Tryd.underlying3 w0) trodAll_mk0), rfl, bel.frame _, fun h => by cases h⟩
theorem over : Rows.parseWrongRow.holds Tryd.pinned (OpenSpec.ofChange Rows.parseWrongSpec) :=
  OpenClaim.holds_of_wide 11 Tryd.f11 rfl rfl rfl rfl rfl rfl rfl ⟨rfl, rfl, rfl, rfl, rfl⟩ rfl rfl rfl rfl rfl (by kernel_rfl) Tryd.func11 (by kernel_rfl)
    (of_decide_eq_true (by kernel_rfl)) (by unfold Func.isWrapper; first | (rw [if_pos (by decide +kernel)]; kernel_rfl) | (rw [if_neg (by decide +kernel)]; exact ⟨rfl, rfl⟩))
    (fun os started H enc _ => lifted os started H enc)
end Go.Proofs.YtmdpggecelheoaaDoor.parseWrong
namespace Go.Proofs.YtmdpggecelheoaaDoor
open Go
theorem parseWrong_card : Rows.ParseWrongCardSaid :=
  Claim7.holds_tied_plain_at .later [] [.data, .data, .data, .sentinel, .sentinel] true (true, "3d4ef65ab9cb1b75a723f3501e7fecd5e6bcfd19ffc8ca5416c74e0e57128058") true
    parseWrong.over (fun _ h => by cases h) (by kernel_rfl) (fun _ h => by cases h) parseWrong_row_tie rfl ⟨rfl, rfl⟩ (by kernel_rfl) rfl
    (fun f fn hf hfn => by
      obtain rfl : f = 11 := Option.some.inj ((show Tryd.prog.funcNamed "abacist/abacistlaw6.ParseWrong" = some 11 by kernel_rfl).symm.trans hf) |>.symm
      obtain rfl : fn = Tryd.f11 := (Option.some.inj (Tryd.func11.symm.trans hfn)).symm
      exact ⟨by kernel_rfl, fun j t ht => by
        rw [Tryd.params11] at ht
        have hm : t ∈ [3] := by first | simpa using Array.mem_of_getElem? ht | (have h9 := Array.mem_of_getElem? ht; simp at h9 ⊢; rcases h9 with h9 | h9 | h9 <;> simp [h9]) | (have h9 := Array.mem_of_getElem? ht; simp at h9 ⊢; rcases h9 with h9 | h9 <;> simp [h9]) | (have h9 := Array.mem_of_getElem? ht; simp at h9 ⊢; rcases h9 with h9 | h9 | h9 | h9 <;> simp [h9]) | (have h9 := Array.mem_of_getElem? ht; simp at h9 ⊢; rcases h9 with h9 | h9 | h9 | h9 | h9 <;> simp [h9])
        have hall : ([3].all fun u => !Tryd.prog.wantsStandIn u) = true := by kernel_rfl
        exact (show Tryd.prog.wantsStandIn t = false by simpa using List.all_eq_true.1 hall t hm)⟩)
    (by kernel_rfl)
#print axioms parseWrong_card
end Go.Proofs.YtmdpggecelheoaaDoor
