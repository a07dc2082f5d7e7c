/- The functions of values: what they do with rows of values. -/
import Derived.Test.YtmdpggecelheoaaDoorPVTF
import Derived.Test.YtmdpggecelheoaaDoorMW9
set_option linter.unusedVariables false
set_option linter.unusedSimpArgs false
set_option maxRecDepth 4000
set_option maxHeartbeats 0
namespace Go.Proofs.YtmdpggecelheoaaDoor.Abs
open Go
attribute [local irreducible] Hold VReg Vf Vc VWP With VStp Vcallee Vp
/-- A value: its kind, its number, its text. -/
structure VV where
  k : Int
  n : Int
  s : ByteArray
def VV.v (x : VV) : Value := .agg ⟨[.int .i64 x.k, .int .i64 x.n, .string x.s]⟩
def vI (n : Int) : Value := .int .i64 n
def intsF (l : List VV) : List Int := (l.filter fun x => x.k == 1).map (·.n)
theorem intsF_take (l : List VV) (i : Nat) (h : i < l.length) : intsF (l.take (i + 1)) = intsF (l.take i) ++ if l[i].k = 1 then [l[i].n] else [] := by
  rw [← List.take_append_getElem h]
  unfold intsF
  rw [List.filter_append, List.map_append]
  by_cases hk : l[i].k = 1 <;> simp [hk]
theorem intsF_len (l : List VV) : (intsF l).length ≤ l.length := by unfold intsF; rw [List.length_map]; exact List.length_filter_le _ _
theorem ints_p {X : VOuter} (hX : X 93 = none) (c : Bool) (d : Nat) (l : List VV) (hl : l.length ≤ 1000000000) : Vp Tryd.prog X 93 [sl c d 3 (l.map VV.v)] (sl true 0 1 ((intsF l).map vI)) := by
  unfold Vp
  refine Vf_text hX Tryd.func93 rfl (by kernel_rfl) (by show 1 ≤ _; decide) ?_
  simp -dsimp only [↓VWP_seq, ↓VWP_region, ↓VWP_block, ↓VWP_loop, ↓VReg_one, ↓VReg_nil, ↓VS_move, ↓VS_assign, ↓VS_len, ↓Hold_1, With_some, emap_nil, ↓eget_eset, ↓ae_tmp, ↓ae_int, ↓ae_slice0, eget_zero, ↓reduceIte, reduceCtorEq, vls42, List.length_map]
  refine Vc_loop (fun m e S => ∃ i : Nat, m = l.length - i ∧ i ≤ l.length ∧ eget e 6 = sl c d 3 (l.map VV.v) ∧ eget e 7 = .int .i64 l.length ∧ eget e 8 = .int .i64 i ∧ eget e 3 = ol true (19, none) 1 ((intsF (l.take i)).map vI) ∧ ∃ J, S = ⟨[], J, []⟩) l.length ?_ ?_
  · refine ⟨0, rfl, Nat.zero_le _, ?_, ?_, ?_, ?_, [], rfl⟩ <;> simp only [↓eget_eset, ↓reduceIte, Nat.reduceEqDiff] <;> rfl
  · rintro m e S ⟨i, rfl, hi, e6, e7, e8, e3, J, rfl⟩
    refine VWP_Vc _ _ _ _ ?_
    by_cases hin : i < l.length
    · have hlt : (i : Int) < l.length := by omega
      have h0 : (0 : Int) ≤ i := by omega
      have hx : (l.map VV.v)[i]? = some l[i].v := by simp [hin]
      have ht := intsF_take l i hin
      have hlen := intsF_len (l.take i)
      rw [List.length_take] at hlen
      have hnum : ((i : Int) + 1) = ((i + 1 : Nat) : Int) := by omega
      have hwr : IntKind.i64.wrap ((i : Int) + 1) = ((i + 1 : Nat) : Int) := by rw [hnum]; exact wrap_id (by omega) (by omega)
      generalize l[i] = x at hx ht
      obtain ⟨k, n, s⟩ := x
      simp only [VV.v] at hx
      have hb : (intsF (List.take i l)).length + 1 ≤ 9223372036854775807 ∧ ((intsF (List.take i l)).length + 1) * 8 ≤ 140737488355328 := by omega
      by_cases hk : k = 1
      · have hk' := hk
        simp -dsimp only [thaw_sl, thaw_ol, growT_sl, vgrow_ol, ↓VWP_seq, ↓VWP_region, ↓VWP_cond, ↓VWP_skip, ↓VWP_block, ↓VReg_one, ↓VReg_non, ↓VReg_nil, ↓VS_move, ↓VS_assign, ↓VS_load, ↓VS_binOp, ↓VS_fieldAddr, ↓VS_indexAddr, ↓VS_buildSlice, ↓VS_store, ↓VS_append, ↓With_guard, ↓Hold_1, With_some, emap_nil, emap_cons, ↓eget_map, ↓eget_eset, ↓ae_tmp, ↓ae_int, asBool_bool, Option.map_some, Option.bind_some, ↓reduceIte, Nat.reduceEqDiff, decide_true, Bool.not_false, List.getElem?_cons_zero, List.getElem?_cons_succ, Nat.zero_add, Nat.add_zero, Nat.reduceAdd, Nat.reduceMul, Nat.reduceLT, Nat.reduceLeDiff, and_true, true_and, and_self, List.map_cons, List.map_nil, List.all_cons, List.all_nil, tup_int, cel_int, tup_str, tup_agg, cel_agg, List.toList_toArray, List.size_toArray, List.length_cons, List.length_nil, mapOwn_int, toksL_nil, toksL_cons, toks_int, toks_string, okv_int, okv_string, List.all_nil, List.all_cons, List.append_nil, List.map_nil, List.map_cons, Bool.and_self, Bool.not_false, List.mem_cons, List.not_mem_nil, or_false, Prod.mk.injEq, beq_self_eq_true, vnext_mk, vpush_mk, vget_nil, vput_nil, cellsIn_mk, vturn_nil, vthaw_one, boxesOf_nil, List.getD_cons_zero, List.set_cons_zero, List.length_cons, List.length_nil, getD_app0, set_app0, List.length_append, vload_at, aggV_agg, velems_own, partsOk_nil, partsOk_cons, vfill_nil, vfill_cons, vbin_int, ↓vlay_free, cellsOk_free, cellF, List.replicate_succ, List.replicate_zero, abin_eql, abin_lss, abin_add, beq_self_eq_true, Int.toNat_natCast, decide_true, beq_self_eq_true, setAll_whole, vgt48, vld3, vst48, ↓val48, vfp48_0, vfp48_1, vbd43, vis42, vap43, e6, e7, e8, e3, hlt, h0, hx, hk', List.length_map]
        exact ⟨⟨by omega, by omega⟩, l.length - (i + 1), by omega, i + 1, rfl, by omega, by rw [hwr], by rw [ht]; simp [hk, vI], _, rfl⟩
      · have hk' := hk
        simp -dsimp only [↓VWP_seq, ↓VWP_region, ↓VWP_cond, ↓VWP_skip, ↓VWP_block, ↓VReg_one, ↓VReg_non, ↓VReg_nil, ↓VS_move, ↓VS_load, ↓VS_binOp, ↓VS_fieldAddr, ↓VS_indexAddr, ↓VS_store, ↓Hold_1, With_some, emap_nil, ↓eget_eset, ↓ae_tmp, ↓ae_int, asBool_bool, Option.map_some, ↓reduceIte, Nat.reduceEqDiff, Bool.false_eq_true, decide_true, decide_false, Bool.not_false, List.getElem?_cons_zero, Nat.zero_add, Nat.add_zero, Nat.reduceAdd, Nat.reduceLeDiff, true_and, and_self, List.all_cons, List.all_nil, tup_int, tup_str, tup_agg, cel_agg, List.toList_toArray, List.size_toArray, List.length_cons, List.length_nil, toksL_nil, toksL_cons, toks_int, toks_string, okv_int, okv_string, List.all_nil, List.all_cons, List.append_nil, Bool.and_self, Bool.not_false, beq_self_eq_true, vnext_mk, vpush_mk, vget_nil, vput_nil, cellsIn_mk, List.getD_cons_zero, List.set_cons_zero, List.length_cons, List.length_nil, getD_app0, set_app0, List.length_append, vload_at, aggV_agg, vbin_int, ↓vlay_free, cellsOk_free, cellF, abin_eql, abin_lss, abin_add, beq_self_eq_true, Int.toNat_natCast, decide_true, decide_false, beq_self_eq_true, setAll_whole, ibeq, vgt48, vld3, vst48, ↓val48, vfp48_0, vis42, e6, e7, e8, e3, hlt, h0, hx, hk']
        exact ⟨l.length - (i + 1), by omega, i + 1, rfl, by omega, by rw [hwr], by rw [ht]; simp [hk], _, rfl⟩
    · obtain rfl : i = l.length := by omega
      have hlt : ¬ ((l.length : Int) < l.length) := by omega
      simp -dsimp only [okv_sl0, toks_ol, thawAll_ol, thaw_tok1, ↓VWP_seq, ↓VWP_region, ↓VWP_cond, ↓VWP_ret, ↓VWP_exit, ↓VReg_one, ↓VReg_nil, ↓VS_move, ↓VS_assign, ↓VS_binOp, ↓With_guard, ↓Hold_1, ↓Hold_3, With_some, emap_nil, ↓eget_eset, ↓ae_tmp, asBool_bool, ↓vfinish_ret, ↓vres_nil, ↓vres_tmp, vtell_eq, ret1, Option.map_some, Option.bind_some, ↓reduceIte, Nat.reduceEqDiff, Bool.false_eq_true, decide_false, and_self, List.toList_toArray, List.length_nil, Bool.true_and, vwrites_nil, List.length_nil, vbin_int, abin_lss, decide_false, Tryd.results93, e7, e8, e3, hlt, List.take_length]
end Go.Proofs.YtmdpggecelheoaaDoor.Abs
/- Right values, errors first, numbers. -/
set_option linter.unusedVariables false
set_option linter.unusedSimpArgs false
set_option maxRecDepth 4000
set_option maxHeartbeats 0
namespace Go.Proofs.YtmdpggecelheoaaDoor.Abs
open Go
attribute [local irreducible] Hold VReg Vf Vc VWP With VStp Vcallee Vp
theorem sempty {P : Program} {t : TypeId} {x y : Operand} {s : ByteArray} : abin P .eql t x y (.string s) (.string ⟨#[]⟩) = some (.bool (decide (s.size = 0))) := by
  rw [abin_seql, ByteArray.toList_eq, ByteArray.toList_eq]
  congr 2
  rw [Bool.eq_iff_iff]
  simp [← Array.size_eq_zero_iff]
def rightF (x : VV) : Bool :=
  if x.k = 0 then decide (x.n = 0) && decide (x.s.size = 0) else
  if x.k = 1 then decide (x.s.size = 0) else
  if x.k = 2 then decide (x.n = 0) && decide (x.s.size ≤ 200) else
  if x.k = 3 then (decide (x.n = 0) || decide (x.n = 1)) && decide (x.s.size = 0) else
  if x.k = 4 then (decide (1 ≤ x.n) && decide (x.n ≤ 7)) && decide (x.s.size = 0) else false
def eV (n : Int) : VV := ⟨4, n, .empty⟩
def iV (n : Int) : VV := ⟨1, n, .empty⟩
def bV (b : Bool) : VV := ⟨3, if b then 1 else 0, .empty⟩
theorem err_p {X : VOuter} (hX : X 51 = none) (n : Int) : Vp Tryd.prog X 51 [.int .i64 n] (eV n).v := by
  unfold Vp
  refine Vf_text hX Tryd.func51 rfl (by kernel_rfl) (by show 1 ≤ _; decide) ?_
  simp -dsimp only [↓VWP_seq, ↓VWP_region, ↓VWP_ret, ↓VReg_one, ↓VReg_non, ↓VReg_nil, ↓VS_move, ↓VS_build, ↓VS_store, ↓With_mapH, ↓With_bindH, ↓With_guard, ↓Hold_1, With_some, emap_nil, ↓eget_eset, ↓ae_tmp, ↓ae_int, eget_zero, ↓vfinish_ret, ↓vres_nil, ↓vres_cell, vtell_eq, ret1, Option.map_some, Option.bind_some, ↓reduceIte, Nat.reduceEqDiff, reduceCtorEq, decide_false, Bool.not_false, Nat.zero_add, Nat.add_zero, Nat.reduceAdd, Nat.reduceLT, Nat.reduceLeDiff, and_true, true_and, and_self, List.map_cons, List.map_nil, List.all_cons, List.all_nil, tup_int, cel_int, tup_str, tup_agg, cel_agg, Bool.and_true, List.drop_zero, List.toList_toArray, List.size_toArray, List.length_cons, List.length_nil, mapOwn_agg, mapOwn_int, mapOwn_string, toksL_nil, toksL_cons, toks_int, toks_string, toks_agg, okv_agg, okv_int, okv_string, List.flatMap_nil, List.flatMap_cons, List.all_nil, List.all_cons, List.append_nil, List.nil_append, List.map_nil, List.map_cons, Bool.and_true, Bool.and_self, Bool.true_and, Bool.not_false, beq_self_eq_true, vnext_mk, vpush_mk, vget_nil, vput_nil, cellsIn_mk, vthaw_nil, vwrites_nil, List.getD_cons_zero, List.set_cons_zero, List.set_cons_succ, List.length_cons, List.length_nil, List.drop_zero, List.take_succ_cons, List.take_zero, ↓vlay_free, cellsOk_free, cellF, beq_self_eq_true, decide_false, beq_self_eq_true, setAll_whole, afill, setAll, vld48, vst48, ↓val48, bd48, pl48_0, pl48_1, Tryd.results51]
  rfl
theorem err_c {X : VOuter} (hX : X 51 = none) (n : Int) {S : VH} {K : VCont} : Vcallee Tryd.prog X 51 [.int .i64 n] S K = K (.agg ⟨[.int .i64 4, .int .i64 n, .string .empty]⟩) [] S [] false := Vcallee_of (err_p hX n) rfl rfl rfl
theorem int_p {X : VOuter} (hX : X 92 = none) (n : Int) : Vp Tryd.prog X 92 [.int .i64 n] (iV n).v := by
  unfold Vp
  refine Vf_text hX Tryd.func92 rfl (by kernel_rfl) (by show 1 ≤ _; decide) ?_
  simp -dsimp only [↓VWP_seq, ↓VWP_region, ↓VWP_ret, ↓VReg_one, ↓VReg_non, ↓VReg_nil, ↓VS_move, ↓VS_build, ↓VS_store, ↓With_mapH, ↓With_bindH, ↓With_guard, ↓Hold_1, With_some, emap_nil, ↓eget_eset, ↓ae_tmp, ↓ae_int, eget_zero, ↓vfinish_ret, ↓vres_nil, ↓vres_cell, vtell_eq, ret1, Option.map_some, Option.bind_some, ↓reduceIte, Nat.reduceEqDiff, reduceCtorEq, decide_false, Bool.not_false, Nat.zero_add, Nat.add_zero, Nat.reduceAdd, Nat.reduceLT, Nat.reduceLeDiff, and_true, true_and, and_self, List.map_cons, List.map_nil, List.all_cons, List.all_nil, tup_int, cel_int, tup_str, tup_agg, cel_agg, Bool.and_true, List.drop_zero, List.toList_toArray, List.size_toArray, List.length_cons, List.length_nil, mapOwn_agg, mapOwn_int, mapOwn_string, toksL_nil, toksL_cons, toks_int, toks_string, toks_agg, okv_agg, okv_int, okv_string, List.flatMap_nil, List.flatMap_cons, List.all_nil, List.all_cons, List.append_nil, List.nil_append, List.map_nil, List.map_cons, Bool.and_true, Bool.and_self, Bool.true_and, Bool.not_false, beq_self_eq_true, vnext_mk, vpush_mk, vget_nil, vput_nil, cellsIn_mk, vthaw_nil, vwrites_nil, List.getD_cons_zero, List.set_cons_zero, List.set_cons_succ, List.length_cons, List.length_nil, List.drop_zero, List.take_succ_cons, List.take_zero, ↓vlay_free, cellsOk_free, cellF, beq_self_eq_true, decide_false, beq_self_eq_true, setAll_whole, afill, setAll, vld48, vst48, ↓val48, bd48, pl48_0, pl48_1, Tryd.results92]
  rfl
theorem int_c {X : VOuter} (hX : X 92 = none) (n : Int) {S : VH} {K : VCont} : Vcallee Tryd.prog X 92 [.int .i64 n] S K = K (.agg ⟨[.int .i64 1, .int .i64 n, .string .empty]⟩) [] S [] false := Vcallee_of (int_p hX n) rfl rfl rfl
theorem valright_p {X : VOuter} (hX : X 53 = none) (k n : Int) (s : ByteArray) : Vp Tryd.prog X 53 [.agg ⟨[.int .i64 k, .int .i64 n, .string s]⟩] (.bool (rightF ⟨k, n, s⟩)) := by
  unfold Vp
  refine Vf_text hX Tryd.func53 rfl (by kernel_rfl) (by show 1 ≤ _; decide) ?_
  have hl : ((s.size : Int) ≤ 200) ↔ s.size ≤ 200 := by omega
  unfold rightF
  by_cases k0 : k = 0
  · subst k0
    by_cases h1 : n = 0 <;> by_cases h2 : s.size = 0 <;> simp -dsimp only [↓VWP_seq, ↓VWP_region, ↓VWP_cond, ↓VWP_ret, ↓VWP_block, ↓VReg_one, ↓VReg_nil, ↓VS_guard, ↓VS_move, ↓VS_assign, ↓VS_pick, ↓VS_load, ↓VS_binOp, ↓VS_fieldAddr, ↓VS_box, ↓With_guard, ↓Hold_1, With_some, emap_nil, ↓eget_eset, ↓ae_tmp, ↓ae_int, ↓ae_bool, ↓ae_string, eget_zero, lop_pick, asBool_bool, asGuard_bool, bb_ft, ayielded_eq, ↓dstAt_zero, ↓dstAt_succ, ↓vfinish_ret, ↓vres_nil, ↓vres_tmp, vtell_eq, ret1, Option.map_some, Option.bind_some, ↓reduceIte, Nat.reduceEqDiff, Bool.false_eq_true, decide_true, decide_false, Bool.not_false, List.getElem?_cons_zero, List.getElem?_cons_succ, Nat.zero_add, Nat.add_zero, and_self, List.all_cons, List.all_nil, tup_int, tup_str, tup_agg, cel_agg, Bool.and_true, List.toList_toArray, List.length_nil, mapOwn_bool, toksL_nil, toksL_cons, toks_int, toks_bool, toks_string, okv_bool, okv_int, okv_string, List.all_nil, List.all_cons, List.append_nil, List.nil_append, Bool.and_true, Bool.and_false, Bool.and_self, Bool.not_false, beq_self_eq_true, vnext_mk, vpush_mk, vget_nil, cellsIn_mk, vthaw_nil, vwrites_nil, List.getD_cons_zero, List.length_nil, vbin_int, vbin_string, ↓vbox_free, cellsOk_free, cellF, abin_eql, beq_self_eq_true, decide_true, decide_false, beq_self_eq_true, bb_ft, ibeq, vld3, vld9, vfp48_0, vfp48_1, vfp48_2, Tryd.results53, sempty, h1, h2]
  · by_cases k1 : k = 1
    · subst k1
      by_cases h2 : s.size = 0 <;> simp -dsimp only [↓VWP_seq, ↓VWP_region, ↓VWP_cond, ↓VWP_ret, ↓VWP_block, ↓VReg_one, ↓VReg_nil, ↓VS_assign, ↓VS_load, ↓VS_binOp, ↓VS_fieldAddr, ↓VS_box, ↓With_guard, ↓Hold_1, With_some, emap_nil, ↓eget_eset, ↓ae_tmp, ↓ae_int, ↓ae_bool, ↓ae_string, eget_zero, asBool_bool, ↓vfinish_ret, ↓vres_nil, ↓vres_tmp, vtell_eq, ret1, Option.map_some, Option.bind_some, ↓reduceIte, Nat.reduceEqDiff, Bool.false_eq_true, decide_true, decide_false, Bool.not_false, List.getElem?_cons_zero, List.getElem?_cons_succ, Nat.zero_add, Nat.add_zero, and_self, List.all_cons, List.all_nil, tup_int, tup_str, tup_agg, cel_agg, List.toList_toArray, List.length_nil, mapOwn_bool, toksL_nil, toksL_cons, toks_int, toks_bool, toks_string, okv_bool, okv_int, okv_string, List.all_nil, List.all_cons, List.append_nil, List.nil_append, Bool.and_self, Bool.not_false, beq_self_eq_true, vnext_mk, vpush_mk, vget_nil, cellsIn_mk, vthaw_nil, vwrites_nil, List.getD_cons_zero, List.length_nil, vbin_int, vbin_string, ↓vbox_free, cellsOk_free, cellF, abin_eql, beq_self_eq_true, decide_true, decide_false, beq_self_eq_true, ibeq, vld3, vld9, vfp48_0, vfp48_2, Tryd.results53, sempty, h2, k0]
    · by_cases k2 : k = 2
      · subst k2
        by_cases h1 : n = 0 <;> by_cases h2 : s.size ≤ 200 <;> simp -dsimp only [↓VWP_seq, ↓VWP_region, ↓VWP_cond, ↓VWP_ret, ↓VWP_block, ↓VReg_one, ↓VReg_nil, ↓VS_guard, ↓VS_move, ↓VS_assign, ↓VS_pick, ↓VS_load, ↓VS_binOp, ↓VS_fieldAddr, ↓VS_len, ↓VS_box, ↓With_guard, ↓Hold_1, With_some, emap_nil, ↓eget_eset, ↓ae_tmp, ↓ae_int, ↓ae_bool, eget_zero, lop_pick, asBool_bool, asGuard_bool, bb_ft, ayielded_eq, ↓dstAt_zero, ↓dstAt_succ, ↓vfinish_ret, ↓vres_nil, ↓vres_tmp, vtell_eq, ret1, Option.map_some, Option.bind_some, ↓reduceIte, Nat.reduceEqDiff, Bool.false_eq_true, decide_true, decide_false, Bool.not_false, List.getElem?_cons_zero, List.getElem?_cons_succ, Nat.zero_add, Nat.add_zero, and_self, List.all_cons, List.all_nil, tup_int, tup_str, tup_agg, cel_agg, Bool.and_true, List.toList_toArray, List.length_nil, mapOwn_bool, toksL_nil, toksL_cons, toks_int, toks_bool, toks_string, okv_bool, okv_int, okv_string, List.all_nil, List.all_cons, List.append_nil, List.nil_append, Bool.and_true, Bool.and_false, Bool.and_self, Bool.not_false, beq_self_eq_true, vnext_mk, vpush_mk, vget_nil, cellsIn_mk, vthaw_nil, vwrites_nil, List.getD_cons_zero, List.length_nil, vbin_int, ↓vbox_free, cellsOk_free, cellF, abin_eql, abin_leq, beq_self_eq_true, decide_true, decide_false, beq_self_eq_true, bb_ft, ibeq, vld3, vld9, vfp48_0, vfp48_1, vfp48_2, vlr9, Tryd.results53, h1, h2, hl, k0, k1]
      · by_cases k3 : k = 3
        · subst k3
          by_cases h1 : n = 0 <;> by_cases h3 : n = 1 <;> by_cases h2 : s.size = 0 <;> simp -dsimp only [↓VWP_seq, ↓VWP_region, ↓VWP_cond, ↓VWP_ret, ↓VWP_block, ↓VReg_one, ↓VReg_nil, ↓VS_guard, ↓VS_move, ↓VS_assign, ↓VS_pick, ↓VS_load, ↓VS_binOp, ↓VS_fieldAddr, ↓VS_box, ↓With_guard, ↓Hold_1, With_some, emap_nil, ↓eget_eset, ↓ae_tmp, ↓ae_int, ↓ae_bool, ↓ae_string, eget_zero, lop_pick, asBool_bool, asGuard_bool, bb_ft, bb_tf, ayielded_eq, ↓dstAt_zero, ↓dstAt_succ, ↓vfinish_ret, ↓vres_nil, ↓vres_tmp, vtell_eq, ret1, Option.map_some, Option.bind_some, ↓reduceIte, Nat.reduceEqDiff, Bool.false_eq_true, decide_true, decide_false, Bool.not_false, List.getElem?_cons_zero, List.getElem?_cons_succ, Nat.zero_add, Nat.add_zero, and_self, List.all_cons, List.all_nil, tup_int, tup_str, tup_agg, cel_agg, Bool.and_true, List.toList_toArray, List.length_nil, mapOwn_bool, toksL_nil, toksL_cons, toks_int, toks_bool, toks_string, okv_bool, okv_int, okv_string, List.all_nil, List.all_cons, List.append_nil, List.nil_append, Bool.and_true, Bool.and_false, Bool.and_self, Bool.not_false, Bool.false_or, Bool.or_false, beq_self_eq_true, vnext_mk, vpush_mk, vget_nil, cellsIn_mk, vthaw_nil, vwrites_nil, List.getD_cons_zero, List.length_nil, vbin_int, vbin_string, ↓vbox_free, cellsOk_free, cellF, abin_eql, beq_self_eq_true, decide_true, decide_false, beq_self_eq_true, bb_ft, bb_tf, ibeq, Int.reduceEq, vld3, vld9, vfp48_0, vfp48_1, vfp48_2, Tryd.results53, sempty, h1, h2, h3, k0, k1, k2]
        · by_cases k4 : k = 4
          · subst k4
            by_cases h1 : 1 ≤ n <;> by_cases h3 : n ≤ 7 <;> by_cases h2 : s.size = 0 <;> simp -dsimp only [↓VWP_seq, ↓VWP_region, ↓VWP_cond, ↓VWP_ret, ↓VWP_block, ↓VReg_one, ↓VReg_nil, ↓VS_guard, ↓VS_move, ↓VS_assign, ↓VS_pick, ↓VS_load, ↓VS_binOp, ↓VS_fieldAddr, ↓VS_box, ↓With_guard, ↓Hold_1, With_some, emap_nil, ↓eget_eset, ↓ae_tmp, ↓ae_int, ↓ae_bool, ↓ae_string, eget_zero, lop_pick, asBool_bool, asGuard_bool, bb_ft, ayielded_eq, ↓dstAt_zero, ↓dstAt_succ, ↓vfinish_ret, ↓vres_nil, ↓vres_tmp, vtell_eq, ret1, Option.map_some, Option.bind_some, ↓reduceIte, Nat.reduceEqDiff, Bool.false_eq_true, decide_true, decide_false, Bool.not_false, List.getElem?_cons_zero, List.getElem?_cons_succ, Nat.zero_add, Nat.add_zero, and_self, List.all_cons, List.all_nil, tup_int, tup_str, tup_agg, cel_agg, Bool.and_true, List.toList_toArray, List.length_nil, mapOwn_bool, toksL_nil, toksL_cons, toks_int, toks_bool, toks_string, okv_bool, okv_int, okv_string, List.all_nil, List.all_cons, List.append_nil, List.nil_append, Bool.and_true, Bool.and_false, Bool.and_self, Bool.not_false, beq_self_eq_true, vnext_mk, vpush_mk, vget_nil, cellsIn_mk, vthaw_nil, vwrites_nil, List.getD_cons_zero, List.length_nil, vbin_int, vbin_string, ↓vbox_free, cellsOk_free, cellF, abin_eql, abin_leq, abin_geq, beq_self_eq_true, ge_iff_le, decide_true, decide_false, beq_self_eq_true, bb_ft, ibeq, vld3, vld9, vfp48_0, vfp48_1, vfp48_2, Tryd.results53, sempty, h1, h2, h3, k0, k1, k2, k3]
          · simp -dsimp only [↓VWP_seq, ↓VWP_region, ↓VWP_cond, ↓VWP_ret, ↓VWP_skip, ↓VWP_block, ↓VReg_one, ↓VReg_nil, ↓VS_assign, ↓VS_load, ↓VS_binOp, ↓VS_fieldAddr, ↓VS_box, ↓With_guard, ↓Hold_1, With_some, emap_nil, ↓eget_eset, ↓ae_tmp, ↓ae_int, ↓ae_bool, eget_zero, asBool_bool, ↓vfinish_ret, ↓vres_nil, ↓vres_tmp, vtell_eq, ret1, Option.map_some, Option.bind_some, ↓reduceIte, Nat.reduceEqDiff, Bool.false_eq_true, decide_false, Bool.not_false, List.getElem?_cons_zero, Nat.add_zero, and_self, List.all_cons, List.all_nil, tup_int, tup_str, tup_agg, cel_agg, List.toList_toArray, List.length_nil, mapOwn_bool, toksL_nil, toksL_cons, toks_int, toks_bool, toks_string, okv_bool, okv_int, okv_string, List.all_nil, List.all_cons, List.append_nil, List.nil_append, Bool.and_self, Bool.not_false, beq_self_eq_true, vnext_mk, vpush_mk, vget_nil, cellsIn_mk, vthaw_nil, vwrites_nil, List.getD_cons_zero, List.length_nil, vbin_int, ↓vbox_free, cellsOk_free, cellF, abin_eql, beq_self_eq_true, decide_false, beq_self_eq_true, ibeq, vld3, vfp48_0, Tryd.results53, k0, k1, k2, k3, k4]
end Go.Proofs.YtmdpggecelheoaaDoor.Abs
/- Names of sheets; which cells may be. -/
set_option linter.unusedVariables false
set_option linter.unusedSimpArgs false
set_option maxRecDepth 4000
set_option maxHeartbeats 0
namespace Go.Proofs.YtmdpggecelheoaaDoor.Abs
open Go
attribute [local irreducible] Hold VReg Vf Vc VWP With VStp Vcallee Vp VE
def smallB (n : Int) : Bool := decide (97 ≤ n) && decide (n ≤ 122)
def digitB (n : Int) : Bool := decide (48 ≤ n) && decide (n ≤ 57)
def chrB (n : Int) : Bool := smallB n || digitB n
def atB (p : Int → Bool) (s : ByteArray) (i : Nat) : Bool := match s[i]? with
  | some b => p b.toNat
  | none => false
/-- What may name a sheet. -/
def nameF (s : ByteArray) : Bool := decide (1 ≤ (s.size : Int)) && decide ((s.size : Int) ≤ 8) && atB smallB s 0 && (List.range s.size).all (atB chrB s)
def placeF (c r : Int) : Bool := decide (1 ≤ c) && decide (c ≤ 702) && decide (1 ≤ r) && decide (r ≤ 999)
def celF (s : ByteArray) (c r : Int) : Bool := nameF s && placeF c r
theorem atB_some {p : Int → Bool} {s : ByteArray} {i : Nat} {b : UInt8} (h : s[i]? = some b) : atB p s i = p b.toNat := by simp [atB, h]
theorem ba_get {s : ByteArray} {i : Nat} (h : i < s.size) : ∃ b, s[i]? = some b := ⟨s[i], getElem?_pos s i h⟩
theorem nameF_true {s : ByteArray} (h1 : 1 ≤ s.size) (h8 : s.size ≤ 8) (h0 : atB smallB s 0 = true) (ha : ∀ i, i < s.size → atB chrB s i = true) : nameF s = true := by
  unfold nameF
  rw [decide_eq_true (show (1 : Int) ≤ s.size by omega), decide_eq_true (show (s.size : Int) ≤ 8 by omega), h0]
  simp only [Bool.true_and, List.all_eq_true, List.mem_range]
  exact ha
theorem nameF_bad {s : ByteArray} {i : Nat} (hi : i < s.size) (h : atB chrB s i = false) : nameF s = false := by
  unfold nameF
  have : (List.range s.size).all (atB chrB s) = false := by
    rw [List.all_eq_false]
    exact ⟨i, by simp [hi], by simp [h]⟩
  rw [this, Bool.and_false]
section
variable {X : VOuter}
theorem name_p (hX : X 19 = none) (s : ByteArray) : Vp Tryd.prog X 19 [.string s] (.bool (nameF s)) := by
  unfold Vp
  refine Vf_text hX Tryd.func19 rfl (by kernel_rfl) (by show 1 ≤ _; decide) ?_
  by_cases h0 : s.size = 0
  · simp -dsimp only [↓VWP_seq, ↓VWP_region, ↓VWP_cond, ↓VWP_ret, ↓VReg_one, ↓VReg_nil, ↓VS_guard, ↓VS_move, ↓VS_assign, ↓VS_pick, ↓VS_binOp, ↓With_guard, ↓Hold_1, With_some, emap_nil, ↓eget_eset, ↓ae_tmp, ↓ae_bool, ↓ae_string, eget_zero, lop_pick, asBool_bool, asGuard_bool, bb_tf, ayielded_eq, ↓dstAt_zero, ↓dstAt_succ, ↓vfinish_ret, ↓vres_nil, ↓vres_tmp, vtell_eq, ret1, Option.map_some, Option.bind_some, ↓reduceIte, Nat.reduceEqDiff, reduceCtorEq, Bool.false_eq_true, decide_true, true_and, List.toList_toArray, List.length_nil, mapOwn_bool, toks_bool, okv_bool, vthaw_nil, vwrites_nil, List.length_nil, vbin_string, decide_true, bb_tf, Tryd.results19, sempty, h0]
    simp [nameF, h0]
  · by_cases h8 : (8 : Int) < s.size
    · simp -dsimp only [↓VWP_seq, ↓VWP_region, ↓VWP_cond, ↓VWP_ret, ↓VReg_one, ↓VReg_nil, ↓VS_guard, ↓VS_move, ↓VS_assign, ↓VS_pick, ↓VS_binOp, ↓VS_len, ↓With_guard, ↓Hold_1, With_some, emap_nil, ↓eget_eset, ↓ae_tmp, ↓ae_int, ↓ae_bool, ↓ae_string, eget_zero, lop_pick, asBool_bool, asGuard_bool, bb_tf, ayielded_eq, ↓dstAt_zero, ↓dstAt_succ, ↓vfinish_ret, ↓vres_nil, ↓vres_tmp, vtell_eq, ret1, Option.map_some, Option.bind_some, ↓reduceIte, Nat.reduceEqDiff, reduceCtorEq, Bool.false_eq_true, decide_true, decide_false, true_and, List.toList_toArray, List.length_nil, mapOwn_bool, toks_bool, okv_bool, beq_self_eq_true, vthaw_nil, vwrites_nil, List.length_nil, vbin_int, vbin_string, abin_gtr, beq_self_eq_true, gt_iff_lt, decide_true, decide_false, beq_self_eq_true, bb_tf, vlr9, Tryd.results19, sempty, h0, h8]
      have : ¬ ((s.size : Int) ≤ 8) := by omega
      simp [nameF, this]
    · obtain ⟨b, hb⟩ := ba_get (s := s) (i := 0) (by omega)
      have hat := atB_some (p := smallB) hb
      by_cases h1 : (b.toNat : Int) < 97
      · simp -dsimp only [↓VWP_seq, ↓VWP_region, ↓VWP_cond, ↓VWP_ret, ↓VReg_one, ↓VReg_nil, ↓VS_guard, ↓VS_move, ↓VS_assign, ↓VS_pick, ↓VS_binOp, ↓VS_index, ↓VS_len, ↓With_guard, ↓Hold_1, With_some, emap_nil, ↓eget_eset, ↓ae_tmp, ↓ae_int, ↓ae_bool, ↓ae_string, eget_zero, lop_pick, asBool_bool, asGuard_bool, bb_tf, ayielded_eq, ↓dstAt_zero, ↓dstAt_succ, ↓vfinish_ret, ↓vres_nil, ↓vres_tmp, vtell_eq, ret1, Option.map_some, Option.bind_some, ↓reduceIte, Nat.reduceEqDiff, reduceCtorEq, Bool.false_eq_true, decide_true, decide_false, true_and, List.toList_toArray, List.length_nil, mapOwn_bool, toks_bool, okv_bool, beq_self_eq_true, vthaw_nil, vwrites_nil, List.length_nil, vbin_int, vbin_string, abin_lss, abin_gtr, beq_self_eq_true, Int.reduceLE, Int.reduceToNat, gt_iff_lt, decide_true, decide_false, beq_self_eq_true, bb_tf, ix9, vlr9, Tryd.results19, sempty, h0, h8, hb, h1]
        have : smallB b.toNat = false := by unfold smallB; rw [decide_eq_false (by omega)]; rfl
        simp [nameF, hat, this]
      · by_cases h2 : 122 < (b.toNat : Int)
        · simp -dsimp only [↓VWP_seq, ↓VWP_region, ↓VWP_cond, ↓VWP_ret, ↓VReg_one, ↓VReg_nil, ↓VS_guard, ↓VS_move, ↓VS_assign, ↓VS_pick, ↓VS_binOp, ↓VS_index, ↓VS_len, ↓With_guard, ↓Hold_1, With_some, emap_nil, ↓eget_eset, ↓ae_tmp, ↓ae_int, ↓ae_bool, ↓ae_string, eget_zero, lop_pick, asBool_bool, asGuard_bool, ayielded_eq, ↓dstAt_zero, ↓dstAt_succ, ↓vfinish_ret, ↓vres_nil, ↓vres_tmp, vtell_eq, ret1, Option.map_some, Option.bind_some, ↓reduceIte, Nat.reduceEqDiff, reduceCtorEq, Bool.false_eq_true, decide_true, decide_false, true_and, List.toList_toArray, List.length_nil, mapOwn_bool, toks_bool, okv_bool, beq_self_eq_true, vthaw_nil, vwrites_nil, List.length_nil, vbin_int, vbin_string, abin_lss, abin_gtr, beq_self_eq_true, Int.reduceLE, Int.reduceToNat, gt_iff_lt, decide_true, decide_false, beq_self_eq_true, ix9, vlr9, Tryd.results19, sempty, h0, h8, hb, h1, h2]
          have : smallB b.toNat = false := by unfold smallB; rw [decide_eq_false (show ¬ ((b.toNat : Int) ≤ 122) by omega)]; simp
          simp [nameF, hat, this]
        · have hs : smallB b.toNat = true := by unfold smallB; rw [decide_eq_true (by omega), decide_eq_true (by omega)]; rfl
          rw [hs] at hat
          simp -dsimp only [↓VWP_seq, ↓VWP_region, ↓VWP_cond, ↓VWP_skip, ↓VWP_block, ↓VWP_loop, ↓VReg_one, ↓VReg_nil, ↓VS_guard, ↓VS_move, ↓VS_assign, ↓VS_pick, ↓VS_binOp, ↓VS_index, ↓VS_len, ↓Hold_1, With_some, emap_nil, ↓eget_eset, ↓ae_tmp, ↓ae_int, ↓ae_bool, ↓ae_string, eget_zero, lop_pick, asBool_bool, asGuard_bool, ayielded_eq, ↓dstAt_zero, ↓dstAt_succ, Option.map_some, Option.bind_some, ↓reduceIte, Nat.reduceEqDiff, reduceCtorEq, Bool.false_eq_true, decide_false, beq_self_eq_true, vbin_int, vbin_string, abin_lss, abin_gtr, beq_self_eq_true, Int.reduceLE, Int.reduceToNat, gt_iff_lt, decide_false, beq_self_eq_true, ix9, vlr9, sempty, h0, h8, hb, h1, h2]
          refine Vc_loop (fun m e S => ∃ i : Nat, m = s.size - i ∧ i ≤ s.size ∧ eget e 0 = .string s ∧ eget e 23 = .int .i64 s.size ∧ eget e 24 = .int .i64 i ∧ (∀ j, j < i → atB chrB s j = true) ∧ S = ⟨[], [], []⟩) s.size ?_ ?_
          · refine ⟨0, rfl, Nat.zero_le _, ?_, ?_, ?_, fun j h => absurd h (Nat.not_lt_zero j), rfl⟩ <;> simp only [↓eget_eset, eget_zero, ↓reduceIte, Nat.reduceEqDiff, reduceCtorEq] <;> rfl
          · rintro m e S ⟨i, rfl, hi, e0, e23, e24, hall, rfl⟩
            refine VWP_Vc _ _ _ _ ?_
            by_cases hin : i < s.size
            · have hlt : (i : Int) < s.size := by omega
              have hi0 : (0 : Int) ≤ i := by omega
              obtain ⟨d, hd⟩ := ba_get hin
              have hda := atB_some (p := chrB) hd
              have hnum : ((i : Int) + 1) = ((i + 1 : Nat) : Int) := by omega
              have hwr : IntKind.i64.wrap ((i : Int) + 1) = ((i + 1 : Nat) : Int) := by rw [hnum]; exact wrap_id (by omega) (by omega)
              have go : atB chrB s i = true → ∀ j, j < i + 1 → atB chrB s j = true := fun h j hj => by
                rcases Nat.lt_succ_iff_lt_or_eq.1 hj with hj | rfl
                · exact hall j hj
                · exact h
              by_cases d1 : (d.toNat : Int) < 97
              · by_cases d3 : (d.toNat : Int) < 48
                · simp -dsimp only [↓VWP_seq, ↓VWP_region, ↓VWP_cond, ↓VWP_ret, ↓VWP_skip, ↓VWP_block, ↓VReg_one, ↓VReg_nil, ↓VS_guard, ↓VS_move, ↓VS_assign, ↓VS_pick, ↓VS_binOp, ↓VS_index, ↓With_guard, ↓Hold_1, ↓Hold_3, With_some, emap_nil, ↓eget_eset, ↓ae_tmp, ↓ae_int, ↓ae_bool, lop_pick, asBool_bool, asGuard_bool, bb_tf, ayielded_eq, ↓dstAt_zero, ↓dstAt_succ, ↓vfinish_ret, ↓vres_nil, ↓vres_tmp, vtell_eq, ret1, Option.map_some, Option.bind_some, ↓reduceIte, Nat.reduceEqDiff, reduceCtorEq, Bool.false_eq_true, decide_true, true_and, List.toList_toArray, List.length_nil, mapOwn_bool, toks_bool, okv_bool, beq_self_eq_true, vthaw_nil, vwrites_nil, List.length_nil, vbin_int, abin_lss, beq_self_eq_true, Int.toNat_natCast, decide_true, beq_self_eq_true, bb_tf, ix9, Tryd.results19, e0, e23, e24, hlt, hi0, hd, d1, d3]
                  rw [nameF_bad hin]
                  rw [hda]; unfold chrB smallB digitB
                  simp [show ¬ (97 ≤ (d.toNat : Int)) by omega, show ¬ (48 ≤ (d.toNat : Int)) by omega]
                · by_cases d4 : 57 < (d.toNat : Int)
                  · simp -dsimp only [↓VWP_seq, ↓VWP_region, ↓VWP_cond, ↓VWP_ret, ↓VWP_skip, ↓VWP_block, ↓VReg_one, ↓VReg_nil, ↓VS_guard, ↓VS_move, ↓VS_assign, ↓VS_pick, ↓VS_binOp, ↓VS_index, ↓With_guard, ↓Hold_1, ↓Hold_3, With_some, emap_nil, ↓eget_eset, ↓ae_tmp, ↓ae_int, ↓ae_bool, lop_pick, asBool_bool, asGuard_bool, bb_tf, ayielded_eq, ↓dstAt_zero, ↓dstAt_succ, ↓vfinish_ret, ↓vres_nil, ↓vres_tmp, vtell_eq, ret1, Option.map_some, Option.bind_some, ↓reduceIte, Nat.reduceEqDiff, reduceCtorEq, Bool.false_eq_true, decide_true, decide_false, true_and, List.toList_toArray, List.length_nil, mapOwn_bool, toks_bool, okv_bool, beq_self_eq_true, vthaw_nil, vwrites_nil, List.length_nil, vbin_int, abin_lss, abin_gtr, beq_self_eq_true, Int.toNat_natCast, gt_iff_lt, decide_true, decide_false, beq_self_eq_true, bb_tf, ix9, Tryd.results19, e0, e23, e24, hlt, hi0, hd, d1, d3, d4]
                    rw [nameF_bad hin]
                    rw [hda]; unfold chrB smallB digitB
                    simp [show ¬ (97 ≤ (d.toNat : Int)) by omega, show ¬ ((d.toNat : Int) ≤ 57) by omega]
                  · simp -dsimp only [↓VWP_seq, ↓VWP_region, ↓VWP_cond, ↓VWP_skip, ↓VWP_block, ↓VReg_one, ↓VReg_nil, ↓VS_guard, ↓VS_move, ↓VS_assign, ↓VS_pick, ↓VS_binOp, ↓VS_index, ↓Hold_1, With_some, emap_nil, ↓eget_eset, ↓ae_tmp, ↓ae_int, ↓ae_bool, lop_pick, asBool_bool, asGuard_bool, bb_tf, ayielded_eq, ↓dstAt_zero, ↓dstAt_succ, Option.map_some, Option.bind_some, ↓reduceIte, Nat.reduceEqDiff, reduceCtorEq, Bool.false_eq_true, decide_true, decide_false, and_true, true_and, beq_self_eq_true, vbin_int, abin_lss, abin_gtr, abin_add, beq_self_eq_true, Int.toNat_natCast, gt_iff_lt, decide_true, decide_false, beq_self_eq_true, bb_tf, ix9, e0, e23, e24, hlt, hi0, hd, d1, d3, d4]
                    refine ⟨s.size - (i + 1), by omega, i + 1, rfl, by omega, by rw [hwr], go ?_⟩
                    rw [hda]; unfold chrB digitB
                    simp [show 48 ≤ (d.toNat : Int) by omega, show (d.toNat : Int) ≤ 57 by omega]
              · by_cases d2 : 122 < (d.toNat : Int)
                · have d3 : ¬ (d.toNat : Int) < 48 := by omega
                  have d4 : 57 < (d.toNat : Int) := by omega
                  simp -dsimp only [↓VWP_seq, ↓VWP_region, ↓VWP_cond, ↓VWP_ret, ↓VWP_skip, ↓VWP_block, ↓VReg_one, ↓VReg_nil, ↓VS_guard, ↓VS_move, ↓VS_assign, ↓VS_pick, ↓VS_binOp, ↓VS_index, ↓With_guard, ↓Hold_1, ↓Hold_3, With_some, emap_nil, ↓eget_eset, ↓ae_tmp, ↓ae_int, ↓ae_bool, lop_pick, asBool_bool, asGuard_bool, ayielded_eq, ↓dstAt_zero, ↓dstAt_succ, ↓vfinish_ret, ↓vres_nil, ↓vres_tmp, vtell_eq, ret1, Option.map_some, Option.bind_some, ↓reduceIte, Nat.reduceEqDiff, reduceCtorEq, Bool.false_eq_true, decide_true, decide_false, true_and, List.toList_toArray, List.length_nil, mapOwn_bool, toks_bool, okv_bool, beq_self_eq_true, vthaw_nil, vwrites_nil, List.length_nil, vbin_int, abin_lss, abin_gtr, beq_self_eq_true, Int.toNat_natCast, gt_iff_lt, decide_true, decide_false, beq_self_eq_true, ix9, Tryd.results19, e0, e23, e24, hlt, hi0, hd, d1, d2, d3, d4]
                  rw [nameF_bad hin]
                  rw [hda]; unfold chrB smallB digitB
                  simp [show ¬ ((d.toNat : Int) ≤ 122) by omega, show ¬ ((d.toNat : Int) ≤ 57) by omega]
                · simp -dsimp only [↓VWP_seq, ↓VWP_region, ↓VWP_cond, ↓VWP_skip, ↓VWP_block, ↓VReg_one, ↓VReg_nil, ↓VS_guard, ↓VS_move, ↓VS_assign, ↓VS_pick, ↓VS_binOp, ↓VS_index, ↓Hold_1, With_some, emap_nil, ↓eget_eset, ↓ae_tmp, ↓ae_int, ↓ae_bool, lop_pick, asBool_bool, asGuard_bool, asGuard_nr, bb_ft, ayielded_eq, ↓dstAt_zero, ↓dstAt_succ, Option.map_some, Option.bind_some, ↓reduceIte, Nat.reduceEqDiff, reduceCtorEq, Bool.false_eq_true, decide_true, decide_false, and_true, true_and, beq_self_eq_true, vbin_int, abin_lss, abin_gtr, abin_add, beq_self_eq_true, Int.toNat_natCast, gt_iff_lt, decide_true, decide_false, beq_self_eq_true, bb_ft, ix9, e0, e23, e24, hlt, hi0, hd, d1, d2]
                  refine ⟨s.size - (i + 1), by omega, i + 1, rfl, by omega, by rw [hwr], go ?_⟩
                  rw [hda]; unfold chrB smallB
                  simp [show 97 ≤ (d.toNat : Int) by omega, show (d.toNat : Int) ≤ 122 by omega]
            · obtain rfl : i = s.size := by omega
              have hlt : ¬ ((s.size : Int) < s.size) := by omega
              simp -dsimp only [↓VWP_seq, ↓VWP_region, ↓VWP_cond, ↓VWP_ret, ↓VWP_exit, ↓VReg_one, ↓VReg_nil, ↓VS_assign, ↓VS_binOp, ↓With_guard, ↓Hold_1, ↓Hold_3, With_some, emap_nil, ↓eget_eset, ↓ae_tmp, ↓ae_bool, asBool_bool, ↓vfinish_ret, ↓vres_nil, ↓vres_tmp, vtell_eq, ret1, Option.map_some, Option.bind_some, ↓reduceIte, Bool.false_eq_true, decide_false, true_and, List.toList_toArray, List.length_nil, mapOwn_bool, toks_bool, okv_bool, vthaw_nil, vwrites_nil, List.length_nil, vbin_int, abin_lss, decide_false, Tryd.results19, e23, e24, hlt]
              rw [nameF_true (by omega) (by omega) hat hall]
theorem name_c (hX : X 19 = none) (s : ByteArray) {S : VH} {K : VCont} : Vcallee Tryd.prog X 19 [.string s] S K = K (.bool (nameF s)) [] S [] false := Vcallee_of (name_p hX s) rfl rfl rfl
theorem rsmall_p (hX : X 43 = none) (n : Int) : Vp Tryd.prog X 43 [.int .u8 n] (.bool (smallB n)) := by
  unfold Vp
  refine Vf_text hX Tryd.func43 rfl (by kernel_rfl) (by show 1 ≤ _; decide) ?_
  by_cases h1 : 97 ≤ n <;> by_cases h2 : n ≤ 122 <;> simp -dsimp only [↓VWP_seq, ↓VWP_region, ↓VWP_ret, ↓VReg_one, ↓VReg_nil, ↓VS_guard, ↓VS_move, ↓VS_assign, ↓VS_pick, ↓VS_binOp, ↓With_guard, ↓Hold_1, With_some, emap_nil, ↓eget_eset, ↓ae_tmp, ↓ae_int, ↓ae_bool, eget_zero, lop_pick, asGuard_bool, bb_ft, ayielded_eq, ↓dstAt_zero, ↓dstAt_succ, ↓vfinish_ret, ↓vres_nil, ↓vres_tmp, vtell_eq, ret1, Option.map_some, Option.bind_some, ↓reduceIte, Nat.reduceEqDiff, reduceCtorEq, Bool.false_eq_true, decide_true, decide_false, true_and, List.toList_toArray, List.length_nil, mapOwn_bool, toks_bool, okv_bool, beq_self_eq_true, vthaw_nil, vwrites_nil, List.length_nil, vbin_int, abin_leq, abin_geq, beq_self_eq_true, ge_iff_le, decide_true, decide_false, beq_self_eq_true, bb_ft, Tryd.results43, h1, h2] <;> simp [smallB, h1, h2]
theorem rsmall_c (hX : X 43 = none) (n : Int) {S : VH} {K : VCont} : Vcallee Tryd.prog X 43 [.int .u8 n] S K = K (.bool (smallB n)) [] S [] false := Vcallee_of (rsmall_p hX n) rfl rfl rfl
theorem rdigit_p (hX : X 44 = none) (n : Int) : Vp Tryd.prog X 44 [.int .u8 n] (.bool (digitB n)) := by
  unfold Vp
  refine Vf_text hX Tryd.func44 rfl (by kernel_rfl) (by show 1 ≤ _; decide) ?_
  by_cases h1 : 48 ≤ n <;> by_cases h2 : n ≤ 57 <;> simp -dsimp only [↓VWP_seq, ↓VWP_region, ↓VWP_ret, ↓VReg_one, ↓VReg_nil, ↓VS_guard, ↓VS_move, ↓VS_assign, ↓VS_pick, ↓VS_binOp, ↓With_guard, ↓Hold_1, With_some, emap_nil, ↓eget_eset, ↓ae_tmp, ↓ae_int, ↓ae_bool, eget_zero, lop_pick, asGuard_bool, bb_ft, ayielded_eq, ↓dstAt_zero, ↓dstAt_succ, ↓vfinish_ret, ↓vres_nil, ↓vres_tmp, vtell_eq, ret1, Option.map_some, Option.bind_some, ↓reduceIte, Nat.reduceEqDiff, reduceCtorEq, Bool.false_eq_true, decide_true, decide_false, true_and, List.toList_toArray, List.length_nil, mapOwn_bool, toks_bool, okv_bool, beq_self_eq_true, vthaw_nil, vwrites_nil, List.length_nil, vbin_int, abin_leq, abin_geq, beq_self_eq_true, ge_iff_le, decide_true, decide_false, beq_self_eq_true, bb_ft, Tryd.results44, h1, h2] <;> simp [digitB, h1, h2]
theorem rdigit_c (hX : X 44 = none) (n : Int) {S : VH} {K : VCont} : Vcallee Tryd.prog X 44 [.int .u8 n] S K = K (.bool (digitB n)) [] S [] false := Vcallee_of (rdigit_p hX n) rfl rfl rfl
theorem rname_p (hX : X 20 = none) (hX1 : X 43 = none) (hX2 : X 44 = none) (s : ByteArray) : Vp Tryd.prog X 20 [.string s] (.bool (nameF s)) := by
  unfold Vp
  refine Vf_text hX Tryd.func20 rfl (by kernel_rfl) (by show 1 ≤ _; decide) ?_
  by_cases h0 : (s.size : Int) < 1
  · simp -dsimp only [↓VWP_seq, ↓VWP_region, ↓VWP_cond, ↓VWP_ret, ↓VReg_one, ↓VReg_nil, ↓VS_guard, ↓VS_move, ↓VS_assign, ↓VS_pick, ↓VS_binOp, ↓VS_len, ↓With_guard, ↓Hold_1, With_some, emap_nil, ↓eget_eset, ↓ae_tmp, ↓ae_int, ↓ae_bool, eget_zero, lop_pick, asBool_bool, asGuard_bool, bb_tf, ayielded_eq, ↓dstAt_zero, ↓dstAt_succ, ↓vfinish_ret, ↓vres_nil, ↓vres_tmp, vtell_eq, ret1, Option.map_some, Option.bind_some, ↓reduceIte, Nat.reduceEqDiff, reduceCtorEq, Bool.false_eq_true, decide_true, true_and, List.toList_toArray, List.length_nil, mapOwn_bool, toks_bool, okv_bool, vthaw_nil, vwrites_nil, List.length_nil, vbin_int, abin_lss, decide_true, bb_tf, vlr9, Tryd.results20, h0]
    simp [nameF, show ¬ (1 ≤ (s.size : Int)) by omega]
  · by_cases h8 : (8 : Int) < s.size
    · simp -dsimp only [↓VWP_seq, ↓VWP_region, ↓VWP_cond, ↓VWP_ret, ↓VReg_one, ↓VReg_nil, ↓VS_guard, ↓VS_move, ↓VS_assign, ↓VS_pick, ↓VS_binOp, ↓VS_len, ↓With_guard, ↓Hold_1, With_some, emap_nil, ↓eget_eset, ↓ae_tmp, ↓ae_int, ↓ae_bool, eget_zero, lop_pick, asBool_bool, asGuard_bool, bb_tf, ayielded_eq, ↓dstAt_zero, ↓dstAt_succ, ↓vfinish_ret, ↓vres_nil, ↓vres_tmp, vtell_eq, ret1, Option.map_some, Option.bind_some, ↓reduceIte, Nat.reduceEqDiff, reduceCtorEq, Bool.false_eq_true, decide_true, decide_false, true_and, List.toList_toArray, List.length_nil, mapOwn_bool, toks_bool, okv_bool, beq_self_eq_true, vthaw_nil, vwrites_nil, List.length_nil, vbin_int, abin_lss, abin_gtr, beq_self_eq_true, gt_iff_lt, decide_true, decide_false, beq_self_eq_true, bb_tf, vlr9, Tryd.results20, h0, h8]
      simp [nameF, show ¬ ((s.size : Int) ≤ 8) by omega]
    · obtain ⟨b, hb⟩ := ba_get (s := s) (i := 0) (by omega)
      have hat := atB_some (p := smallB) hb
      cases h1 : smallB b.toNat
      · simp -dsimp only [↓Hold_5, ↓VWP_seq, ↓VWP_region, ↓VWP_cond, ↓VWP_ret, ↓VReg_one, ↓VReg_nil, ↓VS_guard, ↓VS_move, ↓VS_assign, ↓VS_pick, ↓VS_binOp, ↓VS_unOp, ↓VS_index, ↓VS_len, ↓With_guard, ↓Hold_1, With_some, emap_nil, ↓eget_eset, ↓ae_tmp, ↓ae_int, ↓ae_bool, eget_zero, lop_pick, lop_not, asBool_bool, asGuard_bool, ayielded_eq, ↓dstAt_zero, ↓dstAt_succ, ↓vfinish_ret, ↓vres_nil, ↓vres_tmp, vtell_eq, ret1, Option.map_some, Option.bind_some, ↓reduceIte, Nat.reduceEqDiff, reduceCtorEq, Bool.false_eq_true, decide_false, Bool.not_false, true_and, List.map_cons, List.map_nil, List.toList_toArray, List.length_nil, mapOwn_bool, toks_bool, okv_bool, List.map_nil, List.map_cons, Bool.not_false, beq_self_eq_true, vthaw_nil, vwrites_nil, List.length_nil, vbin_int, abin_lss, abin_gtr, beq_self_eq_true, Int.reduceLE, Int.reduceToNat, gt_iff_lt, decide_false, beq_self_eq_true, ix9, vlr9, ↓vfk43, Tryd.results20, h0, h8, hb, h1, ↓rsmall_c hX1]
        simp [nameF, hat, h1]
      · rw [h1] at hat
        simp -dsimp only [↓Hold_5, ↓VWP_seq, ↓VWP_region, ↓VWP_cond, ↓VWP_skip, ↓VWP_block, ↓VWP_loop, ↓VReg_one, ↓VReg_nil, ↓VS_guard, ↓VS_move, ↓VS_assign, ↓VS_pick, ↓VS_binOp, ↓VS_unOp, ↓VS_index, ↓VS_len, ↓Hold_1, With_some, emap_nil, ↓eget_eset, ↓ae_tmp, ↓ae_int, ↓ae_bool, eget_zero, lop_pick, lop_not, asBool_bool, asGuard_bool, ayielded_eq, ↓dstAt_zero, ↓dstAt_succ, Option.map_some, Option.bind_some, ↓reduceIte, Nat.reduceEqDiff, reduceCtorEq, Bool.false_eq_true, decide_false, Bool.not_true, List.map_cons, List.map_nil, List.map_nil, List.map_cons, Bool.not_true, beq_self_eq_true, vbin_int, abin_lss, abin_gtr, beq_self_eq_true, Int.reduceLE, Int.reduceToNat, gt_iff_lt, decide_false, beq_self_eq_true, ix9, vlr9, ↓vfk43, h0, h8, hb, h1, ↓rsmall_c hX1]
        refine Vc_loop (fun m e S => ∃ i : Nat, m = s.size - i ∧ 1 ≤ i ∧ i ≤ s.size ∧ eget e 0 = .string s ∧ eget e 3 = .int .i64 i ∧ (∀ j, j < i → atB chrB s j = true) ∧ S = ⟨[], [], []⟩) (s.size - 1) ?_ ?_
        · refine ⟨1, rfl, Nat.le_refl _, by omega, ?_, ?_, fun j h => ?_, rfl⟩
          · simp only [↓eget_eset, eget_zero, ↓reduceIte, reduceCtorEq]
          · simp only [↓eget_eset, ↓reduceIte]
            rfl
          · obtain rfl : j = 0 := by omega
            rw [atB_some hb]; unfold chrB; rw [h1]; rfl
        · rintro m e S ⟨i, rfl, h1i, hi, e0, e3, hall, rfl⟩
          refine VWP_Vc _ _ _ _ ?_
          by_cases hin : i < s.size
          · have hlt : (i : Int) < s.size := by omega
            have hi0 : (0 : Int) ≤ i := by omega
            obtain ⟨d, hd⟩ := ba_get hin
            have hda := atB_some (p := chrB) hd
            have hnum : ((i : Int) + 1) = ((i + 1 : Nat) : Int) := by omega
            have hwr : IntKind.i64.wrap ((i : Int) + 1) = ((i + 1 : Nat) : Int) := by rw [hnum]; exact wrap_id (by omega) (by omega)
            have go : atB chrB s i = true → ∀ j, j < i + 1 → atB chrB s j = true := fun h j hj => by
              rcases Nat.lt_succ_iff_lt_or_eq.1 hj with hj | rfl
              · exact hall j hj
              · exact h
            cases d1 : smallB d.toNat
            · cases d2 : digitB d.toNat
              · simp -dsimp only [↓Hold_5, ↓VWP_seq, ↓VWP_region, ↓VWP_cond, ↓VWP_ret, ↓VWP_skip, ↓VWP_block, ↓VReg_one, ↓VReg_nil, ↓VS_guard, ↓VS_move, ↓VS_assign, ↓VS_pick, ↓VS_binOp, ↓VS_unOp, ↓VS_index, ↓VS_len, ↓With_guard, ↓Hold_1, ↓Hold_3, With_some, emap_nil, ↓eget_eset, ↓ae_tmp, ↓ae_bool, lop_pick, lop_not, asBool_bool, asGuard_bool, ayielded_eq, ↓dstAt_zero, ↓dstAt_succ, ↓vfinish_ret, ↓vres_nil, ↓vres_tmp, vtell_eq, ret1, Option.map_some, Option.bind_some, ↓reduceIte, Nat.reduceEqDiff, reduceCtorEq, decide_true, Bool.not_false, true_and, List.map_cons, List.map_nil, List.toList_toArray, List.length_nil, mapOwn_bool, toks_bool, okv_bool, List.map_nil, List.map_cons, Bool.not_false, beq_self_eq_true, vthaw_nil, vwrites_nil, List.length_nil, vbin_int, abin_lss, beq_self_eq_true, Int.toNat_natCast, decide_true, beq_self_eq_true, ix9, vlr9, ↓vfk43, ↓vfk44, Tryd.results20, e0, e3, hlt, hi0, hd, d1, d2, ↓rsmall_c hX1, ↓rdigit_c hX2]
                rw [nameF_bad hin]
                rw [hda]; unfold chrB; rw [d1, d2]; rfl
              · simp -dsimp only [↓Hold_5, ↓VWP_seq, ↓VWP_region, ↓VWP_cond, ↓VWP_skip, ↓VWP_block, ↓VReg_one, ↓VReg_nil, ↓VS_guard, ↓VS_move, ↓VS_assign, ↓VS_pick, ↓VS_binOp, ↓VS_unOp, ↓VS_index, ↓VS_len, ↓Hold_1, With_some, emap_nil, ↓eget_eset, ↓ae_tmp, ↓ae_int, lop_pick, lop_not, asBool_bool, asGuard_bool, ayielded_eq, ↓dstAt_zero, ↓dstAt_succ, Option.map_some, Option.bind_some, ↓reduceIte, Nat.reduceEqDiff, reduceCtorEq, Bool.false_eq_true, decide_true, Bool.not_true, Bool.not_false, and_true, true_and, List.map_cons, List.map_nil, List.map_nil, List.map_cons, Bool.not_true, Bool.not_false, beq_self_eq_true, vbin_int, abin_lss, abin_add, beq_self_eq_true, Int.toNat_natCast, decide_true, beq_self_eq_true, ix9, vlr9, ↓vfk43, ↓vfk44, e0, e3, hlt, hi0, hd, d1, d2, ↓rsmall_c hX1, ↓rdigit_c hX2]
                refine ⟨s.size - (i + 1), by omega, i + 1, rfl, by omega, by omega, by rw [hwr], go ?_⟩
                rw [hda]; unfold chrB; rw [d1, d2]; rfl
            · simp -dsimp only [↓Hold_5, ↓VWP_seq, ↓VWP_region, ↓VWP_cond, ↓VWP_skip, ↓VWP_block, ↓VReg_one, ↓VReg_nil, ↓VS_guard, ↓VS_move, ↓VS_assign, ↓VS_pick, ↓VS_binOp, ↓VS_unOp, ↓VS_index, ↓VS_len, ↓Hold_1, With_some, emap_nil, ↓eget_eset, ↓ae_tmp, ↓ae_int, ↓ae_bool, lop_pick, lop_not, asBool_bool, asGuard_bool, bb_ft, ayielded_eq, ↓dstAt_zero, ↓dstAt_succ, Option.map_some, Option.bind_some, ↓reduceIte, Nat.reduceEqDiff, reduceCtorEq, Bool.false_eq_true, decide_true, Bool.not_true, and_true, true_and, List.map_cons, List.map_nil, List.map_nil, List.map_cons, Bool.not_true, vbin_int, abin_lss, abin_add, Int.toNat_natCast, decide_true, bb_ft, ix9, vlr9, ↓vfk43, e0, e3, hlt, hi0, hd, d1, ↓rsmall_c hX1]
              refine ⟨s.size - (i + 1), by omega, i + 1, rfl, by omega, by omega, by rw [hwr], go ?_⟩
              rw [hda]; unfold chrB; rw [d1]; rfl
          · obtain rfl : i = s.size := by omega
            have hlt : ¬ ((s.size : Int) < s.size) := by omega
            simp -dsimp only [↓VWP_seq, ↓VWP_region, ↓VWP_cond, ↓VWP_ret, ↓VWP_exit, ↓VReg_one, ↓VReg_nil, ↓VS_move, ↓VS_assign, ↓VS_binOp, ↓VS_len, ↓With_guard, ↓Hold_1, ↓Hold_3, With_some, emap_nil, ↓eget_eset, ↓ae_tmp, ↓ae_bool, asBool_bool, ↓vfinish_ret, ↓vres_nil, ↓vres_tmp, vtell_eq, ret1, Option.map_some, Option.bind_some, ↓reduceIte, Nat.reduceEqDiff, reduceCtorEq, Bool.false_eq_true, decide_false, true_and, List.toList_toArray, List.length_nil, mapOwn_bool, toks_bool, okv_bool, vthaw_nil, vwrites_nil, List.length_nil, vbin_int, abin_lss, decide_false, vlr9, Tryd.results20, e0, e3, hlt]
            rw [nameF_true (by omega) (by omega) hat hall]
theorem rname_c (hX : X 20 = none) (hX1 : X 43 = none) (hX2 : X 44 = none) (s : ByteArray) {S : VH} {K : VCont} : Vcallee Tryd.prog X 20 [.string s] S K = K (.bool (nameF s)) [] S [] false := Vcallee_of (rname_p hX hX1 hX2 s) rfl rfl rfl
theorem place_p (hX : X 42 = none) (s : ByteArray) (c r : Int) : Vp Tryd.prog X 42 [.agg ⟨[.string s, .int .i64 c, .int .i64 r]⟩] (.bool (placeF c r)) := by
  unfold Vp
  refine Vf_text hX Tryd.func42 rfl (by kernel_rfl) (by show 1 ≤ _; decide) ?_
  by_cases h1 : 1 ≤ c <;> by_cases h2 : c ≤ 702 <;> by_cases h3 : 1 ≤ r <;> by_cases h4 : r ≤ 999 <;> simp -dsimp only [↓VWP_seq, ↓VWP_region, ↓VWP_ret, ↓VReg_one, ↓VReg_nil, ↓VS_guard, ↓VS_move, ↓VS_assign, ↓VS_pick, ↓VS_load, ↓VS_binOp, ↓VS_fieldAddr, ↓VS_box, ↓With_guard, ↓Hold_1, With_some, emap_nil, ↓eget_eset, ↓ae_tmp, ↓ae_int, ↓ae_bool, eget_zero, lop_pick, asGuard_bool, bb_ft, ayielded_eq, ↓dstAt_zero, ↓dstAt_succ, ↓vfinish_ret, ↓vres_nil, ↓vres_tmp, vtell_eq, ret1, Option.map_some, Option.bind_some, ↓reduceIte, Nat.reduceEqDiff, Bool.false_eq_true, decide_true, decide_false, Bool.not_false, List.getElem?_cons_zero, List.getElem?_cons_succ, Nat.zero_add, Nat.add_zero, true_and, List.all_cons, List.all_nil, tup_int, tup_str, tup_agg, cel_agg, List.toList_toArray, List.length_nil, mapOwn_bool, toksL_nil, toksL_cons, toks_int, toks_bool, toks_string, okv_bool, okv_int, okv_string, List.all_nil, List.all_cons, List.append_nil, List.nil_append, Bool.and_self, Bool.not_false, beq_self_eq_true, vnext_mk, vpush_mk, vget_nil, cellsIn_mk, vthaw_nil, vwrites_nil, List.getD_cons_zero, List.length_nil, vbin_int, ↓vbox_free, cellsOk_free, cellF, abin_leq, abin_geq, beq_self_eq_true, ge_iff_le, decide_true, decide_false, beq_self_eq_true, bb_ft, vld3, vfp23_1, vfp23_2, Tryd.results42, h1, h2, h3, h4] <;> simp [placeF, h1, h2, h3, h4]
theorem place_c (hX : X 42 = none) (s : ByteArray) (c r : Int) {S : VH} {K : VCont} : Vcallee Tryd.prog X 42 [.agg ⟨[.string s, .int .i64 c, .int .i64 r]⟩] S K = K (.bool (placeF c r)) [] S [] false := Vcallee_of (place_p hX s c r) rfl rfl rfl
theorem right_p (hX : X 17 = none) (hX1 : X 42 = none) (hX2 : X 19 = none) (s : ByteArray) (c r : Int) : Vp Tryd.prog X 17 [.agg ⟨[.string s, .int .i64 c, .int .i64 r]⟩] (.bool (celF s c r)) := by
  unfold Vp
  refine Vf_text hX Tryd.func17 rfl (by kernel_rfl) (by show 1 ≤ _; decide) ?_
  cases h : nameF s <;> simp -dsimp only [↓Hold_5, ↓VWP_seq, ↓VWP_region, ↓VWP_ret, ↓VReg_one, ↓VReg_nil, ↓VS_guard, ↓VS_move, ↓VS_assign, ↓VS_pick, ↓VS_load, ↓VS_fieldAddr, ↓VS_box, ↓With_guard, ↓Hold_1, With_some, emap_nil, ↓eget_eset, ↓ae_tmp, ↓ae_bool, eget_zero, lop_pick, asGuard_bool, bb_ft, ayielded_eq, ↓dstAt_zero, ↓dstAt_succ, ↓vfinish_ret, ↓vres_nil, ↓vres_tmp, vtell_eq, ret1, Option.map_some, Option.bind_some, ↓reduceIte, Nat.reduceEqDiff, Bool.false_eq_true, Bool.not_false, List.getElem?_cons_zero, Nat.zero_add, Nat.add_zero, Nat.reduceAdd, Nat.reduceLeDiff, true_and, List.map_cons, List.map_nil, List.all_cons, List.all_nil, tup_int, tup_str, tup_agg, cel_agg, List.drop_zero, List.toList_toArray, List.length_cons, List.length_nil, mapOwn_bool, toksL_nil, toksL_cons, toks_int, toks_bool, toks_string, okv_bool, okv_int, okv_string, List.all_nil, List.all_cons, List.append_nil, List.nil_append, List.map_nil, List.map_cons, Bool.and_self, Bool.not_false, beq_self_eq_true, vnext_mk, vpush_mk, vget_nil, cellsIn_mk, vthaw_nil, vwrites_nil, List.getD_cons_zero, List.length_cons, List.length_nil, List.drop_zero, List.take_succ_cons, List.take_zero, ↓vbox_free, cellsOk_free, cellF, beq_self_eq_true, beq_self_eq_true, bb_ft, vld9, vld23, vfp23_0, ↓vfk19, ↓vfk42, Tryd.results17, ↓name_c hX2, ↓place_c hX1, h] <;> simp [celF, h]
theorem right_c (hX : X 17 = none) (hX1 : X 42 = none) (hX2 : X 19 = none) (s : ByteArray) (c r : Int) {S : VH} {K : VCont} : Vcallee Tryd.prog X 17 [.agg ⟨[.string s, .int .i64 c, .int .i64 r]⟩] S K = K (.bool (celF s c r)) [] S [] false := Vcallee_of (right_p hX hX1 hX2 s c r) rfl rfl rfl
theorem rright_p (hX : X 18 = none) (hX0 : X 20 = none) (hX1 : X 43 = none) (hX2 : X 44 = none) (s : ByteArray) (c r : Int) : Vp Tryd.prog X 18 [.agg ⟨[.string s, .int .i64 c, .int .i64 r]⟩] (.bool (celF s c r)) := by
  unfold Vp
  refine Vf_text hX Tryd.func18 rfl (by kernel_rfl) (by show 1 ≤ _; decide) ?_
  cases h : nameF s
  · simp -dsimp only [↓Hold_5, ↓VWP_seq, ↓VWP_region, ↓VWP_ret, ↓VReg_one, ↓VReg_nil, ↓VS_guard, ↓VS_move, ↓VS_assign, ↓VS_pick, ↓VS_load, ↓VS_fieldAddr, ↓VS_box, ↓With_guard, ↓Hold_1, With_some, emap_nil, ↓eget_eset, ↓ae_tmp, ↓ae_bool, eget_zero, lop_pick, asGuard_bool, bb_ft, ayielded_eq, ↓dstAt_zero, ↓dstAt_succ, ↓vfinish_ret, ↓vres_nil, ↓vres_tmp, vtell_eq, ret1, Option.map_some, Option.bind_some, ↓reduceIte, Nat.reduceEqDiff, Bool.false_eq_true, Bool.not_false, List.getElem?_cons_zero, Nat.add_zero, true_and, List.map_cons, List.map_nil, List.all_cons, List.all_nil, tup_int, tup_str, tup_agg, cel_agg, List.toList_toArray, List.length_nil, mapOwn_bool, toksL_nil, toksL_cons, toks_int, toks_bool, toks_string, okv_bool, okv_int, okv_string, List.all_nil, List.all_cons, List.append_nil, List.nil_append, List.map_nil, List.map_cons, Bool.and_self, Bool.not_false, beq_self_eq_true, vnext_mk, vpush_mk, vget_nil, cellsIn_mk, vthaw_nil, vwrites_nil, List.getD_cons_zero, List.length_nil, ↓vbox_free, cellsOk_free, cellF, beq_self_eq_true, beq_self_eq_true, bb_ft, vld9, vfp23_0, ↓vfk20, Tryd.results18, ↓rname_c hX0 hX1 hX2, h]
    simp [celF, h]
  · by_cases h1 : 1 ≤ c <;> by_cases h2 : c ≤ 702 <;> by_cases h3 : 1 ≤ r <;> by_cases h4 : r ≤ 999 <;> simp -dsimp only [↓Hold_5, ↓VWP_seq, ↓VWP_region, ↓VWP_ret, ↓VReg_one, ↓VReg_nil, ↓VS_guard, ↓VS_move, ↓VS_assign, ↓VS_pick, ↓VS_load, ↓VS_binOp, ↓VS_fieldAddr, ↓VS_box, ↓With_guard, ↓Hold_1, With_some, emap_nil, ↓eget_eset, ↓ae_tmp, ↓ae_int, ↓ae_bool, eget_zero, lop_pick, asGuard_bool, bb_ft, ayielded_eq, ↓dstAt_zero, ↓dstAt_succ, ↓vfinish_ret, ↓vres_nil, ↓vres_tmp, vtell_eq, ret1, Option.map_some, Option.bind_some, ↓reduceIte, Nat.reduceEqDiff, Bool.false_eq_true, decide_true, decide_false, Bool.not_false, List.getElem?_cons_zero, List.getElem?_cons_succ, Nat.zero_add, Nat.add_zero, true_and, List.map_cons, List.map_nil, List.all_cons, List.all_nil, tup_int, tup_str, tup_agg, cel_agg, List.toList_toArray, List.length_nil, mapOwn_bool, toksL_nil, toksL_cons, toks_int, toks_bool, toks_string, okv_bool, okv_int, okv_string, List.all_nil, List.all_cons, List.append_nil, List.nil_append, List.map_nil, List.map_cons, Bool.and_self, Bool.not_false, beq_self_eq_true, vnext_mk, vpush_mk, vget_nil, cellsIn_mk, vthaw_nil, vwrites_nil, List.getD_cons_zero, List.length_nil, vbin_int, ↓vbox_free, cellsOk_free, cellF, abin_leq, abin_geq, beq_self_eq_true, ge_iff_le, decide_true, decide_false, beq_self_eq_true, bb_ft, vld9, vld3, vfp23_0, vfp23_1, vfp23_2, ↓vfk20, Tryd.results18, ↓rname_c hX0 hX1 hX2, h, h1, h2, h3, h4] <;> simp [celF, placeF, h, h1, h2, h3, h4]
theorem rright_c (hX : X 18 = none) (hX0 : X 20 = none) (hX1 : X 43 = none) (hX2 : X 44 = none) (s : ByteArray) (c r : Int) {S : VH} {K : VCont} : Vcallee Tryd.prog X 18 [.agg ⟨[.string s, .int .i64 c, .int .i64 r]⟩] S K = K (.bool (celF s c r)) [] S [] false := Vcallee_of (rright_p hX hX0 hX1 hX2 s c r) rfl rfl rfl
end
end Go.Proofs.YtmdpggecelheoaaDoor.Abs
/- Errors first. -/
set_option linter.unusedVariables false
set_option linter.unusedSimpArgs false
set_option maxRecDepth 4000
set_option maxHeartbeats 0
namespace Go.Proofs.YtmdpggecelheoaaDoor.Abs
open Go
attribute [local irreducible] Hold VReg Vf Vc VWP With VStp Vcallee Vp
def zV : VV := ⟨0, 0, .empty⟩
def firstF (l : List VV) : VV × Bool :=
  if l.all rightF then (match l.find? (fun x => decide (x.k = 4)) with | some x => (x, true) | none => (zV, false)) else (eV 3, true)
theorem valright_c {X : VOuter} (hX : X 53 = none) (k n : Int) (s : ByteArray) {S : VH} {K : VCont} : Vcallee Tryd.prog X 53 [.agg ⟨[.int .i64 k, .int .i64 n, .string s]⟩] S K = K (.bool (rightF ⟨k, n, s⟩)) [] S [] false := Vcallee_of (valright_p hX k n s) rfl rfl rfl
theorem all_take (p : VV → Bool) (l : List VV) (i : Nat) (h : i < l.length) : (l.take (i + 1)).all p = ((l.take i).all p && p l[i]) := by
  rw [← List.take_append_getElem h, List.all_append]
  simp
theorem all_bad (p : VV → Bool) (l : List VV) (i : Nat) (h : i < l.length) (hp : p l[i] = false) : l.all p = false := by
  rw [List.all_eq_false]
  exact ⟨l[i], List.getElem_mem h, by simp [hp]⟩
theorem find_at (p : VV → Bool) (l : List VV) (i : Nat) (h : i < l.length) (hb : (l.take i).all (fun x => !p x) = true) (hp : p l[i] = true) : l.find? p = some l[i] := by
  have e : l = l.take i ++ l[i] :: l.drop (i + 1) := by simp
  have h1 : (l.take i).find? p = none := by
    rw [List.find?_eq_none]
    intro x hx
    have := List.all_eq_true.1 hb x hx
    simpa using this
  have h2 : (l.take i ++ l[i] :: l.drop (i + 1)).find? p = some l[i] := by
    rw [List.find?_append, h1, List.find?_cons_of_pos hp]
    rfl
  rwa [← e] at h2
theorem find_no (p : VV → Bool) (l : List VV) (hb : l.all (fun x => !p x) = true) : l.find? p = none := by
  rw [List.find?_eq_none]
  intro x hx
  have := List.all_eq_true.1 hb x hx
  simpa using this
theorem first_p {X : VOuter} (hX : X 54 = none) (hX1 : X 53 = none) (hX2 : X 51 = none) (c : Bool) (d : Nat) (l : List VV) (hl : l.length ≤ 1000000000) : Vp Tryd.prog X 54 [sl c d 3 (l.map VV.v)] (.tuple ⟨[(firstF l).1.v, .bool (firstF l).2]⟩) := by
  unfold Vp
  refine Vf_text hX Tryd.func54 rfl (by kernel_rfl) (by show 1 ≤ _; decide) ?_
  simp -dsimp only [↓VWP_seq, ↓VWP_region, ↓VWP_block, ↓VWP_loop, ↓VReg_one, ↓VReg_nil, ↓VS_move, ↓VS_assign, ↓VS_len, ↓Hold_1, With_some, emap_nil, ↓eget_eset, ↓ae_tmp, ↓ae_int, ↓ae_bool, eget_zero, ↓reduceIte, reduceCtorEq, Nat.add_zero, List.length_nil, List.nil_append, vnext_mk, vpush_mk, List.length_nil, ↓val48, vls42, List.length_map]
  refine Vc_loop (fun m e S => ∃ i : Nat, m = l.length - i ∧ i ≤ l.length ∧ eget e 8 = sl c d 3 (l.map VV.v) ∧ eget e 0 = sl c d 3 (l.map VV.v) ∧ eget e 9 = .int .i64 l.length ∧ eget e 10 = .int .i64 i ∧ eget e 2 = .pointer (some { block := 0, off := 0 }) ∧ (l.take i).all rightF = true ∧ ∃ J, S = ⟨[], .cells true 48 [.int .i64 0, .int .i64 0, .string .empty] :: J, []⟩) l.length ?_ ?_
  · refine ⟨0, rfl, Nat.zero_le _, ?_, ?_, ?_, ?_, ?_, rfl, [], rfl⟩ <;> simp only [↓eget_eset, eget_zero, ↓reduceIte, Nat.reduceEqDiff, reduceCtorEq] <;> rfl
  · rintro m e S ⟨i, rfl, hi, e8, e0, e9, e10, e2, hall, J, rfl⟩
    refine VWP_Vc _ _ _ _ ?_
    by_cases hin : i < l.length
    · have hlt : (i : Int) < l.length := by omega
      have h0 : (0 : Int) ≤ i := by omega
      have hx : (l.map VV.v)[i]? = some l[i].v := by simp [hin]
      have ht := all_take rightF l i hin
      have hbad := all_bad rightF l i hin
      have hnum : ((i : Int) + 1) = ((i + 1 : Nat) : Int) := by omega
      have hwr : IntKind.i64.wrap ((i : Int) + 1) = ((i + 1 : Nat) : Int) := by rw [hnum]; exact wrap_id (by omega) (by omega)
      generalize l[i] = x at hx ht hbad
      obtain ⟨k, n, s⟩ := x
      simp only [VV.v] at hx
      by_cases hr : rightF ⟨k, n, s⟩ = true
      · simp -dsimp only [↓Hold_5, ↓VWP_seq, ↓VWP_region, ↓VWP_cond, ↓VWP_skip, ↓VWP_block, ↓VReg_one, ↓VReg_non, ↓VReg_nil, ↓VS_move, ↓VS_load, ↓VS_binOp, ↓VS_unOp, ↓VS_indexAddr, ↓VS_store, ↓Hold_1, With_some, emap_nil, ↓eget_eset, ↓ae_tmp, ↓ae_int, lop_not, asBool_bool, Option.map_some, ↓reduceIte, Nat.reduceEqDiff, reduceCtorEq, Bool.false_eq_true, decide_true, Bool.not_true, Bool.not_false, Nat.zero_add, Nat.reduceAdd, Nat.reduceLeDiff, true_and, and_self, List.map_cons, List.map_nil, List.all_cons, List.all_nil, tup_int, tup_str, tup_agg, cel_agg, List.drop_zero, List.toList_toArray, List.size_toArray, List.length_cons, List.length_nil, toksL_nil, toksL_cons, toks_int, toks_string, okv_int, okv_string, List.all_nil, List.all_cons, List.append_nil, List.cons_append, List.map_nil, List.map_cons, Bool.and_self, Bool.not_true, Bool.not_false, beq_self_eq_true, vnext_mk, vpush_mk, vget_nil, vput_nil, cellsIn_mk, List.getD_cons_zero, List.getD_cons_succ, List.set_cons_zero, List.set_cons_succ, List.length_cons, List.length_nil, List.drop_zero, List.take_succ_cons, List.take_zero, getD_app0, set_app0, List.length_append, vload_at, aggV_agg, vbin_int, ↓vlay_free, cellsOk_free, cellF, abin_lss, abin_add, beq_self_eq_true, Int.toNat_natCast, decide_true, beq_self_eq_true, setAll_whole, vld48, vgt48, vst48, ↓val48, vis42, ↓vfk53, e8, e9, e10, e0, e2, hlt, h0, hx, hr, ↓valright_c hX1]
        exact ⟨l.length - (i + 1), by omega, i + 1, rfl, by omega, by rw [hwr], by rw [ht, hall, hr]; rfl, _, rfl⟩
      · have hr' : rightF ⟨k, n, s⟩ = false := by simpa using hr
        simp -dsimp only [↓Hold_5, ↓VWP_seq, ↓VWP_region, ↓VWP_cond, ↓VWP_ret, ↓VWP_skip, ↓VWP_block, ↓VReg_one, ↓VReg_non, ↓VReg_nil, ↓VS_assign, ↓VS_load, ↓VS_binOp, ↓VS_unOp, ↓VS_indexAddr, ↓VS_store, ↓With_bindH, ↓With_guard, ↓Hold_1, ↓Hold_3, With_some, emap_nil, ↓eget_eset, ↓ae_tmp, ↓ae_int, ↓ae_bool, lop_not, asBool_bool, ↓vfinish_ret, ↓vres_nil, ↓vres_tmp, ↓vres_cell, vtell_eq, ret1, Option.map_some, ↓reduceIte, Nat.reduceEqDiff, decide_true, decide_false, Bool.not_false, Nat.zero_add, Nat.reduceAdd, Nat.reduceLT, Nat.reduceLeDiff, true_and, and_self, List.map_cons, List.map_nil, List.all_cons, List.all_nil, tup_int, tup_str, tup_agg, cel_agg, List.drop_zero, List.toList_toArray, List.size_toArray, List.length_cons, List.length_nil, mapOwn_agg, mapOwn_tuple, mapOwn_bool, mapOwn_int, mapOwn_string, toksL_nil, toksL_cons, toks_int, toks_bool, toks_string, toks_agg, toks_tuple, okv_agg, okv_tuple, okv_bool, okv_int, okv_string, List.flatMap_nil, List.flatMap_cons, List.all_nil, List.all_cons, List.append_nil, List.cons_append, List.map_nil, List.map_cons, Bool.and_self, Bool.not_false, beq_self_eq_true, vnext_mk, vpush_mk, vget_nil, vput_nil, cellsIn_mk, vthaw_nil, vwrites_nil, List.getD_cons_zero, List.getD_cons_succ, List.set_cons_zero, List.set_cons_succ, List.length_cons, List.length_nil, List.drop_zero, List.take_succ_cons, List.take_zero, getD_app0, set_app0, List.length_append, vload_at, aggV_agg, vbin_int, ↓vlay_free, cellsOk_free, cellF, abin_lss, beq_self_eq_true, Int.toNat_natCast, decide_true, decide_false, beq_self_eq_true, setAll_whole, vld48, vgt48, vst48, ↓val48, vis42, ↓vfk53, ↓vfk51, Tryd.results54, e8, e9, e10, e2, hlt, h0, hx, hr', ↓valright_c hX1, ↓err_c hX2]
        simp [firstF, hbad hr', eV, VV.v]
    · obtain rfl : i = l.length := by omega
      have hlt : ¬ ((l.length : Int) < l.length) := by omega
      simp -dsimp only [↓VWP_seq, ↓VWP_region, ↓VWP_cond, ↓VWP_block, ↓VWP_exit, ↓VWP_loop, ↓VReg_one, ↓VReg_nil, ↓VS_move, ↓VS_binOp, ↓VS_len, ↓Hold_1, ↓Hold_3, With_some, emap_nil, ↓eget_eset, ↓ae_tmp, ↓ae_int, asBool_bool, ↓reduceIte, reduceCtorEq, Bool.false_eq_true, decide_false, vbin_int, abin_lss, decide_false, vls42, e9, e10, e0, hlt, List.length_map]
      refine Vc_loop (fun m e S => ∃ i : Nat, m = l.length - i ∧ i ≤ l.length ∧ eget e 19 = sl c d 3 (l.map VV.v) ∧ eget e 20 = .int .i64 l.length ∧ eget e 21 = .int .i64 i ∧ eget e 2 = .pointer (some { block := 0, off := 0 }) ∧ (l.take i).all (fun x => !(decide (x.k = 4))) = true ∧ ∃ J, S = ⟨[], .cells true 48 [.int .i64 0, .int .i64 0, .string .empty] :: J, []⟩) l.length ?_ ?_
      · refine ⟨0, rfl, Nat.zero_le _, ?_, ?_, ?_, ?_, rfl, _, rfl⟩ <;> simp only [↓eget_eset, ↓reduceIte, Nat.reduceEqDiff, e2] <;> rfl
      · rintro m e S ⟨i, rfl, hi, e19, e20, e21, e2, hnone, J, rfl⟩
        rw [List.take_length] at hall
        refine VWP_Vc _ _ _ _ ?_
        by_cases hin : i < l.length
        · have hlt : (i : Int) < l.length := by omega
          have h0 : (0 : Int) ≤ i := by omega
          have hx : (l.map VV.v)[i]? = some l[i].v := by simp [hin]
          have ht := all_take (fun x => !(decide (x.k = 4))) l i hin
          have hat := find_at (fun x => decide (x.k = 4)) l i hin hnone
          have hnum : ((i : Int) + 1) = ((i + 1 : Nat) : Int) := by omega
          have hwr : IntKind.i64.wrap ((i : Int) + 1) = ((i + 1 : Nat) : Int) := by rw [hnum]; exact wrap_id (by omega) (by omega)
          generalize l[i] = x at hx ht hat
          obtain ⟨k, n, s⟩ := x
          simp only [VV.v] at hx
          by_cases hr : k = 4
          · simp -dsimp only [↓VWP_seq, ↓VWP_region, ↓VWP_cond, ↓VWP_ret, ↓VWP_skip, ↓VWP_block, ↓VReg_one, ↓VReg_non, ↓VReg_nil, ↓VS_assign, ↓VS_load, ↓VS_binOp, ↓VS_fieldAddr, ↓VS_indexAddr, ↓VS_store, ↓With_bindH, ↓With_guard, ↓Hold_1, ↓Hold_3, With_some, emap_nil, ↓eget_eset, ↓ae_tmp, ↓ae_int, ↓ae_bool, asBool_bool, ↓vfinish_ret, ↓vres_nil, ↓vres_tmp, ↓vres_cell, vtell_eq, ret1, Option.map_some, ↓reduceIte, Nat.reduceEqDiff, decide_true, decide_false, Bool.not_false, List.getElem?_cons_zero, Nat.zero_add, Nat.add_zero, Nat.reduceAdd, Nat.reduceLT, Nat.reduceLeDiff, true_and, and_self, List.map_cons, List.map_nil, List.all_cons, List.all_nil, tup_int, tup_str, tup_agg, cel_agg, List.drop_zero, List.toList_toArray, List.size_toArray, List.length_cons, List.length_nil, mapOwn_agg, mapOwn_tuple, mapOwn_bool, mapOwn_int, mapOwn_string, toksL_nil, toksL_cons, toks_int, toks_bool, toks_string, toks_agg, toks_tuple, okv_agg, okv_tuple, okv_bool, okv_int, okv_string, List.flatMap_nil, List.flatMap_cons, List.all_nil, List.all_cons, List.append_nil, List.cons_append, List.map_nil, List.map_cons, Bool.and_self, Bool.not_false, beq_self_eq_true, vnext_mk, vpush_mk, vget_nil, vput_nil, cellsIn_mk, vthaw_nil, vwrites_nil, List.getD_cons_zero, List.getD_cons_succ, List.set_cons_zero, List.set_cons_succ, List.length_cons, List.length_nil, List.drop_zero, List.take_succ_cons, List.take_zero, getD_app0, set_app0, List.length_append, vload_at, aggV_agg, vbin_int, ↓vlay_free, cellsOk_free, cellF, abin_eql, abin_lss, beq_self_eq_true, Int.toNat_natCast, decide_true, decide_false, beq_self_eq_true, setAll_whole, vld48, vgt48, vld3, vst48, ↓val48, vfp48_0, vis42, Tryd.results54, e19, e20, e21, e2, hlt, h0, hx, hr]
            simp [firstF, hall, hat (by simpa using hr), VV.v, hr]
          · simp -dsimp only [↓VWP_seq, ↓VWP_region, ↓VWP_cond, ↓VWP_skip, ↓VWP_block, ↓VReg_one, ↓VReg_non, ↓VReg_nil, ↓VS_move, ↓VS_load, ↓VS_binOp, ↓VS_fieldAddr, ↓VS_indexAddr, ↓VS_store, ↓Hold_1, With_some, emap_nil, ↓eget_eset, ↓ae_tmp, ↓ae_int, asBool_bool, Option.map_some, ↓reduceIte, Nat.reduceEqDiff, Bool.false_eq_true, decide_true, decide_false, Bool.not_false, List.getElem?_cons_zero, Nat.zero_add, Nat.add_zero, Nat.reduceAdd, Nat.reduceLeDiff, true_and, and_self, List.all_cons, List.all_nil, tup_int, tup_str, tup_agg, cel_agg, List.toList_toArray, List.size_toArray, List.length_cons, List.length_nil, toksL_nil, toksL_cons, toks_int, toks_string, okv_int, okv_string, List.all_nil, List.all_cons, List.append_nil, List.cons_append, Bool.and_self, Bool.not_false, beq_self_eq_true, vnext_mk, vpush_mk, vget_nil, vput_nil, cellsIn_mk, List.getD_cons_zero, List.getD_cons_succ, List.set_cons_zero, List.set_cons_succ, List.length_cons, List.length_nil, getD_app0, set_app0, List.length_append, vload_at, aggV_agg, vbin_int, ↓vlay_free, cellsOk_free, cellF, abin_eql, abin_lss, abin_add, beq_self_eq_true, Int.toNat_natCast, decide_true, decide_false, beq_self_eq_true, setAll_whole, ibeq, vgt48, vld3, vst48, ↓val48, vfp48_0, vis42, e19, e20, e21, e2, hlt, h0, hx, hr]
            exact ⟨l.length - (i + 1), by omega, i + 1, rfl, by omega, by rw [hwr], by rw [ht, hnone]; simp [hr], _, rfl⟩
        · obtain rfl : i = l.length := by omega
          have hlt : ¬ ((l.length : Int) < l.length) := by omega
          simp -dsimp only [↓VWP_seq, ↓VWP_region, ↓VWP_cond, ↓VWP_ret, ↓VWP_exit, ↓VReg_one, ↓VReg_non, ↓VReg_nil, ↓VS_assign, ↓VS_build, ↓VS_binOp, ↓VS_store, ↓With_bindH, ↓With_guard, ↓Hold_1, ↓Hold_3, With_some, emap_nil, ↓eget_eset, ↓ae_tmp, ↓ae_bool, asBool_bool, ↓vfinish_ret, ↓vres_nil, ↓vres_tmp, ↓vres_cell, vtell_eq, ret1, Option.map_some, ↓reduceIte, Nat.reduceEqDiff, Bool.false_eq_true, decide_false, Bool.not_false, Nat.zero_add, Nat.reduceAdd, Nat.reduceLT, Nat.reduceLeDiff, true_and, and_self, List.map_cons, List.map_nil, List.all_cons, List.all_nil, tup_int, tup_str, tup_agg, cel_agg, List.drop_zero, List.toList_toArray, List.size_toArray, List.length_cons, List.length_nil, mapOwn_agg, mapOwn_tuple, mapOwn_bool, mapOwn_int, mapOwn_string, toksL_nil, toksL_cons, toks_int, toks_bool, toks_string, toks_agg, toks_tuple, okv_agg, okv_tuple, okv_bool, okv_int, okv_string, List.flatMap_nil, List.flatMap_cons, List.all_nil, List.all_cons, List.append_nil, List.map_nil, List.map_cons, Bool.and_self, Bool.not_false, beq_self_eq_true, vnext_mk, vget_nil, vput_nil, cellsIn_mk, vthaw_nil, vwrites_nil, List.getD_cons_zero, List.set_cons_zero, List.length_cons, List.length_nil, List.drop_zero, List.take_succ_cons, List.take_zero, vbin_int, ↓vlay_free, cellsOk_free, cellF, abin_lss, beq_self_eq_true, decide_false, beq_self_eq_true, setAll_whole, afill, vld48, vst48, bd48, Tryd.results54, e20, e21, e2, hlt]
          rw [List.take_length] at hnone
          simp [firstF, hall, find_no _ l hnone, zV, VV.v]
end Go.Proofs.YtmdpggecelheoaaDoor.Abs
/- Numbers out of values. -/
set_option linter.unusedVariables false
set_option linter.unusedSimpArgs false
set_option maxRecDepth 4000
set_option maxHeartbeats 0
namespace Go.Proofs.YtmdpggecelheoaaDoor.Abs
open Go
attribute [local irreducible] Hold VReg Vf Vc VWP With VStp Vcallee Vp VE
def numF (x : VV) : Int × VV × Bool :=
  if rightF x then (if x.k = 4 then (0, x, false) else if x.k = 1 ∨ x.k = 0 then (x.n, zV, true) else (0, eV 3, false)) else (0, eV 3, false)
theorem number_p {X : VOuter} (hX : X 146 = none) (hX1 : X 53 = none) (hX2 : X 51 = none) (k n : Int) (s : ByteArray) : Vp Tryd.prog X 146 [.agg ⟨[.int .i64 k, .int .i64 n, .string s]⟩] (.tuple ⟨[.int .i64 (numF ⟨k, n, s⟩).1, (numF ⟨k, n, s⟩).2.1.v, .bool (numF ⟨k, n, s⟩).2.2]⟩) := by
  unfold Vp
  refine Vf_text hX Tryd.func146 rfl (by kernel_rfl) (by show 1 ≤ _; decide) ?_
  by_cases hr : rightF ⟨k, n, s⟩ = true
  · by_cases k4 : k = 4
    · subst k4
      simp -dsimp only [↓Hold_5, ↓VWP_seq, ↓VWP_region, ↓VWP_cond, ↓VWP_block, ↓VWP_open, ↓VReg_one, ↓VReg_nil, ↓VS_assign, ↓VS_load, ↓VS_binOp, ↓VS_unOp, ↓VS_fieldAddr, ↓VS_box, ↓Hold_1, With_some, emap_nil, ↓eget_eset, ↓ae_tmp, ↓ae_int, ↓ae_bool, eget_zero, lop_not, asBool_bool, ↓reduceIte, Nat.reduceEqDiff, Bool.false_eq_true, Bool.not_true, Bool.not_false, List.getElem?_cons_zero, Nat.zero_add, Nat.add_zero, Nat.reduceAdd, Nat.reduceLeDiff, true_and, List.map_cons, List.map_nil, List.all_cons, List.all_nil, tup_int, tup_str, tup_agg, cel_agg, List.drop_zero, List.toList_toArray, List.length_cons, List.length_nil, toksL_nil, toksL_cons, toks_int, toks_string, okv_int, okv_string, List.all_nil, List.all_cons, List.append_nil, List.nil_append, List.cons_append, List.map_nil, List.map_cons, Bool.and_self, Bool.not_true, Bool.not_false, beq_self_eq_true, vnext_mk, vpush_mk, vget_nil, cellsIn_mk, List.getD_cons_zero, List.length_cons, List.length_nil, List.drop_zero, List.take_succ_cons, List.take_zero, vbin_int, ↓vbox_free, cellsOk_free, cellF, abin_eql, beq_self_eq_true, beq_self_eq_true, vld48, vld3, ↓val48, vfp48_0, ↓vfk53, ↓valright_c hX1, hr]
      refine Vc_open [[], [], [], []] false (by kernel_rfl) (by kernel_rfl) (by kernel_rfl) ?_
      simp -dsimp only [↓VWP_ret, ↓VS_assign, ↓VS_load, ↓VS_store, ↓With_mapH, ↓With_bindH, ↓With_guard, ↓Hold_1, ↓Hold_3, With_some, emap_nil, ↓eget_eset, ↓ae_tmp, ↓ae_int, ↓ae_bool, light, ↓vfinish_ret, ↓vres_nil, ↓vres_tmp, ↓vres_cell, vtell_eq, ret1, Option.map_some, ↓reduceIte, Nat.reduceEqDiff, Bool.false_eq_true, decide_false, Bool.not_false, Nat.zero_add, Nat.reduceAdd, Nat.reduceLT, Nat.reduceLeDiff, true_and, and_self, List.map_cons, List.map_nil, List.all_cons, List.all_nil, tup_int, tup_str, tup_agg, cel_agg, List.drop_zero, List.toList_toArray, List.size_toArray, List.length_cons, List.length_nil, mapOwn_agg, mapOwn_tuple, mapOwn_bool, mapOwn_int, mapOwn_string, toksL_nil, toksL_cons, toks_int, toks_bool, toks_string, toks_agg, toks_tuple, okv_agg, okv_tuple, okv_bool, okv_int, okv_string, List.flatMap_nil, List.flatMap_cons, List.all_nil, List.all_cons, List.append_nil, List.nil_append, List.map_nil, List.map_cons, Bool.and_self, Bool.not_false, beq_self_eq_true, vnext_mk, vget_nil, vput_nil, cellsIn_mk, vthaw_nil, vwrites_nil, List.getD_cons_zero, List.getD_cons_succ, List.set_cons_zero, List.set_cons_succ, List.length_cons, List.length_nil, List.drop_zero, List.take_succ_cons, List.take_zero, ↓vlay_free, cellsOk_free, cellF, beq_self_eq_true, decide_false, beq_self_eq_true, setAll_whole, ↓VE_nil, ↓VE_one0, ↓VE_non0, List.reverse_cons, List.reverse_nil, vld48, vst48, Tryd.results146]
      simp [numF, hr, VV.v]
    · by_cases k1 : k = 1
      · subst k1
        simp -dsimp only [↓Hold_5, ↓VWP_seq, ↓VWP_region, ↓VWP_cond, ↓VWP_ret, ↓VWP_block, ↓VReg_one, ↓VReg_non, ↓VReg_nil, ↓VS_guard, ↓VS_move, ↓VS_assign, ↓VS_pick, ↓VS_build, ↓VS_load, ↓VS_binOp, ↓VS_unOp, ↓VS_fieldAddr, ↓VS_box, ↓VS_store, ↓With_mapH, ↓With_bindH, ↓With_guard, ↓Hold_1, With_some, emap_nil, ↓eget_eset, ↓ae_tmp, ↓ae_int, ↓ae_bool, eget_zero, lop_pick, lop_not, asBool_bool, asGuard_bool, bb_tf, ayielded_eq, ↓dstAt_zero, ↓dstAt_succ, ↓vfinish_ret, ↓vres_nil, ↓vres_tmp, ↓vres_cell, vtell_eq, ret1, Option.map_some, Option.bind_some, ↓reduceIte, Nat.reduceEqDiff, Bool.false_eq_true, decide_false, Bool.not_true, Bool.not_false, List.getElem?_cons_zero, List.getElem?_cons_succ, Nat.zero_add, Nat.add_zero, Nat.reduceAdd, Nat.reduceLT, Nat.reduceLeDiff, true_and, and_self, List.map_cons, List.map_nil, List.all_cons, List.all_nil, tup_int, tup_str, tup_agg, cel_agg, List.drop_zero, List.toList_toArray, List.size_toArray, List.length_cons, List.length_nil, mapOwn_agg, mapOwn_tuple, mapOwn_bool, mapOwn_int, mapOwn_string, toksL_nil, toksL_cons, toks_int, toks_bool, toks_string, toks_agg, toks_tuple, okv_agg, okv_tuple, okv_bool, okv_int, okv_string, List.flatMap_nil, List.flatMap_cons, List.all_nil, List.all_cons, List.append_nil, List.nil_append, List.cons_append, List.map_nil, List.map_cons, Bool.and_self, Bool.not_true, Bool.not_false, beq_self_eq_true, vnext_mk, vpush_mk, vget_nil, vput_nil, cellsIn_mk, vthaw_nil, vwrites_nil, List.getD_cons_zero, List.getD_cons_succ, List.set_cons_zero, List.set_cons_succ, List.length_cons, List.length_nil, List.drop_zero, List.take_succ_cons, List.take_zero, vbin_int, ↓vlay_free, ↓vbox_free, cellsOk_free, cellF, abin_eql, beq_self_eq_true, decide_false, beq_self_eq_true, bb_tf, setAll_whole, afill, ibeq, Int.reduceEq, vld48, vld3, vst48, ↓val48, vfp48_0, vfp48_1, bd48, ↓vfk53, Tryd.results146, ↓valright_c hX1, hr]
        simp [numF, hr, zV, VV.v]
      · by_cases k0 : k = 0
        · subst k0
          simp -dsimp only [↓Hold_5, ↓VWP_seq, ↓VWP_region, ↓VWP_cond, ↓VWP_ret, ↓VWP_block, ↓VReg_one, ↓VReg_non, ↓VReg_nil, ↓VS_guard, ↓VS_move, ↓VS_assign, ↓VS_pick, ↓VS_build, ↓VS_load, ↓VS_binOp, ↓VS_unOp, ↓VS_fieldAddr, ↓VS_box, ↓VS_store, ↓With_mapH, ↓With_bindH, ↓With_guard, ↓Hold_1, With_some, emap_nil, ↓eget_eset, ↓ae_tmp, ↓ae_int, ↓ae_bool, eget_zero, lop_pick, lop_not, asBool_bool, asGuard_bool, ayielded_eq, ↓dstAt_zero, ↓dstAt_succ, ↓vfinish_ret, ↓vres_nil, ↓vres_tmp, ↓vres_cell, vtell_eq, ret1, Option.map_some, Option.bind_some, ↓reduceIte, Nat.reduceEqDiff, Bool.false_eq_true, decide_false, Bool.not_true, Bool.not_false, List.getElem?_cons_zero, List.getElem?_cons_succ, Nat.zero_add, Nat.add_zero, Nat.reduceAdd, Nat.reduceLT, Nat.reduceLeDiff, true_and, and_self, List.map_cons, List.map_nil, List.all_cons, List.all_nil, tup_int, tup_str, tup_agg, cel_agg, List.drop_zero, List.toList_toArray, List.size_toArray, List.length_cons, List.length_nil, mapOwn_agg, mapOwn_tuple, mapOwn_bool, mapOwn_int, mapOwn_string, toksL_nil, toksL_cons, toks_int, toks_bool, toks_string, toks_agg, toks_tuple, okv_agg, okv_tuple, okv_bool, okv_int, okv_string, List.flatMap_nil, List.flatMap_cons, List.all_nil, List.all_cons, List.append_nil, List.nil_append, List.cons_append, List.map_nil, List.map_cons, Bool.and_self, Bool.not_true, Bool.not_false, beq_self_eq_true, vnext_mk, vpush_mk, vget_nil, vput_nil, cellsIn_mk, vthaw_nil, vwrites_nil, List.getD_cons_zero, List.getD_cons_succ, List.set_cons_zero, List.set_cons_succ, List.length_cons, List.length_nil, List.drop_zero, List.take_succ_cons, List.take_zero, vbin_int, ↓vlay_free, ↓vbox_free, cellsOk_free, cellF, abin_eql, beq_self_eq_true, decide_false, beq_self_eq_true, setAll_whole, afill, ibeq, Int.reduceEq, vld48, vld3, vst48, ↓val48, vfp48_0, vfp48_1, bd48, ↓vfk53, Tryd.results146, ↓valright_c hX1, hr]
          simp [numF, hr, zV, VV.v]
        · simp -dsimp only [↓Hold_5, ↓VWP_seq, ↓VWP_region, ↓VWP_cond, ↓VWP_ret, ↓VWP_skip, ↓VWP_block, ↓VReg_one, ↓VReg_non, ↓VReg_nil, ↓VS_guard, ↓VS_move, ↓VS_assign, ↓VS_pick, ↓VS_load, ↓VS_binOp, ↓VS_unOp, ↓VS_fieldAddr, ↓VS_box, ↓VS_store, ↓With_mapH, ↓With_bindH, ↓With_guard, ↓Hold_1, With_some, emap_nil, ↓eget_eset, ↓ae_tmp, ↓ae_int, ↓ae_bool, eget_zero, lop_pick, lop_not, asBool_bool, asGuard_bool, ayielded_eq, ↓dstAt_zero, ↓dstAt_succ, ↓vfinish_ret, ↓vres_nil, ↓vres_tmp, ↓vres_cell, vtell_eq, ret1, Option.map_some, Option.bind_some, ↓reduceIte, Nat.reduceEqDiff, Bool.false_eq_true, decide_false, Bool.not_true, Bool.not_false, List.getElem?_cons_zero, Nat.zero_add, Nat.add_zero, Nat.reduceAdd, Nat.reduceLT, Nat.reduceLeDiff, true_and, and_self, List.map_cons, List.map_nil, List.all_cons, List.all_nil, tup_int, tup_str, tup_agg, cel_agg, List.drop_zero, List.toList_toArray, List.size_toArray, List.length_cons, List.length_nil, mapOwn_agg, mapOwn_tuple, mapOwn_bool, mapOwn_int, mapOwn_string, toksL_nil, toksL_cons, toks_int, toks_bool, toks_string, toks_agg, toks_tuple, okv_agg, okv_tuple, okv_bool, okv_int, okv_string, List.flatMap_nil, List.flatMap_cons, List.all_nil, List.all_cons, List.append_nil, List.nil_append, List.cons_append, List.map_nil, List.map_cons, Bool.and_self, Bool.not_true, Bool.not_false, beq_self_eq_true, vnext_mk, vpush_mk, vget_nil, vput_nil, cellsIn_mk, vthaw_nil, vwrites_nil, List.getD_cons_zero, List.getD_cons_succ, List.set_cons_zero, List.set_cons_succ, List.length_cons, List.length_nil, List.drop_zero, List.take_succ_cons, List.take_zero, vbin_int, ↓vlay_free, ↓vbox_free, cellsOk_free, cellF, abin_eql, beq_self_eq_true, decide_false, beq_self_eq_true, setAll_whole, ibeq, vld48, vld3, vst48, ↓val48, vfp48_0, ↓vfk53, ↓vfk51, Tryd.results146, ↓valright_c hX1, ↓err_c hX2, hr, k4, k1, k0]
          simp [numF, hr, k4, k1, k0, eV, VV.v]
  · have hr' : rightF ⟨k, n, s⟩ = false := by simpa using hr
    simp -dsimp only [↓Hold_5, ↓VWP_seq, ↓VWP_region, ↓VWP_cond, ↓VWP_ret, ↓VWP_block, ↓VReg_one, ↓VReg_non, ↓VReg_nil, ↓VS_assign, ↓VS_load, ↓VS_unOp, ↓VS_box, ↓VS_store, ↓With_mapH, ↓With_bindH, ↓With_guard, ↓Hold_1, With_some, emap_nil, ↓eget_eset, ↓ae_tmp, ↓ae_int, ↓ae_bool, eget_zero, lop_not, asBool_bool, ↓vfinish_ret, ↓vres_nil, ↓vres_tmp, ↓vres_cell, vtell_eq, ret1, Option.map_some, ↓reduceIte, Nat.reduceEqDiff, decide_false, Bool.not_false, Nat.zero_add, Nat.add_zero, Nat.reduceAdd, Nat.reduceLT, Nat.reduceLeDiff, true_and, and_self, List.map_cons, List.map_nil, List.all_cons, List.all_nil, tup_int, tup_str, tup_agg, cel_agg, List.drop_zero, List.toList_toArray, List.size_toArray, List.length_cons, List.length_nil, mapOwn_agg, mapOwn_tuple, mapOwn_bool, mapOwn_int, mapOwn_string, toksL_nil, toksL_cons, toks_int, toks_bool, toks_string, toks_agg, toks_tuple, okv_agg, okv_tuple, okv_bool, okv_int, okv_string, List.flatMap_nil, List.flatMap_cons, List.all_nil, List.all_cons, List.append_nil, List.nil_append, List.cons_append, List.map_nil, List.map_cons, Bool.and_self, Bool.not_false, beq_self_eq_true, vnext_mk, vpush_mk, vget_nil, vput_nil, cellsIn_mk, vthaw_nil, vwrites_nil, List.getD_cons_zero, List.getD_cons_succ, List.set_cons_zero, List.set_cons_succ, List.length_cons, List.length_nil, List.drop_zero, List.take_succ_cons, List.take_zero, ↓vlay_free, ↓vbox_free, cellsOk_free, cellF, beq_self_eq_true, decide_false, beq_self_eq_true, setAll_whole, vld48, vst48, ↓val48, ↓vfk53, ↓vfk51, Tryd.results146, ↓valright_c hX1, ↓err_c hX2, hr']
    simp [numF, hr', eV, VV.v]
end Go.Proofs.YtmdpggecelheoaaDoor.Abs
/- Numbers out of rows; rows of one. -/
set_option linter.unusedVariables false
set_option linter.unusedSimpArgs false
set_option maxRecDepth 4000
set_option maxHeartbeats 0
namespace Go.Proofs.YtmdpggecelheoaaDoor.Abs
open Go
attribute [local irreducible] Hold VReg Vf Vc VWP With VStp Vcallee Vp VE
theorem number_c {X : VOuter} (hX : X 146 = none) (hX1 : X 53 = none) (hX2 : X 51 = none) (k n : Int) (s : ByteArray) {S : VH} {K : VCont} : Vcallee Tryd.prog X 146 [.agg ⟨[.int .i64 k, .int .i64 n, .string s]⟩] S K = K (.tuple ⟨[.int .i64 (numF ⟨k, n, s⟩).1, .agg ⟨[.int .i64 (numF ⟨k, n, s⟩).2.1.k, .int .i64 (numF ⟨k, n, s⟩).2.1.n, .string (numF ⟨k, n, s⟩).2.1.s]⟩, .bool (numF ⟨k, n, s⟩).2.2]⟩) [] S [] false := Vcallee_of (number_p hX hX1 hX2 k n s) rfl rfl rfl
def numsF (l : List VV) : List Int × VV × Bool := match l.find? (fun x => !(numF x).2.2) with
  | some x => ([], (numF x).2.1, false)
  | none => (l.map fun x => (numF x).1, zV, true)
theorem map_take (f : VV → Int) (l : List VV) (i : Nat) (h : i < l.length) : (l.take (i + 1)).map f = (l.take i).map f ++ [f l[i]] := by
  rw [← List.take_append_getElem h, List.map_append]
  rfl
theorem not_not_all (p : VV → Bool) (l : List VV) : (l.all fun x => !(!p x)) = l.all p := by simp
theorem numbers_p {X : VOuter} (hX : X 151 = none) (hX0 : X 146 = none) (hX1 : X 53 = none) (hX2 : X 51 = none) (c : Bool) (d : Nat) (l : List VV) (hl : l.length ≤ 1000000000) : Vp Tryd.prog X 151 [sl c d 3 (l.map VV.v)] (.tuple ⟨[sl true 0 1 ((numsF l).1.map vI), (numsF l).2.1.v, .bool (numsF l).2.2]⟩) := by
  unfold Vp
  refine Vf_text hX Tryd.func151 rfl (by kernel_rfl) (by show 1 ≤ _; decide) ?_
  simp -dsimp only [↓VWP_seq, ↓VWP_region, ↓VWP_block, ↓VWP_loop, ↓VReg_one, ↓VReg_nil, ↓VS_move, ↓VS_assign, ↓VS_len, ↓Hold_1, With_some, emap_nil, ↓eget_eset, ↓ae_tmp, ↓ae_int, ↓ae_bool, ↓ae_slice0, eget_zero, ↓reduceIte, reduceCtorEq, Nat.add_zero, List.length_nil, List.nil_append, vnext_mk, vpush_mk, List.length_nil, ↓val48, vls42, List.length_map]
  refine Vc_loop (fun m e S => ∃ i : Nat, m = l.length - i ∧ i ≤ l.length ∧ eget e 11 = sl c d 3 (l.map VV.v) ∧ eget e 12 = .int .i64 l.length ∧ eget e 13 = .int .i64 i ∧ eget e 3 = .pointer (some { block := 0, off := 0 }) ∧ eget e 5 = ol true (29, none) 1 (((l.take i).map fun x => (numF x).1).map vI) ∧ (l.take i).all (fun x => (numF x).2.2) = true ∧ ∃ J, S = ⟨[], .cells true 48 [.int .i64 0, .int .i64 0, .string .empty] :: J, []⟩) l.length ?_ ?_
  · refine ⟨0, rfl, Nat.zero_le _, ?_, ?_, ?_, ?_, ?_, rfl, [], rfl⟩ <;> simp only [↓eget_eset, ↓reduceIte, Nat.reduceEqDiff] <;> rfl
  · rintro m e S ⟨i, rfl, hi, e11, e12, e13, e3, e5, hall, J, rfl⟩
    refine VWP_Vc _ _ _ _ ?_
    by_cases hin : i < l.length
    · have hlt : (i : Int) < l.length := by omega
      have h0 : (0 : Int) ≤ i := by omega
      have hx : (l.map VV.v)[i]? = some l[i].v := by simp [hin]
      have ht := all_take (fun x => (numF x).2.2) l i hin
      have hm := map_take (fun x => (numF x).1) l i hin
      have hat := find_at (fun x => !(numF x).2.2) l i hin (by rw [not_not_all]; exact hall)
      have hnum : ((i : Int) + 1) = ((i + 1 : Nat) : Int) := by omega
      have hwr : IntKind.i64.wrap ((i : Int) + 1) = ((i + 1 : Nat) : Int) := by rw [hnum]; exact wrap_id (by omega) (by omega)
      have hlen : ((l.take i).map fun x => (numF x).1).length ≤ l.length := by rw [List.length_map, List.length_take]; omega
      generalize l[i] = x at hx ht hat hm
      obtain ⟨k, n, s⟩ := x
      simp only [VV.v] at hx
      generalize hN : (l.take i).map (fun x => (numF x).1) = N at e5 hm hlen
      by_cases hr : (numF ⟨k, n, s⟩).2.2 = true
      · simp -dsimp only [↓Hold_5, thaw_sl, thaw_ol, growT_sl, vgrow_ol, ↓VWP_seq, ↓VWP_region, ↓VWP_cond, ↓VWP_skip, ↓VWP_block, ↓VReg_one, ↓VReg_non, ↓VReg_nil, ↓VS_move, ↓VS_assign, ↓VS_load, ↓VS_binOp, ↓VS_unOp, ↓VS_indexAddr, ↓VS_extract, ↓VS_buildSlice, ↓VS_store, ↓VS_append, ↓With_guard, ↓Hold_1, With_some, emap_nil, emap_cons, ↓eget_map, ↓eget_eset, ↓ae_tmp, ↓ae_int, lop_extract, lop_not, asBool_bool, Option.map_some, Option.bind_some, ↓reduceIte, Nat.reduceEqDiff, Bool.false_eq_true, decide_true, Bool.not_true, Bool.not_false, List.getElem?_toArray, List.getElem?_cons_zero, List.getElem?_cons_succ, Nat.zero_add, Nat.reduceAdd, Nat.reduceMul, Nat.reduceLT, Nat.reduceLeDiff, and_true, true_and, and_self, List.map_cons, List.map_nil, List.all_cons, List.all_nil, tup_int, cel_int, tup_str, tup_agg, cel_agg, List.drop_zero, List.toList_toArray, List.size_toArray, List.length_cons, List.length_nil, mapOwn_int, mapOwn_pointer, toksL_nil, toksL_cons, toks_int, toks_string, okv_int, okv_string, List.all_nil, List.all_cons, List.append_nil, List.nil_append, List.cons_append, List.map_nil, List.map_cons, Bool.and_self, Bool.not_true, Bool.not_false, List.mem_cons, List.not_mem_nil, or_false, Prod.mk.injEq, beq_self_eq_true, vnext_mk, vpush_mk, vget_nil, vput_nil, cellsIn_mk, vturn_nil, vthaw_one, boxesOf_nil, List.getD_cons_zero, List.getD_cons_succ, List.set_cons_zero, List.set_cons_succ, List.length_cons, List.length_nil, List.drop_zero, List.take_succ_cons, List.take_zero, getD_app, getD_app0, set_app, set_app0, List.append_assoc, List.length_append, vload_at, aggV_agg, velems_own, partsOk_nil, partsOk_cons, vfill_nil, vfill_cons, vbin_int, ↓vlay_free, cellsOk_free, cellF, List.replicate_succ, List.replicate_zero, abin_lss, abin_add, beq_self_eq_true, Int.toNat_natCast, decide_true, beq_self_eq_true, setAll_whole, vld48, vgt48, vst48, ↓val48, vbd43, vis42, vap43, ↓vfk146, e11, e12, e13, e3, e5, hlt, h0, hx, hr, ↓number_c hX0 hX1 hX2, List.length_map]
        exact ⟨⟨by omega, by omega⟩, l.length - (i + 1), by omega, i + 1, rfl, by omega, by rw [hwr], by rw [hm]; simp [vI], by rw [ht, hall, hr]; rfl, _, rfl⟩
      · have hr' : (numF ⟨k, n, s⟩).2.2 = false := by simpa using hr
        simp -dsimp only [↓Hold_5, ↓VWP_seq, ↓VWP_region, ↓VWP_cond, ↓VWP_skip, ↓VWP_block, ↓VWP_open, ↓VReg_one, ↓VReg_non, ↓VReg_nil, ↓VS_move, ↓VS_assign, ↓VS_load, ↓VS_binOp, ↓VS_unOp, ↓VS_indexAddr, ↓VS_extract, ↓VS_store, ↓Hold_1, With_some, emap_nil, ↓eget_eset, ↓ae_tmp, lop_extract, lop_not, asBool_bool, Option.map_some, ↓reduceIte, Nat.reduceEqDiff, decide_true, Bool.not_false, List.getElem?_toArray, List.getElem?_cons_zero, List.getElem?_cons_succ, Nat.zero_add, Nat.reduceAdd, Nat.reduceLeDiff, and_self, List.map_cons, List.map_nil, List.all_cons, List.all_nil, tup_int, tup_str, tup_agg, cel_agg, List.drop_zero, List.toList_toArray, List.size_toArray, List.length_cons, List.length_nil, toksL_nil, toksL_cons, toks_int, toks_string, okv_int, okv_string, List.all_nil, List.all_cons, List.append_nil, List.nil_append, List.cons_append, List.map_nil, List.map_cons, Bool.and_self, Bool.not_false, beq_self_eq_true, vnext_mk, vpush_mk, vget_nil, vput_nil, cellsIn_mk, List.getD_cons_zero, List.getD_cons_succ, List.set_cons_zero, List.set_cons_succ, List.length_cons, List.length_nil, List.drop_zero, List.take_succ_cons, List.take_zero, getD_app, getD_app0, set_app, set_app0, List.append_assoc, List.length_append, vload_at, aggV_agg, vbin_int, ↓vlay_free, cellsOk_free, cellF, abin_lss, beq_self_eq_true, Int.toNat_natCast, decide_true, beq_self_eq_true, setAll_whole, vld48, vgt48, vst48, ↓val48, vis42, ↓vfk146, e11, e12, e13, hlt, h0, hx, hr', ↓number_c hX0 hX1 hX2]
        refine Vc_open [[], [], [], []] false (by kernel_rfl) (by kernel_rfl) (by kernel_rfl) ?_
        simp -dsimp only [↓VWP_ret, ↓VS_assign, ↓VS_load, ↓VS_store, ↓With_mapH, ↓With_bindH, ↓With_guard, ↓Hold_1, ↓Hold_3, With_some, emap_nil, ↓eget_eset, ↓ae_tmp, ↓ae_bool, ↓ae_slice0, light, ↓vfinish_ret, ↓vres_nil, ↓vres_tmp, ↓vres_cell, vtell_eq, ret1, Option.map_some, ↓reduceIte, Nat.reduceEqDiff, Bool.false_eq_true, decide_false, Bool.not_false, Nat.zero_add, Nat.reduceAdd, Nat.reduceLT, Nat.reduceLeDiff, true_and, and_self, List.map_cons, List.map_nil, List.all_cons, List.all_nil, tup_int, tup_str, tup_agg, cel_agg, List.drop_zero, List.toList_toArray, List.size_toArray, List.length_cons, List.length_nil, mapOwn_agg, mapOwn_tuple, mapOwn_bool, mapOwn_int, mapOwn_string, mapOwn_slice, toksL_nil, toksL_cons, toks_int, toks_bool, toks_string, toks_slice, toks_agg, toks_tuple, okv_agg, okv_tuple, okv_bool, okv_int, okv_string, okv_slice0, List.flatMap_nil, List.flatMap_cons, List.all_nil, List.all_cons, List.append_nil, List.nil_append, List.map_nil, List.map_cons, Bool.and_self, Bool.not_false, beq_self_eq_true, vnext_mk, vget_nil, vput_nil, cellsIn_mk, vthaw_nil, vwrites_nil, List.getD_cons_zero, List.getD_cons_succ, List.set_cons_zero, List.length_cons, List.length_nil, List.drop_zero, List.take_succ_cons, List.take_zero, getD_app, List.length_append, ↓vlay_free, cellsOk_free, cellF, beq_self_eq_true, decide_false, beq_self_eq_true, setAll_whole, ↓VE_nil, ↓VE_one0, ↓VE_non0, List.reverse_cons, List.reverse_nil, vld48, vst48, Tryd.results151, e3]
        simp [numsF, hat (by simp [hr']), VV.v, sl]
    · obtain rfl : i = l.length := by omega
      have hlt : ¬ ((l.length : Int) < l.length) := by omega
      simp -dsimp only [okv_sl0, toks_ol, thawAll_ol, thaw_tok1, ↓VWP_seq, ↓VWP_region, ↓VWP_cond, ↓VWP_ret, ↓VWP_exit, ↓VReg_one, ↓VReg_non, ↓VReg_nil, ↓VS_move, ↓VS_assign, ↓VS_build, ↓VS_binOp, ↓VS_store, ↓With_mapH, ↓With_bindH, ↓With_guard, ↓Hold_1, ↓Hold_3, With_some, emap_nil, ↓eget_eset, ↓ae_tmp, ↓ae_bool, asBool_bool, ↓vfinish_ret, ↓vres_nil, ↓vres_tmp, ↓vres_cell, vtell_eq, ret1, Option.map_some, ↓reduceIte, Nat.reduceEqDiff, Bool.false_eq_true, decide_false, Bool.not_false, Nat.zero_add, Nat.reduceAdd, Nat.reduceLT, Nat.reduceLeDiff, true_and, and_self, List.map_cons, List.map_nil, List.all_cons, List.all_nil, tup_int, tup_str, tup_agg, cel_agg, List.drop_zero, List.toList_toArray, List.size_toArray, List.length_cons, List.length_nil, mapOwn_agg, mapOwn_tuple, mapOwn_bool, mapOwn_int, mapOwn_string, toksL_nil, toksL_cons, toks_int, toks_bool, toks_string, toks_agg, toks_tuple, okv_agg, okv_tuple, okv_bool, okv_int, okv_string, List.flatMap_nil, List.flatMap_cons, List.all_nil, List.all_cons, List.append_nil, List.map_nil, List.map_cons, Bool.and_self, Bool.true_and, Bool.not_false, beq_self_eq_true, vnext_mk, vget_nil, vput_nil, cellsIn_mk, vwrites_nil, List.getD_cons_zero, List.set_cons_zero, List.length_cons, List.length_nil, List.drop_zero, List.take_succ_cons, List.take_zero, vbin_int, ↓vlay_free, cellsOk_free, cellF, abin_lss, beq_self_eq_true, decide_false, beq_self_eq_true, setAll_whole, afill, vld48, vst48, bd48, Tryd.results151, e12, e13, e3, e5, hlt, List.take_length]
      rw [List.take_length] at hall
      simp [numsF, find_no _ l (by rw [not_not_all]; exact hall), zV, VV.v]
end Go.Proofs.YtmdpggecelheoaaDoor.Abs
/- Rows of rows: each of one value. -/
set_option linter.unusedVariables false
set_option linter.unusedSimpArgs false
set_option maxRecDepth 4000
set_option maxHeartbeats 0
namespace Go.Proofs.YtmdpggecelheoaaDoor.Abs
open Go
attribute [local irreducible] Hold VReg Vf Vc VWP With VStp Vcallee Vp VE
/-- A row of values; c: it is nil when it is empty. -/
structure RW where
  c : Bool
  l : List VV
def RW.v (d : Nat) (r : RW) : Value := sl r.c d 3 (r.l.map VV.v)
def singleF (rs : List RW) : Bool := rs.all fun r => decide ((r.l.length : Int) = 1)
theorem all_takeR (p : RW → Bool) (l : List RW) (i : Nat) (h : i < l.length) : (l.take (i + 1)).all p = ((l.take i).all p && p l[i]) := by
  rw [← List.take_append_getElem h, List.all_append]
  simp
theorem all_badR (p : RW → Bool) (l : List RW) (i : Nat) (h : i < l.length) (hp : p l[i] = false) : l.all p = false := by
  rw [List.all_eq_false]
  exact ⟨l[i], List.getElem_mem h, by simp [hp]⟩
theorem single_p {X : VOuter} (hX : X 71 = none) (c : Bool) (d d' : Nat) (l : List RW) (hl : l.length ≤ 1000000000) : Vp Tryd.prog X 71 [sl c d 1 (l.map (RW.v d'))] (.bool (singleF l)) := by
  unfold Vp
  refine Vf_text hX Tryd.func71 rfl (by kernel_rfl) (by show 1 ≤ _; decide) ?_
  simp -dsimp only [↓VWP_seq, ↓VWP_region, ↓VWP_block, ↓VWP_loop, ↓VReg_one, ↓VReg_nil, ↓VS_move, ↓VS_assign, ↓VS_len, ↓Hold_1, With_some, emap_nil, ↓eget_eset, ↓ae_tmp, ↓ae_int, ↓ae_bool, eget_zero, ↓reduceIte, reduceCtorEq, vls46, List.length_map]
  refine Vc_loop (fun m e S => ∃ i : Nat, m = l.length - i ∧ i ≤ l.length ∧ eget e 5 = sl c d 1 (l.map (RW.v d')) ∧ eget e 6 = .int .i64 l.length ∧ eget e 7 = .int .i64 i ∧ (l.take i).all (fun r => decide ((r.l.length : Int) = 1)) = true ∧ S = ⟨[], [], []⟩) l.length ?_ ?_
  · refine ⟨0, rfl, Nat.zero_le _, ?_, ?_, ?_, rfl, rfl⟩ <;> simp only [↓eget_eset, ↓reduceIte, Nat.reduceEqDiff] <;> rfl
  · rintro m e S ⟨i, rfl, hi, e5, e6, e7, hall, rfl⟩
    refine VWP_Vc _ _ _ _ ?_
    by_cases hin : i < l.length
    · have hlt : (i : Int) < l.length := by omega
      have h0 : (0 : Int) ≤ i := by omega
      have hx : (l.map (RW.v d'))[i]? = some (l[i].v d') := by simp [hin]
      have ht := all_takeR (fun r => decide ((r.l.length : Int) = 1)) l i hin
      have hbad := all_badR (fun r => decide ((r.l.length : Int) = 1)) l i hin
      have hnum : ((i : Int) + 1) = ((i + 1 : Nat) : Int) := by omega
      have hwr : IntKind.i64.wrap ((i : Int) + 1) = ((i + 1 : Nat) : Int) := by rw [hnum]; exact wrap_id (by omega) (by omega)
      generalize l[i] = x at hx ht hbad
      obtain ⟨c', r⟩ := x
      simp only [RW.v] at hx
      by_cases hr : (r.length : Int) = 1
      · simp -dsimp only [cellV_sl, ↓VWP_seq, ↓VWP_region, ↓VWP_cond, ↓VWP_skip, ↓VWP_block, ↓VReg_one, ↓VReg_nil, ↓VS_move, ↓VS_assign, ↓VS_load, ↓VS_binOp, ↓VS_indexAddr, ↓VS_len, ↓Hold_1, With_some, emap_nil, ↓eget_eset, ↓ae_tmp, ↓ae_int, asBool_bool, Option.map_some, ↓reduceIte, Nat.reduceEqDiff, Bool.false_eq_true, decide_true, and_true, true_and, vload_at, vbin_int, abin_neq, abin_lss, abin_add, Int.toNat_natCast, decide_true, bne_self_eq_false, vgt42, vis46, vls42, e5, e6, e7, hlt, h0, hx, hr, List.length_map]
        exact ⟨l.length - (i + 1), by omega, i + 1, rfl, by omega, by rw [hwr], by rw [ht, hall]; simp [hr]⟩
      · simp -dsimp only [cellV_sl, ↓VWP_seq, ↓VWP_region, ↓VWP_cond, ↓VWP_ret, ↓VWP_skip, ↓VWP_block, ↓VReg_one, ↓VReg_nil, ↓VS_move, ↓VS_assign, ↓VS_load, ↓VS_binOp, ↓VS_indexAddr, ↓VS_len, ↓With_guard, ↓Hold_1, ↓Hold_3, With_some, emap_nil, ↓eget_eset, ↓ae_tmp, ↓ae_int, ↓ae_bool, asBool_bool, ↓vfinish_ret, ↓vres_nil, ↓vres_tmp, vtell_eq, ret1, Option.map_some, Option.bind_some, ↓reduceIte, Nat.reduceEqDiff, decide_true, decide_false, Bool.not_false, true_and, List.toList_toArray, List.length_nil, mapOwn_bool, toks_bool, okv_bool, Bool.not_false, vthaw_nil, vwrites_nil, List.length_nil, vload_at, vbin_int, abin_neq, abin_lss, Int.toNat_natCast, decide_true, decide_false, ibne, vgt42, vis46, vls42, Tryd.results71, e5, e6, e7, hlt, h0, hx, hr, List.length_map]
        simp [singleF, hbad (by simp [hr])]
    · obtain rfl : i = l.length := by omega
      have hlt : ¬ ((l.length : Int) < l.length) := by omega
      simp -dsimp only [↓VWP_seq, ↓VWP_region, ↓VWP_cond, ↓VWP_ret, ↓VWP_exit, ↓VReg_one, ↓VReg_nil, ↓VS_assign, ↓VS_binOp, ↓With_guard, ↓Hold_1, ↓Hold_3, With_some, emap_nil, ↓eget_eset, ↓ae_tmp, ↓ae_bool, asBool_bool, ↓vfinish_ret, ↓vres_nil, ↓vres_tmp, vtell_eq, ret1, Option.map_some, Option.bind_some, ↓reduceIte, Bool.false_eq_true, decide_false, true_and, List.toList_toArray, List.length_nil, mapOwn_bool, toks_bool, okv_bool, vthaw_nil, vwrites_nil, List.length_nil, vbin_int, abin_lss, decide_false, Tryd.results71, e6, e7, hlt]
      rw [List.take_length] at hall
      simp [singleF, hall]
end Go.Proofs.YtmdpggecelheoaaDoor.Abs
/- How two values compare. -/
set_option linter.unusedVariables false
set_option linter.unusedSimpArgs false
set_option maxRecDepth 4000
set_option maxHeartbeats 0
namespace Go.Proofs.YtmdpggecelheoaaDoor.Abs
open Go
attribute [local irreducible] Hold VReg Vf Vc VWP With VStp Vcallee Vp VE
def lessS (a b : ByteArray) : Bool := Op.bytesLess a.toList b.toList
theorem ab_slt {P : Program} {t : TypeId} {x y : Operand} {a b : ByteArray} : abin P .lss t x y (.string a) (.string b) = some (.bool (lessS a b)) := _root_.id rfl
theorem ab_sgt {P : Program} {t : TypeId} {x y : Operand} {a b : ByteArray} : abin P .gtr t x y (.string a) (.string b) = some (.bool (!(lessS a b || (a.toList == b.toList)))) := _root_.id rfl
theorem ab_sne {P : Program} {t : TypeId} {x y : Operand} {a : ByteArray} : abin P .neq t x y (.string a) (.string a) = some (.bool false) := by rw [abin_sneq]; simp
def ordI (a b : Int) : Int := if a < b then -1 else if b < a then 1 else 0
def ordS (a b : ByteArray) : Int := if lessS a b then -1 else if lessS a b || (a.toList == b.toList) then 0 else 1
def or3V (a b c : Int) : Int := if a ≠ 0 then a else if b ≠ 0 then b else c
def cmpF (x y : VV) : Int := if rightF x && rightF y then or3V (ordI x.k y.k) (ordI x.n y.n) (ordS x.s y.s) else 0
section
variable {X : VOuter}
theorem nani_p (hX : X 84 = none) (n : Int) : Vp Tryd.prog X 84 [.int .i64 n] (.bool false) := by
  unfold Vp
  refine Vf_text hX Tryd.func84 rfl (by kernel_rfl) (by show 1 ≤ _; decide) ?_
  simp -dsimp only [↓VWP_seq, ↓VWP_region, ↓VWP_ret, ↓VReg_one, ↓VReg_nil, ↓VS_move, ↓VS_assign, ↓VS_binOp, ↓With_guard, ↓Hold_1, With_some, emap_nil, ↓eget_eset, ↓ae_tmp, ↓ae_bool, eget_zero, ↓vfinish_ret, ↓vres_nil, ↓vres_tmp, vtell_eq, ret1, Option.map_some, Option.bind_some, ↓reduceIte, Nat.reduceEqDiff, reduceCtorEq, and_self, List.toList_toArray, List.length_nil, mapOwn_bool, toks_bool, okv_bool, vthaw_nil, vwrites_nil, List.length_nil, vbin_int, abin_neq, bne_self_eq_false, Tryd.results84]
theorem nani_c (hX : X 84 = none) (n : Int) {S : VH} {K : VCont} : Vcallee Tryd.prog X 84 [.int .i64 n] S K = K (.bool false) [] S [] false := Vcallee_of (nani_p hX n) rfl rfl rfl
theorem nans_p (hX : X 83 = none) (n : ByteArray) : Vp Tryd.prog X 83 [.string n] (.bool false) := by
  unfold Vp
  refine Vf_text hX Tryd.func83 rfl (by kernel_rfl) (by show 1 ≤ _; decide) ?_
  simp -dsimp only [↓VWP_seq, ↓VWP_region, ↓VWP_ret, ↓VReg_one, ↓VReg_nil, ↓VS_move, ↓VS_assign, ↓VS_binOp, ↓With_guard, ↓Hold_1, With_some, emap_nil, ↓eget_eset, ↓ae_tmp, ↓ae_bool, eget_zero, ↓vfinish_ret, ↓vres_nil, ↓vres_tmp, vtell_eq, ret1, Option.map_some, Option.bind_some, ↓reduceIte, Nat.reduceEqDiff, reduceCtorEq, and_self, List.toList_toArray, List.length_nil, mapOwn_bool, toks_bool, okv_bool, vthaw_nil, vwrites_nil, List.length_nil, vbin_string, ab_sne, Tryd.results83]
theorem nans_c (hX : X 83 = none) (n : ByteArray) {S : VH} {K : VCont} : Vcallee Tryd.prog X 83 [.string n] S K = K (.bool false) [] S [] false := Vcallee_of (nans_p hX n) rfl rfl rfl
theorem cmpi_p (hX : X 66 = none) (hX1 : X 84 = none) (a b : Int) : Vp Tryd.prog X 66 [.int .i64 a, .int .i64 b] (.int .i64 (ordI a b)) := by
  unfold Vp
  refine Vf_text hX Tryd.func66 rfl (by kernel_rfl) (by show 2 ≤ _; decide) ?_
  by_cases h1 : a < b
  · simp -dsimp only [↓Hold_5, ↓VWP_seq, ↓VWP_region, ↓VWP_cond, ↓VWP_ret, ↓VWP_skip, ↓VReg_one, ↓VReg_nil, ↓VS_move, ↓VS_assign, ↓VS_binOp, ↓With_guard, ↓Hold_1, With_some, emap_nil, ↓eget_eset, ↓ae_tmp, ↓ae_int, eget_zero, eget_succ, asBool_bool, ↓vfinish_ret, ↓vres_nil, ↓vres_tmp, vtell_eq, ret1, Option.map_some, Option.bind_some, ↓reduceIte, Nat.reduceEqDiff, reduceCtorEq, Bool.false_eq_true, decide_true, true_and, List.map_cons, List.map_nil, List.toList_toArray, List.length_nil, mapOwn_int, toks_int, okv_int, List.map_nil, List.map_cons, vthaw_nil, vwrites_nil, List.length_nil, vbin_int, abin_lss, decide_true, Int.reduceNeg, ↓vfk84, Tryd.results66, ↓nani_c hX1, h1]
    simp [ordI, h1]
  · by_cases h2 : b < a <;> simp -dsimp only [↓Hold_5, ↓VWP_seq, ↓VWP_region, ↓VWP_cond, ↓VWP_ret, ↓VWP_skip, ↓VReg_one, ↓VReg_nil, ↓VS_move, ↓VS_assign, ↓VS_binOp, ↓With_guard, ↓Hold_1, With_some, emap_nil, ↓eget_eset, ↓ae_tmp, ↓ae_int, eget_zero, eget_succ, asBool_bool, ↓vfinish_ret, ↓vres_nil, ↓vres_tmp, vtell_eq, ret1, Option.map_some, Option.bind_some, ↓reduceIte, Nat.reduceEqDiff, reduceCtorEq, Bool.false_eq_true, decide_true, decide_false, true_and, List.map_cons, List.map_nil, List.toList_toArray, List.length_nil, mapOwn_int, toks_int, okv_int, List.map_nil, List.map_cons, vthaw_nil, vwrites_nil, List.length_nil, vbin_int, abin_lss, abin_gtr, gt_iff_lt, decide_true, decide_false, ↓vfk84, Tryd.results66, ↓nani_c hX1, h1, h2] <;> simp [ordI, h1, h2]
theorem cmpi_c (hX : X 66 = none) (hX1 : X 84 = none) (a b : Int) {S : VH} {K : VCont} : Vcallee Tryd.prog X 66 [.int .i64 a, .int .i64 b] S K = K (.int .i64 (ordI a b)) [] S [] false := Vcallee_of (cmpi_p hX hX1 a b) rfl rfl rfl
theorem cmps_p (hX : X 65 = none) (hX1 : X 83 = none) (a b : ByteArray) : Vp Tryd.prog X 65 [.string a, .string b] (.int .i64 (ordS a b)) := by
  unfold Vp
  refine Vf_text hX Tryd.func65 rfl (by kernel_rfl) (by show 2 ≤ _; decide) ?_
  cases h1 : lessS a b
  · cases h2 : (a.toList == b.toList) <;> simp -dsimp only [↓Hold_5, ↓VWP_seq, ↓VWP_region, ↓VWP_cond, ↓VWP_ret, ↓VWP_skip, ↓VReg_one, ↓VReg_nil, ↓VS_move, ↓VS_assign, ↓VS_binOp, ↓With_guard, ↓Hold_1, With_some, emap_nil, ↓eget_eset, ↓ae_tmp, ↓ae_int, eget_zero, eget_succ, asBool_bool, ↓vfinish_ret, ↓vres_nil, ↓vres_tmp, vtell_eq, ret1, Option.map_some, Option.bind_some, ↓reduceIte, Nat.reduceEqDiff, reduceCtorEq, Bool.false_eq_true, Bool.not_true, Bool.not_false, true_and, List.map_cons, List.map_nil, List.toList_toArray, List.length_nil, mapOwn_int, toks_int, okv_int, List.map_nil, List.map_cons, Bool.not_true, Bool.not_false, Bool.false_or, Bool.or_false, vthaw_nil, vwrites_nil, List.length_nil, vbin_string, ↓vfk83, Tryd.results65, ↓nans_c hX1, ab_slt, ab_sgt, h1, h2] <;> simp [ordS, h1, h2]
  · simp -dsimp only [↓Hold_5, ↓VWP_seq, ↓VWP_region, ↓VWP_cond, ↓VWP_ret, ↓VWP_skip, ↓VReg_one, ↓VReg_nil, ↓VS_move, ↓VS_assign, ↓VS_binOp, ↓With_guard, ↓Hold_1, With_some, emap_nil, ↓eget_eset, ↓ae_tmp, ↓ae_int, eget_zero, eget_succ, asBool_bool, ↓vfinish_ret, ↓vres_nil, ↓vres_tmp, vtell_eq, ret1, Option.map_some, Option.bind_some, ↓reduceIte, Nat.reduceEqDiff, reduceCtorEq, Bool.false_eq_true, true_and, List.map_cons, List.map_nil, List.toList_toArray, List.length_nil, mapOwn_int, toks_int, okv_int, List.map_nil, List.map_cons, vthaw_nil, vwrites_nil, List.length_nil, vbin_string, Int.reduceNeg, ↓vfk83, Tryd.results65, ↓nans_c hX1, ab_slt, h1]
    simp [ordS, h1]
theorem cmps_c (hX : X 65 = none) (hX1 : X 83 = none) (a b : ByteArray) {S : VH} {K : VCont} : Vcallee Tryd.prog X 65 [.string a, .string b] S K = K (.int .i64 (ordS a b)) [] S [] false := Vcallee_of (cmps_p hX hX1 a b) rfl rfl rfl
theorem cmpor_p (hX : X 64 = none) (d : Nat) (a b c : Int) : Vp Tryd.prog X 64 [vs d 1 [.int .i64 a, .int .i64 b, .int .i64 c]] (.int .i64 (or3V a b c)) := by
  have w1 : IntKind.i64.wrap 1 = 1 := rfl
  have w2 : IntKind.i64.wrap 2 = 2 := rfl
  have w3 : IntKind.i64.wrap 3 = 3 := rfl
  unfold Vp
  refine Vf_text hX Tryd.func64 rfl (by kernel_rfl) (by show 1 ≤ _; decide) ?_
  simp -dsimp only [↓VWP_seq, ↓VWP_region, ↓VWP_block, ↓VWP_loop, ↓VReg_one, ↓VReg_nil, ↓VS_move, ↓VS_assign, ↓VS_len, ↓Hold_1, With_some, emap_nil, ↓eget_eset, ↓ae_tmp, ↓ae_int, eget_zero, ↓reduceIte, reduceCtorEq, Nat.zero_add, Nat.reduceAdd, List.length_cons, List.length_nil, List.length_cons, List.length_nil, Int.cast_ofNat_Int, vlr43]
  by_cases h1 : a = 0
  · refine Vc_unroll ?_
    simp -dsimp only [↓VWP_seq, ↓VWP_region, ↓VWP_cond, ↓VWP_skip, ↓VWP_block, ↓VReg_one, ↓VReg_nil, ↓VS_move, ↓VS_assign, ↓VS_load, ↓VS_binOp, ↓VS_indexAddr, ↓Hold_1, With_some, emap_nil, ↓eget_eset, ↓ae_tmp, ↓ae_int, asBool_bool, Option.map_some, ↓reduceIte, Nat.reduceEqDiff, Bool.false_eq_true, decide_true, List.getElem?_cons_zero, vload_at, cellV_int, vbin_int, abin_neq, abin_lss, abin_add, Int.reduceLT, Int.reduceLE, Int.reduceToNat, Int.reduceAdd, decide_true, bne_self_eq_false, vgt3, vix43, h1, w1]
    by_cases h2 : b = 0
    · refine Vc_unroll ?_
      simp -dsimp only [↓VWP_seq, ↓VWP_region, ↓VWP_cond, ↓VWP_skip, ↓VWP_block, ↓VReg_one, ↓VReg_nil, ↓VS_move, ↓VS_assign, ↓VS_load, ↓VS_binOp, ↓VS_indexAddr, ↓Hold_1, With_some, emap_nil, ↓eget_eset, ↓ae_tmp, ↓ae_int, asBool_bool, Option.map_some, ↓reduceIte, Nat.reduceEqDiff, Bool.false_eq_true, decide_true, List.getElem?_cons_zero, List.getElem?_cons_succ, vload_at, cellV_int, vbin_int, abin_neq, abin_lss, abin_add, Int.reduceLT, Int.reduceLE, Int.reduceToNat, Int.reduceAdd, decide_true, bne_self_eq_false, vgt3, vix43, h2, w2]
      by_cases h3 : c = 0
      · refine Vc_unroll ?_
        simp -dsimp only [↓VWP_seq, ↓VWP_region, ↓VWP_cond, ↓VWP_skip, ↓VWP_block, ↓VReg_one, ↓VReg_nil, ↓VS_move, ↓VS_assign, ↓VS_load, ↓VS_binOp, ↓VS_indexAddr, ↓Hold_1, With_some, emap_nil, ↓eget_eset, ↓ae_tmp, ↓ae_int, asBool_bool, Option.map_some, ↓reduceIte, Nat.reduceEqDiff, Bool.false_eq_true, decide_true, List.getElem?_cons_zero, List.getElem?_cons_succ, vload_at, cellV_int, vbin_int, abin_neq, abin_lss, abin_add, Int.reduceLT, Int.reduceLE, Int.reduceToNat, Int.reduceAdd, decide_true, bne_self_eq_false, vgt3, vix43, h3, w3]
        refine Vc_unroll ?_
        simp -dsimp only [↓VWP_seq, ↓VWP_region, ↓VWP_cond, ↓VWP_ret, ↓VWP_exit, ↓VReg_one, ↓VReg_nil, ↓VS_move, ↓VS_assign, ↓VS_binOp, ↓With_guard, ↓Hold_1, ↓Hold_3, With_some, emap_nil, ↓eget_eset, ↓ae_tmp, asBool_bool, ↓vfinish_ret, ↓vres_nil, ↓vres_tmp, vtell_eq, ret1, Option.map_some, Option.bind_some, ↓reduceIte, Nat.reduceEqDiff, Bool.false_eq_true, decide_false, true_and, List.toList_toArray, List.length_nil, mapOwn_int, toks_int, okv_int, vthaw_nil, vwrites_nil, List.length_nil, vbin_int, abin_lss, Int.lt_irrefl, decide_false, Tryd.results64]
        subst h1 h2 h3
        rfl
      · refine Vc_unroll ?_
        simp -dsimp only [↓VWP_seq, ↓VWP_region, ↓VWP_cond, ↓VWP_ret, ↓VWP_skip, ↓VWP_block, ↓VReg_one, ↓VReg_nil, ↓VS_move, ↓VS_assign, ↓VS_load, ↓VS_binOp, ↓VS_indexAddr, ↓With_guard, ↓Hold_1, ↓Hold_3, With_some, emap_nil, ↓eget_eset, ↓ae_tmp, asBool_bool, ↓vfinish_ret, ↓vres_nil, ↓vres_tmp, vtell_eq, ret1, Option.map_some, Option.bind_some, ↓reduceIte, Nat.reduceEqDiff, decide_true, decide_false, Bool.not_false, List.getElem?_cons_zero, List.getElem?_cons_succ, true_and, List.toList_toArray, List.length_nil, mapOwn_int, toks_int, okv_int, Bool.not_false, vthaw_nil, vwrites_nil, List.length_nil, vload_at, cellV_int, vbin_int, abin_neq, abin_lss, Int.reduceLT, Int.reduceLE, Int.reduceToNat, decide_true, decide_false, ibne, vgt3, vix43, Tryd.results64, h3]
        simp [or3V, h1, h2]
    · refine Vc_unroll ?_
      simp -dsimp only [↓VWP_seq, ↓VWP_region, ↓VWP_cond, ↓VWP_ret, ↓VWP_skip, ↓VWP_block, ↓VReg_one, ↓VReg_nil, ↓VS_move, ↓VS_assign, ↓VS_load, ↓VS_binOp, ↓VS_indexAddr, ↓With_guard, ↓Hold_1, ↓Hold_3, With_some, emap_nil, ↓eget_eset, ↓ae_tmp, asBool_bool, ↓vfinish_ret, ↓vres_nil, ↓vres_tmp, vtell_eq, ret1, Option.map_some, Option.bind_some, ↓reduceIte, Nat.reduceEqDiff, decide_true, decide_false, Bool.not_false, List.getElem?_cons_zero, List.getElem?_cons_succ, true_and, List.toList_toArray, List.length_nil, mapOwn_int, toks_int, okv_int, Bool.not_false, vthaw_nil, vwrites_nil, List.length_nil, vload_at, cellV_int, vbin_int, abin_neq, abin_lss, Int.reduceLT, Int.reduceLE, Int.reduceToNat, decide_true, decide_false, ibne, vgt3, vix43, Tryd.results64, h2]
      simp [or3V, h1, h2]
  · refine Vc_unroll ?_
    simp -dsimp only [↓VWP_seq, ↓VWP_region, ↓VWP_cond, ↓VWP_ret, ↓VWP_skip, ↓VWP_block, ↓VReg_one, ↓VReg_nil, ↓VS_move, ↓VS_assign, ↓VS_load, ↓VS_binOp, ↓VS_indexAddr, ↓With_guard, ↓Hold_1, ↓Hold_3, With_some, emap_nil, ↓eget_eset, ↓ae_tmp, asBool_bool, ↓vfinish_ret, ↓vres_nil, ↓vres_tmp, vtell_eq, ret1, Option.map_some, Option.bind_some, ↓reduceIte, Nat.reduceEqDiff, decide_true, decide_false, Bool.not_false, List.getElem?_cons_zero, true_and, List.toList_toArray, List.length_nil, mapOwn_int, toks_int, okv_int, Bool.not_false, vthaw_nil, vwrites_nil, List.length_nil, vload_at, cellV_int, vbin_int, abin_neq, abin_lss, Int.reduceLT, Int.reduceLE, Int.reduceToNat, decide_true, decide_false, ibne, vgt3, vix43, Tryd.results64, h1]
    simp [or3V, h1]
end
end Go.Proofs.YtmdpggecelheoaaDoor.Abs
/- How two values compare: the whole. -/
set_option linter.unusedVariables false
set_option linter.unusedSimpArgs false
set_option maxRecDepth 4000
set_option maxHeartbeats 0
namespace Go.Proofs.YtmdpggecelheoaaDoor.Abs
open Go
attribute [local irreducible] Hold VReg Vf Vc VWP With VStp Vcallee Vp VE
section
variable {X : VOuter}
theorem cmpor_c (hX : X 64 = none) (t : Nat) (a b c : Int) {S : VH} {K : VCont} : Vcallee Tryd.prog X 64 [vo (t, none) 1 0 [.int .i64 a, .int .i64 b, .int .i64 c]] S K = K (.int .i64 (or3V a b c)) [] S [] false := Vcallee_of (cmpor_p hX 1 a b c) rfl rfl rfl
theorem compare_p (hX : X 155 = none) (hX1 : X 53 = none) (hX2 : X 66 = none) (hX3 : X 65 = none) (hX4 : X 64 = none) (hX5 : X 84 = none) (hX6 : X 83 = none) (k n : Int) (s : ByteArray) (k' n' : Int) (s' : ByteArray) : Vp Tryd.prog X 155 [.agg ⟨[.int .i64 k, .int .i64 n, .string s]⟩, .agg ⟨[.int .i64 k', .int .i64 n', .string s']⟩] (.int .i64 (cmpF ⟨k, n, s⟩ ⟨k', n', s'⟩)) := by
  unfold Vp
  refine Vf_text hX Tryd.func155 rfl (by kernel_rfl) (by show 2 ≤ _; decide) ?_
  cases h1 : rightF ⟨k, n, s⟩
  · simp -dsimp only [↓Hold_5, ↓VWP_seq, ↓VWP_region, ↓VWP_cond, ↓VWP_ret, ↓VReg_one, ↓VReg_nil, ↓VS_guard, ↓VS_move, ↓VS_assign, ↓VS_pick, ↓VS_load, ↓VS_unOp, ↓VS_box, ↓With_guard, ↓Hold_1, With_some, emap_nil, ↓eget_eset, ↓ae_tmp, ↓ae_int, ↓ae_bool, eget_zero, eget_succ, lop_pick, lop_not, asBool_bool, asGuard_bool, bb_tf, ayielded_eq, ↓dstAt_zero, ↓dstAt_succ, ↓vfinish_ret, ↓vres_nil, ↓vres_tmp, vtell_eq, ret1, Option.map_some, Option.bind_some, ↓reduceIte, Nat.reduceEqDiff, Bool.false_eq_true, Bool.not_false, Nat.zero_add, Nat.add_zero, Nat.reduceAdd, Nat.reduceLeDiff, true_and, List.map_cons, List.map_nil, List.all_cons, List.all_nil, tup_int, tup_str, tup_agg, cel_agg, List.drop_zero, List.toList_toArray, List.length_cons, List.length_nil, mapOwn_int, toksL_nil, toksL_cons, toks_int, toks_string, okv_int, okv_string, List.all_nil, List.all_cons, List.append_nil, List.nil_append, List.cons_append, List.map_nil, List.map_cons, Bool.and_self, Bool.not_false, beq_self_eq_true, vnext_mk, vpush_mk, vget_nil, cellsIn_mk, vthaw_nil, vwrites_nil, List.getD_cons_zero, List.length_cons, List.length_nil, List.drop_zero, List.take_succ_cons, List.take_zero, ↓vbox_free, cellsOk_free, cellF, beq_self_eq_true, beq_self_eq_true, bb_tf, vld48, ↓vfk53, Tryd.results155, ↓valright_c hX1, h1]
    simp [cmpF, h1]
  · cases h2 : rightF ⟨k', n', s'⟩
    · simp -dsimp only [↓Hold_5, ↓VWP_seq, ↓VWP_region, ↓VWP_cond, ↓VWP_ret, ↓VReg_one, ↓VReg_nil, ↓VS_guard, ↓VS_move, ↓VS_assign, ↓VS_pick, ↓VS_load, ↓VS_unOp, ↓VS_box, ↓With_guard, ↓Hold_1, With_some, emap_nil, ↓eget_eset, ↓ae_tmp, ↓ae_int, eget_zero, eget_succ, lop_pick, lop_not, asBool_bool, asGuard_bool, ayielded_eq, ↓dstAt_zero, ↓dstAt_succ, ↓vfinish_ret, ↓vres_nil, ↓vres_tmp, vtell_eq, ret1, Option.map_some, Option.bind_some, ↓reduceIte, Nat.reduceEqDiff, Bool.false_eq_true, Bool.not_true, Bool.not_false, Nat.zero_add, Nat.add_zero, Nat.reduceAdd, Nat.reduceLeDiff, true_and, List.map_cons, List.map_nil, List.all_cons, List.all_nil, tup_int, tup_str, tup_agg, cel_agg, List.drop_zero, List.toList_toArray, List.length_cons, List.length_nil, mapOwn_int, toksL_nil, toksL_cons, toks_int, toks_string, okv_int, okv_string, List.all_nil, List.all_cons, List.append_nil, List.nil_append, List.cons_append, List.map_nil, List.map_cons, Bool.and_self, Bool.not_true, Bool.not_false, beq_self_eq_true, vnext_mk, vpush_mk, vget_nil, cellsIn_mk, vthaw_nil, vwrites_nil, List.getD_cons_zero, List.getD_cons_succ, List.length_cons, List.length_nil, List.drop_zero, List.take_succ_cons, List.take_zero, ↓vbox_free, cellsOk_free, cellF, beq_self_eq_true, beq_self_eq_true, vld48, ↓vfk53, Tryd.results155, ↓valright_c hX1, h1, h2]
      simp [cmpF, h1, h2]
    · simp -dsimp only [↓Hold_5, ↓VWP_seq, ↓VWP_region, ↓VWP_cond, ↓VWP_skip, ↓VWP_open, ↓VReg_one, ↓VReg_nil, ↓VS_guard, ↓VS_move, ↓VS_assign, ↓VS_pick, ↓VS_load, ↓VS_unOp, ↓VS_box, ↓Hold_1, With_some, emap_nil, ↓eget_eset, ↓ae_tmp, ↓ae_int, eget_zero, eget_succ, lop_pick, lop_not, asBool_bool, asGuard_bool, ayielded_eq, ↓dstAt_zero, ↓dstAt_succ, Option.bind_some, ↓reduceIte, Nat.reduceEqDiff, Bool.false_eq_true, Bool.not_true, Bool.not_false, Nat.zero_add, Nat.add_zero, Nat.reduceAdd, Nat.reduceLeDiff, true_and, List.map_cons, List.map_nil, List.all_cons, List.all_nil, tup_int, tup_str, tup_agg, cel_agg, List.drop_zero, List.toList_toArray, List.length_cons, List.length_nil, toksL_nil, toksL_cons, toks_int, toks_string, okv_int, okv_string, List.all_nil, List.all_cons, List.append_nil, List.nil_append, List.cons_append, List.map_nil, List.map_cons, Bool.and_self, Bool.not_true, Bool.not_false, beq_self_eq_true, vnext_mk, vpush_mk, vget_nil, cellsIn_mk, List.getD_cons_zero, List.getD_cons_succ, List.length_cons, List.length_nil, List.drop_zero, List.take_succ_cons, List.take_zero, ↓vbox_free, cellsOk_free, cellF, beq_self_eq_true, beq_self_eq_true, vld48, ↓vfk53, ↓valright_c hX1, h1, h2]
      first | refine Vc_open [[], [], [], [], [], [], [0], [], [0], [], [], [0, 1], [], [0, 1], [], [], [], []] true (by kernel_rfl) (by kernel_rfl) (by kernel_rfl) ?_ | refine Vc_open [[], [], [], [], [], [], [0], [], [0], [], [], [0, 1], [], [0, 1], [], [], [], []] false (by kernel_rfl) (by kernel_rfl) (by kernel_rfl) ?_ | refine Vc_open2 [[], [], [], [], [], [], [0], [], [0], [], [], [0, 1], [], [0, 1], [], [], [], []] true (by kernel_rfl) (by kernel_rfl) (by kernel_rfl) (by kernel_rfl) ?_ | refine Vc_open2 [[], [], [], [], [], [], [0], [], [0], [], [], [0, 1], [], [0, 1], [], [], [], []] false (by kernel_rfl) (by kernel_rfl) (by kernel_rfl) (by kernel_rfl) ?_
      simp -dsimp only [↓Hold_5, ↓VWP_ret, ↓VS_assign, ↓VS_load, ↓VS_fieldAddr, ↓VS_buildSlice, ↓With_guard, ↓Hold_1, ↓Hold_3, With_some, emap_nil, emap_cons, ↓eget_eset, ↓ae_tmp, light, ↓vfinish_ret, ↓vres_nil, ↓vres_tmp, vtell_eq, ret1, Option.map_some, Option.bind_some, ↓reduceIte, Nat.reduceEqDiff, Bool.false_eq_true, decide_true, decide_false, Bool.not_false, List.getElem?_cons_zero, List.getElem?_cons_succ, Nat.zero_add, Nat.add_zero, Nat.reduceAdd, Nat.reduceMul, Nat.reduceLT, Nat.reduceLeDiff, true_and, List.map_cons, List.map_nil, List.all_cons, List.all_nil, tup_int, cel_int, Bool.and_true, List.toList_toArray, List.size_toArray, List.length_cons, List.length_nil, mapOwn_int, toksL_nil, toksL_cons, toks_int, okv_int, List.all_nil, List.all_cons, List.append_nil, List.nil_append, List.cons_append, List.map_nil, List.map_cons, Bool.and_true, Bool.and_self, Bool.not_false, Bool.or_false, beq_self_eq_true, vget_nil, cellsIn_mk, vturn_nil, vthaw_one, vthaw_nil, boxesOf_nil, vwrites_nil, List.getD_cons_zero, List.getD_cons_succ, List.set_cons_zero, List.set_cons_succ, List.length_cons, List.length_nil, partsOk_nil, partsOk_cons, vfill_nil, vfill_cons, List.replicate_succ, List.replicate_zero, beq_self_eq_true, decide_true, decide_false, beq_self_eq_true, ↓VE_nil, ↓VE_one0, ↓VE_one1, ↓shade_one, shade_load, shade_fieldAddr, shade_call, Option.getD_some, ↓vobl_load, dep_box, isGone_int, isGone_string, depStep_box, vspan, List.range_succ, List.range_zero, Bool.or_true, Nat.min_def, Nat.max_def, List.reverse_cons, List.reverse_nil, vld3, vld9, vfp48_0, vfp48_1, vfp48_2, vbd43, ↓vfk66, ↓vfk65, ↓vfk64, Tryd.results155, ↓cmpi_c hX2 hX5, ↓cmps_c hX3 hX6, ↓cmpor_c hX4]
      simp [cmpF, h1, h2]
end
end Go.Proofs.YtmdpggecelheoaaDoor.Abs
/- Ranges of cells: how many there are, which are in, which is ahead. -/
set_option linter.unusedVariables false
set_option linter.unusedSimpArgs false
set_option maxRecDepth 4000
set_option maxHeartbeats 0
namespace Go.Proofs.YtmdpggecelheoaaDoor.Abs
open Go
attribute [local irreducible] Hold VReg Vf Vc VWP With VStp Vcallee Vp VE
theorem bytes_inj2 {a b : ByteArray} (h : a.toList = b.toList) : a = b := by
  rw [ByteArray.toList_eq, ByteArray.toList_eq] at h
  have e1 : a = ⟨(a.data.toList).toArray⟩ := rfl
  rw [e1, h]
theorem ab_seq {P : Program} {t : TypeId} {x y : Operand} {s r : ByteArray} : abin P .eql t x y (.string s) (.string r) = some (.bool (decide (s = r))) := by
  rw [abin_seql]
  congr 2
  rw [Bool.eq_iff_iff]
  simp only [beq_iff_eq, decide_eq_true_eq]
  exact ⟨bytes_inj2, fun h => by rw [h]⟩
theorem ab_sne2 {P : Program} {t : TypeId} {x y : Operand} {s r : ByteArray} : abin P .neq t x y (.string s) (.string r) = some (.bool (!decide (s = r))) := by
  have h := ab_seq (P := P) (t := t) (x := x) (y := y) (s := s) (r := r)
  rw [abin_seql] at h
  rw [abin_sneq]
  simp only [Option.some.injEq, Value.bool.injEq] at h
  rw [h]
/-- A cell: its sheet, its column, its row. -/
structure CC where
  s : ByteArray
  c : Int
  r : Int
def CC.v (x : CC) : Value := .agg ⟨[.string x.s, .int .i64 x.c, .int .i64 x.r]⟩
def eqC (x y : CC) : Bool := decide (x.s = y.s) && (decide (x.c = y.c) && decide (x.r = y.r))
theorem cell_aeq (sa sc : ByteArray) (ka kb na nb : Int) : aeq Tryd.prog 20 23 (.agg #[.string sa, .int .i64 ka, .int .i64 na]) (.agg #[.string sc, .int .i64 kb, .int .i64 nb]) = some (eqC ⟨sa, ka, na⟩ ⟨sc, kb, nb⟩) := by
  have e : aeq Tryd.prog 20 23 (.agg #[.string sa, .int .i64 ka, .int .i64 na]) (.agg #[.string sc, .int .i64 kb, .int .i64 nb]) = (if (sa.toList == sc.toList) = true then (if (ka == kb) = true then (if (na == nb) = true then some true else some false) else some false) else some false) := by kernel_rfl
  have h : (sa.toList == sc.toList) = decide (sa = sc) := by
    rw [Bool.eq_iff_iff]
    simp only [beq_iff_eq, decide_eq_true_eq]
    exact ⟨bytes_inj2, fun h => by rw [h]⟩
  rw [e, h, ibeq, ibeq]
  unfold eqC
  by_cases h1 : sa = sc <;> by_cases h2 : ka = kb <;> by_cases h3 : na = nb <;> simp [h1, h2, h3]
theorem cell_eq (x y : Operand) (sa sc : ByteArray) (ka kb na nb : Int) : vbin Tryd.prog .eql 23 x y (.agg ⟨[.string sa, .int .i64 ka, .int .i64 na]⟩) (.agg ⟨[.string sc, .int .i64 kb, .int .i64 nb]⟩) = some (.bool (eqC ⟨sa, ka, na⟩ ⟨sc, kb, nb⟩)) := by
  rw [vbin_agg _ _ _ _ _ rfl rfl]
  exact abin_aeql rfl rfl (by kernel_rfl) (cell_aeq sa sc ka kb na nb)
theorem cell_ne (x y : Operand) (sa sc : ByteArray) (ka kb na nb : Int) : vbin Tryd.prog .neq 23 x y (.agg ⟨[.string sa, .int .i64 ka, .int .i64 na]⟩) (.agg ⟨[.string sc, .int .i64 kb, .int .i64 nb]⟩) = some (.bool (!eqC ⟨sa, ka, na⟩ ⟨sc, kb, nb⟩)) := by
  rw [vbin_agg _ _ _ _ _ rfl rfl]
  exact abin_aneq rfl rfl (by kernel_rfl) (cell_aeq sa sc ka kb na nb)
/-- Is it a range? -/
def areaF (a b : CC) : Bool := celF a.s a.c a.r && celF b.s b.c b.r && decide (a.s = b.s) && decide (a.c ≤ b.c) && decide (a.r ≤ b.r)
def areaN (a b : CC) : Int := if areaF a b then (b.c - a.c + 1) * (b.r - a.r + 1) else 0
theorem celF_place {s : ByteArray} {c r : Int} (h : celF s c r = true) : 1 ≤ c ∧ c ≤ 702 ∧ 1 ≤ r ∧ r ≤ 999 := by
  simp only [celF, placeF, Bool.and_eq_true, decide_eq_true_eq] at h
  exact ⟨h.2.1.1.1, h.2.1.1.2, h.2.1.2, h.2.2⟩
section
variable {X : VOuter}
structure NOff (X : VOuter) : Prop where
  name : X 19 = none
  place : X 42 = none
  right : X 17 = none
  area : X 15 = none
theorem area_p (h : NOff X) (s : ByteArray) (c r : Int) (s' : ByteArray) (c' r' : Int) : Vp Tryd.prog X 15 [.agg ⟨[.string s, .int .i64 c, .int .i64 r, .string s', .int .i64 c', .int .i64 r']⟩] (.tuple ⟨[.int .i64 (areaN ⟨s, c, r⟩ ⟨s', c', r'⟩), .bool (areaF ⟨s, c, r⟩ ⟨s', c', r'⟩)]⟩) := by
  unfold Vp
  refine Vf_text h.area Tryd.func15 rfl (by kernel_rfl) (by show 1 ≤ _; decide) ?_
  cases h1 : celF s c r
  · simp -dsimp only [↓VWP_seq, ↓VWP_region, ↓VWP_open, ↓VReg_one, ↓VReg_nil, ↓VS_assign, ↓VS_box, ↓Hold_1, With_some, emap_nil, ↓ae_tmp, ↓ae_int, ↓ae_bool, eget_zero, Bool.not_false, Nat.add_zero, true_and, List.all_cons, List.all_nil, tup_int, tup_str, tup_agg, cel_agg, List.toList_toArray, List.length_nil, toksL_nil, toksL_cons, toks_int, toks_string, okv_int, okv_string, List.all_nil, List.all_cons, List.append_nil, List.nil_append, Bool.and_self, Bool.not_false, beq_self_eq_true, vnext_mk, vpush_mk, List.length_nil, ↓vbox_free, cellsOk_free, cellF, beq_self_eq_true, beq_self_eq_true]
    refine Vc_open2 [[], [1, 2], [], [1, 2, 3], [], [], [], []] false (by kernel_rfl) (by kernel_rfl) (by kernel_rfl) (by kernel_rfl) ?_
    simp -dsimp only [↓Hold_5, ↓VWP_seq, ↓VWP_region, ↓VWP_cond, ↓VWP_ret, ↓VReg_one, ↓VReg_nil, ↓VS_guard, ↓VS_move, ↓VS_assign, ↓VS_pick, ↓VS_load, ↓VS_unOp, ↓VS_fieldAddr, ↓VS_store, ↓With_guard, ↓Hold_1, ↓Hold_3, With_some, emap_nil, ↓eget_eset, ↓ae_tmp, ↓ae_int, ↓ae_bool, eget_succ, eget_nil, lop_pick, lop_not, asBool_bool, asGuard_bool, bb_tf, ayielded_eq, ↓dstAt_zero, ↓dstAt_succ, light, ↓vfinish_ret, ↓vres_nil, ↓vres_tmp, vtell_eq, ret1, Option.map_some, Option.bind_some, ↓reduceIte, Nat.reduceEqDiff, Bool.false_eq_true, Nat.reduceBEq, decide_true, decide_false, Bool.not_false, List.getElem?_cons_zero, List.getElem?_cons_succ, Nat.zero_add, Nat.add_zero, Nat.reduceAdd, Nat.reduceLT, Nat.reduceLeDiff, true_and, and_self, List.map_cons, List.map_nil, List.all_cons, List.all_nil, tup_int, tup_str, tup_agg, cel_agg, Bool.and_true, List.drop_zero, List.toList_toArray, List.size_toArray, List.length_cons, List.length_nil, mapOwn_tuple, mapOwn_bool, mapOwn_int, toksL_nil, toksL_cons, toks_int, toks_bool, toks_string, toks_tuple, okv_tuple, okv_bool, okv_int, okv_string, List.flatMap_nil, List.flatMap_cons, List.all_nil, List.all_cons, List.append_nil, List.nil_append, List.cons_append, List.map_nil, List.map_cons, Bool.and_true, Bool.false_and, Bool.and_self, Bool.not_false, beq_self_eq_true, vnext_mk, vpush_mk, vget_nil, vput_nil, cellsIn_mk, vthaw_nil, vwrites_nil, List.getD_cons_zero, List.getD_cons_succ, List.set_cons_zero, List.set_cons_succ, List.length_cons, List.length_nil, List.drop_zero, List.drop_succ_cons, List.take_succ_cons, List.take_zero, ↓vlay_free, cellsOk_free, cellF, beq_self_eq_true, decide_true, decide_false, beq_self_eq_true, bb_tf, setAll_whole, ↓VE_nil, ↓VE_one0, ↓VE_one1, ↓VE_non0, ↓shade_off, shade_load, ↓vobl_load, dep_box, depStep_box, vspan, List.range_succ, List.range_zero, Bool.or_true, Nat.min_def, Nat.max_def, List.reverse_cons, List.reverse_nil, Bool.and_eq_true, vld23, vst23, ↓val23, vfp26_0, vfp26_1, ↓vfk17, Tryd.results15, ↓right_c h.right h.place h.name, h1]
    simp [areaN, areaF, h1]
  · cases h2 : celF s' c' r'
    · simp -dsimp only [↓VWP_seq, ↓VWP_region, ↓VWP_open, ↓VReg_one, ↓VReg_nil, ↓VS_assign, ↓VS_box, ↓Hold_1, With_some, emap_nil, ↓ae_tmp, ↓ae_int, ↓ae_bool, eget_zero, Bool.not_false, Nat.add_zero, true_and, List.all_cons, List.all_nil, tup_int, tup_str, tup_agg, cel_agg, List.toList_toArray, List.length_nil, toksL_nil, toksL_cons, toks_int, toks_string, okv_int, okv_string, List.all_nil, List.all_cons, List.append_nil, List.nil_append, Bool.and_self, Bool.not_false, beq_self_eq_true, vnext_mk, vpush_mk, List.length_nil, ↓vbox_free, cellsOk_free, cellF, beq_self_eq_true, beq_self_eq_true]
      refine Vc_open2 [[], [1, 2], [], [1, 2, 3], [], [], [], []] false (by kernel_rfl) (by kernel_rfl) (by kernel_rfl) (by kernel_rfl) ?_
      simp -dsimp only [↓Hold_5, ↓VWP_seq, ↓VWP_region, ↓VWP_cond, ↓VWP_ret, ↓VReg_one, ↓VReg_nil, ↓VS_guard, ↓VS_move, ↓VS_assign, ↓VS_pick, ↓VS_load, ↓VS_unOp, ↓VS_fieldAddr, ↓VS_store, ↓With_guard, ↓Hold_1, ↓Hold_3, With_some, emap_nil, ↓eget_eset, ↓ae_tmp, ↓ae_int, ↓ae_bool, eget_succ, eget_nil, lop_pick, lop_not, asBool_bool, asGuard_bool, bb_tf, ayielded_eq, ↓dstAt_zero, ↓dstAt_succ, light, ↓vfinish_ret, ↓vres_nil, ↓vres_tmp, vtell_eq, ret1, Option.map_some, Option.bind_some, ↓reduceIte, Nat.reduceEqDiff, Bool.false_eq_true, Nat.reduceBEq, decide_true, decide_false, Bool.not_true, Bool.not_false, List.getElem?_cons_zero, List.getElem?_cons_succ, Nat.zero_add, Nat.add_zero, Nat.reduceAdd, Nat.reduceLT, Nat.reduceLeDiff, true_and, and_self, List.map_cons, List.map_nil, List.all_cons, List.all_nil, tup_int, tup_str, tup_agg, cel_agg, Bool.and_true, List.drop_zero, List.toList_toArray, List.size_toArray, List.length_cons, List.length_nil, mapOwn_tuple, mapOwn_bool, mapOwn_int, toksL_nil, toksL_cons, toks_int, toks_bool, toks_string, toks_tuple, okv_tuple, okv_bool, okv_int, okv_string, List.flatMap_nil, List.flatMap_cons, List.all_nil, List.all_cons, List.append_nil, List.nil_append, List.cons_append, List.map_nil, List.map_cons, Bool.and_true, Bool.false_and, Bool.and_self, Bool.not_true, Bool.not_false, beq_self_eq_true, vnext_mk, vpush_mk, vget_nil, vput_nil, cellsIn_mk, vthaw_nil, vwrites_nil, List.getD_cons_zero, List.getD_cons_succ, List.set_cons_zero, List.set_cons_succ, List.length_cons, List.length_nil, List.drop_zero, List.drop_succ_cons, List.take_succ_cons, List.take_zero, ↓vlay_free, cellsOk_free, cellF, beq_self_eq_true, decide_true, decide_false, beq_self_eq_true, bb_tf, setAll_whole, ↓VE_nil, ↓VE_one0, ↓VE_one1, ↓VE_non0, ↓shade_off, shade_load, ↓vobl_load, dep_box, depStep_box, vspan, List.range_succ, List.range_zero, Bool.or_true, Nat.min_def, Nat.max_def, List.reverse_cons, List.reverse_nil, Bool.and_eq_true, vld23, vst23, ↓val23, vfp26_0, vfp26_1, ↓vfk17, Tryd.results15, ↓right_c h.right h.place h.name, h1, h2]
      simp [areaN, areaF, h1, h2]
    · by_cases h3 : s = s'
      · subst h3
        by_cases h4 : c' < c
        · simp -dsimp only [↓VWP_seq, ↓VWP_region, ↓VWP_open, ↓VReg_one, ↓VReg_nil, ↓VS_assign, ↓VS_box, ↓Hold_1, With_some, emap_nil, ↓ae_tmp, ↓ae_int, ↓ae_bool, eget_zero, Bool.not_false, Nat.add_zero, true_and, List.all_cons, List.all_nil, tup_int, tup_str, tup_agg, cel_agg, List.toList_toArray, List.length_nil, toksL_nil, toksL_cons, toks_int, toks_string, okv_int, okv_string, List.all_nil, List.all_cons, List.append_nil, List.nil_append, Bool.and_self, Bool.not_false, beq_self_eq_true, vnext_mk, vpush_mk, List.length_nil, ↓vbox_free, cellsOk_free, cellF, beq_self_eq_true, beq_self_eq_true]
          refine Vc_open2 [[], [1, 2], [], [1, 2, 3], [], [], [], []] false (by kernel_rfl) (by kernel_rfl) (by kernel_rfl) (by kernel_rfl) ?_
          simp -dsimp only [↓Hold_5, ↓VWP_seq, ↓VWP_region, ↓VWP_cond, ↓VWP_ret, ↓VReg_one, ↓VReg_nil, ↓VS_guard, ↓VS_move, ↓VS_assign, ↓VS_pick, ↓VS_load, ↓VS_binOp, ↓VS_unOp, ↓VS_fieldAddr, ↓VS_store, ↓With_guard, ↓Hold_1, ↓Hold_3, With_some, emap_nil, ↓eget_eset, ↓ae_tmp, ↓ae_int, ↓ae_bool, eget_succ, eget_nil, lop_pick, lop_not, asBool_bool, asGuard_bool, bb_tf, ayielded_eq, ↓dstAt_zero, ↓dstAt_succ, light, ↓vfinish_ret, ↓vres_nil, ↓vres_tmp, vtell_eq, ret1, Option.map_some, Option.bind_some, ↓reduceIte, Nat.reduceEqDiff, Bool.false_eq_true, Nat.reduceBEq, decide_true, decide_false, Bool.not_true, Bool.not_false, List.getElem?_cons_zero, List.getElem?_cons_succ, Nat.zero_add, Nat.add_zero, Nat.reduceAdd, Nat.reduceLT, Nat.reduceLeDiff, true_and, and_self, List.map_cons, List.map_nil, List.all_cons, List.all_nil, tup_int, tup_str, tup_agg, cel_agg, Bool.and_true, List.drop_zero, List.toList_toArray, List.size_toArray, List.length_cons, List.length_nil, mapOwn_tuple, mapOwn_bool, mapOwn_int, toksL_nil, toksL_cons, toks_int, toks_bool, toks_string, toks_tuple, okv_tuple, okv_bool, okv_int, okv_string, List.flatMap_nil, List.flatMap_cons, List.all_nil, List.all_cons, List.append_nil, List.nil_append, List.cons_append, List.map_nil, List.map_cons, Bool.and_true, Bool.false_and, Bool.and_self, Bool.not_true, Bool.not_false, beq_self_eq_true, vnext_mk, vpush_mk, vget_nil, vput_nil, cellsIn_mk, vthaw_nil, vwrites_nil, List.getD_cons_zero, List.getD_cons_succ, List.set_cons_zero, List.set_cons_succ, List.length_cons, List.length_nil, List.drop_zero, List.drop_succ_cons, List.take_succ_cons, List.take_zero, vbin_int, vbin_string, ↓vlay_free, cellsOk_free, cellF, abin_lss, beq_self_eq_true, decide_true, decide_false, beq_self_eq_true, bb_tf, setAll_whole, ↓VE_nil, ↓VE_one0, ↓VE_one1, ↓VE_non0, ↓shade_off, shade_load, ↓vobl_load, dep_box, depStep_box, vspan, List.range_succ, List.range_zero, Bool.or_true, Nat.min_def, Nat.max_def, List.reverse_cons, List.reverse_nil, Bool.and_eq_true, vld23, vld9, vld3, vst23, ↓val23, vfp26_0, vfp26_1, vfp23_0, vfp23_1, ↓vfk17, Tryd.results15, ↓right_c h.right h.place h.name, h1, h2, ab_sne2, h4]
          have : ¬ c ≤ c' := by omega
          simp [areaN, areaF, h1, h2, this]
        · by_cases h5 : r' < r
          · simp -dsimp only [↓VWP_seq, ↓VWP_region, ↓VWP_open, ↓VReg_one, ↓VReg_nil, ↓VS_assign, ↓VS_box, ↓Hold_1, With_some, emap_nil, ↓ae_tmp, ↓ae_int, ↓ae_bool, eget_zero, Bool.not_false, Nat.add_zero, true_and, List.all_cons, List.all_nil, tup_int, tup_str, tup_agg, cel_agg, List.toList_toArray, List.length_nil, toksL_nil, toksL_cons, toks_int, toks_string, okv_int, okv_string, List.all_nil, List.all_cons, List.append_nil, List.nil_append, Bool.and_self, Bool.not_false, beq_self_eq_true, vnext_mk, vpush_mk, List.length_nil, ↓vbox_free, cellsOk_free, cellF, beq_self_eq_true, beq_self_eq_true]
            refine Vc_open2 [[], [1, 2], [], [1, 2, 3], [], [], [], []] false (by kernel_rfl) (by kernel_rfl) (by kernel_rfl) (by kernel_rfl) ?_
            simp -dsimp only [↓Hold_5, ↓VWP_seq, ↓VWP_region, ↓VWP_cond, ↓VWP_ret, ↓VReg_one, ↓VReg_nil, ↓VS_guard, ↓VS_move, ↓VS_assign, ↓VS_pick, ↓VS_load, ↓VS_binOp, ↓VS_unOp, ↓VS_fieldAddr, ↓VS_store, ↓With_guard, ↓Hold_1, ↓Hold_3, With_some, emap_nil, ↓eget_eset, ↓ae_tmp, ↓ae_int, ↓ae_bool, eget_succ, eget_nil, lop_pick, lop_not, asBool_bool, asGuard_bool, ayielded_eq, ↓dstAt_zero, ↓dstAt_succ, light, ↓vfinish_ret, ↓vres_nil, ↓vres_tmp, vtell_eq, ret1, Option.map_some, Option.bind_some, ↓reduceIte, Nat.reduceEqDiff, Bool.false_eq_true, Nat.reduceBEq, decide_true, decide_false, Bool.not_true, Bool.not_false, List.getElem?_cons_zero, List.getElem?_cons_succ, Nat.zero_add, Nat.add_zero, Nat.reduceAdd, Nat.reduceLT, Nat.reduceLeDiff, true_and, and_self, List.map_cons, List.map_nil, List.all_cons, List.all_nil, tup_int, tup_str, tup_agg, cel_agg, Bool.and_true, List.drop_zero, List.toList_toArray, List.size_toArray, List.length_cons, List.length_nil, mapOwn_tuple, mapOwn_bool, mapOwn_int, toksL_nil, toksL_cons, toks_int, toks_bool, toks_string, toks_tuple, okv_tuple, okv_bool, okv_int, okv_string, List.flatMap_nil, List.flatMap_cons, List.all_nil, List.all_cons, List.append_nil, List.nil_append, List.cons_append, List.map_nil, List.map_cons, Bool.and_true, Bool.false_and, Bool.and_self, Bool.not_true, Bool.not_false, beq_self_eq_true, vnext_mk, vpush_mk, vget_nil, vput_nil, cellsIn_mk, vthaw_nil, vwrites_nil, List.getD_cons_zero, List.getD_cons_succ, List.set_cons_zero, List.set_cons_succ, List.length_cons, List.length_nil, List.drop_zero, List.drop_succ_cons, List.take_succ_cons, List.take_zero, vbin_int, vbin_string, ↓vlay_free, cellsOk_free, cellF, abin_lss, beq_self_eq_true, decide_true, decide_false, beq_self_eq_true, setAll_whole, ↓VE_nil, ↓VE_one0, ↓VE_one1, ↓VE_non0, ↓shade_off, shade_load, ↓vobl_load, dep_box, depStep_box, vspan, List.range_succ, List.range_zero, Bool.or_true, Nat.min_def, Nat.max_def, List.reverse_cons, List.reverse_nil, Bool.and_eq_true, vld23, vld9, vld3, vst23, ↓val23, vfp26_0, vfp26_1, vfp23_0, vfp23_1, vfp23_2, ↓vfk17, Tryd.results15, ↓right_c h.right h.place h.name, h1, h2, ab_sne2, h4, h5]
            have : ¬ r ≤ r' := by omega
            simp [areaN, areaF, h1, h2, this]
          · have p1 := celF_place h1
            have p2 := celF_place h2
            have w1 : IntKind.i64.wrap (c' - c) = c' - c := wrap_id (by omega) (by omega)
            have w2 : IntKind.i64.wrap (c' - c + 1) = c' - c + 1 := wrap_id (by omega) (by omega)
            have w3 : IntKind.i64.wrap (r' - r) = r' - r := wrap_id (by omega) (by omega)
            have w4 : IntKind.i64.wrap (r' - r + 1) = r' - r + 1 := wrap_id (by omega) (by omega)
            have hp : 0 ≤ (c' - c + 1) * (r' - r + 1) ∧ (c' - c + 1) * (r' - r + 1) ≤ 702 * 999 := ⟨Int.mul_nonneg (by omega) (by omega), Int.mul_le_mul (by omega) (by omega) (by omega) (by omega)⟩
            have w5 : IntKind.i64.wrap ((c' - c + 1) * (r' - r + 1)) = (c' - c + 1) * (r' - r + 1) := wrap_id (by omega) (by omega)
            simp -dsimp only [↓VWP_seq, ↓VWP_region, ↓VWP_open, ↓VReg_one, ↓VReg_nil, ↓VS_assign, ↓VS_box, ↓Hold_1, With_some, emap_nil, ↓ae_tmp, ↓ae_int, ↓ae_bool, eget_zero, Bool.not_false, Nat.add_zero, true_and, List.all_cons, List.all_nil, tup_int, tup_str, tup_agg, cel_agg, List.toList_toArray, List.length_nil, toksL_nil, toksL_cons, toks_int, toks_string, okv_int, okv_string, List.all_nil, List.all_cons, List.append_nil, List.nil_append, Bool.and_self, Bool.not_false, beq_self_eq_true, vnext_mk, vpush_mk, List.length_nil, ↓vbox_free, cellsOk_free, cellF, beq_self_eq_true, beq_self_eq_true]
            refine Vc_open2 [[], [1, 2], [], [1, 2, 3], [], [], [], []] false (by kernel_rfl) (by kernel_rfl) (by kernel_rfl) (by kernel_rfl) ?_
            simp -dsimp only [↓Hold_5, ↓VWP_seq, ↓VWP_region, ↓VWP_cond, ↓VWP_ret, ↓VWP_skip, ↓VReg_one, ↓VReg_nil, ↓VS_guard, ↓VS_move, ↓VS_assign, ↓VS_pick, ↓VS_load, ↓VS_binOp, ↓VS_unOp, ↓VS_fieldAddr, ↓VS_store, ↓With_guard, ↓Hold_1, ↓Hold_3, With_some, emap_nil, ↓eget_eset, ↓ae_tmp, ↓ae_int, ↓ae_bool, eget_succ, eget_nil, lop_pick, lop_not, asBool_bool, asGuard_bool, ayielded_eq, ↓dstAt_zero, ↓dstAt_succ, light, ↓vfinish_ret, ↓vres_nil, ↓vres_tmp, vtell_eq, ret1, Option.map_some, Option.bind_some, ↓reduceIte, Nat.reduceEqDiff, Bool.false_eq_true, Nat.reduceBEq, decide_true, decide_false, Bool.not_true, Bool.not_false, List.getElem?_cons_zero, List.getElem?_cons_succ, Nat.zero_add, Nat.add_zero, Nat.reduceAdd, Nat.reduceLT, Nat.reduceLeDiff, true_and, and_self, List.map_cons, List.map_nil, List.all_cons, List.all_nil, tup_int, tup_str, tup_agg, cel_agg, Bool.and_true, List.drop_zero, List.toList_toArray, List.size_toArray, List.length_cons, List.length_nil, mapOwn_tuple, mapOwn_bool, mapOwn_int, toksL_nil, toksL_cons, toks_int, toks_bool, toks_string, toks_tuple, okv_tuple, okv_bool, okv_int, okv_string, List.flatMap_nil, List.flatMap_cons, List.all_nil, List.all_cons, List.append_nil, List.nil_append, List.cons_append, List.map_nil, List.map_cons, Bool.and_true, Bool.false_and, Bool.and_self, Bool.not_true, Bool.not_false, beq_self_eq_true, vnext_mk, vpush_mk, vget_nil, vput_nil, cellsIn_mk, vthaw_nil, vwrites_nil, List.getD_cons_zero, List.getD_cons_succ, List.set_cons_zero, List.set_cons_succ, List.length_cons, List.length_nil, List.drop_zero, List.drop_succ_cons, List.take_succ_cons, List.take_zero, vbin_int, vbin_string, ↓vlay_free, cellsOk_free, cellF, abin_lss, abin_add, abin_sub, abin_mul, beq_self_eq_true, decide_true, decide_false, beq_self_eq_true, setAll_whole, ↓VE_nil, ↓VE_one0, ↓VE_one1, ↓VE_non0, ↓shade_off, shade_load, ↓vobl_load, dep_box, depStep_box, vspan, List.range_succ, List.range_zero, Bool.or_true, Nat.min_def, Nat.max_def, List.reverse_cons, List.reverse_nil, Bool.and_eq_true, vld23, vld9, vld3, vst23, ↓val23, vfp26_0, vfp26_1, vfp23_0, vfp23_1, vfp23_2, ↓vfk17, Tryd.results15, ↓right_c h.right h.place h.name, h1, h2, ab_sne2, h4, h5, w1, w2, w3, w4, w5]
            have e1 : c ≤ c' := by omega
            have e2 : r ≤ r' := by omega
            simp [areaN, areaF, h1, h2, e1, e2]
      · simp -dsimp only [↓VWP_seq, ↓VWP_region, ↓VWP_open, ↓VReg_one, ↓VReg_nil, ↓VS_assign, ↓VS_box, ↓Hold_1, With_some, emap_nil, ↓ae_tmp, ↓ae_int, ↓ae_bool, eget_zero, Bool.not_false, Nat.add_zero, true_and, List.all_cons, List.all_nil, tup_int, tup_str, tup_agg, cel_agg, List.toList_toArray, List.length_nil, toksL_nil, toksL_cons, toks_int, toks_string, okv_int, okv_string, List.all_nil, List.all_cons, List.append_nil, List.nil_append, Bool.and_self, Bool.not_false, beq_self_eq_true, vnext_mk, vpush_mk, List.length_nil, ↓vbox_free, cellsOk_free, cellF, beq_self_eq_true, beq_self_eq_true]
        refine Vc_open2 [[], [1, 2], [], [1, 2, 3], [], [], [], []] false (by kernel_rfl) (by kernel_rfl) (by kernel_rfl) (by kernel_rfl) ?_
        simp -dsimp only [↓Hold_5, ↓VWP_seq, ↓VWP_region, ↓VWP_cond, ↓VWP_ret, ↓VReg_one, ↓VReg_nil, ↓VS_guard, ↓VS_move, ↓VS_assign, ↓VS_pick, ↓VS_load, ↓VS_binOp, ↓VS_unOp, ↓VS_fieldAddr, ↓VS_store, ↓With_guard, ↓Hold_1, ↓Hold_3, With_some, emap_nil, ↓eget_eset, ↓ae_tmp, ↓ae_int, ↓ae_bool, eget_succ, eget_nil, lop_pick, lop_not, asBool_bool, asGuard_bool, bb_tf, ayielded_eq, ↓dstAt_zero, ↓dstAt_succ, light, ↓vfinish_ret, ↓vres_nil, ↓vres_tmp, vtell_eq, ret1, Option.map_some, Option.bind_some, ↓reduceIte, Nat.reduceEqDiff, Bool.false_eq_true, Nat.reduceBEq, decide_true, decide_false, Bool.not_true, Bool.not_false, List.getElem?_cons_zero, List.getElem?_cons_succ, Nat.zero_add, Nat.add_zero, Nat.reduceAdd, Nat.reduceLT, Nat.reduceLeDiff, true_and, and_self, List.map_cons, List.map_nil, List.all_cons, List.all_nil, tup_int, tup_str, tup_agg, cel_agg, Bool.and_true, List.drop_zero, List.toList_toArray, List.size_toArray, List.length_cons, List.length_nil, mapOwn_tuple, mapOwn_bool, mapOwn_int, toksL_nil, toksL_cons, toks_int, toks_bool, toks_string, toks_tuple, okv_tuple, okv_bool, okv_int, okv_string, List.flatMap_nil, List.flatMap_cons, List.all_nil, List.all_cons, List.append_nil, List.nil_append, List.cons_append, List.map_nil, List.map_cons, Bool.and_true, Bool.false_and, Bool.and_self, Bool.not_true, Bool.not_false, beq_self_eq_true, vnext_mk, vpush_mk, vget_nil, vput_nil, cellsIn_mk, vthaw_nil, vwrites_nil, List.getD_cons_zero, List.getD_cons_succ, List.set_cons_zero, List.set_cons_succ, List.length_cons, List.length_nil, List.drop_zero, List.drop_succ_cons, List.take_succ_cons, List.take_zero, vbin_string, ↓vlay_free, cellsOk_free, cellF, beq_self_eq_true, decide_true, decide_false, beq_self_eq_true, bb_tf, setAll_whole, ↓VE_nil, ↓VE_one0, ↓VE_one1, ↓VE_non0, ↓shade_off, shade_load, ↓vobl_load, dep_box, depStep_box, vspan, List.range_succ, List.range_zero, Bool.or_true, Nat.min_def, Nat.max_def, List.reverse_cons, List.reverse_nil, Bool.and_eq_true, vld23, vld9, vst23, ↓val23, vfp26_0, vfp26_1, vfp23_0, ↓vfk17, Tryd.results15, ↓right_c h.right h.place h.name, h1, h2, ab_sne2, h3]
        simp [areaN, areaF, h1, h2, h3]
theorem area_c (h : NOff X) (s : ByteArray) (c r : Int) (s' : ByteArray) (c' r' : Int) {S : VH} {K : VCont} : Vcallee Tryd.prog X 15 [.agg ⟨[.string s, .int .i64 c, .int .i64 r, .string s', .int .i64 c', .int .i64 r']⟩] S K = K (.tuple ⟨[.int .i64 (areaN ⟨s, c, r⟩ ⟨s', c', r'⟩), .bool (areaF ⟨s, c, r⟩ ⟨s', c', r'⟩)]⟩) [] S [] false := Vcallee_of (area_p h s c r s' c' r') rfl rfl rfl
/-- Is a cell in a range? -/
def inF (a b d : CC) : Bool := areaF a b && decide (d.s = a.s) && decide (a.c ≤ d.c) && decide (d.c ≤ b.c) && decide (a.r ≤ d.r) && decide (d.r ≤ b.r)
theorem in_p (h : NOff X) (hX : X 26 = none) (s : ByteArray) (c r : Int) (s' : ByteArray) (c' r' : Int) (z : ByteArray) (x y : Int) : Vp Tryd.prog X 26 [.agg ⟨[.string s, .int .i64 c, .int .i64 r, .string s', .int .i64 c', .int .i64 r']⟩, .agg ⟨[.string z, .int .i64 x, .int .i64 y]⟩] (.bool (inF ⟨s, c, r⟩ ⟨s', c', r'⟩ ⟨z, x, y⟩)) := by
  unfold Vp
  refine Vf_text hX Tryd.func26 rfl (by kernel_rfl) (by show 2 ≤ _; decide) ?_
  cases h1 : areaF ⟨s, c, r⟩ ⟨s', c', r'⟩
  · simp -dsimp only [↓Hold_5, ↓VWP_seq, ↓VWP_region, ↓VWP_ret, ↓VReg_one, ↓VReg_nil, ↓VS_guard, ↓VS_move, ↓VS_assign, ↓VS_pick, ↓VS_load, ↓VS_extract, ↓VS_box, ↓With_guard, ↓Hold_1, With_some, emap_nil, ↓eget_eset, ↓ae_tmp, ↓ae_bool, eget_zero, eget_succ, lop_pick, lop_extract, asGuard_bool, bb_ft, ayielded_eq, ↓dstAt_zero, ↓dstAt_succ, ↓vfinish_ret, ↓vres_nil, ↓vres_tmp, vtell_eq, ret1, Option.map_some, Option.bind_some, ↓reduceIte, Nat.reduceEqDiff, Bool.false_eq_true, Bool.not_false, List.getElem?_toArray, List.getElem?_cons_zero, List.getElem?_cons_succ, Nat.zero_add, Nat.add_zero, Nat.reduceAdd, Nat.reduceLeDiff, true_and, List.map_cons, List.map_nil, List.all_cons, List.all_nil, tup_int, tup_str, tup_agg, cel_agg, List.drop_zero, List.toList_toArray, List.length_cons, List.length_nil, mapOwn_bool, toksL_nil, toksL_cons, toks_int, toks_bool, toks_string, okv_bool, okv_int, okv_string, List.all_nil, List.all_cons, List.append_nil, List.nil_append, List.cons_append, List.map_nil, List.map_cons, Bool.and_self, Bool.not_false, beq_self_eq_true, vnext_mk, vpush_mk, vget_nil, cellsIn_mk, vthaw_nil, vwrites_nil, List.getD_cons_zero, List.length_cons, List.length_nil, List.drop_zero, List.take_succ_cons, List.take_zero, ↓vbox_free, cellsOk_free, cellF, beq_self_eq_true, beq_self_eq_true, bb_ft, vld26, ↓vfk15, Tryd.results26, ↓area_c h, h1]
    simp [inF, h1]
  · by_cases h2 : z = s
    · by_cases h3 : c ≤ x <;> by_cases h4 : x ≤ c' <;> by_cases h5 : r ≤ y <;> by_cases h6 : y ≤ r' <;> simp -dsimp only [↓Hold_5, ↓VWP_seq, ↓VWP_region, ↓VWP_ret, ↓VReg_one, ↓VReg_nil, ↓VS_guard, ↓VS_move, ↓VS_assign, ↓VS_pick, ↓VS_load, ↓VS_binOp, ↓VS_fieldAddr, ↓VS_extract, ↓VS_box, ↓With_guard, ↓Hold_1, With_some, emap_nil, ↓eget_eset, ↓ae_tmp, ↓ae_bool, eget_zero, eget_succ, lop_pick, lop_extract, asGuard_bool, bb_ft, ayielded_eq, ↓dstAt_zero, ↓dstAt_succ, ↓vfinish_ret, ↓vres_nil, ↓vres_tmp, vtell_eq, ret1, Option.map_some, Option.bind_some, ↓reduceIte, Nat.reduceEqDiff, Bool.false_eq_true, decide_true, decide_false, Bool.not_false, List.getElem?_toArray, List.getElem?_cons_zero, List.getElem?_cons_succ, Nat.zero_add, Nat.add_zero, Nat.reduceAdd, Nat.reduceLeDiff, true_and, List.map_cons, List.map_nil, List.all_cons, List.all_nil, tup_int, tup_str, tup_agg, cel_agg, List.drop_zero, List.toList_toArray, List.length_cons, List.length_nil, mapOwn_bool, toksL_nil, toksL_cons, toks_int, toks_bool, toks_string, okv_bool, okv_int, okv_string, List.all_nil, List.all_cons, List.append_nil, List.nil_append, List.cons_append, List.map_nil, List.map_cons, Bool.and_self, Bool.not_false, beq_self_eq_true, vnext_mk, vpush_mk, vget_nil, cellsIn_mk, vthaw_nil, vwrites_nil, List.getD_cons_zero, List.getD_cons_succ, List.length_cons, List.length_nil, List.drop_zero, List.take_succ_cons, List.take_zero, vbin_int, vbin_string, ↓vbox_free, cellsOk_free, cellF, abin_leq, abin_geq, beq_self_eq_true, ge_iff_le, decide_true, decide_false, beq_self_eq_true, bb_ft, vld26, vld9, vld3, vfp23_0, vfp26_0, vfp23_1, vfp26_1, vfp23_2, ↓vfk15, Tryd.results26, ↓area_c h, h1, ab_seq, h2, h3, h4, h5, h6] <;> simp [inF, h1, h3, h4, h5, h6]
    · simp -dsimp only [↓Hold_5, ↓VWP_seq, ↓VWP_region, ↓VWP_ret, ↓VReg_one, ↓VReg_nil, ↓VS_guard, ↓VS_move, ↓VS_assign, ↓VS_pick, ↓VS_load, ↓VS_binOp, ↓VS_fieldAddr, ↓VS_extract, ↓VS_box, ↓With_guard, ↓Hold_1, With_some, emap_nil, ↓eget_eset, ↓ae_tmp, ↓ae_bool, eget_zero, eget_succ, lop_pick, lop_extract, asGuard_bool, bb_ft, ayielded_eq, ↓dstAt_zero, ↓dstAt_succ, ↓vfinish_ret, ↓vres_nil, ↓vres_tmp, vtell_eq, ret1, Option.map_some, Option.bind_some, ↓reduceIte, Nat.reduceEqDiff, Bool.false_eq_true, decide_false, Bool.not_false, List.getElem?_toArray, List.getElem?_cons_zero, List.getElem?_cons_succ, Nat.zero_add, Nat.add_zero, Nat.reduceAdd, Nat.reduceLeDiff, true_and, List.map_cons, List.map_nil, List.all_cons, List.all_nil, tup_int, tup_str, tup_agg, cel_agg, List.drop_zero, List.toList_toArray, List.length_cons, List.length_nil, mapOwn_bool, toksL_nil, toksL_cons, toks_int, toks_bool, toks_string, okv_bool, okv_int, okv_string, List.all_nil, List.all_cons, List.append_nil, List.nil_append, List.cons_append, List.map_nil, List.map_cons, Bool.and_self, Bool.not_false, beq_self_eq_true, vnext_mk, vpush_mk, vget_nil, cellsIn_mk, vthaw_nil, vwrites_nil, List.getD_cons_zero, List.getD_cons_succ, List.length_cons, List.length_nil, List.drop_zero, List.take_succ_cons, List.take_zero, vbin_string, ↓vbox_free, cellsOk_free, cellF, beq_self_eq_true, decide_false, beq_self_eq_true, bb_ft, vld26, vld9, vfp23_0, vfp26_0, ↓vfk15, Tryd.results26, ↓area_c h, h1, ab_seq, h2]
      simp [inF, h1, h2]
theorem in_c (h : NOff X) (hX : X 26 = none) (s : ByteArray) (c r : Int) (s' : ByteArray) (c' r' : Int) (z : ByteArray) (x y : Int) {S : VH} {K : VCont} : Vcallee Tryd.prog X 26 [.agg ⟨[.string s, .int .i64 c, .int .i64 r, .string s', .int .i64 c', .int .i64 r']⟩, .agg ⟨[.string z, .int .i64 x, .int .i64 y]⟩] S K = K (.bool (inF ⟨s, c, r⟩ ⟨s', c', r'⟩ ⟨z, x, y⟩)) [] S [] false := Vcallee_of (in_p h hX s c r s' c' r' z x y) rfl rfl rfl
theorem small_p (h : NOff X) (hX : X 47 = none) (s : ByteArray) (c r : Int) (s' : ByteArray) (c' r' : Int) : Vp Tryd.prog X 47 [.agg ⟨[.string s, .int .i64 c, .int .i64 r, .string s', .int .i64 c', .int .i64 r']⟩] (.bool (areaF ⟨s, c, r⟩ ⟨s', c', r'⟩ && decide (areaN ⟨s, c, r⟩ ⟨s', c', r'⟩ ≤ 400))) := by
  unfold Vp
  refine Vf_text hX Tryd.func47 rfl (by kernel_rfl) (by show 1 ≤ _; decide) ?_
  cases h1 : areaF ⟨s, c, r⟩ ⟨s', c', r'⟩
  · simp -dsimp only [↓Hold_5, ↓VWP_seq, ↓VWP_region, ↓VWP_ret, ↓VReg_one, ↓VReg_nil, ↓VS_guard, ↓VS_move, ↓VS_assign, ↓VS_pick, ↓VS_load, ↓VS_extract, ↓VS_box, ↓With_guard, ↓Hold_1, With_some, emap_nil, ↓eget_eset, ↓ae_tmp, ↓ae_bool, eget_zero, lop_pick, lop_extract, asGuard_bool, bb_ft, ayielded_eq, ↓dstAt_zero, ↓dstAt_succ, ↓vfinish_ret, ↓vres_nil, ↓vres_tmp, vtell_eq, ret1, Option.map_some, Option.bind_some, ↓reduceIte, Nat.reduceEqDiff, Bool.false_eq_true, Bool.not_false, List.getElem?_toArray, List.getElem?_cons_zero, List.getElem?_cons_succ, Nat.zero_add, Nat.add_zero, Nat.reduceAdd, Nat.reduceLeDiff, and_self, List.map_cons, List.map_nil, List.all_cons, List.all_nil, tup_int, tup_str, tup_agg, cel_agg, List.drop_zero, List.toList_toArray, List.length_cons, List.length_nil, mapOwn_bool, toksL_nil, toksL_cons, toks_int, toks_bool, toks_string, okv_bool, okv_int, okv_string, List.all_nil, List.all_cons, List.append_nil, List.nil_append, List.map_nil, List.map_cons, Bool.false_and, Bool.and_self, Bool.not_false, beq_self_eq_true, vnext_mk, vpush_mk, vget_nil, cellsIn_mk, vthaw_nil, vwrites_nil, List.getD_cons_zero, List.length_cons, List.length_nil, List.drop_zero, List.take_succ_cons, List.take_zero, ↓vbox_free, cellsOk_free, cellF, beq_self_eq_true, beq_self_eq_true, bb_ft, vld26, ↓vfk15, Tryd.results47, ↓area_c h, h1]
  · by_cases h2 : areaN ⟨s, c, r⟩ ⟨s', c', r'⟩ ≤ 400 <;> simp -dsimp only [↓Hold_5, ↓VWP_seq, ↓VWP_region, ↓VWP_ret, ↓VReg_one, ↓VReg_nil, ↓VS_guard, ↓VS_move, ↓VS_assign, ↓VS_pick, ↓VS_load, ↓VS_binOp, ↓VS_extract, ↓VS_box, ↓With_guard, ↓Hold_1, With_some, emap_nil, ↓eget_eset, ↓ae_tmp, ↓ae_int, ↓ae_bool, eget_zero, lop_pick, lop_extract, asGuard_bool, ayielded_eq, ↓dstAt_zero, ↓dstAt_succ, ↓vfinish_ret, ↓vres_nil, ↓vres_tmp, vtell_eq, ret1, Option.map_some, Option.bind_some, ↓reduceIte, Nat.reduceEqDiff, decide_true, decide_false, Bool.not_false, List.getElem?_toArray, List.getElem?_cons_zero, List.getElem?_cons_succ, Nat.zero_add, Nat.add_zero, Nat.reduceAdd, Nat.reduceLeDiff, and_self, List.map_cons, List.map_nil, List.all_cons, List.all_nil, tup_int, tup_str, tup_agg, cel_agg, List.drop_zero, List.toList_toArray, List.length_cons, List.length_nil, mapOwn_bool, toksL_nil, toksL_cons, toks_int, toks_bool, toks_string, okv_bool, okv_int, okv_string, List.all_nil, List.all_cons, List.append_nil, List.nil_append, List.map_nil, List.map_cons, Bool.and_false, Bool.and_self, Bool.not_false, beq_self_eq_true, vnext_mk, vpush_mk, vget_nil, cellsIn_mk, vthaw_nil, vwrites_nil, List.getD_cons_zero, List.length_cons, List.length_nil, List.drop_zero, List.take_succ_cons, List.take_zero, vbin_int, ↓vbox_free, cellsOk_free, cellF, abin_leq, beq_self_eq_true, decide_true, decide_false, beq_self_eq_true, vld26, ↓vfk15, Tryd.results47, ↓area_c h, h1, h2]
theorem small_c (h : NOff X) (hX : X 47 = none) (s : ByteArray) (c r : Int) (s' : ByteArray) (c' r' : Int) {S : VH} {K : VCont} : Vcallee Tryd.prog X 47 [.agg ⟨[.string s, .int .i64 c, .int .i64 r, .string s', .int .i64 c', .int .i64 r']⟩] S K = K (.bool (areaF ⟨s, c, r⟩ ⟨s', c', r'⟩ && decide (areaN ⟨s, c, r⟩ ⟨s', c', r'⟩ ≤ 400))) [] S [] false := Vcallee_of (small_p h hX s c r s' c' r') rfl rfl rfl
/-- How two cells compare. -/
def cmpC (a b : CC) : Int := or3V (ordS a.s b.s) (ordI a.r b.r) (ordI a.c b.c)
structure MOff (X : VOuter) : Prop where
  nani : X 84 = none
  nans : X 83 = none
  cmpi : X 66 = none
  cmps : X 65 = none
  cmpor : X 64 = none
  compare : X 48 = none
theorem ccompare_p (h : MOff X) (s : ByteArray) (c r : Int) (s' : ByteArray) (c' r' : Int) : Vp Tryd.prog X 48 [.agg ⟨[.string s, .int .i64 c, .int .i64 r]⟩, .agg ⟨[.string s', .int .i64 c', .int .i64 r']⟩] (.int .i64 (cmpC ⟨s, c, r⟩ ⟨s', c', r'⟩)) := by
  unfold Vp
  refine Vf_text h.compare Tryd.func48 rfl (by kernel_rfl) (by show 2 ≤ _; decide) ?_
  simp -dsimp only [↓VWP_seq, ↓VWP_region, ↓VWP_open, ↓VReg_one, ↓VReg_nil, ↓VS_assign, ↓VS_box, ↓Hold_1, With_some, emap_nil, ↓eget_eset, ↓ae_tmp, ↓ae_int, eget_zero, eget_succ, ↓reduceIte, Nat.reduceEqDiff, Bool.not_false, Nat.zero_add, Nat.add_zero, true_and, List.all_cons, List.all_nil, tup_int, tup_str, tup_agg, cel_agg, List.toList_toArray, List.length_cons, List.length_nil, toksL_nil, toksL_cons, toks_int, toks_string, okv_int, okv_string, List.all_nil, List.all_cons, List.append_nil, List.nil_append, List.cons_append, Bool.and_self, Bool.not_false, beq_self_eq_true, vnext_mk, vpush_mk, List.length_cons, List.length_nil, ↓vbox_free, cellsOk_free, cellF, beq_self_eq_true, beq_self_eq_true]
  refine Vc_open [[], [], [], [], [], [], [0], [], [0], [], [], [0, 1], [], [0, 1], [], [], [], []] true (by kernel_rfl) (by kernel_rfl) (by kernel_rfl) ?_
  simp -dsimp only [↓Hold_5, ↓VWP_ret, ↓VS_assign, ↓VS_load, ↓VS_fieldAddr, ↓VS_buildSlice, ↓With_guard, ↓Hold_1, ↓Hold_3, With_some, emap_nil, emap_cons, ↓eget_eset, ↓ae_tmp, light, ↓vfinish_ret, ↓vres_nil, ↓vres_tmp, vtell_eq, ret1, Option.map_some, Option.bind_some, ↓reduceIte, Nat.reduceEqDiff, Bool.false_eq_true, decide_true, decide_false, Bool.not_false, List.getElem?_cons_zero, List.getElem?_cons_succ, Nat.zero_add, Nat.add_zero, Nat.reduceAdd, Nat.reduceMul, Nat.reduceLT, Nat.reduceLeDiff, true_and, List.map_cons, List.map_nil, List.all_cons, List.all_nil, tup_int, cel_int, Bool.and_true, List.toList_toArray, List.size_toArray, List.length_cons, List.length_nil, mapOwn_int, toksL_nil, toksL_cons, toks_int, okv_int, List.all_nil, List.all_cons, List.append_nil, List.nil_append, List.cons_append, List.map_nil, List.map_cons, Bool.and_true, Bool.and_self, Bool.not_false, Bool.or_false, beq_self_eq_true, vget_nil, cellsIn_mk, vturn_nil, vthaw_one, vthaw_nil, boxesOf_nil, vwrites_nil, List.getD_cons_zero, List.getD_cons_succ, List.set_cons_zero, List.set_cons_succ, List.length_cons, List.length_nil, partsOk_nil, partsOk_cons, vfill_nil, vfill_cons, List.replicate_succ, List.replicate_zero, beq_self_eq_true, decide_true, decide_false, beq_self_eq_true, ↓VE_nil, ↓VE_one0, ↓VE_one1, ↓shade_one, shade_load, shade_fieldAddr, shade_call, Option.getD_some, ↓vobl_load, dep_box, isGone_int, depStep_box, vspan, List.range_succ, List.range_zero, Bool.or_true, Nat.min_def, Nat.max_def, List.reverse_cons, List.reverse_nil, vld9, vld3, vfp23_0, vfp23_2, vfp23_1, vbd43, ↓vfk65, ↓vfk66, ↓vfk64, Tryd.results48, ↓cmpi_c h.cmpi h.nani, ↓cmps_c h.cmps h.nans, ↓cmpor_c h.cmpor]
  simp [cmpC]
theorem ccompare_c (h : MOff X) (s : ByteArray) (c r : Int) (s' : ByteArray) (c' r' : Int) {S : VH} {K : VCont} : Vcallee Tryd.prog X 48 [.agg ⟨[.string s, .int .i64 c, .int .i64 r]⟩, .agg ⟨[.string s', .int .i64 c', .int .i64 r']⟩] S K = K (.int .i64 (cmpC ⟨s, c, r⟩ ⟨s', c', r'⟩)) [] S [] false := Vcallee_of (ccompare_p h s c r s' c' r') rfl rfl rfl
theorem less_p (h : MOff X) (hX : X 28 = none) (s : ByteArray) (c r : Int) (s' : ByteArray) (c' r' : Int) : Vp Tryd.prog X 28 [.agg ⟨[.string s, .int .i64 c, .int .i64 r]⟩, .agg ⟨[.string s', .int .i64 c', .int .i64 r']⟩] (.bool (decide (cmpC ⟨s, c, r⟩ ⟨s', c', r'⟩ < 0))) := by
  unfold Vp
  refine Vf_text hX Tryd.func28 rfl (by kernel_rfl) (by show 2 ≤ _; decide) ?_
  simp -dsimp only [↓Hold_5, ↓VWP_seq, ↓VWP_region, ↓VWP_ret, ↓VReg_one, ↓VReg_nil, ↓VS_assign, ↓VS_load, ↓VS_binOp, ↓VS_box, ↓With_guard, ↓Hold_1, With_some, emap_nil, ↓eget_eset, ↓ae_tmp, ↓ae_int, ↓ae_bool, eget_zero, eget_succ, ↓vfinish_ret, ↓vres_nil, ↓vres_tmp, vtell_eq, ret1, Option.map_some, Option.bind_some, ↓reduceIte, Nat.reduceEqDiff, Bool.not_false, Nat.zero_add, Nat.add_zero, Nat.reduceAdd, Nat.reduceLeDiff, and_self, List.map_cons, List.map_nil, List.all_cons, List.all_nil, tup_int, tup_str, tup_agg, cel_agg, List.drop_zero, List.toList_toArray, List.length_cons, List.length_nil, mapOwn_bool, toksL_nil, toksL_cons, toks_int, toks_bool, toks_string, okv_bool, okv_int, okv_string, List.all_nil, List.all_cons, List.append_nil, List.nil_append, List.cons_append, List.map_nil, List.map_cons, Bool.and_self, Bool.not_false, beq_self_eq_true, vnext_mk, vpush_mk, vget_nil, cellsIn_mk, vthaw_nil, vwrites_nil, List.getD_cons_zero, List.getD_cons_succ, List.length_cons, List.length_nil, List.drop_zero, List.take_succ_cons, List.take_zero, vbin_int, ↓vbox_free, cellsOk_free, cellF, abin_lss, beq_self_eq_true, beq_self_eq_true, vld23, ↓vfk48, Tryd.results28, ↓ccompare_c h]
theorem less_c (h : MOff X) (hX : X 28 = none) (s : ByteArray) (c r : Int) (s' : ByteArray) (c' r' : Int) {S : VH} {K : VCont} : Vcallee Tryd.prog X 28 [.agg ⟨[.string s, .int .i64 c, .int .i64 r]⟩, .agg ⟨[.string s', .int .i64 c', .int .i64 r']⟩] S K = K (.bool (decide (cmpC ⟨s, c, r⟩ ⟨s', c', r'⟩ < 0))) [] S [] false := Vcallee_of (less_p h hX s c r s' c' r') rfl rfl rfl
/-- Is a cell among others? -/
def hasF (l : List CC) (d : CC) : Bool := l.any fun x => eqC x d
theorem has_p (hX : X 30 = none) (cc : Bool) (dd : Nat) (l : List CC) (hl : l.length ≤ 1000000000) (s : ByteArray) (c r : Int) : Vp Tryd.prog X 30 [sl cc dd 3 (l.map CC.v), .agg ⟨[.string s, .int .i64 c, .int .i64 r]⟩] (.bool (hasF l ⟨s, c, r⟩)) := by
  unfold Vp
  refine Vf_text hX Tryd.func30 rfl (by kernel_rfl) (by show 2 ≤ _; decide) ?_
  simp -dsimp only [↓VWP_seq, ↓VWP_region, ↓VWP_block, ↓VWP_loop, ↓VReg_one, ↓VReg_nil, ↓VS_assign, ↓VS_box, ↓Hold_1, With_some, emap_nil, ↓ae_tmp, ↓ae_int, ↓ae_bool, eget_zero, eget_succ, Bool.not_false, Nat.add_zero, true_and, List.all_cons, List.all_nil, tup_int, tup_str, tup_agg, cel_agg, List.toList_toArray, List.length_nil, toksL_nil, toksL_cons, toks_int, toks_string, okv_int, okv_string, List.all_nil, List.all_cons, List.append_nil, List.nil_append, Bool.and_self, Bool.not_false, beq_self_eq_true, vnext_mk, vpush_mk, List.length_nil, ↓vbox_free, cellsOk_free, cellF, beq_self_eq_true, beq_self_eq_true]
  refine Vc_loop (fun m e S => ∃ i : Nat, m = l.length - i ∧ i ≤ l.length ∧ eget e 0 = sl cc dd 3 (l.map CC.v) ∧ eget e 3 = .pointer (some { block := 0, off := 0 }) ∧ eget e 5 = .int .i64 i ∧ hasF (l.take i) ⟨s, c, r⟩ = false ∧ S = ⟨[], [.cells true 23 [.string s, .int .i64 c, .int .i64 r]], []⟩) l.length ?_ ?_
  · refine ⟨0, rfl, Nat.zero_le _, ?_, ?_, ?_, rfl, rfl⟩ <;> simp only [↓eget_eset, eget_zero, ↓reduceIte, Nat.reduceEqDiff, reduceCtorEq] <;> rfl
  · rintro m e S ⟨i, rfl, hi, e0, e3, e5, hall, rfl⟩
    refine VWP_Vc _ _ _ _ ?_
    by_cases hin : i < l.length
    · have hlt : (i : Int) < l.length := by omega
      have h0 : (0 : Int) ≤ i := by omega
      have hx : (l.map CC.v)[i]? = some l[i].v := by simp [hin]
      have hnum : ((i : Int) + 1) = ((i + 1 : Nat) : Int) := by omega
      have hwr : IntKind.i64.wrap ((i : Int) + 1) = (i : Int) + 1 := wrap_id (by omega) (by omega)
      have ht : hasF (l.take (i + 1)) ⟨s, c, r⟩ = eqC l[i] ⟨s, c, r⟩ := by
        rw [← List.take_append_getElem hin]
        unfold hasF at hall ⊢
        rw [List.any_append, hall]
        simp
      have hb : eqC l[i] ⟨s, c, r⟩ = true → hasF l ⟨s, c, r⟩ = true := fun h => by
        unfold hasF
        rw [List.any_eq_true]
        exact ⟨l[i], List.getElem_mem hin, h⟩
      generalize l[i] = x at hx ht hb
      obtain ⟨s', c', r'⟩ := x
      simp only [CC.v] at hx
      cases hq : eqC ⟨s', c', r'⟩ ⟨s, c, r⟩
      · simp -dsimp only [↓VWP_seq, ↓VWP_region, ↓VWP_cond, ↓VWP_skip, ↓VWP_block, ↓VWP_open, ↓VReg_one, ↓VReg_nil, ↓VS_move, ↓VS_binOp, ↓VS_len, ↓Hold_1, With_some, emap_nil, ↓eget_eset, ↓ae_tmp, asBool_bool, ↓reduceIte, Nat.reduceEqDiff, reduceCtorEq, decide_true, vbin_int, abin_lss, decide_true, vls35, e0, e5, hlt, List.length_map]
        refine Vc_open [[], [], [], [], [], []] false (by kernel_rfl) (by kernel_rfl) (by kernel_rfl) ?_
        simp -dsimp only [↓VWP_region, ↓VWP_cond, ↓VWP_skip, ↓VReg_one, ↓VReg_nil, ↓VS_move, ↓VS_assign, ↓VS_load, ↓VS_binOp, ↓VS_indexAddr, ↓Hold_1, ↓Hold_3, With_some, emap_nil, ↓eget_eset, ↓ae_tmp, ↓ae_int, asBool_bool, light, Option.map_some, ↓reduceIte, Nat.reduceEqDiff, reduceCtorEq, Bool.false_eq_true, Nat.zero_add, Nat.reduceAdd, Nat.reduceLeDiff, and_true, true_and, List.all_nil, List.drop_zero, List.length_cons, List.length_nil, List.all_nil, vget_nil, cellsIn_mk, List.getD_cons_zero, List.length_cons, List.length_nil, List.drop_zero, List.take_succ_cons, List.take_zero, vload_at, aggV_agg, vbin_int, abin_add, Int.toNat_natCast, ↓VE_nil, ↓VE_one0, List.reverse_nil, vld23, vgt23, vis35, e0, e3, e5, h0, hx, hwr, cell_eq, hq]
        exact ⟨l.length - (i + 1), by omega, i + 1, rfl, by omega, by rw [hnum], by rw [ht, hq]⟩
      · simp -dsimp only [↓VWP_seq, ↓VWP_region, ↓VWP_cond, ↓VWP_skip, ↓VWP_block, ↓VWP_open, ↓VReg_one, ↓VReg_nil, ↓VS_move, ↓VS_binOp, ↓VS_len, ↓Hold_1, With_some, emap_nil, ↓eget_eset, ↓ae_tmp, asBool_bool, ↓reduceIte, Nat.reduceEqDiff, reduceCtorEq, decide_true, vbin_int, abin_lss, decide_true, vls35, e0, e5, hlt, List.length_map]
        refine Vc_open [[], [], [], [], [], []] false (by kernel_rfl) (by kernel_rfl) (by kernel_rfl) ?_
        simp -dsimp only [↓VWP_seq, ↓VWP_region, ↓VWP_cond, ↓VWP_ret, ↓VReg_one, ↓VReg_nil, ↓VS_move, ↓VS_assign, ↓VS_load, ↓VS_binOp, ↓VS_indexAddr, ↓With_guard, ↓Hold_1, ↓Hold_3, With_some, emap_nil, ↓eget_eset, ↓ae_tmp, ↓ae_bool, asBool_bool, light, ↓vfinish_ret, ↓vres_nil, ↓vres_tmp, vtell_eq, ret1, Option.map_some, Option.bind_some, ↓reduceIte, Nat.reduceEqDiff, reduceCtorEq, Nat.zero_add, Nat.reduceAdd, Nat.reduceLeDiff, true_and, List.all_nil, List.drop_zero, List.toList_toArray, List.length_cons, List.length_nil, mapOwn_bool, toks_bool, okv_bool, List.all_nil, vget_nil, cellsIn_mk, vthaw_nil, vwrites_nil, List.getD_cons_zero, List.length_cons, List.length_nil, List.drop_zero, List.take_succ_cons, List.take_zero, vload_at, aggV_agg, Int.toNat_natCast, ↓VE_nil, ↓VE_one0, List.reverse_nil, vld23, vgt23, vis35, Tryd.results30, e0, e3, e5, h0, hx, cell_eq, hq]
        rw [hb hq]
    · obtain rfl : i = l.length := by omega
      have hlt : ¬ ((l.length : Int) < l.length) := by omega
      rw [List.take_length] at hall
      simp -dsimp only [↓VWP_seq, ↓VWP_region, ↓VWP_cond, ↓VWP_ret, ↓VWP_exit, ↓VReg_one, ↓VReg_nil, ↓VS_move, ↓VS_assign, ↓VS_binOp, ↓VS_len, ↓With_guard, ↓Hold_1, ↓Hold_3, With_some, emap_nil, ↓eget_eset, ↓ae_tmp, ↓ae_bool, asBool_bool, ↓vfinish_ret, ↓vres_nil, ↓vres_tmp, vtell_eq, ret1, Option.map_some, Option.bind_some, ↓reduceIte, Nat.reduceEqDiff, reduceCtorEq, Bool.false_eq_true, decide_false, true_and, List.toList_toArray, List.length_nil, mapOwn_bool, toks_bool, okv_bool, vthaw_nil, vwrites_nil, List.length_nil, vbin_int, abin_lss, decide_false, vls35, Tryd.results30, e0, e5, hlt, List.length_map]
      rw [hall]
end
end Go.Proofs.YtmdpggecelheoaaDoor.Abs
/- The cells of a range. -/
set_option linter.unusedVariables false
set_option linter.unusedSimpArgs false
set_option maxRecDepth 4000
set_option maxHeartbeats 0
namespace Go.Proofs.YtmdpggecelheoaaDoor.Abs
open Go
attribute [local irreducible] Hold VReg Vf Vc VWP With VStp Vcallee Vp VE
def colsN (a b : CC) : Nat := (b.c - a.c + 1).toNat
def rowsN (a b : CC) : Nat := (b.r - a.r + 1).toNat
/-- The k-th cell of a range. -/
def nthC (a b : CC) (k : Nat) : CC := ⟨a.s, a.c + (k % colsN a b : Nat), a.r + (k / colsN a b : Nat)⟩
def cellsF (a b : CC) : List CC := (List.range (if areaF a b && decide (areaN a b ≤ 400) then rowsN a b * colsN a b else 0)).map (nthC a b)
theorem areaF_spec {a b : CC} (h : areaF a b = true) : celF a.s a.c a.r = true ∧ celF b.s b.c b.r = true ∧ a.s = b.s ∧ a.c ≤ b.c ∧ a.r ≤ b.r := by
  simp only [areaF, Bool.and_eq_true, decide_eq_true_eq] at h
  exact ⟨h.1.1.1.1, h.1.1.1.2, h.1.1.2, h.1.2, h.2⟩
theorem areaN_nat {a b : CC} (h : areaF a b = true) : areaN a b = ((rowsN a b * colsN a b : Nat) : Int) := by
  obtain ⟨-, -, -, h1, h2⟩ := areaF_spec h
  unfold areaN
  rw [if_pos h, Int.natCast_mul, Int.mul_comm]
  congr 1
  · unfold rowsN; omega
  · unfold colsN; omega
theorem range_next (a b : CC) (j q : Nat) (hq : q < colsN a b) : (List.range (j * colsN a b + (q + 1))).map (fun k => (nthC a b k).v) = (List.range (j * colsN a b + q)).map (fun k => (nthC a b k).v) ++ [.agg ⟨[.string a.s, .int .i64 (a.c + q), .int .i64 (a.r + j)]⟩] := by
  rw [← Nat.add_assoc, List.range_succ, List.map_append, List.map_singleton]
  congr 2
  unfold nthC CC.v
  have h1 : (j * colsN a b + q) % colsN a b = q := by rw [Nat.add_comm, Nat.add_mul_mod_self_right, Nat.mod_eq_of_lt hq]
  have h2 : (j * colsN a b + q) / colsN a b = j := by rw [Nat.add_comm, Nat.add_mul_div_right _ _ (by omega), Nat.div_eq_of_lt hq, Nat.zero_add]
  rw [h1, h2]
theorem cells_p {X : VOuter} (h : NOff X) (hX : X 24 = none) (hX1 : X 47 = none) (s : ByteArray) (c r : Int) (s' : ByteArray) (c' r' : Int) : Vp Tryd.prog X 24 [.agg ⟨[.string s, .int .i64 c, .int .i64 r, .string s', .int .i64 c', .int .i64 r']⟩] (sl true 0 3 ((cellsF ⟨s, c, r⟩ ⟨s', c', r'⟩).map CC.v)) := by
  unfold Vp
  refine Vf_text hX Tryd.func24 rfl (by kernel_rfl) (by show 1 ≤ _; decide) ?_
  cases h1 : areaF ⟨s, c, r⟩ ⟨s', c', r'⟩ && decide (areaN ⟨s, c, r⟩ ⟨s', c', r'⟩ ≤ 400)
  · simp -dsimp only [↓Hold_5, ↓VWP_seq, ↓VWP_region, ↓VWP_cond, ↓VWP_ret, ↓VReg_one, ↓VReg_nil, ↓VS_assign, ↓VS_load, ↓VS_unOp, ↓VS_box, ↓With_guard, ↓Hold_1, With_some, emap_nil, ↓eget_eset, ↓ae_tmp, ↓ae_slice0, eget_zero, lop_not, asBool_bool, ↓vfinish_ret, ↓vres_nil, ↓vres_tmp, vtell_eq, ret1, Option.map_some, Option.bind_some, ↓reduceIte, Nat.reduceEqDiff, Bool.not_false, Nat.zero_add, Nat.add_zero, Nat.reduceAdd, Nat.reduceLeDiff, true_and, List.map_cons, List.map_nil, List.all_cons, List.all_nil, tup_int, tup_str, tup_agg, cel_agg, List.drop_zero, List.toList_toArray, List.length_cons, List.length_nil, mapOwn_slice, toksL_nil, toksL_cons, toks_int, toks_string, toks_slice, okv_int, okv_string, okv_slice0, List.all_nil, List.all_cons, List.append_nil, List.nil_append, List.map_nil, List.map_cons, Bool.and_self, Bool.not_false, beq_self_eq_true, vnext_mk, vpush_mk, vget_nil, cellsIn_mk, vthaw_nil, vwrites_nil, List.getD_cons_zero, List.length_cons, List.length_nil, List.drop_zero, List.take_succ_cons, List.take_zero, ↓vbox_free, cellsOk_free, cellF, beq_self_eq_true, beq_self_eq_true, vld26, ↓vfk47, Tryd.results24, ↓small_c h hX1, h1]
    simp [cellsF, h1]
    rfl
  · have hF : cellsF ⟨s, c, r⟩ ⟨s', c', r'⟩ = (List.range (rowsN ⟨s, c, r⟩ ⟨s', c', r'⟩ * colsN ⟨s, c, r⟩ ⟨s', c', r'⟩)).map (nthC ⟨s, c, r⟩ ⟨s', c', r'⟩) := by
      unfold cellsF; rw [h1, if_pos rfl]
    rw [hF, List.map_map]
    have h1' := h1
    rw [Bool.and_eq_true, decide_eq_true_eq] at h1'
    have hN := h1'.2
    rw [areaN_nat h1'.1] at hN
    obtain ⟨k1, k2, -, k3, k4⟩ := areaF_spec h1'.1
    dsimp only at k1 k2 k3 k4
    have p1 := celF_place k1
    have p2 := celF_place k2
    have hC : (colsN ⟨s, c, r⟩ ⟨s', c', r'⟩ : Int) = c' - c + 1 := by unfold colsN; dsimp only; omega
    have hR : (rowsN ⟨s, c, r⟩ ⟨s', c', r'⟩ : Int) = r' - r + 1 := by unfold rowsN; dsimp only; omega
    have hnext := range_next ⟨s, c, r⟩ ⟨s', c', r'⟩
    dsimp only at hnext
    have hN : rowsN ⟨s, c, r⟩ ⟨s', c', r'⟩ * colsN ⟨s, c, r⟩ ⟨s', c', r'⟩ ≤ 400 := by omega
    generalize nthC ⟨s, c, r⟩ ⟨s', c', r'⟩ = g at hnext ⊢
    generalize colsN ⟨s, c, r⟩ ⟨s', c', r'⟩ = C at hnext hC hN ⊢
    generalize rowsN ⟨s, c, r⟩ ⟨s', c', r'⟩ = R at hR hN ⊢
    simp -dsimp only [↓Hold_5, ↓VWP_seq, ↓VWP_region, ↓VWP_cond, ↓VWP_skip, ↓VWP_block, ↓VWP_loop, ↓VReg_one, ↓VReg_nil, ↓VS_assign, ↓VS_load, ↓VS_unOp, ↓VS_fieldAddr, ↓VS_box, ↓Hold_1, With_some, emap_nil, ↓eget_eset, ↓ae_tmp, ↓ae_slice0, eget_zero, lop_not, asBool_bool, ↓reduceIte, Nat.reduceEqDiff, Bool.false_eq_true, Bool.not_true, Bool.not_false, List.getElem?_cons_zero, List.getElem?_cons_succ, Nat.zero_add, Nat.add_zero, Nat.reduceAdd, Nat.reduceLeDiff, true_and, List.map_cons, List.map_nil, List.all_cons, List.all_nil, tup_int, tup_str, tup_agg, cel_agg, List.drop_zero, List.toList_toArray, List.length_cons, List.length_nil, toksL_nil, toksL_cons, toks_int, toks_string, okv_int, okv_string, List.all_nil, List.all_cons, List.append_nil, List.nil_append, List.map_nil, List.map_cons, Bool.and_self, Bool.not_true, Bool.not_false, beq_self_eq_true, vnext_mk, vpush_mk, vget_nil, cellsIn_mk, List.getD_cons_zero, List.length_cons, List.length_nil, List.drop_zero, List.take_succ_cons, List.take_zero, ↓vbox_free, cellsOk_free, cellF, beq_self_eq_true, beq_self_eq_true, vld26, vld3, vfp26_0, vfp23_2, ↓vfk47, ↓small_c h hX1, h1]
    refine Vc_loop (fun m e S => ∃ j : Nat, m = R - j ∧ j ≤ R ∧ eget e 1 = .pointer (some { block := 0, off := 0 }) ∧ eget e 3 = ol true (37, none) 3 ((List.range (j * C)).map fun k => (g k).v) ∧ eget e 4 = .int .i64 (r + j) ∧ S = ⟨[], [.cells true 26 [.string s, .int .i64 c, .int .i64 r, .string s', .int .i64 c', .int .i64 r']], []⟩) R ?_ ?_
    · refine ⟨0, rfl, Nat.zero_le _, ?_, ?_, ?_, rfl⟩
      · simp only [↓eget_eset, ↓reduceIte, Nat.reduceEqDiff]
      · simp only [↓eget_eset, ↓reduceIte, Nat.reduceEqDiff, Nat.zero_mul]
        rfl
      · simp only [↓eget_eset, ↓reduceIte]
        simp
    · rintro m e S ⟨j, rfl, hj, e1, e3, e4, rfl⟩
      refine VWP_Vc _ _ _ _ ?_
      by_cases hjn : j < R
      · have hly : r + (j : Int) ≤ r' := by omega
        have hjC : (j + 1) * C ≤ R * C := Nat.mul_le_mul_right C hjn
        rw [Nat.succ_mul] at hjC
        simp -dsimp only [↓VWP_seq, ↓VWP_region, ↓VWP_cond, ↓VWP_skip, ↓VWP_block, ↓VWP_loop, ↓VReg_one, ↓VReg_nil, ↓VS_move, ↓VS_assign, ↓VS_load, ↓VS_binOp, ↓VS_fieldAddr, ↓Hold_1, With_some, emap_nil, ↓eget_eset, ↓ae_tmp, asBool_bool, ↓reduceIte, Nat.reduceEqDiff, decide_true, List.getElem?_cons_zero, List.getElem?_cons_succ, Nat.zero_add, Nat.add_zero, Nat.reduceAdd, vget_nil, cellsIn_mk, List.getD_cons_zero, vbin_int, abin_leq, decide_true, vld3, vfp26_0, vfp23_2, vfp26_1, vfp23_1, e1, e4, hly]
        refine Vc_loop (fun m e S => ∃ q : Nat, m = C - q ∧ q ≤ C ∧ eget e 1 = .pointer (some { block := 0, off := 0 }) ∧ eget e 3 = ol true (37, none) 3 ((List.range (j * C + q)).map fun k => (g k).v) ∧ eget e 4 = .int .i64 (r + j) ∧ eget e 5 = .int .i64 (c + q) ∧ S = ⟨[], [.cells true 26 [.string s, .int .i64 c, .int .i64 r, .string s', .int .i64 c', .int .i64 r']], []⟩) C ?_ ?_
        · refine ⟨0, rfl, Nat.zero_le _, ?_, ?_, ?_, ?_, rfl⟩
          · simp only [↓eget_eset, ↓reduceIte, Nat.reduceEqDiff, e1]
          · simp only [↓eget_eset, ↓reduceIte, Nat.reduceEqDiff, Nat.add_zero, e3]
          · simp only [↓eget_eset, ↓reduceIte, Nat.reduceEqDiff, e4]
          · simp only [↓eget_eset, ↓reduceIte]
            simp
        · rintro m e S ⟨q, rfl, hq, e1, e3, e4, e5, rfl⟩
          refine VWP_Vc _ _ _ _ ?_
          by_cases hqn : q < C
          · have hlx : c + (q : Int) ≤ c' := by omega
            have ht := hnext j q hqn
            have hlen : ((List.range (j * C + q)).map fun k => (g k).v).length = j * C + q := by simp
            have hw : IntKind.i64.wrap (c + q + 1) = c + q + 1 := wrap_id (by omega) (by omega)
            generalize (List.range (j * C + q)).map (fun k => (g k).v) = L at e3 ht hlen
            simp -dsimp only [thaw_ol, vgrow_ol, ↓VWP_seq, ↓VWP_region, ↓VWP_cond, ↓VWP_skip, ↓VWP_block, ↓VReg_one, ↓VReg_nil, ↓VS_move, ↓VS_assign, ↓VS_build, ↓VS_load, ↓VS_binOp, ↓VS_fieldAddr, ↓VS_buildSlice, ↓VS_append, ↓With_guard, ↓Hold_1, With_some, emap_nil, emap_cons, ↓eget_map, ↓eget_eset, ↓ae_tmp, ↓ae_int, asBool_bool, Option.map_some, Option.bind_some, ↓reduceIte, Nat.reduceEqDiff, decide_true, Bool.not_false, List.getElem?_cons_zero, List.getElem?_cons_succ, Nat.zero_add, Nat.add_zero, Nat.reduceAdd, Nat.reduceMul, Nat.reduceLT, Nat.reduceLeDiff, and_true, true_and, and_self, List.map_cons, List.map_nil, List.all_cons, List.all_nil, tup_int, cel_int, tup_str, cel_str, tup_agg, cel_agg, List.toList_toArray, List.size_toArray, List.length_cons, List.length_nil, mapOwn_agg, mapOwn_int, mapOwn_string, mapOwn_pointer, toksL_nil, toksL_cons, toks_int, toks_string, toks_agg, okv_agg, okv_int, okv_string, List.flatMap_nil, List.flatMap_cons, List.all_nil, List.all_cons, List.append_nil, List.map_nil, List.map_cons, Bool.and_self, Bool.not_false, List.mem_cons, List.not_mem_nil, or_false, Prod.mk.injEq, beq_self_eq_true, vget_nil, cellsIn_mk, vturn_nil, vthaw_one, boxesOf_nil, List.getD_cons_zero, List.set_cons_zero, List.set_cons_succ, List.length_cons, List.length_nil, velems_own, partsOk_nil, partsOk_cons, vfill_nil, vfill_cons, vbin_int, List.replicate_succ, List.replicate_zero, abin_leq, abin_add, beq_self_eq_true, decide_true, beq_self_eq_true, afill, setAll, vld3, vld9, vfp26_0, vfp26_1, vfp23_1, vfp23_0, bd23, pl23_0, pl23_1, pl23_2, vbd35, vap35, e1, e3, e4, e5, hlx, hlen]
            exact ⟨⟨by omega, by omega⟩, C - (q + 1), by omega, q + 1, rfl, by omega, by rw [ht], by rw [hw]; congr 1; omega⟩
          · obtain rfl : q = C := by omega
            have hlx : ¬ c + (q : Int) ≤ c' := by omega
            have hw : IntKind.i64.wrap (r + j + 1) = r + j + 1 := wrap_id (by omega) (by omega)
            simp -dsimp only [↓VWP_seq, ↓VWP_region, ↓VWP_cond, ↓VWP_exit, ↓VReg_one, ↓VReg_nil, ↓VS_move, ↓VS_assign, ↓VS_load, ↓VS_binOp, ↓VS_fieldAddr, ↓Hold_1, ↓Hold_3, With_some, emap_nil, ↓eget_eset, ↓ae_tmp, ↓ae_int, asBool_bool, ↓reduceIte, Nat.reduceEqDiff, Bool.false_eq_true, decide_false, List.getElem?_cons_zero, List.getElem?_cons_succ, Nat.zero_add, Nat.reduceAdd, and_true, true_and, vget_nil, cellsIn_mk, List.getD_cons_zero, vbin_int, abin_leq, abin_add, decide_false, vld3, vfp26_1, vfp23_1, e1, e3, e4, e5, hlx]
            exact ⟨R - (j + 1), by omega, j + 1, rfl, by omega, by rw [Nat.succ_mul], by rw [hw]; congr 1; omega⟩
      · obtain rfl : j = R := by omega
        have hly : ¬ r + (j : Int) ≤ r' := by omega
        simp -dsimp only [okv_sl0, toks_ol, thawAll_ol, thaw_tok1, ↓VWP_seq, ↓VWP_region, ↓VWP_cond, ↓VWP_ret, ↓VWP_exit, ↓VReg_one, ↓VReg_nil, ↓VS_move, ↓VS_assign, ↓VS_load, ↓VS_binOp, ↓VS_fieldAddr, ↓With_guard, ↓Hold_1, ↓Hold_3, With_some, emap_nil, ↓eget_eset, ↓ae_tmp, asBool_bool, ↓vfinish_ret, ↓vres_nil, ↓vres_tmp, vtell_eq, ret1, Option.map_some, Option.bind_some, ↓reduceIte, Nat.reduceEqDiff, Bool.false_eq_true, decide_false, List.getElem?_cons_zero, List.getElem?_cons_succ, Nat.zero_add, Nat.reduceAdd, true_and, List.toList_toArray, List.length_nil, Bool.true_and, vget_nil, cellsIn_mk, vwrites_nil, List.getD_cons_zero, List.length_nil, vbin_int, abin_leq, decide_false, vld3, vfp23_2, vfp26_1, Tryd.results24, e1, e3, e4, hly]
        rfl
theorem cells_c {X : VOuter} (h : NOff X) (hX : X 24 = none) (hX1 : X 47 = none) (s : ByteArray) (c r : Int) (s' : ByteArray) (c' r' : Int) {S : VH} {K : VCont} : Vcallee Tryd.prog X 24 [.agg ⟨[.string s, .int .i64 c, .int .i64 r, .string s', .int .i64 c', .int .i64 r']⟩] S K = K (sl true 0 3 ((cellsF ⟨s, c, r⟩ ⟨s', c', r'⟩).map CC.v)) [] S [] false := Vcallee_of (cells_p h hX hX1 s c r s' c' r') rfl rfl (okv_sl0 _ _ _ _ _)
end Go.Proofs.YtmdpggecelheoaaDoor.Abs
