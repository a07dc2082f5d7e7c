/- The functions of values: what they do with rows of values. -/
import Derived.Test.YtmdpggecelheoaaDoorPVTF
import Derived.Test.YtmdpggecelheoaaDoorMW9
set_option linter.unusedVariables false
set_option linter.unusedSimpArgs false
set_option maxRecDepth 4000
set_option maxHeartbeats 0
namespace Go.Proofs.YtmdpggecelheoaaDoor.Abs
open Go
attribute [local irreducible] Hold VReg Vf Vc VWP With VStp Vcallee Vp
/-- A value: its kind, its number, its text. -/
structure VV where
  k : Int
  n : Int
  s : ByteArray
def VV.v (x : VV) : Value := .agg ⟨[.int .i64 x.k, .int .i64 x.n, .string x.s]⟩
def vI (n : Int) : Value := .int .i64 n
def intsF (l : List VV) : List Int := (l.filter fun x => x.k == 1).map (·.n)
theorem intsF_take (l : List VV) (i : Nat) (h : i < l.length) : intsF (l.take (i + 1)) = intsF (l.take i) ++ if l[i].k = 1 then [l[i].n] else [] := by
  rw [← List.take_append_getElem h]
  unfold intsF
  rw [List.filter_append, List.map_append]
  by_cases hk : l[i].k = 1 <;> simp [hk]
theorem intsF_len (l : List VV) : (intsF l).length ≤ l.length := by unfold intsF; rw [List.length_map]; exact List.length_filter_le _ _
theorem ints_p {X : VOuter} (hX : X 93 = none) (c : Bool) (d : Nat) (l : List VV) (hl : l.length ≤ 1000000000) : Vp Tryd.prog X 93 [sl c d 3 (l.map VV.v)] (sl true 0 1 ((intsF l).map vI)) := by
  unfold Vp
  refine Vf_text hX Tryd.func93 rfl (by kernel_rfl) (by show 1 ≤ _; decide) ?_
  simp -dsimp only [↓VWP_seq, ↓VWP_region, ↓VWP_block, ↓VWP_loop, ↓VReg_one, ↓VReg_nil, ↓VS_move, ↓VS_assign, ↓VS_len, ↓Hold_1, With_some, emap_nil, ↓eget_eset, ↓ae_tmp, ↓ae_int, ↓ae_slice0, eget_zero, ↓reduceIte, reduceCtorEq, vls42, List.length_map]
  refine Vc_loop (fun m e S => ∃ i : Nat, m = l.length - i ∧ i ≤ l.length ∧ eget e 6 = sl c d 3 (l.map VV.v) ∧ eget e 7 = .int .i64 l.length ∧ eget e 8 = .int .i64 i ∧ eget e 3 = ol true (19, none) 1 ((intsF (l.take i)).map vI) ∧ ∃ J, S = ⟨[], J, []⟩) l.length ?_ ?_
  · refine ⟨0, rfl, Nat.zero_le _, ?_, ?_, ?_, ?_, [], rfl⟩ <;> simp only [↓eget_eset, ↓reduceIte, Nat.reduceEqDiff] <;> rfl
  · rintro m e S ⟨i, rfl, hi, e6, e7, e8, e3, J, rfl⟩
    refine VWP_Vc _ _ _ _ ?_
    by_cases hin : i < l.length
    · have hlt : (i : Int) < l.length := by omega
      have h0 : (0 : Int) ≤ i := by omega
      have hx : (l.map VV.v)[i]? = some l[i].v := by simp [hin]
      have ht := intsF_take l i hin
      have hlen := intsF_len (l.take i)
      rw [List.length_take] at hlen
      have hnum : ((i : Int) + 1) = ((i + 1 : Nat) : Int) := by omega
      have hwr : IntKind.i64.wrap ((i : Int) + 1) = ((i + 1 : Nat) : Int) := by rw [hnum]; exact wrap_id (by omega) (by omega)
      generalize l[i] = x at hx ht
      obtain ⟨k, n, s⟩ := x
      simp only [VV.v] at hx
      have hb : (intsF (List.take i l)).length + 1 ≤ 9223372036854775807 ∧ ((intsF (List.take i l)).length + 1) * 8 ≤ 140737488355328 := by omega
      by_cases hk : k = 1
      · have hk' := hk
        simp -dsimp only [thaw_sl, thaw_ol, growT_sl, vgrow_ol, ↓VWP_seq, ↓VWP_region, ↓VWP_cond, ↓VWP_skip, ↓VWP_block, ↓VReg_one, ↓VReg_non, ↓VReg_nil, ↓VS_move, ↓VS_assign, ↓VS_load, ↓VS_binOp, ↓VS_fieldAddr, ↓VS_indexAddr, ↓VS_buildSlice, ↓VS_store, ↓VS_append, ↓With_guard, ↓Hold_1, With_some, emap_nil, emap_cons, ↓eget_map, ↓eget_eset, ↓ae_tmp, ↓ae_int, asBool_bool, Option.map_some, Option.bind_some, ↓reduceIte, Nat.reduceEqDiff, decide_true, Bool.not_false, List.getElem?_cons_zero, List.getElem?_cons_succ, Nat.zero_add, Nat.add_zero, Nat.reduceAdd, Nat.reduceMul, Nat.reduceLT, Nat.reduceLeDiff, and_true, true_and, and_self, List.map_cons, List.map_nil, List.all_cons, List.all_nil, tup_int, cel_int, tup_str, tup_agg, cel_agg, List.toList_toArray, List.size_toArray, List.length_cons, List.length_nil, mapOwn_int, toksL_nil, toksL_cons, toks_int, toks_string, okv_int, okv_string, List.all_nil, List.all_cons, List.append_nil, List.map_nil, List.map_cons, Bool.and_self, Bool.not_false, List.mem_cons, List.not_mem_nil, or_false, Prod.mk.injEq, beq_self_eq_true, vnext_mk, vpush_mk, vget_nil, vput_nil, cellsIn_mk, vturn_nil, vthaw_one, boxesOf_nil, List.getD_cons_zero, List.set_cons_zero, List.length_cons, List.length_nil, getD_app0, set_app0, List.length_append, vload_at, aggV_agg, velems_own, partsOk_nil, partsOk_cons, vfill_nil, vfill_cons, vbin_int, ↓vlay_free, cellsOk_free, cellF, List.replicate_succ, List.replicate_zero, abin_eql, abin_lss, abin_add, beq_self_eq_true, Int.toNat_natCast, decide_true, beq_self_eq_true, setAll_whole, vgt48, vld3, vst48, ↓val48, vfp48_0, vfp48_1, vbd43, vis42, vap43, e6, e7, e8, e3, hlt, h0, hx, hk', List.length_map]
        exact ⟨⟨by omega, by omega⟩, l.length - (i + 1), by omega, i + 1, rfl, by omega, by rw [hwr], by rw [ht]; simp [hk, vI], _, rfl⟩
      · have hk' := hk
        simp -dsimp only [↓VWP_seq, ↓VWP_region, ↓VWP_cond, ↓VWP_skip, ↓VWP_block, ↓VReg_one, ↓VReg_non, ↓VReg_nil, ↓VS_move, ↓VS_load, ↓VS_binOp, ↓VS_fieldAddr, ↓VS_indexAddr, ↓VS_store, ↓Hold_1, With_some, emap_nil, ↓eget_eset, ↓ae_tmp, ↓ae_int, asBool_bool, Option.map_some, ↓reduceIte, Nat.reduceEqDiff, Bool.false_eq_true, decide_true, decide_false, Bool.not_false, List.getElem?_cons_zero, Nat.zero_add, Nat.add_zero, Nat.reduceAdd, Nat.reduceLeDiff, true_and, and_self, List.all_cons, List.all_nil, tup_int, tup_str, tup_agg, cel_agg, List.toList_toArray, List.size_toArray, List.length_cons, List.length_nil, toksL_nil, toksL_cons, toks_int, toks_string, okv_int, okv_string, List.all_nil, List.all_cons, List.append_nil, Bool.and_self, Bool.not_false, beq_self_eq_true, vnext_mk, vpush_mk, vget_nil, vput_nil, cellsIn_mk, List.getD_cons_zero, List.set_cons_zero, List.length_cons, List.length_nil, getD_app0, set_app0, List.length_append, vload_at, aggV_agg, vbin_int, ↓vlay_free, cellsOk_free, cellF, abin_eql, abin_lss, abin_add, beq_self_eq_true, Int.toNat_natCast, decide_true, decide_false, beq_self_eq_true, setAll_whole, ibeq, vgt48, vld3, vst48, ↓val48, vfp48_0, vis42, e6, e7, e8, e3, hlt, h0, hx, hk']
        exact ⟨l.length - (i + 1), by omega, i + 1, rfl, by omega, by rw [hwr], by rw [ht]; simp [hk], _, rfl⟩
    · obtain rfl : i = l.length := by omega
      have hlt : ¬ ((l.length : Int) < l.length) := by omega
      simp -dsimp only [okv_sl0, toks_ol, thawAll_ol, thaw_tok1, ↓VWP_seq, ↓VWP_region, ↓VWP_cond, ↓VWP_ret, ↓VWP_exit, ↓VReg_one, ↓VReg_nil, ↓VS_move, ↓VS_assign, ↓VS_binOp, ↓With_guard, ↓Hold_1, ↓Hold_3, With_some, emap_nil, ↓eget_eset, ↓ae_tmp, asBool_bool, ↓vfinish_ret, ↓vres_nil, ↓vres_tmp, vtell_eq, ret1, Option.map_some, Option.bind_some, ↓reduceIte, Nat.reduceEqDiff, Bool.false_eq_true, decide_false, and_self, List.toList_toArray, List.length_nil, Bool.true_and, vwrites_nil, List.length_nil, vbin_int, abin_lss, decide_false, Tryd.results93, e7, e8, e3, hlt, List.take_length]
end Go.Proofs.YtmdpggecelheoaaDoor.Abs
/- Right values, errors first, numbers. -/
set_option linter.unusedVariables false
set_option linter.unusedSimpArgs false
set_option maxRecDepth 4000
set_option maxHeartbeats 0
namespace Go.Proofs.YtmdpggecelheoaaDoor.Abs
open Go
attribute [local irreducible] Hold VReg Vf Vc VWP With VStp Vcallee Vp
theorem sempty {P : Program} {t : TypeId} {x y : Operand} {s : ByteArray} : abin P .eql t x y (.string s) (.string ⟨#[]⟩) = some (.bool (decide (s.size = 0))) := by
  rw [abin_seql, ByteArray.toList_eq, ByteArray.toList_eq]
  congr 2
  rw [Bool.eq_iff_iff]
  simp [← Array.size_eq_zero_iff]
def rightF (x : VV) : Bool :=
  if x.k = 0 then decide (x.n = 0) && decide (x.s.size = 0) else
  if x.k = 1 then decide (x.s.size = 0) else
  if x.k = 2 then decide (x.n = 0) && decide (x.s.size ≤ 200) else
  if x.k = 3 then (decide (x.n = 0) || decide (x.n = 1)) && decide (x.s.size = 0) else
  if x.k = 4 then (decide (1 ≤ x.n) && decide (x.n ≤ 7)) && decide (x.s.size = 0) else false
def eV (n : Int) : VV := ⟨4, n, .empty⟩
def iV (n : Int) : VV := ⟨1, n, .empty⟩
def bV (b : Bool) : VV := ⟨3, if b then 1 else 0, .empty⟩
theorem err_p {X : VOuter} (hX : X 51 = none) (n : Int) : Vp Tryd.prog X 51 [.int .i64 n] (eV n).v := by
  unfold Vp
  refine Vf_text hX Tryd.func51 rfl (by kernel_rfl) (by show 1 ≤ _; decide) ?_
  simp -dsimp only [↓VWP_seq, ↓VWP_region, ↓VWP_ret, ↓VReg_one, ↓VReg_non, ↓VReg_nil, ↓VS_move, ↓VS_build, ↓VS_store, ↓With_mapH, ↓With_bindH, ↓With_guard, ↓Hold_1, With_some, emap_nil, ↓eget_eset, ↓ae_tmp, ↓ae_int, eget_zero, ↓vfinish_ret, ↓vres_nil, ↓vres_cell, vtell_eq, ret1, Option.map_some, Option.bind_some, ↓reduceIte, Nat.reduceEqDiff, reduceCtorEq, decide_false, Bool.not_false, Nat.zero_add, Nat.add_zero, Nat.reduceAdd, Nat.reduceLT, Nat.reduceLeDiff, and_true, true_and, and_self, List.map_cons, List.map_nil, List.all_cons, List.all_nil, tup_int, cel_int, tup_str, tup_agg, cel_agg, Bool.and_true, List.drop_zero, List.toList_toArray, List.size_toArray, List.length_cons, List.length_nil, mapOwn_agg, mapOwn_int, mapOwn_string, toksL_nil, toksL_cons, toks_int, toks_string, toks_agg, okv_agg, okv_int, okv_string, List.flatMap_nil, List.flatMap_cons, List.all_nil, List.all_cons, List.append_nil, List.nil_append, List.map_nil, List.map_cons, Bool.and_true, Bool.and_self, Bool.true_and, Bool.not_false, beq_self_eq_true, vnext_mk, vpush_mk, vget_nil, vput_nil, cellsIn_mk, vthaw_nil, vwrites_nil, List.getD_cons_zero, List.set_cons_zero, List.set_cons_succ, List.length_cons, List.length_nil, List.drop_zero, List.take_succ_cons, List.take_zero, ↓vlay_free, cellsOk_free, cellF, beq_self_eq_true, decide_false, beq_self_eq_true, setAll_whole, afill, setAll, vld48, vst48, ↓val48, bd48, pl48_0, pl48_1, Tryd.results51]
  rfl
theorem err_c {X : VOuter} (hX : X 51 = none) (n : Int) {S : VH} {K : VCont} : Vcallee Tryd.prog X 51 [.int .i64 n] S K = K (.agg ⟨[.int .i64 4, .int .i64 n, .string .empty]⟩) [] S [] false := Vcallee_of (err_p hX n) rfl rfl rfl
theorem int_p {X : VOuter} (hX : X 92 = none) (n : Int) : Vp Tryd.prog X 92 [.int .i64 n] (iV n).v := by
  unfold Vp
  refine Vf_text hX Tryd.func92 rfl (by kernel_rfl) (by show 1 ≤ _; decide) ?_
  simp -dsimp only [↓VWP_seq, ↓VWP_region, ↓VWP_ret, ↓VReg_one, ↓VReg_non, ↓VReg_nil, ↓VS_move, ↓VS_build, ↓VS_store, ↓With_mapH, ↓With_bindH, ↓With_guard, ↓Hold_1, With_some, emap_nil, ↓eget_eset, ↓ae_tmp, ↓ae_int, eget_zero, ↓vfinish_ret, ↓vres_nil, ↓vres_cell, vtell_eq, ret1, Option.map_some, Option.bind_some, ↓reduceIte, Nat.reduceEqDiff, reduceCtorEq, decide_false, Bool.not_false, Nat.zero_add, Nat.add_zero, Nat.reduceAdd, Nat.reduceLT, Nat.reduceLeDiff, and_true, true_and, and_self, List.map_cons, List.map_nil, List.all_cons, List.all_nil, tup_int, cel_int, tup_str, tup_agg, cel_agg, Bool.and_true, List.drop_zero, List.toList_toArray, List.size_toArray, List.length_cons, List.length_nil, mapOwn_agg, mapOwn_int, mapOwn_string, toksL_nil, toksL_cons, toks_int, toks_string, toks_agg, okv_agg, okv_int, okv_string, List.flatMap_nil, List.flatMap_cons, List.all_nil, List.all_cons, List.append_nil, List.nil_append, List.map_nil, List.map_cons, Bool.and_true, Bool.and_self, Bool.true_and, Bool.not_false, beq_self_eq_true, vnext_mk, vpush_mk, vget_nil, vput_nil, cellsIn_mk, vthaw_nil, vwrites_nil, List.getD_cons_zero, List.set_cons_zero, List.set_cons_succ, List.length_cons, List.length_nil, List.drop_zero, List.take_succ_cons, List.take_zero, ↓vlay_free, cellsOk_free, cellF, beq_self_eq_true, decide_false, beq_self_eq_true, setAll_whole, afill, setAll, vld48, vst48, ↓val48, bd48, pl48_0, pl48_1, Tryd.results92]
  rfl
theorem int_c {X : VOuter} (hX : X 92 = none) (n : Int) {S : VH} {K : VCont} : Vcallee Tryd.prog X 92 [.int .i64 n] S K = K (.agg ⟨[.int .i64 1, .int .i64 n, .string .empty]⟩) [] S [] false := Vcallee_of (int_p hX n) rfl rfl rfl
theorem valright_p {X : VOuter} (hX : X 53 = none) (k n : Int) (s : ByteArray) : Vp Tryd.prog X 53 [.agg ⟨[.int .i64 k, .int .i64 n, .string s]⟩] (.bool (rightF ⟨k, n, s⟩)) := by
  unfold Vp
  refine Vf_text hX Tryd.func53 rfl (by kernel_rfl) (by show 1 ≤ _; decide) ?_
  have hl : ((s.size : Int) ≤ 200) ↔ s.size ≤ 200 := by omega
  unfold rightF
  by_cases k0 : k = 0
  · subst k0
    by_cases h1 : n = 0 <;> by_cases h2 : s.size = 0 <;> simp -dsimp only [↓VWP_seq, ↓VWP_region, ↓VWP_cond, ↓VWP_ret, ↓VWP_block, ↓VReg_one, ↓VReg_nil, ↓VS_guard, ↓VS_move, ↓VS_assign, ↓VS_pick, ↓VS_load, ↓VS_binOp, ↓VS_fieldAddr, ↓VS_box, ↓With_guard, ↓Hold_1, With_some, emap_nil, ↓eget_eset, ↓ae_tmp, ↓ae_int, ↓ae_bool, ↓ae_string, eget_zero, lop_pick, asBool_bool, asGuard_bool, bb_ft, ayielded_eq, ↓dstAt_zero, ↓dstAt_succ, ↓vfinish_ret, ↓vres_nil, ↓vres_tmp, vtell_eq, ret1, Option.map_some, Option.bind_some, ↓reduceIte, Nat.reduceEqDiff, Bool.false_eq_true, decide_true, decide_false, Bool.not_false, List.getElem?_cons_zero, List.getElem?_cons_succ, Nat.zero_add, Nat.add_zero, and_self, List.all_cons, List.all_nil, tup_int, tup_str, tup_agg, cel_agg, Bool.and_true, List.toList_toArray, List.length_nil, mapOwn_bool, toksL_nil, toksL_cons, toks_int, toks_bool, toks_string, okv_bool, okv_int, okv_string, List.all_nil, List.all_cons, List.append_nil, List.nil_append, Bool.and_true, Bool.and_false, Bool.and_self, Bool.not_false, beq_self_eq_true, vnext_mk, vpush_mk, vget_nil, cellsIn_mk, vthaw_nil, vwrites_nil, List.getD_cons_zero, List.length_nil, vbin_int, vbin_string, ↓vbox_free, cellsOk_free, cellF, abin_eql, beq_self_eq_true, decide_true, decide_false, beq_self_eq_true, bb_ft, ibeq, vld3, vld9, vfp48_0, vfp48_1, vfp48_2, Tryd.results53, sempty, h1, h2]
  · by_cases k1 : k = 1
    · subst k1
      by_cases h2 : s.size = 0 <;> simp -dsimp only [↓VWP_seq, ↓VWP_region, ↓VWP_cond, ↓VWP_ret, ↓VWP_block, ↓VReg_one, ↓VReg_nil, ↓VS_assign, ↓VS_load, ↓VS_binOp, ↓VS_fieldAddr, ↓VS_box, ↓With_guard, ↓Hold_1, With_some, emap_nil, ↓eget_eset, ↓ae_tmp, ↓ae_int, ↓ae_bool, ↓ae_string, eget_zero, asBool_bool, ↓vfinish_ret, ↓vres_nil, ↓vres_tmp, vtell_eq, ret1, Option.map_some, Option.bind_some, ↓reduceIte, Nat.reduceEqDiff, Bool.false_eq_true, decide_true, decide_false, Bool.not_false, List.getElem?_cons_zero, List.getElem?_cons_succ, Nat.zero_add, Nat.add_zero, and_self, List.all_cons, List.all_nil, tup_int, tup_str, tup_agg, cel_agg, List.toList_toArray, List.length_nil, mapOwn_bool, toksL_nil, toksL_cons, toks_int, toks_bool, toks_string, okv_bool, okv_int, okv_string, List.all_nil, List.all_cons, List.append_nil, List.nil_append, Bool.and_self, Bool.not_false, beq_self_eq_true, vnext_mk, vpush_mk, vget_nil, cellsIn_mk, vthaw_nil, vwrites_nil, List.getD_cons_zero, List.length_nil, vbin_int, vbin_string, ↓vbox_free, cellsOk_free, cellF, abin_eql, beq_self_eq_true, decide_true, decide_false, beq_self_eq_true, ibeq, vld3, vld9, vfp48_0, vfp48_2, Tryd.results53, sempty, h2, k0]
    · by_cases k2 : k = 2
      · subst k2
        by_cases h1 : n = 0 <;> by_cases h2 : s.size ≤ 200 <;> simp -dsimp only [↓VWP_seq, ↓VWP_region, ↓VWP_cond, ↓VWP_ret, ↓VWP_block, ↓VReg_one, ↓VReg_nil, ↓VS_guard, ↓VS_move, ↓VS_assign, ↓VS_pick, ↓VS_load, ↓VS_binOp, ↓VS_fieldAddr, ↓VS_len, ↓VS_box, ↓With_guard, ↓Hold_1, With_some, emap_nil, ↓eget_eset, ↓ae_tmp, ↓ae_int, ↓ae_bool, eget_zero, lop_pick, asBool_bool, asGuard_bool, bb_ft, ayielded_eq, ↓dstAt_zero, ↓dstAt_succ, ↓vfinish_ret, ↓vres_nil, ↓vres_tmp, vtell_eq, ret1, Option.map_some, Option.bind_some, ↓reduceIte, Nat.reduceEqDiff, Bool.false_eq_true, decide_true, decide_false, Bool.not_false, List.getElem?_cons_zero, List.getElem?_cons_succ, Nat.zero_add, Nat.add_zero, and_self, List.all_cons, List.all_nil, tup_int, tup_str, tup_agg, cel_agg, Bool.and_true, List.toList_toArray, List.length_nil, mapOwn_bool, toksL_nil, toksL_cons, toks_int, toks_bool, toks_string, okv_bool, okv_int, okv_string, List.all_nil, List.all_cons, List.append_nil, List.nil_append, Bool.and_true, Bool.and_false, Bool.and_self, Bool.not_false, beq_self_eq_true, vnext_mk, vpush_mk, vget_nil, cellsIn_mk, vthaw_nil, vwrites_nil, List.getD_cons_zero, List.length_nil, vbin_int, ↓vbox_free, cellsOk_free, cellF, abin_eql, abin_leq, beq_self_eq_true, decide_true, decide_false, beq_self_eq_true, bb_ft, ibeq, vld3, vld9, vfp48_0, vfp48_1, vfp48_2, vlr9, Tryd.results53, h1, h2, hl, k0, k1]
      · by_cases k3 : k = 3
        · subst k3
          by_cases h1 : n = 0 <;> by_cases h3 : n = 1 <;> by_cases h2 : s.size = 0 <;> simp -dsimp only [↓VWP_seq, ↓VWP_region, ↓VWP_cond, ↓VWP_ret, ↓VWP_block, ↓VReg_one, ↓VReg_nil, ↓VS_guard, ↓VS_move, ↓VS_assign, ↓VS_pick, ↓VS_load, ↓VS_binOp, ↓VS_fieldAddr, ↓VS_box, ↓With_guard, ↓Hold_1, With_some, emap_nil, ↓eget_eset, ↓ae_tmp, ↓ae_int, ↓ae_bool, ↓ae_string, eget_zero, lop_pick, asBool_bool, asGuard_bool, bb_ft, bb_tf, ayielded_eq, ↓dstAt_zero, ↓dstAt_succ, ↓vfinish_ret, ↓vres_nil, ↓vres_tmp, vtell_eq, ret1, Option.map_some, Option.bind_some, ↓reduceIte, Nat.reduceEqDiff, Bool.false_eq_true, decide_true, decide_false, Bool.not_false, List.getElem?_cons_zero, List.getElem?_cons_succ, Nat.zero_add, Nat.add_zero, and_self, List.all_cons, List.all_nil, tup_int, tup_str, tup_agg, cel_agg, Bool.and_true, List.toList_toArray, List.length_nil, mapOwn_bool, toksL_nil, toksL_cons, toks_int, toks_bool, toks_string, okv_bool, okv_int, okv_string, List.all_nil, List.all_cons, List.append_nil, List.nil_append, Bool.and_true, Bool.and_false, Bool.and_self, Bool.not_false, Bool.false_or, Bool.or_false, beq_self_eq_true, vnext_mk, vpush_mk, vget_nil, cellsIn_mk, vthaw_nil, vwrites_nil, List.getD_cons_zero, List.length_nil, vbin_int, vbin_string, ↓vbox_free, cellsOk_free, cellF, abin_eql, beq_self_eq_true, decide_true, decide_false, beq_self_eq_true, bb_ft, bb_tf, ibeq, Int.reduceEq, vld3, vld9, vfp48_0, vfp48_1, vfp48_2, Tryd.results53, sempty, h1, h2, h3, k0, k1, k2]
        · by_cases k4 : k = 4
          · subst k4
            by_cases h1 : 1 ≤ n <;> by_cases h3 : n ≤ 7 <;> by_cases h2 : s.size = 0 <;> simp -dsimp only [↓VWP_seq, ↓VWP_region, ↓VWP_cond, ↓VWP_ret, ↓VWP_block, ↓VReg_one, ↓VReg_nil, ↓VS_guard, ↓VS_move, ↓VS_assign, ↓VS_pick, ↓VS_load, ↓VS_binOp, ↓VS_fieldAddr, ↓VS_box, ↓With_guard, ↓Hold_1, With_some, emap_nil, ↓eget_eset, ↓ae_tmp, ↓ae_int, ↓ae_bool, ↓ae_string, eget_zero, lop_pick, asBool_bool, asGuard_bool, bb_ft, ayielded_eq, ↓dstAt_zero, ↓dstAt_succ, ↓vfinish_ret, ↓vres_nil, ↓vres_tmp, vtell_eq, ret1, Option.map_some, Option.bind_some, ↓reduceIte, Nat.reduceEqDiff, Bool.false_eq_true, decide_true, decide_false, Bool.not_false, List.getElem?_cons_zero, List.getElem?_cons_succ, Nat.zero_add, Nat.add_zero, and_self, List.all_cons, List.all_nil, tup_int, tup_str, tup_agg, cel_agg, Bool.and_true, List.toList_toArray, List.length_nil, mapOwn_bool, toksL_nil, toksL_cons, toks_int, toks_bool, toks_string, okv_bool, okv_int, okv_string, List.all_nil, List.all_cons, List.append_nil, List.nil_append, Bool.and_true, Bool.and_false, Bool.and_self, Bool.not_false, beq_self_eq_true, vnext_mk, vpush_mk, vget_nil, cellsIn_mk, vthaw_nil, vwrites_nil, List.getD_cons_zero, List.length_nil, vbin_int, vbin_string, ↓vbox_free, cellsOk_free, cellF, abin_eql, abin_leq, abin_geq, beq_self_eq_true, ge_iff_le, decide_true, decide_false, beq_self_eq_true, bb_ft, ibeq, vld3, vld9, vfp48_0, vfp48_1, vfp48_2, Tryd.results53, sempty, h1, h2, h3, k0, k1, k2, k3]
          · simp -dsimp only [↓VWP_seq, ↓VWP_region, ↓VWP_cond, ↓VWP_ret, ↓VWP_skip, ↓VWP_block, ↓VReg_one, ↓VReg_nil, ↓VS_assign, ↓VS_load, ↓VS_binOp, ↓VS_fieldAddr, ↓VS_box, ↓With_guard, ↓Hold_1, With_some, emap_nil, ↓eget_eset, ↓ae_tmp, ↓ae_int, ↓ae_bool, eget_zero, asBool_bool, ↓vfinish_ret, ↓vres_nil, ↓vres_tmp, vtell_eq, ret1, Option.map_some, Option.bind_some, ↓reduceIte, Nat.reduceEqDiff, Bool.false_eq_true, decide_false, Bool.not_false, List.getElem?_cons_zero, Nat.add_zero, and_self, List.all_cons, List.all_nil, tup_int, tup_str, tup_agg, cel_agg, List.toList_toArray, List.length_nil, mapOwn_bool, toksL_nil, toksL_cons, toks_int, toks_bool, toks_string, okv_bool, okv_int, okv_string, List.all_nil, List.all_cons, List.append_nil, List.nil_append, Bool.and_self, Bool.not_false, beq_self_eq_true, vnext_mk, vpush_mk, vget_nil, cellsIn_mk, vthaw_nil, vwrites_nil, List.getD_cons_zero, List.length_nil, vbin_int, ↓vbox_free, cellsOk_free, cellF, abin_eql, beq_self_eq_true, decide_false, beq_self_eq_true, ibeq, vld3, vfp48_0, Tryd.results53, k0, k1, k2, k3, k4]
end Go.Proofs.YtmdpggecelheoaaDoor.Abs
/- Errors first. -/
set_option linter.unusedVariables false
set_option linter.unusedSimpArgs false
set_option maxRecDepth 4000
set_option maxHeartbeats 0
namespace Go.Proofs.YtmdpggecelheoaaDoor.Abs
open Go
attribute [local irreducible] Hold VReg Vf Vc VWP With VStp Vcallee Vp
def zV : VV := ⟨0, 0, .empty⟩
def firstF (l : List VV) : VV × Bool :=
  if l.all rightF then (match l.find? (fun x => decide (x.k = 4)) with | some x => (x, true) | none => (zV, false)) else (eV 3, true)
theorem valright_c {X : VOuter} (hX : X 53 = none) (k n : Int) (s : ByteArray) {S : VH} {K : VCont} : Vcallee Tryd.prog X 53 [.agg ⟨[.int .i64 k, .int .i64 n, .string s]⟩] S K = K (.bool (rightF ⟨k, n, s⟩)) [] S [] false := Vcallee_of (valright_p hX k n s) rfl rfl rfl
theorem all_take (p : VV → Bool) (l : List VV) (i : Nat) (h : i < l.length) : (l.take (i + 1)).all p = ((l.take i).all p && p l[i]) := by
  rw [← List.take_append_getElem h, List.all_append]
  simp
theorem all_bad (p : VV → Bool) (l : List VV) (i : Nat) (h : i < l.length) (hp : p l[i] = false) : l.all p = false := by
  rw [List.all_eq_false]
  exact ⟨l[i], List.getElem_mem h, by simp [hp]⟩
theorem find_at (p : VV → Bool) (l : List VV) (i : Nat) (h : i < l.length) (hb : (l.take i).all (fun x => !p x) = true) (hp : p l[i] = true) : l.find? p = some l[i] := by
  have e : l = l.take i ++ l[i] :: l.drop (i + 1) := by simp
  have h1 : (l.take i).find? p = none := by
    rw [List.find?_eq_none]
    intro x hx
    have := List.all_eq_true.1 hb x hx
    simpa using this
  have h2 : (l.take i ++ l[i] :: l.drop (i + 1)).find? p = some l[i] := by
    rw [List.find?_append, h1, List.find?_cons_of_pos hp]
    rfl
  rwa [← e] at h2
theorem find_no (p : VV → Bool) (l : List VV) (hb : l.all (fun x => !p x) = true) : l.find? p = none := by
  rw [List.find?_eq_none]
  intro x hx
  have := List.all_eq_true.1 hb x hx
  simpa using this
theorem first_p {X : VOuter} (hX : X 54 = none) (hX1 : X 53 = none) (hX2 : X 51 = none) (c : Bool) (d : Nat) (l : List VV) (hl : l.length ≤ 1000000000) : Vp Tryd.prog X 54 [sl c d 3 (l.map VV.v)] (.tuple ⟨[(firstF l).1.v, .bool (firstF l).2]⟩) := by
  unfold Vp
  refine Vf_text hX Tryd.func54 rfl (by kernel_rfl) (by show 1 ≤ _; decide) ?_
  simp -dsimp only [↓VWP_seq, ↓VWP_region, ↓VWP_block, ↓VWP_loop, ↓VReg_one, ↓VReg_nil, ↓VS_move, ↓VS_assign, ↓VS_len, ↓Hold_1, With_some, emap_nil, ↓eget_eset, ↓ae_tmp, ↓ae_int, ↓ae_bool, eget_zero, ↓reduceIte, reduceCtorEq, Nat.add_zero, List.length_nil, List.nil_append, vnext_mk, vpush_mk, List.length_nil, ↓val48, vls42, List.length_map]
  refine Vc_loop (fun m e S => ∃ i : Nat, m = l.length - i ∧ i ≤ l.length ∧ eget e 8 = sl c d 3 (l.map VV.v) ∧ eget e 0 = sl c d 3 (l.map VV.v) ∧ eget e 9 = .int .i64 l.length ∧ eget e 10 = .int .i64 i ∧ eget e 2 = .pointer (some { block := 0, off := 0 }) ∧ (l.take i).all rightF = true ∧ ∃ J, S = ⟨[], .cells true 48 [.int .i64 0, .int .i64 0, .string .empty] :: J, []⟩) l.length ?_ ?_
  · refine ⟨0, rfl, Nat.zero_le _, ?_, ?_, ?_, ?_, ?_, rfl, [], rfl⟩ <;> simp only [↓eget_eset, eget_zero, ↓reduceIte, Nat.reduceEqDiff, reduceCtorEq] <;> rfl
  · rintro m e S ⟨i, rfl, hi, e8, e0, e9, e10, e2, hall, J, rfl⟩
    refine VWP_Vc _ _ _ _ ?_
    by_cases hin : i < l.length
    · have hlt : (i : Int) < l.length := by omega
      have h0 : (0 : Int) ≤ i := by omega
      have hx : (l.map VV.v)[i]? = some l[i].v := by simp [hin]
      have ht := all_take rightF l i hin
      have hbad := all_bad rightF l i hin
      have hnum : ((i : Int) + 1) = ((i + 1 : Nat) : Int) := by omega
      have hwr : IntKind.i64.wrap ((i : Int) + 1) = ((i + 1 : Nat) : Int) := by rw [hnum]; exact wrap_id (by omega) (by omega)
      generalize l[i] = x at hx ht hbad
      obtain ⟨k, n, s⟩ := x
      simp only [VV.v] at hx
      by_cases hr : rightF ⟨k, n, s⟩ = true
      · simp -dsimp only [↓Hold_5, ↓VWP_seq, ↓VWP_region, ↓VWP_cond, ↓VWP_skip, ↓VWP_block, ↓VReg_one, ↓VReg_non, ↓VReg_nil, ↓VS_move, ↓VS_load, ↓VS_binOp, ↓VS_unOp, ↓VS_indexAddr, ↓VS_store, ↓Hold_1, With_some, emap_nil, ↓eget_eset, ↓ae_tmp, ↓ae_int, lop_not, asBool_bool, Option.map_some, ↓reduceIte, Nat.reduceEqDiff, reduceCtorEq, Bool.false_eq_true, decide_true, Bool.not_true, Bool.not_false, Nat.zero_add, Nat.reduceAdd, Nat.reduceLeDiff, true_and, and_self, List.map_cons, List.map_nil, List.all_cons, List.all_nil, tup_int, tup_str, tup_agg, cel_agg, List.drop_zero, List.toList_toArray, List.size_toArray, List.length_cons, List.length_nil, toksL_nil, toksL_cons, toks_int, toks_string, okv_int, okv_string, List.all_nil, List.all_cons, List.append_nil, List.cons_append, List.map_nil, List.map_cons, Bool.and_self, Bool.not_true, Bool.not_false, beq_self_eq_true, vnext_mk, vpush_mk, vget_nil, vput_nil, cellsIn_mk, List.getD_cons_zero, List.getD_cons_succ, List.set_cons_zero, List.set_cons_succ, List.length_cons, List.length_nil, List.drop_zero, List.take_succ_cons, List.take_zero, getD_app0, set_app0, List.length_append, vload_at, aggV_agg, vbin_int, ↓vlay_free, cellsOk_free, cellF, abin_lss, abin_add, beq_self_eq_true, Int.toNat_natCast, decide_true, beq_self_eq_true, setAll_whole, vld48, vgt48, vst48, ↓val48, vis42, ↓vfk53, e8, e9, e10, e0, e2, hlt, h0, hx, hr, ↓valright_c hX1]
        exact ⟨l.length - (i + 1), by omega, i + 1, rfl, by omega, by rw [hwr], by rw [ht, hall, hr]; rfl, _, rfl⟩
      · have hr' : rightF ⟨k, n, s⟩ = false := by simpa using hr
        simp -dsimp only [↓Hold_5, ↓VWP_seq, ↓VWP_region, ↓VWP_cond, ↓VWP_ret, ↓VWP_skip, ↓VWP_block, ↓VReg_one, ↓VReg_non, ↓VReg_nil, ↓VS_assign, ↓VS_load, ↓VS_binOp, ↓VS_unOp, ↓VS_indexAddr, ↓VS_store, ↓With_bindH, ↓With_guard, ↓Hold_1, ↓Hold_3, With_some, emap_nil, ↓eget_eset, ↓ae_tmp, ↓ae_int, ↓ae_bool, lop_not, asBool_bool, ↓vfinish_ret, ↓vres_nil, ↓vres_tmp, ↓vres_cell, vtell_eq, ret1, Option.map_some, ↓reduceIte, Nat.reduceEqDiff, decide_true, decide_false, Bool.not_false, Nat.zero_add, Nat.reduceAdd, Nat.reduceLT, Nat.reduceLeDiff, true_and, and_self, List.map_cons, List.map_nil, List.all_cons, List.all_nil, tup_int, tup_str, tup_agg, cel_agg, List.drop_zero, List.toList_toArray, List.size_toArray, List.length_cons, List.length_nil, mapOwn_agg, mapOwn_tuple, mapOwn_bool, mapOwn_int, mapOwn_string, toksL_nil, toksL_cons, toks_int, toks_bool, toks_string, toks_agg, toks_tuple, okv_agg, okv_tuple, okv_bool, okv_int, okv_string, List.flatMap_nil, List.flatMap_cons, List.all_nil, List.all_cons, List.append_nil, List.cons_append, List.map_nil, List.map_cons, Bool.and_self, Bool.not_false, beq_self_eq_true, vnext_mk, vpush_mk, vget_nil, vput_nil, cellsIn_mk, vthaw_nil, vwrites_nil, List.getD_cons_zero, List.getD_cons_succ, List.set_cons_zero, List.set_cons_succ, List.length_cons, List.length_nil, List.drop_zero, List.take_succ_cons, List.take_zero, getD_app0, set_app0, List.length_append, vload_at, aggV_agg, vbin_int, ↓vlay_free, cellsOk_free, cellF, abin_lss, beq_self_eq_true, Int.toNat_natCast, decide_true, decide_false, beq_self_eq_true, setAll_whole, vld48, vgt48, vst48, ↓val48, vis42, ↓vfk53, ↓vfk51, Tryd.results54, e8, e9, e10, e2, hlt, h0, hx, hr', ↓valright_c hX1, ↓err_c hX2]
        simp [firstF, hbad hr', eV, VV.v]
    · obtain rfl : i = l.length := by omega
      have hlt : ¬ ((l.length : Int) < l.length) := by omega
      simp -dsimp only [↓VWP_seq, ↓VWP_region, ↓VWP_cond, ↓VWP_block, ↓VWP_exit, ↓VWP_loop, ↓VReg_one, ↓VReg_nil, ↓VS_move, ↓VS_binOp, ↓VS_len, ↓Hold_1, ↓Hold_3, With_some, emap_nil, ↓eget_eset, ↓ae_tmp, ↓ae_int, asBool_bool, ↓reduceIte, reduceCtorEq, Bool.false_eq_true, decide_false, vbin_int, abin_lss, decide_false, vls42, e9, e10, e0, hlt, List.length_map]
      refine Vc_loop (fun m e S => ∃ i : Nat, m = l.length - i ∧ i ≤ l.length ∧ eget e 19 = sl c d 3 (l.map VV.v) ∧ eget e 20 = .int .i64 l.length ∧ eget e 21 = .int .i64 i ∧ eget e 2 = .pointer (some { block := 0, off := 0 }) ∧ (l.take i).all (fun x => !(decide (x.k = 4))) = true ∧ ∃ J, S = ⟨[], .cells true 48 [.int .i64 0, .int .i64 0, .string .empty] :: J, []⟩) l.length ?_ ?_
      · refine ⟨0, rfl, Nat.zero_le _, ?_, ?_, ?_, ?_, rfl, _, rfl⟩ <;> simp only [↓eget_eset, ↓reduceIte, Nat.reduceEqDiff, e2] <;> rfl
      · rintro m e S ⟨i, rfl, hi, e19, e20, e21, e2, hnone, J, rfl⟩
        rw [List.take_length] at hall
        refine VWP_Vc _ _ _ _ ?_
        by_cases hin : i < l.length
        · have hlt : (i : Int) < l.length := by omega
          have h0 : (0 : Int) ≤ i := by omega
          have hx : (l.map VV.v)[i]? = some l[i].v := by simp [hin]
          have ht := all_take (fun x => !(decide (x.k = 4))) l i hin
          have hat := find_at (fun x => decide (x.k = 4)) l i hin hnone
          have hnum : ((i : Int) + 1) = ((i + 1 : Nat) : Int) := by omega
          have hwr : IntKind.i64.wrap ((i : Int) + 1) = ((i + 1 : Nat) : Int) := by rw [hnum]; exact wrap_id (by omega) (by omega)
          generalize l[i] = x at hx ht hat
          obtain ⟨k, n, s⟩ := x
          simp only [VV.v] at hx
          by_cases hr : k = 4
          · simp -dsimp only [↓VWP_seq, ↓VWP_region, ↓VWP_cond, ↓VWP_ret, ↓VWP_skip, ↓VWP_block, ↓VReg_one, ↓VReg_non, ↓VReg_nil, ↓VS_assign, ↓VS_load, ↓VS_binOp, ↓VS_fieldAddr, ↓VS_indexAddr, ↓VS_store, ↓With_bindH, ↓With_guard, ↓Hold_1, ↓Hold_3, With_some, emap_nil, ↓eget_eset, ↓ae_tmp, ↓ae_int, ↓ae_bool, asBool_bool, ↓vfinish_ret, ↓vres_nil, ↓vres_tmp, ↓vres_cell, vtell_eq, ret1, Option.map_some, ↓reduceIte, Nat.reduceEqDiff, decide_true, decide_false, Bool.not_false, List.getElem?_cons_zero, Nat.zero_add, Nat.add_zero, Nat.reduceAdd, Nat.reduceLT, Nat.reduceLeDiff, true_and, and_self, List.map_cons, List.map_nil, List.all_cons, List.all_nil, tup_int, tup_str, tup_agg, cel_agg, List.drop_zero, List.toList_toArray, List.size_toArray, List.length_cons, List.length_nil, mapOwn_agg, mapOwn_tuple, mapOwn_bool, mapOwn_int, mapOwn_string, toksL_nil, toksL_cons, toks_int, toks_bool, toks_string, toks_agg, toks_tuple, okv_agg, okv_tuple, okv_bool, okv_int, okv_string, List.flatMap_nil, List.flatMap_cons, List.all_nil, List.all_cons, List.append_nil, List.cons_append, List.map_nil, List.map_cons, Bool.and_self, Bool.not_false, beq_self_eq_true, vnext_mk, vpush_mk, vget_nil, vput_nil, cellsIn_mk, vthaw_nil, vwrites_nil, List.getD_cons_zero, List.getD_cons_succ, List.set_cons_zero, List.set_cons_succ, List.length_cons, List.length_nil, List.drop_zero, List.take_succ_cons, List.take_zero, getD_app0, set_app0, List.length_append, vload_at, aggV_agg, vbin_int, ↓vlay_free, cellsOk_free, cellF, abin_eql, abin_lss, beq_self_eq_true, Int.toNat_natCast, decide_true, decide_false, beq_self_eq_true, setAll_whole, vld48, vgt48, vld3, vst48, ↓val48, vfp48_0, vis42, Tryd.results54, e19, e20, e21, e2, hlt, h0, hx, hr]
            simp [firstF, hall, hat (by simpa using hr), VV.v, hr]
          · simp -dsimp only [↓VWP_seq, ↓VWP_region, ↓VWP_cond, ↓VWP_skip, ↓VWP_block, ↓VReg_one, ↓VReg_non, ↓VReg_nil, ↓VS_move, ↓VS_load, ↓VS_binOp, ↓VS_fieldAddr, ↓VS_indexAddr, ↓VS_store, ↓Hold_1, With_some, emap_nil, ↓eget_eset, ↓ae_tmp, ↓ae_int, asBool_bool, Option.map_some, ↓reduceIte, Nat.reduceEqDiff, Bool.false_eq_true, decide_true, decide_false, Bool.not_false, List.getElem?_cons_zero, Nat.zero_add, Nat.add_zero, Nat.reduceAdd, Nat.reduceLeDiff, true_and, and_self, List.all_cons, List.all_nil, tup_int, tup_str, tup_agg, cel_agg, List.toList_toArray, List.size_toArray, List.length_cons, List.length_nil, toksL_nil, toksL_cons, toks_int, toks_string, okv_int, okv_string, List.all_nil, List.all_cons, List.append_nil, List.cons_append, Bool.and_self, Bool.not_false, beq_self_eq_true, vnext_mk, vpush_mk, vget_nil, vput_nil, cellsIn_mk, List.getD_cons_zero, List.getD_cons_succ, List.set_cons_zero, List.set_cons_succ, List.length_cons, List.length_nil, getD_app0, set_app0, List.length_append, vload_at, aggV_agg, vbin_int, ↓vlay_free, cellsOk_free, cellF, abin_eql, abin_lss, abin_add, beq_self_eq_true, Int.toNat_natCast, decide_true, decide_false, beq_self_eq_true, setAll_whole, ibeq, vgt48, vld3, vst48, ↓val48, vfp48_0, vis42, e19, e20, e21, e2, hlt, h0, hx, hr]
            exact ⟨l.length - (i + 1), by omega, i + 1, rfl, by omega, by rw [hwr], by rw [ht, hnone]; simp [hr], _, rfl⟩
        · obtain rfl : i = l.length := by omega
          have hlt : ¬ ((l.length : Int) < l.length) := by omega
          simp -dsimp only [↓VWP_seq, ↓VWP_region, ↓VWP_cond, ↓VWP_ret, ↓VWP_exit, ↓VReg_one, ↓VReg_non, ↓VReg_nil, ↓VS_assign, ↓VS_build, ↓VS_binOp, ↓VS_store, ↓With_bindH, ↓With_guard, ↓Hold_1, ↓Hold_3, With_some, emap_nil, ↓eget_eset, ↓ae_tmp, ↓ae_bool, asBool_bool, ↓vfinish_ret, ↓vres_nil, ↓vres_tmp, ↓vres_cell, vtell_eq, ret1, Option.map_some, ↓reduceIte, Nat.reduceEqDiff, Bool.false_eq_true, decide_false, Bool.not_false, Nat.zero_add, Nat.reduceAdd, Nat.reduceLT, Nat.reduceLeDiff, true_and, and_self, List.map_cons, List.map_nil, List.all_cons, List.all_nil, tup_int, tup_str, tup_agg, cel_agg, List.drop_zero, List.toList_toArray, List.size_toArray, List.length_cons, List.length_nil, mapOwn_agg, mapOwn_tuple, mapOwn_bool, mapOwn_int, mapOwn_string, toksL_nil, toksL_cons, toks_int, toks_bool, toks_string, toks_agg, toks_tuple, okv_agg, okv_tuple, okv_bool, okv_int, okv_string, List.flatMap_nil, List.flatMap_cons, List.all_nil, List.all_cons, List.append_nil, List.map_nil, List.map_cons, Bool.and_self, Bool.not_false, beq_self_eq_true, vnext_mk, vget_nil, vput_nil, cellsIn_mk, vthaw_nil, vwrites_nil, List.getD_cons_zero, List.set_cons_zero, List.length_cons, List.length_nil, List.drop_zero, List.take_succ_cons, List.take_zero, vbin_int, ↓vlay_free, cellsOk_free, cellF, abin_lss, beq_self_eq_true, decide_false, beq_self_eq_true, setAll_whole, afill, vld48, vst48, bd48, Tryd.results54, e20, e21, e2, hlt]
          rw [List.take_length] at hnone
          simp [firstF, hall, find_no _ l hnone, zV, VV.v]
end Go.Proofs.YtmdpggecelheoaaDoor.Abs
/- Numbers out of values. -/
set_option linter.unusedVariables false
set_option linter.unusedSimpArgs false
set_option maxRecDepth 4000
set_option maxHeartbeats 0
namespace Go.Proofs.YtmdpggecelheoaaDoor.Abs
open Go
attribute [local irreducible] Hold VReg Vf Vc VWP With VStp Vcallee Vp VE
def numF (x : VV) : Int × VV × Bool :=
  if rightF x then (if x.k = 4 then (0, x, false) else if x.k = 1 ∨ x.k = 0 then (x.n, zV, true) else (0, eV 3, false)) else (0, eV 3, false)
theorem number_p {X : VOuter} (hX : X 146 = none) (hX1 : X 53 = none) (hX2 : X 51 = none) (k n : Int) (s : ByteArray) : Vp Tryd.prog X 146 [.agg ⟨[.int .i64 k, .int .i64 n, .string s]⟩] (.tuple ⟨[.int .i64 (numF ⟨k, n, s⟩).1, (numF ⟨k, n, s⟩).2.1.v, .bool (numF ⟨k, n, s⟩).2.2]⟩) := by
  unfold Vp
  refine Vf_text hX Tryd.func146 rfl (by kernel_rfl) (by show 1 ≤ _; decide) ?_
  by_cases hr : rightF ⟨k, n, s⟩ = true
  · by_cases k4 : k = 4
    · subst k4
      simp -dsimp only [↓Hold_5, ↓VWP_seq, ↓VWP_region, ↓VWP_cond, ↓VWP_block, ↓VWP_open, ↓VReg_one, ↓VReg_nil, ↓VS_assign, ↓VS_load, ↓VS_binOp, ↓VS_unOp, ↓VS_fieldAddr, ↓VS_box, ↓Hold_1, With_some, emap_nil, ↓eget_eset, ↓ae_tmp, ↓ae_int, ↓ae_bool, eget_zero, lop_not, asBool_bool, ↓reduceIte, Nat.reduceEqDiff, Bool.false_eq_true, Bool.not_true, Bool.not_false, List.getElem?_cons_zero, Nat.zero_add, Nat.add_zero, Nat.reduceAdd, Nat.reduceLeDiff, true_and, List.map_cons, List.map_nil, List.all_cons, List.all_nil, tup_int, tup_str, tup_agg, cel_agg, List.drop_zero, List.toList_toArray, List.length_cons, List.length_nil, toksL_nil, toksL_cons, toks_int, toks_string, okv_int, okv_string, List.all_nil, List.all_cons, List.append_nil, List.nil_append, List.cons_append, List.map_nil, List.map_cons, Bool.and_self, Bool.not_true, Bool.not_false, beq_self_eq_true, vnext_mk, vpush_mk, vget_nil, cellsIn_mk, List.getD_cons_zero, List.length_cons, List.length_nil, List.drop_zero, List.take_succ_cons, List.take_zero, vbin_int, ↓vbox_free, cellsOk_free, cellF, abin_eql, beq_self_eq_true, beq_self_eq_true, vld48, vld3, ↓val48, vfp48_0, ↓vfk53, ↓valright_c hX1, hr]
      refine Vc_open [[], [], [], []] false (by kernel_rfl) (by kernel_rfl) (by kernel_rfl) ?_
      simp -dsimp only [↓VWP_ret, ↓VS_assign, ↓VS_load, ↓VS_store, ↓With_mapH, ↓With_bindH, ↓With_guard, ↓Hold_1, ↓Hold_3, With_some, emap_nil, ↓eget_eset, ↓ae_tmp, ↓ae_int, ↓ae_bool, light, ↓vfinish_ret, ↓vres_nil, ↓vres_tmp, ↓vres_cell, vtell_eq, ret1, Option.map_some, ↓reduceIte, Nat.reduceEqDiff, Bool.false_eq_true, decide_false, Bool.not_false, Nat.zero_add, Nat.reduceAdd, Nat.reduceLT, Nat.reduceLeDiff, true_and, and_self, List.map_cons, List.map_nil, List.all_cons, List.all_nil, tup_int, tup_str, tup_agg, cel_agg, List.drop_zero, List.toList_toArray, List.size_toArray, List.length_cons, List.length_nil, mapOwn_agg, mapOwn_tuple, mapOwn_bool, mapOwn_int, mapOwn_string, toksL_nil, toksL_cons, toks_int, toks_bool, toks_string, toks_agg, toks_tuple, okv_agg, okv_tuple, okv_bool, okv_int, okv_string, List.flatMap_nil, List.flatMap_cons, List.all_nil, List.all_cons, List.append_nil, List.nil_append, List.map_nil, List.map_cons, Bool.and_self, Bool.not_false, beq_self_eq_true, vnext_mk, vget_nil, vput_nil, cellsIn_mk, vthaw_nil, vwrites_nil, List.getD_cons_zero, List.getD_cons_succ, List.set_cons_zero, List.set_cons_succ, List.length_cons, List.length_nil, List.drop_zero, List.take_succ_cons, List.take_zero, ↓vlay_free, cellsOk_free, cellF, beq_self_eq_true, decide_false, beq_self_eq_true, setAll_whole, ↓VE_nil, ↓VE_one0, ↓VE_non0, List.reverse_cons, List.reverse_nil, vld48, vst48, Tryd.results146]
      simp [numF, hr, VV.v]
    · by_cases k1 : k = 1
      · subst k1
        simp -dsimp only [↓Hold_5, ↓VWP_seq, ↓VWP_region, ↓VWP_cond, ↓VWP_ret, ↓VWP_block, ↓VReg_one, ↓VReg_non, ↓VReg_nil, ↓VS_guard, ↓VS_move, ↓VS_assign, ↓VS_pick, ↓VS_build, ↓VS_load, ↓VS_binOp, ↓VS_unOp, ↓VS_fieldAddr, ↓VS_box, ↓VS_store, ↓With_mapH, ↓With_bindH, ↓With_guard, ↓Hold_1, With_some, emap_nil, ↓eget_eset, ↓ae_tmp, ↓ae_int, ↓ae_bool, eget_zero, lop_pick, lop_not, asBool_bool, asGuard_bool, bb_tf, ayielded_eq, ↓dstAt_zero, ↓dstAt_succ, ↓vfinish_ret, ↓vres_nil, ↓vres_tmp, ↓vres_cell, vtell_eq, ret1, Option.map_some, Option.bind_some, ↓reduceIte, Nat.reduceEqDiff, Bool.false_eq_true, decide_false, Bool.not_true, Bool.not_false, List.getElem?_cons_zero, List.getElem?_cons_succ, Nat.zero_add, Nat.add_zero, Nat.reduceAdd, Nat.reduceLT, Nat.reduceLeDiff, true_and, and_self, List.map_cons, List.map_nil, List.all_cons, List.all_nil, tup_int, tup_str, tup_agg, cel_agg, List.drop_zero, List.toList_toArray, List.size_toArray, List.length_cons, List.length_nil, mapOwn_agg, mapOwn_tuple, mapOwn_bool, mapOwn_int, mapOwn_string, toksL_nil, toksL_cons, toks_int, toks_bool, toks_string, toks_agg, toks_tuple, okv_agg, okv_tuple, okv_bool, okv_int, okv_string, List.flatMap_nil, List.flatMap_cons, List.all_nil, List.all_cons, List.append_nil, List.nil_append, List.cons_append, List.map_nil, List.map_cons, Bool.and_self, Bool.not_true, Bool.not_false, beq_self_eq_true, vnext_mk, vpush_mk, vget_nil, vput_nil, cellsIn_mk, vthaw_nil, vwrites_nil, List.getD_cons_zero, List.getD_cons_succ, List.set_cons_zero, List.set_cons_succ, List.length_cons, List.length_nil, List.drop_zero, List.take_succ_cons, List.take_zero, vbin_int, ↓vlay_free, ↓vbox_free, cellsOk_free, cellF, abin_eql, beq_self_eq_true, decide_false, beq_self_eq_true, bb_tf, setAll_whole, afill, ibeq, Int.reduceEq, vld48, vld3, vst48, ↓val48, vfp48_0, vfp48_1, bd48, ↓vfk53, Tryd.results146, ↓valright_c hX1, hr]
        simp [numF, hr, zV, VV.v]
      · by_cases k0 : k = 0
        · subst k0
          simp -dsimp only [↓Hold_5, ↓VWP_seq, ↓VWP_region, ↓VWP_cond, ↓VWP_ret, ↓VWP_block, ↓VReg_one, ↓VReg_non, ↓VReg_nil, ↓VS_guard, ↓VS_move, ↓VS_assign, ↓VS_pick, ↓VS_build, ↓VS_load, ↓VS_binOp, ↓VS_unOp, ↓VS_fieldAddr, ↓VS_box, ↓VS_store, ↓With_mapH, ↓With_bindH, ↓With_guard, ↓Hold_1, With_some, emap_nil, ↓eget_eset, ↓ae_tmp, ↓ae_int, ↓ae_bool, eget_zero, lop_pick, lop_not, asBool_bool, asGuard_bool, ayielded_eq, ↓dstAt_zero, ↓dstAt_succ, ↓vfinish_ret, ↓vres_nil, ↓vres_tmp, ↓vres_cell, vtell_eq, ret1, Option.map_some, Option.bind_some, ↓reduceIte, Nat.reduceEqDiff, Bool.false_eq_true, decide_false, Bool.not_true, Bool.not_false, List.getElem?_cons_zero, List.getElem?_cons_succ, Nat.zero_add, Nat.add_zero, Nat.reduceAdd, Nat.reduceLT, Nat.reduceLeDiff, true_and, and_self, List.map_cons, List.map_nil, List.all_cons, List.all_nil, tup_int, tup_str, tup_agg, cel_agg, List.drop_zero, List.toList_toArray, List.size_toArray, List.length_cons, List.length_nil, mapOwn_agg, mapOwn_tuple, mapOwn_bool, mapOwn_int, mapOwn_string, toksL_nil, toksL_cons, toks_int, toks_bool, toks_string, toks_agg, toks_tuple, okv_agg, okv_tuple, okv_bool, okv_int, okv_string, List.flatMap_nil, List.flatMap_cons, List.all_nil, List.all_cons, List.append_nil, List.nil_append, List.cons_append, List.map_nil, List.map_cons, Bool.and_self, Bool.not_true, Bool.not_false, beq_self_eq_true, vnext_mk, vpush_mk, vget_nil, vput_nil, cellsIn_mk, vthaw_nil, vwrites_nil, List.getD_cons_zero, List.getD_cons_succ, List.set_cons_zero, List.set_cons_succ, List.length_cons, List.length_nil, List.drop_zero, List.take_succ_cons, List.take_zero, vbin_int, ↓vlay_free, ↓vbox_free, cellsOk_free, cellF, abin_eql, beq_self_eq_true, decide_false, beq_self_eq_true, setAll_whole, afill, ibeq, Int.reduceEq, vld48, vld3, vst48, ↓val48, vfp48_0, vfp48_1, bd48, ↓vfk53, Tryd.results146, ↓valright_c hX1, hr]
          simp [numF, hr, zV, VV.v]
        · simp -dsimp only [↓Hold_5, ↓VWP_seq, ↓VWP_region, ↓VWP_cond, ↓VWP_ret, ↓VWP_skip, ↓VWP_block, ↓VReg_one, ↓VReg_non, ↓VReg_nil, ↓VS_guard, ↓VS_move, ↓VS_assign, ↓VS_pick, ↓VS_load, ↓VS_binOp, ↓VS_unOp, ↓VS_fieldAddr, ↓VS_box, ↓VS_store, ↓With_mapH, ↓With_bindH, ↓With_guard, ↓Hold_1, With_some, emap_nil, ↓eget_eset, ↓ae_tmp, ↓ae_int, ↓ae_bool, eget_zero, lop_pick, lop_not, asBool_bool, asGuard_bool, ayielded_eq, ↓dstAt_zero, ↓dstAt_succ, ↓vfinish_ret, ↓vres_nil, ↓vres_tmp, ↓vres_cell, vtell_eq, ret1, Option.map_some, Option.bind_some, ↓reduceIte, Nat.reduceEqDiff, Bool.false_eq_true, decide_false, Bool.not_true, Bool.not_false, List.getElem?_cons_zero, Nat.zero_add, Nat.add_zero, Nat.reduceAdd, Nat.reduceLT, Nat.reduceLeDiff, true_and, and_self, List.map_cons, List.map_nil, List.all_cons, List.all_nil, tup_int, tup_str, tup_agg, cel_agg, List.drop_zero, List.toList_toArray, List.size_toArray, List.length_cons, List.length_nil, mapOwn_agg, mapOwn_tuple, mapOwn_bool, mapOwn_int, mapOwn_string, toksL_nil, toksL_cons, toks_int, toks_bool, toks_string, toks_agg, toks_tuple, okv_agg, okv_tuple, okv_bool, okv_int, okv_string, List.flatMap_nil, List.flatMap_cons, List.all_nil, List.all_cons, List.append_nil, List.nil_append, List.cons_append, List.map_nil, List.map_cons, Bool.and_self, Bool.not_true, Bool.not_false, beq_self_eq_true, vnext_mk, vpush_mk, vget_nil, vput_nil, cellsIn_mk, vthaw_nil, vwrites_nil, List.getD_cons_zero, List.getD_cons_succ, List.set_cons_zero, List.set_cons_succ, List.length_cons, List.length_nil, List.drop_zero, List.take_succ_cons, List.take_zero, vbin_int, ↓vlay_free, ↓vbox_free, cellsOk_free, cellF, abin_eql, beq_self_eq_true, decide_false, beq_self_eq_true, setAll_whole, ibeq, vld48, vld3, vst48, ↓val48, vfp48_0, ↓vfk53, ↓vfk51, Tryd.results146, ↓valright_c hX1, ↓err_c hX2, hr, k4, k1, k0]
          simp [numF, hr, k4, k1, k0, eV, VV.v]
  · have hr' : rightF ⟨k, n, s⟩ = false := by simpa using hr
    simp -dsimp only [↓Hold_5, ↓VWP_seq, ↓VWP_region, ↓VWP_cond, ↓VWP_ret, ↓VWP_block, ↓VReg_one, ↓VReg_non, ↓VReg_nil, ↓VS_assign, ↓VS_load, ↓VS_unOp, ↓VS_box, ↓VS_store, ↓With_mapH, ↓With_bindH, ↓With_guard, ↓Hold_1, With_some, emap_nil, ↓eget_eset, ↓ae_tmp, ↓ae_int, ↓ae_bool, eget_zero, lop_not, asBool_bool, ↓vfinish_ret, ↓vres_nil, ↓vres_tmp, ↓vres_cell, vtell_eq, ret1, Option.map_some, ↓reduceIte, Nat.reduceEqDiff, decide_false, Bool.not_false, Nat.zero_add, Nat.add_zero, Nat.reduceAdd, Nat.reduceLT, Nat.reduceLeDiff, true_and, and_self, List.map_cons, List.map_nil, List.all_cons, List.all_nil, tup_int, tup_str, tup_agg, cel_agg, List.drop_zero, List.toList_toArray, List.size_toArray, List.length_cons, List.length_nil, mapOwn_agg, mapOwn_tuple, mapOwn_bool, mapOwn_int, mapOwn_string, toksL_nil, toksL_cons, toks_int, toks_bool, toks_string, toks_agg, toks_tuple, okv_agg, okv_tuple, okv_bool, okv_int, okv_string, List.flatMap_nil, List.flatMap_cons, List.all_nil, List.all_cons, List.append_nil, List.nil_append, List.cons_append, List.map_nil, List.map_cons, Bool.and_self, Bool.not_false, beq_self_eq_true, vnext_mk, vpush_mk, vget_nil, vput_nil, cellsIn_mk, vthaw_nil, vwrites_nil, List.getD_cons_zero, List.getD_cons_succ, List.set_cons_zero, List.set_cons_succ, List.length_cons, List.length_nil, List.drop_zero, List.take_succ_cons, List.take_zero, ↓vlay_free, ↓vbox_free, cellsOk_free, cellF, beq_self_eq_true, decide_false, beq_self_eq_true, setAll_whole, vld48, vst48, ↓val48, ↓vfk53, ↓vfk51, Tryd.results146, ↓valright_c hX1, ↓err_c hX2, hr']
    simp [numF, hr', eV, VV.v]
end Go.Proofs.YtmdpggecelheoaaDoor.Abs
/- Numbers out of rows; rows of one. -/
set_option linter.unusedVariables false
set_option linter.unusedSimpArgs false
set_option maxRecDepth 4000
set_option maxHeartbeats 0
namespace Go.Proofs.YtmdpggecelheoaaDoor.Abs
open Go
attribute [local irreducible] Hold VReg Vf Vc VWP With VStp Vcallee Vp VE
theorem number_c {X : VOuter} (hX : X 146 = none) (hX1 : X 53 = none) (hX2 : X 51 = none) (k n : Int) (s : ByteArray) {S : VH} {K : VCont} : Vcallee Tryd.prog X 146 [.agg ⟨[.int .i64 k, .int .i64 n, .string s]⟩] S K = K (.tuple ⟨[.int .i64 (numF ⟨k, n, s⟩).1, .agg ⟨[.int .i64 (numF ⟨k, n, s⟩).2.1.k, .int .i64 (numF ⟨k, n, s⟩).2.1.n, .string (numF ⟨k, n, s⟩).2.1.s]⟩, .bool (numF ⟨k, n, s⟩).2.2]⟩) [] S [] false := Vcallee_of (number_p hX hX1 hX2 k n s) rfl rfl rfl
def numsF (l : List VV) : List Int × VV × Bool := match l.find? (fun x => !(numF x).2.2) with
  | some x => ([], (numF x).2.1, false)
  | none => (l.map fun x => (numF x).1, zV, true)
theorem map_take (f : VV → Int) (l : List VV) (i : Nat) (h : i < l.length) : (l.take (i + 1)).map f = (l.take i).map f ++ [f l[i]] := by
  rw [← List.take_append_getElem h, List.map_append]
  rfl
theorem not_not_all (p : VV → Bool) (l : List VV) : (l.all fun x => !(!p x)) = l.all p := by simp
theorem numbers_p {X : VOuter} (hX : X 151 = none) (hX0 : X 146 = none) (hX1 : X 53 = none) (hX2 : X 51 = none) (c : Bool) (d : Nat) (l : List VV) (hl : l.length ≤ 1000000000) : Vp Tryd.prog X 151 [sl c d 3 (l.map VV.v)] (.tuple ⟨[sl true 0 1 ((numsF l).1.map vI), (numsF l).2.1.v, .bool (numsF l).2.2]⟩) := by
  unfold Vp
  refine Vf_text hX Tryd.func151 rfl (by kernel_rfl) (by show 1 ≤ _; decide) ?_
  simp -dsimp only [↓VWP_seq, ↓VWP_region, ↓VWP_block, ↓VWP_loop, ↓VReg_one, ↓VReg_nil, ↓VS_move, ↓VS_assign, ↓VS_len, ↓Hold_1, With_some, emap_nil, ↓eget_eset, ↓ae_tmp, ↓ae_int, ↓ae_bool, ↓ae_slice0, eget_zero, ↓reduceIte, reduceCtorEq, Nat.add_zero, List.length_nil, List.nil_append, vnext_mk, vpush_mk, List.length_nil, ↓val48, vls42, List.length_map]
  refine Vc_loop (fun m e S => ∃ i : Nat, m = l.length - i ∧ i ≤ l.length ∧ eget e 11 = sl c d 3 (l.map VV.v) ∧ eget e 12 = .int .i64 l.length ∧ eget e 13 = .int .i64 i ∧ eget e 3 = .pointer (some { block := 0, off := 0 }) ∧ eget e 5 = ol true (29, none) 1 (((l.take i).map fun x => (numF x).1).map vI) ∧ (l.take i).all (fun x => (numF x).2.2) = true ∧ ∃ J, S = ⟨[], .cells true 48 [.int .i64 0, .int .i64 0, .string .empty] :: J, []⟩) l.length ?_ ?_
  · refine ⟨0, rfl, Nat.zero_le _, ?_, ?_, ?_, ?_, ?_, rfl, [], rfl⟩ <;> simp only [↓eget_eset, ↓reduceIte, Nat.reduceEqDiff] <;> rfl
  · rintro m e S ⟨i, rfl, hi, e11, e12, e13, e3, e5, hall, J, rfl⟩
    refine VWP_Vc _ _ _ _ ?_
    by_cases hin : i < l.length
    · have hlt : (i : Int) < l.length := by omega
      have h0 : (0 : Int) ≤ i := by omega
      have hx : (l.map VV.v)[i]? = some l[i].v := by simp [hin]
      have ht := all_take (fun x => (numF x).2.2) l i hin
      have hm := map_take (fun x => (numF x).1) l i hin
      have hat := find_at (fun x => !(numF x).2.2) l i hin (by rw [not_not_all]; exact hall)
      have hnum : ((i : Int) + 1) = ((i + 1 : Nat) : Int) := by omega
      have hwr : IntKind.i64.wrap ((i : Int) + 1) = ((i + 1 : Nat) : Int) := by rw [hnum]; exact wrap_id (by omega) (by omega)
      have hlen : ((l.take i).map fun x => (numF x).1).length ≤ l.length := by rw [List.length_map, List.length_take]; omega
      generalize l[i] = x at hx ht hat hm
      obtain ⟨k, n, s⟩ := x
      simp only [VV.v] at hx
      generalize hN : (l.take i).map (fun x => (numF x).1) = N at e5 hm hlen
      by_cases hr : (numF ⟨k, n, s⟩).2.2 = true
      · simp -dsimp only [↓Hold_5, thaw_sl, thaw_ol, growT_sl, vgrow_ol, ↓VWP_seq, ↓VWP_region, ↓VWP_cond, ↓VWP_skip, ↓VWP_block, ↓VReg_one, ↓VReg_non, ↓VReg_nil, ↓VS_move, ↓VS_assign, ↓VS_load, ↓VS_binOp, ↓VS_unOp, ↓VS_indexAddr, ↓VS_extract, ↓VS_buildSlice, ↓VS_store, ↓VS_append, ↓With_guard, ↓Hold_1, With_some, emap_nil, emap_cons, ↓eget_map, ↓eget_eset, ↓ae_tmp, ↓ae_int, lop_extract, lop_not, asBool_bool, Option.map_some, Option.bind_some, ↓reduceIte, Nat.reduceEqDiff, Bool.false_eq_true, decide_true, Bool.not_true, Bool.not_false, List.getElem?_toArray, List.getElem?_cons_zero, List.getElem?_cons_succ, Nat.zero_add, Nat.reduceAdd, Nat.reduceMul, Nat.reduceLT, Nat.reduceLeDiff, and_true, true_and, and_self, List.map_cons, List.map_nil, List.all_cons, List.all_nil, tup_int, cel_int, tup_str, tup_agg, cel_agg, List.drop_zero, List.toList_toArray, List.size_toArray, List.length_cons, List.length_nil, mapOwn_int, mapOwn_pointer, toksL_nil, toksL_cons, toks_int, toks_string, okv_int, okv_string, List.all_nil, List.all_cons, List.append_nil, List.nil_append, List.cons_append, List.map_nil, List.map_cons, Bool.and_self, Bool.not_true, Bool.not_false, List.mem_cons, List.not_mem_nil, or_false, Prod.mk.injEq, beq_self_eq_true, vnext_mk, vpush_mk, vget_nil, vput_nil, cellsIn_mk, vturn_nil, vthaw_one, boxesOf_nil, List.getD_cons_zero, List.getD_cons_succ, List.set_cons_zero, List.set_cons_succ, List.length_cons, List.length_nil, List.drop_zero, List.take_succ_cons, List.take_zero, getD_app, getD_app0, set_app, set_app0, List.append_assoc, List.length_append, vload_at, aggV_agg, velems_own, partsOk_nil, partsOk_cons, vfill_nil, vfill_cons, vbin_int, ↓vlay_free, cellsOk_free, cellF, List.replicate_succ, List.replicate_zero, abin_lss, abin_add, beq_self_eq_true, Int.toNat_natCast, decide_true, beq_self_eq_true, setAll_whole, vld48, vgt48, vst48, ↓val48, vbd43, vis42, vap43, ↓vfk146, e11, e12, e13, e3, e5, hlt, h0, hx, hr, ↓number_c hX0 hX1 hX2, List.length_map]
        exact ⟨⟨by omega, by omega⟩, l.length - (i + 1), by omega, i + 1, rfl, by omega, by rw [hwr], by rw [hm]; simp [vI], by rw [ht, hall, hr]; rfl, _, rfl⟩
      · have hr' : (numF ⟨k, n, s⟩).2.2 = false := by simpa using hr
        simp -dsimp only [↓Hold_5, ↓VWP_seq, ↓VWP_region, ↓VWP_cond, ↓VWP_skip, ↓VWP_block, ↓VWP_open, ↓VReg_one, ↓VReg_non, ↓VReg_nil, ↓VS_move, ↓VS_assign, ↓VS_load, ↓VS_binOp, ↓VS_unOp, ↓VS_indexAddr, ↓VS_extract, ↓VS_store, ↓Hold_1, With_some, emap_nil, ↓eget_eset, ↓ae_tmp, lop_extract, lop_not, asBool_bool, Option.map_some, ↓reduceIte, Nat.reduceEqDiff, decide_true, Bool.not_false, List.getElem?_toArray, List.getElem?_cons_zero, List.getElem?_cons_succ, Nat.zero_add, Nat.reduceAdd, Nat.reduceLeDiff, and_self, List.map_cons, List.map_nil, List.all_cons, List.all_nil, tup_int, tup_str, tup_agg, cel_agg, List.drop_zero, List.toList_toArray, List.size_toArray, List.length_cons, List.length_nil, toksL_nil, toksL_cons, toks_int, toks_string, okv_int, okv_string, List.all_nil, List.all_cons, List.append_nil, List.nil_append, List.cons_append, List.map_nil, List.map_cons, Bool.and_self, Bool.not_false, beq_self_eq_true, vnext_mk, vpush_mk, vget_nil, vput_nil, cellsIn_mk, List.getD_cons_zero, List.getD_cons_succ, List.set_cons_zero, List.set_cons_succ, List.length_cons, List.length_nil, List.drop_zero, List.take_succ_cons, List.take_zero, getD_app, getD_app0, set_app, set_app0, List.append_assoc, List.length_append, vload_at, aggV_agg, vbin_int, ↓vlay_free, cellsOk_free, cellF, abin_lss, beq_self_eq_true, Int.toNat_natCast, decide_true, beq_self_eq_true, setAll_whole, vld48, vgt48, vst48, ↓val48, vis42, ↓vfk146, e11, e12, e13, hlt, h0, hx, hr', ↓number_c hX0 hX1 hX2]
        refine Vc_open [[], [], [], []] false (by kernel_rfl) (by kernel_rfl) (by kernel_rfl) ?_
        simp -dsimp only [↓VWP_ret, ↓VS_assign, ↓VS_load, ↓VS_store, ↓With_mapH, ↓With_bindH, ↓With_guard, ↓Hold_1, ↓Hold_3, With_some, emap_nil, ↓eget_eset, ↓ae_tmp, ↓ae_bool, ↓ae_slice0, light, ↓vfinish_ret, ↓vres_nil, ↓vres_tmp, ↓vres_cell, vtell_eq, ret1, Option.map_some, ↓reduceIte, Nat.reduceEqDiff, Bool.false_eq_true, decide_false, Bool.not_false, Nat.zero_add, Nat.reduceAdd, Nat.reduceLT, Nat.reduceLeDiff, true_and, and_self, List.map_cons, List.map_nil, List.all_cons, List.all_nil, tup_int, tup_str, tup_agg, cel_agg, List.drop_zero, List.toList_toArray, List.size_toArray, List.length_cons, List.length_nil, mapOwn_agg, mapOwn_tuple, mapOwn_bool, mapOwn_int, mapOwn_string, mapOwn_slice, toksL_nil, toksL_cons, toks_int, toks_bool, toks_string, toks_slice, toks_agg, toks_tuple, okv_agg, okv_tuple, okv_bool, okv_int, okv_string, okv_slice0, List.flatMap_nil, List.flatMap_cons, List.all_nil, List.all_cons, List.append_nil, List.nil_append, List.map_nil, List.map_cons, Bool.and_self, Bool.not_false, beq_self_eq_true, vnext_mk, vget_nil, vput_nil, cellsIn_mk, vthaw_nil, vwrites_nil, List.getD_cons_zero, List.getD_cons_succ, List.set_cons_zero, List.length_cons, List.length_nil, List.drop_zero, List.take_succ_cons, List.take_zero, getD_app, List.length_append, ↓vlay_free, cellsOk_free, cellF, beq_self_eq_true, decide_false, beq_self_eq_true, setAll_whole, ↓VE_nil, ↓VE_one0, ↓VE_non0, List.reverse_cons, List.reverse_nil, vld48, vst48, Tryd.results151, e3]
        simp [numsF, hat (by simp [hr']), VV.v, sl]
    · obtain rfl : i = l.length := by omega
      have hlt : ¬ ((l.length : Int) < l.length) := by omega
      simp -dsimp only [okv_sl0, toks_ol, thawAll_ol, thaw_tok1, ↓VWP_seq, ↓VWP_region, ↓VWP_cond, ↓VWP_ret, ↓VWP_exit, ↓VReg_one, ↓VReg_non, ↓VReg_nil, ↓VS_move, ↓VS_assign, ↓VS_build, ↓VS_binOp, ↓VS_store, ↓With_mapH, ↓With_bindH, ↓With_guard, ↓Hold_1, ↓Hold_3, With_some, emap_nil, ↓eget_eset, ↓ae_tmp, ↓ae_bool, asBool_bool, ↓vfinish_ret, ↓vres_nil, ↓vres_tmp, ↓vres_cell, vtell_eq, ret1, Option.map_some, ↓reduceIte, Nat.reduceEqDiff, Bool.false_eq_true, decide_false, Bool.not_false, Nat.zero_add, Nat.reduceAdd, Nat.reduceLT, Nat.reduceLeDiff, true_and, and_self, List.map_cons, List.map_nil, List.all_cons, List.all_nil, tup_int, tup_str, tup_agg, cel_agg, List.drop_zero, List.toList_toArray, List.size_toArray, List.length_cons, List.length_nil, mapOwn_agg, mapOwn_tuple, mapOwn_bool, mapOwn_int, mapOwn_string, toksL_nil, toksL_cons, toks_int, toks_bool, toks_string, toks_agg, toks_tuple, okv_agg, okv_tuple, okv_bool, okv_int, okv_string, List.flatMap_nil, List.flatMap_cons, List.all_nil, List.all_cons, List.append_nil, List.map_nil, List.map_cons, Bool.and_self, Bool.true_and, Bool.not_false, beq_self_eq_true, vnext_mk, vget_nil, vput_nil, cellsIn_mk, vwrites_nil, List.getD_cons_zero, List.set_cons_zero, List.length_cons, List.length_nil, List.drop_zero, List.take_succ_cons, List.take_zero, vbin_int, ↓vlay_free, cellsOk_free, cellF, abin_lss, beq_self_eq_true, decide_false, beq_self_eq_true, setAll_whole, afill, vld48, vst48, bd48, Tryd.results151, e12, e13, e3, e5, hlt, List.take_length]
      rw [List.take_length] at hall
      simp [numsF, find_no _ l (by rw [not_not_all]; exact hall), zV, VV.v]
end Go.Proofs.YtmdpggecelheoaaDoor.Abs
/- Rows of rows: each of one value. -/
set_option linter.unusedVariables false
set_option linter.unusedSimpArgs false
set_option maxRecDepth 4000
set_option maxHeartbeats 0
namespace Go.Proofs.YtmdpggecelheoaaDoor.Abs
open Go
attribute [local irreducible] Hold VReg Vf Vc VWP With VStp Vcallee Vp VE
/-- A row of values; c: it is nil when it is empty. -/
structure RW where
  c : Bool
  l : List VV
def RW.v (d : Nat) (r : RW) : Value := sl r.c d 3 (r.l.map VV.v)
def singleF (rs : List RW) : Bool := rs.all fun r => decide ((r.l.length : Int) = 1)
theorem all_takeR (p : RW → Bool) (l : List RW) (i : Nat) (h : i < l.length) : (l.take (i + 1)).all p = ((l.take i).all p && p l[i]) := by
  rw [← List.take_append_getElem h, List.all_append]
  simp
theorem all_badR (p : RW → Bool) (l : List RW) (i : Nat) (h : i < l.length) (hp : p l[i] = false) : l.all p = false := by
  rw [List.all_eq_false]
  exact ⟨l[i], List.getElem_mem h, by simp [hp]⟩
theorem single_p {X : VOuter} (hX : X 71 = none) (c : Bool) (d d' : Nat) (l : List RW) (hl : l.length ≤ 1000000000) : Vp Tryd.prog X 71 [sl c d 1 (l.map (RW.v d'))] (.bool (singleF l)) := by
  unfold Vp
  refine Vf_text hX Tryd.func71 rfl (by kernel_rfl) (by show 1 ≤ _; decide) ?_
  simp -dsimp only [↓VWP_seq, ↓VWP_region, ↓VWP_block, ↓VWP_loop, ↓VReg_one, ↓VReg_nil, ↓VS_move, ↓VS_assign, ↓VS_len, ↓Hold_1, With_some, emap_nil, ↓eget_eset, ↓ae_tmp, ↓ae_int, ↓ae_bool, eget_zero, ↓reduceIte, reduceCtorEq, vls46, List.length_map]
  refine Vc_loop (fun m e S => ∃ i : Nat, m = l.length - i ∧ i ≤ l.length ∧ eget e 5 = sl c d 1 (l.map (RW.v d')) ∧ eget e 6 = .int .i64 l.length ∧ eget e 7 = .int .i64 i ∧ (l.take i).all (fun r => decide ((r.l.length : Int) = 1)) = true ∧ S = ⟨[], [], []⟩) l.length ?_ ?_
  · refine ⟨0, rfl, Nat.zero_le _, ?_, ?_, ?_, rfl, rfl⟩ <;> simp only [↓eget_eset, ↓reduceIte, Nat.reduceEqDiff] <;> rfl
  · rintro m e S ⟨i, rfl, hi, e5, e6, e7, hall, rfl⟩
    refine VWP_Vc _ _ _ _ ?_
    by_cases hin : i < l.length
    · have hlt : (i : Int) < l.length := by omega
      have h0 : (0 : Int) ≤ i := by omega
      have hx : (l.map (RW.v d'))[i]? = some (l[i].v d') := by simp [hin]
      have ht := all_takeR (fun r => decide ((r.l.length : Int) = 1)) l i hin
      have hbad := all_badR (fun r => decide ((r.l.length : Int) = 1)) l i hin
      have hnum : ((i : Int) + 1) = ((i + 1 : Nat) : Int) := by omega
      have hwr : IntKind.i64.wrap ((i : Int) + 1) = ((i + 1 : Nat) : Int) := by rw [hnum]; exact wrap_id (by omega) (by omega)
      generalize l[i] = x at hx ht hbad
      obtain ⟨c', r⟩ := x
      simp only [RW.v] at hx
      by_cases hr : (r.length : Int) = 1
      · simp -dsimp only [cellV_sl, ↓VWP_seq, ↓VWP_region, ↓VWP_cond, ↓VWP_skip, ↓VWP_block, ↓VReg_one, ↓VReg_nil, ↓VS_move, ↓VS_assign, ↓VS_load, ↓VS_binOp, ↓VS_indexAddr, ↓VS_len, ↓Hold_1, With_some, emap_nil, ↓eget_eset, ↓ae_tmp, ↓ae_int, asBool_bool, Option.map_some, ↓reduceIte, Nat.reduceEqDiff, Bool.false_eq_true, decide_true, and_true, true_and, vload_at, vbin_int, abin_neq, abin_lss, abin_add, Int.toNat_natCast, decide_true, bne_self_eq_false, vgt42, vis46, vls42, e5, e6, e7, hlt, h0, hx, hr, List.length_map]
        exact ⟨l.length - (i + 1), by omega, i + 1, rfl, by omega, by rw [hwr], by rw [ht, hall]; simp [hr]⟩
      · simp -dsimp only [cellV_sl, ↓VWP_seq, ↓VWP_region, ↓VWP_cond, ↓VWP_ret, ↓VWP_skip, ↓VWP_block, ↓VReg_one, ↓VReg_nil, ↓VS_move, ↓VS_assign, ↓VS_load, ↓VS_binOp, ↓VS_indexAddr, ↓VS_len, ↓With_guard, ↓Hold_1, ↓Hold_3, With_some, emap_nil, ↓eget_eset, ↓ae_tmp, ↓ae_int, ↓ae_bool, asBool_bool, ↓vfinish_ret, ↓vres_nil, ↓vres_tmp, vtell_eq, ret1, Option.map_some, Option.bind_some, ↓reduceIte, Nat.reduceEqDiff, decide_true, decide_false, Bool.not_false, true_and, List.toList_toArray, List.length_nil, mapOwn_bool, toks_bool, okv_bool, Bool.not_false, vthaw_nil, vwrites_nil, List.length_nil, vload_at, vbin_int, abin_neq, abin_lss, Int.toNat_natCast, decide_true, decide_false, ibne, vgt42, vis46, vls42, Tryd.results71, e5, e6, e7, hlt, h0, hx, hr, List.length_map]
        simp [singleF, hbad (by simp [hr])]
    · obtain rfl : i = l.length := by omega
      have hlt : ¬ ((l.length : Int) < l.length) := by omega
      simp -dsimp only [↓VWP_seq, ↓VWP_region, ↓VWP_cond, ↓VWP_ret, ↓VWP_exit, ↓VReg_one, ↓VReg_nil, ↓VS_assign, ↓VS_binOp, ↓With_guard, ↓Hold_1, ↓Hold_3, With_some, emap_nil, ↓eget_eset, ↓ae_tmp, ↓ae_bool, asBool_bool, ↓vfinish_ret, ↓vres_nil, ↓vres_tmp, vtell_eq, ret1, Option.map_some, Option.bind_some, ↓reduceIte, Bool.false_eq_true, decide_false, true_and, List.toList_toArray, List.length_nil, mapOwn_bool, toks_bool, okv_bool, vthaw_nil, vwrites_nil, List.length_nil, vbin_int, abin_lss, decide_false, Tryd.results71, e6, e7, hlt]
      rw [List.take_length] at hall
      simp [singleF, hall]
end Go.Proofs.YtmdpggecelheoaaDoor.Abs
/- How two values compare. -/
set_option linter.unusedVariables false
set_option linter.unusedSimpArgs false
set_option maxRecDepth 4000
set_option maxHeartbeats 0
namespace Go.Proofs.YtmdpggecelheoaaDoor.Abs
open Go
attribute [local irreducible] Hold VReg Vf Vc VWP With VStp Vcallee Vp VE
def lessS (a b : ByteArray) : Bool := Op.bytesLess a.toList b.toList
theorem ab_slt {P : Program} {t : TypeId} {x y : Operand} {a b : ByteArray} : abin P .lss t x y (.string a) (.string b) = some (.bool (lessS a b)) := _root_.id rfl
theorem ab_sgt {P : Program} {t : TypeId} {x y : Operand} {a b : ByteArray} : abin P .gtr t x y (.string a) (.string b) = some (.bool (!(lessS a b || (a.toList == b.toList)))) := _root_.id rfl
theorem ab_sne {P : Program} {t : TypeId} {x y : Operand} {a : ByteArray} : abin P .neq t x y (.string a) (.string a) = some (.bool false) := by rw [abin_sneq]; simp
def ordI (a b : Int) : Int := if a < b then -1 else if b < a then 1 else 0
def ordS (a b : ByteArray) : Int := if lessS a b then -1 else if lessS a b || (a.toList == b.toList) then 0 else 1
def or3V (a b c : Int) : Int := if a ≠ 0 then a else if b ≠ 0 then b else c
def cmpF (x y : VV) : Int := if rightF x && rightF y then or3V (ordI x.k y.k) (ordI x.n y.n) (ordS x.s y.s) else 0
section
variable {X : VOuter}
theorem nani_p (hX : X 84 = none) (n : Int) : Vp Tryd.prog X 84 [.int .i64 n] (.bool false) := by
  unfold Vp
  refine Vf_text hX Tryd.func84 rfl (by kernel_rfl) (by show 1 ≤ _; decide) ?_
  simp -dsimp only [↓VWP_seq, ↓VWP_region, ↓VWP_ret, ↓VReg_one, ↓VReg_nil, ↓VS_move, ↓VS_assign, ↓VS_binOp, ↓With_guard, ↓Hold_1, With_some, emap_nil, ↓eget_eset, ↓ae_tmp, ↓ae_bool, eget_zero, ↓vfinish_ret, ↓vres_nil, ↓vres_tmp, vtell_eq, ret1, Option.map_some, Option.bind_some, ↓reduceIte, Nat.reduceEqDiff, reduceCtorEq, and_self, List.toList_toArray, List.length_nil, mapOwn_bool, toks_bool, okv_bool, vthaw_nil, vwrites_nil, List.length_nil, vbin_int, abin_neq, bne_self_eq_false, Tryd.results84]
theorem nani_c (hX : X 84 = none) (n : Int) {S : VH} {K : VCont} : Vcallee Tryd.prog X 84 [.int .i64 n] S K = K (.bool false) [] S [] false := Vcallee_of (nani_p hX n) rfl rfl rfl
theorem nans_p (hX : X 83 = none) (n : ByteArray) : Vp Tryd.prog X 83 [.string n] (.bool false) := by
  unfold Vp
  refine Vf_text hX Tryd.func83 rfl (by kernel_rfl) (by show 1 ≤ _; decide) ?_
  simp -dsimp only [↓VWP_seq, ↓VWP_region, ↓VWP_ret, ↓VReg_one, ↓VReg_nil, ↓VS_move, ↓VS_assign, ↓VS_binOp, ↓With_guard, ↓Hold_1, With_some, emap_nil, ↓eget_eset, ↓ae_tmp, ↓ae_bool, eget_zero, ↓vfinish_ret, ↓vres_nil, ↓vres_tmp, vtell_eq, ret1, Option.map_some, Option.bind_some, ↓reduceIte, Nat.reduceEqDiff, reduceCtorEq, and_self, List.toList_toArray, List.length_nil, mapOwn_bool, toks_bool, okv_bool, vthaw_nil, vwrites_nil, List.length_nil, vbin_string, ab_sne, Tryd.results83]
theorem nans_c (hX : X 83 = none) (n : ByteArray) {S : VH} {K : VCont} : Vcallee Tryd.prog X 83 [.string n] S K = K (.bool false) [] S [] false := Vcallee_of (nans_p hX n) rfl rfl rfl
theorem cmpi_p (hX : X 66 = none) (hX1 : X 84 = none) (a b : Int) : Vp Tryd.prog X 66 [.int .i64 a, .int .i64 b] (.int .i64 (ordI a b)) := by
  unfold Vp
  refine Vf_text hX Tryd.func66 rfl (by kernel_rfl) (by show 2 ≤ _; decide) ?_
  by_cases h1 : a < b
  · simp -dsimp only [↓Hold_5, ↓VWP_seq, ↓VWP_region, ↓VWP_cond, ↓VWP_ret, ↓VWP_skip, ↓VReg_one, ↓VReg_nil, ↓VS_move, ↓VS_assign, ↓VS_binOp, ↓With_guard, ↓Hold_1, With_some, emap_nil, ↓eget_eset, ↓ae_tmp, ↓ae_int, eget_zero, eget_succ, asBool_bool, ↓vfinish_ret, ↓vres_nil, ↓vres_tmp, vtell_eq, ret1, Option.map_some, Option.bind_some, ↓reduceIte, Nat.reduceEqDiff, reduceCtorEq, Bool.false_eq_true, decide_true, true_and, List.map_cons, List.map_nil, List.toList_toArray, List.length_nil, mapOwn_int, toks_int, okv_int, List.map_nil, List.map_cons, vthaw_nil, vwrites_nil, List.length_nil, vbin_int, abin_lss, decide_true, Int.reduceNeg, ↓vfk84, Tryd.results66, ↓nani_c hX1, h1]
    simp [ordI, h1]
  · by_cases h2 : b < a <;> simp -dsimp only [↓Hold_5, ↓VWP_seq, ↓VWP_region, ↓VWP_cond, ↓VWP_ret, ↓VWP_skip, ↓VReg_one, ↓VReg_nil, ↓VS_move, ↓VS_assign, ↓VS_binOp, ↓With_guard, ↓Hold_1, With_some, emap_nil, ↓eget_eset, ↓ae_tmp, ↓ae_int, eget_zero, eget_succ, asBool_bool, ↓vfinish_ret, ↓vres_nil, ↓vres_tmp, vtell_eq, ret1, Option.map_some, Option.bind_some, ↓reduceIte, Nat.reduceEqDiff, reduceCtorEq, Bool.false_eq_true, decide_true, decide_false, true_and, List.map_cons, List.map_nil, List.toList_toArray, List.length_nil, mapOwn_int, toks_int, okv_int, List.map_nil, List.map_cons, vthaw_nil, vwrites_nil, List.length_nil, vbin_int, abin_lss, abin_gtr, gt_iff_lt, decide_true, decide_false, ↓vfk84, Tryd.results66, ↓nani_c hX1, h1, h2] <;> simp [ordI, h1, h2]
theorem cmpi_c (hX : X 66 = none) (hX1 : X 84 = none) (a b : Int) {S : VH} {K : VCont} : Vcallee Tryd.prog X 66 [.int .i64 a, .int .i64 b] S K = K (.int .i64 (ordI a b)) [] S [] false := Vcallee_of (cmpi_p hX hX1 a b) rfl rfl rfl
theorem cmps_p (hX : X 65 = none) (hX1 : X 83 = none) (a b : ByteArray) : Vp Tryd.prog X 65 [.string a, .string b] (.int .i64 (ordS a b)) := by
  unfold Vp
  refine Vf_text hX Tryd.func65 rfl (by kernel_rfl) (by show 2 ≤ _; decide) ?_
  cases h1 : lessS a b
  · cases h2 : (a.toList == b.toList) <;> simp -dsimp only [↓Hold_5, ↓VWP_seq, ↓VWP_region, ↓VWP_cond, ↓VWP_ret, ↓VWP_skip, ↓VReg_one, ↓VReg_nil, ↓VS_move, ↓VS_assign, ↓VS_binOp, ↓With_guard, ↓Hold_1, With_some, emap_nil, ↓eget_eset, ↓ae_tmp, ↓ae_int, eget_zero, eget_succ, asBool_bool, ↓vfinish_ret, ↓vres_nil, ↓vres_tmp, vtell_eq, ret1, Option.map_some, Option.bind_some, ↓reduceIte, Nat.reduceEqDiff, reduceCtorEq, Bool.false_eq_true, Bool.not_true, Bool.not_false, true_and, List.map_cons, List.map_nil, List.toList_toArray, List.length_nil, mapOwn_int, toks_int, okv_int, List.map_nil, List.map_cons, Bool.not_true, Bool.not_false, Bool.false_or, Bool.or_false, vthaw_nil, vwrites_nil, List.length_nil, vbin_string, ↓vfk83, Tryd.results65, ↓nans_c hX1, ab_slt, ab_sgt, h1, h2] <;> simp [ordS, h1, h2]
  · simp -dsimp only [↓Hold_5, ↓VWP_seq, ↓VWP_region, ↓VWP_cond, ↓VWP_ret, ↓VWP_skip, ↓VReg_one, ↓VReg_nil, ↓VS_move, ↓VS_assign, ↓VS_binOp, ↓With_guard, ↓Hold_1, With_some, emap_nil, ↓eget_eset, ↓ae_tmp, ↓ae_int, eget_zero, eget_succ, asBool_bool, ↓vfinish_ret, ↓vres_nil, ↓vres_tmp, vtell_eq, ret1, Option.map_some, Option.bind_some, ↓reduceIte, Nat.reduceEqDiff, reduceCtorEq, Bool.false_eq_true, true_and, List.map_cons, List.map_nil, List.toList_toArray, List.length_nil, mapOwn_int, toks_int, okv_int, List.map_nil, List.map_cons, vthaw_nil, vwrites_nil, List.length_nil, vbin_string, Int.reduceNeg, ↓vfk83, Tryd.results65, ↓nans_c hX1, ab_slt, h1]
    simp [ordS, h1]
theorem cmps_c (hX : X 65 = none) (hX1 : X 83 = none) (a b : ByteArray) {S : VH} {K : VCont} : Vcallee Tryd.prog X 65 [.string a, .string b] S K = K (.int .i64 (ordS a b)) [] S [] false := Vcallee_of (cmps_p hX hX1 a b) rfl rfl rfl
theorem cmpor_p (hX : X 64 = none) (d : Nat) (a b c : Int) : Vp Tryd.prog X 64 [vs d 1 [.int .i64 a, .int .i64 b, .int .i64 c]] (.int .i64 (or3V a b c)) := by
  have w1 : IntKind.i64.wrap 1 = 1 := rfl
  have w2 : IntKind.i64.wrap 2 = 2 := rfl
  have w3 : IntKind.i64.wrap 3 = 3 := rfl
  unfold Vp
  refine Vf_text hX Tryd.func64 rfl (by kernel_rfl) (by show 1 ≤ _; decide) ?_
  simp -dsimp only [↓VWP_seq, ↓VWP_region, ↓VWP_block, ↓VWP_loop, ↓VReg_one, ↓VReg_nil, ↓VS_move, ↓VS_assign, ↓VS_len, ↓Hold_1, With_some, emap_nil, ↓eget_eset, ↓ae_tmp, ↓ae_int, eget_zero, ↓reduceIte, reduceCtorEq, Nat.zero_add, Nat.reduceAdd, List.length_cons, List.length_nil, List.length_cons, List.length_nil, Int.cast_ofNat_Int, vlr43]
  by_cases h1 : a = 0
  · refine Vc_unroll ?_
    simp -dsimp only [↓VWP_seq, ↓VWP_region, ↓VWP_cond, ↓VWP_skip, ↓VWP_block, ↓VReg_one, ↓VReg_nil, ↓VS_move, ↓VS_assign, ↓VS_load, ↓VS_binOp, ↓VS_indexAddr, ↓Hold_1, With_some, emap_nil, ↓eget_eset, ↓ae_tmp, ↓ae_int, asBool_bool, Option.map_some, ↓reduceIte, Nat.reduceEqDiff, Bool.false_eq_true, decide_true, List.getElem?_cons_zero, vload_at, cellV_int, vbin_int, abin_neq, abin_lss, abin_add, Int.reduceLT, Int.reduceLE, Int.reduceToNat, Int.reduceAdd, decide_true, bne_self_eq_false, vgt3, vix43, h1, w1]
    by_cases h2 : b = 0
    · refine Vc_unroll ?_
      simp -dsimp only [↓VWP_seq, ↓VWP_region, ↓VWP_cond, ↓VWP_skip, ↓VWP_block, ↓VReg_one, ↓VReg_nil, ↓VS_move, ↓VS_assign, ↓VS_load, ↓VS_binOp, ↓VS_indexAddr, ↓Hold_1, With_some, emap_nil, ↓eget_eset, ↓ae_tmp, ↓ae_int, asBool_bool, Option.map_some, ↓reduceIte, Nat.reduceEqDiff, Bool.false_eq_true, decide_true, List.getElem?_cons_zero, List.getElem?_cons_succ, vload_at, cellV_int, vbin_int, abin_neq, abin_lss, abin_add, Int.reduceLT, Int.reduceLE, Int.reduceToNat, Int.reduceAdd, decide_true, bne_self_eq_false, vgt3, vix43, h2, w2]
      by_cases h3 : c = 0
      · refine Vc_unroll ?_
        simp -dsimp only [↓VWP_seq, ↓VWP_region, ↓VWP_cond, ↓VWP_skip, ↓VWP_block, ↓VReg_one, ↓VReg_nil, ↓VS_move, ↓VS_assign, ↓VS_load, ↓VS_binOp, ↓VS_indexAddr, ↓Hold_1, With_some, emap_nil, ↓eget_eset, ↓ae_tmp, ↓ae_int, asBool_bool, Option.map_some, ↓reduceIte, Nat.reduceEqDiff, Bool.false_eq_true, decide_true, List.getElem?_cons_zero, List.getElem?_cons_succ, vload_at, cellV_int, vbin_int, abin_neq, abin_lss, abin_add, Int.reduceLT, Int.reduceLE, Int.reduceToNat, Int.reduceAdd, decide_true, bne_self_eq_false, vgt3, vix43, h3, w3]
        refine Vc_unroll ?_
        simp -dsimp only [↓VWP_seq, ↓VWP_region, ↓VWP_cond, ↓VWP_ret, ↓VWP_exit, ↓VReg_one, ↓VReg_nil, ↓VS_move, ↓VS_assign, ↓VS_binOp, ↓With_guard, ↓Hold_1, ↓Hold_3, With_some, emap_nil, ↓eget_eset, ↓ae_tmp, asBool_bool, ↓vfinish_ret, ↓vres_nil, ↓vres_tmp, vtell_eq, ret1, Option.map_some, Option.bind_some, ↓reduceIte, Nat.reduceEqDiff, Bool.false_eq_true, decide_false, true_and, List.toList_toArray, List.length_nil, mapOwn_int, toks_int, okv_int, vthaw_nil, vwrites_nil, List.length_nil, vbin_int, abin_lss, Int.lt_irrefl, decide_false, Tryd.results64]
        subst h1 h2 h3
        rfl
      · refine Vc_unroll ?_
        simp -dsimp only [↓VWP_seq, ↓VWP_region, ↓VWP_cond, ↓VWP_ret, ↓VWP_skip, ↓VWP_block, ↓VReg_one, ↓VReg_nil, ↓VS_move, ↓VS_assign, ↓VS_load, ↓VS_binOp, ↓VS_indexAddr, ↓With_guard, ↓Hold_1, ↓Hold_3, With_some, emap_nil, ↓eget_eset, ↓ae_tmp, asBool_bool, ↓vfinish_ret, ↓vres_nil, ↓vres_tmp, vtell_eq, ret1, Option.map_some, Option.bind_some, ↓reduceIte, Nat.reduceEqDiff, decide_true, decide_false, Bool.not_false, List.getElem?_cons_zero, List.getElem?_cons_succ, true_and, List.toList_toArray, List.length_nil, mapOwn_int, toks_int, okv_int, Bool.not_false, vthaw_nil, vwrites_nil, List.length_nil, vload_at, cellV_int, vbin_int, abin_neq, abin_lss, Int.reduceLT, Int.reduceLE, Int.reduceToNat, decide_true, decide_false, ibne, vgt3, vix43, Tryd.results64, h3]
        simp [or3V, h1, h2]
    · refine Vc_unroll ?_
      simp -dsimp only [↓VWP_seq, ↓VWP_region, ↓VWP_cond, ↓VWP_ret, ↓VWP_skip, ↓VWP_block, ↓VReg_one, ↓VReg_nil, ↓VS_move, ↓VS_assign, ↓VS_load, ↓VS_binOp, ↓VS_indexAddr, ↓With_guard, ↓Hold_1, ↓Hold_3, With_some, emap_nil, ↓eget_eset, ↓ae_tmp, asBool_bool, ↓vfinish_ret, ↓vres_nil, ↓vres_tmp, vtell_eq, ret1, Option.map_some, Option.bind_some, ↓reduceIte, Nat.reduceEqDiff, decide_true, decide_false, Bool.not_false, List.getElem?_cons_zero, List.getElem?_cons_succ, true_and, List.toList_toArray, List.length_nil, mapOwn_int, toks_int, okv_int, Bool.not_false, vthaw_nil, vwrites_nil, List.length_nil, vload_at, cellV_int, vbin_int, abin_neq, abin_lss, Int.reduceLT, Int.reduceLE, Int.reduceToNat, decide_true, decide_false, ibne, vgt3, vix43, Tryd.results64, h2]
      simp [or3V, h1, h2]
  · refine Vc_unroll ?_
    simp -dsimp only [↓VWP_seq, ↓VWP_region, ↓VWP_cond, ↓VWP_ret, ↓VWP_skip, ↓VWP_block, ↓VReg_one, ↓VReg_nil, ↓VS_move, ↓VS_assign, ↓VS_load, ↓VS_binOp, ↓VS_indexAddr, ↓With_guard, ↓Hold_1, ↓Hold_3, With_some, emap_nil, ↓eget_eset, ↓ae_tmp, asBool_bool, ↓vfinish_ret, ↓vres_nil, ↓vres_tmp, vtell_eq, ret1, Option.map_some, Option.bind_some, ↓reduceIte, Nat.reduceEqDiff, decide_true, decide_false, Bool.not_false, List.getElem?_cons_zero, true_and, List.toList_toArray, List.length_nil, mapOwn_int, toks_int, okv_int, Bool.not_false, vthaw_nil, vwrites_nil, List.length_nil, vload_at, cellV_int, vbin_int, abin_neq, abin_lss, Int.reduceLT, Int.reduceLE, Int.reduceToNat, decide_true, decide_false, ibne, vgt3, vix43, Tryd.results64, h1]
    simp [or3V, h1]
end
end Go.Proofs.YtmdpggecelheoaaDoor.Abs
/- How two values compare: the whole. -/
set_option linter.unusedVariables false
set_option linter.unusedSimpArgs false
set_option maxRecDepth 4000
set_option maxHeartbeats 0
namespace Go.Proofs.YtmdpggecelheoaaDoor.Abs
open Go
attribute [local irreducible] Hold VReg Vf Vc VWP With VStp Vcallee Vp VE
section
variable {X : VOuter}
theorem cmpor_c (hX : X 64 = none) (t : Nat) (a b c : Int) {S : VH} {K : VCont} : Vcallee Tryd.prog X 64 [vo (t, none) 1 0 [.int .i64 a, .int .i64 b, .int .i64 c]] S K = K (.int .i64 (or3V a b c)) [] S [] false := Vcallee_of (cmpor_p hX 1 a b c) rfl rfl rfl
theorem compare_p (hX : X 155 = none) (hX1 : X 53 = none) (hX2 : X 66 = none) (hX3 : X 65 = none) (hX4 : X 64 = none) (hX5 : X 84 = none) (hX6 : X 83 = none) (k n : Int) (s : ByteArray) (k' n' : Int) (s' : ByteArray) : Vp Tryd.prog X 155 [.agg ⟨[.int .i64 k, .int .i64 n, .string s]⟩, .agg ⟨[.int .i64 k', .int .i64 n', .string s']⟩] (.int .i64 (cmpF ⟨k, n, s⟩ ⟨k', n', s'⟩)) := by
  unfold Vp
  refine Vf_text hX Tryd.func155 rfl (by kernel_rfl) (by show 2 ≤ _; decide) ?_
  cases h1 : rightF ⟨k, n, s⟩
  · simp -dsimp only [↓Hold_5, ↓VWP_seq, ↓VWP_region, ↓VWP_cond, ↓VWP_ret, ↓VReg_one, ↓VReg_nil, ↓VS_guard, ↓VS_move, ↓VS_assign, ↓VS_pick, ↓VS_load, ↓VS_unOp, ↓VS_box, ↓With_guard, ↓Hold_1, With_some, emap_nil, ↓eget_eset, ↓ae_tmp, ↓ae_int, ↓ae_bool, eget_zero, eget_succ, lop_pick, lop_not, asBool_bool, asGuard_bool, bb_tf, ayielded_eq, ↓dstAt_zero, ↓dstAt_succ, ↓vfinish_ret, ↓vres_nil, ↓vres_tmp, vtell_eq, ret1, Option.map_some, Option.bind_some, ↓reduceIte, Nat.reduceEqDiff, Bool.false_eq_true, Bool.not_false, Nat.zero_add, Nat.add_zero, Nat.reduceAdd, Nat.reduceLeDiff, true_and, List.map_cons, List.map_nil, List.all_cons, List.all_nil, tup_int, tup_str, tup_agg, cel_agg, List.drop_zero, List.toList_toArray, List.length_cons, List.length_nil, mapOwn_int, toksL_nil, toksL_cons, toks_int, toks_string, okv_int, okv_string, List.all_nil, List.all_cons, List.append_nil, List.nil_append, List.cons_append, List.map_nil, List.map_cons, Bool.and_self, Bool.not_false, beq_self_eq_true, vnext_mk, vpush_mk, vget_nil, cellsIn_mk, vthaw_nil, vwrites_nil, List.getD_cons_zero, List.length_cons, List.length_nil, List.drop_zero, List.take_succ_cons, List.take_zero, ↓vbox_free, cellsOk_free, cellF, beq_self_eq_true, beq_self_eq_true, bb_tf, vld48, ↓vfk53, Tryd.results155, ↓valright_c hX1, h1]
    simp [cmpF, h1]
  · cases h2 : rightF ⟨k', n', s'⟩
    · simp -dsimp only [↓Hold_5, ↓VWP_seq, ↓VWP_region, ↓VWP_cond, ↓VWP_ret, ↓VReg_one, ↓VReg_nil, ↓VS_guard, ↓VS_move, ↓VS_assign, ↓VS_pick, ↓VS_load, ↓VS_unOp, ↓VS_box, ↓With_guard, ↓Hold_1, With_some, emap_nil, ↓eget_eset, ↓ae_tmp, ↓ae_int, eget_zero, eget_succ, lop_pick, lop_not, asBool_bool, asGuard_bool, ayielded_eq, ↓dstAt_zero, ↓dstAt_succ, ↓vfinish_ret, ↓vres_nil, ↓vres_tmp, vtell_eq, ret1, Option.map_some, Option.bind_some, ↓reduceIte, Nat.reduceEqDiff, Bool.false_eq_true, Bool.not_true, Bool.not_false, Nat.zero_add, Nat.add_zero, Nat.reduceAdd, Nat.reduceLeDiff, true_and, List.map_cons, List.map_nil, List.all_cons, List.all_nil, tup_int, tup_str, tup_agg, cel_agg, List.drop_zero, List.toList_toArray, List.length_cons, List.length_nil, mapOwn_int, toksL_nil, toksL_cons, toks_int, toks_string, okv_int, okv_string, List.all_nil, List.all_cons, List.append_nil, List.nil_append, List.cons_append, List.map_nil, List.map_cons, Bool.and_self, Bool.not_true, Bool.not_false, beq_self_eq_true, vnext_mk, vpush_mk, vget_nil, cellsIn_mk, vthaw_nil, vwrites_nil, List.getD_cons_zero, List.getD_cons_succ, List.length_cons, List.length_nil, List.drop_zero, List.take_succ_cons, List.take_zero, ↓vbox_free, cellsOk_free, cellF, beq_self_eq_true, beq_self_eq_true, vld48, ↓vfk53, Tryd.results155, ↓valright_c hX1, h1, h2]
      simp [cmpF, h1, h2]
    · simp -dsimp only [↓Hold_5, ↓VWP_seq, ↓VWP_region, ↓VWP_cond, ↓VWP_skip, ↓VWP_open, ↓VReg_one, ↓VReg_nil, ↓VS_guard, ↓VS_move, ↓VS_assign, ↓VS_pick, ↓VS_load, ↓VS_unOp, ↓VS_box, ↓Hold_1, With_some, emap_nil, ↓eget_eset, ↓ae_tmp, ↓ae_int, eget_zero, eget_succ, lop_pick, lop_not, asBool_bool, asGuard_bool, ayielded_eq, ↓dstAt_zero, ↓dstAt_succ, Option.bind_some, ↓reduceIte, Nat.reduceEqDiff, Bool.false_eq_true, Bool.not_true, Bool.not_false, Nat.zero_add, Nat.add_zero, Nat.reduceAdd, Nat.reduceLeDiff, true_and, List.map_cons, List.map_nil, List.all_cons, List.all_nil, tup_int, tup_str, tup_agg, cel_agg, List.drop_zero, List.toList_toArray, List.length_cons, List.length_nil, toksL_nil, toksL_cons, toks_int, toks_string, okv_int, okv_string, List.all_nil, List.all_cons, List.append_nil, List.nil_append, List.cons_append, List.map_nil, List.map_cons, Bool.and_self, Bool.not_true, Bool.not_false, beq_self_eq_true, vnext_mk, vpush_mk, vget_nil, cellsIn_mk, List.getD_cons_zero, List.getD_cons_succ, List.length_cons, List.length_nil, List.drop_zero, List.take_succ_cons, List.take_zero, ↓vbox_free, cellsOk_free, cellF, beq_self_eq_true, beq_self_eq_true, vld48, ↓vfk53, ↓valright_c hX1, h1, h2]
      first | refine Vc_open [[], [], [], [], [], [], [0], [], [0], [], [], [0, 1], [], [0, 1], [], [], [], []] true (by kernel_rfl) (by kernel_rfl) (by kernel_rfl) ?_ | refine Vc_open [[], [], [], [], [], [], [0], [], [0], [], [], [0, 1], [], [0, 1], [], [], [], []] false (by kernel_rfl) (by kernel_rfl) (by kernel_rfl) ?_ | refine Vc_open2 [[], [], [], [], [], [], [0], [], [0], [], [], [0, 1], [], [0, 1], [], [], [], []] true (by kernel_rfl) (by kernel_rfl) (by kernel_rfl) (by kernel_rfl) ?_ | refine Vc_open2 [[], [], [], [], [], [], [0], [], [0], [], [], [0, 1], [], [0, 1], [], [], [], []] false (by kernel_rfl) (by kernel_rfl) (by kernel_rfl) (by kernel_rfl) ?_
      simp -dsimp only [↓Hold_5, ↓VWP_ret, ↓VS_assign, ↓VS_load, ↓VS_fieldAddr, ↓VS_buildSlice, ↓With_guard, ↓Hold_1, ↓Hold_3, With_some, emap_nil, emap_cons, ↓eget_eset, ↓ae_tmp, light, ↓vfinish_ret, ↓vres_nil, ↓vres_tmp, vtell_eq, ret1, Option.map_some, Option.bind_some, ↓reduceIte, Nat.reduceEqDiff, Bool.false_eq_true, decide_true, decide_false, Bool.not_false, List.getElem?_cons_zero, List.getElem?_cons_succ, Nat.zero_add, Nat.add_zero, Nat.reduceAdd, Nat.reduceMul, Nat.reduceLT, Nat.reduceLeDiff, true_and, List.map_cons, List.map_nil, List.all_cons, List.all_nil, tup_int, cel_int, Bool.and_true, List.toList_toArray, List.size_toArray, List.length_cons, List.length_nil, mapOwn_int, toksL_nil, toksL_cons, toks_int, okv_int, List.all_nil, List.all_cons, List.append_nil, List.nil_append, List.cons_append, List.map_nil, List.map_cons, Bool.and_true, Bool.and_self, Bool.not_false, Bool.or_false, beq_self_eq_true, vget_nil, cellsIn_mk, vturn_nil, vthaw_one, vthaw_nil, boxesOf_nil, vwrites_nil, List.getD_cons_zero, List.getD_cons_succ, List.set_cons_zero, List.set_cons_succ, List.length_cons, List.length_nil, partsOk_nil, partsOk_cons, vfill_nil, vfill_cons, List.replicate_succ, List.replicate_zero, beq_self_eq_true, decide_true, decide_false, beq_self_eq_true, ↓VE_nil, ↓VE_one0, ↓VE_one1, ↓shade_one, shade_load, shade_fieldAddr, shade_call, Option.getD_some, ↓vobl_load, dep_box, isGone_int, isGone_string, depStep_box, vspan, List.range_succ, List.range_zero, Bool.or_true, Nat.min_def, Nat.max_def, List.reverse_cons, List.reverse_nil, vld3, vld9, vfp48_0, vfp48_1, vfp48_2, vbd43, ↓vfk66, ↓vfk65, ↓vfk64, Tryd.results155, ↓cmpi_c hX2 hX5, ↓cmps_c hX3 hX6, ↓cmpor_c hX4]
      simp [cmpF, h1, h2]
end
end Go.Proofs.YtmdpggecelheoaaDoor.Abs
/- Sums and differences. -/
set_option linter.unusedVariables false
set_option linter.unusedSimpArgs false
set_option maxRecDepth 4000
set_option maxHeartbeats 0
namespace Go.Proofs.YtmdpggecelheoaaDoor.Abs
open Go
attribute [local irreducible] Hold VReg Vf Vc VWP With VStp Vcallee Vp VE
theorem slit {P : Program} {t : TypeId} {x y : Operand} (l m : List UInt8) : abin P .eql t x y (.string ⟨l.toArray⟩) (.string ⟨m.toArray⟩) = some (.bool (l == m)) := by
  rw [abin_seql, ByteArray.toList_eq, ByteArray.toList_eq]
theorem lnil (a : UInt8) (l : List UInt8) : (([] : List UInt8) == a :: l) = false := _root_.id rfl
theorem lcons (a : UInt8) (l : List UInt8) : (a :: l == []) = false := _root_.id rfl
theorem ab_beq (x y : Operand) (p q : Bool) : abin Tryd.prog .eql 4 x y (.bool p) (.bool q) = some (.bool (p == q)) := abin_beql Tryd.underlying4 (by kernel_rfl)
section
variable {X : VOuter}
theorem compare_c (hX : X 155 = none) (hX1 : X 53 = none) (hX2 : X 66 = none) (hX3 : X 65 = none) (hX4 : X 64 = none) (hX5 : X 84 = none) (hX6 : X 83 = none) (k n : Int) (s : ByteArray) (k' n' : Int) (s' : ByteArray) {S : VH} {K : VCont} : Vcallee Tryd.prog X 155 [.agg ⟨[.int .i64 k, .int .i64 n, .string s]⟩, .agg ⟨[.int .i64 k', .int .i64 n', .string s']⟩] S K = K (.int .i64 (cmpF ⟨k, n, s⟩ ⟨k', n', s'⟩)) [] S [] false := Vcallee_of (compare_p hX hX1 hX2 hX3 hX4 hX5 hX6 k n s k' n' s') rfl rfl rfl
/-- What is not a comparison. -/
theorem acmp_p (hX0 : X 144 = none) (hX : X 155 = none) (hX1 : X 53 = none) (hX2 : X 66 = none) (hX3 : X 65 = none) (hX4 : X 64 = none) (hX5 : X 84 = none) (hX6 : X 83 = none) (c : UInt8) (h1 : (c == 60) = false) (h2 : (c == 61) = false) (h3 : (c == 62) = false) (k n : Int) (s : ByteArray) (k' n' : Int) (s' : ByteArray) : Vp Tryd.prog X 144 [.string ⟨#[c]⟩, .agg ⟨[.int .i64 k, .int .i64 n, .string s]⟩, .agg ⟨[.int .i64 k', .int .i64 n', .string s']⟩] (.tuple ⟨[.bool false, .bool false]⟩) := by
  unfold Vp
  refine Vf_text hX0 Tryd.func144 rfl (by kernel_rfl) (by show 3 ≤ _; decide) ?_
  simp -dsimp only [↓Hold_5, ↓VWP_seq, ↓VWP_region, ↓VWP_cond, ↓VWP_ret, ↓VWP_skip, ↓VWP_block, ↓VReg_one, ↓VReg_nil, ↓VS_move, ↓VS_assign, ↓VS_load, ↓VS_binOp, ↓VS_box, ↓With_guard, ↓Hold_1, With_some, emap_nil, ↓eget_eset, ↓ae_tmp, ↓ae_bool, ↓ae_string, eget_zero, eget_succ, asBool_bool, ↓vfinish_ret, ↓vres_nil, ↓vres_tmp, vtell_eq, ret1, Option.map_some, Option.bind_some, ↓reduceIte, Nat.reduceEqDiff, reduceCtorEq, Bool.false_eq_true, Bool.not_false, Nat.zero_add, Nat.add_zero, Nat.reduceAdd, Nat.reduceLeDiff, and_self, List.map_cons, List.map_nil, List.all_cons, List.all_nil, tup_int, tup_str, tup_agg, cel_agg, Bool.and_true, List.drop_zero, List.toList_toArray, List.length_cons, List.length_nil, mapOwn_tuple, mapOwn_bool, toksL_nil, toksL_cons, toks_int, toks_bool, toks_string, toks_tuple, okv_tuple, okv_bool, okv_int, okv_string, List.flatMap_nil, List.flatMap_cons, List.all_nil, List.all_cons, List.append_nil, List.nil_append, List.cons_append, List.map_nil, List.map_cons, Bool.and_true, Bool.and_self, Bool.not_false, beq_self_eq_true, vnext_mk, vpush_mk, vget_nil, cellsIn_mk, vthaw_nil, vwrites_nil, List.getD_cons_zero, List.getD_cons_succ, List.length_cons, List.length_nil, List.drop_zero, List.take_succ_cons, List.take_zero, vbin_string, ↓vbox_free, cellsOk_free, cellF, beq_self_eq_true, beq_self_eq_true, vld48, ↓vfk155, Tryd.results144, ↓compare_c hX hX1 hX2 hX3 hX4 hX5 hX6, slit, List.cons_beq_cons, h1, h2, h3, lnil]
theorem ain_p (hX : X 170 = none) (hX1 : X 51 = none) (hX2 : X 92 = none) (n : Int) (b : Bool) : Vp Tryd.prog X 170 [.int .i64 n, .bool b] (if b then iV n else eV 1).v := by
  unfold Vp
  refine Vf_text hX Tryd.func170 rfl (by kernel_rfl) (by show 2 ≤ _; decide) ?_
  cases b <;> simp -dsimp only [↓Hold_5, ↓VWP_seq, ↓VWP_region, ↓VWP_cond, ↓VWP_ret, ↓VWP_skip, ↓VReg_one, ↓VReg_non, ↓VReg_nil, ↓VS_move, ↓VS_unOp, ↓VS_store, ↓With_bindH, ↓With_guard, ↓Hold_1, With_some, emap_nil, ↓eget_eset, ↓ae_tmp, ↓ae_int, eget_zero, eget_succ, lop_not, asBool_bool, ↓vfinish_ret, ↓vres_nil, ↓vres_cell, vtell_eq, ret1, Option.map_some, ↓reduceIte, Nat.reduceEqDiff, reduceCtorEq, Bool.false_eq_true, decide_false, Bool.not_true, Bool.not_false, Nat.zero_add, Nat.add_zero, Nat.reduceAdd, Nat.reduceLT, Nat.reduceLeDiff, true_and, and_self, List.map_cons, List.map_nil, List.all_cons, List.all_nil, tup_int, tup_str, tup_agg, cel_agg, List.drop_zero, List.toList_toArray, List.size_toArray, List.length_cons, List.length_nil, mapOwn_agg, mapOwn_int, mapOwn_string, toksL_nil, toksL_cons, toks_int, toks_string, toks_agg, okv_agg, okv_int, okv_string, List.flatMap_nil, List.flatMap_cons, List.all_nil, List.all_cons, List.append_nil, List.nil_append, List.map_nil, List.map_cons, Bool.and_self, Bool.not_true, Bool.not_false, beq_self_eq_true, vnext_mk, vpush_mk, vget_nil, vput_nil, cellsIn_mk, vthaw_nil, vwrites_nil, List.getD_cons_zero, List.set_cons_zero, List.length_cons, List.length_nil, List.drop_zero, List.take_succ_cons, List.take_zero, ↓vlay_free, cellsOk_free, cellF, beq_self_eq_true, decide_false, beq_self_eq_true, setAll_whole, vld48, vst48, ↓val48, ↓vfk51, ↓vfk92, Tryd.results170, ↓err_c hX1, ↓int_c hX2] <;> rfl
theorem ain_c (hX : X 170 = none) (hX1 : X 51 = none) (hX2 : X 92 = none) (n : Int) (b : Bool) {S : VH} {K : VCont} : Vcallee Tryd.prog X 170 [.int .i64 n, .bool b] S K = K (.agg ⟨[.int .i64 (if b then iV n else eV 1).k, .int .i64 (if b then iV n else eV 1).n, .string (if b then iV n else eV 1).s]⟩) [] S [] false := Vcallee_of (ain_p hX hX1 hX2 n b) rfl (by cases b <;> rfl) (by cases b <;> rfl)
def subV (a b : Int) : VV := if decide (IntKind.i64.wrap (a - b) ≤ a) == decide (0 ≤ b) then iV (IntKind.i64.wrap (a - b)) else eV 1
theorem sub_p (hX : X 147 = none) (hX0 : X 170 = none) (hX1 : X 51 = none) (hX2 : X 92 = none) (a b : Int) : Vp Tryd.prog X 147 [.string ⟨#[45]⟩, .int .i64 a, .int .i64 b] (subV a b).v := by
  unfold Vp
  refine Vf_text hX Tryd.func147 rfl (by kernel_rfl) (by show 3 ≤ _; decide) ?_
  have q1 : ((45 : UInt8) == 43) = false := rfl
  by_cases h1 : IntKind.i64.wrap (a - b) ≤ a <;> by_cases h2 : 0 ≤ b <;> simp -dsimp only [↓Hold_5, ↓VWP_seq, ↓VWP_region, ↓VWP_cond, ↓VWP_ret, ↓VWP_block, ↓VReg_one, ↓VReg_non, ↓VReg_nil, ↓VS_move, ↓VS_assign, ↓VS_binOp, ↓VS_store, ↓With_bindH, ↓With_guard, ↓Hold_1, With_some, emap_nil, ↓eget_eset, ↓ae_tmp, ↓ae_int, ↓ae_string, eget_zero, eget_succ, asBool_bool, bb_ft, bb_tf, ↓vfinish_ret, ↓vres_nil, ↓vres_cell, vtell_eq, ret1, Option.map_some, ↓reduceIte, Nat.reduceEqDiff, reduceCtorEq, Bool.false_eq_true, decide_true, decide_false, Bool.not_false, Nat.zero_add, Nat.add_zero, Nat.reduceAdd, Nat.reduceLT, Nat.reduceLeDiff, true_and, and_self, List.map_cons, List.map_nil, List.all_cons, List.all_nil, tup_int, tup_str, tup_agg, cel_agg, Bool.and_true, List.drop_zero, List.toList_toArray, List.size_toArray, List.length_cons, List.length_nil, mapOwn_agg, mapOwn_int, mapOwn_string, toksL_nil, toksL_cons, toks_int, toks_string, toks_agg, okv_agg, okv_int, okv_string, List.flatMap_nil, List.flatMap_cons, List.all_nil, List.all_cons, List.append_nil, List.nil_append, List.map_nil, List.map_cons, Bool.and_true, Bool.and_self, Bool.not_false, beq_self_eq_true, vnext_mk, vpush_mk, vget_nil, vput_nil, cellsIn_mk, vthaw_nil, vwrites_nil, List.getD_cons_zero, List.set_cons_zero, List.length_cons, List.length_nil, List.drop_zero, List.take_succ_cons, List.take_zero, vbin_int, vbin_bool, vbin_string, ↓vlay_free, cellsOk_free, cellF, abin_leq, abin_geq, abin_sub, beq_self_eq_true, ge_iff_le, decide_true, decide_false, beq_self_eq_true, bb_ft, bb_tf, setAll_whole, vld48, vst48, ↓val48, ↓vfk170, Tryd.results147, ↓ain_c hX0 hX1 hX2, slit, List.cons_beq_cons, q1, h1, h2, ab_beq, beq_self_eq_true] <;> simp [subV, h1, h2, VV.v]
end
end Go.Proofs.YtmdpggecelheoaaDoor.Abs
