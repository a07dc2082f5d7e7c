/- The law FuncsChoose: what its text answers. -/
import Derived.Test.YtmdpggecelheoaaDoorMZ2
import Derived.WalkKit
import Derived.ProofKit
import Derived.OpenShut
import Derived.ShutString
import Derived.ChangeOld
import Derived.Below
import Derived.SizedLaws
import Derived.LaidMore
import Derived.Stop.Joined
import Derived.Test.YtmdpggecelheoaaDoorPA20
import Derived.Test.YtmdpggecelheoaaDoorMZ1
import Derived.Test.YtmdpggecelheoaaDoorRows
import Derived.Test.YtmdpggecelheoaaDoorCards
import Derived.Test.YtmdpggecelheoaaDoorTie
set_option linter.unusedVariables false
set_option linter.unusedSimpArgs false
set_option maxRecDepth 4000
set_option maxHeartbeats 0
namespace Go.Proofs.YtmdpggecelheoaaDoor.Abs
open Go
attribute [local irreducible] Hold VReg Vf Vc VWP With VStp Vcallee Vp VE
def fnL (n : Int) (g : FuncId) : Value := .tuple ⟨[.agg ⟨[.int .i64 n, .bool true, .func (.func g) #[] #[]]⟩, .bool true]⟩
theorem find_choose (S : VH) (K : VCont) : Vcallee Tryd.prog XZ 50 [.string ⟨#[67, 72, 79, 79, 83, 69]⟩] S K = K (fnL (-2) 121) [] S [] false := Vcallee_of (Vp_closed xz_off 6 (by kernel_rfl)) rfl rfl rfl
theorem find_match (S : VH) (K : VCont) : Vcallee Tryd.prog XZ 50 [.string ⟨#[77, 65, 84, 67, 72]⟩] S K = K (fnL (-3) 122) [] S [] false := Vcallee_of (Vp_closed xz_off 6 (by kernel_rfl)) rfl rfl rfl
def rowsC (n : Int) (l : List VV) : List RW := ⟨false, [iV n]⟩ :: l.map fun x => ⟨false, [x]⟩
theorem fix_right {x : VV} (h : rightF x = true) : fixV x = x := by simp [fixV, h]
theorem flat_ones : ∀ (l : List VV), (∀ x ∈ l, rightF x = true) → flatF (l.map fun x => (⟨false, [x]⟩ : RW)) = l
  | [], _ => rfl
  | x :: l, h => by
    have := flat_ones l fun y hy => h y (List.mem_cons_of_mem _ hy)
    unfold flatF at this ⊢
    rw [List.map_cons, List.flatMap_cons, this, List.map_cons, List.map_nil, fix_right (h x List.mem_cons_self)]
    rfl
theorem flat_rowsC (n : Int) (l : List VV) (h : ∀ x ∈ l, rightF x = true) : flatF (rowsC n l) = iV n :: l := by
  have := flat_ones l h
  unfold flatF rowsC at *
  rw [List.flatMap_cons, this]
  rfl
theorem fits_rowsC (n : Int) (l : List VV) (h : 1 ≤ l.length) : fitsF (-2) (rowsC n l) = true := by
  unfold fitsF
  rw [if_neg (by decide), if_pos rfl]
  have e : (2 : Int) ≤ (rowsC n l).length := by simp [rowsC]; omega
  rw [decide_eq_true e, Bool.true_and]
  simp [singleF, rowsC]
def chooseR (n : Int) (l : List VV) : VV := if n < 1 ∨ (l.length : Int) + 1 ≤ n then eV 7 else l.getD (n - 1).toNat zV
theorem call_choose (t : Nat) (n : Int) (l : List VV) (h1 : 1 ≤ l.length) (h2 : l.length ≤ 1000) (hr : ∀ x ∈ l, rightF x = true) (S : VH) (K : VCont) : Vcallee Tryd.prog XZ 33 [.string ⟨#[67, 72, 79, 79, 83, 69]⟩, vo (t, none) 1 0 ((rowsC n l).map (RW.v 0))] S K = K (.agg ⟨[.int .i64 (chooseR n l).k, .int .i64 (chooseR n l).n, .string (chooseR n l).s]⟩) [] S [] false :=
  Vcallee_of (Vp_congr (call_p xz_a rfl rfl rfl ⟨#[67, 72, 79, 79, 83, 69]⟩ (-2) true 121 (fun l => chooseF (l.headD zV) l.tail) find_choose (by kernel_rfl) false 1 0 (rowsC n l) (by simp [rowsC]; omega) (by rw [flat_rowsC n l hr]; simp; omega)
    (fun c S K => by rw [flat_rowsC n l hr]; exact Vcallee_of (choose_p xz_a rfl rfl c 1 1 n .empty l) (by simp only [mapOwnL_cons, mapOwnL_nil, lend_ol]; rfl) (by simp only [okvL_cons, okvL_nil, okv_sl, Bool.and_true]) rfl)) (by
      unfold callF
      rw [fits_rowsC n l h1, flat_rowsC n l hr]
      simp [chooseF, chooseR, num_i]
      rfl)) rfl (by simp only [okvL_cons, okvL_nil, Bool.and_true]; rfl) rfl
theorem flat_match (v : VV) (r : RW) (hv : rightF v = true) (hr : ∀ x ∈ r.l, rightF x = true) : flatF [⟨false, [v]⟩, r] = v :: r.l := by
  have e : r.l.map fixV = r.l := by
    conv => rhs; rw [← List.map_id r.l]
    exact List.map_congr_left fun x hx => fix_right (hr x hx)
  simp [flatF, fix_right hv, e]
theorem call_match (t : Nat) (k n : Int) (s : ByteArray) (c : Bool) (l : List VV) (h2 : l.length ≤ 1000) (hv : rightF ⟨k, n, s⟩ = true) (hr : ∀ x ∈ l, rightF x = true) (S : VH) (K : VCont) : Vcallee Tryd.prog XZ 33 [.string ⟨#[77, 65, 84, 67, 72]⟩, vo (t, none) 1 0 [vs 0 3 [.agg ⟨[.int .i64 k, .int .i64 n, .string s]⟩], sl c 0 3 (l.map VV.v)]] S K = K (.agg ⟨[.int .i64 (matchF ⟨k, n, s⟩ l).k, .int .i64 (matchF ⟨k, n, s⟩ l).n, .string (matchF ⟨k, n, s⟩ l).s]⟩) [] S [] false :=
  Vcallee_of (Vp_congr (call_p xz_a rfl rfl rfl ⟨#[77, 65, 84, 67, 72]⟩ (-3) true 122 (fun l => matchF (l.headD zV) l.tail) find_match (by kernel_rfl) false 1 0 [⟨false, [⟨k, n, s⟩]⟩, ⟨c, l⟩] (by simp) (by rw [flat_match _ _ hv hr]; simp; omega)
    (fun c' S K => by rw [flat_match _ _ hv hr]; exact Vcallee_of (match_p xz_a rfl c' 1 k n s l (by omega)) (by simp only [mapOwnL_cons, mapOwnL_nil, lend_ol]) (by simp only [okvL_cons, okvL_nil, okv_sl, Bool.and_true]) rfl)) (by
      unfold callF
      rw [flat_match _ _ hv hr]
      simp [fitsF, singleF]
      rfl)) rfl (by simp only [okvL_cons, okvL_nil, Bool.and_true]; rfl) rfl
theorem few1_c (t : Nat) (c : Bool) (l : List VV) (hl : (l.length : Int) ≤ 18) (S : VH) (K : VCont) : Vcallee Tryd.prog XZ 32 [vo (t, none) 1 0 [sl c 0 3 (l.map VV.v)]] S K = K (.bool (fewF [⟨c, l⟩])) [] S [] false :=
  Vcallee_of (few_p rfl false 1 0 [⟨c, l⟩] (by simp) (by intro r hr; simp at hr; subst hr; dsimp only; omega)) rfl rfl rfl
theorem self_vv (x y : Operand) (k n : Int) (s : ByteArray) : vbin Tryd.prog .eql 48 x y (.agg ⟨[.int .i64 k, .int .i64 n, .string s]⟩) (.agg ⟨[.int .i64 k, .int .i64 n, .string s]⟩) = some (.bool true) := by
  rw [vbin_agg _ _ _ _ _ rfl rfl]
  exact abin_aeql rfl rfl Tryd.eqGuardType48 (aeq_self 20 48 _ (by kernel_rfl))
theorem row_take (n : Int) (l : List VV) (i : Nat) (h : i < l.length) : (rowsC n (l.take (i + 1))).map (RW.v 0) = (rowsC n (l.take i)).map (RW.v 0) ++ [vs 0 3 [l[i].v]] := by
  rw [← List.take_append_getElem h]
  unfold rowsC
  rw [List.map_append, List.map_cons, List.map_cons, List.map_append]
  rfl
theorem all_take2 (l : List VV) (i : Nat) (h : i < l.length) (ha : ∀ x ∈ l.take i, rightF x = true ∧ x.k ≠ 4) (hr : rightF l[i] = true) (hk : l[i].k ≠ 4) : ∀ x ∈ l.take (i + 1), rightF x = true ∧ x.k ≠ 4 := by
  intro x hx
  rw [← List.take_append_getElem h] at hx
  rcases List.mem_append.1 hx with hx | hx
  · exact ha x hx
  · simp at hx; subst hx; exact ⟨hr, hk⟩
theorem law9 (c : Bool) (l : List VV) (n : Int) : Vf Tryd.prog XZ 9 [sl c 0 3 (l.map VV.v), .int .i64 n] [] fun v _ => v = .bool true := by
  refine Vf_text rfl Tryd.func9 rfl (by kernel_rfl) (by show 2 ≤ _; decide) ?_
  by_cases a1 : (l.length : Int) < 1
  · simp -dsimp only [↓Hold_5, ↓VWP_seq, ↓VWP_region, ↓VWP_cond, ↓VWP_ret, ↓VReg_one, ↓VReg_nil, ↓VS_guard, ↓VS_move, ↓VS_assign, ↓VS_pick, ↓VS_binOp, ↓VS_unOp, ↓VS_len, ↓With_guard, ↓Hold_1, With_some, emap_nil, ↓eget_eset, ↓ae_tmp, ↓ae_int, ↓ae_bool, eget_zero, lop_pick, lop_not, asBool_bool, asGuard_bool, bb_tf, ayielded_eq, ↓dstAt_zero, ↓dstAt_succ, ↓vfinish_ret, ↓vres_nil, ↓vres_tmp, vtell_eq, ret1, Option.map_some, Option.bind_some, ↓reduceIte, Nat.reduceEqDiff, reduceCtorEq, Bool.false_eq_true, decide_true, Bool.not_true, and_self, List.map_nil, List.toList_toArray, List.length_nil, mapOwn_bool, okv_bool, List.map_nil, Bool.not_true, beq_self_eq_true, List.length_nil, vbin_int, abin_lss, beq_self_eq_true, decide_true, beq_self_eq_true, bb_tf, Int.reduceNeg, vls42, ↓vfk31, Tryd.results9, ↓alive_c, a1, List.length_map]
  · by_cases a2 : (18 : Int) < l.length
    · simp -dsimp only [↓Hold_5, ↓VWP_seq, ↓VWP_region, ↓VWP_cond, ↓VWP_ret, ↓VReg_one, ↓VReg_nil, ↓VS_guard, ↓VS_move, ↓VS_assign, ↓VS_pick, ↓VS_binOp, ↓VS_unOp, ↓VS_len, ↓With_guard, ↓Hold_1, With_some, emap_nil, ↓eget_eset, ↓ae_tmp, ↓ae_int, ↓ae_bool, eget_zero, lop_pick, lop_not, asBool_bool, asGuard_bool, bb_tf, ayielded_eq, ↓dstAt_zero, ↓dstAt_succ, ↓vfinish_ret, ↓vres_nil, ↓vres_tmp, vtell_eq, ret1, Option.map_some, Option.bind_some, ↓reduceIte, Nat.reduceEqDiff, reduceCtorEq, Bool.false_eq_true, decide_true, decide_false, Bool.not_true, and_self, List.map_nil, List.toList_toArray, List.length_nil, mapOwn_bool, okv_bool, List.map_nil, Bool.not_true, beq_self_eq_true, List.length_nil, vbin_int, abin_lss, abin_gtr, beq_self_eq_true, gt_iff_lt, decide_true, decide_false, beq_self_eq_true, bb_tf, Int.reduceNeg, vls42, ↓vfk31, Tryd.results9, ↓alive_c, a1, a2, List.length_map]
    · by_cases a3 : n < -5
      · simp -dsimp only [↓Hold_5, ↓VWP_seq, ↓VWP_region, ↓VWP_cond, ↓VWP_ret, ↓VReg_one, ↓VReg_nil, ↓VS_guard, ↓VS_move, ↓VS_assign, ↓VS_pick, ↓VS_binOp, ↓VS_unOp, ↓VS_len, ↓With_guard, ↓Hold_1, With_some, emap_nil, ↓eget_eset, ↓ae_tmp, ↓ae_int, ↓ae_bool, eget_zero, eget_succ, lop_pick, lop_not, asBool_bool, asGuard_bool, bb_tf, ayielded_eq, ↓dstAt_zero, ↓dstAt_succ, ↓vfinish_ret, ↓vres_nil, ↓vres_tmp, vtell_eq, ret1, Option.map_some, Option.bind_some, ↓reduceIte, Nat.reduceEqDiff, reduceCtorEq, Bool.false_eq_true, decide_true, decide_false, Bool.not_true, and_self, List.map_nil, List.toList_toArray, List.length_nil, mapOwn_bool, okv_bool, List.map_nil, Bool.not_true, beq_self_eq_true, List.length_nil, vbin_int, abin_lss, abin_gtr, beq_self_eq_true, gt_iff_lt, decide_true, decide_false, beq_self_eq_true, bb_tf, Int.reduceNeg, vls42, ↓vfk31, Tryd.results9, ↓alive_c, a1, a2, a3, List.length_map]
      · by_cases a4 : 30 < n
        · simp -dsimp only [↓Hold_5, ↓VWP_seq, ↓VWP_region, ↓VWP_cond, ↓VWP_ret, ↓VReg_one, ↓VReg_nil, ↓VS_guard, ↓VS_move, ↓VS_assign, ↓VS_pick, ↓VS_binOp, ↓VS_unOp, ↓VS_len, ↓With_guard, ↓Hold_1, With_some, emap_nil, ↓eget_eset, ↓ae_tmp, ↓ae_int, ↓ae_bool, eget_zero, eget_succ, lop_pick, lop_not, asBool_bool, asGuard_bool, bb_tf, ayielded_eq, ↓dstAt_zero, ↓dstAt_succ, ↓vfinish_ret, ↓vres_nil, ↓vres_tmp, vtell_eq, ret1, Option.map_some, Option.bind_some, ↓reduceIte, Nat.reduceEqDiff, reduceCtorEq, Bool.false_eq_true, decide_true, decide_false, Bool.not_true, and_self, List.map_nil, List.toList_toArray, List.length_nil, mapOwn_bool, okv_bool, List.map_nil, Bool.not_true, beq_self_eq_true, List.length_nil, vbin_int, abin_lss, abin_gtr, beq_self_eq_true, gt_iff_lt, decide_true, decide_false, beq_self_eq_true, bb_tf, Int.reduceNeg, vls42, ↓vfk31, Tryd.results9, ↓alive_c, a1, a2, a3, a4, List.length_map]
        · have hf := fun t S K => few1_c t c l (by omega) S K
          cases a5 : fewF [⟨c, l⟩]
          · simp -dsimp only [↓Hold_5, toks_sl, thawAll_sl, okv_sl0, tup_sl, cel_sl, ↓VWP_seq, ↓VWP_region, ↓VWP_cond, ↓VWP_ret, ↓VReg_one, ↓VReg_nil, ↓VS_guard, ↓VS_move, ↓VS_assign, ↓VS_pick, ↓VS_binOp, ↓VS_unOp, ↓VS_len, ↓VS_buildSlice, ↓With_guard, ↓Hold_1, With_some, emap_nil, emap_cons, ↓eget_map, ↓eget_eset, ↓ae_tmp, ↓ae_int, ↓ae_bool, eget_zero, eget_succ, lop_pick, lop_not, asBool_bool, asGuard_bool, ayielded_eq, ↓dstAt_zero, ↓dstAt_succ, ↓vfinish_ret, ↓vres_nil, ↓vres_tmp, vtell_eq, ret1, Option.map_some, Option.bind_some, ↓reduceIte, Nat.reduceEqDiff, reduceCtorEq, Bool.false_eq_true, decide_true, decide_false, Bool.not_true, Bool.not_false, Nat.zero_add, Nat.reduceMul, Nat.reduceLT, Nat.reduceLeDiff, and_self, List.map_cons, List.map_nil, List.toList_toArray, List.size_toArray, List.length_cons, List.length_nil, mapOwn_bool, toksL_nil, toksL_cons, okv_bool, List.append_nil, List.map_nil, List.map_cons, Bool.and_self, Bool.not_true, Bool.not_false, beq_self_eq_true, vturn_nil, vthaw_one, boxesOf_nil, List.set_cons_zero, List.length_cons, List.length_nil, partsOk_nil, partsOk_cons, vfill_nil, vfill_cons, vbin_int, List.replicate_succ, List.replicate_zero, abin_lss, abin_gtr, beq_self_eq_true, gt_iff_lt, decide_true, decide_false, beq_self_eq_true, Int.reduceNeg, vbd46, vls42, ↓vfk31, ↓vfk32, Tryd.results9, ↓alive_c, a1, a2, a3, a4, ↓hf, a5, List.length_map]
          · simp -dsimp only [↓Hold_5, toks_sl, thawAll_sl, okv_sl0, tup_sl, cel_sl, ↓VWP_seq, ↓VWP_region, ↓VWP_cond, ↓VWP_skip, ↓VWP_block, ↓VWP_loop, ↓VReg_one, ↓VReg_nil, ↓VS_guard, ↓VS_move, ↓VS_assign, ↓VS_pick, ↓VS_build, ↓VS_binOp, ↓VS_unOp, ↓VS_len, ↓VS_buildSlice, ↓Hold_1, With_some, emap_nil, emap_cons, ↓eget_map, ↓eget_eset, ↓ae_tmp, ↓ae_int, ↓ae_bool, eget_zero, eget_succ, lop_pick, lop_not, asBool_bool, asGuard_bool, ayielded_eq, ↓dstAt_zero, ↓dstAt_succ, Option.map_some, Option.bind_some, ↓reduceIte, Nat.reduceEqDiff, reduceCtorEq, Bool.false_eq_true, decide_true, decide_false, Bool.not_true, Bool.not_false, Nat.zero_add, Nat.reduceAdd, Nat.reduceMul, Nat.reduceLT, Nat.reduceLeDiff, true_and, and_self, List.map_cons, List.map_nil, List.all_cons, List.all_nil, tup_int, cel_int, tup_agg, cel_agg, List.toList_toArray, List.size_toArray, List.length_cons, List.length_nil, mapOwn_vo, mapOwn_agg, mapOwn_bool, mapOwn_int, mapOwn_string, thawAll_own, toksL_nil, toksL_cons, toks_int, toks_string, toks_agg, toks_vo, okv_agg, okv_vs, okv_int, okv_string, List.flatMap_nil, List.flatMap_cons, List.all_nil, List.all_cons, List.append_nil, List.map_nil, List.map_cons, Bool.and_self, Bool.not_true, Bool.not_false, Bool.false_or, beq_self_eq_true, vturn_nil, vthaw_one, boxesOf_nil, boxesOf_none, List.set_cons_zero, List.set_cons_succ, List.length_cons, List.length_nil, partsOk_nil, partsOk_cons, vfill_nil, vfill_cons, vbin_int, tup_vo, cel_vo, List.replicate_succ, List.replicate_zero, abin_lss, abin_gtr, beq_self_eq_true, gt_iff_lt, decide_true, decide_false, beq_self_eq_true, afill, setAll, Int.reduceNeg, bd48, pl48_0, pl48_1, vbd46, vbd42, vls42, ↓vfk31, ↓vfk32, ↓alive_c, a1, a2, a3, a4, ↓hf, a5, List.length_map]
            refine Vc_loop (fun m e S => ∃ i : Nat, m = l.length - i ∧ i ≤ l.length ∧ eget e 0 = sl c 0 3 (l.map VV.v) ∧ eget e 1 = .int .i64 n ∧ eget e 6 = vo (41, none) 1 0 ((rowsC n (l.take i)).map (RW.v 0)) ∧ eget e 7 = .int .i64 i ∧ (∀ x ∈ l.take i, rightF x = true ∧ x.k ≠ 4) ∧ S = ⟨[], [], []⟩) l.length ?_ ?_
            · refine ⟨0, rfl, Nat.zero_le _, ?_, ?_, ?_, ?_, ?_, rfl⟩
              · simp only [↓eget_map, ↓eget_eset, eget_zero, ↓reduceIte, reduceCtorEq, thaw_sl]
              · simp only [↓eget_map, ↓eget_eset, eget_zero, eget_succ, ↓reduceIte, Nat.reduceEqDiff, mapOwn_int]
              · simp only [↓eget_eset, ↓reduceIte, Nat.reduceEqDiff]
                rfl
              · simp only [↓eget_eset, ↓reduceIte]
                rfl
              · simp
            · rintro m e S ⟨i, rfl, hi, e0, e1, e6, e7, hall, rfl⟩
              refine VWP_Vc _ _ _ _ ?_
              by_cases hin : i < l.length
              · have hlt : (i : Int) < l.length := by omega
                have h0 : (0 : Int) ≤ i := by omega
                have hx : (l.map VV.v)[i]? = some l[i].v := by simp [hin]
                have ht := row_take n l i hin
                have hal := all_take2 l i hin hall
                have hnum : ((i : Int) + 1) = ((i + 1 : Nat) : Int) := by omega
                have hwr : IntKind.i64.wrap ((i : Int) + 1) = ((i + 1 : Nat) : Int) := by rw [hnum]; exact wrap_id (by omega) (by omega)
                have hlen : ((rowsC n (l.take i)).map (RW.v 0)).length = i + 1 := by simp [rowsC]; omega
                generalize (rowsC n (l.take i)).map (RW.v 0) = N at e6 ht hlen
                generalize l[i] = x at hx ht hal
                obtain ⟨k, m, s⟩ := x
                simp only [VV.v] at hx
                cases h1 : rightF ⟨k, m, s⟩
                · simp -dsimp only [↓Hold_5, ↓VWP_seq, ↓VWP_region, ↓VWP_cond, ↓VWP_ret, ↓VWP_skip, ↓VWP_block, ↓VReg_one, ↓VReg_nil, ↓VS_guard, ↓VS_move, ↓VS_assign, ↓VS_pick, ↓VS_load, ↓VS_binOp, ↓VS_unOp, ↓VS_indexAddr, ↓VS_len, ↓With_guard, ↓Hold_1, ↓Hold_3, With_some, emap_nil, ↓eget_eset, ↓ae_tmp, ↓ae_bool, lop_pick, lop_not, asBool_bool, asGuard_bool, bb_tf, ayielded_eq, ↓dstAt_zero, ↓dstAt_succ, ↓vfinish_ret, ↓vres_nil, ↓vres_tmp, vtell_eq, ret1, Option.map_some, Option.bind_some, ↓reduceIte, Nat.reduceEqDiff, reduceCtorEq, Bool.false_eq_true, decide_true, Bool.not_false, Nat.zero_add, Nat.reduceAdd, and_self, List.map_cons, List.map_nil, List.toList_toArray, List.length_cons, List.length_nil, mapOwn_bool, okv_bool, List.map_nil, List.map_cons, Bool.not_false, List.length_cons, List.length_nil, vload_at, aggV_agg, vbin_int, abin_lss, Int.toNat_natCast, decide_true, bb_tf, vgt48, vis42, vls42, ↓vfk34, Tryd.results9, e0, e7, hlt, h0, hx, ↓qright_c (X := XZ) rfl, h1, List.length_map]
                · by_cases hk : k = 4
                  · subst hk
                    simp -dsimp only [↓Hold_5, ↓VWP_seq, ↓VWP_region, ↓VWP_cond, ↓VWP_ret, ↓VWP_skip, ↓VWP_block, ↓VReg_one, ↓VReg_nil, ↓VS_guard, ↓VS_move, ↓VS_assign, ↓VS_pick, ↓VS_load, ↓VS_binOp, ↓VS_unOp, ↓VS_fieldAddr, ↓VS_indexAddr, ↓VS_len, ↓With_guard, ↓Hold_1, ↓Hold_3, With_some, emap_nil, ↓eget_eset, ↓ae_tmp, ↓ae_int, ↓ae_bool, lop_pick, lop_not, asBool_bool, asGuard_bool, ayielded_eq, ↓dstAt_zero, ↓dstAt_succ, ↓vfinish_ret, ↓vres_nil, ↓vres_tmp, vtell_eq, ret1, Option.map_some, Option.bind_some, ↓reduceIte, Nat.reduceEqDiff, reduceCtorEq, Bool.false_eq_true, decide_true, Bool.not_true, List.getElem?_cons_zero, Nat.zero_add, Nat.reduceAdd, and_self, List.map_cons, List.map_nil, List.toList_toArray, List.length_cons, List.length_nil, mapOwn_bool, okv_bool, List.map_nil, List.map_cons, Bool.not_true, beq_self_eq_true, List.length_cons, List.length_nil, vload_at, vfield_at, cellV_int, aggV_agg, isAggV_int, vbin_int, abin_eql, abin_lss, beq_self_eq_true, Int.toNat_natCast, decide_true, beq_self_eq_true, vgt48, vgt3, vpt48_0, vis42, vls42, ↓vfk34, Tryd.results9, e0, e7, hlt, h0, hx, ↓qright_c (X := XZ) rfl, h1, List.length_map]
                  · simp -dsimp only [↓Hold_5, thaw_sl, scrub_sl, ↓VWP_seq, ↓VWP_region, ↓VWP_cond, ↓VWP_skip, ↓VWP_block, ↓VReg_one, ↓VReg_nil, ↓VS_guard, ↓VS_move, ↓VS_assign, ↓VS_pick, ↓VS_load, ↓VS_binOp, ↓VS_unOp, ↓VS_fieldAddr, ↓VS_indexAddr, ↓VS_len, ↓VS_buildSlice, ↓VS_append, ↓With_guard, ↓Hold_1, With_some, emap_nil, emap_cons, ↓eget_map, ↓eget_eset, ↓ae_tmp, ↓ae_int, lop_pick, lop_not, asBool_bool, asGuard_bool, ayielded_eq, ↓dstAt_zero, ↓dstAt_succ, Option.map_some, Option.bind_some, ↓reduceIte, Nat.reduceEqDiff, reduceCtorEq, Bool.false_eq_true, decide_true, decide_false, Bool.not_true, Bool.not_false, List.getElem?_cons_zero, Nat.zero_add, Nat.reduceAdd, Nat.reduceMul, Nat.reduceLT, Nat.reduceLeDiff, and_true, true_and, List.map_cons, List.map_nil, List.all_cons, List.all_nil, tup_agg, cel_agg, List.size_toArray, List.length_cons, List.length_nil, mapOwn_vo, mapOwn_agg, mapOwn_int, mapOwn_string, thaw_own, thawAll_own, toksL_nil, toksL_cons, toks_int, toks_string, toks_agg, toks_vo, okv_agg, okv_vs, okv_int, okv_string, List.flatMap_nil, List.flatMap_cons, List.all_nil, List.all_cons, List.append_nil, List.map_nil, List.map_cons, Bool.and_self, Bool.not_true, Bool.not_false, Bool.false_or, List.mem_cons, List.not_mem_nil, or_false, Prod.mk.injEq, beq_self_eq_true, vturn_nil, vthaw_one, boxesOf_nil, boxesOf_none, ownBox_none, List.set_cons_zero, List.length_cons, List.length_nil, vload_at, vfield_at, cellV_int, aggV_agg, isAggV_int, velems_own, vgrow_own, partsOk_nil, partsOk_cons, vfill_nil, vfill_cons, vbin_int, tup_vo, cel_vo, List.replicate_succ, List.replicate_zero, abin_eql, abin_lss, abin_add, beq_self_eq_true, Int.toNat_natCast, decide_true, decide_false, beq_self_eq_true, ibeq, vgt48, vgt3, vpt48_0, vbd46, vbd42, vis42, vls42, vap46, ↓vfk34, e0, e1, e6, e7, hlt, h0, hx, ↓qright_c (X := XZ) rfl, h1, hk, hlen, List.length_map]
                    exact ⟨⟨by omega, by omega⟩, l.length - (i + 1), by omega, i + 1, rfl, by omega, by rw [ht]; rfl, by rw [hwr], hal h1 hk⟩
              · obtain rfl : i = l.length := by omega
                have hlt : ¬ ((l.length : Int) < l.length) := by omega
                rw [List.take_length] at e6 hall
                have hr : ∀ x ∈ l, rightF x = true := fun x hx => (hall x hx).1
                have cc := fun t S K => call_choose t n l (by omega) (by omega) hr S K
                by_cases b1 : n < 1
                · have hR : chooseR n l = eV 7 := by unfold chooseR; rw [if_pos (.inl b1)]
                  rw [hR] at cc
                  simp only [eV] at cc
                  simp -dsimp only [↓Hold_5, ↓VWP_seq, ↓VWP_region, ↓VWP_cond, ↓VWP_ret, ↓VWP_exit, ↓VReg_one, ↓VReg_non, ↓VReg_nil, ↓VS_guard, ↓VS_move, ↓VS_assign, ↓VS_pick, ↓VS_build, ↓VS_load, ↓VS_binOp, ↓VS_len, ↓VS_store, ↓With_guard, ↓Hold_1, ↓Hold_3, With_some, emap_nil, ↓eget_eset, ↓ae_tmp, ↓ae_int, ↓ae_bool, ↓ae_string, lop_pick, asBool_bool, asGuard_bool, bb_tf, ayielded_eq, ↓dstAt_zero, ↓dstAt_succ, ↓vfinish_ret, ↓vres_nil, ↓vres_tmp, vtell_eq, ret1, Option.map_some, Option.bind_some, ↓reduceIte, Nat.reduceEqDiff, reduceCtorEq, Bool.false_eq_true, decide_true, decide_false, Bool.not_false, Nat.zero_add, Nat.add_zero, Nat.reduceAdd, Nat.reduceLT, Nat.reduceLeDiff, true_and, and_self, List.map_cons, List.map_nil, List.all_cons, List.all_nil, tup_int, cel_int, tup_str, tup_agg, cel_agg, List.drop_zero, List.toList_toArray, List.size_toArray, List.length_cons, List.length_nil, mapOwn_bool, toksL_nil, toksL_cons, toks_int, toks_string, okv_bool, okv_int, okv_string, List.all_nil, List.all_cons, List.append_nil, List.nil_append, List.map_nil, List.map_cons, Bool.and_self, Bool.not_false, beq_self_eq_true, vnext_mk, vpush_mk, vget_nil, vput_nil, cellsIn_mk, List.getD_cons_zero, List.set_cons_zero, List.set_cons_succ, List.length_cons, List.length_nil, List.drop_zero, List.take_succ_cons, List.take_zero, vbin_int, ↓vlay_free, cellsOk_free, cellF, abin_lss, beq_self_eq_true, decide_true, decide_false, beq_self_eq_true, bb_tf, setAll_whole, afill, setAll, vld48, vst48, ↓val48, bd48, pl48_0, pl48_1, vls42, ↓vfk33, Tryd.results9, e0, e1, e6, e7, hlt, ↓cc, b1, ↓self_vv, List.length_map]
                · by_cases b2 : (l.length : Int) < n
                  · have hR : chooseR n l = eV 7 := by unfold chooseR; rw [if_pos (.inr (by omega))]
                    rw [hR] at cc
                    simp only [eV] at cc
                    simp -dsimp only [↓Hold_5, ↓VWP_seq, ↓VWP_region, ↓VWP_cond, ↓VWP_ret, ↓VWP_exit, ↓VReg_one, ↓VReg_non, ↓VReg_nil, ↓VS_guard, ↓VS_move, ↓VS_assign, ↓VS_pick, ↓VS_build, ↓VS_load, ↓VS_binOp, ↓VS_len, ↓VS_store, ↓With_guard, ↓Hold_1, ↓Hold_3, With_some, emap_nil, ↓eget_eset, ↓ae_tmp, ↓ae_int, ↓ae_string, lop_pick, asBool_bool, asGuard_bool, ayielded_eq, ↓dstAt_zero, ↓dstAt_succ, ↓vfinish_ret, ↓vres_nil, ↓vres_tmp, vtell_eq, ret1, Option.map_some, Option.bind_some, ↓reduceIte, Nat.reduceEqDiff, reduceCtorEq, Bool.false_eq_true, decide_true, decide_false, Bool.not_false, Nat.zero_add, Nat.add_zero, Nat.reduceAdd, Nat.reduceLT, Nat.reduceLeDiff, true_and, and_self, List.map_cons, List.map_nil, List.all_cons, List.all_nil, tup_int, cel_int, tup_str, tup_agg, cel_agg, List.drop_zero, List.toList_toArray, List.size_toArray, List.length_cons, List.length_nil, mapOwn_bool, toksL_nil, toksL_cons, toks_int, toks_string, okv_bool, okv_int, okv_string, List.all_nil, List.all_cons, List.append_nil, List.nil_append, List.map_nil, List.map_cons, Bool.and_self, Bool.not_false, beq_self_eq_true, vnext_mk, vpush_mk, vget_nil, vput_nil, cellsIn_mk, List.getD_cons_zero, List.set_cons_zero, List.set_cons_succ, List.length_cons, List.length_nil, List.drop_zero, List.take_succ_cons, List.take_zero, vbin_int, ↓vlay_free, cellsOk_free, cellF, abin_lss, abin_gtr, beq_self_eq_true, gt_iff_lt, decide_true, decide_false, beq_self_eq_true, setAll_whole, afill, setAll, vld48, vst48, ↓val48, bd48, pl48_0, pl48_1, vls42, ↓vfk33, Tryd.results9, e0, e1, e6, e7, hlt, ↓cc, b1, b2, ↓self_vv, List.length_map]
                  · have hi : (n - 1).toNat < l.length := by omega
                    have hR : chooseR n l = l[(n - 1).toNat] := by
                      unfold chooseR
                      rw [if_neg (by omega), List.getD_eq_getElem?_getD, List.getElem?_eq_getElem hi]
                      rfl
                    have hj : l[(n - 1).toNat]? = some l[(n - 1).toNat] := List.getElem?_eq_getElem hi
                    have hxr := hall _ (List.getElem_mem hi)
                    rw [hR] at cc
                    generalize l[(n - 1).toNat] = x at cc hj hxr
                    obtain ⟨m, hm1, hm2, hm3⟩ := matchGo_spec hxr.1 hxr.2 l 0 _ hr hj
                    have hM : matchF x l = iV ((m : Int) + 1) := by
                      unfold matchF
                      rw [if_neg hxr.2, hm2, Nat.zero_add]
                    have g1 : (l.map VV.v)[(n - 1).toNat]? = some x.v := by rw [List.getElem?_map, hj]; rfl
                    have g2 : (l.map VV.v)[m]? = some x.v := by rw [List.getElem?_map, hm3]; rfl
                    obtain ⟨k, q, s⟩ := x
                    have cm := fun t S K => call_match t k q s c l (by omega) hxr.1 hr S K
                    rw [hM] at cm
                    simp only [iV] at cm
                    simp only [VV.v] at g1 g2
                    have w1 : IntKind.i64.wrap (n - 1) = n - 1 := wrap_id (by omega) (by omega)
                    have w2 : IntKind.i64.wrap ((m : Int) + 1 - 1) = m := by rw [wrap_id (by omega) (by omega)]; omega
                    have q0 : 0 ≤ n - 1 := by omega
                    have q1 : (1 : Int) ≤ (m : Int) + 1 := by omega
                    have q2 : (m : Int) + 1 ≤ n := by omega
                    have q3 : (0 : Int) ≤ m := by omega
                    simp -dsimp only [↓Hold_5, toks_sl, thaw_sl, thawAll_sl, okv_sl0, tup_sl, cel_sl, ↓VWP_seq, ↓VWP_region, ↓VWP_cond, ↓VWP_skip, ↓VWP_exit, ↓VWP_open, ↓VReg_one, ↓VReg_non, ↓VReg_nil, ↓VS_guard, ↓VS_move, ↓VS_pick, ↓VS_load, ↓VS_binOp, ↓VS_len, ↓VS_buildSlice, ↓VS_store, ↓Hold_1, ↓Hold_3, With_some, emap_nil, emap_cons, ↓eget_map, ↓eget_eset, ↓ae_tmp, ↓ae_int, ↓ae_string, lop_pick, asBool_bool, asGuard_bool, ayielded_eq, ↓dstAt_zero, ↓dstAt_succ, Option.bind_some, ↓reduceIte, Nat.reduceEqDiff, reduceCtorEq, Bool.false_eq_true, decide_true, decide_false, Bool.not_true, Bool.not_false, Nat.zero_add, Nat.add_zero, Nat.reduceAdd, Nat.reduceMul, Nat.reduceLT, Nat.reduceLeDiff, and_self, List.map_cons, List.map_nil, List.all_cons, List.all_nil, tup_int, tup_str, tup_agg, cel_agg, List.drop_zero, List.toList_toArray, List.size_toArray, List.length_cons, List.length_nil, mapOwn_vo, mapOwn_agg, mapOwn_int, mapOwn_string, thawAll_own, toksL_nil, toksL_cons, toks_int, toks_string, toks_agg, toks_vo, okv_agg, okv_vs, okv_int, okv_string, List.flatMap_nil, List.flatMap_cons, List.all_nil, List.all_cons, List.append_nil, List.nil_append, List.cons_append, List.map_nil, List.map_cons, Bool.and_self, Bool.not_true, Bool.not_false, Bool.false_or, beq_self_eq_true, vnext_mk, vpush_mk, vget_nil, vput_nil, cellsIn_mk, vturn_nil, vthaw_one, boxesOf_nil, boxesOf_none, List.getD_cons_zero, List.getD_cons_succ, List.set_cons_zero, List.set_cons_succ, List.length_cons, List.length_nil, List.drop_zero, List.take_succ_cons, List.take_zero, partsOk_nil, partsOk_cons, vfill_nil, vfill_cons, vbin_int, ↓vlay_free, cellsOk_free, cellF, tup_vo, cel_vo, List.replicate_succ, List.replicate_zero, abin_lss, abin_gtr, beq_self_eq_true, gt_iff_lt, decide_true, decide_false, beq_self_eq_true, setAll_whole, vld48, vst48, ↓val48, vbd46, vbd42, vls42, ↓vfk33, e0, e1, e6, e7, hlt, ↓cc, ↓cm, b1, b2, List.length_map]
                    first | refine Vc_open [[], [], [], [], [], [], [], [], [], [], [], [], [], [], [], [], [], [], [], [], [], [], [], [], [], [], [], [], [], [], [], [], [], []] false (by kernel_rfl) (by kernel_rfl) (by kernel_rfl) ?_ | refine Vc_open2 [[], [], [], [], [], [], [], [], [], [], [], [], [], [], [], [], [], [], [], [], [], [], [], [], [], [], [], [], [], [], [], [], [], []] false (by kernel_rfl) (by kernel_rfl) (by kernel_rfl) (by kernel_rfl) ?_
                    simp -dsimp only [thaw_sl, ↓VWP_ret, ↓VS_guard, ↓VS_move, ↓VS_assign, ↓VS_pick, ↓VS_load, ↓VS_binOp, ↓VS_fieldAddr, ↓VS_indexAddr, ↓With_guard, ↓Hold_1, ↓Hold_3, With_some, emap_nil, ↓eget_map, ↓eget_eset, ↓ae_tmp, ↓ae_int, lop_pick, asGuard_bool, ayielded_eq, ↓dstAt_zero, ↓dstAt_succ, light, ↓vfinish_ret, ↓vres_nil, ↓vres_tmp, vtell_eq, ret1, Option.map_some, Option.bind_some, ↓reduceIte, Nat.reduceEqDiff, reduceCtorEq, decide_true, List.getElem?_cons_zero, List.getElem?_cons_succ, Nat.zero_add, Nat.add_zero, Nat.reduceAdd, Nat.reduceLeDiff, and_self, List.all_nil, List.drop_zero, List.toList_toArray, List.length_cons, List.length_nil, mapOwn_bool, mapOwn_int, mapOwn_pointer, okv_bool, List.all_nil, beq_self_eq_true, vget_nil, cellsIn_mk, List.getD_cons_zero, List.getD_cons_succ, List.length_cons, List.length_nil, List.drop_zero, List.take_succ_cons, List.take_zero, vload_at, aggV_agg, vbin_int, abin_eql, abin_leq, abin_geq, abin_sub, beq_self_eq_true, Int.toNat_natCast, ge_iff_le, decide_true, beq_self_eq_true, ↓VE_nil, ↓VE_one0, List.reverse_nil, vld48, vgt48, vld3, vfp48_0, vfp48_1, vis42, Tryd.results9, e0, e1, w1, w2, q0, q1, q2, q3, ↓self_vv, g1, g2]
end Go.Proofs.YtmdpggecelheoaaDoor.Abs
/- What a row of numbers needs. -/
namespace Go.Proofs.YtmdpggecelheoaaDoor.Abs
open Go
end Go.Proofs.YtmdpggecelheoaaDoor.Abs
/- What rows of values that are arguments lay into the plain heap, and how they read. -/
set_option linter.unusedVariables false
set_option linter.unusedSimpArgs false
namespace Go.Proofs.YtmdpggecelheoaaDoor.Abs
open Go Go.RowKit
/-- The plain heap alone, no boxes, no own slices. -/
abbrev Rl0 (H : Hp) : Rl := ⟨[], fun _ => none, fun _ _ => True, H⟩
def VV.ok (x : VV) : Prop := (-9223372036854775808 ≤ x.k ∧ x.k ≤ 9223372036854775807) ∧ (-9223372036854775808 ≤ x.n ∧ x.n ≤ 9223372036854775807) ∧ x.s.size ≤ 9223372036854775807
def VvSh : List Sh := [.int .i64, .int .i64, .str]
theorem vv_shape : shapeT Tryd.prog 8 48 = some VvSh := by kernel_rfl
def RVV : Hp → VV → List Value → Prop := fun _ x cs => cs = [.int .i64 x.k, .int .i64 x.n, .string x.s] ∧ x.ok
theorem RVV.mono : Mono RVV := fun _ _ _ _ _ h => h
theorem vv_of {H : Hp} {x cs : List Value} (h : RSh VvSh H x cs) : ∃ y, RVV H y cs := by
  obtain ⟨rfl, h⟩ := h
  unfold VvSh at h
  obtain ⟨_, t0, rfl, ⟨x0, rfl, w0⟩, h0⟩ := shapes_cons h
  obtain ⟨_, t1, rfl, ⟨x1, rfl, w1⟩, h1⟩ := shapes_cons h0
  obtain ⟨_, t2, rfl, ⟨x2, rfl, w2⟩, h2⟩ := shapes_cons h1
  obtain rfl := shapes_nil h2
  refine ⟨⟨x0, x1, x2⟩, rfl, ?_, ?_, w2⟩
  · simpa [Lit.wf, IntKind.min, IntKind.max, IntKind.signed, IntKind.bits] using w0
  · simpa [Lit.wf, IntKind.min, IntKind.max, IntKind.signed, IntKind.bits] using w1
theorem opens_vv : OpensA Tryd.prog 48 RVV := fun n => Opens.map (opens_shape 8 48 VvSh vv_shape n) fun H x cs h => vv_of h
/-- A slice that opens, read as a row. -/
theorem rd_slice {α : Type} {e : TypeId} {sz : Nat} {R : Hp → α → List Value → Prop} {H : Hp} {V : α → Value} (hz : 0 < sz) (hV : ∀ x c, R H x c → (V x).cells.size = sz ∧ okv 0 true (V x) = true ∧ RdL (Rl0 H) (V x).cells.toList c) {xs : List α} {v : Value} (h : RSlice e sz R H xs [v]) :
    ∃ c, Rd (Rl0 H) (sl c 0 sz (xs.map V)) v := by
  obtain ⟨u, hu, h⟩ := h
  cases hu
  rcases h with ⟨rfl, rfl | ⟨b, rfl⟩⟩ | ⟨hne, i, c, rfl, hi, hg, hr⟩
  · exact ⟨true, .scal _ rfl⟩
  · exact ⟨false, .roE 0 sz b 0 hz⟩
  · refine ⟨false, ?_⟩
    have key : ∀ (xs : List α) (c : List Value), RList sz R H xs c → (∀ x ∈ xs.map V, x.cells.size = sz) ∧ okvL 0 true (xs.map V) = true ∧ RdL (Rl0 H) (cellsL (xs.map V)) c := by
      intro xs
      induction xs with
      | nil => intro c h; obtain rfl : c = [] := h; exact ⟨by simp, rfl, RdL.nil⟩
      | cons x xs ih =>
        intro c ⟨c1, c2, hc, hl, hx, hr⟩
        obtain ⟨e1, e2, e3⟩ := ih c2 hr
        obtain ⟨f1, f2, f3⟩ := hV x c1 hx
        refine ⟨?_, ?_, ?_⟩
        · intro y hy
          rw [List.map_cons] at hy
          rcases List.mem_cons.1 hy with rfl | hy
          · exact f1
          · exact e1 y hy
        · rw [List.map_cons, okvL, f2, e2]; rfl
        · rw [hc, List.map_cons]
          exact RdL.append f3 e3
    obtain ⟨e1, e2, e3⟩ := key xs c hr
    have hlen := RList.length xs c hr
    have hl2 : (xs.map V).length = xs.length := List.length_map ..
    rw [← vs_sl, ← hl2]
    refine Rd.ro 0 sz (xs.map V) i 0 false e c hz ⟨hi, by simp, fun k h => by cases h⟩ trivial hg (by rw [hl2, hlen]; omega) e1 e2 ?_
    rw [List.drop_zero, List.take_of_length_le (by rw [hl2, hlen]; exact Nat.le_refl _)]
    exact e3.2
/-- A row of values. -/
def RRow : Hp → RW → List Value → Prop := fun H r cs => ∃ v, cs = [v] ∧ Rd (Rl0 H) (r.v 0) v ∧ ∀ x ∈ r.l, x.ok
theorem row_of {H : Hp} {xs : List VV} {cs : List Value} (h : RSlice 48 3 RVV H xs cs) : ∃ r, RRow H r cs := by
  have hok : ∀ x ∈ xs, x.ok := by
    obtain ⟨u, hu, h⟩ := h
    rcases h with ⟨rfl, _⟩ | ⟨_, i, c, _, _, _, hr⟩
    · simp
    · have key : ∀ (xs : List VV) (c : List Value), RList 3 RVV H xs c → ∀ x ∈ xs, x.ok := by
        intro xs
        induction xs with
        | nil => intro c _ x hx; cases hx
        | cons y xs ih =>
          intro c ⟨c1, c2, _, _, hy, hr⟩ x hx
          rcases List.mem_cons.1 hx with rfl | hx
          · exact hy.2
          · exact ih c2 hr x hx
      exact key xs c hr
  have h2 := h
  obtain ⟨u, rfl, _⟩ := h2
  obtain ⟨c, hc⟩ := rd_slice (V := VV.v) (by decide) (fun x c hx => ⟨rfl, rfl, by rw [hx.1]; exact .cons (.int _ _) (.cons (.int _ _) (.cons (.string _) .nil))⟩) h
  exact ⟨⟨c, xs⟩, u, rfl, hc, hok⟩
theorem opensA_row {t : TypeId} (h : Tryd.prog.underlying t = some (.slice 48)) : OpensA Tryd.prog t RRow := fun n => Opens.map (opensA_slice (sz := 3) h (by kernel_rfl) (by decide) opens_vv RVV.mono n) fun H x cs h => row_of h
theorem RRow.mono : Mono RRow := by
  rintro H H' r cs hl ⟨v, rfl, h, hok⟩
  refine ⟨v, rfl, ?_, hok⟩
  refine Rd.conv (R := Rl0 H) (R' := Rl0 H') (fun i b h => h) (fun d b hp hm => ?_) (fun k b h => by cases h) h
  exact ⟨⟨Nat.lt_of_lt_of_le hp.1 hl.next, by simp, fun k h => by cases h⟩, trivial, hl.get b hp.1⟩
/-- Rows of rows. -/
theorem opensA_rows {t r : TypeId} (h : Tryd.prog.underlying t = some (.slice r)) (k : Tryd.prog.underlying r = some (.slice 48)) (hc : Tryd.prog.cellsOf r = 1) : OpensA Tryd.prog t (RSlice r 1 RRow) := opensA_slice h hc (by decide) (opensA_row k) RRow.mono
theorem rd_rows {r : TypeId} {H : Hp} {xs : List RW} {v : Value} (h : RSlice r 1 RRow H xs [v]) : ∃ c, Rd (Rl0 H) (sl c 0 1 (xs.map (RW.v 0))) v := by
  refine rd_slice (by decide) (fun x c hx => ?_) h
  obtain ⟨u, rfl, h, _⟩ := hx
  refine ⟨?_, okv_sl0 _ _ _ _ _, ?_⟩
  · unfold RW.v; rw [cel_sl]; rfl
  · unfold RW.v at h ⊢
    rw [cel_sl]
    exact .cons h .nil
end Go.Proofs.YtmdpggecelheoaaDoor.Abs
/- The law FuncsChoose over the plain heap. -/
set_option linter.unusedVariables false
namespace Go.Proofs.YtmdpggecelheoaaDoor.Abs
open Go
theorem law9_df (r : RW) (n : Int) {H : Hp} {v : Value} (h : Rd (Rl0 H) (r.v 0) v) : Df Tryd.prog (fun _ => none) 9 [v, .int .i64 n] H fun r _ => r = .bool true := Vf_Df xz_ok (law9 r.c r.l n) (.cons h (.cons (.int _ _) .nil))
end Go.Proofs.YtmdpggecelheoaaDoor.Abs
/- The law FuncsChoose holds, and its tied card: of several values the one that is asked is told, and where a value is among them; each argument reads behind the call as it read before. Condition: the listed package-level variables start as the program's text lays them, which the given tie shows. -/
namespace Go.Proofs.YtmdpggecelheoaaDoor.funcsChoose
open Go Go.ChangeShapes Go.WideShapes Go.ChangeAt Go.RowKit
open Go
open Go.Proofs.YtmdpggecelheoaaDoor.Abs
set_option linter.unusedVariables false
theorem own : ownKnob Tryd.prog.godebug = none := by kernel_rfl
theorem laidOut : laidOutB Tryd.prog = true := by kernel_rfl
theorem mixed : Tryd.prog.follows .mixedOrders = true := Checked.mixed Tryd.checked
set_option maxRecDepth 100000
theorem door_met (os : Os) (args : Array Value) : laidMetH Tryd.prog Rows.funcsChooseRow.laid ((World.doorLaid Tryd.prog 400 os).forCall (fun _ _ => 0) ⟨#[], args, []⟩).memory :=
  laidMetH_of_parts3 (fuel := 8) (laidMet_of_run' 8 (by kernel_rfl) (by kernel_rfl)) (by kernel_rfl) (by kernel_rfl)
theorem lifted (os : Os) (started : os.Started) (H : Type) (enc : TypeId × Value → H) :
    ReturnsInHanded {} Tryd.checked os 9 .any (fun w args => (Rows.funcsChooseSpec.pre enc Tryd.prog Tryd.f9 [] false w args ∧ laidMetH Tryd.prog Rows.funcsChooseRow.laid w) ∧ sizedMet enc Tryd.prog Tryd.f9 (OpenSpec.ofChange Rows.funcsChooseSpec) false w args)
      (Rows.funcsChooseSpec.post enc Tryd.prog Tryd.f9 false true false false) := by
  refine returnsInHanded_of_change_and (C := Tryd.checked) (X := fun w _ => laidMetH Tryd.prog Rows.funcsChooseRow.laid w) (fun _ _ _ hh h => h.of_heap hh) own started (by kernel_rfl) Tryd.func9
    (ChangeSpec.witness_shaped (enc := enc) (C := Tryd.checked) (os := os) (X := fun w _ => laidMetH Tryd.prog Rows.funcsChooseRow.laid w) false (World.doorLaid Tryd.prog 400 os) #[.slice none 0 0, .int .i64 0] 8 rfl (World.shaped_of_RefB (by kernel_rfl) (by kernel_rfl)) (by kernel_rfl) (by kernel_rfl) (by kernel_rfl) (door_met os _)) ?_
  intro W base args ds gs before hval0 hW _ _ hL _
  have hval : ∀ (j : Nat) t v, Tryd.f9.params[j]? = some t → args[j]? = some v → Value.okWide Tryd.prog W .any base t v := hval0
  have hW' := hW
  obtain ⟨p, q, hA0, hV, rfl, hfz, hnd⟩ := hW
  have hA : DataW.TrodAll enc Tryd.prog W 0 (fun _ => true) true Tryd.f9.params.toList args.toList ds p := hA0
  rw [Tryd.params9] at hA hval
  obtain ⟨v0, vs0, d0, ds0, p0, q0, hargs, rfl, rfl, h0, r0⟩ := trodAll_cons hA
  obtain ⟨v1, vs1, d1, ds1, p1, q1, rfl, rfl, rfl, h1, r1⟩ := trodAll_cons r0
  obtain ⟨rfl, rfl, rfl⟩ := trodAll_nil r1
  obtain rfl : args = #[v0, v1] := by cases args; simp_all
  obtain ⟨rfl, rfl⟩ := trodVars_none hV
  obtain ⟨a0, len0, cap0, rfl⟩ := okWide_slice Tryd.underlying42 (hval 0 42 v0 rfl rfl)
  obtain ⟨a1, rfl, rfl, rfl, w1⟩ := open_int Tryd.underlying3 (hval 1 3 v1 rfl rfl) h1
  have k0 := h0
  have lt0 : ∀ x ∈ p0, x.block < W.heap.size := by obtain ⟨m, hm⟩ := k0; exact DataW.trod_lt m _ _ _ hm
  clear hA0 hval0
  obtain ⟨ψ0, H0, a0, x0, hle0, hk0, hR0, hv0, hs0⟩ := arg_cell (opensA_row Tryd.underlying42) h0 rfl (rel_start W)
  obtain ⟨u0, hu0, hd0, hok0⟩ := hs0
  cases hu0
  refine (law_calls mixed (xsound_none) hR0 (.cons hv0 (VRs_one (.int _ _))) (law9_df x0 _ hd0)).mono fun e W' ⟨he, bel⟩ => ?_
  subst he
  exact ⟨_, rfl, _, _, _, [], _, [], hW', trodAll_mk1 (shut_bool Tryd.underlying4 _), (trodAll_cons_mk (Below.trod laidOut (by kernel_rfl) (of_decide_eq_true (by kernel_rfl)) k0 bel lt0) (trodAll_cons_mk (shut_int Tryd.underlying3 w1) trodAll_mk0)), rfl, bel.frame _, fun h => by cases h⟩
theorem over : Rows.funcsChooseRow.holds Tryd.pinned (OpenSpec.ofChange Rows.funcsChooseSpec) :=
  OpenClaim.holds_of_wide 9 Tryd.f9 rfl rfl rfl rfl rfl rfl rfl ⟨rfl, rfl, rfl, rfl, rfl⟩ rfl rfl rfl rfl rfl (by kernel_rfl) Tryd.func9 (by kernel_rfl)
    (of_decide_eq_true (by kernel_rfl)) (by unfold Func.isWrapper; first | (rw [if_pos (by decide +kernel)]; kernel_rfl) | (rw [if_neg (by decide +kernel)]; exact ⟨rfl, rfl⟩))
    (fun os started H enc _ => lifted os started H enc)
end Go.Proofs.YtmdpggecelheoaaDoor.funcsChoose
namespace Go.Proofs.YtmdpggecelheoaaDoor
open Go
theorem funcsChoose_card : Rows.FuncsChooseCardSaid :=
  Claim7.holds_tied_plain_at .later [] [.data, .data, .data] true (true, "3d4ef65ab9cb1b75a723f3501e7fecd5e6bcfd19ffc8ca5416c74e0e57128058") true
    funcsChoose.over (fun _ h => by cases h) (by kernel_rfl) (fun _ h => by cases h) funcsChoose_row_tie rfl ⟨rfl, rfl⟩ (by kernel_rfl) rfl
    (fun f fn hf hfn => by
      obtain rfl : f = 9 := Option.some.inj ((show Tryd.prog.funcNamed "abacist/abacistlaw10.FuncsChoose" = some 9 by kernel_rfl).symm.trans hf) |>.symm
      obtain rfl : fn = Tryd.f9 := (Option.some.inj (Tryd.func9.symm.trans hfn)).symm
      exact ⟨by kernel_rfl, fun j t ht => by
        rw [Tryd.params9] at ht
        have hm : t ∈ [42, 3] := by simpa using Array.mem_of_getElem? ht
        have hall : ([42, 3].all fun u => !Tryd.prog.wantsStandIn u) = true := by kernel_rfl
        exact (show Tryd.prog.wantsStandIn t = false by simpa using List.all_eq_true.1 hall t hm)⟩)
    (by kernel_rfl)
#print axioms funcsChoose_card
end Go.Proofs.YtmdpggecelheoaaDoor
