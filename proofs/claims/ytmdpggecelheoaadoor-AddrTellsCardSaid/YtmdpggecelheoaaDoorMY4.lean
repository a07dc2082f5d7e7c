/- The reference reads a column and a row. -/
import Derived.Test.YtmdpggecelheoaaDoorMY3
import Derived.Lib.IndexMore
set_option linter.unusedVariables false
set_option linter.unusedSimpArgs false
set_option maxRecDepth 4000
set_option maxHeartbeats 0
namespace Go.Proofs.YtmdpggecelheoaaDoor.Abs
open Go
attribute [local irreducible] Hold VReg Vf Vc VWP With VStp Vcallee Vp VE
theorem g48 : greatB 48 = false := rfl
def grAt (t : ByteArray) (j : Nat) : Bool := match t[j]? with
  | some b => greatB b.toNat
  | none => false
def dgAt (t : ByteArray) (j : Nat) : Bool := match t[j]? with
  | some b => digitB b.toNat
  | none => false
def byAt (t : ByteArray) (j : Nat) : Int := match t[j]? with
  | some b => b.toNat
  | none => 0
def colF (t : ByteArray) : Nat → Int
  | 0 => 0
  | i + 1 => 26 * colF t i + (byAt t i - 65) + 1
def rowF (t : ByteArray) (i : Nat) : Nat → Int
  | 0 => 0
  | j + 1 => 10 * rowF t i j + (byAt t (i + j) - 48)
def lead3 (t : ByteArray) : Nat := if grAt t 0 then (if grAt t 1 then (if grAt t 2 then 3 else 2) else 1) else 0
def rpF (t sheet : ByteArray) : Option (Int × Int) :=
  if lead3 t = t.size ∨ lead3 t + 3 < t.size ∨ byAt t (lead3 t) = 48 then none
  else if (List.range (t.size - lead3 t)).all (fun j => dgAt t (lead3 t + j)) then (if celF sheet (colF t (lead3 t)) (rowF t (lead3 t) (t.size - lead3 t)) then some (colF t (lead3 t), rowF t (lead3 t) (t.size - lead3 t)) else none) else none
def cellT (sheet : ByteArray) : Option (Int × Int) → Value
  | some (c, r) => .tuple ⟨[.agg ⟨[.string sheet, .int .i64 c, .int .i64 r]⟩, .bool true]⟩
  | none => .tuple ⟨[.agg ⟨[.string .empty, .int .i64 0, .int .i64 0]⟩, .bool false]⟩
theorem lead3_is {t : ByteArray} {i : Nat} (hi : i ≤ 3) (h : ∀ j, j < i → grAt t j = true) (he : i = 3 ∨ grAt t i = false) : lead3 t = i := by
  unfold lead3
  have q : i = 0 ∨ i = 1 ∨ i = 2 ∨ i = 3 := by omega
  rcases q with rfl | rfl | rfl | rfl
  · simp [he.resolve_left (by decide)]
  · simp [h 0 (by decide), he.resolve_left (by decide)]
  · simp [h 0 (by decide), h 1 (by decide), he.resolve_left (by decide)]
  · simp [h 0 (by decide), h 1 (by decide), h 2 (by decide)]
theorem byAt_gr {t : ByteArray} {j : Nat} (h : grAt t j = true) : 65 ≤ byAt t j ∧ byAt t j ≤ 90 := by
  unfold grAt at h
  unfold byAt
  cases hb : t[j]? with
  | none => rw [hb] at h; cases h
  | some b =>
    rw [hb] at h
    simpa [greatB] using h
theorem byAt_dg {t : ByteArray} {j : Nat} (h : dgAt t j = true) : 48 ≤ byAt t j ∧ byAt t j ≤ 57 := by
  unfold dgAt at h
  unfold byAt
  cases hb : t[j]? with
  | none => rw [hb] at h; cases h
  | some b =>
    rw [hb] at h
    simpa [digitB] using h
theorem colF_le {t : ByteArray} {i : Nat} (hi : i ≤ 3) (h : ∀ j, j < i → grAt t j = true) : 0 ≤ colF t i ∧ colF t i ≤ 20000 ∧ (i ≤ 2 → colF t i ≤ 702) := by
  have q : i = 0 ∨ i = 1 ∨ i = 2 ∨ i = 3 := by omega
  rcases q with rfl | rfl | rfl | rfl
  · simp [colF]
  · have := byAt_gr (h 0 (by decide))
    simp only [colF]; omega
  · have := byAt_gr (h 0 (by decide))
    have := byAt_gr (h 1 (by decide))
    simp only [colF]; omega
  · have := byAt_gr (h 0 (by decide))
    have := byAt_gr (h 1 (by decide))
    have := byAt_gr (h 2 (by decide))
    simp only [colF]; omega
theorem rowF_le {t : ByteArray} {i j : Nat} (hj : j ≤ 3) (h : ∀ k, k < j → dgAt t (i + k) = true) : 0 ≤ rowF t i j ∧ rowF t i j ≤ 999 ∧ (j ≤ 2 → rowF t i j ≤ 99) := by
  have q : j = 0 ∨ j = 1 ∨ j = 2 ∨ j = 3 := by omega
  rcases q with rfl | rfl | rfl | rfl
  · simp [rowF]
  · have := byAt_dg (h 0 (by decide))
    simp only [rowF]; omega
  · have := byAt_dg (h 0 (by decide))
    have := byAt_dg (h 1 (by decide))
    simp only [rowF]; omega
  · have := byAt_dg (h 0 (by decide))
    have := byAt_dg (h 1 (by decide))
    have := byAt_dg (h 2 (by decide))
    simp only [rowF]; omega
section
variable {X : VOuter}
theorem rgreat_p (hX : X 61 = none) (n : Int) : Vp Tryd.prog X 61 [.int .u8 n] (.bool (greatB n)) := by
  unfold Vp
  refine Vf_text hX Tryd.func61 rfl (by kernel_rfl) (by show 1 ≤ _; decide) ?_
  by_cases h1 : 65 ≤ n <;> by_cases h2 : n ≤ 90 <;> simp -dsimp only [↓VWP_seq, ↓VWP_region, ↓VWP_ret, ↓VReg_one, ↓VReg_nil, ↓VS_guard, ↓VS_move, ↓VS_assign, ↓VS_pick, ↓VS_binOp, ↓With_guard, ↓Hold_1, With_some, emap_nil, ↓eget_eset, ↓ae_tmp, ↓ae_int, ↓ae_bool, eget_zero, lop_pick, asGuard_bool, bb_ft, ayielded_eq, ↓dstAt_zero, ↓dstAt_succ, ↓vfinish_ret, ↓vres_nil, ↓vres_tmp, vtell_eq, ret1, Option.map_some, Option.bind_some, ↓reduceIte, Nat.reduceEqDiff, reduceCtorEq, Bool.false_eq_true, decide_true, decide_false, true_and, List.toList_toArray, List.length_nil, mapOwn_bool, toks_bool, okv_bool, beq_self_eq_true, vthaw_nil, vwrites_nil, List.length_nil, vbin_int, abin_leq, abin_geq, beq_self_eq_true, ge_iff_le, decide_true, decide_false, beq_self_eq_true, bb_ft, Tryd.results61, h1, h2] <;> simp [greatB, h1, h2]
theorem rgreat_c (hX : X 61 = none) (n : Int) {S : VH} {K : VCont} : Vcallee Tryd.prog X 61 [.int .u8 n] S K = K (.bool (greatB n)) [] S [] false := Vcallee_of (rgreat_p hX n) rfl rfl rfl
theorem rread_p (h : ROff X) (hX : X 41 = none) (hX1 : X 61 = none) (t sheet : ByteArray) (ht : t.size ≤ 1000) : Vp Tryd.prog X 41 [.string t, .string sheet] (cellT sheet (rpF t sheet)) := by
  unfold Vp
  refine Vf_text hX Tryd.func41 rfl (by kernel_rfl) (by show 2 ≤ _; decide) ?_
  simp -dsimp only [↓VWP_seq, ↓VWP_region, ↓VWP_block, ↓VWP_loop, ↓VReg_one, ↓VReg_non, ↓VReg_nil, ↓VS_move, ↓VS_assign, ↓VS_build, ↓VS_store, ↓With_mapH, ↓With_guard, ↓Hold_1, With_some, emap_nil, ↓eget_eset, ↓ae_tmp, ↓ae_int, ↓ae_bool, eget_zero, eget_succ, Option.bind_some, ↓reduceIte, Nat.reduceEqDiff, decide_false, Bool.not_false, Nat.zero_add, Nat.add_zero, Nat.reduceAdd, Nat.reduceLT, Nat.reduceLeDiff, and_true, true_and, and_self, List.map_cons, List.map_nil, List.all_cons, List.all_nil, tup_int, tup_str, cel_str, tup_agg, cel_agg, Bool.and_true, List.toList_toArray, List.size_toArray, List.length_cons, List.length_nil, toksL_nil, toksL_cons, toks_int, toks_string, okv_int, okv_string, List.all_nil, List.all_cons, List.append_nil, List.nil_append, List.cons_append, List.map_nil, List.map_cons, Bool.and_true, Bool.and_self, Bool.not_false, beq_self_eq_true, vnext_mk, vpush_mk, vget_nil, vput_nil, cellsIn_mk, List.getD_cons_zero, List.getD_cons_succ, List.set_cons_zero, List.set_cons_succ, List.length_cons, List.length_nil, ↓vlay_free, cellsOk_free, cellF, beq_self_eq_true, decide_false, beq_self_eq_true, setAll_whole, afill, setAll, vst23, ↓val23, bd23, pl23_0]
  refine Vc_loop (fun m e S => ∃ i : Nat, m = 3 - i ∧ i ≤ 3 ∧ i ≤ t.size ∧ (∀ j, j < i → grAt t j = true) ∧ eget e 0 = .string t ∧ eget e 4 = .pointer (some { block := 0, off := 0 }) ∧ eget e 6 = .pointer (some { block := 1, off := 0 }) ∧ eget e 7 = .int .i64 i ∧ S = ⟨[], [.cells true 23 [.string .empty, .int .i64 0, .int .i64 0], .cells true 23 [.string sheet, .int .i64 (colF t i), .int .i64 0]], []⟩) 3 ?_ ?_
  · refine ⟨0, rfl, by omega, Nat.zero_le _, fun j hj => absurd hj (Nat.not_lt_zero j), ?_, ?_, ?_, ?_, ?_⟩ <;> first | (simp only [↓eget_eset, eget_zero, ↓reduceIte, Nat.reduceEqDiff, reduceCtorEq]; done) | (simp only [↓eget_eset, ↓reduceIte]; rfl) | rfl
  · rintro m e S ⟨i, rfl, hi, hit, hgr, e0, e4, e6, e7, rfl⟩
    refine VWP_Vc _ _ _ _ ?_
    obtain ⟨c0, c1, c2⟩ := colF_le hi hgr
    have h0 : (0 : Int) ≤ i := by omega
    have wn : IntKind.i64.wrap ((i : Int) + 1) = (i : Int) + 1 := wrap_id (by omega) (by omega)
    by_cases hgo : i < t.size ∧ (i : Int) < 3 ∧ grAt t i = true
    · obtain ⟨hs, h3, hg⟩ := hgo
      have hs' : (i : Int) < t.size := by omega
      obtain ⟨b, hb⟩ := ba_get hs
      have hby : byAt t i = b.toNat := by unfold byAt; rw [hb]
      have hgb : greatB b.toNat = true := by unfold grAt at hg; rw [hb] at hg; exact hg
      have hbb := byAt_gr hg
      have hcl : colF t i ≤ 702 := c2 (by omega)
      have u1 : IntKind.u8.wrap ((b.toNat : Int) - 65) = (b.toNat : Int) - 65 := by simp only [IntKind.wrap, IntKind.bits, IntKind.signed]; simp; omega
      have v1 := vconv_int (n := (b.toNat : Int) - 65) (by omega) (by omega)
      have x1 : IntKind.i64.wrap (26 * colF t i) = 26 * colF t i := wrap_id (by omega) (by omega)
      have x2 : IntKind.i64.wrap (26 * colF t i + ((b.toNat : Int) - 65)) = 26 * colF t i + ((b.toNat : Int) - 65) := wrap_id (by omega) (by omega)
      have x3 : IntKind.i64.wrap (26 * colF t i + ((b.toNat : Int) - 65) + 1) = 26 * colF t i + ((b.toNat : Int) - 65) + 1 := wrap_id (by omega) (by omega)
      simp -dsimp only [↓Hold_5, ↓VWP_seq, ↓VWP_region, ↓VWP_cond, ↓VWP_skip, ↓VWP_block, ↓VWP_open, ↓VReg_one, ↓VReg_nil, ↓VS_guard, ↓VS_move, ↓VS_pick, ↓VS_binOp, ↓VS_index, ↓VS_len, ↓Hold_1, With_some, emap_nil, ↓eget_eset, ↓ae_tmp, ↓ae_int, lop_pick, asBool_bool, asGuard_bool, ayielded_eq, ↓dstAt_zero, ↓dstAt_succ, Option.map_some, Option.bind_some, ↓reduceIte, Nat.reduceEqDiff, reduceCtorEq, decide_true, List.map_cons, List.map_nil, List.map_nil, List.map_cons, beq_self_eq_true, vbin_int, abin_lss, beq_self_eq_true, Int.toNat_natCast, decide_true, beq_self_eq_true, ix9, vlr9, ↓vfk61, e0, e7, hs', h3, h0, hb, ↓rgreat_c hX1, hgb]
      refine Vc_open [[], [], [], [], [], [], [], [], [], [], [], []] false (by kernel_rfl) (by kernel_rfl) (by kernel_rfl) ?_
      simp -dsimp only [↓VWP_region, ↓VReg_one, ↓VReg_nil, ↓VS_move, ↓VS_assign, ↓VS_load, ↓VS_binOp, ↓VS_fieldAddr, ↓VS_index, ↓VS_store, ↓Hold_1, ↓Hold_3, With_some, emap_nil, ↓eget_eset, ↓ae_tmp, ↓ae_int, light, Option.map_some, ↓reduceIte, Nat.reduceEqDiff, reduceCtorEq, Bool.false_eq_true, decide_false, Bool.not_false, List.getElem?_cons_zero, List.getElem?_cons_succ, Nat.zero_add, Nat.reduceAdd, Nat.reduceLT, Nat.reduceLeDiff, true_and, and_self, List.all_cons, List.all_nil, tup_int, cel_int, List.toList_toArray, List.size_toArray, List.length_cons, List.length_nil, toksL_nil, toksL_cons, toks_int, okv_int, List.all_nil, List.all_cons, List.append_nil, Bool.and_self, Bool.not_false, beq_self_eq_true, vnext_mk, vget_nil, vput_nil, cellsIn_mk, List.getD_cons_zero, List.getD_cons_succ, List.set_cons_zero, List.set_cons_succ, List.length_cons, List.length_nil, vbin_int, ↓vlay_free, cellsOk_free, cellF, abin_add, abin_sub, abin_mul, beq_self_eq_true, Int.toNat_natCast, decide_false, beq_self_eq_true, setAll, ↓VE_nil, ↓VE_one0, ↓VE_non0, List.reverse_cons, vld3, vst3, vfp23_1, ix9, ↓vcv3, e0, e4, e6, e7, h0, hb, u1, v1, x1, x2, x3, wn]
      refine ⟨3 - (i + 1), by omega, i + 1, rfl, by omega, by omega, fun j hj => ?_, by rw [Int.natCast_add]; rfl, ?_⟩
      · rcases Nat.lt_succ_iff_lt_or_eq.1 hj with hj | rfl
        · exact hgr j hj
        · exact hg
      · simp only [colF, hby]
    · have hl : lead3 t = i := lead3_is hi hgr (by
        by_cases h3 : i = 3
        · exact .inl h3
        · right
          cases hg : grAt t i with
          | false => rfl
          | true =>
            refine absurd ⟨?_, by omega, hg⟩ hgo
            rcases Nat.lt_or_ge i t.size with h | h
            · exact h
            · unfold grAt at hg
              rw [getElem?_neg t i (by omega)] at hg
              cases hg)
      rcases Nat.lt_or_ge i t.size with hs | hs
      · have hs' : (i : Int) < t.size := by omega
        obtain ⟨b, hb⟩ := ba_get hs
        have hby : byAt t i = b.toNat := by unfold byAt; rw [hb]
        by_cases h3 : (i : Int) < 3
        · have hgb : greatB b.toNat = false := by
            cases hg : greatB b.toNat with
            | false => rfl
            | true => exact absurd ⟨hs, h3, by unfold grAt; rw [hb]; exact hg⟩ hgo
          have hne : ¬ (i : Int) = t.size := by omega
          have wsz : IntKind.i64.wrap ((t.size : Int) - i) = (t.size : Int) - i := wrap_id (by omega) (by omega)
          by_cases h4 : 3 < (t.size : Int) - i
          · have hf : rpF t sheet = none := by unfold rpF; rw [hl, if_pos (.inr (.inl (by omega)))]
            rw [hf]
            simp -dsimp only [↓Hold_5, ↓VWP_seq, ↓VWP_region, ↓VWP_cond, ↓VWP_ret, ↓VWP_exit, ↓VReg_one, ↓VReg_non, ↓VReg_nil, ↓VS_guard, ↓VS_move, ↓VS_assign, ↓VS_pick, ↓VS_build, ↓VS_binOp, ↓VS_index, ↓VS_len, ↓VS_store, ↓With_bindH, ↓With_guard, ↓Hold_1, ↓Hold_3, With_some, emap_nil, ↓eget_eset, ↓ae_tmp, ↓ae_int, ↓ae_bool, lop_pick, asBool_bool, asGuard_bool, bb_tf, ayielded_eq, ↓dstAt_zero, ↓dstAt_succ, ↓vfinish_ret, ↓vres_nil, ↓vres_tmp, ↓vres_cell, vtell_eq, ret1, Option.map_some, Option.bind_some, ↓reduceIte, Nat.reduceEqDiff, reduceCtorEq, Bool.false_eq_true, decide_true, decide_false, Bool.not_false, Nat.zero_add, Nat.reduceAdd, Nat.reduceLT, Nat.reduceLeDiff, and_self, List.map_cons, List.map_nil, List.all_cons, List.all_nil, tup_int, tup_str, tup_agg, cel_agg, List.drop_zero, List.toList_toArray, List.size_toArray, List.length_cons, List.length_nil, mapOwn_agg, mapOwn_tuple, mapOwn_bool, mapOwn_int, mapOwn_string, toksL_nil, toksL_cons, toks_int, toks_bool, toks_string, toks_agg, toks_tuple, okv_agg, okv_tuple, okv_bool, okv_int, okv_string, List.flatMap_nil, List.flatMap_cons, List.all_nil, List.all_cons, List.append_nil, List.map_nil, List.map_cons, Bool.and_self, Bool.not_false, beq_self_eq_true, vnext_mk, vget_nil, vput_nil, cellsIn_mk, vthaw_nil, vwrites_nil, List.getD_cons_zero, List.set_cons_zero, List.length_cons, List.length_nil, List.drop_zero, List.take_succ_cons, List.take_zero, vbin_int, ↓vlay_free, cellsOk_free, cellF, abin_eql, abin_lss, abin_gtr, abin_sub, beq_self_eq_true, Int.toNat_natCast, gt_iff_lt, decide_true, decide_false, beq_self_eq_true, bb_tf, setAll_whole, afill, ibeq, vld23, vst23, bd23, ix9, vlr9, ↓vfk61, Tryd.results41, e0, e4, e7, h0, hs', h3, hb, ↓rgreat_c hX1, hgb, hne, wsz, h4, cellT]
          · by_cases h48 : (b.toNat : Int) = 48
            · have hf : rpF t sheet = none := by unfold rpF; rw [hl, if_pos (.inr (.inr (by rw [hby]; exact h48)))]
              rw [hf]
              simp -dsimp only [↓Hold_5, ↓VWP_seq, ↓VWP_region, ↓VWP_cond, ↓VWP_ret, ↓VWP_exit, ↓VReg_one, ↓VReg_non, ↓VReg_nil, ↓VS_guard, ↓VS_move, ↓VS_assign, ↓VS_pick, ↓VS_build, ↓VS_binOp, ↓VS_index, ↓VS_len, ↓VS_store, ↓With_bindH, ↓With_guard, ↓Hold_1, ↓Hold_3, With_some, emap_nil, ↓eget_eset, ↓ae_tmp, ↓ae_int, ↓ae_bool, lop_pick, asBool_bool, asGuard_bool, ayielded_eq, ↓dstAt_zero, ↓dstAt_succ, ↓vfinish_ret, ↓vres_nil, ↓vres_tmp, ↓vres_cell, vtell_eq, ret1, Option.map_some, Option.bind_some, ↓reduceIte, Nat.reduceEqDiff, reduceCtorEq, Bool.false_eq_true, decide_true, decide_false, Bool.not_false, Nat.zero_add, Nat.reduceAdd, Nat.reduceLT, Nat.reduceLeDiff, and_self, List.map_cons, List.map_nil, List.all_cons, List.all_nil, tup_int, tup_str, tup_agg, cel_agg, List.drop_zero, List.toList_toArray, List.size_toArray, List.length_cons, List.length_nil, mapOwn_agg, mapOwn_tuple, mapOwn_bool, mapOwn_int, mapOwn_string, toksL_nil, toksL_cons, toks_int, toks_bool, toks_string, toks_agg, toks_tuple, okv_agg, okv_tuple, okv_bool, okv_int, okv_string, List.flatMap_nil, List.flatMap_cons, List.all_nil, List.all_cons, List.append_nil, List.map_nil, List.map_cons, Bool.and_self, Bool.not_false, beq_self_eq_true, vnext_mk, vget_nil, vput_nil, cellsIn_mk, vthaw_nil, vwrites_nil, List.getD_cons_zero, List.set_cons_zero, List.length_cons, List.length_nil, List.drop_zero, List.take_succ_cons, List.take_zero, vbin_int, ↓vlay_free, cellsOk_free, cellF, abin_eql, abin_lss, abin_gtr, abin_sub, beq_self_eq_true, Int.toNat_natCast, gt_iff_lt, decide_true, decide_false, beq_self_eq_true, setAll_whole, afill, ibeq, vld23, vst23, bd23, ix9, vlr9, ↓vfk61, Tryd.results41, e0, e4, e7, h0, hs', h3, ↓rgreat_c hX1, g48, hne, wsz, h4, hb, h48, cellT]
            · have hrp : rpF t sheet = if (List.range (t.size - i)).all (fun j => dgAt t (i + j)) then (if celF sheet (colF t i) (rowF t i (t.size - i)) then some (colF t i, rowF t i (t.size - i)) else none) else none := by
                unfold rpF
                rw [hl, if_neg (by rw [hby]; omega)]
              rw [hrp]
              simp -dsimp only [↓Hold_5, ↓VWP_seq, ↓VWP_region, ↓VWP_cond, ↓VWP_skip, ↓VWP_block, ↓VWP_exit, ↓VWP_loop, ↓VReg_one, ↓VReg_nil, ↓VS_guard, ↓VS_move, ↓VS_pick, ↓VS_binOp, ↓VS_index, ↓VS_len, ↓Hold_1, ↓Hold_3, With_some, emap_nil, ↓eget_eset, ↓ae_tmp, ↓ae_int, lop_pick, asBool_bool, asGuard_bool, ayielded_eq, ↓dstAt_zero, ↓dstAt_succ, Option.map_some, Option.bind_some, ↓reduceIte, Nat.reduceEqDiff, reduceCtorEq, Bool.false_eq_true, decide_true, decide_false, List.map_cons, List.map_nil, List.map_nil, List.map_cons, beq_self_eq_true, vbin_int, abin_eql, abin_lss, abin_gtr, abin_sub, beq_self_eq_true, Int.toNat_natCast, gt_iff_lt, decide_true, decide_false, beq_self_eq_true, ibeq, ix9, vlr9, ↓vfk61, e0, e7, h0, hs', h3, ↓rgreat_c hX1, hgb, hne, wsz, h4, hb, h48]
              refine Vc_loop (fun m e S => ∃ j : Nat, m = t.size - i - j ∧ i + j ≤ t.size ∧ (∀ k, k < j → dgAt t (i + k) = true) ∧ eget e 0 = .string t ∧ eget e 4 = .pointer (some { block := 0, off := 0 }) ∧ eget e 6 = .pointer (some { block := 1, off := 0 }) ∧ eget e 7 = .int .i64 ((i + j : Nat) : Int) ∧ S = ⟨[], [.cells true 23 [.string .empty, .int .i64 0, .int .i64 0], .cells true 23 [.string sheet, .int .i64 (colF t i), .int .i64 (rowF t i j)]], []⟩) (t.size - i) ?_ ?_
              · refine ⟨0, rfl, by omega, fun j hj => absurd hj (Nat.not_lt_zero j), ?_, ?_, ?_, ?_, rfl⟩ <;> first | (simp only [↓eget_eset, ↓reduceIte, Nat.reduceEqDiff, reduceCtorEq, Nat.add_zero, e0, e4, e6, e7]; done) | (simp only [emap_nil, emap_cons, ↓eget_map, ↓eget_eset, ↓ae_tmp, ↓ae_int, ↓ae_bool, ↓ae_string, ↓ae_func, ↓ae_slice0, ↓ae_ptr0, eget_zero, eget_succ, eget_nil, ↓reduceIte, Nat.reduceEqDiff, reduceCtorEq, Bool.false_eq_true, Nat.reduceBEq, decide_true, decide_false, Bool.not_true, Bool.not_false, List.getElem?_toArray, List.getElem?_cons_zero, List.getElem?_cons_succ, Nat.zero_add, Nat.add_zero, Nat.reduceAdd, Nat.reduceMul, Nat.reduceSub, Nat.reduceLT, Nat.reduceLeDiff, and_true, true_and, and_self, toks_sl, thaw_sl, scrub_sl, thawAll_sl, lend_sl, drop_sl, okv_sl, okv_sl0, tup_sl, cel_sl, cellV_sl, isAggV_sl, velems_sl, toks_ol, thawAll_ol, lend_ol, thaw_ol, tup_ol, cel_ol, velems_ol, thaw_tok0, thaw_tok1, growT_sl, growT_ro, growT_at, vgrow_ol, mapOwn_vs, mapOwn_vo, mapOwn_vp, mapOwn_agg, mapOwn_tuple, mapOwn_iface, mapOwn_clo, mapOwn_bool, mapOwn_int, mapOwn_string, mapOwn_pointer, mapOwn_slice, mapOwn_chan, mapOwn_nilFunc, mapOwn_nilIface, mapOwn_undef, mapOwn_nr, thaw_own, thawAll_own, scrub_own, lend_own_true, thaw_ro, thawAll_ro, scrub_ro, lend_ro, drop_ro, fate_ro, thaw_at, scrub_at, drop_at, fate_at, mapOwnL_nil, mapOwnL_cons, okvL_nil, okvL_cons, toksL_nil, toksL_cons, toks_int, toks_bool, toks_string, toks_pointer, toks_slice, toks_nilFunc, toks_nilIface, toks_agg, toks_tuple, toks_iface, toks_clo, toks_vs, toks_vo, okv_agg, okv_tuple, okv_iface, okv_clo, okv_vs, okv_vo, okv_vp, okv_vq, okv_vr, okv_bool, okv_int, okv_string, okv_ptr0, okv_ptr, okv_slice0, okv_nilFunc, okv_nilIface, okv_chan, List.flatMap_nil, List.flatMap_cons, List.all_nil, List.all_cons, List.append_nil, List.nil_append, List.cons_append, List.map_nil, List.map_cons, List.isEmpty_nil, List.isEmpty_cons, Bool.and_true, Bool.and_false, Bool.false_and, Bool.and_self, Bool.true_and, Bool.not_true, Bool.not_false, Bool.false_or, Bool.true_or, Bool.or_false, List.mem_cons, List.mem_singleton, List.not_mem_nil, or_false, false_or, Prod.mk.injEq, beq_self_eq_true, e0, e4, e6, e7]; rfl)
              · rintro m e S ⟨j, rfl, hij, hdg, k0, k4, k6, k7, rfl⟩
                refine VWP_Vc _ _ _ _ ?_
                have q0 : (0 : Int) ≤ ((i + j : Nat) : Int) := by omega
                obtain ⟨r0, r1, r2⟩ := rowF_le (t := t) (i := i) (j := j) (by omega) hdg
                by_cases hjs : i + j < t.size
                · have hjs' : ((i + j : Nat) : Int) < t.size := by omega
                  obtain ⟨d, hd⟩ := ba_get hjs
                  have hdy : byAt t (i + j) = d.toNat := by unfold byAt; rw [hd]
                  cases hdd : digitB d.toNat
                  · have hall : (List.range (t.size - i)).all (fun j => dgAt t (i + j)) = false := by
                      rw [List.all_eq_false]
                      exact ⟨j, by simp; omega, by unfold dgAt; rw [hd]; simp [hdd]⟩
                    rw [hall]
                    simp -dsimp only [↓Hold_5, ↓VWP_seq, ↓VWP_region, ↓VWP_cond, ↓VWP_ret, ↓VWP_skip, ↓VWP_block, ↓VReg_one, ↓VReg_non, ↓VReg_nil, ↓VS_move, ↓VS_assign, ↓VS_build, ↓VS_binOp, ↓VS_unOp, ↓VS_index, ↓VS_len, ↓VS_store, ↓With_bindH, ↓With_guard, ↓Hold_1, ↓Hold_3, With_some, emap_nil, ↓eget_eset, ↓ae_tmp, ↓ae_bool, lop_not, asBool_bool, ↓vfinish_ret, ↓vres_nil, ↓vres_tmp, ↓vres_cell, vtell_eq, ret1, Option.map_some, ↓reduceIte, Nat.reduceEqDiff, reduceCtorEq, Bool.false_eq_true, decide_true, decide_false, Bool.not_false, Nat.zero_add, Nat.reduceAdd, Nat.reduceLT, Nat.reduceLeDiff, and_self, List.map_cons, List.map_nil, List.all_cons, List.all_nil, tup_int, tup_str, tup_agg, cel_agg, List.drop_zero, List.toList_toArray, List.size_toArray, List.length_cons, List.length_nil, mapOwn_agg, mapOwn_tuple, mapOwn_bool, mapOwn_int, mapOwn_string, toksL_nil, toksL_cons, toks_int, toks_bool, toks_string, toks_agg, toks_tuple, okv_agg, okv_tuple, okv_bool, okv_int, okv_string, List.flatMap_nil, List.flatMap_cons, List.all_nil, List.all_cons, List.append_nil, List.map_nil, List.map_cons, Bool.and_self, Bool.not_false, beq_self_eq_true, vnext_mk, vget_nil, vput_nil, cellsIn_mk, vthaw_nil, vwrites_nil, List.getD_cons_zero, List.set_cons_zero, List.length_cons, List.length_nil, List.drop_zero, List.take_succ_cons, List.take_zero, vbin_int, ↓vlay_free, cellsOk_free, cellF, abin_lss, beq_self_eq_true, Int.toNat_natCast, decide_true, decide_false, beq_self_eq_true, setAll_whole, afill, vld23, vst23, bd23, ix9, vlr9, ↓vfk44, Tryd.results41, k0, k4, k7, q0, hjs', hd, ↓rdigit_c h.digit, hdd, cellT]
                  · have hdt : dgAt t (i + j) = true := by unfold dgAt; rw [hd]; exact hdd
                    have hbb := byAt_dg hdt
                    have hrl : rowF t i j ≤ 99 := r2 (by omega)
                    have u1 : IntKind.u8.wrap ((d.toNat : Int) - 48) = (d.toNat : Int) - 48 := by simp only [IntKind.wrap, IntKind.bits, IntKind.signed]; simp; omega
                    have v1 := vconv_int (n := (d.toNat : Int) - 48) (by omega) (by omega)
                    have x1 : IntKind.i64.wrap (10 * rowF t i j) = 10 * rowF t i j := wrap_id (by omega) (by omega)
                    have x2 : IntKind.i64.wrap (10 * rowF t i j + ((d.toNat : Int) - 48)) = 10 * rowF t i j + ((d.toNat : Int) - 48) := wrap_id (by omega) (by omega)
                    have x3 : IntKind.i64.wrap (((i + j : Nat) : Int) + 1) = ((i + j : Nat) : Int) + 1 := wrap_id (by omega) (by omega)
                    simp -dsimp only [↓Hold_5, ↓VWP_seq, ↓VWP_region, ↓VWP_cond, ↓VWP_skip, ↓VWP_block, ↓VWP_open, ↓VReg_one, ↓VReg_nil, ↓VS_move, ↓VS_binOp, ↓VS_unOp, ↓VS_index, ↓VS_len, ↓Hold_1, With_some, emap_nil, ↓eget_eset, ↓ae_tmp, lop_not, asBool_bool, Option.map_some, ↓reduceIte, Nat.reduceEqDiff, reduceCtorEq, Bool.false_eq_true, decide_true, Bool.not_true, List.map_cons, List.map_nil, List.map_nil, List.map_cons, Bool.not_true, vbin_int, abin_lss, Int.toNat_natCast, decide_true, ix9, vlr9, ↓vfk44, k0, k7, q0, hjs', hd, ↓rdigit_c h.digit, hdd]
                    refine Vc_open [[], [], [], [], [], [], [], [], [], [], []] false (by kernel_rfl) (by kernel_rfl) (by kernel_rfl) ?_
                    simp -dsimp only [↓VWP_region, ↓VReg_one, ↓VReg_nil, ↓VS_move, ↓VS_assign, ↓VS_load, ↓VS_binOp, ↓VS_fieldAddr, ↓VS_index, ↓VS_store, ↓Hold_1, ↓Hold_3, With_some, emap_nil, ↓eget_eset, ↓ae_tmp, ↓ae_int, light, Option.map_some, ↓reduceIte, Nat.reduceEqDiff, reduceCtorEq, Bool.false_eq_true, decide_false, Bool.not_false, List.getElem?_cons_zero, List.getElem?_cons_succ, Nat.zero_add, Nat.reduceAdd, Nat.reduceLT, Nat.reduceLeDiff, true_and, and_self, List.all_cons, List.all_nil, tup_int, cel_int, List.toList_toArray, List.size_toArray, List.length_cons, List.length_nil, toksL_nil, toksL_cons, toks_int, okv_int, List.all_nil, List.all_cons, List.append_nil, Bool.and_self, Bool.not_false, beq_self_eq_true, vnext_mk, vget_nil, vput_nil, cellsIn_mk, List.getD_cons_zero, List.getD_cons_succ, List.set_cons_zero, List.set_cons_succ, List.length_cons, List.length_nil, vbin_int, ↓vlay_free, cellsOk_free, cellF, abin_add, abin_sub, abin_mul, beq_self_eq_true, Int.toNat_natCast, decide_false, beq_self_eq_true, setAll, ↓VE_nil, ↓VE_one0, ↓VE_non0, List.reverse_cons, vld3, vst3, vfp23_2, ix9, ↓vcv3, k0, k4, k6, k7, q0, hd, u1, v1, x1, x2, x3]
                    refine ⟨t.size - i - (j + 1), by omega, j + 1, rfl, by omega, fun k hk => ?_, by congr 1 <;> omega, ?_⟩
                    · rcases Nat.lt_succ_iff_lt_or_eq.1 hk with hk | rfl
                      · exact hdg k hk
                      · exact hdt
                    · simp only [rowF, hdy]
                · obtain rfl : j = t.size - i := by omega
                  have hjs' : ¬ ((i + (t.size - i) : Nat) : Int) < t.size := by omega
                  have hall : (List.range (t.size - i)).all (fun j => dgAt t (i + j)) = true := by
                    rw [List.all_eq_true]
                    intro k hk
                    exact hdg k (List.mem_range.1 hk)
                  rw [hall]
                  cases hc : celF sheet (colF t i) (rowF t i (t.size - i))
                  · simp -dsimp only [↓Hold_5, ↓VWP_seq, ↓VWP_region, ↓VWP_cond, ↓VWP_ret, ↓VWP_exit, ↓VReg_one, ↓VReg_non, ↓VReg_nil, ↓VS_move, ↓VS_assign, ↓VS_build, ↓VS_load, ↓VS_binOp, ↓VS_unOp, ↓VS_len, ↓VS_store, ↓With_bindH, ↓With_guard, ↓Hold_1, ↓Hold_3, With_some, emap_nil, ↓eget_eset, ↓ae_tmp, ↓ae_bool, lop_not, asBool_bool, ↓vfinish_ret, ↓vres_nil, ↓vres_tmp, ↓vres_cell, vtell_eq, ret1, Option.map_some, ↓reduceIte, Nat.reduceEqDiff, reduceCtorEq, Bool.false_eq_true, decide_false, Bool.not_false, Nat.zero_add, Nat.reduceAdd, Nat.reduceLT, Nat.reduceLeDiff, and_self, List.map_cons, List.map_nil, List.all_cons, List.all_nil, tup_int, tup_str, tup_agg, cel_agg, List.drop_zero, List.toList_toArray, List.size_toArray, List.length_cons, List.length_nil, mapOwn_agg, mapOwn_tuple, mapOwn_bool, mapOwn_int, mapOwn_string, toksL_nil, toksL_cons, toks_int, toks_bool, toks_string, toks_agg, toks_tuple, okv_agg, okv_tuple, okv_bool, okv_int, okv_string, List.flatMap_nil, List.flatMap_cons, List.all_nil, List.all_cons, List.append_nil, List.map_nil, List.map_cons, Bool.and_self, Bool.not_false, beq_self_eq_true, vnext_mk, vget_nil, vput_nil, cellsIn_mk, vthaw_nil, vwrites_nil, List.getD_cons_zero, List.getD_cons_succ, List.set_cons_zero, List.length_cons, List.length_nil, List.drop_zero, List.take_succ_cons, List.take_zero, vbin_int, ↓vlay_free, cellsOk_free, cellF, abin_lss, beq_self_eq_true, decide_false, beq_self_eq_true, setAll_whole, afill, vld23, vst23, bd23, vlr9, ↓vfk18, Tryd.results41, k0, k4, k6, k7, hjs', ↓rr_c h, hc, cellT]
                  · simp -dsimp only [↓Hold_5, ↓VWP_seq, ↓VWP_region, ↓VWP_cond, ↓VWP_ret, ↓VWP_skip, ↓VWP_exit, ↓VReg_one, ↓VReg_non, ↓VReg_nil, ↓VS_move, ↓VS_assign, ↓VS_load, ↓VS_binOp, ↓VS_unOp, ↓VS_len, ↓VS_store, ↓With_bindH, ↓With_guard, ↓Hold_1, ↓Hold_3, With_some, emap_nil, ↓eget_eset, ↓ae_tmp, ↓ae_bool, lop_not, asBool_bool, ↓vfinish_ret, ↓vres_nil, ↓vres_tmp, ↓vres_cell, vtell_eq, ret1, Option.map_some, ↓reduceIte, Nat.reduceEqDiff, reduceCtorEq, Bool.false_eq_true, decide_false, Bool.not_true, Bool.not_false, Nat.zero_add, Nat.reduceAdd, Nat.reduceLT, Nat.reduceLeDiff, and_self, List.map_cons, List.map_nil, List.all_cons, List.all_nil, tup_int, tup_str, tup_agg, cel_agg, List.drop_zero, List.toList_toArray, List.size_toArray, List.length_cons, List.length_nil, mapOwn_agg, mapOwn_tuple, mapOwn_bool, mapOwn_int, mapOwn_string, toksL_nil, toksL_cons, toks_int, toks_bool, toks_string, toks_agg, toks_tuple, okv_agg, okv_tuple, okv_bool, okv_int, okv_string, List.flatMap_nil, List.flatMap_cons, List.all_nil, List.all_cons, List.append_nil, List.map_nil, List.map_cons, Bool.and_self, Bool.not_true, Bool.not_false, beq_self_eq_true, vnext_mk, vget_nil, vput_nil, cellsIn_mk, vthaw_nil, vwrites_nil, List.getD_cons_zero, List.getD_cons_succ, List.set_cons_zero, List.length_cons, List.length_nil, List.drop_zero, List.take_succ_cons, List.take_zero, vbin_int, ↓vlay_free, cellsOk_free, cellF, abin_lss, beq_self_eq_true, decide_false, beq_self_eq_true, setAll_whole, vld23, vst23, vlr9, ↓vfk18, Tryd.results41, k0, k4, k6, k7, hjs', ↓rr_c h, hc, cellT]
        · have hne : ¬ (i : Int) = t.size := by omega
          have wsz : IntKind.i64.wrap ((t.size : Int) - i) = (t.size : Int) - i := wrap_id (by omega) (by omega)
          by_cases h4 : 3 < (t.size : Int) - i
          · have hf : rpF t sheet = none := by unfold rpF; rw [hl, if_pos (.inr (.inl (by omega)))]
            rw [hf]
            simp -dsimp only [↓VWP_seq, ↓VWP_region, ↓VWP_cond, ↓VWP_ret, ↓VWP_exit, ↓VReg_one, ↓VReg_non, ↓VReg_nil, ↓VS_guard, ↓VS_move, ↓VS_assign, ↓VS_pick, ↓VS_build, ↓VS_binOp, ↓VS_len, ↓VS_store, ↓With_bindH, ↓With_guard, ↓Hold_1, ↓Hold_3, With_some, emap_nil, ↓eget_eset, ↓ae_tmp, ↓ae_int, ↓ae_bool, lop_pick, asBool_bool, asGuard_bool, bb_ft, bb_tf, ayielded_eq, ↓dstAt_zero, ↓dstAt_succ, ↓vfinish_ret, ↓vres_nil, ↓vres_tmp, ↓vres_cell, vtell_eq, ret1, Option.map_some, Option.bind_some, ↓reduceIte, Nat.reduceEqDiff, reduceCtorEq, Bool.false_eq_true, decide_true, decide_false, Bool.not_false, Nat.zero_add, Nat.reduceAdd, Nat.reduceLT, Nat.reduceLeDiff, and_self, List.map_cons, List.map_nil, List.all_cons, List.all_nil, tup_int, tup_str, tup_agg, cel_agg, List.drop_zero, List.toList_toArray, List.size_toArray, List.length_cons, List.length_nil, mapOwn_agg, mapOwn_tuple, mapOwn_bool, mapOwn_int, mapOwn_string, toksL_nil, toksL_cons, toks_int, toks_bool, toks_string, toks_agg, toks_tuple, okv_agg, okv_tuple, okv_bool, okv_int, okv_string, List.flatMap_nil, List.flatMap_cons, List.all_nil, List.all_cons, List.append_nil, List.map_nil, List.map_cons, Bool.and_self, Bool.not_false, beq_self_eq_true, vnext_mk, vget_nil, vput_nil, cellsIn_mk, vthaw_nil, vwrites_nil, List.getD_cons_zero, List.set_cons_zero, List.length_cons, List.length_nil, List.drop_zero, List.take_succ_cons, List.take_zero, vbin_int, ↓vlay_free, cellsOk_free, cellF, abin_eql, abin_lss, abin_gtr, abin_sub, beq_self_eq_true, gt_iff_lt, decide_true, decide_false, beq_self_eq_true, bb_ft, bb_tf, setAll_whole, afill, ibeq, vld23, vst23, bd23, vlr9, Tryd.results41, e0, e4, e7, hs', h3, hne, wsz, h4, cellT]
          · by_cases h48 : (b.toNat : Int) = 48
            · have hf : rpF t sheet = none := by unfold rpF; rw [hl, if_pos (.inr (.inr (by rw [hby]; exact h48)))]
              rw [hf]
              simp -dsimp only [↓VWP_seq, ↓VWP_region, ↓VWP_cond, ↓VWP_ret, ↓VWP_exit, ↓VReg_one, ↓VReg_non, ↓VReg_nil, ↓VS_guard, ↓VS_move, ↓VS_assign, ↓VS_pick, ↓VS_build, ↓VS_binOp, ↓VS_index, ↓VS_len, ↓VS_store, ↓With_bindH, ↓With_guard, ↓Hold_1, ↓Hold_3, With_some, emap_nil, ↓eget_eset, ↓ae_tmp, ↓ae_int, ↓ae_bool, lop_pick, asBool_bool, asGuard_bool, bb_ft, ayielded_eq, ↓dstAt_zero, ↓dstAt_succ, ↓vfinish_ret, ↓vres_nil, ↓vres_tmp, ↓vres_cell, vtell_eq, ret1, Option.map_some, Option.bind_some, ↓reduceIte, Nat.reduceEqDiff, reduceCtorEq, Bool.false_eq_true, decide_true, decide_false, Bool.not_false, Nat.zero_add, Nat.reduceAdd, Nat.reduceLT, Nat.reduceLeDiff, and_self, List.map_cons, List.map_nil, List.all_cons, List.all_nil, tup_int, tup_str, tup_agg, cel_agg, List.drop_zero, List.toList_toArray, List.size_toArray, List.length_cons, List.length_nil, mapOwn_agg, mapOwn_tuple, mapOwn_bool, mapOwn_int, mapOwn_string, toksL_nil, toksL_cons, toks_int, toks_bool, toks_string, toks_agg, toks_tuple, okv_agg, okv_tuple, okv_bool, okv_int, okv_string, List.flatMap_nil, List.flatMap_cons, List.all_nil, List.all_cons, List.append_nil, List.map_nil, List.map_cons, Bool.and_self, Bool.not_false, beq_self_eq_true, vnext_mk, vget_nil, vput_nil, cellsIn_mk, vthaw_nil, vwrites_nil, List.getD_cons_zero, List.set_cons_zero, List.length_cons, List.length_nil, List.drop_zero, List.take_succ_cons, List.take_zero, vbin_int, ↓vlay_free, cellsOk_free, cellF, abin_eql, abin_lss, abin_gtr, abin_sub, beq_self_eq_true, Int.toNat_natCast, gt_iff_lt, decide_true, decide_false, beq_self_eq_true, bb_ft, setAll_whole, afill, ibeq, vld23, vst23, bd23, ix9, vlr9, Tryd.results41, e0, e4, e7, h0, hs', h3, hne, wsz, h4, hb, h48, cellT]
            · have hrp : rpF t sheet = if (List.range (t.size - i)).all (fun j => dgAt t (i + j)) then (if celF sheet (colF t i) (rowF t i (t.size - i)) then some (colF t i, rowF t i (t.size - i)) else none) else none := by
                unfold rpF
                rw [hl, if_neg (by rw [hby]; omega)]
              rw [hrp]
              simp -dsimp only [↓VWP_seq, ↓VWP_region, ↓VWP_cond, ↓VWP_skip, ↓VWP_block, ↓VWP_exit, ↓VWP_loop, ↓VReg_one, ↓VReg_nil, ↓VS_guard, ↓VS_move, ↓VS_pick, ↓VS_binOp, ↓VS_index, ↓VS_len, ↓Hold_1, ↓Hold_3, With_some, emap_nil, ↓eget_eset, ↓ae_tmp, ↓ae_int, ↓ae_bool, lop_pick, asBool_bool, asGuard_bool, bb_ft, ayielded_eq, ↓dstAt_zero, ↓dstAt_succ, Option.map_some, Option.bind_some, ↓reduceIte, Nat.reduceEqDiff, reduceCtorEq, Bool.false_eq_true, decide_true, decide_false, beq_self_eq_true, vbin_int, abin_eql, abin_lss, abin_gtr, abin_sub, beq_self_eq_true, Int.toNat_natCast, gt_iff_lt, decide_true, decide_false, beq_self_eq_true, bb_ft, ibeq, ix9, vlr9, e0, e7, h0, hs', h3, hne, wsz, h4, hb, h48]
              refine Vc_loop (fun m e S => ∃ j : Nat, m = t.size - i - j ∧ i + j ≤ t.size ∧ (∀ k, k < j → dgAt t (i + k) = true) ∧ eget e 0 = .string t ∧ eget e 4 = .pointer (some { block := 0, off := 0 }) ∧ eget e 6 = .pointer (some { block := 1, off := 0 }) ∧ eget e 7 = .int .i64 ((i + j : Nat) : Int) ∧ S = ⟨[], [.cells true 23 [.string .empty, .int .i64 0, .int .i64 0], .cells true 23 [.string sheet, .int .i64 (colF t i), .int .i64 (rowF t i j)]], []⟩) (t.size - i) ?_ ?_
              · refine ⟨0, rfl, by omega, fun j hj => absurd hj (Nat.not_lt_zero j), ?_, ?_, ?_, ?_, rfl⟩ <;> first | (simp only [↓eget_eset, ↓reduceIte, Nat.reduceEqDiff, reduceCtorEq, Nat.add_zero, e0, e4, e6, e7]; done) | (simp only [emap_nil, emap_cons, ↓eget_map, ↓eget_eset, ↓ae_tmp, ↓ae_int, ↓ae_bool, ↓ae_string, ↓ae_func, ↓ae_slice0, ↓ae_ptr0, eget_zero, eget_succ, eget_nil, ↓reduceIte, Nat.reduceEqDiff, reduceCtorEq, Bool.false_eq_true, Nat.reduceBEq, decide_true, decide_false, Bool.not_true, Bool.not_false, List.getElem?_toArray, List.getElem?_cons_zero, List.getElem?_cons_succ, Nat.zero_add, Nat.add_zero, Nat.reduceAdd, Nat.reduceMul, Nat.reduceSub, Nat.reduceLT, Nat.reduceLeDiff, and_true, true_and, and_self, toks_sl, thaw_sl, scrub_sl, thawAll_sl, lend_sl, drop_sl, okv_sl, okv_sl0, tup_sl, cel_sl, cellV_sl, isAggV_sl, velems_sl, toks_ol, thawAll_ol, lend_ol, thaw_ol, tup_ol, cel_ol, velems_ol, thaw_tok0, thaw_tok1, growT_sl, growT_ro, growT_at, vgrow_ol, mapOwn_vs, mapOwn_vo, mapOwn_vp, mapOwn_agg, mapOwn_tuple, mapOwn_iface, mapOwn_clo, mapOwn_bool, mapOwn_int, mapOwn_string, mapOwn_pointer, mapOwn_slice, mapOwn_chan, mapOwn_nilFunc, mapOwn_nilIface, mapOwn_undef, mapOwn_nr, thaw_own, thawAll_own, scrub_own, lend_own_true, thaw_ro, thawAll_ro, scrub_ro, lend_ro, drop_ro, fate_ro, thaw_at, scrub_at, drop_at, fate_at, mapOwnL_nil, mapOwnL_cons, okvL_nil, okvL_cons, toksL_nil, toksL_cons, toks_int, toks_bool, toks_string, toks_pointer, toks_slice, toks_nilFunc, toks_nilIface, toks_agg, toks_tuple, toks_iface, toks_clo, toks_vs, toks_vo, okv_agg, okv_tuple, okv_iface, okv_clo, okv_vs, okv_vo, okv_vp, okv_vq, okv_vr, okv_bool, okv_int, okv_string, okv_ptr0, okv_ptr, okv_slice0, okv_nilFunc, okv_nilIface, okv_chan, List.flatMap_nil, List.flatMap_cons, List.all_nil, List.all_cons, List.append_nil, List.nil_append, List.cons_append, List.map_nil, List.map_cons, List.isEmpty_nil, List.isEmpty_cons, Bool.and_true, Bool.and_false, Bool.false_and, Bool.and_self, Bool.true_and, Bool.not_true, Bool.not_false, Bool.false_or, Bool.true_or, Bool.or_false, List.mem_cons, List.mem_singleton, List.not_mem_nil, or_false, false_or, Prod.mk.injEq, beq_self_eq_true, e0, e4, e6, e7]; rfl)
              · rintro m e S ⟨j, rfl, hij, hdg, k0, k4, k6, k7, rfl⟩
                refine VWP_Vc _ _ _ _ ?_
                have q0 : (0 : Int) ≤ ((i + j : Nat) : Int) := by omega
                obtain ⟨r0, r1, r2⟩ := rowF_le (t := t) (i := i) (j := j) (by omega) hdg
                by_cases hjs : i + j < t.size
                · have hjs' : ((i + j : Nat) : Int) < t.size := by omega
                  obtain ⟨d, hd⟩ := ba_get hjs
                  have hdy : byAt t (i + j) = d.toNat := by unfold byAt; rw [hd]
                  cases hdd : digitB d.toNat
                  · have hall : (List.range (t.size - i)).all (fun j => dgAt t (i + j)) = false := by
                      rw [List.all_eq_false]
                      exact ⟨j, by simp; omega, by unfold dgAt; rw [hd]; simp [hdd]⟩
                    rw [hall]
                    simp -dsimp only [↓Hold_5, ↓VWP_seq, ↓VWP_region, ↓VWP_cond, ↓VWP_ret, ↓VWP_skip, ↓VWP_block, ↓VReg_one, ↓VReg_non, ↓VReg_nil, ↓VS_move, ↓VS_assign, ↓VS_build, ↓VS_binOp, ↓VS_unOp, ↓VS_index, ↓VS_len, ↓VS_store, ↓With_bindH, ↓With_guard, ↓Hold_1, ↓Hold_3, With_some, emap_nil, ↓eget_eset, ↓ae_tmp, ↓ae_bool, lop_not, asBool_bool, ↓vfinish_ret, ↓vres_nil, ↓vres_tmp, ↓vres_cell, vtell_eq, ret1, Option.map_some, ↓reduceIte, Nat.reduceEqDiff, reduceCtorEq, Bool.false_eq_true, decide_true, decide_false, Bool.not_false, Nat.zero_add, Nat.reduceAdd, Nat.reduceLT, Nat.reduceLeDiff, and_self, List.map_cons, List.map_nil, List.all_cons, List.all_nil, tup_int, tup_str, tup_agg, cel_agg, List.drop_zero, List.toList_toArray, List.size_toArray, List.length_cons, List.length_nil, mapOwn_agg, mapOwn_tuple, mapOwn_bool, mapOwn_int, mapOwn_string, toksL_nil, toksL_cons, toks_int, toks_bool, toks_string, toks_agg, toks_tuple, okv_agg, okv_tuple, okv_bool, okv_int, okv_string, List.flatMap_nil, List.flatMap_cons, List.all_nil, List.all_cons, List.append_nil, List.map_nil, List.map_cons, Bool.and_self, Bool.not_false, beq_self_eq_true, vnext_mk, vget_nil, vput_nil, cellsIn_mk, vthaw_nil, vwrites_nil, List.getD_cons_zero, List.set_cons_zero, List.length_cons, List.length_nil, List.drop_zero, List.take_succ_cons, List.take_zero, vbin_int, ↓vlay_free, cellsOk_free, cellF, abin_lss, beq_self_eq_true, Int.toNat_natCast, decide_true, decide_false, beq_self_eq_true, setAll_whole, afill, vld23, vst23, bd23, ix9, vlr9, ↓vfk44, Tryd.results41, k0, k4, k7, q0, hjs', hd, ↓rdigit_c h.digit, hdd, cellT]
                  · have hdt : dgAt t (i + j) = true := by unfold dgAt; rw [hd]; exact hdd
                    have hbb := byAt_dg hdt
                    have hrl : rowF t i j ≤ 99 := r2 (by omega)
                    have u1 : IntKind.u8.wrap ((d.toNat : Int) - 48) = (d.toNat : Int) - 48 := by simp only [IntKind.wrap, IntKind.bits, IntKind.signed]; simp; omega
                    have v1 := vconv_int (n := (d.toNat : Int) - 48) (by omega) (by omega)
                    have x1 : IntKind.i64.wrap (10 * rowF t i j) = 10 * rowF t i j := wrap_id (by omega) (by omega)
                    have x2 : IntKind.i64.wrap (10 * rowF t i j + ((d.toNat : Int) - 48)) = 10 * rowF t i j + ((d.toNat : Int) - 48) := wrap_id (by omega) (by omega)
                    have x3 : IntKind.i64.wrap (((i + j : Nat) : Int) + 1) = ((i + j : Nat) : Int) + 1 := wrap_id (by omega) (by omega)
                    simp -dsimp only [↓Hold_5, ↓VWP_seq, ↓VWP_region, ↓VWP_cond, ↓VWP_skip, ↓VWP_block, ↓VWP_open, ↓VReg_one, ↓VReg_nil, ↓VS_move, ↓VS_binOp, ↓VS_unOp, ↓VS_index, ↓VS_len, ↓Hold_1, With_some, emap_nil, ↓eget_eset, ↓ae_tmp, lop_not, asBool_bool, Option.map_some, ↓reduceIte, Nat.reduceEqDiff, reduceCtorEq, Bool.false_eq_true, decide_true, Bool.not_true, List.map_cons, List.map_nil, List.map_nil, List.map_cons, Bool.not_true, vbin_int, abin_lss, Int.toNat_natCast, decide_true, ix9, vlr9, ↓vfk44, k0, k7, q0, hjs', hd, ↓rdigit_c h.digit, hdd]
                    refine Vc_open [[], [], [], [], [], [], [], [], [], [], []] false (by kernel_rfl) (by kernel_rfl) (by kernel_rfl) ?_
                    simp -dsimp only [↓VWP_region, ↓VReg_one, ↓VReg_nil, ↓VS_move, ↓VS_assign, ↓VS_load, ↓VS_binOp, ↓VS_fieldAddr, ↓VS_index, ↓VS_store, ↓Hold_1, ↓Hold_3, With_some, emap_nil, ↓eget_eset, ↓ae_tmp, ↓ae_int, light, Option.map_some, ↓reduceIte, Nat.reduceEqDiff, reduceCtorEq, Bool.false_eq_true, decide_false, Bool.not_false, List.getElem?_cons_zero, List.getElem?_cons_succ, Nat.zero_add, Nat.reduceAdd, Nat.reduceLT, Nat.reduceLeDiff, true_and, and_self, List.all_cons, List.all_nil, tup_int, cel_int, List.toList_toArray, List.size_toArray, List.length_cons, List.length_nil, toksL_nil, toksL_cons, toks_int, okv_int, List.all_nil, List.all_cons, List.append_nil, Bool.and_self, Bool.not_false, beq_self_eq_true, vnext_mk, vget_nil, vput_nil, cellsIn_mk, List.getD_cons_zero, List.getD_cons_succ, List.set_cons_zero, List.set_cons_succ, List.length_cons, List.length_nil, vbin_int, ↓vlay_free, cellsOk_free, cellF, abin_add, abin_sub, abin_mul, beq_self_eq_true, Int.toNat_natCast, decide_false, beq_self_eq_true, setAll, ↓VE_nil, ↓VE_one0, ↓VE_non0, List.reverse_cons, vld3, vst3, vfp23_2, ix9, ↓vcv3, k0, k4, k6, k7, q0, hd, u1, v1, x1, x2, x3]
                    refine ⟨t.size - i - (j + 1), by omega, j + 1, rfl, by omega, fun k hk => ?_, by congr 1 <;> omega, ?_⟩
                    · rcases Nat.lt_succ_iff_lt_or_eq.1 hk with hk | rfl
                      · exact hdg k hk
                      · exact hdt
                    · simp only [rowF, hdy]
                · obtain rfl : j = t.size - i := by omega
                  have hjs' : ¬ ((i + (t.size - i) : Nat) : Int) < t.size := by omega
                  have hall : (List.range (t.size - i)).all (fun j => dgAt t (i + j)) = true := by
                    rw [List.all_eq_true]
                    intro k hk
                    exact hdg k (List.mem_range.1 hk)
                  rw [hall]
                  cases hc : celF sheet (colF t i) (rowF t i (t.size - i))
                  · simp -dsimp only [↓Hold_5, ↓VWP_seq, ↓VWP_region, ↓VWP_cond, ↓VWP_ret, ↓VWP_exit, ↓VReg_one, ↓VReg_non, ↓VReg_nil, ↓VS_move, ↓VS_assign, ↓VS_build, ↓VS_load, ↓VS_binOp, ↓VS_unOp, ↓VS_len, ↓VS_store, ↓With_bindH, ↓With_guard, ↓Hold_1, ↓Hold_3, With_some, emap_nil, ↓eget_eset, ↓ae_tmp, ↓ae_bool, lop_not, asBool_bool, ↓vfinish_ret, ↓vres_nil, ↓vres_tmp, ↓vres_cell, vtell_eq, ret1, Option.map_some, ↓reduceIte, Nat.reduceEqDiff, reduceCtorEq, Bool.false_eq_true, decide_false, Bool.not_false, Nat.zero_add, Nat.reduceAdd, Nat.reduceLT, Nat.reduceLeDiff, and_self, List.map_cons, List.map_nil, List.all_cons, List.all_nil, tup_int, tup_str, tup_agg, cel_agg, List.drop_zero, List.toList_toArray, List.size_toArray, List.length_cons, List.length_nil, mapOwn_agg, mapOwn_tuple, mapOwn_bool, mapOwn_int, mapOwn_string, toksL_nil, toksL_cons, toks_int, toks_bool, toks_string, toks_agg, toks_tuple, okv_agg, okv_tuple, okv_bool, okv_int, okv_string, List.flatMap_nil, List.flatMap_cons, List.all_nil, List.all_cons, List.append_nil, List.map_nil, List.map_cons, Bool.and_self, Bool.not_false, beq_self_eq_true, vnext_mk, vget_nil, vput_nil, cellsIn_mk, vthaw_nil, vwrites_nil, List.getD_cons_zero, List.getD_cons_succ, List.set_cons_zero, List.length_cons, List.length_nil, List.drop_zero, List.take_succ_cons, List.take_zero, vbin_int, ↓vlay_free, cellsOk_free, cellF, abin_lss, beq_self_eq_true, decide_false, beq_self_eq_true, setAll_whole, afill, vld23, vst23, bd23, vlr9, ↓vfk18, Tryd.results41, k0, k4, k6, k7, hjs', ↓rr_c h, hc, cellT]
                  · simp -dsimp only [↓Hold_5, ↓VWP_seq, ↓VWP_region, ↓VWP_cond, ↓VWP_ret, ↓VWP_skip, ↓VWP_exit, ↓VReg_one, ↓VReg_non, ↓VReg_nil, ↓VS_move, ↓VS_assign, ↓VS_load, ↓VS_binOp, ↓VS_unOp, ↓VS_len, ↓VS_store, ↓With_bindH, ↓With_guard, ↓Hold_1, ↓Hold_3, With_some, emap_nil, ↓eget_eset, ↓ae_tmp, ↓ae_bool, lop_not, asBool_bool, ↓vfinish_ret, ↓vres_nil, ↓vres_tmp, ↓vres_cell, vtell_eq, ret1, Option.map_some, ↓reduceIte, Nat.reduceEqDiff, reduceCtorEq, Bool.false_eq_true, decide_false, Bool.not_true, Bool.not_false, Nat.zero_add, Nat.reduceAdd, Nat.reduceLT, Nat.reduceLeDiff, and_self, List.map_cons, List.map_nil, List.all_cons, List.all_nil, tup_int, tup_str, tup_agg, cel_agg, List.drop_zero, List.toList_toArray, List.size_toArray, List.length_cons, List.length_nil, mapOwn_agg, mapOwn_tuple, mapOwn_bool, mapOwn_int, mapOwn_string, toksL_nil, toksL_cons, toks_int, toks_bool, toks_string, toks_agg, toks_tuple, okv_agg, okv_tuple, okv_bool, okv_int, okv_string, List.flatMap_nil, List.flatMap_cons, List.all_nil, List.all_cons, List.append_nil, List.map_nil, List.map_cons, Bool.and_self, Bool.not_true, Bool.not_false, beq_self_eq_true, vnext_mk, vget_nil, vput_nil, cellsIn_mk, vthaw_nil, vwrites_nil, List.getD_cons_zero, List.getD_cons_succ, List.set_cons_zero, List.length_cons, List.length_nil, List.drop_zero, List.take_succ_cons, List.take_zero, vbin_int, ↓vlay_free, cellsOk_free, cellF, abin_lss, beq_self_eq_true, decide_false, beq_self_eq_true, setAll_whole, vld23, vst23, vlr9, ↓vfk18, Tryd.results41, k0, k4, k6, k7, hjs', ↓rr_c h, hc, cellT]
      · have hs' : ¬ (i : Int) < t.size := by omega
        have hne : (i : Int) = t.size := by omega
        have hf : rpF t sheet = none := by unfold rpF; rw [hl, if_pos (.inl (by omega))]
        rw [hf]
        simp -dsimp only [↓VWP_seq, ↓VWP_region, ↓VWP_cond, ↓VWP_ret, ↓VWP_exit, ↓VReg_one, ↓VReg_non, ↓VReg_nil, ↓VS_guard, ↓VS_move, ↓VS_assign, ↓VS_pick, ↓VS_build, ↓VS_binOp, ↓VS_len, ↓VS_store, ↓With_bindH, ↓With_guard, ↓Hold_1, ↓Hold_3, With_some, emap_nil, ↓eget_eset, ↓ae_tmp, ↓ae_bool, lop_pick, asBool_bool, asGuard_bool, bb_ft, bb_tf, ayielded_eq, ↓dstAt_zero, ↓dstAt_succ, ↓vfinish_ret, ↓vres_nil, ↓vres_tmp, ↓vres_cell, vtell_eq, ret1, Option.map_some, Option.bind_some, ↓reduceIte, Nat.reduceEqDiff, reduceCtorEq, Bool.false_eq_true, decide_false, Bool.not_false, Nat.zero_add, Nat.reduceAdd, Nat.reduceLT, Nat.reduceLeDiff, and_self, List.map_cons, List.map_nil, List.all_cons, List.all_nil, tup_int, tup_str, tup_agg, cel_agg, List.drop_zero, List.toList_toArray, List.size_toArray, List.length_cons, List.length_nil, mapOwn_agg, mapOwn_tuple, mapOwn_bool, mapOwn_int, mapOwn_string, toksL_nil, toksL_cons, toks_int, toks_bool, toks_string, toks_agg, toks_tuple, okv_agg, okv_tuple, okv_bool, okv_int, okv_string, List.flatMap_nil, List.flatMap_cons, List.all_nil, List.all_cons, List.append_nil, List.map_nil, List.map_cons, Bool.and_self, Bool.not_false, beq_self_eq_true, vnext_mk, vget_nil, vput_nil, cellsIn_mk, vthaw_nil, vwrites_nil, List.getD_cons_zero, List.set_cons_zero, List.length_cons, List.length_nil, List.drop_zero, List.take_succ_cons, List.take_zero, vbin_int, ↓vlay_free, cellsOk_free, cellF, abin_eql, abin_lss, beq_self_eq_true, Int.lt_irrefl, decide_false, beq_self_eq_true, bb_ft, bb_tf, setAll_whole, afill, vld23, vst23, bd23, vlr9, Tryd.results41, e0, e4, e7, hne, cellT]
end
end Go.Proofs.YtmdpggecelheoaaDoor.Abs
/- The law AddrTells: the plain side. -/
set_option linter.unusedVariables false
set_option linter.unusedSimpArgs false
namespace Go.Proofs.YtmdpggecelheoaaDoor.Abs
open Go
theorem ba_at (s : ByteArray) (i : Nat) : s[i]? = s.data.toList[i]? := by
  rw [Array.getElem?_toList]
  rcases Nat.lt_or_ge i s.size with h | h
  · rw [getElem?_pos s i h, getElem?_pos s.data i h]; rfl
  · rw [getElem?_neg s i (by omega), getElem?_neg s.data i (by show ¬ i < s.size; omega)]
/-- What At reads is what Place writes. -/
theorem atF_some {t : ByteArray} {c r : Int} (h : atF t = some (c, r)) : placeF c r = true ∧ plS c r = t := by
  have go : ∀ n col, tryPl t n col = some (c, r) → placeF c r = true ∧ plS c r = t := by
    intro n col h
    unfold tryPl at h
    split at h
    · split at h
      · rename_i hh
        cases h
        exact hh
      · cases h
    · cases h
  unfold atF at h
  split at h
  · split at h
    · split at h
      · split at h
        · exact go _ _ h
        · exact go _ _ h
      · exact go _ _ h
    · cases h
  · cases h
end Go.Proofs.YtmdpggecelheoaaDoor.Abs
/- Cells are read: the program and the reference. -/
set_option linter.unusedVariables false
set_option linter.unusedSimpArgs false
set_option maxRecDepth 4000
set_option maxHeartbeats 0
namespace Go.Proofs.YtmdpggecelheoaaDoor.Abs
open Go
attribute [local irreducible] Hold VReg Vf Vc VWP With VStp Vcallee Vp VE
/-- Where the first '!' is. -/
def bangF (s : ByteArray) : Option Nat := if 0 ≤ Lib.index s.data.toList [33] then some (Lib.index s.data.toList [33]).toNat else none
theorem occ_one (l : List UInt8) (j : Nat) : Lib.occAt l [33] j = true ↔ l[j]? = some 33 := by
  unfold Lib.occAt
  rw [← List.head?_drop]
  cases l.drop j with
  | nil => simp [List.isPrefixOf]
  | cons a r =>
    simp only [List.isPrefixOf, List.head?_cons, Option.some.injEq, Bool.and_true, beq_iff_eq]
    exact ⟨fun h => h.symm, fun h => h.symm⟩
theorem bang_none {s : ByteArray} (h : bangF s = none) : ∀ j : Nat, s[j]? ≠ some 33 := by
  intro j hj
  rw [ba_at] at hj
  unfold bangF at h
  rcases Lib.index_spec s.data.toList [33] with ⟨_, hn⟩ | ⟨i, hi, _⟩
  · have hlt : j < s.data.toList.length := (List.getElem?_eq_some_iff.1 hj).1
    have := hn j (by omega)
    rw [(occ_one _ _).2 hj] at this
    cases this
  · rw [hi, if_pos (by omega)] at h
    cases h
theorem bang_some {s : ByteArray} {i : Nat} (h : bangF s = some i) : i < s.size ∧ s[i]? = some 33 ∧ ∀ j : Nat, j < i → s[j]? ≠ some 33 := by
  unfold bangF at h
  rcases Lib.index_spec s.data.toList [33] with ⟨hm, _⟩ | ⟨k, hk, _, hocc, hno⟩
  · rw [hm, if_neg (by decide)] at h
    cases h
  · rw [hk, if_pos (by omega)] at h
    have : k = i := by simpa using h
    subst this
    have h33 := (occ_one _ _).1 hocc
    refine ⟨?_, by rw [ba_at]; exact h33, fun j hj hc => ?_⟩
    · have := (List.getElem?_eq_some_iff.1 h33).1
      rw [Array.length_toList] at this
      exact this
    · rw [ba_at] at hc
      have := hno j hj
      rw [(occ_one _ _).2 hc] at this
      cases this
/-- What the reference reads. -/
def rcF (s : ByteArray) : Value := match bangF s with
  | some i => cellT (s.extract 0 i) (rpF (s.extract (i + 1) s.size) (s.extract 0 i))
  | none => cellT .empty none
section
variable {X : VOuter}
theorem rcell_p (h : ROff X) (hX : X 14 = none) (hr : ∀ t sheet : ByteArray, t.size ≤ 1000 → ∀ S K, Vcallee Tryd.prog X 41 [.string t, .string sheet] S K = K (cellT sheet (rpF t sheet)) [] S [] false) (s : ByteArray) (hs : s.size ≤ 1000) : Vp Tryd.prog X 14 [.string s] (rcF s) := by
  unfold Vp
  refine Vf_text hX Tryd.func14 rfl (by kernel_rfl) (by show 1 ≤ _; decide) ?_
  simp -dsimp only [↓VWP_seq, ↓VWP_region, ↓VWP_block, ↓VWP_loop, ↓VReg_one, ↓VReg_nil, ↓VS_assign, ↓Hold_1, With_some, emap_nil, ↓ae_int, ↓ae_bool, Nat.add_zero, List.length_nil, List.nil_append, vnext_mk, vpush_mk, List.length_nil, ↓val23]
  refine Vc_loop (fun m e S => ∃ i : Nat, m = s.size - i ∧ i ≤ s.size ∧ (∀ j : Nat, j < i → s[j]? ≠ some 33) ∧ eget e 0 = .string s ∧ eget e 2 = .pointer (some { block := 0, off := 0 }) ∧ eget e 4 = .int .i64 i ∧ S = ⟨[], [.cells true 23 [.string .empty, .int .i64 0, .int .i64 0]], []⟩) s.size ?_ ?_
  · refine ⟨0, rfl, Nat.zero_le _, fun j hj => absurd hj (Nat.not_lt_zero j), ?_, ?_, ?_, rfl⟩ <;> first | (simp only [↓eget_eset, eget_zero, ↓reduceIte, Nat.reduceEqDiff, reduceCtorEq]; done) | (simp only [↓eget_eset, ↓reduceIte]; rfl)
  · rintro m e S ⟨i, rfl, hi, hno, e0, e2, e4, rfl⟩
    refine VWP_Vc _ _ _ _ ?_
    have h0 : (0 : Int) ≤ i := by omega
    have wn : IntKind.i64.wrap ((i : Int) + 1) = (i : Int) + 1 := wrap_id (by omega) (by omega)
    by_cases hin : i < s.size
    · have hlt : (i : Int) < s.size := by omega
      obtain ⟨b, hb⟩ := ba_get hin
      by_cases h33 : (b.toNat : Int) = 33
      · have hb33 : b = 33 := UInt8.toNat_inj.1 (by show b.toNat = 33; omega)
        subst hb33
        have hbg : bangF s = some i := by
          cases hbf : bangF s with
          | none => exact absurd hb (bang_none hbf i)
          | some k =>
            obtain ⟨k1, k2, k3⟩ := bang_some hbf
            rcases Nat.lt_trichotomy k i with hk | rfl | hk
            · exact absurd k2 (hno k hk)
            · rfl
            · exact absurd hb (k3 i hk)
        have hf : rcF s = cellT (s.extract 0 i) (rpF (s.extract (i + 1) s.size) (s.extract 0 i)) := by unfold rcF; rw [hbg]
        rw [hf]
        have g1 : (i : Int) + 1 ≤ s.size := by omega
        have g2 : (0 : Int) ≤ (i : Int) + 1 := by omega
        have g3 : ((i : Int) + 1).toNat = i + 1 := by omega
        have g4 : (i : Int) ≤ s.size := by omega
        have hrr := fun S K => hr (s.extract (i + 1) s.size) (s.extract 0 i) (by rw [ByteArray.size_extract]; omega) S K
        cases hp : rpF (s.extract (i + 1) s.size) (s.extract 0 i) with
        | none =>
          rw [hp] at hrr
          simp only [cellT] at hrr
          simp -dsimp only [↓VWP_seq, ↓VWP_region, ↓VWP_cond, ↓VWP_skip, ↓VWP_block, ↓VWP_open, ↓VReg_one, ↓VReg_nil, ↓VS_move, ↓VS_binOp, ↓VS_index, ↓VS_len, ↓Hold_1, With_some, emap_nil, ↓eget_eset, ↓ae_tmp, ↓ae_int, asBool_bool, Option.map_some, ↓reduceIte, Nat.reduceEqDiff, reduceCtorEq, decide_true, beq_self_eq_true, vbin_int, abin_eql, abin_lss, beq_self_eq_true, Int.toNat_natCast, decide_true, beq_self_eq_true, ix9, vlr9, e0, e4, hlt, h0, hb, h33]
          refine Vc_open [[], [], [], [], [], [], [], [], [], [], [], []] false (by kernel_rfl) (by kernel_rfl) (by kernel_rfl) ?_
          simp -dsimp only [↓Hold_5, ↓VWP_ret, ↓VS_move, ↓VS_assign, ↓VS_binOp, ↓VS_slice, ↓VS_extract, ↓VS_store, ↓With_bindH, ↓With_guard, ↓Hold_1, ↓Hold_3, With_some, emap_nil, ↓eget_eset, ↓ae_tmp, ↓ae_int, lop_extract, light, ↓vfinish_ret, ↓vres_nil, ↓vres_tmp, ↓vres_cell, vtell_eq, ret1, Option.map_some, Option.bind_some, Option.map_none, ↓reduceIte, Nat.reduceEqDiff, reduceCtorEq, Bool.false_eq_true, decide_false, Bool.not_false, List.getElem?_toArray, List.getElem?_cons_zero, List.getElem?_cons_succ, Nat.zero_add, Nat.reduceAdd, Nat.reduceLT, Nat.reduceLeDiff, true_and, and_self, List.map_cons, List.map_nil, List.all_cons, List.all_nil, tup_int, tup_str, tup_agg, cel_agg, List.drop_zero, List.toList_toArray, List.size_toArray, List.length_cons, List.length_nil, mapOwn_agg, mapOwn_tuple, mapOwn_bool, mapOwn_int, mapOwn_string, toksL_nil, toksL_cons, toks_int, toks_bool, toks_string, toks_agg, toks_tuple, okv_agg, okv_tuple, okv_bool, okv_int, okv_string, List.flatMap_nil, List.flatMap_cons, List.all_nil, List.all_cons, List.append_nil, List.nil_append, List.cons_append, List.map_nil, List.map_cons, Bool.and_self, Bool.not_false, beq_self_eq_true, vnext_mk, vget_nil, vput_nil, cellsIn_mk, vthaw_nil, vwrites_nil, List.getD_cons_zero, List.set_cons_zero, List.length_cons, List.length_nil, List.drop_zero, List.take_succ_cons, List.take_zero, vbin_int, ↓vlay_free, cellsOk_free, cellF, abin_add, beq_self_eq_true, Int.reduceToNat, Int.toNat_natCast, decide_false, beq_self_eq_true, setAll_whole, abound_none, abound_some, ↓VE_nil, ↓VE_one0, ↓VE_non0, List.reverse_cons, List.reverse_nil, vld23, vst23, vsl9, ↓vfk41, Tryd.results14, e0, e2, e4, wn, g1, g2, g3, g4, h0, Int.le_refl, ↓hrr, cellT]
        | some cr =>
          obtain ⟨c, r⟩ := cr
          rw [hp] at hrr
          simp only [cellT] at hrr
          simp -dsimp only [↓VWP_seq, ↓VWP_region, ↓VWP_cond, ↓VWP_skip, ↓VWP_block, ↓VWP_open, ↓VReg_one, ↓VReg_nil, ↓VS_move, ↓VS_binOp, ↓VS_index, ↓VS_len, ↓Hold_1, With_some, emap_nil, ↓eget_eset, ↓ae_tmp, ↓ae_int, asBool_bool, Option.map_some, ↓reduceIte, Nat.reduceEqDiff, reduceCtorEq, decide_true, beq_self_eq_true, vbin_int, abin_eql, abin_lss, beq_self_eq_true, Int.toNat_natCast, decide_true, beq_self_eq_true, ix9, vlr9, e0, e4, hlt, h0, hb, h33]
          refine Vc_open [[], [], [], [], [], [], [], [], [], [], [], []] false (by kernel_rfl) (by kernel_rfl) (by kernel_rfl) ?_
          simp -dsimp only [↓Hold_5, ↓VWP_ret, ↓VS_move, ↓VS_assign, ↓VS_binOp, ↓VS_slice, ↓VS_extract, ↓VS_store, ↓With_bindH, ↓With_guard, ↓Hold_1, ↓Hold_3, With_some, emap_nil, ↓eget_eset, ↓ae_tmp, ↓ae_int, lop_extract, light, ↓vfinish_ret, ↓vres_nil, ↓vres_tmp, ↓vres_cell, vtell_eq, ret1, Option.map_some, Option.bind_some, Option.map_none, ↓reduceIte, Nat.reduceEqDiff, reduceCtorEq, Bool.false_eq_true, decide_false, Bool.not_false, List.getElem?_toArray, List.getElem?_cons_zero, List.getElem?_cons_succ, Nat.zero_add, Nat.reduceAdd, Nat.reduceLT, Nat.reduceLeDiff, true_and, and_self, List.map_cons, List.map_nil, List.all_cons, List.all_nil, tup_int, tup_str, tup_agg, cel_agg, List.drop_zero, List.toList_toArray, List.size_toArray, List.length_cons, List.length_nil, mapOwn_agg, mapOwn_tuple, mapOwn_bool, mapOwn_int, mapOwn_string, toksL_nil, toksL_cons, toks_int, toks_bool, toks_string, toks_agg, toks_tuple, okv_agg, okv_tuple, okv_bool, okv_int, okv_string, List.flatMap_nil, List.flatMap_cons, List.all_nil, List.all_cons, List.append_nil, List.nil_append, List.cons_append, List.map_nil, List.map_cons, Bool.and_self, Bool.not_false, beq_self_eq_true, vnext_mk, vget_nil, vput_nil, cellsIn_mk, vthaw_nil, vwrites_nil, List.getD_cons_zero, List.set_cons_zero, List.length_cons, List.length_nil, List.drop_zero, List.take_succ_cons, List.take_zero, vbin_int, ↓vlay_free, cellsOk_free, cellF, abin_add, beq_self_eq_true, Int.reduceToNat, Int.toNat_natCast, decide_false, beq_self_eq_true, setAll_whole, abound_none, abound_some, ↓VE_nil, ↓VE_one0, ↓VE_non0, List.reverse_cons, List.reverse_nil, vld23, vst23, vsl9, ↓vfk41, Tryd.results14, e0, e2, e4, wn, g1, g2, g3, g4, h0, Int.le_refl, ↓hrr, cellT]
      · simp -dsimp only [↓VWP_seq, ↓VWP_region, ↓VWP_cond, ↓VWP_skip, ↓VWP_block, ↓VReg_one, ↓VReg_nil, ↓VS_move, ↓VS_assign, ↓VS_binOp, ↓VS_index, ↓VS_len, ↓Hold_1, With_some, emap_nil, ↓eget_eset, ↓ae_tmp, ↓ae_int, asBool_bool, Option.map_some, ↓reduceIte, Nat.reduceEqDiff, reduceCtorEq, Bool.false_eq_true, decide_true, decide_false, and_true, true_and, vbin_int, abin_eql, abin_lss, abin_add, Int.toNat_natCast, decide_true, decide_false, ibeq, ix9, vlr9, e0, e2, e4, hlt, h0, hb, h33, wn]
        refine ⟨s.size - (i + 1), by omega, i + 1, rfl, by omega, fun j hj => ?_, by rw [Int.natCast_add]; rfl⟩
        rcases Nat.lt_succ_iff_lt_or_eq.1 hj with hj | rfl
        · exact hno j hj
        · rw [hb]
          intro hc
          have : b = 33 := by simpa using hc
          subst this
          exact h33 rfl
    · obtain rfl : i = s.size := by omega
      have hlt : ¬ ((s.size : Int) < s.size) := by omega
      have hbg : bangF s = none := by
        cases hbf : bangF s with
        | none => rfl
        | some k =>
          obtain ⟨k1, k2, _⟩ := bang_some hbf
          exact absurd k2 (hno k k1)
      have hf : rcF s = cellT .empty none := by unfold rcF; rw [hbg]
      rw [hf]
      simp -dsimp only [↓VWP_seq, ↓VWP_region, ↓VWP_cond, ↓VWP_ret, ↓VWP_exit, ↓VReg_one, ↓VReg_non, ↓VReg_nil, ↓VS_move, ↓VS_assign, ↓VS_build, ↓VS_binOp, ↓VS_len, ↓VS_store, ↓With_bindH, ↓With_guard, ↓Hold_1, ↓Hold_3, With_some, emap_nil, ↓eget_eset, ↓ae_tmp, ↓ae_bool, asBool_bool, ↓vfinish_ret, ↓vres_nil, ↓vres_tmp, ↓vres_cell, vtell_eq, ret1, Option.map_some, ↓reduceIte, Nat.reduceEqDiff, reduceCtorEq, Bool.false_eq_true, decide_false, Bool.not_false, Nat.zero_add, Nat.reduceAdd, Nat.reduceLT, Nat.reduceLeDiff, and_self, List.map_cons, List.map_nil, List.all_cons, List.all_nil, tup_int, tup_str, tup_agg, cel_agg, List.drop_zero, List.toList_toArray, List.size_toArray, List.length_cons, List.length_nil, mapOwn_agg, mapOwn_tuple, mapOwn_bool, mapOwn_int, mapOwn_string, toksL_nil, toksL_cons, toks_int, toks_bool, toks_string, toks_agg, toks_tuple, okv_agg, okv_tuple, okv_bool, okv_int, okv_string, List.flatMap_nil, List.flatMap_cons, List.all_nil, List.all_cons, List.append_nil, List.map_nil, List.map_cons, Bool.and_self, Bool.not_false, beq_self_eq_true, vnext_mk, vget_nil, vput_nil, cellsIn_mk, vthaw_nil, vwrites_nil, List.getD_cons_zero, List.set_cons_zero, List.length_cons, List.length_nil, List.drop_zero, List.take_succ_cons, List.take_zero, vbin_int, ↓vlay_free, cellsOk_free, cellF, abin_lss, beq_self_eq_true, decide_false, beq_self_eq_true, setAll_whole, afill, vld23, vst23, bd23, vlr9, Tryd.results14, e0, e2, e4, hlt, cellT]
end
end Go.Proofs.YtmdpggecelheoaaDoor.Abs
/- Cells are read: the program. -/
set_option linter.unusedVariables false
set_option linter.unusedSimpArgs false
set_option maxRecDepth 4000
set_option maxHeartbeats 0
namespace Go.Proofs.YtmdpggecelheoaaDoor.Abs
open Go
attribute [local irreducible] Hold VReg Vf Vc VWP With VStp Vcallee Vp VE
def cutT (s : ByteArray) : Value := match bangF s with
  | some i => .tuple ⟨[.string (s.extract 0 i), .string (s.extract (i + 1) s.size), .bool true]⟩
  | none => .tuple ⟨[.string s, .string .empty, .bool false]⟩
def arF (t sheet : ByteArray) : Option (Int × Int) := match atF t with
  | some (c, r) => if celF sheet c r then some (c, r) else none
  | none => none
def readV (s : ByteArray) : Value := match bangF s with
  | some i => cellT (s.extract 0 i) (arF (s.extract (i + 1) s.size) (s.extract 0 i))
  | none => cellT .empty none
theorem atF_empty : atF .empty = none := rfl
section
variable {X : VOuter}
theorem read_p (h : NOff X) (hX : X 13 = none)
    (hcut : ∀ s : ByteArray, s.size ≤ 1000 → ∀ S K, Vcallee Tryd.prog X 39 [.string s, .string ⟨#[33]⟩] S K = K (cutT s) [] S [] false)
    (hat : ∀ t : ByteArray, t.size ≤ 1000 → ∀ S K, Vcallee Tryd.prog X 40 [.string t] S K = K (tripF (atF t)) [] S [] false) (s : ByteArray) (hs : s.size ≤ 1000) : Vp Tryd.prog X 13 [.string s] (readV s) := by
  have hc := fun S K => hcut s hs S K
  unfold Vp
  refine Vf_text hX Tryd.func13 rfl (by kernel_rfl) (by show 1 ≤ _; decide) ?_
  cases hb : bangF s with
  | none =>
    have ha := fun S K => hat .empty (by decide) S K
    rw [atF_empty] at ha
    have hf : readV s = cellT .empty none := by unfold readV; rw [hb]
    rw [hf]
    simp only [cutT, hb] at hc
    simp only [tripF] at ha
    simp -dsimp only [↓Hold_5, ↓VWP_seq, ↓VWP_region, ↓VWP_cond, ↓VWP_ret, ↓VReg_one, ↓VReg_non, ↓VReg_nil, ↓VS_guard, ↓VS_move, ↓VS_assign, ↓VS_pick, ↓VS_build, ↓VS_unOp, ↓VS_extract, ↓VS_store, ↓With_mapH, ↓With_bindH, ↓With_guard, ↓Hold_1, With_some, emap_nil, ↓eget_eset, ↓ae_tmp, ↓ae_bool, ↓ae_string, eget_zero, lop_pick, lop_extract, lop_not, asBool_bool, asGuard_bool, bb_tf, ayielded_eq, ↓dstAt_zero, ↓dstAt_succ, ↓vfinish_ret, ↓vres_nil, ↓vres_tmp, ↓vres_cell, vtell_eq, ret1, Option.map_some, Option.bind_some, ↓reduceIte, Nat.reduceEqDiff, reduceCtorEq, Bool.false_eq_true, decide_false, Bool.not_false, List.getElem?_toArray, List.getElem?_cons_zero, List.getElem?_cons_succ, Nat.zero_add, Nat.add_zero, Nat.reduceAdd, Nat.reduceLT, Nat.reduceLeDiff, and_true, true_and, and_self, List.map_cons, List.map_nil, List.all_cons, List.all_nil, tup_int, cel_int, tup_str, cel_str, tup_agg, cel_agg, Bool.and_true, List.drop_zero, List.toList_toArray, List.size_toArray, List.length_cons, List.length_nil, mapOwn_agg, mapOwn_tuple, mapOwn_bool, mapOwn_int, mapOwn_string, toksL_nil, toksL_cons, toks_int, toks_bool, toks_string, toks_agg, toks_tuple, okv_agg, okv_tuple, okv_bool, okv_int, okv_string, List.flatMap_nil, List.flatMap_cons, List.all_nil, List.all_cons, List.append_nil, List.nil_append, List.cons_append, List.map_nil, List.map_cons, Bool.and_true, Bool.and_self, Bool.not_false, beq_self_eq_true, vnext_mk, vpush_mk, vget_nil, vput_nil, cellsIn_mk, vthaw_nil, vwrites_nil, List.getD_cons_zero, List.getD_cons_succ, List.set_cons_zero, List.set_cons_succ, List.length_cons, List.length_nil, List.drop_zero, List.take_succ_cons, List.take_zero, ↓vlay_free, cellsOk_free, cellF, beq_self_eq_true, decide_false, beq_self_eq_true, bb_tf, setAll_whole, afill, setAll, vld23, vst23, ↓val23, bd23, pl23_0, pl23_1, pl23_2, ↓vfk39, ↓vfk40, Tryd.results13, ↓hc, ↓ha, cellT]
  | some i =>
    have ha := fun S K => hat (s.extract (i + 1) s.size) (by rw [ByteArray.size_extract]; omega) S K
    have hf : readV s = cellT (s.extract 0 i) (arF (s.extract (i + 1) s.size) (s.extract 0 i)) := by unfold readV; rw [hb]
    rw [hf]
    simp only [cutT, hb] at hc
    cases h2 : atF (s.extract (i + 1) s.size) with
    | none =>
      rw [h2] at ha
      simp only [tripF] at ha
      have hf2 : arF (s.extract (i + 1) s.size) (s.extract 0 i) = none := by unfold arF; rw [h2]
      rw [hf2]
      simp -dsimp only [↓Hold_5, ↓VWP_seq, ↓VWP_region, ↓VWP_cond, ↓VWP_ret, ↓VReg_one, ↓VReg_non, ↓VReg_nil, ↓VS_guard, ↓VS_move, ↓VS_assign, ↓VS_pick, ↓VS_build, ↓VS_unOp, ↓VS_extract, ↓VS_store, ↓With_mapH, ↓With_bindH, ↓With_guard, ↓Hold_1, With_some, emap_nil, ↓eget_eset, ↓ae_tmp, ↓ae_bool, ↓ae_string, eget_zero, lop_pick, lop_extract, lop_not, asBool_bool, asGuard_bool, bb_tf, ayielded_eq, ↓dstAt_zero, ↓dstAt_succ, ↓vfinish_ret, ↓vres_nil, ↓vres_tmp, ↓vres_cell, vtell_eq, ret1, Option.map_some, Option.bind_some, ↓reduceIte, Nat.reduceEqDiff, reduceCtorEq, Bool.false_eq_true, decide_false, Bool.not_true, Bool.not_false, List.getElem?_toArray, List.getElem?_cons_zero, List.getElem?_cons_succ, Nat.zero_add, Nat.add_zero, Nat.reduceAdd, Nat.reduceLT, Nat.reduceLeDiff, and_true, true_and, and_self, List.map_cons, List.map_nil, List.all_cons, List.all_nil, tup_int, cel_int, tup_str, cel_str, tup_agg, cel_agg, Bool.and_true, List.drop_zero, List.toList_toArray, List.size_toArray, List.length_cons, List.length_nil, mapOwn_agg, mapOwn_tuple, mapOwn_bool, mapOwn_int, mapOwn_string, toksL_nil, toksL_cons, toks_int, toks_bool, toks_string, toks_agg, toks_tuple, okv_agg, okv_tuple, okv_bool, okv_int, okv_string, List.flatMap_nil, List.flatMap_cons, List.all_nil, List.all_cons, List.append_nil, List.nil_append, List.cons_append, List.map_nil, List.map_cons, Bool.and_true, Bool.and_self, Bool.not_true, Bool.not_false, beq_self_eq_true, vnext_mk, vpush_mk, vget_nil, vput_nil, cellsIn_mk, vthaw_nil, vwrites_nil, List.getD_cons_zero, List.getD_cons_succ, List.set_cons_zero, List.set_cons_succ, List.length_cons, List.length_nil, List.drop_zero, List.take_succ_cons, List.take_zero, ↓vlay_free, cellsOk_free, cellF, beq_self_eq_true, decide_false, beq_self_eq_true, bb_tf, setAll_whole, afill, setAll, vld23, vst23, ↓val23, bd23, pl23_0, pl23_1, pl23_2, ↓vfk39, ↓vfk40, Tryd.results13, ↓hc, ↓ha, cellT]
    | some cr =>
      obtain ⟨c, r⟩ := cr
      rw [h2] at ha
      simp only [tripF] at ha
      cases h3 : celF (s.extract 0 i) c r
      · have hf2 : arF (s.extract (i + 1) s.size) (s.extract 0 i) = none := by unfold arF; rw [h2]; simp [h3]
        rw [hf2]
        simp -dsimp only [↓Hold_5, ↓VWP_seq, ↓VWP_region, ↓VWP_cond, ↓VWP_ret, ↓VReg_one, ↓VReg_non, ↓VReg_nil, ↓VS_guard, ↓VS_move, ↓VS_assign, ↓VS_pick, ↓VS_build, ↓VS_load, ↓VS_unOp, ↓VS_extract, ↓VS_store, ↓With_mapH, ↓With_bindH, ↓With_guard, ↓Hold_1, With_some, emap_nil, ↓eget_eset, ↓ae_tmp, ↓ae_bool, ↓ae_string, eget_zero, lop_pick, lop_extract, lop_not, asBool_bool, asGuard_bool, ayielded_eq, ↓dstAt_zero, ↓dstAt_succ, ↓vfinish_ret, ↓vres_nil, ↓vres_tmp, ↓vres_cell, vtell_eq, ret1, Option.map_some, Option.bind_some, ↓reduceIte, Nat.reduceEqDiff, reduceCtorEq, Bool.false_eq_true, decide_false, Bool.not_true, Bool.not_false, List.getElem?_toArray, List.getElem?_cons_zero, List.getElem?_cons_succ, Nat.zero_add, Nat.add_zero, Nat.reduceAdd, Nat.reduceLT, Nat.reduceLeDiff, and_true, true_and, and_self, List.map_cons, List.map_nil, List.all_cons, List.all_nil, tup_int, cel_int, tup_str, cel_str, tup_agg, cel_agg, Bool.and_true, List.drop_zero, List.toList_toArray, List.size_toArray, List.length_cons, List.length_nil, mapOwn_agg, mapOwn_tuple, mapOwn_bool, mapOwn_int, mapOwn_string, toksL_nil, toksL_cons, toks_int, toks_bool, toks_string, toks_agg, toks_tuple, okv_agg, okv_tuple, okv_bool, okv_int, okv_string, List.flatMap_nil, List.flatMap_cons, List.all_nil, List.all_cons, List.append_nil, List.nil_append, List.cons_append, List.map_nil, List.map_cons, Bool.and_true, Bool.and_self, Bool.not_true, Bool.not_false, beq_self_eq_true, vnext_mk, vpush_mk, vget_nil, vput_nil, cellsIn_mk, vthaw_nil, vwrites_nil, List.getD_cons_zero, List.getD_cons_succ, List.set_cons_zero, List.set_cons_succ, List.length_cons, List.length_nil, List.drop_zero, List.take_succ_cons, List.take_zero, ↓vlay_free, cellsOk_free, cellF, beq_self_eq_true, decide_false, beq_self_eq_true, setAll_whole, afill, setAll, vld23, vst23, ↓val23, bd23, pl23_0, pl23_1, pl23_2, ↓vfk39, ↓vfk40, ↓vfk17, Tryd.results13, ↓hc, ↓ha, ↓right_c h.right h.place h.name, h3, cellT]
      · have hf2 : arF (s.extract (i + 1) s.size) (s.extract 0 i) = some (c, r) := by unfold arF; rw [h2]; simp [h3]
        rw [hf2]
        simp -dsimp only [↓Hold_5, ↓VWP_seq, ↓VWP_region, ↓VWP_cond, ↓VWP_ret, ↓VWP_skip, ↓VReg_one, ↓VReg_non, ↓VReg_nil, ↓VS_guard, ↓VS_move, ↓VS_assign, ↓VS_pick, ↓VS_build, ↓VS_load, ↓VS_unOp, ↓VS_extract, ↓VS_store, ↓With_mapH, ↓With_bindH, ↓With_guard, ↓Hold_1, With_some, emap_nil, ↓eget_eset, ↓ae_tmp, ↓ae_bool, ↓ae_string, eget_zero, lop_pick, lop_extract, lop_not, asBool_bool, asGuard_bool, ayielded_eq, ↓dstAt_zero, ↓dstAt_succ, ↓vfinish_ret, ↓vres_nil, ↓vres_tmp, ↓vres_cell, vtell_eq, ret1, Option.map_some, Option.bind_some, ↓reduceIte, Nat.reduceEqDiff, reduceCtorEq, Bool.false_eq_true, decide_false, Bool.not_true, Bool.not_false, List.getElem?_toArray, List.getElem?_cons_zero, List.getElem?_cons_succ, Nat.zero_add, Nat.add_zero, Nat.reduceAdd, Nat.reduceLT, Nat.reduceLeDiff, and_true, true_and, and_self, List.map_cons, List.map_nil, List.all_cons, List.all_nil, tup_int, cel_int, tup_str, cel_str, tup_agg, cel_agg, Bool.and_true, List.drop_zero, List.toList_toArray, List.size_toArray, List.length_cons, List.length_nil, mapOwn_agg, mapOwn_tuple, mapOwn_bool, mapOwn_int, mapOwn_string, toksL_nil, toksL_cons, toks_int, toks_bool, toks_string, toks_agg, toks_tuple, okv_agg, okv_tuple, okv_bool, okv_int, okv_string, List.flatMap_nil, List.flatMap_cons, List.all_nil, List.all_cons, List.append_nil, List.nil_append, List.cons_append, List.map_nil, List.map_cons, Bool.and_true, Bool.and_self, Bool.not_true, Bool.not_false, beq_self_eq_true, vnext_mk, vpush_mk, vget_nil, vput_nil, cellsIn_mk, vthaw_nil, vwrites_nil, List.getD_cons_zero, List.getD_cons_succ, List.set_cons_zero, List.set_cons_succ, List.length_cons, List.length_nil, List.drop_zero, List.take_succ_cons, List.take_zero, ↓vlay_free, cellsOk_free, cellF, beq_self_eq_true, decide_false, beq_self_eq_true, setAll_whole, afill, setAll, vld23, vst23, ↓val23, bd23, pl23_0, pl23_1, pl23_2, ↓vfk39, ↓vfk40, ↓vfk17, Tryd.results13, ↓hc, ↓ha, ↓right_c h.right h.place h.name, h3, cellT]
end
/-! ### What is read is what was written -/
theorem col_check : ((List.range 703).all fun c => decide (c = 0) || (let s := colS (Int.ofNat c); (List.range s.size).all (grAt s) && (colF s s.size == Int.ofNat c) && decide (1 ≤ s.size) && decide (s.size ≤ 2))) = true := by kernel_rfl
theorem row_check : ((List.range 1000).all fun r => decide (r = 0) || (let s := dec3 (Int.ofNat r); (List.range s.size).all (dgAt s) && (rowF s 0 s.size == Int.ofNat r) && decide (1 ≤ s.size) && decide (s.size ≤ 3) && !(byAt s 0 == 48) && (match Lib.atoiAll s.data.toList with | .ok v => v == Int.ofNat r | _ => false))) = true := by kernel_rfl
end Go.Proofs.YtmdpggecelheoaaDoor.Abs
/- The law AddrTells: what is read, by the program as by the reference. -/
set_option linter.unusedVariables false
set_option linter.unusedSimpArgs false
namespace Go.Proofs.YtmdpggecelheoaaDoor.Abs
open Go
theorem app_list (A B : ByteArray) : (A ++ B).data.toList = A.data.toList ++ B.data.toList := by rw [ByteArray.data_append, Array.toList_append]
theorem len_list (s : ByteArray) : s.data.toList.length = s.size := by rw [Array.length_toList]; rfl
theorem get_app1 (A B : ByteArray) {j : Nat} (h : j < A.size) : (A ++ B)[j]? = A[j]? := by
  rw [ba_at, ba_at, app_list, List.getElem?_append_left (by rw [len_list]; exact h)]
theorem get_app2 (A B : ByteArray) (j : Nat) : (A ++ B)[A.size + j]? = B[j]? := by
  rw [ba_at, ba_at, app_list, List.getElem?_append_right (by rw [len_list]; omega), len_list, Nat.add_sub_cancel_left]
theorem extract_app2 (A B : ByteArray) : (A ++ B).extract A.size (A ++ B).size = B := by
  have e : ((A ++ B).extract A.size (A ++ B).size).data.toList = B.data.toList := by
    rw [ByteArray.data_extract, Array.toList_extract, List.extract_eq_take_drop, app_list, List.drop_append_of_le_length (by rw [len_list]; exact Nat.le_refl _), List.drop_of_length_le (by rw [len_list]; exact Nat.le_refl _), List.nil_append, ByteArray.size_append, List.take_of_length_le (by rw [len_list]; omega)]
  have e1 : ∀ s : ByteArray, s = ⟨(s.data.toList).toArray⟩ := fun s => rfl
  rw [e1 ((A ++ B).extract A.size (A ++ B).size), e, ← e1]
theorem gr_app1 (A B : ByteArray) {j : Nat} (h : j < A.size) : grAt (A ++ B) j = grAt A j := by unfold grAt; rw [get_app1 A B h]
theorem by_app1 (A B : ByteArray) {j : Nat} (h : j < A.size) : byAt (A ++ B) j = byAt A j := by unfold byAt; rw [get_app1 A B h]
theorem by_app2 (A B : ByteArray) (j : Nat) : byAt (A ++ B) (A.size + j) = byAt B j := by unfold byAt; rw [get_app2]
theorem dg_app2 (A B : ByteArray) (j : Nat) : dgAt (A ++ B) (A.size + j) = dgAt B j := by unfold dgAt; rw [get_app2]
theorem gr_app2 (A B : ByteArray) : grAt (A ++ B) A.size = grAt B 0 := by
  have := get_app2 A B 0
  rw [Nat.add_zero] at this
  unfold grAt; rw [this]
theorem col_app (A B : ByteArray) : ∀ i, i ≤ A.size → colF (A ++ B) i = colF A i
  | 0, _ => rfl
  | i + 1, h => by simp only [colF]; rw [col_app A B i (by omega), by_app1 A B (by omega)]
theorem row_app (A B : ByteArray) : ∀ j, rowF (A ++ B) A.size j = rowF B 0 j
  | 0 => rfl
  | j + 1 => by simp only [rowF]; rw [row_app A B j, by_app2, Nat.zero_add]
theorem gr_of_dg {s : ByteArray} {j : Nat} (h : dgAt s j = true) : grAt s j = false := by
  have hb := byAt_dg h
  cases hg : grAt s j with
  | false => rfl
  | true => have := byAt_gr hg; omega
/-- A column's letters and a row's digits. -/
theorem col_facts {c : Int} (h1 : 1 ≤ c) (h2 : c ≤ 702) : (∀ j, j < (colS c).size → grAt (colS c) j = true) ∧ colF (colS c) (colS c).size = c ∧ 1 ≤ (colS c).size ∧ (colS c).size ≤ 2 := by
  obtain ⟨n, rfl⟩ := Int.eq_ofNat_of_zero_le (show 0 ≤ c by omega)
  have := List.all_eq_true.1 col_check n (List.mem_range.2 (by omega))
  rw [decide_eq_false (by omega), Bool.false_or] at this
  simp only [Bool.and_eq_true, decide_eq_true_eq, beq_iff_eq, List.all_eq_true, List.mem_range] at this
  exact ⟨this.1.1.1, this.1.1.2, this.1.2, this.2⟩
theorem row_facts {r : Int} (h1 : 1 ≤ r) (h2 : r ≤ 999) : (∀ j, j < (dec3 r).size → dgAt (dec3 r) j = true) ∧ rowF (dec3 r) 0 (dec3 r).size = r ∧ 1 ≤ (dec3 r).size ∧ (dec3 r).size ≤ 3 ∧ byAt (dec3 r) 0 ≠ 48 ∧ atoiN (dec3 r) = some r := by
  obtain ⟨n, rfl⟩ := Int.eq_ofNat_of_zero_le (show 0 ≤ r by omega)
  have := List.all_eq_true.1 row_check n (List.mem_range.2 (by omega))
  rw [decide_eq_false (by omega), Bool.false_or] at this
  simp only [Bool.and_eq_true, decide_eq_true_eq, beq_iff_eq, List.all_eq_true, List.mem_range, Bool.not_eq_true', beq_eq_false_iff_ne] at this
  obtain ⟨⟨⟨⟨⟨a1, a2⟩, a3⟩, a4⟩, a5⟩, a6⟩ := this
  refine ⟨a1, a2, a3, a4, a5, ?_⟩
  unfold atoiN
  split at a6
  · rename_i v hv
    have : v = (n : Int) := by simpa using a6
    have hv2 : Lib.atoiAll (dec3 (n : Int)).data.toList = .ok v := hv
    rw [hv2, this]
  · cases a6
theorem plS_eq {c r : Int} (h : placeF c r = true) : plS c r = colS c ++ dec3 r := by
  simp only [placeF, Bool.and_eq_true, decide_eq_true_eq] at h
  unfold plS
  rw [dec_itoa (by omega) h.2]
theorem placeF_iff {c r : Int} (h : placeF c r = true) : 1 ≤ c ∧ c ≤ 702 ∧ 1 ≤ r ∧ r ≤ 999 := by
  simp only [placeF, Bool.and_eq_true, decide_eq_true_eq] at h
  exact ⟨h.1.1.1, h.1.1.2, h.1.2, h.2⟩
/-- The reference reads what is written. -/
theorem rpF_pl {c r : Int} (sheet : ByteArray) (h : celF sheet c r = true) : rpF (plS c r) sheet = some (c, r) := by
  have hp := (celF_parts h).2
  obtain ⟨p1, p2, p3, p4⟩ := placeF_iff hp
  obtain ⟨a1, a2, a3, a4⟩ := col_facts p1 p2
  obtain ⟨b1, b2, b3, b4, b5, b6⟩ := row_facts p3 p4
  rw [plS_eq hp]
  have hl : lead3 (colS c ++ dec3 r) = (colS c).size := lead3_is (by omega) (fun j hj => by rw [gr_app1 _ _ hj]; exact a1 j hj) (.inr (by rw [gr_app2]; exact gr_of_dg (b1 0 (by omega))))
  have hsz : (colS c ++ dec3 r).size - (colS c).size = (dec3 r).size := by rw [ByteArray.size_append]; omega
  have h0 : byAt (colS c ++ dec3 r) (colS c).size = byAt (dec3 r) 0 := by have := by_app2 (colS c) (dec3 r) 0; rwa [Nat.add_zero] at this
  unfold rpF
  rw [hl, hsz, if_neg (by
    rw [h0, ByteArray.size_append]
    rintro (h | h | h)
    · omega
    · omega
    · exact b5 h)]
  have hall : (List.range (dec3 r).size).all (fun j => dgAt (colS c ++ dec3 r) ((colS c).size + j)) = true := by
    rw [List.all_eq_true]
    intro j hj
    rw [dg_app2]
    exact b1 j (List.mem_range.1 hj)
  rw [hall, if_pos rfl, col_app _ _ _ (Nat.le_refl _), a2, row_app, b2, if_pos h]
/-- The program reads what is written. -/
theorem atF_pl {c r : Int} (h : placeF c r = true) : atF (plS c r) = some (c, r) := by
  obtain ⟨p1, p2, p3, p4⟩ := placeF_iff h
  obtain ⟨a1, a2, a3, a4⟩ := col_facts p1 p2
  obtain ⟨b1, b2, b3, b4, b5, b6⟩ := row_facts p3 p4
  have try' : tryPl (plS c r) (colS c).size c = some (c, r) := by
    unfold tryPl
    rw [plS_eq h, extract_app2, b6]
    simp only
    rw [if_pos ⟨h, plS_eq h⟩]
  obtain ⟨x, hx⟩ := ba_get (s := colS c) (i := 0) (by omega)
  have hgx : greatB x.toNat = true := by have := a1 0 (by omega); unfold grAt at this; rw [hx] at this; exact this
  have hbx : byAt (colS c) 0 = x.toNat := by unfold byAt; rw [hx]
  have t0 : (plS c r)[0]? = some x := by rw [plS_eq h, get_app1 _ _ (by omega), hx]
  by_cases hs : (colS c).size = 1
  · obtain ⟨y, hy⟩ := ba_get (s := dec3 r) (i := 0) (by omega)
    have hgy : greatB y.toNat = false := by have := gr_of_dg (b1 0 (by omega)); unfold grAt at this; rw [hy] at this; exact this
    have t1 : (plS c r)[1]? = some y := by
      rw [plS_eq h]
      have := get_app2 (colS c) (dec3 r) 0
      rw [hs] at this
      rw [this, hy]
    have hc : (x.toNat : Int) - 64 = c := by
      rw [hs] at a2
      simp only [colF, hbx] at a2
      omega
    rw [hs] at try'
    unfold atF
    rw [t0, t1]
    simp only [hgx, hgy, if_true, Bool.false_eq_true, if_false]
    rw [hc]
    exact try'
  · have hs2 : (colS c).size = 2 := by omega
    obtain ⟨y, hy⟩ := ba_get (s := colS c) (i := 1) (by omega)
    have hgy : greatB y.toNat = true := by have := a1 1 (by omega); unfold grAt at this; rw [hy] at this; exact this
    have hby : byAt (colS c) 1 = y.toNat := by unfold byAt; rw [hy]
    have t1 : (plS c r)[1]? = some y := by rw [plS_eq h, get_app1 _ _ (by omega), hy]
    have hc : ((x.toNat : Int) - 64) * 26 + ((y.toNat : Int) - 64) = c := by
      rw [hs2] at a2
      simp only [colF, hbx, hby] at a2
      omega
    rw [hs2] at try'
    unfold atF
    rw [t0, t1]
    simp only [hgx, hgy, if_true]
    rw [hc]
    exact try'
end Go.Proofs.YtmdpggecelheoaaDoor.Abs
/- The law AddrTells: what the reference reads, the program reads. -/
set_option linter.unusedVariables false
set_option linter.unusedSimpArgs false
namespace Go.Proofs.YtmdpggecelheoaaDoor.Abs
open Go
theorem list_ba (s : ByteArray) : s = ⟨(s.data.toList).toArray⟩ := rfl
theorem chr1_of {n : Int} {b : UInt8} (h : n = b.toNat) : chr1 n = ⟨#[b]⟩ := by
  unfold chr1
  subst h
  rw [Int.toNat_natCast, UInt8.ofNat_toNat]
theorem by_mk (l : List UInt8) (j : Nat) : byAt ⟨l.toArray⟩ j = match l[j]? with | some b => (b.toNat : Int) | none => 0 := by
  unfold byAt
  rw [ba_at]
  try rfl
theorem colS_1 {a : UInt8} (h1 : 65 ≤ (a.toNat : Int)) (h2 : (a.toNat : Int) ≤ 90) : colS ((a.toNat : Int) - 65 + 1) = ⟨#[a]⟩ := by
  unfold colS
  rw [if_neg (by omega)]
  exact chr1_of (by omega)
theorem colS_2 {a b : UInt8} (h1 : 65 ≤ (a.toNat : Int)) (h2 : (a.toNat : Int) ≤ 90) (h3 : 65 ≤ (b.toNat : Int)) (h4 : (b.toNat : Int) ≤ 90) : colS (26 * ((a.toNat : Int) - 65 + 1) + ((b.toNat : Int) - 65) + 1) = ⟨#[a, b]⟩ := by
  unfold colS
  rw [if_pos (by omega), chr1_of (b := a) (by omega), chr1_of (b := b) (by omega)]
  rfl
theorem dec_1 {a : UInt8} (h1 : 48 ≤ (a.toNat : Int)) (h2 : (a.toNat : Int) ≤ 57) : dec3 ((a.toNat : Int) - 48) = ⟨#[a]⟩ := by
  unfold dec3
  rw [if_pos (by omega)]
  exact chr1_of (by omega)
theorem dec_2 {a b : UInt8} (h1 : 49 ≤ (a.toNat : Int)) (h2 : (a.toNat : Int) ≤ 57) (h3 : 48 ≤ (b.toNat : Int)) (h4 : (b.toNat : Int) ≤ 57) : dec3 (10 * ((a.toNat : Int) - 48) + ((b.toNat : Int) - 48)) = ⟨#[a, b]⟩ := by
  unfold dec3
  rw [if_neg (by omega), if_pos (by omega), chr1_of (b := a) (by omega), chr1_of (b := b) (by omega)]
  rfl
theorem dec_3 {a b c : UInt8} (h1 : 49 ≤ (a.toNat : Int)) (h2 : (a.toNat : Int) ≤ 57) (h3 : 48 ≤ (b.toNat : Int)) (h4 : (b.toNat : Int) ≤ 57) (h5 : 48 ≤ (c.toNat : Int)) (h6 : (c.toNat : Int) ≤ 57) : dec3 (10 * (10 * ((a.toNat : Int) - 48) + ((b.toNat : Int) - 48)) + ((c.toNat : Int) - 48)) = ⟨#[a, b, c]⟩ := by
  unfold dec3
  rw [if_neg (by omega), if_neg (by omega), chr1_of (b := a) (by omega), chr1_of (b := b) (by omega), chr1_of (b := c) (by omega)]
  rfl
theorem lead3_gr {t : ByteArray} : lead3 t ≤ 3 ∧ ∀ j, j < lead3 t → grAt t j = true := by
  unfold lead3
  cases h0 : grAt t 0
  · simp
  · cases h1 : grAt t 1
    · refine ⟨by simp, fun j hj => ?_⟩
      simp at hj
      subst hj
      exact h0
    · cases h2 : grAt t 2
      · refine ⟨by simp, fun j hj => ?_⟩
        simp at hj
        have : j = 0 ∨ j = 1 := by omega
        rcases this with rfl | rfl <;> assumption
      · refine ⟨by simp, fun j hj => ?_⟩
        simp at hj
        have : j = 0 ∨ j = 1 ∨ j = 2 := by omega
        rcases this with rfl | rfl | rfl <;> assumption
theorem rpF_some {t sheet : ByteArray} {c r : Int} (h : rpF t sheet = some (c, r)) : celF sheet c r = true ∧ plS c r = t := by
  unfold rpF at h
  split at h
  · cases h
  · rename_i hno
    split at h
    · rename_i hall
      split at h
      · rename_i hcel
        simp only [Option.some.injEq, Prod.mk.injEq] at h
        obtain ⟨hc, hr⟩ := h
        rw [hc, hr] at hcel
        refine ⟨hcel, ?_⟩
        obtain ⟨hl3, hgr⟩ := lead3_gr (t := t)
        have hdg : ∀ j, j < t.size - lead3 t → dgAt t (lead3 t + j) = true := fun j hj => by
          rw [List.all_eq_true] at hall
          exact hall j (List.mem_range.2 hj)
        have hp := (celF_parts hcel).2
        obtain ⟨p1, p2, p3, p4⟩ := placeF_iff hp
        rw [plS_eq hp]
        generalize lead3 t = i at *
        have hsz : i < t.size ∧ t.size ≤ i + 3 := by
          have := fun h => hno (.inl h)
          have := fun h => hno (.inr (.inl h))
          have hls : i ≤ t.size := by
            rcases Nat.lt_or_ge t.size i with hlt | hge
            · have := hgr t.size hlt
              unfold grAt at this
              rw [getElem?_neg t t.size (by omega)] at this
              cases this
            · exact hge
          omega
        have h48 : byAt t i ≠ 48 := fun h => hno (.inr (.inr h))
        clear hno hall
        generalize hk : t.size - i = k at *
        have hlen : t.data.toList.length = i + k := by rw [len_list]; omega
        have ht := list_ba t
        generalize t.data.toList = l at hlen ht
        subst ht
        have q1 : k = 1 ∨ k = 2 ∨ k = 3 := by omega
        have q2 : i = 0 ∨ i = 1 ∨ i = 2 ∨ i = 3 := by omega
        rcases q2 with rfl | rfl | rfl | rfl
        · simp [colF] at hc; omega
        · have g0 := byAt_gr (hgr 0 (by decide))
          rcases q1 with rfl | rfl | rfl
          · match l, hlen with
            | [a, d], _ =>
              have d0 := byAt_dg (hdg 0 (by decide))
              simp only [by_mk, colF, rowF, List.getElem?_cons_zero, List.getElem?_cons_succ, Nat.add_zero, Nat.reduceAdd, Int.mul_zero, Int.zero_add] at *
              rw [← hc, ← hr, colS_1 g0.1 g0.2, dec_1 d0.1 d0.2]
              rfl
          · match l, hlen with
            | [a, d, e], _ =>
              have d0 := byAt_dg (hdg 0 (by decide))
              have d1 := byAt_dg (hdg 1 (by decide))
              simp only [by_mk, colF, rowF, List.getElem?_cons_zero, List.getElem?_cons_succ, Nat.add_zero, Nat.reduceAdd, Int.mul_zero, Int.zero_add] at *
              rw [← hc, ← hr, colS_1 g0.1 g0.2, dec_2 (by omega) d0.2 d1.1 d1.2]
              rfl
          · match l, hlen with
            | [a, d, e, f], _ =>
              have d0 := byAt_dg (hdg 0 (by decide))
              have d1 := byAt_dg (hdg 1 (by decide))
              have d2 := byAt_dg (hdg 2 (by decide))
              simp only [by_mk, colF, rowF, List.getElem?_cons_zero, List.getElem?_cons_succ, Nat.add_zero, Nat.reduceAdd, Int.mul_zero, Int.zero_add] at *
              rw [← hc, ← hr, colS_1 g0.1 g0.2, dec_3 (by omega) d0.2 d1.1 d1.2 d2.1 d2.2]
              rfl
        · have g0 := byAt_gr (hgr 0 (by decide))
          have g1 := byAt_gr (hgr 1 (by decide))
          rcases q1 with rfl | rfl | rfl
          · match l, hlen with
            | [a, b, d], _ =>
              have d0 := byAt_dg (hdg 0 (by decide))
              simp only [by_mk, colF, rowF, List.getElem?_cons_zero, List.getElem?_cons_succ, Nat.add_zero, Nat.reduceAdd, Int.mul_zero, Int.zero_add] at *
              rw [← hc, ← hr, colS_2 g0.1 g0.2 g1.1 g1.2, dec_1 d0.1 d0.2]
              rfl
          · match l, hlen with
            | [a, b, d, e], _ =>
              have d0 := byAt_dg (hdg 0 (by decide))
              have d1 := byAt_dg (hdg 1 (by decide))
              simp only [by_mk, colF, rowF, List.getElem?_cons_zero, List.getElem?_cons_succ, Nat.add_zero, Nat.reduceAdd, Int.mul_zero, Int.zero_add] at *
              rw [← hc, ← hr, colS_2 g0.1 g0.2 g1.1 g1.2, dec_2 (by omega) d0.2 d1.1 d1.2]
              rfl
          · match l, hlen with
            | [a, b, d, e, f], _ =>
              have d0 := byAt_dg (hdg 0 (by decide))
              have d1 := byAt_dg (hdg 1 (by decide))
              have d2 := byAt_dg (hdg 2 (by decide))
              simp only [by_mk, colF, rowF, List.getElem?_cons_zero, List.getElem?_cons_succ, Nat.add_zero, Nat.reduceAdd, Int.mul_zero, Int.zero_add] at *
              rw [← hc, ← hr, colS_2 g0.1 g0.2 g1.1 g1.2, dec_3 (by omega) d0.2 d1.1 d1.2 d2.1 d2.2]
              rfl
        · have g0 := byAt_gr (hgr 0 (by decide))
          have g1 := byAt_gr (hgr 1 (by decide))
          have g2 := byAt_gr (hgr 2 (by decide))
          simp only [colF] at hc
          omega
      · cases h
    · cases h
theorem read_same (t sheet : ByteArray) : rpF t sheet = arF t sheet := by
  unfold arF
  cases ha : atF t with
  | some cr =>
    obtain ⟨c, r⟩ := cr
    obtain ⟨h1, h2⟩ := atF_some ha
    simp only
    cases hcel : celF sheet c r with
    | true =>
      rw [if_pos rfl, ← h2]
      exact rpF_pl sheet hcel
    | false =>
      rw [if_neg (by simp)]
      cases hr : rpF t sheet with
      | none => rfl
      | some dr =>
        obtain ⟨c', r'⟩ := dr
        obtain ⟨h3, h4⟩ := rpF_some hr
        have h5 := atF_pl (celF_parts h3).2
        rw [h4, ha] at h5
        cases h5
        rw [hcel] at h3
        cases h3
  | none =>
    simp only
    cases hr : rpF t sheet with
    | none => rfl
    | some dr =>
      obtain ⟨c', r'⟩ := dr
      obtain ⟨h3, h4⟩ := rpF_some hr
      have h5 := atF_pl (celF_parts h3).2
      rw [h4, ha] at h5
      cases h5
theorem rc_read (s : ByteArray) : rcF s = readV s := by
  unfold rcF readV
  cases bangF s with
  | none => rfl
  | some i => simp only [read_same]
end Go.Proofs.YtmdpggecelheoaaDoor.Abs
