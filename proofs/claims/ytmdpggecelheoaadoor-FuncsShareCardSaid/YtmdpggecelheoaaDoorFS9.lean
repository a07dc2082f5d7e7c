/- What a row of numbers needs. -/
import Derived.WalkKit
import Derived.ProofKit
import Derived.OpenShut
import Derived.ShutString
import Derived.ChangeOld
import Derived.Below
import Derived.SizedLaws
import Derived.LaidMore
import Derived.Stop.Joined
import Derived.Test.YtmdpggecelheoaaDoorPA20
import Derived.Test.YtmdpggecelheoaaDoorMZ1
import Derived.Test.YtmdpggecelheoaaDoorMZ3
import Derived.Test.YtmdpggecelheoaaDoorRows
import Derived.Test.YtmdpggecelheoaaDoorCards
import Derived.Test.YtmdpggecelheoaaDoorTie
namespace Go.Proofs.YtmdpggecelheoaaDoor.Abs
open Go
end Go.Proofs.YtmdpggecelheoaaDoor.Abs
/- What rows of values that are arguments lay into the plain heap, and how they read. -/
set_option linter.unusedVariables false
set_option linter.unusedSimpArgs false
namespace Go.Proofs.YtmdpggecelheoaaDoor.Abs
open Go Go.RowKit
/-- The plain heap alone, no boxes, no own slices. -/
abbrev Rl0 (H : Hp) : Rl := ⟨[], fun _ => none, fun _ _ => True, H⟩
def VV.ok (x : VV) : Prop := (-9223372036854775808 ≤ x.k ∧ x.k ≤ 9223372036854775807) ∧ (-9223372036854775808 ≤ x.n ∧ x.n ≤ 9223372036854775807) ∧ x.s.size ≤ 9223372036854775807
def VvSh : List Sh := [.int .i64, .int .i64, .str]
theorem vv_shape : shapeT Tryd.prog 8 48 = some VvSh := by kernel_rfl
def RVV : Hp → VV → List Value → Prop := fun _ x cs => cs = [.int .i64 x.k, .int .i64 x.n, .string x.s] ∧ x.ok
theorem RVV.mono : Mono RVV := fun _ _ _ _ _ h => h
theorem vv_of {H : Hp} {x cs : List Value} (h : RSh VvSh H x cs) : ∃ y, RVV H y cs := by
  obtain ⟨rfl, h⟩ := h
  unfold VvSh at h
  obtain ⟨_, t0, rfl, ⟨x0, rfl, w0⟩, h0⟩ := shapes_cons h
  obtain ⟨_, t1, rfl, ⟨x1, rfl, w1⟩, h1⟩ := shapes_cons h0
  obtain ⟨_, t2, rfl, ⟨x2, rfl, w2⟩, h2⟩ := shapes_cons h1
  obtain rfl := shapes_nil h2
  refine ⟨⟨x0, x1, x2⟩, rfl, ?_, ?_, w2⟩
  · simpa [Lit.wf, IntKind.min, IntKind.max, IntKind.signed, IntKind.bits] using w0
  · simpa [Lit.wf, IntKind.min, IntKind.max, IntKind.signed, IntKind.bits] using w1
theorem opens_vv : OpensA Tryd.prog 48 RVV := fun n => Opens.map (opens_shape 8 48 VvSh vv_shape n) fun H x cs h => vv_of h
/-- A slice that opens, read as a row. -/
theorem rd_slice {α : Type} {e : TypeId} {sz : Nat} {R : Hp → α → List Value → Prop} {H : Hp} {V : α → Value} (hz : 0 < sz) (hV : ∀ x c, R H x c → (V x).cells.size = sz ∧ okv 0 true (V x) = true ∧ RdL (Rl0 H) (V x).cells.toList c) {xs : List α} {v : Value} (h : RSlice e sz R H xs [v]) :
    ∃ c, Rd (Rl0 H) (sl c 0 sz (xs.map V)) v := by
  obtain ⟨u, hu, h⟩ := h
  cases hu
  rcases h with ⟨rfl, rfl | ⟨b, rfl⟩⟩ | ⟨hne, i, c, rfl, hi, hg, hr⟩
  · exact ⟨true, .scal _ rfl⟩
  · exact ⟨false, .roE 0 sz b 0 hz⟩
  · refine ⟨false, ?_⟩
    have key : ∀ (xs : List α) (c : List Value), RList sz R H xs c → (∀ x ∈ xs.map V, x.cells.size = sz) ∧ okvL 0 true (xs.map V) = true ∧ RdL (Rl0 H) (cellsL (xs.map V)) c := by
      intro xs
      induction xs with
      | nil => intro c h; obtain rfl : c = [] := h; exact ⟨by simp, rfl, RdL.nil⟩
      | cons x xs ih =>
        intro c ⟨c1, c2, hc, hl, hx, hr⟩
        obtain ⟨e1, e2, e3⟩ := ih c2 hr
        obtain ⟨f1, f2, f3⟩ := hV x c1 hx
        refine ⟨?_, ?_, ?_⟩
        · intro y hy
          rw [List.map_cons] at hy
          rcases List.mem_cons.1 hy with rfl | hy
          · exact f1
          · exact e1 y hy
        · rw [List.map_cons, okvL, f2, e2]; rfl
        · rw [hc, List.map_cons]
          exact RdL.append f3 e3
    obtain ⟨e1, e2, e3⟩ := key xs c hr
    have hlen := RList.length xs c hr
    have hl2 : (xs.map V).length = xs.length := List.length_map ..
    rw [← vs_sl, ← hl2]
    refine Rd.ro 0 sz (xs.map V) i 0 false e c hz ⟨hi, by simp, fun k h => by cases h⟩ trivial hg (by rw [hl2, hlen]; omega) e1 e2 ?_
    rw [List.drop_zero, List.take_of_length_le (by rw [hl2, hlen]; exact Nat.le_refl _)]
    exact e3.2
/-- A row of values. -/
def RRow : Hp → RW → List Value → Prop := fun H r cs => ∃ v, cs = [v] ∧ Rd (Rl0 H) (r.v 0) v ∧ ∀ x ∈ r.l, x.ok
theorem row_of {H : Hp} {xs : List VV} {cs : List Value} (h : RSlice 48 3 RVV H xs cs) : ∃ r, RRow H r cs := by
  have hok : ∀ x ∈ xs, x.ok := by
    obtain ⟨u, hu, h⟩ := h
    rcases h with ⟨rfl, _⟩ | ⟨_, i, c, _, _, _, hr⟩
    · simp
    · have key : ∀ (xs : List VV) (c : List Value), RList 3 RVV H xs c → ∀ x ∈ xs, x.ok := by
        intro xs
        induction xs with
        | nil => intro c _ x hx; cases hx
        | cons y xs ih =>
          intro c ⟨c1, c2, _, _, hy, hr⟩ x hx
          rcases List.mem_cons.1 hx with rfl | hx
          · exact hy.2
          · exact ih c2 hr x hx
      exact key xs c hr
  have h2 := h
  obtain ⟨u, rfl, _⟩ := h2
  obtain ⟨c, hc⟩ := rd_slice (V := VV.v) (by decide) (fun x c hx => ⟨rfl, rfl, by rw [hx.1]; exact .cons (.int _ _) (.cons (.int _ _) (.cons (.string _) .nil))⟩) h
  exact ⟨⟨c, xs⟩, u, rfl, hc, hok⟩
theorem opensA_row {t : TypeId} (h : Tryd.prog.underlying t = some (.slice 48)) : OpensA Tryd.prog t RRow := fun n => Opens.map (opensA_slice (sz := 3) h (by kernel_rfl) (by decide) opens_vv RVV.mono n) fun H x cs h => row_of h
theorem RRow.mono : Mono RRow := by
  rintro H H' r cs hl ⟨v, rfl, h, hok⟩
  refine ⟨v, rfl, ?_, hok⟩
  refine Rd.conv (R := Rl0 H) (R' := Rl0 H') (fun i b h => h) (fun d b hp hm => ?_) (fun k b h => by cases h) h
  exact ⟨⟨Nat.lt_of_lt_of_le hp.1 hl.next, by simp, fun k h => by cases h⟩, trivial, hl.get b hp.1⟩
/-- Rows of rows. -/
theorem opensA_rows {t r : TypeId} (h : Tryd.prog.underlying t = some (.slice r)) (k : Tryd.prog.underlying r = some (.slice 48)) (hc : Tryd.prog.cellsOf r = 1) : OpensA Tryd.prog t (RSlice r 1 RRow) := opensA_slice h hc (by decide) (opensA_row k) RRow.mono
theorem rd_rows {r : TypeId} {H : Hp} {xs : List RW} {v : Value} (h : RSlice r 1 RRow H xs [v]) : ∃ c, Rd (Rl0 H) (sl c 0 1 (xs.map (RW.v 0))) v := by
  refine rd_slice (by decide) (fun x c hx => ?_) h
  obtain ⟨u, rfl, h, _⟩ := hx
  refine ⟨?_, okv_sl0 _ _ _ _ _, ?_⟩
  · unfold RW.v; rw [cel_sl]; rfl
  · unfold RW.v at h ⊢
    rw [cel_sl]
    exact .cons h .nil
end Go.Proofs.YtmdpggecelheoaaDoor.Abs
/- The law FuncsShare: its text. -/
set_option linter.unusedVariables false
set_option linter.unusedSimpArgs false
set_option maxRecDepth 8000
set_option maxHeartbeats 0
namespace Go.Proofs.YtmdpggecelheoaaDoor.Abs
open Go Go.RowKit
attribute [local irreducible] Hold VReg Vf Vc VWP With VStp Vcallee Vp VE
theorem dep_q (k : Tok) (j : Nat) (v : Value) : depOf (vq k j v) = some (.own k) := _root_.id rfl
theorem depStep_ownNil (k : Tok) : depStep (.own k) ([], false) = true := _root_.id rfl
def NL : List Value := NM.map Value.string
theorem name_of {w : Int} (h0 : 0 ≤ w) (h9 : w < 9) : ∃ name, NL[w.toNat]? = some (.string name) ∧ Same9 name := by
  have : w = 0 ∨ w = 1 ∨ w = 2 ∨ w = 3 ∨ w = 4 ∨ w = 5 ∨ w = 6 ∨ w = 7 ∨ w = 8 := by omega
  rcases this with rfl | rfl | rfl | rfl | rfl | rfl | rfl | rfl | rfl
  · exact ⟨_, rfl, s9_sum⟩
  · exact ⟨_, rfl, s9_min⟩
  · exact ⟨_, rfl, s9_max⟩
  · exact ⟨_, rfl, s9_count⟩
  · exact ⟨_, rfl, s9_avg⟩
  · exact ⟨_, rfl, s9_and⟩
  · exact ⟨_, rfl, s9_or⟩
  · exact ⟨_, rfl, s9_concat⟩
  · exact ⟨_, rfl, s9_counta⟩
theorem and_int (x y : Operand) (a b : Int) : ∃ z, abin Tryd.prog .and 3 x y (.int .i64 a) (.int .i64 b) = some (.int .i64 z) := ⟨_, rfl⟩
theorem fix_n {x : VV} (h : x.ok) : -9223372036854775808 ≤ (fixV x).n ∧ (fixV x).n ≤ 9223372036854775807 := by
  unfold fixV
  split
  · exact h.2.1
  · decide
theorem flat_raw (rs : List RW) : flatF rs = (rs.flatMap (·.l)).map fixV := by
  unfold flatF
  rw [List.map_flatMap]
theorem growT_own (c : Bool) {k k' : Tok} (h : k' ≠ k) (sz off : Nat) (l : List Value) : growT c k (.own k' sz off l) (vo k' sz off l) = vo k' sz off l := by
  unfold growT
  cases c <;> simp [thaw, scrub, fate, h]
theorem lawFS (w : Int) (cl : Bool) (l : List VV) (hl : ∀ x ∈ l, x.ok) (cc : Bool) (N : List Int) : Vf Tryd.prog XS 5 [.int .i64 w, sl cl 0 3 (l.map VV.v), sl cc 0 1 (N.map vI)] [] fun v _ => v = .bool true := by
  refine Vf_text rfl Tryd.func5 rfl (by kernel_rfl) (by show 3 ≤ _; decide) ?_
  by_cases a1 : w < 0
  · simp -dsimp only [↓Hold_5, ↓VWP_seq, ↓VWP_region, ↓VWP_cond, ↓VWP_ret, ↓VReg_one, ↓VReg_nil, ↓VS_guard, ↓VS_move, ↓VS_assign, ↓VS_pick, ↓VS_binOp, ↓VS_unOp, ↓VS_buildSlice, ↓With_guard, ↓Hold_1, With_some, emap_nil, emap_cons, ↓eget_map, ↓eget_eset, ↓ae_tmp, ↓ae_int, ↓ae_bool, ↓ae_string, eget_zero, lop_pick, lop_not, asBool_bool, asGuard_bool, bb_tf, ayielded_eq, ↓dstAt_zero, ↓dstAt_succ, ↓vfinish_ret, ↓vres_nil, ↓vres_tmp, vtell_eq, ret1, Option.map_some, Option.bind_some, ↓reduceIte, Nat.reduceEqDiff, reduceCtorEq, Bool.false_eq_true, decide_true, Bool.not_true, Bool.not_false, Nat.zero_add, Nat.reduceMul, Nat.reduceLT, Nat.reduceLeDiff, and_self, List.map_cons, List.map_nil, tup_str, cel_str, List.toList_toArray, List.size_toArray, List.length_cons, List.length_nil, mapOwn_bool, mapOwn_int, mapOwn_string, toksL_nil, toksL_cons, toks_string, okv_bool, okv_string, List.append_nil, List.map_nil, List.map_cons, Bool.and_self, Bool.not_true, Bool.not_false, beq_self_eq_true, vturn_nil, vthaw_one, boxesOf_nil, List.set_cons_zero, List.set_cons_succ, List.length_cons, List.length_nil, partsOk_nil, partsOk_cons, vfill_nil, vfill_cons, vbin_int, List.replicate_succ, List.replicate_zero, abin_lss, beq_self_eq_true, decide_true, beq_self_eq_true, bb_tf, vbd44, ↓vfk31, Tryd.results5, ↓alive6_c, a1]
  · by_cases a2 : 9 ≤ w
    · simp -dsimp only [↓Hold_5, ↓VWP_seq, ↓VWP_region, ↓VWP_cond, ↓VWP_ret, ↓VReg_one, ↓VReg_nil, ↓VS_guard, ↓VS_move, ↓VS_assign, ↓VS_pick, ↓VS_binOp, ↓VS_unOp, ↓VS_len, ↓VS_buildSlice, ↓With_guard, ↓Hold_1, With_some, emap_nil, emap_cons, ↓eget_map, ↓eget_eset, ↓ae_tmp, ↓ae_int, ↓ae_bool, ↓ae_string, eget_zero, lop_pick, lop_not, asBool_bool, asGuard_bool, bb_tf, ayielded_eq, ↓dstAt_zero, ↓dstAt_succ, ↓vfinish_ret, ↓vres_nil, ↓vres_tmp, vtell_eq, ret1, Option.map_some, Option.bind_some, ↓reduceIte, Nat.reduceEqDiff, reduceCtorEq, Bool.false_eq_true, decide_true, decide_false, Bool.not_true, Bool.not_false, Nat.zero_add, Nat.reduceAdd, Nat.reduceMul, Nat.reduceLT, Nat.reduceLeDiff, and_self, List.map_cons, List.map_nil, tup_str, cel_str, List.toList_toArray, List.size_toArray, List.length_cons, List.length_nil, mapOwn_bool, mapOwn_int, mapOwn_string, toksL_nil, toksL_cons, toks_string, okv_bool, okv_string, List.append_nil, List.map_nil, List.map_cons, Bool.and_self, Bool.not_true, Bool.not_false, beq_self_eq_true, vturn_nil, vthaw_one, boxesOf_nil, List.set_cons_zero, List.set_cons_succ, List.length_cons, List.length_nil, partsOk_nil, partsOk_cons, vfill_nil, vfill_cons, vbin_int, List.replicate_succ, List.replicate_zero, abin_lss, abin_geq, Int.cast_ofNat_Int, beq_self_eq_true, ge_iff_le, decide_true, decide_false, beq_self_eq_true, bb_tf, vbd44, vlo44, ↓vfk31, Tryd.results5, ↓alive6_c, a1, a2]
    · by_cases a3 : (40 : Int) < l.length
      · simp -dsimp only [↓Hold_5, thaw_sl, ↓VWP_seq, ↓VWP_region, ↓VWP_cond, ↓VWP_ret, ↓VReg_one, ↓VReg_nil, ↓VS_guard, ↓VS_move, ↓VS_assign, ↓VS_pick, ↓VS_binOp, ↓VS_unOp, ↓VS_len, ↓VS_buildSlice, ↓With_guard, ↓Hold_1, With_some, emap_nil, emap_cons, ↓eget_map, ↓eget_eset, ↓ae_tmp, ↓ae_int, ↓ae_bool, ↓ae_string, eget_zero, eget_succ, lop_pick, lop_not, asBool_bool, asGuard_bool, bb_tf, ayielded_eq, ↓dstAt_zero, ↓dstAt_succ, ↓vfinish_ret, ↓vres_nil, ↓vres_tmp, vtell_eq, ret1, Option.map_some, Option.bind_some, ↓reduceIte, Nat.reduceEqDiff, reduceCtorEq, Bool.false_eq_true, decide_true, decide_false, Bool.not_true, Bool.not_false, Nat.zero_add, Nat.reduceAdd, Nat.reduceMul, Nat.reduceLT, Nat.reduceLeDiff, and_self, List.map_cons, List.map_nil, tup_str, cel_str, List.toList_toArray, List.size_toArray, List.length_cons, List.length_nil, mapOwn_bool, mapOwn_int, mapOwn_string, toksL_nil, toksL_cons, toks_string, okv_bool, okv_string, List.append_nil, List.map_nil, List.map_cons, Bool.and_self, Bool.not_true, Bool.not_false, beq_self_eq_true, vturn_nil, vthaw_one, boxesOf_nil, List.set_cons_zero, List.set_cons_succ, List.length_cons, List.length_nil, partsOk_nil, partsOk_cons, vfill_nil, vfill_cons, vbin_int, List.replicate_succ, List.replicate_zero, abin_lss, abin_gtr, abin_geq, Int.cast_ofNat_Int, beq_self_eq_true, gt_iff_lt, ge_iff_le, decide_true, decide_false, beq_self_eq_true, bb_tf, vbd44, vlo44, vls42, ↓vfk31, Tryd.results5, ↓alive6_c, a1, a2, a3, List.length_map]
      · by_cases a4 : (N.length : Int) < l.length
        · simp -dsimp only [↓Hold_5, thaw_sl, ↓VWP_seq, ↓VWP_region, ↓VWP_cond, ↓VWP_ret, ↓VReg_one, ↓VReg_nil, ↓VS_guard, ↓VS_move, ↓VS_assign, ↓VS_pick, ↓VS_binOp, ↓VS_unOp, ↓VS_len, ↓VS_buildSlice, ↓With_guard, ↓Hold_1, With_some, emap_nil, emap_cons, ↓eget_map, ↓eget_eset, ↓ae_tmp, ↓ae_int, ↓ae_bool, ↓ae_string, eget_zero, eget_succ, lop_pick, lop_not, asBool_bool, asGuard_bool, bb_tf, ayielded_eq, ↓dstAt_zero, ↓dstAt_succ, ↓vfinish_ret, ↓vres_nil, ↓vres_tmp, vtell_eq, ret1, Option.map_some, Option.bind_some, ↓reduceIte, Nat.reduceEqDiff, reduceCtorEq, Bool.false_eq_true, decide_true, decide_false, Bool.not_true, Bool.not_false, Nat.zero_add, Nat.reduceAdd, Nat.reduceMul, Nat.reduceLT, Nat.reduceLeDiff, and_self, List.map_cons, List.map_nil, tup_str, cel_str, List.toList_toArray, List.size_toArray, List.length_cons, List.length_nil, mapOwn_bool, mapOwn_int, mapOwn_string, toksL_nil, toksL_cons, toks_string, okv_bool, okv_string, List.append_nil, List.map_nil, List.map_cons, Bool.and_self, Bool.not_true, Bool.not_false, beq_self_eq_true, vturn_nil, vthaw_one, boxesOf_nil, List.set_cons_zero, List.set_cons_succ, List.length_cons, List.length_nil, partsOk_nil, partsOk_cons, vfill_nil, vfill_cons, vbin_int, List.replicate_succ, List.replicate_zero, abin_lss, abin_gtr, abin_geq, Int.cast_ofNat_Int, beq_self_eq_true, gt_iff_lt, ge_iff_le, decide_true, decide_false, beq_self_eq_true, bb_tf, vbd44, vlo44, vls42, vls43, ↓vfk31, Tryd.results5, ↓alive6_c, a1, a2, a3, a4, List.length_map]
        · have hf := fun t S K => few6_c t cl l (by omega) S K
          cases a5 : fewF [⟨cl, l⟩]
          · simp -dsimp only [↓Hold_5, toks_sl, thaw_sl, thawAll_sl, okv_sl0, tup_sl, cel_sl, ↓VWP_seq, ↓VWP_region, ↓VWP_cond, ↓VWP_ret, ↓VReg_one, ↓VReg_nil, ↓VS_guard, ↓VS_move, ↓VS_assign, ↓VS_pick, ↓VS_binOp, ↓VS_unOp, ↓VS_len, ↓VS_buildSlice, ↓With_guard, ↓Hold_1, With_some, emap_nil, emap_cons, ↓eget_map, ↓eget_eset, ↓ae_tmp, ↓ae_int, ↓ae_bool, ↓ae_string, eget_zero, eget_succ, lop_pick, lop_not, asBool_bool, asGuard_bool, ayielded_eq, ↓dstAt_zero, ↓dstAt_succ, ↓vfinish_ret, ↓vres_nil, ↓vres_tmp, vtell_eq, ret1, Option.map_some, Option.bind_some, ↓reduceIte, Nat.reduceEqDiff, reduceCtorEq, Bool.false_eq_true, decide_true, decide_false, Bool.not_true, Bool.not_false, Nat.zero_add, Nat.reduceAdd, Nat.reduceMul, Nat.reduceLT, Nat.reduceLeDiff, and_self, List.map_cons, List.map_nil, tup_str, cel_str, List.toList_toArray, List.size_toArray, List.length_cons, List.length_nil, mapOwn_bool, mapOwn_int, mapOwn_string, toksL_nil, toksL_cons, toks_string, okv_bool, okv_string, List.append_nil, List.map_nil, List.map_cons, Bool.and_self, Bool.not_true, Bool.not_false, beq_self_eq_true, vturn_nil, vthaw_one, boxesOf_nil, List.set_cons_zero, List.set_cons_succ, List.length_cons, List.length_nil, partsOk_nil, partsOk_cons, vfill_nil, vfill_cons, vbin_int, List.replicate_succ, List.replicate_zero, abin_lss, abin_gtr, abin_geq, Int.cast_ofNat_Int, beq_self_eq_true, gt_iff_lt, ge_iff_le, decide_true, decide_false, beq_self_eq_true, vbd44, vbd46, vlo44, vls42, vls43, ↓vfk31, ↓vfk32, Tryd.results5, ↓alive6_c, a1, a2, a3, a4, ↓hf, a5, List.length_map]
          · simp -dsimp only [↓Hold_5, toks_sl, thaw_sl, thawAll_sl, okv_sl0, tup_sl, cel_sl, ↓VWP_seq, ↓VWP_region, ↓VWP_cond, ↓VWP_skip, ↓VWP_block, ↓VWP_loop, ↓VReg_one, ↓VReg_nil, ↓VS_guard, ↓VS_move, ↓VS_assign, ↓VS_pick, ↓VS_binOp, ↓VS_unOp, ↓VS_len, ↓VS_buildSlice, ↓Hold_1, With_some, emap_nil, emap_cons, ↓eget_map, ↓eget_eset, ↓ae_tmp, ↓ae_int, ↓ae_bool, ↓ae_string, ↓ae_slice0, eget_zero, eget_succ, lop_pick, lop_not, asBool_bool, asGuard_bool, ayielded_eq, ↓dstAt_zero, ↓dstAt_succ, Option.bind_some, ↓reduceIte, Nat.reduceEqDiff, reduceCtorEq, Bool.false_eq_true, decide_true, decide_false, Bool.not_true, Bool.not_false, Nat.zero_add, Nat.reduceAdd, Nat.reduceMul, Nat.reduceLT, Nat.reduceLeDiff, List.map_cons, List.map_nil, tup_str, cel_str, List.size_toArray, List.length_cons, List.length_nil, mapOwn_bool, mapOwn_int, mapOwn_string, toksL_nil, toksL_cons, toks_string, okv_string, List.append_nil, List.map_nil, List.map_cons, Bool.and_self, Bool.not_true, Bool.not_false, beq_self_eq_true, vturn_nil, vthaw_one, boxesOf_nil, List.set_cons_zero, List.set_cons_succ, List.length_cons, List.length_nil, partsOk_nil, partsOk_cons, vfill_nil, vfill_cons, vbin_int, List.replicate_succ, List.replicate_zero, abin_lss, abin_gtr, abin_geq, Int.cast_ofNat_Int, beq_self_eq_true, gt_iff_lt, ge_iff_le, decide_true, decide_false, beq_self_eq_true, vbd44, vbd46, vlo44, vls42, vls43, ↓vfk31, ↓vfk32, ↓alive6_c, a1, a2, a3, a4, ↓hf, a5, List.length_map]
            refine Vc_loop (fun m e S => ∃ (i : Nat) (R : List RW) (M : List VV), m = l.length - i ∧ i ≤ l.length ∧ eget e 0 = .int .i64 w ∧ eget e 1 = sl cl 0 3 (l.map VV.v) ∧ eget e 2 = sl cc 0 1 (N.map vI) ∧ eget e 8 = vo (13, none) 1 0 NL ∧ eget e 11 = .int .i64 i ∧
              eget e 10 = ol true (57, none) 3 (M.map VV.v) ∧ ((R = [] ∧ eget e 9 = .slice none 0 0) ∨ (R ≠ [] ∧ eget e 9 = vo (67, none) 1 0 (R.map (RW.v 0)))) ∧ R.flatMap (·.l) ++ M = l.take i ∧ R.length ≤ 2 * i ∧ S = ⟨[], [], []⟩) l.length ?_ ?_
            · refine ⟨0, [], [], rfl, Nat.zero_le _, ?_, ?_, ?_, ?_, ?_, ?_, .inl ⟨rfl, ?_⟩, rfl, by simp, rfl⟩ <;> first | (simp only [↓eget_map, ↓eget_eset, eget_zero, eget_succ, ↓reduceIte, Nat.reduceEqDiff, reduceCtorEq, and_true, thaw_sl, mapOwn_vo, mapOwn_int, thaw_own, List.map_nil, List.mem_cons, List.not_mem_nil, or_false, Prod.mk.injEq]; done) | (simp only [↓eget_map, ↓eget_eset, ↓reduceIte, Nat.reduceEqDiff, and_true, mapOwn_vo, thaw_own, List.map_nil, List.mem_cons, List.not_mem_nil, or_false, Prod.mk.injEq]; rfl)
            · rintro m e S ⟨i, R, M, rfl, hi, e0, e1, e2, e8, e11, e10, e9, hRM, hRl, rfl⟩
              refine VWP_Vc _ _ _ _ ?_
              by_cases hin : i < l.length
              · have hlt : (i : Int) < l.length := by omega
                have h0 : (0 : Int) ≤ i := by omega
                have hx : (l.map VV.v)[i]? = some l[i].v := by simp [hin]
                have hiN : i < N.length := by omega
                have hn : (N.map vI)[i]? = some (.int .i64 N[i]) := by simp [hiN, vI]
                have ht : l.take (i + 1) = l.take i ++ [l[i]] := by rw [List.take_append_getElem hin]
                have hnum : ((i : Int) + 1) = ((i + 1 : Nat) : Int) := by omega
                have hwr : IntKind.i64.wrap ((i : Int) + 1) = ((i + 1 : Nat) : Int) := by rw [hnum]; exact wrap_id (by omega) (by omega)
                have hML : M.length ≤ i := by
                  have := congrArg List.length hRM
                  rw [List.length_append, List.length_take] at this
                  omega
                have hmm : (M.map VV.v).length = M.length := List.length_map ..
                have hrr : (R.map (RW.v 0)).length = R.length := List.length_map ..
                generalize l[i] = x at hx ht
                obtain ⟨k, n, s⟩ := x
                have hne : (M.map VV.v ++ [Value.agg ⟨[.int .i64 k, .int .i64 n, .string s]⟩]).isEmpty = false := by simp
                have g13 : ∀ c, growT c (57, none) (View.own (13, none) 1 0 NL) (vo (13, none) 1 0 NL) = vo (13, none) 1 0 NL := fun c => growT_own c (by decide) _ _ _
                have g67 : ∀ c, growT c (57, none) (View.own (67, none) 1 0 (R.map (RW.v 0))) (vo (67, none) 1 0 (R.map (RW.v 0))) = vo (67, none) 1 0 (R.map (RW.v 0)) := fun c => growT_own c (by decide) _ _ _
                simp only [VV.v] at hx
                have hnext : ∀ L : List RW, ∀ M' : List VV, L.flatMap (·.l) ++ M' = (R.flatMap (·.l) ++ M) ++ [⟨k, n, s⟩] → L.flatMap (·.l) ++ M' = l.take (i + 1) := fun L M' h => by rw [h, hRM, ht]
                have hrow : (RW.v 0 ⟨true, M ++ [⟨k, n, s⟩]⟩) = sl true 0 3 (M.map VV.v ++ [Value.agg ⟨[.int .i64 k, .int .i64 n, .string s]⟩]) := by simp [RW.v, VV.v]
                obtain ⟨z, hz⟩ := and_int (.tmp 61) (.const (.int .i64 1)) N[i] 1
                by_cases hz1 : z = 1
                · rcases e9 with ⟨hR, e9⟩ | ⟨hR, e9⟩
                  · subst hR
                    simp -dsimp only [thaw_sl, okv_sl0, toks_ol, thawAll_ol, thaw_ol, tup_ol, cel_ol, growT_sl, vgrow_ol, ↓VWP_seq, ↓VWP_region, ↓VWP_cond, ↓VWP_skip, ↓VWP_block, ↓VReg_one, ↓VReg_nil, ↓VS_move, ↓VS_assign, ↓VS_load, ↓VS_binOp, ↓VS_indexAddr, ↓VS_len, ↓VS_buildSlice, ↓VS_append, ↓With_guard, ↓Hold_1, With_some, emap_nil, emap_cons, ↓eget_map, ↓eget_eset, ↓ae_tmp, ↓ae_int, ↓ae_slice0, asBool_bool, Option.map_some, Option.bind_some, ↓reduceIte, Nat.reduceEqDiff, reduceCtorEq, Bool.false_eq_true, decide_true, Bool.not_false, Nat.zero_add, Nat.reduceAdd, Nat.reduceMul, Nat.reduceLT, Nat.reduceLeDiff, and_true, true_and, and_self, List.map_cons, List.map_nil, List.all_cons, List.all_nil, tup_slice, cel_slice, tup_agg, cel_agg, List.size_toArray, List.length_cons, List.length_nil, mapOwn_vo, mapOwn_agg, mapOwn_int, mapOwn_string, mapOwn_slice, thaw_own, toksL_nil, toksL_cons, toks_int, toks_string, toks_slice, toks_agg, okv_agg, okv_int, okv_string, okv_slice0, List.flatMap_nil, List.flatMap_cons, List.all_nil, List.all_cons, List.append_nil, List.map_nil, List.map_cons, Bool.and_false, Bool.and_self, Bool.not_false, List.mem_cons, List.not_mem_nil, or_false, Prod.mk.injEq, beq_self_eq_true, vturn_nil, vthaw_one, boxesOf_nil, boxesOf_none, List.set_cons_zero, List.set_cons_succ, List.length_cons, List.length_nil, vload_at, cellV_int, aggV_agg, velems_own, vgrow_nil, partsOk_nil, partsOk_cons, vfill_nil, vfill_cons, vbin_int, List.replicate_succ, List.replicate_zero, abin_eql, abin_lss, abin_add, beq_self_eq_true, Int.toNat_natCast, decide_true, beq_self_eq_true, vgt48, vgt3, vbd46, vbd42, vis42, vis43, vls42, vap42, vap46, e0, e1, e2, e8, e11, e10, e9, hlt, h0, hx, hn, hz, hz1, hne, g13, List.length_map]
                    exact ⟨⟨by omega, by omega⟩, l.length - (i + 1), by omega, i + 1, [⟨true, M ++ [⟨k, n, s⟩]⟩, ⟨true, []⟩], [], rfl, by omega, by rw [hwr], rfl, .inr ⟨by simp, by rw [List.map_cons, List.map_cons, hrow]; rfl⟩, hnext _ _ (by simp), by simp; omega⟩
                  · simp -dsimp only [thaw_sl, scrub_sl, okv_sl0, toks_ol, thawAll_ol, thaw_ol, tup_ol, cel_ol, growT_sl, vgrow_ol, ↓VWP_seq, ↓VWP_region, ↓VWP_cond, ↓VWP_skip, ↓VWP_block, ↓VReg_one, ↓VReg_nil, ↓VS_move, ↓VS_assign, ↓VS_load, ↓VS_binOp, ↓VS_indexAddr, ↓VS_len, ↓VS_buildSlice, ↓VS_append, ↓With_guard, ↓Hold_1, With_some, emap_nil, emap_cons, ↓eget_map, ↓eget_eset, ↓ae_tmp, ↓ae_int, ↓ae_slice0, asBool_bool, Option.map_some, Option.bind_some, ↓reduceIte, Nat.reduceEqDiff, reduceCtorEq, Bool.false_eq_true, decide_true, Bool.not_false, Nat.zero_add, Nat.reduceAdd, Nat.reduceMul, Nat.reduceLT, Nat.reduceLeDiff, and_true, true_and, List.map_cons, List.map_nil, List.all_cons, List.all_nil, tup_slice, cel_slice, tup_agg, cel_agg, List.size_toArray, List.length_cons, List.length_nil, mapOwn_vo, mapOwn_agg, mapOwn_int, mapOwn_string, mapOwn_slice, thaw_own, scrub_own, toksL_nil, toksL_cons, toks_int, toks_string, toks_slice, toks_agg, okv_agg, okv_int, okv_string, okv_slice0, List.flatMap_nil, List.flatMap_cons, List.all_nil, List.all_cons, List.append_nil, List.map_nil, List.map_cons, Bool.and_false, Bool.and_self, Bool.not_false, List.mem_cons, List.not_mem_nil, or_false, Prod.mk.injEq, beq_self_eq_true, vturn_nil, vthaw_one, boxesOf_nil, boxesOf_none, ownBox_none, List.set_cons_zero, List.set_cons_succ, List.length_cons, List.length_nil, vload_at, cellV_int, aggV_agg, velems_own, vgrow_own, partsOk_nil, partsOk_cons, vfill_nil, vfill_cons, vbin_int, List.replicate_succ, List.replicate_zero, abin_eql, abin_lss, abin_add, beq_self_eq_true, Int.toNat_natCast, decide_true, beq_self_eq_true, vgt48, vgt3, vbd46, vbd42, vis42, vis43, vls42, vap42, vap46, e0, e1, e2, e8, e11, e10, e9, hlt, h0, hx, hn, hz, hz1, hne, g13, g67, List.length_map]
                    exact ⟨⟨by omega, by omega⟩, ⟨by omega, by omega⟩, l.length - (i + 1), by omega, i + 1, R ++ [⟨true, M ++ [⟨k, n, s⟩]⟩, ⟨true, []⟩], [], rfl, by omega, by rw [hwr], rfl, .inr ⟨by simp, by rw [List.map_append, List.map_cons, List.map_cons, hrow]; rfl⟩, hnext _ _ (by simp), by simp; omega⟩
                · rcases e9 with ⟨hR, e9⟩ | ⟨hR, e9⟩
                  · subst hR
                    simp -dsimp only [thaw_sl, thaw_ol, growT_sl, vgrow_ol, ↓VWP_seq, ↓VWP_region, ↓VWP_cond, ↓VWP_skip, ↓VWP_block, ↓VReg_one, ↓VReg_nil, ↓VS_move, ↓VS_assign, ↓VS_load, ↓VS_binOp, ↓VS_indexAddr, ↓VS_len, ↓VS_buildSlice, ↓VS_append, ↓With_guard, ↓Hold_1, With_some, emap_nil, emap_cons, ↓eget_map, ↓eget_eset, ↓ae_tmp, ↓ae_int, asBool_bool, Option.map_some, Option.bind_some, ↓reduceIte, Nat.reduceEqDiff, reduceCtorEq, Bool.false_eq_true, decide_true, decide_false, Bool.not_false, Nat.zero_add, Nat.reduceAdd, Nat.reduceMul, Nat.reduceLT, Nat.reduceLeDiff, and_true, true_and, List.map_cons, List.map_nil, List.all_cons, List.all_nil, tup_agg, cel_agg, List.size_toArray, List.length_cons, List.length_nil, mapOwn_vo, mapOwn_agg, mapOwn_int, mapOwn_string, mapOwn_slice, thaw_own, toksL_nil, toksL_cons, toks_int, toks_string, toks_agg, okv_agg, okv_int, okv_string, List.flatMap_nil, List.flatMap_cons, List.all_nil, List.all_cons, List.append_nil, List.map_nil, List.map_cons, Bool.and_self, Bool.not_false, List.mem_cons, List.not_mem_nil, or_false, Prod.mk.injEq, beq_self_eq_true, vturn_nil, vthaw_one, boxesOf_nil, List.set_cons_zero, List.length_cons, List.length_nil, vload_at, cellV_int, aggV_agg, velems_own, partsOk_nil, partsOk_cons, vfill_nil, vfill_cons, vbin_int, List.replicate_succ, List.replicate_zero, abin_eql, abin_lss, abin_add, beq_self_eq_true, Int.toNat_natCast, decide_true, decide_false, beq_self_eq_true, ibeq, vgt48, vgt3, vbd42, vis42, vis43, vls42, vap42, e0, e1, e2, e8, e11, e10, e9, hlt, h0, hx, hn, hz, hz1, g13, List.length_map]
                    exact ⟨⟨by omega, by omega⟩, l.length - (i + 1), by omega, i + 1, [], M ++ [⟨k, n, s⟩], rfl, by omega, by rw [hwr], by rw [List.map_append]; rfl, .inl rfl, hnext _ _ (by simp), by simp⟩
                  · simp -dsimp only [thaw_sl, thaw_ol, growT_sl, vgrow_ol, ↓VWP_seq, ↓VWP_region, ↓VWP_cond, ↓VWP_skip, ↓VWP_block, ↓VReg_one, ↓VReg_nil, ↓VS_move, ↓VS_assign, ↓VS_load, ↓VS_binOp, ↓VS_indexAddr, ↓VS_len, ↓VS_buildSlice, ↓VS_append, ↓With_guard, ↓Hold_1, With_some, emap_nil, emap_cons, ↓eget_map, ↓eget_eset, ↓ae_tmp, ↓ae_int, asBool_bool, Option.map_some, Option.bind_some, ↓reduceIte, Nat.reduceEqDiff, reduceCtorEq, Bool.false_eq_true, decide_true, decide_false, Bool.not_false, Nat.zero_add, Nat.reduceAdd, Nat.reduceMul, Nat.reduceLT, Nat.reduceLeDiff, and_true, true_and, List.map_cons, List.map_nil, List.all_cons, List.all_nil, tup_agg, cel_agg, List.size_toArray, List.length_cons, List.length_nil, mapOwn_vo, mapOwn_agg, mapOwn_int, mapOwn_string, thaw_own, toksL_nil, toksL_cons, toks_int, toks_string, toks_agg, okv_agg, okv_int, okv_string, List.flatMap_nil, List.flatMap_cons, List.all_nil, List.all_cons, List.append_nil, List.map_nil, List.map_cons, Bool.and_self, Bool.not_false, List.mem_cons, List.not_mem_nil, or_false, Prod.mk.injEq, beq_self_eq_true, vturn_nil, vthaw_one, boxesOf_nil, List.set_cons_zero, List.length_cons, List.length_nil, vload_at, cellV_int, aggV_agg, velems_own, partsOk_nil, partsOk_cons, vfill_nil, vfill_cons, vbin_int, List.replicate_succ, List.replicate_zero, abin_eql, abin_lss, abin_add, beq_self_eq_true, Int.toNat_natCast, decide_true, decide_false, beq_self_eq_true, ibeq, vgt48, vgt3, vbd42, vis42, vis43, vls42, vap42, e0, e1, e2, e8, e11, e10, e9, hlt, h0, hx, hn, hz, hz1, g13, g67, List.length_map]
                    exact ⟨⟨by omega, by omega⟩, l.length - (i + 1), by omega, i + 1, R, M ++ [⟨k, n, s⟩], rfl, by omega, by rw [hwr], by rw [List.map_append]; rfl, .inr ⟨hR, rfl⟩, hnext _ _ (by simp), by omega⟩
              · obtain rfl : i = l.length := by omega
                have hlt : ¬ ((l.length : Int) < l.length) := by omega
                rw [List.take_length] at hRM
                obtain ⟨name, hnm, hsame⟩ := name_of (w := w) (by omega) (by omega)
                have hlen : ∀ L : List RW, L.flatMap (·.l) = l → (flatF L).length = l.length := fun L h => by rw [flat_raw, h, List.length_map]
                have hgiv : ∀ L : List RW, L.length ≤ 1000 → L.flatMap (·.l) = l → Given L := fun L h1 h => by
                  refine ⟨h1, by rw [hlen L h]; omega, fun x hx => ?_⟩
                  rw [flat_raw, h] at hx
                  obtain ⟨y, hy, rfl⟩ := List.mem_map.1 hx
                  exact fix_n (hl y hy)
                have f1 : (R ++ [(⟨true, M⟩ : RW)]).flatMap (·.l) = l := by simp [hRM]
                have f2 : ([⟨cl, l⟩] : List RW).flatMap (·.l) = l := by simp
                obtain ⟨r, s1, s2⟩ := hsame (R ++ [⟨true, M⟩]) [⟨cl, l⟩] (hgiv _ (by simp; omega) f1) (by rw [flat_raw, flat_raw, f1, f2]) (hgiv _ (by simp) f2)
                obtain ⟨rk, rn, rs⟩ := r
                have hw0 : (0 : Int) ≤ w := by omega
                simp only [List.map_append, List.map_cons, List.map_nil, RW.v] at s1 s2
                have hrr : (R.map (RW.v 0)).length = R.length := List.length_map ..
                have g13 : ∀ c, growT c (57, none) (View.own (13, none) 1 0 NL) (vo (13, none) 1 0 NL) = vo (13, none) 1 0 NL := fun c => growT_own c (by decide) _ _ _
                rcases e9 with ⟨hR, e9⟩ | ⟨hR, e9⟩
                · subst hR
                  simp only [List.map_nil, List.nil_append] at s1
                  cases M with
                  | nil =>
                    simp only [List.map_nil] at s1
                    simp -dsimp only [okv_sl0, toks_ol, thawAll_ol, tup_ol, cel_ol, ↓VWP_seq, ↓VWP_region, ↓VWP_cond, ↓VWP_exit, ↓VWP_open, ↓VReg_one, ↓VReg_nil, ↓VS_move, ↓VS_assign, ↓VS_binOp, ↓VS_len, ↓VS_buildSlice, ↓VS_append, ↓Hold_1, ↓Hold_3, With_some, emap_nil, emap_cons, ↓eget_map, ↓eget_eset, ↓ae_tmp, asBool_bool, Option.bind_some, ↓reduceIte, Nat.reduceEqDiff, Bool.false_eq_true, decide_true, decide_false, Bool.not_false, Nat.zero_add, Nat.reduceMul, Nat.reduceLT, Nat.reduceLeDiff, and_self, List.map_cons, List.map_nil, List.size_toArray, List.length_cons, List.length_nil, mapOwn_slice, toksL_nil, toksL_cons, List.append_nil, List.map_nil, List.map_cons, List.isEmpty_nil, Bool.and_self, Bool.not_false, beq_self_eq_true, vturn_nil, vthaw_one, boxesOf_nil, List.set_cons_zero, List.length_cons, List.length_nil, velems_own, vgrow_nil, partsOk_nil, partsOk_cons, vfill_nil, vfill_cons, vbin_int, List.replicate_succ, List.replicate_zero, abin_lss, beq_self_eq_true, decide_true, decide_false, beq_self_eq_true, vbd46, vls42, vap46, e1, e11, e10, e9, hlt, List.length_map]
                    refine Vc_open2 [[], [], [], [], [], [], [], [], [], [0, 2], [], [], [], [], []] true (by kernel_rfl) (by kernel_rfl) (by kernel_rfl) (by kernel_rfl) ?_
                    simp -dsimp only [↓Hold_5, toks_sl, thaw_sl, thawAll_sl, okv_sl0, tup_sl, cel_sl, ↓VWP_ret, ↓VS_move, ↓VS_assign, ↓VS_load, ↓VS_binOp, ↓VS_indexAddr, ↓VS_buildSlice, ↓With_guard, ↓Hold_1, ↓Hold_3, With_some, emap_nil, emap_cons, ↓eget_map, ↓eget_eset, ↓ae_tmp, light, ↓vfinish_ret, ↓vres_nil, ↓vres_tmp, vtell_eq, ret1, Option.map_some, Option.bind_some, ↓reduceIte, Nat.reduceEqDiff, reduceCtorEq, Bool.false_eq_true, decide_true, decide_false, Bool.not_false, List.getElem?_cons_zero, List.getElem?_cons_succ, Nat.zero_add, Nat.reduceAdd, Nat.reduceMul, Nat.reduceLT, Nat.reduceLeDiff, and_true, and_self, List.map_cons, List.map_nil, List.all_cons, List.all_nil, Bool.and_true, List.toList_toArray, List.size_toArray, List.length_cons, List.length_nil, mapOwn_vo, mapOwn_agg, mapOwn_bool, mapOwn_int, mapOwn_string, thaw_own, toksL_nil, toksL_cons, okv_bool, List.all_nil, List.all_cons, List.append_nil, List.nil_append, List.cons_append, List.map_nil, List.map_cons, Bool.and_true, Bool.and_self, Bool.not_false, Bool.or_false, List.mem_cons, List.not_mem_nil, or_false, Prod.mk.injEq, beq_self_eq_true, vturn_nil, vthaw_one, boxesOf_nil, List.set_cons_zero, List.length_cons, List.length_nil, vload_atOwn, cellV_string, partsOk_nil, partsOk_cons, vfill_nil, vfill_cons, List.replicate_succ, List.replicate_zero, beq_self_eq_true, decide_true, decide_false, beq_self_eq_true, ↓VE_nil, ↓VE_one0, ↓VE_one1, ↓shade_one, shade_load, shade_move, shade_indexAddr, shade_call, Option.getD_some, ↓vobl_load, isGone_string, vspan, List.range_succ, List.range_zero, Bool.or_true, Nat.min_def, Nat.max_def, List.reverse_cons, List.reverse_nil, dep_q, depStep_ownNil, vgt9, vbd46, vio44, ↓vfk33, Tryd.results5, e0, e1, e8, hw0, hnm, ↓s1, ↓s2, self_vv6]
                  | cons x M =>
                    simp only [List.map_cons] at s1
                    simp -dsimp only [okv_sl0, toks_ol, thawAll_ol, tup_ol, cel_ol, ↓VWP_seq, ↓VWP_region, ↓VWP_cond, ↓VWP_exit, ↓VWP_open, ↓VReg_one, ↓VReg_nil, ↓VS_move, ↓VS_assign, ↓VS_binOp, ↓VS_len, ↓VS_buildSlice, ↓VS_append, ↓Hold_1, ↓Hold_3, With_some, emap_nil, emap_cons, ↓eget_map, ↓eget_eset, ↓ae_tmp, asBool_bool, Option.bind_some, ↓reduceIte, Nat.reduceEqDiff, Bool.false_eq_true, decide_true, decide_false, Bool.not_false, Nat.zero_add, Nat.reduceMul, Nat.reduceLT, Nat.reduceLeDiff, and_self, List.map_cons, List.map_nil, List.size_toArray, List.length_cons, List.length_nil, mapOwn_slice, toksL_nil, toksL_cons, List.append_nil, List.map_nil, List.map_cons, List.isEmpty_cons, Bool.and_false, Bool.and_self, Bool.not_false, beq_self_eq_true, vturn_nil, vthaw_one, boxesOf_nil, boxesOf_none, List.set_cons_zero, List.length_cons, List.length_nil, velems_own, vgrow_nil, partsOk_nil, partsOk_cons, vfill_nil, vfill_cons, vbin_int, List.replicate_succ, List.replicate_zero, abin_lss, beq_self_eq_true, decide_true, decide_false, beq_self_eq_true, vbd46, vls42, vap46, e1, e11, e10, e9, hlt, List.length_map]
                    refine Vc_open2 [[], [], [], [], [], [], [], [], [], [0, 2], [], [], [], [], []] true (by kernel_rfl) (by kernel_rfl) (by kernel_rfl) (by kernel_rfl) ?_
                    simp -dsimp only [↓Hold_5, toks_sl, thaw_sl, thawAll_sl, okv_sl0, tup_sl, cel_sl, ↓VWP_ret, ↓VS_move, ↓VS_assign, ↓VS_load, ↓VS_binOp, ↓VS_indexAddr, ↓VS_buildSlice, ↓With_guard, ↓Hold_1, ↓Hold_3, With_some, emap_nil, emap_cons, ↓eget_map, ↓eget_eset, ↓ae_tmp, light, ↓vfinish_ret, ↓vres_nil, ↓vres_tmp, vtell_eq, ret1, Option.map_some, Option.bind_some, ↓reduceIte, Nat.reduceEqDiff, reduceCtorEq, Bool.false_eq_true, decide_true, decide_false, Bool.not_false, List.getElem?_cons_zero, List.getElem?_cons_succ, Nat.zero_add, Nat.reduceAdd, Nat.reduceMul, Nat.reduceLT, Nat.reduceLeDiff, and_true, and_self, List.map_cons, List.map_nil, List.all_cons, List.all_nil, Bool.and_true, List.toList_toArray, List.size_toArray, List.length_cons, List.length_nil, mapOwn_vo, mapOwn_agg, mapOwn_bool, mapOwn_int, mapOwn_string, thaw_own, toksL_nil, toksL_cons, okv_bool, List.all_nil, List.all_cons, List.append_nil, List.nil_append, List.cons_append, List.map_nil, List.map_cons, Bool.and_true, Bool.and_self, Bool.not_false, Bool.or_false, List.mem_cons, List.not_mem_nil, or_false, Prod.mk.injEq, beq_self_eq_true, vturn_nil, vthaw_one, boxesOf_nil, List.set_cons_zero, List.length_cons, List.length_nil, vload_atOwn, cellV_string, partsOk_nil, partsOk_cons, vfill_nil, vfill_cons, List.replicate_succ, List.replicate_zero, beq_self_eq_true, decide_true, decide_false, beq_self_eq_true, ↓VE_nil, ↓VE_one0, ↓VE_one1, ↓shade_one, shade_load, shade_move, shade_indexAddr, shade_call, Option.getD_some, ↓vobl_load, isGone_string, vspan, List.range_succ, List.range_zero, Bool.or_true, Nat.min_def, Nat.max_def, List.reverse_cons, List.reverse_nil, dep_q, depStep_ownNil, vgt9, vbd46, vio44, ↓vfk33, Tryd.results5, e0, e1, e8, hw0, hnm, ↓s1, ↓s2, self_vv6]
                · cases M with
                  | nil =>
                    simp only [List.map_nil] at s1
                    simp -dsimp only [okv_sl0, toks_ol, thawAll_ol, tup_ol, cel_ol, ↓VWP_seq, ↓VWP_region, ↓VWP_cond, ↓VWP_exit, ↓VWP_open, ↓VReg_one, ↓VReg_nil, ↓VS_move, ↓VS_assign, ↓VS_binOp, ↓VS_len, ↓VS_buildSlice, ↓VS_append, ↓With_guard, ↓Hold_1, ↓Hold_3, With_some, emap_nil, emap_cons, ↓eget_map, ↓eget_eset, ↓ae_tmp, asBool_bool, Option.bind_some, ↓reduceIte, Nat.reduceEqDiff, Bool.false_eq_true, decide_true, decide_false, Bool.not_false, Nat.zero_add, Nat.reduceMul, Nat.reduceLT, Nat.reduceLeDiff, and_true, List.map_cons, List.map_nil, List.size_toArray, List.length_cons, List.length_nil, mapOwn_vo, thaw_own, toksL_nil, toksL_cons, List.append_nil, List.map_nil, List.map_cons, List.isEmpty_nil, Bool.and_self, Bool.not_false, List.mem_cons, List.not_mem_nil, or_false, Prod.mk.injEq, beq_self_eq_true, vturn_nil, vthaw_one, boxesOf_nil, ownBox_none, List.set_cons_zero, List.length_cons, List.length_nil, velems_own, vgrow_own, partsOk_nil, partsOk_cons, vfill_nil, vfill_cons, vbin_int, List.replicate_succ, List.replicate_zero, abin_lss, beq_self_eq_true, decide_true, decide_false, beq_self_eq_true, vbd46, vls42, vap46, e1, e11, e10, e9, hlt, hrr, List.length_map]
                    refine ⟨⟨by omega, by omega⟩, ?_⟩
                    refine Vc_open2 [[], [], [], [], [], [], [], [], [], [0, 2], [], [], [], [], []] true (by kernel_rfl) (by kernel_rfl) (by kernel_rfl) (by kernel_rfl) ?_
                    simp -dsimp only [↓Hold_5, toks_sl, thaw_sl, scrub_sl, thawAll_sl, okv_sl0, tup_sl, cel_sl, ↓VWP_ret, ↓VS_move, ↓VS_assign, ↓VS_load, ↓VS_binOp, ↓VS_indexAddr, ↓VS_buildSlice, ↓With_guard, ↓Hold_1, ↓Hold_3, With_some, emap_nil, emap_cons, ↓eget_map, ↓eget_eset, ↓ae_tmp, light, ↓vfinish_ret, ↓vres_nil, ↓vres_tmp, vtell_eq, ret1, Option.map_some, Option.bind_some, ↓reduceIte, Nat.reduceEqDiff, reduceCtorEq, Bool.false_eq_true, decide_true, decide_false, Bool.not_false, List.getElem?_cons_zero, List.getElem?_cons_succ, Nat.zero_add, Nat.reduceAdd, Nat.reduceMul, Nat.reduceLT, Nat.reduceLeDiff, and_true, and_self, List.map_cons, List.map_nil, List.all_cons, List.all_nil, Bool.and_true, List.toList_toArray, List.size_toArray, List.length_cons, List.length_nil, mapOwn_vo, mapOwn_agg, mapOwn_bool, mapOwn_int, mapOwn_string, thaw_own, scrub_own, toksL_nil, toksL_cons, okv_bool, List.all_nil, List.all_cons, List.append_nil, List.nil_append, List.cons_append, List.map_nil, List.map_cons, Bool.and_true, Bool.and_self, Bool.not_false, Bool.or_false, List.mem_cons, List.not_mem_nil, or_false, Prod.mk.injEq, beq_self_eq_true, vturn_nil, vthaw_one, boxesOf_nil, List.set_cons_zero, List.length_cons, List.length_nil, vload_atOwn, cellV_string, partsOk_nil, partsOk_cons, vfill_nil, vfill_cons, List.replicate_succ, List.replicate_zero, beq_self_eq_true, decide_true, decide_false, beq_self_eq_true, ↓VE_nil, ↓VE_one0, ↓VE_one1, ↓shade_one, shade_load, shade_move, shade_indexAddr, shade_call, Option.getD_some, ↓vobl_load, isGone_string, vspan, List.range_succ, List.range_zero, Bool.or_true, Nat.min_def, Nat.max_def, List.reverse_cons, List.reverse_nil, dep_q, depStep_ownNil, vgt9, vbd46, vio44, ↓vfk33, Tryd.results5, e0, e1, e8, hw0, hnm, ↓s1, ↓s2, self_vv6]
                  | cons x M =>
                    simp only [List.map_cons] at s1
                    simp -dsimp only [okv_sl0, toks_ol, thawAll_ol, tup_ol, cel_ol, ↓VWP_seq, ↓VWP_region, ↓VWP_cond, ↓VWP_exit, ↓VWP_open, ↓VReg_one, ↓VReg_nil, ↓VS_move, ↓VS_assign, ↓VS_binOp, ↓VS_len, ↓VS_buildSlice, ↓VS_append, ↓With_guard, ↓Hold_1, ↓Hold_3, With_some, emap_nil, emap_cons, ↓eget_map, ↓eget_eset, ↓ae_tmp, asBool_bool, Option.bind_some, ↓reduceIte, Nat.reduceEqDiff, Bool.false_eq_true, decide_true, decide_false, Bool.not_false, Nat.zero_add, Nat.reduceMul, Nat.reduceLT, Nat.reduceLeDiff, and_true, List.map_cons, List.map_nil, List.size_toArray, List.length_cons, List.length_nil, mapOwn_vo, thaw_own, toksL_nil, toksL_cons, List.append_nil, List.map_nil, List.map_cons, List.isEmpty_cons, Bool.and_false, Bool.and_self, Bool.not_false, List.mem_cons, List.not_mem_nil, or_false, Prod.mk.injEq, beq_self_eq_true, vturn_nil, vthaw_one, boxesOf_nil, boxesOf_none, ownBox_none, List.set_cons_zero, List.length_cons, List.length_nil, velems_own, vgrow_own, partsOk_nil, partsOk_cons, vfill_nil, vfill_cons, vbin_int, List.replicate_succ, List.replicate_zero, abin_lss, beq_self_eq_true, decide_true, decide_false, beq_self_eq_true, vbd46, vls42, vap46, e1, e11, e10, e9, hlt, hrr, List.length_map]
                    refine ⟨⟨by omega, by omega⟩, ?_⟩
                    refine Vc_open2 [[], [], [], [], [], [], [], [], [], [0, 2], [], [], [], [], []] true (by kernel_rfl) (by kernel_rfl) (by kernel_rfl) (by kernel_rfl) ?_
                    simp -dsimp only [↓Hold_5, toks_sl, thaw_sl, scrub_sl, thawAll_sl, okv_sl0, tup_sl, cel_sl, ↓VWP_ret, ↓VS_move, ↓VS_assign, ↓VS_load, ↓VS_binOp, ↓VS_indexAddr, ↓VS_buildSlice, ↓With_guard, ↓Hold_1, ↓Hold_3, With_some, emap_nil, emap_cons, ↓eget_map, ↓eget_eset, ↓ae_tmp, light, ↓vfinish_ret, ↓vres_nil, ↓vres_tmp, vtell_eq, ret1, Option.map_some, Option.bind_some, ↓reduceIte, Nat.reduceEqDiff, reduceCtorEq, Bool.false_eq_true, decide_true, decide_false, Bool.not_false, List.getElem?_cons_zero, List.getElem?_cons_succ, Nat.zero_add, Nat.reduceAdd, Nat.reduceMul, Nat.reduceLT, Nat.reduceLeDiff, and_true, and_self, List.map_cons, List.map_nil, List.all_cons, List.all_nil, Bool.and_true, List.toList_toArray, List.size_toArray, List.length_cons, List.length_nil, mapOwn_vo, mapOwn_agg, mapOwn_bool, mapOwn_int, mapOwn_string, thaw_own, scrub_own, toksL_nil, toksL_cons, okv_bool, List.all_nil, List.all_cons, List.append_nil, List.nil_append, List.cons_append, List.map_nil, List.map_cons, Bool.and_true, Bool.and_self, Bool.not_false, Bool.or_false, List.mem_cons, List.not_mem_nil, or_false, Prod.mk.injEq, beq_self_eq_true, vturn_nil, vthaw_one, boxesOf_nil, List.set_cons_zero, List.length_cons, List.length_nil, vload_atOwn, cellV_string, partsOk_nil, partsOk_cons, vfill_nil, vfill_cons, List.replicate_succ, List.replicate_zero, beq_self_eq_true, decide_true, decide_false, beq_self_eq_true, ↓VE_nil, ↓VE_one0, ↓VE_one1, ↓shade_one, shade_load, shade_move, shade_indexAddr, shade_call, Option.getD_some, ↓vobl_load, isGone_string, vspan, List.range_succ, List.range_zero, Bool.or_true, Nat.min_def, Nat.max_def, List.reverse_cons, List.reverse_nil, dep_q, depStep_ownNil, vgt9, vbd46, vio44, ↓vfk33, Tryd.results5, e0, e1, e8, hw0, hnm, ↓s1, ↓s2, self_vv6]
end Go.Proofs.YtmdpggecelheoaaDoor.Abs
/- The law FuncsShare over the plain heap; rows of numbers as arguments. -/
set_option linter.unusedVariables false
namespace Go.Proofs.YtmdpggecelheoaaDoor.Abs
open Go Go.RowKit
def RIv : Hp → Int → List Value → Prop := fun _ x cs => cs = [.int .i64 x]
theorem RIv.mono : Mono RIv := fun _ _ _ _ _ h => h
theorem opens_iv : OpensA Tryd.prog 3 RIv := fun n => Opens.map (opens_shape 8 3 [.int .i64] (by kernel_rfl) n) fun H x cs h => by
  obtain ⟨rfl, h⟩ := h
  obtain ⟨_, t0, rfl, ⟨x0, rfl, w0⟩, h0⟩ := shapes_cons h
  obtain rfl := shapes_nil h0
  exact ⟨x0, rfl⟩
/-- A row of numbers. -/
def RNs : Hp → Bool × List Int → List Value → Prop := fun H r cs => ∃ v, cs = [v] ∧ Rd (Rl0 H) (sl r.1 0 1 (r.2.map vI)) v
theorem RNs.mono : Mono RNs := by
  rintro H H' r cs hl ⟨v, rfl, h⟩
  refine ⟨v, rfl, ?_⟩
  refine Rd.conv (R := Rl0 H) (R' := Rl0 H') (fun i b h => h) (fun d b hp hm => ?_) (fun k b h => by cases h) h
  exact ⟨⟨Nat.lt_of_lt_of_le hp.1 hl.next, by simp, fun k h => by cases h⟩, trivial, hl.get b hp.1⟩
theorem opensA_ns {t : TypeId} (h : Tryd.prog.underlying t = some (.slice 3)) : OpensA Tryd.prog t RNs := fun n => Opens.map (opensA_slice (sz := 1) h (by kernel_rfl) (by decide) opens_iv RIv.mono n) fun H x cs h => by
  have h2 := h
  obtain ⟨u, rfl, _⟩ := h2
  obtain ⟨c, hc⟩ := rd_slice (V := vI) (by decide) (fun x c hx => ⟨rfl, rfl, by rw [show c = [.int .i64 x] from hx]; exact .cons (.int _ _) .nil⟩) h
  exact ⟨(c, x), u, rfl, hc⟩
theorem lawFS_df {H : Hp} (w : Int) {r : RW} {u : Value} (h1 : RRow H r [u]) {n : Bool × List Int} {u2 : Value} (h2 : RNs H n [u2]) : Df Tryd.prog YS 5 [.int .i64 w, u, u2] H fun r _ => r = .bool true := by
  obtain ⟨v, hv, hd, hok⟩ := h1
  cases hv
  obtain ⟨v2, hv2, hd2⟩ := h2
  cases hv2
  exact Vf_Df xs_ok (lawFS w r.c r.l hok n.1 n.2) (.cons (.of_flat 8 _ rfl) (.cons hd (.cons hd2 .nil)))
end Go.Proofs.YtmdpggecelheoaaDoor.Abs
/- The law FuncsShare holds, and its tied card: what is shared out over rows tells the same as one row; each argument reads behind the call as it read before. Condition: the listed package-level variables start as the program's text lays them, which the given tie shows. -/
namespace Go.Proofs.YtmdpggecelheoaaDoor.funcsShare
open Go Go.ChangeShapes Go.WideShapes Go.ChangeAt Go.RowKit
open Go
open Go.Proofs.YtmdpggecelheoaaDoor.Abs
set_option linter.unusedVariables false
theorem own : ownKnob Tryd.prog.godebug = none := by kernel_rfl
theorem laidOut : laidOutB Tryd.prog = true := by kernel_rfl
theorem mixed : Tryd.prog.follows .mixedOrders = true := Checked.mixed Tryd.checked
set_option maxRecDepth 100000
theorem door_met (os : Os) (args : Array Value) : laidMetH Tryd.prog Rows.funcsShareRow.laid ((World.doorLaid Tryd.prog 400 os).forCall (fun _ _ => 0) ⟨#[], args, []⟩).memory :=
  laidMetH_of_parts3 (fuel := 8) (laidMet_of_run' 8 (by kernel_rfl) (by kernel_rfl)) (by kernel_rfl) (by kernel_rfl)
theorem lifted (os : Os) (started : os.Started) (H : Type) (enc : TypeId × Value → H) :
    ReturnsInHanded {} Tryd.checked os 5 .any (fun w args => (Rows.funcsShareSpec.pre enc Tryd.prog Tryd.f5 [] false w args ∧ laidMetH Tryd.prog Rows.funcsShareRow.laid w) ∧ sizedMet enc Tryd.prog Tryd.f5 (OpenSpec.ofChange Rows.funcsShareSpec) false w args)
      (Rows.funcsShareSpec.post enc Tryd.prog Tryd.f5 false true false false) := by
  refine returnsInHanded_of_change_and (C := Tryd.checked) (X := fun w _ => laidMetH Tryd.prog Rows.funcsShareRow.laid w) (fun _ _ _ hh h => h.of_heap hh) own started (by kernel_rfl) Tryd.func5
    (ChangeSpec.witness_shaped (enc := enc) (C := Tryd.checked) (os := os) (X := fun w _ => laidMetH Tryd.prog Rows.funcsShareRow.laid w) false (World.doorLaid Tryd.prog 400 os) #[.int .i64 0, .slice none 0 0, .slice none 0 0] 8 rfl (World.shaped_of_RefB (by kernel_rfl) (by kernel_rfl)) (by kernel_rfl) (by kernel_rfl) (by kernel_rfl) (door_met os _)) ?_
  intro W base args ds gs before hval0 hW _ _ hL _
  have hval : ∀ (j : Nat) t v, Tryd.f5.params[j]? = some t → args[j]? = some v → Value.okWide Tryd.prog W .any base t v := hval0
  have hW' := hW
  obtain ⟨p, q, hA0, hV, rfl, hfz, hnd⟩ := hW
  have hA : DataW.TrodAll enc Tryd.prog W 0 (fun _ => true) true Tryd.f5.params.toList args.toList ds p := hA0
  rw [Tryd.params5] at hA hval
  obtain ⟨v0, vs0, d0, ds0, p0, q0, hargs, rfl, rfl, h0, r0⟩ := trodAll_cons hA
  obtain ⟨v1, vs1, d1, ds1, p1, q1, rfl, rfl, rfl, h1, r1⟩ := trodAll_cons r0
  obtain ⟨v2, vs2, d2, ds2, p2, q2, rfl, rfl, rfl, h2, r2⟩ := trodAll_cons r1
  obtain ⟨rfl, rfl, rfl⟩ := trodAll_nil r2
  obtain rfl : args = #[v0, v1, v2] := by cases args; simp_all
  obtain ⟨rfl, rfl⟩ := trodVars_none hV
  obtain ⟨a0, rfl, rfl, rfl, w0⟩ := open_int Tryd.underlying3 (hval 0 3 v0 rfl rfl) h0
  obtain ⟨a1, len1, cap1, rfl⟩ := okWide_slice Tryd.underlying42 (hval 1 42 v1 rfl rfl)
  obtain ⟨a2, len2, cap2, rfl⟩ := okWide_slice Tryd.underlying43 (hval 2 43 v2 rfl rfl)
  have k1 := h1
  have lt1 : ∀ x ∈ p1, x.block < W.heap.size := by obtain ⟨m, hm⟩ := k1; exact DataW.trod_lt m _ _ _ hm
  have k2 := h2
  have lt2 : ∀ x ∈ p2, x.block < W.heap.size := by obtain ⟨m, hm⟩ := k2; exact DataW.trod_lt m _ _ _ hm
  have hL2 : laidMet Tryd.prog Rows.funcsShareRow.laid W := hL
  have htab : Lib.TabIs Tryd.prog W "internal/strconv.uint64pow10" .u64 Lib.pow10Tab := pow10_of hL2.tail.tail
  clear hA0 hval0
  obtain ⟨ψ1, H1, a1, x1, hle1, hk1, hR1, hv1, hs1⟩ := arg_cell (opensA_row Tryd.underlying42) h1 rfl (rel_start W)
  obtain ⟨ψ2, H2, a2, x2, hle2, hk2, hR2, hv2, hs2⟩ := arg_cell (opensA_ns Tryd.underlying43) h2 rfl hR1
  refine (law_calls mixed (ys_sound htab) hR2 (.cons (.int _ _) (.cons (hv1.mono hle2) (VRs_one hv2))) (lawFS_df _ (RRow.mono _ _ _ _ hk2 hs1) hs2)).mono fun e W' ⟨he, bel⟩ => ?_
  subst he
  exact ⟨_, rfl, _, _, _, [], _, [], hW', trodAll_mk1 (shut_bool Tryd.underlying4 _), (trodAll_cons_mk (shut_int Tryd.underlying3 w0) (trodAll_cons_mk (Below.trod laidOut (by kernel_rfl) (of_decide_eq_true (by kernel_rfl)) k1 bel lt1) (trodAll_cons_mk (Below.trod laidOut (by kernel_rfl) (of_decide_eq_true (by kernel_rfl)) k2 bel lt2) trodAll_mk0))), rfl, bel.frame _, fun h => by cases h⟩
theorem over : Rows.funcsShareRow.holds Tryd.pinned (OpenSpec.ofChange Rows.funcsShareSpec) :=
  OpenClaim.holds_of_wide 5 Tryd.f5 rfl rfl rfl rfl rfl rfl rfl ⟨rfl, rfl, rfl, rfl, rfl⟩ rfl rfl rfl rfl rfl (by kernel_rfl) Tryd.func5 (by kernel_rfl)
    (of_decide_eq_true (by kernel_rfl)) (by unfold Func.isWrapper; first | (rw [if_pos (by decide +kernel)]; kernel_rfl) | (rw [if_neg (by decide +kernel)]; exact ⟨rfl, rfl⟩))
    (fun os started H enc _ => lifted os started H enc)
end Go.Proofs.YtmdpggecelheoaaDoor.funcsShare
namespace Go.Proofs.YtmdpggecelheoaaDoor
open Go
theorem funcsShare_card : Rows.FuncsShareCardSaid :=
  Claim7.holds_tied_plain_at .later [] [.data, .data, .data] true (true, "3d4ef65ab9cb1b75a723f3501e7fecd5e6bcfd19ffc8ca5416c74e0e57128058") true
    funcsShare.over (fun _ h => by cases h) (by kernel_rfl) (fun _ h => by cases h) funcsShare_row_tie rfl ⟨rfl, rfl⟩ (by kernel_rfl) rfl
    (fun f fn hf hfn => by
      obtain rfl : f = 5 := Option.some.inj ((show Tryd.prog.funcNamed "abacist/abacistlaw10.FuncsShare" = some 5 by kernel_rfl).symm.trans hf) |>.symm
      obtain rfl : fn = Tryd.f5 := (Option.some.inj (Tryd.func5.symm.trans hfn)).symm
      exact ⟨by kernel_rfl, fun j t ht => by
        rw [Tryd.params5] at ht
        have hm : t ∈ [3, 42, 43] := by first | simpa using Array.mem_of_getElem? ht | (have h9 := Array.mem_of_getElem? ht; simp at h9 ⊢; rcases h9 with h9 | h9 | h9 <;> simp [h9]) | (have h9 := Array.mem_of_getElem? ht; simp at h9 ⊢; rcases h9 with h9 | h9 <;> simp [h9]) | (have h9 := Array.mem_of_getElem? ht; simp at h9 ⊢; rcases h9 with h9 | h9 | h9 | h9 <;> simp [h9]) | (have h9 := Array.mem_of_getElem? ht; simp at h9 ⊢; rcases h9 with h9 | h9 | h9 | h9 | h9 <;> simp [h9])
        have hall : ([3, 42, 43].all fun u => !Tryd.prog.wantsStandIn u) = true := by kernel_rfl
        exact (show Tryd.prog.wantsStandIn t = false by simpa using List.all_eq_true.1 hall t hm)⟩)
    (by kernel_rfl)
#print axioms funcsShare_card
end Go.Proofs.YtmdpggecelheoaaDoor
