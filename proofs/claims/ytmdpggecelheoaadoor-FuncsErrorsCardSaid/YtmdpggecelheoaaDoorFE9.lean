/- Closed runs: what the evaluator answers over the empty heap, it answers; finitely many inputs are gone through by the kernel. -/
import Derived.Test.YtmdpggecelheoaaDoorPA20
import Derived.Test.YtmdpggecelheoaaDoorProg
import Derived.KernelRfl
import Derived.Lib.Bytealg
import Derived.Test.YtmdpggecelheoaaDoorMY2
import Derived.Test.YtmdpggecelheoaaDoorRows
import Derived.Test.YtmdpggecelheoaaDoorCards
import Derived.Test.YtmdpggecelheoaaDoorTie
import Derived.Below
set_option linter.unusedVariables false
set_option linter.unusedSimpArgs false
namespace Go.Proofs.YtmdpggecelheoaaDoor.Abs
open Go
theorem df_closed {P : Program} {X : Outer} {n : Nat} {f : FuncId} {args : List Value} {v : Value} (h : ansIs (run P X n f args ⟨0, []⟩) v = true) : Df P X f args ⟨0, []⟩ fun r _ => r = v := by
  obtain ⟨H, h⟩ := ansIs_some h
  exact ⟨n, _, h, rfl⟩
/-- The place of a byte in a text, or -1. -/
def ixB : List UInt8 → UInt8 → Int → Int
  | [], _, _ => -1
  | b :: l, c, i => if b == c then i else ixB l c (i + 1)
theorem ix_ge (l : List UInt8) (c : UInt8) : -1 ≤ Lib.indexByte l c := by
  induction l with
  | nil => simp [Lib.indexByte]
  | cons b l ih =>
    simp only [Lib.indexByte]
    split
    · omega
    · split <;> omega
theorem ixB_eq (l : List UInt8) (c : UInt8) : ∀ i : Int, 0 ≤ i → (Lib.indexByte l c = -1 → ixB l c i = -1) ∧ (Lib.indexByte l c ≠ -1 → ixB l c i = Lib.indexByte l c + i) := by
  induction l with
  | nil => intro i hi; exact ⟨fun _ => rfl, fun h => absurd rfl h⟩
  | cons b l ih =>
    intro i hi
    have hg := ix_ge l c
    have hc : Lib.indexByte (b :: l) c = if b == c then 0 else if Lib.indexByte l c == -1 then -1 else Lib.indexByte l c + 1 := rfl
    have hx : ixB (b :: l) c i = if b == c then i else ixB l c (i + 1) := rfl
    rw [hc, hx]
    obtain ⟨h1, h2⟩ := ih (i + 1) (by omega)
    by_cases hb : (b == c) = true
    · simp only [if_pos hb]
      exact ⟨fun h => by omega, fun _ => by omega⟩
    · simp only [if_neg hb]
      by_cases hx : Lib.indexByte l c = -1
      · have e : (Lib.indexByte l c == -1) = true := by simpa using hx
        simp only [if_pos e]
        exact ⟨fun _ => h1 hx, fun h => absurd rfl h⟩
      · have e : ¬ (Lib.indexByte l c == -1) = true := by simpa using hx
        simp only [if_neg e]
        exact ⟨fun h => by omega, fun _ => by rw [h2 hx]; omega⟩
/-- strings.IndexByte's answer. -/
def ixG : List Value → Hp → Option (Value × Hp) := fun args H => match args with
  | [.string s, .int .u8 c] => some (.int .i64 (ixB s.data.toList c.toNat.toUInt8 0), H)
  | _ => none
theorem ix_sound {P : Program} {B : Nat} {w0 : World} {k : FuncId} (hc : ∀ (s : ByteArray) (c : Int) (w : World), Calls P k #[.string s, .int .u8 c] w fun e w' => e = .returned (.int .i64 (Lib.indexByte s.data.toList c.toNat.toUInt8)) ∧ w' = w) : KSound P B w0 fun f' args H => if f' = k then ixG args H else none := by
  intro b hb f' args H v H' hr φ w args' hR ha
  simp only at hr
  split at hr
  · rename_i hff
    subst hff
    unfold ixG at hr
    split at hr
    · rename_i s c
      cases hr
      have e : args' = [.string s, .int .u8 c] := flats_eq rfl ha
      subst e
      refine (hc s c w).mono ?_
      rintro e w' ⟨rfl, rfl⟩
      refine ⟨φ, _, Plan.le_refl φ, rfl, ?_, hR⟩
      obtain ⟨h1, h2⟩ := ixB_eq s.data.toList c.toNat.toUInt8 0 (by omega)
      by_cases hx : Lib.indexByte s.data.toList c.toNat.toUInt8 = -1
      · rw [h1 hx, hx]; exact .int _ _
      · rw [h2 hx, Int.add_zero]; exact .int _ _
    · cases hr
  · cases hr
/-- A call that is known to answer true. -/
def trueG : List Value → Hp → Option (Value × Hp) := fun args H => match args with
  | [] => some (.bool true, H)
  | _ => none
theorem true_sound {P : Program} (hm : P.follows .mixedOrders = true) {X' : Outer} (h : ∀ B w0, XSound P B w0 X') {n : Nat} {k : FuncId} (hr : ansIs (run P X' n k [] ⟨0, []⟩) (.bool true) = true) (B : Nat) (w0 : World) : KSound P B w0 fun f' args H => if f' = k then trueG args H else none := by
  intro b hb f' args H v H' hrun φ w args' hR ha
  simp only at hrun
  split at hrun
  · rename_i hff
    subst hff
    unfold trueG at hrun
    split at hrun
    · cases hrun
      obtain ⟨H1, hr⟩ := ansIs_some hr
      exact xsound_pure hm h n [f'] B w0 f' (pureX P X' n f') (by simp [withPure]) b hb f' [] H (.bool true) H (by simp [pureX, hr, flatT, flat]) φ w args' hR ha
    · cases hrun
  · cases hrun
end Go.Proofs.YtmdpggecelheoaaDoor.Abs
/- The law FuncsErrors: its beginning, run by the kernel. -/
set_option linter.unusedVariables false
set_option linter.unusedSimpArgs false
set_option maxRecDepth 100000
set_option maxHeartbeats 0
namespace Go.Proofs.YtmdpggecelheoaaDoor.Abs
open Go
noncomputable def YE : Outer := fun f => if f = 31 then some trueG else none
noncomputable def chk7 (w a code : Int) (n : Nat) : Option (Env × Hp) → Bool
  | some (e, H) => vbeq (eget e 0) (.int .i64 w) && (match boxB H 48 [.int .i64 4, .int .i64 code, .string .empty] (eget e 10) with
    | some b => rowB [b] H 1 errNames (eget e 8) && rowsB [b] H 3 ((ones n code a).map fun x => [x.v]) (eget e 11)
    | none => false)
  | none => false
noncomputable def body7 : Code := Tryd.f7.body.getD .skip
noncomputable def try7 (w a : Int) (n : Nat) (k : Nat) : Bool := chk7 w a (k + 1) n (runK Tryd.prog YE 60 9 body7 [.int .i64 w, .int .i64 (k + 1), .int .i64 a] ⟨0, []⟩)
theorem t_0 : ((List.range 3).all fun a => (List.range 7).all fun k => try7 0 a 3 k) = true := by kernel_rfl
theorem t_1 : ((List.range 3).all fun a => (List.range 7).all fun k => try7 1 a 3 k) = true := by kernel_rfl
theorem t_2 : ((List.range 3).all fun a => (List.range 7).all fun k => try7 2 a 3 k) = true := by kernel_rfl
theorem t_3 : ((List.range 3).all fun a => (List.range 7).all fun k => try7 3 a 3 k) = true := by kernel_rfl
theorem t_4 : ((List.range 3).all fun a => (List.range 7).all fun k => try7 4 a 3 k) = true := by kernel_rfl
theorem t_5 : ((List.range 3).all fun a => (List.range 7).all fun k => try7 5 a 3 k) = true := by kernel_rfl
theorem t_6 : ((List.range 1).all fun a => (List.range 7).all fun k => try7 6 a 1 k) = true := by kernel_rfl
theorem t_7 : ((List.range 1).all fun a => (List.range 7).all fun k => try7 7 a 1 k) = true := by kernel_rfl
theorem t_8 : ((List.range 1).all fun a => (List.range 7).all fun k => try7 8 a 1 k) = true := by kernel_rfl
theorem t_9 : ((List.range 2).all fun a => (List.range 7).all fun k => try7 9 a 2 k) = true := by kernel_rfl
theorem t_10 : ((List.range 2).all fun a => (List.range 7).all fun k => try7 10 a 2 k) = true := by kernel_rfl
theorem t_11 : ((List.range 2).all fun a => (List.range 7).all fun k => try7 11 a 2 k) = true := by kernel_rfl
theorem t_12 : ((List.range 3).all fun a => (List.range 7).all fun k => try7 12 a 3 k) = true := by kernel_rfl
theorem all_try {w n a k : Nat} (hw : [3, 3, 3, 3, 3, 3, 1, 1, 1, 2, 2, 2, 3][w]? = some n) (ha : a < n) (hk : k < 7) : try7 w a n k = true := by
  have go : ∀ {w : Nat}, ((List.range n).all fun a => (List.range 7).all fun k => try7 w a n k) = true → try7 w a n k = true := fun h => by
    rw [List.all_eq_true] at h
    have h2 := h a (List.mem_range.2 ha)
    rw [List.all_eq_true] at h2
    exact h2 k (List.mem_range.2 hk)
  rcases w with _ | _ | _ | _ | _ | _ | _ | _ | _ | _ | _ | _ | _ | w
  · obtain rfl : 3 = n := by simpa using hw
    exact go t_0
  · obtain rfl : 3 = n := by simpa using hw
    exact go t_1
  · obtain rfl : 3 = n := by simpa using hw
    exact go t_2
  · obtain rfl : 3 = n := by simpa using hw
    exact go t_3
  · obtain rfl : 3 = n := by simpa using hw
    exact go t_4
  · obtain rfl : 3 = n := by simpa using hw
    exact go t_5
  · obtain rfl : 1 = n := by simpa using hw
    exact go t_6
  · obtain rfl : 1 = n := by simpa using hw
    exact go t_7
  · obtain rfl : 1 = n := by simpa using hw
    exact go t_8
  · obtain rfl : 2 = n := by simpa using hw
    exact go t_9
  · obtain rfl : 2 = n := by simpa using hw
    exact go t_10
  · obtain rfl : 2 = n := by simpa using hw
    exact go t_11
  · obtain rfl : 3 = n := by simpa using hw
    exact go t_12
  · simp at hw
end Go.Proofs.YtmdpggecelheoaaDoor.Abs
/- The law FuncsErrors over the plain heap. -/
set_option linter.unusedVariables false
set_option linter.unusedSimpArgs false
set_option maxRecDepth 4000
set_option maxHeartbeats 0
namespace Go.Proofs.YtmdpggecelheoaaDoor.Abs
open Go
attribute [local irreducible] Hold VReg Vf Vc VWP With VStp Vcallee Vp VE
theorem done_refl3 {R : Rl} {B : List Blk} (hR : HRel R B) (hf : ∀ d, R.ρ (d, none) = none) : Done R R B [] where
  hr := hR
  φ := rfl
  M := rfl
  nx := Nat.le_refl _
  fr := fun _ _ _ => rfl
  keep := fun _ _ _ => rfl
  frame := hf
  tok := fun k b h => .inl h
  w := fun p h => by cases h
theorem xe_ok : VXOk Tryd.prog YE XE := by
  intro f
  by_cases h : f = 31
  · subst h
    show ∀ args B r ws, trueW args B = some (r, ws) → _
    intro args B r ws hr R cargs hR hf ha
    unfold trueW at hr
    split at hr
    · cases hr
      obtain rfl : cargs = [] := List.length_eq_zero_iff.1 ha.1.symm
      exact Df_ext (g := trueG) (r := (.bool true, R.H)) rfl rfl ⟨R, rfl, done_refl3 hR hf, .bool true⟩
    · cases hr
  · have e : XE f = none := if_neg h
    rw [e]
    exact if_neg h
theorem lawE_out {c : Int} {w a : Int} (h : w < 0 ∨ 13 ≤ w ∨ c < 1 ∨ 7 < c ∨ a < 0 ∨ ∃ n : Int, ([.int .i64 3, .int .i64 3, .int .i64 3, .int .i64 3, .int .i64 3, .int .i64 3, .int .i64 1, .int .i64 1, .int .i64 1, .int .i64 2, .int .i64 2, .int .i64 2, .int .i64 3] : List Value)[w.toNat]? = some (.int .i64 n) ∧ n ≤ a) : Vf Tryd.prog XE 7 [.int .i64 w, .int .i64 c, .int .i64 a] [] fun v _ => v = .bool true := by
  refine Vf_text rfl Tryd.func7 rfl (by kernel_rfl) (by show 3 ≤ _; decide) ?_
  by_cases a1 : w < 0
  · simp -dsimp only [↓Hold_5, ↓VWP_seq, ↓VWP_region, ↓VWP_cond, ↓VWP_ret, ↓VReg_one, ↓VReg_nil, ↓VS_guard, ↓VS_move, ↓VS_assign, ↓VS_pick, ↓VS_binOp, ↓VS_unOp, ↓VS_buildSlice, ↓With_guard, ↓Hold_1, With_some, emap_nil, emap_cons, ↓eget_map, ↓eget_eset, ↓ae_tmp, ↓ae_int, ↓ae_bool, ↓ae_string, eget_zero, lop_pick, lop_not, asBool_bool, asGuard_bool, bb_tf, ayielded_eq, ↓dstAt_zero, ↓dstAt_succ, ↓vfinish_ret, ↓vres_nil, ↓vres_tmp, vtell_eq, ret1, Option.map_some, Option.bind_some, ↓reduceIte, Nat.reduceEqDiff, reduceCtorEq, Bool.false_eq_true, decide_true, Bool.not_true, Bool.not_false, Nat.zero_add, Nat.reduceMul, Nat.reduceLT, Nat.reduceLeDiff, and_self, List.map_cons, List.map_nil, tup_int, cel_int, tup_str, cel_str, List.toList_toArray, List.size_toArray, List.length_cons, List.length_nil, mapOwn_bool, mapOwn_int, mapOwn_string, toksL_nil, toksL_cons, toks_int, toks_string, okv_bool, okv_int, okv_string, List.append_nil, List.map_nil, List.map_cons, Bool.and_self, Bool.not_true, Bool.not_false, beq_self_eq_true, vturn_nil, vthaw_one, boxesOf_nil, List.set_cons_zero, List.set_cons_succ, List.length_cons, List.length_nil, partsOk_nil, partsOk_cons, vfill_nil, vfill_cons, vbin_int, List.replicate_succ, List.replicate_zero, abin_lss, beq_self_eq_true, decide_true, beq_self_eq_true, bb_tf, vbd44, vbd43, ↓vfk31, Tryd.results7, ↓alive_e, a1]
  · by_cases a2 : 13 ≤ w
    · simp -dsimp only [↓Hold_5, ↓VWP_seq, ↓VWP_region, ↓VWP_cond, ↓VWP_ret, ↓VReg_one, ↓VReg_nil, ↓VS_guard, ↓VS_move, ↓VS_assign, ↓VS_pick, ↓VS_binOp, ↓VS_unOp, ↓VS_len, ↓VS_buildSlice, ↓With_guard, ↓Hold_1, With_some, emap_nil, emap_cons, ↓eget_map, ↓eget_eset, ↓ae_tmp, ↓ae_int, ↓ae_bool, ↓ae_string, eget_zero, lop_pick, lop_not, asBool_bool, asGuard_bool, bb_tf, ayielded_eq, ↓dstAt_zero, ↓dstAt_succ, ↓vfinish_ret, ↓vres_nil, ↓vres_tmp, vtell_eq, ret1, Option.map_some, Option.bind_some, ↓reduceIte, Nat.reduceEqDiff, reduceCtorEq, Bool.false_eq_true, decide_true, decide_false, Bool.not_true, Bool.not_false, Nat.zero_add, Nat.reduceAdd, Nat.reduceMul, Nat.reduceLT, Nat.reduceLeDiff, and_true, and_self, List.map_cons, List.map_nil, tup_int, cel_int, tup_str, cel_str, List.toList_toArray, List.size_toArray, List.length_cons, List.length_nil, mapOwn_vo, mapOwn_bool, mapOwn_int, mapOwn_string, thaw_own, toksL_nil, toksL_cons, toks_int, toks_string, okv_bool, okv_int, okv_string, List.append_nil, List.map_nil, List.map_cons, Bool.and_self, Bool.not_true, Bool.not_false, List.mem_cons, List.not_mem_nil, or_false, Prod.mk.injEq, beq_self_eq_true, vturn_nil, vthaw_one, boxesOf_nil, List.set_cons_zero, List.set_cons_succ, List.length_cons, List.length_nil, partsOk_nil, partsOk_cons, vfill_nil, vfill_cons, vbin_int, List.replicate_succ, List.replicate_zero, abin_lss, abin_geq, Int.cast_ofNat_Int, beq_self_eq_true, ge_iff_le, decide_true, decide_false, beq_self_eq_true, bb_tf, vbd44, vbd43, vlo44, ↓vfk31, Tryd.results7, ↓alive_e, a1, a2]
    · by_cases a3 : c < 1
      · simp -dsimp only [↓Hold_5, ↓VWP_seq, ↓VWP_region, ↓VWP_cond, ↓VWP_ret, ↓VReg_one, ↓VReg_nil, ↓VS_guard, ↓VS_move, ↓VS_assign, ↓VS_pick, ↓VS_binOp, ↓VS_unOp, ↓VS_len, ↓VS_buildSlice, ↓With_guard, ↓Hold_1, With_some, emap_nil, emap_cons, ↓eget_map, ↓eget_eset, ↓ae_tmp, ↓ae_int, ↓ae_bool, ↓ae_string, eget_zero, eget_succ, lop_pick, lop_not, asBool_bool, asGuard_bool, bb_tf, ayielded_eq, ↓dstAt_zero, ↓dstAt_succ, ↓vfinish_ret, ↓vres_nil, ↓vres_tmp, vtell_eq, ret1, Option.map_some, Option.bind_some, ↓reduceIte, Nat.reduceEqDiff, reduceCtorEq, Bool.false_eq_true, decide_true, decide_false, Bool.not_true, Bool.not_false, Nat.zero_add, Nat.reduceAdd, Nat.reduceMul, Nat.reduceLT, Nat.reduceLeDiff, and_true, and_self, List.map_cons, List.map_nil, tup_int, cel_int, tup_str, cel_str, List.toList_toArray, List.size_toArray, List.length_cons, List.length_nil, mapOwn_vo, mapOwn_bool, mapOwn_int, mapOwn_string, thaw_own, toksL_nil, toksL_cons, toks_int, toks_string, okv_bool, okv_int, okv_string, List.append_nil, List.map_nil, List.map_cons, Bool.and_self, Bool.not_true, Bool.not_false, List.mem_cons, List.not_mem_nil, or_false, Prod.mk.injEq, beq_self_eq_true, vturn_nil, vthaw_one, boxesOf_nil, List.set_cons_zero, List.set_cons_succ, List.length_cons, List.length_nil, partsOk_nil, partsOk_cons, vfill_nil, vfill_cons, vbin_int, List.replicate_succ, List.replicate_zero, abin_lss, abin_geq, Int.cast_ofNat_Int, beq_self_eq_true, ge_iff_le, decide_true, decide_false, beq_self_eq_true, bb_tf, vbd44, vbd43, vlo44, ↓vfk31, Tryd.results7, ↓alive_e, a1, a2, a3]
      · by_cases a4 : 7 < c
        · simp -dsimp only [↓Hold_5, ↓VWP_seq, ↓VWP_region, ↓VWP_cond, ↓VWP_ret, ↓VReg_one, ↓VReg_nil, ↓VS_guard, ↓VS_move, ↓VS_assign, ↓VS_pick, ↓VS_binOp, ↓VS_unOp, ↓VS_len, ↓VS_buildSlice, ↓With_guard, ↓Hold_1, With_some, emap_nil, emap_cons, ↓eget_map, ↓eget_eset, ↓ae_tmp, ↓ae_int, ↓ae_bool, ↓ae_string, eget_zero, eget_succ, lop_pick, lop_not, asBool_bool, asGuard_bool, bb_tf, ayielded_eq, ↓dstAt_zero, ↓dstAt_succ, ↓vfinish_ret, ↓vres_nil, ↓vres_tmp, vtell_eq, ret1, Option.map_some, Option.bind_some, ↓reduceIte, Nat.reduceEqDiff, reduceCtorEq, Bool.false_eq_true, decide_true, decide_false, Bool.not_true, Bool.not_false, Nat.zero_add, Nat.reduceAdd, Nat.reduceMul, Nat.reduceLT, Nat.reduceLeDiff, and_true, and_self, List.map_cons, List.map_nil, tup_int, cel_int, tup_str, cel_str, List.toList_toArray, List.size_toArray, List.length_cons, List.length_nil, mapOwn_vo, mapOwn_bool, mapOwn_int, mapOwn_string, thaw_own, toksL_nil, toksL_cons, toks_int, toks_string, okv_bool, okv_int, okv_string, List.append_nil, List.map_nil, List.map_cons, Bool.and_self, Bool.not_true, Bool.not_false, List.mem_cons, List.not_mem_nil, or_false, Prod.mk.injEq, beq_self_eq_true, vturn_nil, vthaw_one, boxesOf_nil, List.set_cons_zero, List.set_cons_succ, List.length_cons, List.length_nil, partsOk_nil, partsOk_cons, vfill_nil, vfill_cons, vbin_int, List.replicate_succ, List.replicate_zero, abin_lss, abin_gtr, abin_geq, Int.cast_ofNat_Int, beq_self_eq_true, gt_iff_lt, ge_iff_le, decide_true, decide_false, beq_self_eq_true, bb_tf, vbd44, vbd43, vlo44, ↓vfk31, Tryd.results7, ↓alive_e, a1, a2, a3, a4]
        · by_cases a5 : a < 0
          · simp -dsimp only [↓Hold_5, ↓VWP_seq, ↓VWP_region, ↓VWP_cond, ↓VWP_ret, ↓VReg_one, ↓VReg_nil, ↓VS_guard, ↓VS_move, ↓VS_assign, ↓VS_pick, ↓VS_binOp, ↓VS_unOp, ↓VS_len, ↓VS_buildSlice, ↓With_guard, ↓Hold_1, With_some, emap_nil, emap_cons, ↓eget_map, ↓eget_eset, ↓ae_tmp, ↓ae_int, ↓ae_bool, ↓ae_string, eget_zero, eget_succ, lop_pick, lop_not, asBool_bool, asGuard_bool, bb_tf, ayielded_eq, ↓dstAt_zero, ↓dstAt_succ, ↓vfinish_ret, ↓vres_nil, ↓vres_tmp, vtell_eq, ret1, Option.map_some, Option.bind_some, ↓reduceIte, Nat.reduceEqDiff, reduceCtorEq, Bool.false_eq_true, decide_true, decide_false, Bool.not_true, Bool.not_false, Nat.zero_add, Nat.reduceAdd, Nat.reduceMul, Nat.reduceLT, Nat.reduceLeDiff, and_true, and_self, List.map_cons, List.map_nil, tup_int, cel_int, tup_str, cel_str, List.toList_toArray, List.size_toArray, List.length_cons, List.length_nil, mapOwn_vo, mapOwn_bool, mapOwn_int, mapOwn_string, thaw_own, toksL_nil, toksL_cons, toks_int, toks_string, okv_bool, okv_int, okv_string, List.append_nil, List.map_nil, List.map_cons, Bool.and_self, Bool.not_true, Bool.not_false, List.mem_cons, List.not_mem_nil, or_false, Prod.mk.injEq, beq_self_eq_true, vturn_nil, vthaw_one, boxesOf_nil, List.set_cons_zero, List.set_cons_succ, List.length_cons, List.length_nil, partsOk_nil, partsOk_cons, vfill_nil, vfill_cons, vbin_int, List.replicate_succ, List.replicate_zero, abin_lss, abin_gtr, abin_geq, Int.cast_ofNat_Int, beq_self_eq_true, gt_iff_lt, ge_iff_le, decide_true, decide_false, beq_self_eq_true, bb_tf, vbd44, vbd43, vlo44, ↓vfk31, Tryd.results7, ↓alive_e, a1, a2, a3, a4, a5]
          · obtain ⟨n, hn, hna⟩ : ∃ n : Int, ([.int .i64 3, .int .i64 3, .int .i64 3, .int .i64 3, .int .i64 3, .int .i64 3, .int .i64 1, .int .i64 1, .int .i64 1, .int .i64 2, .int .i64 2, .int .i64 2, .int .i64 3] : List Value)[w.toNat]? = some (.int .i64 n) ∧ n ≤ a := by
              rcases h with h | h | h | h | h | h
              · omega
              · omega
              · omega
              · omega
              · omega
              · exact h
            have w0 : 0 ≤ w := by omega
            simp -dsimp only [↓Hold_5, ↓VWP_seq, ↓VWP_region, ↓VWP_cond, ↓VWP_ret, ↓VReg_one, ↓VReg_nil, ↓VS_guard, ↓VS_move, ↓VS_assign, ↓VS_pick, ↓VS_load, ↓VS_binOp, ↓VS_unOp, ↓VS_indexAddr, ↓VS_len, ↓VS_buildSlice, ↓With_guard, ↓Hold_1, With_some, emap_nil, emap_cons, ↓eget_map, ↓eget_eset, ↓ae_tmp, ↓ae_int, ↓ae_bool, ↓ae_string, eget_zero, eget_succ, lop_pick, lop_not, asBool_bool, asGuard_bool, ayielded_eq, ↓dstAt_zero, ↓dstAt_succ, ↓vfinish_ret, ↓vres_nil, ↓vres_tmp, vtell_eq, ret1, Option.map_some, Option.bind_some, ↓reduceIte, Nat.reduceEqDiff, reduceCtorEq, Bool.false_eq_true, decide_true, decide_false, Bool.not_true, Bool.not_false, Nat.zero_add, Nat.reduceAdd, Nat.reduceMul, Nat.reduceLT, Nat.reduceLeDiff, and_true, and_self, List.map_cons, List.map_nil, tup_int, cel_int, tup_str, cel_str, List.toList_toArray, List.size_toArray, List.length_cons, List.length_nil, mapOwn_vo, mapOwn_bool, mapOwn_int, mapOwn_string, thaw_own, toksL_nil, toksL_cons, toks_int, toks_string, okv_bool, okv_int, okv_string, List.append_nil, List.map_nil, List.map_cons, Bool.and_self, Bool.not_true, Bool.not_false, List.mem_cons, List.not_mem_nil, or_false, Prod.mk.injEq, beq_self_eq_true, vturn_nil, vthaw_one, boxesOf_nil, List.set_cons_zero, List.set_cons_succ, List.length_cons, List.length_nil, vload_atOwn, cellV_int, partsOk_nil, partsOk_cons, vfill_nil, vfill_cons, vbin_int, List.replicate_succ, List.replicate_zero, abin_lss, abin_gtr, abin_geq, Int.cast_ofNat_Int, beq_self_eq_true, gt_iff_lt, ge_iff_le, decide_true, decide_false, beq_self_eq_true, vgt3, vbd44, vbd43, vio43, vlo44, ↓vfk31, Tryd.results7, ↓alive_e, a1, a2, a3, a4, a5, w0, hn, hna]
theorem body7_is : Tryd.f7.body = some body7 := rfl
theorem df_in {w n a : Nat} {code : Int} (h1 : 1 ≤ code) (h2 : code ≤ 7) (hw : [3, 3, 3, 3, 3, 3, 1, 1, 1, 2, 2, 2, 3][w]? = some n) (ha : a < n) : Df Tryd.prog YE 7 [.int .i64 w, .int .i64 code, .int .i64 a] ⟨0, []⟩ fun r _ => r = .bool true := by
  have ht := all_try (k := (code - 1).toNat) hw ha (by omega)
  unfold try7 at ht
  have ec : (((code - 1).toNat : Nat) : Int) + 1 = code := by omega
  rw [ec] at ht
  obtain ⟨nm, hnm⟩ : ∃ nm : ByteArray, errNames[w]? = some (.string nm) := by
    rcases w with _ | _ | _ | _ | _ | _ | _ | _ | _ | _ | _ | _ | _ | w
    iterate 13 exact ⟨_, rfl⟩
    simp at hw
  cases hr : runK Tryd.prog YE 60 9 body7 [.int .i64 w, .int .i64 code, .int .i64 a] ⟨0, []⟩ with
  | none => rw [hr] at ht; simp [chk7] at ht
  | some st =>
    obtain ⟨e, H⟩ := st
    rw [hr] at ht
    simp only [chk7, Bool.and_eq_true] at ht
    obtain ⟨t0, t1⟩ := ht
    have e0 := vbeq_eq _ _ t0
    cases hbx : boxB H 48 [.int .i64 4, .int .i64 code, .string .empty] (eget e 10) with
    | none => rw [hbx] at t1; simp at t1
    | some b =>
      rw [hbx] at t1
      simp only [Bool.and_eq_true] at t1
      obtain ⟨e10, hb, cs, hg, hcs⟩ := boxB_spec hbx
      have r8 := rowB_rd t1.1
      have r11 := rowsB_rd t1.2
      have hro : (((ones n code a).map fun x => [x.v]).map (vs 0 3)) = (ones n code a).map fun x => vs 0 3 [x.v] := by rw [List.map_map]; rfl
      rw [hro] at r11
      let E : Env := eset (eset (eset (eset [] 0 (.int .i64 w)) 8 (vs 0 1 errNames)) 10 (.pointer (some { block := 0, off := 0 }))) 11 ((vs 0 1 ((ones n code a).map fun x => vs 0 3 [x.v])))
      have E0 : eget E 0 = .int .i64 w := rfl
      have E8 : eget E 8 = vs 0 1 errNames := rfl
      have E10 : eget E 10 = .pointer (some { block := 0, off := 0 }) := rfl
      have E11 : eget E 11 = vs 0 1 ((ones n code a).map fun x => vs 0 3 [x.v]) := rfl
      have henv : ∀ i, Rd (RlB [b] H) (eget E i) (eget e i) := by
        intro i
        by_cases i0 : i = 0
        · subst i0; rw [E0, e0]; exact .int _ _
        · by_cases i8 : i = 8
          · subst i8; rw [E8]; exact r8
          · by_cases i10 : i = 10
            · subst i10; rw [E10, e10]; exact .ptr 0 0 b rfl
            · by_cases i11 : i = 11
              · subst i11; rw [E11]; exact r11
              · have : eget E i = Go.undef := by
                  show eget (eset (eset (eset (eset [] 0 _) 8 _) 10 _) 11 _) i = _
                  rw [eget_eset, if_neg i11, eget_eset, if_neg i10, eget_eset, if_neg i8, eget_eset, if_neg i0]
                  rfl
                rw [this]; exact .undef _
      have hst := vsta_one (e := E) (ce := e) (el := 48) hb hg hcs rfl (by simp [toks_int, toks_string]) henv
      have hpost := post7 h1 h2 (a := a) (by omega) (by omega) hnm hw body7 body7_is E E0 E8 E10 E11
      have hdc := Vc_Dc xe_ok hst hpost
      refine Df_body rfl Tryd.func7 body7_is (by kernel_rfl) (by show 3 ≤ _; decide) ?_
      refine runK_Dc 9 body7 _ _ e H _ hr (hdc.mono ?_)
      rintro x ce' H' ⟨e', S', R1, ⟨rfl, h6⟩, rfl, hs1⟩
      have hv := hs1.env 6
      rw [h6] at hv
      have h66 := hv.inv_bool
      rw [finish_ret, Tryd.results7]
      simp only [ares_tmp, ares_nil, Option.map_some, ret1, h66]
theorem lawE_df (w code a : Int) : Df Tryd.prog YE 7 [.int .i64 w, .int .i64 code, .int .i64 a] ⟨0, []⟩ fun r _ => r = .bool true := by
  by_cases h : 0 ≤ w ∧ w < 13 ∧ 1 ≤ code ∧ code ≤ 7 ∧ 0 ≤ a
  · obtain ⟨q0, q1, q2, q3, q4⟩ := h
    obtain ⟨W, rfl⟩ := Int.eq_ofNat_of_zero_le q0
    obtain ⟨A, rfl⟩ := Int.eq_ofNat_of_zero_le q4
    obtain ⟨n, hn, hv⟩ : ∃ n : Nat, [3, 3, 3, 3, 3, 3, 1, 1, 1, 2, 2, 2, 3][W]? = some n ∧ ([.int .i64 3, .int .i64 3, .int .i64 3, .int .i64 3, .int .i64 3, .int .i64 3, .int .i64 1, .int .i64 1, .int .i64 1, .int .i64 2, .int .i64 2, .int .i64 2, .int .i64 3] : List Value)[W]? = some (.int .i64 n) := by
      rcases W with _ | _ | _ | _ | _ | _ | _ | _ | _ | _ | _ | _ | _ | W
      iterate 13 exact ⟨_, rfl, rfl⟩
      omega
    by_cases hA : A < n
    · exact df_in q2 q3 hn hA
    · exact Vf_Df xe_ok (lawE_out (w := (W : Int)) (.inr (.inr (.inr (.inr (.inr ⟨(n : Int), by rw [Int.toNat_natCast]; exact hv, by omega⟩)))))) (.cons (.int _ _) (.cons (.int _ _) (.cons (.int _ _) .nil)))
  · refine Vf_Df xe_ok (lawE_out ?_) (.cons (.int _ _) (.cons (.int _ _) (.cons (.int _ _) .nil)))
    omega
theorem fun_alive : ansIs (run Tryd.prog (fun _ => none) 40 31 [] ⟨0, []⟩) (.bool true) = true := by kernel_rfl
theorem ye_sound (mixed : Tryd.prog.follows .mixedOrders = true) {B : Nat} {w0 : World} : XSound Tryd.prog B w0 YE := by
  intro f g hg
  unfold YE at hg
  split at hg
  · rename_i hf
    subst hf
    cases hg
    exact true_sound mixed (fun B w0 => xsound_none) fun_alive _ _
  · cases hg
end Go.Proofs.YtmdpggecelheoaaDoor.Abs
/- The law FuncsErrors holds, and its tied card: an error among what a function takes is the answer, but where it is said otherwise; each argument reads behind the call as it read before. Condition: the listed package-level variables start as the program's text lays them, which the given tie shows. -/
namespace Go.Proofs.YtmdpggecelheoaaDoor.funcsErrors
open Go Go.ChangeShapes Go.WideShapes Go.ChangeAt Go.RowKit
open Go
open Go.Proofs.YtmdpggecelheoaaDoor.Abs
set_option linter.unusedVariables false
theorem own : ownKnob Tryd.prog.godebug = none := by kernel_rfl
theorem laidOut : laidOutB Tryd.prog = true := by kernel_rfl
theorem mixed : Tryd.prog.follows .mixedOrders = true := Checked.mixed Tryd.checked
set_option maxRecDepth 100000
theorem door_met (os : Os) (args : Array Value) : laidMetH Tryd.prog Rows.funcsErrorsRow.laid ((World.doorLaid Tryd.prog 400 os).forCall (fun _ _ => 0) ⟨#[], args, []⟩).memory :=
  laidMetH_of_parts3 (fuel := 8) (laidMet_of_run' 8 (by kernel_rfl) (by kernel_rfl)) (by kernel_rfl) (by kernel_rfl)
theorem lifted (os : Os) (started : os.Started) (H : Type) (enc : TypeId × Value → H) :
    ReturnsInHanded {} Tryd.checked os 7 .any (fun w args => (Rows.funcsErrorsSpec.pre enc Tryd.prog Tryd.f7 [] false w args ∧ laidMetH Tryd.prog Rows.funcsErrorsRow.laid w) ∧ sizedMet enc Tryd.prog Tryd.f7 (OpenSpec.ofChange Rows.funcsErrorsSpec) false w args)
      (Rows.funcsErrorsSpec.post enc Tryd.prog Tryd.f7 false true false false) := by
  refine returnsInHanded_of_change_and (C := Tryd.checked) (X := fun w _ => laidMetH Tryd.prog Rows.funcsErrorsRow.laid w) (fun _ _ _ hh h => h.of_heap hh) own started (by kernel_rfl) Tryd.func7
    (ChangeSpec.witness_shaped (enc := enc) (C := Tryd.checked) (os := os) (X := fun w _ => laidMetH Tryd.prog Rows.funcsErrorsRow.laid w) false (World.doorLaid Tryd.prog 400 os) #[.int .i64 0, .int .i64 0, .int .i64 0] 8 rfl (World.shaped_of_RefB (by kernel_rfl) (by kernel_rfl)) (by kernel_rfl) (by kernel_rfl) (by kernel_rfl) (door_met os _)) ?_
  intro W base args ds gs before hval0 hW _ _ hL _
  have hval : ∀ (j : Nat) t v, Tryd.f7.params[j]? = some t → args[j]? = some v → Value.okWide Tryd.prog W .any base t v := hval0
  have hW' := hW
  obtain ⟨p, q, hA0, hV, rfl, hfz, hnd⟩ := hW
  have hA : DataW.TrodAll enc Tryd.prog W 0 (fun _ => true) true Tryd.f7.params.toList args.toList ds p := hA0
  rw [Tryd.params7] at hA hval
  obtain ⟨v0, vs0, d0, ds0, p0, q0, hargs, rfl, rfl, h0, r0⟩ := trodAll_cons hA
  obtain ⟨v1, vs1, d1, ds1, p1, q1, rfl, rfl, rfl, h1, r1⟩ := trodAll_cons r0
  obtain ⟨v2, vs2, d2, ds2, p2, q2, rfl, rfl, rfl, h2, r2⟩ := trodAll_cons r1
  obtain ⟨rfl, rfl, rfl⟩ := trodAll_nil r2
  obtain rfl : args = #[v0, v1, v2] := by cases args; simp_all
  obtain ⟨rfl, rfl⟩ := trodVars_none hV
  obtain ⟨a0, rfl, rfl, rfl, w0⟩ := open_int Tryd.underlying3 (hval 0 3 v0 rfl rfl) h0
  obtain ⟨a1, rfl, rfl, rfl, w1⟩ := open_int Tryd.underlying3 (hval 1 3 v1 rfl rfl) h1
  obtain ⟨a2, rfl, rfl, rfl, w2⟩ := open_int Tryd.underlying3 (hval 2 3 v2 rfl rfl) h2
  clear hA0 hval0
  refine (law_calls mixed (ye_sound mixed) (rel_start W) (.cons (.int _ _) (.cons (.int _ _) (VRs_one (.int _ _)))) (lawE_df _ _ _)).mono fun e W' ⟨he, bel⟩ => ?_
  subst he
  exact ⟨_, rfl, _, _, _, [], _, [], hW', trodAll_mk1 (shut_bool Tryd.underlying4 _), (trodAll_cons_mk (shut_int Tryd.underlying3 w0) (trodAll_cons_mk (shut_int Tryd.underlying3 w1) (trodAll_cons_mk (shut_int Tryd.underlying3 w2) trodAll_mk0))), rfl, bel.frame _, fun h => by cases h⟩
theorem over : Rows.funcsErrorsRow.holds Tryd.pinned (OpenSpec.ofChange Rows.funcsErrorsSpec) :=
  OpenClaim.holds_of_wide 7 Tryd.f7 rfl rfl rfl rfl rfl rfl rfl ⟨rfl, rfl, rfl, rfl, rfl⟩ rfl rfl rfl rfl rfl (by kernel_rfl) Tryd.func7 (by kernel_rfl)
    (of_decide_eq_true (by kernel_rfl)) (by unfold Func.isWrapper; first | (rw [if_pos (by decide +kernel)]; kernel_rfl) | (rw [if_neg (by decide +kernel)]; exact ⟨rfl, rfl⟩))
    (fun os started H enc _ => lifted os started H enc)
end Go.Proofs.YtmdpggecelheoaaDoor.funcsErrors
namespace Go.Proofs.YtmdpggecelheoaaDoor
open Go
theorem funcsErrors_card : Rows.FuncsErrorsCardSaid :=
  Claim7.holds_tied_plain_at .later [] [.data, .data, .data] true (true, "3d4ef65ab9cb1b75a723f3501e7fecd5e6bcfd19ffc8ca5416c74e0e57128058") true
    funcsErrors.over (fun _ h => by cases h) (by kernel_rfl) (fun _ h => by cases h) funcsErrors_row_tie rfl ⟨rfl, rfl⟩ (by kernel_rfl) rfl
    (fun f fn hf hfn => by
      obtain rfl : f = 7 := Option.some.inj ((show Tryd.prog.funcNamed "abacist/abacistlaw10.FuncsErrors" = some 7 by kernel_rfl).symm.trans hf) |>.symm
      obtain rfl : fn = Tryd.f7 := (Option.some.inj (Tryd.func7.symm.trans hfn)).symm
      exact ⟨by kernel_rfl, fun j t ht => by
        rw [Tryd.params7] at ht
        have hm : t ∈ [3] := by first | simpa using Array.mem_of_getElem? ht | (have h9 := Array.mem_of_getElem? ht; simp at h9 ⊢; rcases h9 with h9 | h9 | h9 <;> simp [h9]) | (have h9 := Array.mem_of_getElem? ht; simp at h9 ⊢; rcases h9 with h9 | h9 <;> simp [h9]) | (have h9 := Array.mem_of_getElem? ht; simp at h9 ⊢; rcases h9 with h9 | h9 | h9 | h9 <;> simp [h9]) | (have h9 := Array.mem_of_getElem? ht; simp at h9 ⊢; rcases h9 with h9 | h9 | h9 | h9 | h9 <;> simp [h9])
        have hall : ([3].all fun u => !Tryd.prog.wantsStandIn u) = true := by kernel_rfl
        exact (show Tryd.prog.wantsStandIn t = false by simpa using List.all_eq_true.1 hall t hm)⟩)
    (by kernel_rfl)
#print axioms funcsErrors_card
end Go.Proofs.YtmdpggecelheoaaDoor
