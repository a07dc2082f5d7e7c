/- Closed runs: what the evaluator answers over the empty heap, it answers; finitely many inputs are gone through by the kernel. -/
import Derived.Test.YtmdpggecelheoaaDoorPA20
import Derived.Test.YtmdpggecelheoaaDoorProg
import Derived.KernelRfl
import Derived.Lib.Bytealg
import Derived.Test.YtmdpggecelheoaaDoorMY2
import Derived.Shelf.Strings.Search1
import Derived.WalkKit
import Derived.ProofKit
import Derived.OpenShut
import Derived.ShutString
import Derived.ChangeOld
import Derived.Below
import Derived.SizedLaws
import Derived.LaidMore
import Derived.Stop.Joined
import Derived.Test.YtmdpggecelheoaaDoorRows
import Derived.Test.YtmdpggecelheoaaDoorCards
import Derived.Test.YtmdpggecelheoaaDoorTie
import Derived.Lay
set_option linter.unusedVariables false
set_option linter.unusedSimpArgs false
namespace Go.Proofs.YtmdpggecelheoaaDoor.Abs
open Go
theorem df_closed {P : Program} {X : Outer} {n : Nat} {f : FuncId} {args : List Value} {v : Value} (h : ansIs (run P X n f args ⟨0, []⟩) v = true) : Df P X f args ⟨0, []⟩ fun r _ => r = v := by
  obtain ⟨H, h⟩ := ansIs_some h
  exact ⟨n, _, h, rfl⟩
/-- The place of a byte in a text, or -1. -/
def ixB : List UInt8 → UInt8 → Int → Int
  | [], _, _ => -1
  | b :: l, c, i => if b == c then i else ixB l c (i + 1)
theorem ix_ge (l : List UInt8) (c : UInt8) : -1 ≤ Lib.indexByte l c := by
  induction l with
  | nil => simp [Lib.indexByte]
  | cons b l ih =>
    simp only [Lib.indexByte]
    split
    · omega
    · split <;> omega
theorem ixB_eq (l : List UInt8) (c : UInt8) : ∀ i : Int, 0 ≤ i → (Lib.indexByte l c = -1 → ixB l c i = -1) ∧ (Lib.indexByte l c ≠ -1 → ixB l c i = Lib.indexByte l c + i) := by
  induction l with
  | nil => intro i hi; exact ⟨fun _ => rfl, fun h => absurd rfl h⟩
  | cons b l ih =>
    intro i hi
    have hg := ix_ge l c
    have hc : Lib.indexByte (b :: l) c = if b == c then 0 else if Lib.indexByte l c == -1 then -1 else Lib.indexByte l c + 1 := rfl
    have hx : ixB (b :: l) c i = if b == c then i else ixB l c (i + 1) := rfl
    rw [hc, hx]
    obtain ⟨h1, h2⟩ := ih (i + 1) (by omega)
    by_cases hb : (b == c) = true
    · simp only [if_pos hb]
      exact ⟨fun h => by omega, fun _ => by omega⟩
    · simp only [if_neg hb]
      by_cases hx : Lib.indexByte l c = -1
      · have e : (Lib.indexByte l c == -1) = true := by simpa using hx
        simp only [if_pos e]
        exact ⟨fun _ => h1 hx, fun h => absurd rfl h⟩
      · have e : ¬ (Lib.indexByte l c == -1) = true := by simpa using hx
        simp only [if_neg e]
        exact ⟨fun h => by omega, fun _ => by rw [h2 hx]; omega⟩
/-- strings.IndexByte's answer. -/
def ixG : List Value → Hp → Option (Value × Hp) := fun args H => match args with
  | [.string s, .int .u8 c] => some (.int .i64 (ixB s.data.toList c.toNat.toUInt8 0), H)
  | _ => none
theorem ix_sound {P : Program} {B : Nat} {w0 : World} {k : FuncId} (hc : ∀ (s : ByteArray) (c : Int) (w : World), Calls P k #[.string s, .int .u8 c] w fun e w' => e = .returned (.int .i64 (Lib.indexByte s.data.toList c.toNat.toUInt8)) ∧ w' = w) : KSound P B w0 fun f' args H => if f' = k then ixG args H else none := by
  intro b hb f' args H v H' hr φ w args' hR ha
  simp only at hr
  split at hr
  · rename_i hff
    subst hff
    unfold ixG at hr
    split at hr
    · rename_i s c
      cases hr
      have e : args' = [.string s, .int .u8 c] := flats_eq rfl ha
      subst e
      refine (hc s c w).mono ?_
      rintro e w' ⟨rfl, rfl⟩
      refine ⟨φ, _, Plan.le_refl φ, rfl, ?_, hR⟩
      obtain ⟨h1, h2⟩ := ixB_eq s.data.toList c.toNat.toUInt8 0 (by omega)
      by_cases hx : Lib.indexByte s.data.toList c.toNat.toUInt8 = -1
      · rw [h1 hx, hx]; exact .int _ _
      · rw [h2 hx, Int.add_zero]; exact .int _ _
    · cases hr
  · cases hr
/-- A call that is known to answer true. -/
def trueG : List Value → Hp → Option (Value × Hp) := fun args H => match args with
  | [] => some (.bool true, H)
  | _ => none
theorem true_sound {P : Program} (hm : P.follows .mixedOrders = true) {X' : Outer} (h : ∀ B w0, XSound P B w0 X') {n : Nat} {k : FuncId} (hr : ansIs (run P X' n k [] ⟨0, []⟩) (.bool true) = true) (B : Nat) (w0 : World) : KSound P B w0 fun f' args H => if f' = k then trueG args H else none := by
  intro b hb f' args H v H' hrun φ w args' hR ha
  simp only at hrun
  split at hrun
  · rename_i hff
    subst hff
    unfold trueG at hrun
    split at hrun
    · cases hrun
      obtain ⟨H1, hr⟩ := ansIs_some hr
      exact xsound_pure hm h n [f'] B w0 f' (pureX P X' n f') (by simp [withPure]) b hb f' [] H (.bool true) H (by simp [pureX, hr, flatT, flat]) φ w args' hR ha
    · cases hrun
  · cases hrun
end Go.Proofs.YtmdpggecelheoaaDoor.Abs
/- The law AddrIn: what its text answers. -/
set_option linter.unusedVariables false
set_option linter.unusedSimpArgs false
set_option maxRecDepth 4000
set_option maxHeartbeats 0
namespace Go.Proofs.YtmdpggecelheoaaDoor.Abs
open Go
attribute [local irreducible] Hold VReg Vf Vc VWP With VStp Vcallee Vp VE
/-! ### What is given from outside: that the example of the document holds -/
def trueV : List Value → List Blk → Option (Value × List (Nat × Blk)) := fun args _ => match args with
  | [] => some (.bool true, [])
  | _ => none
def XA : VOuter := fun f => if f = 12 then some trueV else none
noncomputable def YA : Outer := fun f => if f = 12 then some trueG else none
theorem done_refl {R : Rl} {B : List Blk} (hR : HRel R B) (hf : ∀ d, R.ρ (d, none) = none) : Done R R B [] where
  hr := hR
  φ := rfl
  M := rfl
  nx := Nat.le_refl _
  fr := fun _ _ _ => rfl
  keep := fun _ _ _ => rfl
  frame := hf
  tok := fun k b h => .inl h
  w := fun p h => by cases h
theorem xa_ok : VXOk Tryd.prog YA XA := by
  intro f
  by_cases h : f = 12
  · subst h
    show ∀ args B r ws, trueV args B = some (r, ws) → _
    intro args B r ws hr R cargs hR hf ha
    unfold trueV at hr
    split at hr
    · cases hr
      obtain rfl : cargs = [] := List.length_eq_zero_iff.1 ha.1.symm
      exact Df_ext (g := trueG) (r := (.bool true, R.H)) rfl rfl ⟨R, rfl, done_refl hR hf, .bool true⟩
    · cases hr
  · have e : XA f = none := if_neg h
    rw [e]
    exact if_neg h
theorem xa_n : NOff XA := ⟨rfl, rfl, rfl, rfl⟩
theorem xa_m : MOff XA := ⟨rfl, rfl, rfl, rfl, rfl, rfl⟩
theorem aalive_c (S : VH) (K : VCont) : Vcallee Tryd.prog XA 12 [] S K = K (.bool true) [] S [] false := by
  refine Vcallee_of ?_ rfl rfl rfl
  unfold Vp
  exact Vf_outer (g := trueV) rfl (by with_unfolding_all exact ⟨rfl, rfl⟩)
theorem ab_beq2 (x y : Operand) (p q : Bool) : abin Tryd.prog .eql 4 x y (.bool p) (.bool q) = some (.bool (p == q)) := by rw [abin_beql Tryd.underlying4 (by kernel_rfl)]
theorem ab_rem2 {P : Program} {t : TypeId} {x y : Operand} {k : IntKind} {a b : Int} (hb : b ≠ 0) : abin P .rem t x y (.int k a) (.int k b) = some (.int k (a.tmod b)) := by
  have h : pureRun P (Op.intDiv .rem k a b) = some (.int k (a.tmod b)) := by
    unfold Op.intDiv
    rw [if_neg hb]
    rfl
  have h2 : abin P .rem t x y (.int k a) (.int k b) = onlyFlat (pureRun P (Op.intDiv .rem k a b)) := by cases k <;> rfl
  rw [h2, h]
  rfl
theorem ab_quo2 {P : Program} {t : TypeId} {x y : Operand} {k : IntKind} {a b : Int} (hb : b ≠ 0) : abin P .quo t x y (.int k a) (.int k b) = some (.int k (k.wrap (a.tdiv b))) := by
  have h : pureRun P (Op.intDiv .quo k a b) = some (.int k (k.wrap (a.tdiv b))) := by
    unfold Op.intDiv
    rw [if_neg hb]
    rfl
  have h2 : abin P .quo t x y (.int k a) (.int k b) = onlyFlat (pureRun P (Op.intDiv .quo k a b)) := by cases k <;> rfl
  rw [h2, h]
  rfl
theorem has_c (cc : Bool) (l : List CC) (hl : l.length ≤ 1000000000) (s : ByteArray) (c r : Int) {S : VH} {K : VCont} : Vcallee Tryd.prog XA 30 [sl cc 0 3 (l.map CC.v), .agg ⟨[.string s, .int .i64 c, .int .i64 r]⟩] S K = K (.bool (hasF l ⟨s, c, r⟩)) [] S [] false := Vcallee_of (has_p rfl cc 0 l hl s c r) (by simp only [mapOwnL_cons, mapOwnL_nil, lend_sl]; rfl) (by simp only [okvL_cons, okvL_nil, okv_sl, Bool.and_true]; rfl) rfl
theorem lawAI (s : ByteArray) (c r w h : Int) (z : ByteArray) (x y : Int) : Vf Tryd.prog XA 4 [.agg ⟨[.string s, .int .i64 c, .int .i64 r]⟩, .int .i64 w, .int .i64 h, .agg ⟨[.string z, .int .i64 x, .int .i64 y]⟩] [] fun v _ => v = .bool true := by
  refine Vf_text rfl Tryd.func4 rfl (by kernel_rfl) (by show 4 ≤ _; decide) ?_
  have rr := fun s c r S K => rright_c (X := XA) rfl rfl rfl rfl s c r (S := S) (K := K)
  cases a0 : celF s c r
  · simp -dsimp only [↓Hold_5, ↓VWP_seq, ↓VWP_region, ↓VWP_cond, ↓VWP_ret, ↓VReg_one, ↓VReg_nil, ↓VS_guard, ↓VS_move, ↓VS_assign, ↓VS_pick, ↓VS_load, ↓VS_unOp, ↓VS_box, ↓With_guard, ↓Hold_1, With_some, emap_nil, ↓eget_eset, ↓ae_tmp, ↓ae_bool, eget_zero, eget_succ, lop_pick, lop_not, asBool_bool, asGuard_bool, bb_tf, ayielded_eq, ↓dstAt_zero, ↓dstAt_succ, ↓vfinish_ret, ↓vres_nil, ↓vres_tmp, vtell_eq, ret1, Option.map_some, Option.bind_some, ↓reduceIte, Nat.reduceEqDiff, Bool.false_eq_true, Bool.not_true, Bool.not_false, Nat.zero_add, Nat.add_zero, Nat.reduceAdd, Nat.reduceLeDiff, and_self, List.map_cons, List.map_nil, List.all_cons, List.all_nil, tup_int, tup_str, tup_agg, cel_agg, List.drop_zero, List.toList_toArray, List.length_cons, List.length_nil, mapOwn_bool, toksL_nil, toksL_cons, toks_int, toks_string, okv_bool, okv_int, okv_string, List.all_nil, List.all_cons, List.append_nil, List.nil_append, List.cons_append, List.map_nil, List.map_cons, Bool.and_self, Bool.not_true, Bool.not_false, beq_self_eq_true, vnext_mk, vpush_mk, vget_nil, cellsIn_mk, List.getD_cons_zero, List.length_cons, List.length_nil, List.drop_zero, List.take_succ_cons, List.take_zero, ↓vbox_free, cellsOk_free, cellF, beq_self_eq_true, beq_self_eq_true, bb_tf, vld23, ↓vfk12, ↓vfk18, Tryd.results4, ↓aalive_c, ↓rr, a0]
  · have p := celF_place a0
    by_cases a1 : w < 1
    · simp -dsimp only [↓Hold_5, ↓VWP_seq, ↓VWP_region, ↓VWP_cond, ↓VWP_ret, ↓VReg_one, ↓VReg_nil, ↓VS_guard, ↓VS_move, ↓VS_assign, ↓VS_pick, ↓VS_load, ↓VS_binOp, ↓VS_unOp, ↓VS_box, ↓With_guard, ↓Hold_1, With_some, emap_nil, ↓eget_eset, ↓ae_tmp, ↓ae_int, ↓ae_bool, eget_zero, eget_succ, lop_pick, lop_not, asBool_bool, asGuard_bool, bb_tf, ayielded_eq, ↓dstAt_zero, ↓dstAt_succ, ↓vfinish_ret, ↓vres_nil, ↓vres_tmp, vtell_eq, ret1, Option.map_some, Option.bind_some, ↓reduceIte, Nat.reduceEqDiff, Bool.false_eq_true, decide_true, Bool.not_true, Bool.not_false, Nat.zero_add, Nat.add_zero, Nat.reduceAdd, Nat.reduceLeDiff, and_self, List.map_cons, List.map_nil, List.all_cons, List.all_nil, tup_int, tup_str, tup_agg, cel_agg, List.drop_zero, List.toList_toArray, List.length_cons, List.length_nil, mapOwn_bool, toksL_nil, toksL_cons, toks_int, toks_string, okv_bool, okv_int, okv_string, List.all_nil, List.all_cons, List.append_nil, List.nil_append, List.cons_append, List.map_nil, List.map_cons, Bool.and_self, Bool.not_true, Bool.not_false, beq_self_eq_true, vnext_mk, vpush_mk, vget_nil, cellsIn_mk, List.getD_cons_zero, List.length_cons, List.length_nil, List.drop_zero, List.take_succ_cons, List.take_zero, vbin_int, ↓vbox_free, cellsOk_free, cellF, abin_lss, beq_self_eq_true, decide_true, beq_self_eq_true, bb_tf, vld23, ↓vfk12, ↓vfk18, Tryd.results4, ↓aalive_c, ↓rr, a0, a1]
    · by_cases a2 : 20 < w
      · simp -dsimp only [↓Hold_5, ↓VWP_seq, ↓VWP_region, ↓VWP_cond, ↓VWP_ret, ↓VReg_one, ↓VReg_nil, ↓VS_guard, ↓VS_move, ↓VS_assign, ↓VS_pick, ↓VS_load, ↓VS_binOp, ↓VS_unOp, ↓VS_box, ↓With_guard, ↓Hold_1, With_some, emap_nil, ↓eget_eset, ↓ae_tmp, ↓ae_int, ↓ae_bool, eget_zero, eget_succ, lop_pick, lop_not, asBool_bool, asGuard_bool, bb_tf, ayielded_eq, ↓dstAt_zero, ↓dstAt_succ, ↓vfinish_ret, ↓vres_nil, ↓vres_tmp, vtell_eq, ret1, Option.map_some, Option.bind_some, ↓reduceIte, Nat.reduceEqDiff, Bool.false_eq_true, decide_true, decide_false, Bool.not_true, Bool.not_false, Nat.zero_add, Nat.add_zero, Nat.reduceAdd, Nat.reduceLeDiff, and_self, List.map_cons, List.map_nil, List.all_cons, List.all_nil, tup_int, tup_str, tup_agg, cel_agg, List.drop_zero, List.toList_toArray, List.length_cons, List.length_nil, mapOwn_bool, toksL_nil, toksL_cons, toks_int, toks_string, okv_bool, okv_int, okv_string, List.all_nil, List.all_cons, List.append_nil, List.nil_append, List.cons_append, List.map_nil, List.map_cons, Bool.and_self, Bool.not_true, Bool.not_false, beq_self_eq_true, vnext_mk, vpush_mk, vget_nil, cellsIn_mk, List.getD_cons_zero, List.length_cons, List.length_nil, List.drop_zero, List.take_succ_cons, List.take_zero, vbin_int, ↓vbox_free, cellsOk_free, cellF, abin_lss, abin_gtr, beq_self_eq_true, gt_iff_lt, decide_true, decide_false, beq_self_eq_true, bb_tf, vld23, ↓vfk12, ↓vfk18, Tryd.results4, ↓aalive_c, ↓rr, a0, a1, a2]
      · by_cases a3 : h < 1
        · simp -dsimp only [↓Hold_5, ↓VWP_seq, ↓VWP_region, ↓VWP_cond, ↓VWP_ret, ↓VReg_one, ↓VReg_nil, ↓VS_guard, ↓VS_move, ↓VS_assign, ↓VS_pick, ↓VS_load, ↓VS_binOp, ↓VS_unOp, ↓VS_box, ↓With_guard, ↓Hold_1, With_some, emap_nil, ↓eget_eset, ↓ae_tmp, ↓ae_int, ↓ae_bool, eget_zero, eget_succ, lop_pick, lop_not, asBool_bool, asGuard_bool, bb_tf, ayielded_eq, ↓dstAt_zero, ↓dstAt_succ, ↓vfinish_ret, ↓vres_nil, ↓vres_tmp, vtell_eq, ret1, Option.map_some, Option.bind_some, ↓reduceIte, Nat.reduceEqDiff, Bool.false_eq_true, decide_true, decide_false, Bool.not_true, Bool.not_false, Nat.zero_add, Nat.add_zero, Nat.reduceAdd, Nat.reduceLeDiff, and_self, List.map_cons, List.map_nil, List.all_cons, List.all_nil, tup_int, tup_str, tup_agg, cel_agg, List.drop_zero, List.toList_toArray, List.length_cons, List.length_nil, mapOwn_bool, toksL_nil, toksL_cons, toks_int, toks_string, okv_bool, okv_int, okv_string, List.all_nil, List.all_cons, List.append_nil, List.nil_append, List.cons_append, List.map_nil, List.map_cons, Bool.and_self, Bool.not_true, Bool.not_false, beq_self_eq_true, vnext_mk, vpush_mk, vget_nil, cellsIn_mk, List.getD_cons_zero, List.length_cons, List.length_nil, List.drop_zero, List.take_succ_cons, List.take_zero, vbin_int, ↓vbox_free, cellsOk_free, cellF, abin_lss, abin_gtr, beq_self_eq_true, gt_iff_lt, decide_true, decide_false, beq_self_eq_true, bb_tf, vld23, ↓vfk12, ↓vfk18, Tryd.results4, ↓aalive_c, ↓rr, a0, a1, a2, a3]
        · by_cases a4 : 20 < h
          · simp -dsimp only [↓Hold_5, ↓VWP_seq, ↓VWP_region, ↓VWP_cond, ↓VWP_ret, ↓VReg_one, ↓VReg_nil, ↓VS_guard, ↓VS_move, ↓VS_assign, ↓VS_pick, ↓VS_load, ↓VS_binOp, ↓VS_unOp, ↓VS_box, ↓With_guard, ↓Hold_1, With_some, emap_nil, ↓eget_eset, ↓ae_tmp, ↓ae_int, ↓ae_bool, eget_zero, eget_succ, lop_pick, lop_not, asBool_bool, asGuard_bool, bb_tf, ayielded_eq, ↓dstAt_zero, ↓dstAt_succ, ↓vfinish_ret, ↓vres_nil, ↓vres_tmp, vtell_eq, ret1, Option.map_some, Option.bind_some, ↓reduceIte, Nat.reduceEqDiff, Bool.false_eq_true, decide_true, decide_false, Bool.not_true, Bool.not_false, Nat.zero_add, Nat.add_zero, Nat.reduceAdd, Nat.reduceLeDiff, and_self, List.map_cons, List.map_nil, List.all_cons, List.all_nil, tup_int, tup_str, tup_agg, cel_agg, List.drop_zero, List.toList_toArray, List.length_cons, List.length_nil, mapOwn_bool, toksL_nil, toksL_cons, toks_int, toks_string, okv_bool, okv_int, okv_string, List.all_nil, List.all_cons, List.append_nil, List.nil_append, List.cons_append, List.map_nil, List.map_cons, Bool.and_self, Bool.not_true, Bool.not_false, beq_self_eq_true, vnext_mk, vpush_mk, vget_nil, cellsIn_mk, List.getD_cons_zero, List.length_cons, List.length_nil, List.drop_zero, List.take_succ_cons, List.take_zero, vbin_int, ↓vbox_free, cellsOk_free, cellF, abin_lss, abin_gtr, beq_self_eq_true, gt_iff_lt, decide_true, decide_false, beq_self_eq_true, bb_tf, vld23, ↓vfk12, ↓vfk18, Tryd.results4, ↓aalive_c, ↓rr, a0, a1, a2, a3, a4]
          · obtain ⟨C, rfl⟩ := Int.eq_ofNat_of_zero_le (show 0 ≤ w by omega)
            obtain ⟨R, rfl⟩ := Int.eq_ofNat_of_zero_le (show 0 ≤ h by omega)
            have w1 : IntKind.i64.wrap (c + C) = c + C := wrap_id (by omega) (by omega)
            have w2 : IntKind.i64.wrap (c + C - 1) = c + C - 1 := wrap_id (by omega) (by omega)
            have w3 : IntKind.i64.wrap (r + R) = r + R := wrap_id (by omega) (by omega)
            have w4 : IntKind.i64.wrap (r + R - 1) = r + R - 1 := wrap_id (by omega) (by omega)
            by_cases a5 : 702 < c + C - 1
            · simp -dsimp only [↓Hold_5, ↓VWP_seq, ↓VWP_region, ↓VWP_cond, ↓VWP_ret, ↓VReg_one, ↓VReg_nil, ↓VS_guard, ↓VS_move, ↓VS_assign, ↓VS_pick, ↓VS_load, ↓VS_binOp, ↓VS_unOp, ↓VS_fieldAddr, ↓VS_box, ↓With_guard, ↓Hold_1, With_some, emap_nil, ↓eget_eset, ↓ae_tmp, ↓ae_int, ↓ae_bool, eget_zero, eget_succ, lop_pick, lop_not, asBool_bool, asGuard_bool, bb_tf, ayielded_eq, ↓dstAt_zero, ↓dstAt_succ, ↓vfinish_ret, ↓vres_nil, ↓vres_tmp, vtell_eq, ret1, Option.map_some, Option.bind_some, ↓reduceIte, Nat.reduceEqDiff, Bool.false_eq_true, decide_true, decide_false, Bool.not_true, Bool.not_false, List.getElem?_cons_zero, List.getElem?_cons_succ, Nat.zero_add, Nat.add_zero, Nat.reduceAdd, Nat.reduceLeDiff, and_self, List.map_cons, List.map_nil, List.all_cons, List.all_nil, tup_int, tup_str, tup_agg, cel_agg, List.drop_zero, List.toList_toArray, List.length_cons, List.length_nil, mapOwn_bool, toksL_nil, toksL_cons, toks_int, toks_string, okv_bool, okv_int, okv_string, List.all_nil, List.all_cons, List.append_nil, List.nil_append, List.cons_append, List.map_nil, List.map_cons, Bool.and_self, Bool.not_true, Bool.not_false, beq_self_eq_true, vnext_mk, vpush_mk, vget_nil, cellsIn_mk, List.getD_cons_zero, List.length_cons, List.length_nil, List.drop_zero, List.take_succ_cons, List.take_zero, vbin_int, ↓vbox_free, cellsOk_free, cellF, abin_lss, abin_gtr, abin_add, abin_sub, beq_self_eq_true, gt_iff_lt, decide_true, decide_false, beq_self_eq_true, bb_tf, vld23, vld3, vfp23_1, ↓vfk12, ↓vfk18, Tryd.results4, ↓aalive_c, ↓rr, a0, a1, a2, a3, a4, w1, w2, a5]
            · by_cases a6 : 999 < r + R - 1
              · simp -dsimp only [↓Hold_5, ↓VWP_seq, ↓VWP_region, ↓VWP_cond, ↓VWP_ret, ↓VReg_one, ↓VReg_nil, ↓VS_guard, ↓VS_move, ↓VS_assign, ↓VS_pick, ↓VS_load, ↓VS_binOp, ↓VS_unOp, ↓VS_fieldAddr, ↓VS_box, ↓With_guard, ↓Hold_1, With_some, emap_nil, ↓eget_eset, ↓ae_tmp, ↓ae_int, ↓ae_bool, eget_zero, eget_succ, lop_pick, lop_not, asBool_bool, asGuard_bool, ayielded_eq, ↓dstAt_zero, ↓dstAt_succ, ↓vfinish_ret, ↓vres_nil, ↓vres_tmp, vtell_eq, ret1, Option.map_some, Option.bind_some, ↓reduceIte, Nat.reduceEqDiff, Bool.false_eq_true, decide_true, decide_false, Bool.not_true, Bool.not_false, List.getElem?_cons_zero, List.getElem?_cons_succ, Nat.zero_add, Nat.add_zero, Nat.reduceAdd, Nat.reduceLeDiff, and_self, List.map_cons, List.map_nil, List.all_cons, List.all_nil, tup_int, tup_str, tup_agg, cel_agg, List.drop_zero, List.toList_toArray, List.length_cons, List.length_nil, mapOwn_bool, toksL_nil, toksL_cons, toks_int, toks_string, okv_bool, okv_int, okv_string, List.all_nil, List.all_cons, List.append_nil, List.nil_append, List.cons_append, List.map_nil, List.map_cons, Bool.and_self, Bool.not_true, Bool.not_false, beq_self_eq_true, vnext_mk, vpush_mk, vget_nil, cellsIn_mk, List.getD_cons_zero, List.length_cons, List.length_nil, List.drop_zero, List.take_succ_cons, List.take_zero, vbin_int, ↓vbox_free, cellsOk_free, cellF, abin_lss, abin_gtr, abin_add, abin_sub, beq_self_eq_true, gt_iff_lt, decide_true, decide_false, beq_self_eq_true, vld23, vld3, vfp23_1, vfp23_2, ↓vfk12, ↓vfk18, Tryd.results4, ↓aalive_c, ↓rr, a0, a1, a2, a3, a4, w1, w2, w3, w4, a5, a6]
              · have c1 : 1 ≤ C := by omega
                have hA := ai_area a0 c1 (by omega) (by omega) (show r + R - 1 ≤ 999 by omega) (R := R) (C := C)
                have hNn := ai_n hA
                have hL := ai_cells hA (by omega) (by omega)
                have hH := ai_has hA c1
                have hin := fun k => ai_in hA c1 (k := k)
                have hls := fun k => ai_less (s := s) (c := c) (r := r) c1 k
                have hle : C * R ≤ 20 * 20 := Nat.mul_le_mul (by omega) (by omega)
                have w5 : IntKind.i64.wrap ((C : Int) * R) = (C : Int) * R := wrap_id (by omega) (by omega)
                have cl := fun S K => cells_c (X := XA) xa_n rfl rfl s c r s (c + C - 1) (r + R - 1) (S := S) (K := K)
                have ar := fun S K => area_c (X := XA) xa_n s c r s (c + C - 1) (r + R - 1) (S := S) (K := K)
                unfold endC at hA hNn hL hH hin
                rw [hL] at cl
                rw [hA, hNn] at ar
                have hlen : (((List.range (R * C)).map fun k => (⟨s, c + (k % C : Nat), r + (k / C : Nat)⟩ : CC)).map CC.v).length = R * C := by simp
                have hlen2 : ((List.range (R * C)).map fun k => (⟨s, c + (k % C : Nat), r + (k / C : Nat)⟩ : CC)).length = R * C := by simp
                have hget : ∀ k, k < R * C → (((List.range (R * C)).map fun k => (⟨s, c + (k % C : Nat), r + (k / C : Nat)⟩ : CC)).map CC.v)[k]? = some (.agg ⟨[.string s, .int .i64 (c + (k % C : Nat)), .int .i64 (r + (k / C : Nat))]⟩) := fun k hk => by
                  rw [List.map_map, List.getElem?_map, List.getElem?_range hk]; rfl
                generalize ((List.range (R * C)).map fun k => (⟨s, c + (k % C : Nat), r + (k / C : Nat)⟩ : CC)) = L at *
                have hcast : ((R * C : Nat) : Int) = (C : Int) * R := by rw [Int.natCast_mul, Int.mul_comm]
                have hRC : R * C = C * R := Nat.mul_comm ..
                simp -dsimp only [↓Hold_5, ↓VWP_seq, ↓VWP_region, ↓VWP_cond, ↓VWP_skip, ↓VWP_block, ↓VWP_loop, ↓VReg_one, ↓VReg_non, ↓VReg_nil, ↓VS_guard, ↓VS_move, ↓VS_assign, ↓VS_pick, ↓VS_build, ↓VS_load, ↓VS_binOp, ↓VS_unOp, ↓VS_fieldAddr, ↓VS_extract, ↓VS_len, ↓VS_box, ↓VS_store, ↓Hold_1, With_some, emap_nil, ↓eget_eset, ↓ae_tmp, ↓ae_int, ↓ae_bool, eget_zero, eget_succ, lop_pick, lop_extract, lop_not, asBool_bool, asGuard_bool, ayielded_eq, ↓dstAt_zero, ↓dstAt_succ, Option.map_some, Option.bind_some, ↓reduceIte, Nat.reduceEqDiff, Bool.false_eq_true, decide_false, Bool.not_true, Bool.not_false, List.getElem?_toArray, List.getElem?_cons_zero, List.getElem?_cons_succ, Nat.zero_add, Nat.add_zero, Nat.reduceAdd, Nat.reduceLT, Nat.reduceLeDiff, true_and, and_self, List.map_cons, List.map_nil, List.all_cons, List.all_nil, tup_int, cel_int, tup_str, cel_str, tup_agg, cel_agg, List.drop_zero, List.toList_toArray, List.size_toArray, List.length_cons, List.length_nil, toksL_nil, toksL_cons, toks_int, toks_string, okv_int, okv_string, List.all_nil, List.all_cons, List.append_nil, List.nil_append, List.cons_append, List.map_nil, List.map_cons, Bool.and_self, Bool.not_true, Bool.not_false, beq_self_eq_true, vnext_mk, vpush_mk, vget_nil, vput_nil, cellsIn_mk, List.getD_cons_zero, List.getD_cons_succ, List.set_cons_zero, List.set_cons_succ, List.length_cons, List.length_nil, List.drop_zero, List.take_succ_cons, List.take_zero, vbin_int, ↓vlay_free, ↓vbox_free, cellsOk_free, cellF, abin_neq, abin_lss, abin_gtr, abin_add, abin_sub, abin_mul, beq_self_eq_true, gt_iff_lt, decide_false, beq_self_eq_true, bne_self_eq_false, setAll_whole, afill, setAll, vld23, vld3, vld9, vld26, vst26, ↓val26, vfp23_1, vfp23_2, vfp23_0, bd23, pl23_0, pl23_1, pl23_2, bd26, pl26_0, pl26_1, vls35, ↓vfk12, ↓vfk18, ↓vfk24, ↓vfk15, ↓aalive_c, ↓rr, a0, a1, a2, a3, a4, w1, w2, w3, w4, w5, a5, a6, ↓cl, ↓ar, hlen, hcast]
                have vr := fun q0 q1 q2 S K => in_c (X := XA) xa_n rfl s c r s (c + C - 1) (r + R - 1) q0 q1 q2 (S := S) (K := K)
                have vl := fun q1 q2 q3 q4 S K => less_c (X := XA) xa_m rfl s q1 q2 s q3 q4 (S := S) (K := K)
                refine Vc_loop (fun m e S => ∃ i : Nat, m = R * C - i ∧ i ≤ R * C ∧ eget e 1 = .int .i64 C ∧ eget e 4 = .pointer (some { block := 0, off := 0 }) ∧ eget e 7 = .pointer (some { block := 1, off := 0 }) ∧ eget e 10 = .pointer (some { block := 2, off := 0 }) ∧ eget e 11 = sl true 0 3 (L.map CC.v) ∧ eget e 12 = .int .i64 (C * R) ∧ eget e 14 = .int .i64 i ∧ S = ⟨[], [.cells true 23 [.string s, .int .i64 c, .int .i64 r], .cells true 23 [.string z, .int .i64 x, .int .i64 y], .cells true 26 [.string s, .int .i64 c, .int .i64 r, .string s, .int .i64 (c + C - 1), .int .i64 (r + R - 1)]], []⟩) (R * C) ?_ ?_
                · refine ⟨0, rfl, Nat.zero_le _, ?_, ?_, ?_, ?_, ?_, ?_, ?_, ?_⟩ <;> first | (simp only [↓eget_eset, eget_zero, eget_succ, ↓reduceIte, Nat.reduceEqDiff]; done) | (simp only [↓eget_eset, ↓reduceIte]; rfl) | rfl
                · rintro m e S ⟨i, rfl, hi, e1, e4, e7, e10, e11, e12, e14, rfl⟩
                  refine VWP_Vc _ _ _ _ ?_
                  by_cases hin2 : i < R * C
                  · have hlt : (i : Int) < (C : Int) * R := by omega
                    have h0 : (0 : Int) ≤ i := by omega
                    have hC0 : (C : Int) ≠ 0 := by omega
                    have hgi := hget i hin2
                    have hii := hin i hin2
                    have m1 : i % C < C := Nat.mod_lt _ (by omega)
                    have m2 : i / C ≤ i := Nat.div_le_self ..
                    have hr : (i : Int).tmod (C : Int) = ((i % C : Nat) : Int) := rfl
                    have hq : (i : Int).tdiv (C : Int) = ((i / C : Nat) : Int) := rfl
                    have hnum : ((i : Int) + 1) = ((i + 1 : Nat) : Int) := by omega
                    have hwr : IntKind.i64.wrap ((i : Int) + 1) = (i : Int) + 1 := wrap_id (by omega) (by omega)
                    have hev : eqC ⟨s, c + (i % C : Nat), r + (i / C : Nat)⟩ ⟨s, c + (i % C : Nat), r + (i / C : Nat)⟩ = true := eqC_iff.2 rfl
                    have hpv := hls (i - 1)
                    have hgp := hget (i - 1) (by omega)
                    by_cases hz : 0 < (i : Int)
                    · rw [Nat.sub_add_cancel (by omega)] at hpv
                      have hpd := decide_eq_true hpv
                      have wi : IntKind.i64.wrap ((i : Int) - 1) = (i : Int) - 1 := wrap_id (by omega) (by omega)
                      have hi1 : (0 : Int) ≤ (i : Int) - 1 := by omega
                      have hit : ((i : Int) - 1).toNat = i - 1 := by omega
                      generalize i - 1 = k at *
                      generalize i % C = a at *
                      generalize i / C = b at *
                      generalize k % C = a' at *
                      generalize k / C = b' at *
                      have wq : IntKind.i64.wrap (b : Int) = b := wrap_id (by omega) (by omega)
                      have wa : IntKind.i64.wrap (c + (a : Int)) = c + a := wrap_id (by omega) (by omega)
                      have wb : IntKind.i64.wrap (r + (b : Int)) = r + b := wrap_id (by omega) (by omega)
                      simp -dsimp only [↓VWP_seq, ↓VWP_region, ↓VWP_cond, ↓VWP_skip, ↓VWP_block, ↓VWP_open, ↓VReg_one, ↓VReg_nil, ↓VS_move, ↓VS_binOp, ↓Hold_1, With_some, emap_nil, ↓eget_eset, ↓ae_tmp, asBool_bool, ↓reduceIte, Nat.reduceEqDiff, decide_true, vbin_int, abin_lss, decide_true, e12, e14, hlt]
                      refine Vc_open [[], [], [], [], [], [], [], [], [], [], [], [], [], [], [], [], [], [], [], [], [], [], [], [], [], [], [], [], [], [], [], [], [], [], [], [], [], [], [], [], [], [], [], [], [], []] false (by kernel_rfl) (by kernel_rfl) (by kernel_rfl) ?_
                      simp -dsimp only [↓Hold_5, ↓VWP_region, ↓VWP_cond, ↓VWP_skip, ↓VReg_one, ↓VReg_nil, ↓VS_guard, ↓VS_move, ↓VS_assign, ↓VS_pick, ↓VS_build, ↓VS_load, ↓VS_binOp, ↓VS_unOp, ↓VS_fieldAddr, ↓VS_indexAddr, ↓Hold_1, ↓Hold_3, With_some, emap_nil, ↓eget_eset, ↓ae_tmp, ↓ae_int, lop_pick, lop_not, asBool_bool, asGuard_bool, ayielded_eq, ↓dstAt_zero, ↓dstAt_succ, light, Option.map_some, Option.bind_some, ↓reduceIte, Nat.reduceEqDiff, Bool.false_eq_true, decide_true, Bool.not_true, Bool.not_false, List.getElem?_cons_zero, List.getElem?_cons_succ, Nat.zero_add, Nat.add_zero, Nat.reduceAdd, Nat.reduceLeDiff, and_true, true_and, and_self, List.map_cons, List.map_nil, List.all_cons, List.all_nil, tup_int, cel_int, tup_str, cel_str, cel_agg, List.drop_zero, List.toList_toArray, List.size_toArray, List.length_cons, List.length_nil, List.all_nil, List.all_cons, List.nil_append, List.cons_append, List.map_nil, List.map_cons, Bool.and_self, Bool.not_true, Bool.not_false, beq_self_eq_true, vget_nil, cellsIn_mk, List.getD_cons_zero, List.getD_cons_succ, List.set_cons_zero, List.set_cons_succ, List.length_cons, List.length_nil, List.drop_zero, List.take_succ_cons, List.take_zero, vload_at, aggV_agg, vbin_int, abin_gtr, abin_add, abin_sub, beq_self_eq_true, Int.toNat_natCast, gt_iff_lt, decide_true, beq_self_eq_true, afill, setAll, ↓VE_nil, ↓VE_one0, List.reverse_cons, List.reverse_nil, vgt23, vld3, vld9, vld26, vfp23_1, vfp23_2, vfp23_0, bd23, pl23_0, pl23_1, pl23_2, vis35, ↓vfk26, ↓vfk28, e1, e4, e7, e10, e11, e12, e14, ↓vr, ↓vl, h0, hgi, hii, ab_rem2 hC0, ab_quo2 hC0, hr, hq, wq, wa, wb, cell_ne, hev, hz, wi, hi1, hit, hgp, hpd, hwr]
                      exact ⟨R * C - (i + 1), by omega, i + 1, rfl, by omega, by rw [hnum]⟩
                    · generalize i % C = a at *
                      generalize i / C = b at *
                      have wq : IntKind.i64.wrap (b : Int) = b := wrap_id (by omega) (by omega)
                      have wa : IntKind.i64.wrap (c + (a : Int)) = c + a := wrap_id (by omega) (by omega)
                      have wb : IntKind.i64.wrap (r + (b : Int)) = r + b := wrap_id (by omega) (by omega)
                      simp -dsimp only [↓VWP_seq, ↓VWP_region, ↓VWP_cond, ↓VWP_skip, ↓VWP_block, ↓VWP_open, ↓VReg_one, ↓VReg_nil, ↓VS_move, ↓VS_binOp, ↓Hold_1, With_some, emap_nil, ↓eget_eset, ↓ae_tmp, asBool_bool, ↓reduceIte, Nat.reduceEqDiff, decide_true, vbin_int, abin_lss, decide_true, e12, e14, hlt]
                      refine Vc_open [[], [], [], [], [], [], [], [], [], [], [], [], [], [], [], [], [], [], [], [], [], [], [], [], [], [], [], [], [], [], [], [], [], [], [], [], [], [], [], [], [], [], [], [], [], []] false (by kernel_rfl) (by kernel_rfl) (by kernel_rfl) ?_
                      simp -dsimp only [↓Hold_5, ↓VWP_region, ↓VWP_cond, ↓VWP_skip, ↓VReg_one, ↓VReg_nil, ↓VS_guard, ↓VS_move, ↓VS_assign, ↓VS_pick, ↓VS_build, ↓VS_load, ↓VS_binOp, ↓VS_unOp, ↓VS_fieldAddr, ↓VS_indexAddr, ↓Hold_1, ↓Hold_3, With_some, emap_nil, ↓eget_eset, ↓ae_tmp, ↓ae_int, ↓ae_bool, lop_pick, lop_not, asBool_bool, asGuard_bool, bb_ft, ayielded_eq, ↓dstAt_zero, ↓dstAt_succ, light, Option.map_some, Option.bind_some, ↓reduceIte, Nat.reduceEqDiff, Bool.false_eq_true, decide_false, Bool.not_true, Bool.not_false, List.getElem?_cons_zero, List.getElem?_cons_succ, Nat.zero_add, Nat.add_zero, Nat.reduceAdd, Nat.reduceLeDiff, and_true, true_and, and_self, List.map_cons, List.map_nil, List.all_cons, List.all_nil, tup_int, cel_int, tup_str, cel_str, cel_agg, List.drop_zero, List.toList_toArray, List.size_toArray, List.length_cons, List.length_nil, List.all_nil, List.all_cons, List.nil_append, List.cons_append, List.map_nil, List.map_cons, Bool.and_self, Bool.not_true, Bool.not_false, beq_self_eq_true, vget_nil, cellsIn_mk, List.getD_cons_zero, List.getD_cons_succ, List.set_cons_zero, List.set_cons_succ, List.length_cons, List.length_nil, List.drop_zero, List.take_succ_cons, List.take_zero, vload_at, aggV_agg, vbin_int, abin_gtr, abin_add, beq_self_eq_true, Int.toNat_natCast, gt_iff_lt, decide_false, beq_self_eq_true, bb_ft, afill, setAll, ↓VE_nil, ↓VE_one0, List.reverse_cons, List.reverse_nil, vgt23, vld3, vld9, vld26, vfp23_1, vfp23_2, vfp23_0, bd23, pl23_0, pl23_1, pl23_2, vis35, ↓vfk26, e1, e4, e7, e10, e11, e12, e14, ↓vr, h0, hgi, hii, ab_rem2 hC0, ab_quo2 hC0, hr, hq, wq, wa, wb, cell_ne, hev, hz, hwr]
                      exact ⟨R * C - (i + 1), by omega, i + 1, rfl, by omega, by rw [hnum]⟩
                  · have hlt : ¬ (i : Int) < (C : Int) * R := by omega
                    have hc := fun S K => has_c true L (by omega) z x y (S := S) (K := K)
                    have hv := fun S K => vr z x y S K
                    rw [hH] at hv
                    simp -dsimp only [↓VWP_seq, ↓VWP_region, ↓VWP_cond, ↓VWP_exit, ↓VWP_open, ↓VReg_one, ↓VReg_nil, ↓VS_move, ↓VS_binOp, ↓Hold_1, ↓Hold_3, With_some, emap_nil, ↓eget_eset, ↓ae_tmp, asBool_bool, ↓reduceIte, Nat.reduceEqDiff, Bool.false_eq_true, decide_false, vbin_int, abin_lss, decide_false, e12, e14, hlt]
                    refine Vc_open [[], [], [], [], [0], [], [], []] true (by kernel_rfl) (by kernel_rfl) (by kernel_rfl) ?_
                    simp -dsimp only [↓Hold_5, ↓VWP_ret, ↓VS_move, ↓VS_assign, ↓VS_load, ↓VS_binOp, ↓With_guard, ↓Hold_1, ↓Hold_3, With_some, emap_nil, ↓eget_eset, ↓ae_tmp, light, ↓vfinish_ret, ↓vres_nil, ↓vres_tmp, vtell_eq, ret1, Option.map_some, Option.bind_some, ↓reduceIte, Nat.reduceEqDiff, Bool.false_eq_true, decide_true, decide_false, Bool.not_false, List.getElem?_cons_zero, List.getElem?_cons_succ, Nat.zero_add, Nat.reduceAdd, Nat.reduceLeDiff, and_self, List.map_cons, List.map_nil, List.all_cons, List.all_nil, Bool.and_true, List.drop_zero, List.toList_toArray, List.length_cons, List.length_nil, mapOwn_bool, okv_bool, List.all_nil, List.all_cons, List.append_nil, List.nil_append, List.cons_append, List.map_nil, List.map_cons, Bool.and_true, Bool.and_self, Bool.not_false, Bool.or_false, beq_self_eq_true, vget_nil, cellsIn_mk, List.getD_cons_zero, List.getD_cons_succ, List.length_cons, List.length_nil, List.drop_zero, List.take_succ_cons, List.take_zero, vbin_bool, beq_self_eq_true, decide_true, decide_false, beq_self_eq_true, ↓VE_nil, ↓VE_one0, ↓VE_one1, ↓shade_one, shade_load, shade_move, shade_call, ↓vobl_load, dep_box, isGone_agg, depStep_box, vspan, List.range_succ, List.range_zero, Bool.or_true, Nat.min_def, Nat.max_def, List.reverse_cons, List.reverse_nil, vld23, vld26, ↓vfk26, ↓vfk30, Tryd.results4, e7, e10, e11, ↓hv, ↓hc, ab_beq2, beq_self_eq_true]
end Go.Proofs.YtmdpggecelheoaaDoor.Abs
/- The library's contracts at this program, printed by the shelf's own tool in plain words. -/
namespace Go.Proofs
open Go.Shelf
def Tryd.lays217_ren : Go.Shelf.Ren := ⟨fun | 217 => 134 | 266 => 161 | n => n, fun | 9 => 9 | 5 => 5 | 3 => 3 | n => n, fun | n => n⟩
theorem Tryd.lays217 : Go.Proofs.Lays.n217 Tryd.prog Tryd.lays217_ren := {
  mixed := by kernel_rfl
  f217 := Tryd.func134.trans (congrArg some (by kernel_rfl))
  f266 := Tryd.func161.trans (congrArg some (by kernel_rfl))
  t3 := Tryd.underlying3
  a3 := Tryd.isAgg3
  z3 := Tryd.sizeOf3
  v3 := Tryd.zeroValue3
  t5 := Tryd.underlying5
  a5 := Tryd.isAgg5
  z5 := Tryd.sizeOf5
  v5 := Tryd.zeroValue5
  t9 := Tryd.underlying9
  a9 := Tryd.isAgg9
  z9 := Tryd.sizeOf9
  v9 := Tryd.zeroValue9 }
open Go.RowKit Go.Lib in
/-- internal/stringslite.IndexByte (what strings.IndexByte calls): IT RETURNS 'Lib.indexByte s c'; the world is as it was. (LAID: no walk: one application.) -/
theorem Tryd.stringslite_IndexByte (s : ByteArray) (c : Int) (w : World) :
    Calls Tryd.prog 134 #[.string s, .int .u8 c] w fun e w' => e = .returned (.int .i64 (Lib.indexByte s.data.toList c.toNat.toUInt8)) ∧ w' = w := Any.stringslite_IndexByte Tryd.lays217 s c w
end Go.Proofs
/- What a row of numbers needs. -/
namespace Go.Proofs.YtmdpggecelheoaaDoor.Abs
open Go
end Go.Proofs.YtmdpggecelheoaaDoor.Abs
/- The law AddrIn over the plain heap; what is given from outside is sound; cells as arguments. -/
set_option linter.unusedVariables false
namespace Go.Proofs.YtmdpggecelheoaaDoor.Abs
open Go Go.RowKit
noncomputable def XI : Outer := fun f => if f = 134 then some ixG else none
theorem xi_sound (B : Nat) (w0 : World) : XSound Tryd.prog B w0 XI := by
  intro f g hg
  unfold XI at hg
  split at hg
  · rename_i hf
    subst hf
    cases hg
    exact ix_sound Tryd.stringslite_IndexByte
  · cases hg
theorem addr_alive : ansIs (run Tryd.prog XI 100 12 [] ⟨0, []⟩) (.bool true) = true := by kernel_rfl
theorem ya_sound (mixed : Tryd.prog.follows .mixedOrders = true) {B : Nat} {w0 : World} : XSound Tryd.prog B w0 YA := by
  intro f g hg
  unfold YA at hg
  split at hg
  · rename_i hf
    subst hf
    cases hg
    exact true_sound mixed xi_sound addr_alive _ _
  · cases hg
theorem okWide_aggv {P : Program} {w : World} {r : Reach} {base : Nat} {t : TypeId} {v : Value} {fs : Array Field} (ht : P.underlying t = some (.struct fs)) (h : Value.okWide P w r base t v) : ∃ cs, v = .agg cs := by
  simp only [Value.okWide, ht] at h
  obtain ⟨cs, h1, _⟩ := h
  exact ⟨cs, h1⟩
def CcSh : List Sh := [.str, .int .i64, .int .i64]
theorem cc_shape : shapeT Tryd.prog 8 23 = some CcSh := by kernel_rfl
theorem cc_vals {t : List Value} (h : shapes CcSh t) : ∃ x : CC, t = [.string x.s, .int .i64 x.c, .int .i64 x.r] := by
  unfold CcSh at h
  obtain ⟨_, t0, rfl, ⟨x0, rfl, w0⟩, h0⟩ := shapes_cons h
  obtain ⟨_, t1, rfl, ⟨x1, rfl, w1⟩, h1⟩ := shapes_cons h0
  obtain ⟨_, t2, rfl, ⟨x2, rfl, w2⟩, h2⟩ := shapes_cons h1
  obtain rfl := shapes_nil h2
  exact ⟨⟨x0, x1, x2⟩, rfl⟩
theorem lawAI_df (x : CC) (w h : Int) (y : CC) {H : Hp} : Df Tryd.prog YA 4 [.agg [.string x.s, .int .i64 x.c, .int .i64 x.r].toArray, .int .i64 w, .int .i64 h, .agg [.string y.s, .int .i64 y.c, .int .i64 y.r].toArray] H fun r _ => r = .bool true :=
  Vf_Df xa_ok (lawAI x.s x.c x.r w h y.s y.c y.r) (.cons (.of_flat 8 _ rfl) (.cons (.int _ _) (.cons (.int _ _) (.cons (.of_flat 8 _ rfl) .nil))))
end Go.Proofs.YtmdpggecelheoaaDoor.Abs
/- The law AddrIn holds, and its tied card: just the cells of a range are in it, each once, row by row; each argument reads behind the call as it read before. Condition: the listed package-level variables start as the program's text lays them, which the given tie shows. -/
namespace Go.Proofs.YtmdpggecelheoaaDoor.addrIn
open Go Go.ChangeShapes Go.WideShapes Go.ChangeAt Go.RowKit
open Go
open Go.Proofs.YtmdpggecelheoaaDoor.Abs
set_option linter.unusedVariables false
theorem own : ownKnob Tryd.prog.godebug = none := by kernel_rfl
theorem laidOut : laidOutB Tryd.prog = true := by kernel_rfl
theorem mixed : Tryd.prog.follows .mixedOrders = true := Checked.mixed Tryd.checked
set_option maxRecDepth 100000
theorem door_met (os : Os) (args : Array Value) : laidMetH Tryd.prog Rows.addrInRow.laid ((World.laidAll Tryd.prog os Rows.addrInRow.laid).forCall (fun _ _ => 0) ⟨#[], args, []⟩).memory :=
  show laidMet Tryd.prog Rows.addrInRow.laid _ from laidMet_laidAll args (by kernel_rfl) (by kernel_rfl)
theorem lifted (os : Os) (started : os.Started) (H : Type) (enc : TypeId × Value → H) :
    ReturnsInHanded {} Tryd.checked os 4 .any (fun w args => (Rows.addrInSpec.pre enc Tryd.prog Tryd.f4 [] false w args ∧ laidMetH Tryd.prog Rows.addrInRow.laid w) ∧ sizedMet enc Tryd.prog Tryd.f4 (OpenSpec.ofChange Rows.addrInSpec) false w args)
      (Rows.addrInSpec.post enc Tryd.prog Tryd.f4 false true false false) := by
  refine returnsInHanded_of_change_and (C := Tryd.checked) (X := fun w _ => laidMetH Tryd.prog Rows.addrInRow.laid w) (fun _ _ _ hh h => h.of_heap hh) own started (by kernel_rfl) Tryd.func4
    (ChangeSpec.witness_shaped (enc := enc) (C := Tryd.checked) (os := os) (X := fun w _ => laidMetH Tryd.prog Rows.addrInRow.laid w) false (World.laidAll Tryd.prog os Rows.addrInRow.laid) #[.agg #[.string .empty, .int .i64 0, .int .i64 0], .int .i64 0, .int .i64 0, .agg #[.string .empty, .int .i64 0, .int .i64 0]] 8 (World.laidAll_os _ _ _) (World.shaped_of_RefB (by kernel_rfl) (by kernel_rfl)) (by kernel_rfl) (by kernel_rfl) (by kernel_rfl) (door_met os _)) ?_
  intro W base args ds gs before hval0 hW _ _ hL _
  have hval : ∀ (j : Nat) t v, Tryd.f4.params[j]? = some t → args[j]? = some v → Value.okWide Tryd.prog W .any base t v := hval0
  have hW' := hW
  obtain ⟨p, q, hA0, hV, rfl, hfz, hnd⟩ := hW
  have hA : DataW.TrodAll enc Tryd.prog W 0 (fun _ => true) true Tryd.f4.params.toList args.toList ds p := hA0
  rw [Tryd.params4] at hA hval
  obtain ⟨v0, vs0, d0, ds0, p0, q0, hargs, rfl, rfl, h0, r0⟩ := trodAll_cons hA
  obtain ⟨v1, vs1, d1, ds1, p1, q1, rfl, rfl, rfl, h1, r1⟩ := trodAll_cons r0
  obtain ⟨v2, vs2, d2, ds2, p2, q2, rfl, rfl, rfl, h2, r2⟩ := trodAll_cons r1
  obtain ⟨v3, vs3, d3, ds3, p3, q3, rfl, rfl, rfl, h3, r3⟩ := trodAll_cons r2
  obtain ⟨rfl, rfl, rfl⟩ := trodAll_nil r3
  obtain rfl : args = #[v0, v1, v2, v3] := by cases args; simp_all
  obtain ⟨rfl, rfl⟩ := trodVars_none hV
  obtain ⟨cs0, rfl⟩ := okWide_aggv Tryd.underlying23 (hval 0 23 v0 rfl rfl)
  obtain ⟨a1, rfl, rfl, rfl, w1⟩ := open_int Tryd.underlying3 (hval 1 3 v1 rfl rfl) h1
  obtain ⟨a2, rfl, rfl, rfl, w2⟩ := open_int Tryd.underlying3 (hval 2 3 v2 rfl rfl) h2
  obtain ⟨cs3, rfl⟩ := okWide_aggv Tryd.underlying23 (hval 3 23 v3 rfl rfl)
  have k0 := h0
  have lt0 : ∀ x ∈ p0, x.block < W.heap.size := by obtain ⟨m, hm⟩ := k0; exact DataW.trod_lt m _ _ _ hm
  have k3 := h3
  have lt3 : ∀ x ∈ p3, x.block < W.heap.size := by obtain ⟨m, hm⟩ := k3; exact DataW.trod_lt m _ _ _ hm
  clear hA0 hval0
  obtain ⟨ψ0, H0, acs0, x0, hle0, -, hR0, hv0, hx0, hs0⟩ := arg_agg (opens_shape 8 23 CcSh cc_shape) h0 (rel_start W)
  obtain ⟨ψ3, H3, acs3, x3, hle3, -, hR3, hv3, hx3, hs3⟩ := arg_agg (opens_shape 8 23 CcSh cc_shape) h3 hR0
  obtain ⟨v0, rfl⟩ := cc_vals hs0
  obtain ⟨v3, rfl⟩ := cc_vals hs3
  refine (law_calls mixed (ya_sound mixed) hR3 (.cons (hv0.mono hle3) (.cons (.int _ _) (.cons (.int _ _) (VRs_one hv3)))) (lawAI_df v0 _ _ v3)).mono fun e W' ⟨he, bel⟩ => ?_
  subst he
  exact ⟨_, rfl, _, _, _, [], _, [], hW', trodAll_mk1 (shut_bool Tryd.underlying4 _), (trodAll_cons_mk (Below.trod laidOut (by kernel_rfl) (of_decide_eq_true (by kernel_rfl)) k0 bel lt0) (trodAll_cons_mk (shut_int Tryd.underlying3 w1) (trodAll_cons_mk (shut_int Tryd.underlying3 w2) (trodAll_cons_mk (Below.trod laidOut (by kernel_rfl) (of_decide_eq_true (by kernel_rfl)) k3 bel lt3) trodAll_mk0)))), rfl, bel.frame _, fun h => by cases h⟩
theorem over : Rows.addrInRow.holds Tryd.pinned (OpenSpec.ofChange Rows.addrInSpec) :=
  OpenClaim.holds_of_wide 4 Tryd.f4 rfl rfl rfl rfl rfl rfl rfl ⟨rfl, rfl, rfl, rfl, rfl⟩ rfl rfl rfl rfl rfl (by kernel_rfl) Tryd.func4 (by kernel_rfl)
    (of_decide_eq_true (by kernel_rfl)) (by unfold Func.isWrapper; first | (rw [if_pos (by decide +kernel)]; kernel_rfl) | (rw [if_neg (by decide +kernel)]; exact ⟨rfl, rfl⟩))
    (fun os started H enc _ => lifted os started H enc)
end Go.Proofs.YtmdpggecelheoaaDoor.addrIn
namespace Go.Proofs.YtmdpggecelheoaaDoor
open Go
theorem addrIn_card : Rows.AddrInCardSaid :=
  Claim7.holds_tied_plain_at .later [] [.data, .data, .data, .sentinel, .sentinel] true (true, "3d4ef65ab9cb1b75a723f3501e7fecd5e6bcfd19ffc8ca5416c74e0e57128058") true
    addrIn.over (fun _ h => by cases h) (by kernel_rfl) (fun _ h => by cases h) addrIn_row_tie rfl ⟨rfl, rfl⟩ (by kernel_rfl) rfl
    (fun f fn hf hfn => by
      obtain rfl : f = 4 := Option.some.inj ((show Tryd.prog.funcNamed "abacist/abacistlaw3.AddrIn" = some 4 by kernel_rfl).symm.trans hf) |>.symm
      obtain rfl : fn = Tryd.f4 := (Option.some.inj (Tryd.func4.symm.trans hfn)).symm
      exact ⟨by kernel_rfl, fun j t ht => by
        rw [Tryd.params4] at ht
        have hm : t ∈ [23, 3] := by first | simpa using Array.mem_of_getElem? ht | (have h9 := Array.mem_of_getElem? ht; simp at h9 ⊢; rcases h9 with h9 | h9 | h9 <;> simp [h9]) | (have h9 := Array.mem_of_getElem? ht; simp at h9 ⊢; rcases h9 with h9 | h9 <;> simp [h9]) | (have h9 := Array.mem_of_getElem? ht; simp at h9 ⊢; rcases h9 with h9 | h9 | h9 | h9 <;> simp [h9]) | (have h9 := Array.mem_of_getElem? ht; simp at h9 ⊢; rcases h9 with h9 | h9 | h9 | h9 | h9 <;> simp [h9])
        have hall : ([23, 3].all fun u => !Tryd.prog.wantsStandIn u) = true := by kernel_rfl
        exact (show Tryd.prog.wantsStandIn t = false by simpa using List.all_eq_true.1 hall t hm)⟩)
    (by kernel_rfl)
#print axioms addrIn_card
end Go.Proofs.YtmdpggecelheoaaDoor
