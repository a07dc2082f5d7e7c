/- Tokens: letters, digits, runs and signs; the program and the reference. -/
import Derived.Test.YtmdpggecelheoaaMW9
import Derived.Test.YtmdpggecelheoaaPVTF
import Derived.Lib.IndexLaws
import Derived.Test.YtmdpggecelheoaaMI1
set_option linter.unusedVariables false
set_option linter.unusedSimpArgs false
set_option maxRecDepth 4000
set_option maxHeartbeats 0
namespace Go.Proofs.Ytmdpggecelheoaa.Abs
open Go
attribute [local irreducible] Hold VReg Vf Vc VWP With VStp Vcallee Vp VE
def digB (n : Int) : Bool := decide (48 ≤ n) && decide (n ≤ 57)
def grtB (n : Int) : Bool := decide (65 ≤ n) && decide (n ≤ 90)
def smlB (n : Int) : Bool := decide (97 ≤ n) && decide (n ≤ 122)
def gdB (n : Int) : Bool := grtB n || digB n
def sdB (n : Int) : Bool := smlB n || digB n
theorem tba_get {s : ByteArray} {i : Nat} (h : i < s.size) : ∃ b, s[i]? = some b := ⟨s[i], getElem?_pos s i h⟩
theorem tba_at (s : ByteArray) (i : Nat) : s[i]? = s.data.toList[i]? := by
  rw [Array.getElem?_toList]
  rcases Nat.lt_or_ge i s.size with h | h
  · rw [getElem?_pos s i h, getElem?_pos s.data i h]; rfl
  · rw [getElem?_neg s i (by omega), getElem?_neg s.data i (by exact Nat.not_lt.2 h)]
section
variable {X : VOuter}
theorem dig_p (hX : X 15 = none) (n : Int) : Vp Try.prog X 15 [.int .u8 n] (.bool (digB n)) := by
  unfold Vp
  refine Vf_text hX Try.func15 rfl (by kernel_rfl) (by show 1 ≤ _; decide) ?_
  by_cases h1 : 48 ≤ n <;> by_cases h2 : n ≤ 57 <;> simp -dsimp only [↓VWP_seq, ↓VWP_region, ↓VWP_ret, ↓VReg_one, ↓VReg_nil, ↓VS_guard, ↓VS_move, ↓VS_assign, ↓VS_pick, ↓VS_binOp, ↓With_guard, ↓Hold_1, With_some, emap_nil, ↓eget_eset, ↓ae_tmp, ↓ae_int, ↓ae_bool, eget_zero, lop_pick, asGuard_bool, bb_ft, ayielded_eq, ↓dstAt_zero, ↓dstAt_succ, ↓vfinish_ret, ↓vres_nil, ↓vres_tmp, vtell_eq, ret1, Option.map_some, Option.bind_some, ↓reduceIte, Nat.reduceEqDiff, reduceCtorEq, Bool.false_eq_true, decide_true, decide_false, true_and, List.toList_toArray, List.length_nil, mapOwn_bool, toks_bool, okv_bool, beq_self_eq_true, vthaw_nil, vwrites_nil, List.length_nil, vbin_int, abin_leq, abin_geq, beq_self_eq_true, ge_iff_le, decide_true, decide_false, beq_self_eq_true, bb_ft, Try.results15, h1, h2] <;> simp [digB, h1, h2]
theorem grt_p (hX : X 17 = none) (n : Int) : Vp Try.prog X 17 [.int .u8 n] (.bool (grtB n)) := by
  unfold Vp
  refine Vf_text hX Try.func17 rfl (by kernel_rfl) (by show 1 ≤ _; decide) ?_
  by_cases h1 : 65 ≤ n <;> by_cases h2 : n ≤ 90 <;> simp -dsimp only [↓VWP_seq, ↓VWP_region, ↓VWP_ret, ↓VReg_one, ↓VReg_nil, ↓VS_guard, ↓VS_move, ↓VS_assign, ↓VS_pick, ↓VS_binOp, ↓With_guard, ↓Hold_1, With_some, emap_nil, ↓eget_eset, ↓ae_tmp, ↓ae_int, ↓ae_bool, eget_zero, lop_pick, asGuard_bool, bb_ft, ayielded_eq, ↓dstAt_zero, ↓dstAt_succ, ↓vfinish_ret, ↓vres_nil, ↓vres_tmp, vtell_eq, ret1, Option.map_some, Option.bind_some, ↓reduceIte, Nat.reduceEqDiff, reduceCtorEq, Bool.false_eq_true, decide_true, decide_false, true_and, List.toList_toArray, List.length_nil, mapOwn_bool, toks_bool, okv_bool, beq_self_eq_true, vthaw_nil, vwrites_nil, List.length_nil, vbin_int, abin_leq, abin_geq, beq_self_eq_true, ge_iff_le, decide_true, decide_false, beq_self_eq_true, bb_ft, Try.results17, h1, h2] <;> simp [grtB, h1, h2]
theorem sml_p (hX : X 19 = none) (n : Int) : Vp Try.prog X 19 [.int .u8 n] (.bool (smlB n)) := by
  unfold Vp
  refine Vf_text hX Try.func19 rfl (by kernel_rfl) (by show 1 ≤ _; decide) ?_
  by_cases h1 : 97 ≤ n <;> by_cases h2 : n ≤ 122 <;> simp -dsimp only [↓VWP_seq, ↓VWP_region, ↓VWP_ret, ↓VReg_one, ↓VReg_nil, ↓VS_guard, ↓VS_move, ↓VS_assign, ↓VS_pick, ↓VS_binOp, ↓With_guard, ↓Hold_1, With_some, emap_nil, ↓eget_eset, ↓ae_tmp, ↓ae_int, ↓ae_bool, eget_zero, lop_pick, asGuard_bool, bb_ft, ayielded_eq, ↓dstAt_zero, ↓dstAt_succ, ↓vfinish_ret, ↓vres_nil, ↓vres_tmp, vtell_eq, ret1, Option.map_some, Option.bind_some, ↓reduceIte, Nat.reduceEqDiff, reduceCtorEq, Bool.false_eq_true, decide_true, decide_false, true_and, List.toList_toArray, List.length_nil, mapOwn_bool, toks_bool, okv_bool, beq_self_eq_true, vthaw_nil, vwrites_nil, List.length_nil, vbin_int, abin_leq, abin_geq, beq_self_eq_true, ge_iff_le, decide_true, decide_false, beq_self_eq_true, bb_ft, Try.results19, h1, h2] <;> simp [smlB, h1, h2]
theorem rdig_p (hX : X 10 = none) (n : Int) : Vp Try.prog X 10 [.int .u8 n] (.bool (digB n)) := by
  unfold Vp
  refine Vf_text hX Try.func10 rfl (by kernel_rfl) (by show 1 ≤ _; decide) ?_
  by_cases h1 : 48 ≤ n <;> by_cases h2 : n ≤ 57 <;> simp -dsimp only [↓VWP_seq, ↓VWP_region, ↓VWP_ret, ↓VReg_one, ↓VReg_nil, ↓VS_guard, ↓VS_move, ↓VS_assign, ↓VS_pick, ↓VS_binOp, ↓With_guard, ↓Hold_1, With_some, emap_nil, ↓eget_eset, ↓ae_tmp, ↓ae_int, ↓ae_bool, eget_zero, lop_pick, asGuard_bool, bb_ft, ayielded_eq, ↓dstAt_zero, ↓dstAt_succ, ↓vfinish_ret, ↓vres_nil, ↓vres_tmp, vtell_eq, ret1, Option.map_some, Option.bind_some, ↓reduceIte, Nat.reduceEqDiff, reduceCtorEq, Bool.false_eq_true, decide_true, decide_false, true_and, List.toList_toArray, List.length_nil, mapOwn_bool, toks_bool, okv_bool, beq_self_eq_true, vthaw_nil, vwrites_nil, List.length_nil, vbin_int, abin_leq, abin_geq, beq_self_eq_true, ge_iff_le, decide_true, decide_false, beq_self_eq_true, bb_ft, Try.results10, h1, h2] <;> simp [digB, h1, h2]
theorem rgrt_p (hX : X 11 = none) (n : Int) : Vp Try.prog X 11 [.int .u8 n] (.bool (grtB n)) := by
  unfold Vp
  refine Vf_text hX Try.func11 rfl (by kernel_rfl) (by show 1 ≤ _; decide) ?_
  by_cases h1 : 65 ≤ n <;> by_cases h2 : n ≤ 90 <;> simp -dsimp only [↓VWP_seq, ↓VWP_region, ↓VWP_ret, ↓VReg_one, ↓VReg_nil, ↓VS_guard, ↓VS_move, ↓VS_assign, ↓VS_pick, ↓VS_binOp, ↓With_guard, ↓Hold_1, With_some, emap_nil, ↓eget_eset, ↓ae_tmp, ↓ae_int, ↓ae_bool, eget_zero, lop_pick, asGuard_bool, bb_ft, ayielded_eq, ↓dstAt_zero, ↓dstAt_succ, ↓vfinish_ret, ↓vres_nil, ↓vres_tmp, vtell_eq, ret1, Option.map_some, Option.bind_some, ↓reduceIte, Nat.reduceEqDiff, reduceCtorEq, Bool.false_eq_true, decide_true, decide_false, true_and, List.toList_toArray, List.length_nil, mapOwn_bool, toks_bool, okv_bool, beq_self_eq_true, vthaw_nil, vwrites_nil, List.length_nil, vbin_int, abin_leq, abin_geq, beq_self_eq_true, ge_iff_le, decide_true, decide_false, beq_self_eq_true, bb_ft, Try.results11, h1, h2] <;> simp [grtB, h1, h2]
theorem rsml_p (hX : X 12 = none) (n : Int) : Vp Try.prog X 12 [.int .u8 n] (.bool (smlB n)) := by
  unfold Vp
  refine Vf_text hX Try.func12 rfl (by kernel_rfl) (by show 1 ≤ _; decide) ?_
  by_cases h1 : 97 ≤ n <;> by_cases h2 : n ≤ 122 <;> simp -dsimp only [↓VWP_seq, ↓VWP_region, ↓VWP_ret, ↓VReg_one, ↓VReg_nil, ↓VS_guard, ↓VS_move, ↓VS_assign, ↓VS_pick, ↓VS_binOp, ↓With_guard, ↓Hold_1, With_some, emap_nil, ↓eget_eset, ↓ae_tmp, ↓ae_int, ↓ae_bool, eget_zero, lop_pick, asGuard_bool, bb_ft, ayielded_eq, ↓dstAt_zero, ↓dstAt_succ, ↓vfinish_ret, ↓vres_nil, ↓vres_tmp, vtell_eq, ret1, Option.map_some, Option.bind_some, ↓reduceIte, Nat.reduceEqDiff, reduceCtorEq, Bool.false_eq_true, decide_true, decide_false, true_and, List.toList_toArray, List.length_nil, mapOwn_bool, toks_bool, okv_bool, beq_self_eq_true, vthaw_nil, vwrites_nil, List.length_nil, vbin_int, abin_leq, abin_geq, beq_self_eq_true, ge_iff_le, decide_true, decide_false, beq_self_eq_true, bb_ft, Try.results12, h1, h2] <;> simp [smlB, h1, h2]
theorem dig_c (hX : X 15 = none) (n : Int) (S : VH) (K : VCont) : Vcallee Try.prog X 15 [.int .u8 n] S K = K (.bool (digB n)) [] S [] false := Vcallee_of (dig_p hX n) rfl rfl rfl
theorem grt_c (hX : X 17 = none) (n : Int) (S : VH) (K : VCont) : Vcallee Try.prog X 17 [.int .u8 n] S K = K (.bool (grtB n)) [] S [] false := Vcallee_of (grt_p hX n) rfl rfl rfl
theorem sml_c (hX : X 19 = none) (n : Int) (S : VH) (K : VCont) : Vcallee Try.prog X 19 [.int .u8 n] S K = K (.bool (smlB n)) [] S [] false := Vcallee_of (sml_p hX n) rfl rfl rfl
theorem rdig_c (hX : X 10 = none) (n : Int) (S : VH) (K : VCont) : Vcallee Try.prog X 10 [.int .u8 n] S K = K (.bool (digB n)) [] S [] false := Vcallee_of (rdig_p hX n) rfl rfl rfl
theorem rgrt_c (hX : X 11 = none) (n : Int) (S : VH) (K : VCont) : Vcallee Try.prog X 11 [.int .u8 n] S K = K (.bool (grtB n)) [] S [] false := Vcallee_of (rgrt_p hX n) rfl rfl rfl
theorem rsml_c (hX : X 12 = none) (n : Int) (S : VH) (K : VCont) : Vcallee Try.prog X 12 [.int .u8 n] S K = K (.bool (smlB n)) [] S [] false := Vcallee_of (rsml_p hX n) rfl rfl rfl
theorem gd_c (hX : X 18 = none) (hd : X 15 = none) (hg : X 17 = none) (n : Int) (S : VH) (K : VCont) : Vcallee Try.prog X 18 [.int .u8 n] S K = K (.bool (gdB n)) [] S [] false := by
  refine Vcallee_of ?_ rfl rfl rfl
  unfold Vp
  refine Vf_text hX Try.func18 rfl (by kernel_rfl) (by show 1 ≤ _; decide) ?_
  cases h1 : grtB n <;> cases h2 : digB n <;> simp -dsimp only [↓Hold_5, ↓VWP_seq, ↓VWP_region, ↓VWP_ret, ↓VReg_one, ↓VReg_nil, ↓VS_guard, ↓VS_move, ↓VS_assign, ↓VS_pick, ↓With_guard, ↓Hold_1, With_some, emap_nil, ↓eget_eset, ↓ae_tmp, ↓ae_bool, eget_zero, lop_pick, asGuard_bool, bb_tf, ayielded_eq, ↓dstAt_zero, ↓dstAt_succ, ↓vfinish_ret, ↓vres_nil, ↓vres_tmp, vtell_eq, ret1, Option.map_some, Option.bind_some, ↓reduceIte, Nat.reduceEqDiff, reduceCtorEq, Bool.false_eq_true, true_and, List.map_cons, List.map_nil, List.toList_toArray, List.length_nil, mapOwn_bool, mapOwn_int, mapOwnL_nil, mapOwnL_cons, toks_bool, okv_bool, List.map_nil, List.map_cons, beq_self_eq_true, vthaw_nil, vwrites_nil, List.length_nil, beq_self_eq_true, beq_self_eq_true, bb_tf, ↓vfk17, ↓vfk15, Try.results18, ↓dig_c hd, ↓grt_c hg, h1, h2] <;> simp [gdB, h1, h2]
theorem sd_c (hX : X 20 = none) (hd : X 15 = none) (hg : X 19 = none) (n : Int) (S : VH) (K : VCont) : Vcallee Try.prog X 20 [.int .u8 n] S K = K (.bool (sdB n)) [] S [] false := by
  refine Vcallee_of ?_ rfl rfl rfl
  unfold Vp
  refine Vf_text hX Try.func20 rfl (by kernel_rfl) (by show 1 ≤ _; decide) ?_
  cases h1 : smlB n <;> cases h2 : digB n <;> simp -dsimp only [↓Hold_5, ↓VWP_seq, ↓VWP_region, ↓VWP_ret, ↓VReg_one, ↓VReg_nil, ↓VS_guard, ↓VS_move, ↓VS_assign, ↓VS_pick, ↓With_guard, ↓Hold_1, With_some, emap_nil, ↓eget_eset, ↓ae_tmp, ↓ae_bool, eget_zero, lop_pick, asGuard_bool, bb_tf, ayielded_eq, ↓dstAt_zero, ↓dstAt_succ, ↓vfinish_ret, ↓vres_nil, ↓vres_tmp, vtell_eq, ret1, Option.map_some, Option.bind_some, ↓reduceIte, Nat.reduceEqDiff, reduceCtorEq, Bool.false_eq_true, true_and, List.map_cons, List.map_nil, List.toList_toArray, List.length_nil, mapOwn_bool, mapOwn_int, mapOwnL_nil, mapOwnL_cons, toks_bool, okv_bool, List.map_nil, List.map_cons, beq_self_eq_true, vthaw_nil, vwrites_nil, List.length_nil, beq_self_eq_true, beq_self_eq_true, bb_tf, ↓vfk19, ↓vfk15, Try.results20, ↓dig_c hd, ↓sml_c hg, h1, h2] <;> simp [sdB, h1, h2]
/-- Where a run from place k on ends. -/
def runF (p : Int → Bool) (s : ByteArray) : Nat → Nat → Nat
  | 0, k => k
  | n + 1, k => match s[k]? with
    | some b => if p b.toNat then runF p s n (k + 1) else k
    | none => k
theorem runF_le (p : Int → Bool) (s : ByteArray) : ∀ n k, k ≤ s.size → k ≤ runF p s n k ∧ runF p s n k ≤ s.size
  | 0, k, h => ⟨Nat.le_refl _, h⟩
  | n + 1, k, h => by
    unfold runF
    cases hb : s[k]? with
    | none => exact ⟨Nat.le_refl _, h⟩
    | some b =>
      simp only
      split
      · have hk : k < s.size := by
          rcases Nat.lt_or_ge k s.size with h | h
          · exact h
          · rw [getElem?_neg s k (by omega)] at hb; cases hb
        have := runF_le p s n (k + 1) hk
        exact ⟨by omega, this.2⟩
      · exact ⟨Nat.le_refl _, h⟩
theorem runF_end (p : Int → Bool) (s : ByteArray) (n k : Nat) (h : s.size ≤ k) : runF p s n k = k := by
  cases n with
  | zero => rfl
  | succ n =>
    unfold runF
    rw [getElem?_neg s k (by omega)]
theorem run_p (hX : X 16 = none) (g : FuncId) (p : Int → Bool) (hg : funcOk Try.prog g = true) (hp : ∀ n S K, Vcallee Try.prog X g [.int .u8 n] S K = K (.bool (p n)) [] S [] false) (s : ByteArray) (k : Nat) (hk : k ≤ s.size) (hs : s.size ≤ 1000000) :
    Vp Try.prog X 16 [.string s, .int .i64 k, .func (.func g) #[] #[]] (.int .i64 (runF p s s.size k)) := by
  unfold Vp
  refine Vf_text hX Try.func16 rfl (by kernel_rfl) (by show 3 ≤ _; decide) ?_
  simp -dsimp only [↓VWP_seq, ↓VWP_region, ↓VWP_block, ↓VWP_loop, ↓VReg_one, ↓VReg_nil, ↓VS_assign, ↓Hold_1, With_some, emap_nil, ↓ae_int]
  refine Vc_loop (fun m e S => ∃ q : Nat, q ≤ s.size ∧ s.size ≤ q + m ∧ runF p s m q = runF p s s.size k ∧ eget e 0 = .string s ∧ eget e 1 = .int .i64 q ∧ eget e 2 = .func (.func g) #[] #[] ∧ S = ⟨[], [], []⟩) s.size ?_ ?_
  · refine ⟨k, hk, by omega, rfl, ?_, ?_, ?_, rfl⟩ <;> simp only [↓eget_eset, eget_zero, eget_succ, ↓reduceIte, Nat.reduceEqDiff, reduceCtorEq] <;> rfl
  · rintro m e S ⟨q, hq, hm, hF, e0, e1, e2, rfl⟩
    refine VWP_Vc _ _ _ _ ?_
    by_cases hlt : q < s.size
    · obtain ⟨m, rfl⟩ : ∃ n, m = n + 1 := ⟨m - 1, by omega⟩
      obtain ⟨b, hb⟩ := tba_get hlt
      have hqi : (q : Int) < s.size := by omega
      have h0 : (0 : Int) ≤ q := by omega
      have w1 : IntKind.i64.wrap ((q : Int) + 1) = (q : Int) + 1 := wrap_id (by omega) (by omega)
      simp only [runF, hb] at hF
      cases hpb : p b.toNat with
      | true =>
        rw [hpb, if_pos rfl] at hF
        simp -dsimp only [↓Hold_5, ↓VWP_seq, ↓VWP_region, ↓VWP_cond, ↓VWP_skip, ↓VWP_block, ↓VReg_one, ↓VReg_nil, ↓VS_guard, ↓VS_move, ↓VS_assign, ↓VS_pick, ↓VS_binOp, ↓VS_index, ↓VS_len, ↓VS_callv, ↓Hold_1, With_some, emap_nil, ↓eget_eset, ↓ae_tmp, ↓ae_int, lop_pick, asBool_bool, asGuard_bool, ayielded_eq, ↓dstAt_zero, ↓dstAt_succ, Option.map_some, Option.bind_some, ↓reduceIte, Nat.reduceEqDiff, reduceCtorEq, decide_true, and_true, true_and, and_self, List.map_cons, List.map_nil, List.append_nil, List.nil_append, List.map_nil, List.map_cons, beq_self_eq_true, vbin_int, asClo_fun, abin_lss, abin_add, beq_self_eq_true, Int.toNat_natCast, decide_true, beq_self_eq_true, ix9, vlr9, e0, e1, e2, hqi, h0, hb, asClo_fun, hg, ↓hp, hpb, w1]
        exact ⟨m, by omega, q + 1, by omega, by omega, hF, by rw [Int.natCast_add]; rfl⟩
      | false =>
        rw [hpb, if_neg (by simp)] at hF
        simp -dsimp only [↓Hold_5, ↓VWP_seq, ↓VWP_region, ↓VWP_cond, ↓VWP_ret, ↓VWP_exit, ↓VReg_one, ↓VReg_nil, ↓VS_guard, ↓VS_move, ↓VS_assign, ↓VS_pick, ↓VS_binOp, ↓VS_index, ↓VS_len, ↓VS_callv, ↓With_guard, ↓Hold_1, ↓Hold_3, With_some, emap_nil, ↓eget_eset, ↓ae_tmp, lop_pick, asBool_bool, asGuard_bool, ayielded_eq, ↓dstAt_zero, ↓dstAt_succ, ↓vfinish_ret, ↓vres_nil, ↓vres_tmp, vtell_eq, ret1, Option.map_some, Option.bind_some, ↓reduceIte, Nat.reduceEqDiff, reduceCtorEq, Bool.false_eq_true, decide_true, true_and, List.map_cons, List.map_nil, List.toList_toArray, List.length_nil, mapOwn_int, toks_int, okv_int, List.append_nil, List.nil_append, List.map_nil, List.map_cons, beq_self_eq_true, vthaw_nil, vwrites_nil, List.length_nil, vbin_int, asClo_fun, abin_lss, beq_self_eq_true, Int.toNat_natCast, decide_true, beq_self_eq_true, ix9, vlr9, Try.results16, e0, e1, e2, hqi, h0, hb, asClo_fun, hg, ↓hp, hpb]
        rw [hF]
    · have hqi : ¬ (q : Int) < s.size := by omega
      rw [runF_end p s m q (by omega)] at hF
      simp -dsimp only [↓VWP_seq, ↓VWP_region, ↓VWP_cond, ↓VWP_ret, ↓VWP_exit, ↓VReg_one, ↓VReg_nil, ↓VS_guard, ↓VS_move, ↓VS_assign, ↓VS_pick, ↓VS_binOp, ↓VS_len, ↓With_guard, ↓Hold_1, ↓Hold_3, With_some, emap_nil, ↓eget_eset, ↓ae_tmp, ↓ae_bool, lop_pick, asBool_bool, asGuard_bool, bb_ft, ayielded_eq, ↓dstAt_zero, ↓dstAt_succ, ↓vfinish_ret, ↓vres_nil, ↓vres_tmp, vtell_eq, ret1, Option.map_some, Option.bind_some, ↓reduceIte, Nat.reduceEqDiff, reduceCtorEq, Bool.false_eq_true, decide_false, true_and, List.toList_toArray, List.length_nil, mapOwn_int, toks_int, okv_int, vthaw_nil, vwrites_nil, List.length_nil, vbin_int, abin_lss, decide_false, bb_ft, vlr9, Try.results16, e0, e1, hqi]
      rw [hF]
/-! ### Signs -/
def eqS (a b : ByteArray) : Bool := a.toList == b.toList
theorem abin_eqS {P : Program} {t : TypeId} {x y : Operand} {s r : ByteArray} : abin P .eql t x y (.string s) (.string r) = some (.bool (eqS s r)) := rfl
def twoB (s : ByteArray) (k : Nat) : Bool := decide (k + 2 ≤ s.size) && (eqS (s.extract k (k + 2)) ⟨#[60, 62]⟩ || eqS (s.extract k (k + 2)) ⟨#[60, 61]⟩ || eqS (s.extract k (k + 2)) ⟨#[62, 61]⟩)
def signsL : List UInt8 := [43, 45, 42, 47, 38, 61, 60, 62, 40, 41, 44, 58, 33]
def sgB (b : UInt8) : Bool := signsL.contains b
/-- How long a sign at place k is. -/
def signF (s : ByteArray) (k : Nat) : Nat := if twoB s k then 2 else match s[k]? with | some b => if sgB b then 1 else 0 | none => 0
theorem ix_signs (b : UInt8) : decide (0 ≤ Lib.indexByte signsL b) = sgB b := by
  unfold sgB
  cases hc : signsL.contains b with
  | true =>
    rw [decide_eq_true_eq]
    refine Decidable.byContradiction fun h => ?_
    have := Lib.indexByte_ge signsL b
    have h1 := Lib.indexByte_none (l := signsL) (c := b) (by omega)
    obtain ⟨i, hi⟩ := List.getElem?_of_mem (List.contains_iff_mem.1 hc)
    exact h1 i hi
  | false =>
    rw [decide_eq_false_iff_not]
    intro h
    obtain ⟨o, ho⟩ : ∃ o : Nat, Lib.indexByte signsL b = o := ⟨(Lib.indexByte signsL b).toNat, by omega⟩
    have := (Lib.indexByte_some ho).1
    have : signsL.contains b = true := List.contains_iff_mem.2 (List.mem_of_getElem? this)
    rw [hc] at this
    cases this
theorem sign_p (hX : X 22 = none) (hix : ∀ (l : List UInt8) (n : Nat), n < 256 → ∀ S K, Vcallee Try.prog X 25 [.string ⟨l.toArray⟩, .int .u8 n] S K = K (.int .i64 (Lib.indexByte l (UInt8.ofNat n))) [] S [] false) (s : ByteArray) (k : Nat) (hk : k < s.size) (hs : s.size ≤ 1000000) :
    Vp Try.prog X 22 [.string s, .int .i64 k] (.int .i64 ((k + signF s k : Nat) : Int)) := by
  unfold Vp
  refine Vf_text hX Try.func22 rfl (by kernel_rfl) (by show 2 ≤ _; decide) ?_
  obtain ⟨b, hb⟩ := tba_get hk
  have h0 : (0 : Int) ≤ k := by omega
  have w1 : IntKind.i64.wrap ((k : Int) + 1) = (k : Int) + 1 := wrap_id (by omega) (by omega)
  have w2 : IntKind.i64.wrap ((k : Int) + 2) = (k : Int) + 2 := wrap_id (by omega) (by omega)
  have hkn : ((k : Int) + 2).toNat = k + 2 := by omega
  have hk2 : (k : Int) ≤ (k : Int) + 2 := by omega
  have hix' := hix signsL b.toNat b.toNat_lt
  rw [UInt8.ofNat_toNat] at hix'
  have hsl : (⟨signsL.toArray⟩ : ByteArray) = ⟨#[43, 45, 42, 47, 38, 61, 60, 62, 40, 41, 44, 58, 33]⟩ := rfl
  rw [hsl] at hix'
  have hsg := ix_signs b
  have fin : ∀ j : Nat, (k : Int) + j = ((k + j : Nat) : Int) := fun j => by omega
  by_cases h2 : (k : Int) + 2 ≤ s.size
  · have h2n : k + 2 ≤ s.size := by omega
    cases q1 : eqS (s.extract k (k + 2)) ⟨#[60, 62]⟩ <;> cases q2 : eqS (s.extract k (k + 2)) ⟨#[60, 61]⟩ <;> cases q3 : eqS (s.extract k (k + 2)) ⟨#[62, 61]⟩ <;> cases hc : sgB b <;> rw [hc] at hsg <;>
      simp -dsimp only [↓Hold_5, ↓VWP_seq, ↓VWP_region, ↓VWP_cond, ↓VWP_ret, ↓VWP_skip, ↓VWP_block, ↓VReg_one, ↓VReg_nil, ↓VS_move, ↓VS_assign, ↓VS_binOp, ↓VS_slice, ↓VS_index, ↓VS_len, ↓With_guard, ↓Hold_1, With_some, emap_nil, ↓eget_eset, ↓ae_tmp, ↓ae_int, ↓ae_string, eget_zero, eget_succ, asBool_bool, ↓vfinish_ret, ↓vres_nil, ↓vres_tmp, vtell_eq, ret1, Option.map_some, Option.bind_some, Option.map_none, ↓reduceIte, Nat.reduceEqDiff, reduceCtorEq, Bool.false_eq_true, decide_true, true_and, and_self, List.map_cons, List.map_nil, List.toList_toArray, List.length_nil, mapOwn_int, toks_int, okv_int, List.map_nil, List.map_cons, vthaw_nil, vwrites_nil, List.length_nil, vbin_int, vbin_string, abin_leq, abin_geq, abin_add, Int.toNat_natCast, ge_iff_le, decide_true, abound_some, ix9, vsl9, vlr9, ↓vfk25, Try.results22, abin_eqS, h2, w1, w2, hkn, hk2, h0, q1, q2, q3, hb, ↓hix', hsg] <;>
      simp [signF, twoB, q1, q2, q3, h2n, hb, hc]
  · have h2n : ¬ k + 2 ≤ s.size := by omega
    cases hc : sgB b <;> rw [hc] at hsg <;>
      simp -dsimp only [↓Hold_5, ↓VWP_seq, ↓VWP_region, ↓VWP_cond, ↓VWP_ret, ↓VWP_skip, ↓VReg_one, ↓VReg_nil, ↓VS_move, ↓VS_assign, ↓VS_binOp, ↓VS_index, ↓VS_len, ↓With_guard, ↓Hold_1, With_some, emap_nil, ↓eget_eset, ↓ae_tmp, ↓ae_int, ↓ae_string, eget_zero, eget_succ, asBool_bool, ↓vfinish_ret, ↓vres_nil, ↓vres_tmp, vtell_eq, ret1, Option.map_some, Option.bind_some, ↓reduceIte, Nat.reduceEqDiff, reduceCtorEq, Bool.false_eq_true, decide_false, true_and, List.map_cons, List.map_nil, List.toList_toArray, List.length_nil, mapOwn_int, toks_int, okv_int, List.map_nil, List.map_cons, vthaw_nil, vwrites_nil, List.length_nil, vbin_int, abin_leq, abin_geq, abin_add, Int.toNat_natCast, ge_iff_le, decide_false, ix9, vlr9, ↓vfk25, Try.results22, h2, w1, w2, h0, hb, ↓hix', hsg] <;>
      simp [signF, twoB, h2n, hb, hc]
theorem rsign_p (hX : X 14 = none) (s : ByteArray) (k : Nat) (hk : k < s.size) (hs : s.size ≤ 1000000) :
    Vp Try.prog X 14 [.string s, .int .i64 k] (.int .i64 (signF s k : Int)) := by
  unfold Vp
  refine Vf_text hX Try.func14 rfl (by kernel_rfl) (by show 2 ≤ _; decide) ?_
  obtain ⟨b, hb⟩ := tba_get hk
  have h0 : (0 : Int) ≤ k := by omega
  have w1 : IntKind.i64.wrap ((k : Int) + 1) = (k : Int) + 1 := wrap_id (by omega) (by omega)
  have w2 : IntKind.i64.wrap ((k : Int) + 2) = (k : Int) + 2 := wrap_id (by omega) (by omega)
  have hkn : ((k : Int) + 2).toNat = k + 2 := by omega
  have hk2 : (k : Int) ≤ (k : Int) + 2 := by omega
  have em : ∀ (x y : UInt8), eqS (⟨#[]⟩ : ByteArray) ⟨#[x, y]⟩ = false := fun x y => by unfold eqS; rw [ByteArray.toList_eq, ByteArray.toList_eq]; rfl
  have fnd : ∀ i : Nat, signsL[i]? = some b → sgB b = true := fun i h => List.contains_iff_mem.2 (List.mem_of_getElem? h)
  have nfd : (∀ j : Nat, j < 13 → signsL[j]? ≠ some b) → sgB b = false := fun h => by
    cases hc : sgB b with
    | false => rfl
    | true =>
      obtain ⟨j, hj⟩ := List.getElem?_of_mem (List.contains_iff_mem.1 hc)
      have hl : j < signsL.length := (List.getElem?_eq_some_iff.1 hj).1
      exact absurd hj (h j hl)
  have sz : (⟨#[43, 45, 42, 47, 38, 61, 60, 62, 40, 41, 44, 58, 33]⟩ : ByteArray).size = 13 := rfl
  have at' : ∀ i : Nat, (⟨#[43, 45, 42, 47, 38, 61, 60, 62, 40, 41, 44, 58, 33]⟩ : ByteArray)[i]? = signsL[i]? := fun i => tba_at _ i
  cases tw : twoB s k with
  | true =>
    have tw' := tw
    simp only [twoB, Bool.and_eq_true, decide_eq_true_eq] at tw
    obtain ⟨h2n, hq⟩ := tw
    have h2 : (k : Int) + 1 < s.size := by omega
    have h22 : (k : Int) + 2 ≤ s.size := by omega
    cases q1 : eqS (s.extract k (k + 2)) ⟨#[60, 62]⟩ <;> cases q2 : eqS (s.extract k (k + 2)) ⟨#[60, 61]⟩ <;> cases q3 : eqS (s.extract k (k + 2)) ⟨#[62, 61]⟩ <;> rw [q1, q2, q3] at hq <;>
      first | (cases hq; done) | (simp -dsimp only [↓VWP_seq, ↓VWP_region, ↓VWP_cond, ↓VWP_ret, ↓VReg_one, ↓VReg_nil, ↓VS_guard, ↓VS_move, ↓VS_assign, ↓VS_pick, ↓VS_binOp, ↓VS_slice, ↓VS_len, ↓With_guard, ↓Hold_1, With_some, emap_nil, ↓eget_eset, ↓ae_tmp, ↓ae_int, ↓ae_bool, ↓ae_string, eget_zero, eget_succ, lop_pick, asBool_bool, asGuard_bool, bb_tf, ayielded_eq, ↓dstAt_zero, ↓dstAt_succ, ↓vfinish_ret, ↓vres_nil, ↓vres_tmp, vtell_eq, ret1, Option.map_some, Option.bind_some, Option.map_none, ↓reduceIte, Nat.reduceEqDiff, reduceCtorEq, Bool.false_eq_true, decide_true, true_and, and_self, List.toList_toArray, List.length_nil, mapOwn_int, toks_int, okv_int, beq_self_eq_true, vthaw_nil, vwrites_nil, List.length_nil, vbin_int, vbin_string, abin_lss, abin_add, beq_self_eq_true, Int.toNat_natCast, decide_true, beq_self_eq_true, bb_tf, abound_some, vsl9, vlr9, Try.results14, abin_eqS, h2, h22, w1, w2, hkn, hk2, h0, q1, q2, q3] <;> simp [signF, tw'])
  | false =>
    have hsf : signF s k = if sgB b then 1 else 0 := by simp only [signF, tw, hb]; rfl
    by_cases h2 : (k : Int) + 1 < s.size
    · have h22 : (k : Int) + 2 ≤ s.size := by omega
      have h2n : k + 2 ≤ s.size := by omega
      simp only [twoB, h2n, decide_true, Bool.true_and, Bool.or_eq_false_iff] at tw
      obtain ⟨⟨q1, q2⟩, q3⟩ := tw
      simp -dsimp only [↓VWP_seq, ↓VWP_region, ↓VWP_cond, ↓VWP_skip, ↓VWP_block, ↓VWP_loop, ↓VReg_one, ↓VReg_nil, ↓VS_guard, ↓VS_move, ↓VS_assign, ↓VS_pick, ↓VS_binOp, ↓VS_slice, ↓VS_len, ↓Hold_1, With_some, emap_nil, ↓eget_eset, ↓ae_tmp, ↓ae_int, ↓ae_string, eget_zero, eget_succ, lop_pick, asBool_bool, asGuard_bool, ayielded_eq, ↓dstAt_zero, ↓dstAt_succ, Option.map_some, Option.bind_some, Option.map_none, ↓reduceIte, Nat.reduceEqDiff, reduceCtorEq, Bool.false_eq_true, decide_true, true_and, and_self, beq_self_eq_true, vbin_int, vbin_string, abin_lss, abin_add, beq_self_eq_true, Int.toNat_natCast, decide_true, beq_self_eq_true, abound_some, vsl9, vlr9, abin_eqS, h2, h22, w1, w2, hkn, hk2, h0, q1, q2, q3]
      refine Vc_loop (fun m e S => ∃ i : Nat, m = 13 - i ∧ i ≤ 13 ∧ (∀ j : Nat, j < i → signsL[j]? ≠ some b) ∧ eget e 0 = .string s ∧ eget e 1 = .int .i64 k ∧ eget e 6 = .string ⟨#[43, 45, 42, 47, 38, 61, 60, 62, 40, 41, 44, 58, 33]⟩ ∧ eget e 7 = .int .i64 i ∧ S = ⟨[], [], []⟩) 13 ?_ ?_
      · refine ⟨0, rfl, by omega, fun j hj => absurd hj (Nat.not_lt_zero j), ?_, ?_, ?_, ?_, rfl⟩ <;> simp only [↓eget_eset, eget_zero, eget_succ, ↓reduceIte, Nat.reduceEqDiff, reduceCtorEq] <;> rfl
      · rintro m e S ⟨i, rfl, hi, hno, e0, e1, e6, e7, rfl⟩
        refine VWP_Vc _ _ _ _ ?_
        have hi0 : (0 : Int) ≤ i := by omega
        have wi : IntKind.i64.wrap ((i : Int) + 1) = (i : Int) + 1 := wrap_id (by omega) (by omega)
        by_cases hin : i < 13
        · have hii : (i : Int) < 13 := by omega
          obtain ⟨a, ha⟩ : ∃ a, signsL[i]? = some a := ⟨signsL[i]'hin, List.getElem?_eq_getElem hin⟩
          have hab : decide ((a.toNat : Int) = b.toNat) = decide (a = b) := by
            rw [Bool.eq_iff_iff]
            simp only [decide_eq_true_eq]
            exact ⟨fun h => UInt8.toNat_inj.1 (by omega), fun h => by rw [h]⟩
          simp -dsimp only [↓VWP_seq, ↓VWP_region, ↓VWP_cond, ↓VWP_skip, ↓VWP_block, ↓VWP_open, ↓VReg_one, ↓VReg_nil, ↓VS_move, ↓VS_binOp, ↓VS_len, ↓Hold_1, With_some, emap_nil, ↓eget_eset, ↓ae_tmp, asBool_bool, ↓reduceIte, Nat.reduceEqDiff, decide_true, vbin_int, abin_lss, Int.cast_ofNat_Int, decide_true, vlr9, e6, e7, sz, hii]
          refine Vc_open [[], [], [], [], [], [], []] false (by kernel_rfl) (by kernel_rfl) (by kernel_rfl) ?_
          by_cases hq : a = b
          · rw [decide_eq_true hq] at hab
            simp -dsimp only [↓VWP_seq, ↓VWP_region, ↓VWP_cond, ↓VWP_ret, ↓VReg_one, ↓VReg_nil, ↓VS_move, ↓VS_assign, ↓VS_binOp, ↓VS_index, ↓With_guard, ↓Hold_1, ↓Hold_3, With_some, emap_nil, ↓eget_eset, ↓ae_tmp, ↓ae_int, asBool_bool, light, ↓vfinish_ret, ↓vres_nil, ↓vres_tmp, vtell_eq, ret1, Option.map_some, Option.bind_some, ↓reduceIte, Nat.reduceEqDiff, reduceCtorEq, true_and, List.all_nil, List.toList_toArray, List.length_nil, mapOwn_int, toks_int, okv_int, List.all_nil, vthaw_nil, vwrites_nil, List.length_nil, vbin_int, abin_eql, Int.toNat_natCast, ibeq, ↓VE_nil, ↓VE_one0, List.reverse_nil, ix9, Try.results14, e0, e1, e6, e7, hi0, h0, at', ha, hb, hab]
            rw [hsf, fnd i (hq ▸ ha)]
            rfl
          · rw [decide_eq_false hq] at hab
            simp -dsimp only [↓VWP_region, ↓VWP_cond, ↓VWP_skip, ↓VReg_one, ↓VReg_nil, ↓VS_move, ↓VS_assign, ↓VS_binOp, ↓VS_index, ↓Hold_1, ↓Hold_3, With_some, emap_nil, ↓eget_eset, ↓ae_tmp, ↓ae_int, asBool_bool, light, Option.map_some, ↓reduceIte, Nat.reduceEqDiff, reduceCtorEq, Bool.false_eq_true, and_true, true_and, List.all_nil, List.all_nil, vbin_int, abin_eql, abin_add, Int.toNat_natCast, ibeq, ↓VE_nil, ↓VE_one0, List.reverse_nil, ix9, e0, e1, e6, e7, hi0, h0, at', ha, hb, hab, wi]
            refine ⟨13 - (i + 1), by omega, i + 1, rfl, by omega, fun j hj => ?_, by rw [Int.natCast_add]; rfl⟩
            rcases Nat.lt_succ_iff_lt_or_eq.1 hj with hj | rfl
            · exact hno j hj
            · rw [ha]
              exact fun h => hq (Option.some.inj h)
        · have hii : ¬ (i : Int) < 13 := by omega
          simp -dsimp only [↓VWP_seq, ↓VWP_region, ↓VWP_cond, ↓VWP_ret, ↓VWP_exit, ↓VReg_one, ↓VReg_nil, ↓VS_move, ↓VS_assign, ↓VS_binOp, ↓VS_len, ↓With_guard, ↓Hold_1, ↓Hold_3, With_some, emap_nil, ↓eget_eset, ↓ae_tmp, ↓ae_int, asBool_bool, ↓vfinish_ret, ↓vres_nil, ↓vres_tmp, vtell_eq, ret1, Option.map_some, Option.bind_some, ↓reduceIte, Nat.reduceEqDiff, Bool.false_eq_true, decide_false, true_and, List.toList_toArray, List.length_nil, mapOwn_int, toks_int, okv_int, vthaw_nil, vwrites_nil, List.length_nil, vbin_int, abin_lss, Int.cast_ofNat_Int, decide_false, vlr9, Try.results14, e6, e7, sz, hii]
          rw [hsf, nfd fun j hj => hno j (by omega)]
          rfl
    · simp -dsimp only [↓VWP_seq, ↓VWP_region, ↓VWP_cond, ↓VWP_skip, ↓VWP_block, ↓VWP_loop, ↓VReg_one, ↓VReg_nil, ↓VS_guard, ↓VS_move, ↓VS_assign, ↓VS_pick, ↓VS_binOp, ↓VS_len, ↓Hold_1, With_some, emap_nil, ↓eget_eset, ↓ae_tmp, ↓ae_int, ↓ae_string, eget_zero, eget_succ, lop_pick, asBool_bool, asGuard_bool, ayielded_eq, ↓dstAt_zero, ↓dstAt_succ, Option.bind_some, ↓reduceIte, Nat.reduceEqDiff, reduceCtorEq, Bool.false_eq_true, decide_false, beq_self_eq_true, vbin_int, vbin_string, abin_lss, abin_add, beq_self_eq_true, decide_false, beq_self_eq_true, vlr9, abin_eqS, h2, w1, em]
      refine Vc_loop (fun m e S => ∃ i : Nat, m = 13 - i ∧ i ≤ 13 ∧ (∀ j : Nat, j < i → signsL[j]? ≠ some b) ∧ eget e 0 = .string s ∧ eget e 1 = .int .i64 k ∧ eget e 6 = .string ⟨#[43, 45, 42, 47, 38, 61, 60, 62, 40, 41, 44, 58, 33]⟩ ∧ eget e 7 = .int .i64 i ∧ S = ⟨[], [], []⟩) 13 ?_ ?_
      · refine ⟨0, rfl, by omega, fun j hj => absurd hj (Nat.not_lt_zero j), ?_, ?_, ?_, ?_, rfl⟩ <;> simp only [↓eget_eset, eget_zero, eget_succ, ↓reduceIte, Nat.reduceEqDiff, reduceCtorEq] <;> rfl
      · rintro m e S ⟨i, rfl, hi, hno, e0, e1, e6, e7, rfl⟩
        refine VWP_Vc _ _ _ _ ?_
        have hi0 : (0 : Int) ≤ i := by omega
        have wi : IntKind.i64.wrap ((i : Int) + 1) = (i : Int) + 1 := wrap_id (by omega) (by omega)
        by_cases hin : i < 13
        · have hii : (i : Int) < 13 := by omega
          obtain ⟨a, ha⟩ : ∃ a, signsL[i]? = some a := ⟨signsL[i]'hin, List.getElem?_eq_getElem hin⟩
          have hab : decide ((a.toNat : Int) = b.toNat) = decide (a = b) := by
            rw [Bool.eq_iff_iff]
            simp only [decide_eq_true_eq]
            exact ⟨fun h => UInt8.toNat_inj.1 (by omega), fun h => by rw [h]⟩
          simp -dsimp only [↓VWP_seq, ↓VWP_region, ↓VWP_cond, ↓VWP_skip, ↓VWP_block, ↓VWP_open, ↓VReg_one, ↓VReg_nil, ↓VS_move, ↓VS_binOp, ↓VS_len, ↓Hold_1, With_some, emap_nil, ↓eget_eset, ↓ae_tmp, asBool_bool, ↓reduceIte, Nat.reduceEqDiff, decide_true, vbin_int, abin_lss, Int.cast_ofNat_Int, decide_true, vlr9, e6, e7, sz, hii]
          refine Vc_open [[], [], [], [], [], [], []] false (by kernel_rfl) (by kernel_rfl) (by kernel_rfl) ?_
          by_cases hq : a = b
          · rw [decide_eq_true hq] at hab
            simp -dsimp only [↓VWP_seq, ↓VWP_region, ↓VWP_cond, ↓VWP_ret, ↓VReg_one, ↓VReg_nil, ↓VS_move, ↓VS_assign, ↓VS_binOp, ↓VS_index, ↓With_guard, ↓Hold_1, ↓Hold_3, With_some, emap_nil, ↓eget_eset, ↓ae_tmp, ↓ae_int, asBool_bool, light, ↓vfinish_ret, ↓vres_nil, ↓vres_tmp, vtell_eq, ret1, Option.map_some, Option.bind_some, ↓reduceIte, Nat.reduceEqDiff, reduceCtorEq, true_and, List.all_nil, List.toList_toArray, List.length_nil, mapOwn_int, toks_int, okv_int, List.all_nil, vthaw_nil, vwrites_nil, List.length_nil, vbin_int, abin_eql, Int.toNat_natCast, ibeq, ↓VE_nil, ↓VE_one0, List.reverse_nil, ix9, Try.results14, e0, e1, e6, e7, hi0, h0, at', ha, hb, hab]
            rw [hsf, fnd i (hq ▸ ha)]
            rfl
          · rw [decide_eq_false hq] at hab
            simp -dsimp only [↓VWP_region, ↓VWP_cond, ↓VWP_skip, ↓VReg_one, ↓VReg_nil, ↓VS_move, ↓VS_assign, ↓VS_binOp, ↓VS_index, ↓Hold_1, ↓Hold_3, With_some, emap_nil, ↓eget_eset, ↓ae_tmp, ↓ae_int, asBool_bool, light, Option.map_some, ↓reduceIte, Nat.reduceEqDiff, reduceCtorEq, Bool.false_eq_true, and_true, true_and, List.all_nil, List.all_nil, vbin_int, abin_eql, abin_add, Int.toNat_natCast, ibeq, ↓VE_nil, ↓VE_one0, List.reverse_nil, ix9, e0, e1, e6, e7, hi0, h0, at', ha, hb, hab, wi]
            refine ⟨13 - (i + 1), by omega, i + 1, rfl, by omega, fun j hj => ?_, by rw [Int.natCast_add]; rfl⟩
            rcases Nat.lt_succ_iff_lt_or_eq.1 hj with hj | rfl
            · exact hno j hj
            · rw [ha]
              exact fun h => hq (Option.some.inj h)
        · have hii : ¬ (i : Int) < 13 := by omega
          simp -dsimp only [↓VWP_seq, ↓VWP_region, ↓VWP_cond, ↓VWP_ret, ↓VWP_exit, ↓VReg_one, ↓VReg_nil, ↓VS_move, ↓VS_assign, ↓VS_binOp, ↓VS_len, ↓With_guard, ↓Hold_1, ↓Hold_3, With_some, emap_nil, ↓eget_eset, ↓ae_tmp, ↓ae_int, asBool_bool, ↓vfinish_ret, ↓vres_nil, ↓vres_tmp, vtell_eq, ret1, Option.map_some, Option.bind_some, ↓reduceIte, Nat.reduceEqDiff, Bool.false_eq_true, decide_false, true_and, List.toList_toArray, List.length_nil, mapOwn_int, toks_int, okv_int, vthaw_nil, vwrites_nil, List.length_nil, vbin_int, abin_lss, Int.cast_ofNat_Int, decide_false, vlr9, Try.results14, e6, e7, sz, hii]
          rw [hsf, nfd fun j hj => hno j (by omega)]
          rfl
end
end Go.Proofs.Ytmdpggecelheoaa.Abs
/- Tokens: what stands between quotes, in the reference; the next token; the program's Split and the reference's. -/
set_option linter.unusedVariables false
set_option linter.unusedSimpArgs false
set_option maxRecDepth 8000
set_option maxHeartbeats 0
namespace Go.Proofs.Ytmdpggecelheoaa.Abs
open Go
attribute [local irreducible] Hold VReg Vf Vc VWP With VStp Vcallee Vp VE
theorem quoF_le {s : ByteArray} : ∀ n k acc t e, quoF s n k acc = some (t, e) → k < e ∧ e ≤ s.size
  | 0, k, acc, t, e, h => by simp [quoF] at h
  | n + 1, k, acc, t, e, h => by
    have hk : k < s.size := by
      rcases Nat.lt_or_ge k s.size with h' | h'
      · exact h'
      · rw [quoF_none h'] at h; cases h
    obtain ⟨c, hc⟩ := tba_get hk
    simp only [quoF, hc] at h
    split at h
    · split at h
      · have := quoF_le n _ _ t e h; omega
      · cases h; omega
    · have := quoF_le n _ _ t e h; omega
theorem ext_one {s : ByteArray} {k : Nat} {c : UInt8} (h : s[k]? = some c) : s.extract k (k + 1) = ⟨#[c]⟩ := by
  rw [tba_at] at h
  have hl : (s.extract k (k + 1)).data.toList = [c] := by
    rw [ByteArray.data_extract, Array.toList_extract, List.extract_eq_take_drop]
    have e : k + 1 - k = 1 := by omega
    rw [e, List.take_one, List.head?_drop, h]
    rfl
  have : s.extract k (k + 1) = ⟨((s.extract k (k + 1)).data.toList).toArray⟩ := rfl
  rw [this, hl]
theorem tb_sadd {P : Program} {t : TypeId} {x y : Operand} {a b : ByteArray} (ha : a.size ≤ 1000000) (hb : b.size ≤ 1000000) : abin P .add t x y (.string a) (.string b) = some (.string (a ++ b)) := by
  have : abin P .add t x y (.string a) (.string b) = onlyFlat (pureRun P (Op.stringOp .add a b)) := rfl
  rw [this]
  unfold Op.stringOp
  simp only
  rw [if_neg (by simp only [IntKind.max, IntKind.signed, IntKind.bits]; simp; omega)]
  rfl
theorem mk_size (l : List UInt8) : (⟨l.toArray⟩ : ByteArray).size = l.length := rfl
section
variable {X : VOuter}
theorem rquo_p (hX : X 13 = none) (s : ByteArray) (k : Nat) (hk : k < s.size) (hs : s.size ≤ 1000000) :
    Vp Try.prog X 13 [.string s, .int .i64 k] (quoV (quoF s s.size (k + 1) [])) := by
  unfold Vp
  refine Vf_text hX Try.func13 rfl (by kernel_rfl) (by show 2 ≤ _; decide) ?_
  have w1 : IntKind.i64.wrap ((k : Int) + 1) = (k : Int) + 1 := wrap_id (by omega) (by omega)
  simp -dsimp only [↓VWP_seq, ↓VWP_region, ↓VWP_block, ↓VWP_loop, ↓VReg_one, ↓VReg_nil, ↓VS_move, ↓VS_assign, ↓VS_binOp, ↓Hold_1, With_some, emap_nil, ↓eget_eset, ↓ae_tmp, ↓ae_int, ↓ae_bool, ↓ae_string, eget_zero, eget_succ, ↓reduceIte, Nat.reduceEqDiff, vbin_int, abin_add, w1]
  refine Vc_loop (fun m e S => ∃ (q : Nat) (acc : List UInt8), q ≤ s.size ∧ s.size < q + m ∧ quoF s m q acc = quoF s s.size (k + 1) [] ∧ acc.length ≤ q ∧ eget e 0 = .string s ∧ eget e 8 = .int .i64 q ∧ eget e 7 = .string ⟨acc.toArray⟩ ∧ S = ⟨[], [], []⟩) s.size ?_ ?_
  · refine ⟨k + 1, [], by omega, by omega, rfl, by simp, ?_, ?_, ?_, rfl⟩ <;> simp only [↓eget_eset, eget_zero, ↓reduceIte, Nat.reduceEqDiff, reduceCtorEq] <;> rfl
  · rintro m e S ⟨q, acc, hq, hm, hF, hacc, e0, e8, e7, rfl⟩
    refine VWP_Vc _ _ _ _ ?_
    by_cases hlt : q < s.size
    · obtain ⟨m, rfl⟩ : ∃ n, m = n + 1 := ⟨m - 1, by omega⟩
      obtain ⟨c, hc⟩ := tba_get hlt
      have hqi : (q : Int) < s.size := by omega
      have h0 : (0 : Int) ≤ q := by omega
      have w2 : IntKind.i64.wrap ((q : Int) + 1) = (q : Int) + 1 := wrap_id (by omega) (by omega)
      have w3 : IntKind.i64.wrap ((q : Int) + 1 + 1) = (q : Int) + 1 + 1 := wrap_id (by omega) (by omega)
      have hn1 : ((q : Int) + 1).toNat = q + 1 := by omega
      have h1' : (0 : Int) ≤ (q : Int) + 1 := by omega
      have hle1 : (q : Int) ≤ (q : Int) + 1 := by omega
      have hle2 : (q : Int) + 1 ≤ s.size := by omega
      have hcat : ∀ b : UInt8, (⟨acc.toArray⟩ : ByteArray) ++ ⟨#[b]⟩ = ⟨(acc ++ [b]).toArray⟩ := fun b => by simp [ByteArray.ext_iff]
      have hx1 := ext_one hc
      have hadd : ∀ (b : UInt8) x y, abin Try.prog .add 9 x y (.string ⟨acc.toArray⟩) (.string ⟨#[b]⟩) = some (.string ⟨(acc ++ [b]).toArray⟩) := fun b x y => by
        rw [tb_sadd (by rw [mk_size]; omega) (by show 1 ≤ _; decide), hcat]
      by_cases hc4 : c = 34
      · subst hc4
        have hF' : quoF s (m + 1) q acc = if s[q + 1]? = some 34 then quoF s m (q + 2) (acc ++ [34]) else some (acc, q + 1) := by simp only [quoF, hc, if_true]
        rw [hF'] at hF
        have lit34 : ((34 : UInt8).toNat : Int) = 34 := rfl
        by_cases he : q + 1 < s.size
        · have hee : (q : Int) + 1 < s.size := by omega
          obtain ⟨d, hd⟩ := tba_get he
          by_cases hd4 : d = 34
          · subst hd4
            rw [hd, if_pos rfl] at hF
            simp -dsimp only [↓VWP_seq, ↓VWP_region, ↓VWP_cond, ↓VWP_skip, ↓VWP_block, ↓VWP_exit, ↓VReg_one, ↓VReg_nil, ↓VS_guard, ↓VS_move, ↓VS_assign, ↓VS_pick, ↓VS_binOp, ↓VS_index, ↓VS_len, ↓Hold_1, With_some, emap_nil, ↓eget_eset, ↓ae_tmp, ↓ae_int, ↓ae_string, lop_pick, asBool_bool, asGuard_bool, ayielded_eq, ↓dstAt_zero, ↓dstAt_succ, Option.map_some, Option.bind_some, ↓reduceIte, Nat.reduceEqDiff, reduceCtorEq, Bool.false_eq_true, decide_true, and_true, true_and, beq_self_eq_true, vbin_int, vbin_string, abin_eql, abin_neq, abin_lss, abin_add, beq_self_eq_true, Int.toNat_natCast, decide_true, beq_self_eq_true, bne_self_eq_false, ix9, vlr9, e0, e8, e7, hqi, h0, hc, lit34, w2, w3, hee, hn1, h1', hd, hadd]
            exact ⟨m, by omega, q + 2, acc ++ [34], by omega, by omega, hF, by simp; omega, by rw [show (q : Int) + 1 + 1 = ((q + 2 : Nat) : Int) by omega], rfl⟩
          · have hne : ¬ ((d.toNat : Int) = 34) := fun h => hd4 ((u8_lit d).1 h)
            rw [hd, if_neg (by simpa using hd4)] at hF
            simp -dsimp only [↓VWP_seq, ↓VWP_region, ↓VWP_cond, ↓VWP_ret, ↓VWP_skip, ↓VWP_block, ↓VReg_one, ↓VReg_nil, ↓VS_guard, ↓VS_move, ↓VS_assign, ↓VS_pick, ↓VS_binOp, ↓VS_index, ↓VS_len, ↓With_guard, ↓Hold_1, ↓Hold_3, With_some, emap_nil, ↓eget_eset, ↓ae_tmp, ↓ae_int, ↓ae_bool, lop_pick, asBool_bool, asGuard_bool, ayielded_eq, ↓dstAt_zero, ↓dstAt_succ, ↓vfinish_ret, ↓vres_nil, ↓vres_tmp, vtell_eq, ret1, Option.map_some, Option.bind_some, ↓reduceIte, Nat.reduceEqDiff, reduceCtorEq, Bool.false_eq_true, decide_true, decide_false, true_and, List.map_cons, List.map_nil, List.all_cons, List.all_nil, Bool.and_true, List.toList_toArray, List.length_nil, mapOwn_tuple, mapOwn_bool, mapOwn_int, mapOwn_string, toks_int, toks_bool, toks_string, toks_tuple, okv_tuple, okv_bool, okv_int, okv_string, List.flatMap_nil, List.flatMap_cons, List.all_nil, List.all_cons, List.append_nil, List.map_nil, List.map_cons, Bool.and_true, Bool.and_self, beq_self_eq_true, vthaw_nil, vwrites_nil, List.length_nil, vbin_int, abin_eql, abin_neq, abin_lss, abin_add, beq_self_eq_true, Int.toNat_natCast, decide_true, decide_false, beq_self_eq_true, bne_self_eq_false, ibeq, ix9, vlr9, Try.results13, e0, e8, e7, hqi, h0, hc, lit34, w2, hee, hn1, h1', hd, hne]
            rw [← hF]
            rfl
        · have hee : ¬ (q : Int) + 1 < s.size := by omega
          have : s[q + 1]? = none := getElem?_neg s (q + 1) (by omega)
          rw [this, if_neg (by simp)] at hF
          simp -dsimp only [↓VWP_seq, ↓VWP_region, ↓VWP_cond, ↓VWP_ret, ↓VWP_skip, ↓VWP_block, ↓VReg_one, ↓VReg_nil, ↓VS_guard, ↓VS_move, ↓VS_assign, ↓VS_pick, ↓VS_binOp, ↓VS_index, ↓VS_len, ↓With_guard, ↓Hold_1, ↓Hold_3, With_some, emap_nil, ↓eget_eset, ↓ae_tmp, ↓ae_int, ↓ae_bool, lop_pick, asBool_bool, asGuard_bool, bb_ft, ayielded_eq, ↓dstAt_zero, ↓dstAt_succ, ↓vfinish_ret, ↓vres_nil, ↓vres_tmp, vtell_eq, ret1, Option.map_some, Option.bind_some, ↓reduceIte, Nat.reduceEqDiff, reduceCtorEq, Bool.false_eq_true, decide_true, decide_false, true_and, List.map_cons, List.map_nil, List.all_cons, List.all_nil, Bool.and_true, List.toList_toArray, List.length_nil, mapOwn_tuple, mapOwn_bool, mapOwn_int, mapOwn_string, toks_int, toks_bool, toks_string, toks_tuple, okv_tuple, okv_bool, okv_int, okv_string, List.flatMap_nil, List.flatMap_cons, List.all_nil, List.all_cons, List.append_nil, List.map_nil, List.map_cons, Bool.and_true, Bool.and_self, vthaw_nil, vwrites_nil, List.length_nil, vbin_int, abin_neq, abin_lss, abin_add, Int.toNat_natCast, decide_true, decide_false, bb_ft, bne_self_eq_false, ix9, vlr9, Try.results13, e0, e8, e7, hqi, h0, hc, lit34, w2, hee]
          rw [← hF]
          rfl
      · have hne : ¬ ((c.toNat : Int) = 34) := fun h => hc4 ((u8_lit c).1 h)
        have hF' : quoF s (m + 1) q acc = quoF s m (q + 1) (acc ++ [c]) := by simp only [quoF, hc, hc4, if_false]
        rw [hF'] at hF
        simp -dsimp only [↓VWP_seq, ↓VWP_region, ↓VWP_cond, ↓VWP_skip, ↓VWP_block, ↓VWP_exit, ↓VReg_one, ↓VReg_nil, ↓VS_move, ↓VS_assign, ↓VS_binOp, ↓VS_slice, ↓VS_index, ↓VS_len, ↓Hold_1, With_some, emap_nil, ↓eget_eset, ↓ae_tmp, ↓ae_int, asBool_bool, Option.map_some, Option.bind_some, Option.map_none, ↓reduceIte, Nat.reduceEqDiff, reduceCtorEq, decide_true, decide_false, Bool.not_false, and_true, true_and, and_self, Bool.not_false, vbin_int, vbin_string, abin_neq, abin_lss, abin_add, Int.toNat_natCast, decide_true, decide_false, ibne, abound_some, ix9, vsl9, vlr9, e0, e8, e7, hqi, h0, hc, w2, hne, hle1, hle2, hn1, hx1, hadd]
        exact ⟨m, by omega, q + 1, acc ++ [c], by omega, by omega, hF, by simp; omega, by rw [show (q : Int) + 1 = ((q + 1 : Nat) : Int) by omega], rfl⟩
    · have hqi : ¬ (q : Int) < s.size := by omega
      rw [quoF_none (by omega)] at hF
      simp -dsimp only [↓VWP_seq, ↓VWP_region, ↓VWP_cond, ↓VWP_ret, ↓VWP_exit, ↓VReg_one, ↓VReg_nil, ↓VS_move, ↓VS_assign, ↓VS_binOp, ↓VS_len, ↓With_guard, ↓Hold_1, ↓Hold_3, With_some, emap_nil, ↓eget_eset, ↓ae_tmp, ↓ae_int, ↓ae_bool, ↓ae_string, asBool_bool, ↓vfinish_ret, ↓vres_nil, ↓vres_tmp, vtell_eq, ret1, Option.map_some, Option.bind_some, ↓reduceIte, Nat.reduceEqDiff, reduceCtorEq, Bool.false_eq_true, decide_false, true_and, List.map_cons, List.map_nil, List.all_cons, List.all_nil, Bool.and_true, List.toList_toArray, List.length_nil, mapOwn_tuple, mapOwn_bool, mapOwn_int, mapOwn_string, toks_int, toks_bool, toks_string, toks_tuple, okv_tuple, okv_bool, okv_int, okv_string, List.flatMap_nil, List.flatMap_cons, List.all_nil, List.all_cons, List.append_nil, List.map_nil, List.map_cons, Bool.and_true, Bool.and_self, vthaw_nil, vwrites_nil, List.length_nil, vbin_int, abin_lss, decide_false, vlr9, Try.results13, e0, e8, hqi]
      rw [← hF]
      rfl
/-! ### Tokens -/
structure TK where
  k : Int
  a : Nat
  t : ByteArray
def TK.v (x : TK) : Value := .agg ⟨[.int .i64 x.k, .int .i64 x.a, .string x.t]⟩
/-- The token at a place: its kind, its text, and where it ends. -/
def nextF (s : ByteArray) (k : Nat) : Option (TK × Nat) := match s[k]? with
  | none => none
  | some c =>
    if digB c.toNat then some (⟨1, k, s.extract k (runF digB s s.size k)⟩, runF digB s s.size k) else
    if grtB c.toNat then some (⟨3, k, s.extract k (runF gdB s s.size k)⟩, runF gdB s s.size k) else
    if smlB c.toNat then some (⟨4, k, s.extract k (runF sdB s s.size k)⟩, runF sdB s s.size k) else
    if c = 34 then (match quoF s s.size (k + 1) [] with | some (t, e) => some (⟨2, k, ⟨t.toArray⟩⟩, e) | none => none) else
    if signF s k = 0 then none else some (⟨5, k, s.extract k (k + signF s k)⟩, k + signF s k)
/-- What next tells. -/
def nextV (s : ByteArray) (k : Nat) : Value := match nextF s k with
  | some (t, e) => .tuple ⟨[t.v, .int .i64 e, .bool true]⟩
  | none => match s[k]? with
    | some c => if c = 34 then .tuple ⟨[(⟨2, k, .empty⟩ : TK).v, .int .i64 0, .bool false]⟩ else .tuple ⟨[(⟨5, k, s.extract k k⟩ : TK).v, .int .i64 k, .bool false]⟩
    | none => undef
theorem run_c (hX : X 16 = none) (g : FuncId) (p : Int → Bool) (hg : funcOk Try.prog g = true) (hp : ∀ n S K, Vcallee Try.prog X g [.int .u8 n] S K = K (.bool (p n)) [] S [] false) (s : ByteArray) (k : Nat) (hk : k ≤ s.size) (hs : s.size ≤ 1000000) (S : VH) (K : VCont) :
    Vcallee Try.prog X 16 [.string s, .int .i64 k, .func (.func g) #[] #[]] S K = K (.int .i64 (runF p s s.size k)) [] S [] false :=
  Vcallee_of (run_p hX g p hg hp s k hk hs) rfl rfl rfl
theorem sign_c (hX : X 22 = none) (hix : ∀ (l : List UInt8) (n : Nat), n < 256 → ∀ S K, Vcallee Try.prog X 25 [.string ⟨l.toArray⟩, .int .u8 n] S K = K (.int .i64 (Lib.indexByte l (UInt8.ofNat n))) [] S [] false) (s : ByteArray) (k : Nat) (hk : k < s.size) (hs : s.size ≤ 1000000) (S : VH) (K : VCont) :
    Vcallee Try.prog X 22 [.string s, .int .i64 k] S K = K (.int .i64 ((k + signF s k : Nat) : Int)) [] S [] false := Vcallee_of (sign_p hX hix s k hk hs) rfl rfl rfl
structure TkOff (X : VOuter) : Prop where
  dig : X 15 = none
  grt : X 17 = none
  sml : X 19 = none
  gd : X 18 = none
  sd : X 20 = none
  run : X 16 = none
  sign : X 22 = none
  next : X 9 = none
  ixb : ∀ (l : List UInt8) (n : Nat), n < 256 → ∀ S K, Vcallee Try.prog X 25 [.string ⟨l.toArray⟩, .int .u8 n] S K = K (.int .i64 (Lib.indexByte l (UInt8.ofNat n))) [] S [] false
  quo : ∀ (s : ByteArray) (k : Nat), k < s.size → s.size ≤ 1000000 → ∀ S K, Vcallee Try.prog X 21 [.string s, .int .i64 k] S K = K (quoV (quoF s s.size (k + 1) [])) [] S [] false
theorem fk_dig : funcOk Try.prog 15 = true := by kernel_rfl
theorem fk_gd : funcOk Try.prog 18 = true := by kernel_rfl
theorem fk_sd : funcOk Try.prog 20 = true := by kernel_rfl
theorem runF_lt {p : Int → Bool} {s : ByteArray} {k : Nat} {c : UInt8} (hc : s[k]? = some c) (hk : k < s.size) (hp : p c.toNat = true) : k < runF p s s.size k := by
  obtain ⟨n, hn⟩ : ∃ n, s.size = n + 1 := ⟨s.size - 1, by omega⟩
  have : runF p s s.size k = runF p s n (k + 1) := by
    rw [hn]
    simp only [runF, hc, hp, if_true]
  rw [this]
  have := (runF_le p s n (k + 1) (by omega)).1
  omega
theorem gd_of {n : Int} (h : grtB n = true) : gdB n = true := by simp [gdB, h]
theorem sd_of {n : Int} (h : smlB n = true) : sdB n = true := by simp [sdB, h]
theorem signF_le {s : ByteArray} {k : Nat} (hk : k < s.size) : k + signF s k ≤ s.size := by
  unfold signF
  split
  · rename_i h
    simp only [twoB, Bool.and_eq_true, decide_eq_true_eq] at h
    exact h.1
  · split
    · split <;> omega
    · omega
theorem next_p (h : TkOff X) (s : ByteArray) (k : Nat) (hk : k < s.size) (hs : s.size ≤ 1000000) : Vp Try.prog X 9 [.string s, .int .i64 k] (nextV s k) := by
  unfold Vp
  refine Vf_text h.next Try.func9 rfl (by kernel_rfl) (by show 2 ≤ _; decide) ?_
  obtain ⟨c, hc⟩ := tba_get hk
  have h0 : (0 : Int) ≤ k := by omega
  have hkn : ((k : Int)).toNat = k := by omega
  have rd := fun S K => run_c h.run 15 digB fk_dig (fun n S K => dig_c h.dig n S K) s k (by omega) hs S K
  have rg := fun S K => run_c h.run 18 gdB fk_gd (fun n S K => gd_c h.gd h.dig h.grt n S K) s k (by omega) hs S K
  have rs := fun S K => run_c h.run 20 sdB fk_sd (fun n S K => sd_c h.sd h.dig h.sml n S K) s k (by omega) hs S K
  have le := fun p => (runF_le p s s.size k (by omega)).1
  have le2 := fun p => (runF_le p s s.size k (by omega)).2
  cases c1 : digB c.toNat with
  | true =>
    have hl := runF_lt hc hk c1
    have hl' : (k : Int) < (runF digB s s.size k : Nat) := by omega
    have a1 : (k : Int) ≤ (runF digB s s.size k : Nat) := by omega
    have a2 : ((runF digB s s.size k : Nat) : Int) ≤ s.size := by have := le2 digB; omega
    simp -dsimp only [↓Hold_5, ↓VWP_seq, ↓VWP_region, ↓VWP_cond, ↓VWP_ret, ↓VWP_block, ↓VReg_one, ↓VReg_non, ↓VReg_nil, ↓VS_move, ↓VS_assign, ↓VS_build, ↓VS_load, ↓VS_binOp, ↓VS_slice, ↓VS_fieldAddr, ↓VS_index, ↓VS_store, ↓With_mapH, ↓With_bindH, ↓With_guard, ↓Hold_1, With_some, emap_nil, ↓eget_eset, ↓ae_tmp, ↓ae_int, ↓ae_bool, ↓ae_func, eget_zero, eget_succ, asBool_bool, ↓vfinish_ret, ↓vres_nil, ↓vres_tmp, ↓vres_cell, vtell_eq, ret1, Option.map_some, Option.bind_some, Option.map_none, ↓reduceIte, Nat.reduceEqDiff, reduceCtorEq, decide_true, decide_false, Bool.not_false, Nat.zero_add, Nat.add_zero, Nat.reduceAdd, Nat.reduceLT, Nat.reduceLeDiff, and_true, true_and, and_self, List.map_cons, List.map_nil, List.all_cons, List.all_nil, tup_int, cel_int, tup_str, cel_str, tup_agg, cel_agg, Bool.and_true, List.drop_zero, List.toList_toArray, List.size_toArray, List.length_cons, List.length_nil, mapOwn_agg, mapOwn_tuple, mapOwn_bool, mapOwn_int, mapOwn_string, toksL_nil, toksL_cons, toks_int, toks_bool, toks_string, toks_agg, toks_tuple, okv_agg, okv_tuple, okv_bool, okv_int, okv_string, List.flatMap_nil, List.flatMap_cons, List.all_nil, List.all_cons, List.append_nil, List.nil_append, List.cons_append, List.map_nil, List.map_cons, Bool.and_true, Bool.and_self, Bool.not_false, beq_self_eq_true, vnext_mk, vpush_mk, vget_nil, vput_nil, cellsIn_mk, vthaw_nil, vwrites_nil, List.getD_cons_zero, List.getD_cons_succ, List.set_cons_zero, List.set_cons_succ, List.length_cons, List.length_nil, List.drop_zero, List.take_succ_cons, List.take_zero, vbin_int, ↓vlay_free, cellsOk_free, cellF, abin_gtr, beq_self_eq_true, Int.toNat_natCast, gt_iff_lt, decide_true, decide_false, beq_self_eq_true, setAll_whole, afill, setAll, abound_some, vld33, vst33, vst3, vst9, ↓val33, vfp33_0, vfp33_2, bd33, pl33_1, ix9, vsl9, ↓vfk15, ↓vfk16, Try.results9, h0, hc, ↓dig_c h.dig, c1, ↓rd, hl', a1, a2, hkn]
    simp only [nextV, nextF, hc, c1, if_true, TK.v]
  | false =>
    cases c2 : grtB c.toNat with
    | true =>
      have hl := runF_lt hc hk (gd_of c2)
      have hl' : (k : Int) < (runF gdB s s.size k : Nat) := by omega
      have a1 : (k : Int) ≤ (runF gdB s s.size k : Nat) := by omega
      have a2 : ((runF gdB s s.size k : Nat) : Int) ≤ s.size := by have := le2 gdB; omega
      simp -dsimp only [↓Hold_5, ↓VWP_seq, ↓VWP_region, ↓VWP_cond, ↓VWP_ret, ↓VWP_block, ↓VReg_one, ↓VReg_non, ↓VReg_nil, ↓VS_move, ↓VS_assign, ↓VS_build, ↓VS_load, ↓VS_binOp, ↓VS_slice, ↓VS_fieldAddr, ↓VS_index, ↓VS_store, ↓With_mapH, ↓With_bindH, ↓With_guard, ↓Hold_1, With_some, emap_nil, ↓eget_eset, ↓ae_tmp, ↓ae_int, ↓ae_bool, ↓ae_func, eget_zero, eget_succ, asBool_bool, ↓vfinish_ret, ↓vres_nil, ↓vres_tmp, ↓vres_cell, vtell_eq, ret1, Option.map_some, Option.bind_some, Option.map_none, ↓reduceIte, Nat.reduceEqDiff, reduceCtorEq, Bool.false_eq_true, decide_true, decide_false, Bool.not_false, Nat.zero_add, Nat.add_zero, Nat.reduceAdd, Nat.reduceLT, Nat.reduceLeDiff, and_true, true_and, and_self, List.map_cons, List.map_nil, List.all_cons, List.all_nil, tup_int, cel_int, tup_str, cel_str, tup_agg, cel_agg, Bool.and_true, List.drop_zero, List.toList_toArray, List.size_toArray, List.length_cons, List.length_nil, mapOwn_agg, mapOwn_tuple, mapOwn_bool, mapOwn_int, mapOwn_string, toksL_nil, toksL_cons, toks_int, toks_bool, toks_string, toks_agg, toks_tuple, okv_agg, okv_tuple, okv_bool, okv_int, okv_string, List.flatMap_nil, List.flatMap_cons, List.all_nil, List.all_cons, List.append_nil, List.nil_append, List.cons_append, List.map_nil, List.map_cons, Bool.and_true, Bool.and_self, Bool.not_false, beq_self_eq_true, vnext_mk, vpush_mk, vget_nil, vput_nil, cellsIn_mk, vthaw_nil, vwrites_nil, List.getD_cons_zero, List.getD_cons_succ, List.set_cons_zero, List.set_cons_succ, List.length_cons, List.length_nil, List.drop_zero, List.take_succ_cons, List.take_zero, vbin_int, ↓vlay_free, cellsOk_free, cellF, abin_gtr, beq_self_eq_true, Int.toNat_natCast, gt_iff_lt, decide_true, decide_false, beq_self_eq_true, setAll_whole, afill, setAll, abound_some, vld33, vst33, vst3, vst9, ↓val33, vfp33_0, vfp33_2, bd33, pl33_1, ix9, vsl9, ↓vfk15, ↓vfk16, ↓vfk17, Try.results9, h0, hc, ↓dig_c h.dig, ↓grt_c h.grt, c1, c2, ↓rg, hl', a1, a2, hkn]
      simp [nextV, nextF, hc, c1, c2, TK.v]
    | false =>
      cases c3 : smlB c.toNat with
      | true =>
        have hl := runF_lt hc hk (sd_of c3)
        have hl' : (k : Int) < (runF sdB s s.size k : Nat) := by omega
        have a1 : (k : Int) ≤ (runF sdB s s.size k : Nat) := by omega
        have a2 : ((runF sdB s s.size k : Nat) : Int) ≤ s.size := by have := le2 sdB; omega
        simp -dsimp only [↓Hold_5, ↓VWP_seq, ↓VWP_region, ↓VWP_cond, ↓VWP_ret, ↓VWP_block, ↓VReg_one, ↓VReg_non, ↓VReg_nil, ↓VS_move, ↓VS_assign, ↓VS_build, ↓VS_load, ↓VS_binOp, ↓VS_slice, ↓VS_fieldAddr, ↓VS_index, ↓VS_store, ↓With_mapH, ↓With_bindH, ↓With_guard, ↓Hold_1, With_some, emap_nil, ↓eget_eset, ↓ae_tmp, ↓ae_int, ↓ae_bool, ↓ae_func, eget_zero, eget_succ, asBool_bool, ↓vfinish_ret, ↓vres_nil, ↓vres_tmp, ↓vres_cell, vtell_eq, ret1, Option.map_some, Option.bind_some, Option.map_none, ↓reduceIte, Nat.reduceEqDiff, reduceCtorEq, Bool.false_eq_true, decide_true, decide_false, Bool.not_false, Nat.zero_add, Nat.add_zero, Nat.reduceAdd, Nat.reduceLT, Nat.reduceLeDiff, and_true, true_and, and_self, List.map_cons, List.map_nil, List.all_cons, List.all_nil, tup_int, cel_int, tup_str, cel_str, tup_agg, cel_agg, Bool.and_true, List.drop_zero, List.toList_toArray, List.size_toArray, List.length_cons, List.length_nil, mapOwn_agg, mapOwn_tuple, mapOwn_bool, mapOwn_int, mapOwn_string, toksL_nil, toksL_cons, toks_int, toks_bool, toks_string, toks_agg, toks_tuple, okv_agg, okv_tuple, okv_bool, okv_int, okv_string, List.flatMap_nil, List.flatMap_cons, List.all_nil, List.all_cons, List.append_nil, List.nil_append, List.cons_append, List.map_nil, List.map_cons, Bool.and_true, Bool.and_self, Bool.not_false, beq_self_eq_true, vnext_mk, vpush_mk, vget_nil, vput_nil, cellsIn_mk, vthaw_nil, vwrites_nil, List.getD_cons_zero, List.getD_cons_succ, List.set_cons_zero, List.set_cons_succ, List.length_cons, List.length_nil, List.drop_zero, List.take_succ_cons, List.take_zero, vbin_int, ↓vlay_free, cellsOk_free, cellF, abin_gtr, beq_self_eq_true, Int.toNat_natCast, gt_iff_lt, decide_true, decide_false, beq_self_eq_true, setAll_whole, afill, setAll, abound_some, vld33, vst33, vst3, vst9, ↓val33, vfp33_0, vfp33_2, bd33, pl33_1, ix9, vsl9, ↓vfk15, ↓vfk16, ↓vfk17, ↓vfk19, Try.results9, h0, hc, ↓dig_c h.dig, ↓grt_c h.grt, ↓sml_c h.sml, c1, c2, c3, ↓rs, hl', a1, a2, hkn]
        simp [nextV, nextF, hc, c1, c2, c3, TK.v]
      | false =>
        by_cases c4 : c = 34
        · have hq := fun S K => h.quo s k hk hs S K
          have c4' := (u8_lit c).2 c4
          have g1 : digB 34 = false := rfl
          have g2 : grtB 34 = false := rfl
          have g3 : smlB 34 = false := rfl
          cases hF : quoF s s.size (k + 1) [] with
          | none =>
            rw [hF] at hq
            simp only [quoV] at hq
            simp -dsimp only [↓Hold_5, ↓VWP_seq, ↓VWP_region, ↓VWP_cond, ↓VWP_ret, ↓VWP_block, ↓VReg_one, ↓VReg_non, ↓VReg_nil, ↓VS_move, ↓VS_assign, ↓VS_build, ↓VS_binOp, ↓VS_index, ↓VS_extract, ↓VS_store, ↓With_mapH, ↓With_bindH, ↓With_guard, ↓Hold_1, With_some, emap_nil, ↓eget_eset, ↓ae_tmp, ↓ae_int, ↓ae_bool, eget_zero, eget_succ, lop_extract, asBool_bool, ↓vfinish_ret, ↓vres_nil, ↓vres_tmp, ↓vres_cell, vtell_eq, ret1, Option.map_some, Option.bind_some, ↓reduceIte, Nat.reduceEqDiff, reduceCtorEq, Bool.false_eq_true, decide_false, Bool.not_false, List.getElem?_toArray, List.getElem?_cons_zero, List.getElem?_cons_succ, Nat.zero_add, Nat.add_zero, Nat.reduceAdd, Nat.reduceLT, Nat.reduceLeDiff, and_true, true_and, and_self, List.map_cons, List.map_nil, List.all_cons, List.all_nil, tup_int, cel_int, tup_str, cel_str, tup_agg, cel_agg, Bool.and_true, List.drop_zero, List.toList_toArray, List.size_toArray, List.length_cons, List.length_nil, mapOwn_agg, mapOwn_tuple, mapOwn_bool, mapOwn_int, mapOwn_string, toksL_nil, toksL_cons, toks_int, toks_bool, toks_string, toks_agg, toks_tuple, okv_agg, okv_tuple, okv_bool, okv_int, okv_string, List.flatMap_nil, List.flatMap_cons, List.all_nil, List.all_cons, List.append_nil, List.nil_append, List.cons_append, List.map_nil, List.map_cons, Bool.and_true, Bool.and_self, Bool.true_and, Bool.not_false, beq_self_eq_true, vnext_mk, vpush_mk, vget_nil, vput_nil, cellsIn_mk, vthaw_nil, vwrites_nil, List.getD_cons_zero, List.getD_cons_succ, List.set_cons_zero, List.set_cons_succ, List.length_cons, List.length_nil, List.drop_zero, List.take_succ_cons, List.take_zero, vbin_int, ↓vlay_free, cellsOk_free, cellF, abin_eql, beq_self_eq_true, decide_false, beq_self_eq_true, setAll_whole, afill, setAll, vld33, vst33, ↓val33, bd33, pl33_0, pl33_1, pl33_2, ix9, ↓vfk15, ↓vfk17, ↓vfk19, ↓vfk21, Try.results9, h0, hc, ↓dig_c h.dig, ↓grt_c h.grt, ↓sml_c h.sml, c4', g1, g2, g3, ↓hq, hkn]
            simp [nextV, nextF, hc, c4, g1, g2, g3, hF, TK.v]
          | some te =>
            obtain ⟨t, e⟩ := te
            rw [hF] at hq
            simp only [quoV] at hq
            simp -dsimp only [↓Hold_5, ↓VWP_seq, ↓VWP_region, ↓VWP_cond, ↓VWP_ret, ↓VWP_block, ↓VReg_one, ↓VReg_non, ↓VReg_nil, ↓VS_move, ↓VS_assign, ↓VS_build, ↓VS_binOp, ↓VS_index, ↓VS_extract, ↓VS_store, ↓With_mapH, ↓With_bindH, ↓With_guard, ↓Hold_1, With_some, emap_nil, ↓eget_eset, ↓ae_tmp, ↓ae_int, ↓ae_bool, eget_zero, eget_succ, lop_extract, asBool_bool, ↓vfinish_ret, ↓vres_nil, ↓vres_tmp, ↓vres_cell, vtell_eq, ret1, Option.map_some, Option.bind_some, ↓reduceIte, Nat.reduceEqDiff, reduceCtorEq, Bool.false_eq_true, decide_false, Bool.not_false, List.getElem?_toArray, List.getElem?_cons_zero, List.getElem?_cons_succ, Nat.zero_add, Nat.add_zero, Nat.reduceAdd, Nat.reduceLT, Nat.reduceLeDiff, and_true, true_and, and_self, List.map_cons, List.map_nil, List.all_cons, List.all_nil, tup_int, cel_int, tup_str, cel_str, tup_agg, cel_agg, Bool.and_true, List.drop_zero, List.toList_toArray, List.size_toArray, List.length_cons, List.length_nil, mapOwn_agg, mapOwn_tuple, mapOwn_bool, mapOwn_int, mapOwn_string, toksL_nil, toksL_cons, toks_int, toks_bool, toks_string, toks_agg, toks_tuple, okv_agg, okv_tuple, okv_bool, okv_int, okv_string, List.flatMap_nil, List.flatMap_cons, List.all_nil, List.all_cons, List.append_nil, List.nil_append, List.cons_append, List.map_nil, List.map_cons, Bool.and_true, Bool.and_self, Bool.true_and, Bool.not_false, beq_self_eq_true, vnext_mk, vpush_mk, vget_nil, vput_nil, cellsIn_mk, vthaw_nil, vwrites_nil, List.getD_cons_zero, List.getD_cons_succ, List.set_cons_zero, List.set_cons_succ, List.length_cons, List.length_nil, List.drop_zero, List.take_succ_cons, List.take_zero, vbin_int, ↓vlay_free, cellsOk_free, cellF, abin_eql, beq_self_eq_true, decide_false, beq_self_eq_true, setAll_whole, afill, setAll, vld33, vst33, ↓val33, bd33, pl33_0, pl33_1, pl33_2, ix9, ↓vfk15, ↓vfk17, ↓vfk19, ↓vfk21, Try.results9, h0, hc, ↓dig_c h.dig, ↓grt_c h.grt, ↓sml_c h.sml, c4', g1, g2, g3, ↓hq, hkn]
            simp [nextV, nextF, hc, c4, g1, g2, g3, hF, TK.v]
        · have c4' : ¬ ((c.toNat : Int) = 34) := fun h => c4 ((u8_lit c).1 h)
          have hsg := fun S K => sign_c h.sign h.ixb s k hk hs S K
          have a1 : (k : Int) ≤ ((k + signF s k : Nat) : Int) := by omega
          have a2 : ((k + signF s k : Nat) : Int) ≤ s.size := by have := signF_le hk; omega
          have a3 : decide ((k : Int) < ((k + signF s k : Nat) : Int)) = !decide (signF s k = 0) := by
            by_cases h : signF s k = 0
            · simp [h]
            · have : (k : Int) < ((k + signF s k : Nat) : Int) := by omega
              simp only [this, h, decide_true, decide_false, Bool.not_false]
          simp -dsimp only [↓Hold_5, ↓VWP_seq, ↓VWP_region, ↓VWP_cond, ↓VWP_ret, ↓VWP_block, ↓VReg_one, ↓VReg_non, ↓VReg_nil, ↓VS_move, ↓VS_assign, ↓VS_build, ↓VS_load, ↓VS_binOp, ↓VS_slice, ↓VS_fieldAddr, ↓VS_index, ↓VS_store, ↓With_mapH, ↓With_bindH, ↓With_guard, ↓Hold_1, With_some, emap_nil, ↓eget_eset, ↓ae_tmp, ↓ae_int, ↓ae_bool, eget_zero, eget_succ, asBool_bool, ↓vfinish_ret, ↓vres_nil, ↓vres_tmp, ↓vres_cell, vtell_eq, ret1, Option.map_some, Option.bind_some, Option.map_none, ↓reduceIte, Nat.reduceEqDiff, reduceCtorEq, Bool.false_eq_true, decide_false, Bool.not_false, Nat.zero_add, Nat.add_zero, Nat.reduceAdd, Nat.reduceLT, Nat.reduceLeDiff, and_true, true_and, and_self, List.map_cons, List.map_nil, List.all_cons, List.all_nil, tup_int, cel_int, tup_str, cel_str, tup_agg, cel_agg, Bool.and_true, List.drop_zero, List.toList_toArray, List.size_toArray, List.length_cons, List.length_nil, mapOwn_agg, mapOwn_tuple, mapOwn_bool, mapOwn_int, mapOwn_string, toksL_nil, toksL_cons, toks_int, toks_bool, toks_string, toks_agg, toks_tuple, okv_agg, okv_tuple, okv_bool, okv_int, okv_string, List.flatMap_nil, List.flatMap_cons, List.all_nil, List.all_cons, List.append_nil, List.nil_append, List.cons_append, List.map_nil, List.map_cons, Bool.and_true, Bool.and_self, Bool.not_false, beq_self_eq_true, vnext_mk, vpush_mk, vget_nil, vput_nil, cellsIn_mk, vthaw_nil, vwrites_nil, List.getD_cons_zero, List.getD_cons_succ, List.set_cons_zero, List.set_cons_succ, List.length_cons, List.length_nil, List.drop_zero, List.take_succ_cons, List.take_zero, vbin_int, ↓vlay_free, cellsOk_free, cellF, abin_eql, abin_gtr, beq_self_eq_true, Int.toNat_natCast, gt_iff_lt, decide_false, beq_self_eq_true, setAll_whole, afill, setAll, ibeq, abound_some, vld33, vst33, vst3, vst9, ↓val33, vfp33_0, vfp33_2, bd33, pl33_1, ix9, vsl9, ↓vfk15, ↓vfk17, ↓vfk19, ↓vfk22, Try.results9, h0, hc, ↓dig_c h.dig, ↓grt_c h.grt, ↓sml_c h.sml, c1, c2, c3, c4', ↓hsg, a1, a2, a3, hkn]
          by_cases hz : signF s k = 0
          · simp [nextV, nextF, hc, c1, c2, c3, c4, hz, TK.v]
          · simp [nextV, nextF, hc, c1, c2, c3, c4, hz, TK.v]
theorem nextF_le {s : ByteArray} {k : Nat} {t : TK} {e : Nat} (h : nextF s k = some (t, e)) : k < e ∧ e ≤ s.size := by
  have hk : k < s.size := by
    rcases Nat.lt_or_ge k s.size with h' | h'
    · exact h'
    · unfold nextF at h
      rw [getElem?_neg s k (by omega)] at h
      cases h
  obtain ⟨c, hc⟩ := tba_get hk
  have le2 := fun p => (runF_le p s s.size k (by omega)).2
  unfold nextF at h
  rw [hc] at h
  simp only at h
  split at h
  · rename_i c1
    cases h
    exact ⟨runF_lt hc hk c1, le2 _⟩
  · split at h
    · rename_i c2
      cases h
      exact ⟨runF_lt hc hk (gd_of c2), le2 _⟩
    · split at h
      · rename_i c3
        cases h
        exact ⟨runF_lt hc hk (sd_of c3), le2 _⟩
      · split at h
        · split at h
          · rename_i t e' hq
            cases h
            have := quoF_le _ _ _ _ _ hq
            omega
          · cases h
        · split at h
          · cases h
          · cases h
            have := signF_le hk
            omega
/-- A text's tokens from place k on, or where there is none. -/
def splitF (s : ByteArray) : Nat → Nat → List TK → Except Nat (List TK)
  | 0, _, l => .ok l
  | n + 1, k, l => match s[k]? with
    | none => .ok l
    | some c => if c = 32 then splitF s n (k + 1) l else match nextF s k with
      | some (t, e) => splitF s n e (l ++ [t])
      | none => .error k
def splitR : Except Nat (List TK) → Value
  | .ok l => .tuple ⟨[sl true 0 3 (l.map TK.v), .int .i64 (-1), .int .i64 0]⟩
  | .error k => .tuple ⟨[.slice none 0 0, .int .i64 k, .int .i64 3]⟩
def splitV (s : ByteArray) : Value := if (200 : Int) < s.size then .tuple ⟨[.slice none 0 0, .int .i64 0, .int .i64 5]⟩ else splitR (splitF s s.size 0 [])
theorem splitF_end {s : ByteArray} {k : Nat} (h : s.size ≤ k) (n : Nat) (l : List TK) : splitF s n k l = .ok l := by
  cases n with
  | zero => rfl
  | succ n =>
    have : s[k]? = none := getElem?_neg s k (by omega)
    simp only [splitF, this]
theorem u8_sp (c : UInt8) : ((c.toNat : Int) = 32) ↔ c = 32 := by
  constructor
  · intro h
    apply UInt8.toNat_inj.1
    have : c.toNat = 32 := by omega
    rw [this]; rfl
  · rintro rfl; rfl
theorem next_c (h : TkOff X) (s : ByteArray) (k : Nat) (hk : k < s.size) (hs : s.size ≤ 1000000) {v : Value} (hv : nextV s k = v) (hok : okv 0 false v = true) (S : VH) (K : VCont) : Vcallee Try.prog X 9 [.string s, .int .i64 k] S K = K v [] S [] false := by
  subst hv
  exact Vcallee_of (next_p h s k hk hs) rfl rfl hok
theorem split_p (h : TkOff X) (hX : X 5 = none) (s : ByteArray) : Vp Try.prog X 5 [.string s] (splitV s) := by
  unfold Vp
  refine Vf_text hX Try.func5 rfl (by kernel_rfl) (by show 1 ≤ _; decide) ?_
  unfold splitV
  by_cases h200 : (200 : Int) < s.size
  · rw [if_pos h200]
    simp -dsimp only [↓VWP_seq, ↓VWP_region, ↓VWP_cond, ↓VWP_ret, ↓VReg_one, ↓VReg_nil, ↓VS_move, ↓VS_assign, ↓VS_binOp, ↓VS_len, ↓With_guard, ↓Hold_1, With_some, emap_nil, ↓eget_eset, ↓ae_tmp, ↓ae_int, ↓ae_slice0, eget_zero, asBool_bool, ↓vfinish_ret, ↓vres_nil, ↓vres_tmp, vtell_eq, ret1, Option.map_some, Option.bind_some, ↓reduceIte, Nat.reduceEqDiff, reduceCtorEq, decide_true, and_self, List.map_cons, List.map_nil, List.all_cons, List.all_nil, Bool.and_true, List.toList_toArray, List.length_nil, mapOwn_tuple, mapOwn_int, mapOwn_slice, toks_int, toks_slice, toks_tuple, okv_tuple, okv_int, okv_slice0, List.flatMap_nil, List.flatMap_cons, List.all_nil, List.all_cons, List.append_nil, List.map_nil, List.map_cons, Bool.and_true, Bool.and_self, vthaw_nil, vwrites_nil, List.length_nil, vbin_int, abin_gtr, gt_iff_lt, decide_true, vlr9, Try.results5, h200]
  · rw [if_neg h200]
    simp -dsimp only [↓VWP_seq, ↓VWP_region, ↓VWP_cond, ↓VWP_skip, ↓VWP_block, ↓VWP_loop, ↓VReg_one, ↓VReg_nil, ↓VS_move, ↓VS_assign, ↓VS_binOp, ↓VS_len, ↓Hold_1, With_some, emap_nil, ↓eget_eset, ↓ae_tmp, ↓ae_int, ↓ae_slice0, eget_zero, asBool_bool, ↓reduceIte, reduceCtorEq, Bool.false_eq_true, decide_false, vbin_int, abin_gtr, gt_iff_lt, decide_false, vlr9, h200]
    refine Vc_loop (fun m e S => ∃ (q : Nat) (l : List TK), q ≤ s.size ∧ s.size ≤ q + m ∧ splitF s m q l = splitF s s.size 0 [] ∧ l.length ≤ q ∧ eget e 0 = .string s ∧ eget e 6 = .int .i64 q ∧ eget e 5 = ol true (36, none) 3 (l.map TK.v) ∧ ∃ J, S = ⟨[], J, []⟩) s.size ?_ ?_
    · refine ⟨0, [], by omega, by omega, rfl, by simp, ?_, ?_, ?_, [], rfl⟩ <;> simp only [↓eget_eset, eget_zero, ↓reduceIte, Nat.reduceEqDiff, reduceCtorEq] <;> rfl
    · rintro m e S ⟨q, l, hq, hm, hF, hl, e0, e6, e5, J, rfl⟩
      refine VWP_Vc _ _ _ _ ?_
      by_cases hlt : q < s.size
      · obtain ⟨m, rfl⟩ : ∃ n, m = n + 1 := ⟨m - 1, by omega⟩
        obtain ⟨c, hc⟩ := tba_get hlt
        have hqi : (q : Int) < s.size := by omega
        have h0 : (0 : Int) ≤ q := by omega
        have w2 : IntKind.i64.wrap ((q : Int) + 1) = (q : Int) + 1 := wrap_id (by omega) (by omega)
        by_cases hsp : c = 32
        · have hsp' := (u8_sp c).2 hsp
          have hF' : splitF s (m + 1) q l = splitF s m (q + 1) l := by simp only [splitF, hc, hsp, if_true]
          rw [hF'] at hF
          simp -dsimp only [↓VWP_seq, ↓VWP_region, ↓VWP_cond, ↓VWP_skip, ↓VWP_block, ↓VWP_exit, ↓VReg_one, ↓VReg_nil, ↓VS_move, ↓VS_assign, ↓VS_binOp, ↓VS_index, ↓VS_len, ↓Hold_1, With_some, emap_nil, ↓eget_eset, ↓ae_tmp, ↓ae_int, asBool_bool, Option.map_some, ↓reduceIte, Nat.reduceEqDiff, reduceCtorEq, decide_true, true_and, beq_self_eq_true, vbin_int, abin_eql, abin_lss, abin_add, beq_self_eq_true, Int.toNat_natCast, decide_true, beq_self_eq_true, ix9, vlr9, e0, e6, e5, hqi, h0, hc, hsp', w2]
          exact ⟨m, by omega, q + 1, l, by omega, by omega, hF, by omega, by rw [show (q : Int) + 1 = ((q + 1 : Nat) : Int) by omega], rfl, _, rfl⟩
        · have hsp' : ¬ ((c.toNat : Int) = 32) := fun h => hsp ((u8_sp c).1 h)
          cases hn : nextF s q with
          | none =>
            have hF' : splitF s (m + 1) q l = .error q := by simp only [splitF, hc, hsp, if_false, hn]
            rw [hF'] at hF
            obtain ⟨k', a', t', n', hv⟩ : ∃ (k' : Int) (a' : Nat) (t' : ByteArray) (n' : Int), nextV s q = .tuple ⟨[(⟨k', a', t'⟩ : TK).v, .int .i64 n', .bool false]⟩ := by
              unfold nextV
              rw [hn, hc]
              simp only
              split
              · exact ⟨_, _, _, _, rfl⟩
              · exact ⟨_, _, _, _, rfl⟩
            simp only [TK.v] at hv
            have hcl := fun S K => next_c h s q hlt (by omega) hv rfl S K
            simp -dsimp only [↓Hold_5, ↓VWP_seq, ↓VWP_region, ↓VWP_cond, ↓VWP_ret, ↓VWP_skip, ↓VWP_block, ↓VReg_one, ↓VReg_non, ↓VReg_nil, ↓VS_move, ↓VS_assign, ↓VS_binOp, ↓VS_unOp, ↓VS_index, ↓VS_extract, ↓VS_len, ↓VS_store, ↓With_guard, ↓Hold_1, ↓Hold_3, With_some, emap_nil, ↓eget_eset, ↓ae_tmp, ↓ae_int, ↓ae_slice0, lop_extract, lop_not, asBool_bool, ↓vfinish_ret, ↓vres_nil, ↓vres_tmp, vtell_eq, ret1, Option.map_some, Option.bind_some, ↓reduceIte, Nat.reduceEqDiff, reduceCtorEq, Bool.false_eq_true, decide_true, decide_false, Bool.not_false, List.getElem?_toArray, List.getElem?_cons_zero, List.getElem?_cons_succ, Nat.zero_add, Nat.reduceAdd, Nat.reduceLeDiff, true_and, and_self, List.map_cons, List.map_nil, List.all_cons, List.all_nil, tup_int, tup_str, tup_agg, cel_agg, Bool.and_true, List.toList_toArray, List.size_toArray, List.length_cons, List.length_nil, mapOwn_tuple, mapOwn_int, mapOwn_slice, toksL_nil, toksL_cons, toks_int, toks_string, toks_slice, toks_tuple, okv_tuple, okv_int, okv_string, okv_slice0, List.flatMap_nil, List.flatMap_cons, List.all_nil, List.all_cons, List.append_nil, List.map_nil, List.map_cons, Bool.and_true, Bool.and_self, Bool.not_false, beq_self_eq_true, vnext_mk, vpush_mk, vget_nil, vput_nil, cellsIn_mk, vthaw_nil, vwrites_nil, List.getD_cons_zero, List.set_cons_zero, List.length_cons, List.length_nil, getD_app0, set_app0, List.length_append, vbin_int, ↓vlay_free, cellsOk_free, cellF, abin_eql, abin_lss, beq_self_eq_true, Int.toNat_natCast, decide_true, decide_false, beq_self_eq_true, setAll_whole, ibeq, vst33, ↓val33, ix9, vlr9, ↓vfk9, Try.results5, e0, e6, hqi, h0, hc, hsp', ↓hcl]
            rw [← hF]
            rfl
          | some te =>
            obtain ⟨t, e'⟩ := te
            have hF' : splitF s (m + 1) q l = splitF s m e' (l ++ [t]) := by simp only [splitF, hc, hsp, if_false, hn]
            rw [hF'] at hF
            have hle := nextF_le hn
            obtain ⟨tk, ta, tt⟩ := t
            have hv : nextV s q = .tuple ⟨[.agg ⟨[.int .i64 tk, .int .i64 ta, .string tt]⟩, .int .i64 e', .bool true]⟩ := by
              unfold nextV
              rw [hn]
              rfl
            have hcl := fun S K => next_c h s q hlt (by omega) hv rfl S K
            simp -dsimp only [↓Hold_5, thaw_ol, vgrow_ol, ↓VWP_seq, ↓VWP_region, ↓VWP_cond, ↓VWP_skip, ↓VWP_block, ↓VReg_one, ↓VReg_non, ↓VReg_nil, ↓VS_move, ↓VS_assign, ↓VS_load, ↓VS_binOp, ↓VS_unOp, ↓VS_index, ↓VS_extract, ↓VS_len, ↓VS_buildSlice, ↓VS_store, ↓VS_append, ↓With_guard, ↓Hold_1, With_some, emap_nil, emap_cons, ↓eget_map, ↓eget_eset, ↓ae_tmp, ↓ae_int, lop_extract, lop_not, asBool_bool, Option.map_some, Option.bind_some, ↓reduceIte, Nat.reduceEqDiff, reduceCtorEq, Bool.false_eq_true, decide_true, decide_false, Bool.not_true, Bool.not_false, List.getElem?_toArray, List.getElem?_cons_zero, List.getElem?_cons_succ, Nat.zero_add, Nat.reduceAdd, Nat.reduceMul, Nat.reduceLT, Nat.reduceLeDiff, and_true, true_and, and_self, List.map_cons, List.map_nil, List.all_cons, List.all_nil, tup_int, tup_str, tup_agg, cel_agg, List.drop_zero, List.toList_toArray, List.size_toArray, List.length_cons, List.length_nil, mapOwn_agg, mapOwn_int, mapOwn_string, toksL_nil, toksL_cons, toks_int, toks_string, toks_agg, okv_agg, okv_int, okv_string, List.flatMap_nil, List.flatMap_cons, List.all_nil, List.all_cons, List.append_nil, List.map_nil, List.map_cons, Bool.and_self, Bool.not_true, Bool.not_false, List.mem_cons, List.not_mem_nil, or_false, Prod.mk.injEq, beq_self_eq_true, vnext_mk, vpush_mk, vget_nil, vput_nil, cellsIn_mk, vturn_nil, vthaw_one, boxesOf_nil, List.getD_cons_zero, List.set_cons_zero, List.length_cons, List.length_nil, List.drop_zero, List.take_succ_cons, List.take_zero, getD_app0, set_app0, List.length_append, velems_own, partsOk_nil, partsOk_cons, vfill_nil, vfill_cons, vbin_int, ↓vlay_free, cellsOk_free, cellF, List.replicate_succ, List.replicate_zero, abin_eql, abin_lss, beq_self_eq_true, Int.toNat_natCast, decide_true, decide_false, beq_self_eq_true, setAll_whole, ibeq, vld33, vst33, ↓val33, vbd23, ix9, vlr9, vap23, ↓vfk9, e0, e6, e5, hqi, h0, hc, hsp', ↓hcl]
            have hlm : (l.map TK.v).length = l.length := List.length_map ..
            exact ⟨⟨by rw [hlm]; omega, by rw [hlm]; omega⟩, m, by omega, e', l ++ [⟨tk, ta, tt⟩], by omega, by omega, hF, by simp; omega, rfl, by rw [List.map_append]; rfl, _, rfl⟩
      · have hqi : ¬ (q : Int) < s.size := by omega
        rw [splitF_end (by omega)] at hF
        simp -dsimp only [okv_sl0, toks_ol, thawAll_ol, thaw_tok1, ↓VWP_seq, ↓VWP_region, ↓VWP_cond, ↓VWP_ret, ↓VWP_exit, ↓VReg_one, ↓VReg_nil, ↓VS_move, ↓VS_assign, ↓VS_binOp, ↓VS_len, ↓With_guard, ↓Hold_1, ↓Hold_3, With_some, emap_nil, ↓eget_eset, ↓ae_tmp, ↓ae_int, asBool_bool, ↓vfinish_ret, ↓vres_nil, ↓vres_tmp, vtell_eq, ret1, Option.map_some, Option.bind_some, ↓reduceIte, Nat.reduceEqDiff, reduceCtorEq, Bool.false_eq_true, decide_false, true_and, List.map_cons, List.map_nil, List.all_cons, List.all_nil, Bool.and_true, List.toList_toArray, List.length_nil, mapOwn_tuple, mapOwn_int, toks_int, toks_tuple, okv_tuple, okv_int, List.flatMap_nil, List.flatMap_cons, List.all_nil, List.all_cons, List.append_nil, List.map_nil, List.map_cons, Bool.and_true, Bool.and_self, Bool.true_and, vwrites_nil, List.length_nil, vbin_int, abin_lss, decide_false, Int.reduceNeg, vlr9, Try.results5, e0, e6, e5, hqi]
        rw [← hF]
        rfl
structure RtkOff (X : VOuter) : Prop where
  dig : X 10 = none
  grt : X 11 = none
  sml : X 12 = none
  sign : X 14 = none
  quo : X 13 = none
theorem rsign_c (hX : X 14 = none) (s : ByteArray) (k : Nat) (hk : k < s.size) (hs : s.size ≤ 1000000) (S : VH) (K : VCont) :
    Vcallee Try.prog X 14 [.string s, .int .i64 k] S K = K (.int .i64 (signF s k : Int)) [] S [] false := Vcallee_of (rsign_p hX s k hk hs) rfl rfl rfl
theorem rquo_c (hX : X 13 = none) (s : ByteArray) (k : Nat) (hk : k < s.size) (hs : s.size ≤ 1000000) {v : Value} (hv : quoV (quoF s s.size (k + 1) []) = v) (hok : okv 0 false v = true) (S : VH) (K : VCont) :
    Vcallee Try.prog X 13 [.string s, .int .i64 k] S K = K v [] S [] false := by
  subst hv
  exact Vcallee_of (rquo_p hX s k hk hs) rfl rfl hok
theorem rsplit_p (h : RtkOff X) (hX : X 6 = none) (s : ByteArray) : Vp Try.prog X 6 [.string s] (splitV s) := by
  unfold Vp
  refine Vf_text hX Try.func6 rfl (by kernel_rfl) (by show 1 ≤ _; decide) ?_
  unfold splitV
  by_cases h200 : (200 : Int) < s.size
  · rw [if_pos h200]
    simp -dsimp only [↓VWP_seq, ↓VWP_region, ↓VWP_cond, ↓VWP_ret, ↓VReg_one, ↓VReg_nil, ↓VS_move, ↓VS_assign, ↓VS_binOp, ↓VS_len, ↓With_guard, ↓Hold_1, With_some, emap_nil, ↓eget_eset, ↓ae_tmp, ↓ae_int, ↓ae_slice0, eget_zero, asBool_bool, ↓vfinish_ret, ↓vres_nil, ↓vres_tmp, vtell_eq, ret1, Option.map_some, Option.bind_some, ↓reduceIte, Nat.reduceEqDiff, reduceCtorEq, decide_true, and_self, List.map_cons, List.map_nil, List.all_cons, List.all_nil, Bool.and_true, List.toList_toArray, List.length_nil, mapOwn_tuple, mapOwn_int, mapOwn_slice, toks_int, toks_slice, toks_tuple, okv_tuple, okv_int, okv_slice0, List.flatMap_nil, List.flatMap_cons, List.all_nil, List.all_cons, List.append_nil, List.map_nil, List.map_cons, Bool.and_true, Bool.and_self, vthaw_nil, vwrites_nil, List.length_nil, vbin_int, abin_gtr, gt_iff_lt, decide_true, vlr9, Try.results6, h200]
  · rw [if_neg h200]
    simp -dsimp only [↓VWP_seq, ↓VWP_region, ↓VWP_cond, ↓VWP_skip, ↓VWP_block, ↓VWP_loop, ↓VReg_one, ↓VReg_nil, ↓VS_move, ↓VS_assign, ↓VS_binOp, ↓VS_len, ↓Hold_1, With_some, emap_nil, ↓eget_eset, ↓ae_tmp, ↓ae_int, ↓ae_slice0, eget_zero, asBool_bool, ↓reduceIte, reduceCtorEq, Bool.false_eq_true, decide_false, vbin_int, abin_gtr, gt_iff_lt, decide_false, vlr9, h200]
    refine Vc_loop (fun m e S => ∃ (q : Nat) (l : List TK), q ≤ s.size ∧ s.size ≤ q + m ∧ splitF s m q l = splitF s s.size 0 [] ∧ l.length ≤ q ∧ eget e 0 = .string s ∧ eget e 6 = .int .i64 q ∧ ((l = [] ∧ eget e 5 = .slice none 0 0) ∨ (l ≠ [] ∧ ∃ t : Nat, eget e 5 = vo (t, none) 3 0 (l.map TK.v) ∧ (t = 41 ∨ t = 70 ∨ t = 100 ∨ t = 130 ∨ t = 149))) ∧ S = ⟨[], [], []⟩) s.size ?_ ?_
    · refine ⟨0, [], by omega, by omega, rfl, by simp, ?_, ?_, .inl ⟨rfl, ?_⟩, rfl⟩ <;> simp only [↓eget_eset, eget_zero, ↓reduceIte, Nat.reduceEqDiff, reduceCtorEq] <;> rfl
    · rintro m e S ⟨q, l, hq, hm, hF, hl, e0, e6, e5, rfl⟩
      refine VWP_Vc _ _ _ _ ?_
      have hlm : (l.map TK.v).length = l.length := List.length_map ..
      by_cases hlt : q < s.size
      · obtain ⟨m, rfl⟩ : ∃ n, m = n + 1 := ⟨m - 1, by omega⟩
        obtain ⟨c, hc⟩ := tba_get hlt
        have hqi : (q : Int) < s.size := by omega
        have h0 : (0 : Int) ≤ q := by omega
        have w2 : IntKind.i64.wrap ((q : Int) + 1) = (q : Int) + 1 := wrap_id (by omega) (by omega)
        by_cases hsp : c = 32
        · have hsp' := (u8_sp c).2 hsp
          have hF' : splitF s (m + 1) q l = splitF s m (q + 1) l := by simp only [splitF, hc, hsp, if_true]
          rw [hF'] at hF
          simp -dsimp only [↓VWP_seq, ↓VWP_region, ↓VWP_cond, ↓VWP_skip, ↓VWP_block, ↓VWP_exit, ↓VReg_one, ↓VReg_nil, ↓VS_move, ↓VS_assign, ↓VS_binOp, ↓VS_index, ↓VS_len, ↓Hold_1, With_some, emap_nil, ↓eget_eset, ↓ae_tmp, ↓ae_int, asBool_bool, Option.map_some, ↓reduceIte, Nat.reduceEqDiff, reduceCtorEq, decide_true, and_true, true_and, beq_self_eq_true, vbin_int, abin_eql, abin_lss, abin_add, beq_self_eq_true, Int.toNat_natCast, decide_true, beq_self_eq_true, ix9, vlr9, e0, e6, hqi, h0, hc, hsp', w2]
          exact ⟨m, by omega, q + 1, l, by omega, by omega, hF, by omega, by rw [show (q : Int) + 1 = ((q + 1 : Nat) : Int) by omega], e5⟩
        · have hsp' : ¬ ((c.toNat : Int) = 32) := fun h => hsp ((u8_sp c).1 h)
          have hF' : splitF s (m + 1) q l = match nextF s q with | some (t, e) => splitF s m e (l ++ [t]) | none => .error q := by simp only [splitF, hc, hsp, if_false]
          rw [hF'] at hF
          rcases e5 with ⟨hl0, e5⟩ | ⟨hl0, t, e5, ht⟩
          · cases c1 : digB c.toNat with
            | true =>
              have hn : nextF s q = some (⟨1, q, s.extract q (runF digB s s.size q)⟩, runF digB s s.size q) := by simp [nextF, hc, c1]
              rw [hn] at hF
              have hle := nextF_le hn
              simp -dsimp only [↓Hold_5, ↓VWP_seq, ↓VWP_region, ↓VWP_cond, ↓VWP_skip, ↓VWP_block, ↓VWP_loop, ↓VReg_one, ↓VReg_nil, ↓VS_move, ↓VS_assign, ↓VS_binOp, ↓VS_index, ↓VS_len, ↓Hold_1, With_some, emap_nil, ↓eget_eset, ↓ae_tmp, ↓ae_int, asBool_bool, Option.map_some, ↓reduceIte, Nat.reduceEqDiff, reduceCtorEq, Bool.false_eq_true, decide_true, decide_false, List.map_cons, List.map_nil, List.map_nil, List.map_cons, vbin_int, abin_eql, abin_lss, Int.toNat_natCast, decide_true, decide_false, ibeq, ix9, vlr9, ↓vfk10, e0, e6, hqi, h0, hc, hsp', ↓rdig_c h.dig, c1]
              refine Vc_loop (fun m' e S => ∃ q' : Nat, q ≤ q' ∧ q' ≤ s.size ∧ s.size ≤ q' + m' ∧ runF digB s m' q' = runF digB s s.size q ∧ eget e 0 = .string s ∧ eget e 6 = .int .i64 q' ∧ eget e 8 = .int .i64 q ∧ eget e 5 = .slice none 0 0 ∧ S = ⟨[], [], []⟩) s.size ?_ ?_
              · refine ⟨q, by omega, by omega, by omega, rfl, ?_, ?_, ?_, ?_, rfl⟩ <;> first | (simp only [↓eget_eset, ↓reduceIte, Nat.reduceEqDiff, reduceCtorEq, e0, e5, e6]; done) | (simp only [emap_nil, emap_cons, ↓eget_map, ↓eget_eset, ↓ae_tmp, ↓ae_int, ↓ae_bool, ↓ae_string, ↓ae_func, ↓ae_slice0, ↓ae_ptr0, eget_zero, eget_succ, eget_nil, ↓reduceIte, Nat.reduceEqDiff, reduceCtorEq, Bool.false_eq_true, Nat.reduceBEq, decide_true, decide_false, Bool.not_true, Bool.not_false, List.getElem?_toArray, List.getElem?_cons_zero, List.getElem?_cons_succ, Nat.zero_add, Nat.add_zero, Nat.reduceAdd, Nat.reduceMul, Nat.reduceSub, Nat.reduceLT, Nat.reduceLeDiff, and_true, true_and, and_self, e0, e5, e6]; rfl)
              · rintro m' e S ⟨q', g1, g2, g3, gF, e0, e6, e8, e5, rfl⟩
                refine VWP_Vc _ _ _ _ ?_
                have h0' : (0 : Int) ≤ q' := by omega
                have wq : IntKind.i64.wrap ((q' : Int) + 1) = (q' : Int) + 1 := wrap_id (by omega) (by omega)
                have a1 : (q : Int) ≤ q' := by omega
                have a2 : (q' : Int) ≤ s.size := by omega
                by_cases hl' : q' < s.size
                · obtain ⟨m', rfl⟩ : ∃ n, m' = n + 1 := ⟨m' - 1, by omega⟩
                  obtain ⟨d, hd⟩ := tba_get hl'
                  have hqi' : (q' : Int) < s.size := by omega
                  simp only [runF, hd] at gF
                  cases d1 : digB d.toNat with
                  | true =>
                    rw [show digB d.toNat = true from d1, if_pos rfl] at gF
                    simp -dsimp only [↓Hold_5, ↓VWP_seq, ↓VWP_region, ↓VWP_cond, ↓VWP_skip, ↓VWP_block, ↓VReg_one, ↓VReg_nil, ↓VS_guard, ↓VS_move, ↓VS_assign, ↓VS_pick, ↓VS_binOp, ↓VS_index, ↓VS_len, ↓Hold_1, With_some, emap_nil, ↓eget_eset, ↓ae_tmp, ↓ae_int, lop_pick, asBool_bool, asGuard_bool, ayielded_eq, ↓dstAt_zero, ↓dstAt_succ, Option.map_some, Option.bind_some, ↓reduceIte, Nat.reduceEqDiff, reduceCtorEq, decide_true, and_true, true_and, and_self, List.map_cons, List.map_nil, List.map_nil, List.map_cons, beq_self_eq_true, vbin_int, abin_lss, abin_add, beq_self_eq_true, Int.toNat_natCast, decide_true, beq_self_eq_true, ix9, vlr9, ↓vfk10, e0, e6, e8, e5, hqi', h0', hd, ↓rdig_c h.dig, d1, wq]
                    exact ⟨m', by omega, q' + 1, by omega, by omega, by omega, gF, by rw [show (q' : Int) + 1 = ((q' + 1 : Nat) : Int) by omega]⟩
                  | false =>
                    rw [show digB d.toNat = false from d1, if_neg (by simp)] at gF
                    simp -dsimp only [↓Hold_5, ↓VWP_seq, ↓VWP_region, ↓VWP_cond, ↓VWP_exit, ↓VReg_one, ↓VReg_nil, ↓VS_guard, ↓VS_move, ↓VS_assign, ↓VS_pick, ↓VS_build, ↓VS_binOp, ↓VS_slice, ↓VS_index, ↓VS_len, ↓VS_buildSlice, ↓VS_append, ↓Hold_1, ↓Hold_3, With_some, emap_nil, emap_cons, ↓eget_map, ↓eget_eset, ↓ae_tmp, ↓ae_int, lop_pick, asBool_bool, asGuard_bool, ayielded_eq, ↓dstAt_zero, ↓dstAt_succ, Option.map_some, Option.bind_some, Option.map_none, ↓reduceIte, Nat.reduceEqDiff, reduceCtorEq, Bool.false_eq_true, decide_true, Bool.not_false, Nat.zero_add, Nat.reduceAdd, Nat.reduceMul, Nat.reduceLT, Nat.reduceLeDiff, and_true, true_and, and_self, List.map_cons, List.map_nil, List.all_cons, List.all_nil, tup_int, cel_int, tup_str, cel_str, tup_agg, cel_agg, List.toList_toArray, List.size_toArray, List.length_cons, List.length_nil, mapOwn_agg, mapOwn_int, mapOwn_string, mapOwn_slice, toksL_nil, toksL_cons, toks_int, toks_string, toks_agg, okv_agg, okv_int, okv_string, List.flatMap_nil, List.flatMap_cons, List.all_nil, List.all_cons, List.append_nil, List.map_nil, List.map_cons, Bool.and_self, Bool.not_false, beq_self_eq_true, vturn_nil, vthaw_one, boxesOf_nil, List.set_cons_zero, List.set_cons_succ, List.length_cons, List.length_nil, velems_own, vgrow_nil, partsOk_nil, partsOk_cons, vfill_nil, vfill_cons, vbin_int, List.replicate_succ, List.replicate_zero, abin_lss, beq_self_eq_true, Int.toNat_natCast, decide_true, beq_self_eq_true, afill, setAll, abound_some, bd33, pl33_0, pl33_1, pl33_2, vbd23, ix9, vsl9, vlr9, vap23, ↓vfk10, e0, e6, e8, e5, hqi', h0', h0, hd, ↓rdig_c h.dig, d1, a1, a2, Int.toNat_natCast]
                    exact ⟨m, by omega, runF digB s s.size q, l ++ [⟨1, q, s.extract q (runF digB s s.size q)⟩], by omega, by omega, hF, by simp; omega, by rw [gF], .inr ⟨by simp, _, by rw [gF]; simp only [hl0, List.map_cons, List.map_nil, List.nil_append]; rfl, by first | exact ht | decide⟩⟩
                · have hqi' : ¬ (q' : Int) < s.size := by omega
                  rw [runF_end _ _ _ _ (by omega)] at gF
                  simp -dsimp only [↓VWP_seq, ↓VWP_region, ↓VWP_cond, ↓VWP_exit, ↓VReg_one, ↓VReg_nil, ↓VS_guard, ↓VS_move, ↓VS_assign, ↓VS_pick, ↓VS_build, ↓VS_binOp, ↓VS_slice, ↓VS_len, ↓VS_buildSlice, ↓VS_append, ↓Hold_1, ↓Hold_3, With_some, emap_nil, emap_cons, ↓eget_map, ↓eget_eset, ↓ae_tmp, ↓ae_int, ↓ae_bool, lop_pick, asBool_bool, asGuard_bool, bb_ft, ayielded_eq, ↓dstAt_zero, ↓dstAt_succ, Option.map_some, Option.bind_some, Option.map_none, ↓reduceIte, Nat.reduceEqDiff, reduceCtorEq, Bool.false_eq_true, decide_true, decide_false, Bool.not_false, Nat.zero_add, Nat.reduceAdd, Nat.reduceMul, Nat.reduceLT, Nat.reduceLeDiff, and_true, true_and, and_self, List.map_cons, List.map_nil, List.all_cons, List.all_nil, tup_int, cel_int, tup_str, cel_str, tup_agg, cel_agg, List.toList_toArray, List.size_toArray, List.length_cons, List.length_nil, mapOwn_agg, mapOwn_int, mapOwn_string, mapOwn_slice, toksL_nil, toksL_cons, toks_int, toks_string, toks_agg, okv_agg, okv_int, okv_string, List.flatMap_nil, List.flatMap_cons, List.all_nil, List.all_cons, List.append_nil, List.map_nil, List.map_cons, Bool.and_self, Bool.not_false, beq_self_eq_true, vturn_nil, vthaw_one, boxesOf_nil, List.set_cons_zero, List.set_cons_succ, List.length_cons, List.length_nil, velems_own, vgrow_nil, partsOk_nil, partsOk_cons, vfill_nil, vfill_cons, vbin_int, List.replicate_succ, List.replicate_zero, abin_lss, beq_self_eq_true, Int.toNat_natCast, decide_true, decide_false, beq_self_eq_true, bb_ft, afill, setAll, abound_some, bd33, pl33_0, pl33_1, pl33_2, vbd23, vsl9, vlr9, vap23, e0, e6, e8, e5, hqi', h0, a1, a2, Int.toNat_natCast]
                  exact ⟨m, by omega, runF digB s s.size q, l ++ [⟨1, q, s.extract q (runF digB s s.size q)⟩], by omega, by omega, hF, by simp; omega, by rw [gF], .inr ⟨by simp, _, by rw [gF]; simp only [hl0, List.map_cons, List.map_nil, List.nil_append]; rfl, by first | exact ht | decide⟩⟩
            | false =>
              cases c2 : grtB c.toNat with
              | true =>
                have hn : nextF s q = some (⟨3, q, s.extract q (runF gdB s s.size q)⟩, runF gdB s s.size q) := by simp [nextF, hc, c1, c2]
                rw [hn] at hF
                have hle := nextF_le hn
                simp -dsimp only [↓Hold_5, ↓VWP_seq, ↓VWP_region, ↓VWP_cond, ↓VWP_skip, ↓VWP_block, ↓VWP_loop, ↓VReg_one, ↓VReg_nil, ↓VS_move, ↓VS_assign, ↓VS_binOp, ↓VS_index, ↓VS_len, ↓Hold_1, With_some, emap_nil, ↓eget_eset, ↓ae_tmp, ↓ae_int, asBool_bool, Option.map_some, ↓reduceIte, Nat.reduceEqDiff, reduceCtorEq, Bool.false_eq_true, decide_true, decide_false, List.map_cons, List.map_nil, List.map_nil, List.map_cons, vbin_int, abin_eql, abin_lss, Int.toNat_natCast, decide_true, decide_false, ibeq, ix9, vlr9, ↓vfk10, ↓vfk11, e0, e6, hqi, h0, hc, hsp', ↓rdig_c h.dig, ↓rgrt_c h.grt, c1, c2]
                refine Vc_loop (fun m' e S => ∃ q' : Nat, q ≤ q' ∧ q' ≤ s.size ∧ s.size ≤ q' + m' ∧ runF gdB s m' q' = runF gdB s s.size q ∧ eget e 0 = .string s ∧ eget e 6 = .int .i64 q' ∧ eget e 8 = .int .i64 q ∧ eget e 5 = .slice none 0 0 ∧ S = ⟨[], [], []⟩) s.size ?_ ?_
                · refine ⟨q, by omega, by omega, by omega, rfl, ?_, ?_, ?_, ?_, rfl⟩ <;> first | (simp only [↓eget_eset, ↓reduceIte, Nat.reduceEqDiff, reduceCtorEq, e0, e5, e6]; done) | (simp only [emap_nil, emap_cons, ↓eget_map, ↓eget_eset, ↓ae_tmp, ↓ae_int, ↓ae_bool, ↓ae_string, ↓ae_func, ↓ae_slice0, ↓ae_ptr0, eget_zero, eget_succ, eget_nil, ↓reduceIte, Nat.reduceEqDiff, reduceCtorEq, Bool.false_eq_true, Nat.reduceBEq, decide_true, decide_false, Bool.not_true, Bool.not_false, List.getElem?_toArray, List.getElem?_cons_zero, List.getElem?_cons_succ, Nat.zero_add, Nat.add_zero, Nat.reduceAdd, Nat.reduceMul, Nat.reduceSub, Nat.reduceLT, Nat.reduceLeDiff, and_true, true_and, and_self, e0, e5, e6]; rfl)
                · rintro m' e S ⟨q', g1, g2, g3, gF, e0, e6, e8, e5, rfl⟩
                  refine VWP_Vc _ _ _ _ ?_
                  have h0' : (0 : Int) ≤ q' := by omega
                  have wq : IntKind.i64.wrap ((q' : Int) + 1) = (q' : Int) + 1 := wrap_id (by omega) (by omega)
                  have a1 : (q : Int) ≤ q' := by omega
                  have a2 : (q' : Int) ≤ s.size := by omega
                  by_cases hl' : q' < s.size
                  · obtain ⟨m', rfl⟩ : ∃ n, m' = n + 1 := ⟨m' - 1, by omega⟩
                    obtain ⟨d, hd⟩ := tba_get hl'
                    have hqi' : (q' : Int) < s.size := by omega
                    simp only [runF, hd] at gF
                    cases d0 : grtB d.toNat with
                    | true =>
                      rw [show gdB d.toNat = true by simp [gdB, d0], if_pos rfl] at gF
                      simp -dsimp only [↓Hold_5, ↓VWP_seq, ↓VWP_region, ↓VWP_cond, ↓VWP_skip, ↓VWP_block, ↓VReg_one, ↓VReg_nil, ↓VS_guard, ↓VS_move, ↓VS_assign, ↓VS_pick, ↓VS_binOp, ↓VS_index, ↓VS_len, ↓Hold_1, With_some, emap_nil, ↓eget_eset, ↓ae_tmp, ↓ae_int, ↓ae_bool, lop_pick, asBool_bool, asGuard_bool, bb_tf, ayielded_eq, ↓dstAt_zero, ↓dstAt_succ, Option.map_some, Option.bind_some, ↓reduceIte, Nat.reduceEqDiff, reduceCtorEq, Bool.false_eq_true, decide_true, and_true, true_and, and_self, List.map_cons, List.map_nil, List.map_nil, List.map_cons, beq_self_eq_true, vbin_int, abin_lss, abin_add, beq_self_eq_true, Int.toNat_natCast, decide_true, beq_self_eq_true, bb_tf, ix9, vlr9, ↓vfk11, e0, e6, e8, e5, hqi', h0', hd, ↓rgrt_c h.grt, d0, wq]
                      exact ⟨m', by omega, q' + 1, by omega, by omega, by omega, gF, by rw [show (q' : Int) + 1 = ((q' + 1 : Nat) : Int) by omega]⟩
                    | false =>
                      cases d1 : digB d.toNat with
                      | true =>
                        rw [show gdB d.toNat = true by simp [gdB, d1], if_pos rfl] at gF
                        simp -dsimp only [↓Hold_5, ↓VWP_seq, ↓VWP_region, ↓VWP_cond, ↓VWP_skip, ↓VWP_block, ↓VReg_one, ↓VReg_nil, ↓VS_guard, ↓VS_move, ↓VS_assign, ↓VS_pick, ↓VS_binOp, ↓VS_index, ↓VS_len, ↓Hold_1, With_some, emap_nil, ↓eget_eset, ↓ae_tmp, ↓ae_int, lop_pick, asBool_bool, asGuard_bool, ayielded_eq, ↓dstAt_zero, ↓dstAt_succ, Option.map_some, Option.bind_some, ↓reduceIte, Nat.reduceEqDiff, reduceCtorEq, Bool.false_eq_true, decide_true, and_true, true_and, and_self, List.map_cons, List.map_nil, List.map_nil, List.map_cons, beq_self_eq_true, vbin_int, abin_lss, abin_add, beq_self_eq_true, Int.toNat_natCast, decide_true, beq_self_eq_true, ix9, vlr9, ↓vfk10, ↓vfk11, e0, e6, e8, e5, hqi', h0', hd, ↓rdig_c h.dig, ↓rgrt_c h.grt, d0, d1, wq]
                        exact ⟨m', by omega, q' + 1, by omega, by omega, by omega, gF, by rw [show (q' : Int) + 1 = ((q' + 1 : Nat) : Int) by omega]⟩
                      | false =>
                        rw [show gdB d.toNat = false by simp [gdB, d0, d1], if_neg (by simp)] at gF
                        simp -dsimp only [↓Hold_5, ↓VWP_seq, ↓VWP_region, ↓VWP_cond, ↓VWP_exit, ↓VReg_one, ↓VReg_nil, ↓VS_guard, ↓VS_move, ↓VS_assign, ↓VS_pick, ↓VS_build, ↓VS_binOp, ↓VS_slice, ↓VS_index, ↓VS_len, ↓VS_buildSlice, ↓VS_append, ↓Hold_1, ↓Hold_3, With_some, emap_nil, emap_cons, ↓eget_map, ↓eget_eset, ↓ae_tmp, ↓ae_int, lop_pick, asBool_bool, asGuard_bool, ayielded_eq, ↓dstAt_zero, ↓dstAt_succ, Option.map_some, Option.bind_some, Option.map_none, ↓reduceIte, Nat.reduceEqDiff, reduceCtorEq, Bool.false_eq_true, decide_true, Bool.not_false, Nat.zero_add, Nat.reduceAdd, Nat.reduceMul, Nat.reduceLT, Nat.reduceLeDiff, and_true, true_and, and_self, List.map_cons, List.map_nil, List.all_cons, List.all_nil, tup_int, cel_int, tup_str, cel_str, tup_agg, cel_agg, List.toList_toArray, List.size_toArray, List.length_cons, List.length_nil, mapOwn_agg, mapOwn_int, mapOwn_string, mapOwn_slice, toksL_nil, toksL_cons, toks_int, toks_string, toks_agg, okv_agg, okv_int, okv_string, List.flatMap_nil, List.flatMap_cons, List.all_nil, List.all_cons, List.append_nil, List.map_nil, List.map_cons, Bool.and_self, Bool.not_false, beq_self_eq_true, vturn_nil, vthaw_one, boxesOf_nil, List.set_cons_zero, List.set_cons_succ, List.length_cons, List.length_nil, velems_own, vgrow_nil, partsOk_nil, partsOk_cons, vfill_nil, vfill_cons, vbin_int, List.replicate_succ, List.replicate_zero, abin_lss, beq_self_eq_true, Int.toNat_natCast, decide_true, beq_self_eq_true, afill, setAll, abound_some, bd33, pl33_0, pl33_1, pl33_2, vbd23, ix9, vsl9, vlr9, vap23, ↓vfk10, ↓vfk11, e0, e6, e8, e5, hqi', h0', h0, hd, ↓rdig_c h.dig, ↓rgrt_c h.grt, d0, d1, a1, a2, Int.toNat_natCast]
                        exact ⟨m, by omega, runF gdB s s.size q, l ++ [⟨3, q, s.extract q (runF gdB s s.size q)⟩], by omega, by omega, hF, by simp; omega, by rw [gF], .inr ⟨by simp, _, by rw [gF]; simp only [hl0, List.map_cons, List.map_nil, List.nil_append]; rfl, by first | exact ht | decide⟩⟩
                  · have hqi' : ¬ (q' : Int) < s.size := by omega
                    rw [runF_end _ _ _ _ (by omega)] at gF
                    simp -dsimp only [↓VWP_seq, ↓VWP_region, ↓VWP_cond, ↓VWP_exit, ↓VReg_one, ↓VReg_nil, ↓VS_guard, ↓VS_move, ↓VS_assign, ↓VS_pick, ↓VS_build, ↓VS_binOp, ↓VS_slice, ↓VS_len, ↓VS_buildSlice, ↓VS_append, ↓Hold_1, ↓Hold_3, With_some, emap_nil, emap_cons, ↓eget_map, ↓eget_eset, ↓ae_tmp, ↓ae_int, ↓ae_bool, lop_pick, asBool_bool, asGuard_bool, asGuard_nr, bb_ft, ayielded_eq, ↓dstAt_zero, ↓dstAt_succ, Option.map_some, Option.bind_some, Option.map_none, ↓reduceIte, Nat.reduceEqDiff, reduceCtorEq, Bool.false_eq_true, decide_true, decide_false, Bool.not_false, Nat.zero_add, Nat.reduceAdd, Nat.reduceMul, Nat.reduceLT, Nat.reduceLeDiff, and_true, true_and, and_self, List.map_cons, List.map_nil, List.all_cons, List.all_nil, tup_int, cel_int, tup_str, cel_str, tup_agg, cel_agg, List.toList_toArray, List.size_toArray, List.length_cons, List.length_nil, mapOwn_agg, mapOwn_int, mapOwn_string, mapOwn_slice, toksL_nil, toksL_cons, toks_int, toks_string, toks_agg, okv_agg, okv_int, okv_string, List.flatMap_nil, List.flatMap_cons, List.all_nil, List.all_cons, List.append_nil, List.map_nil, List.map_cons, Bool.and_self, Bool.not_false, beq_self_eq_true, vturn_nil, vthaw_one, boxesOf_nil, List.set_cons_zero, List.set_cons_succ, List.length_cons, List.length_nil, velems_own, vgrow_nil, partsOk_nil, partsOk_cons, vfill_nil, vfill_cons, vbin_int, List.replicate_succ, List.replicate_zero, abin_lss, beq_self_eq_true, Int.toNat_natCast, decide_true, decide_false, beq_self_eq_true, bb_ft, afill, setAll, abound_some, bd33, pl33_0, pl33_1, pl33_2, vbd23, vsl9, vlr9, vap23, e0, e6, e8, e5, hqi', h0, a1, a2, Int.toNat_natCast]
                    exact ⟨m, by omega, runF gdB s s.size q, l ++ [⟨3, q, s.extract q (runF gdB s s.size q)⟩], by omega, by omega, hF, by simp; omega, by rw [gF], .inr ⟨by simp, _, by rw [gF]; simp only [hl0, List.map_cons, List.map_nil, List.nil_append]; rfl, by first | exact ht | decide⟩⟩
              | false =>
                cases c3 : smlB c.toNat with
                | true =>
                  have hn : nextF s q = some (⟨4, q, s.extract q (runF sdB s s.size q)⟩, runF sdB s s.size q) := by simp [nextF, hc, c1, c2, c3]
                  rw [hn] at hF
                  have hle := nextF_le hn
                  simp -dsimp only [↓Hold_5, ↓VWP_seq, ↓VWP_region, ↓VWP_cond, ↓VWP_skip, ↓VWP_block, ↓VWP_loop, ↓VReg_one, ↓VReg_nil, ↓VS_move, ↓VS_assign, ↓VS_binOp, ↓VS_index, ↓VS_len, ↓Hold_1, With_some, emap_nil, ↓eget_eset, ↓ae_tmp, ↓ae_int, asBool_bool, Option.map_some, ↓reduceIte, Nat.reduceEqDiff, reduceCtorEq, Bool.false_eq_true, decide_true, decide_false, List.map_cons, List.map_nil, List.map_nil, List.map_cons, vbin_int, abin_eql, abin_lss, Int.toNat_natCast, decide_true, decide_false, ibeq, ix9, vlr9, ↓vfk10, ↓vfk11, ↓vfk12, e0, e6, hqi, h0, hc, hsp', ↓rdig_c h.dig, ↓rgrt_c h.grt, ↓rsml_c h.sml, c1, c2, c3]
                  refine Vc_loop (fun m' e S => ∃ q' : Nat, q ≤ q' ∧ q' ≤ s.size ∧ s.size ≤ q' + m' ∧ runF sdB s m' q' = runF sdB s s.size q ∧ eget e 0 = .string s ∧ eget e 6 = .int .i64 q' ∧ eget e 8 = .int .i64 q ∧ eget e 5 = .slice none 0 0 ∧ S = ⟨[], [], []⟩) s.size ?_ ?_
                  · refine ⟨q, by omega, by omega, by omega, rfl, ?_, ?_, ?_, ?_, rfl⟩ <;> first | (simp only [↓eget_eset, ↓reduceIte, Nat.reduceEqDiff, reduceCtorEq, e0, e5, e6]; done) | (simp only [emap_nil, emap_cons, ↓eget_map, ↓eget_eset, ↓ae_tmp, ↓ae_int, ↓ae_bool, ↓ae_string, ↓ae_func, ↓ae_slice0, ↓ae_ptr0, eget_zero, eget_succ, eget_nil, ↓reduceIte, Nat.reduceEqDiff, reduceCtorEq, Bool.false_eq_true, Nat.reduceBEq, decide_true, decide_false, Bool.not_true, Bool.not_false, List.getElem?_toArray, List.getElem?_cons_zero, List.getElem?_cons_succ, Nat.zero_add, Nat.add_zero, Nat.reduceAdd, Nat.reduceMul, Nat.reduceSub, Nat.reduceLT, Nat.reduceLeDiff, and_true, true_and, and_self, e0, e5, e6]; rfl)
                  · rintro m' e S ⟨q', g1, g2, g3, gF, e0, e6, e8, e5, rfl⟩
                    refine VWP_Vc _ _ _ _ ?_
                    have h0' : (0 : Int) ≤ q' := by omega
                    have wq : IntKind.i64.wrap ((q' : Int) + 1) = (q' : Int) + 1 := wrap_id (by omega) (by omega)
                    have a1 : (q : Int) ≤ q' := by omega
                    have a2 : (q' : Int) ≤ s.size := by omega
                    by_cases hl' : q' < s.size
                    · obtain ⟨m', rfl⟩ : ∃ n, m' = n + 1 := ⟨m' - 1, by omega⟩
                      obtain ⟨d, hd⟩ := tba_get hl'
                      have hqi' : (q' : Int) < s.size := by omega
                      simp only [runF, hd] at gF
                      cases d0 : smlB d.toNat with
                      | true =>
                        rw [show sdB d.toNat = true by simp [sdB, d0], if_pos rfl] at gF
                        simp -dsimp only [↓Hold_5, ↓VWP_seq, ↓VWP_region, ↓VWP_cond, ↓VWP_skip, ↓VWP_block, ↓VReg_one, ↓VReg_nil, ↓VS_guard, ↓VS_move, ↓VS_assign, ↓VS_pick, ↓VS_binOp, ↓VS_index, ↓VS_len, ↓Hold_1, With_some, emap_nil, ↓eget_eset, ↓ae_tmp, ↓ae_int, ↓ae_bool, lop_pick, asBool_bool, asGuard_bool, bb_tf, ayielded_eq, ↓dstAt_zero, ↓dstAt_succ, Option.map_some, Option.bind_some, ↓reduceIte, Nat.reduceEqDiff, reduceCtorEq, Bool.false_eq_true, decide_true, and_true, true_and, and_self, List.map_cons, List.map_nil, List.map_nil, List.map_cons, beq_self_eq_true, vbin_int, abin_lss, abin_add, beq_self_eq_true, Int.toNat_natCast, decide_true, beq_self_eq_true, bb_tf, ix9, vlr9, ↓vfk12, e0, e6, e8, e5, hqi', h0', hd, ↓rsml_c h.sml, d0, wq]
                        exact ⟨m', by omega, q' + 1, by omega, by omega, by omega, gF, by rw [show (q' : Int) + 1 = ((q' + 1 : Nat) : Int) by omega]⟩
                      | false =>
                        cases d1 : digB d.toNat with
                        | true =>
                          rw [show sdB d.toNat = true by simp [sdB, d1], if_pos rfl] at gF
                          simp -dsimp only [↓Hold_5, ↓VWP_seq, ↓VWP_region, ↓VWP_cond, ↓VWP_skip, ↓VWP_block, ↓VReg_one, ↓VReg_nil, ↓VS_guard, ↓VS_move, ↓VS_assign, ↓VS_pick, ↓VS_binOp, ↓VS_index, ↓VS_len, ↓Hold_1, With_some, emap_nil, ↓eget_eset, ↓ae_tmp, ↓ae_int, lop_pick, asBool_bool, asGuard_bool, ayielded_eq, ↓dstAt_zero, ↓dstAt_succ, Option.map_some, Option.bind_some, ↓reduceIte, Nat.reduceEqDiff, reduceCtorEq, Bool.false_eq_true, decide_true, and_true, true_and, and_self, List.map_cons, List.map_nil, List.map_nil, List.map_cons, beq_self_eq_true, vbin_int, abin_lss, abin_add, beq_self_eq_true, Int.toNat_natCast, decide_true, beq_self_eq_true, ix9, vlr9, ↓vfk10, ↓vfk12, e0, e6, e8, e5, hqi', h0', hd, ↓rdig_c h.dig, ↓rsml_c h.sml, d0, d1, wq]
                          exact ⟨m', by omega, q' + 1, by omega, by omega, by omega, gF, by rw [show (q' : Int) + 1 = ((q' + 1 : Nat) : Int) by omega]⟩
                        | false =>
                          rw [show sdB d.toNat = false by simp [sdB, d0, d1], if_neg (by simp)] at gF
                          simp -dsimp only [↓Hold_5, ↓VWP_seq, ↓VWP_region, ↓VWP_cond, ↓VWP_exit, ↓VReg_one, ↓VReg_nil, ↓VS_guard, ↓VS_move, ↓VS_assign, ↓VS_pick, ↓VS_build, ↓VS_binOp, ↓VS_slice, ↓VS_index, ↓VS_len, ↓VS_buildSlice, ↓VS_append, ↓Hold_1, ↓Hold_3, With_some, emap_nil, emap_cons, ↓eget_map, ↓eget_eset, ↓ae_tmp, ↓ae_int, lop_pick, asBool_bool, asGuard_bool, ayielded_eq, ↓dstAt_zero, ↓dstAt_succ, Option.map_some, Option.bind_some, Option.map_none, ↓reduceIte, Nat.reduceEqDiff, reduceCtorEq, Bool.false_eq_true, decide_true, Bool.not_false, Nat.zero_add, Nat.reduceAdd, Nat.reduceMul, Nat.reduceLT, Nat.reduceLeDiff, and_true, true_and, and_self, List.map_cons, List.map_nil, List.all_cons, List.all_nil, tup_int, cel_int, tup_str, cel_str, tup_agg, cel_agg, List.toList_toArray, List.size_toArray, List.length_cons, List.length_nil, mapOwn_agg, mapOwn_int, mapOwn_string, mapOwn_slice, toksL_nil, toksL_cons, toks_int, toks_string, toks_agg, okv_agg, okv_int, okv_string, List.flatMap_nil, List.flatMap_cons, List.all_nil, List.all_cons, List.append_nil, List.map_nil, List.map_cons, Bool.and_self, Bool.not_false, beq_self_eq_true, vturn_nil, vthaw_one, boxesOf_nil, List.set_cons_zero, List.set_cons_succ, List.length_cons, List.length_nil, velems_own, vgrow_nil, partsOk_nil, partsOk_cons, vfill_nil, vfill_cons, vbin_int, List.replicate_succ, List.replicate_zero, abin_lss, beq_self_eq_true, Int.toNat_natCast, decide_true, beq_self_eq_true, afill, setAll, abound_some, bd33, pl33_0, pl33_1, pl33_2, vbd23, ix9, vsl9, vlr9, vap23, ↓vfk10, ↓vfk12, e0, e6, e8, e5, hqi', h0', h0, hd, ↓rdig_c h.dig, ↓rsml_c h.sml, d0, d1, a1, a2, Int.toNat_natCast]
                          exact ⟨m, by omega, runF sdB s s.size q, l ++ [⟨4, q, s.extract q (runF sdB s s.size q)⟩], by omega, by omega, hF, by simp; omega, by rw [gF], .inr ⟨by simp, _, by rw [gF]; simp only [hl0, List.map_cons, List.map_nil, List.nil_append]; rfl, by first | exact ht | decide⟩⟩
                    · have hqi' : ¬ (q' : Int) < s.size := by omega
                      rw [runF_end _ _ _ _ (by omega)] at gF
                      simp -dsimp only [↓VWP_seq, ↓VWP_region, ↓VWP_cond, ↓VWP_exit, ↓VReg_one, ↓VReg_nil, ↓VS_guard, ↓VS_move, ↓VS_assign, ↓VS_pick, ↓VS_build, ↓VS_binOp, ↓VS_slice, ↓VS_len, ↓VS_buildSlice, ↓VS_append, ↓Hold_1, ↓Hold_3, With_some, emap_nil, emap_cons, ↓eget_map, ↓eget_eset, ↓ae_tmp, ↓ae_int, ↓ae_bool, lop_pick, asBool_bool, asGuard_bool, asGuard_nr, bb_ft, ayielded_eq, ↓dstAt_zero, ↓dstAt_succ, Option.map_some, Option.bind_some, Option.map_none, ↓reduceIte, Nat.reduceEqDiff, reduceCtorEq, Bool.false_eq_true, decide_true, decide_false, Bool.not_false, Nat.zero_add, Nat.reduceAdd, Nat.reduceMul, Nat.reduceLT, Nat.reduceLeDiff, and_true, true_and, and_self, List.map_cons, List.map_nil, List.all_cons, List.all_nil, tup_int, cel_int, tup_str, cel_str, tup_agg, cel_agg, List.toList_toArray, List.size_toArray, List.length_cons, List.length_nil, mapOwn_agg, mapOwn_int, mapOwn_string, mapOwn_slice, toksL_nil, toksL_cons, toks_int, toks_string, toks_agg, okv_agg, okv_int, okv_string, List.flatMap_nil, List.flatMap_cons, List.all_nil, List.all_cons, List.append_nil, List.map_nil, List.map_cons, Bool.and_self, Bool.not_false, beq_self_eq_true, vturn_nil, vthaw_one, boxesOf_nil, List.set_cons_zero, List.set_cons_succ, List.length_cons, List.length_nil, velems_own, vgrow_nil, partsOk_nil, partsOk_cons, vfill_nil, vfill_cons, vbin_int, List.replicate_succ, List.replicate_zero, abin_lss, beq_self_eq_true, Int.toNat_natCast, decide_true, decide_false, beq_self_eq_true, bb_ft, afill, setAll, abound_some, bd33, pl33_0, pl33_1, pl33_2, vbd23, vsl9, vlr9, vap23, e0, e6, e8, e5, hqi', h0, a1, a2, Int.toNat_natCast]
                      exact ⟨m, by omega, runF sdB s s.size q, l ++ [⟨4, q, s.extract q (runF sdB s s.size q)⟩], by omega, by omega, hF, by simp; omega, by rw [gF], .inr ⟨by simp, _, by rw [gF]; simp only [hl0, List.map_cons, List.map_nil, List.nil_append]; rfl, by first | exact ht | decide⟩⟩
                | false =>
                  by_cases c4 : c = 34
                  · have c4' := (u8_lit c).2 c4
                    have g1 : digB 34 = false := rfl
                    have g2 : grtB 34 = false := rfl
                    have g3 : smlB 34 = false := rfl
                    cases hQ : quoF s s.size (q + 1) [] with
                    | none =>
                      have hn : nextF s q = none := by simp [nextF, hc, c4, g1, g2, g3, hQ]
                      rw [hn] at hF
                      have hcl := fun S K => rquo_c h.quo s q hlt (by omega) (v := .tuple ⟨[.string .empty, .int .i64 0, .bool false]⟩) (by rw [hQ]; rfl) rfl S K
                      simp -dsimp only [↓Hold_5, ↓VWP_seq, ↓VWP_region, ↓VWP_cond, ↓VWP_ret, ↓VWP_skip, ↓VWP_block, ↓VReg_one, ↓VReg_nil, ↓VS_move, ↓VS_assign, ↓VS_binOp, ↓VS_unOp, ↓VS_index, ↓VS_extract, ↓VS_len, ↓With_guard, ↓Hold_1, ↓Hold_3, With_some, emap_nil, ↓eget_eset, ↓ae_tmp, ↓ae_int, ↓ae_slice0, lop_extract, lop_not, asBool_bool, ↓vfinish_ret, ↓vres_nil, ↓vres_tmp, vtell_eq, ret1, Option.map_some, Option.bind_some, ↓reduceIte, Nat.reduceEqDiff, reduceCtorEq, Bool.false_eq_true, decide_true, decide_false, Bool.not_false, List.getElem?_toArray, List.getElem?_cons_zero, List.getElem?_cons_succ, true_and, List.map_cons, List.map_nil, List.all_cons, List.all_nil, Bool.and_true, List.toList_toArray, List.length_nil, mapOwn_tuple, mapOwn_int, mapOwn_slice, toks_int, toks_slice, toks_tuple, okv_tuple, okv_int, okv_slice0, List.flatMap_nil, List.flatMap_cons, List.all_nil, List.all_cons, List.append_nil, List.map_nil, List.map_cons, Bool.and_true, Bool.and_self, Bool.not_false, beq_self_eq_true, vthaw_nil, vwrites_nil, List.length_nil, vbin_int, abin_eql, abin_lss, beq_self_eq_true, Int.toNat_natCast, decide_true, decide_false, beq_self_eq_true, ibeq, Int.reduceEq, ix9, vlr9, ↓vfk10, ↓vfk11, ↓vfk12, ↓vfk13, Try.results6, e0, e6, hqi, h0, hc, ↓rdig_c h.dig, ↓rgrt_c h.grt, ↓rsml_c h.sml, c4', g1, g2, g3, ↓hcl]
                      rw [← hF]
                      rfl
                    | some te =>
                      obtain ⟨tt, e'⟩ := te
                      have hn : nextF s q = some (⟨2, q, ⟨tt.toArray⟩⟩, e') := by simp [nextF, hc, c4, g1, g2, g3, hQ]
                      rw [hn] at hF
                      have hle := nextF_le hn
                      have hcl := fun S K => rquo_c h.quo s q hlt (by omega) (v := .tuple ⟨[.string ⟨tt.toArray⟩, .int .i64 e', .bool true]⟩) (by rw [hQ]; rfl) rfl S K
                      simp -dsimp only [↓Hold_5, ↓VWP_seq, ↓VWP_region, ↓VWP_cond, ↓VWP_skip, ↓VWP_block, ↓VReg_one, ↓VReg_nil, ↓VS_move, ↓VS_assign, ↓VS_build, ↓VS_binOp, ↓VS_unOp, ↓VS_index, ↓VS_extract, ↓VS_len, ↓VS_buildSlice, ↓VS_append, ↓Hold_1, With_some, emap_nil, emap_cons, ↓eget_map, ↓eget_eset, ↓ae_tmp, ↓ae_int, lop_extract, lop_not, asBool_bool, Option.map_some, Option.bind_some, ↓reduceIte, Nat.reduceEqDiff, reduceCtorEq, Bool.false_eq_true, decide_true, decide_false, Bool.not_true, Bool.not_false, List.getElem?_toArray, List.getElem?_cons_zero, List.getElem?_cons_succ, Nat.zero_add, Nat.reduceAdd, Nat.reduceMul, Nat.reduceLT, Nat.reduceLeDiff, and_true, true_and, and_self, List.map_cons, List.map_nil, List.all_cons, List.all_nil, tup_int, cel_int, tup_str, cel_str, tup_agg, cel_agg, List.toList_toArray, List.size_toArray, List.length_cons, List.length_nil, mapOwn_agg, mapOwn_int, mapOwn_string, mapOwn_slice, toksL_nil, toksL_cons, toks_int, toks_string, toks_agg, okv_agg, okv_int, okv_string, List.flatMap_nil, List.flatMap_cons, List.all_nil, List.all_cons, List.append_nil, List.map_nil, List.map_cons, Bool.and_self, Bool.not_true, Bool.not_false, beq_self_eq_true, vturn_nil, vthaw_one, boxesOf_nil, List.set_cons_zero, List.set_cons_succ, List.length_cons, List.length_nil, velems_own, vgrow_nil, partsOk_nil, partsOk_cons, vfill_nil, vfill_cons, vbin_int, List.replicate_succ, List.replicate_zero, abin_eql, abin_lss, beq_self_eq_true, Int.toNat_natCast, decide_true, decide_false, beq_self_eq_true, afill, setAll, ibeq, Int.reduceEq, bd33, pl33_0, pl33_1, pl33_2, vbd23, ix9, vlr9, vap23, ↓vfk10, ↓vfk11, ↓vfk12, ↓vfk13, e0, e6, e5, hqi, h0, hc, ↓rdig_c h.dig, ↓rgrt_c h.grt, ↓rsml_c h.sml, c4', g1, g2, g3, ↓hcl]
                      exact ⟨m, by omega, e', l ++ [⟨2, q, ⟨tt.toArray⟩⟩], by omega, by omega, hF, by simp; omega, rfl, .inr ⟨by simp, _, by simp only [hl0, List.map_cons, List.map_nil, List.nil_append]; rfl, by first | exact ht | decide⟩⟩
                  · have c4' : ¬ ((c.toNat : Int) = 34) := fun h => c4 ((u8_lit c).1 h)
                    have hsg := fun S K => rsign_c h.sign s q hlt (by omega) S K
                    by_cases hz : signF s q = 0
                    · have hn : nextF s q = none := by simp [nextF, hc, c1, c2, c3, c4, hz]
                      rw [hn] at hF
                      rw [hz] at hsg
                      simp -dsimp only [↓Hold_5, ↓VWP_seq, ↓VWP_region, ↓VWP_cond, ↓VWP_ret, ↓VWP_skip, ↓VWP_block, ↓VReg_one, ↓VReg_nil, ↓VS_move, ↓VS_assign, ↓VS_binOp, ↓VS_index, ↓VS_len, ↓With_guard, ↓Hold_1, ↓Hold_3, With_some, emap_nil, ↓eget_eset, ↓ae_tmp, ↓ae_int, ↓ae_slice0, asBool_bool, ↓vfinish_ret, ↓vres_nil, ↓vres_tmp, vtell_eq, ret1, Option.map_some, Option.bind_some, ↓reduceIte, Nat.reduceEqDiff, reduceCtorEq, Bool.false_eq_true, decide_true, decide_false, true_and, List.map_cons, List.map_nil, List.all_cons, List.all_nil, Bool.and_true, List.toList_toArray, List.length_nil, mapOwn_tuple, mapOwn_int, mapOwn_slice, toks_int, toks_slice, toks_tuple, okv_tuple, okv_int, okv_slice0, List.flatMap_nil, List.flatMap_cons, List.all_nil, List.all_cons, List.append_nil, List.map_nil, List.map_cons, Bool.and_true, Bool.and_self, beq_self_eq_true, vthaw_nil, vwrites_nil, List.length_nil, vbin_int, abin_eql, abin_lss, Int.cast_ofNat_Int, beq_self_eq_true, Int.toNat_natCast, decide_true, decide_false, beq_self_eq_true, ibeq, ix9, vlr9, ↓vfk10, ↓vfk11, ↓vfk12, ↓vfk14, Try.results6, e0, e6, hqi, h0, hc, hsp', ↓rdig_c h.dig, ↓rgrt_c h.grt, ↓rsml_c h.sml, c1, c2, c3, c4', ↓hsg]
                      rw [← hF]
                      rfl
                    · have hn : nextF s q = some (⟨5, q, s.extract q (q + signF s q)⟩, q + signF s q) := by simp [nextF, hc, c1, c2, c3, c4, hz]
                      rw [hn] at hF
                      have hle := nextF_le hn
                      have hz' : ¬ ((signF s q : Nat) : Int) = 0 := by omega
                      have ws : IntKind.i64.wrap ((q : Int) + (signF s q : Nat)) = ((q + signF s q : Nat) : Int) := by rw [wrap_id (by omega) (by omega)]; omega
                      have a1 : (q : Int) ≤ ((q + signF s q : Nat) : Int) := by omega
                      have a2 : ((q + signF s q : Nat) : Int) ≤ s.size := by omega
                      simp -dsimp only [↓Hold_5, ↓VWP_seq, ↓VWP_region, ↓VWP_cond, ↓VWP_skip, ↓VWP_block, ↓VReg_one, ↓VReg_nil, ↓VS_move, ↓VS_assign, ↓VS_build, ↓VS_binOp, ↓VS_slice, ↓VS_index, ↓VS_len, ↓VS_buildSlice, ↓VS_append, ↓Hold_1, With_some, emap_nil, emap_cons, ↓eget_map, ↓eget_eset, ↓ae_tmp, ↓ae_int, asBool_bool, Option.map_some, Option.bind_some, Option.map_none, ↓reduceIte, Nat.reduceEqDiff, reduceCtorEq, Bool.false_eq_true, decide_true, decide_false, Bool.not_false, Nat.zero_add, Nat.reduceAdd, Nat.reduceMul, Nat.reduceLT, Nat.reduceLeDiff, and_true, true_and, and_self, List.map_cons, List.map_nil, List.all_cons, List.all_nil, tup_int, cel_int, tup_str, cel_str, tup_agg, cel_agg, List.toList_toArray, List.size_toArray, List.length_cons, List.length_nil, mapOwn_agg, mapOwn_int, mapOwn_string, mapOwn_slice, toksL_nil, toksL_cons, toks_int, toks_string, toks_agg, okv_agg, okv_int, okv_string, List.flatMap_nil, List.flatMap_cons, List.all_nil, List.all_cons, List.append_nil, List.map_nil, List.map_cons, Bool.and_self, Bool.not_false, beq_self_eq_true, vturn_nil, vthaw_one, boxesOf_nil, List.set_cons_zero, List.set_cons_succ, List.length_cons, List.length_nil, velems_own, vgrow_nil, partsOk_nil, partsOk_cons, vfill_nil, vfill_cons, vbin_int, List.replicate_succ, List.replicate_zero, abin_eql, abin_lss, abin_add, beq_self_eq_true, Int.toNat_natCast, decide_true, decide_false, beq_self_eq_true, afill, setAll, ibeq, abound_some, bd33, pl33_0, pl33_1, pl33_2, vbd23, ix9, vsl9, vlr9, vap23, ↓vfk10, ↓vfk11, ↓vfk12, ↓vfk14, e0, e6, e5, hqi, h0, hc, hsp', ↓rdig_c h.dig, ↓rgrt_c h.grt, ↓rsml_c h.sml, c1, c2, c3, c4', ↓hsg, hz', ws, a1, a2, Int.toNat_natCast]
                      exact ⟨m, by omega, q + signF s q, l ++ [⟨5, q, s.extract q (q + signF s q)⟩], by omega, by omega, hF, by simp; omega, rfl, .inr ⟨by simp, _, by simp only [hl0, List.map_cons, List.map_nil, List.nil_append]; rfl, by first | exact ht | decide⟩⟩
          · have n1 : ¬ t = 40 := by omega
            have n2 : ¬ t = 69 := by omega
            have n3 : ¬ t = 99 := by omega
            have n4 : ¬ t = 129 := by omega
            have n5 : ¬ t = 148 := by omega
            cases c1 : digB c.toNat with
            | true =>
              have hn : nextF s q = some (⟨1, q, s.extract q (runF digB s s.size q)⟩, runF digB s s.size q) := by simp [nextF, hc, c1]
              rw [hn] at hF
              have hle := nextF_le hn
              simp -dsimp only [↓Hold_5, ↓VWP_seq, ↓VWP_region, ↓VWP_cond, ↓VWP_skip, ↓VWP_block, ↓VWP_loop, ↓VReg_one, ↓VReg_nil, ↓VS_move, ↓VS_assign, ↓VS_binOp, ↓VS_index, ↓VS_len, ↓Hold_1, With_some, emap_nil, ↓eget_eset, ↓ae_tmp, ↓ae_int, asBool_bool, Option.map_some, ↓reduceIte, Nat.reduceEqDiff, reduceCtorEq, Bool.false_eq_true, decide_true, decide_false, List.map_cons, List.map_nil, List.map_nil, List.map_cons, vbin_int, abin_eql, abin_lss, Int.toNat_natCast, decide_true, decide_false, ibeq, ix9, vlr9, ↓vfk10, e0, e6, hqi, h0, hc, hsp', ↓rdig_c h.dig, c1]
              refine Vc_loop (fun m' e S => ∃ q' : Nat, q ≤ q' ∧ q' ≤ s.size ∧ s.size ≤ q' + m' ∧ runF digB s m' q' = runF digB s s.size q ∧ eget e 0 = .string s ∧ eget e 6 = .int .i64 q' ∧ eget e 8 = .int .i64 q ∧ eget e 5 = vo (t, none) 3 0 (l.map TK.v) ∧ S = ⟨[], [], []⟩) s.size ?_ ?_
              · refine ⟨q, by omega, by omega, by omega, rfl, ?_, ?_, ?_, ?_, rfl⟩ <;> first | (simp only [↓eget_eset, ↓reduceIte, Nat.reduceEqDiff, reduceCtorEq, e0, e5, e6]; done) | (simp only [emap_nil, emap_cons, ↓eget_map, ↓eget_eset, ↓ae_tmp, ↓ae_int, ↓ae_bool, ↓ae_string, ↓ae_func, ↓ae_slice0, ↓ae_ptr0, eget_zero, eget_succ, eget_nil, ↓reduceIte, Nat.reduceEqDiff, reduceCtorEq, Bool.false_eq_true, Nat.reduceBEq, decide_true, decide_false, Bool.not_true, Bool.not_false, List.getElem?_toArray, List.getElem?_cons_zero, List.getElem?_cons_succ, Nat.zero_add, Nat.add_zero, Nat.reduceAdd, Nat.reduceMul, Nat.reduceSub, Nat.reduceLT, Nat.reduceLeDiff, and_true, true_and, and_self, e0, e5, e6]; rfl)
              · rintro m' e S ⟨q', g1, g2, g3, gF, e0, e6, e8, e5, rfl⟩
                refine VWP_Vc _ _ _ _ ?_
                have h0' : (0 : Int) ≤ q' := by omega
                have wq : IntKind.i64.wrap ((q' : Int) + 1) = (q' : Int) + 1 := wrap_id (by omega) (by omega)
                have a1 : (q : Int) ≤ q' := by omega
                have a2 : (q' : Int) ≤ s.size := by omega
                by_cases hl' : q' < s.size
                · obtain ⟨m', rfl⟩ : ∃ n, m' = n + 1 := ⟨m' - 1, by omega⟩
                  obtain ⟨d, hd⟩ := tba_get hl'
                  have hqi' : (q' : Int) < s.size := by omega
                  simp only [runF, hd] at gF
                  cases d1 : digB d.toNat with
                  | true =>
                    rw [show digB d.toNat = true from d1, if_pos rfl] at gF
                    simp -dsimp only [↓Hold_5, ↓VWP_seq, ↓VWP_region, ↓VWP_cond, ↓VWP_skip, ↓VWP_block, ↓VReg_one, ↓VReg_nil, ↓VS_guard, ↓VS_move, ↓VS_assign, ↓VS_pick, ↓VS_binOp, ↓VS_index, ↓VS_len, ↓Hold_1, With_some, emap_nil, ↓eget_eset, ↓ae_tmp, ↓ae_int, lop_pick, asBool_bool, asGuard_bool, ayielded_eq, ↓dstAt_zero, ↓dstAt_succ, Option.map_some, Option.bind_some, ↓reduceIte, Nat.reduceEqDiff, reduceCtorEq, decide_true, and_true, true_and, and_self, List.map_cons, List.map_nil, List.map_nil, List.map_cons, beq_self_eq_true, vbin_int, abin_lss, abin_add, beq_self_eq_true, Int.toNat_natCast, decide_true, beq_self_eq_true, ix9, vlr9, ↓vfk10, e0, e6, e8, e5, hqi', h0', hd, ↓rdig_c h.dig, d1, wq]
                    exact ⟨m', by omega, q' + 1, by omega, by omega, by omega, gF, by rw [show (q' : Int) + 1 = ((q' + 1 : Nat) : Int) by omega]⟩
                  | false =>
                    rw [show digB d.toNat = false from d1, if_neg (by simp)] at gF
                    simp -dsimp only [↓Hold_5, ↓VWP_seq, ↓VWP_region, ↓VWP_cond, ↓VWP_exit, ↓VReg_one, ↓VReg_nil, ↓VS_guard, ↓VS_move, ↓VS_assign, ↓VS_pick, ↓VS_build, ↓VS_binOp, ↓VS_slice, ↓VS_index, ↓VS_len, ↓VS_buildSlice, ↓VS_append, ↓With_guard, ↓Hold_1, ↓Hold_3, With_some, emap_nil, emap_cons, ↓eget_map, ↓eget_eset, ↓ae_tmp, ↓ae_int, lop_pick, asBool_bool, asGuard_bool, ayielded_eq, ↓dstAt_zero, ↓dstAt_succ, Option.map_some, Option.bind_some, Option.map_none, ↓reduceIte, Nat.reduceEqDiff, reduceCtorEq, Bool.false_eq_true, decide_true, Bool.not_false, Nat.zero_add, Nat.reduceAdd, Nat.reduceMul, Nat.reduceLT, Nat.reduceLeDiff, and_true, true_and, and_self, List.map_cons, List.map_nil, List.all_cons, List.all_nil, tup_int, cel_int, tup_str, cel_str, tup_agg, cel_agg, List.toList_toArray, List.size_toArray, List.length_cons, List.length_nil, mapOwn_vo, mapOwn_agg, mapOwn_int, mapOwn_string, thaw_own, toksL_nil, toksL_cons, toks_int, toks_string, toks_agg, okv_agg, okv_int, okv_string, List.flatMap_nil, List.flatMap_cons, List.all_nil, List.all_cons, List.append_nil, List.map_nil, List.map_cons, Bool.and_self, Bool.not_false, List.mem_cons, List.not_mem_nil, or_false, Prod.mk.injEq, beq_self_eq_true, vturn_nil, vthaw_one, boxesOf_nil, ownBox_none, List.set_cons_zero, List.set_cons_succ, List.length_cons, List.length_nil, velems_own, vgrow_own, partsOk_nil, partsOk_cons, vfill_nil, vfill_cons, vbin_int, List.replicate_succ, List.replicate_zero, abin_lss, beq_self_eq_true, Int.toNat_natCast, decide_true, beq_self_eq_true, afill, setAll, abound_some, bd33, pl33_0, pl33_1, pl33_2, vbd23, ix9, vsl9, vlr9, vap23, ↓vfk10, n2, e0, e6, e8, e5, hqi', h0', h0, hd, ↓rdig_c h.dig, d1, a1, a2, Int.toNat_natCast]
                    exact ⟨⟨by rw [hlm]; omega, by rw [hlm]; omega⟩, m, by omega, runF digB s s.size q, l ++ [⟨1, q, s.extract q (runF digB s s.size q)⟩], by omega, by omega, hF, by simp; omega, by rw [gF], .inr ⟨by simp, _, by rw [gF]; simp only [List.map_append, List.map_cons, List.map_nil]; rfl, by first | exact ht | decide⟩⟩
                · have hqi' : ¬ (q' : Int) < s.size := by omega
                  rw [runF_end _ _ _ _ (by omega)] at gF
                  simp -dsimp only [↓VWP_seq, ↓VWP_region, ↓VWP_cond, ↓VWP_exit, ↓VReg_one, ↓VReg_nil, ↓VS_guard, ↓VS_move, ↓VS_assign, ↓VS_pick, ↓VS_build, ↓VS_binOp, ↓VS_slice, ↓VS_len, ↓VS_buildSlice, ↓VS_append, ↓With_guard, ↓Hold_1, ↓Hold_3, With_some, emap_nil, emap_cons, ↓eget_map, ↓eget_eset, ↓ae_tmp, ↓ae_int, ↓ae_bool, lop_pick, asBool_bool, asGuard_bool, bb_ft, ayielded_eq, ↓dstAt_zero, ↓dstAt_succ, Option.map_some, Option.bind_some, Option.map_none, ↓reduceIte, Nat.reduceEqDiff, reduceCtorEq, Bool.false_eq_true, decide_true, decide_false, Bool.not_false, Nat.zero_add, Nat.reduceAdd, Nat.reduceMul, Nat.reduceLT, Nat.reduceLeDiff, and_true, true_and, and_self, List.map_cons, List.map_nil, List.all_cons, List.all_nil, tup_int, cel_int, tup_str, cel_str, tup_agg, cel_agg, List.toList_toArray, List.size_toArray, List.length_cons, List.length_nil, mapOwn_vo, mapOwn_agg, mapOwn_int, mapOwn_string, thaw_own, toksL_nil, toksL_cons, toks_int, toks_string, toks_agg, okv_agg, okv_int, okv_string, List.flatMap_nil, List.flatMap_cons, List.all_nil, List.all_cons, List.append_nil, List.map_nil, List.map_cons, Bool.and_self, Bool.not_false, List.mem_cons, List.not_mem_nil, or_false, Prod.mk.injEq, beq_self_eq_true, vturn_nil, vthaw_one, boxesOf_nil, ownBox_none, List.set_cons_zero, List.set_cons_succ, List.length_cons, List.length_nil, velems_own, vgrow_own, partsOk_nil, partsOk_cons, vfill_nil, vfill_cons, vbin_int, List.replicate_succ, List.replicate_zero, abin_lss, beq_self_eq_true, Int.toNat_natCast, decide_true, decide_false, beq_self_eq_true, bb_ft, afill, setAll, abound_some, bd33, pl33_0, pl33_1, pl33_2, vbd23, vsl9, vlr9, vap23, n2, e0, e6, e8, e5, hqi', h0, a1, a2, Int.toNat_natCast]
                  exact ⟨⟨by rw [hlm]; omega, by rw [hlm]; omega⟩, m, by omega, runF digB s s.size q, l ++ [⟨1, q, s.extract q (runF digB s s.size q)⟩], by omega, by omega, hF, by simp; omega, by rw [gF], .inr ⟨by simp, _, by rw [gF]; simp only [List.map_append, List.map_cons, List.map_nil]; rfl, by first | exact ht | decide⟩⟩
            | false =>
              cases c2 : grtB c.toNat with
              | true =>
                have hn : nextF s q = some (⟨3, q, s.extract q (runF gdB s s.size q)⟩, runF gdB s s.size q) := by simp [nextF, hc, c1, c2]
                rw [hn] at hF
                have hle := nextF_le hn
                simp -dsimp only [↓Hold_5, ↓VWP_seq, ↓VWP_region, ↓VWP_cond, ↓VWP_skip, ↓VWP_block, ↓VWP_loop, ↓VReg_one, ↓VReg_nil, ↓VS_move, ↓VS_assign, ↓VS_binOp, ↓VS_index, ↓VS_len, ↓Hold_1, With_some, emap_nil, ↓eget_eset, ↓ae_tmp, ↓ae_int, asBool_bool, Option.map_some, ↓reduceIte, Nat.reduceEqDiff, reduceCtorEq, Bool.false_eq_true, decide_true, decide_false, List.map_cons, List.map_nil, List.map_nil, List.map_cons, vbin_int, abin_eql, abin_lss, Int.toNat_natCast, decide_true, decide_false, ibeq, ix9, vlr9, ↓vfk10, ↓vfk11, e0, e6, hqi, h0, hc, hsp', ↓rdig_c h.dig, ↓rgrt_c h.grt, c1, c2]
                refine Vc_loop (fun m' e S => ∃ q' : Nat, q ≤ q' ∧ q' ≤ s.size ∧ s.size ≤ q' + m' ∧ runF gdB s m' q' = runF gdB s s.size q ∧ eget e 0 = .string s ∧ eget e 6 = .int .i64 q' ∧ eget e 8 = .int .i64 q ∧ eget e 5 = vo (t, none) 3 0 (l.map TK.v) ∧ S = ⟨[], [], []⟩) s.size ?_ ?_
                · refine ⟨q, by omega, by omega, by omega, rfl, ?_, ?_, ?_, ?_, rfl⟩ <;> first | (simp only [↓eget_eset, ↓reduceIte, Nat.reduceEqDiff, reduceCtorEq, e0, e5, e6]; done) | (simp only [emap_nil, emap_cons, ↓eget_map, ↓eget_eset, ↓ae_tmp, ↓ae_int, ↓ae_bool, ↓ae_string, ↓ae_func, ↓ae_slice0, ↓ae_ptr0, eget_zero, eget_succ, eget_nil, ↓reduceIte, Nat.reduceEqDiff, reduceCtorEq, Bool.false_eq_true, Nat.reduceBEq, decide_true, decide_false, Bool.not_true, Bool.not_false, List.getElem?_toArray, List.getElem?_cons_zero, List.getElem?_cons_succ, Nat.zero_add, Nat.add_zero, Nat.reduceAdd, Nat.reduceMul, Nat.reduceSub, Nat.reduceLT, Nat.reduceLeDiff, and_true, true_and, and_self, e0, e5, e6]; rfl)
                · rintro m' e S ⟨q', g1, g2, g3, gF, e0, e6, e8, e5, rfl⟩
                  refine VWP_Vc _ _ _ _ ?_
                  have h0' : (0 : Int) ≤ q' := by omega
                  have wq : IntKind.i64.wrap ((q' : Int) + 1) = (q' : Int) + 1 := wrap_id (by omega) (by omega)
                  have a1 : (q : Int) ≤ q' := by omega
                  have a2 : (q' : Int) ≤ s.size := by omega
                  by_cases hl' : q' < s.size
                  · obtain ⟨m', rfl⟩ : ∃ n, m' = n + 1 := ⟨m' - 1, by omega⟩
                    obtain ⟨d, hd⟩ := tba_get hl'
                    have hqi' : (q' : Int) < s.size := by omega
                    simp only [runF, hd] at gF
                    cases d0 : grtB d.toNat with
                    | true =>
                      rw [show gdB d.toNat = true by simp [gdB, d0], if_pos rfl] at gF
                      simp -dsimp only [↓Hold_5, ↓VWP_seq, ↓VWP_region, ↓VWP_cond, ↓VWP_skip, ↓VWP_block, ↓VReg_one, ↓VReg_nil, ↓VS_guard, ↓VS_move, ↓VS_assign, ↓VS_pick, ↓VS_binOp, ↓VS_index, ↓VS_len, ↓Hold_1, With_some, emap_nil, ↓eget_eset, ↓ae_tmp, ↓ae_int, ↓ae_bool, lop_pick, asBool_bool, asGuard_bool, bb_tf, ayielded_eq, ↓dstAt_zero, ↓dstAt_succ, Option.map_some, Option.bind_some, ↓reduceIte, Nat.reduceEqDiff, reduceCtorEq, Bool.false_eq_true, decide_true, and_true, true_and, and_self, List.map_cons, List.map_nil, List.map_nil, List.map_cons, beq_self_eq_true, vbin_int, abin_lss, abin_add, beq_self_eq_true, Int.toNat_natCast, decide_true, beq_self_eq_true, bb_tf, ix9, vlr9, ↓vfk11, e0, e6, e8, e5, hqi', h0', hd, ↓rgrt_c h.grt, d0, wq]
                      exact ⟨m', by omega, q' + 1, by omega, by omega, by omega, gF, by rw [show (q' : Int) + 1 = ((q' + 1 : Nat) : Int) by omega]⟩
                    | false =>
                      cases d1 : digB d.toNat with
                      | true =>
                        rw [show gdB d.toNat = true by simp [gdB, d1], if_pos rfl] at gF
                        simp -dsimp only [↓Hold_5, ↓VWP_seq, ↓VWP_region, ↓VWP_cond, ↓VWP_skip, ↓VWP_block, ↓VReg_one, ↓VReg_nil, ↓VS_guard, ↓VS_move, ↓VS_assign, ↓VS_pick, ↓VS_binOp, ↓VS_index, ↓VS_len, ↓Hold_1, With_some, emap_nil, ↓eget_eset, ↓ae_tmp, ↓ae_int, lop_pick, asBool_bool, asGuard_bool, ayielded_eq, ↓dstAt_zero, ↓dstAt_succ, Option.map_some, Option.bind_some, ↓reduceIte, Nat.reduceEqDiff, reduceCtorEq, Bool.false_eq_true, decide_true, and_true, true_and, and_self, List.map_cons, List.map_nil, List.map_nil, List.map_cons, beq_self_eq_true, vbin_int, abin_lss, abin_add, beq_self_eq_true, Int.toNat_natCast, decide_true, beq_self_eq_true, ix9, vlr9, ↓vfk10, ↓vfk11, e0, e6, e8, e5, hqi', h0', hd, ↓rdig_c h.dig, ↓rgrt_c h.grt, d0, d1, wq]
                        exact ⟨m', by omega, q' + 1, by omega, by omega, by omega, gF, by rw [show (q' : Int) + 1 = ((q' + 1 : Nat) : Int) by omega]⟩
                      | false =>
                        rw [show gdB d.toNat = false by simp [gdB, d0, d1], if_neg (by simp)] at gF
                        simp -dsimp only [↓Hold_5, ↓VWP_seq, ↓VWP_region, ↓VWP_cond, ↓VWP_exit, ↓VReg_one, ↓VReg_nil, ↓VS_guard, ↓VS_move, ↓VS_assign, ↓VS_pick, ↓VS_build, ↓VS_binOp, ↓VS_slice, ↓VS_index, ↓VS_len, ↓VS_buildSlice, ↓VS_append, ↓With_guard, ↓Hold_1, ↓Hold_3, With_some, emap_nil, emap_cons, ↓eget_map, ↓eget_eset, ↓ae_tmp, ↓ae_int, lop_pick, asBool_bool, asGuard_bool, ayielded_eq, ↓dstAt_zero, ↓dstAt_succ, Option.map_some, Option.bind_some, Option.map_none, ↓reduceIte, Nat.reduceEqDiff, reduceCtorEq, Bool.false_eq_true, decide_true, Bool.not_false, Nat.zero_add, Nat.reduceAdd, Nat.reduceMul, Nat.reduceLT, Nat.reduceLeDiff, and_true, true_and, and_self, List.map_cons, List.map_nil, List.all_cons, List.all_nil, tup_int, cel_int, tup_str, cel_str, tup_agg, cel_agg, List.toList_toArray, List.size_toArray, List.length_cons, List.length_nil, mapOwn_vo, mapOwn_agg, mapOwn_int, mapOwn_string, thaw_own, toksL_nil, toksL_cons, toks_int, toks_string, toks_agg, okv_agg, okv_int, okv_string, List.flatMap_nil, List.flatMap_cons, List.all_nil, List.all_cons, List.append_nil, List.map_nil, List.map_cons, Bool.and_self, Bool.not_false, List.mem_cons, List.not_mem_nil, or_false, Prod.mk.injEq, beq_self_eq_true, vturn_nil, vthaw_one, boxesOf_nil, ownBox_none, List.set_cons_zero, List.set_cons_succ, List.length_cons, List.length_nil, velems_own, vgrow_own, partsOk_nil, partsOk_cons, vfill_nil, vfill_cons, vbin_int, List.replicate_succ, List.replicate_zero, abin_lss, beq_self_eq_true, Int.toNat_natCast, decide_true, beq_self_eq_true, afill, setAll, abound_some, bd33, pl33_0, pl33_1, pl33_2, vbd23, ix9, vsl9, vlr9, vap23, ↓vfk10, ↓vfk11, n3, e0, e6, e8, e5, hqi', h0', h0, hd, ↓rdig_c h.dig, ↓rgrt_c h.grt, d0, d1, a1, a2, Int.toNat_natCast]
                        exact ⟨⟨by rw [hlm]; omega, by rw [hlm]; omega⟩, m, by omega, runF gdB s s.size q, l ++ [⟨3, q, s.extract q (runF gdB s s.size q)⟩], by omega, by omega, hF, by simp; omega, by rw [gF], .inr ⟨by simp, _, by rw [gF]; simp only [List.map_append, List.map_cons, List.map_nil]; rfl, by first | exact ht | decide⟩⟩
                  · have hqi' : ¬ (q' : Int) < s.size := by omega
                    rw [runF_end _ _ _ _ (by omega)] at gF
                    simp -dsimp only [↓VWP_seq, ↓VWP_region, ↓VWP_cond, ↓VWP_exit, ↓VReg_one, ↓VReg_nil, ↓VS_guard, ↓VS_move, ↓VS_assign, ↓VS_pick, ↓VS_build, ↓VS_binOp, ↓VS_slice, ↓VS_len, ↓VS_buildSlice, ↓VS_append, ↓With_guard, ↓Hold_1, ↓Hold_3, With_some, emap_nil, emap_cons, ↓eget_map, ↓eget_eset, ↓ae_tmp, ↓ae_int, ↓ae_bool, lop_pick, asBool_bool, asGuard_bool, asGuard_nr, bb_ft, ayielded_eq, ↓dstAt_zero, ↓dstAt_succ, Option.map_some, Option.bind_some, Option.map_none, ↓reduceIte, Nat.reduceEqDiff, reduceCtorEq, Bool.false_eq_true, decide_true, decide_false, Bool.not_false, Nat.zero_add, Nat.reduceAdd, Nat.reduceMul, Nat.reduceLT, Nat.reduceLeDiff, and_true, true_and, and_self, List.map_cons, List.map_nil, List.all_cons, List.all_nil, tup_int, cel_int, tup_str, cel_str, tup_agg, cel_agg, List.toList_toArray, List.size_toArray, List.length_cons, List.length_nil, mapOwn_vo, mapOwn_agg, mapOwn_int, mapOwn_string, thaw_own, toksL_nil, toksL_cons, toks_int, toks_string, toks_agg, okv_agg, okv_int, okv_string, List.flatMap_nil, List.flatMap_cons, List.all_nil, List.all_cons, List.append_nil, List.map_nil, List.map_cons, Bool.and_self, Bool.not_false, List.mem_cons, List.not_mem_nil, or_false, Prod.mk.injEq, beq_self_eq_true, vturn_nil, vthaw_one, boxesOf_nil, ownBox_none, List.set_cons_zero, List.set_cons_succ, List.length_cons, List.length_nil, velems_own, vgrow_own, partsOk_nil, partsOk_cons, vfill_nil, vfill_cons, vbin_int, List.replicate_succ, List.replicate_zero, abin_lss, beq_self_eq_true, Int.toNat_natCast, decide_true, decide_false, beq_self_eq_true, bb_ft, afill, setAll, abound_some, bd33, pl33_0, pl33_1, pl33_2, vbd23, vsl9, vlr9, vap23, n3, e0, e6, e8, e5, hqi', h0, a1, a2, Int.toNat_natCast]
                    exact ⟨⟨by rw [hlm]; omega, by rw [hlm]; omega⟩, m, by omega, runF gdB s s.size q, l ++ [⟨3, q, s.extract q (runF gdB s s.size q)⟩], by omega, by omega, hF, by simp; omega, by rw [gF], .inr ⟨by simp, _, by rw [gF]; simp only [List.map_append, List.map_cons, List.map_nil]; rfl, by first | exact ht | decide⟩⟩
              | false =>
                cases c3 : smlB c.toNat with
                | true =>
                  have hn : nextF s q = some (⟨4, q, s.extract q (runF sdB s s.size q)⟩, runF sdB s s.size q) := by simp [nextF, hc, c1, c2, c3]
                  rw [hn] at hF
                  have hle := nextF_le hn
                  simp -dsimp only [↓Hold_5, ↓VWP_seq, ↓VWP_region, ↓VWP_cond, ↓VWP_skip, ↓VWP_block, ↓VWP_loop, ↓VReg_one, ↓VReg_nil, ↓VS_move, ↓VS_assign, ↓VS_binOp, ↓VS_index, ↓VS_len, ↓Hold_1, With_some, emap_nil, ↓eget_eset, ↓ae_tmp, ↓ae_int, asBool_bool, Option.map_some, ↓reduceIte, Nat.reduceEqDiff, reduceCtorEq, Bool.false_eq_true, decide_true, decide_false, List.map_cons, List.map_nil, List.map_nil, List.map_cons, vbin_int, abin_eql, abin_lss, Int.toNat_natCast, decide_true, decide_false, ibeq, ix9, vlr9, ↓vfk10, ↓vfk11, ↓vfk12, e0, e6, hqi, h0, hc, hsp', ↓rdig_c h.dig, ↓rgrt_c h.grt, ↓rsml_c h.sml, c1, c2, c3]
                  refine Vc_loop (fun m' e S => ∃ q' : Nat, q ≤ q' ∧ q' ≤ s.size ∧ s.size ≤ q' + m' ∧ runF sdB s m' q' = runF sdB s s.size q ∧ eget e 0 = .string s ∧ eget e 6 = .int .i64 q' ∧ eget e 8 = .int .i64 q ∧ eget e 5 = vo (t, none) 3 0 (l.map TK.v) ∧ S = ⟨[], [], []⟩) s.size ?_ ?_
                  · refine ⟨q, by omega, by omega, by omega, rfl, ?_, ?_, ?_, ?_, rfl⟩ <;> first | (simp only [↓eget_eset, ↓reduceIte, Nat.reduceEqDiff, reduceCtorEq, e0, e5, e6]; done) | (simp only [emap_nil, emap_cons, ↓eget_map, ↓eget_eset, ↓ae_tmp, ↓ae_int, ↓ae_bool, ↓ae_string, ↓ae_func, ↓ae_slice0, ↓ae_ptr0, eget_zero, eget_succ, eget_nil, ↓reduceIte, Nat.reduceEqDiff, reduceCtorEq, Bool.false_eq_true, Nat.reduceBEq, decide_true, decide_false, Bool.not_true, Bool.not_false, List.getElem?_toArray, List.getElem?_cons_zero, List.getElem?_cons_succ, Nat.zero_add, Nat.add_zero, Nat.reduceAdd, Nat.reduceMul, Nat.reduceSub, Nat.reduceLT, Nat.reduceLeDiff, and_true, true_and, and_self, e0, e5, e6]; rfl)
                  · rintro m' e S ⟨q', g1, g2, g3, gF, e0, e6, e8, e5, rfl⟩
                    refine VWP_Vc _ _ _ _ ?_
                    have h0' : (0 : Int) ≤ q' := by omega
                    have wq : IntKind.i64.wrap ((q' : Int) + 1) = (q' : Int) + 1 := wrap_id (by omega) (by omega)
                    have a1 : (q : Int) ≤ q' := by omega
                    have a2 : (q' : Int) ≤ s.size := by omega
                    by_cases hl' : q' < s.size
                    · obtain ⟨m', rfl⟩ : ∃ n, m' = n + 1 := ⟨m' - 1, by omega⟩
                      obtain ⟨d, hd⟩ := tba_get hl'
                      have hqi' : (q' : Int) < s.size := by omega
                      simp only [runF, hd] at gF
                      cases d0 : smlB d.toNat with
                      | true =>
                        rw [show sdB d.toNat = true by simp [sdB, d0], if_pos rfl] at gF
                        simp -dsimp only [↓Hold_5, ↓VWP_seq, ↓VWP_region, ↓VWP_cond, ↓VWP_skip, ↓VWP_block, ↓VReg_one, ↓VReg_nil, ↓VS_guard, ↓VS_move, ↓VS_assign, ↓VS_pick, ↓VS_binOp, ↓VS_index, ↓VS_len, ↓Hold_1, With_some, emap_nil, ↓eget_eset, ↓ae_tmp, ↓ae_int, ↓ae_bool, lop_pick, asBool_bool, asGuard_bool, bb_tf, ayielded_eq, ↓dstAt_zero, ↓dstAt_succ, Option.map_some, Option.bind_some, ↓reduceIte, Nat.reduceEqDiff, reduceCtorEq, Bool.false_eq_true, decide_true, and_true, true_and, and_self, List.map_cons, List.map_nil, List.map_nil, List.map_cons, beq_self_eq_true, vbin_int, abin_lss, abin_add, beq_self_eq_true, Int.toNat_natCast, decide_true, beq_self_eq_true, bb_tf, ix9, vlr9, ↓vfk12, e0, e6, e8, e5, hqi', h0', hd, ↓rsml_c h.sml, d0, wq]
                        exact ⟨m', by omega, q' + 1, by omega, by omega, by omega, gF, by rw [show (q' : Int) + 1 = ((q' + 1 : Nat) : Int) by omega]⟩
                      | false =>
                        cases d1 : digB d.toNat with
                        | true =>
                          rw [show sdB d.toNat = true by simp [sdB, d1], if_pos rfl] at gF
                          simp -dsimp only [↓Hold_5, ↓VWP_seq, ↓VWP_region, ↓VWP_cond, ↓VWP_skip, ↓VWP_block, ↓VReg_one, ↓VReg_nil, ↓VS_guard, ↓VS_move, ↓VS_assign, ↓VS_pick, ↓VS_binOp, ↓VS_index, ↓VS_len, ↓Hold_1, With_some, emap_nil, ↓eget_eset, ↓ae_tmp, ↓ae_int, lop_pick, asBool_bool, asGuard_bool, ayielded_eq, ↓dstAt_zero, ↓dstAt_succ, Option.map_some, Option.bind_some, ↓reduceIte, Nat.reduceEqDiff, reduceCtorEq, Bool.false_eq_true, decide_true, and_true, true_and, and_self, List.map_cons, List.map_nil, List.map_nil, List.map_cons, beq_self_eq_true, vbin_int, abin_lss, abin_add, beq_self_eq_true, Int.toNat_natCast, decide_true, beq_self_eq_true, ix9, vlr9, ↓vfk10, ↓vfk12, e0, e6, e8, e5, hqi', h0', hd, ↓rdig_c h.dig, ↓rsml_c h.sml, d0, d1, wq]
                          exact ⟨m', by omega, q' + 1, by omega, by omega, by omega, gF, by rw [show (q' : Int) + 1 = ((q' + 1 : Nat) : Int) by omega]⟩
                        | false =>
                          rw [show sdB d.toNat = false by simp [sdB, d0, d1], if_neg (by simp)] at gF
                          simp -dsimp only [↓Hold_5, ↓VWP_seq, ↓VWP_region, ↓VWP_cond, ↓VWP_exit, ↓VReg_one, ↓VReg_nil, ↓VS_guard, ↓VS_move, ↓VS_assign, ↓VS_pick, ↓VS_build, ↓VS_binOp, ↓VS_slice, ↓VS_index, ↓VS_len, ↓VS_buildSlice, ↓VS_append, ↓With_guard, ↓Hold_1, ↓Hold_3, With_some, emap_nil, emap_cons, ↓eget_map, ↓eget_eset, ↓ae_tmp, ↓ae_int, lop_pick, asBool_bool, asGuard_bool, ayielded_eq, ↓dstAt_zero, ↓dstAt_succ, Option.map_some, Option.bind_some, Option.map_none, ↓reduceIte, Nat.reduceEqDiff, reduceCtorEq, Bool.false_eq_true, decide_true, Bool.not_false, Nat.zero_add, Nat.reduceAdd, Nat.reduceMul, Nat.reduceLT, Nat.reduceLeDiff, and_true, true_and, and_self, List.map_cons, List.map_nil, List.all_cons, List.all_nil, tup_int, cel_int, tup_str, cel_str, tup_agg, cel_agg, List.toList_toArray, List.size_toArray, List.length_cons, List.length_nil, mapOwn_vo, mapOwn_agg, mapOwn_int, mapOwn_string, thaw_own, toksL_nil, toksL_cons, toks_int, toks_string, toks_agg, okv_agg, okv_int, okv_string, List.flatMap_nil, List.flatMap_cons, List.all_nil, List.all_cons, List.append_nil, List.map_nil, List.map_cons, Bool.and_self, Bool.not_false, List.mem_cons, List.not_mem_nil, or_false, Prod.mk.injEq, beq_self_eq_true, vturn_nil, vthaw_one, boxesOf_nil, ownBox_none, List.set_cons_zero, List.set_cons_succ, List.length_cons, List.length_nil, velems_own, vgrow_own, partsOk_nil, partsOk_cons, vfill_nil, vfill_cons, vbin_int, List.replicate_succ, List.replicate_zero, abin_lss, beq_self_eq_true, Int.toNat_natCast, decide_true, beq_self_eq_true, afill, setAll, abound_some, bd33, pl33_0, pl33_1, pl33_2, vbd23, ix9, vsl9, vlr9, vap23, ↓vfk10, ↓vfk12, n4, e0, e6, e8, e5, hqi', h0', h0, hd, ↓rdig_c h.dig, ↓rsml_c h.sml, d0, d1, a1, a2, Int.toNat_natCast]
                          exact ⟨⟨by rw [hlm]; omega, by rw [hlm]; omega⟩, m, by omega, runF sdB s s.size q, l ++ [⟨4, q, s.extract q (runF sdB s s.size q)⟩], by omega, by omega, hF, by simp; omega, by rw [gF], .inr ⟨by simp, _, by rw [gF]; simp only [List.map_append, List.map_cons, List.map_nil]; rfl, by first | exact ht | decide⟩⟩
                    · have hqi' : ¬ (q' : Int) < s.size := by omega
                      rw [runF_end _ _ _ _ (by omega)] at gF
                      simp -dsimp only [↓VWP_seq, ↓VWP_region, ↓VWP_cond, ↓VWP_exit, ↓VReg_one, ↓VReg_nil, ↓VS_guard, ↓VS_move, ↓VS_assign, ↓VS_pick, ↓VS_build, ↓VS_binOp, ↓VS_slice, ↓VS_len, ↓VS_buildSlice, ↓VS_append, ↓With_guard, ↓Hold_1, ↓Hold_3, With_some, emap_nil, emap_cons, ↓eget_map, ↓eget_eset, ↓ae_tmp, ↓ae_int, ↓ae_bool, lop_pick, asBool_bool, asGuard_bool, asGuard_nr, bb_ft, ayielded_eq, ↓dstAt_zero, ↓dstAt_succ, Option.map_some, Option.bind_some, Option.map_none, ↓reduceIte, Nat.reduceEqDiff, reduceCtorEq, Bool.false_eq_true, decide_true, decide_false, Bool.not_false, Nat.zero_add, Nat.reduceAdd, Nat.reduceMul, Nat.reduceLT, Nat.reduceLeDiff, and_true, true_and, and_self, List.map_cons, List.map_nil, List.all_cons, List.all_nil, tup_int, cel_int, tup_str, cel_str, tup_agg, cel_agg, List.toList_toArray, List.size_toArray, List.length_cons, List.length_nil, mapOwn_vo, mapOwn_agg, mapOwn_int, mapOwn_string, thaw_own, toksL_nil, toksL_cons, toks_int, toks_string, toks_agg, okv_agg, okv_int, okv_string, List.flatMap_nil, List.flatMap_cons, List.all_nil, List.all_cons, List.append_nil, List.map_nil, List.map_cons, Bool.and_self, Bool.not_false, List.mem_cons, List.not_mem_nil, or_false, Prod.mk.injEq, beq_self_eq_true, vturn_nil, vthaw_one, boxesOf_nil, ownBox_none, List.set_cons_zero, List.set_cons_succ, List.length_cons, List.length_nil, velems_own, vgrow_own, partsOk_nil, partsOk_cons, vfill_nil, vfill_cons, vbin_int, List.replicate_succ, List.replicate_zero, abin_lss, beq_self_eq_true, Int.toNat_natCast, decide_true, decide_false, beq_self_eq_true, bb_ft, afill, setAll, abound_some, bd33, pl33_0, pl33_1, pl33_2, vbd23, vsl9, vlr9, vap23, n4, e0, e6, e8, e5, hqi', h0, a1, a2, Int.toNat_natCast]
                      exact ⟨⟨by rw [hlm]; omega, by rw [hlm]; omega⟩, m, by omega, runF sdB s s.size q, l ++ [⟨4, q, s.extract q (runF sdB s s.size q)⟩], by omega, by omega, hF, by simp; omega, by rw [gF], .inr ⟨by simp, _, by rw [gF]; simp only [List.map_append, List.map_cons, List.map_nil]; rfl, by first | exact ht | decide⟩⟩
                | false =>
                  by_cases c4 : c = 34
                  · have c4' := (u8_lit c).2 c4
                    have g1 : digB 34 = false := rfl
                    have g2 : grtB 34 = false := rfl
                    have g3 : smlB 34 = false := rfl
                    cases hQ : quoF s s.size (q + 1) [] with
                    | none =>
                      have hn : nextF s q = none := by simp [nextF, hc, c4, g1, g2, g3, hQ]
                      rw [hn] at hF
                      have hcl := fun S K => rquo_c h.quo s q hlt (by omega) (v := .tuple ⟨[.string .empty, .int .i64 0, .bool false]⟩) (by rw [hQ]; rfl) rfl S K
                      simp -dsimp only [↓Hold_5, ↓VWP_seq, ↓VWP_region, ↓VWP_cond, ↓VWP_ret, ↓VWP_skip, ↓VWP_block, ↓VReg_one, ↓VReg_nil, ↓VS_move, ↓VS_assign, ↓VS_binOp, ↓VS_unOp, ↓VS_index, ↓VS_extract, ↓VS_len, ↓With_guard, ↓Hold_1, ↓Hold_3, With_some, emap_nil, ↓eget_eset, ↓ae_tmp, ↓ae_int, ↓ae_slice0, lop_extract, lop_not, asBool_bool, ↓vfinish_ret, ↓vres_nil, ↓vres_tmp, vtell_eq, ret1, Option.map_some, Option.bind_some, ↓reduceIte, Nat.reduceEqDiff, reduceCtorEq, Bool.false_eq_true, decide_true, decide_false, Bool.not_false, List.getElem?_toArray, List.getElem?_cons_zero, List.getElem?_cons_succ, true_and, List.map_cons, List.map_nil, List.all_cons, List.all_nil, Bool.and_true, List.toList_toArray, List.length_nil, mapOwn_tuple, mapOwn_int, mapOwn_slice, toks_int, toks_slice, toks_tuple, okv_tuple, okv_int, okv_slice0, List.flatMap_nil, List.flatMap_cons, List.all_nil, List.all_cons, List.append_nil, List.map_nil, List.map_cons, Bool.and_true, Bool.and_self, Bool.not_false, beq_self_eq_true, vthaw_nil, vwrites_nil, List.length_nil, vbin_int, abin_eql, abin_lss, beq_self_eq_true, Int.toNat_natCast, decide_true, decide_false, beq_self_eq_true, ibeq, Int.reduceEq, ix9, vlr9, ↓vfk10, ↓vfk11, ↓vfk12, ↓vfk13, Try.results6, e0, e6, hqi, h0, hc, ↓rdig_c h.dig, ↓rgrt_c h.grt, ↓rsml_c h.sml, c4', g1, g2, g3, ↓hcl]
                      rw [← hF]
                      rfl
                    | some te =>
                      obtain ⟨tt, e'⟩ := te
                      have hn : nextF s q = some (⟨2, q, ⟨tt.toArray⟩⟩, e') := by simp [nextF, hc, c4, g1, g2, g3, hQ]
                      rw [hn] at hF
                      have hle := nextF_le hn
                      have hcl := fun S K => rquo_c h.quo s q hlt (by omega) (v := .tuple ⟨[.string ⟨tt.toArray⟩, .int .i64 e', .bool true]⟩) (by rw [hQ]; rfl) rfl S K
                      simp -dsimp only [↓Hold_5, ↓VWP_seq, ↓VWP_region, ↓VWP_cond, ↓VWP_skip, ↓VWP_block, ↓VReg_one, ↓VReg_nil, ↓VS_move, ↓VS_assign, ↓VS_build, ↓VS_binOp, ↓VS_unOp, ↓VS_index, ↓VS_extract, ↓VS_len, ↓VS_buildSlice, ↓VS_append, ↓With_guard, ↓Hold_1, With_some, emap_nil, emap_cons, ↓eget_map, ↓eget_eset, ↓ae_tmp, ↓ae_int, lop_extract, lop_not, asBool_bool, Option.map_some, Option.bind_some, ↓reduceIte, Nat.reduceEqDiff, reduceCtorEq, Bool.false_eq_true, decide_true, decide_false, Bool.not_true, Bool.not_false, List.getElem?_toArray, List.getElem?_cons_zero, List.getElem?_cons_succ, Nat.zero_add, Nat.reduceAdd, Nat.reduceMul, Nat.reduceLT, Nat.reduceLeDiff, and_true, true_and, and_self, List.map_cons, List.map_nil, List.all_cons, List.all_nil, tup_int, cel_int, tup_str, cel_str, tup_agg, cel_agg, List.toList_toArray, List.size_toArray, List.length_cons, List.length_nil, mapOwn_vo, mapOwn_agg, mapOwn_int, mapOwn_string, thaw_own, toksL_nil, toksL_cons, toks_int, toks_string, toks_agg, okv_agg, okv_int, okv_string, List.flatMap_nil, List.flatMap_cons, List.all_nil, List.all_cons, List.append_nil, List.map_nil, List.map_cons, Bool.and_self, Bool.not_true, Bool.not_false, List.mem_cons, List.not_mem_nil, or_false, Prod.mk.injEq, beq_self_eq_true, vturn_nil, vthaw_one, boxesOf_nil, ownBox_none, List.set_cons_zero, List.set_cons_succ, List.length_cons, List.length_nil, velems_own, vgrow_own, partsOk_nil, partsOk_cons, vfill_nil, vfill_cons, vbin_int, List.replicate_succ, List.replicate_zero, abin_eql, abin_lss, beq_self_eq_true, Int.toNat_natCast, decide_true, decide_false, beq_self_eq_true, afill, setAll, ibeq, Int.reduceEq, bd33, pl33_0, pl33_1, pl33_2, vbd23, ix9, vlr9, vap23, ↓vfk10, ↓vfk11, ↓vfk12, ↓vfk13, n5, e0, e6, e5, hqi, h0, hc, ↓rdig_c h.dig, ↓rgrt_c h.grt, ↓rsml_c h.sml, c4', g1, g2, g3, ↓hcl]
                      exact ⟨⟨by rw [hlm]; omega, by rw [hlm]; omega⟩, m, by omega, e', l ++ [⟨2, q, ⟨tt.toArray⟩⟩], by omega, by omega, hF, by simp; omega, rfl, .inr ⟨by simp, _, by simp only [List.map_append, List.map_cons, List.map_nil]; rfl, by first | exact ht | decide⟩⟩
                  · have c4' : ¬ ((c.toNat : Int) = 34) := fun h => c4 ((u8_lit c).1 h)
                    have hsg := fun S K => rsign_c h.sign s q hlt (by omega) S K
                    by_cases hz : signF s q = 0
                    · have hn : nextF s q = none := by simp [nextF, hc, c1, c2, c3, c4, hz]
                      rw [hn] at hF
                      rw [hz] at hsg
                      simp -dsimp only [↓Hold_5, ↓VWP_seq, ↓VWP_region, ↓VWP_cond, ↓VWP_ret, ↓VWP_skip, ↓VWP_block, ↓VReg_one, ↓VReg_nil, ↓VS_move, ↓VS_assign, ↓VS_binOp, ↓VS_index, ↓VS_len, ↓With_guard, ↓Hold_1, ↓Hold_3, With_some, emap_nil, ↓eget_eset, ↓ae_tmp, ↓ae_int, ↓ae_slice0, asBool_bool, ↓vfinish_ret, ↓vres_nil, ↓vres_tmp, vtell_eq, ret1, Option.map_some, Option.bind_some, ↓reduceIte, Nat.reduceEqDiff, reduceCtorEq, Bool.false_eq_true, decide_true, decide_false, true_and, List.map_cons, List.map_nil, List.all_cons, List.all_nil, Bool.and_true, List.toList_toArray, List.length_nil, mapOwn_tuple, mapOwn_int, mapOwn_slice, toks_int, toks_slice, toks_tuple, okv_tuple, okv_int, okv_slice0, List.flatMap_nil, List.flatMap_cons, List.all_nil, List.all_cons, List.append_nil, List.map_nil, List.map_cons, Bool.and_true, Bool.and_self, beq_self_eq_true, vthaw_nil, vwrites_nil, List.length_nil, vbin_int, abin_eql, abin_lss, Int.cast_ofNat_Int, beq_self_eq_true, Int.toNat_natCast, decide_true, decide_false, beq_self_eq_true, ibeq, ix9, vlr9, ↓vfk10, ↓vfk11, ↓vfk12, ↓vfk14, Try.results6, e0, e6, hqi, h0, hc, hsp', ↓rdig_c h.dig, ↓rgrt_c h.grt, ↓rsml_c h.sml, c1, c2, c3, c4', ↓hsg]
                      rw [← hF]
                      rfl
                    · have hn : nextF s q = some (⟨5, q, s.extract q (q + signF s q)⟩, q + signF s q) := by simp [nextF, hc, c1, c2, c3, c4, hz]
                      rw [hn] at hF
                      have hle := nextF_le hn
                      have hz' : ¬ ((signF s q : Nat) : Int) = 0 := by omega
                      have ws : IntKind.i64.wrap ((q : Int) + (signF s q : Nat)) = ((q + signF s q : Nat) : Int) := by rw [wrap_id (by omega) (by omega)]; omega
                      have a1 : (q : Int) ≤ ((q + signF s q : Nat) : Int) := by omega
                      have a2 : ((q + signF s q : Nat) : Int) ≤ s.size := by omega
                      simp -dsimp only [↓Hold_5, ↓VWP_seq, ↓VWP_region, ↓VWP_cond, ↓VWP_skip, ↓VWP_block, ↓VReg_one, ↓VReg_nil, ↓VS_move, ↓VS_assign, ↓VS_build, ↓VS_binOp, ↓VS_slice, ↓VS_index, ↓VS_len, ↓VS_buildSlice, ↓VS_append, ↓With_guard, ↓Hold_1, With_some, emap_nil, emap_cons, ↓eget_map, ↓eget_eset, ↓ae_tmp, ↓ae_int, asBool_bool, Option.map_some, Option.bind_some, Option.map_none, ↓reduceIte, Nat.reduceEqDiff, reduceCtorEq, Bool.false_eq_true, decide_true, decide_false, Bool.not_false, Nat.zero_add, Nat.reduceAdd, Nat.reduceMul, Nat.reduceLT, Nat.reduceLeDiff, and_true, true_and, and_self, List.map_cons, List.map_nil, List.all_cons, List.all_nil, tup_int, cel_int, tup_str, cel_str, tup_agg, cel_agg, List.toList_toArray, List.size_toArray, List.length_cons, List.length_nil, mapOwn_vo, mapOwn_agg, mapOwn_int, mapOwn_string, thaw_own, toksL_nil, toksL_cons, toks_int, toks_string, toks_agg, okv_agg, okv_int, okv_string, List.flatMap_nil, List.flatMap_cons, List.all_nil, List.all_cons, List.append_nil, List.map_nil, List.map_cons, Bool.and_self, Bool.not_false, List.mem_cons, List.not_mem_nil, or_false, Prod.mk.injEq, beq_self_eq_true, vturn_nil, vthaw_one, boxesOf_nil, ownBox_none, List.set_cons_zero, List.set_cons_succ, List.length_cons, List.length_nil, velems_own, vgrow_own, partsOk_nil, partsOk_cons, vfill_nil, vfill_cons, vbin_int, List.replicate_succ, List.replicate_zero, abin_eql, abin_lss, abin_add, beq_self_eq_true, Int.toNat_natCast, decide_true, decide_false, beq_self_eq_true, afill, setAll, ibeq, abound_some, bd33, pl33_0, pl33_1, pl33_2, vbd23, ix9, vsl9, vlr9, vap23, ↓vfk10, ↓vfk11, ↓vfk12, ↓vfk14, n1, e0, e6, e5, hqi, h0, hc, hsp', ↓rdig_c h.dig, ↓rgrt_c h.grt, ↓rsml_c h.sml, c1, c2, c3, c4', ↓hsg, hz', ws, a1, a2, Int.toNat_natCast]
                      exact ⟨⟨by rw [hlm]; omega, by rw [hlm]; omega⟩, m, by omega, q + signF s q, l ++ [⟨5, q, s.extract q (q + signF s q)⟩], by omega, by omega, hF, by simp; omega, rfl, .inr ⟨by simp, _, by simp only [List.map_append, List.map_cons, List.map_nil]; rfl, by first | exact ht | decide⟩⟩
      · have hqi : ¬ (q : Int) < s.size := by omega
        rw [splitF_end (by omega)] at hF
        simp -dsimp only [↓VWP_seq, ↓VWP_region, ↓VWP_cond, ↓VWP_ret, ↓VWP_exit, ↓VReg_one, ↓VReg_nil, ↓VS_move, ↓VS_assign, ↓VS_binOp, ↓VS_len, ↓With_guard, ↓Hold_1, ↓Hold_3, With_some, emap_nil, ↓eget_eset, ↓ae_tmp, ↓ae_int, asBool_bool, ↓vfinish_ret, ↓vres_nil, ↓vres_tmp, vtell_eq, ret1, Option.map_some, Option.bind_some, ↓reduceIte, Nat.reduceEqDiff, reduceCtorEq, Bool.false_eq_true, decide_false, List.map_cons, List.map_nil, List.all_cons, List.all_nil, Bool.and_true, List.toList_toArray, List.length_nil, mapOwn_tuple, mapOwn_int, toks_int, toks_tuple, okv_tuple, okv_int, List.flatMap_nil, List.flatMap_cons, List.all_nil, List.all_cons, List.append_nil, List.map_nil, List.map_cons, Bool.and_true, Bool.and_self, List.length_nil, vbin_int, abin_lss, decide_false, Int.reduceNeg, vlr9, Try.results6, e0, e6, hqi]
        rw [← hF]
        rcases e5 with ⟨rfl, e5⟩ | ⟨hl0, t, e5, ht⟩
        · simp -dsimp only [true_and, mapOwn_slice, toks_slice, okv_slice0, vthaw_nil, vwrites_nil, Int.reduceNeg, e5]
          rfl
        · simp -dsimp only [Bool.not_false, true_and, mapOwn_vo, thawAll_own, toks_vo, okv_vs, Bool.not_false, Bool.true_or, beq_self_eq_true, vturn_nil, vthaw_one, boxesOf_nil, vwrites_nil, beq_self_eq_true, beq_self_eq_true, Int.reduceNeg, e5]
          simp [splitR, sl, hl0]
end
end Go.Proofs.Ytmdpggecelheoaa.Abs
