/- The law TokenTells: its text at value level. -/
import Derived.Test.YtmdpggecelheoaaMI2
import Derived.Test.YtmdpggecelheoaaMI1
import Derived.Test.YtmdpggecelheoaaMW9
import Derived.Test.YtmdpggecelheoaaRows
import Derived.WalkKit
import Derived.ProofKit
import Derived.OpenShut
import Derived.ShutString
import Derived.ChangeOld
import Derived.Below
import Derived.SizedLaws
import Derived.ChangeMaps5
set_option linter.unusedVariables false
set_option linter.unusedSimpArgs false
set_option maxRecDepth 8000
set_option maxHeartbeats 0
namespace Go.Proofs.Ytmdpggecelheoaa.Abs
open Go
attribute [local irreducible] Hold VReg Vf Vc VWP With VStp Vcallee Vp VE
theorem tok_aeq (k a : Int) (t : ByteArray) : aeq Try.prog 20 33 (.agg #[.int .i64 k, .int .i64 a, .string t]) (.agg #[.int .i64 k, .int .i64 a, .string t]) = some true := by
  have e : aeq Try.prog 20 33 (.agg #[.int .i64 k, .int .i64 a, .string t]) (.agg #[.int .i64 k, .int .i64 a, .string t]) = (if (k == k) = true then (if (a == a) = true then (if (t.toList == t.toList) = true then some true else some false) else some false) else some false) := by kernel_rfl
  rw [e]
  simp
theorem tok_ne (x y : Operand) (k a : Int) (t : ByteArray) : vbin Try.prog .neq 33 x y (.agg ⟨[.int .i64 k, .int .i64 a, .string t]⟩) (.agg ⟨[.int .i64 k, .int .i64 a, .string t]⟩) = some (.bool false) := by
  rw [vbin_agg _ _ _ _ _ rfl rfl]
  exact abin_aneq rfl rfl (by kernel_rfl) (tok_aeq k a t)
section
variable {X : VOuter}
theorem same_p (hX : X 7 = none) (cc : Bool) (dd : Nat) (ce : Bool) (de : Nat) (l : List TK) (hl : l.length ≤ 1000000000) : Vp Try.prog X 7 [sl cc dd 3 (l.map TK.v), sl ce de 3 (l.map TK.v)] (.bool true) := by
  unfold Vp
  refine Vf_text hX Try.func7 rfl (by kernel_rfl) (by show 2 ≤ _; decide) ?_
  simp -dsimp only [↓VWP_seq, ↓VWP_region, ↓VWP_cond, ↓VWP_skip, ↓VWP_block, ↓VWP_loop, ↓VReg_one, ↓VReg_nil, ↓VS_move, ↓VS_assign, ↓VS_binOp, ↓VS_len, ↓Hold_1, With_some, emap_nil, ↓eget_eset, ↓ae_tmp, ↓ae_int, ↓ae_bool, eget_zero, eget_succ, asBool_bool, ↓reduceIte, Nat.reduceEqDiff, reduceCtorEq, Bool.false_eq_true, vbin_int, abin_neq, bne_self_eq_false, vls23, List.length_map]
  refine Vc_loop (fun m e S => ∃ i : Nat, m = l.length - i ∧ i ≤ l.length ∧ eget e 0 = sl cc dd 3 (l.map TK.v) ∧ eget e 1 = sl ce de 3 (l.map TK.v) ∧ eget e 5 = .int .i64 i ∧ S = ⟨[], [], []⟩) l.length ?_ ?_
  · refine ⟨0, rfl, Nat.zero_le _, ?_, ?_, ?_, rfl⟩ <;> simp only [↓eget_eset, eget_zero, eget_succ, ↓reduceIte, Nat.reduceEqDiff, reduceCtorEq] <;> rfl
  · rintro m e S ⟨i, rfl, hi, e0, e1, e5, rfl⟩
    refine VWP_Vc _ _ _ _ ?_
    by_cases hin : i < l.length
    · have hlt : (i : Int) < l.length := by omega
      have h0 : (0 : Int) ≤ i := by omega
      have hx : (l.map TK.v)[i]? = some l[i].v := by simp [hin]
      have hnum : ((i : Int) + 1) = ((i + 1 : Nat) : Int) := by omega
      have hwr : IntKind.i64.wrap ((i : Int) + 1) = (i : Int) + 1 := wrap_id (by omega) (by omega)
      generalize l[i] = x at hx
      obtain ⟨s', c', r'⟩ := x
      simp only [TK.v] at hx
      simp -dsimp only [↓VWP_seq, ↓VWP_region, ↓VWP_cond, ↓VWP_skip, ↓VWP_block, ↓VWP_open, ↓VReg_one, ↓VReg_nil, ↓VS_move, ↓VS_binOp, ↓VS_len, ↓Hold_1, With_some, emap_nil, ↓eget_eset, ↓ae_tmp, asBool_bool, ↓reduceIte, Nat.reduceEqDiff, reduceCtorEq, decide_true, vbin_int, abin_lss, decide_true, vls23, e0, e5, hlt, List.length_map]
      refine Vc_open [[], [], [], [], [], [], [], [], []] false (by kernel_rfl) (by kernel_rfl) (by kernel_rfl) ?_
      simp -dsimp only [↓VWP_region, ↓VWP_cond, ↓VWP_skip, ↓VReg_one, ↓VReg_nil, ↓VS_move, ↓VS_assign, ↓VS_load, ↓VS_binOp, ↓VS_indexAddr, ↓Hold_1, ↓Hold_3, With_some, emap_nil, ↓eget_eset, ↓ae_tmp, ↓ae_int, asBool_bool, light, Option.map_some, ↓reduceIte, Nat.reduceEqDiff, reduceCtorEq, Bool.false_eq_true, Nat.zero_add, Nat.reduceAdd, and_true, true_and, List.all_nil, List.length_cons, List.length_nil, List.all_nil, List.length_cons, List.length_nil, vload_at, aggV_agg, vbin_int, abin_add, Int.toNat_natCast, ↓VE_nil, ↓VE_one0, List.reverse_nil, vgt33, vis23, e0, e1, e5, h0, hx, hwr, tok_ne]
      exact ⟨l.length - (i + 1), by omega, i + 1, rfl, by omega, by rw [hnum]⟩
    · obtain rfl : i = l.length := by omega
      have hlt : ¬ ((l.length : Int) < l.length) := by omega
      simp -dsimp only [↓VWP_seq, ↓VWP_region, ↓VWP_cond, ↓VWP_ret, ↓VWP_exit, ↓VReg_one, ↓VReg_nil, ↓VS_move, ↓VS_assign, ↓VS_binOp, ↓VS_len, ↓With_guard, ↓Hold_1, ↓Hold_3, With_some, emap_nil, ↓eget_eset, ↓ae_tmp, ↓ae_bool, asBool_bool, ↓vfinish_ret, ↓vres_nil, ↓vres_tmp, vtell_eq, ret1, Option.map_some, Option.bind_some, ↓reduceIte, Nat.reduceEqDiff, reduceCtorEq, Bool.false_eq_true, decide_false, and_self, List.toList_toArray, List.length_nil, mapOwn_bool, toks_bool, okv_bool, vthaw_nil, vwrites_nil, List.length_nil, vbin_int, abin_lss, decide_false, vls23, Try.results7, e0, e5, hlt, List.length_map]
theorem num_p (hX : X 8 = none) (n : Int) : Vp Try.prog X 8 [.int .i64 n] (.int .i64 n) := by
  unfold Vp
  refine Vf_text hX Try.func8 rfl (by kernel_rfl) (by show 1 ≤ _; decide) ?_
  simp -dsimp only [↓VWP_seq, ↓VWP_region, ↓VWP_ret, ↓VReg_one, ↓VReg_nil, ↓VS_move, ↓VS_assign, ↓With_guard, ↓Hold_1, With_some, emap_nil, ↓eget_eset, ↓ae_tmp, ↓ae_int, eget_zero, ↓vfinish_ret, ↓vres_nil, ↓vres_tmp, vtell_eq, ret1, Option.map_some, Option.bind_some, ↓reduceIte, reduceCtorEq, and_self, List.toList_toArray, List.length_nil, mapOwn_int, toks_int, okv_int, vthaw_nil, vwrites_nil, List.length_nil, Try.results8]
theorem num_c (hX : X 8 = none) (n : Int) (S : VH) (K : VCont) : Vcallee Try.prog X 8 [.int .i64 n] S K = K (.int .i64 n) [] S [] false := Vcallee_of (num_p hX n) rfl rfl rfl
theorem splitR_cases (s : ByteArray) : (∃ l : List TK, l.length ≤ 1000000000 ∧ splitV s = .tuple ⟨[sl true 0 3 (l.map TK.v), .int .i64 (-1), .int .i64 0]⟩) ∨ ∃ k e : Int, splitV s = .tuple ⟨[.slice none 0 0, .int .i64 k, .int .i64 e]⟩ := by
  unfold splitV
  split
  · exact .inr ⟨_, _, rfl⟩
  · rename_i h
    have key : ∀ n k l, l.length ≤ k → k ≤ s.size → ∀ l', splitF s n k l = .ok l' → l'.length ≤ s.size := by
      intro n
      induction n with
      | zero => intro k l hl hk l' h; simp only [splitF] at h; cases h; omega
      | succ n ih =>
        intro k l hl hk l' h
        simp only [splitF] at h
        split at h
        · cases h; omega
        · rename_i c hc
          have hlt : k < s.size := by
            rcases Nat.lt_or_ge k s.size with h' | h'
            · exact h'
            · rw [getElem?_neg s k (by omega)] at hc; cases hc
          split at h
          · exact ih (k + 1) l (by omega) (by omega) l' h
          · split at h
            · rename_i t e hn
              have := nextF_le hn
              exact ih e (l ++ [t]) (by simp; omega) this.2 l' h
            · cases h
    cases hF : splitF s s.size 0 [] with
    | ok l =>
      have := key _ _ _ (by simp) (by omega) _ hF
      exact .inl ⟨l, by omega, rfl⟩
    | error k => exact .inr ⟨k, 3, rfl⟩
theorem split_c (h : TkOff X) (hX : X 5 = none) (s : ByteArray) {v : Value} (hv : splitV s = v) (hok : okv 0 false v = true) (S : VH) (K : VCont) : Vcallee Try.prog X 5 [.string s] S K = K v [] S [] false := by
  subst hv
  exact Vcallee_of (split_p h hX s) rfl rfl hok
theorem rsplit_c (h : RtkOff X) (hX : X 6 = none) (s : ByteArray) {v : Value} (hv : splitV s = v) (hok : okv 0 false v = true) (S : VH) (K : VCont) : Vcallee Try.prog X 6 [.string s] S K = K v [] S [] false := by
  subst hv
  exact Vcallee_of (rsplit_p h hX s) rfl rfl hok
theorem alive_sp1 : splitV ⟨#[]⟩ = .tuple ⟨[.slice none 0 0, .int .i64 (-1), .int .i64 0]⟩ := by kernel_rfl
theorem alive_sp2 : splitV ⟨#[65, 49, 43, 50]⟩ = .tuple ⟨[vs 0 3 [(⟨3, 0, ⟨#[65, 49]⟩⟩ : TK).v, (⟨5, 2, ⟨#[43]⟩⟩ : TK).v, (⟨1, 3, ⟨#[50]⟩⟩ : TK).v], .int .i64 (-1), .int .i64 0]⟩ := by kernel_rfl
theorem alive_p (h : TkOff X) (hX : X 5 = none) (hn : X 8 = none) (ha : X 4 = none) : Vp Try.prog X 4 [] (.bool true) := by
  unfold Vp
  refine Vf_text ha Try.func4 rfl (by kernel_rfl) (by show 0 ≤ _; decide) ?_
  have s1 := fun S K => split_c h hX ⟨#[]⟩ alive_sp1 rfl S K
  have s2 := fun S K => split_c h hX ⟨#[65, 49, 43, 50]⟩ alive_sp2 rfl S K
  simp only [TK.v] at s2
  have q : ∀ a : ByteArray, (a.toList == a.toList) = true := fun a => by simp
  simp -dsimp only [↓Hold_5, ↓VWP_seq, ↓VWP_region, ↓VWP_ret, ↓VReg_one, ↓VReg_nil, ↓VS_guard, ↓VS_move, ↓VS_assign, ↓VS_pick, ↓VS_load, ↓VS_binOp, ↓VS_fieldAddr, ↓VS_indexAddr, ↓VS_extract, ↓VS_len, ↓With_guard, ↓Hold_1, With_some, emap_nil, ↓eget_eset, ↓ae_tmp, ↓ae_int, ↓ae_bool, ↓ae_string, lop_pick, lop_extract, asGuard_bool, ayielded_eq, ↓dstAt_zero, ↓dstAt_succ, ↓vfinish_ret, ↓vres_nil, ↓vres_tmp, vtell_eq, ret1, Option.map_some, Option.bind_some, ↓reduceIte, Nat.reduceEqDiff, Bool.false_eq_true, List.getElem?_toArray, List.getElem?_cons_zero, List.getElem?_cons_succ, Nat.zero_add, Nat.reduceAdd, and_true, true_and, List.map_cons, List.map_nil, List.toList_toArray, List.length_cons, List.length_nil, mapOwn_bool, toks_bool, okv_bool, List.map_nil, List.map_cons, beq_self_eq_true, vthaw_nil, vwrites_nil, List.length_cons, List.length_nil, vload_at, vfield_at, cellV_string, isAggV_string, vbin_int, vbin_string, abin_eql, Int.cast_ofNat_Int, beq_self_eq_true, Int.reduceLE, Int.reduceToNat, beq_self_eq_true, Int.reduceNeg, vgt9, vpt33_2, vix23, vlr23, vlz23, ↓vfk5, ↓vfk8, Try.results4, ↓s1, ↓s2, ↓num_c hn, abin_seql]
theorem lawT_v (h : TkOff X) (hr : RtkOff X) (hX : X 5 = none) (hrX : X 6 = none) (hn : X 8 = none) (ha : X 4 = none) (hs : X 7 = none) (hL : X 3 = none) (s : ByteArray) : Vp Try.prog X 3 [.string s] (.bool true) := by
  · unfold Vp
    refine Vf_text hL Try.func3 rfl (by kernel_rfl) (by show 1 ≤ _; decide) ?_
    have al := fun S K => Vcallee_of (S := S) (K := K) (args := []) (alive_p h hX hn ha) rfl rfl rfl
    by_cases h3 : (300 : Int) < s.size
    · simp -dsimp only [↓Hold_5, ↓VWP_seq, ↓VWP_region, ↓VWP_cond, ↓VWP_ret, ↓VReg_one, ↓VReg_nil, ↓VS_guard, ↓VS_move, ↓VS_assign, ↓VS_pick, ↓VS_binOp, ↓VS_unOp, ↓VS_len, ↓With_guard, ↓Hold_1, With_some, emap_nil, ↓eget_eset, ↓ae_tmp, ↓ae_int, ↓ae_bool, eget_zero, lop_pick, lop_not, asBool_bool, asGuard_bool, ayielded_eq, ↓dstAt_zero, ↓dstAt_succ, ↓vfinish_ret, ↓vres_nil, ↓vres_tmp, vtell_eq, ret1, Option.map_some, Option.bind_some, ↓reduceIte, Nat.reduceEqDiff, reduceCtorEq, Bool.false_eq_true, decide_true, Bool.not_true, and_self, List.map_nil, List.toList_toArray, List.length_nil, mapOwn_bool, toks_bool, okv_bool, List.map_nil, Bool.not_true, beq_self_eq_true, vthaw_nil, vwrites_nil, List.length_nil, vbin_int, abin_gtr, beq_self_eq_true, gt_iff_lt, decide_true, beq_self_eq_true, vlr9, ↓vfk4, Try.results3, ↓al, h3]
    · rcases splitR_cases s with ⟨l, hl, hv⟩ | ⟨k, e, hv⟩
      · have s1 := fun S K => split_c h hX s hv (by simp [okv_tuple, okv_sl, okv_int]) S K
        have s2 := fun S K => rsplit_c hr hrX s hv (by simp [okv_tuple, okv_sl, okv_int]) S K
        have sm := fun S K => Vcallee_of (S := S) (K := K) (args := [sl true 0 3 (l.map TK.v), sl true 0 3 (l.map TK.v)]) (same_p hs true 0 true 0 l hl) (by simp only [mapOwnL_cons, mapOwnL_nil, lend_sl]) (by simp only [okvL_cons, okvL_nil, okv_sl, Bool.and_true]) rfl
        simp -dsimp only [↓Hold_5, ↓VWP_seq, ↓VWP_region, ↓VWP_cond, ↓VWP_ret, ↓VWP_skip, ↓VReg_one, ↓VReg_nil, ↓VS_guard, ↓VS_move, ↓VS_assign, ↓VS_pick, ↓VS_binOp, ↓VS_unOp, ↓VS_extract, ↓VS_len, ↓With_guard, ↓Hold_1, With_some, emap_nil, ↓eget_eset, ↓ae_tmp, ↓ae_int, ↓ae_bool, eget_zero, lop_pick, lop_extract, lop_not, asBool_bool, asGuard_bool, ayielded_eq, ↓dstAt_zero, ↓dstAt_succ, ↓vfinish_ret, ↓vres_nil, ↓vres_tmp, vtell_eq, ret1, Option.map_some, Option.bind_some, ↓reduceIte, Nat.reduceEqDiff, reduceCtorEq, Bool.false_eq_true, decide_false, Bool.not_true, List.getElem?_toArray, List.getElem?_cons_zero, List.getElem?_cons_succ, and_self, List.map_cons, List.map_nil, List.toList_toArray, List.length_nil, mapOwn_bool, toks_bool, okv_bool, List.map_nil, List.map_cons, Bool.not_true, beq_self_eq_true, vthaw_nil, vwrites_nil, List.length_nil, vbin_int, abin_eql, abin_gtr, beq_self_eq_true, gt_iff_lt, decide_false, beq_self_eq_true, Int.reduceNeg, vlr9, ↓vfk4, ↓vfk5, ↓vfk6, ↓vfk7, ↓vfk8, Try.results3, ↓al, h3, ↓s1, ↓s2, ↓sm, ↓num_c hn]
      · have s1 := fun S K => split_c h hX s hv rfl S K
        have s2 := fun S K => rsplit_c hr hrX s hv rfl S K
        have sm := fun S K => Vcallee_of (S := S) (K := K) (args := [.slice none 0 0, .slice none 0 0]) (same_p hs true 0 true 0 [] (by simp)) rfl rfl rfl
        simp -dsimp only [↓Hold_5, ↓VWP_seq, ↓VWP_region, ↓VWP_cond, ↓VWP_ret, ↓VWP_skip, ↓VReg_one, ↓VReg_nil, ↓VS_guard, ↓VS_move, ↓VS_assign, ↓VS_pick, ↓VS_binOp, ↓VS_unOp, ↓VS_extract, ↓VS_len, ↓With_guard, ↓Hold_1, With_some, emap_nil, ↓eget_eset, ↓ae_tmp, ↓ae_int, ↓ae_bool, eget_zero, lop_pick, lop_extract, lop_not, asBool_bool, asGuard_bool, ayielded_eq, ↓dstAt_zero, ↓dstAt_succ, ↓vfinish_ret, ↓vres_nil, ↓vres_tmp, vtell_eq, ret1, Option.map_some, Option.bind_some, ↓reduceIte, Nat.reduceEqDiff, reduceCtorEq, Bool.false_eq_true, decide_false, Bool.not_true, List.getElem?_toArray, List.getElem?_cons_zero, List.getElem?_cons_succ, and_self, List.map_cons, List.map_nil, List.toList_toArray, List.length_nil, mapOwn_bool, toks_bool, okv_bool, List.map_nil, List.map_cons, Bool.not_true, beq_self_eq_true, vthaw_nil, vwrites_nil, List.length_nil, vbin_int, abin_eql, abin_gtr, beq_self_eq_true, gt_iff_lt, decide_false, beq_self_eq_true, vlr9, ↓vfk4, ↓vfk5, ↓vfk6, ↓vfk7, ↓vfk8, Try.results3, ↓al, h3, ↓s1, ↓s2, ↓sm, ↓num_c hn]
theorem lawT_p (h : TkOff X) (hr : RtkOff X) (hX : X 5 = none) (hrX : X 6 = none) (hn : X 8 = none) (ha : X 4 = none) (hs : X 7 = none) (hL : X 3 = none) (s : ByteArray) : Vf Try.prog X 3 [.string s] [] fun v _ => v = .bool true := by
  have := lawT_v h hr hX hrX hn ha hs hL s
  unfold Vp at this
  exact this.mono fun v ws h => h.2
end
end Go.Proofs.Ytmdpggecelheoaa.Abs
/- The law TokenTells over the plain heap; what is given from outside is sound. -/
set_option linter.unusedVariables false
namespace Go.Proofs.Ytmdpggecelheoaa.Abs
open Go Go.RowKit
attribute [local irreducible] Hold VReg Vf Vc VWP With VStp Vcallee Vp VE
def ixA : List Value → Hp → Option (Value × Hp) := fun args H => match args with
  | [.string s, .int .u8 n] => some (.int .i64 (Lib.indexByte s.data.toList n.toNat.toUInt8), H)
  | _ => none
theorem ixA_sound {B : Nat} {w0 : World} : KSound Try.prog B w0 fun f' args H => if f' = 25 then ixA args H else none := by
  intro b hb f' args H v H' hr φ w args' hR ha
  simp only at hr
  split at hr
  · rename_i hff
    subst hff
    unfold ixA at hr
    split at hr
    · rename_i s n
      cases hr
      have e : args' = [.string s, .int .u8 n] := flats_eq rfl ha
      subst e
      refine (Try.strings_IndexByte s n w).mono ?_
      rintro e w' ⟨rfl, rfl⟩
      exact ⟨φ, _, Plan.le_refl φ, rfl, .int _ _, hR⟩
    · cases hr
  · cases hr
noncomputable def YI : Outer := fun f => if f = 25 then some ixA else if f = 26 then some cpG else none
theorem yi_sound (B : Nat) (w0 : World) : XSound Try.prog B w0 YI := by
  intro f g hg
  unfold YI at hg
  split at hg
  · rename_i hf
    subst hf
    cases hg
    exact ixA_sound
  · split at hg
    · rename_i hf
      subst hf
      cases hg
      exact cp_sound
    · cases hg
def ixU : List Value → List Blk → Option (Value × List (Nat × Blk)) := fun args _ => match args with
  | [.string s, .int .u8 n] => some (.int .i64 (Lib.indexByte s.data.toList n.toNat.toUInt8), [])
  | _ => none
def quU : List Value → List Blk → Option (Value × List (Nat × Blk)) := fun args _ => match args with
  | [.string s, .int .i64 k] => if 0 ≤ k ∧ k.toNat < s.size ∧ s.size ≤ 1000000 then some (quoV (quoF s s.size (k.toNat + 1) []), []) else none
  | _ => none
def XI : VOuter := fun f => if f = 25 then some ixU else if f = 21 then some quU else if f = 26 then some (fun _ _ => none) else none
theorem rd_quoV (R : Rl) (o : Option (List UInt8 × Nat)) : Rd R (quoV o) (quoV o) := by
  cases o with
  | none => exact .tuple _ _ rfl (RdL.cons (.string _) (.cons (.int _ _) (.cons (.bool _) .nil))).2
  | some te => exact .tuple _ _ rfl (RdL.cons (.string _) (.cons (.int _ _) (.cons (.bool _) .nil))).2
theorem xi_ok : VXOk Try.prog YI XI := by
  intro f
  by_cases h1 : f = 25
  · subst h1
    show ∀ args B r ws, ixU args B = some (r, ws) → _
    intro args B r ws hr R cargs hR hf ha
    unfold ixU at hr
    split at hr
    · rename_i s n
      cases hr
      obtain rfl := rdl_scal' _ _ ha rfl
      exact Df_ext (g := ixA) (r := (.int .i64 (Lib.indexByte s.data.toList n.toNat.toUInt8), R.H)) rfl rfl ⟨R, rfl, done_more hR hf (Nat.le_refl _) fun _ _ => rfl, .int _ _⟩
    · cases hr
  · by_cases h2 : f = 21
    · subst h2
      show ∀ args B r ws, quU args B = some (r, ws) → _
      intro args B r ws hr R cargs hR hf ha
      unfold quU at hr
      split at hr
      · rename_i s k
        split at hr
        · rename_i hk
          cases hr
          obtain rfl := rdl_scal' _ _ ha rfl
          have hkk : (k.toNat : Int) = k := by omega
          rw [← hkk]
          refine (quo_spec (X := YI) rfl rfl rfl rfl (H := R.H) hk.2.1 hk.2.2).mono ?_
          rintro cr H' ⟨rfl, n2, g2⟩
          rw [Int.toNat_natCast]
          exact ⟨{ R with H := H' }, rfl, done_more hR hf n2 g2, rd_quoV _ _⟩
        · cases hr
      · cases hr
    · by_cases h3 : f = 26
      · subst h3
        show ∀ args B r ws, (none : Option (Value × List (Nat × Blk))) = some (r, ws) → _
        intro args B r ws hr
        cases hr
      · have e : XI f = none := by unfold XI; rw [if_neg h1, if_neg h2, if_neg h3]
        rw [e]
        show YI f = none
        unfold YI
        rw [if_neg h1, if_neg h3]
theorem ixb_c (l : List UInt8) (n : Nat) (hn : n < 256) (S : VH) (K : VCont) : Vcallee Try.prog XI 25 [.string ⟨l.toArray⟩, .int .u8 n] S K = K (.int .i64 (Lib.indexByte l (UInt8.ofNat n))) [] S [] false := by
  refine Vcallee_of (args' := [.string ⟨l.toArray⟩, .int .u8 n]) ?_ rfl rfl rfl
  unfold Vp
  refine Vf_outer (g := ixU) rfl ?_
  have e : ixU [.string ⟨l.toArray⟩, .int .u8 n] [] = some (.int .i64 (Lib.indexByte l (UInt8.ofNat n)), []) := rfl
  rw [e, With_some]
  exact ⟨rfl, rfl⟩
theorem quo_c (s : ByteArray) (k : Nat) (hk : k < s.size) (hs : s.size ≤ 1000000) (S : VH) (K : VCont) : Vcallee Try.prog XI 21 [.string s, .int .i64 k] S K = K (quoV (quoF s s.size (k + 1) [])) [] S [] false := by
  refine Vcallee_of (args' := [.string s, .int .i64 k]) ?_ rfl rfl ?_
  · unfold Vp
    refine Vf_outer (g := quU) rfl ?_
    have e : quU [.string s, .int .i64 k] [] = some (quoV (quoF s s.size (k + 1) []), []) := by
      unfold quU
      simp only [Int.toNat_natCast]
      rw [if_pos ⟨by omega, hk, hs⟩]
    rw [e, With_some]
    exact ⟨rfl, rfl⟩
  · cases quoF s s.size (k + 1) [] with
    | none => rfl
    | some te => rfl
theorem xi_tk : TkOff XI := ⟨rfl, rfl, rfl, rfl, rfl, rfl, rfl, rfl, ixb_c, quo_c⟩
theorem xi_rtk : RtkOff XI := ⟨rfl, rfl, rfl, rfl, rfl⟩
theorem lawT_df (s : ByteArray) {H : Hp} : Df Try.prog YI 3 [.string s] H fun r _ => r = .bool true :=
  Vf_Df xi_ok (lawT_p xi_tk xi_rtk rfl rfl rfl rfl rfl rfl s) (.cons (.string _) .nil)
end Go.Proofs.Ytmdpggecelheoaa.Abs
/- The law TokenTells holds: which tokens any text has, or where it is none; each argument reads behind the call as it read before. No condition. -/
namespace Go.Proofs.Ytmdpggecelheoaa.tokenTells
open Go Go.ChangeMaps Go.ChangeShapes Go.WideShapes Go.ChangeAt Go.RowKit
open Go.Proofs.Ytmdpggecelheoaa.Abs
set_option linter.unusedVariables false
theorem own : ownKnob Try.prog.godebug = none := by kernel_rfl
theorem laidOut : laidOutB Try.prog = true := by kernel_rfl
theorem mixed : Try.prog.follows .mixedOrders = true := Checked.mixed Try.checked
set_option maxRecDepth 100000 in
theorem lifted (os : Os) (started : os.Started) (H : Type) (enc : TypeId × Value → H) :
    ReturnsInHanded {} Try.checked os 3 .any (Rows.tokenTellsSpec.pre6 enc Try.prog Try.f3 Rows.tokenTellsRow.domain false) (Rows.tokenTellsSpec.post enc Try.prog Try.f3 false true false false) := by
  refine returnsInHanded_of_change_sized (C := Try.checked) own started (by kernel_rfl) Try.func3
    (ChangeSpec.witness6 (enc := enc) (C := Try.checked) false ⟨#[], #[.string .empty], []⟩ 8 (by kernel_rfl) (by kernel_rfl) (by kernel_rfl) (by kernel_rfl)) ?_
  intro W base args ds gs before hval0 hW hcnd hsz0 _
  have hval : ∀ (j : Nat) t v, Try.f3.params[j]? = some t → args[j]? = some v → Value.okWide Try.prog W .any base t v := hval0
  have hW' := hW
  obtain ⟨p, q, hA0, hV, rfl, hfz, hnd⟩ := hW
  have hA : DataW.TrodAll enc Try.prog W 0 (fun _ => true) true Try.f3.params.toList args.toList ds p := hA0
  rw [Try.params3] at hA hval
  obtain ⟨v0, vs0, d0, ds0, p0, q0, hargs, rfl, rfl, h0, r0⟩ := trodAll_cons hA
  obtain ⟨rfl, rfl, rfl⟩ := trodAll_nil r0
  obtain rfl : args = #[v0] := by cases args; simp_all
  obtain ⟨rfl, rfl⟩ := trodVars_none hV
  obtain ⟨a0, rfl, rfl, rfl, w0⟩ := open_string Try.underlying9 (hval 0 9 v0 rfl rfl) h0
  clear hA0 hval0 hsz0
  refine (law_calls mixed (yi_sound _ _) (rel_start W) (VRs_one (.string _)) (lawT_df a0)).mono fun e W' ⟨he, bel⟩ => ?_
  subst he
  exact ⟨_, rfl, _, _, _, [], _, [], hW', trodAll_mk1 (shut_bool Try.underlying4 _), (trodAll_cons_mk (shut_string Try.underlying9 w0) trodAll_mk0), rfl, bel.frame _, fun h => by cases h⟩
theorem over : Rows.tokenTellsRow.holds Try.pinned (OpenSpec.ofChange Rows.tokenTellsSpec) :=
  OpenClaim.holds_of_wide 3 Try.f3 rfl rfl rfl rfl rfl rfl rfl ⟨rfl, rfl, rfl, rfl, rfl⟩ rfl rfl rfl rfl rfl (by kernel_rfl) Try.func3 (by kernel_rfl)
    (of_decide_eq_true (by kernel_rfl)) (by unfold Func.isWrapper; first | (rw [if_pos (by decide +kernel)]; kernel_rfl) | (rw [if_neg (by decide +kernel)]; exact ⟨rfl, rfl⟩))
    (fun os started H enc _ => lifted os started H enc)
end Go.Proofs.Ytmdpggecelheoaa.tokenTells
namespace Go.Proofs.Ytmdpggecelheoaa
theorem tokenTells_holds : Rows.TokenTellsSaid := tokenTells.over
#print axioms tokenTells_holds
end Go.Proofs.Ytmdpggecelheoaa
