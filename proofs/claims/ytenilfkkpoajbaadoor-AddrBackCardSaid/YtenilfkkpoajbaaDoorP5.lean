/- The law AddrBack holds, and its tied card: what a cell shows reads back as the same cell, and two right cells show alike only if they are the same; each argument reads behind the call as it read before. Condition: the listed package-level variables start as the program's text lays them, which the given tie shows. -/
import Derived.Test.YtenilfkkpoajbaaDoorRows
import Derived.Test.YtenilfkkpoajbaaDoorCards
import Derived.Test.YtenilfkkpoajbaaDoorTie
import Derived.Test.YtenilfkkpoajbaaDoorP4
import Derived.Test.YtenilfkkpoajbaaDoorR0
import Derived.Lay
import Derived.Below
namespace Go.Proofs.YtenilfkkpoajbaaDoor.addrBack
open Go Go.ChangeShapes Go.WideShapes Go.ChangeAt Go.RowKit
open Go
open Go.Proofs.YtenilfkkpoajbaaDoor.Abs
set_option linter.unusedVariables false
theorem own : ownKnob Tryd.prog.godebug = none := by kernel_rfl
theorem laidOut : laidOutB Tryd.prog = true := by kernel_rfl
def ClSh : List Sh := [.str, .int .i64, .int .i64]
theorem cl_shape : shapeT Tryd.prog 8 31 = some ClSh := by kernel_rfl
theorem cl_vals {t : List Value} (h : shapes ClSh t) : ∃ v : CL, t = v.vals := by
  unfold ClSh at h
  obtain ⟨_, t0, rfl, ⟨x0, rfl, w0⟩, h0⟩ := shapes_cons h
  obtain ⟨_, t1, rfl, ⟨x1, rfl, w1⟩, h1⟩ := shapes_cons h0
  obtain ⟨_, t2, rfl, ⟨x2, rfl, w2⟩, h2⟩ := shapes_cons h1
  obtain rfl := shapes_nil h2
  exact ⟨⟨x0, x1, x2⟩, rfl⟩
theorem mixed : Tryd.prog.follows .mixedOrders = true := Checked.mixed Tryd.checked
set_option maxRecDepth 100000
theorem door_met (os : Os) (args : Array Value) : laidMetH Tryd.prog Rows.addrBackRow.laid ((World.laidAll Tryd.prog os Rows.addrBackRow.laid).forCall (fun _ _ => 0) ⟨#[], args, []⟩).memory :=
  show laidMet Tryd.prog Rows.addrBackRow.laid _ from laidMet_laidAll args (by kernel_rfl) (by kernel_rfl)
theorem lifted (os : Os) (started : os.Started) (H : Type) (enc : TypeId × Value → H) :
    ReturnsInHanded {} Tryd.checked os 4 .any (fun w args => (Rows.addrBackSpec.pre enc Tryd.prog Tryd.f4 [] false w args ∧ laidMetH Tryd.prog Rows.addrBackRow.laid w) ∧ sizedMet enc Tryd.prog Tryd.f4 (OpenSpec.ofChange Rows.addrBackSpec) false w args)
      (Rows.addrBackSpec.post enc Tryd.prog Tryd.f4 false true false false) := by
  refine returnsInHanded_of_change_and (C := Tryd.checked) (X := fun w _ => laidMetH Tryd.prog Rows.addrBackRow.laid w) (fun _ _ _ hh h => h.of_heap hh) own started (by kernel_rfl) Tryd.func4
    (ChangeSpec.witness_shaped (enc := enc) (C := Tryd.checked) (os := os) (X := fun w _ => laidMetH Tryd.prog Rows.addrBackRow.laid w) false (World.laidAll Tryd.prog os Rows.addrBackRow.laid) #[.agg #[.string .empty, .int .i64 0, .int .i64 0], .agg #[.string .empty, .int .i64 0, .int .i64 0]] 8 (World.laidAll_os _ _ _) (World.shaped_of_RefB (by kernel_rfl) (by kernel_rfl)) (by kernel_rfl) (by kernel_rfl) (by kernel_rfl) (door_met os _)) ?_
  intro W base args ds gs before hval0 hW _ _ hL _
  have hval : ∀ (j : Nat) t v, Tryd.f4.params[j]? = some t → args[j]? = some v → Value.okWide Tryd.prog W .any base t v := hval0
  have hW' := hW
  obtain ⟨p, q, hA0, hV, rfl, hfz, hnd⟩ := hW
  have hA : DataW.TrodAll enc Tryd.prog W 0 (fun _ => true) true Tryd.f4.params.toList args.toList ds p := hA0
  rw [Tryd.params4] at hA hval
  obtain ⟨v0, vs0, d0, ds0, p0, q0, hargs, rfl, rfl, h0, r0⟩ := trodAll_cons hA
  obtain ⟨v1, vs1, d1, ds1, p1, q1, rfl, rfl, rfl, h1, r1⟩ := trodAll_cons r0
  obtain ⟨rfl, rfl, rfl⟩ := trodAll_nil r1
  obtain rfl : args = #[v0, v1] := by cases args; simp_all
  obtain ⟨rfl, rfl⟩ := trodVars_none hV
  obtain ⟨cs0, rfl⟩ := okWide_aggv Tryd.underlying31 (hval 0 31 v0 rfl rfl)
  obtain ⟨cs1, rfl⟩ := okWide_aggv Tryd.underlying31 (hval 1 31 v1 rfl rfl)
  have k0 := h0
  have lt0 : ∀ x ∈ p0, x.block < W.heap.size := by obtain ⟨m, hm⟩ := k0; exact DataW.trod_lt m _ _ _ hm
  have k1 := h1
  have lt1 : ∀ x ∈ p1, x.block < W.heap.size := by obtain ⟨m, hm⟩ := k1; exact DataW.trod_lt m _ _ _ hm
  have hL2 : laidMet Tryd.prog Rows.addrBackRow.laid W := hL
  have htab : Lib.TabIs Tryd.prog W "internal/strconv.uint64pow10" .u64 Lib.pow10Tab := pow10_of hL2.tail.tail
  clear hA0 hval0
  obtain ⟨ψ0, H0, acs0, x0, hle0, -, hR0, hv0, hx0, hs0⟩ := arg_agg (opens_shape 8 31 ClSh cl_shape) h0 (rel_start W)
  obtain ⟨ψ1, H1, acs1, x1, hle1, -, hR1, hv1, hx1, hs1⟩ := arg_agg (opens_shape 8 31 ClSh cl_shape) h1 hR0
  obtain ⟨v0, rfl⟩ := cl_vals hs0
  obtain ⟨v1, rfl⟩ := cl_vals hs1
  refine (law_calls mixed (xb_sound mixed htab) hR1 (.cons (hv0.mono hle1) (VRs_one hv1)) (lawAB)).mono fun e W' ⟨he, bel⟩ => ?_
  subst he
  exact ⟨_, rfl, _, _, _, [], _, [], hW', trodAll_mk1 (shut_bool Tryd.underlying4 _), (trodAll_cons_mk (Below.trod laidOut (by kernel_rfl) (of_decide_eq_true (by kernel_rfl)) k0 bel lt0) (trodAll_cons_mk (Below.trod laidOut (by kernel_rfl) (of_decide_eq_true (by kernel_rfl)) k1 bel lt1) trodAll_mk0)), rfl, bel.frame _, fun h => by cases h⟩
theorem over : Rows.addrBackRow.holds Tryd.pinned (OpenSpec.ofChange Rows.addrBackSpec) :=
  OpenClaim.holds_of_wide 4 Tryd.f4 rfl rfl rfl rfl rfl rfl rfl ⟨rfl, rfl, rfl, rfl, rfl⟩ rfl rfl rfl rfl rfl (by kernel_rfl) Tryd.func4 (by kernel_rfl)
    (of_decide_eq_true (by kernel_rfl)) (by unfold Func.isWrapper; first | (rw [if_pos (by decide +kernel)]; kernel_rfl) | (rw [if_neg (by decide +kernel)]; exact ⟨rfl, rfl⟩))
    (fun os started H enc _ => lifted os started H enc)
end Go.Proofs.YtenilfkkpoajbaaDoor.addrBack
namespace Go.Proofs.YtenilfkkpoajbaaDoor
open Go
theorem addrBack_card : Rows.AddrBackCardSaid :=
  Claim7.holds_tied_plain_at .later [] [.data, .data, .data, .sentinel, .sentinel] true (true, "5571bf24430a1d790641f67bf136891a657edd54b0ea751be79342b61dbf54a7") true
    addrBack.over (fun _ h => by cases h) (by kernel_rfl) (fun _ h => by cases h) addrBack_row_tie rfl ⟨rfl, rfl⟩ (by kernel_rfl) rfl
    (fun f fn hf hfn => by
      obtain rfl : f = 4 := Option.some.inj ((show Tryd.prog.funcNamed "abacist/abacistlaw3.AddrBack" = some 4 by kernel_rfl).symm.trans hf) |>.symm
      obtain rfl : fn = Tryd.f4 := (Option.some.inj (Tryd.func4.symm.trans hfn)).symm
      exact ⟨by kernel_rfl, fun j t ht => by
        rw [Tryd.params4] at ht
        have hm : t ∈ [31] := by simpa using Array.mem_of_getElem? ht
        have hall : ([31].all fun u => !Tryd.prog.wantsStandIn u) = true := by kernel_rfl
        exact (show Tryd.prog.wantsStandIn t = false by simpa using List.all_eq_true.1 hall t hm)⟩)
    (by kernel_rfl)
#print axioms addrBack_card
end Go.Proofs.YtenilfkkpoajbaaDoor
