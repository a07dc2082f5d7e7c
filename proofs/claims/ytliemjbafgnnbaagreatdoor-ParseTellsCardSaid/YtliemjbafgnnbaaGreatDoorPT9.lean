/- What a row of numbers needs. -/
import Derived.WalkKit
import Derived.ProofKit
import Derived.OpenShut
import Derived.ShutString
import Derived.ChangeOld
import Derived.Below
import Derived.SizedLaws
import Derived.LaidMore
import Derived.Stop.Joined
import Derived.Test.YtliemjbafgnnbaaGreatDoorPA20
import Derived.Test.YtliemjbafgnnbaaGreatDoorRows
import Derived.Test.YtliemjbafgnnbaaGreatDoorCards
import Derived.Test.YtliemjbafgnnbaaGreatDoorTie
import Derived.Test.YtliemjbafgnnbaaGreatDoorPZLQ
import Derived.Lay
import Derived.ChangeMaps5
set_option linter.unnecessarySimpa false
set_option linter.unusedVariables false
namespace Go.Proofs.YtliemjbafgnnbaaGreatDoor.Abs
open Go
end Go.Proofs.YtliemjbafgnnbaaGreatDoor.Abs
/- The law ParseTells holds, and its tied card: which formula any text is, on any sheet, or where it is none; each argument reads behind the call as it read before. Condition: the listed package-level variables start as the program's text lays them, which the given tie shows. -/
namespace Go.Proofs.YtliemjbafgnnbaaGreatDoor.parseTells
open Go Go.ChangeShapes Go.WideShapes Go.ChangeAt Go.RowKit
open Go.ChangeMaps
open Go.Proofs.YtliemjbafgnnbaaGreatDoor.Abs
theorem own : ownKnob Tryz.prog.godebug = none := by kernel_rfl
theorem laidOut : laidOutB Tryz.prog = true := by kernel_rfl
theorem mixed : Tryz.prog.follows .mixedOrders = true := Checked.mixed Tryz.checked
set_option maxRecDepth 100000
theorem door_met (os : Os) (args : Array Value) : laidMetH Tryz.prog Rows.parseTellsRow.laid ((World.laidAll Tryz.prog os Rows.parseTellsRow.laid).forCall (fun _ _ => 0) ⟨#[], args, []⟩).memory :=
 show laidMet Tryz.prog Rows.parseTellsRow.laid _ from laidMet_laidAll args (by kernel_rfl) (by kernel_rfl)
theorem lifted (os : Os) (started : os.Started) (H : Type) (enc : TypeId × Value → H) :
    ReturnsInHanded {} Tryz.checked os 3 .any (fun w args => (Rows.parseTellsSpec.pre enc Tryz.prog Tryz.f3 [] false w args ∧ laidMetH Tryz.prog Rows.parseTellsRow.laid w) ∧ sizedMet enc Tryz.prog Tryz.f3 (OpenSpec.ofChange Rows.parseTellsSpec) false w args)
     (Rows.parseTellsSpec.post enc Tryz.prog Tryz.f3 false true false false) := by
 refine returnsInHanded_of_change_and (C := Tryz.checked) (X := fun w _ => laidMetH Tryz.prog Rows.parseTellsRow.laid w) (fun _ _ _ hh h => h.of_heap hh) own started (by kernel_rfl) Tryz.func3
  (ChangeSpec.witness_shaped (enc := enc) (C := Tryz.checked) (os := os) (X := fun w _ => laidMetH Tryz.prog Rows.parseTellsRow.laid w) false (World.laidAll Tryz.prog os Rows.parseTellsRow.laid) #[.string .empty, .string .empty] 8 (World.laidAll_os _ _ _) (World.shaped_of_RefB (by kernel_rfl) (by kernel_rfl)) (by kernel_rfl) (by kernel_rfl) (by kernel_rfl) (door_met os _)) ?_
 intro W base args ds gs before hval0 hW _ _ hL _
 have hval : ∀ (j : Nat) t v, Tryz.f3.params[j]? = some t → args[j]? = some v → Value.okWide Tryz.prog W .any base t v := hval0
 have hW' := hW
 obtain ⟨p, q, hA0, hV, rfl, hfz, hnd⟩ := hW
 have hA : DataW.TrodAll enc Tryz.prog W 0 (fun _ => true) true Tryz.f3.params.toList args.toList ds p := hA0
 rw [Tryz.params3] at hA hval
 obtain ⟨v0, vs0, d0, ds0, p0, q0, hargs, rfl, rfl, h0, r0⟩ := trodAll_cons hA
 obtain ⟨v1, vs1, d1, ds1, p1, q1, rfl, rfl, rfl, h1, r1⟩ := trodAll_cons r0
 obtain ⟨rfl, rfl, rfl⟩ := trodAll_nil r1
 obtain rfl : args = #[v0, v1] := by cases args; simp_all
 obtain ⟨rfl, rfl⟩ := trodVars_none hV
 obtain ⟨a0, rfl, rfl, rfl, w0⟩ := open_string Tryz.underlying9 (hval 0 9 v0 rfl rfl) h0
 obtain ⟨a1, rfl, rfl, rfl, w1⟩ := open_string Tryz.underlying9 (hval 1 9 v1 rfl rfl) h1
 have hL2 : laidMet Tryz.prog Rows.parseTellsRow.laid W := hL
 have lib : LibP W := ⟨pow10_p hL2.tail.tail, syn_p hL2.tail.tail.tail.tail, ran_p hL2.tail.tail.tail⟩
 clear hA0 hval0
 refine (law_calls mixed (yp_sound lib) (rel_start W) (.cons (.string _) (VRs_one (.string _))) (lawP_df _ _)).mono fun e W' ⟨he, bel⟩ => ?_
 subst he
 exact ⟨_, rfl, _, _, _, [], _, [], hW', trodAll_mk1 (shut_bool Tryz.underlying4 _), (trodAll_cons_mk (shut_string Tryz.underlying9 w0) (trodAll_cons_mk (shut_string Tryz.underlying9 w1) trodAll_mk0)), rfl, bel.frame _, fun h => by cases h⟩
theorem over : Rows.parseTellsRow.holds Tryz.pinned (OpenSpec.ofChange Rows.parseTellsSpec) :=
 OpenClaim.holds_of_wide 3 Tryz.f3 rfl rfl rfl rfl rfl rfl rfl ⟨rfl, rfl, rfl, rfl, rfl⟩ rfl rfl rfl rfl rfl (by kernel_rfl) Tryz.func3 (by kernel_rfl)
  (of_decide_eq_true (by kernel_rfl)) (by unfold Func.isWrapper; first | (rw [if_pos (by decide +kernel)]; kernel_rfl) | (rw [if_neg (by decide +kernel)]; exact ⟨rfl, rfl⟩))
  (fun os started H enc _ => lifted os started H enc)
end Go.Proofs.YtliemjbafgnnbaaGreatDoor.parseTells
namespace Go.Proofs.YtliemjbafgnnbaaGreatDoor
open Go
theorem parseTells_card : Rows.ParseTellsCardSaid :=
 Claim7.holds_tied_plain_at .later [] [.data, .data, .data, .sentinel, .sentinel] true (true, "6ebbdca913fd6a2781e12f92a115b709e9b9926d54ab6e81fecfe519d406f736") true
  parseTells.over (fun _ h => by cases h) (by kernel_rfl) (fun _ h => by cases h) parseTells_row_tie rfl ⟨rfl, rfl⟩ (by kernel_rfl) rfl
  (fun f fn hf hfn => by
   obtain rfl : f = 3 := Option.some.inj ((show Tryz.prog.funcNamed "abacist/abacistlaw6.ParseTells" = some 3 by kernel_rfl).symm.trans hf) |>.symm
   obtain rfl : fn = Tryz.f3 := (Option.some.inj (Tryz.func3.symm.trans hfn)).symm
   exact ⟨by kernel_rfl, fun j t ht => by
    rw [Tryz.params3] at ht
    have hm : t ∈ [9] := by first | simpa using Array.mem_of_getElem? ht | (have h9 := Array.mem_of_getElem? ht; simp at h9 ⊢; rcases h9 with h9 | h9 | h9 <;> simp [h9]) | (have h9 := Array.mem_of_getElem? ht; simp at h9 ⊢; rcases h9 with h9 | h9 <;> simp [h9]) | (have h9 := Array.mem_of_getElem? ht; simp at h9 ⊢; rcases h9 with h9 | h9 | h9 | h9 <;> simp [h9]) | (have h9 := Array.mem_of_getElem? ht; simp at h9 ⊢; rcases h9 with h9 | h9 | h9 | h9 | h9 <;> simp [h9])
    have hall : ([9].all fun u => !Tryz.prog.wantsStandIn u) = true := by kernel_rfl
    exact (show Tryz.prog.wantsStandIn t = false by simpa using List.all_eq_true.1 hall t hm)⟩)
  (by kernel_rfl)
#print axioms parseTells_card
end Go.Proofs.YtliemjbafgnnbaaGreatDoor
