/- The law of frames, edits, holds: whatever the edit and the bytes, the program writes and reads as the document says; each argument reads behind the call as it read before. No condition. -/
import Derived.Test.YtlndidjdeneolaaRows
import Derived.Test.YtlndidjdeneolaaF10
import Derived.WalkKit
import Derived.ProofKit
import Derived.OpenShut
import Derived.ShutString
import Derived.ChangeOld
import Derived.Below
import Derived.SizedLaws
namespace Go.Proofs.Ytlndidjdeneolaa.Abs
open Go Go.RowKit
def EdSh : List Sh := [.int .i64, .str, .int .i64, .int .i64, .str, .str, .str, .int .i64, .int .i64, .str, .int .i64, .int .i64]
theorem ed_shape : shapeT Try.prog 8 46 = some EdSh := by kernel_rfl
theorem ed_vals {t : List Value} (h : shapes EdSh t) : ∃ e : EditL, t = e.vals := by
  unfold EdSh at h
  obtain ⟨_, t0, rfl, ⟨x0, rfl, _⟩, h0⟩ := shapes_cons h
  obtain ⟨_, t1, rfl, ⟨x1, rfl, _⟩, h1⟩ := shapes_cons h0
  obtain ⟨_, t2, rfl, ⟨x2, rfl, _⟩, h2⟩ := shapes_cons h1
  obtain ⟨_, t3, rfl, ⟨x3, rfl, _⟩, h3⟩ := shapes_cons h2
  obtain ⟨_, t4, rfl, ⟨x4, rfl, _⟩, h4⟩ := shapes_cons h3
  obtain ⟨_, t5, rfl, ⟨x5, rfl, _⟩, h5⟩ := shapes_cons h4
  obtain ⟨_, t6, rfl, ⟨x6, rfl, _⟩, h6⟩ := shapes_cons h5
  obtain ⟨_, t7, rfl, ⟨x7, rfl, _⟩, h7⟩ := shapes_cons h6
  obtain ⟨_, t8, rfl, ⟨x8, rfl, _⟩, h8⟩ := shapes_cons h7
  obtain ⟨_, t9, rfl, ⟨x9, rfl, _⟩, h9⟩ := shapes_cons h8
  obtain ⟨_, t10, rfl, ⟨x10, rfl, _⟩, h10⟩ := shapes_cons h9
  obtain ⟨_, t11, rfl, ⟨x11, rfl, _⟩, h11⟩ := shapes_cons h10
  obtain rfl := shapes_nil h11
  exact ⟨⟨x0, ⟨x1, x2, x3⟩, x4, x5, ⟨x6, x7, x8⟩, ⟨x9, x10, x11⟩⟩, rfl⟩
theorem bv_of : ∀ (xs : List (List Value)), (∀ x ∈ xs, shapes [.int .u8] x) → ∃ l, xs = BV l
  | [], _ => ⟨[], rfl⟩
  | x :: xs, h => by
    obtain ⟨l, rfl⟩ := bv_of xs fun y hy => h y (List.mem_cons_of_mem _ hy)
    obtain ⟨_, t0, rfl, ⟨n, rfl, hn⟩, h0⟩ := shapes_cons (h x List.mem_cons_self)
    obtain rfl := shapes_nil h0
    have hw : 0 ≤ n ∧ n ≤ 255 := by
      simpa [Lit.wf, IntKind.min, IntKind.max, IntKind.signed, IntKind.bits] using hn
    refine ⟨UInt8.ofNat n.toNat :: l, ?_⟩
    obtain ⟨m, rfl⟩ := Int.eq_ofNat_of_zero_le hw.1
    have := cb_of (n := m) (by omega)
    simp only [BV, List.map_cons]
    congr 2
theorem okWide_agg {P : Program} {w : World} {r : Reach} {base : Nat} {t : TypeId} {v : Value} {fs : Array Field} (ht : P.underlying t = some (.struct fs)) (h : Value.okWide P w r base t v) : ∃ cs, v = .agg cs := by
  simp only [Value.okWide, ht] at h
  obtain ⟨cs, h1, _⟩ := h
  exact ⟨cs, h1⟩
end Go.Proofs.Ytlndidjdeneolaa.Abs
namespace Go.Proofs.Ytlndidjdeneolaa.frameTells
open Go Go.ChangeShapes Go.WideShapes Go.ChangeAt Go.RowKit
open Go.Proofs.Ytlndidjdeneolaa.Abs
set_option linter.unusedVariables false
theorem own : ownKnob Try.prog.godebug = none := by kernel_rfl
theorem laidOut : laidOutB Try.prog = true := by kernel_rfl
theorem mixed : Try.prog.follows .mixedOrders = true := Checked.mixed Try.checked
set_option maxRecDepth 100000 in
theorem lifted (os : Os) (started : os.Started) (H : Type) (enc : TypeId × Value → H) :
    ReturnsInHanded {} Try.checked os 4 .any (Rows.frameTellsSpec.pre6 enc Try.prog Try.f4 Rows.frameTellsRow.domain false) (Rows.frameTellsSpec.post enc Try.prog Try.f4 false true false false) := by
  refine returnsInHanded_of_change_sized (C := Try.checked) own started (by kernel_rfl) Try.func4
    (ChangeSpec.witness6 (enc := enc) (C := Try.checked) false ⟨#[], #[.agg #[.int .i64 0, .string .empty, .int .i64 0, .int .i64 0, .string .empty, .string .empty, .string .empty, .int .i64 0, .int .i64 0, .string .empty, .int .i64 0, .int .i64 0], .slice none 0 0], []⟩ 8 (by kernel_rfl) (by kernel_rfl) (by kernel_rfl) (by kernel_rfl)) ?_
  intro W base args ds gs before hval0 hW hcnd hsz0 _
  have hval : ∀ (j : Nat) t v, Try.f4.params[j]? = some t → args[j]? = some v → Value.okWide Try.prog W .any base t v := hval0
  have hW' := hW
  obtain ⟨p, q, hA0, hV, rfl, hfz, hnd⟩ := hW
  have hA : DataW.TrodAll enc Try.prog W 0 (fun _ => true) true Try.f4.params.toList args.toList ds p := hA0
  rw [Try.params4] at hA hval
  obtain ⟨v0, vs0, d0, ds0, p0, q0, hargs, rfl, rfl, h0, r0⟩ := trodAll_cons hA
  obtain ⟨v1, vs1, d1, ds1, p1, q1, rfl, rfl, rfl, h1, r1⟩ := trodAll_cons r0
  obtain ⟨rfl, rfl, rfl⟩ := trodAll_nil r1
  obtain rfl : args = #[v0, v1] := by cases args; simp_all
  obtain ⟨rfl, rfl⟩ := trodVars_none hV
  obtain ⟨cs0, rfl⟩ := okWide_agg Try.underlying46 (hval 0 46 v0 rfl rfl)
  obtain ⟨a1, len1, cap1, rfl⟩ := okWide_slice Try.underlying47 (hval 1 47 v1 rfl rfl)
  have k0 := h0
  have k1 := h1
  have lt0 : ∀ x ∈ p0, x.block < W.heap.size := by obtain ⟨m, hm⟩ := k0; exact DataW.trod_lt m _ _ _ hm
  have lt1 : ∀ x ∈ p1, x.block < W.heap.size := by obtain ⟨m, hm⟩ := k1; exact DataW.trod_lt m _ _ _ hm
  clear hA0 hval0 hsz0
  obtain ⟨ψ0, H0, acs, x0, -, -, hR0, hv0, hx0, hs0⟩ := arg_agg (opens_shape 8 46 EdSh ed_shape) h0 (rel_start W)
  obtain ⟨ψ1, H1, a, x1, hle1, -, hR1, hv1, hs1⟩ := arg_cell (opensA_slice (sz := 1) Try.underlying47 (by kernel_rfl) (by decide) (opens_shape 8 5 [.int .u8] (by kernel_rfl)) (RSh.mono _)) h1 rfl hR0
  obtain ⟨hro, hsh⟩ := ro_of hs1 rfl
  obtain ⟨e, rfl⟩ := ed_vals hs0
  obtain ⟨l, rfl⟩ := bv_of _ hsh
  refine (law_calls mixed (xsound_pure mixed (fun B w0 => xsound_none) 60 [13] W.heap.size W) hR1 (.cons (hv0.mono hle1) (VRs_one hv1)) (law4 hro)).mono fun e W' ⟨he, bel⟩ => ?_
  subst he
  exact ⟨_, rfl, _, _, _, [], _, [], hW', trodAll_mk1 (shut_bool Try.underlying4 _), (trodAll_cons_mk (Below.trod laidOut (by kernel_rfl) (of_decide_eq_true (by kernel_rfl)) k0 bel lt0) (trodAll_cons_mk (Below.trod laidOut (by kernel_rfl) (of_decide_eq_true (by kernel_rfl)) k1 bel lt1) trodAll_mk0)), rfl, bel.frame _, fun h => by cases h⟩
theorem over : Rows.frameTellsRow.holds Try.pinned (OpenSpec.ofChange Rows.frameTellsSpec) :=
  OpenClaim.holds_of_wide 4 Try.f4 rfl rfl rfl rfl rfl rfl rfl ⟨rfl, rfl, rfl, rfl, rfl⟩ rfl rfl rfl rfl rfl (by kernel_rfl) Try.func4 (by kernel_rfl)
    (of_decide_eq_true (by kernel_rfl)) (by unfold Func.isWrapper; first | (rw [if_pos (by decide +kernel)]; kernel_rfl) | (rw [if_neg (by decide +kernel)]; exact ⟨rfl, rfl⟩))
    (fun os started H enc _ => lifted os started H enc)
end Go.Proofs.Ytlndidjdeneolaa.frameTells
namespace Go.Proofs.Ytlndidjdeneolaa
theorem frameTells_holds : Rows.FrameTellsSaid := frameTells.over
#print axioms frameTells_holds
end Go.Proofs.Ytlndidjdeneolaa
