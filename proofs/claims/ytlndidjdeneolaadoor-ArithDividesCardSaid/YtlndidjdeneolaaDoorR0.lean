/- What an argument that is a value, bytes or a number lays into the plain heap. -/
import Derived.Test.YtlndidjdeneolaaDoorK0
import Derived.WalkKit
import Derived.ProofKit
import Derived.OpenShut
import Derived.ShutString
import Derived.ChangeOld
import Derived.Below
import Derived.SizedLaws
import Derived.LaidMore
import Derived.Stop.Joined
namespace Go.Proofs.YtlndidjdeneolaaDoor.Abs
open Go Go.RowKit
def VlSh : List Sh := [.int .i64, .int .i64, .str]
theorem vl_shape : shapeT Tryd.prog 8 23 = some VlSh := by kernel_rfl
theorem vl_vals {t : List Value} (h : shapes VlSh t) : ∃ v : VL, t = v.vals ∧ (-9223372036854775808 ≤ v.n ∧ v.n ≤ 9223372036854775807) ∧ v.s.size ≤ 9223372036854775807 := by
  unfold VlSh at h
  obtain ⟨_, t0, rfl, ⟨x0, rfl, w0⟩, h0⟩ := shapes_cons h
  obtain ⟨_, t1, rfl, ⟨x1, rfl, w1⟩, h1⟩ := shapes_cons h0
  obtain ⟨_, t2, rfl, ⟨x2, rfl, w2⟩, h2⟩ := shapes_cons h1
  obtain rfl := shapes_nil h2
  refine ⟨⟨x0, x1, x2⟩, rfl, ?_, w2⟩
  simpa [Lit.wf, IntKind.min, IntKind.max, IntKind.signed, IntKind.bits] using w1
theorem bv_ofv : ∀ (xs : List (List Value)), (∀ x ∈ xs, shapes [.int .u8] x) → ∃ l, xs = BV l
  | [], _ => ⟨[], rfl⟩
  | x :: xs, h => by
    obtain ⟨l, rfl⟩ := bv_ofv xs fun y hy => h y (List.mem_cons_of_mem _ hy)
    obtain ⟨_, t0, rfl, ⟨n, rfl, hn⟩, h0⟩ := shapes_cons (h x List.mem_cons_self)
    obtain rfl := shapes_nil h0
    have hw : 0 ≤ n ∧ n ≤ 255 := by
      simpa [Lit.wf, IntKind.min, IntKind.max, IntKind.signed, IntKind.bits] using hn
    refine ⟨UInt8.ofNat n.toNat :: l, ?_⟩
    obtain ⟨m, rfl⟩ := Int.eq_ofNat_of_zero_le hw.1
    have := cb_of (n := m) (by omega)
    simp only [BV, List.map_cons]
    congr 2
theorem okWide_aggv {P : Program} {w : World} {r : Reach} {base : Nat} {t : TypeId} {v : Value} {fs : Array Field} (ht : P.underlying t = some (.struct fs)) (h : Value.okWide P w r base t v) : ∃ cs, v = .agg cs := by
  simp only [Value.okWide, ht] at h
  obtain ⟨cs, h1, _⟩ := h
  exact ⟨cs, h1⟩
theorem inR_wf {n : Int} (h : (Lit.int .i64 n).wf = true) : inR n = true := by
  rw [inR_iff]
  simpa [Lit.wf, IntKind.min, IntKind.max, IntKind.signed, IntKind.bits] using h
end Go.Proofs.YtlndidjdeneolaaDoor.Abs
