/- strconv.Itoa's answer, by the library's contract, from a start whose table is laid. -/
import Derived.Test.YtenilfkkpoajbaaDoorA20
import Derived.Test.YtenilfkkpoajbaaDoorSHE
import Derived.Test.YtenilfkkpoajbaaDoorRows
import Derived.Lib.LaidTab
import Derived.Stop.LaidErr
import Derived.Lib.AppendIntMem
set_option linter.unusedVariables false
set_option linter.unusedSimpArgs false
namespace Go.Proofs.YtenilfkkpoajbaaDoor.Abs
open Go Go.RowKit Go.Sort
/-- strconv.Itoa's answer. -/
def itoaG : List Value → Hp → Option (Value × Hp) := fun args H => match args with
  | [.int .i64 n] => if -9223372036854775808 ≤ n ∧ n ≤ 9223372036854775807 then some (.string ⟨(Lib.itoa n).toArray⟩, H) else none
  | _ => none
theorem tab_below {P : Program} {w0 w : World} {name : String} {k : IntKind} {zs : List Int} (h : Lib.TabIs P w0 name k zs) (b : Below w0.heap.size w0 w) : Lib.TabIs P w name k zs := by
  unfold Lib.TabIs World.var? at *
  cases hg : P.globalNamed name with
  | none => rw [hg] at h; simp at h
  | some g =>
    rw [hg] at h
    simp only [Option.bind_some] at h ⊢
    have hlt : g < w0.heap.size := by
      refine Decidable.byContradiction fun hn => ?_
      rw [Array.getElem?_eq_none (by omega)] at h
      simp at h
    rw [b.block g hlt]
    exact h
theorem pow10_of {W : World} {rest : List (String × DataW Unit)} (h : laidMet Tryd.prog (("internal/strconv.uint64pow10", Rows.laid_internal_strconv_uint64pow10) :: rest) W) : Lib.TabIs Tryd.prog W "internal/strconv.uint64pow10" .u64 Lib.pow10Tab :=
  Lib.tabIs_of_head (g := 3) (t := 171) (e := 122) (n := 20) (by kernel_rfl) (by kernel_rfl) Tryd.underlying171 Tryd.underlying122 (by kernel_rfl) (by kernel_rfl) h
theorem itoa_sound {B : Nat} {w0 : World} (htab : ∀ w, Below B w0 w → Lib.TabIs Tryd.prog w "internal/strconv.uint64pow10" .u64 Lib.pow10Tab) : KSound Tryd.prog B w0 fun f' args H => if f' = 80 then itoaG args H else none := by
  intro f' args H v H' hr φ w args' hR ha
  simp only at hr
  split at hr
  · rename_i hff
    subst hff
    unfold itoaG at hr
    split at hr
    · rename_i n
      split at hr
      · rename_i hn
        cases hr
        have e : args' = [.int .i64 n] := flats_eq rfl ha
        subst e
        refine (Tryd.strconv_Itoa n hn.1 hn.2 w (htab w hR.below)).mono ?_
        rintro e w' ⟨rfl, k, os, rfl⟩
        exact ⟨φ, _, Plan.le_refl φ, rfl, .string _, hR.grow (Lib.below_grow _ _ (Nat.le_refl _) _ _)⟩
      · cases hr
    · cases hr
  · cases hr
end Go.Proofs.YtenilfkkpoajbaaDoor.Abs
