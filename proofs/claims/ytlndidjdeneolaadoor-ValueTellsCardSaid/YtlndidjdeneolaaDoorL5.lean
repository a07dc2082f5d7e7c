/- strconv.Itoa's answer, by the library's contract, from a start whose table is laid. -/
import Derived.Test.YtlndidjdeneolaaDoorL4
import Derived.Test.YtlndidjdeneolaaDoorSHD
import Derived.Test.YtlndidjdeneolaaDoorRows
import Derived.Lib.LaidTab
import Derived.Stop.LaidErr
import Derived.Lib.AppendIntMem
set_option linter.unusedVariables false
set_option linter.unusedSimpArgs false
namespace Go.Proofs.YtlndidjdeneolaaDoor.Abs
open Go Go.RowKit Go.Sort
theorem tab_below {P : Program} {w0 w : World} {name : String} {k : IntKind} {zs : List Int} (h : Lib.TabIs P w0 name k zs) (b : Below w0.heap.size w0 w) : Lib.TabIs P w name k zs := by
  unfold Lib.TabIs World.var? at *
  cases hg : P.globalNamed name with
  | none => rw [hg] at h; simp at h
  | some g =>
    rw [hg] at h
    simp only [Option.bind_some] at h ⊢
    have hlt : g < w0.heap.size := by
      refine Decidable.byContradiction fun hn => ?_
      rw [Array.getElem?_eq_none (by omega)] at h
      simp at h
    rw [b.block g hlt]
    exact h
theorem pow10_of {W : World} {rest : List (String × DataW Unit)} (h : laidMet Tryd.prog (("internal/strconv.uint64pow10", Rows.laid_internal_strconv_uint64pow10) :: rest) W) : Lib.TabIs Tryd.prog W "internal/strconv.uint64pow10" .u64 Lib.pow10Tab :=
  Lib.tabIs_of_head (g := 0) (t := 78) (e := 44) (n := 20) (by kernel_rfl) (by kernel_rfl) Tryd.underlying78 Tryd.underlying44 (by kernel_rfl) (by kernel_rfl) h
theorem itoa_sound {B : Nat} {w0 : World} (htab : ∀ w, Below B w0 w → Lib.TabIs Tryd.prog w "internal/strconv.uint64pow10" .u64 Lib.pow10Tab) : KSound Tryd.prog B w0 fun f' args H => if f' = 29 then itoaG args H else none := by
  intro f' args H v H' hr φ w args' hR ha
  simp only at hr
  split at hr
  · rename_i hff
    subst hff
    unfold itoaG at hr
    split at hr
    · rename_i n
      split at hr
      · rename_i hn
        cases hr
        have e : args' = [.int .i64 n] := flats_eq rfl ha
        subst e
        refine (Tryd.strconv_Itoa n hn.1 hn.2 w (htab w hR.below)).mono ?_
        rintro e w' ⟨rfl, k, os, rfl⟩
        exact ⟨φ, _, Plan.le_refl φ, rfl, .string _, hR.grow (Lib.below_grow _ _ (Nat.le_refl _) _ _)⟩
      · cases hr
    · cases hr
  · cases hr
theorem xsound_XT (mixed : Tryd.prog.follows .mixedOrders = true) {W : World} (htab : Lib.TabIs Tryd.prog W "internal/strconv.uint64pow10" .u64 Lib.pow10Tab) : XSound Tryd.prog W.heap.size W XT := by
  intro f g hg
  unfold XT at hg
  split at hg
  · rename_i hf
    subst hf
    cases hg
    exact itoa_sound fun w b => tab_below htab b
  · exact xsound_pure mixed (fun B w0 => xsound_none) 60 [9] W.heap.size W f g hg
end Go.Proofs.YtlndidjdeneolaaDoor.Abs
