/- The law InputKinds: what is supplied from outside is sound, from a start whose listed variables are laid. -/
import Derived.Test.YtenilfkkpoajbaaGreatDoorY2
import Derived.Test.YtenilfkkpoajbaaGreatDoorSHG
import Derived.Test.YtenilfkkpoajbaaGreatDoorRows
import Derived.Stop.LaidErr
set_option linter.unusedVariables false
set_option linter.unusedSimpArgs false
namespace Go.Proofs.YtenilfkkpoajbaaGreatDoor.Abs
open Go Go.RowKit Go.Sort
theorem pow10_of {W : World} {rest : List (String × DataW Unit)} (h : laidMet Tryz.prog (("internal/strconv.uint64pow10", Rows.laid_internal_strconv_uint64pow10) :: rest) W) : Lib.TabIs Tryz.prog W "internal/strconv.uint64pow10" .u64 Lib.pow10Tab :=
  Lib.tabIs_of_head (g := 3) (t := 186) (e := 130) (n := 20) (by kernel_rfl) (by kernel_rfl) Tryz.underlying186 Tryz.underlying130 (by kernel_rfl) (by kernel_rfl) h
theorem star_es : "*" ++ "errors.errorString" = "*errors.errorString" := by decide
theorem row_es (u : TypeId) (h : Tryz.prog.typeName? 3 u = some "*errors.errorString") : u = 182 :=
  typeName_ptr_named (nm := "errors.errorString") (by rw [star_es]; kernel_rfl) (by kernel_rfl) (by decide) u (by rw [star_es]; exact h)
theorem syn_of {W : World} {rest : List (String × DataW Unit)} (h : laidMet Tryz.prog (("strconv.ErrSyntax", Rows.laid_strconv_ErrSyntax) :: rest) W) : ∃ a, W.var? Tryz.prog "strconv.ErrSyntax" = some #[.iface 182 (.pointer (some a))] := by
  obtain ⟨a, s, h1, -⟩ := laid_sentinel (g := 0) (ti := 83) (tp := 182) (te := 184) (ts := 9) h (by kernel_rfl) (by kernel_rfl) Tryz.underlying83 row_es Tryz.underlying182 Tryz.underlying184 rfl rfl Tryz.underlying9 (by kernel_rfl) (by kernel_rfl)
  exact ⟨a, h1⟩
theorem ran_of {W : World} {rest : List (String × DataW Unit)} (h : laidMet Tryz.prog (("strconv.ErrRange", Rows.laid_strconv_ErrRange) :: rest) W) : ∃ a, W.var? Tryz.prog "strconv.ErrRange" = some #[.iface 182 (.pointer (some a))] := by
  obtain ⟨a, s, h1, -⟩ := laid_sentinel (g := 1) (ti := 83) (tp := 182) (te := 184) (ts := 9) h (by kernel_rfl) (by kernel_rfl) Tryz.underlying83 row_es Tryz.underlying182 Tryz.underlying184 rfl rfl Tryz.underlying9 (by kernel_rfl) (by kernel_rfl)
  exact ⟨a, h1⟩
/-- The library's variables that the start lays. -/
structure LibStart (W : World) : Prop where
  tab : Lib.TabIs Tryz.prog W "internal/strconv.uint64pow10" .u64 Lib.pow10Tab
  syn : ∃ a, W.var? Tryz.prog "strconv.ErrSyntax" = some #[.iface 182 (.pointer (some a))]
  ran : ∃ a, W.var? Tryz.prog "strconv.ErrRange" = some #[.iface 182 (.pointer (some a))]
theorem xk0_sound {W : World} (h : LibStart W) : XSound Tryz.prog W.heap.size W XK0 := by
  intro f g hg
  unfold XK0 at hg
  split at hg
  · rename_i hf
    subst hf
    cases hg
    exact ix_sound Tryz.stringslite_IndexByte
  split at hg
  · rename_i hf
    subst hf
    cases hg
    exact itoaK_sound fun n h0 h1 w b => Tryz.strconv_Itoa n h0 h1 w (var_below h.tab b)
  split at hg
  · rename_i hf
    subst hf
    cases hg
    obtain ⟨a, ha⟩ := h.syn
    obtain ⟨c, hc⟩ := h.ran
    refine atoi_sound (fun s hs v hv w => Tryz.strconv_Atoi_ok s (by omega) v hv w) (fun s hs hv w b => (Tryz.strconv_Atoi_syntax_var s (by omega) hv _ _ w (var_below ha b)).mono ?_) (fun s hs hv w b => (Tryz.strconv_Atoi_range_var s (by omega) hv _ _ w (var_below hc b)).mono ?_)
    · rintro e w' ⟨N, rfl, -, -, hb⟩
      exact ⟨N, rfl, hb⟩
    · rintro e w' ⟨N, rfl, -, -, hb⟩
      exact ⟨N, rfl, hb⟩
  · cases hg
theorem LibStart.below {W w : World} (h : LibStart W) (b : Below W.heap.size W w) : LibStart w :=
  ⟨var_below h.tab b, h.syn.imp fun a ha => var_below ha b, h.ran.imp fun a ha => var_below ha b⟩
theorem true_sound2 {P : Program} (hm : P.follows .mixedOrders = true) {X' : Outer} {B : Nat} {w0 : World} (h : ∀ w, Below B w0 w → XSound P w.heap.size w X') {n : Nat} {k : FuncId} (hr : ansIs (run P X' n k [] ⟨0, []⟩) (.bool true) = true) : KSound P B w0 fun f' args H => if f' = k then trueG args H else none := by
  intro f' args H v H' hrun φ w args' hR ha
  simp only at hrun
  split at hrun
  · rename_i hff
    subst hff
    unfold trueG at hrun
    split at hrun
    · cases hrun
      obtain ⟨H1, hr⟩ := ansIs_some hr
      have e : args' = [] := flats_eq rfl ha
      subst e
      refine (run_sound hm (h w hR.below) n f' [] _ (.bool true) H1 hr (fun _ => none) w [] (rel_start w) (flats_refl rfl)).mono ?_
      rintro e w' ⟨ψ, v', _, rfl, hv, hR'⟩
      exact ⟨φ, v', Plan.le_refl φ, rfl, by rw [hv.bool_inv]; exact .bool _, hR.grow hR'.below⟩
    · cases hrun
  · cases hrun
theorem xk_sound (mixed : Tryz.prog.follows .mixedOrders = true) {W : World} (h : LibStart W) : XSound Tryz.prog W.heap.size W XK := by
  intro f g hg
  unfold XK at hg
  split at hg
  · rename_i hf
    subst hf
    cases hg
    exact true_sound2 mixed (fun w b => xk0_sound (h.below b)) kinds_alive
  · exact xk0_sound h f g hg
end Go.Proofs.YtenilfkkpoajbaaGreatDoor.Abs
