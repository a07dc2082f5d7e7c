/- What Parse is given from outside: the library's answers, and that they are sound. -/
import Derived.Test.YtliemjbafgnnbaaDoorMI2
import Derived.KernelRfl
import Derived.Test.YtliemjbafgnnbaaDoorPSHP
import Derived.Test.YtliemjbafgnnbaaDoorPY0
import Derived.Test.YtliemjbafgnnbaaDoorRows
import Derived.Stop.LaidErr
import Derived.Shelf.Vars
set_option maxHeartbeats 0
set_option linter.unusedSimpArgs false
set_option linter.unusedVariables false
namespace Go.Proofs.YtliemjbafgnnbaaDoor.Abs
open Go Go.RowKit Go.Sort
theorem pow10_p {W : World} {rest : List (String × DataW Unit)} (h : laidMet Tryd.prog (("internal/strconv.uint64pow10", Rows.laid_internal_strconv_uint64pow10) :: rest) W) : Lib.TabIs Tryd.prog W "internal/strconv.uint64pow10" .u64 Lib.pow10Tab :=
 Lib.tabIs_of_head (g := 3) (t := 121) (e := 99) (n := 20) (by kernel_rfl) (by kernel_rfl) Tryd.underlying121 Tryd.underlying99 (by kernel_rfl) (by kernel_rfl) h
theorem zaxm : "*" ++ "errors.errorString" = "*errors.errorString" := by decide
theorem row_ep (u : TypeId) (h : Tryd.prog.typeName? 3 u = some "*errors.errorString") : u = 111 :=
 typeName_ptr_named (nm := "errors.errorString") (by rw [zaxm]; kernel_rfl) (by kernel_rfl) (by decide) u (by rw [zaxm]; exact h)
theorem syn_p {W : World} {rest : List (String × DataW Unit)} (h : laidMet Tryd.prog (("strconv.ErrSyntax", Rows.laid_strconv_ErrSyntax) :: rest) W) : ∃ a, W.var? Tryd.prog "strconv.ErrSyntax" = some #[.iface 111 (.pointer (some a))] := by
 obtain ⟨a, s, h1, -⟩ := laid_sentinel (g := 1) (ti := 70) (tp := 111) (te := 113) (ts := 9) h (by kernel_rfl) (by kernel_rfl) Tryd.underlying70 row_ep Tryd.underlying111 Tryd.underlying113 rfl rfl Tryd.underlying9 (by kernel_rfl) (by kernel_rfl)
 exact ⟨a, h1⟩
theorem ran_p {W : World} {rest : List (String × DataW Unit)} (h : laidMet Tryd.prog (("strconv.ErrRange", Rows.laid_strconv_ErrRange) :: rest) W) : ∃ a, W.var? Tryd.prog "strconv.ErrRange" = some #[.iface 111 (.pointer (some a))] := by
 obtain ⟨a, s, h1, -⟩ := laid_sentinel (g := 2) (ti := 70) (tp := 111) (te := 113) (ts := 9) h (by kernel_rfl) (by kernel_rfl) Tryd.underlying70 row_ep Tryd.underlying111 Tryd.underlying113 rfl rfl Tryd.underlying9 (by kernel_rfl) (by kernel_rfl)
 exact ⟨a, h1⟩
structure LibP (W : World) : Prop where
 tab : Lib.TabIs Tryd.prog W "internal/strconv.uint64pow10" .u64 Lib.pow10Tab
 syn : ∃ a, W.var? Tryd.prog "strconv.ErrSyntax" = some #[.iface 111 (.pointer (some a))]
 ran : ∃ a, W.var? Tryd.prog "strconv.ErrRange" = some #[.iface 111 (.pointer (some a))]
theorem LibP.below {W w : World} (h : LibP W) (b : Below W.heap.size W w) : LibP w :=
 ⟨zagk h.tab b, h.syn.imp fun a ha => zagk ha b, h.ran.imp fun a ha => zagk ha b⟩
noncomputable def YP : Outer := fun f => if f = 40 then some ixG else if f = 61 then some itoaKG else if f = 33 then some (atoiG 92) else if f = 39 then some cpG else none
theorem yp_sound {W : World} (h : LibP W) : XSound Tryd.prog W.heap.size W YP := by
 intro f g hg
 unfold YP at hg
 split at hg
 ·rename_i hf
  subst hf
  cases hg
  exact zaz6 Tryd.stringslite_IndexByte
 split at hg
 ·rename_i hf
  subst hf
  cases hg
  exact zaqc fun n h0 h1 w b => Tryd.strconv_Itoa n h0 h1 w (zagk h.tab b)
 split at hg
 ·rename_i hf
  subst hf
  cases hg
  obtain ⟨a, ha⟩ := h.syn
  obtain ⟨c, hc⟩ := h.ran
  refine zark (fun s hs v hv w => Tryd.strconv_Atoi_ok s (by omega) v hv w) (fun s hs hv w b => (Tryd.strconv_Atoi_syntax_var s (by omega) hv _ _ w (zagk ha b)).mono ?_) (fun s hs hv w b => (Tryd.strconv_Atoi_range_var s (by omega) hv _ _ w (zagk hc b)).mono ?_)
  ·rintro e w' ⟨N, rfl, -, -, hb⟩
   exact ⟨N, rfl, hb⟩
  ·rintro e w' ⟨N, rfl, -, -, hb⟩
   exact ⟨N, rfl, hb⟩
 split at hg
 ·rename_i hf
  subst hf
  cases hg
  exact zazp
 ·cases hg
end Go.Proofs.YtliemjbafgnnbaaDoor.Abs
