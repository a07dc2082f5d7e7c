/- What Parse is given from outside: the library's answers, and that they are sound. -/
import Derived.Test.YtliemjbafgnnbaaGreatDoorMI2
import Derived.KernelRfl
import Derived.Test.YtliemjbafgnnbaaGreatDoorPSHP
import Derived.Test.YtliemjbafgnnbaaGreatDoorPY0
import Derived.Test.YtliemjbafgnnbaaGreatDoorRows
import Derived.Stop.LaidErr
import Derived.Shelf.Vars
set_option linter.unusedSimpArgs false
set_option linter.unusedVariables false
namespace Go.Proofs.YtliemjbafgnnbaaGreatDoor.Abs
open Go Go.RowKit Go.Sort
theorem pow10_p {W : World} {rest : List (String × DataW Unit)} (h : laidMet Tryz.prog (("internal/strconv.uint64pow10", Rows.laid_internal_strconv_uint64pow10) :: rest) W) : Lib.TabIs Tryz.prog W "internal/strconv.uint64pow10" .u64 Lib.pow10Tab :=
 Lib.tabIs_of_head (g := 3) (t := 137) (e := 103) (n := 20) (by kernel_rfl) (by kernel_rfl) Tryz.underlying137 Tryz.underlying103 (by kernel_rfl) (by kernel_rfl) h
theorem za0g : "*" ++ "errors.errorString" = "*errors.errorString" := by decide
theorem row_ep (u : TypeId) (h : Tryz.prog.typeName? 3 u = some "*errors.errorString") : u = 127 :=
 typeName_ptr_named (nm := "errors.errorString") (by rw [za0g]; kernel_rfl) (by kernel_rfl) (by decide) u (by rw [za0g]; exact h)
theorem syn_p {W : World} {rest : List (String × DataW Unit)} (h : laidMet Tryz.prog (("strconv.ErrSyntax", Rows.laid_strconv_ErrSyntax) :: rest) W) : ∃ a, W.var? Tryz.prog "strconv.ErrSyntax" = some #[.iface 127 (.pointer (some a))] := by
 obtain ⟨a, s, h1, -⟩ := laid_sentinel (g := 1) (ti := 86) (tp := 127) (te := 129) (ts := 9) h (by kernel_rfl) (by kernel_rfl) Tryz.underlying86 row_ep Tryz.underlying127 Tryz.underlying129 rfl rfl Tryz.underlying9 (by kernel_rfl) (by kernel_rfl)
 exact ⟨a, h1⟩
theorem ran_p {W : World} {rest : List (String × DataW Unit)} (h : laidMet Tryz.prog (("strconv.ErrRange", Rows.laid_strconv_ErrRange) :: rest) W) : ∃ a, W.var? Tryz.prog "strconv.ErrRange" = some #[.iface 127 (.pointer (some a))] := by
 obtain ⟨a, s, h1, -⟩ := laid_sentinel (g := 2) (ti := 86) (tp := 127) (te := 129) (ts := 9) h (by kernel_rfl) (by kernel_rfl) Tryz.underlying86 row_ep Tryz.underlying127 Tryz.underlying129 rfl rfl Tryz.underlying9 (by kernel_rfl) (by kernel_rfl)
 exact ⟨a, h1⟩
structure LibP (W : World) : Prop where
 tab : Lib.TabIs Tryz.prog W "internal/strconv.uint64pow10" .u64 Lib.pow10Tab
 syn : ∃ a, W.var? Tryz.prog "strconv.ErrSyntax" = some #[.iface 127 (.pointer (some a))]
 ran : ∃ a, W.var? Tryz.prog "strconv.ErrRange" = some #[.iface 127 (.pointer (some a))]
theorem LibP.below {W w : World} (h : LibP W) (b : Below W.heap.size W w) : LibP w :=
 ⟨zaha h.tab b, h.syn.imp fun a ha => zaha ha b, h.ran.imp fun a ha => zaha ha b⟩
noncomputable def YP : Outer := fun f => if f = 68 then some ixG else if f = 93 then some itoaKG else if f = 57 then some (atoiG 112) else if f = 67 then some cpG else none
theorem yp_sound {W : World} (h : LibP W) : XSound Tryz.prog W.heap.size W YP := by
 intro f g hg
 unfold YP at hg
 split at hg
 ·rename_i hf
  subst hf
  cases hg
  exact za2s Tryz.stringslite_IndexByte
 split at hg
 ·rename_i hf
  subst hf
  cases hg
  exact zasf fun n h0 h1 w b => Tryz.strconv_Itoa n h0 h1 w (zaha h.tab b)
 split at hg
 ·rename_i hf
  subst hf
  cases hg
  obtain ⟨a, ha⟩ := h.syn
  obtain ⟨c, hc⟩ := h.ran
  refine zatn (fun s hs v hv w => Tryz.strconv_Atoi_ok s (by omega) v hv w) (fun s hs hv w b => (Tryz.strconv_Atoi_syntax_var s (by omega) hv _ _ w (zaha ha b)).mono ?_) (fun s hs hv w b => (Tryz.strconv_Atoi_range_var s (by omega) hv _ _ w (zaha hc b)).mono ?_)
  ·rintro e w' ⟨N, rfl, -, -, hb⟩
   exact ⟨N, rfl, hb⟩
  ·rintro e w' ⟨N, rfl, -, -, hb⟩
   exact ⟨N, rfl, hb⟩
 split at hg
 ·rename_i hf
  subst hf
  cases hg
  exact za2f
 ·cases hg
end Go.Proofs.YtliemjbafgnnbaaGreatDoor.Abs
