/- Facts of the program's types, printed by wip/tools/TG.lean. -/
import Derived.Test.YtmdpggecelheoaaDoorPA15
import Derived.Test.YtmdpggecelheoaaDoorProg
import Derived.KernelRfl
set_option linter.unusedVariables false
namespace Go.Proofs.YtmdpggecelheoaaDoor.Abs
open Go
theorem ag3 : isAggT Tryd.prog 3 = false := by kernel_rfl
theorem sz3 : szT Tryd.prog 3 = some 1 := by kernel_rfl
theorem kn3 : knownT Tryd.prog 3 = true := by kernel_rfl
theorem ag9 : isAggT Tryd.prog 9 = false := by kernel_rfl
theorem sz9 : szT Tryd.prog 9 = some 1 := by kernel_rfl
theorem kn9 : knownT Tryd.prog 9 = true := by kernel_rfl
theorem el43 : elemT Tryd.prog 43 = some 3 := by kernel_rfl
theorem if43 : infoT Tryd.prog 3 = some (1, 8) := by kernel_rfl
theorem zu43 : zeroT Tryd.prog 3 = some (.int .i64 0) := by kernel_rfl
theorem el44 : elemT Tryd.prog 44 = some 9 := by kernel_rfl
theorem if44 : infoT Tryd.prog 9 = some (1, 16) := by kernel_rfl
theorem zu44 : zeroT Tryd.prog 9 = some (.string .empty) := by kernel_rfl
theorem sz58 : szT Tryd.prog 58 = some 13 := by kernel_rfl
theorem zt58 : zeroT Tryd.prog 58 = some (.agg #[.int .i64 0, .string .empty, .string .empty, .int .i64 0, .int .i64 0, .string .empty, .string .empty, .int .i64 0, .int .i64 0, .string .empty, .int .i64 0, .int .i64 0, .slice none 0 0]) := by kernel_rfl
theorem ag129 : isAggT Tryd.prog 129 = false := by kernel_rfl
theorem sz129 : szT Tryd.prog 129 = some 1 := by kernel_rfl
theorem kn129 : knownT Tryd.prog 129 = true := by kernel_rfl
theorem el129 : elemT Tryd.prog 129 = some 5 := by kernel_rfl
theorem if129 : infoT Tryd.prog 5 = some (1, 1) := by kernel_rfl
theorem tk129 : takesT Tryd.prog 129 = true := by kernel_rfl
theorem zu129 : zeroT Tryd.prog 5 = some (.int .u8 0) := by kernel_rfl
theorem pl145_1 : place Tryd.prog 145 1 = some (1, 1) := by kernel_rfl
theorem ld129 (H : Hp) (a : Addr) : aload Tryd.prog 129 (.pointer (some a)) H = cellAt H a := aload_cell ag129 kn129 a
theorem so129 (H : Hp) (b off : Nat) (x : Value) : astore Tryd.prog 129 (.pointer (some ⟨b, off, none⟩)) x H = match H.get b with | .cells true e c => (if x.cells.size = 1 ∧ isTup x = false ∧ off + 1 ≤ c.length then some (H.put b (.cells true e (setAll c off x.cells.toList))) else none) | _ => none := astore_sz sz129 b off x
theorem gr129 (H : Hp) (s x : Value) : aappend Tryd.prog 129 129 s x H = (acells 1 x (alenOf x) H).bind fun new => agrow2 5 1 1 s (alenOf x) new H := aappend_eq el129 if129 tk129 s x
theorem bs129 (len : Nat) (parts : List (Nat × Value)) (hl : len * 1 ≤ 16777216) : abuild Tryd.prog 129 len parts = if parts.all (fun p => !isTup p.2) then (afill (fun i => some (i * 1, 1)) (List.replicate len (Value.cells (.int .u8 0)).toList).flatten parts).map fun cs => (1, 5, cs) else none := abuild_eq el129 if129 zu129 rfl len parts hl
theorem ln129 (H : Hp) (p : Option Addr) (n c : Nat) : alen Tryd.prog 129 (.slice p n c) H = some (.int .i64 n) := alen_slice el129 p n c
theorem fa145_1 (ρ : Operand → Value) (H : Hp) (x : Operand) : lop Tryd.prog ρ H (.fieldAddr 145 x 1) = match ρ x with | .pointer (some a) => (if a.spot = none then some (.pointer (some ⟨a.block, a.off + 1, none⟩)) else none) | _ => none := lop_fieldAddr x 1 1 1 pl145_1 (by decide)
theorem fk35 : funcOk Tryd.prog 35 = true := by kernel_rfl
theorem fk36 : funcOk Tryd.prog 36 = true := by kernel_rfl
theorem fk37 : funcOk Tryd.prog 37 = true := by kernel_rfl
theorem fk172 : funcOk Tryd.prog 172 = true := by kernel_rfl
end Go.Proofs.YtmdpggecelheoaaDoor.Abs
