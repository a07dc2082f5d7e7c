/- Facts of the program's types, printed by wip/tools/TG.lean. -/
import Derived.Test.YtmdpggecelheoaaDoorPA15
import Derived.Test.YtmdpggecelheoaaDoorProg
import Derived.KernelRfl
set_option linter.unusedVariables false
namespace Go.Proofs.YtmdpggecelheoaaDoor.Abs
open Go
theorem ag3 : isAggT Tryd.prog 3 = false := by kernel_rfl
theorem sz3 : szT Tryd.prog 3 = some 1 := by kernel_rfl
theorem kn3 : knownT Tryd.prog 3 = true := by kernel_rfl
theorem ag4 : isAggT Tryd.prog 4 = false := by kernel_rfl
theorem kn4 : knownT Tryd.prog 4 = true := by kernel_rfl
theorem ag9 : isAggT Tryd.prog 9 = false := by kernel_rfl
theorem sz9 : szT Tryd.prog 9 = some 1 := by kernel_rfl
theorem kn9 : knownT Tryd.prog 9 = true := by kernel_rfl
theorem ag42 : isAggT Tryd.prog 42 = false := by kernel_rfl
theorem sz42 : szT Tryd.prog 42 = some 1 := by kernel_rfl
theorem kn42 : knownT Tryd.prog 42 = true := by kernel_rfl
theorem el42 : elemT Tryd.prog 42 = some 48 := by kernel_rfl
theorem if42 : infoT Tryd.prog 48 = some (3, 32) := by kernel_rfl
theorem tk42 : takesT Tryd.prog 42 = true := by kernel_rfl
theorem zu42 : zeroT Tryd.prog 48 = some (.agg #[.int .i64 0, .int .i64 0, .string .empty]) := by kernel_rfl
theorem el43 : elemT Tryd.prog 43 = some 3 := by kernel_rfl
theorem if43 : infoT Tryd.prog 3 = some (1, 8) := by kernel_rfl
theorem tk43 : takesT Tryd.prog 43 = true := by kernel_rfl
theorem zu43 : zeroT Tryd.prog 3 = some (.int .i64 0) := by kernel_rfl
theorem el44 : elemT Tryd.prog 44 = some 9 := by kernel_rfl
theorem if44 : infoT Tryd.prog 9 = some (1, 16) := by kernel_rfl
theorem zu44 : zeroT Tryd.prog 9 = some (.string .empty) := by kernel_rfl
theorem el46 : elemT Tryd.prog 46 = some 42 := by kernel_rfl
theorem if46 : infoT Tryd.prog 42 = some (1, 24) := by kernel_rfl
theorem tk46 : takesT Tryd.prog 46 = true := by kernel_rfl
theorem zu46 : zeroT Tryd.prog 42 = some (.slice none 0 0) := by kernel_rfl
theorem ag48 : isAggT Tryd.prog 48 = true := by kernel_rfl
theorem sz48 : szT Tryd.prog 48 = some 3 := by kernel_rfl
theorem zt48 : zeroT Tryd.prog 48 = some (.agg #[.int .i64 0, .int .i64 0, .string .empty]) := by kernel_rfl
theorem sd48 : sized Tryd.prog 48 = true := by kernel_rfl
theorem pl48_0 : place Tryd.prog 48 0 = some (0, 1) := by kernel_rfl
theorem ft48_0 : ftype Tryd.prog 48 0 = some 3 := by kernel_rfl
theorem pl48_1 : place Tryd.prog 48 1 = some (1, 1) := by kernel_rfl
theorem pl48_2 : place Tryd.prog 48 2 = some (2, 1) := by kernel_rfl
theorem ft48_2 : ftype Tryd.prog 48 2 = some 9 := by kernel_rfl
theorem ag73 : isAggT Tryd.prog 73 = false := by kernel_rfl
theorem kn73 : knownT Tryd.prog 73 = true := by kernel_rfl
theorem ag75 : isAggT Tryd.prog 75 = true := by kernel_rfl
theorem sz75 : szT Tryd.prog 75 = some 3 := by kernel_rfl
theorem zt75 : zeroT Tryd.prog 75 = some (.agg #[.int .i64 0, .bool false, .nilFunc]) := by kernel_rfl
theorem pl75_0 : place Tryd.prog 75 0 = some (0, 1) := by kernel_rfl
theorem pl75_1 : place Tryd.prog 75 1 = some (1, 1) := by kernel_rfl
theorem pl75_2 : place Tryd.prog 75 2 = some (2, 1) := by kernel_rfl
theorem bd48 (ρ : Operand → Value) (H : Hp) (parts : Array (Nat × Operand)) : lop Tryd.prog ρ H (.build 48 parts) = if parts.toList.all (fun p => !isTup (ρ p.2)) then (afill (place Tryd.prog 48) (Value.cells (.agg #[.int .i64 0, .int .i64 0, .string .empty])).toList (parts.toList.map fun p => (p.1, ρ p.2))).map fun cs => .agg cs.toArray else none := lop_build parts _ zt48 sd48 rfl
theorem fk31 : funcOk Tryd.prog 31 = true := by kernel_rfl
theorem fk32 : funcOk Tryd.prog 32 = true := by kernel_rfl
theorem fk33 : funcOk Tryd.prog 33 = true := by kernel_rfl
theorem fk34 : funcOk Tryd.prog 34 = true := by kernel_rfl
theorem fk50 : funcOk Tryd.prog 50 = true := by kernel_rfl
theorem fk51 : funcOk Tryd.prog 51 = true := by kernel_rfl
theorem fk52 : funcOk Tryd.prog 52 = true := by kernel_rfl
theorem fk53 : funcOk Tryd.prog 53 = true := by kernel_rfl
theorem fk54 : funcOk Tryd.prog 54 = true := by kernel_rfl
theorem fk64 : funcOk Tryd.prog 64 = true := by kernel_rfl
theorem fk65 : funcOk Tryd.prog 65 = true := by kernel_rfl
theorem fk66 : funcOk Tryd.prog 66 = true := by kernel_rfl
theorem fk71 : funcOk Tryd.prog 71 = true := by kernel_rfl
theorem fk83 : funcOk Tryd.prog 83 = true := by kernel_rfl
theorem fk84 : funcOk Tryd.prog 84 = true := by kernel_rfl
theorem fk87 : funcOk Tryd.prog 87 = true := by kernel_rfl
theorem fk92 : funcOk Tryd.prog 92 = true := by kernel_rfl
theorem fk93 : funcOk Tryd.prog 93 = true := by kernel_rfl
theorem fk96 : funcOk Tryd.prog 96 = true := by kernel_rfl
theorem fk118 : funcOk Tryd.prog 118 = true := by kernel_rfl
theorem fk144 : funcOk Tryd.prog 144 = true := by kernel_rfl
theorem fk146 : funcOk Tryd.prog 146 = true := by kernel_rfl
theorem fk147 : funcOk Tryd.prog 147 = true := by kernel_rfl
theorem fk148 : funcOk Tryd.prog 148 = true := by kernel_rfl
theorem fk151 : funcOk Tryd.prog 151 = true := by kernel_rfl
theorem fk152 : funcOk Tryd.prog 152 = true := by kernel_rfl
theorem fk155 : funcOk Tryd.prog 155 = true := by kernel_rfl
theorem fk170 : funcOk Tryd.prog 170 = true := by kernel_rfl
end Go.Proofs.YtmdpggecelheoaaDoor.Abs
