/- Facts of the program's types, printed by wip/tools/TG.lean. -/
import Derived.Test.YtmdpggecelheoaaDoorPA15
import Derived.Test.YtmdpggecelheoaaDoorProg
import Derived.KernelRfl
set_option linter.unusedVariables false
namespace Go.Proofs.YtmdpggecelheoaaDoor.Abs
open Go
theorem ag3 : isAggT Tryd.prog 3 = false := by kernel_rfl
theorem sz3 : szT Tryd.prog 3 = some 1 := by kernel_rfl
theorem kn3 : knownT Tryd.prog 3 = true := by kernel_rfl
theorem ag9 : isAggT Tryd.prog 9 = false := by kernel_rfl
theorem kn9 : knownT Tryd.prog 9 = true := by kernel_rfl
theorem ag23 : isAggT Tryd.prog 23 = true := by kernel_rfl
theorem sz23 : szT Tryd.prog 23 = some 3 := by kernel_rfl
theorem zt23 : zeroT Tryd.prog 23 = some (.agg #[.string .empty, .int .i64 0, .int .i64 0]) := by kernel_rfl
theorem sd23 : sized Tryd.prog 23 = true := by kernel_rfl
theorem pl23_0 : place Tryd.prog 23 0 = some (0, 1) := by kernel_rfl
theorem pl23_1 : place Tryd.prog 23 1 = some (1, 1) := by kernel_rfl
theorem pl23_2 : place Tryd.prog 23 2 = some (2, 1) := by kernel_rfl
theorem ag26 : isAggT Tryd.prog 26 = true := by kernel_rfl
theorem sz26 : szT Tryd.prog 26 = some 6 := by kernel_rfl
theorem zt26 : zeroT Tryd.prog 26 = some (.agg #[.string .empty, .int .i64 0, .int .i64 0, .string .empty, .int .i64 0, .int .i64 0]) := by kernel_rfl
theorem sd26 : sized Tryd.prog 26 = true := by kernel_rfl
theorem pl26_0 : place Tryd.prog 26 0 = some (0, 3) := by kernel_rfl
theorem pl26_1 : place Tryd.prog 26 1 = some (3, 3) := by kernel_rfl
theorem el35 : elemT Tryd.prog 35 = some 23 := by kernel_rfl
theorem if35 : infoT Tryd.prog 23 = some (3, 32) := by kernel_rfl
theorem tk35 : takesT Tryd.prog 35 = true := by kernel_rfl
theorem zu35 : zeroT Tryd.prog 23 = some (.agg #[.string .empty, .int .i64 0, .int .i64 0]) := by kernel_rfl
theorem ag42 : isAggT Tryd.prog 42 = false := by kernel_rfl
theorem sz42 : szT Tryd.prog 42 = some 1 := by kernel_rfl
theorem kn42 : knownT Tryd.prog 42 = true := by kernel_rfl
theorem el42 : elemT Tryd.prog 42 = some 48 := by kernel_rfl
theorem el43 : elemT Tryd.prog 43 = some 3 := by kernel_rfl
theorem if43 : infoT Tryd.prog 3 = some (1, 8) := by kernel_rfl
theorem tk43 : takesT Tryd.prog 43 = true := by kernel_rfl
theorem zu43 : zeroT Tryd.prog 3 = some (.int .i64 0) := by kernel_rfl
theorem el46 : elemT Tryd.prog 46 = some 42 := by kernel_rfl
theorem ag48 : isAggT Tryd.prog 48 = true := by kernel_rfl
theorem sz48 : szT Tryd.prog 48 = some 3 := by kernel_rfl
theorem zt48 : zeroT Tryd.prog 48 = some (.agg #[.int .i64 0, .int .i64 0, .string .empty]) := by kernel_rfl
theorem sd48 : sized Tryd.prog 48 = true := by kernel_rfl
theorem pl48_0 : place Tryd.prog 48 0 = some (0, 1) := by kernel_rfl
theorem pl48_1 : place Tryd.prog 48 1 = some (1, 1) := by kernel_rfl
theorem pl48_2 : place Tryd.prog 48 2 = some (2, 1) := by kernel_rfl
theorem ix9 (s : ByteArray) (k : IntKind) (j : Int) : aindex Tryd.prog 9 (.string s) (.int k j) = if 0 ≤ j then (s[j.toNat]?).map fun b => .int .u8 b.toNat else none := aindex_str Tryd.underlying9 s k j
theorem bd23 (ρ : Operand → Value) (H : Hp) (parts : Array (Nat × Operand)) : lop Tryd.prog ρ H (.build 23 parts) = if parts.toList.all (fun p => !isTup (ρ p.2)) then (afill (place Tryd.prog 23) (Value.cells (.agg #[.string .empty, .int .i64 0, .int .i64 0])).toList (parts.toList.map fun p => (p.1, ρ p.2))).map fun cs => .agg cs.toArray else none := lop_build parts _ zt23 sd23 rfl
theorem bd26 (ρ : Operand → Value) (H : Hp) (parts : Array (Nat × Operand)) : lop Tryd.prog ρ H (.build 26 parts) = if parts.toList.all (fun p => !isTup (ρ p.2)) then (afill (place Tryd.prog 26) (Value.cells (.agg #[.string .empty, .int .i64 0, .int .i64 0, .string .empty, .int .i64 0, .int .i64 0])).toList (parts.toList.map fun p => (p.1, ρ p.2))).map fun cs => .agg cs.toArray else none := lop_build parts _ zt26 sd26 rfl
theorem bd48 (ρ : Operand → Value) (H : Hp) (parts : Array (Nat × Operand)) : lop Tryd.prog ρ H (.build 48 parts) = if parts.toList.all (fun p => !isTup (ρ p.2)) then (afill (place Tryd.prog 48) (Value.cells (.agg #[.int .i64 0, .int .i64 0, .string .empty])).toList (parts.toList.map fun p => (p.1, ρ p.2))).map fun cs => .agg cs.toArray else none := lop_build parts _ zt48 sd48 rfl
theorem fk12 : funcOk Tryd.prog 12 = true := by kernel_rfl
theorem fk13 : funcOk Tryd.prog 13 = true := by kernel_rfl
theorem fk14 : funcOk Tryd.prog 14 = true := by kernel_rfl
theorem fk15 : funcOk Tryd.prog 15 = true := by kernel_rfl
theorem fk16 : funcOk Tryd.prog 16 = true := by kernel_rfl
theorem fk17 : funcOk Tryd.prog 17 = true := by kernel_rfl
theorem fk18 : funcOk Tryd.prog 18 = true := by kernel_rfl
theorem fk19 : funcOk Tryd.prog 19 = true := by kernel_rfl
theorem fk20 : funcOk Tryd.prog 20 = true := by kernel_rfl
theorem fk21 : funcOk Tryd.prog 21 = true := by kernel_rfl
theorem fk22 : funcOk Tryd.prog 22 = true := by kernel_rfl
theorem fk23 : funcOk Tryd.prog 23 = true := by kernel_rfl
theorem fk24 : funcOk Tryd.prog 24 = true := by kernel_rfl
theorem fk25 : funcOk Tryd.prog 25 = true := by kernel_rfl
theorem fk26 : funcOk Tryd.prog 26 = true := by kernel_rfl
theorem fk27 : funcOk Tryd.prog 27 = true := by kernel_rfl
theorem fk28 : funcOk Tryd.prog 28 = true := by kernel_rfl
theorem fk29 : funcOk Tryd.prog 29 = true := by kernel_rfl
theorem fk39 : funcOk Tryd.prog 39 = true := by kernel_rfl
theorem fk40 : funcOk Tryd.prog 40 = true := by kernel_rfl
theorem fk41 : funcOk Tryd.prog 41 = true := by kernel_rfl
theorem fk42 : funcOk Tryd.prog 42 = true := by kernel_rfl
theorem fk43 : funcOk Tryd.prog 43 = true := by kernel_rfl
theorem fk44 : funcOk Tryd.prog 44 = true := by kernel_rfl
theorem fk45 : funcOk Tryd.prog 45 = true := by kernel_rfl
theorem fk46 : funcOk Tryd.prog 46 = true := by kernel_rfl
theorem fk47 : funcOk Tryd.prog 47 = true := by kernel_rfl
theorem fk48 : funcOk Tryd.prog 48 = true := by kernel_rfl
theorem fk51 : funcOk Tryd.prog 51 = true := by kernel_rfl
theorem fk53 : funcOk Tryd.prog 53 = true := by kernel_rfl
theorem fk60 : funcOk Tryd.prog 60 = true := by kernel_rfl
theorem fk61 : funcOk Tryd.prog 61 = true := by kernel_rfl
theorem fk62 : funcOk Tryd.prog 62 = true := by kernel_rfl
theorem fk63 : funcOk Tryd.prog 63 = true := by kernel_rfl
theorem fk64 : funcOk Tryd.prog 64 = true := by kernel_rfl
theorem fk65 : funcOk Tryd.prog 65 = true := by kernel_rfl
theorem fk66 : funcOk Tryd.prog 66 = true := by kernel_rfl
theorem fk82 : funcOk Tryd.prog 82 = true := by kernel_rfl
theorem fk83 : funcOk Tryd.prog 83 = true := by kernel_rfl
theorem fk84 : funcOk Tryd.prog 84 = true := by kernel_rfl
theorem fk146 : funcOk Tryd.prog 146 = true := by kernel_rfl
end Go.Proofs.YtmdpggecelheoaaDoor.Abs
