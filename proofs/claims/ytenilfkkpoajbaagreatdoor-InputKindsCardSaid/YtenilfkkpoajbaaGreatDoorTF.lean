/- Facts of the program's types, printed by wip/tools/TG.lean. -/
import Derived.Test.YtenilfkkpoajbaaGreatDoorA15
import Derived.Test.YtenilfkkpoajbaaGreatDoorProg
import Derived.KernelRfl
set_option linter.unusedVariables false
namespace Go.Proofs.YtenilfkkpoajbaaGreatDoor.Abs
open Go
theorem el30 : elemT Tryz.prog 30 = some 9 := by kernel_rfl
theorem if30 : infoT Tryz.prog 9 = some (1, 16) := by kernel_rfl
theorem zu30 : zeroT Tryz.prog 9 = some (.string .empty) := by kernel_rfl
theorem el31 : elemT Tryz.prog 31 = some 3 := by kernel_rfl
theorem if31 : infoT Tryz.prog 3 = some (1, 8) := by kernel_rfl
theorem zu31 : zeroT Tryz.prog 3 = some (.int .i64 0) := by kernel_rfl
theorem bs30 (len : Nat) (parts : List (Nat × Value)) (hl : len * 1 ≤ 16777216) : abuild Tryz.prog 30 len parts = if parts.all (fun p => !isTup p.2) then (afill (fun i => some (i * 1, 1)) (List.replicate len (Value.cells (.string .empty)).toList).flatten parts).map fun cs => (1, 9, cs) else none := abuild_eq el30 if30 zu30 rfl len parts hl
theorem ln30 (H : Hp) (p : Option Addr) (n c : Nat) : alen Tryz.prog 30 (.slice p n c) H = some (.int .i64 n) := alen_slice el30 p n c
theorem bs31 (len : Nat) (parts : List (Nat × Value)) (hl : len * 1 ≤ 16777216) : abuild Tryz.prog 31 len parts = if parts.all (fun p => !isTup p.2) then (afill (fun i => some (i * 1, 1)) (List.replicate len (Value.cells (.int .i64 0)).toList).flatten parts).map fun cs => (1, 3, cs) else none := abuild_eq el31 if31 zu31 rfl len parts hl
theorem fk11 : funcOk Tryz.prog 11 = true := by kernel_rfl
end Go.Proofs.YtenilfkkpoajbaaGreatDoor.Abs
