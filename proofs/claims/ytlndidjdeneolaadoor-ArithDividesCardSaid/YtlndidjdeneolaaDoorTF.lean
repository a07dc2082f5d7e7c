/- Facts of the program's types, printed by wip/tools/TG.lean. -/
import Derived.Test.YtlndidjdeneolaaDoorA15
import Derived.Test.YtlndidjdeneolaaDoorProg
import Derived.KernelRfl
set_option linter.unusedVariables false
namespace Go.Proofs.YtlndidjdeneolaaDoor.Abs
open Go
theorem ag3 : isAggT Tryd.prog 3 = false := by kernel_rfl
theorem sz3 : szT Tryd.prog 3 = some 1 := by kernel_rfl
theorem kn3 : knownT Tryd.prog 3 = true := by kernel_rfl
theorem ag9 : isAggT Tryd.prog 9 = false := by kernel_rfl
theorem kn9 : knownT Tryd.prog 9 = true := by kernel_rfl
theorem ag23 : isAggT Tryd.prog 23 = true := by kernel_rfl
theorem sz23 : szT Tryd.prog 23 = some 3 := by kernel_rfl
theorem zt23 : zeroT Tryd.prog 23 = some (.agg #[.int .i64 0, .int .i64 0, .string .empty]) := by kernel_rfl
theorem sd23 : sized Tryd.prog 23 = true := by kernel_rfl
theorem pl23_0 : place Tryd.prog 23 0 = some (0, 1) := by kernel_rfl
theorem pl23_1 : place Tryd.prog 23 1 = some (1, 1) := by kernel_rfl
theorem pl23_2 : place Tryd.prog 23 2 = some (2, 1) := by kernel_rfl
theorem el24 : elemT Tryd.prog 24 = some 5 := by kernel_rfl
theorem if24 : infoT Tryd.prog 5 = some (1, 1) := by kernel_rfl
theorem el62 : elemT Tryd.prog 62 = some 3 := by kernel_rfl
theorem if62 : infoT Tryd.prog 3 = some (1, 8) := by kernel_rfl
theorem zu62 : zeroT Tryd.prog 3 = some (.int .i64 0) := by kernel_rfl
theorem el66 : elemT Tryd.prog 66 = some 23 := by kernel_rfl
theorem if66 : infoT Tryd.prog 23 = some (3, 32) := by kernel_rfl
theorem zu66 : zeroT Tryd.prog 23 = some (.agg #[.int .i64 0, .int .i64 0, .string .empty]) := by kernel_rfl
theorem ld3 (H : Hp) (a : Addr) : aload Tryd.prog 3 (.pointer (some a)) H = cellAt H a := aload_cell ag3 kn3 a
theorem ld9 (H : Hp) (a : Addr) : aload Tryd.prog 9 (.pointer (some a)) H = cellAt H a := aload_cell ag9 kn9 a
theorem ln9 (H : Hp) (s : ByteArray) : alen Tryd.prog 9 (.string s) H = some (.int .i64 s.size) := alen_str Tryd.underlying9 s
theorem ld23 (H : Hp) (a : Addr) : aload Tryd.prog 23 (.pointer (some a)) H = (cellsAt H a 3).map fun c => .agg c.toArray := aload_agg ag23 sz23 a
theorem so23 (H : Hp) (b off : Nat) (x : Value) : astore Tryd.prog 23 (.pointer (some ⟨b, off, none⟩)) x H = match H.get b with | .cells true e c => (if x.cells.size = 3 ∧ isTup x = false ∧ off + 3 ≤ c.length then some (H.put b (.cells true e (setAll c off x.cells.toList))) else none) | _ => none := astore_sz sz23 b off x
theorem al23 (X : Outer) (ops : Array Oper) (dd : Option Tmp) (ty : TypeId) (pos : String) (af : Array Edge) (e : Env) (H : Hp) (K : Value → Hp → Prop) : Step Tryd.prog X ops ⟨dd, .alloc 23, ty, pos, af, none⟩ e H K = K (.pointer (some ⟨H.next, 0, none⟩)) (H.push (.cells true 23 [.int .i64 0, .int .i64 0, .string .empty])) := Step_alloc zt23 rfl
theorem fa23_0 (ρ : Operand → Value) (H : Hp) (x : Operand) : lop Tryd.prog ρ H (.fieldAddr 23 x 0) = match ρ x with | .pointer (some a) => (if a.spot = none then some (.pointer (some ⟨a.block, a.off + 0, none⟩)) else none) | _ => none := lop_fieldAddr x 0 0 1 pl23_0 (by decide)
theorem fa23_1 (ρ : Operand → Value) (H : Hp) (x : Operand) : lop Tryd.prog ρ H (.fieldAddr 23 x 1) = match ρ x with | .pointer (some a) => (if a.spot = none then some (.pointer (some ⟨a.block, a.off + 1, none⟩)) else none) | _ => none := lop_fieldAddr x 1 1 1 pl23_1 (by decide)
theorem fa23_2 (ρ : Operand → Value) (H : Hp) (x : Operand) : lop Tryd.prog ρ H (.fieldAddr 23 x 2) = match ρ x with | .pointer (some a) => (if a.spot = none then some (.pointer (some ⟨a.block, a.off + 2, none⟩)) else none) | _ => none := lop_fieldAddr x 2 2 1 pl23_2 (by decide)
theorem bd23 (ρ : Operand → Value) (H : Hp) (parts : Array (Nat × Operand)) : lop Tryd.prog ρ H (.build 23 parts) = if parts.toList.all (fun p => !isTup (ρ p.2)) then (afill (place Tryd.prog 23) (Value.cells (.agg #[.int .i64 0, .int .i64 0, .string .empty])).toList (parts.toList.map fun p => (p.1, ρ p.2))).map fun cs => .agg cs.toArray else none := lop_build parts _ zt23 sd23 rfl
theorem ix62 (b off n : Nat) (k : IntKind) (j : Int) : aindexAddr Tryd.prog 62 (.slice (some ⟨b, off, none⟩) n 1) (.int k j) = if 0 ≤ j ∧ j < n then some (.pointer (some ⟨b, off + j.toNat * 1, none⟩)) else none := aindexAddr_slice el62 sz3 b off n k j
theorem bs62 (len : Nat) (parts : List (Nat × Value)) (hl : len * 1 ≤ 16777216) : abuild Tryd.prog 62 len parts = if parts.all (fun p => !isTup p.2) then (afill (fun i => some (i * 1, 1)) (List.replicate len (Value.cells (.int .i64 0)).toList).flatten parts).map fun cs => (1, 3, cs) else none := abuild_eq el62 if62 zu62 rfl len parts hl
theorem ln62 (H : Hp) (p : Option Addr) (n c : Nat) : alen Tryd.prog 62 (.slice p n c) H = some (.int .i64 n) := alen_slice el62 p n c
theorem ix66 (b off n : Nat) (k : IntKind) (j : Int) : aindexAddr Tryd.prog 66 (.slice (some ⟨b, off, none⟩) n 3) (.int k j) = if 0 ≤ j ∧ j < n then some (.pointer (some ⟨b, off + j.toNat * 3, none⟩)) else none := aindexAddr_slice el66 sz23 b off n k j
theorem bs66 (len : Nat) (parts : List (Nat × Value)) (hl : len * 3 ≤ 16777216) : abuild Tryd.prog 66 len parts = if parts.all (fun p => !isTup p.2) then (afill (fun i => some (i * 3, 3)) (List.replicate len (Value.cells (.agg #[.int .i64 0, .int .i64 0, .string .empty])).toList).flatten parts).map fun cs => (3, 23, cs) else none := abuild_eq el66 if66 zu66 rfl len parts hl
theorem ln66 (H : Hp) (p : Option Addr) (n c : Nat) : alen Tryd.prog 66 (.slice p n c) H = some (.int .i64 n) := alen_slice el66 p n c
theorem fk14 : funcOk Tryd.prog 14 = true := by kernel_rfl
theorem fk16 : funcOk Tryd.prog 16 = true := by kernel_rfl
theorem fk18 : funcOk Tryd.prog 18 = true := by kernel_rfl
theorem fk21 : funcOk Tryd.prog 21 = true := by kernel_rfl
theorem fk22 : funcOk Tryd.prog 22 = true := by kernel_rfl
theorem fk26 : funcOk Tryd.prog 26 = true := by kernel_rfl
theorem fk27 : funcOk Tryd.prog 27 = true := by kernel_rfl
theorem fk28 : funcOk Tryd.prog 28 = true := by kernel_rfl
theorem fk32 : funcOk Tryd.prog 32 = true := by kernel_rfl
theorem fk33 : funcOk Tryd.prog 33 = true := by kernel_rfl
theorem fk34 : funcOk Tryd.prog 34 = true := by kernel_rfl
theorem fk35 : funcOk Tryd.prog 35 = true := by kernel_rfl
theorem fk36 : funcOk Tryd.prog 36 = true := by kernel_rfl
theorem fk37 : funcOk Tryd.prog 37 = true := by kernel_rfl
theorem fk38 : funcOk Tryd.prog 38 = true := by kernel_rfl
theorem fk39 : funcOk Tryd.prog 39 = true := by kernel_rfl
theorem fk40 : funcOk Tryd.prog 40 = true := by kernel_rfl
theorem fk43 : funcOk Tryd.prog 43 = true := by kernel_rfl
theorem fk44 : funcOk Tryd.prog 44 = true := by kernel_rfl
theorem fk45 : funcOk Tryd.prog 45 = true := by kernel_rfl
end Go.Proofs.YtlndidjdeneolaaDoor.Abs
