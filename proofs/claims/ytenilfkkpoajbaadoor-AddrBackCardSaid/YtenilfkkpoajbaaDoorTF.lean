/- Facts of the program's types, printed by wip/tools/TG.lean. -/
import Derived.Test.YtenilfkkpoajbaaDoorA15
import Derived.Test.YtenilfkkpoajbaaDoorProg
import Derived.KernelRfl
set_option linter.unusedVariables false
namespace Go.Proofs.YtenilfkkpoajbaaDoor.Abs
open Go
theorem ag3 : isAggT Tryd.prog 3 = false := by kernel_rfl
theorem sz3 : szT Tryd.prog 3 = some 1 := by kernel_rfl
theorem kn3 : knownT Tryd.prog 3 = true := by kernel_rfl
theorem ag9 : isAggT Tryd.prog 9 = false := by kernel_rfl
theorem sz9 : szT Tryd.prog 9 = some 1 := by kernel_rfl
theorem kn9 : knownT Tryd.prog 9 = true := by kernel_rfl
theorem ag23 : isAggT Tryd.prog 23 = true := by kernel_rfl
theorem sz23 : szT Tryd.prog 23 = some 3 := by kernel_rfl
theorem zt23 : zeroT Tryd.prog 23 = some (.agg #[.int .i64 0, .int .i64 0, .string .empty]) := by kernel_rfl
theorem sd23 : sized Tryd.prog 23 = true := by kernel_rfl
theorem pl23_0 : place Tryd.prog 23 0 = some (0, 1) := by kernel_rfl
theorem pl23_1 : place Tryd.prog 23 1 = some (1, 1) := by kernel_rfl
theorem pl23_2 : place Tryd.prog 23 2 = some (2, 1) := by kernel_rfl
theorem ag31 : isAggT Tryd.prog 31 = true := by kernel_rfl
theorem sz31 : szT Tryd.prog 31 = some 3 := by kernel_rfl
theorem zt31 : zeroT Tryd.prog 31 = some (.agg #[.string .empty, .int .i64 0, .int .i64 0]) := by kernel_rfl
theorem sd31 : sized Tryd.prog 31 = true := by kernel_rfl
theorem pl31_0 : place Tryd.prog 31 0 = some (0, 1) := by kernel_rfl
theorem pl31_1 : place Tryd.prog 31 1 = some (1, 1) := by kernel_rfl
theorem pl31_2 : place Tryd.prog 31 2 = some (2, 1) := by kernel_rfl
theorem el37 : elemT Tryd.prog 37 = some 5 := by kernel_rfl
theorem if37 : infoT Tryd.prog 5 = some (1, 1) := by kernel_rfl
theorem zu37 : zeroT Tryd.prog 5 = some (.int .u8 0) := by kernel_rfl
theorem el51 : elemT Tryd.prog 51 = some 9 := by kernel_rfl
theorem if51 : infoT Tryd.prog 9 = some (1, 16) := by kernel_rfl
theorem zu51 : zeroT Tryd.prog 9 = some (.string .empty) := by kernel_rfl
theorem el52 : elemT Tryd.prog 52 = some 3 := by kernel_rfl
theorem if52 : infoT Tryd.prog 3 = some (1, 8) := by kernel_rfl
theorem zu52 : zeroT Tryd.prog 3 = some (.int .i64 0) := by kernel_rfl
theorem ld3 (H : Hp) (a : Addr) : aload Tryd.prog 3 (.pointer (some a)) H = cellAt H a := aload_cell ag3 kn3 a
theorem so3 (H : Hp) (b off : Nat) (x : Value) : astore Tryd.prog 3 (.pointer (some ⟨b, off, none⟩)) x H = match H.get b with | .cells true e c => (if x.cells.size = 1 ∧ isTup x = false ∧ off + 1 ≤ c.length then some (H.put b (.cells true e (setAll c off x.cells.toList))) else none) | _ => none := astore_sz sz3 b off x
theorem ld9 (H : Hp) (a : Addr) : aload Tryd.prog 9 (.pointer (some a)) H = cellAt H a := aload_cell ag9 kn9 a
theorem ln9 (H : Hp) (s : ByteArray) : alen Tryd.prog 9 (.string s) H = some (.int .i64 s.size) := alen_str Tryd.underlying9 s
theorem sl9 (s : ByteArray) (lo hi : Option Value) : aslice Tryd.prog 9 (.string s) lo hi none = (abound hi s.size).bind fun h => (abound lo 0).bind fun l => if 0 ≤ l ∧ l ≤ h ∧ h ≤ s.size then some (.string (s.extract l.toNat h.toNat)) else none := aslice_str Tryd.underlying9 s lo hi
theorem ix9 (s : ByteArray) (k : IntKind) (j : Int) : aindex Tryd.prog 9 (.string s) (.int k j) = if 0 ≤ j then (s[j.toNat]?).map fun b => .int .u8 b.toNat else none := aindex_str Tryd.underlying9 s k j
theorem ld23 (H : Hp) (a : Addr) : aload Tryd.prog 23 (.pointer (some a)) H = (cellsAt H a 3).map fun c => .agg c.toArray := aload_agg ag23 sz23 a
theorem so23 (H : Hp) (b off : Nat) (x : Value) : astore Tryd.prog 23 (.pointer (some ⟨b, off, none⟩)) x H = match H.get b with | .cells true e c => (if x.cells.size = 3 ∧ isTup x = false ∧ off + 3 ≤ c.length then some (H.put b (.cells true e (setAll c off x.cells.toList))) else none) | _ => none := astore_sz sz23 b off x
theorem al23 (X : Outer) (ops : Array Oper) (dd : Option Tmp) (ty : TypeId) (pos : String) (af : Array Edge) (e : Env) (H : Hp) (K : Value → Hp → Prop) : Step Tryd.prog X ops ⟨dd, .alloc 23, ty, pos, af, none⟩ e H K = K (.pointer (some ⟨H.next, 0, none⟩)) (H.push (.cells true 23 [.int .i64 0, .int .i64 0, .string .empty])) := Step_alloc zt23 rfl
theorem fa23_0 (ρ : Operand → Value) (H : Hp) (x : Operand) : lop Tryd.prog ρ H (.fieldAddr 23 x 0) = match ρ x with | .pointer (some a) => (if a.spot = none then some (.pointer (some ⟨a.block, a.off + 0, none⟩)) else none) | _ => none := lop_fieldAddr x 0 0 1 pl23_0 (by decide)
theorem fa23_1 (ρ : Operand → Value) (H : Hp) (x : Operand) : lop Tryd.prog ρ H (.fieldAddr 23 x 1) = match ρ x with | .pointer (some a) => (if a.spot = none then some (.pointer (some ⟨a.block, a.off + 1, none⟩)) else none) | _ => none := lop_fieldAddr x 1 1 1 pl23_1 (by decide)
theorem fa23_2 (ρ : Operand → Value) (H : Hp) (x : Operand) : lop Tryd.prog ρ H (.fieldAddr 23 x 2) = match ρ x with | .pointer (some a) => (if a.spot = none then some (.pointer (some ⟨a.block, a.off + 2, none⟩)) else none) | _ => none := lop_fieldAddr x 2 2 1 pl23_2 (by decide)
theorem bd23 (ρ : Operand → Value) (H : Hp) (parts : Array (Nat × Operand)) : lop Tryd.prog ρ H (.build 23 parts) = if parts.toList.all (fun p => !isTup (ρ p.2)) then (afill (place Tryd.prog 23) (Value.cells (.agg #[.int .i64 0, .int .i64 0, .string .empty])).toList (parts.toList.map fun p => (p.1, ρ p.2))).map fun cs => .agg cs.toArray else none := lop_build parts _ zt23 sd23 rfl
theorem ld31 (H : Hp) (a : Addr) : aload Tryd.prog 31 (.pointer (some a)) H = (cellsAt H a 3).map fun c => .agg c.toArray := aload_agg ag31 sz31 a
theorem so31 (H : Hp) (b off : Nat) (x : Value) : astore Tryd.prog 31 (.pointer (some ⟨b, off, none⟩)) x H = match H.get b with | .cells true e c => (if x.cells.size = 3 ∧ isTup x = false ∧ off + 3 ≤ c.length then some (H.put b (.cells true e (setAll c off x.cells.toList))) else none) | _ => none := astore_sz sz31 b off x
theorem al31 (X : Outer) (ops : Array Oper) (dd : Option Tmp) (ty : TypeId) (pos : String) (af : Array Edge) (e : Env) (H : Hp) (K : Value → Hp → Prop) : Step Tryd.prog X ops ⟨dd, .alloc 31, ty, pos, af, none⟩ e H K = K (.pointer (some ⟨H.next, 0, none⟩)) (H.push (.cells true 31 [.string .empty, .int .i64 0, .int .i64 0])) := Step_alloc zt31 rfl
theorem fa31_0 (ρ : Operand → Value) (H : Hp) (x : Operand) : lop Tryd.prog ρ H (.fieldAddr 31 x 0) = match ρ x with | .pointer (some a) => (if a.spot = none then some (.pointer (some ⟨a.block, a.off + 0, none⟩)) else none) | _ => none := lop_fieldAddr x 0 0 1 pl31_0 (by decide)
theorem fa31_1 (ρ : Operand → Value) (H : Hp) (x : Operand) : lop Tryd.prog ρ H (.fieldAddr 31 x 1) = match ρ x with | .pointer (some a) => (if a.spot = none then some (.pointer (some ⟨a.block, a.off + 1, none⟩)) else none) | _ => none := lop_fieldAddr x 1 1 1 pl31_1 (by decide)
theorem fa31_2 (ρ : Operand → Value) (H : Hp) (x : Operand) : lop Tryd.prog ρ H (.fieldAddr 31 x 2) = match ρ x with | .pointer (some a) => (if a.spot = none then some (.pointer (some ⟨a.block, a.off + 2, none⟩)) else none) | _ => none := lop_fieldAddr x 2 2 1 pl31_2 (by decide)
theorem bd31 (ρ : Operand → Value) (H : Hp) (parts : Array (Nat × Operand)) : lop Tryd.prog ρ H (.build 31 parts) = if parts.toList.all (fun p => !isTup (ρ p.2)) then (afill (place Tryd.prog 31) (Value.cells (.agg #[.string .empty, .int .i64 0, .int .i64 0])).toList (parts.toList.map fun p => (p.1, ρ p.2))).map fun cs => .agg cs.toArray else none := lop_build parts _ zt31 sd31 rfl
theorem bs37 (len : Nat) (parts : List (Nat × Value)) (hl : len * 1 ≤ 16777216) : abuild Tryd.prog 37 len parts = if parts.all (fun p => !isTup p.2) then (afill (fun i => some (i * 1, 1)) (List.replicate len (Value.cells (.int .u8 0)).toList).flatten parts).map fun cs => (1, 5, cs) else none := abuild_eq el37 if37 zu37 rfl len parts hl
theorem ix51 (b off n : Nat) (k : IntKind) (j : Int) : aindexAddr Tryd.prog 51 (.slice (some ⟨b, off, none⟩) n 1) (.int k j) = if 0 ≤ j ∧ j < n then some (.pointer (some ⟨b, off + j.toNat * 1, none⟩)) else none := aindexAddr_slice el51 sz9 b off n k j
theorem bs51 (len : Nat) (parts : List (Nat × Value)) (hl : len * 1 ≤ 16777216) : abuild Tryd.prog 51 len parts = if parts.all (fun p => !isTup p.2) then (afill (fun i => some (i * 1, 1)) (List.replicate len (Value.cells (.string .empty)).toList).flatten parts).map fun cs => (1, 9, cs) else none := abuild_eq el51 if51 zu51 rfl len parts hl
theorem ix52 (b off n : Nat) (k : IntKind) (j : Int) : aindexAddr Tryd.prog 52 (.slice (some ⟨b, off, none⟩) n 1) (.int k j) = if 0 ≤ j ∧ j < n then some (.pointer (some ⟨b, off + j.toNat * 1, none⟩)) else none := aindexAddr_slice el52 sz3 b off n k j
theorem bs52 (len : Nat) (parts : List (Nat × Value)) (hl : len * 1 ≤ 16777216) : abuild Tryd.prog 52 len parts = if parts.all (fun p => !isTup p.2) then (afill (fun i => some (i * 1, 1)) (List.replicate len (Value.cells (.int .i64 0)).toList).flatten parts).map fun cs => (1, 3, cs) else none := abuild_eq el52 if52 zu52 rfl len parts hl
theorem ln52 (H : Hp) (p : Option Addr) (n c : Nat) : alen Tryd.prog 52 (.slice p n c) H = some (.int .i64 n) := alen_slice el52 p n c
theorem fk20 : funcOk Tryd.prog 20 = true := by kernel_rfl
theorem fk21 : funcOk Tryd.prog 21 = true := by kernel_rfl
theorem fk22 : funcOk Tryd.prog 22 = true := by kernel_rfl
theorem fk23 : funcOk Tryd.prog 23 = true := by kernel_rfl
theorem fk27 : funcOk Tryd.prog 27 = true := by kernel_rfl
theorem fk28 : funcOk Tryd.prog 28 = true := by kernel_rfl
theorem fk29 : funcOk Tryd.prog 29 = true := by kernel_rfl
theorem fk45 : funcOk Tryd.prog 45 = true := by kernel_rfl
theorem fk46 : funcOk Tryd.prog 46 = true := by kernel_rfl
theorem fk47 : funcOk Tryd.prog 47 = true := by kernel_rfl
theorem fk60 : funcOk Tryd.prog 60 = true := by kernel_rfl
theorem fk62 : funcOk Tryd.prog 62 = true := by kernel_rfl
theorem fk63 : funcOk Tryd.prog 63 = true := by kernel_rfl
theorem fk64 : funcOk Tryd.prog 64 = true := by kernel_rfl
theorem fk66 : funcOk Tryd.prog 66 = true := by kernel_rfl
theorem fk67 : funcOk Tryd.prog 67 = true := by kernel_rfl
theorem fk68 : funcOk Tryd.prog 68 = true := by kernel_rfl
theorem fk80 : funcOk Tryd.prog 80 = true := by kernel_rfl
theorem fk81 : funcOk Tryd.prog 81 = true := by kernel_rfl
theorem fk85 : funcOk Tryd.prog 85 = true := by kernel_rfl
theorem fk86 : funcOk Tryd.prog 86 = true := by kernel_rfl
theorem fk87 : funcOk Tryd.prog 87 = true := by kernel_rfl
theorem fk89 : funcOk Tryd.prog 89 = true := by kernel_rfl
theorem fk90 : funcOk Tryd.prog 90 = true := by kernel_rfl
theorem fk91 : funcOk Tryd.prog 91 = true := by kernel_rfl
theorem fk104 : funcOk Tryd.prog 104 = true := by kernel_rfl
theorem fk105 : funcOk Tryd.prog 105 = true := by kernel_rfl
theorem fk108 : funcOk Tryd.prog 108 = true := by kernel_rfl
theorem fk109 : funcOk Tryd.prog 109 = true := by kernel_rfl
theorem fk156 : funcOk Tryd.prog 156 = true := by kernel_rfl
end Go.Proofs.YtenilfkkpoajbaaDoor.Abs
