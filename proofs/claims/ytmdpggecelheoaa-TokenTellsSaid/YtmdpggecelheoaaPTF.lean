/- Facts of the program's types, printed by wip/tools/TG.lean. -/
import Derived.Test.YtmdpggecelheoaaPA15
import Derived.Test.YtmdpggecelheoaaProg
import Derived.KernelRfl
set_option linter.unusedVariables false
namespace Go.Proofs.Ytmdpggecelheoaa.Abs
open Go
theorem sz3 : szT Try.prog 3 = some 1 := by kernel_rfl
theorem ag9 : isAggT Try.prog 9 = false := by kernel_rfl
theorem sz9 : szT Try.prog 9 = some 1 := by kernel_rfl
theorem kn9 : knownT Try.prog 9 = true := by kernel_rfl
theorem el23 : elemT Try.prog 23 = some 33 := by kernel_rfl
theorem if23 : infoT Try.prog 33 = some (3, 32) := by kernel_rfl
theorem tk23 : takesT Try.prog 23 = true := by kernel_rfl
theorem zu23 : zeroT Try.prog 33 = some (.agg #[.int .i64 0, .int .i64 0, .string .empty]) := by kernel_rfl
theorem ag33 : isAggT Try.prog 33 = true := by kernel_rfl
theorem sz33 : szT Try.prog 33 = some 3 := by kernel_rfl
theorem zt33 : zeroT Try.prog 33 = some (.agg #[.int .i64 0, .int .i64 0, .string .empty]) := by kernel_rfl
theorem sd33 : sized Try.prog 33 = true := by kernel_rfl
theorem pl33_0 : place Try.prog 33 0 = some (0, 1) := by kernel_rfl
theorem pl33_1 : place Try.prog 33 1 = some (1, 1) := by kernel_rfl
theorem pl33_2 : place Try.prog 33 2 = some (2, 1) := by kernel_rfl
theorem ft33_2 : ftype Try.prog 33 2 = some 9 := by kernel_rfl
theorem ag42 : isAggT Try.prog 42 = false := by kernel_rfl
theorem sz42 : szT Try.prog 42 = some 1 := by kernel_rfl
theorem kn42 : knownT Try.prog 42 = true := by kernel_rfl
theorem el42 : elemT Try.prog 42 = some 5 := by kernel_rfl
theorem if42 : infoT Try.prog 5 = some (1, 1) := by kernel_rfl
theorem tk42 : takesT Try.prog 42 = true := by kernel_rfl
theorem zu42 : zeroT Try.prog 5 = some (.int .u8 0) := by kernel_rfl
theorem zt44 : zeroT Try.prog 44 = some (.agg #[.pointer none, .slice none 0 0]) := by kernel_rfl
theorem pl44_1 : place Try.prog 44 1 = some (1, 1) := by kernel_rfl
theorem ln9 (H : Hp) (s : ByteArray) : alen Try.prog 9 (.string s) H = some (.int .i64 s.size) := alen_str Try.underlying9 s
theorem ix9 (s : ByteArray) (k : IntKind) (j : Int) : aindex Try.prog 9 (.string s) (.int k j) = if 0 ≤ j then (s[j.toNat]?).map fun b => .int .u8 b.toNat else none := aindex_str Try.underlying9 s k j
theorem bd33 (ρ : Operand → Value) (H : Hp) (parts : Array (Nat × Operand)) : lop Try.prog ρ H (.build 33 parts) = if parts.toList.all (fun p => !isTup (ρ p.2)) then (afill (place Try.prog 33) (Value.cells (.agg #[.int .i64 0, .int .i64 0, .string .empty])).toList (parts.toList.map fun p => (p.1, ρ p.2))).map fun cs => .agg cs.toArray else none := lop_build parts _ zt33 sd33 rfl
theorem ld42 (H : Hp) (a : Addr) : aload Try.prog 42 (.pointer (some a)) H = cellAt H a := aload_cell ag42 kn42 a
theorem so42 (H : Hp) (b off : Nat) (x : Value) : astore Try.prog 42 (.pointer (some ⟨b, off, none⟩)) x H = match H.get b with | .cells true e c => (if x.cells.size = 1 ∧ isTup x = false ∧ off + 1 ≤ c.length then some (H.put b (.cells true e (setAll c off x.cells.toList))) else none) | _ => none := astore_sz sz42 b off x
theorem gr42 (H : Hp) (s x : Value) : aappend Try.prog 42 42 s x H = (acells 1 x (alenOf x) H).bind fun new => agrow2 5 1 1 s (alenOf x) new H := aappend_eq el42 if42 tk42 s x
theorem bs42 (len : Nat) (parts : List (Nat × Value)) (hl : len * 1 ≤ 16777216) : abuild Try.prog 42 len parts = if parts.all (fun p => !isTup p.2) then (afill (fun i => some (i * 1, 1)) (List.replicate len (Value.cells (.int .u8 0)).toList).flatten parts).map fun cs => (1, 5, cs) else none := abuild_eq el42 if42 zu42 rfl len parts hl
theorem ln42 (H : Hp) (p : Option Addr) (n c : Nat) : alen Try.prog 42 (.slice p n c) H = some (.int .i64 n) := alen_slice el42 p n c
theorem al44 (X : Outer) (ops : Array Oper) (dd : Option Tmp) (ty : TypeId) (pos : String) (af : Array Edge) (e : Env) (H : Hp) (K : Value → Hp → Prop) : Step Try.prog X ops ⟨dd, .alloc 44, ty, pos, af, none⟩ e H K = K (.pointer (some ⟨H.next, 0, none⟩)) (H.push (.cells true (bxT 44) [.pointer none, .slice none 0 0])) := Step_alloc zt44 rfl
theorem fa44_1 (ρ : Operand → Value) (H : Hp) (x : Operand) : lop Try.prog ρ H (.fieldAddr 44 x 1) = match ρ x with | .pointer (some a) => (if a.spot = none then some (.pointer (some ⟨a.block, a.off + 1, none⟩)) else none) | _ => none := lop_fieldAddr x 1 1 1 pl44_1 (by decide)
theorem fk4 : funcOk Try.prog 4 = true := by kernel_rfl
theorem fk5 : funcOk Try.prog 5 = true := by kernel_rfl
theorem fk6 : funcOk Try.prog 6 = true := by kernel_rfl
theorem fk7 : funcOk Try.prog 7 = true := by kernel_rfl
theorem fk8 : funcOk Try.prog 8 = true := by kernel_rfl
theorem fk9 : funcOk Try.prog 9 = true := by kernel_rfl
theorem fk10 : funcOk Try.prog 10 = true := by kernel_rfl
theorem fk11 : funcOk Try.prog 11 = true := by kernel_rfl
theorem fk12 : funcOk Try.prog 12 = true := by kernel_rfl
theorem fk13 : funcOk Try.prog 13 = true := by kernel_rfl
theorem fk14 : funcOk Try.prog 14 = true := by kernel_rfl
theorem fk15 : funcOk Try.prog 15 = true := by kernel_rfl
theorem fk16 : funcOk Try.prog 16 = true := by kernel_rfl
theorem fk17 : funcOk Try.prog 17 = true := by kernel_rfl
theorem fk19 : funcOk Try.prog 19 = true := by kernel_rfl
theorem fk21 : funcOk Try.prog 21 = true := by kernel_rfl
theorem fk22 : funcOk Try.prog 22 = true := by kernel_rfl
theorem fk23 : funcOk Try.prog 23 = true := by kernel_rfl
theorem fk24 : funcOk Try.prog 24 = true := by kernel_rfl
theorem fk25 : funcOk Try.prog 25 = true := by kernel_rfl
theorem fk26 : funcOk Try.prog 26 = true := by kernel_rfl
end Go.Proofs.Ytmdpggecelheoaa.Abs
