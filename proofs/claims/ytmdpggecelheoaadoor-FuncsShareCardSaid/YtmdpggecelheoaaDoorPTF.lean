/- Facts of the program's types, printed by wip/tools/TG.lean. -/
import Derived.Test.YtmdpggecelheoaaDoorPA15
import Derived.Test.YtmdpggecelheoaaDoorProg
import Derived.KernelRfl
set_option linter.unusedVariables false
namespace Go.Proofs.YtmdpggecelheoaaDoor.Abs
open Go
theorem ag3 : isAggT Tryd.prog 3 = false := by kernel_rfl
theorem sz3 : szT Tryd.prog 3 = some 1 := by kernel_rfl
theorem kn3 : knownT Tryd.prog 3 = true := by kernel_rfl
theorem ag4 : isAggT Tryd.prog 4 = false := by kernel_rfl
theorem kn4 : knownT Tryd.prog 4 = true := by kernel_rfl
theorem ag9 : isAggT Tryd.prog 9 = false := by kernel_rfl
theorem sz9 : szT Tryd.prog 9 = some 1 := by kernel_rfl
theorem kn9 : knownT Tryd.prog 9 = true := by kernel_rfl
theorem ag42 : isAggT Tryd.prog 42 = false := by kernel_rfl
theorem sz42 : szT Tryd.prog 42 = some 1 := by kernel_rfl
theorem kn42 : knownT Tryd.prog 42 = true := by kernel_rfl
theorem el42 : elemT Tryd.prog 42 = some 48 := by kernel_rfl
theorem if42 : infoT Tryd.prog 48 = some (3, 32) := by kernel_rfl
theorem tk42 : takesT Tryd.prog 42 = true := by kernel_rfl
theorem zu42 : zeroT Tryd.prog 48 = some (.agg #[.int .i64 0, .int .i64 0, .string .empty]) := by kernel_rfl
theorem el43 : elemT Tryd.prog 43 = some 3 := by kernel_rfl
theorem if43 : infoT Tryd.prog 3 = some (1, 8) := by kernel_rfl
theorem tk43 : takesT Tryd.prog 43 = true := by kernel_rfl
theorem zu43 : zeroT Tryd.prog 3 = some (.int .i64 0) := by kernel_rfl
theorem el44 : elemT Tryd.prog 44 = some 9 := by kernel_rfl
theorem if44 : infoT Tryd.prog 9 = some (1, 16) := by kernel_rfl
theorem zu44 : zeroT Tryd.prog 9 = some (.string .empty) := by kernel_rfl
theorem el46 : elemT Tryd.prog 46 = some 42 := by kernel_rfl
theorem if46 : infoT Tryd.prog 42 = some (1, 24) := by kernel_rfl
theorem tk46 : takesT Tryd.prog 46 = true := by kernel_rfl
theorem zu46 : zeroT Tryd.prog 42 = some (.slice none 0 0) := by kernel_rfl
theorem ag48 : isAggT Tryd.prog 48 = true := by kernel_rfl
theorem sz48 : szT Tryd.prog 48 = some 3 := by kernel_rfl
theorem zt48 : zeroT Tryd.prog 48 = some (.agg #[.int .i64 0, .int .i64 0, .string .empty]) := by kernel_rfl
theorem sd48 : sized Tryd.prog 48 = true := by kernel_rfl
theorem pl48_0 : place Tryd.prog 48 0 = some (0, 1) := by kernel_rfl
theorem ft48_0 : ftype Tryd.prog 48 0 = some 3 := by kernel_rfl
theorem pl48_1 : place Tryd.prog 48 1 = some (1, 1) := by kernel_rfl
theorem pl48_2 : place Tryd.prog 48 2 = some (2, 1) := by kernel_rfl
theorem ft48_2 : ftype Tryd.prog 48 2 = some 9 := by kernel_rfl
theorem ag73 : isAggT Tryd.prog 73 = false := by kernel_rfl
theorem kn73 : knownT Tryd.prog 73 = true := by kernel_rfl
theorem ag75 : isAggT Tryd.prog 75 = true := by kernel_rfl
theorem sz75 : szT Tryd.prog 75 = some 3 := by kernel_rfl
theorem zt75 : zeroT Tryd.prog 75 = some (.agg #[.int .i64 0, .bool false, .nilFunc]) := by kernel_rfl
theorem pl75_0 : place Tryd.prog 75 0 = some (0, 1) := by kernel_rfl
theorem pl75_1 : place Tryd.prog 75 1 = some (1, 1) := by kernel_rfl
theorem pl75_2 : place Tryd.prog 75 2 = some (2, 1) := by kernel_rfl
theorem ag129 : isAggT Tryd.prog 129 = false := by kernel_rfl
theorem sz129 : szT Tryd.prog 129 = some 1 := by kernel_rfl
theorem kn129 : knownT Tryd.prog 129 = true := by kernel_rfl
theorem el129 : elemT Tryd.prog 129 = some 5 := by kernel_rfl
theorem if129 : infoT Tryd.prog 5 = some (1, 1) := by kernel_rfl
theorem tk129 : takesT Tryd.prog 129 = true := by kernel_rfl
theorem zu129 : zeroT Tryd.prog 5 = some (.int .u8 0) := by kernel_rfl
theorem zt145 : zeroT Tryd.prog 145 = some (.agg #[.pointer none, .slice none 0 0]) := by kernel_rfl
theorem pl145_1 : place Tryd.prog 145 1 = some (1, 1) := by kernel_rfl
theorem ln9 (H : Hp) (s : ByteArray) : alen Tryd.prog 9 (.string s) H = some (.int .i64 s.size) := alen_str Tryd.underlying9 s
theorem ix42 (b off n : Nat) (k : IntKind) (j : Int) : aindexAddr Tryd.prog 42 (.slice (some ⟨b, off, none⟩) n 3) (.int k j) = if 0 ≤ j ∧ j < n then some (.pointer (some ⟨b, off + j.toNat * 3, none⟩)) else none := aindexAddr_slice el42 sz48 b off n k j
theorem ln42 (H : Hp) (p : Option Addr) (n c : Nat) : alen Tryd.prog 42 (.slice p n c) H = some (.int .i64 n) := alen_slice el42 p n c
theorem ld48 (H : Hp) (a : Addr) : aload Tryd.prog 48 (.pointer (some a)) H = (cellsAt H a 3).map fun c => .agg c.toArray := aload_agg ag48 sz48 a
theorem so48 (H : Hp) (b off : Nat) (x : Value) : astore Tryd.prog 48 (.pointer (some ⟨b, off, none⟩)) x H = match H.get b with | .cells true e c => (if x.cells.size = 3 ∧ isTup x = false ∧ off + 3 ≤ c.length then some (H.put b (.cells true e (setAll c off x.cells.toList))) else none) | _ => none := astore_sz sz48 b off x
theorem al48 (X : Outer) (ops : Array Oper) (dd : Option Tmp) (ty : TypeId) (pos : String) (af : Array Edge) (e : Env) (H : Hp) (K : Value → Hp → Prop) : Step Tryd.prog X ops ⟨dd, .alloc 48, ty, pos, af, none⟩ e H K = K (.pointer (some ⟨H.next, 0, none⟩)) (H.push (.cells true (bxT 48) [.int .i64 0, .int .i64 0, .string .empty])) := Step_alloc zt48 rfl
theorem bd48 (ρ : Operand → Value) (H : Hp) (parts : Array (Nat × Operand)) : lop Tryd.prog ρ H (.build 48 parts) = if parts.toList.all (fun p => !isTup (ρ p.2)) then (afill (place Tryd.prog 48) (Value.cells (.agg #[.int .i64 0, .int .i64 0, .string .empty])).toList (parts.toList.map fun p => (p.1, ρ p.2))).map fun cs => .agg cs.toArray else none := lop_build parts _ zt48 sd48 rfl
theorem ld129 (H : Hp) (a : Addr) : aload Tryd.prog 129 (.pointer (some a)) H = cellAt H a := aload_cell ag129 kn129 a
theorem so129 (H : Hp) (b off : Nat) (x : Value) : astore Tryd.prog 129 (.pointer (some ⟨b, off, none⟩)) x H = match H.get b with | .cells true e c => (if x.cells.size = 1 ∧ isTup x = false ∧ off + 1 ≤ c.length then some (H.put b (.cells true e (setAll c off x.cells.toList))) else none) | _ => none := astore_sz sz129 b off x
theorem gr129 (H : Hp) (s x : Value) : aappend Tryd.prog 129 129 s x H = (acells 1 x (alenOf x) H).bind fun new => agrow2 5 1 1 s (alenOf x) new H := aappend_eq el129 if129 tk129 s x
theorem bs129 (len : Nat) (parts : List (Nat × Value)) (hl : len * 1 ≤ 16777216) : abuild Tryd.prog 129 len parts = if parts.all (fun p => !isTup p.2) then (afill (fun i => some (i * 1, 1)) (List.replicate len (Value.cells (.int .u8 0)).toList).flatten parts).map fun cs => (1, 5, cs) else none := abuild_eq el129 if129 zu129 rfl len parts hl
theorem ln129 (H : Hp) (p : Option Addr) (n c : Nat) : alen Tryd.prog 129 (.slice p n c) H = some (.int .i64 n) := alen_slice el129 p n c
theorem al145 (X : Outer) (ops : Array Oper) (dd : Option Tmp) (ty : TypeId) (pos : String) (af : Array Edge) (e : Env) (H : Hp) (K : Value → Hp → Prop) : Step Tryd.prog X ops ⟨dd, .alloc 145, ty, pos, af, none⟩ e H K = K (.pointer (some ⟨H.next, 0, none⟩)) (H.push (.cells true (bxT 145) [.pointer none, .slice none 0 0])) := Step_alloc zt145 rfl
theorem fa145_1 (ρ : Operand → Value) (H : Hp) (x : Operand) : lop Tryd.prog ρ H (.fieldAddr 145 x 1) = match ρ x with | .pointer (some a) => (if a.spot = none then some (.pointer (some ⟨a.block, a.off + 1, none⟩)) else none) | _ => none := lop_fieldAddr x 1 1 1 pl145_1 (by decide)
theorem fk31 : funcOk Tryd.prog 31 = true := by kernel_rfl
theorem fk32 : funcOk Tryd.prog 32 = true := by kernel_rfl
theorem fk33 : funcOk Tryd.prog 33 = true := by kernel_rfl
theorem fk34 : funcOk Tryd.prog 34 = true := by kernel_rfl
theorem fk50 : funcOk Tryd.prog 50 = true := by kernel_rfl
theorem fk51 : funcOk Tryd.prog 51 = true := by kernel_rfl
theorem fk52 : funcOk Tryd.prog 52 = true := by kernel_rfl
theorem fk53 : funcOk Tryd.prog 53 = true := by kernel_rfl
theorem fk54 : funcOk Tryd.prog 54 = true := by kernel_rfl
theorem fk62 : funcOk Tryd.prog 62 = true := by kernel_rfl
theorem fk64 : funcOk Tryd.prog 64 = true := by kernel_rfl
theorem fk65 : funcOk Tryd.prog 65 = true := by kernel_rfl
theorem fk66 : funcOk Tryd.prog 66 = true := by kernel_rfl
theorem fk71 : funcOk Tryd.prog 71 = true := by kernel_rfl
theorem fk83 : funcOk Tryd.prog 83 = true := by kernel_rfl
theorem fk84 : funcOk Tryd.prog 84 = true := by kernel_rfl
theorem fk85 : funcOk Tryd.prog 85 = true := by kernel_rfl
theorem fk87 : funcOk Tryd.prog 87 = true := by kernel_rfl
theorem fk92 : funcOk Tryd.prog 92 = true := by kernel_rfl
theorem fk93 : funcOk Tryd.prog 93 = true := by kernel_rfl
theorem fk96 : funcOk Tryd.prog 96 = true := by kernel_rfl
theorem fk98 : funcOk Tryd.prog 98 = true := by kernel_rfl
theorem fk105 : funcOk Tryd.prog 105 = true := by kernel_rfl
theorem fk118 : funcOk Tryd.prog 118 = true := by kernel_rfl
theorem fk144 : funcOk Tryd.prog 144 = true := by kernel_rfl
theorem fk145 : funcOk Tryd.prog 145 = true := by kernel_rfl
theorem fk146 : funcOk Tryd.prog 146 = true := by kernel_rfl
theorem fk147 : funcOk Tryd.prog 147 = true := by kernel_rfl
theorem fk148 : funcOk Tryd.prog 148 = true := by kernel_rfl
theorem fk149 : funcOk Tryd.prog 149 = true := by kernel_rfl
theorem fk150 : funcOk Tryd.prog 150 = true := by kernel_rfl
theorem fk151 : funcOk Tryd.prog 151 = true := by kernel_rfl
theorem fk152 : funcOk Tryd.prog 152 = true := by kernel_rfl
theorem fk155 : funcOk Tryd.prog 155 = true := by kernel_rfl
theorem fk170 : funcOk Tryd.prog 170 = true := by kernel_rfl
theorem fk172 : funcOk Tryd.prog 172 = true := by kernel_rfl
end Go.Proofs.YtmdpggecelheoaaDoor.Abs
