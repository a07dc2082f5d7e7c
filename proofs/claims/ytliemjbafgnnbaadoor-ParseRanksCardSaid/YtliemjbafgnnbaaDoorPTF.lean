/- Facts of the program's types, printed by wip/tools/TG.lean. -/
import Derived.Test.YtliemjbafgnnbaaDoorPA15
import Derived.Test.YtliemjbafgnnbaaDoorProg
import Derived.KernelRfl
set_option maxHeartbeats 0
set_option linter.unusedVariables false
namespace Go.Proofs.YtliemjbafgnnbaaDoor.Abs
open Go
theorem ag3 : isAggT Tryd.prog 3 = false := by kernel_rfl
theorem sz3 : szT Tryd.prog 3 = some 1 := by kernel_rfl
theorem kn3 : knownT Tryd.prog 3 = true := by kernel_rfl
theorem ag9 : isAggT Tryd.prog 9 = false := by kernel_rfl
theorem sz9 : szT Tryd.prog 9 = some 1 := by kernel_rfl
theorem kn9 : knownT Tryd.prog 9 = true := by kernel_rfl
theorem ag23 : isAggT Tryd.prog 23 = false := by kernel_rfl
theorem sz23 : szT Tryd.prog 23 = some 1 := by kernel_rfl
theorem kn23 : knownT Tryd.prog 23 = true := by kernel_rfl
theorem el23 : elemT Tryd.prog 23 = some 9 := by kernel_rfl
theorem if23 : infoT Tryd.prog 9 = some (1, 16) := by kernel_rfl
theorem zu23 : zeroT Tryd.prog 9 = some (.string .empty) := by kernel_rfl
theorem el24 : elemT Tryd.prog 24 = some 3 := by kernel_rfl
theorem if24 : infoT Tryd.prog 3 = some (1, 8) := by kernel_rfl
theorem zu24 : zeroT Tryd.prog 3 = some (.int .i64 0) := by kernel_rfl
theorem ag26 : isAggT Tryd.prog 26 = true := by kernel_rfl
theorem sz26 : szT Tryd.prog 26 = some 3 := by kernel_rfl
theorem zt26 : zeroT Tryd.prog 26 = some (.agg #[.int .i64 0, .int .i64 0, .string .empty]) := by kernel_rfl
theorem sd26 : sized Tryd.prog 26 = true := by kernel_rfl
theorem pl26_0 : place Tryd.prog 26 0 = some (0, 1) := by kernel_rfl
theorem pl26_1 : place Tryd.prog 26 1 = some (1, 1) := by kernel_rfl
theorem pl26_2 : place Tryd.prog 26 2 = some (2, 1) := by kernel_rfl
theorem ag28 : isAggT Tryd.prog 28 = true := by kernel_rfl
theorem sz28 : szT Tryd.prog 28 = some 3 := by kernel_rfl
theorem zt28 : zeroT Tryd.prog 28 = some (.agg #[.string .empty, .int .i64 0, .int .i64 0]) := by kernel_rfl
theorem sd28 : sized Tryd.prog 28 = true := by kernel_rfl
theorem pl28_0 : place Tryd.prog 28 0 = some (0, 1) := by kernel_rfl
theorem ft28_0 : ftype Tryd.prog 28 0 = some 9 := by kernel_rfl
theorem pl28_1 : place Tryd.prog 28 1 = some (1, 1) := by kernel_rfl
theorem ft28_1 : ftype Tryd.prog 28 1 = some 3 := by kernel_rfl
theorem pl28_2 : place Tryd.prog 28 2 = some (2, 1) := by kernel_rfl
theorem ft28_2 : ftype Tryd.prog 28 2 = some 3 := by kernel_rfl
theorem ag29 : isAggT Tryd.prog 29 = false := by kernel_rfl
theorem sz29 : szT Tryd.prog 29 = some 1 := by kernel_rfl
theorem kn29 : knownT Tryd.prog 29 = true := by kernel_rfl
theorem el29 : elemT Tryd.prog 29 = some 31 := by kernel_rfl
theorem if29 : infoT Tryd.prog 31 = some (13, 160) := by kernel_rfl
theorem tk29 : takesT Tryd.prog 29 = true := by kernel_rfl
theorem zu29 : zeroT Tryd.prog 31 = some (.agg #[.int .i64 0, .string .empty, .string .empty, .int .i64 0, .int .i64 0, .string .empty, .string .empty, .int .i64 0, .int .i64 0, .string .empty, .int .i64 0, .int .i64 0, .slice none 0 0]) := by kernel_rfl
theorem ag31 : isAggT Tryd.prog 31 = true := by kernel_rfl
theorem sz31 : szT Tryd.prog 31 = some 13 := by kernel_rfl
theorem zt31 : zeroT Tryd.prog 31 = some (.agg #[.int .i64 0, .string .empty, .string .empty, .int .i64 0, .int .i64 0, .string .empty, .string .empty, .int .i64 0, .int .i64 0, .string .empty, .int .i64 0, .int .i64 0, .slice none 0 0]) := by kernel_rfl
theorem sd31 : sized Tryd.prog 31 = true := by kernel_rfl
theorem pl31_0 : place Tryd.prog 31 0 = some (0, 1) := by kernel_rfl
theorem ft31_0 : ftype Tryd.prog 31 0 = some 3 := by kernel_rfl
theorem pl31_1 : place Tryd.prog 31 1 = some (1, 1) := by kernel_rfl
theorem ft31_1 : ftype Tryd.prog 31 1 = some 9 := by kernel_rfl
theorem pl31_2 : place Tryd.prog 31 2 = some (2, 1) := by kernel_rfl
theorem ft31_2 : ftype Tryd.prog 31 2 = some 9 := by kernel_rfl
theorem pl31_3 : place Tryd.prog 31 3 = some (3, 3) := by kernel_rfl
theorem ft31_3 : ftype Tryd.prog 31 3 = some 26 := by kernel_rfl
theorem pl31_4 : place Tryd.prog 31 4 = some (6, 3) := by kernel_rfl
theorem ft31_4 : ftype Tryd.prog 31 4 = some 28 := by kernel_rfl
theorem pl31_5 : place Tryd.prog 31 5 = some (9, 3) := by kernel_rfl
theorem ft31_5 : ftype Tryd.prog 31 5 = some 28 := by kernel_rfl
theorem pl31_6 : place Tryd.prog 31 6 = some (12, 1) := by kernel_rfl
theorem ft31_6 : ftype Tryd.prog 31 6 = some 29 := by kernel_rfl
theorem ag38 : isAggT Tryd.prog 38 = false := by kernel_rfl
theorem kn38 : knownT Tryd.prog 38 = true := by kernel_rfl
theorem el38 : elemT Tryd.prog 38 = some 49 := by kernel_rfl
theorem if38 : infoT Tryd.prog 49 = some (3, 32) := by kernel_rfl
theorem tk38 : takesT Tryd.prog 38 = true := by kernel_rfl
theorem zu38 : zeroT Tryd.prog 49 = some (.agg #[.int .i64 0, .int .i64 0, .string .empty]) := by kernel_rfl
theorem zt44 : zeroT Tryd.prog 44 = some (.agg #[.slice none 0 0, .int .i64 0, .int .i64 0, .string .empty, .int .i64 0]) := by kernel_rfl
theorem sd44 : sized Tryd.prog 44 = true := by kernel_rfl
theorem pl44_0 : place Tryd.prog 44 0 = some (0, 1) := by kernel_rfl
theorem ft44_0 : ftype Tryd.prog 44 0 = some 38 := by kernel_rfl
theorem pl44_1 : place Tryd.prog 44 1 = some (1, 1) := by kernel_rfl
theorem ft44_1 : ftype Tryd.prog 44 1 = some 3 := by kernel_rfl
theorem pl44_2 : place Tryd.prog 44 2 = some (2, 1) := by kernel_rfl
theorem ft44_2 : ftype Tryd.prog 44 2 = some 3 := by kernel_rfl
theorem pl44_3 : place Tryd.prog 44 3 = some (3, 1) := by kernel_rfl
theorem ft44_3 : ftype Tryd.prog 44 3 = some 9 := by kernel_rfl
theorem pl44_4 : place Tryd.prog 44 4 = some (4, 1) := by kernel_rfl
theorem ft44_4 : ftype Tryd.prog 44 4 = some 3 := by kernel_rfl
theorem ag49 : isAggT Tryd.prog 49 = true := by kernel_rfl
theorem sz49 : szT Tryd.prog 49 = some 3 := by kernel_rfl
theorem zt49 : zeroT Tryd.prog 49 = some (.agg #[.int .i64 0, .int .i64 0, .string .empty]) := by kernel_rfl
theorem sd49 : sized Tryd.prog 49 = true := by kernel_rfl
theorem pl49_0 : place Tryd.prog 49 0 = some (0, 1) := by kernel_rfl
theorem ft49_0 : ftype Tryd.prog 49 0 = some 3 := by kernel_rfl
theorem pl49_1 : place Tryd.prog 49 1 = some (1, 1) := by kernel_rfl
theorem ft49_1 : ftype Tryd.prog 49 1 = some 3 := by kernel_rfl
theorem pl49_2 : place Tryd.prog 49 2 = some (2, 1) := by kernel_rfl
theorem ft49_2 : ftype Tryd.prog 49 2 = some 9 := by kernel_rfl
theorem el52 : elemT Tryd.prog 52 = some 23 := by kernel_rfl
theorem if52 : infoT Tryd.prog 23 = some (1, 24) := by kernel_rfl
theorem zu52 : zeroT Tryd.prog 23 = some (.slice none 0 0) := by kernel_rfl
theorem ag66 : isAggT Tryd.prog 66 = false := by kernel_rfl
theorem sz66 : szT Tryd.prog 66 = some 1 := by kernel_rfl
theorem kn66 : knownT Tryd.prog 66 = true := by kernel_rfl
theorem el66 : elemT Tryd.prog 66 = some 5 := by kernel_rfl
theorem if66 : infoT Tryd.prog 5 = some (1, 1) := by kernel_rfl
theorem tk66 : takesT Tryd.prog 66 = true := by kernel_rfl
theorem zu66 : zeroT Tryd.prog 5 = some (.int .u8 0) := by kernel_rfl
theorem zt68 : zeroT Tryd.prog 68 = some (.agg #[.pointer none, .slice none 0 0]) := by kernel_rfl
theorem pl68_1 : place Tryd.prog 68 1 = some (1, 1) := by kernel_rfl
theorem ag86 : isAggT Tryd.prog 86 = true := by kernel_rfl
theorem sz86 : szT Tryd.prog 86 = some 6 := by kernel_rfl
theorem zt86 : zeroT Tryd.prog 86 = some (.agg #[.string .empty, .int .i64 0, .int .i64 0, .string .empty, .int .i64 0, .int .i64 0]) := by kernel_rfl
theorem sd86 : sized Tryd.prog 86 = true := by kernel_rfl
theorem pl86_0 : place Tryd.prog 86 0 = some (0, 3) := by kernel_rfl
theorem ft86_0 : ftype Tryd.prog 86 0 = some 28 := by kernel_rfl
theorem pl86_1 : place Tryd.prog 86 1 = some (3, 3) := by kernel_rfl
theorem ft86_1 : ftype Tryd.prog 86 1 = some 28 := by kernel_rfl
theorem ln9 (H : Hp) (s : ByteArray) : alen Tryd.prog 9 (.string s) H = some (.int .i64 s.size) := zare Tryd.underlying9 s
theorem ix9 (s : ByteArray) (k : IntKind) (j : Int) : aindex Tryd.prog 9 (.string s) (.int k j) = if 0 ≤ j then (s[j.toNat]?).map fun b => .int .u8 b.toNat else none := zard Tryd.underlying9 s k j
theorem bd26 (ρ : Operand → Value) (H : Hp) (parts : Array (Nat × Operand)) : lop Tryd.prog ρ H (.build 26 parts) = if parts.toList.all (fun p => !isTup (ρ p.2)) then (afill (place Tryd.prog 26) (Value.cells (.agg #[.int .i64 0, .int .i64 0, .string .empty])).toList (parts.toList.map fun p => (p.1, ρ p.2))).map fun cs => .agg cs.toArray else none := zagf parts _ zt26 sd26 rfl
theorem bd28 (ρ : Operand → Value) (H : Hp) (parts : Array (Nat × Operand)) : lop Tryd.prog ρ H (.build 28 parts) = if parts.toList.all (fun p => !isTup (ρ p.2)) then (afill (place Tryd.prog 28) (Value.cells (.agg #[.string .empty, .int .i64 0, .int .i64 0])).toList (parts.toList.map fun p => (p.1, ρ p.2))).map fun cs => .agg cs.toArray else none := zagf parts _ zt28 sd28 rfl
theorem bd31 (ρ : Operand → Value) (H : Hp) (parts : Array (Nat × Operand)) : lop Tryd.prog ρ H (.build 31 parts) = if parts.toList.all (fun p => !isTup (ρ p.2)) then (afill (place Tryd.prog 31) (Value.cells (.agg #[.int .i64 0, .string .empty, .string .empty, .int .i64 0, .int .i64 0, .string .empty, .string .empty, .int .i64 0, .int .i64 0, .string .empty, .int .i64 0, .int .i64 0, .slice none 0 0])).toList (parts.toList.map fun p => (p.1, ρ p.2))).map fun cs => .agg cs.toArray else none := zagf parts _ zt31 sd31 rfl
theorem bd44 (ρ : Operand → Value) (H : Hp) (parts : Array (Nat × Operand)) : lop Tryd.prog ρ H (.build 44 parts) = if parts.toList.all (fun p => !isTup (ρ p.2)) then (afill (place Tryd.prog 44) (Value.cells (.agg #[.slice none 0 0, .int .i64 0, .int .i64 0, .string .empty, .int .i64 0])).toList (parts.toList.map fun p => (p.1, ρ p.2))).map fun cs => .agg cs.toArray else none := zagf parts _ zt44 sd44 rfl
theorem bd49 (ρ : Operand → Value) (H : Hp) (parts : Array (Nat × Operand)) : lop Tryd.prog ρ H (.build 49 parts) = if parts.toList.all (fun p => !isTup (ρ p.2)) then (afill (place Tryd.prog 49) (Value.cells (.agg #[.int .i64 0, .int .i64 0, .string .empty])).toList (parts.toList.map fun p => (p.1, ρ p.2))).map fun cs => .agg cs.toArray else none := zagf parts _ zt49 sd49 rfl
theorem ld66 (H : Hp) (a : Addr) : aload Tryd.prog 66 (.pointer (some a)) H = cellAt H a := zarg ag66 kn66 a
theorem so66 (H : Hp) (b off : Nat) (x : Value) : astore Tryd.prog 66 (.pointer (some ⟨b, off, none⟩)) x H = match H.get b with | .cells true e c => (if x.cells.size = 1 ∧ isTup x = false ∧ off + 1 ≤ c.length then some (H.put b (.cells true e (setAll c off x.cells.toList))) else none) | _ => none := zauu sz66 b off x
theorem gr66 (H : Hp) (s x : Value) : aappend Tryd.prog 66 66 s x H = (acells 1 x (alenOf x) H).bind fun new => agrow2 5 1 1 s (alenOf x) new H := zald el66 if66 tk66 s x
theorem bs66 (len : Nat) (parts : List (Nat × Value)) (hl : len * 1 ≤ 16777216) : abuild Tryd.prog 66 len parts = if parts.all (fun p => !isTup p.2) then (afill (fun i => some (i * 1, 1)) (List.replicate len (Value.cells (.int .u8 0)).toList).flatten parts).map fun cs => (1, 5, cs) else none := zan0 el66 if66 zu66 rfl len parts hl
theorem ln66 (H : Hp) (p : Option Addr) (n c : Nat) : alen Tryd.prog 66 (.slice p n c) H = some (.int .i64 n) := zag5 el66 p n c
theorem al68 (X : Outer) (ops : Array Oper) (dd : Option Tmp) (ty : TypeId) (pos : String) (af : Array Edge) (e : Env) (H : Hp) (K : Value → Hp → Prop) : Step Tryd.prog X ops ⟨dd, .alloc 68, ty, pos, af, none⟩ e H K = K (.pointer (some ⟨H.next, 0, none⟩)) (H.push (.cells true (bxT 68) [.pointer none, .slice none 0 0])) := Step_alloc zt68 rfl
theorem fa68_1 (ρ : Operand → Value) (H : Hp) (x : Operand) : lop Tryd.prog ρ H (.fieldAddr 68 x 1) = match ρ x with | .pointer (some a) => (if a.spot = none then some (.pointer (some ⟨a.block, a.off + 1, none⟩)) else none) | _ => none := zalw x 1 1 1 pl68_1 (by decide)
theorem bd86 (ρ : Operand → Value) (H : Hp) (parts : Array (Nat × Operand)) : lop Tryd.prog ρ H (.build 86 parts) = if parts.toList.all (fun p => !isTup (ρ p.2)) then (afill (place Tryd.prog 86) (Value.cells (.agg #[.string .empty, .int .i64 0, .int .i64 0, .string .empty, .int .i64 0, .int .i64 0])).toList (parts.toList.map fun p => (p.1, ρ p.2))).map fun cs => .agg cs.toArray else none := zagf parts _ zt86 sd86 rfl
theorem fk4 : funcOk Tryd.prog 4 = true := by kernel_rfl
theorem fk5 : funcOk Tryd.prog 5 = true := by kernel_rfl
theorem fk6 : funcOk Tryd.prog 6 = true := by kernel_rfl
theorem fk7 : funcOk Tryd.prog 7 = true := by kernel_rfl
theorem fk8 : funcOk Tryd.prog 8 = true := by kernel_rfl
theorem fk9 : funcOk Tryd.prog 9 = true := by kernel_rfl
theorem fk10 : funcOk Tryd.prog 10 = true := by kernel_rfl
theorem fk11 : funcOk Tryd.prog 11 = true := by kernel_rfl
theorem fk12 : funcOk Tryd.prog 12 = true := by kernel_rfl
theorem fk13 : funcOk Tryd.prog 13 = true := by kernel_rfl
theorem fk14 : funcOk Tryd.prog 14 = true := by kernel_rfl
theorem fk15 : funcOk Tryd.prog 15 = true := by kernel_rfl
theorem fk16 : funcOk Tryd.prog 16 = true := by kernel_rfl
theorem fk17 : funcOk Tryd.prog 17 = true := by kernel_rfl
theorem fk18 : funcOk Tryd.prog 18 = true := by kernel_rfl
theorem fk19 : funcOk Tryd.prog 19 = true := by kernel_rfl
theorem fk20 : funcOk Tryd.prog 20 = true := by kernel_rfl
theorem fk21 : funcOk Tryd.prog 21 = true := by kernel_rfl
theorem fk22 : funcOk Tryd.prog 22 = true := by kernel_rfl
theorem fk23 : funcOk Tryd.prog 23 = true := by kernel_rfl
theorem fk24 : funcOk Tryd.prog 24 = true := by kernel_rfl
theorem fk25 : funcOk Tryd.prog 25 = true := by kernel_rfl
theorem fk26 : funcOk Tryd.prog 26 = true := by kernel_rfl
theorem fk27 : funcOk Tryd.prog 27 = true := by kernel_rfl
theorem fk28 : funcOk Tryd.prog 28 = true := by kernel_rfl
theorem fk29 : funcOk Tryd.prog 29 = true := by kernel_rfl
theorem fk30 : funcOk Tryd.prog 30 = true := by kernel_rfl
theorem fk31 : funcOk Tryd.prog 31 = true := by kernel_rfl
theorem fk32 : funcOk Tryd.prog 32 = true := by kernel_rfl
theorem fk33 : funcOk Tryd.prog 33 = true := by kernel_rfl
theorem fk34 : funcOk Tryd.prog 34 = true := by kernel_rfl
theorem fk35 : funcOk Tryd.prog 35 = true := by kernel_rfl
theorem fk36 : funcOk Tryd.prog 36 = true := by kernel_rfl
theorem fk37 : funcOk Tryd.prog 37 = true := by kernel_rfl
theorem fk38 : funcOk Tryd.prog 38 = true := by kernel_rfl
theorem fk39 : funcOk Tryd.prog 39 = true := by kernel_rfl
theorem fk40 : funcOk Tryd.prog 40 = true := by kernel_rfl
theorem fk43 : funcOk Tryd.prog 43 = true := by kernel_rfl
theorem fk44 : funcOk Tryd.prog 44 = true := by kernel_rfl
theorem fk45 : funcOk Tryd.prog 45 = true := by kernel_rfl
theorem fk46 : funcOk Tryd.prog 46 = true := by kernel_rfl
theorem fk47 : funcOk Tryd.prog 47 = true := by kernel_rfl
theorem fk48 : funcOk Tryd.prog 48 = true := by kernel_rfl
theorem fk56 : funcOk Tryd.prog 56 = true := by kernel_rfl
theorem fk57 : funcOk Tryd.prog 57 = true := by kernel_rfl
theorem fk61 : funcOk Tryd.prog 61 = true := by kernel_rfl
theorem fk62 : funcOk Tryd.prog 62 = true := by kernel_rfl
theorem fk63 : funcOk Tryd.prog 63 = true := by kernel_rfl
theorem fk64 : funcOk Tryd.prog 64 = true := by kernel_rfl
end Go.Proofs.YtliemjbafgnnbaaDoor.Abs
