/- Facts of the program's types, printed by wip/tools/TG.lean. -/
import Derived.Test.YtliemjbafgnnbaaGreatDoorPA15
import Derived.Test.YtliemjbafgnnbaaGreatDoorProg
import Derived.KernelRfl
set_option linter.unusedVariables false
namespace Go.Proofs.YtliemjbafgnnbaaGreatDoor.Abs
open Go
theorem ag3 : isAggT Tryz.prog 3 = false := by kernel_rfl
theorem sz3 : szT Tryz.prog 3 = some 1 := by kernel_rfl
theorem kn3 : knownT Tryz.prog 3 = true := by kernel_rfl
theorem ag9 : isAggT Tryz.prog 9 = false := by kernel_rfl
theorem sz9 : szT Tryz.prog 9 = some 1 := by kernel_rfl
theorem kn9 : knownT Tryz.prog 9 = true := by kernel_rfl
theorem ag24 : isAggT Tryz.prog 24 = true := by kernel_rfl
theorem sz24 : szT Tryz.prog 24 = some 3 := by kernel_rfl
theorem zt24 : zeroT Tryz.prog 24 = some (.agg #[.int .i64 0, .int .i64 0, .string .empty]) := by kernel_rfl
theorem sd24 : sized Tryz.prog 24 = true := by kernel_rfl
theorem pl24_0 : place Tryz.prog 24 0 = some (0, 1) := by kernel_rfl
theorem ft24_0 : ftype Tryz.prog 24 0 = some 3 := by kernel_rfl
theorem pl24_1 : place Tryz.prog 24 1 = some (1, 1) := by kernel_rfl
theorem ft24_1 : ftype Tryz.prog 24 1 = some 3 := by kernel_rfl
theorem pl24_2 : place Tryz.prog 24 2 = some (2, 1) := by kernel_rfl
theorem ft24_2 : ftype Tryz.prog 24 2 = some 9 := by kernel_rfl
theorem ag26 : isAggT Tryz.prog 26 = true := by kernel_rfl
theorem sz26 : szT Tryz.prog 26 = some 3 := by kernel_rfl
theorem zt26 : zeroT Tryz.prog 26 = some (.agg #[.string .empty, .int .i64 0, .int .i64 0]) := by kernel_rfl
theorem sd26 : sized Tryz.prog 26 = true := by kernel_rfl
theorem pl26_0 : place Tryz.prog 26 0 = some (0, 1) := by kernel_rfl
theorem ft26_0 : ftype Tryz.prog 26 0 = some 9 := by kernel_rfl
theorem pl26_1 : place Tryz.prog 26 1 = some (1, 1) := by kernel_rfl
theorem ft26_1 : ftype Tryz.prog 26 1 = some 3 := by kernel_rfl
theorem pl26_2 : place Tryz.prog 26 2 = some (2, 1) := by kernel_rfl
theorem ft26_2 : ftype Tryz.prog 26 2 = some 3 := by kernel_rfl
theorem ag27 : isAggT Tryz.prog 27 = false := by kernel_rfl
theorem sz27 : szT Tryz.prog 27 = some 1 := by kernel_rfl
theorem kn27 : knownT Tryz.prog 27 = true := by kernel_rfl
theorem el27 : elemT Tryz.prog 27 = some 29 := by kernel_rfl
theorem if27 : infoT Tryz.prog 29 = some (13, 160) := by kernel_rfl
theorem tk27 : takesT Tryz.prog 27 = true := by kernel_rfl
theorem zu27 : zeroT Tryz.prog 29 = some (.agg #[.int .i64 0, .string .empty, .string .empty, .int .i64 0, .int .i64 0, .string .empty, .string .empty, .int .i64 0, .int .i64 0, .string .empty, .int .i64 0, .int .i64 0, .slice none 0 0]) := by kernel_rfl
theorem ag29 : isAggT Tryz.prog 29 = true := by kernel_rfl
theorem sz29 : szT Tryz.prog 29 = some 13 := by kernel_rfl
theorem zt29 : zeroT Tryz.prog 29 = some (.agg #[.int .i64 0, .string .empty, .string .empty, .int .i64 0, .int .i64 0, .string .empty, .string .empty, .int .i64 0, .int .i64 0, .string .empty, .int .i64 0, .int .i64 0, .slice none 0 0]) := by kernel_rfl
theorem sd29 : sized Tryz.prog 29 = true := by kernel_rfl
theorem pl29_0 : place Tryz.prog 29 0 = some (0, 1) := by kernel_rfl
theorem ft29_0 : ftype Tryz.prog 29 0 = some 3 := by kernel_rfl
theorem pl29_1 : place Tryz.prog 29 1 = some (1, 1) := by kernel_rfl
theorem ft29_1 : ftype Tryz.prog 29 1 = some 9 := by kernel_rfl
theorem pl29_2 : place Tryz.prog 29 2 = some (2, 1) := by kernel_rfl
theorem ft29_2 : ftype Tryz.prog 29 2 = some 9 := by kernel_rfl
theorem pl29_3 : place Tryz.prog 29 3 = some (3, 3) := by kernel_rfl
theorem ft29_3 : ftype Tryz.prog 29 3 = some 24 := by kernel_rfl
theorem pl29_4 : place Tryz.prog 29 4 = some (6, 3) := by kernel_rfl
theorem ft29_4 : ftype Tryz.prog 29 4 = some 26 := by kernel_rfl
theorem pl29_5 : place Tryz.prog 29 5 = some (9, 3) := by kernel_rfl
theorem ft29_5 : ftype Tryz.prog 29 5 = some 26 := by kernel_rfl
theorem pl29_6 : place Tryz.prog 29 6 = some (12, 1) := by kernel_rfl
theorem ft29_6 : ftype Tryz.prog 29 6 = some 27 := by kernel_rfl
theorem ag39 : isAggT Tryz.prog 39 = false := by kernel_rfl
theorem kn39 : knownT Tryz.prog 39 = true := by kernel_rfl
theorem el39 : elemT Tryz.prog 39 = some 57 := by kernel_rfl
theorem if39 : infoT Tryz.prog 57 = some (3, 32) := by kernel_rfl
theorem tk39 : takesT Tryz.prog 39 = true := by kernel_rfl
theorem zu39 : zeroT Tryz.prog 57 = some (.agg #[.int .i64 0, .int .i64 0, .string .empty]) := by kernel_rfl
theorem zt45 : zeroT Tryz.prog 45 = some (.agg #[.slice none 0 0, .int .i64 0, .int .i64 0, .string .empty, .int .i64 0]) := by kernel_rfl
theorem sd45 : sized Tryz.prog 45 = true := by kernel_rfl
theorem pl45_0 : place Tryz.prog 45 0 = some (0, 1) := by kernel_rfl
theorem ft45_0 : ftype Tryz.prog 45 0 = some 39 := by kernel_rfl
theorem pl45_1 : place Tryz.prog 45 1 = some (1, 1) := by kernel_rfl
theorem ft45_1 : ftype Tryz.prog 45 1 = some 3 := by kernel_rfl
theorem pl45_2 : place Tryz.prog 45 2 = some (2, 1) := by kernel_rfl
theorem ft45_2 : ftype Tryz.prog 45 2 = some 3 := by kernel_rfl
theorem pl45_3 : place Tryz.prog 45 3 = some (3, 1) := by kernel_rfl
theorem ft45_3 : ftype Tryz.prog 45 3 = some 9 := by kernel_rfl
theorem pl45_4 : place Tryz.prog 45 4 = some (4, 1) := by kernel_rfl
theorem ft45_4 : ftype Tryz.prog 45 4 = some 3 := by kernel_rfl
theorem zt53 : zeroT Tryz.prog 53 = some (.agg #[.slice none 0 0, .int .i64 0, .int .i64 0, .string .empty, .int .i64 0]) := by kernel_rfl
theorem sd53 : sized Tryz.prog 53 = true := by kernel_rfl
theorem pl53_0 : place Tryz.prog 53 0 = some (0, 1) := by kernel_rfl
theorem ft53_0 : ftype Tryz.prog 53 0 = some 39 := by kernel_rfl
theorem pl53_1 : place Tryz.prog 53 1 = some (1, 1) := by kernel_rfl
theorem ft53_1 : ftype Tryz.prog 53 1 = some 3 := by kernel_rfl
theorem pl53_2 : place Tryz.prog 53 2 = some (2, 1) := by kernel_rfl
theorem ft53_2 : ftype Tryz.prog 53 2 = some 3 := by kernel_rfl
theorem pl53_3 : place Tryz.prog 53 3 = some (3, 1) := by kernel_rfl
theorem ft53_3 : ftype Tryz.prog 53 3 = some 9 := by kernel_rfl
theorem pl53_4 : place Tryz.prog 53 4 = some (4, 1) := by kernel_rfl
theorem ft53_4 : ftype Tryz.prog 53 4 = some 3 := by kernel_rfl
theorem ag57 : isAggT Tryz.prog 57 = true := by kernel_rfl
theorem sz57 : szT Tryz.prog 57 = some 3 := by kernel_rfl
theorem zt57 : zeroT Tryz.prog 57 = some (.agg #[.int .i64 0, .int .i64 0, .string .empty]) := by kernel_rfl
theorem sd57 : sized Tryz.prog 57 = true := by kernel_rfl
theorem pl57_0 : place Tryz.prog 57 0 = some (0, 1) := by kernel_rfl
theorem ft57_0 : ftype Tryz.prog 57 0 = some 3 := by kernel_rfl
theorem pl57_1 : place Tryz.prog 57 1 = some (1, 1) := by kernel_rfl
theorem ft57_1 : ftype Tryz.prog 57 1 = some 3 := by kernel_rfl
theorem pl57_2 : place Tryz.prog 57 2 = some (2, 1) := by kernel_rfl
theorem ft57_2 : ftype Tryz.prog 57 2 = some 9 := by kernel_rfl
theorem el60 : elemT Tryz.prog 60 = some 65 := by kernel_rfl
theorem if60 : infoT Tryz.prog 65 = some (1, 24) := by kernel_rfl
theorem zu60 : zeroT Tryz.prog 65 = some (.slice none 0 0) := by kernel_rfl
theorem ag65 : isAggT Tryz.prog 65 = false := by kernel_rfl
theorem sz65 : szT Tryz.prog 65 = some 1 := by kernel_rfl
theorem kn65 : knownT Tryz.prog 65 = true := by kernel_rfl
theorem el65 : elemT Tryz.prog 65 = some 9 := by kernel_rfl
theorem if65 : infoT Tryz.prog 9 = some (1, 16) := by kernel_rfl
theorem zu65 : zeroT Tryz.prog 9 = some (.string .empty) := by kernel_rfl
theorem ag77 : isAggT Tryz.prog 77 = true := by kernel_rfl
theorem sz77 : szT Tryz.prog 77 = some 6 := by kernel_rfl
theorem zt77 : zeroT Tryz.prog 77 = some (.agg #[.string .empty, .int .i64 0, .int .i64 0, .string .empty, .int .i64 0, .int .i64 0]) := by kernel_rfl
theorem sd77 : sized Tryz.prog 77 = true := by kernel_rfl
theorem pl77_0 : place Tryz.prog 77 0 = some (0, 3) := by kernel_rfl
theorem ft77_0 : ftype Tryz.prog 77 0 = some 26 := by kernel_rfl
theorem pl77_1 : place Tryz.prog 77 1 = some (3, 3) := by kernel_rfl
theorem ft77_1 : ftype Tryz.prog 77 1 = some 26 := by kernel_rfl
theorem ag82 : isAggT Tryz.prog 82 = false := by kernel_rfl
theorem sz82 : szT Tryz.prog 82 = some 1 := by kernel_rfl
theorem kn82 : knownT Tryz.prog 82 = true := by kernel_rfl
theorem el82 : elemT Tryz.prog 82 = some 5 := by kernel_rfl
theorem if82 : infoT Tryz.prog 5 = some (1, 1) := by kernel_rfl
theorem tk82 : takesT Tryz.prog 82 = true := by kernel_rfl
theorem zu82 : zeroT Tryz.prog 5 = some (.int .u8 0) := by kernel_rfl
theorem zt84 : zeroT Tryz.prog 84 = some (.agg #[.pointer none, .slice none 0 0]) := by kernel_rfl
theorem pl84_1 : place Tryz.prog 84 1 = some (1, 1) := by kernel_rfl
theorem ln9 (H : Hp) (s : ByteArray) : alen Tryz.prog 9 (.string s) H = some (.int .i64 s.size) := zatf Tryz.underlying9 s
theorem ix9 (s : ByteArray) (k : IntKind) (j : Int) : aindex Tryz.prog 9 (.string s) (.int k j) = if 0 ≤ j then (s[j.toNat]?).map fun b => .int .u8 b.toNat else none := zate Tryz.underlying9 s k j
theorem bd24 (ρ : Operand → Value) (H : Hp) (parts : Array (Nat × Operand)) : lop Tryz.prog ρ H (.build 24 parts) = if parts.toList.all (fun p => !isTup (ρ p.2)) then (afill (place Tryz.prog 24) (Value.cells (.agg #[.int .i64 0, .int .i64 0, .string .empty])).toList (parts.toList.map fun p => (p.1, ρ p.2))).map fun cs => .agg cs.toArray else none := zaf5 parts _ zt24 sd24 rfl
theorem bd26 (ρ : Operand → Value) (H : Hp) (parts : Array (Nat × Operand)) : lop Tryz.prog ρ H (.build 26 parts) = if parts.toList.all (fun p => !isTup (ρ p.2)) then (afill (place Tryz.prog 26) (Value.cells (.agg #[.string .empty, .int .i64 0, .int .i64 0])).toList (parts.toList.map fun p => (p.1, ρ p.2))).map fun cs => .agg cs.toArray else none := zaf5 parts _ zt26 sd26 rfl
theorem bd29 (ρ : Operand → Value) (H : Hp) (parts : Array (Nat × Operand)) : lop Tryz.prog ρ H (.build 29 parts) = if parts.toList.all (fun p => !isTup (ρ p.2)) then (afill (place Tryz.prog 29) (Value.cells (.agg #[.int .i64 0, .string .empty, .string .empty, .int .i64 0, .int .i64 0, .string .empty, .string .empty, .int .i64 0, .int .i64 0, .string .empty, .int .i64 0, .int .i64 0, .slice none 0 0])).toList (parts.toList.map fun p => (p.1, ρ p.2))).map fun cs => .agg cs.toArray else none := zaf5 parts _ zt29 sd29 rfl
theorem bd45 (ρ : Operand → Value) (H : Hp) (parts : Array (Nat × Operand)) : lop Tryz.prog ρ H (.build 45 parts) = if parts.toList.all (fun p => !isTup (ρ p.2)) then (afill (place Tryz.prog 45) (Value.cells (.agg #[.slice none 0 0, .int .i64 0, .int .i64 0, .string .empty, .int .i64 0])).toList (parts.toList.map fun p => (p.1, ρ p.2))).map fun cs => .agg cs.toArray else none := zaf5 parts _ zt45 sd45 rfl
theorem bd53 (ρ : Operand → Value) (H : Hp) (parts : Array (Nat × Operand)) : lop Tryz.prog ρ H (.build 53 parts) = if parts.toList.all (fun p => !isTup (ρ p.2)) then (afill (place Tryz.prog 53) (Value.cells (.agg #[.slice none 0 0, .int .i64 0, .int .i64 0, .string .empty, .int .i64 0])).toList (parts.toList.map fun p => (p.1, ρ p.2))).map fun cs => .agg cs.toArray else none := zaf5 parts _ zt53 sd53 rfl
theorem bd57 (ρ : Operand → Value) (H : Hp) (parts : Array (Nat × Operand)) : lop Tryz.prog ρ H (.build 57 parts) = if parts.toList.all (fun p => !isTup (ρ p.2)) then (afill (place Tryz.prog 57) (Value.cells (.agg #[.int .i64 0, .int .i64 0, .string .empty])).toList (parts.toList.map fun p => (p.1, ρ p.2))).map fun cs => .agg cs.toArray else none := zaf5 parts _ zt57 sd57 rfl
theorem bd77 (ρ : Operand → Value) (H : Hp) (parts : Array (Nat × Operand)) : lop Tryz.prog ρ H (.build 77 parts) = if parts.toList.all (fun p => !isTup (ρ p.2)) then (afill (place Tryz.prog 77) (Value.cells (.agg #[.string .empty, .int .i64 0, .int .i64 0, .string .empty, .int .i64 0, .int .i64 0])).toList (parts.toList.map fun p => (p.1, ρ p.2))).map fun cs => .agg cs.toArray else none := zaf5 parts _ zt77 sd77 rfl
theorem ld82 (H : Hp) (a : Addr) : aload Tryz.prog 82 (.pointer (some a)) H = cellAt H a := zath ag82 kn82 a
theorem so82 (H : Hp) (b off : Nat) (x : Value) : astore Tryz.prog 82 (.pointer (some ⟨b, off, none⟩)) x H = match H.get b with | .cells true e c => (if x.cells.size = 1 ∧ isTup x = false ∧ off + 1 ≤ c.length then some (H.put b (.cells true e (setAll c off x.cells.toList))) else none) | _ => none := zaxb sz82 b off x
theorem gr82 (H : Hp) (s x : Value) : aappend Tryz.prog 82 82 s x H = (acells 1 x (alenOf x) H).bind fun new => agrow2 5 1 1 s (alenOf x) new H := zamx el82 if82 tk82 s x
theorem bs82 (len : Nat) (parts : List (Nat × Value)) (hl : len * 1 ≤ 16777216) : abuild Tryz.prog 82 len parts = if parts.all (fun p => !isTup p.2) then (afill (fun i => some (i * 1, 1)) (List.replicate len (Value.cells (.int .u8 0)).toList).flatten parts).map fun cs => (1, 5, cs) else none := zapu el82 if82 zu82 rfl len parts hl
theorem ln82 (H : Hp) (p : Option Addr) (n c : Nat) : alen Tryz.prog 82 (.slice p n c) H = some (.int .i64 n) := zahx el82 p n c
theorem al84 (X : Outer) (ops : Array Oper) (dd : Option Tmp) (ty : TypeId) (pos : String) (af : Array Edge) (e : Env) (H : Hp) (K : Value → Hp → Prop) : Step Tryz.prog X ops ⟨dd, .alloc 84, ty, pos, af, none⟩ e H K = K (.pointer (some ⟨H.next, 0, none⟩)) (H.push (.cells true (bxT 84) [.pointer none, .slice none 0 0])) := Step_alloc zt84 rfl
theorem fa84_1 (ρ : Operand → Value) (H : Hp) (x : Operand) : lop Tryz.prog ρ H (.fieldAddr 84 x 1) = match ρ x with | .pointer (some a) => (if a.spot = none then some (.pointer (some ⟨a.block, a.off + 1, none⟩)) else none) | _ => none := zani x 1 1 1 pl84_1 (by decide)
theorem fk4 : funcOk Tryz.prog 4 = true := by kernel_rfl
theorem fk5 : funcOk Tryz.prog 5 = true := by kernel_rfl
theorem fk6 : funcOk Tryz.prog 6 = true := by kernel_rfl
theorem fk7 : funcOk Tryz.prog 7 = true := by kernel_rfl
theorem fk8 : funcOk Tryz.prog 8 = true := by kernel_rfl
theorem fk9 : funcOk Tryz.prog 9 = true := by kernel_rfl
theorem fk10 : funcOk Tryz.prog 10 = true := by kernel_rfl
theorem fk11 : funcOk Tryz.prog 11 = true := by kernel_rfl
theorem fk12 : funcOk Tryz.prog 12 = true := by kernel_rfl
theorem fk13 : funcOk Tryz.prog 13 = true := by kernel_rfl
theorem fk14 : funcOk Tryz.prog 14 = true := by kernel_rfl
theorem fk15 : funcOk Tryz.prog 15 = true := by kernel_rfl
theorem fk16 : funcOk Tryz.prog 16 = true := by kernel_rfl
theorem fk17 : funcOk Tryz.prog 17 = true := by kernel_rfl
theorem fk18 : funcOk Tryz.prog 18 = true := by kernel_rfl
theorem fk19 : funcOk Tryz.prog 19 = true := by kernel_rfl
theorem fk20 : funcOk Tryz.prog 20 = true := by kernel_rfl
theorem fk21 : funcOk Tryz.prog 21 = true := by kernel_rfl
theorem fk22 : funcOk Tryz.prog 22 = true := by kernel_rfl
theorem fk23 : funcOk Tryz.prog 23 = true := by kernel_rfl
theorem fk24 : funcOk Tryz.prog 24 = true := by kernel_rfl
theorem fk25 : funcOk Tryz.prog 25 = true := by kernel_rfl
theorem fk26 : funcOk Tryz.prog 26 = true := by kernel_rfl
theorem fk27 : funcOk Tryz.prog 27 = true := by kernel_rfl
theorem fk28 : funcOk Tryz.prog 28 = true := by kernel_rfl
theorem fk29 : funcOk Tryz.prog 29 = true := by kernel_rfl
theorem fk30 : funcOk Tryz.prog 30 = true := by kernel_rfl
theorem fk31 : funcOk Tryz.prog 31 = true := by kernel_rfl
theorem fk32 : funcOk Tryz.prog 32 = true := by kernel_rfl
theorem fk33 : funcOk Tryz.prog 33 = true := by kernel_rfl
theorem fk34 : funcOk Tryz.prog 34 = true := by kernel_rfl
theorem fk35 : funcOk Tryz.prog 35 = true := by kernel_rfl
theorem fk36 : funcOk Tryz.prog 36 = true := by kernel_rfl
theorem fk37 : funcOk Tryz.prog 37 = true := by kernel_rfl
theorem fk38 : funcOk Tryz.prog 38 = true := by kernel_rfl
theorem fk39 : funcOk Tryz.prog 39 = true := by kernel_rfl
theorem fk40 : funcOk Tryz.prog 40 = true := by kernel_rfl
theorem fk41 : funcOk Tryz.prog 41 = true := by kernel_rfl
theorem fk42 : funcOk Tryz.prog 42 = true := by kernel_rfl
theorem fk43 : funcOk Tryz.prog 43 = true := by kernel_rfl
theorem fk44 : funcOk Tryz.prog 44 = true := by kernel_rfl
theorem fk45 : funcOk Tryz.prog 45 = true := by kernel_rfl
theorem fk46 : funcOk Tryz.prog 46 = true := by kernel_rfl
theorem fk47 : funcOk Tryz.prog 47 = true := by kernel_rfl
theorem fk48 : funcOk Tryz.prog 48 = true := by kernel_rfl
theorem fk49 : funcOk Tryz.prog 49 = true := by kernel_rfl
theorem fk50 : funcOk Tryz.prog 50 = true := by kernel_rfl
theorem fk51 : funcOk Tryz.prog 51 = true := by kernel_rfl
theorem fk52 : funcOk Tryz.prog 52 = true := by kernel_rfl
theorem fk53 : funcOk Tryz.prog 53 = true := by kernel_rfl
theorem fk54 : funcOk Tryz.prog 54 = true := by kernel_rfl
theorem fk55 : funcOk Tryz.prog 55 = true := by kernel_rfl
theorem fk56 : funcOk Tryz.prog 56 = true := by kernel_rfl
theorem fk57 : funcOk Tryz.prog 57 = true := by kernel_rfl
theorem fk58 : funcOk Tryz.prog 58 = true := by kernel_rfl
theorem fk59 : funcOk Tryz.prog 59 = true := by kernel_rfl
theorem fk60 : funcOk Tryz.prog 60 = true := by kernel_rfl
theorem fk61 : funcOk Tryz.prog 61 = true := by kernel_rfl
theorem fk62 : funcOk Tryz.prog 62 = true := by kernel_rfl
theorem fk63 : funcOk Tryz.prog 63 = true := by kernel_rfl
theorem fk64 : funcOk Tryz.prog 64 = true := by kernel_rfl
theorem fk65 : funcOk Tryz.prog 65 = true := by kernel_rfl
theorem fk66 : funcOk Tryz.prog 66 = true := by kernel_rfl
theorem fk67 : funcOk Tryz.prog 67 = true := by kernel_rfl
theorem fk68 : funcOk Tryz.prog 68 = true := by kernel_rfl
theorem fk71 : funcOk Tryz.prog 71 = true := by kernel_rfl
theorem fk72 : funcOk Tryz.prog 72 = true := by kernel_rfl
theorem fk73 : funcOk Tryz.prog 73 = true := by kernel_rfl
theorem fk74 : funcOk Tryz.prog 74 = true := by kernel_rfl
theorem fk75 : funcOk Tryz.prog 75 = true := by kernel_rfl
theorem fk76 : funcOk Tryz.prog 76 = true := by kernel_rfl
theorem fk77 : funcOk Tryz.prog 77 = true := by kernel_rfl
theorem fk78 : funcOk Tryz.prog 78 = true := by kernel_rfl
theorem fk79 : funcOk Tryz.prog 79 = true := by kernel_rfl
theorem fk80 : funcOk Tryz.prog 80 = true := by kernel_rfl
theorem fk88 : funcOk Tryz.prog 88 = true := by kernel_rfl
theorem fk89 : funcOk Tryz.prog 89 = true := by kernel_rfl
theorem fk93 : funcOk Tryz.prog 93 = true := by kernel_rfl
theorem fk94 : funcOk Tryz.prog 94 = true := by kernel_rfl
theorem fk95 : funcOk Tryz.prog 95 = true := by kernel_rfl
theorem fk96 : funcOk Tryz.prog 96 = true := by kernel_rfl
end Go.Proofs.YtliemjbafgnnbaaGreatDoor.Abs
